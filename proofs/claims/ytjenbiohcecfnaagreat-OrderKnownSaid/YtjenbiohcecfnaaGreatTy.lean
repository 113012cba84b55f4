/-
  The types of this program, a lemma each (printed by a program).
-/
import Derived.Test.YtjenbiohcecfnaaGreatProg
import Derived.Test.YtjenbiohcecfnaaGreatAb20
import Derived.KernelRfl
namespace Go.Proofs.YtjenbiohcecfnaaGreat
open Go.Ab
set_option maxRecDepth 100000
noncomputable def T : Tr TI := tab (tyOf Tryz.prog) 204
theorem tyOK : TyOK Tryz.prog T := tyOK_of Tryz.prog 204
theorem mixed : Tryz.prog.follows .mixedOrders = true := by kernel_rfl
theorem ty0 : T.get 0 = some ⟨1, 0, .tuple #[], some (.tuple #[])⟩ := by kernel_rfl
theorem ty1 : T.get 1 = some ⟨1, 8, .func #[] #[] false, some .nilFunc⟩ := by kernel_rfl
theorem ty2 : T.get 2 = some ⟨1, 8, .int (.i64), some (.int .i64 0)⟩ := by kernel_rfl
theorem ty3 : T.get 3 = some ⟨1, 8, .int (.i64), some (.int .i64 0)⟩ := by kernel_rfl
theorem ty4 : T.get 4 = some ⟨1, 1, .bool, some (.bool false)⟩ := by kernel_rfl
theorem ty5 : T.get 5 = some ⟨1, 1, .int (.u8), some (.int .u8 0)⟩ := by kernel_rfl
theorem ty6 : T.get 6 = some ⟨1, 1, .int (.u8), some (.int .u8 0)⟩ := by kernel_rfl
theorem ty9 : T.get 9 = some ⟨1, 16, .string, some (.string ⟨#[]⟩)⟩ := by kernel_rfl
theorem ty10 : T.get 10 = some ⟨1, 16, .string, some (.string ⟨#[]⟩)⟩ := by kernel_rfl
theorem ty11 : T.get 11 = some ⟨1, 16, .string, some (.string ⟨#[]⟩)⟩ := by kernel_rfl
theorem ty12 : T.get 12 = some ⟨1, 8, .int (.u64), some (.int .u64 0)⟩ := by kernel_rfl
theorem ty15 : T.get 15 = some ⟨1, 8, .pointer 189, some (.pointer none)⟩ := by kernel_rfl
theorem ty16 : T.get 16 = some ⟨1, 8, .pointer 192, some (.pointer none)⟩ := by kernel_rfl
theorem ty17 : T.get 17 = some ⟨1, 8, .pointer 201, some (.pointer none)⟩ := by kernel_rfl
theorem ty20 : T.get 20 = some ⟨1, 16, .interface #[], some .nilIface⟩ := by kernel_rfl
theorem ty21 : T.get 21 = some ⟨1, 4, .int (.i32), some (.int .i32 0)⟩ := by kernel_rfl
theorem ty22 : T.get 22 = some ⟨1, 8, .pointer 107, some (.pointer none)⟩ := by kernel_rfl
theorem ty23 : T.get 23 = some ⟨1, 8, .pointer 100, some (.pointer none)⟩ := by kernel_rfl
theorem ty24 : T.get 24 = some ⟨1, 0, .tuple #[22, 23], some (.tuple #[(.pointer none), (.pointer none)])⟩ := by kernel_rfl
theorem ty25 : T.get 25 = some ⟨1, 8, .func #[] #[22, 23] false, some .nilFunc⟩ := by kernel_rfl
theorem ty26 : T.get 26 = some ⟨1, 8, .int (.i64), some (.int .i64 0)⟩ := by kernel_rfl
theorem ty27 : T.get 27 = some ⟨1, 8, .int (.u64), some (.int .u64 0)⟩ := by kernel_rfl
theorem ty28 : T.get 28 = some ⟨7, 64, .struct #[{ name := "Fetch", type := 4, offset := 0, embedded := false, tag := "", pkgPath := "", byteOffset := 0 }, { name := "Err", type := 26, offset := 1, embedded := false, tag := "", pkgPath := "", byteOffset := 8 }, { name := "Found", type := 4, offset := 2, embedded := false, tag := "", pkgPath := "", byteOffset := 16 }, { name := "Val", type := 9, offset := 3, embedded := false, tag := "", pkgPath := "", byteOffset := 24 }, { name := "Hang", type := 27, offset := 4, embedded := false, tag := "", pkgPath := "", byteOffset := 40 }, { name := "Need", type := 27, offset := 5, embedded := false, tag := "", pkgPath := "", byteOffset := 48 }, { name := "Over", type := 27, offset := 6, embedded := false, tag := "", pkgPath := "", byteOffset := 56 }], some (.agg #[(.bool false), (.int .i64 0), (.bool false), (.string ⟨#[]⟩), (.int .u64 0), (.int .u64 0), (.int .u64 0)])⟩ := by kernel_rfl
theorem ty29 : T.get 29 = some ⟨7, 64, .struct #[{ name := "Fetch", type := 4, offset := 0, embedded := false, tag := "", pkgPath := "", byteOffset := 0 }, { name := "Err", type := 26, offset := 1, embedded := false, tag := "", pkgPath := "", byteOffset := 8 }, { name := "Found", type := 4, offset := 2, embedded := false, tag := "", pkgPath := "", byteOffset := 16 }, { name := "Val", type := 9, offset := 3, embedded := false, tag := "", pkgPath := "", byteOffset := 24 }, { name := "Hang", type := 27, offset := 4, embedded := false, tag := "", pkgPath := "", byteOffset := 40 }, { name := "Need", type := 27, offset := 5, embedded := false, tag := "", pkgPath := "", byteOffset := 48 }, { name := "Over", type := 27, offset := 6, embedded := false, tag := "", pkgPath := "", byteOffset := 56 }], some (.agg #[(.bool false), (.int .i64 0), (.bool false), (.string ⟨#[]⟩), (.int .u64 0), (.int .u64 0), (.int .u64 0)])⟩ := by kernel_rfl
theorem ty30 : T.get 30 = some ⟨1, 8, .func #[22, 27, 9, 27] #[29] false, some .nilFunc⟩ := by kernel_rfl
theorem ty31 : T.get 31 = some ⟨1, 8, .func #[22, 23, 27, 33] #[29] false, some .nilFunc⟩ := by kernel_rfl
theorem ty32 : T.get 32 = some ⟨4, 48, .struct #[{ name := "Key", type := 9, offset := 0, embedded := false, tag := "", pkgPath := "", byteOffset := 0 }, { name := "Lsn", type := 27, offset := 1, embedded := false, tag := "", pkgPath := "", byteOffset := 16 }, { name := "Del", type := 4, offset := 2, embedded := false, tag := "", pkgPath := "", byteOffset := 24 }, { name := "Val", type := 9, offset := 3, embedded := false, tag := "", pkgPath := "", byteOffset := 32 }], some (.agg #[(.string ⟨#[]⟩), (.int .u64 0), (.bool false), (.string ⟨#[]⟩)])⟩ := by kernel_rfl
theorem ty33 : T.get 33 = some ⟨4, 48, .struct #[{ name := "Key", type := 9, offset := 0, embedded := false, tag := "", pkgPath := "", byteOffset := 0 }, { name := "Lsn", type := 27, offset := 1, embedded := false, tag := "", pkgPath := "", byteOffset := 16 }, { name := "Del", type := 4, offset := 2, embedded := false, tag := "", pkgPath := "", byteOffset := 24 }, { name := "Val", type := 9, offset := 3, embedded := false, tag := "", pkgPath := "", byteOffset := 32 }], some (.agg #[(.string ⟨#[]⟩), (.int .u64 0), (.bool false), (.string ⟨#[]⟩)])⟩ := by kernel_rfl
theorem ty34 : T.get 34 = some ⟨1, 24, .slice 49, some (.slice none 0 0)⟩ := by kernel_rfl
theorem ty35 : T.get 35 = some ⟨4, 56, .struct #[{ name := "Key", type := 9, offset := 0, embedded := false, tag := "", pkgPath := "", byteOffset := 0 }, { name := "Rts", type := 27, offset := 1, embedded := false, tag := "", pkgPath := "", byteOffset := 16 }, { name := "Here", type := 4, offset := 2, embedded := false, tag := "", pkgPath := "", byteOffset := 24 }, { name := "Vers", type := 34, offset := 3, embedded := false, tag := "", pkgPath := "", byteOffset := 32 }], some (.agg #[(.string ⟨#[]⟩), (.int .u64 0), (.bool false), (.slice none 0 0)])⟩ := by kernel_rfl
theorem ty36 : T.get 36 = some ⟨4, 56, .struct #[{ name := "Key", type := 9, offset := 0, embedded := false, tag := "", pkgPath := "", byteOffset := 0 }, { name := "Rts", type := 27, offset := 1, embedded := false, tag := "", pkgPath := "", byteOffset := 16 }, { name := "Here", type := 4, offset := 2, embedded := false, tag := "", pkgPath := "", byteOffset := 24 }, { name := "Vers", type := 34, offset := 3, embedded := false, tag := "", pkgPath := "", byteOffset := 32 }], some (.agg #[(.string ⟨#[]⟩), (.int .u64 0), (.bool false), (.slice none 0 0)])⟩ := by kernel_rfl
theorem ty37 : T.get 37 = some ⟨1, 0, .tuple #[36, 4], some (.tuple #[(.agg #[(.string ⟨#[]⟩), (.int .u64 0), (.bool false), (.slice none 0 0)]), (.bool false)])⟩ := by kernel_rfl
theorem ty38 : T.get 38 = some ⟨1, 8, .func #[9] #[36, 4] false, some .nilFunc⟩ := by kernel_rfl
theorem ty39 : T.get 39 = some ⟨1, 24, .slice 45, some (.slice none 0 0)⟩ := by kernel_rfl
theorem ty40 : T.get 40 = some ⟨1, 24, .slice 27, some (.slice none 0 0)⟩ := by kernel_rfl
theorem ty41 : T.get 41 = some ⟨1, 0, .tuple #[39, 40, 27], some (.tuple #[(.slice none 0 0), (.slice none 0 0), (.int .u64 0)])⟩ := by kernel_rfl
theorem ty42 : T.get 42 = some ⟨1, 8, .func #[22, 27, 9, 9, 43, 27] #[39, 40, 27] false, some .nilFunc⟩ := by kernel_rfl
theorem ty43 : T.get 43 = some ⟨1, 24, .slice 33, some (.slice none 0 0)⟩ := by kernel_rfl
theorem ty44 : T.get 44 = some ⟨2, 32, .struct #[{ name := "Key", type := 9, offset := 0, embedded := false, tag := "", pkgPath := "", byteOffset := 0 }, { name := "Val", type := 9, offset := 1, embedded := false, tag := "", pkgPath := "", byteOffset := 16 }], some (.agg #[(.string ⟨#[]⟩), (.string ⟨#[]⟩)])⟩ := by kernel_rfl
theorem ty45 : T.get 45 = some ⟨2, 32, .struct #[{ name := "Key", type := 9, offset := 0, embedded := false, tag := "", pkgPath := "", byteOffset := 0 }, { name := "Val", type := 9, offset := 1, embedded := false, tag := "", pkgPath := "", byteOffset := 16 }], some (.agg #[(.string ⟨#[]⟩), (.string ⟨#[]⟩)])⟩ := by kernel_rfl
theorem ty46 : T.get 46 = some ⟨1, 8, .func #[9, 9, 27] #[] false, some .nilFunc⟩ := by kernel_rfl
theorem ty47 : T.get 47 = some ⟨1, 8, .func #[36] #[26] false, some .nilFunc⟩ := by kernel_rfl
theorem ty48 : T.get 48 = some ⟨5, 48, .struct #[{ name := "Ts", type := 27, offset := 0, embedded := false, tag := "", pkgPath := "", byteOffset := 0 }, { name := "Lsn", type := 27, offset := 1, embedded := false, tag := "", pkgPath := "", byteOffset := 8 }, { name := "Del", type := 4, offset := 2, embedded := false, tag := "", pkgPath := "", byteOffset := 16 }, { name := "Val", type := 9, offset := 3, embedded := false, tag := "", pkgPath := "", byteOffset := 24 }, { name := "Acked", type := 4, offset := 4, embedded := false, tag := "", pkgPath := "", byteOffset := 40 }], some (.agg #[(.int .u64 0), (.int .u64 0), (.bool false), (.string ⟨#[]⟩), (.bool false)])⟩ := by kernel_rfl
theorem ty49 : T.get 49 = some ⟨5, 48, .struct #[{ name := "Ts", type := 27, offset := 0, embedded := false, tag := "", pkgPath := "", byteOffset := 0 }, { name := "Lsn", type := 27, offset := 1, embedded := false, tag := "", pkgPath := "", byteOffset := 8 }, { name := "Del", type := 4, offset := 2, embedded := false, tag := "", pkgPath := "", byteOffset := 16 }, { name := "Val", type := 9, offset := 3, embedded := false, tag := "", pkgPath := "", byteOffset := 24 }, { name := "Acked", type := 4, offset := 4, embedded := false, tag := "", pkgPath := "", byteOffset := 40 }], some (.agg #[(.int .u64 0), (.int .u64 0), (.bool false), (.string ⟨#[]⟩), (.bool false)])⟩ := by kernel_rfl
theorem ty50 : T.get 50 = some ⟨1, 8, .func #[] #[4] false, some .nilFunc⟩ := by kernel_rfl
theorem ty51 : T.get 51 = some ⟨1, 24, .slice 115, some (.slice none 0 0)⟩ := by kernel_rfl
theorem ty52 : T.get 52 = some ⟨1, 24, .slice 61, some (.slice none 0 0)⟩ := by kernel_rfl
theorem ty53 : T.get 53 = some ⟨2, 48, .array 2 52, some (.agg #[(.slice none 0 0), (.slice none 0 0)])⟩ := by kernel_rfl
theorem ty54 : T.get 54 = some ⟨3, 3, .array 3 5, some (.agg #[(.int .u8 0), (.int .u8 0), (.int .u8 0)])⟩ := by kernel_rfl
theorem ty55 : T.get 55 = some ⟨1, 8, .pointer 110, some (.pointer none)⟩ := by kernel_rfl
theorem ty56 : T.get 56 = some ⟨1, 0, .tuple #[22, 55], some (.tuple #[(.pointer none), (.pointer none)])⟩ := by kernel_rfl
theorem ty57 : T.get 57 = some ⟨1, 8, .func #[51, 5] #[22, 55] false, some .nilFunc⟩ := by kernel_rfl
theorem ty58 : T.get 58 = some ⟨1, 8, .func #[3] #[23] false, some .nilFunc⟩ := by kernel_rfl
theorem ty59 : T.get 59 = some ⟨1, 8, .func #[22, 23, 61, 27] #[] false, some .nilFunc⟩ := by kernel_rfl
theorem ty60 : T.get 60 = some ⟨8, 48, .struct #[{ name := "What", type := 3, offset := 0, embedded := false, tag := "", pkgPath := "", byteOffset := 0 }, { name := "Ts", type := 5, offset := 1, embedded := false, tag := "", pkgPath := "", byteOffset := 8 }, { name := "A", type := 5, offset := 2, embedded := false, tag := "", pkgPath := "", byteOffset := 9 }, { name := "B", type := 5, offset := 3, embedded := false, tag := "", pkgPath := "", byteOffset := 10 }, { name := "Del", type := 4, offset := 4, embedded := false, tag := "", pkgPath := "", byteOffset := 11 }, { name := "Val", type := 5, offset := 5, embedded := false, tag := "", pkgPath := "", byteOffset := 12 }, { name := "Said", type := 43, offset := 6, embedded := false, tag := "", pkgPath := "", byteOffset := 16 }, { name := "Stable", type := 5, offset := 7, embedded := false, tag := "", pkgPath := "", byteOffset := 40 }], some (.agg #[(.int .i64 0), (.int .u8 0), (.int .u8 0), (.int .u8 0), (.bool false), (.int .u8 0), (.slice none 0 0), (.int .u8 0)])⟩ := by kernel_rfl
theorem ty61 : T.get 61 = some ⟨8, 48, .struct #[{ name := "What", type := 3, offset := 0, embedded := false, tag := "", pkgPath := "", byteOffset := 0 }, { name := "Ts", type := 5, offset := 1, embedded := false, tag := "", pkgPath := "", byteOffset := 8 }, { name := "A", type := 5, offset := 2, embedded := false, tag := "", pkgPath := "", byteOffset := 9 }, { name := "B", type := 5, offset := 3, embedded := false, tag := "", pkgPath := "", byteOffset := 10 }, { name := "Del", type := 4, offset := 4, embedded := false, tag := "", pkgPath := "", byteOffset := 11 }, { name := "Val", type := 5, offset := 5, embedded := false, tag := "", pkgPath := "", byteOffset := 12 }, { name := "Said", type := 43, offset := 6, embedded := false, tag := "", pkgPath := "", byteOffset := 16 }, { name := "Stable", type := 5, offset := 7, embedded := false, tag := "", pkgPath := "", byteOffset := 40 }], some (.agg #[(.int .i64 0), (.int .u8 0), (.int .u8 0), (.int .u8 0), (.bool false), (.int .u8 0), (.slice none 0 0), (.int .u8 0)])⟩ := by kernel_rfl
theorem ty62 : T.get 62 = some ⟨1, 8, .func #[5] #[9] false, some .nilFunc⟩ := by kernel_rfl
theorem ty63 : T.get 63 = some ⟨1, 8, .func #[51, 53, 54] #[4] false, some .nilFunc⟩ := by kernel_rfl
theorem ty64 : T.get 64 = some ⟨1, 8, .func #[3] #[22] false, some .nilFunc⟩ := by kernel_rfl
theorem ty65 : T.get 65 = some ⟨1, 8, .func #[9, 27] #[] false, some .nilFunc⟩ := by kernel_rfl
theorem ty66 : T.get 66 = some ⟨1, 0, .tuple #[49, 4], some (.tuple #[(.agg #[(.int .u64 0), (.int .u64 0), (.bool false), (.string ⟨#[]⟩), (.bool false)]), (.bool false)])⟩ := by kernel_rfl
theorem ty67 : T.get 67 = some ⟨1, 8, .func #[34, 27] #[49, 4] false, some .nilFunc⟩ := by kernel_rfl
theorem ty68 : T.get 68 = some ⟨1, 8, .func #[49, 27, 27] #[29] false, some .nilFunc⟩ := by kernel_rfl
theorem ty69 : T.get 69 = some ⟨1, 8, .func #[9] #[27] false, some .nilFunc⟩ := by kernel_rfl
theorem ty70 : T.get 70 = some ⟨1, 8, .func #[34] #[49, 4] false, some .nilFunc⟩ := by kernel_rfl
theorem ty71 : T.get 71 = some ⟨1, 8, .func #[123] #[4] true, some .nilFunc⟩ := by kernel_rfl
theorem ty72 : T.get 72 = some ⟨1, 0, .tuple #[34, 26], some (.tuple #[(.slice none 0 0), (.int .i64 0)])⟩ := by kernel_rfl
theorem ty73 : T.get 73 = some ⟨1, 8, .func #[34, 49] #[34, 26] false, some .nilFunc⟩ := by kernel_rfl
theorem ty74 : T.get 74 = some ⟨1, 8, .func #[49] #[4] false, some .nilFunc⟩ := by kernel_rfl
theorem ty75 : T.get 75 = some ⟨1, 8, .pointer 77, some (.pointer none)⟩ := by kernel_rfl
theorem ty76 : T.get 76 = some ⟨1, 8, .func #[9] #[75] false, some .nilFunc⟩ := by kernel_rfl
theorem ty77 : T.get 77 = some ⟨1, 8, .pointer 79, some (.pointer none)⟩ := by kernel_rfl
theorem ty78 : T.get 78 = some ⟨5, 64, .struct #[{ name := "Row", type := 36, offset := 0, embedded := true, tag := "", pkgPath := "", byteOffset := 0 }, { name := "next", type := 77, offset := 4, embedded := false, tag := "", pkgPath := "couplet/table", byteOffset := 56 }], some (.agg #[(.string ⟨#[]⟩), (.int .u64 0), (.bool false), (.slice none 0 0), (.pointer none)])⟩ := by kernel_rfl
theorem ty79 : T.get 79 = some ⟨5, 64, .struct #[{ name := "Row", type := 36, offset := 0, embedded := true, tag := "", pkgPath := "", byteOffset := 0 }, { name := "next", type := 77, offset := 4, embedded := false, tag := "", pkgPath := "couplet/table", byteOffset := 56 }], some (.agg #[(.string ⟨#[]⟩), (.int .u64 0), (.bool false), (.slice none 0 0), (.pointer none)])⟩ := by kernel_rfl
theorem ty80 : T.get 80 = some ⟨1, 8, .func #[34] #[34] false, some .nilFunc⟩ := by kernel_rfl
theorem ty81 : T.get 81 = some ⟨1, 8, .map 9 45, some (.map none)⟩ := by kernel_rfl
theorem ty82 : T.get 82 = some ⟨1, 8, .func #[130] #[] false, some .nilFunc⟩ := by kernel_rfl
theorem ty83 : T.get 83 = some ⟨1, 8, .func #[130] #[] false, some .nilFunc⟩ := by kernel_rfl
theorem ty84 : T.get 84 = some ⟨1, 8, .func #[43] #[83] false, some .nilFunc⟩ := by kernel_rfl
theorem ty85 : T.get 85 = some ⟨1, 24, .slice 9, some (.slice none 0 0)⟩ := by kernel_rfl
theorem ty86 : T.get 86 = some ⟨1, 8, .func #[9, 9] #[85] false, some .nilFunc⟩ := by kernel_rfl
theorem ty87 : T.get 87 = some ⟨1, 8, .func #[89] #[85] false, some .nilFunc⟩ := by kernel_rfl
theorem ty88 : T.get 88 = some ⟨1, 8, .func #[103] #[] false, some .nilFunc⟩ := by kernel_rfl
theorem ty89 : T.get 89 = some ⟨1, 8, .func #[103] #[] false, some .nilFunc⟩ := by kernel_rfl
theorem ty90 : T.get 90 = some ⟨1, 8, .func #[81] #[89] false, some .nilFunc⟩ := by kernel_rfl
theorem ty91 : T.get 91 = some ⟨1, 8, .func #[40] #[] false, some .nilFunc⟩ := by kernel_rfl
theorem ty92 : T.get 92 = some ⟨1, 8, .func #[40] #[40] false, some .nilFunc⟩ := by kernel_rfl
theorem ty93 : T.get 93 = some ⟨1, 8, .func #[97] #[] false, some .nilFunc⟩ := by kernel_rfl
theorem ty94 : T.get 94 = some ⟨2, 32, .struct #[{ name := "lo", type := 9, offset := 0, embedded := false, tag := "", pkgPath := "couplet/span", byteOffset := 0 }, { name := "hi", type := 9, offset := 1, embedded := false, tag := "", pkgPath := "couplet/span", byteOffset := 16 }], some (.agg #[(.string ⟨#[]⟩), (.string ⟨#[]⟩)])⟩ := by kernel_rfl
theorem ty95 : T.get 95 = some ⟨2, 32, .struct #[{ name := "lo", type := 9, offset := 0, embedded := false, tag := "", pkgPath := "couplet/span", byteOffset := 0 }, { name := "hi", type := 9, offset := 1, embedded := false, tag := "", pkgPath := "couplet/span", byteOffset := 16 }], some (.agg #[(.string ⟨#[]⟩), (.string ⟨#[]⟩)])⟩ := by kernel_rfl
theorem ty96 : T.get 96 = some ⟨3, 40, .struct #[{ name := "within", type := 95, offset := 0, embedded := true, tag := "", pkgPath := "couplet/span", byteOffset := 0 }, { name := "ts", type := 27, offset := 2, embedded := false, tag := "", pkgPath := "couplet/span", byteOffset := 32 }], some (.agg #[(.string ⟨#[]⟩), (.string ⟨#[]⟩), (.int .u64 0)])⟩ := by kernel_rfl
theorem ty97 : T.get 97 = some ⟨3, 40, .struct #[{ name := "within", type := 95, offset := 0, embedded := true, tag := "", pkgPath := "couplet/span", byteOffset := 0 }, { name := "ts", type := 27, offset := 2, embedded := false, tag := "", pkgPath := "couplet/span", byteOffset := 32 }], some (.agg #[(.string ⟨#[]⟩), (.string ⟨#[]⟩), (.int .u64 0)])⟩ := by kernel_rfl
theorem ty98 : T.get 98 = some ⟨1, 24, .slice 97, some (.slice none 0 0)⟩ := by kernel_rfl
theorem ty99 : T.get 99 = some ⟨2, 32, .struct #[{ name := "most", type := 3, offset := 0, embedded := false, tag := "", pkgPath := "couplet/span", byteOffset := 0 }, { name := "l", type := 98, offset := 1, embedded := false, tag := "", pkgPath := "couplet/span", byteOffset := 8 }], some (.agg #[(.int .i64 0), (.slice none 0 0)])⟩ := by kernel_rfl
theorem ty100 : T.get 100 = some ⟨2, 32, .struct #[{ name := "most", type := 3, offset := 0, embedded := false, tag := "", pkgPath := "couplet/span", byteOffset := 0 }, { name := "l", type := 98, offset := 1, embedded := false, tag := "", pkgPath := "couplet/span", byteOffset := 8 }], some (.agg #[(.int .i64 0), (.slice none 0 0)])⟩ := by kernel_rfl
theorem ty101 : T.get 101 = some ⟨1, 8, .func #[98, 3, 3] #[98] false, some .nilFunc⟩ := by kernel_rfl
theorem ty102 : T.get 102 = some ⟨1, 8, .func #[9, 9] #[3] false, some .nilFunc⟩ := by kernel_rfl
theorem ty103 : T.get 103 = some ⟨1, 8, .func #[9] #[4] false, some .nilFunc⟩ := by kernel_rfl
theorem ty104 : T.get 104 = some ⟨1, 8, .func #[34] #[4] false, some .nilFunc⟩ := by kernel_rfl
theorem ty105 : T.get 105 = some ⟨1, 24, .slice 77, some (.slice none 0 0)⟩ := by kernel_rfl
theorem ty106 : T.get 106 = some ⟨3, 40, .struct #[{ name := "slices", type := 105, offset := 0, embedded := false, tag := "", pkgPath := "couplet/table", byteOffset := 0 }, { name := "floor", type := 27, offset := 1, embedded := false, tag := "", pkgPath := "couplet/table", byteOffset := 24 }, { name := "rows", type := 3, offset := 2, embedded := false, tag := "", pkgPath := "couplet/table", byteOffset := 32 }], some (.agg #[(.slice none 0 0), (.int .u64 0), (.int .i64 0)])⟩ := by kernel_rfl
theorem ty107 : T.get 107 = some ⟨3, 40, .struct #[{ name := "slices", type := 105, offset := 0, embedded := false, tag := "", pkgPath := "couplet/table", byteOffset := 0 }, { name := "floor", type := 27, offset := 1, embedded := false, tag := "", pkgPath := "couplet/table", byteOffset := 24 }, { name := "rows", type := 3, offset := 2, embedded := false, tag := "", pkgPath := "couplet/table", byteOffset := 32 }], some (.agg #[(.slice none 0 0), (.int .u64 0), (.int .i64 0)])⟩ := by kernel_rfl
theorem ty108 : T.get 108 = some ⟨1, 24, .slice 112, some (.slice none 0 0)⟩ := by kernel_rfl
theorem ty109 : T.get 109 = some ⟨2, 32, .struct #[{ name := "L", type := 108, offset := 0, embedded := false, tag := "", pkgPath := "", byteOffset := 0 }, { name := "Floor", type := 27, offset := 1, embedded := false, tag := "", pkgPath := "", byteOffset := 24 }], some (.agg #[(.slice none 0 0), (.int .u64 0)])⟩ := by kernel_rfl
theorem ty110 : T.get 110 = some ⟨2, 32, .struct #[{ name := "L", type := 108, offset := 0, embedded := false, tag := "", pkgPath := "", byteOffset := 0 }, { name := "Floor", type := 27, offset := 1, embedded := false, tag := "", pkgPath := "", byteOffset := 24 }], some (.agg #[(.slice none 0 0), (.int .u64 0)])⟩ := by kernel_rfl
theorem ty111 : T.get 111 = some ⟨1, 8, .func #[9] #[26] false, some .nilFunc⟩ := by kernel_rfl
theorem ty112 : T.get 112 = some ⟨4, 56, .struct #[{ name := "Key", type := 9, offset := 0, embedded := false, tag := "", pkgPath := "", byteOffset := 0 }, { name := "Rts", type := 27, offset := 1, embedded := false, tag := "", pkgPath := "", byteOffset := 16 }, { name := "Here", type := 4, offset := 2, embedded := false, tag := "", pkgPath := "", byteOffset := 24 }, { name := "Vers", type := 34, offset := 3, embedded := false, tag := "", pkgPath := "", byteOffset := 32 }], some (.agg #[(.string ⟨#[]⟩), (.int .u64 0), (.bool false), (.slice none 0 0)])⟩ := by kernel_rfl
theorem ty113 : T.get 113 = some ⟨1, 24, .slice 140, some (.slice none 0 0)⟩ := by kernel_rfl
theorem ty114 : T.get 114 = some ⟨4, 32, .struct #[{ name := "Key", type := 5, offset := 0, embedded := false, tag := "", pkgPath := "", byteOffset := 0 }, { name := "Rts", type := 5, offset := 1, embedded := false, tag := "", pkgPath := "", byteOffset := 1 }, { name := "Here", type := 4, offset := 2, embedded := false, tag := "", pkgPath := "", byteOffset := 2 }, { name := "Vers", type := 113, offset := 3, embedded := false, tag := "", pkgPath := "", byteOffset := 8 }], some (.agg #[(.int .u8 0), (.int .u8 0), (.bool false), (.slice none 0 0)])⟩ := by kernel_rfl
theorem ty115 : T.get 115 = some ⟨4, 32, .struct #[{ name := "Key", type := 5, offset := 0, embedded := false, tag := "", pkgPath := "", byteOffset := 0 }, { name := "Rts", type := 5, offset := 1, embedded := false, tag := "", pkgPath := "", byteOffset := 1 }, { name := "Here", type := 4, offset := 2, embedded := false, tag := "", pkgPath := "", byteOffset := 2 }, { name := "Vers", type := 113, offset := 3, embedded := false, tag := "", pkgPath := "", byteOffset := 8 }], some (.agg #[(.int .u8 0), (.int .u8 0), (.bool false), (.slice none 0 0)])⟩ := by kernel_rfl
theorem ty116 : T.get 116 = some ⟨1, 8, .func #[113] #[34] false, some .nilFunc⟩ := by kernel_rfl
theorem ty117 : T.get 117 = some ⟨1, 8, .func #[5, 4] #[9] false, some .nilFunc⟩ := by kernel_rfl
theorem ty118 : T.get 118 = some ⟨1, 24, .slice 5, some (.slice none 0 0)⟩ := by kernel_rfl
theorem ty119 : T.get 119 = some ⟨1, 8, .func #[34, 74] #[49, 4] false, some .nilFunc⟩ := by kernel_rfl
theorem ty120 : T.get 120 = some ⟨1, 8, .func #[141] #[] false, some .nilFunc⟩ := by kernel_rfl
theorem ty121 : T.get 121 = some ⟨1, 8, .func #[141] #[] false, some .nilFunc⟩ := by kernel_rfl
theorem ty122 : T.get 122 = some ⟨1, 8, .func #[9] #[121] false, some .nilFunc⟩ := by kernel_rfl
theorem ty123 : T.get 123 = some ⟨1, 24, .slice 50, some (.slice none 0 0)⟩ := by kernel_rfl
theorem ty124 : T.get 124 = some ⟨1, 8, .func #[123, 125] #[4] false, some .nilFunc⟩ := by kernel_rfl
theorem ty125 : T.get 125 = some ⟨1, 8, .func #[50] #[4] false, some .nilFunc⟩ := by kernel_rfl
theorem ty126 : T.get 126 = some ⟨1, 8, .func #[34, 143] #[34] true, some .nilFunc⟩ := by kernel_rfl
theorem ty127 : T.get 127 = some ⟨1, 8, .func #[145] #[] false, some .nilFunc⟩ := by kernel_rfl
theorem ty128 : T.get 128 = some ⟨1, 8, .func #[145] #[] false, some .nilFunc⟩ := by kernel_rfl
theorem ty129 : T.get 129 = some ⟨1, 8, .func #[75] #[128] false, some .nilFunc⟩ := by kernel_rfl
theorem ty130 : T.get 130 = some ⟨1, 8, .func #[3, 33] #[4] false, some .nilFunc⟩ := by kernel_rfl
theorem ty131 : T.get 131 = some ⟨1, 8, .func #[85] #[] false, some .nilFunc⟩ := by kernel_rfl
theorem ty132 : T.get 132 = some ⟨1, 8, .func #[40, 3, 3, 3] #[] false, some .nilFunc⟩ := by kernel_rfl
theorem ty133 : T.get 133 = some ⟨1, 8, .func #[134] #[3] false, some .nilFunc⟩ := by kernel_rfl
theorem ty134 : T.get 134 = some ⟨1, 8, .int (.u64), some (.int .u64 0)⟩ := by kernel_rfl
theorem ty135 : T.get 135 = some ⟨1, 0, .tuple #[3, 4], some (.tuple #[(.int .i64 0), (.bool false)])⟩ := by kernel_rfl
theorem ty136 : T.get 136 = some ⟨1, 8, .func #[98, 95, 137] #[3, 4] false, some .nilFunc⟩ := by kernel_rfl
theorem ty137 : T.get 137 = some ⟨1, 8, .func #[97, 95] #[3] false, some .nilFunc⟩ := by kernel_rfl
theorem ty138 : T.get 138 = some ⟨1, 8, .func #[98, 3, 98] #[98] true, some .nilFunc⟩ := by kernel_rfl
theorem ty139 : T.get 139 = some ⟨5, 5, .struct #[{ name := "Far", type := 5, offset := 0, embedded := false, tag := "", pkgPath := "", byteOffset := 0 }, { name := "Lsn", type := 5, offset := 1, embedded := false, tag := "", pkgPath := "", byteOffset := 1 }, { name := "Del", type := 4, offset := 2, embedded := false, tag := "", pkgPath := "", byteOffset := 2 }, { name := "Val", type := 5, offset := 3, embedded := false, tag := "", pkgPath := "", byteOffset := 3 }, { name := "Base", type := 4, offset := 4, embedded := false, tag := "", pkgPath := "", byteOffset := 4 }], some (.agg #[(.int .u8 0), (.int .u8 0), (.bool false), (.int .u8 0), (.bool false)])⟩ := by kernel_rfl
theorem ty140 : T.get 140 = some ⟨5, 5, .struct #[{ name := "Far", type := 5, offset := 0, embedded := false, tag := "", pkgPath := "", byteOffset := 0 }, { name := "Lsn", type := 5, offset := 1, embedded := false, tag := "", pkgPath := "", byteOffset := 1 }, { name := "Del", type := 4, offset := 2, embedded := false, tag := "", pkgPath := "", byteOffset := 2 }, { name := "Val", type := 5, offset := 3, embedded := false, tag := "", pkgPath := "", byteOffset := 3 }, { name := "Base", type := 4, offset := 4, embedded := false, tag := "", pkgPath := "", byteOffset := 4 }], some (.agg #[(.int .u8 0), (.int .u8 0), (.bool false), (.int .u8 0), (.bool false)])⟩ := by kernel_rfl
theorem ty141 : T.get 141 = some ⟨1, 8, .func #[27] #[4] false, some .nilFunc⟩ := by kernel_rfl
theorem ty142 : T.get 142 = some ⟨1, 8, .func #[123, 125] #[3] false, some .nilFunc⟩ := by kernel_rfl
theorem ty143 : T.get 143 = some ⟨1, 24, .slice 74, some (.slice none 0 0)⟩ := by kernel_rfl
theorem ty144 : T.get 144 = some ⟨1, 8, .func #[34, 74] #[34] false, some .nilFunc⟩ := by kernel_rfl
theorem ty145 : T.get 145 = some ⟨1, 8, .func #[75] #[4] false, some .nilFunc⟩ := by kernel_rfl
theorem ty146 : T.get 146 = some ⟨1, 8, .func #[85, 3, 3, 3] #[] false, some .nilFunc⟩ := by kernel_rfl
theorem ty147 : T.get 147 = some ⟨1, 8, .func #[85, 89] #[85] false, some .nilFunc⟩ := by kernel_rfl
theorem ty148 : T.get 148 = some ⟨1, 8, .func #[40, 3, 3] #[] false, some .nilFunc⟩ := by kernel_rfl
theorem ty149 : T.get 149 = some ⟨1, 8, .int (.i64), some (.int .i64 0)⟩ := by kernel_rfl
theorem ty150 : T.get 150 = some ⟨1, 0, .tuple #[3, 149], some (.tuple #[(.int .i64 0), (.int .i64 0)])⟩ := by kernel_rfl
theorem ty151 : T.get 151 = some ⟨1, 8, .func #[40, 3, 3] #[3, 149] false, some .nilFunc⟩ := by kernel_rfl
theorem ty152 : T.get 152 = some ⟨1, 8, .func #[40, 3, 3] #[4] false, some .nilFunc⟩ := by kernel_rfl
theorem ty153 : T.get 153 = some ⟨1, 8, .func #[27, 27] #[4] false, some .nilFunc⟩ := by kernel_rfl
theorem ty154 : T.get 154 = some ⟨1, 8, .func #[40, 3, 3, 3] #[3] false, some .nilFunc⟩ := by kernel_rfl
theorem ty155 : T.get 155 = some ⟨1, 8, .func #[40, 3, 3, 3] #[3, 4] false, some .nilFunc⟩ := by kernel_rfl
theorem ty156 : T.get 156 = some ⟨1, 8, .func #[157] #[3] false, some .nilFunc⟩ := by kernel_rfl
theorem ty157 : T.get 157 = some ⟨1, 4, .int (.u32), some (.int .u32 0)⟩ := by kernel_rfl
theorem ty158 : T.get 158 = some ⟨1, 8, .func #[27] #[3] false, some .nilFunc⟩ := by kernel_rfl
theorem ty159 : T.get 159 = some ⟨1, 8, .func #[178] #[3] true, some .nilFunc⟩ := by kernel_rfl
theorem ty160 : T.get 160 = some ⟨1, 8, .func #[98, 98] #[4] false, some .nilFunc⟩ := by kernel_rfl
theorem ty161 : T.get 161 = some ⟨1, 8, .func #[98, 3] #[] false, some .nilFunc⟩ := by kernel_rfl
theorem ty162 : T.get 162 = some ⟨1, 8, .func #[179] #[] false, some .nilFunc⟩ := by kernel_rfl
theorem ty163 : T.get 163 = some ⟨1, 8, .func #[179] #[] false, some .nilFunc⟩ := by kernel_rfl
theorem ty164 : T.get 164 = some ⟨1, 8, .func #[34] #[163] false, some .nilFunc⟩ := by kernel_rfl
theorem ty165 : T.get 165 = some ⟨1, 8, .func #[34, 74] #[3] false, some .nilFunc⟩ := by kernel_rfl
theorem ty166 : T.get 166 = some ⟨1, 8, .func #[85, 3, 3] #[] false, some .nilFunc⟩ := by kernel_rfl
theorem ty167 : T.get 167 = some ⟨1, 8, .func #[85, 3, 3] #[3, 149] false, some .nilFunc⟩ := by kernel_rfl
theorem ty168 : T.get 168 = some ⟨1, 8, .func #[85, 3, 3] #[4] false, some .nilFunc⟩ := by kernel_rfl
theorem ty169 : T.get 169 = some ⟨1, 8, .func #[9, 9] #[4] false, some .nilFunc⟩ := by kernel_rfl
theorem ty170 : T.get 170 = some ⟨1, 8, .func #[85, 3, 3, 3] #[3] false, some .nilFunc⟩ := by kernel_rfl
theorem ty171 : T.get 171 = some ⟨1, 8, .func #[85, 3, 3, 3] #[3, 4] false, some .nilFunc⟩ := by kernel_rfl
theorem ty172 : T.get 172 = some ⟨1, 8, .int (.u64), some (.int .u64 0)⟩ := by kernel_rfl
theorem ty173 : T.get 173 = some ⟨1, 8, .func #[3] #[134] false, some .nilFunc⟩ := by kernel_rfl
theorem ty174 : T.get 174 = some ⟨1, 8, .func #[] #[27] false, some .nilFunc⟩ := by kernel_rfl
theorem ty175 : T.get 175 = some ⟨1, 8, .func #[40, 3, 176] #[3] false, some .nilFunc⟩ := by kernel_rfl
theorem ty176 : T.get 176 = some ⟨1, 8, .pointer 3, some (.pointer none)⟩ := by kernel_rfl
theorem ty177 : T.get 177 = some ⟨1, 8, .func #[40, 3, 3, 3, 176] #[3] false, some .nilFunc⟩ := by kernel_rfl
theorem ty178 : T.get 178 = some ⟨1, 24, .slice 3, some (.slice none 0 0)⟩ := by kernel_rfl
theorem ty179 : T.get 179 = some ⟨1, 8, .func #[3, 49] #[4] false, some .nilFunc⟩ := by kernel_rfl
theorem ty180 : T.get 180 = some ⟨1, 8, .func #[85, 3, 176] #[3] false, some .nilFunc⟩ := by kernel_rfl
theorem ty181 : T.get 181 = some ⟨1, 8, .func #[85, 3, 3, 3, 176] #[3] false, some .nilFunc⟩ := by kernel_rfl
theorem ty182 : T.get 182 = some ⟨1, 8, .pointer 172, some (.pointer none)⟩ := by kernel_rfl
theorem ty183 : T.get 183 = some ⟨1, 0, .tuple #[3, 3], some (.tuple #[(.int .i64 0), (.int .i64 0)])⟩ := by kernel_rfl
theorem ty184 : T.get 184 = some ⟨1, 8, .func #[40, 3, 3, 176] #[3, 3] false, some .nilFunc⟩ := by kernel_rfl
theorem ty185 : T.get 185 = some ⟨1, 8, .func #[98] #[] false, some .nilFunc⟩ := by kernel_rfl
theorem ty186 : T.get 186 = some ⟨1, 8, .func #[85, 3, 3, 176] #[3, 3] false, some .nilFunc⟩ := by kernel_rfl
theorem ty187 : T.get 187 = some ⟨1, 8, .func #[] #[9] false, some .nilFunc⟩ := by kernel_rfl
theorem ty190 : T.get 190 = some ⟨0, 0, .array 0 16, some (.agg #[])⟩ := by kernel_rfl
theorem ty193 : T.get 193 = some ⟨1, 8, .func #[] #[3] false, some .nilFunc⟩ := by kernel_rfl
theorem ty194 : T.get 194 = some ⟨1, 1, .int (.u8), some (.int .u8 0)⟩ := by kernel_rfl
theorem ty195 : T.get 195 = some ⟨1, 1, .int (.u8), some (.int .u8 0)⟩ := by kernel_rfl
theorem ty196 : T.get 196 = some ⟨1, 8, .func #[203, 203] #[4] false, some .nilFunc⟩ := by kernel_rfl
theorem ty197 : T.get 197 = some ⟨1, 8, .pointer 5, some (.pointer none)⟩ := by kernel_rfl
theorem ty198 : T.get 198 = some ⟨1, 4, .int (.i32), some (.int .i32 0)⟩ := by kernel_rfl
theorem ty199 : T.get 199 = some ⟨1, 4, .int (.i32), some (.int .i32 0)⟩ := by kernel_rfl
theorem ty200 : T.get 200 = some ⟨11, 48, .struct #[{ name := "Size_", type := 12, offset := 0, embedded := false, tag := "", pkgPath := "", byteOffset := 0 }, { name := "PtrBytes", type := 12, offset := 1, embedded := false, tag := "", pkgPath := "", byteOffset := 8 }, { name := "Hash", type := 157, offset := 2, embedded := false, tag := "", pkgPath := "", byteOffset := 16 }, { name := "TFlag", type := 194, offset := 3, embedded := false, tag := "", pkgPath := "", byteOffset := 20 }, { name := "Align_", type := 5, offset := 4, embedded := false, tag := "", pkgPath := "", byteOffset := 21 }, { name := "FieldAlign_", type := 5, offset := 5, embedded := false, tag := "", pkgPath := "", byteOffset := 22 }, { name := "Kind_", type := 195, offset := 6, embedded := false, tag := "", pkgPath := "", byteOffset := 23 }, { name := "Equal", type := 196, offset := 7, embedded := false, tag := "", pkgPath := "", byteOffset := 24 }, { name := "GCData", type := 197, offset := 8, embedded := false, tag := "", pkgPath := "", byteOffset := 32 }, { name := "Str", type := 198, offset := 9, embedded := false, tag := "", pkgPath := "", byteOffset := 40 }, { name := "PtrToThis", type := 199, offset := 10, embedded := false, tag := "", pkgPath := "", byteOffset := 44 }], some (.agg #[(.int .u64 0), (.int .u64 0), (.int .u32 0), (.int .u8 0), (.int .u8 0), (.int .u8 0), (.int .u8 0), .nilFunc, (.pointer none), (.int .i32 0), (.int .i32 0)])⟩ := by kernel_rfl
theorem ty201 : T.get 201 = some ⟨11, 48, .struct #[{ name := "Size_", type := 12, offset := 0, embedded := false, tag := "", pkgPath := "", byteOffset := 0 }, { name := "PtrBytes", type := 12, offset := 1, embedded := false, tag := "", pkgPath := "", byteOffset := 8 }, { name := "Hash", type := 157, offset := 2, embedded := false, tag := "", pkgPath := "", byteOffset := 16 }, { name := "TFlag", type := 194, offset := 3, embedded := false, tag := "", pkgPath := "", byteOffset := 20 }, { name := "Align_", type := 5, offset := 4, embedded := false, tag := "", pkgPath := "", byteOffset := 21 }, { name := "FieldAlign_", type := 5, offset := 5, embedded := false, tag := "", pkgPath := "", byteOffset := 22 }, { name := "Kind_", type := 195, offset := 6, embedded := false, tag := "", pkgPath := "", byteOffset := 23 }, { name := "Equal", type := 196, offset := 7, embedded := false, tag := "", pkgPath := "", byteOffset := 24 }, { name := "GCData", type := 197, offset := 8, embedded := false, tag := "", pkgPath := "", byteOffset := 32 }, { name := "Str", type := 198, offset := 9, embedded := false, tag := "", pkgPath := "", byteOffset := 40 }, { name := "PtrToThis", type := 199, offset := 10, embedded := false, tag := "", pkgPath := "", byteOffset := 44 }], some (.agg #[(.int .u64 0), (.int .u64 0), (.int .u32 0), (.int .u8 0), (.int .u8 0), (.int .u8 0), (.int .u8 0), .nilFunc, (.pointer none), (.int .i32 0), (.int .i32 0)])⟩ := by kernel_rfl
theorem ty202 : T.get 202 = some ⟨1, 8, .func #[9] #[3] false, some .nilFunc⟩ := by kernel_rfl
theorem ty203 : T.get 203 = some ⟨1, 8, .unsafePointer, some (.pointer none)⟩ := by kernel_rfl
theorem en2 : Entered Tryz.prog 2 Tryz.f2 := ⟨Tryz.func2, by kernel_rfl, by kernel_rfl⟩
theorem en3 : Entered Tryz.prog 3 Tryz.f3 := ⟨Tryz.func3, by kernel_rfl, by kernel_rfl⟩
theorem en4 : Entered Tryz.prog 4 Tryz.f4 := ⟨Tryz.func4, by kernel_rfl, by kernel_rfl⟩
theorem en5 : Entered Tryz.prog 5 Tryz.f5 := ⟨Tryz.func5, by kernel_rfl, by kernel_rfl⟩
theorem en6 : Entered Tryz.prog 6 Tryz.f6 := ⟨Tryz.func6, by kernel_rfl, by kernel_rfl⟩
theorem en7 : Entered Tryz.prog 7 Tryz.f7 := ⟨Tryz.func7, by kernel_rfl, by kernel_rfl⟩
theorem en8 : Entered Tryz.prog 8 Tryz.f8 := ⟨Tryz.func8, by kernel_rfl, by kernel_rfl⟩
theorem en9 : Entered Tryz.prog 9 Tryz.f9 := ⟨Tryz.func9, by kernel_rfl, by kernel_rfl⟩
theorem en10 : Entered Tryz.prog 10 Tryz.f10 := ⟨Tryz.func10, by kernel_rfl, by kernel_rfl⟩
theorem en11 : Entered Tryz.prog 11 Tryz.f11 := ⟨Tryz.func11, by kernel_rfl, by kernel_rfl⟩
theorem en12 : Entered Tryz.prog 12 Tryz.f12 := ⟨Tryz.func12, by kernel_rfl, by kernel_rfl⟩
theorem en13 : Entered Tryz.prog 13 Tryz.f13 := ⟨Tryz.func13, by kernel_rfl, by kernel_rfl⟩
theorem en14 : Entered Tryz.prog 14 Tryz.f14 := ⟨Tryz.func14, by kernel_rfl, by kernel_rfl⟩
theorem en15 : Entered Tryz.prog 15 Tryz.f15 := ⟨Tryz.func15, by kernel_rfl, by kernel_rfl⟩
theorem en16 : Entered Tryz.prog 16 Tryz.f16 := ⟨Tryz.func16, by kernel_rfl, by kernel_rfl⟩
theorem en17 : Entered Tryz.prog 17 Tryz.f17 := ⟨Tryz.func17, by kernel_rfl, by kernel_rfl⟩
theorem en18 : Entered Tryz.prog 18 Tryz.f18 := ⟨Tryz.func18, by kernel_rfl, by kernel_rfl⟩
theorem en19 : Entered Tryz.prog 19 Tryz.f19 := ⟨Tryz.func19, by kernel_rfl, by kernel_rfl⟩
theorem en20 : Entered Tryz.prog 20 Tryz.f20 := ⟨Tryz.func20, by kernel_rfl, by kernel_rfl⟩
theorem en21 : Entered Tryz.prog 21 Tryz.f21 := ⟨Tryz.func21, by kernel_rfl, by kernel_rfl⟩
theorem en22 : Entered Tryz.prog 22 Tryz.f22 := ⟨Tryz.func22, by kernel_rfl, by kernel_rfl⟩
theorem en23 : Entered Tryz.prog 23 Tryz.f23 := ⟨Tryz.func23, by kernel_rfl, by kernel_rfl⟩
theorem en24 : Entered Tryz.prog 24 Tryz.f24 := ⟨Tryz.func24, by kernel_rfl, by kernel_rfl⟩
theorem en25 : Entered Tryz.prog 25 Tryz.f25 := ⟨Tryz.func25, by kernel_rfl, by kernel_rfl⟩
theorem en26 : Entered Tryz.prog 26 Tryz.f26 := ⟨Tryz.func26, by kernel_rfl, by kernel_rfl⟩
theorem en27 : Entered Tryz.prog 27 Tryz.f27 := ⟨Tryz.func27, by kernel_rfl, by kernel_rfl⟩
theorem en28 : Entered Tryz.prog 28 Tryz.f28 := ⟨Tryz.func28, by kernel_rfl, by kernel_rfl⟩
theorem en29 : Entered Tryz.prog 29 Tryz.f29 := ⟨Tryz.func29, by kernel_rfl, by kernel_rfl⟩
theorem en30 : Entered Tryz.prog 30 Tryz.f30 := ⟨Tryz.func30, by kernel_rfl, by kernel_rfl⟩
theorem en31 : Entered Tryz.prog 31 Tryz.f31 := ⟨Tryz.func31, by kernel_rfl, by kernel_rfl⟩
theorem en32 : Entered Tryz.prog 32 Tryz.f32 := ⟨Tryz.func32, by kernel_rfl, by kernel_rfl⟩
theorem en33 : Entered Tryz.prog 33 Tryz.f33 := ⟨Tryz.func33, by kernel_rfl, by kernel_rfl⟩
theorem en34 : Entered Tryz.prog 34 Tryz.f34 := ⟨Tryz.func34, by kernel_rfl, by kernel_rfl⟩
theorem en35 : Entered Tryz.prog 35 Tryz.f35 := ⟨Tryz.func35, by kernel_rfl, by kernel_rfl⟩
theorem en36 : Entered Tryz.prog 36 Tryz.f36 := ⟨Tryz.func36, by kernel_rfl, by kernel_rfl⟩
theorem en37 : Entered Tryz.prog 37 Tryz.f37 := ⟨Tryz.func37, by kernel_rfl, by kernel_rfl⟩
theorem en38 : Entered Tryz.prog 38 Tryz.f38 := ⟨Tryz.func38, by kernel_rfl, by kernel_rfl⟩
theorem en39 : Entered Tryz.prog 39 Tryz.f39 := ⟨Tryz.func39, by kernel_rfl, by kernel_rfl⟩
theorem en40 : Entered Tryz.prog 40 Tryz.f40 := ⟨Tryz.func40, by kernel_rfl, by kernel_rfl⟩
theorem en41 : Entered Tryz.prog 41 Tryz.f41 := ⟨Tryz.func41, by kernel_rfl, by kernel_rfl⟩
theorem en42 : Entered Tryz.prog 42 Tryz.f42 := ⟨Tryz.func42, by kernel_rfl, by kernel_rfl⟩
theorem en43 : Entered Tryz.prog 43 Tryz.f43 := ⟨Tryz.func43, by kernel_rfl, by kernel_rfl⟩
theorem en44 : Entered Tryz.prog 44 Tryz.f44 := ⟨Tryz.func44, by kernel_rfl, by kernel_rfl⟩
theorem en45 : Entered Tryz.prog 45 Tryz.f45 := ⟨Tryz.func45, by kernel_rfl, by kernel_rfl⟩
theorem en46 : Entered Tryz.prog 46 Tryz.f46 := ⟨Tryz.func46, by kernel_rfl, by kernel_rfl⟩
theorem en47 : Entered Tryz.prog 47 Tryz.f47 := ⟨Tryz.func47, by kernel_rfl, by kernel_rfl⟩
theorem en48 : Entered Tryz.prog 48 Tryz.f48 := ⟨Tryz.func48, by kernel_rfl, by kernel_rfl⟩
theorem en49 : Entered Tryz.prog 49 Tryz.f49 := ⟨Tryz.func49, by kernel_rfl, by kernel_rfl⟩
theorem en50 : Entered Tryz.prog 50 Tryz.f50 := ⟨Tryz.func50, by kernel_rfl, by kernel_rfl⟩
theorem en51 : Entered Tryz.prog 51 Tryz.f51 := ⟨Tryz.func51, by kernel_rfl, by kernel_rfl⟩
theorem en52 : Entered Tryz.prog 52 Tryz.f52 := ⟨Tryz.func52, by kernel_rfl, by kernel_rfl⟩
theorem en53 : Entered Tryz.prog 53 Tryz.f53 := ⟨Tryz.func53, by kernel_rfl, by kernel_rfl⟩
theorem en54 : Entered Tryz.prog 54 Tryz.f54 := ⟨Tryz.func54, by kernel_rfl, by kernel_rfl⟩
theorem en55 : Entered Tryz.prog 55 Tryz.f55 := ⟨Tryz.func55, by kernel_rfl, by kernel_rfl⟩
theorem en56 : Entered Tryz.prog 56 Tryz.f56 := ⟨Tryz.func56, by kernel_rfl, by kernel_rfl⟩
theorem en57 : Entered Tryz.prog 57 Tryz.f57 := ⟨Tryz.func57, by kernel_rfl, by kernel_rfl⟩
theorem en58 : Entered Tryz.prog 58 Tryz.f58 := ⟨Tryz.func58, by kernel_rfl, by kernel_rfl⟩
theorem en59 : Entered Tryz.prog 59 Tryz.f59 := ⟨Tryz.func59, by kernel_rfl, by kernel_rfl⟩
theorem en60 : Entered Tryz.prog 60 Tryz.f60 := ⟨Tryz.func60, by kernel_rfl, by kernel_rfl⟩
theorem en61 : Entered Tryz.prog 61 Tryz.f61 := ⟨Tryz.func61, by kernel_rfl, by kernel_rfl⟩
theorem en62 : Entered Tryz.prog 62 Tryz.f62 := ⟨Tryz.func62, by kernel_rfl, by kernel_rfl⟩
theorem en63 : Entered Tryz.prog 63 Tryz.f63 := ⟨Tryz.func63, by kernel_rfl, by kernel_rfl⟩
theorem en64 : Entered Tryz.prog 64 Tryz.f64 := ⟨Tryz.func64, by kernel_rfl, by kernel_rfl⟩
theorem en65 : Entered Tryz.prog 65 Tryz.f65 := ⟨Tryz.func65, by kernel_rfl, by kernel_rfl⟩
theorem en66 : Entered Tryz.prog 66 Tryz.f66 := ⟨Tryz.func66, by kernel_rfl, by kernel_rfl⟩
theorem en67 : Entered Tryz.prog 67 Tryz.f67 := ⟨Tryz.func67, by kernel_rfl, by kernel_rfl⟩
theorem en68 : Entered Tryz.prog 68 Tryz.f68 := ⟨Tryz.func68, by kernel_rfl, by kernel_rfl⟩
theorem en69 : Entered Tryz.prog 69 Tryz.f69 := ⟨Tryz.func69, by kernel_rfl, by kernel_rfl⟩
theorem en70 : Entered Tryz.prog 70 Tryz.f70 := ⟨Tryz.func70, by kernel_rfl, by kernel_rfl⟩
theorem en71 : Entered Tryz.prog 71 Tryz.f71 := ⟨Tryz.func71, by kernel_rfl, by kernel_rfl⟩
theorem en72 : Entered Tryz.prog 72 Tryz.f72 := ⟨Tryz.func72, by kernel_rfl, by kernel_rfl⟩
theorem en73 : Entered Tryz.prog 73 Tryz.f73 := ⟨Tryz.func73, by kernel_rfl, by kernel_rfl⟩
theorem en74 : Entered Tryz.prog 74 Tryz.f74 := ⟨Tryz.func74, by kernel_rfl, by kernel_rfl⟩
theorem en75 : Entered Tryz.prog 75 Tryz.f75 := ⟨Tryz.func75, by kernel_rfl, by kernel_rfl⟩
theorem en76 : Entered Tryz.prog 76 Tryz.f76 := ⟨Tryz.func76, by kernel_rfl, by kernel_rfl⟩
theorem en77 : Entered Tryz.prog 77 Tryz.f77 := ⟨Tryz.func77, by kernel_rfl, by kernel_rfl⟩
theorem en78 : Entered Tryz.prog 78 Tryz.f78 := ⟨Tryz.func78, by kernel_rfl, by kernel_rfl⟩
theorem en79 : Entered Tryz.prog 79 Tryz.f79 := ⟨Tryz.func79, by kernel_rfl, by kernel_rfl⟩
theorem en80 : Entered Tryz.prog 80 Tryz.f80 := ⟨Tryz.func80, by kernel_rfl, by kernel_rfl⟩
theorem en81 : Entered Tryz.prog 81 Tryz.f81 := ⟨Tryz.func81, by kernel_rfl, by kernel_rfl⟩
theorem en82 : Entered Tryz.prog 82 Tryz.f82 := ⟨Tryz.func82, by kernel_rfl, by kernel_rfl⟩
theorem en83 : Entered Tryz.prog 83 Tryz.f83 := ⟨Tryz.func83, by kernel_rfl, by kernel_rfl⟩
theorem en84 : Entered Tryz.prog 84 Tryz.f84 := ⟨Tryz.func84, by kernel_rfl, by kernel_rfl⟩
theorem en85 : Entered Tryz.prog 85 Tryz.f85 := ⟨Tryz.func85, by kernel_rfl, by kernel_rfl⟩
theorem en86 : Entered Tryz.prog 86 Tryz.f86 := ⟨Tryz.func86, by kernel_rfl, by kernel_rfl⟩
theorem en87 : Entered Tryz.prog 87 Tryz.f87 := ⟨Tryz.func87, by kernel_rfl, by kernel_rfl⟩
theorem en89 : Entered Tryz.prog 89 Tryz.f89 := ⟨Tryz.func89, by kernel_rfl, by kernel_rfl⟩
theorem en90 : Entered Tryz.prog 90 Tryz.f90 := ⟨Tryz.func90, by kernel_rfl, by kernel_rfl⟩
theorem en91 : Entered Tryz.prog 91 Tryz.f91 := ⟨Tryz.func91, by kernel_rfl, by kernel_rfl⟩
theorem en92 : Entered Tryz.prog 92 Tryz.f92 := ⟨Tryz.func92, by kernel_rfl, by kernel_rfl⟩
theorem en93 : Entered Tryz.prog 93 Tryz.f93 := ⟨Tryz.func93, by kernel_rfl, by kernel_rfl⟩
theorem en94 : Entered Tryz.prog 94 Tryz.f94 := ⟨Tryz.func94, by kernel_rfl, by kernel_rfl⟩
theorem en95 : Entered Tryz.prog 95 Tryz.f95 := ⟨Tryz.func95, by kernel_rfl, by kernel_rfl⟩
theorem en96 : Entered Tryz.prog 96 Tryz.f96 := ⟨Tryz.func96, by kernel_rfl, by kernel_rfl⟩
theorem en97 : Entered Tryz.prog 97 Tryz.f97 := ⟨Tryz.func97, by kernel_rfl, by kernel_rfl⟩
theorem en98 : Entered Tryz.prog 98 Tryz.f98 := ⟨Tryz.func98, by kernel_rfl, by kernel_rfl⟩
theorem en99 : Entered Tryz.prog 99 Tryz.f99 := ⟨Tryz.func99, by kernel_rfl, by kernel_rfl⟩
theorem en100 : Entered Tryz.prog 100 Tryz.f100 := ⟨Tryz.func100, by kernel_rfl, by kernel_rfl⟩
theorem en101 : Entered Tryz.prog 101 Tryz.f101 := ⟨Tryz.func101, by kernel_rfl, by kernel_rfl⟩
theorem en102 : Entered Tryz.prog 102 Tryz.f102 := ⟨Tryz.func102, by kernel_rfl, by kernel_rfl⟩
theorem en103 : Entered Tryz.prog 103 Tryz.f103 := ⟨Tryz.func103, by kernel_rfl, by kernel_rfl⟩
theorem en104 : Entered Tryz.prog 104 Tryz.f104 := ⟨Tryz.func104, by kernel_rfl, by kernel_rfl⟩
theorem en105 : Entered Tryz.prog 105 Tryz.f105 := ⟨Tryz.func105, by kernel_rfl, by kernel_rfl⟩
theorem en106 : Entered Tryz.prog 106 Tryz.f106 := ⟨Tryz.func106, by kernel_rfl, by kernel_rfl⟩
theorem en107 : Entered Tryz.prog 107 Tryz.f107 := ⟨Tryz.func107, by kernel_rfl, by kernel_rfl⟩
theorem en108 : Entered Tryz.prog 108 Tryz.f108 := ⟨Tryz.func108, by kernel_rfl, by kernel_rfl⟩
theorem en109 : Entered Tryz.prog 109 Tryz.f109 := ⟨Tryz.func109, by kernel_rfl, by kernel_rfl⟩
theorem en110 : Entered Tryz.prog 110 Tryz.f110 := ⟨Tryz.func110, by kernel_rfl, by kernel_rfl⟩
theorem en111 : Entered Tryz.prog 111 Tryz.f111 := ⟨Tryz.func111, by kernel_rfl, by kernel_rfl⟩
theorem en112 : Entered Tryz.prog 112 Tryz.f112 := ⟨Tryz.func112, by kernel_rfl, by kernel_rfl⟩
theorem en113 : Entered Tryz.prog 113 Tryz.f113 := ⟨Tryz.func113, by kernel_rfl, by kernel_rfl⟩
theorem en114 : Entered Tryz.prog 114 Tryz.f114 := ⟨Tryz.func114, by kernel_rfl, by kernel_rfl⟩
theorem en115 : Entered Tryz.prog 115 Tryz.f115 := ⟨Tryz.func115, by kernel_rfl, by kernel_rfl⟩
end Go.Proofs.YtjenbiohcecfnaaGreat
