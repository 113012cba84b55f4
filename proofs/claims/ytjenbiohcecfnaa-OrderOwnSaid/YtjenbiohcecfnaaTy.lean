/-
  The types of this program, a lemma each (printed by a program).
-/
import Derived.Test.YtjenbiohcecfnaaProg
import Derived.Test.YtjenbiohcecfnaaAb20
import Derived.KernelRfl
namespace Go.Proofs.Ytjenbiohcecfnaa
open Go.Ab
set_option maxRecDepth 100000
noncomputable def T : Tr TI := tab (tyOf Try.prog) 133
theorem tyOK : TyOK Try.prog T := tyOK_of Try.prog 133
theorem mixed : Try.prog.follows .mixedOrders = true := by kernel_rfl
theorem ty0 : T.get 0 = some ⟨1, 0, .tuple #[], some (.tuple #[])⟩ := by kernel_rfl
theorem ty1 : T.get 1 = some ⟨1, 8, .func #[] #[] false, some .nilFunc⟩ := by kernel_rfl
theorem ty2 : T.get 2 = some ⟨1, 8, .int (.i64), some (.int .i64 0)⟩ := by kernel_rfl
theorem ty3 : T.get 3 = some ⟨1, 8, .int (.i64), some (.int .i64 0)⟩ := by kernel_rfl
theorem ty4 : T.get 4 = some ⟨1, 1, .bool, some (.bool false)⟩ := by kernel_rfl
theorem ty5 : T.get 5 = some ⟨1, 1, .int (.u8), some (.int .u8 0)⟩ := by kernel_rfl
theorem ty6 : T.get 6 = some ⟨1, 1, .int (.u8), some (.int .u8 0)⟩ := by kernel_rfl
theorem ty9 : T.get 9 = some ⟨1, 16, .string, some (.string ⟨#[]⟩)⟩ := by kernel_rfl
theorem ty10 : T.get 10 = some ⟨1, 16, .string, some (.string ⟨#[]⟩)⟩ := by kernel_rfl
theorem ty11 : T.get 11 = some ⟨1, 16, .string, some (.string ⟨#[]⟩)⟩ := by kernel_rfl
theorem ty12 : T.get 12 = some ⟨1, 8, .int (.u64), some (.int .u64 0)⟩ := by kernel_rfl
theorem ty15 : T.get 15 = some ⟨1, 8, .pointer 116, some (.pointer none)⟩ := by kernel_rfl
theorem ty16 : T.get 16 = some ⟨1, 8, .pointer 119, some (.pointer none)⟩ := by kernel_rfl
theorem ty17 : T.get 17 = some ⟨1, 8, .pointer 129, some (.pointer none)⟩ := by kernel_rfl
theorem ty20 : T.get 20 = some ⟨1, 16, .interface #[], some .nilIface⟩ := by kernel_rfl
theorem ty21 : T.get 21 = some ⟨1, 4, .int (.i32), some (.int .i32 0)⟩ := by kernel_rfl
theorem ty22 : T.get 22 = some ⟨1, 24, .slice 56, some (.slice none 0 0)⟩ := by kernel_rfl
theorem ty23 : T.get 23 = some ⟨3, 3, .array 3 5, some (.agg #[(.int .u8 0), (.int .u8 0), (.int .u8 0)])⟩ := by kernel_rfl
theorem ty24 : T.get 24 = some ⟨1, 8, .pointer 78, some (.pointer none)⟩ := by kernel_rfl
theorem ty25 : T.get 25 = some ⟨1, 8, .pointer 45, some (.pointer none)⟩ := by kernel_rfl
theorem ty26 : T.get 26 = some ⟨1, 0, .tuple #[24, 25], some (.tuple #[(.pointer none), (.pointer none)])⟩ := by kernel_rfl
theorem ty27 : T.get 27 = some ⟨1, 8, .func #[22, 5] #[24, 25] false, some .nilFunc⟩ := by kernel_rfl
theorem ty28 : T.get 28 = some ⟨1, 8, .pointer 60, some (.pointer none)⟩ := by kernel_rfl
theorem ty29 : T.get 29 = some ⟨1, 8, .func #[3] #[28] false, some .nilFunc⟩ := by kernel_rfl
theorem ty30 : T.get 30 = some ⟨1, 8, .int (.u64), some (.int .u64 0)⟩ := by kernel_rfl
theorem ty31 : T.get 31 = some ⟨1, 8, .int (.i64), some (.int .i64 0)⟩ := by kernel_rfl
theorem ty32 : T.get 32 = some ⟨7, 64, .struct #[{ name := "Fetch", type := 4, offset := 0, embedded := false, tag := "", pkgPath := "", byteOffset := 0 }, { name := "Err", type := 31, offset := 1, embedded := false, tag := "", pkgPath := "", byteOffset := 8 }, { name := "Found", type := 4, offset := 2, embedded := false, tag := "", pkgPath := "", byteOffset := 16 }, { name := "Val", type := 9, offset := 3, embedded := false, tag := "", pkgPath := "", byteOffset := 24 }, { name := "Hang", type := 30, offset := 4, embedded := false, tag := "", pkgPath := "", byteOffset := 40 }, { name := "Need", type := 30, offset := 5, embedded := false, tag := "", pkgPath := "", byteOffset := 48 }, { name := "Over", type := 30, offset := 6, embedded := false, tag := "", pkgPath := "", byteOffset := 56 }], some (.agg #[(.bool false), (.int .i64 0), (.bool false), (.string ⟨#[]⟩), (.int .u64 0), (.int .u64 0), (.int .u64 0)])⟩ := by kernel_rfl
theorem ty33 : T.get 33 = some ⟨7, 64, .struct #[{ name := "Fetch", type := 4, offset := 0, embedded := false, tag := "", pkgPath := "", byteOffset := 0 }, { name := "Err", type := 31, offset := 1, embedded := false, tag := "", pkgPath := "", byteOffset := 8 }, { name := "Found", type := 4, offset := 2, embedded := false, tag := "", pkgPath := "", byteOffset := 16 }, { name := "Val", type := 9, offset := 3, embedded := false, tag := "", pkgPath := "", byteOffset := 24 }, { name := "Hang", type := 30, offset := 4, embedded := false, tag := "", pkgPath := "", byteOffset := 40 }, { name := "Need", type := 30, offset := 5, embedded := false, tag := "", pkgPath := "", byteOffset := 48 }, { name := "Over", type := 30, offset := 6, embedded := false, tag := "", pkgPath := "", byteOffset := 56 }], some (.agg #[(.bool false), (.int .i64 0), (.bool false), (.string ⟨#[]⟩), (.int .u64 0), (.int .u64 0), (.int .u64 0)])⟩ := by kernel_rfl
theorem ty34 : T.get 34 = some ⟨1, 8, .func #[24, 30, 9, 30] #[33] false, some .nilFunc⟩ := by kernel_rfl
theorem ty35 : T.get 35 = some ⟨1, 8, .func #[5] #[9] false, some .nilFunc⟩ := by kernel_rfl
theorem ty36 : T.get 36 = some ⟨1, 8, .func #[5, 4] #[9] false, some .nilFunc⟩ := by kernel_rfl
theorem ty37 : T.get 37 = some ⟨1, 8, .func #[24, 28, 30, 39] #[33] false, some .nilFunc⟩ := by kernel_rfl
theorem ty38 : T.get 38 = some ⟨4, 48, .struct #[{ name := "Key", type := 9, offset := 0, embedded := false, tag := "", pkgPath := "", byteOffset := 0 }, { name := "Lsn", type := 30, offset := 1, embedded := false, tag := "", pkgPath := "", byteOffset := 16 }, { name := "Del", type := 4, offset := 2, embedded := false, tag := "", pkgPath := "", byteOffset := 24 }, { name := "Val", type := 9, offset := 3, embedded := false, tag := "", pkgPath := "", byteOffset := 32 }], some (.agg #[(.string ⟨#[]⟩), (.int .u64 0), (.bool false), (.string ⟨#[]⟩)])⟩ := by kernel_rfl
theorem ty39 : T.get 39 = some ⟨4, 48, .struct #[{ name := "Key", type := 9, offset := 0, embedded := false, tag := "", pkgPath := "", byteOffset := 0 }, { name := "Lsn", type := 30, offset := 1, embedded := false, tag := "", pkgPath := "", byteOffset := 16 }, { name := "Del", type := 4, offset := 2, embedded := false, tag := "", pkgPath := "", byteOffset := 24 }, { name := "Val", type := 9, offset := 3, embedded := false, tag := "", pkgPath := "", byteOffset := 32 }], some (.agg #[(.string ⟨#[]⟩), (.int .u64 0), (.bool false), (.string ⟨#[]⟩)])⟩ := by kernel_rfl
theorem ty40 : T.get 40 = some ⟨1, 8, .func #[] #[4] false, some .nilFunc⟩ := by kernel_rfl
theorem ty41 : T.get 41 = some ⟨1, 8, .func #[22, 23, 4] #[4] false, some .nilFunc⟩ := by kernel_rfl
theorem ty42 : T.get 42 = some ⟨1, 8, .func #[3] #[24] false, some .nilFunc⟩ := by kernel_rfl
theorem ty43 : T.get 43 = some ⟨1, 24, .slice 53, some (.slice none 0 0)⟩ := by kernel_rfl
theorem ty44 : T.get 44 = some ⟨2, 32, .struct #[{ name := "L", type := 43, offset := 0, embedded := false, tag := "", pkgPath := "", byteOffset := 0 }, { name := "Floor", type := 30, offset := 1, embedded := false, tag := "", pkgPath := "", byteOffset := 24 }], some (.agg #[(.slice none 0 0), (.int .u64 0)])⟩ := by kernel_rfl
theorem ty45 : T.get 45 = some ⟨2, 32, .struct #[{ name := "L", type := 43, offset := 0, embedded := false, tag := "", pkgPath := "", byteOffset := 0 }, { name := "Floor", type := 30, offset := 1, embedded := false, tag := "", pkgPath := "", byteOffset := 24 }], some (.agg #[(.slice none 0 0), (.int .u64 0)])⟩ := by kernel_rfl
theorem ty46 : T.get 46 = some ⟨1, 8, .func #[51] #[31] false, some .nilFunc⟩ := by kernel_rfl
theorem ty47 : T.get 47 = some ⟨5, 48, .struct #[{ name := "Ts", type := 30, offset := 0, embedded := false, tag := "", pkgPath := "", byteOffset := 0 }, { name := "Lsn", type := 30, offset := 1, embedded := false, tag := "", pkgPath := "", byteOffset := 8 }, { name := "Del", type := 4, offset := 2, embedded := false, tag := "", pkgPath := "", byteOffset := 16 }, { name := "Val", type := 9, offset := 3, embedded := false, tag := "", pkgPath := "", byteOffset := 24 }, { name := "Acked", type := 4, offset := 4, embedded := false, tag := "", pkgPath := "", byteOffset := 40 }], some (.agg #[(.int .u64 0), (.int .u64 0), (.bool false), (.string ⟨#[]⟩), (.bool false)])⟩ := by kernel_rfl
theorem ty48 : T.get 48 = some ⟨5, 48, .struct #[{ name := "Ts", type := 30, offset := 0, embedded := false, tag := "", pkgPath := "", byteOffset := 0 }, { name := "Lsn", type := 30, offset := 1, embedded := false, tag := "", pkgPath := "", byteOffset := 8 }, { name := "Del", type := 4, offset := 2, embedded := false, tag := "", pkgPath := "", byteOffset := 16 }, { name := "Val", type := 9, offset := 3, embedded := false, tag := "", pkgPath := "", byteOffset := 24 }, { name := "Acked", type := 4, offset := 4, embedded := false, tag := "", pkgPath := "", byteOffset := 40 }], some (.agg #[(.int .u64 0), (.int .u64 0), (.bool false), (.string ⟨#[]⟩), (.bool false)])⟩ := by kernel_rfl
theorem ty49 : T.get 49 = some ⟨1, 24, .slice 48, some (.slice none 0 0)⟩ := by kernel_rfl
theorem ty50 : T.get 50 = some ⟨4, 56, .struct #[{ name := "Key", type := 9, offset := 0, embedded := false, tag := "", pkgPath := "", byteOffset := 0 }, { name := "Rts", type := 30, offset := 1, embedded := false, tag := "", pkgPath := "", byteOffset := 16 }, { name := "Here", type := 4, offset := 2, embedded := false, tag := "", pkgPath := "", byteOffset := 24 }, { name := "Vers", type := 49, offset := 3, embedded := false, tag := "", pkgPath := "", byteOffset := 32 }], some (.agg #[(.string ⟨#[]⟩), (.int .u64 0), (.bool false), (.slice none 0 0)])⟩ := by kernel_rfl
theorem ty51 : T.get 51 = some ⟨4, 56, .struct #[{ name := "Key", type := 9, offset := 0, embedded := false, tag := "", pkgPath := "", byteOffset := 0 }, { name := "Rts", type := 30, offset := 1, embedded := false, tag := "", pkgPath := "", byteOffset := 16 }, { name := "Here", type := 4, offset := 2, embedded := false, tag := "", pkgPath := "", byteOffset := 24 }, { name := "Vers", type := 49, offset := 3, embedded := false, tag := "", pkgPath := "", byteOffset := 32 }], some (.agg #[(.string ⟨#[]⟩), (.int .u64 0), (.bool false), (.slice none 0 0)])⟩ := by kernel_rfl
theorem ty52 : T.get 52 = some ⟨1, 8, .func #[9] #[31] false, some .nilFunc⟩ := by kernel_rfl
theorem ty53 : T.get 53 = some ⟨4, 56, .struct #[{ name := "Key", type := 9, offset := 0, embedded := false, tag := "", pkgPath := "", byteOffset := 0 }, { name := "Rts", type := 30, offset := 1, embedded := false, tag := "", pkgPath := "", byteOffset := 16 }, { name := "Here", type := 4, offset := 2, embedded := false, tag := "", pkgPath := "", byteOffset := 24 }, { name := "Vers", type := 49, offset := 3, embedded := false, tag := "", pkgPath := "", byteOffset := 32 }], some (.agg #[(.string ⟨#[]⟩), (.int .u64 0), (.bool false), (.slice none 0 0)])⟩ := by kernel_rfl
theorem ty54 : T.get 54 = some ⟨1, 24, .slice 88, some (.slice none 0 0)⟩ := by kernel_rfl
theorem ty55 : T.get 55 = some ⟨4, 32, .struct #[{ name := "Key", type := 5, offset := 0, embedded := false, tag := "", pkgPath := "", byteOffset := 0 }, { name := "Rts", type := 5, offset := 1, embedded := false, tag := "", pkgPath := "", byteOffset := 1 }, { name := "Here", type := 4, offset := 2, embedded := false, tag := "", pkgPath := "", byteOffset := 2 }, { name := "Vers", type := 54, offset := 3, embedded := false, tag := "", pkgPath := "", byteOffset := 8 }], some (.agg #[(.int .u8 0), (.int .u8 0), (.bool false), (.slice none 0 0)])⟩ := by kernel_rfl
theorem ty56 : T.get 56 = some ⟨4, 32, .struct #[{ name := "Key", type := 5, offset := 0, embedded := false, tag := "", pkgPath := "", byteOffset := 0 }, { name := "Rts", type := 5, offset := 1, embedded := false, tag := "", pkgPath := "", byteOffset := 1 }, { name := "Here", type := 4, offset := 2, embedded := false, tag := "", pkgPath := "", byteOffset := 2 }, { name := "Vers", type := 54, offset := 3, embedded := false, tag := "", pkgPath := "", byteOffset := 8 }], some (.agg #[(.int .u8 0), (.int .u8 0), (.bool false), (.slice none 0 0)])⟩ := by kernel_rfl
theorem ty57 : T.get 57 = some ⟨1, 8, .func #[54] #[49] false, some .nilFunc⟩ := by kernel_rfl
theorem ty58 : T.get 58 = some ⟨1, 24, .slice 104, some (.slice none 0 0)⟩ := by kernel_rfl
theorem ty59 : T.get 59 = some ⟨2, 32, .struct #[{ name := "most", type := 3, offset := 0, embedded := false, tag := "", pkgPath := "couplet/span", byteOffset := 0 }, { name := "l", type := 58, offset := 1, embedded := false, tag := "", pkgPath := "couplet/span", byteOffset := 8 }], some (.agg #[(.int .i64 0), (.slice none 0 0)])⟩ := by kernel_rfl
theorem ty60 : T.get 60 = some ⟨2, 32, .struct #[{ name := "most", type := 3, offset := 0, embedded := false, tag := "", pkgPath := "couplet/span", byteOffset := 0 }, { name := "l", type := 58, offset := 1, embedded := false, tag := "", pkgPath := "couplet/span", byteOffset := 8 }], some (.agg #[(.int .i64 0), (.slice none 0 0)])⟩ := by kernel_rfl
theorem ty61 : T.get 61 = some ⟨1, 8, .func #[9, 30] #[] false, some .nilFunc⟩ := by kernel_rfl
theorem ty62 : T.get 62 = some ⟨1, 0, .tuple #[51, 4], some (.tuple #[(.agg #[(.string ⟨#[]⟩), (.int .u64 0), (.bool false), (.slice none 0 0)]), (.bool false)])⟩ := by kernel_rfl
theorem ty63 : T.get 63 = some ⟨1, 8, .func #[9] #[51, 4] false, some .nilFunc⟩ := by kernel_rfl
theorem ty64 : T.get 64 = some ⟨1, 0, .tuple #[48, 4], some (.tuple #[(.agg #[(.int .u64 0), (.int .u64 0), (.bool false), (.string ⟨#[]⟩), (.bool false)]), (.bool false)])⟩ := by kernel_rfl
theorem ty65 : T.get 65 = some ⟨1, 8, .func #[49, 30] #[48, 4] false, some .nilFunc⟩ := by kernel_rfl
theorem ty66 : T.get 66 = some ⟨1, 8, .func #[48, 30, 30] #[33] false, some .nilFunc⟩ := by kernel_rfl
theorem ty67 : T.get 67 = some ⟨1, 24, .slice 5, some (.slice none 0 0)⟩ := by kernel_rfl
theorem ty68 : T.get 68 = some ⟨1, 8, .func #[9] #[30] false, some .nilFunc⟩ := by kernel_rfl
theorem ty69 : T.get 69 = some ⟨1, 8, .func #[49] #[48, 4] false, some .nilFunc⟩ := by kernel_rfl
theorem ty70 : T.get 70 = some ⟨1, 8, .func #[93] #[4] true, some .nilFunc⟩ := by kernel_rfl
theorem ty71 : T.get 71 = some ⟨1, 0, .tuple #[49, 31], some (.tuple #[(.slice none 0 0), (.int .i64 0)])⟩ := by kernel_rfl
theorem ty72 : T.get 72 = some ⟨1, 8, .func #[49, 48] #[49, 31] false, some .nilFunc⟩ := by kernel_rfl
theorem ty73 : T.get 73 = some ⟨1, 8, .func #[48] #[4] false, some .nilFunc⟩ := by kernel_rfl
theorem ty74 : T.get 74 = some ⟨1, 0, .tuple #[24, 28], some (.tuple #[(.pointer none), (.pointer none)])⟩ := by kernel_rfl
theorem ty75 : T.get 75 = some ⟨1, 8, .func #[] #[24, 28] false, some .nilFunc⟩ := by kernel_rfl
theorem ty76 : T.get 76 = some ⟨1, 24, .slice 84, some (.slice none 0 0)⟩ := by kernel_rfl
theorem ty77 : T.get 77 = some ⟨3, 40, .struct #[{ name := "slices", type := 76, offset := 0, embedded := false, tag := "", pkgPath := "couplet/table", byteOffset := 0 }, { name := "floor", type := 30, offset := 1, embedded := false, tag := "", pkgPath := "couplet/table", byteOffset := 24 }, { name := "rows", type := 3, offset := 2, embedded := false, tag := "", pkgPath := "couplet/table", byteOffset := 32 }], some (.agg #[(.slice none 0 0), (.int .u64 0), (.int .i64 0)])⟩ := by kernel_rfl
theorem ty78 : T.get 78 = some ⟨3, 40, .struct #[{ name := "slices", type := 76, offset := 0, embedded := false, tag := "", pkgPath := "couplet/table", byteOffset := 0 }, { name := "floor", type := 30, offset := 1, embedded := false, tag := "", pkgPath := "couplet/table", byteOffset := 24 }, { name := "rows", type := 3, offset := 2, embedded := false, tag := "", pkgPath := "couplet/table", byteOffset := 32 }], some (.agg #[(.slice none 0 0), (.int .u64 0), (.int .i64 0)])⟩ := by kernel_rfl
theorem ty79 : T.get 79 = some ⟨1, 8, .func #[9] #[4] false, some .nilFunc⟩ := by kernel_rfl
theorem ty80 : T.get 80 = some ⟨1, 8, .func #[49] #[4] false, some .nilFunc⟩ := by kernel_rfl
theorem ty81 : T.get 81 = some ⟨1, 8, .func #[49] #[49] false, some .nilFunc⟩ := by kernel_rfl
theorem ty82 : T.get 82 = some ⟨1, 8, .pointer 84, some (.pointer none)⟩ := by kernel_rfl
theorem ty83 : T.get 83 = some ⟨1, 8, .func #[9] #[82] false, some .nilFunc⟩ := by kernel_rfl
theorem ty84 : T.get 84 = some ⟨1, 8, .pointer 86, some (.pointer none)⟩ := by kernel_rfl
theorem ty85 : T.get 85 = some ⟨5, 64, .struct #[{ name := "Row", type := 51, offset := 0, embedded := true, tag := "", pkgPath := "", byteOffset := 0 }, { name := "next", type := 84, offset := 4, embedded := false, tag := "", pkgPath := "couplet/table", byteOffset := 56 }], some (.agg #[(.string ⟨#[]⟩), (.int .u64 0), (.bool false), (.slice none 0 0), (.pointer none)])⟩ := by kernel_rfl
theorem ty86 : T.get 86 = some ⟨5, 64, .struct #[{ name := "Row", type := 51, offset := 0, embedded := true, tag := "", pkgPath := "", byteOffset := 0 }, { name := "next", type := 84, offset := 4, embedded := false, tag := "", pkgPath := "couplet/table", byteOffset := 56 }], some (.agg #[(.string ⟨#[]⟩), (.int .u64 0), (.bool false), (.slice none 0 0), (.pointer none)])⟩ := by kernel_rfl
theorem ty87 : T.get 87 = some ⟨5, 5, .struct #[{ name := "Far", type := 5, offset := 0, embedded := false, tag := "", pkgPath := "", byteOffset := 0 }, { name := "Lsn", type := 5, offset := 1, embedded := false, tag := "", pkgPath := "", byteOffset := 1 }, { name := "Del", type := 4, offset := 2, embedded := false, tag := "", pkgPath := "", byteOffset := 2 }, { name := "Val", type := 5, offset := 3, embedded := false, tag := "", pkgPath := "", byteOffset := 3 }, { name := "Base", type := 4, offset := 4, embedded := false, tag := "", pkgPath := "", byteOffset := 4 }], some (.agg #[(.int .u8 0), (.int .u8 0), (.bool false), (.int .u8 0), (.bool false)])⟩ := by kernel_rfl
theorem ty88 : T.get 88 = some ⟨5, 5, .struct #[{ name := "Far", type := 5, offset := 0, embedded := false, tag := "", pkgPath := "", byteOffset := 0 }, { name := "Lsn", type := 5, offset := 1, embedded := false, tag := "", pkgPath := "", byteOffset := 1 }, { name := "Del", type := 4, offset := 2, embedded := false, tag := "", pkgPath := "", byteOffset := 2 }, { name := "Val", type := 5, offset := 3, embedded := false, tag := "", pkgPath := "", byteOffset := 3 }, { name := "Base", type := 4, offset := 4, embedded := false, tag := "", pkgPath := "", byteOffset := 4 }], some (.agg #[(.int .u8 0), (.int .u8 0), (.bool false), (.int .u8 0), (.bool false)])⟩ := by kernel_rfl
theorem ty89 : T.get 89 = some ⟨1, 8, .func #[49, 73] #[48, 4] false, some .nilFunc⟩ := by kernel_rfl
theorem ty90 : T.get 90 = some ⟨1, 8, .func #[100] #[] false, some .nilFunc⟩ := by kernel_rfl
theorem ty91 : T.get 91 = some ⟨1, 8, .func #[100] #[] false, some .nilFunc⟩ := by kernel_rfl
theorem ty92 : T.get 92 = some ⟨1, 8, .func #[9] #[91] false, some .nilFunc⟩ := by kernel_rfl
theorem ty93 : T.get 93 = some ⟨1, 24, .slice 40, some (.slice none 0 0)⟩ := by kernel_rfl
theorem ty94 : T.get 94 = some ⟨1, 8, .func #[93, 95] #[4] false, some .nilFunc⟩ := by kernel_rfl
theorem ty95 : T.get 95 = some ⟨1, 8, .func #[40] #[4] false, some .nilFunc⟩ := by kernel_rfl
theorem ty96 : T.get 96 = some ⟨1, 8, .func #[49, 106] #[49] true, some .nilFunc⟩ := by kernel_rfl
theorem ty97 : T.get 97 = some ⟨1, 8, .func #[108] #[] false, some .nilFunc⟩ := by kernel_rfl
theorem ty98 : T.get 98 = some ⟨1, 8, .func #[108] #[] false, some .nilFunc⟩ := by kernel_rfl
theorem ty99 : T.get 99 = some ⟨1, 8, .func #[82] #[98] false, some .nilFunc⟩ := by kernel_rfl
theorem ty100 : T.get 100 = some ⟨1, 8, .func #[30] #[4] false, some .nilFunc⟩ := by kernel_rfl
theorem ty101 : T.get 101 = some ⟨2, 32, .struct #[{ name := "lo", type := 9, offset := 0, embedded := false, tag := "", pkgPath := "couplet/span", byteOffset := 0 }, { name := "hi", type := 9, offset := 1, embedded := false, tag := "", pkgPath := "couplet/span", byteOffset := 16 }], some (.agg #[(.string ⟨#[]⟩), (.string ⟨#[]⟩)])⟩ := by kernel_rfl
theorem ty102 : T.get 102 = some ⟨2, 32, .struct #[{ name := "lo", type := 9, offset := 0, embedded := false, tag := "", pkgPath := "couplet/span", byteOffset := 0 }, { name := "hi", type := 9, offset := 1, embedded := false, tag := "", pkgPath := "couplet/span", byteOffset := 16 }], some (.agg #[(.string ⟨#[]⟩), (.string ⟨#[]⟩)])⟩ := by kernel_rfl
theorem ty103 : T.get 103 = some ⟨3, 40, .struct #[{ name := "within", type := 102, offset := 0, embedded := true, tag := "", pkgPath := "couplet/span", byteOffset := 0 }, { name := "ts", type := 30, offset := 2, embedded := false, tag := "", pkgPath := "couplet/span", byteOffset := 32 }], some (.agg #[(.string ⟨#[]⟩), (.string ⟨#[]⟩), (.int .u64 0)])⟩ := by kernel_rfl
theorem ty104 : T.get 104 = some ⟨3, 40, .struct #[{ name := "within", type := 102, offset := 0, embedded := true, tag := "", pkgPath := "couplet/span", byteOffset := 0 }, { name := "ts", type := 30, offset := 2, embedded := false, tag := "", pkgPath := "couplet/span", byteOffset := 32 }], some (.agg #[(.string ⟨#[]⟩), (.string ⟨#[]⟩), (.int .u64 0)])⟩ := by kernel_rfl
theorem ty105 : T.get 105 = some ⟨1, 8, .func #[93, 95] #[3] false, some .nilFunc⟩ := by kernel_rfl
theorem ty106 : T.get 106 = some ⟨1, 24, .slice 73, some (.slice none 0 0)⟩ := by kernel_rfl
theorem ty107 : T.get 107 = some ⟨1, 8, .func #[49, 73] #[49] false, some .nilFunc⟩ := by kernel_rfl
theorem ty108 : T.get 108 = some ⟨1, 8, .func #[82] #[4] false, some .nilFunc⟩ := by kernel_rfl
theorem ty109 : T.get 109 = some ⟨1, 8, .func #[113] #[] false, some .nilFunc⟩ := by kernel_rfl
theorem ty110 : T.get 110 = some ⟨1, 8, .func #[113] #[] false, some .nilFunc⟩ := by kernel_rfl
theorem ty111 : T.get 111 = some ⟨1, 8, .func #[49] #[110] false, some .nilFunc⟩ := by kernel_rfl
theorem ty112 : T.get 112 = some ⟨1, 8, .func #[49, 73] #[3] false, some .nilFunc⟩ := by kernel_rfl
theorem ty113 : T.get 113 = some ⟨1, 8, .func #[3, 48] #[4] false, some .nilFunc⟩ := by kernel_rfl
theorem ty114 : T.get 114 = some ⟨1, 8, .func #[] #[9] false, some .nilFunc⟩ := by kernel_rfl
theorem ty117 : T.get 117 = some ⟨0, 0, .array 0 16, some (.agg #[])⟩ := by kernel_rfl
theorem ty120 : T.get 120 = some ⟨1, 8, .func #[] #[3] false, some .nilFunc⟩ := by kernel_rfl
theorem ty121 : T.get 121 = some ⟨1, 4, .int (.u32), some (.int .u32 0)⟩ := by kernel_rfl
theorem ty122 : T.get 122 = some ⟨1, 1, .int (.u8), some (.int .u8 0)⟩ := by kernel_rfl
theorem ty123 : T.get 123 = some ⟨1, 1, .int (.u8), some (.int .u8 0)⟩ := by kernel_rfl
theorem ty124 : T.get 124 = some ⟨1, 8, .func #[132, 132] #[4] false, some .nilFunc⟩ := by kernel_rfl
theorem ty125 : T.get 125 = some ⟨1, 8, .pointer 5, some (.pointer none)⟩ := by kernel_rfl
theorem ty126 : T.get 126 = some ⟨1, 4, .int (.i32), some (.int .i32 0)⟩ := by kernel_rfl
theorem ty127 : T.get 127 = some ⟨1, 4, .int (.i32), some (.int .i32 0)⟩ := by kernel_rfl
theorem ty128 : T.get 128 = some ⟨11, 48, .struct #[{ name := "Size_", type := 12, offset := 0, embedded := false, tag := "", pkgPath := "", byteOffset := 0 }, { name := "PtrBytes", type := 12, offset := 1, embedded := false, tag := "", pkgPath := "", byteOffset := 8 }, { name := "Hash", type := 121, offset := 2, embedded := false, tag := "", pkgPath := "", byteOffset := 16 }, { name := "TFlag", type := 122, offset := 3, embedded := false, tag := "", pkgPath := "", byteOffset := 20 }, { name := "Align_", type := 5, offset := 4, embedded := false, tag := "", pkgPath := "", byteOffset := 21 }, { name := "FieldAlign_", type := 5, offset := 5, embedded := false, tag := "", pkgPath := "", byteOffset := 22 }, { name := "Kind_", type := 123, offset := 6, embedded := false, tag := "", pkgPath := "", byteOffset := 23 }, { name := "Equal", type := 124, offset := 7, embedded := false, tag := "", pkgPath := "", byteOffset := 24 }, { name := "GCData", type := 125, offset := 8, embedded := false, tag := "", pkgPath := "", byteOffset := 32 }, { name := "Str", type := 126, offset := 9, embedded := false, tag := "", pkgPath := "", byteOffset := 40 }, { name := "PtrToThis", type := 127, offset := 10, embedded := false, tag := "", pkgPath := "", byteOffset := 44 }], some (.agg #[(.int .u64 0), (.int .u64 0), (.int .u32 0), (.int .u8 0), (.int .u8 0), (.int .u8 0), (.int .u8 0), .nilFunc, (.pointer none), (.int .i32 0), (.int .i32 0)])⟩ := by kernel_rfl
theorem ty129 : T.get 129 = some ⟨11, 48, .struct #[{ name := "Size_", type := 12, offset := 0, embedded := false, tag := "", pkgPath := "", byteOffset := 0 }, { name := "PtrBytes", type := 12, offset := 1, embedded := false, tag := "", pkgPath := "", byteOffset := 8 }, { name := "Hash", type := 121, offset := 2, embedded := false, tag := "", pkgPath := "", byteOffset := 16 }, { name := "TFlag", type := 122, offset := 3, embedded := false, tag := "", pkgPath := "", byteOffset := 20 }, { name := "Align_", type := 5, offset := 4, embedded := false, tag := "", pkgPath := "", byteOffset := 21 }, { name := "FieldAlign_", type := 5, offset := 5, embedded := false, tag := "", pkgPath := "", byteOffset := 22 }, { name := "Kind_", type := 123, offset := 6, embedded := false, tag := "", pkgPath := "", byteOffset := 23 }, { name := "Equal", type := 124, offset := 7, embedded := false, tag := "", pkgPath := "", byteOffset := 24 }, { name := "GCData", type := 125, offset := 8, embedded := false, tag := "", pkgPath := "", byteOffset := 32 }, { name := "Str", type := 126, offset := 9, embedded := false, tag := "", pkgPath := "", byteOffset := 40 }, { name := "PtrToThis", type := 127, offset := 10, embedded := false, tag := "", pkgPath := "", byteOffset := 44 }], some (.agg #[(.int .u64 0), (.int .u64 0), (.int .u32 0), (.int .u8 0), (.int .u8 0), (.int .u8 0), (.int .u8 0), .nilFunc, (.pointer none), (.int .i32 0), (.int .i32 0)])⟩ := by kernel_rfl
theorem ty130 : T.get 130 = some ⟨1, 8, .func #[] #[30] false, some .nilFunc⟩ := by kernel_rfl
theorem ty131 : T.get 131 = some ⟨1, 8, .func #[9] #[3] false, some .nilFunc⟩ := by kernel_rfl
theorem ty132 : T.get 132 = some ⟨1, 8, .unsafePointer, some (.pointer none)⟩ := by kernel_rfl
theorem en2 : Entered Try.prog 2 Try.f2 := ⟨Try.func2, by kernel_rfl, by kernel_rfl⟩
theorem en3 : Entered Try.prog 3 Try.f3 := ⟨Try.func3, by kernel_rfl, by kernel_rfl⟩
theorem en4 : Entered Try.prog 4 Try.f4 := ⟨Try.func4, by kernel_rfl, by kernel_rfl⟩
theorem en5 : Entered Try.prog 5 Try.f5 := ⟨Try.func5, by kernel_rfl, by kernel_rfl⟩
theorem en6 : Entered Try.prog 6 Try.f6 := ⟨Try.func6, by kernel_rfl, by kernel_rfl⟩
theorem en7 : Entered Try.prog 7 Try.f7 := ⟨Try.func7, by kernel_rfl, by kernel_rfl⟩
theorem en8 : Entered Try.prog 8 Try.f8 := ⟨Try.func8, by kernel_rfl, by kernel_rfl⟩
theorem en9 : Entered Try.prog 9 Try.f9 := ⟨Try.func9, by kernel_rfl, by kernel_rfl⟩
theorem en10 : Entered Try.prog 10 Try.f10 := ⟨Try.func10, by kernel_rfl, by kernel_rfl⟩
theorem en11 : Entered Try.prog 11 Try.f11 := ⟨Try.func11, by kernel_rfl, by kernel_rfl⟩
theorem en12 : Entered Try.prog 12 Try.f12 := ⟨Try.func12, by kernel_rfl, by kernel_rfl⟩
theorem en13 : Entered Try.prog 13 Try.f13 := ⟨Try.func13, by kernel_rfl, by kernel_rfl⟩
theorem en14 : Entered Try.prog 14 Try.f14 := ⟨Try.func14, by kernel_rfl, by kernel_rfl⟩
theorem en15 : Entered Try.prog 15 Try.f15 := ⟨Try.func15, by kernel_rfl, by kernel_rfl⟩
theorem en16 : Entered Try.prog 16 Try.f16 := ⟨Try.func16, by kernel_rfl, by kernel_rfl⟩
theorem en17 : Entered Try.prog 17 Try.f17 := ⟨Try.func17, by kernel_rfl, by kernel_rfl⟩
theorem en18 : Entered Try.prog 18 Try.f18 := ⟨Try.func18, by kernel_rfl, by kernel_rfl⟩
theorem en19 : Entered Try.prog 19 Try.f19 := ⟨Try.func19, by kernel_rfl, by kernel_rfl⟩
theorem en20 : Entered Try.prog 20 Try.f20 := ⟨Try.func20, by kernel_rfl, by kernel_rfl⟩
theorem en21 : Entered Try.prog 21 Try.f21 := ⟨Try.func21, by kernel_rfl, by kernel_rfl⟩
theorem en22 : Entered Try.prog 22 Try.f22 := ⟨Try.func22, by kernel_rfl, by kernel_rfl⟩
theorem en23 : Entered Try.prog 23 Try.f23 := ⟨Try.func23, by kernel_rfl, by kernel_rfl⟩
theorem en24 : Entered Try.prog 24 Try.f24 := ⟨Try.func24, by kernel_rfl, by kernel_rfl⟩
theorem en25 : Entered Try.prog 25 Try.f25 := ⟨Try.func25, by kernel_rfl, by kernel_rfl⟩
theorem en26 : Entered Try.prog 26 Try.f26 := ⟨Try.func26, by kernel_rfl, by kernel_rfl⟩
theorem en27 : Entered Try.prog 27 Try.f27 := ⟨Try.func27, by kernel_rfl, by kernel_rfl⟩
theorem en28 : Entered Try.prog 28 Try.f28 := ⟨Try.func28, by kernel_rfl, by kernel_rfl⟩
theorem en29 : Entered Try.prog 29 Try.f29 := ⟨Try.func29, by kernel_rfl, by kernel_rfl⟩
theorem en30 : Entered Try.prog 30 Try.f30 := ⟨Try.func30, by kernel_rfl, by kernel_rfl⟩
theorem en31 : Entered Try.prog 31 Try.f31 := ⟨Try.func31, by kernel_rfl, by kernel_rfl⟩
theorem en32 : Entered Try.prog 32 Try.f32 := ⟨Try.func32, by kernel_rfl, by kernel_rfl⟩
theorem en33 : Entered Try.prog 33 Try.f33 := ⟨Try.func33, by kernel_rfl, by kernel_rfl⟩
theorem en34 : Entered Try.prog 34 Try.f34 := ⟨Try.func34, by kernel_rfl, by kernel_rfl⟩
theorem en35 : Entered Try.prog 35 Try.f35 := ⟨Try.func35, by kernel_rfl, by kernel_rfl⟩
theorem en36 : Entered Try.prog 36 Try.f36 := ⟨Try.func36, by kernel_rfl, by kernel_rfl⟩
theorem en37 : Entered Try.prog 37 Try.f37 := ⟨Try.func37, by kernel_rfl, by kernel_rfl⟩
theorem en38 : Entered Try.prog 38 Try.f38 := ⟨Try.func38, by kernel_rfl, by kernel_rfl⟩
theorem en39 : Entered Try.prog 39 Try.f39 := ⟨Try.func39, by kernel_rfl, by kernel_rfl⟩
theorem en40 : Entered Try.prog 40 Try.f40 := ⟨Try.func40, by kernel_rfl, by kernel_rfl⟩
theorem en41 : Entered Try.prog 41 Try.f41 := ⟨Try.func41, by kernel_rfl, by kernel_rfl⟩
theorem en42 : Entered Try.prog 42 Try.f42 := ⟨Try.func42, by kernel_rfl, by kernel_rfl⟩
theorem en43 : Entered Try.prog 43 Try.f43 := ⟨Try.func43, by kernel_rfl, by kernel_rfl⟩
theorem en44 : Entered Try.prog 44 Try.f44 := ⟨Try.func44, by kernel_rfl, by kernel_rfl⟩
theorem en45 : Entered Try.prog 45 Try.f45 := ⟨Try.func45, by kernel_rfl, by kernel_rfl⟩
theorem en46 : Entered Try.prog 46 Try.f46 := ⟨Try.func46, by kernel_rfl, by kernel_rfl⟩
theorem en47 : Entered Try.prog 47 Try.f47 := ⟨Try.func47, by kernel_rfl, by kernel_rfl⟩
theorem en48 : Entered Try.prog 48 Try.f48 := ⟨Try.func48, by kernel_rfl, by kernel_rfl⟩
theorem en49 : Entered Try.prog 49 Try.f49 := ⟨Try.func49, by kernel_rfl, by kernel_rfl⟩
theorem en50 : Entered Try.prog 50 Try.f50 := ⟨Try.func50, by kernel_rfl, by kernel_rfl⟩
theorem en51 : Entered Try.prog 51 Try.f51 := ⟨Try.func51, by kernel_rfl, by kernel_rfl⟩
theorem en52 : Entered Try.prog 52 Try.f52 := ⟨Try.func52, by kernel_rfl, by kernel_rfl⟩
theorem en53 : Entered Try.prog 53 Try.f53 := ⟨Try.func53, by kernel_rfl, by kernel_rfl⟩
end Go.Proofs.Ytjenbiohcecfnaa
