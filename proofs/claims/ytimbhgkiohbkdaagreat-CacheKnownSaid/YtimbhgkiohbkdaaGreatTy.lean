/-
  The types of this program, a lemma each (printed by a program). Merged: SortA, Sort12, SortN12. The keys of a map of strings, read out of a heap, and sorted. The keys of a map, collected and sorted, at string, for the maps of page.
-/
import Derived.Test.YtimbhgkiohbkdaaGreatProg
import Derived.Test.YtimbhgkiohbkdaaGreatAb17
import Derived.KernelRfl
import Derived.Test.YtimbhgkiohbkdaaGreatAb22
namespace Go.Proofs.YtimbhgkiohbkdaaGreat
open Go.Ab
set_option maxRecDepth 100000
noncomputable def T : Tr TI := tab (tyOf Tryz.prog) 353
theorem tyOK : TyOK Tryz.prog T := tyOK_of Tryz.prog 353
theorem mixed : Tryz.prog.follows .mixedOrders = true := by kernel_rfl
theorem ty0 : T.get 0 = some ⟨1, 0, .tuple #[], some (.tuple #[])⟩ := by kernel_rfl
theorem ty1 : T.get 1 = some ⟨1, 8, .func #[] #[] false, some .nilFunc⟩ := by kernel_rfl
theorem ty2 : T.get 2 = some ⟨1, 8, .int (.i64), some (.int .i64 0)⟩ := by kernel_rfl
theorem ty3 : T.get 3 = some ⟨1, 8, .int (.i64), some (.int .i64 0)⟩ := by kernel_rfl
theorem ty4 : T.get 4 = some ⟨1, 1, .bool, some (.bool false)⟩ := by kernel_rfl
theorem ty5 : T.get 5 = some ⟨1, 1, .int (.u8), some (.int .u8 0)⟩ := by kernel_rfl
theorem ty6 : T.get 6 = some ⟨1, 1, .int (.u8), some (.int .u8 0)⟩ := by kernel_rfl
theorem ty9 : T.get 9 = some ⟨1, 16, .string, some (.string ⟨#[]⟩)⟩ := by kernel_rfl
theorem ty10 : T.get 10 = some ⟨1, 16, .string, some (.string ⟨#[]⟩)⟩ := by kernel_rfl
theorem ty11 : T.get 11 = some ⟨1, 16, .string, some (.string ⟨#[]⟩)⟩ := by kernel_rfl
theorem ty12 : T.get 12 = some ⟨1, 8, .int (.u64), some (.int .u64 0)⟩ := by kernel_rfl
theorem ty15 : T.get 15 = some ⟨1, 8, .pointer 342, some (.pointer none)⟩ := by kernel_rfl
theorem ty16 : T.get 16 = some ⟨1, 8, .pointer 345, some (.pointer none)⟩ := by kernel_rfl
theorem ty17 : T.get 17 = some ⟨1, 8, .pointer 352, some (.pointer none)⟩ := by kernel_rfl
theorem ty20 : T.get 20 = some ⟨1, 16, .interface #[], some .nilIface⟩ := by kernel_rfl
theorem ty21 : T.get 21 = some ⟨1, 4, .int (.i32), some (.int .i32 0)⟩ := by kernel_rfl
theorem ty22 : T.get 22 = some ⟨1, 8, .pointer 109, some (.pointer none)⟩ := by kernel_rfl
theorem ty23 : T.get 23 = some ⟨1, 8, .pointer 60, some (.pointer none)⟩ := by kernel_rfl
theorem ty24 : T.get 24 = some ⟨1, 0, .tuple #[22, 23], some (.tuple #[(.pointer none), (.pointer none)])⟩ := by kernel_rfl
theorem ty25 : T.get 25 = some ⟨1, 8, .func #[] #[22, 23] false, some .nilFunc⟩ := by kernel_rfl
theorem ty26 : T.get 26 = some ⟨1, 8, .func #[] #[3] false, some .nilFunc⟩ := by kernel_rfl
theorem ty27 : T.get 27 = some ⟨1, 8, .int (.u64), some (.int .u64 0)⟩ := by kernel_rfl
theorem ty28 : T.get 28 = some ⟨1, 8, .func #[] #[27] false, some .nilFunc⟩ := by kernel_rfl
theorem ty29 : T.get 29 = some ⟨1, 8, .int (.i64), some (.int .i64 0)⟩ := by kernel_rfl
theorem ty30 : T.get 30 = some ⟨1, 8, .func #[33] #[29] false, some .nilFunc⟩ := by kernel_rfl
theorem ty31 : T.get 31 = some ⟨1, 8, .func #[5] #[9] false, some .nilFunc⟩ := by kernel_rfl
theorem ty32 : T.get 32 = some ⟨4, 48, .struct #[{ name := "Key", type := 9, offset := 0, embedded := false, tag := "", pkgPath := "", byteOffset := 0 }, { name := "Lsn", type := 27, offset := 1, embedded := false, tag := "", pkgPath := "", byteOffset := 16 }, { name := "Del", type := 4, offset := 2, embedded := false, tag := "", pkgPath := "", byteOffset := 24 }, { name := "Val", type := 9, offset := 3, embedded := false, tag := "", pkgPath := "", byteOffset := 32 }], some (.agg #[(.string ⟨#[]⟩), (.int .u64 0), (.bool false), (.string ⟨#[]⟩)])⟩ := by kernel_rfl
theorem ty33 : T.get 33 = some ⟨4, 48, .struct #[{ name := "Key", type := 9, offset := 0, embedded := false, tag := "", pkgPath := "", byteOffset := 0 }, { name := "Lsn", type := 27, offset := 1, embedded := false, tag := "", pkgPath := "", byteOffset := 16 }, { name := "Del", type := 4, offset := 2, embedded := false, tag := "", pkgPath := "", byteOffset := 24 }, { name := "Val", type := 9, offset := 3, embedded := false, tag := "", pkgPath := "", byteOffset := 32 }], some (.agg #[(.string ⟨#[]⟩), (.int .u64 0), (.bool false), (.string ⟨#[]⟩)])⟩ := by kernel_rfl
theorem ty34 : T.get 34 = some ⟨1, 8, .func #[27, 27] #[] false, some .nilFunc⟩ := by kernel_rfl
theorem ty35 : T.get 35 = some ⟨1, 8, .func #[3] #[3] false, some .nilFunc⟩ := by kernel_rfl
theorem ty36 : T.get 36 = some ⟨1, 8, .func #[9] #[29] false, some .nilFunc⟩ := by kernel_rfl
theorem ty37 : T.get 37 = some ⟨1, 24, .slice 33, some (.slice none 0 0)⟩ := by kernel_rfl
theorem ty38 : T.get 38 = some ⟨1, 0, .tuple #[37, 29], some (.tuple #[(.slice none 0 0), (.int .i64 0)])⟩ := by kernel_rfl
theorem ty39 : T.get 39 = some ⟨1, 8, .func #[] #[37, 29] false, some .nilFunc⟩ := by kernel_rfl
theorem ty40 : T.get 40 = some ⟨1, 8, .func #[9, 9] #[37, 29] false, some .nilFunc⟩ := by kernel_rfl
theorem ty41 : T.get 41 = some ⟨1, 0, .tuple #[23, 9], some (.tuple #[(.pointer none), (.string ⟨#[]⟩)])⟩ := by kernel_rfl
theorem ty42 : T.get 42 = some ⟨1, 8, .func #[22] #[23, 9] false, some .nilFunc⟩ := by kernel_rfl
theorem ty43 : T.get 43 = some ⟨1, 8, .pointer 89, some (.pointer none)⟩ := by kernel_rfl
theorem ty44 : T.get 44 = some ⟨1, 0, .tuple #[43, 29], some (.tuple #[(.pointer none), (.int .i64 0)])⟩ := by kernel_rfl
theorem ty45 : T.get 45 = some ⟨1, 8, .func #[22, 3, 3] #[43, 29] false, some .nilFunc⟩ := by kernel_rfl
theorem ty46 : T.get 46 = some ⟨1, 0, .tuple #[23, 29], some (.tuple #[(.pointer none), (.int .i64 0)])⟩ := by kernel_rfl
theorem ty47 : T.get 47 = some ⟨1, 8, .func #[43] #[23, 29] false, some .nilFunc⟩ := by kernel_rfl
theorem ty48 : T.get 48 = some ⟨1, 0, .tuple #[33, 29], some (.tuple #[(.agg #[(.string ⟨#[]⟩), (.int .u64 0), (.bool false), (.string ⟨#[]⟩)]), (.int .i64 0)])⟩ := by kernel_rfl
theorem ty49 : T.get 49 = some ⟨1, 8, .func #[9] #[33, 29] false, some .nilFunc⟩ := by kernel_rfl
theorem ty50 : T.get 50 = some ⟨1, 8, .func #[27] #[] false, some .nilFunc⟩ := by kernel_rfl
theorem ty51 : T.get 51 = some ⟨1, 0, .tuple #[23, 9, 29], some (.tuple #[(.pointer none), (.string ⟨#[]⟩), (.int .i64 0)])⟩ := by kernel_rfl
theorem ty52 : T.get 52 = some ⟨1, 8, .func #[43] #[23, 9, 29] false, some .nilFunc⟩ := by kernel_rfl
theorem ty53 : T.get 53 = some ⟨1, 8, .func #[] #[4] false, some .nilFunc⟩ := by kernel_rfl
theorem ty54 : T.get 54 = some ⟨1, 8, .func #[3] #[22] false, some .nilFunc⟩ := by kernel_rfl
theorem ty55 : T.get 55 = some ⟨1, 8, .func #[22, 3, 3] #[29] false, some .nilFunc⟩ := by kernel_rfl
theorem ty56 : T.get 56 = some ⟨1, 24, .slice 27, some (.slice none 0 0)⟩ := by kernel_rfl
theorem ty57 : T.get 57 = some ⟨1, 8, .func #[9, 9] #[56] false, some .nilFunc⟩ := by kernel_rfl
theorem ty58 : T.get 58 = some ⟨1, 8, .pointer 116, some (.pointer none)⟩ := by kernel_rfl
theorem ty59 : T.get 59 = some ⟨2, 16, .struct #[{ name := "Tree", type := 58, offset := 0, embedded := true, tag := "", pkgPath := "", byteOffset := 0 }, { name := "store", type := 43, offset := 1, embedded := false, tag := "", pkgPath := "couplet/cache", byteOffset := 8 }], some (.agg #[(.pointer none), (.pointer none)])⟩ := by kernel_rfl
theorem ty60 : T.get 60 = some ⟨2, 16, .struct #[{ name := "Tree", type := 58, offset := 0, embedded := true, tag := "", pkgPath := "", byteOffset := 0 }, { name := "store", type := 43, offset := 1, embedded := false, tag := "", pkgPath := "couplet/cache", byteOffset := 8 }], some (.agg #[(.pointer none), (.pointer none)])⟩ := by kernel_rfl
theorem ty61 : T.get 61 = some ⟨1, 8, .func #[56, 62] #[56] false, some .nilFunc⟩ := by kernel_rfl
theorem ty62 : T.get 62 = some ⟨1, 8, .func #[27] #[4] false, some .nilFunc⟩ := by kernel_rfl
theorem ty63 : T.get 63 = some ⟨1, 8, .func #[56] #[29] true, some .nilFunc⟩ := by kernel_rfl
theorem ty64 : T.get 64 = some ⟨1, 8, .func #[9] #[27] false, some .nilFunc⟩ := by kernel_rfl
theorem ty65 : T.get 65 = some ⟨1, 24, .slice 5, some (.slice none 0 0)⟩ := by kernel_rfl
theorem ty66 : T.get 66 = some ⟨1, 0, .tuple #[27, 27], some (.tuple #[(.int .u64 0), (.int .u64 0)])⟩ := by kernel_rfl
theorem ty67 : T.get 67 = some ⟨1, 8, .func #[27] #[27, 27] false, some .nilFunc⟩ := by kernel_rfl
theorem ty68 : T.get 68 = some ⟨1, 8, .func #[27] #[29] false, some .nilFunc⟩ := by kernel_rfl
theorem ty69 : T.get 69 = some ⟨1, 24, .slice 77, some (.slice none 0 0)⟩ := by kernel_rfl
theorem ty70 : T.get 70 = some ⟨1, 0, .tuple #[69, 56], some (.tuple #[(.slice none 0 0), (.slice none 0 0)])⟩ := by kernel_rfl
theorem ty71 : T.get 71 = some ⟨1, 8, .func #[] #[69, 56] false, some .nilFunc⟩ := by kernel_rfl
theorem ty72 : T.get 72 = some ⟨1, 8, .func #[] #[9] false, some .nilFunc⟩ := by kernel_rfl
theorem ty73 : T.get 73 = some ⟨1, 0, .tuple #[9, 29], some (.tuple #[(.string ⟨#[]⟩), (.int .i64 0)])⟩ := by kernel_rfl
theorem ty74 : T.get 74 = some ⟨1, 8, .func #[27] #[9, 29] false, some .nilFunc⟩ := by kernel_rfl
theorem ty75 : T.get 75 = some ⟨1, 8, .func #[69, 56, 9] #[29] false, some .nilFunc⟩ := by kernel_rfl
theorem ty76 : T.get 76 = some ⟨2, 24, .struct #[{ name := "Pid", type := 27, offset := 0, embedded := false, tag := "", pkgPath := "", byteOffset := 0 }, { name := "Bytes", type := 9, offset := 1, embedded := false, tag := "", pkgPath := "", byteOffset := 8 }], some (.agg #[(.int .u64 0), (.string ⟨#[]⟩)])⟩ := by kernel_rfl
theorem ty77 : T.get 77 = some ⟨2, 24, .struct #[{ name := "Pid", type := 27, offset := 0, embedded := false, tag := "", pkgPath := "", byteOffset := 0 }, { name := "Bytes", type := 9, offset := 1, embedded := false, tag := "", pkgPath := "", byteOffset := 8 }], some (.agg #[(.int .u64 0), (.string ⟨#[]⟩)])⟩ := by kernel_rfl
theorem ty78 : T.get 78 = some ⟨1, 8, .pointer 151, some (.pointer none)⟩ := by kernel_rfl
theorem ty79 : T.get 79 = some ⟨1, 0, .tuple #[78, 29], some (.tuple #[(.pointer none), (.int .i64 0)])⟩ := by kernel_rfl
theorem ty80 : T.get 80 = some ⟨1, 8, .func #[22, 3] #[78, 29] false, some .nilFunc⟩ := by kernel_rfl
theorem ty81 : T.get 81 = some ⟨1, 8, .pointer 158, some (.pointer none)⟩ := by kernel_rfl
theorem ty82 : T.get 82 = some ⟨1, 8, .func #[3, 3] #[81] false, some .nilFunc⟩ := by kernel_rfl
theorem ty83 : T.get 83 = some ⟨1, 8, .map 27 87, some (.map none)⟩ := by kernel_rfl
theorem ty84 : T.get 84 = some ⟨3, 24, .struct #[{ name := "Seg", type := 3, offset := 0, embedded := false, tag := "", pkgPath := "", byteOffset := 0 }, { name := "At", type := 3, offset := 1, embedded := false, tag := "", pkgPath := "", byteOffset := 8 }, { name := "N", type := 3, offset := 2, embedded := false, tag := "", pkgPath := "", byteOffset := 16 }], some (.agg #[(.int .i64 0), (.int .i64 0), (.int .i64 0)])⟩ := by kernel_rfl
theorem ty85 : T.get 85 = some ⟨3, 24, .struct #[{ name := "Seg", type := 3, offset := 0, embedded := false, tag := "", pkgPath := "", byteOffset := 0 }, { name := "At", type := 3, offset := 1, embedded := false, tag := "", pkgPath := "", byteOffset := 8 }, { name := "N", type := 3, offset := 2, embedded := false, tag := "", pkgPath := "", byteOffset := 16 }], some (.agg #[(.int .i64 0), (.int .i64 0), (.int .i64 0)])⟩ := by kernel_rfl
theorem ty86 : T.get 86 = some ⟨4, 32, .struct #[{ name := "Loc", type := 85, offset := 0, embedded := true, tag := "", pkgPath := "", byteOffset := 0 }, { name := "n", type := 3, offset := 3, embedded := false, tag := "", pkgPath := "couplet/lss", byteOffset := 24 }], some (.agg #[(.int .i64 0), (.int .i64 0), (.int .i64 0), (.int .i64 0)])⟩ := by kernel_rfl
theorem ty87 : T.get 87 = some ⟨4, 32, .struct #[{ name := "Loc", type := 85, offset := 0, embedded := true, tag := "", pkgPath := "", byteOffset := 0 }, { name := "n", type := 3, offset := 3, embedded := false, tag := "", pkgPath := "couplet/lss", byteOffset := 24 }], some (.agg #[(.int .i64 0), (.int .i64 0), (.int .i64 0), (.int .i64 0)])⟩ := by kernel_rfl
theorem ty88 : T.get 88 = some ⟨12, 104, .struct #[{ name := "d", type := 22, offset := 0, embedded := false, tag := "", pkgPath := "couplet/lss", byteOffset := 0 }, { name := "twin", type := 78, offset := 1, embedded := false, tag := "", pkgPath := "couplet/lss", byteOffset := 8 }, { name := "segs", type := 3, offset := 2, embedded := false, tag := "", pkgPath := "couplet/lss", byteOffset := 16 }, { name := "per", type := 3, offset := 3, embedded := false, tag := "", pkgPath := "couplet/lss", byteOffset := 24 }, { name := "space", type := 81, offset := 4, embedded := false, tag := "", pkgPath := "couplet/lss", byteOffset := 32 }, { name := "images", type := 83, offset := 5, embedded := false, tag := "", pkgPath := "couplet/lss", byteOffset := 40 }, { name := "table", type := 87, offset := 6, embedded := false, tag := "", pkgPath := "couplet/lss", byteOffset := 48 }, { name := "meta", type := 9, offset := 10, embedded := false, tag := "", pkgPath := "couplet/lss", byteOffset := 80 }, { name := "over", type := 4, offset := 11, embedded := false, tag := "", pkgPath := "couplet/lss", byteOffset := 96 }], some (.agg #[(.pointer none), (.pointer none), (.int .i64 0), (.int .i64 0), (.pointer none), (.map none), (.int .i64 0), (.int .i64 0), (.int .i64 0), (.int .i64 0), (.string ⟨#[]⟩), (.bool false)])⟩ := by kernel_rfl
theorem ty89 : T.get 89 = some ⟨12, 104, .struct #[{ name := "d", type := 22, offset := 0, embedded := false, tag := "", pkgPath := "couplet/lss", byteOffset := 0 }, { name := "twin", type := 78, offset := 1, embedded := false, tag := "", pkgPath := "couplet/lss", byteOffset := 8 }, { name := "segs", type := 3, offset := 2, embedded := false, tag := "", pkgPath := "couplet/lss", byteOffset := 16 }, { name := "per", type := 3, offset := 3, embedded := false, tag := "", pkgPath := "couplet/lss", byteOffset := 24 }, { name := "space", type := 81, offset := 4, embedded := false, tag := "", pkgPath := "couplet/lss", byteOffset := 32 }, { name := "images", type := 83, offset := 5, embedded := false, tag := "", pkgPath := "couplet/lss", byteOffset := 40 }, { name := "table", type := 87, offset := 6, embedded := false, tag := "", pkgPath := "couplet/lss", byteOffset := 48 }, { name := "meta", type := 9, offset := 10, embedded := false, tag := "", pkgPath := "couplet/lss", byteOffset := 80 }, { name := "over", type := 4, offset := 11, embedded := false, tag := "", pkgPath := "couplet/lss", byteOffset := 96 }], some (.agg #[(.pointer none), (.pointer none), (.int .i64 0), (.int .i64 0), (.pointer none), (.map none), (.int .i64 0), (.int .i64 0), (.int .i64 0), (.int .i64 0), (.string ⟨#[]⟩), (.bool false)])⟩ := by kernel_rfl
theorem ty90 : T.get 90 = some ⟨1, 8, .pointer 163, some (.pointer none)⟩ := by kernel_rfl
theorem ty91 : T.get 91 = some ⟨1, 8, .func #[9] #[90] false, some .nilFunc⟩ := by kernel_rfl
theorem ty92 : T.get 92 = some ⟨1, 0, .tuple #[87, 4], some (.tuple #[(.agg #[(.int .i64 0), (.int .i64 0), (.int .i64 0), (.int .i64 0)]), (.bool false)])⟩ := by kernel_rfl
theorem ty93 : T.get 93 = some ⟨1, 8, .func #[90] #[87, 4] false, some .nilFunc⟩ := by kernel_rfl
theorem ty94 : T.get 94 = some ⟨1, 8, .func #[87] #[9, 29] false, some .nilFunc⟩ := by kernel_rfl
theorem ty95 : T.get 95 = some ⟨1, 8, .func #[9] #[4] false, some .nilFunc⟩ := by kernel_rfl
theorem ty96 : T.get 96 = some ⟨1, 8, .func #[85] #[29] false, some .nilFunc⟩ := by kernel_rfl
theorem ty97 : T.get 97 = some ⟨1, 8, .func #[176] #[] false, some .nilFunc⟩ := by kernel_rfl
theorem ty98 : T.get 98 = some ⟨1, 8, .func #[176] #[] false, some .nilFunc⟩ := by kernel_rfl
theorem ty99 : T.get 99 = some ⟨1, 8, .func #[] #[98] false, some .nilFunc⟩ := by kernel_rfl
theorem ty100 : T.get 100 = some ⟨1, 8, .func #[] #[56] false, some .nilFunc⟩ := by kernel_rfl
theorem ty101 : T.get 101 = some ⟨1, 8, .func #[] #[58] false, some .nilFunc⟩ := by kernel_rfl
theorem ty102 : T.get 102 = some ⟨1, 0, .tuple #[58, 29], some (.tuple #[(.pointer none), (.int .i64 0)])⟩ := by kernel_rfl
theorem ty103 : T.get 103 = some ⟨1, 8, .func #[9] #[58, 29] false, some .nilFunc⟩ := by kernel_rfl
theorem ty104 : T.get 104 = some ⟨1, 8, .func #[56] #[] false, some .nilFunc⟩ := by kernel_rfl
theorem ty105 : T.get 105 = some ⟨1, 8, .func #[56, 56] #[4] false, some .nilFunc⟩ := by kernel_rfl
theorem ty106 : T.get 106 = some ⟨1, 24, .slice 9, some (.slice none 0 0)⟩ := by kernel_rfl
theorem ty107 : T.get 107 = some ⟨1, 24, .slice 255, some (.slice none 0 0)⟩ := by kernel_rfl
theorem ty108 : T.get 108 = some ⟨5, 88, .struct #[{ name := "now", type := 106, offset := 0, embedded := false, tag := "", pkgPath := "couplet/disk", byteOffset := 0 }, { name := "flushed", type := 106, offset := 1, embedded := false, tag := "", pkgPath := "couplet/disk", byteOffset := 24 }, { name := "writes", type := 107, offset := 2, embedded := false, tag := "", pkgPath := "couplet/disk", byteOffset := 48 }, { name := "on", type := 4, offset := 3, embedded := false, tag := "", pkgPath := "couplet/disk", byteOffset := 72 }, { name := "fuse", type := 3, offset := 4, embedded := false, tag := "", pkgPath := "couplet/disk", byteOffset := 80 }], some (.agg #[(.slice none 0 0), (.slice none 0 0), (.slice none 0 0), (.bool false), (.int .i64 0)])⟩ := by kernel_rfl
theorem ty109 : T.get 109 = some ⟨5, 88, .struct #[{ name := "now", type := 106, offset := 0, embedded := false, tag := "", pkgPath := "couplet/disk", byteOffset := 0 }, { name := "flushed", type := 106, offset := 1, embedded := false, tag := "", pkgPath := "couplet/disk", byteOffset := 24 }, { name := "writes", type := 107, offset := 2, embedded := false, tag := "", pkgPath := "couplet/disk", byteOffset := 48 }, { name := "on", type := 4, offset := 3, embedded := false, tag := "", pkgPath := "couplet/disk", byteOffset := 72 }, { name := "fuse", type := 3, offset := 4, embedded := false, tag := "", pkgPath := "couplet/disk", byteOffset := 80 }], some (.agg #[(.slice none 0 0), (.slice none 0 0), (.slice none 0 0), (.bool false), (.int .i64 0)])⟩ := by kernel_rfl
theorem ty110 : T.get 110 = some ⟨1, 8, .func #[106] #[106] false, some .nilFunc⟩ := by kernel_rfl
theorem ty111 : T.get 111 = some ⟨1, 8, .func #[22, 3] #[29] false, some .nilFunc⟩ := by kernel_rfl
theorem ty112 : T.get 112 = some ⟨1, 8, .pointer 190, some (.pointer none)⟩ := by kernel_rfl
theorem ty113 : T.get 113 = some ⟨1, 8, .map 27 119, some (.map none)⟩ := by kernel_rfl
theorem ty114 : T.get 114 = some ⟨1, 8, .map 27 4, some (.map none)⟩ := by kernel_rfl
theorem ty115 : T.get 115 = some ⟨7, 56, .struct #[{ name := "fence", type := 112, offset := 0, embedded := false, tag := "", pkgPath := "couplet/tree", byteOffset := 0 }, { name := "next", type := 27, offset := 1, embedded := false, tag := "", pkgPath := "couplet/tree", byteOffset := 8 }, { name := "eosl", type := 27, offset := 2, embedded := false, tag := "", pkgPath := "couplet/tree", byteOffset := 16 }, { name := "low", type := 27, offset := 3, embedded := false, tag := "", pkgPath := "couplet/tree", byteOffset := 24 }, { name := "here", type := 113, offset := 4, embedded := false, tag := "", pkgPath := "couplet/tree", byteOffset := 32 }, { name := "kept", type := 114, offset := 5, embedded := false, tag := "", pkgPath := "couplet/tree", byteOffset := 40 }, { name := "gone", type := 114, offset := 6, embedded := false, tag := "", pkgPath := "couplet/tree", byteOffset := 48 }], some (.agg #[(.pointer none), (.int .u64 0), (.int .u64 0), (.int .u64 0), (.map none), (.map none), (.map none)])⟩ := by kernel_rfl
theorem ty116 : T.get 116 = some ⟨7, 56, .struct #[{ name := "fence", type := 112, offset := 0, embedded := false, tag := "", pkgPath := "couplet/tree", byteOffset := 0 }, { name := "next", type := 27, offset := 1, embedded := false, tag := "", pkgPath := "couplet/tree", byteOffset := 8 }, { name := "eosl", type := 27, offset := 2, embedded := false, tag := "", pkgPath := "couplet/tree", byteOffset := 16 }, { name := "low", type := 27, offset := 3, embedded := false, tag := "", pkgPath := "couplet/tree", byteOffset := 24 }, { name := "here", type := 113, offset := 4, embedded := false, tag := "", pkgPath := "couplet/tree", byteOffset := 32 }, { name := "kept", type := 114, offset := 5, embedded := false, tag := "", pkgPath := "couplet/tree", byteOffset := 40 }, { name := "gone", type := 114, offset := 6, embedded := false, tag := "", pkgPath := "couplet/tree", byteOffset := 48 }], some (.agg #[(.pointer none), (.int .u64 0), (.int .u64 0), (.int .u64 0), (.map none), (.map none), (.map none)])⟩ := by kernel_rfl
theorem ty117 : T.get 117 = some ⟨1, 8, .func #[3] #[9] false, some .nilFunc⟩ := by kernel_rfl
theorem ty118 : T.get 118 = some ⟨1, 8, .func #[56, 62] #[3] false, some .nilFunc⟩ := by kernel_rfl
theorem ty119 : T.get 119 = some ⟨1, 8, .pointer 124, some (.pointer none)⟩ := by kernel_rfl
theorem ty120 : T.get 120 = some ⟨1, 8, .func #[122, 33] #[4] false, some .nilFunc⟩ := by kernel_rfl
theorem ty121 : T.get 121 = some ⟨5, 88, .struct #[{ name := "Low", type := 9, offset := 0, embedded := false, tag := "", pkgPath := "", byteOffset := 0 }, { name := "High", type := 9, offset := 1, embedded := false, tag := "", pkgPath := "", byteOffset := 16 }, { name := "Full", type := 27, offset := 2, embedded := false, tag := "", pkgPath := "", byteOffset := 32 }, { name := "Base", type := 37, offset := 3, embedded := false, tag := "", pkgPath := "", byteOffset := 40 }, { name := "Deltas", type := 37, offset := 4, embedded := false, tag := "", pkgPath := "", byteOffset := 64 }], some (.agg #[(.string ⟨#[]⟩), (.string ⟨#[]⟩), (.int .u64 0), (.slice none 0 0), (.slice none 0 0)])⟩ := by kernel_rfl
theorem ty122 : T.get 122 = some ⟨5, 88, .struct #[{ name := "Low", type := 9, offset := 0, embedded := false, tag := "", pkgPath := "", byteOffset := 0 }, { name := "High", type := 9, offset := 1, embedded := false, tag := "", pkgPath := "", byteOffset := 16 }, { name := "Full", type := 27, offset := 2, embedded := false, tag := "", pkgPath := "", byteOffset := 32 }, { name := "Base", type := 37, offset := 3, embedded := false, tag := "", pkgPath := "", byteOffset := 40 }, { name := "Deltas", type := 37, offset := 4, embedded := false, tag := "", pkgPath := "", byteOffset := 64 }], some (.agg #[(.string ⟨#[]⟩), (.string ⟨#[]⟩), (.int .u64 0), (.slice none 0 0), (.slice none 0 0)])⟩ := by kernel_rfl
theorem ty123 : T.get 123 = some ⟨6, 96, .struct #[{ name := "Leaf", type := 122, offset := 0, embedded := true, tag := "", pkgPath := "", byteOffset := 0 }, { name := "dirty", type := 4, offset := 5, embedded := false, tag := "", pkgPath := "couplet/tree", byteOffset := 88 }], some (.agg #[(.string ⟨#[]⟩), (.string ⟨#[]⟩), (.int .u64 0), (.slice none 0 0), (.slice none 0 0), (.bool false)])⟩ := by kernel_rfl
theorem ty124 : T.get 124 = some ⟨6, 96, .struct #[{ name := "Leaf", type := 122, offset := 0, embedded := true, tag := "", pkgPath := "", byteOffset := 0 }, { name := "dirty", type := 4, offset := 5, embedded := false, tag := "", pkgPath := "couplet/tree", byteOffset := 88 }], some (.agg #[(.string ⟨#[]⟩), (.string ⟨#[]⟩), (.int .u64 0), (.slice none 0 0), (.slice none 0 0), (.bool false)])⟩ := by kernel_rfl
theorem ty125 : T.get 125 = some ⟨1, 8, .func #[122] #[106] false, some .nilFunc⟩ := by kernel_rfl
theorem ty126 : T.get 126 = some ⟨1, 8, .func #[106, 9] #[4] false, some .nilFunc⟩ := by kernel_rfl
theorem ty127 : T.get 127 = some ⟨1, 0, .tuple #[122, 4], some (.tuple #[(.agg #[(.string ⟨#[]⟩), (.string ⟨#[]⟩), (.int .u64 0), (.slice none 0 0), (.slice none 0 0)]), (.bool false)])⟩ := by kernel_rfl
theorem ty128 : T.get 128 = some ⟨1, 8, .func #[122, 33] #[122, 4] false, some .nilFunc⟩ := by kernel_rfl
theorem ty129 : T.get 129 = some ⟨1, 8, .func #[214] #[] true, some .nilFunc⟩ := by kernel_rfl
theorem ty130 : T.get 130 = some ⟨1, 8, .func #[122, 27] #[122] false, some .nilFunc⟩ := by kernel_rfl
theorem ty131 : T.get 131 = some ⟨1, 8, .func #[122] #[122] false, some .nilFunc⟩ := by kernel_rfl
theorem ty132 : T.get 132 = some ⟨1, 8, .func #[56, 27] #[3] false, some .nilFunc⟩ := by kernel_rfl
theorem ty133 : T.get 133 = some ⟨1, 8, .func #[27, 27] #[4] false, some .nilFunc⟩ := by kernel_rfl
theorem ty134 : T.get 134 = some ⟨1, 8, .func #[122, 27] #[9] false, some .nilFunc⟩ := by kernel_rfl
theorem ty135 : T.get 135 = some ⟨1, 8, .func #[137] #[56] false, some .nilFunc⟩ := by kernel_rfl
theorem ty136 : T.get 136 = some ⟨1, 8, .func #[62] #[] false, some .nilFunc⟩ := by kernel_rfl
theorem ty137 : T.get 137 = some ⟨1, 8, .func #[62] #[] false, some .nilFunc⟩ := by kernel_rfl
theorem ty138 : T.get 138 = some ⟨1, 8, .func #[114] #[137] false, some .nilFunc⟩ := by kernel_rfl
theorem ty139 : T.get 139 = some ⟨1, 8, .func #[9, 9] #[9] false, some .nilFunc⟩ := by kernel_rfl
theorem ty140 : T.get 140 = some ⟨1, 8, .func #[9, 27] #[9] false, some .nilFunc⟩ := by kernel_rfl
theorem ty141 : T.get 141 = some ⟨1, 8, .func #[] #[29] false, some .nilFunc⟩ := by kernel_rfl
theorem ty142 : T.get 142 = some ⟨1, 8, .func #[69, 56, 9, 4] #[29] false, some .nilFunc⟩ := by kernel_rfl
theorem ty143 : T.get 143 = some ⟨1, 8, .func #[37, 144] #[4] false, some .nilFunc⟩ := by kernel_rfl
theorem ty144 : T.get 144 = some ⟨1, 8, .func #[33] #[4] false, some .nilFunc⟩ := by kernel_rfl
theorem ty145 : T.get 145 = some ⟨1, 8, .func #[56, 62] #[4] false, some .nilFunc⟩ := by kernel_rfl
theorem ty146 : T.get 146 = some ⟨1, 8, .func #[144] #[] false, some .nilFunc⟩ := by kernel_rfl
theorem ty147 : T.get 147 = some ⟨1, 8, .func #[144] #[] false, some .nilFunc⟩ := by kernel_rfl
theorem ty148 : T.get 148 = some ⟨1, 8, .func #[56] #[147] false, some .nilFunc⟩ := by kernel_rfl
theorem ty149 : T.get 149 = some ⟨1, 8, .func #[230] #[29] true, some .nilFunc⟩ := by kernel_rfl
theorem ty150 : T.get 150 = some ⟨5, 48, .struct #[{ name := "disk", type := 22, offset := 0, embedded := false, tag := "", pkgPath := "couplet/twin", byteOffset := 0 }, { name := "at", type := 3, offset := 1, embedded := false, tag := "", pkgPath := "couplet/twin", byteOffset := 8 }, { name := "seq", type := 27, offset := 2, embedded := false, tag := "", pkgPath := "couplet/twin", byteOffset := 16 }, { name := "text", type := 9, offset := 3, embedded := false, tag := "", pkgPath := "couplet/twin", byteOffset := 24 }, { name := "lost", type := 4, offset := 4, embedded := false, tag := "", pkgPath := "couplet/twin", byteOffset := 40 }], some (.agg #[(.pointer none), (.int .i64 0), (.int .u64 0), (.string ⟨#[]⟩), (.bool false)])⟩ := by kernel_rfl
theorem ty151 : T.get 151 = some ⟨5, 48, .struct #[{ name := "disk", type := 22, offset := 0, embedded := false, tag := "", pkgPath := "couplet/twin", byteOffset := 0 }, { name := "at", type := 3, offset := 1, embedded := false, tag := "", pkgPath := "couplet/twin", byteOffset := 8 }, { name := "seq", type := 27, offset := 2, embedded := false, tag := "", pkgPath := "couplet/twin", byteOffset := 16 }, { name := "text", type := 9, offset := 3, embedded := false, tag := "", pkgPath := "couplet/twin", byteOffset := 24 }, { name := "lost", type := 4, offset := 4, embedded := false, tag := "", pkgPath := "couplet/twin", byteOffset := 40 }], some (.agg #[(.pointer none), (.int .i64 0), (.int .u64 0), (.string ⟨#[]⟩), (.bool false)])⟩ := by kernel_rfl
theorem ty152 : T.get 152 = some ⟨1, 8, .func #[3] #[9, 29] false, some .nilFunc⟩ := by kernel_rfl
theorem ty153 : T.get 153 = some ⟨1, 8, .int (.u64), some (.int .u64 0)⟩ := by kernel_rfl
theorem ty154 : T.get 154 = some ⟨1, 8, .func #[27, 9] #[9] false, some .nilFunc⟩ := by kernel_rfl
theorem ty155 : T.get 155 = some ⟨1, 8, .func #[3] #[29] false, some .nilFunc⟩ := by kernel_rfl
theorem ty156 : T.get 156 = some ⟨1, 24, .slice 161, some (.slice none 0 0)⟩ := by kernel_rfl
theorem ty157 : T.get 157 = some ⟨4, 48, .struct #[{ name := "segs", type := 156, offset := 0, embedded := false, tag := "", pkgPath := "couplet/space", byteOffset := 0 }, { name := "per", type := 3, offset := 1, embedded := false, tag := "", pkgPath := "couplet/space", byteOffset := 24 }, { name := "now", type := 3, offset := 2, embedded := false, tag := "", pkgPath := "couplet/space", byteOffset := 32 }, { name := "mark", type := 3, offset := 3, embedded := false, tag := "", pkgPath := "couplet/space", byteOffset := 40 }], some (.agg #[(.slice none 0 0), (.int .i64 0), (.int .i64 0), (.int .i64 0)])⟩ := by kernel_rfl
theorem ty158 : T.get 158 = some ⟨4, 48, .struct #[{ name := "segs", type := 156, offset := 0, embedded := false, tag := "", pkgPath := "couplet/space", byteOffset := 0 }, { name := "per", type := 3, offset := 1, embedded := false, tag := "", pkgPath := "couplet/space", byteOffset := 24 }, { name := "now", type := 3, offset := 2, embedded := false, tag := "", pkgPath := "couplet/space", byteOffset := 32 }, { name := "mark", type := 3, offset := 3, embedded := false, tag := "", pkgPath := "couplet/space", byteOffset := 40 }], some (.agg #[(.slice none 0 0), (.int .i64 0), (.int .i64 0), (.int .i64 0)])⟩ := by kernel_rfl
theorem ty159 : T.get 159 = some ⟨1, 8, .map 3 3, some (.map none)⟩ := by kernel_rfl
theorem ty160 : T.get 160 = some ⟨2, 16, .struct #[{ name := "pieces", type := 159, offset := 0, embedded := false, tag := "", pkgPath := "couplet/space", byteOffset := 0 }, { name := "live", type := 3, offset := 1, embedded := false, tag := "", pkgPath := "couplet/space", byteOffset := 8 }], some (.agg #[(.map none), (.int .i64 0)])⟩ := by kernel_rfl
theorem ty161 : T.get 161 = some ⟨2, 16, .struct #[{ name := "pieces", type := 159, offset := 0, embedded := false, tag := "", pkgPath := "couplet/space", byteOffset := 0 }, { name := "live", type := 3, offset := 1, embedded := false, tag := "", pkgPath := "couplet/space", byteOffset := 8 }], some (.agg #[(.map none), (.int .i64 0)])⟩ := by kernel_rfl
theorem ty162 : T.get 162 = some ⟨2, 24, .struct #[{ name := "left", type := 9, offset := 0, embedded := false, tag := "", pkgPath := "couplet/wire", byteOffset := 0 }, { name := "bad", type := 4, offset := 1, embedded := false, tag := "", pkgPath := "couplet/wire", byteOffset := 16 }], some (.agg #[(.string ⟨#[]⟩), (.bool false)])⟩ := by kernel_rfl
theorem ty163 : T.get 163 = some ⟨2, 24, .struct #[{ name := "left", type := 9, offset := 0, embedded := false, tag := "", pkgPath := "couplet/wire", byteOffset := 0 }, { name := "bad", type := 4, offset := 1, embedded := false, tag := "", pkgPath := "couplet/wire", byteOffset := 16 }], some (.agg #[(.string ⟨#[]⟩), (.bool false)])⟩ := by kernel_rfl
theorem ty164 : T.get 164 = some ⟨1, 8, .pointer 166, some (.pointer none)⟩ := by kernel_rfl
theorem ty165 : T.get 165 = some ⟨2, 32, .struct #[{ name := "addr", type := 164, offset := 0, embedded := false, tag := "", pkgPath := "strings", byteOffset := 0 }, { name := "buf", type := 65, offset := 1, embedded := false, tag := "", pkgPath := "strings", byteOffset := 8 }], some (.agg #[(.pointer none), (.slice none 0 0)])⟩ := by kernel_rfl
theorem ty166 : T.get 166 = some ⟨2, 32, .struct #[{ name := "addr", type := 164, offset := 0, embedded := false, tag := "", pkgPath := "strings", byteOffset := 0 }, { name := "buf", type := 65, offset := 1, embedded := false, tag := "", pkgPath := "strings", byteOffset := 8 }], some (.agg #[(.pointer none), (.slice none 0 0)])⟩ := by kernel_rfl
theorem ty167 : T.get 167 = some ⟨1, 8, .func #[85, 3] #[3] false, some .nilFunc⟩ := by kernel_rfl
theorem ty168 : T.get 168 = some ⟨1, 16, .interface #[("Error", 72)], some .nilIface⟩ := by kernel_rfl
theorem ty169 : T.get 169 = some ⟨1, 16, .interface #[("Error", 72)], some .nilIface⟩ := by kernel_rfl
theorem ty170 : T.get 170 = some ⟨1, 0, .tuple #[3, 169], some (.tuple #[(.int .i64 0), .nilIface])⟩ := by kernel_rfl
theorem ty171 : T.get 171 = some ⟨1, 8, .func #[9] #[3, 169] false, some .nilFunc⟩ := by kernel_rfl
theorem ty172 : T.get 172 = some ⟨1, 0, .tuple #[9, 4], some (.tuple #[(.string ⟨#[]⟩), (.bool false)])⟩ := by kernel_rfl
theorem ty173 : T.get 173 = some ⟨1, 8, .func #[9] #[9, 4] false, some .nilFunc⟩ := by kernel_rfl
theorem ty174 : T.get 174 = some ⟨1, 8, .func #[85] #[4] false, some .nilFunc⟩ := by kernel_rfl
theorem ty175 : T.get 175 = some ⟨1, 8, .func #[85] #[] false, some .nilFunc⟩ := by kernel_rfl
theorem ty176 : T.get 176 = some ⟨1, 8, .func #[27, 87] #[4] false, some .nilFunc⟩ := by kernel_rfl
theorem ty177 : T.get 177 = some ⟨1, 8, .func #[83] #[137] false, some .nilFunc⟩ := by kernel_rfl
theorem ty178 : T.get 178 = some ⟨1, 8, .func #[112, 27] #[58] false, some .nilFunc⟩ := by kernel_rfl
theorem ty179 : T.get 179 = some ⟨1, 8, .func #[27] #[112] false, some .nilFunc⟩ := by kernel_rfl
theorem ty180 : T.get 180 = some ⟨1, 0, .tuple #[33, 4], some (.tuple #[(.agg #[(.string ⟨#[]⟩), (.int .u64 0), (.bool false), (.string ⟨#[]⟩)]), (.bool false)])⟩ := by kernel_rfl
theorem ty181 : T.get 181 = some ⟨1, 8, .func #[122, 9] #[33, 4] false, some .nilFunc⟩ := by kernel_rfl
theorem ty182 : T.get 182 = some ⟨1, 8, .func #[9, 27, 27, 27] #[58, 29] false, some .nilFunc⟩ := by kernel_rfl
theorem ty183 : T.get 183 = some ⟨1, 8, .func #[56, 3, 3, 3] #[] false, some .nilFunc⟩ := by kernel_rfl
theorem ty184 : T.get 184 = some ⟨1, 8, .func #[153] #[3] false, some .nilFunc⟩ := by kernel_rfl
theorem ty185 : T.get 185 = some ⟨1, 8, .func #[3, 9] #[29] false, some .nilFunc⟩ := by kernel_rfl
theorem ty186 : T.get 186 = some ⟨1, 8, .func #[188, 9, 191] #[] false, some .nilFunc⟩ := by kernel_rfl
theorem ty187 : T.get 187 = some ⟨1, 16, .interface #[("couplet/fence.depth", 26)], some .nilIface⟩ := by kernel_rfl
theorem ty188 : T.get 188 = some ⟨1, 16, .interface #[("couplet/fence.depth", 26)], some .nilIface⟩ := by kernel_rfl
theorem ty189 : T.get 189 = some ⟨2, 24, .struct #[{ name := "root", type := 188, offset := 0, embedded := false, tag := "", pkgPath := "couplet/fence", byteOffset := 0 }, { name := "leaves", type := 3, offset := 1, embedded := false, tag := "", pkgPath := "couplet/fence", byteOffset := 16 }], some (.agg #[.nilIface, (.int .i64 0)])⟩ := by kernel_rfl
theorem ty190 : T.get 190 = some ⟨2, 24, .struct #[{ name := "root", type := 188, offset := 0, embedded := false, tag := "", pkgPath := "couplet/fence", byteOffset := 0 }, { name := "leaves", type := 3, offset := 1, embedded := false, tag := "", pkgPath := "couplet/fence", byteOffset := 16 }], some (.agg #[.nilIface, (.int .i64 0)])⟩ := by kernel_rfl
theorem ty191 : T.get 191 = some ⟨1, 8, .func #[9, 27] #[] false, some .nilFunc⟩ := by kernel_rfl
theorem ty192 : T.get 192 = some ⟨1, 8, .func #[] #[106] false, some .nilFunc⟩ := by kernel_rfl
theorem ty193 : T.get 193 = some ⟨1, 8, .func #[27, 9] #[29] false, some .nilFunc⟩ := by kernel_rfl
theorem ty194 : T.get 194 = some ⟨1, 8, .func #[4, 29] #[29] false, some .nilFunc⟩ := by kernel_rfl
theorem ty195 : T.get 195 = some ⟨1, 8, .pointer 198, some (.pointer none)⟩ := by kernel_rfl
theorem ty196 : T.get 196 = some ⟨1, 24, .slice 188, some (.slice none 0 0)⟩ := by kernel_rfl
theorem ty197 : T.get 197 = some ⟨2, 48, .struct #[{ name := "kids", type := 196, offset := 0, embedded := false, tag := "", pkgPath := "couplet/fence", byteOffset := 0 }, { name := "seps", type := 106, offset := 1, embedded := false, tag := "", pkgPath := "couplet/fence", byteOffset := 24 }], some (.agg #[(.slice none 0 0), (.slice none 0 0)])⟩ := by kernel_rfl
theorem ty198 : T.get 198 = some ⟨2, 48, .struct #[{ name := "kids", type := 196, offset := 0, embedded := false, tag := "", pkgPath := "couplet/fence", byteOffset := 0 }, { name := "seps", type := 106, offset := 1, embedded := false, tag := "", pkgPath := "couplet/fence", byteOffset := 24 }], some (.agg #[(.slice none 0 0), (.slice none 0 0)])⟩ := by kernel_rfl
theorem ty199 : T.get 199 = some ⟨1, 8, .func #[9] #[3] false, some .nilFunc⟩ := by kernel_rfl
theorem ty200 : T.get 200 = some ⟨1, 8, .int (.u64), some (.int .u64 0)⟩ := by kernel_rfl
theorem ty201 : T.get 201 = some ⟨1, 8, .map 9 4, some (.map none)⟩ := by kernel_rfl
theorem ty202 : T.get 202 = some ⟨1, 8, .func #[122] #[4] false, some .nilFunc⟩ := by kernel_rfl
theorem ty203 : T.get 203 = some ⟨1, 8, .func #[122] #[147] false, some .nilFunc⟩ := by kernel_rfl
theorem ty204 : T.get 204 = some ⟨1, 8, .func #[206] #[106] false, some .nilFunc⟩ := by kernel_rfl
theorem ty205 : T.get 205 = some ⟨1, 8, .func #[95] #[] false, some .nilFunc⟩ := by kernel_rfl
theorem ty206 : T.get 206 = some ⟨1, 8, .func #[95] #[] false, some .nilFunc⟩ := by kernel_rfl
theorem ty207 : T.get 207 = some ⟨1, 8, .func #[201] #[206] false, some .nilFunc⟩ := by kernel_rfl
theorem ty208 : T.get 208 = some ⟨1, 8, .func #[106, 9] #[3] false, some .nilFunc⟩ := by kernel_rfl
theorem ty209 : T.get 209 = some ⟨1, 8, .func #[37, 210] #[] false, some .nilFunc⟩ := by kernel_rfl
theorem ty210 : T.get 210 = some ⟨1, 8, .func #[33, 33] #[3] false, some .nilFunc⟩ := by kernel_rfl
theorem ty211 : T.get 211 = some ⟨1, 0, .tuple #[122, 122, 4], some (.tuple #[(.agg #[(.string ⟨#[]⟩), (.string ⟨#[]⟩), (.int .u64 0), (.slice none 0 0), (.slice none 0 0)]), (.agg #[(.string ⟨#[]⟩), (.string ⟨#[]⟩), (.int .u64 0), (.slice none 0 0), (.slice none 0 0)]), (.bool false)])⟩ := by kernel_rfl
theorem ty212 : T.get 212 = some ⟨1, 8, .func #[122] #[122, 122, 4] false, some .nilFunc⟩ := by kernel_rfl
theorem ty213 : T.get 213 = some ⟨1, 8, .func #[9, 27] #[29] false, some .nilFunc⟩ := by kernel_rfl
theorem ty214 : T.get 214 = some ⟨1, 24, .slice 131, some (.slice none 0 0)⟩ := by kernel_rfl
theorem ty215 : T.get 215 = some ⟨1, 8, .map 9 33, some (.map none)⟩ := by kernel_rfl
theorem ty216 : T.get 216 = some ⟨1, 8, .func #[37, 144] #[37] false, some .nilFunc⟩ := by kernel_rfl
theorem ty217 : T.get 217 = some ⟨1, 8, .func #[215] #[206] false, some .nilFunc⟩ := by kernel_rfl
theorem ty218 : T.get 218 = some ⟨1, 0, .tuple #[122, 29], some (.tuple #[(.agg #[(.string ⟨#[]⟩), (.string ⟨#[]⟩), (.int .u64 0), (.slice none 0 0), (.slice none 0 0)]), (.int .i64 0)])⟩ := by kernel_rfl
theorem ty219 : T.get 219 = some ⟨1, 8, .func #[122, 122] #[122, 29] false, some .nilFunc⟩ := by kernel_rfl
theorem ty220 : T.get 220 = some ⟨1, 8, .func #[113] #[137] false, some .nilFunc⟩ := by kernel_rfl
theorem ty221 : T.get 221 = some ⟨10, 10, .array 10 5, some (.agg #[(.int .u8 0), (.int .u8 0), (.int .u8 0), (.int .u8 0), (.int .u8 0), (.int .u8 0), (.int .u8 0), (.int .u8 0), (.int .u8 0), (.int .u8 0)])⟩ := by kernel_rfl
theorem ty222 : T.get 222 = some ⟨1, 8, .pointer 225, some (.pointer none)⟩ := by kernel_rfl
theorem ty223 : T.get 223 = some ⟨1, 24, .slice 87, some (.slice none 0 0)⟩ := by kernel_rfl
theorem ty224 : T.get 224 = some ⟨17, 192, .struct #[{ name := "Store", type := 43, offset := 0, embedded := true, tag := "", pkgPath := "", byteOffset := 0 }, { name := "put", type := 69, offset := 1, embedded := false, tag := "", pkgPath := "couplet/lss", byteOffset := 8 }, { name := "drop", type := 56, offset := 2, embedded := false, tag := "", pkgPath := "couplet/lss", byteOffset := 32 }, { name := "spare", type := 4, offset := 3, embedded := false, tag := "", pkgPath := "couplet/lss", byteOffset := 56 }, { name := "places", type := 223, offset := 4, embedded := false, tag := "", pkgPath := "couplet/lss", byteOffset := 64 }, { name := "to", type := 89, offset := 5, embedded := false, tag := "", pkgPath := "couplet/lss", byteOffset := 88 }], some (.agg #[(.pointer none), (.slice none 0 0), (.slice none 0 0), (.bool false), (.slice none 0 0), (.pointer none), (.pointer none), (.int .i64 0), (.int .i64 0), (.pointer none), (.map none), (.int .i64 0), (.int .i64 0), (.int .i64 0), (.int .i64 0), (.string ⟨#[]⟩), (.bool false)])⟩ := by kernel_rfl
theorem ty225 : T.get 225 = some ⟨17, 192, .struct #[{ name := "Store", type := 43, offset := 0, embedded := true, tag := "", pkgPath := "", byteOffset := 0 }, { name := "put", type := 69, offset := 1, embedded := false, tag := "", pkgPath := "couplet/lss", byteOffset := 8 }, { name := "drop", type := 56, offset := 2, embedded := false, tag := "", pkgPath := "couplet/lss", byteOffset := 32 }, { name := "spare", type := 4, offset := 3, embedded := false, tag := "", pkgPath := "couplet/lss", byteOffset := 56 }, { name := "places", type := 223, offset := 4, embedded := false, tag := "", pkgPath := "couplet/lss", byteOffset := 64 }, { name := "to", type := 89, offset := 5, embedded := false, tag := "", pkgPath := "couplet/lss", byteOffset := 88 }], some (.agg #[(.pointer none), (.slice none 0 0), (.slice none 0 0), (.bool false), (.slice none 0 0), (.pointer none), (.pointer none), (.int .i64 0), (.int .i64 0), (.pointer none), (.map none), (.int .i64 0), (.int .i64 0), (.int .i64 0), (.int .i64 0), (.string ⟨#[]⟩), (.bool false)])⟩ := by kernel_rfl
theorem ty226 : T.get 226 = some ⟨1, 8, .func #[] #[81] false, some .nilFunc⟩ := by kernel_rfl
theorem ty227 : T.get 227 = some ⟨1, 8, .func #[83] #[83] false, some .nilFunc⟩ := by kernel_rfl
theorem ty228 : T.get 228 = some ⟨1, 8, .func #[69, 56] #[29] false, some .nilFunc⟩ := by kernel_rfl
theorem ty229 : T.get 229 = some ⟨1, 8, .func #[37, 144] #[3] false, some .nilFunc⟩ := by kernel_rfl
theorem ty230 : T.get 230 = some ⟨1, 24, .slice 141, some (.slice none 0 0)⟩ := by kernel_rfl
theorem ty231 : T.get 231 = some ⟨64, 64, .array 64 5, some (.agg #[(.int .u8 0), (.int .u8 0), (.int .u8 0), (.int .u8 0), (.int .u8 0), (.int .u8 0), (.int .u8 0), (.int .u8 0), (.int .u8 0), (.int .u8 0), (.int .u8 0), (.int .u8 0), (.int .u8 0), (.int .u8 0), (.int .u8 0), (.int .u8 0), (.int .u8 0), (.int .u8 0), (.int .u8 0), (.int .u8 0), (.int .u8 0), (.int .u8 0), (.int .u8 0), (.int .u8 0), (.int .u8 0), (.int .u8 0), (.int .u8 0), (.int .u8 0), (.int .u8 0), (.int .u8 0), (.int .u8 0), (.int .u8 0), (.int .u8 0), (.int .u8 0), (.int .u8 0), (.int .u8 0), (.int .u8 0), (.int .u8 0), (.int .u8 0), (.int .u8 0), (.int .u8 0), (.int .u8 0), (.int .u8 0), (.int .u8 0), (.int .u8 0), (.int .u8 0), (.int .u8 0), (.int .u8 0), (.int .u8 0), (.int .u8 0), (.int .u8 0), (.int .u8 0), (.int .u8 0), (.int .u8 0), (.int .u8 0), (.int .u8 0), (.int .u8 0), (.int .u8 0), (.int .u8 0), (.int .u8 0), (.int .u8 0), (.int .u8 0), (.int .u8 0), (.int .u8 0)])⟩ := by kernel_rfl
theorem ty232 : T.get 232 = some ⟨64, 64, .array 64 5, some (.agg #[(.int .u8 0), (.int .u8 0), (.int .u8 0), (.int .u8 0), (.int .u8 0), (.int .u8 0), (.int .u8 0), (.int .u8 0), (.int .u8 0), (.int .u8 0), (.int .u8 0), (.int .u8 0), (.int .u8 0), (.int .u8 0), (.int .u8 0), (.int .u8 0), (.int .u8 0), (.int .u8 0), (.int .u8 0), (.int .u8 0), (.int .u8 0), (.int .u8 0), (.int .u8 0), (.int .u8 0), (.int .u8 0), (.int .u8 0), (.int .u8 0), (.int .u8 0), (.int .u8 0), (.int .u8 0), (.int .u8 0), (.int .u8 0), (.int .u8 0), (.int .u8 0), (.int .u8 0), (.int .u8 0), (.int .u8 0), (.int .u8 0), (.int .u8 0), (.int .u8 0), (.int .u8 0), (.int .u8 0), (.int .u8 0), (.int .u8 0), (.int .u8 0), (.int .u8 0), (.int .u8 0), (.int .u8 0), (.int .u8 0), (.int .u8 0), (.int .u8 0), (.int .u8 0), (.int .u8 0), (.int .u8 0), (.int .u8 0), (.int .u8 0), (.int .u8 0), (.int .u8 0), (.int .u8 0), (.int .u8 0), (.int .u8 0), (.int .u8 0), (.int .u8 0), (.int .u8 0)])⟩ := by kernel_rfl
theorem ty233 : T.get 233 = some ⟨1, 0, .tuple #[232, 232], some (.tuple #[(.agg #[(.int .u8 0), (.int .u8 0), (.int .u8 0), (.int .u8 0), (.int .u8 0), (.int .u8 0), (.int .u8 0), (.int .u8 0), (.int .u8 0), (.int .u8 0), (.int .u8 0), (.int .u8 0), (.int .u8 0), (.int .u8 0), (.int .u8 0), (.int .u8 0), (.int .u8 0), (.int .u8 0), (.int .u8 0), (.int .u8 0), (.int .u8 0), (.int .u8 0), (.int .u8 0), (.int .u8 0), (.int .u8 0), (.int .u8 0), (.int .u8 0), (.int .u8 0), (.int .u8 0), (.int .u8 0), (.int .u8 0), (.int .u8 0), (.int .u8 0), (.int .u8 0), (.int .u8 0), (.int .u8 0), (.int .u8 0), (.int .u8 0), (.int .u8 0), (.int .u8 0), (.int .u8 0), (.int .u8 0), (.int .u8 0), (.int .u8 0), (.int .u8 0), (.int .u8 0), (.int .u8 0), (.int .u8 0), (.int .u8 0), (.int .u8 0), (.int .u8 0), (.int .u8 0), (.int .u8 0), (.int .u8 0), (.int .u8 0), (.int .u8 0), (.int .u8 0), (.int .u8 0), (.int .u8 0), (.int .u8 0), (.int .u8 0), (.int .u8 0), (.int .u8 0), (.int .u8 0)]), (.agg #[(.int .u8 0), (.int .u8 0), (.int .u8 0), (.int .u8 0), (.int .u8 0), (.int .u8 0), (.int .u8 0), (.int .u8 0), (.int .u8 0), (.int .u8 0), (.int .u8 0), (.int .u8 0), (.int .u8 0), (.int .u8 0), (.int .u8 0), (.int .u8 0), (.int .u8 0), (.int .u8 0), (.int .u8 0), (.int .u8 0), (.int .u8 0), (.int .u8 0), (.int .u8 0), (.int .u8 0), (.int .u8 0), (.int .u8 0), (.int .u8 0), (.int .u8 0), (.int .u8 0), (.int .u8 0), (.int .u8 0), (.int .u8 0), (.int .u8 0), (.int .u8 0), (.int .u8 0), (.int .u8 0), (.int .u8 0), (.int .u8 0), (.int .u8 0), (.int .u8 0), (.int .u8 0), (.int .u8 0), (.int .u8 0), (.int .u8 0), (.int .u8 0), (.int .u8 0), (.int .u8 0), (.int .u8 0), (.int .u8 0), (.int .u8 0), (.int .u8 0), (.int .u8 0), (.int .u8 0), (.int .u8 0), (.int .u8 0), (.int .u8 0), (.int .u8 0), (.int .u8 0), (.int .u8 0), (.int .u8 0), (.int .u8 0), (.int .u8 0), (.int .u8 0), (.int .u8 0)])])⟩ := by kernel_rfl
theorem ty234 : T.get 234 = some ⟨1, 8, .func #[9] #[232, 232] false, some .nilFunc⟩ := by kernel_rfl
theorem ty235 : T.get 235 = some ⟨1, 8, .func #[3, 5] #[4] false, some .nilFunc⟩ := by kernel_rfl
theorem ty236 : T.get 236 = some ⟨1, 8, .func #[9] #[9] false, some .nilFunc⟩ := by kernel_rfl
theorem ty237 : T.get 237 = some ⟨1, 8, .pointer 5, some (.pointer none)⟩ := by kernel_rfl
theorem ty238 : T.get 238 = some ⟨1, 0, .tuple #[112, 29], some (.tuple #[(.pointer none), (.int .i64 0)])⟩ := by kernel_rfl
theorem ty239 : T.get 239 = some ⟨1, 8, .func #[9] #[112, 29] false, some .nilFunc⟩ := by kernel_rfl
theorem ty240 : T.get 240 = some ⟨1, 8, .func #[56] #[27] false, some .nilFunc⟩ := by kernel_rfl
theorem ty241 : T.get 241 = some ⟨1, 8, .func #[56, 3, 3] #[] false, some .nilFunc⟩ := by kernel_rfl
theorem ty242 : T.get 242 = some ⟨1, 8, .int (.i64), some (.int .i64 0)⟩ := by kernel_rfl
theorem ty243 : T.get 243 = some ⟨1, 0, .tuple #[3, 242], some (.tuple #[(.int .i64 0), (.int .i64 0)])⟩ := by kernel_rfl
theorem ty244 : T.get 244 = some ⟨1, 8, .func #[56, 3, 3] #[3, 242] false, some .nilFunc⟩ := by kernel_rfl
theorem ty245 : T.get 245 = some ⟨1, 8, .func #[56, 3, 3] #[4] false, some .nilFunc⟩ := by kernel_rfl
theorem ty246 : T.get 246 = some ⟨1, 8, .func #[56, 3, 3, 3] #[3] false, some .nilFunc⟩ := by kernel_rfl
theorem ty247 : T.get 247 = some ⟨1, 0, .tuple #[3, 4], some (.tuple #[(.int .i64 0), (.bool false)])⟩ := by kernel_rfl
theorem ty248 : T.get 248 = some ⟨1, 8, .func #[56, 3, 3, 3] #[3, 4] false, some .nilFunc⟩ := by kernel_rfl
theorem ty249 : T.get 249 = some ⟨1, 8, .func #[250] #[3] false, some .nilFunc⟩ := by kernel_rfl
theorem ty250 : T.get 250 = some ⟨1, 4, .int (.u32), some (.int .u32 0)⟩ := by kernel_rfl
theorem ty251 : T.get 251 = some ⟨1, 8, .func #[27] #[3] false, some .nilFunc⟩ := by kernel_rfl
theorem ty252 : T.get 252 = some ⟨1, 8, .struct #[{ name := "at", type := 3, offset := 0, embedded := false, tag := "", pkgPath := "couplet/disk", byteOffset := 0 }], some (.agg #[(.int .i64 0)])⟩ := by kernel_rfl
theorem ty253 : T.get 253 = some ⟨1, 8, .struct #[{ name := "at", type := 3, offset := 0, embedded := false, tag := "", pkgPath := "couplet/disk", byteOffset := 0 }], some (.agg #[(.int .i64 0)])⟩ := by kernel_rfl
theorem ty254 : T.get 254 = some ⟨2, 24, .struct #[{ name := "place", type := 253, offset := 0, embedded := true, tag := "", pkgPath := "couplet/disk", byteOffset := 0 }, { name := "s", type := 9, offset := 1, embedded := false, tag := "", pkgPath := "couplet/disk", byteOffset := 8 }], some (.agg #[(.int .i64 0), (.string ⟨#[]⟩)])⟩ := by kernel_rfl
theorem ty255 : T.get 255 = some ⟨2, 24, .struct #[{ name := "place", type := 253, offset := 0, embedded := true, tag := "", pkgPath := "couplet/disk", byteOffset := 0 }, { name := "s", type := 9, offset := 1, embedded := false, tag := "", pkgPath := "couplet/disk", byteOffset := 8 }], some (.agg #[(.int .i64 0), (.string ⟨#[]⟩)])⟩ := by kernel_rfl
theorem ty256 : T.get 256 = some ⟨1, 8, .func #[9] #[122, 29] false, some .nilFunc⟩ := by kernel_rfl
theorem ty257 : T.get 257 = some ⟨1, 8, .func #[106, 9] #[3, 4] false, some .nilFunc⟩ := by kernel_rfl
theorem ty258 : T.get 258 = some ⟨1, 8, .func #[122] #[29] false, some .nilFunc⟩ := by kernel_rfl
theorem ty259 : T.get 259 = some ⟨1, 24, .slice 37, some (.slice none 0 0)⟩ := by kernel_rfl
theorem ty260 : T.get 260 = some ⟨1, 8, .func #[106] #[] false, some .nilFunc⟩ := by kernel_rfl
theorem ty261 : T.get 261 = some ⟨1, 8, .func #[37] #[37] false, some .nilFunc⟩ := by kernel_rfl
theorem ty262 : T.get 262 = some ⟨1, 8, .func #[122, 9] #[4] false, some .nilFunc⟩ := by kernel_rfl
theorem ty263 : T.get 263 = some ⟨1, 8, .func #[37, 3, 3, 3, 210] #[] false, some .nilFunc⟩ := by kernel_rfl
theorem ty264 : T.get 264 = some ⟨1, 8, .func #[122, 9, 9] #[122] false, some .nilFunc⟩ := by kernel_rfl
theorem ty265 : T.get 265 = some ⟨1, 8, .func #[56, 27] #[4] false, some .nilFunc⟩ := by kernel_rfl
theorem ty266 : T.get 266 = some ⟨1, 0, .tuple #[188, 9], some (.tuple #[.nilIface, (.string ⟨#[]⟩)])⟩ := by kernel_rfl
theorem ty267 : T.get 267 = some ⟨1, 8, .func #[188, 9, 27] #[188, 9] false, some .nilFunc⟩ := by kernel_rfl
theorem ty268 : T.get 268 = some ⟨1, 8, .func #[259] #[37] true, some .nilFunc⟩ := by kernel_rfl
theorem ty269 : T.get 269 = some ⟨1, 0, .tuple #[195, 4], some (.tuple #[(.pointer none), (.bool false)])⟩ := by kernel_rfl
theorem ty270 : T.get 270 = some ⟨1, 8, .func #[56, 137] #[56] false, some .nilFunc⟩ := by kernel_rfl
theorem ty271 : T.get 271 = some ⟨1, 8, .func #[156] #[156] false, some .nilFunc⟩ := by kernel_rfl
theorem ty272 : T.get 272 = some ⟨1, 8, .func #[159] #[159] false, some .nilFunc⟩ := by kernel_rfl
theorem ty273 : T.get 273 = some ⟨1, 8, .func #[20] #[20] false, some .nilFunc⟩ := by kernel_rfl
theorem ty274 : T.get 274 = some ⟨1, 8, .map 27 3, some (.map none)⟩ := by kernel_rfl
theorem ty275 : T.get 275 = some ⟨1, 8, .func #[69, 276] #[4] false, some .nilFunc⟩ := by kernel_rfl
theorem ty276 : T.get 276 = some ⟨1, 8, .func #[77] #[4] false, some .nilFunc⟩ := by kernel_rfl
theorem ty277 : T.get 277 = some ⟨1, 0, .tuple #[87, 29], some (.tuple #[(.agg #[(.int .i64 0), (.int .i64 0), (.int .i64 0), (.int .i64 0)]), (.int .i64 0)])⟩ := by kernel_rfl
theorem ty278 : T.get 278 = some ⟨1, 8, .func #[3] #[87, 29] false, some .nilFunc⟩ := by kernel_rfl
theorem ty279 : T.get 279 = some ⟨1, 8, .func #[87, 9] #[29] false, some .nilFunc⟩ := by kernel_rfl
theorem ty280 : T.get 280 = some ⟨1, 8, .unsafePointer, some (.pointer none)⟩ := by kernel_rfl
theorem ty281 : T.get 281 = some ⟨1, 8, .func #[280] #[280] false, some .nilFunc⟩ := by kernel_rfl
theorem ty282 : T.get 282 = some ⟨1, 8, .func #[9] #[250] false, some .nilFunc⟩ := by kernel_rfl
theorem ty283 : T.get 283 = some ⟨1, 8, .func #[9, 65] #[9] true, some .nilFunc⟩ := by kernel_rfl
theorem ty284 : T.get 284 = some ⟨1, 8, .int (.u64), some (.int .u64 0)⟩ := by kernel_rfl
theorem ty285 : T.get 285 = some ⟨1, 8, .func #[3] #[153] false, some .nilFunc⟩ := by kernel_rfl
theorem ty286 : T.get 286 = some ⟨1, 8, .func #[56, 3, 287] #[3] false, some .nilFunc⟩ := by kernel_rfl
theorem ty287 : T.get 287 = some ⟨1, 8, .pointer 3, some (.pointer none)⟩ := by kernel_rfl
theorem ty288 : T.get 288 = some ⟨1, 8, .func #[56, 3, 3, 3, 287] #[3] false, some .nilFunc⟩ := by kernel_rfl
theorem ty289 : T.get 289 = some ⟨0, 0, .struct #[], some (.agg #[])⟩ := by kernel_rfl
theorem ty290 : T.get 290 = some ⟨0, 0, .struct #[], some (.agg #[])⟩ := by kernel_rfl
theorem ty291 : T.get 291 = some ⟨1, 0, .tuple #[290, 4], some (.tuple #[(.agg #[]), (.bool false)])⟩ := by kernel_rfl
theorem ty292 : T.get 292 = some ⟨1, 8, .func #[9] #[122] false, some .nilFunc⟩ := by kernel_rfl
theorem ty293 : T.get 293 = some ⟨1, 8, .func #[9, 9] #[4] false, some .nilFunc⟩ := by kernel_rfl
theorem ty294 : T.get 294 = some ⟨1, 8, .func #[37, 295] #[4] false, some .nilFunc⟩ := by kernel_rfl
theorem ty295 : T.get 295 = some ⟨1, 8, .func #[33, 33] #[4] false, some .nilFunc⟩ := by kernel_rfl
theorem ty296 : T.get 296 = some ⟨1, 8, .func #[106, 206] #[106] false, some .nilFunc⟩ := by kernel_rfl
theorem ty297 : T.get 297 = some ⟨1, 8, .func #[106, 3, 3, 3] #[] false, some .nilFunc⟩ := by kernel_rfl
theorem ty298 : T.get 298 = some ⟨1, 8, .func #[37, 3, 3, 210] #[] false, some .nilFunc⟩ := by kernel_rfl
theorem ty299 : T.get 299 = some ⟨1, 8, .func #[37, 3, 3, 210] #[3, 242] false, some .nilFunc⟩ := by kernel_rfl
theorem ty300 : T.get 300 = some ⟨1, 8, .func #[37, 3, 3, 210] #[4] false, some .nilFunc⟩ := by kernel_rfl
theorem ty301 : T.get 301 = some ⟨1, 8, .func #[37, 3, 3, 3, 210] #[3] false, some .nilFunc⟩ := by kernel_rfl
theorem ty302 : T.get 302 = some ⟨1, 8, .func #[37, 3, 3, 3, 210] #[3, 4] false, some .nilFunc⟩ := by kernel_rfl
theorem ty303 : T.get 303 = some ⟨1, 8, .func #[196, 3, 196] #[196] true, some .nilFunc⟩ := by kernel_rfl
theorem ty304 : T.get 304 = some ⟨1, 8, .func #[106, 3, 106] #[106] true, some .nilFunc⟩ := by kernel_rfl
theorem ty305 : T.get 305 = some ⟨1, 0, .tuple #[195, 9], some (.tuple #[(.pointer none), (.string ⟨#[]⟩)])⟩ := by kernel_rfl
theorem ty306 : T.get 306 = some ⟨1, 8, .func #[] #[195, 9] false, some .nilFunc⟩ := by kernel_rfl
theorem ty307 : T.get 307 = some ⟨1, 8, .func #[37, 3] #[37] false, some .nilFunc⟩ := by kernel_rfl
theorem ty308 : T.get 308 = some ⟨1, 8, .func #[37, 3, 210] #[] false, some .nilFunc⟩ := by kernel_rfl
theorem ty309 : T.get 309 = some ⟨1, 8, .func #[3] #[] false, some .nilFunc⟩ := by kernel_rfl
theorem ty310 : T.get 310 = some ⟨1, 8, .func #[3, 3] #[9] false, some .nilFunc⟩ := by kernel_rfl
theorem ty311 : T.get 311 = some ⟨1, 8, .func #[69, 276] #[3] false, some .nilFunc⟩ := by kernel_rfl
theorem ty312 : T.get 312 = some ⟨1, 0, .tuple #[85, 29], some (.tuple #[(.agg #[(.int .i64 0), (.int .i64 0), (.int .i64 0)]), (.int .i64 0)])⟩ := by kernel_rfl
theorem ty313 : T.get 313 = some ⟨1, 8, .func #[3, 4] #[85, 29] false, some .nilFunc⟩ := by kernel_rfl
theorem ty314 : T.get 314 = some ⟨1, 8, .func #[250] #[] false, some .nilFunc⟩ := by kernel_rfl
theorem ty315 : T.get 315 = some ⟨1, 8, .pointer 284, some (.pointer none)⟩ := by kernel_rfl
theorem ty316 : T.get 316 = some ⟨1, 0, .tuple #[3, 3], some (.tuple #[(.int .i64 0), (.int .i64 0)])⟩ := by kernel_rfl
theorem ty317 : T.get 317 = some ⟨1, 8, .func #[56, 3, 3, 287] #[3, 3] false, some .nilFunc⟩ := by kernel_rfl
theorem ty318 : T.get 318 = some ⟨1, 8, .func #[4] #[] false, some .nilFunc⟩ := by kernel_rfl
theorem ty319 : T.get 319 = some ⟨1, 8, .func #[106, 3, 3] #[] false, some .nilFunc⟩ := by kernel_rfl
theorem ty320 : T.get 320 = some ⟨1, 8, .func #[106, 3, 3] #[3, 242] false, some .nilFunc⟩ := by kernel_rfl
theorem ty321 : T.get 321 = some ⟨1, 8, .func #[106, 3, 3] #[4] false, some .nilFunc⟩ := by kernel_rfl
theorem ty322 : T.get 322 = some ⟨1, 8, .func #[106, 3, 3, 3] #[3] false, some .nilFunc⟩ := by kernel_rfl
theorem ty323 : T.get 323 = some ⟨1, 8, .func #[106, 3, 3, 3] #[3, 4] false, some .nilFunc⟩ := by kernel_rfl
theorem ty324 : T.get 324 = some ⟨1, 8, .func #[37, 3, 287, 210] #[3] false, some .nilFunc⟩ := by kernel_rfl
theorem ty325 : T.get 325 = some ⟨1, 8, .func #[37, 3, 3, 3, 287, 210] #[3] false, some .nilFunc⟩ := by kernel_rfl
theorem ty326 : T.get 326 = some ⟨1, 8, .func #[196, 196] #[4] false, some .nilFunc⟩ := by kernel_rfl
theorem ty327 : T.get 327 = some ⟨1, 8, .func #[196, 3] #[] false, some .nilFunc⟩ := by kernel_rfl
theorem ty328 : T.get 328 = some ⟨1, 8, .func #[106, 106] #[4] false, some .nilFunc⟩ := by kernel_rfl
theorem ty329 : T.get 329 = some ⟨1, 8, .func #[106, 3] #[] false, some .nilFunc⟩ := by kernel_rfl
theorem ty330 : T.get 330 = some ⟨1, 8, .func #[196] #[196] false, some .nilFunc⟩ := by kernel_rfl
theorem ty331 : T.get 331 = some ⟨1, 8, .func #[196, 3, 3] #[196] false, some .nilFunc⟩ := by kernel_rfl
theorem ty332 : T.get 332 = some ⟨1, 8, .func #[106, 3, 3] #[106] false, some .nilFunc⟩ := by kernel_rfl
theorem ty333 : T.get 333 = some ⟨1, 24, .slice 3, some (.slice none 0 0)⟩ := by kernel_rfl
theorem ty334 : T.get 334 = some ⟨1, 8, .func #[156, 335] #[333] false, some .nilFunc⟩ := by kernel_rfl
theorem ty335 : T.get 335 = some ⟨1, 8, .func #[3, 161] #[4] false, some .nilFunc⟩ := by kernel_rfl
theorem ty336 : T.get 336 = some ⟨1, 8, .func #[106, 3, 287] #[3] false, some .nilFunc⟩ := by kernel_rfl
theorem ty337 : T.get 337 = some ⟨1, 8, .func #[106, 3, 3, 3, 287] #[3] false, some .nilFunc⟩ := by kernel_rfl
theorem ty338 : T.get 338 = some ⟨1, 8, .func #[37, 3, 3, 287, 210] #[3, 3] false, some .nilFunc⟩ := by kernel_rfl
theorem ty339 : T.get 339 = some ⟨1, 8, .func #[106, 3, 3, 287] #[3, 3] false, some .nilFunc⟩ := by kernel_rfl
theorem ty340 : T.get 340 = some ⟨1, 8, .func #[196] #[] false, some .nilFunc⟩ := by kernel_rfl
theorem ty343 : T.get 343 = some ⟨0, 0, .array 0 16, some (.agg #[])⟩ := by kernel_rfl
theorem ty346 : T.get 346 = some ⟨1, 1, .int (.u8), some (.int .u8 0)⟩ := by kernel_rfl
theorem ty347 : T.get 347 = some ⟨1, 1, .int (.u8), some (.int .u8 0)⟩ := by kernel_rfl
theorem ty348 : T.get 348 = some ⟨1, 8, .func #[280, 280] #[4] false, some .nilFunc⟩ := by kernel_rfl
theorem ty349 : T.get 349 = some ⟨1, 4, .int (.i32), some (.int .i32 0)⟩ := by kernel_rfl
theorem ty350 : T.get 350 = some ⟨1, 4, .int (.i32), some (.int .i32 0)⟩ := by kernel_rfl
theorem ty351 : T.get 351 = some ⟨11, 48, .struct #[{ name := "Size_", type := 12, offset := 0, embedded := false, tag := "", pkgPath := "", byteOffset := 0 }, { name := "PtrBytes", type := 12, offset := 1, embedded := false, tag := "", pkgPath := "", byteOffset := 8 }, { name := "Hash", type := 250, offset := 2, embedded := false, tag := "", pkgPath := "", byteOffset := 16 }, { name := "TFlag", type := 346, offset := 3, embedded := false, tag := "", pkgPath := "", byteOffset := 20 }, { name := "Align_", type := 5, offset := 4, embedded := false, tag := "", pkgPath := "", byteOffset := 21 }, { name := "FieldAlign_", type := 5, offset := 5, embedded := false, tag := "", pkgPath := "", byteOffset := 22 }, { name := "Kind_", type := 347, offset := 6, embedded := false, tag := "", pkgPath := "", byteOffset := 23 }, { name := "Equal", type := 348, offset := 7, embedded := false, tag := "", pkgPath := "", byteOffset := 24 }, { name := "GCData", type := 237, offset := 8, embedded := false, tag := "", pkgPath := "", byteOffset := 32 }, { name := "Str", type := 349, offset := 9, embedded := false, tag := "", pkgPath := "", byteOffset := 40 }, { name := "PtrToThis", type := 350, offset := 10, embedded := false, tag := "", pkgPath := "", byteOffset := 44 }], some (.agg #[(.int .u64 0), (.int .u64 0), (.int .u32 0), (.int .u8 0), (.int .u8 0), (.int .u8 0), (.int .u8 0), .nilFunc, (.pointer none), (.int .i32 0), (.int .i32 0)])⟩ := by kernel_rfl
theorem ty352 : T.get 352 = some ⟨11, 48, .struct #[{ name := "Size_", type := 12, offset := 0, embedded := false, tag := "", pkgPath := "", byteOffset := 0 }, { name := "PtrBytes", type := 12, offset := 1, embedded := false, tag := "", pkgPath := "", byteOffset := 8 }, { name := "Hash", type := 250, offset := 2, embedded := false, tag := "", pkgPath := "", byteOffset := 16 }, { name := "TFlag", type := 346, offset := 3, embedded := false, tag := "", pkgPath := "", byteOffset := 20 }, { name := "Align_", type := 5, offset := 4, embedded := false, tag := "", pkgPath := "", byteOffset := 21 }, { name := "FieldAlign_", type := 5, offset := 5, embedded := false, tag := "", pkgPath := "", byteOffset := 22 }, { name := "Kind_", type := 347, offset := 6, embedded := false, tag := "", pkgPath := "", byteOffset := 23 }, { name := "Equal", type := 348, offset := 7, embedded := false, tag := "", pkgPath := "", byteOffset := 24 }, { name := "GCData", type := 237, offset := 8, embedded := false, tag := "", pkgPath := "", byteOffset := 32 }, { name := "Str", type := 349, offset := 9, embedded := false, tag := "", pkgPath := "", byteOffset := 40 }, { name := "PtrToThis", type := 350, offset := 10, embedded := false, tag := "", pkgPath := "", byteOffset := 44 }], some (.agg #[(.int .u64 0), (.int .u64 0), (.int .u32 0), (.int .u8 0), (.int .u8 0), (.int .u8 0), (.int .u8 0), .nilFunc, (.pointer none), (.int .i32 0), (.int .i32 0)])⟩ := by kernel_rfl
theorem en21 : Entered Tryz.prog 21 Tryz.f21 := ⟨Tryz.func21, by kernel_rfl, by kernel_rfl⟩
theorem en62 : Entered Tryz.prog 62 Tryz.f62 := ⟨Tryz.func62, by kernel_rfl, by kernel_rfl⟩
theorem en88 : Entered Tryz.prog 88 Tryz.f88 := ⟨Tryz.func88, by kernel_rfl, by kernel_rfl⟩
theorem en130 : Entered Tryz.prog 130 Tryz.f130 := ⟨Tryz.func130, by kernel_rfl, by kernel_rfl⟩
theorem en131 : Entered Tryz.prog 131 Tryz.f131 := ⟨Tryz.func131, by kernel_rfl, by kernel_rfl⟩
theorem en150 : Entered Tryz.prog 150 Tryz.f150 := ⟨Tryz.func150, by kernel_rfl, by kernel_rfl⟩
theorem en167 : Entered Tryz.prog 167 Tryz.f167 := ⟨Tryz.func167, by kernel_rfl, by kernel_rfl⟩
theorem en168 : Entered Tryz.prog 168 Tryz.f168 := ⟨Tryz.func168, by kernel_rfl, by kernel_rfl⟩
theorem en187 : Entered Tryz.prog 187 Tryz.f187 := ⟨Tryz.func187, by kernel_rfl, by kernel_rfl⟩
theorem en191 : Entered Tryz.prog 191 Tryz.f191 := ⟨Tryz.func191, by kernel_rfl, by kernel_rfl⟩
theorem en197 : Entered Tryz.prog 197 Tryz.f197 := ⟨Tryz.func197, by kernel_rfl, by kernel_rfl⟩
theorem en201 : Entered Tryz.prog 201 Tryz.f201 := ⟨Tryz.func201, by kernel_rfl, by kernel_rfl⟩
theorem en209 : Entered Tryz.prog 209 Tryz.f209 := ⟨Tryz.func209, by kernel_rfl, by kernel_rfl⟩
theorem en210 : Entered Tryz.prog 210 Tryz.f210 := ⟨Tryz.func210, by kernel_rfl, by kernel_rfl⟩
theorem en211 : Entered Tryz.prog 211 Tryz.f211 := ⟨Tryz.func211, by kernel_rfl, by kernel_rfl⟩
theorem en221 : Entered Tryz.prog 221 Tryz.f221 := ⟨Tryz.func221, by kernel_rfl, by kernel_rfl⟩
theorem en226 : Entered Tryz.prog 226 Tryz.f226 := ⟨Tryz.func226, by kernel_rfl, by kernel_rfl⟩
theorem en227 : Entered Tryz.prog 227 Tryz.f227 := ⟨Tryz.func227, by kernel_rfl, by kernel_rfl⟩
theorem en249 : Entered Tryz.prog 249 Tryz.f249 := ⟨Tryz.func249, by kernel_rfl, by kernel_rfl⟩
theorem en253 : Entered Tryz.prog 253 Tryz.f253 := ⟨Tryz.func253, by kernel_rfl, by kernel_rfl⟩
theorem en258 : Entered Tryz.prog 258 Tryz.f258 := ⟨Tryz.func258, by kernel_rfl, by kernel_rfl⟩
theorem en259 : Entered Tryz.prog 259 Tryz.f259 := ⟨Tryz.func259, by kernel_rfl, by kernel_rfl⟩
theorem en284 : Entered Tryz.prog 284 Tryz.f284 := ⟨Tryz.func284, by kernel_rfl, by kernel_rfl⟩
theorem en285 : Entered Tryz.prog 285 Tryz.f285 := ⟨Tryz.func285, by kernel_rfl, by kernel_rfl⟩
theorem tyall : T.get 0 = some ⟨1, 0, .tuple #[], some (.tuple #[])⟩ ∧ T.get 1 = some ⟨1, 8, .func #[] #[] false, some .nilFunc⟩ ∧ T.get 2 = some ⟨1, 8, .int (.i64), some (.int .i64 0)⟩ ∧ T.get 3 = some ⟨1, 8, .int (.i64), some (.int .i64 0)⟩ ∧ T.get 4 = some ⟨1, 1, .bool, some (.bool false)⟩ ∧ T.get 5 = some ⟨1, 1, .int (.u8), some (.int .u8 0)⟩ ∧ T.get 6 = some ⟨1, 1, .int (.u8), some (.int .u8 0)⟩ ∧ T.get 9 = some ⟨1, 16, .string, some (.string ⟨#[]⟩)⟩ ∧ T.get 10 = some ⟨1, 16, .string, some (.string ⟨#[]⟩)⟩ ∧ T.get 11 = some ⟨1, 16, .string, some (.string ⟨#[]⟩)⟩ ∧ T.get 12 = some ⟨1, 8, .int (.u64), some (.int .u64 0)⟩ ∧ T.get 15 = some ⟨1, 8, .pointer 342, some (.pointer none)⟩ ∧ T.get 16 = some ⟨1, 8, .pointer 345, some (.pointer none)⟩ ∧ T.get 17 = some ⟨1, 8, .pointer 352, some (.pointer none)⟩ ∧ T.get 20 = some ⟨1, 16, .interface #[], some .nilIface⟩ ∧ T.get 21 = some ⟨1, 4, .int (.i32), some (.int .i32 0)⟩ ∧ T.get 22 = some ⟨1, 8, .pointer 109, some (.pointer none)⟩ ∧ T.get 23 = some ⟨1, 8, .pointer 60, some (.pointer none)⟩ ∧ T.get 24 = some ⟨1, 0, .tuple #[22, 23], some (.tuple #[(.pointer none), (.pointer none)])⟩ ∧ T.get 25 = some ⟨1, 8, .func #[] #[22, 23] false, some .nilFunc⟩ ∧ T.get 26 = some ⟨1, 8, .func #[] #[3] false, some .nilFunc⟩ ∧ T.get 27 = some ⟨1, 8, .int (.u64), some (.int .u64 0)⟩ ∧ T.get 28 = some ⟨1, 8, .func #[] #[27] false, some .nilFunc⟩ ∧ T.get 29 = some ⟨1, 8, .int (.i64), some (.int .i64 0)⟩ ∧ T.get 30 = some ⟨1, 8, .func #[33] #[29] false, some .nilFunc⟩ ∧ T.get 31 = some ⟨1, 8, .func #[5] #[9] false, some .nilFunc⟩ ∧ T.get 32 = some ⟨4, 48, .struct #[{ name := "Key", type := 9, offset := 0, embedded := false, tag := "", pkgPath := "", byteOffset := 0 }, { name := "Lsn", type := 27, offset := 1, embedded := false, tag := "", pkgPath := "", byteOffset := 16 }, { name := "Del", type := 4, offset := 2, embedded := false, tag := "", pkgPath := "", byteOffset := 24 }, { name := "Val", type := 9, offset := 3, embedded := false, tag := "", pkgPath := "", byteOffset := 32 }], some (.agg #[(.string ⟨#[]⟩), (.int .u64 0), (.bool false), (.string ⟨#[]⟩)])⟩ ∧ T.get 33 = some ⟨4, 48, .struct #[{ name := "Key", type := 9, offset := 0, embedded := false, tag := "", pkgPath := "", byteOffset := 0 }, { name := "Lsn", type := 27, offset := 1, embedded := false, tag := "", pkgPath := "", byteOffset := 16 }, { name := "Del", type := 4, offset := 2, embedded := false, tag := "", pkgPath := "", byteOffset := 24 }, { name := "Val", type := 9, offset := 3, embedded := false, tag := "", pkgPath := "", byteOffset := 32 }], some (.agg #[(.string ⟨#[]⟩), (.int .u64 0), (.bool false), (.string ⟨#[]⟩)])⟩ ∧ T.get 34 = some ⟨1, 8, .func #[27, 27] #[] false, some .nilFunc⟩ ∧ T.get 35 = some ⟨1, 8, .func #[3] #[3] false, some .nilFunc⟩ ∧ T.get 36 = some ⟨1, 8, .func #[9] #[29] false, some .nilFunc⟩ ∧ T.get 37 = some ⟨1, 24, .slice 33, some (.slice none 0 0)⟩ ∧ T.get 38 = some ⟨1, 0, .tuple #[37, 29], some (.tuple #[(.slice none 0 0), (.int .i64 0)])⟩ ∧ T.get 39 = some ⟨1, 8, .func #[] #[37, 29] false, some .nilFunc⟩ ∧ T.get 40 = some ⟨1, 8, .func #[9, 9] #[37, 29] false, some .nilFunc⟩ ∧ T.get 41 = some ⟨1, 0, .tuple #[23, 9], some (.tuple #[(.pointer none), (.string ⟨#[]⟩)])⟩ ∧ T.get 42 = some ⟨1, 8, .func #[22] #[23, 9] false, some .nilFunc⟩ ∧ T.get 43 = some ⟨1, 8, .pointer 89, some (.pointer none)⟩ ∧ T.get 44 = some ⟨1, 0, .tuple #[43, 29], some (.tuple #[(.pointer none), (.int .i64 0)])⟩ ∧ T.get 45 = some ⟨1, 8, .func #[22, 3, 3] #[43, 29] false, some .nilFunc⟩ ∧ T.get 46 = some ⟨1, 0, .tuple #[23, 29], some (.tuple #[(.pointer none), (.int .i64 0)])⟩ ∧ T.get 47 = some ⟨1, 8, .func #[43] #[23, 29] false, some .nilFunc⟩ ∧ T.get 48 = some ⟨1, 0, .tuple #[33, 29], some (.tuple #[(.agg #[(.string ⟨#[]⟩), (.int .u64 0), (.bool false), (.string ⟨#[]⟩)]), (.int .i64 0)])⟩ ∧ T.get 49 = some ⟨1, 8, .func #[9] #[33, 29] false, some .nilFunc⟩ ∧ T.get 50 = some ⟨1, 8, .func #[27] #[] false, some .nilFunc⟩ ∧ T.get 51 = some ⟨1, 0, .tuple #[23, 9, 29], some (.tuple #[(.pointer none), (.string ⟨#[]⟩), (.int .i64 0)])⟩ ∧ T.get 52 = some ⟨1, 8, .func #[43] #[23, 9, 29] false, some .nilFunc⟩ ∧ T.get 53 = some ⟨1, 8, .func #[] #[4] false, some .nilFunc⟩ ∧ T.get 54 = some ⟨1, 8, .func #[3] #[22] false, some .nilFunc⟩ ∧ T.get 55 = some ⟨1, 8, .func #[22, 3, 3] #[29] false, some .nilFunc⟩ ∧ T.get 56 = some ⟨1, 24, .slice 27, some (.slice none 0 0)⟩ ∧ T.get 57 = some ⟨1, 8, .func #[9, 9] #[56] false, some .nilFunc⟩ ∧ T.get 58 = some ⟨1, 8, .pointer 116, some (.pointer none)⟩ ∧ T.get 59 = some ⟨2, 16, .struct #[{ name := "Tree", type := 58, offset := 0, embedded := true, tag := "", pkgPath := "", byteOffset := 0 }, { name := "store", type := 43, offset := 1, embedded := false, tag := "", pkgPath := "couplet/cache", byteOffset := 8 }], some (.agg #[(.pointer none), (.pointer none)])⟩ ∧ T.get 60 = some ⟨2, 16, .struct #[{ name := "Tree", type := 58, offset := 0, embedded := true, tag := "", pkgPath := "", byteOffset := 0 }, { name := "store", type := 43, offset := 1, embedded := false, tag := "", pkgPath := "couplet/cache", byteOffset := 8 }], some (.agg #[(.pointer none), (.pointer none)])⟩ ∧ T.get 61 = some ⟨1, 8, .func #[56, 62] #[56] false, some .nilFunc⟩ ∧ T.get 62 = some ⟨1, 8, .func #[27] #[4] false, some .nilFunc⟩ ∧ T.get 63 = some ⟨1, 8, .func #[56] #[29] true, some .nilFunc⟩ ∧ T.get 64 = some ⟨1, 8, .func #[9] #[27] false, some .nilFunc⟩ ∧ T.get 65 = some ⟨1, 24, .slice 5, some (.slice none 0 0)⟩ ∧ T.get 66 = some ⟨1, 0, .tuple #[27, 27], some (.tuple #[(.int .u64 0), (.int .u64 0)])⟩ ∧ T.get 67 = some ⟨1, 8, .func #[27] #[27, 27] false, some .nilFunc⟩ ∧ T.get 68 = some ⟨1, 8, .func #[27] #[29] false, some .nilFunc⟩ ∧ T.get 69 = some ⟨1, 24, .slice 77, some (.slice none 0 0)⟩ ∧ T.get 70 = some ⟨1, 0, .tuple #[69, 56], some (.tuple #[(.slice none 0 0), (.slice none 0 0)])⟩ ∧ T.get 71 = some ⟨1, 8, .func #[] #[69, 56] false, some .nilFunc⟩ ∧ T.get 72 = some ⟨1, 8, .func #[] #[9] false, some .nilFunc⟩ ∧ T.get 73 = some ⟨1, 0, .tuple #[9, 29], some (.tuple #[(.string ⟨#[]⟩), (.int .i64 0)])⟩ ∧ T.get 74 = some ⟨1, 8, .func #[27] #[9, 29] false, some .nilFunc⟩ ∧ T.get 75 = some ⟨1, 8, .func #[69, 56, 9] #[29] false, some .nilFunc⟩ ∧ T.get 76 = some ⟨2, 24, .struct #[{ name := "Pid", type := 27, offset := 0, embedded := false, tag := "", pkgPath := "", byteOffset := 0 }, { name := "Bytes", type := 9, offset := 1, embedded := false, tag := "", pkgPath := "", byteOffset := 8 }], some (.agg #[(.int .u64 0), (.string ⟨#[]⟩)])⟩ ∧ T.get 77 = some ⟨2, 24, .struct #[{ name := "Pid", type := 27, offset := 0, embedded := false, tag := "", pkgPath := "", byteOffset := 0 }, { name := "Bytes", type := 9, offset := 1, embedded := false, tag := "", pkgPath := "", byteOffset := 8 }], some (.agg #[(.int .u64 0), (.string ⟨#[]⟩)])⟩ ∧ T.get 78 = some ⟨1, 8, .pointer 151, some (.pointer none)⟩ ∧ T.get 79 = some ⟨1, 0, .tuple #[78, 29], some (.tuple #[(.pointer none), (.int .i64 0)])⟩ ∧ T.get 80 = some ⟨1, 8, .func #[22, 3] #[78, 29] false, some .nilFunc⟩ ∧ T.get 81 = some ⟨1, 8, .pointer 158, some (.pointer none)⟩ ∧ T.get 82 = some ⟨1, 8, .func #[3, 3] #[81] false, some .nilFunc⟩ ∧ T.get 83 = some ⟨1, 8, .map 27 87, some (.map none)⟩ ∧ T.get 84 = some ⟨3, 24, .struct #[{ name := "Seg", type := 3, offset := 0, embedded := false, tag := "", pkgPath := "", byteOffset := 0 }, { name := "At", type := 3, offset := 1, embedded := false, tag := "", pkgPath := "", byteOffset := 8 }, { name := "N", type := 3, offset := 2, embedded := false, tag := "", pkgPath := "", byteOffset := 16 }], some (.agg #[(.int .i64 0), (.int .i64 0), (.int .i64 0)])⟩ ∧ T.get 85 = some ⟨3, 24, .struct #[{ name := "Seg", type := 3, offset := 0, embedded := false, tag := "", pkgPath := "", byteOffset := 0 }, { name := "At", type := 3, offset := 1, embedded := false, tag := "", pkgPath := "", byteOffset := 8 }, { name := "N", type := 3, offset := 2, embedded := false, tag := "", pkgPath := "", byteOffset := 16 }], some (.agg #[(.int .i64 0), (.int .i64 0), (.int .i64 0)])⟩ ∧ T.get 86 = some ⟨4, 32, .struct #[{ name := "Loc", type := 85, offset := 0, embedded := true, tag := "", pkgPath := "", byteOffset := 0 }, { name := "n", type := 3, offset := 3, embedded := false, tag := "", pkgPath := "couplet/lss", byteOffset := 24 }], some (.agg #[(.int .i64 0), (.int .i64 0), (.int .i64 0), (.int .i64 0)])⟩ ∧ T.get 87 = some ⟨4, 32, .struct #[{ name := "Loc", type := 85, offset := 0, embedded := true, tag := "", pkgPath := "", byteOffset := 0 }, { name := "n", type := 3, offset := 3, embedded := false, tag := "", pkgPath := "couplet/lss", byteOffset := 24 }], some (.agg #[(.int .i64 0), (.int .i64 0), (.int .i64 0), (.int .i64 0)])⟩ ∧ T.get 88 = some ⟨12, 104, .struct #[{ name := "d", type := 22, offset := 0, embedded := false, tag := "", pkgPath := "couplet/lss", byteOffset := 0 }, { name := "twin", type := 78, offset := 1, embedded := false, tag := "", pkgPath := "couplet/lss", byteOffset := 8 }, { name := "segs", type := 3, offset := 2, embedded := false, tag := "", pkgPath := "couplet/lss", byteOffset := 16 }, { name := "per", type := 3, offset := 3, embedded := false, tag := "", pkgPath := "couplet/lss", byteOffset := 24 }, { name := "space", type := 81, offset := 4, embedded := false, tag := "", pkgPath := "couplet/lss", byteOffset := 32 }, { name := "images", type := 83, offset := 5, embedded := false, tag := "", pkgPath := "couplet/lss", byteOffset := 40 }, { name := "table", type := 87, offset := 6, embedded := false, tag := "", pkgPath := "couplet/lss", byteOffset := 48 }, { name := "meta", type := 9, offset := 10, embedded := false, tag := "", pkgPath := "couplet/lss", byteOffset := 80 }, { name := "over", type := 4, offset := 11, embedded := false, tag := "", pkgPath := "couplet/lss", byteOffset := 96 }], some (.agg #[(.pointer none), (.pointer none), (.int .i64 0), (.int .i64 0), (.pointer none), (.map none), (.int .i64 0), (.int .i64 0), (.int .i64 0), (.int .i64 0), (.string ⟨#[]⟩), (.bool false)])⟩ ∧ T.get 89 = some ⟨12, 104, .struct #[{ name := "d", type := 22, offset := 0, embedded := false, tag := "", pkgPath := "couplet/lss", byteOffset := 0 }, { name := "twin", type := 78, offset := 1, embedded := false, tag := "", pkgPath := "couplet/lss", byteOffset := 8 }, { name := "segs", type := 3, offset := 2, embedded := false, tag := "", pkgPath := "couplet/lss", byteOffset := 16 }, { name := "per", type := 3, offset := 3, embedded := false, tag := "", pkgPath := "couplet/lss", byteOffset := 24 }, { name := "space", type := 81, offset := 4, embedded := false, tag := "", pkgPath := "couplet/lss", byteOffset := 32 }, { name := "images", type := 83, offset := 5, embedded := false, tag := "", pkgPath := "couplet/lss", byteOffset := 40 }, { name := "table", type := 87, offset := 6, embedded := false, tag := "", pkgPath := "couplet/lss", byteOffset := 48 }, { name := "meta", type := 9, offset := 10, embedded := false, tag := "", pkgPath := "couplet/lss", byteOffset := 80 }, { name := "over", type := 4, offset := 11, embedded := false, tag := "", pkgPath := "couplet/lss", byteOffset := 96 }], some (.agg #[(.pointer none), (.pointer none), (.int .i64 0), (.int .i64 0), (.pointer none), (.map none), (.int .i64 0), (.int .i64 0), (.int .i64 0), (.int .i64 0), (.string ⟨#[]⟩), (.bool false)])⟩ ∧ T.get 90 = some ⟨1, 8, .pointer 163, some (.pointer none)⟩ ∧ T.get 91 = some ⟨1, 8, .func #[9] #[90] false, some .nilFunc⟩ ∧ T.get 92 = some ⟨1, 0, .tuple #[87, 4], some (.tuple #[(.agg #[(.int .i64 0), (.int .i64 0), (.int .i64 0), (.int .i64 0)]), (.bool false)])⟩ ∧ T.get 93 = some ⟨1, 8, .func #[90] #[87, 4] false, some .nilFunc⟩ ∧ T.get 94 = some ⟨1, 8, .func #[87] #[9, 29] false, some .nilFunc⟩ ∧ T.get 95 = some ⟨1, 8, .func #[9] #[4] false, some .nilFunc⟩ ∧ T.get 96 = some ⟨1, 8, .func #[85] #[29] false, some .nilFunc⟩ ∧ T.get 97 = some ⟨1, 8, .func #[176] #[] false, some .nilFunc⟩ ∧ T.get 98 = some ⟨1, 8, .func #[176] #[] false, some .nilFunc⟩ ∧ T.get 99 = some ⟨1, 8, .func #[] #[98] false, some .nilFunc⟩ ∧ T.get 100 = some ⟨1, 8, .func #[] #[56] false, some .nilFunc⟩ ∧ T.get 101 = some ⟨1, 8, .func #[] #[58] false, some .nilFunc⟩ ∧ T.get 102 = some ⟨1, 0, .tuple #[58, 29], some (.tuple #[(.pointer none), (.int .i64 0)])⟩ ∧ T.get 103 = some ⟨1, 8, .func #[9] #[58, 29] false, some .nilFunc⟩ ∧ T.get 104 = some ⟨1, 8, .func #[56] #[] false, some .nilFunc⟩ ∧ T.get 105 = some ⟨1, 8, .func #[56, 56] #[4] false, some .nilFunc⟩ ∧ T.get 106 = some ⟨1, 24, .slice 9, some (.slice none 0 0)⟩ ∧ T.get 107 = some ⟨1, 24, .slice 255, some (.slice none 0 0)⟩ ∧ T.get 108 = some ⟨5, 88, .struct #[{ name := "now", type := 106, offset := 0, embedded := false, tag := "", pkgPath := "couplet/disk", byteOffset := 0 }, { name := "flushed", type := 106, offset := 1, embedded := false, tag := "", pkgPath := "couplet/disk", byteOffset := 24 }, { name := "writes", type := 107, offset := 2, embedded := false, tag := "", pkgPath := "couplet/disk", byteOffset := 48 }, { name := "on", type := 4, offset := 3, embedded := false, tag := "", pkgPath := "couplet/disk", byteOffset := 72 }, { name := "fuse", type := 3, offset := 4, embedded := false, tag := "", pkgPath := "couplet/disk", byteOffset := 80 }], some (.agg #[(.slice none 0 0), (.slice none 0 0), (.slice none 0 0), (.bool false), (.int .i64 0)])⟩ ∧ T.get 109 = some ⟨5, 88, .struct #[{ name := "now", type := 106, offset := 0, embedded := false, tag := "", pkgPath := "couplet/disk", byteOffset := 0 }, { name := "flushed", type := 106, offset := 1, embedded := false, tag := "", pkgPath := "couplet/disk", byteOffset := 24 }, { name := "writes", type := 107, offset := 2, embedded := false, tag := "", pkgPath := "couplet/disk", byteOffset := 48 }, { name := "on", type := 4, offset := 3, embedded := false, tag := "", pkgPath := "couplet/disk", byteOffset := 72 }, { name := "fuse", type := 3, offset := 4, embedded := false, tag := "", pkgPath := "couplet/disk", byteOffset := 80 }], some (.agg #[(.slice none 0 0), (.slice none 0 0), (.slice none 0 0), (.bool false), (.int .i64 0)])⟩ ∧ T.get 110 = some ⟨1, 8, .func #[106] #[106] false, some .nilFunc⟩ ∧ T.get 111 = some ⟨1, 8, .func #[22, 3] #[29] false, some .nilFunc⟩ ∧ T.get 112 = some ⟨1, 8, .pointer 190, some (.pointer none)⟩ ∧ T.get 113 = some ⟨1, 8, .map 27 119, some (.map none)⟩ ∧ T.get 114 = some ⟨1, 8, .map 27 4, some (.map none)⟩ ∧ T.get 115 = some ⟨7, 56, .struct #[{ name := "fence", type := 112, offset := 0, embedded := false, tag := "", pkgPath := "couplet/tree", byteOffset := 0 }, { name := "next", type := 27, offset := 1, embedded := false, tag := "", pkgPath := "couplet/tree", byteOffset := 8 }, { name := "eosl", type := 27, offset := 2, embedded := false, tag := "", pkgPath := "couplet/tree", byteOffset := 16 }, { name := "low", type := 27, offset := 3, embedded := false, tag := "", pkgPath := "couplet/tree", byteOffset := 24 }, { name := "here", type := 113, offset := 4, embedded := false, tag := "", pkgPath := "couplet/tree", byteOffset := 32 }, { name := "kept", type := 114, offset := 5, embedded := false, tag := "", pkgPath := "couplet/tree", byteOffset := 40 }, { name := "gone", type := 114, offset := 6, embedded := false, tag := "", pkgPath := "couplet/tree", byteOffset := 48 }], some (.agg #[(.pointer none), (.int .u64 0), (.int .u64 0), (.int .u64 0), (.map none), (.map none), (.map none)])⟩ ∧ T.get 116 = some ⟨7, 56, .struct #[{ name := "fence", type := 112, offset := 0, embedded := false, tag := "", pkgPath := "couplet/tree", byteOffset := 0 }, { name := "next", type := 27, offset := 1, embedded := false, tag := "", pkgPath := "couplet/tree", byteOffset := 8 }, { name := "eosl", type := 27, offset := 2, embedded := false, tag := "", pkgPath := "couplet/tree", byteOffset := 16 }, { name := "low", type := 27, offset := 3, embedded := false, tag := "", pkgPath := "couplet/tree", byteOffset := 24 }, { name := "here", type := 113, offset := 4, embedded := false, tag := "", pkgPath := "couplet/tree", byteOffset := 32 }, { name := "kept", type := 114, offset := 5, embedded := false, tag := "", pkgPath := "couplet/tree", byteOffset := 40 }, { name := "gone", type := 114, offset := 6, embedded := false, tag := "", pkgPath := "couplet/tree", byteOffset := 48 }], some (.agg #[(.pointer none), (.int .u64 0), (.int .u64 0), (.int .u64 0), (.map none), (.map none), (.map none)])⟩ ∧ T.get 117 = some ⟨1, 8, .func #[3] #[9] false, some .nilFunc⟩ ∧ T.get 118 = some ⟨1, 8, .func #[56, 62] #[3] false, some .nilFunc⟩ ∧ T.get 119 = some ⟨1, 8, .pointer 124, some (.pointer none)⟩ ∧ T.get 120 = some ⟨1, 8, .func #[122, 33] #[4] false, some .nilFunc⟩ ∧ T.get 121 = some ⟨5, 88, .struct #[{ name := "Low", type := 9, offset := 0, embedded := false, tag := "", pkgPath := "", byteOffset := 0 }, { name := "High", type := 9, offset := 1, embedded := false, tag := "", pkgPath := "", byteOffset := 16 }, { name := "Full", type := 27, offset := 2, embedded := false, tag := "", pkgPath := "", byteOffset := 32 }, { name := "Base", type := 37, offset := 3, embedded := false, tag := "", pkgPath := "", byteOffset := 40 }, { name := "Deltas", type := 37, offset := 4, embedded := false, tag := "", pkgPath := "", byteOffset := 64 }], some (.agg #[(.string ⟨#[]⟩), (.string ⟨#[]⟩), (.int .u64 0), (.slice none 0 0), (.slice none 0 0)])⟩ ∧ T.get 122 = some ⟨5, 88, .struct #[{ name := "Low", type := 9, offset := 0, embedded := false, tag := "", pkgPath := "", byteOffset := 0 }, { name := "High", type := 9, offset := 1, embedded := false, tag := "", pkgPath := "", byteOffset := 16 }, { name := "Full", type := 27, offset := 2, embedded := false, tag := "", pkgPath := "", byteOffset := 32 }, { name := "Base", type := 37, offset := 3, embedded := false, tag := "", pkgPath := "", byteOffset := 40 }, { name := "Deltas", type := 37, offset := 4, embedded := false, tag := "", pkgPath := "", byteOffset := 64 }], some (.agg #[(.string ⟨#[]⟩), (.string ⟨#[]⟩), (.int .u64 0), (.slice none 0 0), (.slice none 0 0)])⟩ ∧ T.get 123 = some ⟨6, 96, .struct #[{ name := "Leaf", type := 122, offset := 0, embedded := true, tag := "", pkgPath := "", byteOffset := 0 }, { name := "dirty", type := 4, offset := 5, embedded := false, tag := "", pkgPath := "couplet/tree", byteOffset := 88 }], some (.agg #[(.string ⟨#[]⟩), (.string ⟨#[]⟩), (.int .u64 0), (.slice none 0 0), (.slice none 0 0), (.bool false)])⟩ ∧ T.get 124 = some ⟨6, 96, .struct #[{ name := "Leaf", type := 122, offset := 0, embedded := true, tag := "", pkgPath := "", byteOffset := 0 }, { name := "dirty", type := 4, offset := 5, embedded := false, tag := "", pkgPath := "couplet/tree", byteOffset := 88 }], some (.agg #[(.string ⟨#[]⟩), (.string ⟨#[]⟩), (.int .u64 0), (.slice none 0 0), (.slice none 0 0), (.bool false)])⟩ ∧ T.get 125 = some ⟨1, 8, .func #[122] #[106] false, some .nilFunc⟩ ∧ T.get 126 = some ⟨1, 8, .func #[106, 9] #[4] false, some .nilFunc⟩ ∧ T.get 127 = some ⟨1, 0, .tuple #[122, 4], some (.tuple #[(.agg #[(.string ⟨#[]⟩), (.string ⟨#[]⟩), (.int .u64 0), (.slice none 0 0), (.slice none 0 0)]), (.bool false)])⟩ ∧ T.get 128 = some ⟨1, 8, .func #[122, 33] #[122, 4] false, some .nilFunc⟩ ∧ T.get 129 = some ⟨1, 8, .func #[214] #[] true, some .nilFunc⟩ ∧ T.get 130 = some ⟨1, 8, .func #[122, 27] #[122] false, some .nilFunc⟩ ∧ T.get 131 = some ⟨1, 8, .func #[122] #[122] false, some .nilFunc⟩ ∧ T.get 132 = some ⟨1, 8, .func #[56, 27] #[3] false, some .nilFunc⟩ ∧ T.get 133 = some ⟨1, 8, .func #[27, 27] #[4] false, some .nilFunc⟩ ∧ T.get 134 = some ⟨1, 8, .func #[122, 27] #[9] false, some .nilFunc⟩ ∧ T.get 135 = some ⟨1, 8, .func #[137] #[56] false, some .nilFunc⟩ ∧ T.get 136 = some ⟨1, 8, .func #[62] #[] false, some .nilFunc⟩ ∧ T.get 137 = some ⟨1, 8, .func #[62] #[] false, some .nilFunc⟩ ∧ T.get 138 = some ⟨1, 8, .func #[114] #[137] false, some .nilFunc⟩ ∧ T.get 139 = some ⟨1, 8, .func #[9, 9] #[9] false, some .nilFunc⟩ ∧ T.get 140 = some ⟨1, 8, .func #[9, 27] #[9] false, some .nilFunc⟩ ∧ T.get 141 = some ⟨1, 8, .func #[] #[29] false, some .nilFunc⟩ ∧ T.get 142 = some ⟨1, 8, .func #[69, 56, 9, 4] #[29] false, some .nilFunc⟩ ∧ T.get 143 = some ⟨1, 8, .func #[37, 144] #[4] false, some .nilFunc⟩ ∧ T.get 144 = some ⟨1, 8, .func #[33] #[4] false, some .nilFunc⟩ ∧ T.get 145 = some ⟨1, 8, .func #[56, 62] #[4] false, some .nilFunc⟩ ∧ T.get 146 = some ⟨1, 8, .func #[144] #[] false, some .nilFunc⟩ ∧ T.get 147 = some ⟨1, 8, .func #[144] #[] false, some .nilFunc⟩ ∧ T.get 148 = some ⟨1, 8, .func #[56] #[147] false, some .nilFunc⟩ ∧ T.get 149 = some ⟨1, 8, .func #[230] #[29] true, some .nilFunc⟩ ∧ T.get 150 = some ⟨5, 48, .struct #[{ name := "disk", type := 22, offset := 0, embedded := false, tag := "", pkgPath := "couplet/twin", byteOffset := 0 }, { name := "at", type := 3, offset := 1, embedded := false, tag := "", pkgPath := "couplet/twin", byteOffset := 8 }, { name := "seq", type := 27, offset := 2, embedded := false, tag := "", pkgPath := "couplet/twin", byteOffset := 16 }, { name := "text", type := 9, offset := 3, embedded := false, tag := "", pkgPath := "couplet/twin", byteOffset := 24 }, { name := "lost", type := 4, offset := 4, embedded := false, tag := "", pkgPath := "couplet/twin", byteOffset := 40 }], some (.agg #[(.pointer none), (.int .i64 0), (.int .u64 0), (.string ⟨#[]⟩), (.bool false)])⟩ ∧ T.get 151 = some ⟨5, 48, .struct #[{ name := "disk", type := 22, offset := 0, embedded := false, tag := "", pkgPath := "couplet/twin", byteOffset := 0 }, { name := "at", type := 3, offset := 1, embedded := false, tag := "", pkgPath := "couplet/twin", byteOffset := 8 }, { name := "seq", type := 27, offset := 2, embedded := false, tag := "", pkgPath := "couplet/twin", byteOffset := 16 }, { name := "text", type := 9, offset := 3, embedded := false, tag := "", pkgPath := "couplet/twin", byteOffset := 24 }, { name := "lost", type := 4, offset := 4, embedded := false, tag := "", pkgPath := "couplet/twin", byteOffset := 40 }], some (.agg #[(.pointer none), (.int .i64 0), (.int .u64 0), (.string ⟨#[]⟩), (.bool false)])⟩ ∧ T.get 152 = some ⟨1, 8, .func #[3] #[9, 29] false, some .nilFunc⟩ ∧ T.get 153 = some ⟨1, 8, .int (.u64), some (.int .u64 0)⟩ ∧ T.get 154 = some ⟨1, 8, .func #[27, 9] #[9] false, some .nilFunc⟩ ∧ T.get 155 = some ⟨1, 8, .func #[3] #[29] false, some .nilFunc⟩ ∧ T.get 156 = some ⟨1, 24, .slice 161, some (.slice none 0 0)⟩ ∧ T.get 157 = some ⟨4, 48, .struct #[{ name := "segs", type := 156, offset := 0, embedded := false, tag := "", pkgPath := "couplet/space", byteOffset := 0 }, { name := "per", type := 3, offset := 1, embedded := false, tag := "", pkgPath := "couplet/space", byteOffset := 24 }, { name := "now", type := 3, offset := 2, embedded := false, tag := "", pkgPath := "couplet/space", byteOffset := 32 }, { name := "mark", type := 3, offset := 3, embedded := false, tag := "", pkgPath := "couplet/space", byteOffset := 40 }], some (.agg #[(.slice none 0 0), (.int .i64 0), (.int .i64 0), (.int .i64 0)])⟩ ∧ T.get 158 = some ⟨4, 48, .struct #[{ name := "segs", type := 156, offset := 0, embedded := false, tag := "", pkgPath := "couplet/space", byteOffset := 0 }, { name := "per", type := 3, offset := 1, embedded := false, tag := "", pkgPath := "couplet/space", byteOffset := 24 }, { name := "now", type := 3, offset := 2, embedded := false, tag := "", pkgPath := "couplet/space", byteOffset := 32 }, { name := "mark", type := 3, offset := 3, embedded := false, tag := "", pkgPath := "couplet/space", byteOffset := 40 }], some (.agg #[(.slice none 0 0), (.int .i64 0), (.int .i64 0), (.int .i64 0)])⟩ ∧ T.get 159 = some ⟨1, 8, .map 3 3, some (.map none)⟩ ∧ T.get 160 = some ⟨2, 16, .struct #[{ name := "pieces", type := 159, offset := 0, embedded := false, tag := "", pkgPath := "couplet/space", byteOffset := 0 }, { name := "live", type := 3, offset := 1, embedded := false, tag := "", pkgPath := "couplet/space", byteOffset := 8 }], some (.agg #[(.map none), (.int .i64 0)])⟩ ∧ T.get 161 = some ⟨2, 16, .struct #[{ name := "pieces", type := 159, offset := 0, embedded := false, tag := "", pkgPath := "couplet/space", byteOffset := 0 }, { name := "live", type := 3, offset := 1, embedded := false, tag := "", pkgPath := "couplet/space", byteOffset := 8 }], some (.agg #[(.map none), (.int .i64 0)])⟩ ∧ T.get 162 = some ⟨2, 24, .struct #[{ name := "left", type := 9, offset := 0, embedded := false, tag := "", pkgPath := "couplet/wire", byteOffset := 0 }, { name := "bad", type := 4, offset := 1, embedded := false, tag := "", pkgPath := "couplet/wire", byteOffset := 16 }], some (.agg #[(.string ⟨#[]⟩), (.bool false)])⟩ ∧ T.get 163 = some ⟨2, 24, .struct #[{ name := "left", type := 9, offset := 0, embedded := false, tag := "", pkgPath := "couplet/wire", byteOffset := 0 }, { name := "bad", type := 4, offset := 1, embedded := false, tag := "", pkgPath := "couplet/wire", byteOffset := 16 }], some (.agg #[(.string ⟨#[]⟩), (.bool false)])⟩ ∧ T.get 164 = some ⟨1, 8, .pointer 166, some (.pointer none)⟩ ∧ T.get 165 = some ⟨2, 32, .struct #[{ name := "addr", type := 164, offset := 0, embedded := false, tag := "", pkgPath := "strings", byteOffset := 0 }, { name := "buf", type := 65, offset := 1, embedded := false, tag := "", pkgPath := "strings", byteOffset := 8 }], some (.agg #[(.pointer none), (.slice none 0 0)])⟩ ∧ T.get 166 = some ⟨2, 32, .struct #[{ name := "addr", type := 164, offset := 0, embedded := false, tag := "", pkgPath := "strings", byteOffset := 0 }, { name := "buf", type := 65, offset := 1, embedded := false, tag := "", pkgPath := "strings", byteOffset := 8 }], some (.agg #[(.pointer none), (.slice none 0 0)])⟩ ∧ T.get 167 = some ⟨1, 8, .func #[85, 3] #[3] false, some .nilFunc⟩ ∧ T.get 168 = some ⟨1, 16, .interface #[("Error", 72)], some .nilIface⟩ ∧ T.get 169 = some ⟨1, 16, .interface #[("Error", 72)], some .nilIface⟩ ∧ T.get 170 = some ⟨1, 0, .tuple #[3, 169], some (.tuple #[(.int .i64 0), .nilIface])⟩ ∧ T.get 171 = some ⟨1, 8, .func #[9] #[3, 169] false, some .nilFunc⟩ ∧ T.get 172 = some ⟨1, 0, .tuple #[9, 4], some (.tuple #[(.string ⟨#[]⟩), (.bool false)])⟩ ∧ T.get 173 = some ⟨1, 8, .func #[9] #[9, 4] false, some .nilFunc⟩ ∧ T.get 174 = some ⟨1, 8, .func #[85] #[4] false, some .nilFunc⟩ ∧ T.get 175 = some ⟨1, 8, .func #[85] #[] false, some .nilFunc⟩ ∧ T.get 176 = some ⟨1, 8, .func #[27, 87] #[4] false, some .nilFunc⟩ ∧ T.get 177 = some ⟨1, 8, .func #[83] #[137] false, some .nilFunc⟩ ∧ T.get 178 = some ⟨1, 8, .func #[112, 27] #[58] false, some .nilFunc⟩ ∧ T.get 179 = some ⟨1, 8, .func #[27] #[112] false, some .nilFunc⟩ ∧ T.get 180 = some ⟨1, 0, .tuple #[33, 4], some (.tuple #[(.agg #[(.string ⟨#[]⟩), (.int .u64 0), (.bool false), (.string ⟨#[]⟩)]), (.bool false)])⟩ ∧ T.get 181 = some ⟨1, 8, .func #[122, 9] #[33, 4] false, some .nilFunc⟩ ∧ T.get 182 = some ⟨1, 8, .func #[9, 27, 27, 27] #[58, 29] false, some .nilFunc⟩ ∧ T.get 183 = some ⟨1, 8, .func #[56, 3, 3, 3] #[] false, some .nilFunc⟩ ∧ T.get 184 = some ⟨1, 8, .func #[153] #[3] false, some .nilFunc⟩ ∧ T.get 185 = some ⟨1, 8, .func #[3, 9] #[29] false, some .nilFunc⟩ ∧ T.get 186 = some ⟨1, 8, .func #[188, 9, 191] #[] false, some .nilFunc⟩ ∧ T.get 187 = some ⟨1, 16, .interface #[("couplet/fence.depth", 26)], some .nilIface⟩ ∧ T.get 188 = some ⟨1, 16, .interface #[("couplet/fence.depth", 26)], some .nilIface⟩ ∧ T.get 189 = some ⟨2, 24, .struct #[{ name := "root", type := 188, offset := 0, embedded := false, tag := "", pkgPath := "couplet/fence", byteOffset := 0 }, { name := "leaves", type := 3, offset := 1, embedded := false, tag := "", pkgPath := "couplet/fence", byteOffset := 16 }], some (.agg #[.nilIface, (.int .i64 0)])⟩ ∧ T.get 190 = some ⟨2, 24, .struct #[{ name := "root", type := 188, offset := 0, embedded := false, tag := "", pkgPath := "couplet/fence", byteOffset := 0 }, { name := "leaves", type := 3, offset := 1, embedded := false, tag := "", pkgPath := "couplet/fence", byteOffset := 16 }], some (.agg #[.nilIface, (.int .i64 0)])⟩ ∧ T.get 191 = some ⟨1, 8, .func #[9, 27] #[] false, some .nilFunc⟩ ∧ T.get 192 = some ⟨1, 8, .func #[] #[106] false, some .nilFunc⟩ ∧ T.get 193 = some ⟨1, 8, .func #[27, 9] #[29] false, some .nilFunc⟩ ∧ T.get 194 = some ⟨1, 8, .func #[4, 29] #[29] false, some .nilFunc⟩ ∧ T.get 195 = some ⟨1, 8, .pointer 198, some (.pointer none)⟩ ∧ T.get 196 = some ⟨1, 24, .slice 188, some (.slice none 0 0)⟩ ∧ T.get 197 = some ⟨2, 48, .struct #[{ name := "kids", type := 196, offset := 0, embedded := false, tag := "", pkgPath := "couplet/fence", byteOffset := 0 }, { name := "seps", type := 106, offset := 1, embedded := false, tag := "", pkgPath := "couplet/fence", byteOffset := 24 }], some (.agg #[(.slice none 0 0), (.slice none 0 0)])⟩ ∧ T.get 198 = some ⟨2, 48, .struct #[{ name := "kids", type := 196, offset := 0, embedded := false, tag := "", pkgPath := "couplet/fence", byteOffset := 0 }, { name := "seps", type := 106, offset := 1, embedded := false, tag := "", pkgPath := "couplet/fence", byteOffset := 24 }], some (.agg #[(.slice none 0 0), (.slice none 0 0)])⟩ ∧ T.get 199 = some ⟨1, 8, .func #[9] #[3] false, some .nilFunc⟩ ∧ T.get 200 = some ⟨1, 8, .int (.u64), some (.int .u64 0)⟩ ∧ T.get 201 = some ⟨1, 8, .map 9 4, some (.map none)⟩ ∧ T.get 202 = some ⟨1, 8, .func #[122] #[4] false, some .nilFunc⟩ ∧ T.get 203 = some ⟨1, 8, .func #[122] #[147] false, some .nilFunc⟩ ∧ T.get 204 = some ⟨1, 8, .func #[206] #[106] false, some .nilFunc⟩ ∧ T.get 205 = some ⟨1, 8, .func #[95] #[] false, some .nilFunc⟩ ∧ T.get 206 = some ⟨1, 8, .func #[95] #[] false, some .nilFunc⟩ ∧ T.get 207 = some ⟨1, 8, .func #[201] #[206] false, some .nilFunc⟩ ∧ T.get 208 = some ⟨1, 8, .func #[106, 9] #[3] false, some .nilFunc⟩ ∧ T.get 209 = some ⟨1, 8, .func #[37, 210] #[] false, some .nilFunc⟩ ∧ T.get 210 = some ⟨1, 8, .func #[33, 33] #[3] false, some .nilFunc⟩ ∧ T.get 211 = some ⟨1, 0, .tuple #[122, 122, 4], some (.tuple #[(.agg #[(.string ⟨#[]⟩), (.string ⟨#[]⟩), (.int .u64 0), (.slice none 0 0), (.slice none 0 0)]), (.agg #[(.string ⟨#[]⟩), (.string ⟨#[]⟩), (.int .u64 0), (.slice none 0 0), (.slice none 0 0)]), (.bool false)])⟩ ∧ T.get 212 = some ⟨1, 8, .func #[122] #[122, 122, 4] false, some .nilFunc⟩ ∧ T.get 213 = some ⟨1, 8, .func #[9, 27] #[29] false, some .nilFunc⟩ ∧ T.get 214 = some ⟨1, 24, .slice 131, some (.slice none 0 0)⟩ ∧ T.get 215 = some ⟨1, 8, .map 9 33, some (.map none)⟩ ∧ T.get 216 = some ⟨1, 8, .func #[37, 144] #[37] false, some .nilFunc⟩ ∧ T.get 217 = some ⟨1, 8, .func #[215] #[206] false, some .nilFunc⟩ ∧ T.get 218 = some ⟨1, 0, .tuple #[122, 29], some (.tuple #[(.agg #[(.string ⟨#[]⟩), (.string ⟨#[]⟩), (.int .u64 0), (.slice none 0 0), (.slice none 0 0)]), (.int .i64 0)])⟩ ∧ T.get 219 = some ⟨1, 8, .func #[122, 122] #[122, 29] false, some .nilFunc⟩ ∧ T.get 220 = some ⟨1, 8, .func #[113] #[137] false, some .nilFunc⟩ ∧ T.get 221 = some ⟨10, 10, .array 10 5, some (.agg #[(.int .u8 0), (.int .u8 0), (.int .u8 0), (.int .u8 0), (.int .u8 0), (.int .u8 0), (.int .u8 0), (.int .u8 0), (.int .u8 0), (.int .u8 0)])⟩ ∧ T.get 222 = some ⟨1, 8, .pointer 225, some (.pointer none)⟩ ∧ T.get 223 = some ⟨1, 24, .slice 87, some (.slice none 0 0)⟩ ∧ T.get 224 = some ⟨17, 192, .struct #[{ name := "Store", type := 43, offset := 0, embedded := true, tag := "", pkgPath := "", byteOffset := 0 }, { name := "put", type := 69, offset := 1, embedded := false, tag := "", pkgPath := "couplet/lss", byteOffset := 8 }, { name := "drop", type := 56, offset := 2, embedded := false, tag := "", pkgPath := "couplet/lss", byteOffset := 32 }, { name := "spare", type := 4, offset := 3, embedded := false, tag := "", pkgPath := "couplet/lss", byteOffset := 56 }, { name := "places", type := 223, offset := 4, embedded := false, tag := "", pkgPath := "couplet/lss", byteOffset := 64 }, { name := "to", type := 89, offset := 5, embedded := false, tag := "", pkgPath := "couplet/lss", byteOffset := 88 }], some (.agg #[(.pointer none), (.slice none 0 0), (.slice none 0 0), (.bool false), (.slice none 0 0), (.pointer none), (.pointer none), (.int .i64 0), (.int .i64 0), (.pointer none), (.map none), (.int .i64 0), (.int .i64 0), (.int .i64 0), (.int .i64 0), (.string ⟨#[]⟩), (.bool false)])⟩ ∧ T.get 225 = some ⟨17, 192, .struct #[{ name := "Store", type := 43, offset := 0, embedded := true, tag := "", pkgPath := "", byteOffset := 0 }, { name := "put", type := 69, offset := 1, embedded := false, tag := "", pkgPath := "couplet/lss", byteOffset := 8 }, { name := "drop", type := 56, offset := 2, embedded := false, tag := "", pkgPath := "couplet/lss", byteOffset := 32 }, { name := "spare", type := 4, offset := 3, embedded := false, tag := "", pkgPath := "couplet/lss", byteOffset := 56 }, { name := "places", type := 223, offset := 4, embedded := false, tag := "", pkgPath := "couplet/lss", byteOffset := 64 }, { name := "to", type := 89, offset := 5, embedded := false, tag := "", pkgPath := "couplet/lss", byteOffset := 88 }], some (.agg #[(.pointer none), (.slice none 0 0), (.slice none 0 0), (.bool false), (.slice none 0 0), (.pointer none), (.pointer none), (.int .i64 0), (.int .i64 0), (.pointer none), (.map none), (.int .i64 0), (.int .i64 0), (.int .i64 0), (.int .i64 0), (.string ⟨#[]⟩), (.bool false)])⟩ ∧ T.get 226 = some ⟨1, 8, .func #[] #[81] false, some .nilFunc⟩ ∧ T.get 227 = some ⟨1, 8, .func #[83] #[83] false, some .nilFunc⟩ ∧ T.get 228 = some ⟨1, 8, .func #[69, 56] #[29] false, some .nilFunc⟩ ∧ T.get 229 = some ⟨1, 8, .func #[37, 144] #[3] false, some .nilFunc⟩ ∧ T.get 230 = some ⟨1, 24, .slice 141, some (.slice none 0 0)⟩ ∧ T.get 231 = some ⟨64, 64, .array 64 5, some (.agg #[(.int .u8 0), (.int .u8 0), (.int .u8 0), (.int .u8 0), (.int .u8 0), (.int .u8 0), (.int .u8 0), (.int .u8 0), (.int .u8 0), (.int .u8 0), (.int .u8 0), (.int .u8 0), (.int .u8 0), (.int .u8 0), (.int .u8 0), (.int .u8 0), (.int .u8 0), (.int .u8 0), (.int .u8 0), (.int .u8 0), (.int .u8 0), (.int .u8 0), (.int .u8 0), (.int .u8 0), (.int .u8 0), (.int .u8 0), (.int .u8 0), (.int .u8 0), (.int .u8 0), (.int .u8 0), (.int .u8 0), (.int .u8 0), (.int .u8 0), (.int .u8 0), (.int .u8 0), (.int .u8 0), (.int .u8 0), (.int .u8 0), (.int .u8 0), (.int .u8 0), (.int .u8 0), (.int .u8 0), (.int .u8 0), (.int .u8 0), (.int .u8 0), (.int .u8 0), (.int .u8 0), (.int .u8 0), (.int .u8 0), (.int .u8 0), (.int .u8 0), (.int .u8 0), (.int .u8 0), (.int .u8 0), (.int .u8 0), (.int .u8 0), (.int .u8 0), (.int .u8 0), (.int .u8 0), (.int .u8 0), (.int .u8 0), (.int .u8 0), (.int .u8 0), (.int .u8 0)])⟩ ∧ T.get 232 = some ⟨64, 64, .array 64 5, some (.agg #[(.int .u8 0), (.int .u8 0), (.int .u8 0), (.int .u8 0), (.int .u8 0), (.int .u8 0), (.int .u8 0), (.int .u8 0), (.int .u8 0), (.int .u8 0), (.int .u8 0), (.int .u8 0), (.int .u8 0), (.int .u8 0), (.int .u8 0), (.int .u8 0), (.int .u8 0), (.int .u8 0), (.int .u8 0), (.int .u8 0), (.int .u8 0), (.int .u8 0), (.int .u8 0), (.int .u8 0), (.int .u8 0), (.int .u8 0), (.int .u8 0), (.int .u8 0), (.int .u8 0), (.int .u8 0), (.int .u8 0), (.int .u8 0), (.int .u8 0), (.int .u8 0), (.int .u8 0), (.int .u8 0), (.int .u8 0), (.int .u8 0), (.int .u8 0), (.int .u8 0), (.int .u8 0), (.int .u8 0), (.int .u8 0), (.int .u8 0), (.int .u8 0), (.int .u8 0), (.int .u8 0), (.int .u8 0), (.int .u8 0), (.int .u8 0), (.int .u8 0), (.int .u8 0), (.int .u8 0), (.int .u8 0), (.int .u8 0), (.int .u8 0), (.int .u8 0), (.int .u8 0), (.int .u8 0), (.int .u8 0), (.int .u8 0), (.int .u8 0), (.int .u8 0), (.int .u8 0)])⟩ ∧ T.get 233 = some ⟨1, 0, .tuple #[232, 232], some (.tuple #[(.agg #[(.int .u8 0), (.int .u8 0), (.int .u8 0), (.int .u8 0), (.int .u8 0), (.int .u8 0), (.int .u8 0), (.int .u8 0), (.int .u8 0), (.int .u8 0), (.int .u8 0), (.int .u8 0), (.int .u8 0), (.int .u8 0), (.int .u8 0), (.int .u8 0), (.int .u8 0), (.int .u8 0), (.int .u8 0), (.int .u8 0), (.int .u8 0), (.int .u8 0), (.int .u8 0), (.int .u8 0), (.int .u8 0), (.int .u8 0), (.int .u8 0), (.int .u8 0), (.int .u8 0), (.int .u8 0), (.int .u8 0), (.int .u8 0), (.int .u8 0), (.int .u8 0), (.int .u8 0), (.int .u8 0), (.int .u8 0), (.int .u8 0), (.int .u8 0), (.int .u8 0), (.int .u8 0), (.int .u8 0), (.int .u8 0), (.int .u8 0), (.int .u8 0), (.int .u8 0), (.int .u8 0), (.int .u8 0), (.int .u8 0), (.int .u8 0), (.int .u8 0), (.int .u8 0), (.int .u8 0), (.int .u8 0), (.int .u8 0), (.int .u8 0), (.int .u8 0), (.int .u8 0), (.int .u8 0), (.int .u8 0), (.int .u8 0), (.int .u8 0), (.int .u8 0), (.int .u8 0)]), (.agg #[(.int .u8 0), (.int .u8 0), (.int .u8 0), (.int .u8 0), (.int .u8 0), (.int .u8 0), (.int .u8 0), (.int .u8 0), (.int .u8 0), (.int .u8 0), (.int .u8 0), (.int .u8 0), (.int .u8 0), (.int .u8 0), (.int .u8 0), (.int .u8 0), (.int .u8 0), (.int .u8 0), (.int .u8 0), (.int .u8 0), (.int .u8 0), (.int .u8 0), (.int .u8 0), (.int .u8 0), (.int .u8 0), (.int .u8 0), (.int .u8 0), (.int .u8 0), (.int .u8 0), (.int .u8 0), (.int .u8 0), (.int .u8 0), (.int .u8 0), (.int .u8 0), (.int .u8 0), (.int .u8 0), (.int .u8 0), (.int .u8 0), (.int .u8 0), (.int .u8 0), (.int .u8 0), (.int .u8 0), (.int .u8 0), (.int .u8 0), (.int .u8 0), (.int .u8 0), (.int .u8 0), (.int .u8 0), (.int .u8 0), (.int .u8 0), (.int .u8 0), (.int .u8 0), (.int .u8 0), (.int .u8 0), (.int .u8 0), (.int .u8 0), (.int .u8 0), (.int .u8 0), (.int .u8 0), (.int .u8 0), (.int .u8 0), (.int .u8 0), (.int .u8 0), (.int .u8 0)])])⟩ ∧ T.get 234 = some ⟨1, 8, .func #[9] #[232, 232] false, some .nilFunc⟩ ∧ T.get 235 = some ⟨1, 8, .func #[3, 5] #[4] false, some .nilFunc⟩ ∧ T.get 236 = some ⟨1, 8, .func #[9] #[9] false, some .nilFunc⟩ ∧ T.get 237 = some ⟨1, 8, .pointer 5, some (.pointer none)⟩ ∧ T.get 238 = some ⟨1, 0, .tuple #[112, 29], some (.tuple #[(.pointer none), (.int .i64 0)])⟩ ∧ T.get 239 = some ⟨1, 8, .func #[9] #[112, 29] false, some .nilFunc⟩ ∧ T.get 240 = some ⟨1, 8, .func #[56] #[27] false, some .nilFunc⟩ ∧ T.get 241 = some ⟨1, 8, .func #[56, 3, 3] #[] false, some .nilFunc⟩ ∧ T.get 242 = some ⟨1, 8, .int (.i64), some (.int .i64 0)⟩ ∧ T.get 243 = some ⟨1, 0, .tuple #[3, 242], some (.tuple #[(.int .i64 0), (.int .i64 0)])⟩ ∧ T.get 244 = some ⟨1, 8, .func #[56, 3, 3] #[3, 242] false, some .nilFunc⟩ ∧ T.get 245 = some ⟨1, 8, .func #[56, 3, 3] #[4] false, some .nilFunc⟩ ∧ T.get 246 = some ⟨1, 8, .func #[56, 3, 3, 3] #[3] false, some .nilFunc⟩ ∧ T.get 247 = some ⟨1, 0, .tuple #[3, 4], some (.tuple #[(.int .i64 0), (.bool false)])⟩ ∧ T.get 248 = some ⟨1, 8, .func #[56, 3, 3, 3] #[3, 4] false, some .nilFunc⟩ ∧ T.get 249 = some ⟨1, 8, .func #[250] #[3] false, some .nilFunc⟩ ∧ T.get 250 = some ⟨1, 4, .int (.u32), some (.int .u32 0)⟩ ∧ T.get 251 = some ⟨1, 8, .func #[27] #[3] false, some .nilFunc⟩ ∧ T.get 252 = some ⟨1, 8, .struct #[{ name := "at", type := 3, offset := 0, embedded := false, tag := "", pkgPath := "couplet/disk", byteOffset := 0 }], some (.agg #[(.int .i64 0)])⟩ ∧ T.get 253 = some ⟨1, 8, .struct #[{ name := "at", type := 3, offset := 0, embedded := false, tag := "", pkgPath := "couplet/disk", byteOffset := 0 }], some (.agg #[(.int .i64 0)])⟩ ∧ T.get 254 = some ⟨2, 24, .struct #[{ name := "place", type := 253, offset := 0, embedded := true, tag := "", pkgPath := "couplet/disk", byteOffset := 0 }, { name := "s", type := 9, offset := 1, embedded := false, tag := "", pkgPath := "couplet/disk", byteOffset := 8 }], some (.agg #[(.int .i64 0), (.string ⟨#[]⟩)])⟩ ∧ T.get 255 = some ⟨2, 24, .struct #[{ name := "place", type := 253, offset := 0, embedded := true, tag := "", pkgPath := "couplet/disk", byteOffset := 0 }, { name := "s", type := 9, offset := 1, embedded := false, tag := "", pkgPath := "couplet/disk", byteOffset := 8 }], some (.agg #[(.int .i64 0), (.string ⟨#[]⟩)])⟩ ∧ T.get 256 = some ⟨1, 8, .func #[9] #[122, 29] false, some .nilFunc⟩ ∧ T.get 257 = some ⟨1, 8, .func #[106, 9] #[3, 4] false, some .nilFunc⟩ ∧ T.get 258 = some ⟨1, 8, .func #[122] #[29] false, some .nilFunc⟩ ∧ T.get 259 = some ⟨1, 24, .slice 37, some (.slice none 0 0)⟩ ∧ T.get 260 = some ⟨1, 8, .func #[106] #[] false, some .nilFunc⟩ ∧ T.get 261 = some ⟨1, 8, .func #[37] #[37] false, some .nilFunc⟩ ∧ T.get 262 = some ⟨1, 8, .func #[122, 9] #[4] false, some .nilFunc⟩ ∧ T.get 263 = some ⟨1, 8, .func #[37, 3, 3, 3, 210] #[] false, some .nilFunc⟩ ∧ T.get 264 = some ⟨1, 8, .func #[122, 9, 9] #[122] false, some .nilFunc⟩ ∧ T.get 265 = some ⟨1, 8, .func #[56, 27] #[4] false, some .nilFunc⟩ ∧ T.get 266 = some ⟨1, 0, .tuple #[188, 9], some (.tuple #[.nilIface, (.string ⟨#[]⟩)])⟩ ∧ T.get 267 = some ⟨1, 8, .func #[188, 9, 27] #[188, 9] false, some .nilFunc⟩ ∧ T.get 268 = some ⟨1, 8, .func #[259] #[37] true, some .nilFunc⟩ ∧ T.get 269 = some ⟨1, 0, .tuple #[195, 4], some (.tuple #[(.pointer none), (.bool false)])⟩ ∧ T.get 270 = some ⟨1, 8, .func #[56, 137] #[56] false, some .nilFunc⟩ ∧ T.get 271 = some ⟨1, 8, .func #[156] #[156] false, some .nilFunc⟩ ∧ T.get 272 = some ⟨1, 8, .func #[159] #[159] false, some .nilFunc⟩ ∧ T.get 273 = some ⟨1, 8, .func #[20] #[20] false, some .nilFunc⟩ ∧ T.get 274 = some ⟨1, 8, .map 27 3, some (.map none)⟩ ∧ T.get 275 = some ⟨1, 8, .func #[69, 276] #[4] false, some .nilFunc⟩ ∧ T.get 276 = some ⟨1, 8, .func #[77] #[4] false, some .nilFunc⟩ ∧ T.get 277 = some ⟨1, 0, .tuple #[87, 29], some (.tuple #[(.agg #[(.int .i64 0), (.int .i64 0), (.int .i64 0), (.int .i64 0)]), (.int .i64 0)])⟩ ∧ T.get 278 = some ⟨1, 8, .func #[3] #[87, 29] false, some .nilFunc⟩ ∧ T.get 279 = some ⟨1, 8, .func #[87, 9] #[29] false, some .nilFunc⟩ ∧ T.get 280 = some ⟨1, 8, .unsafePointer, some (.pointer none)⟩ ∧ T.get 281 = some ⟨1, 8, .func #[280] #[280] false, some .nilFunc⟩ ∧ T.get 282 = some ⟨1, 8, .func #[9] #[250] false, some .nilFunc⟩ ∧ T.get 283 = some ⟨1, 8, .func #[9, 65] #[9] true, some .nilFunc⟩ ∧ T.get 284 = some ⟨1, 8, .int (.u64), some (.int .u64 0)⟩ ∧ T.get 285 = some ⟨1, 8, .func #[3] #[153] false, some .nilFunc⟩ ∧ T.get 286 = some ⟨1, 8, .func #[56, 3, 287] #[3] false, some .nilFunc⟩ ∧ T.get 287 = some ⟨1, 8, .pointer 3, some (.pointer none)⟩ ∧ T.get 288 = some ⟨1, 8, .func #[56, 3, 3, 3, 287] #[3] false, some .nilFunc⟩ ∧ T.get 289 = some ⟨0, 0, .struct #[], some (.agg #[])⟩ ∧ T.get 290 = some ⟨0, 0, .struct #[], some (.agg #[])⟩ ∧ T.get 291 = some ⟨1, 0, .tuple #[290, 4], some (.tuple #[(.agg #[]), (.bool false)])⟩ ∧ T.get 292 = some ⟨1, 8, .func #[9] #[122] false, some .nilFunc⟩ ∧ T.get 293 = some ⟨1, 8, .func #[9, 9] #[4] false, some .nilFunc⟩ ∧ T.get 294 = some ⟨1, 8, .func #[37, 295] #[4] false, some .nilFunc⟩ ∧ T.get 295 = some ⟨1, 8, .func #[33, 33] #[4] false, some .nilFunc⟩ ∧ T.get 296 = some ⟨1, 8, .func #[106, 206] #[106] false, some .nilFunc⟩ ∧ T.get 297 = some ⟨1, 8, .func #[106, 3, 3, 3] #[] false, some .nilFunc⟩ ∧ T.get 298 = some ⟨1, 8, .func #[37, 3, 3, 210] #[] false, some .nilFunc⟩ ∧ T.get 299 = some ⟨1, 8, .func #[37, 3, 3, 210] #[3, 242] false, some .nilFunc⟩ ∧ T.get 300 = some ⟨1, 8, .func #[37, 3, 3, 210] #[4] false, some .nilFunc⟩ ∧ T.get 301 = some ⟨1, 8, .func #[37, 3, 3, 3, 210] #[3] false, some .nilFunc⟩ ∧ T.get 302 = some ⟨1, 8, .func #[37, 3, 3, 3, 210] #[3, 4] false, some .nilFunc⟩ ∧ T.get 303 = some ⟨1, 8, .func #[196, 3, 196] #[196] true, some .nilFunc⟩ ∧ T.get 304 = some ⟨1, 8, .func #[106, 3, 106] #[106] true, some .nilFunc⟩ ∧ T.get 305 = some ⟨1, 0, .tuple #[195, 9], some (.tuple #[(.pointer none), (.string ⟨#[]⟩)])⟩ ∧ T.get 306 = some ⟨1, 8, .func #[] #[195, 9] false, some .nilFunc⟩ ∧ T.get 307 = some ⟨1, 8, .func #[37, 3] #[37] false, some .nilFunc⟩ ∧ T.get 308 = some ⟨1, 8, .func #[37, 3, 210] #[] false, some .nilFunc⟩ ∧ T.get 309 = some ⟨1, 8, .func #[3] #[] false, some .nilFunc⟩ ∧ T.get 310 = some ⟨1, 8, .func #[3, 3] #[9] false, some .nilFunc⟩ ∧ T.get 311 = some ⟨1, 8, .func #[69, 276] #[3] false, some .nilFunc⟩ ∧ T.get 312 = some ⟨1, 0, .tuple #[85, 29], some (.tuple #[(.agg #[(.int .i64 0), (.int .i64 0), (.int .i64 0)]), (.int .i64 0)])⟩ ∧ T.get 313 = some ⟨1, 8, .func #[3, 4] #[85, 29] false, some .nilFunc⟩ ∧ T.get 314 = some ⟨1, 8, .func #[250] #[] false, some .nilFunc⟩ ∧ T.get 315 = some ⟨1, 8, .pointer 284, some (.pointer none)⟩ ∧ T.get 316 = some ⟨1, 0, .tuple #[3, 3], some (.tuple #[(.int .i64 0), (.int .i64 0)])⟩ ∧ T.get 317 = some ⟨1, 8, .func #[56, 3, 3, 287] #[3, 3] false, some .nilFunc⟩ ∧ T.get 318 = some ⟨1, 8, .func #[4] #[] false, some .nilFunc⟩ ∧ T.get 319 = some ⟨1, 8, .func #[106, 3, 3] #[] false, some .nilFunc⟩ ∧ T.get 320 = some ⟨1, 8, .func #[106, 3, 3] #[3, 242] false, some .nilFunc⟩ ∧ T.get 321 = some ⟨1, 8, .func #[106, 3, 3] #[4] false, some .nilFunc⟩ ∧ T.get 322 = some ⟨1, 8, .func #[106, 3, 3, 3] #[3] false, some .nilFunc⟩ ∧ T.get 323 = some ⟨1, 8, .func #[106, 3, 3, 3] #[3, 4] false, some .nilFunc⟩ ∧ T.get 324 = some ⟨1, 8, .func #[37, 3, 287, 210] #[3] false, some .nilFunc⟩ ∧ T.get 325 = some ⟨1, 8, .func #[37, 3, 3, 3, 287, 210] #[3] false, some .nilFunc⟩ ∧ T.get 326 = some ⟨1, 8, .func #[196, 196] #[4] false, some .nilFunc⟩ ∧ T.get 327 = some ⟨1, 8, .func #[196, 3] #[] false, some .nilFunc⟩ ∧ T.get 328 = some ⟨1, 8, .func #[106, 106] #[4] false, some .nilFunc⟩ ∧ T.get 329 = some ⟨1, 8, .func #[106, 3] #[] false, some .nilFunc⟩ ∧ T.get 330 = some ⟨1, 8, .func #[196] #[196] false, some .nilFunc⟩ ∧ T.get 331 = some ⟨1, 8, .func #[196, 3, 3] #[196] false, some .nilFunc⟩ ∧ T.get 332 = some ⟨1, 8, .func #[106, 3, 3] #[106] false, some .nilFunc⟩ ∧ T.get 333 = some ⟨1, 24, .slice 3, some (.slice none 0 0)⟩ ∧ T.get 334 = some ⟨1, 8, .func #[156, 335] #[333] false, some .nilFunc⟩ ∧ T.get 335 = some ⟨1, 8, .func #[3, 161] #[4] false, some .nilFunc⟩ ∧ T.get 336 = some ⟨1, 8, .func #[106, 3, 287] #[3] false, some .nilFunc⟩ ∧ T.get 337 = some ⟨1, 8, .func #[106, 3, 3, 3, 287] #[3] false, some .nilFunc⟩ ∧ T.get 338 = some ⟨1, 8, .func #[37, 3, 3, 287, 210] #[3, 3] false, some .nilFunc⟩ ∧ T.get 339 = some ⟨1, 8, .func #[106, 3, 3, 287] #[3, 3] false, some .nilFunc⟩ ∧ T.get 340 = some ⟨1, 8, .func #[196] #[] false, some .nilFunc⟩ ∧ T.get 343 = some ⟨0, 0, .array 0 16, some (.agg #[])⟩ ∧ T.get 346 = some ⟨1, 1, .int (.u8), some (.int .u8 0)⟩ ∧ T.get 347 = some ⟨1, 1, .int (.u8), some (.int .u8 0)⟩ ∧ T.get 348 = some ⟨1, 8, .func #[280, 280] #[4] false, some .nilFunc⟩ ∧ T.get 349 = some ⟨1, 4, .int (.i32), some (.int .i32 0)⟩ ∧ T.get 350 = some ⟨1, 4, .int (.i32), some (.int .i32 0)⟩ ∧ T.get 351 = some ⟨11, 48, .struct #[{ name := "Size_", type := 12, offset := 0, embedded := false, tag := "", pkgPath := "", byteOffset := 0 }, { name := "PtrBytes", type := 12, offset := 1, embedded := false, tag := "", pkgPath := "", byteOffset := 8 }, { name := "Hash", type := 250, offset := 2, embedded := false, tag := "", pkgPath := "", byteOffset := 16 }, { name := "TFlag", type := 346, offset := 3, embedded := false, tag := "", pkgPath := "", byteOffset := 20 }, { name := "Align_", type := 5, offset := 4, embedded := false, tag := "", pkgPath := "", byteOffset := 21 }, { name := "FieldAlign_", type := 5, offset := 5, embedded := false, tag := "", pkgPath := "", byteOffset := 22 }, { name := "Kind_", type := 347, offset := 6, embedded := false, tag := "", pkgPath := "", byteOffset := 23 }, { name := "Equal", type := 348, offset := 7, embedded := false, tag := "", pkgPath := "", byteOffset := 24 }, { name := "GCData", type := 237, offset := 8, embedded := false, tag := "", pkgPath := "", byteOffset := 32 }, { name := "Str", type := 349, offset := 9, embedded := false, tag := "", pkgPath := "", byteOffset := 40 }, { name := "PtrToThis", type := 350, offset := 10, embedded := false, tag := "", pkgPath := "", byteOffset := 44 }], some (.agg #[(.int .u64 0), (.int .u64 0), (.int .u32 0), (.int .u8 0), (.int .u8 0), (.int .u8 0), (.int .u8 0), .nilFunc, (.pointer none), (.int .i32 0), (.int .i32 0)])⟩ ∧ T.get 352 = some ⟨11, 48, .struct #[{ name := "Size_", type := 12, offset := 0, embedded := false, tag := "", pkgPath := "", byteOffset := 0 }, { name := "PtrBytes", type := 12, offset := 1, embedded := false, tag := "", pkgPath := "", byteOffset := 8 }, { name := "Hash", type := 250, offset := 2, embedded := false, tag := "", pkgPath := "", byteOffset := 16 }, { name := "TFlag", type := 346, offset := 3, embedded := false, tag := "", pkgPath := "", byteOffset := 20 }, { name := "Align_", type := 5, offset := 4, embedded := false, tag := "", pkgPath := "", byteOffset := 21 }, { name := "FieldAlign_", type := 5, offset := 5, embedded := false, tag := "", pkgPath := "", byteOffset := 22 }, { name := "Kind_", type := 347, offset := 6, embedded := false, tag := "", pkgPath := "", byteOffset := 23 }, { name := "Equal", type := 348, offset := 7, embedded := false, tag := "", pkgPath := "", byteOffset := 24 }, { name := "GCData", type := 237, offset := 8, embedded := false, tag := "", pkgPath := "", byteOffset := 32 }, { name := "Str", type := 349, offset := 9, embedded := false, tag := "", pkgPath := "", byteOffset := 40 }, { name := "PtrToThis", type := 350, offset := 10, embedded := false, tag := "", pkgPath := "", byteOffset := 44 }], some (.agg #[(.int .u64 0), (.int .u64 0), (.int .u32 0), (.int .u8 0), (.int .u8 0), (.int .u8 0), (.int .u8 0), .nilFunc, (.pointer none), (.int .i32 0), (.int .i32 0)])⟩ := ⟨ty0, ty1, ty2, ty3, ty4, ty5, ty6, ty9, ty10, ty11, ty12, ty15, ty16, ty17, ty20, ty21, ty22, ty23, ty24, ty25, ty26, ty27, ty28, ty29, ty30, ty31, ty32, ty33, ty34, ty35, ty36, ty37, ty38, ty39, ty40, ty41, ty42, ty43, ty44, ty45, ty46, ty47, ty48, ty49, ty50, ty51, ty52, ty53, ty54, ty55, ty56, ty57, ty58, ty59, ty60, ty61, ty62, ty63, ty64, ty65, ty66, ty67, ty68, ty69, ty70, ty71, ty72, ty73, ty74, ty75, ty76, ty77, ty78, ty79, ty80, ty81, ty82, ty83, ty84, ty85, ty86, ty87, ty88, ty89, ty90, ty91, ty92, ty93, ty94, ty95, ty96, ty97, ty98, ty99, ty100, ty101, ty102, ty103, ty104, ty105, ty106, ty107, ty108, ty109, ty110, ty111, ty112, ty113, ty114, ty115, ty116, ty117, ty118, ty119, ty120, ty121, ty122, ty123, ty124, ty125, ty126, ty127, ty128, ty129, ty130, ty131, ty132, ty133, ty134, ty135, ty136, ty137, ty138, ty139, ty140, ty141, ty142, ty143, ty144, ty145, ty146, ty147, ty148, ty149, ty150, ty151, ty152, ty153, ty154, ty155, ty156, ty157, ty158, ty159, ty160, ty161, ty162, ty163, ty164, ty165, ty166, ty167, ty168, ty169, ty170, ty171, ty172, ty173, ty174, ty175, ty176, ty177, ty178, ty179, ty180, ty181, ty182, ty183, ty184, ty185, ty186, ty187, ty188, ty189, ty190, ty191, ty192, ty193, ty194, ty195, ty196, ty197, ty198, ty199, ty200, ty201, ty202, ty203, ty204, ty205, ty206, ty207, ty208, ty209, ty210, ty211, ty212, ty213, ty214, ty215, ty216, ty217, ty218, ty219, ty220, ty221, ty222, ty223, ty224, ty225, ty226, ty227, ty228, ty229, ty230, ty231, ty232, ty233, ty234, ty235, ty236, ty237, ty238, ty239, ty240, ty241, ty242, ty243, ty244, ty245, ty246, ty247, ty248, ty249, ty250, ty251, ty252, ty253, ty254, ty255, ty256, ty257, ty258, ty259, ty260, ty261, ty262, ty263, ty264, ty265, ty266, ty267, ty268, ty269, ty270, ty271, ty272, ty273, ty274, ty275, ty276, ty277, ty278, ty279, ty280, ty281, ty282, ty283, ty284, ty285, ty286, ty287, ty288, ty289, ty290, ty291, ty292, ty293, ty294, ty295, ty296, ty297, ty298, ty299, ty300, ty301, ty302, ty303, ty304, ty305, ty306, ty307, ty308, ty309, ty310, ty311, ty312, ty313, ty314, ty315, ty316, ty317, ty318, ty319, ty320, ty321, ty322, ty323, ty324, ty325, ty326, ty327, ty328, ty329, ty330, ty331, ty332, ty333, ty334, ty335, ty336, ty337, ty338, ty339, ty340, ty343, ty346, ty347, ty348, ty349, ty350, ty351, ty352⟩
end Go.Proofs.YtimbhgkiohbkdaaGreat
namespace Go.Proofs.YtimbhgkiohbkdaaGreat.SortS
open Go.Ab Go.Sort
set_option linter.unusedSimpArgs false
set_option linter.unusedVariables false
set_option maxRecDepth 10000
set_option maxHeartbeats 8000000
noncomputable abbrev El : Type := List UInt8
noncomputable abbrev enc : El → Value := fun s => Value.string ⟨⟨s⟩⟩
noncomputable abbrev lt : El → El → Bool := ltStr
noncomputable abbrev I64 (n : Int) : Value := .int .i64 n
noncomputable abbrev row (d : Array El) : AObj := .cells (d.toList.map enc) 1
noncomputable abbrev sl (r n : Nat) : Value := .slice (some ⟨r, 0, none⟩) n 0
theorem rg {d : Array El} {i : Nat} (hi : i < d.size) : (d.toList.map enc)[i]? = some (enc d[i]!) := arr_get enc hi
theorem rs {d : Array El} {i : Nat} {x : El} (hi : i < d.size) : splice (d.toList.map enc) i [enc x] = (d.setIfInBounds i x).toList.map enc := arr_set enc x hi
theorem rb {d : Array El} {i : Nat} (hi : i < d.size) : Nat.ble (i + 1) (d.toList.map enc).length = true := arr_ble enc hi
theorem nan_c (x : El) (h : AHeap) : FWp Tryz.prog 284 [enc x] h fun u h' => u = .bool false ∧ h' = h := by
  refine W.enter tyOK Tryz.func284 rfl rfl ?_
  simp only [entry]
  refine W.seq <| W.reg <| OSuf.aopF tyOK rfl za (fun _ => rfl) rfl <| OSuf.nil <| SQ.normal ?_
  refine W.seq <| W.reg <| OSuf.aop tyOK rfl sm rfl <| OSuf.aop tyOK rfl sm rfl <| OSuf.aop tyOK rfl (zb (hv := bs_neq)) rfl <| OSuf.aop tyOK rfl za rfl <| OSuf.nil <| SQ.normal ?_
  refine CWp.ret <| FQ.ret (by simp only [aRet, Tryz.f284, aResults, aResult, lk, Nat.reduceEqDiff, reduceIte] <;> first | rfl | (simp only [tyall] <;> rfl) | (simp [tyall] <;> rfl)) ?_
  -- leaf: end
  exact ⟨by simp, rfl⟩
theorem less_c (x y : El) (h : AHeap) (b : Bool) (hb : lt x y = b) : FWp Tryz.prog 253 [enc x, enc y] h fun u h' => u = .bool b ∧ h' = h := by
  refine W.enter tyOK Tryz.func253 rfl rfl ?_
  simp only [entry]
  refine W.seq <| W.reg <| OSuf.aopF tyOK rfl za (fun _ => rfl) rfl <| OSuf.nil <| SQ.normal ?_
  refine W.seq <| W.reg <| OSuf.aop tyOK rfl sm rfl <| OSuf.callD rfl (by simp only [aopnds, lk] <;> rfl) en284 (nan_c x _) rfl <| OSuf.aopF tyOK rfl sm (fun _ => rfl) rfl <| OSuf.pass ag rfl <| OSuf.pass ag rfl <| OSuf.pass ag rfl <| OSuf.aopF tyOK rfl (so_pick (by simp only [lk] <;> rfl) (by simp only [lk, cond_true, cond_false] <;> rfl)) (fun _ => rfl) rfl <| OSuf.aopF tyOK rfl sm (fun _ => rfl) rfl <| OSuf.aop tyOK ag sm rfl <| OSuf.aop tyOK ag sm rfl <| OSuf.aop tyOK ag (zb (hv := bs_lss)) rfl <| OSuf.aop tyOK rfl (so_pick (by simp only [lk] <;> rfl) (by simp only [lk, cond_true, cond_false] <;> rfl)) rfl <| OSuf.aop tyOK rfl za rfl <| OSuf.nil <| SQ.normal ?_
  refine CWp.ret <| FQ.ret (by simp only [aRet, Tryz.f253, aResults, aResult, lk, Nat.reduceEqDiff, reduceIte] <;> first | rfl | (simp only [tyall] <;> rfl) | (simp [tyall] <;> rfl)) ?_
  -- leaf: end
  exact ⟨congrArg Value.bool ((str_lt x y).trans hb), rfl⟩
theorem insertion_c (h : AHeap) (r N : Nat) (d : Array El) (hN : d.size = N) (a b : Nat) (hab : a ≤ b) (hb : b ≤ N) (hsz : N < 1000000000) :
    FWp Tryz.prog 285 [sl r N, I64 a, I64 b] (h.set r (row d)) fun u h' => u = .tuple #[] ∧ h' = h.set r (row (insertionSort lt d a b)) := by
  refine W.enter tyOK Tryz.func285 rfl rfl ?_
  simp only [entry]
  have w0 : IntKind.i64.wrap ((a : Int) + 1) = ((a + 1 : Nat) : Int) := by rw [wrap_i64 (by omega) (by omega)]; omega
  refine W.seq <| W.reg <| OSuf.aop tyOK rfl sm rfl <| OSuf.aop tyOK rfl (zb (hv := bi_w bi_add (by first | (simp only [w0] <;> rfl) | rfl))) rfl <| OSuf.aop tyOK rfl za rfl <| OSuf.nil <| SQ.normal ?_
  -- leaf: loop
  refine W.block (W.loop (fun n L h' => ∃ (i : Nat) (dk : Array El), n = b - i ∧ a + 1 ≤ i ∧ (i ≤ b ∨ i = a + 1) ∧ dk.size = N ∧ insOuter lt a b i dk = insertionSort lt d a b ∧ h' = h.set r (row dk) ∧
      L = [(0, sl r N), (1, I64 a), (2, I64 b), (6, I64 i)]) (n := b - (a + 1)) ⟨a + 1, d, rfl, by omega, by omega, hN, rfl, rfl, rfl⟩ ?_ ?_)
  · simp [HasA, Tr.get_put]
  · rintro n L h1 ⟨i, dk, rfl, hi1, hi2, hds, heq, rfl, rfl⟩
    simp only [mkA]
    by_cases hib : (i : Int) < (b : Int)
    · refine W.seq <| W.seq <| W.reg <| OSuf.aop tyOK rfl sm rfl <| OSuf.aop tyOK rfl sm rfl <| OSuf.aopT tyOK rfl (zb (hv := bi_lss)) (fun _ => rfl) (by first | rfl | assumption | ((simp only [bl]) <;> first | done | assumption | omega) | (simp; done) | (simp; omega)) <| OSuf.nil <| SQ.normal ?_
      refine W.yes (by simp only [lk] <;> rfl) <| CWp.skip <| SQ.normal ?_
      refine W.seq <| W.block <| W.seq <| W.reg <| OSuf.aop tyOK rfl sm rfl <| OSuf.aop tyOK rfl za rfl <| OSuf.nil <| SQ.normal ?_
      -- leaf: loop
      refine W.cut (fun L h' => ∃ (dj : Array El), dj.size = N ∧ dj = insInner lt a i dk ∧ h' = h.set r (row dj) ∧ L = [(0, sl r N), (1, I64 a), (2, I64 b), (6, I64 i)]) (W.block (W.loop (fun n L h' => ∃ (j : Nat) (dj : Array El), n = j ∧ j ≤ i ∧ dj.size = N ∧ insInner lt a j dj = insInner lt a i dk ∧ h' = h.set r (row dj) ∧
          L = [(0, sl r N), (1, I64 a), (2, I64 b), (6, I64 i), (7, I64 j)]) (n := i) ⟨i, dk, rfl, by omega, hds, rfl, rfl, rfl⟩ ?_ ?_)) ?_
      · simp [HasA, Tr.get_put]
      · rintro j L h1 ⟨_, dj, rfl, hji, hdj, hq, rfl, rfl⟩
        simp only [mkA]
        by_cases hja : (j : Int) > (a : Int)
        · obtain ⟨m, rfl⟩ : ∃ m, j = m + 1 := ⟨j - 1, by omega⟩
          have w1 : IntKind.i64.wrap (((m + 1 : Nat) : Int) - 1) = (m : Int) := by rw [wrap_i64 (by omega) (by omega)]; omega
          cases hl : lt dj[m + 1]! dj[m]!
          · refine W.seq <| W.seq <| W.regD tyOK mixed (by kernel_rfl) <| SqW.aop rfl sm rfl <| SqW.aop rfl sm rfl <| SqW.aopT rfl (zb (hv := bi_gtr)) (fun _ => rfl) (by first | rfl | assumption | ((simp only [bl, if_pos, Int.toNat_natCast, Nat.mul_one, Nat.zero_add, rg]) <;> first | done | assumption | omega) | (simp; done) | (simp; omega)) <| SqW.aopT rfl sm (fun _ => rfl) rfl <| SqW.aop ag sm rfl <| SqW.aop ag sm rfl <| SqW.aop ag (zi (hv := by simp (disch := first | assumption | omega | (simp only [nx] <;> omega) | fail) only [aIndexAddr, ty106, ty9, hpl, if_pos, Int.toNat_natCast, Nat.mul_one, Nat.zero_add, rg] <;> rfl)) rfl <| SqW.aop ag (zl (hv := by simp (disch := first | assumption | omega | (simp only [nx] <;> omega) | fail) only [aLoad, ty9, rowOf, hpl, if_pos, Int.toNat_natCast, Nat.mul_one, Nat.zero_add, rg] <;> rfl)) rfl <| SqW.aop ag sm rfl <| SqW.aop ag sm rfl <| SqW.aop ag (zb (hv := bi_w bi_sub (by first | (simp only [w1] <;> rfl) | rfl))) rfl <| SqW.aop ag (zi (hv := by simp (disch := first | assumption | omega | (simp only [nx] <;> omega) | fail) only [aIndexAddr, ty106, ty9, hpl, if_pos, Int.toNat_natCast, Nat.mul_one, Nat.zero_add, rg] <;> rfl)) rfl <| SqW.aop ag (zl (hv := by simp (disch := first | assumption | omega | (simp only [nx] <;> omega) | fail) only [aLoad, ty9, rowOf, hpl, if_pos, Int.toNat_natCast, Nat.mul_one, Nat.zero_add, rg] <;> rfl)) rfl <| SqW.callD ag (by simp only [aopnds, lk] <;> rfl) en253 (less_c _ _ _ _ hl) rfl <| SqW.aopF rfl (so_pick (by simp only [lk] <;> rfl) (by simp only [lk, cond_true, cond_false] <;> rfl)) (fun _ => rfl) rfl <| SqW.nil <| SQ.normal ?_
            refine W.no (by simp only [lk] <;> rfl) <| CWp.exit <| SQ.exit <| LQ.exit <| BQ.exit <| ?_
            -- leaf: cut
            refine NQ.normal (L := [(0, sl r N), (1, I64 a), (2, I64 b), (6, I64 i)]) ?_ ⟨dj, hdj, ?_, rfl, rfl⟩
            · simp only [HasA, Tr.get_put, Nat.reduceEqDiff, reduceIte, and_self]
            · rw [← hq, insInner]; simp [hl]
          · refine W.seq <| W.seq <| W.regD tyOK mixed (by kernel_rfl) <| SqW.aop rfl sm rfl <| SqW.aop rfl sm rfl <| SqW.aopT rfl (zb (hv := bi_gtr)) (fun _ => rfl) (by first | rfl | assumption | ((simp only [bl, if_pos, Int.toNat_natCast, Nat.mul_one, Nat.zero_add, rg, rs, rb, Value.cells, List.length_cons, List.length_nil, oneCells, List.all_cons, List.all_nil, Value.oneCell', Bool.and_self, cond_true, AHeap.set_set, Array.size_setIfInBounds]) <;> first | done | assumption | omega) | (simp; done) | (simp; omega)) <| SqW.aopT rfl sm (fun _ => rfl) rfl <| SqW.aop ag sm rfl <| SqW.aop ag sm rfl <| SqW.aop ag (zi (hv := by simp (disch := first | assumption | omega | (simp only [nx] <;> omega) | fail) only [aIndexAddr, ty106, ty9, hpl, if_pos, Int.toNat_natCast, Nat.mul_one, Nat.zero_add, rg, rs, rb, Value.cells, List.length_cons, List.length_nil, oneCells, List.all_cons, List.all_nil, Value.oneCell', Bool.and_self, cond_true, AHeap.set_set, Array.size_setIfInBounds] <;> rfl)) rfl <| SqW.aop ag (zl (hv := by simp (disch := first | assumption | omega | (simp only [nx] <;> omega) | fail) only [aLoad, ty9, rowOf, hpl, if_pos, Int.toNat_natCast, Nat.mul_one, Nat.zero_add, rg, rs, rb, Value.cells, List.length_cons, List.length_nil, oneCells, List.all_cons, List.all_nil, Value.oneCell', Bool.and_self, cond_true, AHeap.set_set, Array.size_setIfInBounds] <;> rfl)) rfl <| SqW.aop ag sm rfl <| SqW.aop ag sm rfl <| SqW.aop ag (zb (hv := bi_w bi_sub (by first | (simp only [w1] <;> rfl) | rfl))) rfl <| SqW.aop ag (zi (hv := by simp (disch := first | assumption | omega | (simp only [nx] <;> omega) | fail) only [aIndexAddr, ty106, ty9, hpl, if_pos, Int.toNat_natCast, Nat.mul_one, Nat.zero_add, rg, rs, rb, Value.cells, List.length_cons, List.length_nil, oneCells, List.all_cons, List.all_nil, Value.oneCell', Bool.and_self, cond_true, AHeap.set_set, Array.size_setIfInBounds] <;> rfl)) rfl <| SqW.aop ag (zl (hv := by simp (disch := first | assumption | omega | (simp only [nx] <;> omega) | fail) only [aLoad, ty9, rowOf, hpl, if_pos, Int.toNat_natCast, Nat.mul_one, Nat.zero_add, rg, rs, rb, Value.cells, List.length_cons, List.length_nil, oneCells, List.all_cons, List.all_nil, Value.oneCell', Bool.and_self, cond_true, AHeap.set_set, Array.size_setIfInBounds] <;> rfl)) rfl <| SqW.callD ag (by simp only [aopnds, lk] <;> rfl) en253 (less_c _ _ _ _ hl) rfl <| SqW.aopT rfl (so_pick (by simp only [lk] <;> rfl) (by simp only [lk, cond_true, cond_false] <;> rfl)) (fun _ => rfl) rfl <| SqW.nil <| SQ.normal ?_
            refine W.yes (by simp only [lk] <;> rfl) <| CWp.skip <| SQ.normal ?_
            refine W.seq <| W.block <| W.regD tyOK mixed (by kernel_rfl) <| SqW.aop rfl sm rfl <| SqW.aop rfl sm rfl <| SqW.aop rfl sm rfl <| SqW.aop rfl sm rfl <| SqW.aop rfl (zb (hv := bi_w bi_sub (by first | (simp only [w1] <;> rfl) | rfl))) rfl <| SqW.aop rfl sm rfl <| SqW.aop rfl sm rfl <| SqW.aop rfl (zb (hv := bi_w bi_sub (by first | (simp only [w1] <;> rfl) | rfl))) rfl <| SqW.aop rfl (zi (hv := by simp (disch := first | assumption | omega | (simp only [nx] <;> omega) | fail) only [aIndexAddr, ty106, ty9, hpl, if_pos, Int.toNat_natCast, Nat.mul_one, Nat.zero_add, rg, rs, rb, Value.cells, List.length_cons, List.length_nil, oneCells, List.all_cons, List.all_nil, Value.oneCell', Bool.and_self, cond_true, AHeap.set_set, Array.size_setIfInBounds] <;> rfl)) rfl <| SqW.aop rfl (zl (hv := by simp (disch := first | assumption | omega | (simp only [nx] <;> omega) | fail) only [aLoad, ty9, rowOf, hpl, if_pos, Int.toNat_natCast, Nat.mul_one, Nat.zero_add, rg, rs, rb, Value.cells, List.length_cons, List.length_nil, oneCells, List.all_cons, List.all_nil, Value.oneCell', Bool.and_self, cond_true, AHeap.set_set, Array.size_setIfInBounds] <;> rfl)) rfl <| SqW.aop rfl sm rfl <| SqW.aop rfl sm rfl <| SqW.aop rfl (zi (hv := by simp (disch := first | assumption | omega | (simp only [nx] <;> omega) | fail) only [aIndexAddr, ty106, ty9, hpl, if_pos, Int.toNat_natCast, Nat.mul_one, Nat.zero_add, rg, rs, rb, Value.cells, List.length_cons, List.length_nil, oneCells, List.all_cons, List.all_nil, Value.oneCell', Bool.and_self, cond_true, AHeap.set_set, Array.size_setIfInBounds] <;> rfl)) rfl <| SqW.aop rfl (zl (hv := by simp (disch := first | assumption | omega | (simp only [nx] <;> omega) | fail) only [aLoad, ty9, rowOf, hpl, if_pos, Int.toNat_natCast, Nat.mul_one, Nat.zero_add, rg, rs, rb, Value.cells, List.length_cons, List.length_nil, oneCells, List.all_cons, List.all_nil, Value.oneCell', Bool.and_self, cond_true, AHeap.set_set, Array.size_setIfInBounds] <;> rfl)) rfl <| SqW.aop rfl (zi (hv := by simp (disch := first | assumption | omega | (simp only [nx] <;> omega) | fail) only [aIndexAddr, ty106, ty9, hpl, if_pos, Int.toNat_natCast, Nat.mul_one, Nat.zero_add, rg, rs, rb, Value.cells, List.length_cons, List.length_nil, oneCells, List.all_cons, List.all_nil, Value.oneCell', Bool.and_self, cond_true, AHeap.set_set, Array.size_setIfInBounds] <;> rfl)) rfl <| SqW.aop rfl (zs (hv := by simp (disch := first | assumption | omega | (simp only [nx] <;> omega) | fail) only [aStore, ty9, writeRow, hpl, if_pos, Int.toNat_natCast, Nat.mul_one, Nat.zero_add, rg, rs, rb, Value.cells, List.length_cons, List.length_nil, oneCells, List.all_cons, List.all_nil, Value.oneCell', Bool.and_self, cond_true, AHeap.set_set, Array.size_setIfInBounds] <;> rfl)) rfl <| SqW.aop rfl (zi (hv := by simp (disch := first | assumption | omega | (simp only [nx] <;> omega) | fail) only [aIndexAddr, ty106, ty9, hpl, if_pos, Int.toNat_natCast, Nat.mul_one, Nat.zero_add, rg, rs, rb, Value.cells, List.length_cons, List.length_nil, oneCells, List.all_cons, List.all_nil, Value.oneCell', Bool.and_self, cond_true, AHeap.set_set, Array.size_setIfInBounds] <;> rfl)) rfl <| SqW.aop rfl (zs (hv := by simp (disch := first | assumption | omega | (simp only [nx] <;> omega) | fail) only [aStore, ty9, writeRow, hpl, if_pos, Int.toNat_natCast, Nat.mul_one, Nat.zero_add, rg, rs, rb, Value.cells, List.length_cons, List.length_nil, oneCells, List.all_cons, List.all_nil, Value.oneCell', Bool.and_self, cond_true, AHeap.set_set, Array.size_setIfInBounds] <;> rfl)) rfl <| SqW.nil <| BQ.normal <| SQ.normal ?_
            refine W.reg <| OSuf.aop tyOK rfl sm rfl <| OSuf.aop tyOK rfl (zb (hv := bi_w bi_sub (by first | (simp only [w1] <;> rfl) | rfl))) rfl <| OSuf.aop tyOK rfl za rfl <| OSuf.nil <| ?_
            -- leaf: round
            refine LQ.normal (m := m) (L := [(0, sl r N), (1, I64 a), (2, I64 b), (6, I64 i), (7, I64 m)]) (by omega) ?_ ⟨m, swp dj (m + 1) m, rfl, by omega, by rw [size_swp]; exact hdj, ?_, rfl, rfl⟩
            · simp only [HasA, Tr.get_put, Nat.reduceEqDiff, reduceIte, w1, and_self]
            · rw [← hq, insInner]; simp [hl]; omega
        · refine W.seq <| W.seq <| W.regD tyOK mixed (by kernel_rfl) <| SqW.aop rfl sm rfl <| SqW.aop rfl sm rfl <| SqW.aopF rfl (zb (hv := bi_gtr)) (fun _ => rfl) (by first | rfl | assumption | ((simp only [bl]) <;> first | done | assumption | omega) | (simp; done) | (simp; omega)) <| SqW.aopF rfl sm (fun _ => rfl) rfl <| SqW.pass ag rfl <| SqW.pass ag rfl <| SqW.pass ag rfl <| SqW.pass ag rfl <| SqW.pass ag rfl <| SqW.pass ag rfl <| SqW.pass ag rfl <| SqW.pass ag rfl <| SqW.pass ag rfl <| SqW.pass ag rfl <| SqW.aopF rfl (so_pick (by simp only [lk] <;> rfl) (by simp only [lk, cond_true, cond_false] <;> rfl)) (fun _ => rfl) rfl <| SqW.nil <| SQ.normal ?_
          refine W.no (by simp only [lk] <;> rfl) <| CWp.exit <| SQ.exit <| LQ.exit <| BQ.exit <| ?_
          -- leaf: cut
          refine NQ.normal (L := [(0, sl r N), (1, I64 a), (2, I64 b), (6, I64 i)]) ?_ ⟨dj, hdj, ?_, rfl, rfl⟩
          · simp only [HasA, Tr.get_put, Nat.reduceEqDiff, reduceIte, and_self]
          · rw [← hq]
            cases j with
            | zero => rfl
            | succ m => rw [insInner]; simp; omega
      · rintro L a' h1 ha ⟨dj, hdj, rfl, rfl, rfl⟩
        have w1 : IntKind.i64.wrap ((i : Int) + 1) = ((i + 1 : Nat) : Int) := by rw [wrap_i64 (by omega) (by omega)]; omega
        refine BQ.normal <| SQ.normal <| CWp.known ha ?_
        simp only [mkA]
        refine W.reg <| OSuf.aop tyOK rfl sm rfl <| OSuf.aop tyOK rfl (zb (hv := bi_w bi_add (by first | (simp only [w1] <;> rfl) | rfl))) rfl <| OSuf.aop tyOK rfl za rfl <| OSuf.nil <| ?_
        -- leaf: round
        refine LQ.normal (m := b - (i + 1)) (L := [(0, sl r N), (1, I64 a), (2, I64 b), (6, I64 (i + 1 : Nat))]) (by omega) ?_ ⟨i + 1, insInner lt a i dk, rfl, by omega, by omega, hdj, ?_, rfl, rfl⟩
        · simp only [HasA, Tr.get_put, Nat.reduceEqDiff, reduceIte, w1, and_self]
        · rw [← heq]
          conv => rhs; rw [insOuter]
          rw [if_pos (by omega)]
    · refine W.seq <| W.seq <| W.reg <| OSuf.aop tyOK rfl sm rfl <| OSuf.aop tyOK rfl sm rfl <| OSuf.aopF tyOK rfl (zb (hv := bi_lss)) (fun _ => rfl) (by first | rfl | assumption | ((simp only [bl]) <;> first | done | assumption | omega) | (simp; done) | (simp; omega)) <| OSuf.nil <| SQ.normal ?_
      refine W.no (by simp only [lk] <;> rfl) <| CWp.exit <| SQ.exit <| LQ.exit <| BQ.exit <| FQ.normal (by simp only [aRet, Tryz.f285, aResults, aResult, lk, Nat.reduceEqDiff, reduceIte] <;> first | rfl | (simp only [tyall] <;> rfl) | (simp [tyall] <;> rfl)) ?_
      -- leaf: end
      refine ⟨rfl, ?_⟩
      rw [← heq, insOuter, if_neg (by omega)]
noncomputable abbrev U64 (n : Int) : Value := .int .u64 n
noncomputable def TAB : ByteArray := ⟨#[0,1,2,2,3,3,3,3,4,4,4,4,4,4,4,4,5,5,5,5,5,5,5,5,5,5,5,5,5,5,5,5,6,6,6,6,6,6,6,6,6,6,6,6,6,6,6,6,6,6,6,6,6,6,6,6,6,6,6,6,6,6,6,6,7,7,7,7,7,7,7,7,7,7,7,7,7,7,7,7,7,7,7,7,7,7,7,7,7,7,7,7,7,7,7,7,7,7,7,7,7,7,7,7,7,7,7,7,7,7,7,7,7,7,7,7,7,7,7,7,7,7,7,7,7,7,7,7,8,8,8,8,8,8,8,8,8,8,8,8,8,8,8,8,8,8,8,8,8,8,8,8,8,8,8,8,8,8,8,8,8,8,8,8,8,8,8,8,8,8,8,8,8,8,8,8,8,8,8,8,8,8,8,8,8,8,8,8,8,8,8,8,8,8,8,8,8,8,8,8,8,8,8,8,8,8,8,8,8,8,8,8,8,8,8,8,8,8,8,8,8,8,8,8,8,8,8,8,8,8,8,8,8,8,8,8,8,8,8,8,8,8,8,8,8,8,8,8,8,8,8,8,8,8,8,8]⟩
theorem tab_ok : ∀ i : Fin 256, TAB.data.toList[i.val]? = some (UInt8.ofNat (bitsLen i.val)) := by decide +kernel
theorem tab_get {i : Nat} (hi : i < 256) : TAB.data.toList[i]? = some (UInt8.ofNat (bitsLen i)) := tab_ok ⟨i, hi⟩
theorem bits_small : ∀ i : Fin 256, bitsLen i.val ≤ 8 := by decide +kernel
theorem bitsLen_shift {n k : Nat} (h : 2 ^ k ≤ n) : bitsLen (n / 2 ^ k) + k = bitsLen n := by
  have hp : 0 < 2 ^ k := Nat.two_pow_pos k
  have h1 : n / 2 ^ k ≠ 0 := by
    have := (Nat.le_div_iff_mul_le hp).2 (by omega : 1 * 2 ^ k ≤ n); omega
  have h2 : n ≠ 0 := by omega
  have key : ∀ x, x ≠ 0 → bitsLen x = Nat.log2 x + 1 := fun x hx => by simp [bitsLen, hx]
  rw [key _ h1, key _ h2]
  have : Nat.log2 n = Nat.log2 (n / 2 ^ k) + k := by
    have a1 := (Nat.log2_eq_iff h1 (k := Nat.log2 (n / 2 ^ k))).1 rfl
    refine (Nat.log2_eq_iff h2).2 ⟨?_, ?_⟩
    · rw [Nat.pow_add]; exact (Nat.le_div_iff_mul_le hp).1 a1.1
    · have := (Nat.div_lt_iff_lt_mul hp).1 a1.2
      rw [Nat.add_right_comm, Nat.pow_add]; exact this
  omega
theorem len64_c (h : AHeap) (n : Nat) (hn : n < 1073741824) : FWp Tryz.prog 201 [U64 n] h fun u h' => u = I64 (bitsLen n) ∧ h' = h := by
  refine W.enter tyOK Tryz.func201 rfl rfl ?_
  simp only [entry]
  have small : ∀ m : Nat, m < 256 → ((UInt8.ofNat (bitsLen m)).toNat : Int) = bitsLen m ∧ bitsLen m ≤ 8 := fun m hm => by
    have := bits_small ⟨m, hm⟩
    simp only at this
    refine ⟨?_, this⟩
    rw [UInt8.toNat_ofNat']; omega
  have fd : ∀ (m k : Nat), Int.fdiv (m : Int) (2 ^ k : Int) = ((m / 2 ^ k : Nat) : Int) := fun m k => by
    rw [Int.fdiv_eq_ediv_of_nonneg _ (by exact Int.le_of_lt (Int.pow_pos (by decide))) ]; norm_cast
  by_cases h1 : (n : Int) ≥ 65536
  · obtain ⟨m, hm⟩ : ∃ m, m = n / 2 ^ 16 := ⟨_, rfl⟩
    have e1 := bitsLen_shift (n := n) (k := 16) (by omega)
    have v1 : Int.fdiv (n : Int) (2 ^ (min (Int.toNat 16) (IntKind.u64.bits))) = (m : Int) := by rw [hm]; exact fd n 16
    have hm2 : m < 16384 := by rw [hm]; omega
    by_cases h2 : (m : Int) ≥ 256
    · obtain ⟨l, hl⟩ : ∃ l, l = m / 2 ^ 8 := ⟨_, rfl⟩
      have e2 := bitsLen_shift (n := m) (k := 8) (by omega)
      have v2 : Int.fdiv (m : Int) (2 ^ (min (Int.toNat 8) (IntKind.u64.bits))) = (l : Int) := by rw [hl]; exact fd m 8
      have hl2 : l < 256 := by rw [hl]; omega
      have s1 := small l hl2
      have w1 : IntKind.u8.wrap (l : Int) = (l : Int) := wrap_u8 (by omega) (by omega)
      have w2 : IntKind.i64.wrap ((UInt8.ofNat (bitsLen l)).toNat : Int) = (bitsLen l : Int) := by rw [s1.1]; exact wrap_i64 (by omega) (by omega)
      have w3 : IntKind.i64.wrap ((0 : Int) + 16) = 16 := by decide
      have w4 : IntKind.i64.wrap ((16 : Int) + 8) = 24 := by decide
      have w5 : IntKind.i64.wrap ((24 : Int) + (bitsLen l : Int)) = (bitsLen n : Int) := by rw [wrap_i64 (by omega) (by omega)]; rw [← hm] at e1; rw [← hl] at e2; omega
      refine W.seq <| W.reg <| OSuf.aop tyOK rfl za rfl <| OSuf.nil <| SQ.normal ?_
      refine W.seq <| W.seq <| W.reg <| OSuf.aop tyOK rfl sm rfl <| OSuf.aopF tyOK rfl (zb (hv := bi_geq)) (fun _ => rfl) (by first | rfl | assumption | ((simp only [bl]) <;> first | done | assumption | omega) | (simp; done) | (simp; omega)) <| OSuf.nil <| SQ.normal ?_
      refine W.no (by simp only [lk] <;> rfl) <| CWp.skip <| SQ.normal ?_
      refine W.seq <| W.seq <| W.reg <| OSuf.aop tyOK rfl sm rfl <| OSuf.aopT tyOK rfl (zb (hv := bi_geq)) (fun _ => rfl) (by first | rfl | assumption | ((simp only [bl]) <;> first | done | assumption | omega) | (simp; done) | (simp; omega)) <| OSuf.nil <| SQ.normal ?_
      refine W.yes (by simp only [lk] <;> rfl) <| W.seq <| W.reg <| OSuf.aop tyOK rfl sm rfl <| OSuf.aop tyOK rfl (zb (hv := bi_w (bi_shr (by decide)) (by first | (simp only [v1, v2, w1, w2, w3, w4, w5] <;> rfl) | rfl))) rfl <| OSuf.aop tyOK rfl za rfl <| OSuf.nil <| SQ.normal ?_
      refine W.reg <| OSuf.aop tyOK rfl sm rfl <| OSuf.aop tyOK rfl (zb (hv := bi_w bi_add (by first | (simp only [v1, v2, w1, w2, w3, w4, w5] <;> rfl) | rfl))) rfl <| OSuf.aop tyOK rfl za rfl <| OSuf.nil <| SQ.normal ?_
      refine W.seq <| W.seq <| W.reg <| OSuf.aop tyOK rfl sm rfl <| OSuf.aopT tyOK rfl (zb (hv := bi_geq)) (fun _ => rfl) (by first | rfl | assumption | ((simp only [bl]) <;> first | done | assumption | omega) | (simp; done) | (simp; omega)) <| OSuf.nil <| SQ.normal ?_
      refine W.yes (by simp only [lk] <;> rfl) <| W.seq <| W.reg <| OSuf.aop tyOK rfl sm rfl <| OSuf.aop tyOK rfl (zb (hv := bi_w (bi_shr (by decide)) (by first | (simp only [v1, v2, w1, w2, w3, w4, w5] <;> rfl) | rfl))) rfl <| OSuf.aop tyOK rfl za rfl <| OSuf.nil <| SQ.normal ?_
      refine W.reg <| OSuf.aop tyOK rfl sm rfl <| OSuf.aop tyOK rfl (zb (hv := bi_w bi_add (by first | (simp only [v1, v2, w1, w2, w3, w4, w5] <;> rfl) | rfl))) rfl <| OSuf.aop tyOK rfl za rfl <| OSuf.nil <| SQ.normal ?_
      refine W.seq <| W.reg <| OSuf.aop tyOK rfl sm rfl <| OSuf.aop tyOK rfl sm rfl <| OSuf.aop tyOK rfl (so_conw (so_conv tyOK (by simp only [lk] <;> rfl) ty27 ⟨_, rfl⟩ ty5 rfl) (by first | (simp only [v1, v2, w1, w2, w3, w4, w5] <;> rfl) | rfl)) rfl <| OSuf.aop tyOK rfl (so_index (by simp only [lk] <;> rfl) (by simp only [lk] <;> rfl) (ix_str ty9 rfl (tab_get hl2))) rfl <| OSuf.aop tyOK rfl (so_conw (so_conv tyOK (by simp only [lk] <;> rfl) ty5 ⟨_, rfl⟩ ty3 rfl) (by first | (simp only [v1, v2, w1, w2, w3, w4, w5] <;> rfl) | rfl)) rfl <| OSuf.aop tyOK rfl (zb (hv := bi_w bi_add (by first | (simp only [v1, v2, w1, w2, w3, w4, w5] <;> rfl) | rfl))) rfl <| OSuf.aop tyOK rfl za rfl <| OSuf.nil <| SQ.normal ?_
      refine CWp.ret <| FQ.ret (by simp only [aRet, Tryz.f201, aResults, aResult, lk, Nat.reduceEqDiff, reduceIte] <;> first | rfl | (simp only [tyall] <;> rfl) | (simp [tyall] <;> rfl)) ?_
      -- leaf: end
      exact ⟨rfl, rfl⟩
    · have s1 := small m (by omega)
      have w1 : IntKind.u8.wrap (m : Int) = (m : Int) := wrap_u8 (by omega) (by omega)
      have w2 : IntKind.i64.wrap ((UInt8.ofNat (bitsLen m)).toNat : Int) = (bitsLen m : Int) := by rw [s1.1]; exact wrap_i64 (by omega) (by omega)
      have w3 : IntKind.i64.wrap ((0 : Int) + 16) = 16 := by decide
      have w5 : IntKind.i64.wrap ((16 : Int) + (bitsLen m : Int)) = (bitsLen n : Int) := by rw [wrap_i64 (by omega) (by omega)]; rw [← hm] at e1; omega
      refine W.seq <| W.reg <| OSuf.aop tyOK rfl za rfl <| OSuf.nil <| SQ.normal ?_
      refine W.seq <| W.seq <| W.reg <| OSuf.aop tyOK rfl sm rfl <| OSuf.aopF tyOK rfl (zb (hv := bi_geq)) (fun _ => rfl) (by first | rfl | assumption | ((simp only [bl]) <;> first | done | assumption | omega) | (simp; done) | (simp; omega)) <| OSuf.nil <| SQ.normal ?_
      refine W.no (by simp only [lk] <;> rfl) <| CWp.skip <| SQ.normal ?_
      refine W.seq <| W.seq <| W.reg <| OSuf.aop tyOK rfl sm rfl <| OSuf.aopT tyOK rfl (zb (hv := bi_geq)) (fun _ => rfl) (by first | rfl | assumption | ((simp only [bl]) <;> first | done | assumption | omega) | (simp; done) | (simp; omega)) <| OSuf.nil <| SQ.normal ?_
      refine W.yes (by simp only [lk] <;> rfl) <| W.seq <| W.reg <| OSuf.aop tyOK rfl sm rfl <| OSuf.aop tyOK rfl (zb (hv := bi_w (bi_shr (by decide)) (by first | (simp only [v1, w1, w2, w3, w5] <;> rfl) | rfl))) rfl <| OSuf.aop tyOK rfl za rfl <| OSuf.nil <| SQ.normal ?_
      refine W.reg <| OSuf.aop tyOK rfl sm rfl <| OSuf.aop tyOK rfl (zb (hv := bi_w bi_add (by first | (simp only [v1, w1, w2, w3, w5] <;> rfl) | rfl))) rfl <| OSuf.aop tyOK rfl za rfl <| OSuf.nil <| SQ.normal ?_
      refine W.seq <| W.seq <| W.reg <| OSuf.aop tyOK rfl sm rfl <| OSuf.aopF tyOK rfl (zb (hv := bi_geq)) (fun _ => rfl) (by first | rfl | assumption | ((simp only [bl]) <;> first | done | assumption | omega) | (simp; done) | (simp; omega)) <| OSuf.nil <| SQ.normal ?_
      refine W.no (by simp only [lk] <;> rfl) <| CWp.skip <| SQ.normal ?_
      refine W.seq <| W.reg <| OSuf.aop tyOK rfl sm rfl <| OSuf.aop tyOK rfl sm rfl <| OSuf.aop tyOK rfl (so_conw (so_conv tyOK (by simp only [lk] <;> rfl) ty27 ⟨_, rfl⟩ ty5 rfl) (by first | (simp only [v1, w1, w2, w3, w5] <;> rfl) | rfl)) rfl <| OSuf.aop tyOK rfl (so_index (by simp only [lk] <;> rfl) (by simp only [lk] <;> rfl) (ix_str ty9 rfl (tab_get (i := m) (by omega)))) rfl <| OSuf.aop tyOK rfl (so_conw (so_conv tyOK (by simp only [lk] <;> rfl) ty5 ⟨_, rfl⟩ ty3 rfl) (by first | (simp only [v1, w1, w2, w3, w5] <;> rfl) | rfl)) rfl <| OSuf.aop tyOK rfl (zb (hv := bi_w bi_add (by first | (simp only [v1, w1, w2, w3, w5] <;> rfl) | rfl))) rfl <| OSuf.aop tyOK rfl za rfl <| OSuf.nil <| SQ.normal ?_
      refine CWp.ret <| FQ.ret (by simp only [aRet, Tryz.f201, aResults, aResult, lk, Nat.reduceEqDiff, reduceIte] <;> first | rfl | (simp only [tyall] <;> rfl) | (simp [tyall] <;> rfl)) ?_
      -- leaf: end
      exact ⟨rfl, rfl⟩
  · by_cases h2 : (n : Int) ≥ 256
    · obtain ⟨l, hl⟩ : ∃ l, l = n / 2 ^ 8 := ⟨_, rfl⟩
      have e2 := bitsLen_shift (n := n) (k := 8) (by omega)
      have v2 : Int.fdiv (n : Int) (2 ^ (min (Int.toNat 8) (IntKind.u64.bits))) = (l : Int) := by rw [hl]; exact fd n 8
      have hl2 : l < 256 := by rw [hl]; omega
      have s1 := small l hl2
      have w1 : IntKind.u8.wrap (l : Int) = (l : Int) := wrap_u8 (by omega) (by omega)
      have w2 : IntKind.i64.wrap ((UInt8.ofNat (bitsLen l)).toNat : Int) = (bitsLen l : Int) := by rw [s1.1]; exact wrap_i64 (by omega) (by omega)
      have w4 : IntKind.i64.wrap ((0 : Int) + 8) = 8 := by decide
      have w5 : IntKind.i64.wrap ((8 : Int) + (bitsLen l : Int)) = (bitsLen n : Int) := by rw [wrap_i64 (by omega) (by omega)]; rw [← hl] at e2; omega
      refine W.seq <| W.reg <| OSuf.aop tyOK rfl za rfl <| OSuf.nil <| SQ.normal ?_
      refine W.seq <| W.seq <| W.reg <| OSuf.aop tyOK rfl sm rfl <| OSuf.aopF tyOK rfl (zb (hv := bi_geq)) (fun _ => rfl) (by first | rfl | assumption | ((simp only [bl]) <;> first | done | assumption | omega) | (simp; done) | (simp; omega)) <| OSuf.nil <| SQ.normal ?_
      refine W.no (by simp only [lk] <;> rfl) <| CWp.skip <| SQ.normal ?_
      refine W.seq <| W.seq <| W.reg <| OSuf.aop tyOK rfl sm rfl <| OSuf.aopF tyOK rfl (zb (hv := bi_geq)) (fun _ => rfl) (by first | rfl | assumption | ((simp only [bl]) <;> first | done | assumption | omega) | (simp; done) | (simp; omega)) <| OSuf.nil <| SQ.normal ?_
      refine W.no (by simp only [lk] <;> rfl) <| CWp.skip <| SQ.normal ?_
      refine W.seq <| W.seq <| W.reg <| OSuf.aop tyOK rfl sm rfl <| OSuf.aopT tyOK rfl (zb (hv := bi_geq)) (fun _ => rfl) (by first | rfl | assumption | ((simp only [bl]) <;> first | done | assumption | omega) | (simp; done) | (simp; omega)) <| OSuf.nil <| SQ.normal ?_
      refine W.yes (by simp only [lk] <;> rfl) <| W.seq <| W.reg <| OSuf.aop tyOK rfl sm rfl <| OSuf.aop tyOK rfl (zb (hv := bi_w (bi_shr (by decide)) (by first | (simp only [v2, w1, w2, w4, w5] <;> rfl) | rfl))) rfl <| OSuf.aop tyOK rfl za rfl <| OSuf.nil <| SQ.normal ?_
      refine W.reg <| OSuf.aop tyOK rfl sm rfl <| OSuf.aop tyOK rfl (zb (hv := bi_w bi_add (by first | (simp only [v2, w1, w2, w4, w5] <;> rfl) | rfl))) rfl <| OSuf.aop tyOK rfl za rfl <| OSuf.nil <| SQ.normal ?_
      refine W.seq <| W.reg <| OSuf.aop tyOK rfl sm rfl <| OSuf.aop tyOK rfl sm rfl <| OSuf.aop tyOK rfl (so_conw (so_conv tyOK (by simp only [lk] <;> rfl) ty27 ⟨_, rfl⟩ ty5 rfl) (by first | (simp only [v2, w1, w2, w4, w5] <;> rfl) | rfl)) rfl <| OSuf.aop tyOK rfl (so_index (by simp only [lk] <;> rfl) (by simp only [lk] <;> rfl) (ix_str ty9 rfl (tab_get hl2))) rfl <| OSuf.aop tyOK rfl (so_conw (so_conv tyOK (by simp only [lk] <;> rfl) ty5 ⟨_, rfl⟩ ty3 rfl) (by first | (simp only [v2, w1, w2, w4, w5] <;> rfl) | rfl)) rfl <| OSuf.aop tyOK rfl (zb (hv := bi_w bi_add (by first | (simp only [v2, w1, w2, w4, w5] <;> rfl) | rfl))) rfl <| OSuf.aop tyOK rfl za rfl <| OSuf.nil <| SQ.normal ?_
      refine CWp.ret <| FQ.ret (by simp only [aRet, Tryz.f201, aResults, aResult, lk, Nat.reduceEqDiff, reduceIte] <;> first | rfl | (simp only [tyall] <;> rfl) | (simp [tyall] <;> rfl)) ?_
      -- leaf: end
      exact ⟨rfl, rfl⟩
    · have s1 := small n (by omega)
      have w1 : IntKind.u8.wrap (n : Int) = (n : Int) := wrap_u8 (by omega) (by omega)
      have w2 : IntKind.i64.wrap ((UInt8.ofNat (bitsLen n)).toNat : Int) = (bitsLen n : Int) := by rw [s1.1]; exact wrap_i64 (by omega) (by omega)
      have w5 : IntKind.i64.wrap ((0 : Int) + (bitsLen n : Int)) = (bitsLen n : Int) := by rw [wrap_i64 (by omega) (by omega)]; omega
      refine W.seq <| W.reg <| OSuf.aop tyOK rfl za rfl <| OSuf.nil <| SQ.normal ?_
      refine W.seq <| W.seq <| W.reg <| OSuf.aop tyOK rfl sm rfl <| OSuf.aopF tyOK rfl (zb (hv := bi_geq)) (fun _ => rfl) (by first | rfl | assumption | ((simp only [bl]) <;> first | done | assumption | omega) | (simp; done) | (simp; omega)) <| OSuf.nil <| SQ.normal ?_
      refine W.no (by simp only [lk] <;> rfl) <| CWp.skip <| SQ.normal ?_
      refine W.seq <| W.seq <| W.reg <| OSuf.aop tyOK rfl sm rfl <| OSuf.aopF tyOK rfl (zb (hv := bi_geq)) (fun _ => rfl) (by first | rfl | assumption | ((simp only [bl]) <;> first | done | assumption | omega) | (simp; done) | (simp; omega)) <| OSuf.nil <| SQ.normal ?_
      refine W.no (by simp only [lk] <;> rfl) <| CWp.skip <| SQ.normal ?_
      refine W.seq <| W.seq <| W.reg <| OSuf.aop tyOK rfl sm rfl <| OSuf.aopF tyOK rfl (zb (hv := bi_geq)) (fun _ => rfl) (by first | rfl | assumption | ((simp only [bl]) <;> first | done | assumption | omega) | (simp; done) | (simp; omega)) <| OSuf.nil <| SQ.normal ?_
      refine W.no (by simp only [lk] <;> rfl) <| CWp.skip <| SQ.normal ?_
      refine W.seq <| W.reg <| OSuf.aop tyOK rfl sm rfl <| OSuf.aop tyOK rfl sm rfl <| OSuf.aop tyOK rfl (so_conw (so_conv tyOK (by simp only [lk] <;> rfl) ty27 ⟨_, rfl⟩ ty5 rfl) (by first | (simp only [w1, w2, w5] <;> rfl) | rfl)) rfl <| OSuf.aop tyOK rfl (so_index (by simp only [lk] <;> rfl) (by simp only [lk] <;> rfl) (ix_str ty9 rfl (tab_get (i := n) (by omega)))) rfl <| OSuf.aop tyOK rfl (so_conw (so_conv tyOK (by simp only [lk] <;> rfl) ty5 ⟨_, rfl⟩ ty3 rfl) (by first | (simp only [w1, w2, w5] <;> rfl) | rfl)) rfl <| OSuf.aop tyOK rfl (zb (hv := bi_w bi_add (by first | (simp only [w1, w2, w5] <;> rfl) | rfl))) rfl <| OSuf.aop tyOK rfl za rfl <| OSuf.nil <| SQ.normal ?_
      refine CWp.ret <| FQ.ret (by simp only [aRet, Tryz.f201, aResults, aResult, lk, Nat.reduceEqDiff, reduceIte] <;> first | rfl | (simp only [tyall] <;> rfl) | (simp [tyall] <;> rfl)) ?_
      -- leaf: end
      exact ⟨rfl, rfl⟩
theorem len_c (h : AHeap) (n : Nat) (hn : n < 1073741824) : FWp Tryz.prog 131 [U64 n] h fun u h' => u = I64 (bitsLen n) ∧ h' = h := by
  refine W.enter tyOK Tryz.func131 rfl rfl ?_
  simp only [entry]
  refine W.seq <| W.reg <| OSuf.aop tyOK rfl za rfl <| OSuf.nil <| SQ.normal ?_
  refine W.seq <| W.no (by simp only [lk] <;> rfl) <| CWp.skip <| SQ.normal ?_
  refine W.seq <| W.reg <| OSuf.aop tyOK rfl sm rfl <| OSuf.callD rfl (by simp only [aopnds, lk] <;> rfl) en201 (len64_c _ n hn) rfl <| OSuf.aop tyOK rfl za rfl <| OSuf.nil <| SQ.normal ?_
  refine CWp.ret <| FQ.ret (by simp only [aRet, Tryz.f131, aResults, aResult, lk, Nat.reduceEqDiff, reduceIte] <;> first | rfl | (simp only [tyall] <;> rfl) | (simp [tyall] <;> rfl)) ?_
  -- leaf: end
  exact ⟨rfl, rfl⟩
theorem swo : SWO lt := swo_ltStr
theorem pdq_x (h : AHeap) (r N : Nat) (d : Array El) (hN : d.size = N) (h12 : N ≤ 12) (lim : Int) :
    FWp Tryz.prog 259 [sl r N, I64 0, I64 N, I64 lim] (h.set r (row d)) fun u h' => u = .tuple #[] ∧ h' = h.set r (row (insertionSort lt d 0 N)) := by
  have w1 : IntKind.i64.wrap ((N : Int) - 0) = (N : Int) := by rw [wrap_i64 (by omega) (by omega)]; omega
  have hle : (N : Int) ≤ 12 := by omega
  refine W.enter tyOK Tryz.func259 rfl rfl ?_
  simp only [entry]
  refine W.seq <| W.reg <| OSuf.aopT tyOK rfl za (fun _ => rfl) rfl <| OSuf.nil <| SQ.normal ?_
  refine W.seq <| W.reg <| OSuf.aopT tyOK rfl za (fun _ => rfl) rfl <| OSuf.nil <| SQ.normal ?_
  -- leaf: loop
  refine W.block (W.loop (fun m L h' => h' = h.set r (row d) ∧ L = [(0, sl r N), (1, I64 0), (2, I64 N)]) (n := 0) ⟨rfl, rfl⟩ ?_ ?_)
  · simp [HasA, Tr.get_put]
  rintro m L g ⟨rfl, rfl⟩
  simp only [mkA]
  refine W.block <| W.seq <| W.reg <| OSuf.aop tyOK rfl sm rfl <| OSuf.aop tyOK rfl sm rfl <| OSuf.aop tyOK rfl (zb (hv := bi_w bi_sub (by first | (simp only [w1] <;> rfl) | rfl))) rfl <| OSuf.aop tyOK rfl za rfl <| OSuf.nil <| SQ.normal ?_
  refine W.seq <| W.seq <| W.reg <| OSuf.aop tyOK rfl sm rfl <| OSuf.aopT tyOK rfl (zb (hv := bi_leq)) (fun _ => rfl) (decide_eq_true hle) <| OSuf.nil <| SQ.normal ?_
  refine W.yes (by simp only [lk] <;> rfl) <| W.seq <| W.reg <| OSuf.aop tyOK rfl sm rfl <| OSuf.aop tyOK rfl sm rfl <| OSuf.aop tyOK rfl sm rfl <| OSuf.callD rfl (by simp only [aopnds, lk] <;> rfl) en285 (insertion_c h r N d hN 0 N (by omega) (by omega) (by omega)) rfl <| OSuf.nil <| SQ.normal ?_
  refine CWp.ret <| SQ.ret <| BQ.ret <| LQ.ret <| BQ.ret <| FQ.ret (by simp only [aRet, Tryz.f259, aResults, aResult, lk, Nat.reduceEqDiff, reduceIte] <;> first | rfl | (simp only [tyall] <;> rfl) | (simp [tyall] <;> rfl)) ?_
  -- leaf: end
  exact ⟨rfl, rfl⟩
theorem sort_x (h : AHeap) (r N : Nat) (h12 : N ≤ 12) (d : Array El) (hN : d.size = N) :
    FWp Tryz.prog 210 [sl r N] (h.set r (row d)) fun u h' => u = .tuple #[] ∧ h' = h.set r (row (insertionSort lt d 0 N)) := by
  have w1 : IntKind.u64.wrap (N : Int) = (N : Int) := wrap_u64 (by omega) (by omega)
  refine W.enter tyOK Tryz.func210 rfl rfl ?_
  simp only [entry]
  refine W.seq <| W.reg <| OSuf.aop tyOK rfl sm rfl <| OSuf.aop tyOK rfl (so_len (by simp only [aopnds, lk] <;> rfl) (by simp (disch := first | assumption | omega | (simp only [nx] <;> omega) | fail) only [aLenOf, ty106, hpl] <;> rfl)) rfl <| OSuf.aop tyOK rfl za rfl <| OSuf.nil <| SQ.normal ?_
  refine W.reg <| OSuf.aop tyOK rfl sm rfl <| OSuf.aop tyOK rfl sm rfl <| OSuf.aop tyOK rfl sm rfl <| OSuf.aop tyOK rfl (so_conw (so_conv tyOK (by simp only [lk] <;> rfl) ty3 ⟨_, rfl⟩ ty153 rfl) (by first | (simp only [w1] <;> rfl) | rfl)) rfl <| OSuf.callD rfl (by simp only [aopnds, lk] <;> rfl) en131 (len_c _ N (by omega)) rfl <| OSuf.callD rfl (by simp only [aopnds, lk] <;> rfl) en259 (pdq_x h r N d hN h12 _) rfl <| OSuf.nil <| FQ.normal (by simp only [aRet, Tryz.f210, aResults, aResult, lk, Nat.reduceEqDiff, reduceIte] <;> first | rfl | (simp only [tyall] <;> rfl) | (simp [tyall] <;> rfl)) ?_
  -- leaf: end
  exact ⟨rfl, rfl⟩
theorem sort_c (h : AHeap) (r N : Nat) (h12 : N ≤ 12) (d : Array El) (hN : d.size = N) :
    FWp Tryz.prog 210 [sl r N] (h.set r (row d)) fun u h' => u = .tuple #[] ∧ ∃ d' : Array El, h' = h.set r (row d') ∧ PermIn 0 N d d' ∧ SortedIn lt 0 N d' := by
  refine (sort_x h r N h12 d hN).mono ?_
  rintro u h' ⟨rfl, rfl⟩
  obtain ⟨p1, p2⟩ := insertionSort_holds swo d 0 N (by omega) (by omega)
  exact ⟨rfl, _, rfl, p1, p2⟩
theorem insertion_nil (h : AHeap) : FWp Tryz.prog 285 [.slice none 0 0, I64 0, I64 0] h fun u h' => u = .tuple #[] ∧ h' = h := by
  refine W.enter tyOK Tryz.func285 rfl rfl ?_
  simp only [entry]
  have w0 : IntKind.i64.wrap ((0 : Int) + 1) = 1 := by decide
  refine W.seq <| W.reg <| OSuf.aop tyOK rfl sm rfl <| OSuf.aop tyOK rfl (zb (hv := bi_w bi_add (by first | (simp only [w0] <;> rfl) | rfl))) rfl <| OSuf.aop tyOK rfl za rfl <| OSuf.nil <| SQ.normal ?_
  -- leaf: loop
  refine W.block (W.loop (fun n L h' => h' = h ∧ L = [(2, I64 0), (6, I64 1)]) (n := 0) ⟨rfl, rfl⟩ ?_ ?_)
  · simp [HasA, Tr.get_put]
  · rintro n L h1 ⟨rfl, rfl⟩
    simp only [mkA]
    refine W.seq <| W.seq <| W.reg <| OSuf.aop tyOK rfl sm rfl <| OSuf.aop tyOK rfl sm rfl <| OSuf.aopF tyOK rfl (zb (hv := bi_lss)) (fun _ => rfl) (by first | rfl | assumption | ((simp only [bl]) <;> first | done | assumption | omega) | (simp; done) | (simp; omega)) <| OSuf.nil <| SQ.normal ?_
    refine W.no (by simp only [lk] <;> rfl) <| CWp.exit <| SQ.exit <| LQ.exit <| BQ.exit <| FQ.normal (by simp only [aRet, Tryz.f285, aResults, aResult, lk, Nat.reduceEqDiff, reduceIte] <;> first | rfl | (simp only [tyall] <;> rfl) | (simp [tyall] <;> rfl)) ?_
    -- leaf: end
    exact ⟨rfl, rfl⟩
theorem pdq_nil (h : AHeap) (lim : Int) : FWp Tryz.prog 259 [.slice none 0 0, I64 0, I64 0, I64 lim] h fun u h' => u = .tuple #[] ∧ h' = h := by
  refine W.enter tyOK Tryz.func259 rfl rfl ?_
  simp only [entry]
  have w0 : IntKind.i64.wrap ((0 : Int) - 0) = 0 := by decide
  refine W.seq <| W.reg <| OSuf.aopT tyOK rfl za (fun _ => rfl) rfl <| OSuf.nil <| SQ.normal ?_
  refine W.seq <| W.reg <| OSuf.aopT tyOK rfl za (fun _ => rfl) rfl <| OSuf.nil <| SQ.normal ?_
  -- leaf: loop
  refine W.block (W.loop (fun n L h' => h' = h ∧ L = [(0, .slice none 0 0), (1, I64 0), (2, I64 0)]) (n := 0) ⟨rfl, rfl⟩ ?_ ?_)
  · simp [HasA, Tr.get_put]
  · rintro n L h1 ⟨rfl, rfl⟩
    simp only [mkA]
    refine W.block <| W.seq <| W.reg <| OSuf.aop tyOK rfl sm rfl <| OSuf.aop tyOK rfl sm rfl <| OSuf.aop tyOK rfl (zb (hv := bi_w bi_sub (by first | (simp only [w0] <;> rfl) | rfl))) rfl <| OSuf.aop tyOK rfl za rfl <| OSuf.nil <| SQ.normal ?_
    refine W.seq <| W.seq <| W.reg <| OSuf.aop tyOK rfl sm rfl <| OSuf.aopT tyOK rfl (zb (hv := bi_leq)) (fun _ => rfl) (by first | rfl | assumption | ((simp only [bl]) <;> first | done | assumption | omega) | (simp; done) | (simp; omega)) <| OSuf.nil <| SQ.normal ?_
    refine W.yes (by simp only [lk] <;> rfl) <| W.seq <| W.reg <| OSuf.aop tyOK rfl sm rfl <| OSuf.aop tyOK rfl sm rfl <| OSuf.aop tyOK rfl sm rfl <| OSuf.callD rfl (by simp only [aopnds, lk] <;> rfl) en285 (insertion_nil _) rfl <| OSuf.nil <| SQ.normal ?_
    refine CWp.ret <| SQ.ret <| BQ.ret <| LQ.ret <| BQ.ret <| FQ.ret (by simp only [aRet, Tryz.f259, aResults, aResult, lk, Nat.reduceEqDiff, reduceIte] <;> first | rfl | (simp only [tyall] <;> rfl) | (simp [tyall] <;> rfl)) ?_
    -- leaf: end
    exact ⟨rfl, rfl⟩
theorem sort_nil (h : AHeap) : FWp Tryz.prog 210 [.slice none 0 0] h fun u h' => u = .tuple #[] ∧ h' = h := by
  have w1 : IntKind.u64.wrap ((0 : Nat) : Int) = ((0 : Nat) : Int) := by decide
  refine W.enter tyOK Tryz.func210 rfl rfl ?_
  simp only [entry]
  refine W.seq <| W.reg <| OSuf.aop tyOK rfl sm rfl <| OSuf.aop tyOK rfl (so_len (by simp only [aopnds, lk] <;> rfl) (by simp (disch := first | assumption | omega | (simp only [nx] <;> omega) | fail) only [aLenOf, ty106, hpl] <;> rfl)) rfl <| OSuf.aop tyOK rfl za rfl <| OSuf.nil <| SQ.normal ?_
  refine W.reg <| OSuf.aop tyOK rfl sm rfl <| OSuf.aop tyOK rfl sm rfl <| OSuf.aop tyOK rfl sm rfl <| OSuf.aop tyOK rfl (so_conw (so_conv tyOK (by simp only [lk] <;> rfl) ty3 ⟨_, rfl⟩ ty153 rfl) (by first | (simp only [w1] <;> rfl) | rfl)) rfl <| OSuf.callD rfl (by simp only [aopnds, lk] <;> rfl) en131 (len_c _ 0 (by omega)) rfl <| OSuf.callD rfl (by simp only [aopnds, lk] <;> rfl) en259 (pdq_nil _ _) rfl <| OSuf.nil <| FQ.normal (by simp only [aRet, Tryz.f210, aResults, aResult, lk, Nat.reduceEqDiff, reduceIte] <;> first | rfl | (simp only [tyall] <;> rfl) | (simp [tyall] <;> rfl)) ?_
  -- leaf: end
  exact ⟨rfl, rfl⟩
theorem sorted_eq {d d' : Array El} {ks : List El} (hp : PermIn 0 d.size d d') (hs : SortedIn lt 0 d.size d') (hk : ks.Perm d.toList) (hks : ks.Pairwise (fun x y => lt y x = false)) : d'.toList = ks := by
  have hu : ∀ x y : El, lt x y = false → lt y x = false → x = y := fun x y h1 h2 => by simp only [lt, ltStr, decide_eq_false_iff_not, List.not_lt] at h1 h2; exact List.le_antisymm h2 h1
  have e1 := sorted_unique_holds (lt := lt) swo hu d d' hp hs
  have hsz : ks.length = d.size := by rw [hk.length_eq]; simp
  have e2 := sorted_unique_holds (lt := lt) swo hu d ks.toArray ⟨by simp [hsz], fun i hi => by
      rcases hi with hi | hi
      · omega
      · rw [getElem!_neg _ i (by simp; omega), getElem!_neg _ i (by omega)], by
      have e3 : (d.extract 0 d.size).toList = d.toList := by simp
      have e4 : (ks.toArray.extract 0 d.size).toList = ks := by simp [← hsz]
      rw [e3, e4]; exact hk⟩ (fun i j _ hij hj => by
      have := List.pairwise_iff_getElem.1 hks i j (by omega) (by omega) hij
      rw [getElem!_pos _ j (by simp; omega), getElem!_pos _ i (by simp; omega)]
      simpa using this)
  rw [e1, ← e2]
end Go.Proofs.YtimbhgkiohbkdaaGreat.SortS
namespace Go.Proofs.YtimbhgkiohbkdaaGreat.SortS
open Go.Ab Go.Sort
set_option linter.unusedSimpArgs false
set_option linter.unusedVariables false
set_option maxRecDepth 10000
noncomputable abbrev P0 (p : Nat) : Value := .pointer (some ⟨p, 0, none⟩)
structure MapOK (l : List (El × Value × Nat)) (clock : Nat) : Prop where
  lt : ∀ x ∈ l, x.2.2 < clock
  inj : ∀ x ∈ l, ∀ y ∈ l, x.2.2 = y.2.2 → x = y
  nodup : l.Nodup
noncomputable def unE : List AEnt → Option (List (El × Value × Nat))
  | [] => some []
  | e :: es => match e.key, unE es with
    | .string s, some l => some ((s.data.toList, e.val, e.born) :: l)
    | _, _ => none
theorem unE_mk : ∀ {es : List AEnt} {l : List (El × Value × Nat)}, unE es = some l → es = mkK enc l
  | [], l, h => by simp only [unE, Option.some.injEq] at h; subst h; rfl
  | e :: es, l, h => by
    simp only [unE] at h
    split at h
    · rename_i s l0 h1 h2
      cases h
      rw [unE_mk h2]
      cases e
      simp only at h1
      subst h1
      rfl
    · cases h
noncomputable def noB (b : Nat) : List (El × Value × Nat) → Bool
  | [] => true
  | x :: l => !Nat.beq x.2.2 b && noB b l
noncomputable def okB (clock : Nat) : List (El × Value × Nat) → Bool
  | [] => true
  | x :: l => Nat.ble (x.2.2 + 1) clock && (noB x.2.2 l && okB clock l)
theorem noB_ne {b : Nat} : ∀ {l : List (El × Value × Nat)}, noB b l = true → ∀ x ∈ l, x.2.2 ≠ b
  | y :: l, h, x, hx => by
    simp only [noB, Bool.and_eq_true, Bool.not_eq_true'] at h
    cases hx with
    | head => intro e; rw [e, Nat.beq_refl] at h; cases h.1
    | tail _ hm => exact noB_ne h.2 x hm
theorem okB_ok {clock : Nat} : ∀ {l : List (El × Value × Nat)}, okB clock l = true → MapOK l clock
  | [], _ => ⟨fun _ h => (List.not_mem_nil h).elim, fun _ h => (List.not_mem_nil h).elim, List.nodup_nil⟩
  | x :: l, h => by
    simp only [okB, Bool.and_eq_true] at h
    obtain ⟨h1, h2, h3⟩ := h
    have r := okB_ok h3
    have hx := noB_ne h2
    refine ⟨fun y hy => ?_, fun y hy z hz e => ?_, List.nodup_cons.2 ⟨fun hm => hx x hm rfl, r.nodup⟩⟩
    · cases hy with
      | head => exact Nat.le_of_ble_eq_true h1
      | tail _ hm => exact r.lt y hm
    · cases hy with
      | head => cases hz with
        | head => rfl
        | tail _ hm => exact (hx z hm e.symm).elim
      | tail _ hm => cases hz with
        | head => exact (hx y hm e).elim
        | tail _ hn => exact r.inj y hm z hn e
noncomputable def insS (x : El) : List El → List El
  | [] => [x]
  | y :: l => bif Op.bytesLess y x then y :: insS x l else x :: y :: l
noncomputable def isS : List El → List El
  | [] => []
  | x :: l => insS x (isS l)
theorem insS_perm (x : El) : ∀ l, (insS x l).Perm (x :: l)
  | [] => .refl _
  | y :: l => by
    simp only [insS]
    cases Op.bytesLess y x
    · exact .refl _
    · exact ((insS_perm x l).cons y).trans (.swap x y l)
theorem isS_perm : ∀ l, (isS l).Perm l
  | [] => .refl _
  | x :: l => (insS_perm x _).trans ((isS_perm l).cons x)
theorem insS_sorted (x : El) : ∀ {l : List El}, l.Pairwise (fun a b => lt b a = false) → (insS x l).Pairwise (fun a b => lt b a = false)
  | [], _ => by simp [insS]
  | y :: l, h => by
    simp only [insS]
    have h' := List.pairwise_cons.1 h
    have e := bless y x
    cases hd : Op.bytesLess y x
    · simp only [cond_false]
      have hyx : lt y x = false := by rw [hd] at e; exact e.symm
      refine List.pairwise_cons.2 ⟨fun z hz => ?_, h⟩
      cases hz with
      | head => exact hyx
      | tail _ hm =>
        have hzy := h'.1 z hm
        simp only [lt, ltStr, decide_eq_false_iff_not, List.not_lt] at hyx hzy ⊢
        exact List.le_trans hyx hzy
    · simp only [cond_true]
      have hyx : lt y x = true := by rw [hd] at e; exact e.symm
      refine List.pairwise_cons.2 ⟨fun z hz => ?_, insS_sorted x h'.2⟩
      have := (insS_perm x l).mem_iff.1 hz
      cases this with
      | head =>
        simp only [lt, ltStr, decide_eq_false_iff_not, decide_eq_true_eq] at hyx ⊢
        exact fun h9 => List.lt_asymm hyx h9
      | tail _ hm => exact h'.1 z hm
theorem isS_sorted : ∀ l : List El, (isS l).Pairwise (fun a b => lt b a = false)
  | [] => .nil
  | x :: l => insS_sorted x (isS_sorted l)
noncomputable def keysRes (h : AHeap) (ks : List El) : Value × AHeap :=
  match ks with
  | [] => (.slice none 0 0, h)
  | _ => (.slice (some ⟨h.next, 0, none⟩) ks.length 0, h.new (.cells (ks.map enc) 1))
noncomputable def keysAt (h : AHeap) (q : Nat) : Option (Value × AHeap) :=
  match h.get q with
  | some (.cells [.map (some m)] 1) => match h.get m with
    | some (.map es clock) => match unE es with
      | some l => bif (okB clock l && Nat.ble l.length 12) && (Nat.ble (q + 1) h.next && Nat.ble (m + 1) h.next) then some (keysRes h (isS (l.map (·.1)))) else none
      | none => none
    | _ => none
  | _ => none
noncomputable def SortedC (f k : FuncId) : Prop := ∀ (h : AHeap) (q m clock : Nat) (l : List (El × Value × Nat)) (ks : List El), MapOK l clock → q < h.next → m < h.next → h.get q = some (.cells [.map (some m)] 1) → h.get m = some (.map (mkK enc l) clock) → l.length ≤ 12 →
    ks.Perm (l.map (·.1)) → ks.Pairwise (fun x y => lt y x = false) →
    FWp Tryz.prog f [.func (.func k) #[] #[P0 q]] h fun u h' => (ks = [] ∧ u = .slice none 0 0 ∧ h' = h) ∨ (ks ≠ [] ∧ u = .slice (some ⟨h.next, 0, none⟩) ks.length 0 ∧ h' = h.new (.cells (ks.map enc) 1))
theorem keysAt_ok {f k : FuncId} (sc : SortedC f k) {h h' : AHeap} {q : Nat} {v : Value} (hk : keysAt h q = some (v, h')) : FWp Tryz.prog f [.func (.func k) #[] #[P0 q]] h fun x y => x = v ∧ y = h' := by
  unfold keysAt at hk
  split at hk
  · rename_i m hq
    split at hk
    · rename_i es clock hm
      split at hk
      · rename_i l hl
        cases hb : (okB clock l && Nat.ble l.length 12) && (Nat.ble (q + 1) h.next && Nat.ble (m + 1) h.next)
        · rw [hb, cond_false] at hk; cases hk
        · rw [hb, cond_true] at hk
          simp only [Bool.and_eq_true] at hb
          obtain ⟨⟨b1, b2⟩, b3, b4⟩ := hb
          rw [unE_mk hl] at hm
          have := sc h q m clock l (isS (l.map (·.1))) (okB_ok b1) (Nat.le_of_ble_eq_true b3) (Nat.le_of_ble_eq_true b4) hq hm (Nat.le_of_ble_eq_true b2) (isS_perm _) (isS_sorted _)
          refine this.mono ?_
          rintro x y (⟨e1, rfl, rfl⟩ | ⟨e1, rfl, rfl⟩)
          · rw [e1] at hk
            simp only [keysRes, Option.some.injEq, Prod.mk.injEq] at hk
            exact hk
          · unfold keysRes at hk
            split at hk
            · rename_i e2; exact (e1 e2).elim
            · simp only [Option.some.injEq, Prod.mk.injEq] at hk; exact hk
      · cases hk
    · cases hk
  · cases hk
noncomputable def keysS (f : FuncId) (ks : List FuncId) (f' : FuncId) (args : List Value) (h : AHeap) : Option (Value × AHeap) :=
  bif Nat.beq f' f then match args with
    | [.func (.func k) first cap] => bif ks.any (Nat.beq k) && first.isEmpty then match cap.toList with
      | [.pointer (some ⟨q, 0, none⟩)] => keysAt h q
      | _ => none
      else none
    | _ => none
  else none
theorem keysS_ok {f : FuncId} {fn : Func} {ks : List FuncId} (he : Entered Tryz.prog f fn) (sc : ∀ k ∈ ks, SortedC f k) (f' : FuncId) (args : List Value) (h : AHeap) (v : Value) (h' : AHeap) (hk : keysS f ks f' args h = some (v, h')) : (∃ fn, Entered Tryz.prog f' fn) ∧ FWp Tryz.prog f' args h fun x y => x = v ∧ y = h' := by
  unfold keysS at hk
  cases hf : Nat.beq f' f
  · rw [hf, cond_false] at hk; cases hk
  · rw [hf, cond_true] at hk
    obtain rfl := Nat.eq_of_beq_eq_true hf
    refine ⟨⟨_, he⟩, ?_⟩
    split at hk
    · rename_i k first cap
      cases hb : ks.any (Nat.beq k) && first.isEmpty
      · rw [hb, cond_false] at hk; cases hk
      · rw [hb, cond_true] at hk
        simp only [Bool.and_eq_true, Array.isEmpty_iff] at hb
        obtain ⟨b1, rfl⟩ := hb
        obtain ⟨k', hk', b1⟩ := List.any_eq_true.1 b1
        obtain rfl := Nat.eq_of_beq_eq_true b1
        split at hk
        · rename_i q hc
          have : cap = #[.pointer (some ⟨q, 0, none⟩)] := Array.toList_inj.1 hc
          subst this
          exact keysAt_ok (sc _ hk') hk
        · cases hk
    · cases hk
end Go.Proofs.YtimbhgkiohbkdaaGreat.SortS
namespace Go.Proofs.YtimbhgkiohbkdaaGreat.SortS.KB
open Go.Ab Go.Sort
set_option linter.unusedSimpArgs false
set_option linter.unusedVariables false
set_option maxRecDepth 10000
set_option maxHeartbeats 8000000
noncomputable abbrev P0 (p : Nat) : Value := .pointer (some ⟨p, 0, none⟩)
structure MapOK (l : List (El × Value × Nat)) (clock : Nat) : Prop where
  lt : ∀ x ∈ l, x.2.2 < clock
  inj : ∀ x ∈ l, ∀ y ∈ l, x.2.2 = y.2.2 → x = y
  nodup : l.Nodup
theorem keys_c (h : AHeap) (m : Nat) : FWp Tryz.prog 151 [.map (some m)] h fun u h' => u = .func (.func 211) #[] #[P0 h.next] ∧ h' = h.new (.cells [.map (some m)] 1) := by
  refine W.enter tyOK Tryz.func151 rfl rfl ?_
  simp only [entry]
  refine W.seq <| W.reg <| OSuf.aop tyOK rfl (so_box (by simp only [lk] <;> rfl)) rfl <| OSuf.aop tyOK rfl za rfl <| OSuf.nil <| SQ.normal ?_
  refine W.seq <| W.reg <| OSuf.aop tyOK rfl (so_makeFunc rfl (by simp only [aopnds, lk] <;> rfl) (by simp only [aopnds, lk] <;> rfl)) rfl <| OSuf.aop tyOK rfl za rfl <| OSuf.nil <| SQ.normal ?_
  refine CWp.ret <| FQ.ret (by simp only [aRet, Tryz.f151, aResults, aResult, lk, Nat.reduceEqDiff, reduceIte] <;> first | rfl | (simp only [tyall] <;> rfl) | (simp [tyall] <;> rfl)) ?_
  -- leaf: end
  exact ⟨rfl, rfl⟩
inductive OutAt (h : AHeap) (lo : Nat) (ks : List El) : Value → Prop
  | none (e : ks = []) : OutAt h lo ks (.slice none 0 0)
  | some {x n : Nat} (hne : ks ≠ []) (e : n = ks.length) (hlo : lo ≤ x) (hx : x < h.next) (hg : h.get x = .some (.cells (ks.map enc) 1)) : OutAt h lo ks (.slice (.some ⟨x, 0, .none⟩) n 0)
structure KSt (h0 h : AHeap) (LP : ALoop) (m clock : Nat) (ys : List (El × Value × Nat)) (seen : Array Nat) : Prop where
  next : h0.next + 3 ≤ h.next
  out : ∃ o, h.get h0.next = some (.cells [o] 1) ∧ OutAt h (h0.next + 3) (ys.map (·.1)) o
  loop : h.get (h0.next + 1) = some (.loop LP)
  iter : h.get (h0.next + 2) = some (.mapIter (some m) clock seen clock)
  old : ∀ z, z < h0.next → h.get z = h0.get z
theorem iter_step {h g : AHeap} {LP : ALoop} {m clock : Nat} {ys : List (El × Value × Nat)} {seen seen' : Array Nat} (hK : KSt h g LP m clock ys seen) : KSt h (g.set (h.next + 2) (.mapIter (some m) clock seen' clock)) LP m clock ys seen' := by
  obtain ⟨h1, ⟨o, h2, h3⟩, h4, h5, h6⟩ := hK
  refine ⟨h1, ⟨o, ?_, ?_⟩, ?_, AHeap.get_set_same _ _ _, ?_⟩
  · rw [AHeap.get_set_ne (by omega)]; exact h2
  · cases h3 with
    | none e => exact .none e
    | some ne e a b c => exact .some ne e a b (by rw [AHeap.get_set_ne (by omega)]; exact c)
  · rw [AHeap.get_set_ne (by omega)]; exact h4
  · intro z hz; rw [AHeap.get_set_ne (by omega)]; exact h6 z hz
theorem find_born {l : List (El × Value × Nat)} {clock : Nat} (hok : MapOK l clock) {x : El × Value × Nat} (hx : x ∈ l) : (mkK enc l).find? (fun e => e.born == x.2.2) = some ⟨enc x.1, x.2.1, x.2.2⟩ := by
  have key : ∀ l' : List (El × Value × Nat), (∀ y ∈ l', y ∈ l) → x ∈ l' → (mkK enc l').find? (fun e => e.born == x.2.2) = some ⟨enc x.1, x.2.1, x.2.2⟩ := by
    intro l'
    induction l' with
    | nil => intro _ h; cases h
    | cons y l' ih =>
      intro hs hm
      simp only [mkK, List.map_cons, List.find?_cons]
      by_cases hb : y.2.2 = x.2.2
      · have := hok.inj y (hs y List.mem_cons_self) x hx hb
        subst this; simp
      · have e1 : (y.2.2 == x.2.2) = false := by simpa using hb
        rw [e1]
        cases hm with
        | head => exact (hb rfl).elim
        | tail _ h9 => exact ih (fun z hz => hs z (List.mem_cons_of_mem _ hz)) h9
  exact key l (fun _ h => h) hx
theorem nat_le : ∀ (a b : List Nat), a.Nodup → (∀ x ∈ a, x ∈ b) → a.length ≤ b.length
  | [], b, _, _ => Nat.zero_le _
  | x :: a, b, hn, hs => by
    have hx := hs x List.mem_cons_self
    have hn' := List.nodup_cons.1 hn
    have := nat_le a (b.erase x) hn'.2 (fun y hy => (List.mem_erase_of_ne (fun e => hn'.1 (by rw [← e]; exact hy))).2 (hs y (List.mem_cons_of_mem _ hy)))
    rw [List.length_erase_of_mem hx] at this
    have : 0 < b.length := List.length_pos_of_mem hx
    simp; omega
theorem nodup_le {l ys : List (El × Value × Nat)} {clock : Nat} (hok : MapOK l clock) (hnd : ys.Nodup) (hsub : ∀ y ∈ ys, y ∈ l) : ys.length ≤ l.length := by
  have h1 : (ys.map (·.2.2)).Nodup := by
    have : ∀ zs : List (El × Value × Nat), zs.Nodup → (∀ y ∈ zs, y ∈ l) → (zs.map (·.2.2)).Nodup := by
      intro zs
      induction zs with
      | nil => intro _ _; simp
      | cons z zs ih =>
        intro hn hs
        have hn' := List.nodup_cons.1 hn
        simp only [List.map_cons, List.nodup_cons]
        refine ⟨fun hm => ?_, ih hn'.2 fun y hy => hs y (List.mem_cons_of_mem _ hy)⟩
        obtain ⟨y, hy, hb⟩ := List.mem_map.1 hm
        have := hok.inj y (hs y (List.mem_cons_of_mem _ hy)) z (hs z List.mem_cons_self) hb
        subst this; exact hn'.1 hy
    exact this ys hnd hsub
  have := nat_le (ys.map (·.2.2)) (l.map (·.2.2)) h1 (fun x hx => by
    obtain ⟨y, hy, rfl⟩ := List.mem_map.1 hx
    exact List.mem_map.2 ⟨y, hsub y hy, rfl⟩)
  simpa using this
theorem nodup_lt {l ys : List (El × Value × Nat)} {clock : Nat} (hok : MapOK l clock) {x : El × Value × Nat} (hnd : ys.Nodup) (hsub : ∀ y ∈ ys, y ∈ l) (hx : x ∈ l) (hn : x ∉ ys) : ys.length < l.length := by
  have h1 : (x :: ys).Nodup := List.nodup_cons.2 ⟨hn, hnd⟩
  have := nodup_le hok h1 (fun y hy => by cases hy with | head => exact hx | tail _ h9 => exact hsub y h9)
  simp at this; omega
theorem all_seen {l ys : List (El × Value × Nat)} {clock : Nat} {seen : Array Nat} (hok : MapOK l clock) (hnd : ys.Nodup) (hsub : ∀ y ∈ ys, y ∈ l) (hseen : seen.toList = ys.map (·.2.2)) (he : (left (mkK enc l) seen).filter (fun e => decide (e.born < clock)) = []) : ys.Perm l := by
  refine (List.perm_ext_iff_of_nodup hnd hok.nodup).2 fun x => ⟨hsub x, fun hx => ?_⟩
  have h1 : (⟨enc x.1, x.2.1, x.2.2⟩ : AEnt) ∈ mkK enc l := List.mem_map.2 ⟨x, hx, rfl⟩
  have h2 := List.filter_eq_nil_iff.1 he
  by_cases hc : x.2.2 ∈ seen.toList
  · rw [hseen] at hc
    obtain ⟨y, hy, hb⟩ := List.mem_map.1 hc
    have := hok.inj y (hsub y hy) x hx hb
    subst this; exact hy
  · exfalso
    refine h2 ⟨enc x.1, x.2.1, x.2.2⟩ ?_ (by simpa using hok.lt x hx)
    simp only [left, List.mem_filter]
    exact ⟨h1, by simpa using hc⟩
theorem append_c (h : AHeap) (q m clock : Nat) (l : List (El × Value × Nat)) (hok : MapOK l clock) (hq : q < h.next) (hm : m < h.next) (hgq : h.get q = some (.cells [.map (some m)] 1)) (hgm : h.get m = some (.map (mkK enc l) clock)) (hbig : l.length ≤ 1000000) :
    FWp Tryz.prog 258 [.slice none 0 0, .func (.func 211) #[] #[P0 q]] h fun u h' => ∃ ys : List (El × Value × Nat), ys.Perm l ∧ OutAt h' h.next (ys.map (·.1)) u ∧ (∀ z, z < h.next → h'.get z = h.get z) := by
  refine W.enter tyOK Tryz.func258 rfl rfl ?_
  simp only [entry]
  refine W.seq <| W.reg <| OSuf.aop tyOK rfl (so_box (by simp only [lk] <;> rfl)) rfl <| OSuf.aop tyOK rfl za rfl <| OSuf.nil <| SQ.normal ?_
  refine W.seq <| W.seq <| W.reg <| OSuf.aop tyOK rfl sm rfl <| OSuf.nil <| SQ.normal ?_
  -- leaf: loop
  refine W.block (CWp.rangeFunc (by simp only [aopnd, Tr.get_put, Nat.reduceEqDiff, reduceIte] <;> rfl) (fun l hl => by cases hl) (VWp.func en211 ?_))
  show FWp _ _ [_, _] _ _
  generalize hLP : (ALoop.mk _ _ _ _ _ _ _ _) = LP
  have yield : ∀ (g : AHeap) (ys : List (El × Value × Nat)) (sn : Array Nat) (x : El × Value × Nat), KSt h g LP m clock ys sn → ys.length ≤ 1000000 →
      VWp Tryz.prog (.func (.yield (h.next + 1)) #[] #[]) [enc x.1] g fun u h3 => u = .bool true ∧ KSt h h3 LP m clock (ys ++ [x]) sn := by
    intro g ys sn x hK hlen
    obtain ⟨k1, ⟨o, k2, k3⟩, k4, k5, k6⟩ := hK
    have hl := k4
    rw [← hLP] at hl
    refine VWp.yield hl rfl ?_
    refine W.reg <| OSuf.aop tyOK rfl za rfl <| OSuf.nil <| ?_
    -- leaf: stop
    refine ⟨rfl, _, hl, rfl, ?_⟩
    cases k3 with
    | none e =>
      refine W.block <| W.reg <| OSuf.aop tyOK rfl (zl (hv := by simp (disch := first | assumption | omega | (simp only [nx] <;> omega) | fail) only [aLoad, ty106, rowOf, hpl, k2, Value.cells] <;> rfl)) rfl <| OSuf.aop tyOK rfl sm rfl <| OSuf.aop tyOK rfl (so_buildSlice (by simp only [aparts, lk] <;> rfl) (by simp only [aBuildSlice, ty106, ty9, k2, Value.cells] <;> first | rfl | (simp only [tyall] <;> rfl) | (simp [tyall] <;> rfl))) rfl <| OSuf.aop tyOK rfl (so_append (by simp only [aopnds, lk] <;> rfl) (ap_0 (by simp only [appT, ty106, ty9] <;> rfl) rfl (by simp (disch := first | assumption | omega | (simp only [nx] <;> omega) | fail) only [aCells, rowOf, hpl, k2, Value.cells] <;> rfl) (by decide) rfl)) rfl <| OSuf.aop tyOK rfl (zs (hv := by simp (disch := first | assumption | omega | (simp only [nx] <;> omega) | fail) only [aStore, ty106, writeRow, hpl, k2, Value.cells] <;> rfl)) rfl <| OSuf.nil <| BQ.normal <| ?_
      -- leaf: stop
      refine ⟨_, by (simp (disch := first | assumption | omega | (simp only [nx] <;> omega) | fail) only [AHeap.get_set_ne, AHeap.get_set_same, AHeap.get_new_ne, AHeap.next_set, AHeap.next_new]; rfl), rfl, ?_, ⟨.slice (some ⟨g.next + 1, 0, none⟩) 1 0, ?_, .some (x := g.next + 1) (by simp) ?_ ?_ ?_ ?_⟩, ?_, ?_, ?_⟩
      · simp only [AHeap.next_set, AHeap.next_new]; omega
      · simp (disch := first | assumption | omega | (simp only [nx] <;> omega) | fail) only [AHeap.get_set_ne, AHeap.get_set_same]; rfl
      · simp [e]
      · omega
      · simp only [AHeap.next_set, AHeap.next_new]; omega
      · simp (disch := first | assumption | omega | (simp only [nx] <;> omega) | fail) only [AHeap.get_set_ne, AHeap.get_new_at, AHeap.next_set, AHeap.next_new]; simp [e]; rfl
      · rw [AHeap.get_set_same, ← hLP]; rfl
      · simp (disch := first | assumption | omega | (simp only [nx] <;> omega) | fail) only [AHeap.get_set_ne, AHeap.get_new_ne, AHeap.next_set, AHeap.next_new]; exact k5
      · intro z hz; simp (disch := first | assumption | omega | (simp only [nx] <;> omega) | fail) only [AHeap.get_set_ne, AHeap.get_new_ne, AHeap.next_set, AHeap.next_new]; exact k6 z hz
    | @some x1 n1 ne e e1 e2 e3 =>
      have hc : cellsOf ((ys.map (·.1)).map enc) 0 (n1 * 1) = some ((ys.map (·.1)).map enc) := cellsOf_all (by rw [e]; simp)
      have hn1 : n1 ≤ 1000000 := by rw [e]; simpa using hlen
      refine W.block <| W.reg <| OSuf.aop tyOK rfl (zl (hv := by simp (disch := first | assumption | omega | (simp only [nx] <;> omega) | fail) only [aLoad, ty106, rowOf, hpl, k2, e3, Value.cells] <;> rfl)) rfl <| OSuf.aop tyOK rfl sm rfl <| OSuf.aop tyOK rfl (so_buildSlice (by simp only [aparts, lk] <;> rfl) (by simp only [aBuildSlice, ty106, ty9, k2, e3, Value.cells] <;> first | rfl | (simp only [tyall] <;> rfl) | (simp [tyall] <;> rfl))) rfl <| OSuf.aop tyOK rfl (so_append (by simp only [aopnds, lk] <;> rfl) (ap_u (by simp only [appT, ty106, ty9] <;> rfl) rfl (by simp (disch := first | assumption | omega | (simp only [nx] <;> omega) | fail) only [aCells, rowOf, hpl, k2, e3, Value.cells] <;> rfl) (by show (2 * (n1 + 1) + 256) * 16 ≤ _; omega) rfl (by simp (disch := first | assumption | omega | (simp only [nx] <;> omega) | fail) only [aCells, rowOf, hpl, k2, e3, Value.cells] <;> rfl) rfl hc)) rfl <| OSuf.aop tyOK rfl (zs (hv := by simp (disch := first | assumption | omega | (simp only [nx] <;> omega) | fail) only [aStore, ty106, writeRow, hpl, k2, e3, Value.cells] <;> rfl)) rfl <| OSuf.nil <| BQ.normal <| ?_
      -- leaf: stop
      refine ⟨_, by (simp (disch := first | assumption | omega | (simp only [nx] <;> omega) | fail) only [AHeap.get_set_ne, AHeap.get_set_same, AHeap.get_new_ne, AHeap.get_kill_ne, AHeap.next_set, AHeap.next_new, AHeap.next_kill]; rfl), rfl, ?_, ⟨.slice (some ⟨g.next + 1, 0, none⟩) (n1 + 1) 0, ?_, .some (x := g.next + 1) (by simp) ?_ ?_ ?_ ?_⟩, ?_, ?_, ?_⟩
      · simp only [AHeap.next_set, AHeap.next_new, AHeap.next_kill]; omega
      · simp (disch := first | assumption | omega | (simp only [nx] <;> omega) | fail) only [AHeap.get_set_ne, AHeap.get_set_same]; rfl
      · simp [e]
      · omega
      · simp only [AHeap.next_set, AHeap.next_new, AHeap.next_kill]; omega
      · simp (disch := first | assumption | omega | (simp only [nx] <;> omega) | fail) only [AHeap.get_set_ne, AHeap.get_new_at, AHeap.next_set, AHeap.next_new, AHeap.next_kill, List.map_append]; rfl
      · rw [AHeap.get_set_same, ← hLP]; rfl
      · simp (disch := first | assumption | omega | (simp only [nx] <;> omega) | fail) only [AHeap.get_set_ne, AHeap.get_new_ne, AHeap.get_kill_ne, AHeap.next_set, AHeap.next_new, AHeap.next_kill]; exact k5
      · intro z hz; simp (disch := first | assumption | omega | (simp only [nx] <;> omega) | fail) only [AHeap.get_set_ne, AHeap.get_new_ne, AHeap.get_kill_ne, AHeap.next_set, AHeap.next_new, AHeap.next_kill]; exact k6 z hz
  refine W.enter tyOK Tryz.func211 rfl rfl ?_
  simp only [entry]
  refine W.seq <| W.reg <| OSuf.aop tyOK rfl (zl (hv := by simp (disch := first | assumption | omega | (simp only [nx] <;> omega) | fail) only [aLoad, ty201, rowOf, hpl, hgq, hgm, Value.cells] <;> rfl)) rfl <| OSuf.aop tyOK rfl (so_range (by simp only [lk] <;> rfl) (by simp (disch := first | assumption | omega | (simp only [nx] <;> omega) | fail) only [aRange, ty201, hpl, hgq, hgm, Value.cells] <;> rfl)) rfl <| OSuf.nil <| SQ.normal ?_
  -- leaf: loop
  refine W.cut (fun L h2 => ∃ ys seen, ys.Perm l ∧ KSt h h2 LP m clock ys seen) (W.block (W.loop (fun n L h2 => ∃ ys seen, n + ys.length = l.length ∧ ys.Nodup ∧ (∀ y ∈ ys, y ∈ l) ∧ seen.toList = ys.map (·.2.2) ∧ KSt h h2 LP m clock ys seen ∧
      L = [(0, .func (.yield (h.next + 1)) #[] #[]), (5, P0 (h.next + 2))]) (n := l.length) ⟨[], #[], by simp, by simp, by simp, rfl, ⟨?_, ⟨_, ?_, .none rfl⟩, ?_, ?_, ?_⟩, rfl⟩ ?_ ?_)) ?_
  · simp only [AHeap.next_new]; omega
  · simp (disch := first | assumption | omega | (simp only [nx] <;> omega) | fail) only [AHeap.get_new_at, AHeap.get_new_ne, AHeap.next_new]
  · simp (disch := first | assumption | omega | (simp only [nx] <;> omega) | fail) only [AHeap.get_new_at, AHeap.get_new_ne, AHeap.next_new]
  · simp (disch := first | assumption | omega | (simp only [nx] <;> omega) | fail) only [AHeap.get_new_at, AHeap.get_new_ne, AHeap.next_new]
  · intro z hz; simp (disch := first | assumption | omega | (simp only [nx] <;> omega) | fail) only [AHeap.get_new_at, AHeap.get_new_ne, AHeap.next_new]
  · simp [HasA, Tr.get_put]
  · rintro n L h2 ⟨ys, seen, hn, hnd, hsub, hseen, hK, rfl⟩
    simp only [mkA]
    have hgm2 : h2.get m = some (.map (mkK enc l) clock) := by rw [hK.old m hm]; exact hgm
    have hc : (!seen.isEmpty && !(mkK enc l).isEmpty && (mkK enc l).all (fun e => decide (e.born ≥ clock))) = false := by
      cases l with
      | nil => simp [mkK]
      | cons x l =>
        have := hok.lt x List.mem_cons_self
        have e1 : decide (x.2.2 ≥ clock) = false := by simp; omega
        simp [mkK, e1]
    refine W.seq <| W.reg <| OSuf.next rfl (by simp only [lk] <;> rfl) hK.iter hgm2 hc (fun he => ⟨_, rfl, ?_⟩) (fun e he => ⟨_, rfl, ?_⟩)
    · skip
      refine OSuf.aopF tyOK rfl (ze (hv := by simp (disch := first | assumption | omega | (simp only [nx] <;> omega) | fail) only [aExtract, hpl] <;> rfl)) (fun _ => rfl) (by first | rfl | assumption | ((simp only [bl]) <;> first | done | assumption | omega) | (simp; done) | (simp; omega)) <| OSuf.nil <| SQ.normal ?_
      refine W.seq <| W.no (by simp only [lk] <;> rfl) <| CWp.exit <| SQ.exit <| LQ.exit <| BQ.exit <| ?_
      refine NQ.normal (L := []) trivial ⟨ys, seen, ?_, hK⟩
      exact all_seen hok hnd hsub hseen he
    · skip
      obtain ⟨x, hxl, hxs, rfl⟩ : ∃ x ∈ l, x.2.2 ∉ ys.map (·.2.2) ∧ e = ⟨enc x.1, x.2.1, x.2.2⟩ := by (simp only [left, mkK, List.mem_filter, List.mem_map] at he; obtain ⟨⟨x, hx, rfl⟩, h9⟩ := he; refine ⟨x, hx, ?_, rfl⟩; rw [← hseen]; simpa using h9)
      have hK2 : KSt h (h2.set (h.next + 2) (.mapIter (some m) clock (seen.push x.2.2) clock)) LP m clock ys (seen.push x.2.2) := iter_step hK
      have hfind : (mkK enc l).find? (fun e => e.born == x.2.2) = some ⟨enc x.1, x.2.1, x.2.2⟩ := find_born hok hxl
      have hy := yield _ ys _ x hK2 (by have := nodup_le hok hnd hsub; omega)
      refine OSuf.aopT tyOK rfl (ze (hv := by simp (disch := first | assumption | omega | (simp only [nx] <;> omega) | fail) only [aExtract, hpl] <;> rfl)) (fun _ => rfl) (by first | rfl | assumption | ((simp only [bl]) <;> first | done | assumption | omega) | (simp; done) | (simp; omega)) <| OSuf.nil <| SQ.normal ?_
      refine W.seq <| W.yes (by simp only [lk] <;> rfl) <| CWp.skip <| SQ.normal ?_
      refine W.block <| W.seq <| W.reg <| OSuf.aop tyOK rfl (so_entry (by simp only [lk] <;> rfl) (en_ok (AHeap.get_set_same _ _ _) (by simp (disch := first | assumption | omega | (simp only [nx] <;> omega) | fail) only [aCells, rowOf, hpl] <;> exact hgm2) hfind)) rfl <| OSuf.aop tyOK rfl (ze (hv := by simp (disch := first | assumption | omega | (simp only [nx] <;> omega) | fail) only [aExtract, hpl] <;> rfl)) rfl <| OSuf.aop tyOK rfl za rfl <| OSuf.nil <| SQ.normal ?_
      refine W.seq <| W.reg <| OSuf.aop tyOK rfl sm rfl <| OSuf.aop tyOK rfl sm rfl <| OSuf.vcall rfl (by simp only [lk] <;> rfl) (by simp only [aopnds, lk] <;> rfl) (hy) ?_
      rintro _ h3 ⟨rfl, hK3⟩
      refine ⟨_, rfl, ?_⟩
      refine OSuf.aopF tyOK rfl (so_not (by simp only [lk] <;> rfl)) (fun _ => rfl) rfl <| OSuf.nil <| SQ.normal ?_
      refine W.no (by simp only [lk] <;> rfl) <| CWp.skip <| BQ.normal <| ?_
      refine LQ.normal (m := n - 1) (L := [(0, .func (.yield (h.next + 1)) #[] #[]), (5, P0 (h.next + 2))]) ?_ ?_ ⟨ys ++ [x], seen.push x.2.2, ?_, ?_, ?_, ?_, hK3, rfl⟩
      · have := nodup_lt hok hnd hsub hxl (fun hx => hxs (List.mem_map.2 ⟨x, hx, rfl⟩)); omega
      · simp only [HasA, Tr.get_put, Nat.reduceEqDiff, reduceIte, and_self]
      · have := nodup_lt hok hnd hsub hxl (fun hx => hxs (List.mem_map.2 ⟨x, hx, rfl⟩)); simp; omega
      · exact List.nodup_append.2 ⟨hnd, by simp, fun a ha b hb => by simp at hb; subst hb; rintro rfl; exact hxs (List.mem_map.2 ⟨_, ha, rfl⟩)⟩
      · intro y hy; rcases List.mem_append.1 hy with h9 | h9
        · exact hsub y h9
        · simp at h9; subst h9; exact hxl
      · simp [hseen]
  rintro L a' h2 ha ⟨ys, seen, hperm, hK⟩
  refine FQ.normal (by simp only [aRet, Tryz.f211, aResults] <;> first | rfl | (simp only [tyall] <;> rfl) | (simp [tyall] <;> rfl)) ?_
  refine ⟨LP, .normal, hK.loop, by rw [← hLP]; rfl, by rw [← hLP]; rfl, ?_⟩
  obtain ⟨o, ho1, ho2⟩ := hK.out
  have hnx : h.next + 3 ≤ h2.next := hK.next
  refine BQ.normal <| SQ.normal ?_
  refine W.seq <| W.reg <| OSuf.aop tyOK rfl (zl (hv := by simp (disch := first | assumption | omega | (simp only [nx] <;> omega) | fail) only [aLoad, ty106, rowOf, hpl, ho1] <;> rfl)) rfl <| OSuf.aop tyOK rfl za rfl <| OSuf.nil <| SQ.normal ?_
  refine CWp.ret <| FQ.ret (by simp only [aRet, Tryz.f258, aResults, aResult, lk, Nat.reduceEqDiff, reduceIte] <;> first | rfl | (simp only [tyall] <;> rfl) | (simp [tyall] <;> rfl)) ?_
  -- leaf: end
  refine ⟨ys, hperm, ?_, fun z hz => ?_⟩
  · cases ho2 with
    | none e => exact .none e
    | some ne e h5 h6 h7 => exact .some ne e (by omega) h6 (by rw [AHeap.get_kill_ne (by simp only [AHeap.next_new]; omega)]; exact h7)
  · rw [AHeap.get_kill_ne (by simp only [AHeap.next_new]; omega)]; exact hK.old z hz
theorem collect_c (h : AHeap) (q m clock : Nat) (l : List (El × Value × Nat)) (hok : MapOK l clock) (hq : q < h.next) (hm : m < h.next) (hgq : h.get q = some (.cells [.map (some m)] 1)) (hgm : h.get m = some (.map (mkK enc l) clock)) (hbig : l.length ≤ 1000000) :
    FWp Tryz.prog 209 [.func (.func 211) #[] #[P0 q]] h fun u h' => ∃ ys : List (El × Value × Nat), ys.Perm l ∧ OutAt h' h.next (ys.map (·.1)) u ∧ (∀ z, z < h.next → h'.get z = h.get z) := by
  refine W.enter tyOK Tryz.func209 rfl rfl ?_
  simp only [entry]
  refine W.seq <| W.reg <| OSuf.aop tyOK rfl za rfl <| OSuf.nil <| SQ.normal ?_
  refine W.seq <| W.reg <| OSuf.aop tyOK rfl sm rfl <| OSuf.call rfl (by simp only [aopnds, lk] <;> rfl) en258 (append_c h q m clock l hok hq hm hgq hgm hbig) ?_
  rintro u h1 hK
  refine ⟨_, rfl, ?_⟩
  refine OSuf.aop tyOK rfl za rfl <| OSuf.nil <| SQ.normal ?_
  refine CWp.ret <| FQ.ret (by simp only [aRet, Tryz.f209, aResults, aResult, lk, Nat.reduceEqDiff, reduceIte] <;> first | rfl | (simp only [tyall] <;> rfl) | (simp [tyall] <;> rfl)) ?_
  -- leaf: end
  exact hK
theorem insertion_nil (h : AHeap) : FWp Tryz.prog 285 [.slice none 0 0, I64 0, I64 0] h fun u h' => u = .tuple #[] ∧ h' = h := by
  refine W.enter tyOK Tryz.func285 rfl rfl ?_
  simp only [entry]
  have w0 : IntKind.i64.wrap ((0 : Int) + 1) = 1 := by decide
  refine W.seq <| W.reg <| OSuf.aop tyOK rfl sm rfl <| OSuf.aop tyOK rfl (zb (hv := bi_w bi_add (by first | (simp only [w0] <;> rfl) | rfl))) rfl <| OSuf.aop tyOK rfl za rfl <| OSuf.nil <| SQ.normal ?_
  -- leaf: loop
  refine W.block (W.loop (fun n L h' => h' = h ∧ L = [(2, I64 0), (6, I64 1)]) (n := 0) ⟨rfl, rfl⟩ ?_ ?_)
  · simp [HasA, Tr.get_put]
  · rintro n L h1 ⟨rfl, rfl⟩
    simp only [mkA]
    refine W.seq <| W.seq <| W.reg <| OSuf.aop tyOK rfl sm rfl <| OSuf.aop tyOK rfl sm rfl <| OSuf.aopF tyOK rfl (zb (hv := bi_lss)) (fun _ => rfl) (by first | rfl | assumption | ((simp only [bl]) <;> first | done | assumption | omega) | (simp; done) | (simp; omega)) <| OSuf.nil <| SQ.normal ?_
    refine W.no (by simp only [lk] <;> rfl) <| CWp.exit <| SQ.exit <| LQ.exit <| BQ.exit <| FQ.normal (by simp only [aRet, Tryz.f285, aResults, aResult, lk, Nat.reduceEqDiff, reduceIte] <;> first | rfl | (simp only [tyall] <;> rfl) | (simp [tyall] <;> rfl)) ?_
    -- leaf: end
    exact ⟨rfl, rfl⟩
theorem pdq_nil (h : AHeap) (lim : Int) : FWp Tryz.prog 259 [.slice none 0 0, I64 0, I64 0, I64 lim] h fun u h' => u = .tuple #[] ∧ h' = h := by
  refine W.enter tyOK Tryz.func259 rfl rfl ?_
  simp only [entry]
  have w0 : IntKind.i64.wrap ((0 : Int) - 0) = 0 := by decide
  refine W.seq <| W.reg <| OSuf.aopT tyOK rfl za (fun _ => rfl) rfl <| OSuf.nil <| SQ.normal ?_
  refine W.seq <| W.reg <| OSuf.aopT tyOK rfl za (fun _ => rfl) rfl <| OSuf.nil <| SQ.normal ?_
  -- leaf: loop
  refine W.block (W.loop (fun n L h' => h' = h ∧ L = [(0, .slice none 0 0), (1, I64 0), (2, I64 0)]) (n := 0) ⟨rfl, rfl⟩ ?_ ?_)
  · simp [HasA, Tr.get_put]
  · rintro n L h1 ⟨rfl, rfl⟩
    simp only [mkA]
    refine W.block <| W.seq <| W.reg <| OSuf.aop tyOK rfl sm rfl <| OSuf.aop tyOK rfl sm rfl <| OSuf.aop tyOK rfl (zb (hv := bi_w bi_sub (by first | (simp only [w0] <;> rfl) | rfl))) rfl <| OSuf.aop tyOK rfl za rfl <| OSuf.nil <| SQ.normal ?_
    refine W.seq <| W.seq <| W.reg <| OSuf.aop tyOK rfl sm rfl <| OSuf.aopT tyOK rfl (zb (hv := bi_leq)) (fun _ => rfl) (by first | rfl | assumption | ((simp only [bl]) <;> first | done | assumption | omega) | (simp; done) | (simp; omega)) <| OSuf.nil <| SQ.normal ?_
    refine W.yes (by simp only [lk] <;> rfl) <| W.seq <| W.reg <| OSuf.aop tyOK rfl sm rfl <| OSuf.aop tyOK rfl sm rfl <| OSuf.aop tyOK rfl sm rfl <| OSuf.callD rfl (by simp only [aopnds, lk] <;> rfl) en285 (insertion_nil _) rfl <| OSuf.nil <| SQ.normal ?_
    refine CWp.ret <| SQ.ret <| BQ.ret <| LQ.ret <| BQ.ret <| FQ.ret (by simp only [aRet, Tryz.f259, aResults, aResult, lk, Nat.reduceEqDiff, reduceIte] <;> first | rfl | (simp only [tyall] <;> rfl) | (simp [tyall] <;> rfl)) ?_
    -- leaf: end
    exact ⟨rfl, rfl⟩
theorem sort_nil (h : AHeap) : FWp Tryz.prog 210 [.slice none 0 0] h fun u h' => u = .tuple #[] ∧ h' = h := by
  have w1 : IntKind.u64.wrap ((0 : Nat) : Int) = ((0 : Nat) : Int) := by decide
  refine W.enter tyOK Tryz.func210 rfl rfl ?_
  simp only [entry]
  refine W.seq <| W.reg <| OSuf.aop tyOK rfl sm rfl <| OSuf.aop tyOK rfl (so_len (by simp only [aopnds, lk] <;> rfl) (by simp (disch := first | assumption | omega | (simp only [nx] <;> omega) | fail) only [aLenOf, ty106, hpl] <;> rfl)) rfl <| OSuf.aop tyOK rfl za rfl <| OSuf.nil <| SQ.normal ?_
  refine W.reg <| OSuf.aop tyOK rfl sm rfl <| OSuf.aop tyOK rfl sm rfl <| OSuf.aop tyOK rfl sm rfl <| OSuf.aop tyOK rfl (so_conw (so_conv tyOK (by simp only [lk] <;> rfl) ty3 ⟨_, rfl⟩ ty153 rfl) (by first | (simp only [w1] <;> rfl) | rfl)) rfl <| OSuf.callD rfl (by simp only [aopnds, lk] <;> rfl) en131 (len_c _ 0 (by omega)) rfl <| OSuf.callD rfl (by simp only [aopnds, lk] <;> rfl) en259 (pdq_nil _ _) rfl <| OSuf.nil <| FQ.normal (by simp only [aRet, Tryz.f210, aResults, aResult, lk, Nat.reduceEqDiff, reduceIte] <;> first | rfl | (simp only [tyall] <;> rfl) | (simp [tyall] <;> rfl)) ?_
  -- leaf: end
  exact ⟨rfl, rfl⟩
theorem sorted_eq {d d' : Array El} {ks : List El} (hp : PermIn 0 d.size d d') (hs : SortedIn lt 0 d.size d') (hk : ks.Perm d.toList) (hks : ks.Pairwise (fun x y => lt y x = false)) : d'.toList = ks := by
  have hu : ∀ x y : El, lt x y = false → lt y x = false → x = y := fun x y h1 h2 => by simp only [lt, ltStr, decide_eq_false_iff_not, List.not_lt] at h1 h2; exact List.le_antisymm h2 h1
  have e1 := sorted_unique_holds (lt := lt) swo hu d d' hp hs
  have hsz : ks.length = d.size := by rw [hk.length_eq]; simp
  have e2 := sorted_unique_holds (lt := lt) swo hu d ks.toArray ⟨by simp [hsz], fun i hi => by
      rcases hi with hi | hi
      · omega
      · rw [getElem!_neg _ i (by simp; omega), getElem!_neg _ i (by omega)], by
      have e3 : (d.extract 0 d.size).toList = d.toList := by simp
      have e4 : (ks.toArray.extract 0 d.size).toList = ks := by simp [← hsz]
      rw [e3, e4]; exact hk⟩ (fun i j _ hij hj => by
      have := List.pairwise_iff_getElem.1 hks i j (by omega) (by omega) hij
      rw [getElem!_pos _ j (by simp; omega), getElem!_pos _ i (by simp; omega)]
      simpa using this)
  rw [e1, ← e2]
theorem sorted_c (h : AHeap) (q m clock : Nat) (l : List (El × Value × Nat)) (ks : List El) (hok : MapOK l clock) (hq : q < h.next) (hm : m < h.next) (hgq : h.get q = some (.cells [.map (some m)] 1)) (hgm : h.get m = some (.map (mkK enc l) clock)) (hbig : l.length ≤ 12)
    (hk : ks.Perm (l.map (·.1))) (hks : ks.Pairwise (fun x y => lt y x = false)) :
    FWp Tryz.prog 150 [.func (.func 211) #[] #[P0 q]] h fun u h' => (ks = [] ∧ u = .slice none 0 0 ∧ h' = h) ∨ (ks ≠ [] ∧ u = .slice (some ⟨h.next, 0, none⟩) ks.length 0 ∧ h' = h.new (.cells (ks.map enc) 1)) := by
  by_cases hnil : ks = []
  · have hl : l = [] := by
      subst hnil
      have := hk.length_eq
      simpa using this.symm
    have : FWp Tryz.prog 150 [.func (.func 211) #[] #[P0 q]] h fun u h' => u = .slice none 0 0 ∧ h' = h := by
      refine FWp.gcs (.flat rfl) ?_
      refine W.enter tyOK Tryz.func150 rfl rfl ?_
      simp only [entry]
      refine W.seq <| W.reg <| OSuf.aop tyOK rfl za rfl <| OSuf.nil <| SQ.normal ?_
      refine W.seq <| W.reg <| OSuf.aop tyOK rfl sm rfl <| OSuf.call rfl (by simp only [aopnds, lk] <;> rfl) en209 (collect_c h q m clock l hok hq hm hgq hgm (by omega)) ?_
      rintro u h1 ⟨ys, hp, ho, hf⟩
      obtain rfl : ys = [] := by (subst hl; exact hp.eq_nil)
      obtain rfl : u = .slice none 0 0 := by (cases ho with | none => rfl | some ne _ _ _ _ => exact (ne rfl).elim)
      refine ⟨_, rfl, ?_⟩
      refine OSuf.aop tyOK rfl za rfl <| OSuf.nil <| SQ.normal ?_
      refine W.seq <| W.reg <| OSuf.aop tyOK rfl sm rfl <| OSuf.callD rfl (by simp only [aopnds, lk] <;> rfl) en210 (sort_nil _) rfl <| OSuf.nil <| SQ.normal ?_
      refine W.seq <| W.reg <| OSuf.aop tyOK rfl sm rfl <| OSuf.aop tyOK rfl za rfl <| OSuf.nil <| SQ.normal ?_
      refine CWp.ret <| FQ.ret (by simp only [aRet, Tryz.f150, aResults, aResult, lk, Nat.reduceEqDiff, reduceIte] <;> first | rfl | (simp only [tyall] <;> rfl) | (simp [tyall] <;> rfl)) ?_
      -- leaf: end
      exact ⟨rfl, fun r o hr ho => by rw [hf r hr]; exact ho⟩
    exact this.mono fun u h' hK => .inl ⟨hnil, hK⟩
  · have : FWp Tryz.prog 150 [.func (.func 211) #[] #[P0 q]] h fun u h' => u = .slice (some ⟨h.next, 0, none⟩) ks.length 0 ∧ h' = h.new (.cells (ks.map enc) 1) := by
      refine FWp.gcNew (fun v hv => ?_) ?_
      · obtain ⟨y, _, rfl⟩ := List.mem_map.1 hv
        exact .flat rfl
      refine W.enter tyOK Tryz.func150 rfl rfl ?_
      simp only [entry]
      refine W.seq <| W.reg <| OSuf.aop tyOK rfl za rfl <| OSuf.nil <| SQ.normal ?_
      refine W.seq <| W.reg <| OSuf.aop tyOK rfl sm rfl <| OSuf.call rfl (by simp only [aopnds, lk] <;> rfl) en209 (collect_c h q m clock l hok hq hm hgq hgm (by omega)) ?_
      rintro u h1 ⟨ys, hp, ho, hf⟩
      have hys : ¬ ys.map (·.1) = [] := fun e => hnil (by (have e2 : ys = [] := by simpa using e); subst e2; have := hk.length_eq; have := hp.length_eq; simp_all)
      obtain ⟨x, n, rfl, hn, hx1, hx2, hx3⟩ : ∃ x n, u = .slice (some ⟨x, 0, none⟩) n 0 ∧ n = (ys.map (·.1)).length ∧ h.next ≤ x ∧ x < h1.next ∧ h1.get x = some (row (ys.map (·.1)).toArray) := by (cases ho with | none e => exact (hys e).elim | some ne e a b c => exact ⟨_, _, rfl, e, a, b, c⟩)
      have hsz : n ≤ 12 := by (rw [hn, List.length_map, hp.length_eq]; omega)
      have hcall := sort_c h1 x n hsz (ys.map (·.1)).toArray (by simp [hn])
      rw [AHeap.set_self hx3] at hcall
      refine ⟨_, rfl, ?_⟩
      refine OSuf.aop tyOK rfl za rfl <| OSuf.nil <| SQ.normal ?_
      refine W.seq <| W.reg <| OSuf.aop tyOK rfl sm rfl <| OSuf.call rfl (by simp only [aopnds, lk] <;> rfl) en210 (hcall) ?_
      rintro _ _ ⟨rfl, d', rfl, hpi, hsi⟩
      refine ⟨_, rfl, ?_⟩
      refine OSuf.nil <| SQ.normal ?_
      refine W.seq <| W.reg <| OSuf.aop tyOK rfl sm rfl <| OSuf.aop tyOK rfl za rfl <| OSuf.nil <| SQ.normal ?_
      refine CWp.ret <| FQ.ret (by simp only [aRet, Tryz.f150, aResults, aResult, lk, Nat.reduceEqDiff, reduceIte] <;> first | rfl | (simp only [tyall] <;> rfl) | (simp [tyall] <;> rfl)) ?_
      -- leaf: end
      have hd : d'.toList = ks := by
        have hn' : n = (ys.map (·.1)).toArray.size := by simp [hn]
        rw [hn'] at hpi hsi
        exact sorted_eq hpi hsi (hk.trans (hp.map _).symm) hks
      have hlen : ks.length = n := by rw [hk.length_eq, hn, List.length_map, List.length_map, hp.length_eq]
      refine ⟨x, by rw [hlen], hx1, by rw [AHeap.get_set_same, ← hd], fun r p hr hg => ?_⟩
      rw [AHeap.get_set_ne (by omega), hf r hr]; exact hg
    exact this.mono fun u h' hK => .inr ⟨hnil, hK⟩
end Go.Proofs.YtimbhgkiohbkdaaGreat.SortS.KB
