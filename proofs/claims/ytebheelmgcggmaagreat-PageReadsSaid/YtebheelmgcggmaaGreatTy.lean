/-
  The types of this program, a lemma each (printed by a program).
-/
import Derived.Test.YtebheelmgcggmaaGreatProg
import Derived.Test.YtebheelmgcggmaaGreatAb20
import Derived.KernelRfl
namespace Go.Proofs.YtebheelmgcggmaaGreat
open Go.Ab
set_option maxRecDepth 100000
noncomputable def T : Tr TI := tab (tyOf Tryz.prog) 156
theorem tyOK : TyOK Tryz.prog T := tyOK_of Tryz.prog 156
theorem mixed : Tryz.prog.follows .mixedOrders = true := by kernel_rfl
theorem ty2 : T.get 2 = some ⟨1, 8, .int (.i64), some (.int .i64 0)⟩ := by kernel_rfl
theorem ty3 : T.get 3 = some ⟨1, 8, .int (.i64), some (.int .i64 0)⟩ := by kernel_rfl
theorem ty4 : T.get 4 = some ⟨1, 1, .bool, some (.bool false)⟩ := by kernel_rfl
theorem ty5 : T.get 5 = some ⟨1, 1, .int (.u8), some (.int .u8 0)⟩ := by kernel_rfl
theorem ty9 : T.get 9 = some ⟨1, 16, .string, some (.string ⟨#[]⟩)⟩ := by kernel_rfl
theorem ty20 : T.get 20 = some ⟨1, 16, .interface #[], some .nilIface⟩ := by kernel_rfl
theorem ty22 : T.get 22 = some ⟨1, 8, .int (.u64), some (.int .u64 0)⟩ := by kernel_rfl
theorem ty23 : T.get 23 = some ⟨1, 24, .slice 27, some (.slice none 0 0)⟩ := by kernel_rfl
theorem ty25 : T.get 25 = some ⟨5, 88, .struct #[{ name := "Low", type := 9, offset := 0, embedded := false, tag := "", pkgPath := "", byteOffset := 0 }, { name := "High", type := 9, offset := 1, embedded := false, tag := "", pkgPath := "", byteOffset := 16 }, { name := "Full", type := 22, offset := 2, embedded := false, tag := "", pkgPath := "", byteOffset := 32 }, { name := "Base", type := 23, offset := 3, embedded := false, tag := "", pkgPath := "", byteOffset := 40 }, { name := "Deltas", type := 23, offset := 4, embedded := false, tag := "", pkgPath := "", byteOffset := 64 }], some (.agg #[(.string ⟨#[]⟩), (.string ⟨#[]⟩), (.int .u64 0), (.slice none 0 0), (.slice none 0 0)])⟩ := by kernel_rfl
theorem ty27 : T.get 27 = some ⟨4, 48, .struct #[{ name := "Key", type := 9, offset := 0, embedded := false, tag := "", pkgPath := "", byteOffset := 0 }, { name := "Lsn", type := 22, offset := 1, embedded := false, tag := "", pkgPath := "", byteOffset := 16 }, { name := "Del", type := 4, offset := 2, embedded := false, tag := "", pkgPath := "", byteOffset := 24 }, { name := "Val", type := 9, offset := 3, embedded := false, tag := "", pkgPath := "", byteOffset := 32 }], some (.agg #[(.string ⟨#[]⟩), (.int .u64 0), (.bool false), (.string ⟨#[]⟩)])⟩ := by kernel_rfl
theorem ty33 : T.get 33 = some ⟨1, 8, .int (.i64), some (.int .i64 0)⟩ := by kernel_rfl
theorem ty37 : T.get 37 = some ⟨1, 24, .slice 9, some (.slice none 0 0)⟩ := by kernel_rfl
theorem ty63 : T.get 63 = some ⟨1, 8, .map 9 4, some (.map none)⟩ := by kernel_rfl
theorem ty68 : T.get 68 = some ⟨1, 8, .map 9 27, some (.map none)⟩ := by kernel_rfl
theorem ty77 : T.get 77 = some ⟨0, 0, .struct #[], some (.agg #[])⟩ := by kernel_rfl
theorem ty82 : T.get 82 = some ⟨2, 24, .struct #[{ name := "Left", type := 9, offset := 0, embedded := false, tag := "", pkgPath := "", byteOffset := 0 }, { name := "Bad", type := 4, offset := 1, embedded := false, tag := "", pkgPath := "", byteOffset := 16 }], some (.agg #[(.string ⟨#[]⟩), (.bool false)])⟩ := by kernel_rfl
theorem ty94 : T.get 94 = some ⟨1, 8, .int (.u64), some (.int .u64 0)⟩ := by kernel_rfl
theorem ty95 : T.get 95 = some ⟨1, 24, .slice 23, some (.slice none 0 0)⟩ := by kernel_rfl
theorem ty99 : T.get 99 = some ⟨1, 24, .slice 5, some (.slice none 0 0)⟩ := by kernel_rfl
theorem ty100 : T.get 100 = some ⟨1, 8, .pointer 122, some (.pointer none)⟩ := by kernel_rfl
theorem ty107 : T.get 107 = some ⟨1, 8, .func #[] #[33] false, some .nilFunc⟩ := by kernel_rfl
theorem ty122 : T.get 122 = some ⟨2, 24, .struct #[{ name := "left", type := 9, offset := 0, embedded := false, tag := "", pkgPath := "couplet/wire", byteOffset := 0 }, { name := "bad", type := 4, offset := 1, embedded := false, tag := "", pkgPath := "couplet/wire", byteOffset := 16 }], some (.agg #[(.string ⟨#[]⟩), (.bool false)])⟩ := by kernel_rfl
theorem ty124 : T.get 124 = some ⟨1, 24, .slice 107, some (.slice none 0 0)⟩ := by kernel_rfl
theorem ty125 : T.get 125 = some ⟨1, 8, .int (.u64), some (.int .u64 0)⟩ := by kernel_rfl
theorem en13 : Entered Tryz.prog 13 Tryz.f13 := ⟨Tryz.func13, by kernel_rfl, by kernel_rfl⟩
theorem en14 : Entered Tryz.prog 14 Tryz.f14 := ⟨Tryz.func14, by kernel_rfl, by kernel_rfl⟩
theorem en15 : Entered Tryz.prog 15 Tryz.f15 := ⟨Tryz.func15, by kernel_rfl, by kernel_rfl⟩
theorem en20 : Entered Tryz.prog 20 Tryz.f20 := ⟨Tryz.func20, by kernel_rfl, by kernel_rfl⟩
theorem en26 : Entered Tryz.prog 26 Tryz.f26 := ⟨Tryz.func26, by kernel_rfl, by kernel_rfl⟩
theorem en27 : Entered Tryz.prog 27 Tryz.f27 := ⟨Tryz.func27, by kernel_rfl, by kernel_rfl⟩
theorem en28 : Entered Tryz.prog 28 Tryz.f28 := ⟨Tryz.func28, by kernel_rfl, by kernel_rfl⟩
theorem en29 : Entered Tryz.prog 29 Tryz.f29 := ⟨Tryz.func29, by kernel_rfl, by kernel_rfl⟩
theorem en37 : Entered Tryz.prog 37 Tryz.f37 := ⟨Tryz.func37, by kernel_rfl, by kernel_rfl⟩
theorem en38 : Entered Tryz.prog 38 Tryz.f38 := ⟨Tryz.func38, by kernel_rfl, by kernel_rfl⟩
theorem en42 : Entered Tryz.prog 42 Tryz.f42 := ⟨Tryz.func42, by kernel_rfl, by kernel_rfl⟩
theorem en43 : Entered Tryz.prog 43 Tryz.f43 := ⟨Tryz.func43, by kernel_rfl, by kernel_rfl⟩
theorem en44 : Entered Tryz.prog 44 Tryz.f44 := ⟨Tryz.func44, by kernel_rfl, by kernel_rfl⟩
theorem en45 : Entered Tryz.prog 45 Tryz.f45 := ⟨Tryz.func45, by kernel_rfl, by kernel_rfl⟩
theorem en46 : Entered Tryz.prog 46 Tryz.f46 := ⟨Tryz.func46, by kernel_rfl, by kernel_rfl⟩
theorem en47 : Entered Tryz.prog 47 Tryz.f47 := ⟨Tryz.func47, by kernel_rfl, by kernel_rfl⟩
theorem en48 : Entered Tryz.prog 48 Tryz.f48 := ⟨Tryz.func48, by kernel_rfl, by kernel_rfl⟩
theorem en49 : Entered Tryz.prog 49 Tryz.f49 := ⟨Tryz.func49, by kernel_rfl, by kernel_rfl⟩
theorem en50 : Entered Tryz.prog 50 Tryz.f50 := ⟨Tryz.func50, by kernel_rfl, by kernel_rfl⟩
theorem en51 : Entered Tryz.prog 51 Tryz.f51 := ⟨Tryz.func51, by kernel_rfl, by kernel_rfl⟩
theorem en56 : Entered Tryz.prog 56 Tryz.f56 := ⟨Tryz.func56, by kernel_rfl, by kernel_rfl⟩
theorem en61 : Entered Tryz.prog 61 Tryz.f61 := ⟨Tryz.func61, by kernel_rfl, by kernel_rfl⟩
theorem en62 : Entered Tryz.prog 62 Tryz.f62 := ⟨Tryz.func62, by kernel_rfl, by kernel_rfl⟩
theorem en64 : Entered Tryz.prog 64 Tryz.f64 := ⟨Tryz.func64, by kernel_rfl, by kernel_rfl⟩
theorem en65 : Entered Tryz.prog 65 Tryz.f65 := ⟨Tryz.func65, by kernel_rfl, by kernel_rfl⟩
theorem en66 : Entered Tryz.prog 66 Tryz.f66 := ⟨Tryz.func66, by kernel_rfl, by kernel_rfl⟩
theorem en67 : Entered Tryz.prog 67 Tryz.f67 := ⟨Tryz.func67, by kernel_rfl, by kernel_rfl⟩
theorem en68 : Entered Tryz.prog 68 Tryz.f68 := ⟨Tryz.func68, by kernel_rfl, by kernel_rfl⟩
theorem en69 : Entered Tryz.prog 69 Tryz.f69 := ⟨Tryz.func69, by kernel_rfl, by kernel_rfl⟩
theorem en76 : Entered Tryz.prog 76 Tryz.f76 := ⟨Tryz.func76, by kernel_rfl, by kernel_rfl⟩
theorem en77 : Entered Tryz.prog 77 Tryz.f77 := ⟨Tryz.func77, by kernel_rfl, by kernel_rfl⟩
theorem en78 : Entered Tryz.prog 78 Tryz.f78 := ⟨Tryz.func78, by kernel_rfl, by kernel_rfl⟩
theorem en83 : Entered Tryz.prog 83 Tryz.f83 := ⟨Tryz.func83, by kernel_rfl, by kernel_rfl⟩
theorem en84 : Entered Tryz.prog 84 Tryz.f84 := ⟨Tryz.func84, by kernel_rfl, by kernel_rfl⟩
theorem en85 : Entered Tryz.prog 85 Tryz.f85 := ⟨Tryz.func85, by kernel_rfl, by kernel_rfl⟩
theorem en86 : Entered Tryz.prog 86 Tryz.f86 := ⟨Tryz.func86, by kernel_rfl, by kernel_rfl⟩
theorem en87 : Entered Tryz.prog 87 Tryz.f87 := ⟨Tryz.func87, by kernel_rfl, by kernel_rfl⟩
theorem en88 : Entered Tryz.prog 88 Tryz.f88 := ⟨Tryz.func88, by kernel_rfl, by kernel_rfl⟩
theorem en89 : Entered Tryz.prog 89 Tryz.f89 := ⟨Tryz.func89, by kernel_rfl, by kernel_rfl⟩
theorem en91 : Entered Tryz.prog 91 Tryz.f91 := ⟨Tryz.func91, by kernel_rfl, by kernel_rfl⟩
theorem en92 : Entered Tryz.prog 92 Tryz.f92 := ⟨Tryz.func92, by kernel_rfl, by kernel_rfl⟩
theorem en93 : Entered Tryz.prog 93 Tryz.f93 := ⟨Tryz.func93, by kernel_rfl, by kernel_rfl⟩
theorem en94 : Entered Tryz.prog 94 Tryz.f94 := ⟨Tryz.func94, by kernel_rfl, by kernel_rfl⟩
theorem en95 : Entered Tryz.prog 95 Tryz.f95 := ⟨Tryz.func95, by kernel_rfl, by kernel_rfl⟩
theorem en96 : Entered Tryz.prog 96 Tryz.f96 := ⟨Tryz.func96, by kernel_rfl, by kernel_rfl⟩
theorem en97 : Entered Tryz.prog 97 Tryz.f97 := ⟨Tryz.func97, by kernel_rfl, by kernel_rfl⟩
theorem en101 : Entered Tryz.prog 101 Tryz.f101 := ⟨Tryz.func101, by kernel_rfl, by kernel_rfl⟩
theorem en102 : Entered Tryz.prog 102 Tryz.f102 := ⟨Tryz.func102, by kernel_rfl, by kernel_rfl⟩
theorem en103 : Entered Tryz.prog 103 Tryz.f103 := ⟨Tryz.func103, by kernel_rfl, by kernel_rfl⟩
theorem en104 : Entered Tryz.prog 104 Tryz.f104 := ⟨Tryz.func104, by kernel_rfl, by kernel_rfl⟩
theorem en114 : Entered Tryz.prog 114 Tryz.f114 := ⟨Tryz.func114, by kernel_rfl, by kernel_rfl⟩
theorem en115 : Entered Tryz.prog 115 Tryz.f115 := ⟨Tryz.func115, by kernel_rfl, by kernel_rfl⟩
theorem en116 : Entered Tryz.prog 116 Tryz.f116 := ⟨Tryz.func116, by kernel_rfl, by kernel_rfl⟩
theorem en117 : Entered Tryz.prog 117 Tryz.f117 := ⟨Tryz.func117, by kernel_rfl, by kernel_rfl⟩
theorem en118 : Entered Tryz.prog 118 Tryz.f118 := ⟨Tryz.func118, by kernel_rfl, by kernel_rfl⟩
theorem en119 : Entered Tryz.prog 119 Tryz.f119 := ⟨Tryz.func119, by kernel_rfl, by kernel_rfl⟩
theorem en122 : Entered Tryz.prog 122 Tryz.f122 := ⟨Tryz.func122, by kernel_rfl, by kernel_rfl⟩
theorem en123 : Entered Tryz.prog 123 Tryz.f123 := ⟨Tryz.func123, by kernel_rfl, by kernel_rfl⟩
theorem en126 : Entered Tryz.prog 126 Tryz.f126 := ⟨Tryz.func126, by kernel_rfl, by kernel_rfl⟩
theorem en127 : Entered Tryz.prog 127 Tryz.f127 := ⟨Tryz.func127, by kernel_rfl, by kernel_rfl⟩
theorem en128 : Entered Tryz.prog 128 Tryz.f128 := ⟨Tryz.func128, by kernel_rfl, by kernel_rfl⟩
theorem en129 : Entered Tryz.prog 129 Tryz.f129 := ⟨Tryz.func129, by kernel_rfl, by kernel_rfl⟩
theorem en130 : Entered Tryz.prog 130 Tryz.f130 := ⟨Tryz.func130, by kernel_rfl, by kernel_rfl⟩
theorem en131 : Entered Tryz.prog 131 Tryz.f131 := ⟨Tryz.func131, by kernel_rfl, by kernel_rfl⟩
theorem en132 : Entered Tryz.prog 132 Tryz.f132 := ⟨Tryz.func132, by kernel_rfl, by kernel_rfl⟩
theorem en133 : Entered Tryz.prog 133 Tryz.f133 := ⟨Tryz.func133, by kernel_rfl, by kernel_rfl⟩
theorem en134 : Entered Tryz.prog 134 Tryz.f134 := ⟨Tryz.func134, by kernel_rfl, by kernel_rfl⟩
theorem en137 : Entered Tryz.prog 137 Tryz.f137 := ⟨Tryz.func137, by kernel_rfl, by kernel_rfl⟩
theorem en138 : Entered Tryz.prog 138 Tryz.f138 := ⟨Tryz.func138, by kernel_rfl, by kernel_rfl⟩
theorem en139 : Entered Tryz.prog 139 Tryz.f139 := ⟨Tryz.func139, by kernel_rfl, by kernel_rfl⟩
theorem en140 : Entered Tryz.prog 140 Tryz.f140 := ⟨Tryz.func140, by kernel_rfl, by kernel_rfl⟩
theorem en142 : Entered Tryz.prog 142 Tryz.f142 := ⟨Tryz.func142, by kernel_rfl, by kernel_rfl⟩
end Go.Proofs.YtebheelmgcggmaaGreat
