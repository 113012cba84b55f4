/-
  The types of this program, a lemma each (printed by a program).
-/
import Derived.Test.YtebheelmgcggmaaProg
import Derived.Test.YtebheelmgcggmaaAb20
import Derived.KernelRfl
namespace Go.Proofs.Ytebheelmgcggmaa
open Go.Ab
set_option maxRecDepth 100000
noncomputable def T : Tr TI := tab (tyOf Try.prog) 158
theorem tyOK : TyOK Try.prog T := tyOK_of Try.prog 158
theorem mixed : Try.prog.follows .mixedOrders = true := by kernel_rfl
theorem ty3 : T.get 3 = some ⟨1, 8, .int (.i64), some (.int .i64 0)⟩ := by kernel_rfl
theorem ty4 : T.get 4 = some ⟨1, 1, .bool, some (.bool false)⟩ := by kernel_rfl
theorem ty5 : T.get 5 = some ⟨1, 1, .int (.u8), some (.int .u8 0)⟩ := by kernel_rfl
theorem ty9 : T.get 9 = some ⟨1, 16, .string, some (.string ⟨#[]⟩)⟩ := by kernel_rfl
theorem ty22 : T.get 22 = some ⟨1, 24, .slice 36, some (.slice none 0 0)⟩ := by kernel_rfl
theorem ty25 : T.get 25 = some ⟨1, 8, .int (.u64), some (.int .u64 0)⟩ := by kernel_rfl
theorem ty26 : T.get 26 = some ⟨1, 24, .slice 33, some (.slice none 0 0)⟩ := by kernel_rfl
theorem ty28 : T.get 28 = some ⟨5, 88, .struct #[{ name := "Low", type := 9, offset := 0, embedded := false, tag := "", pkgPath := "", byteOffset := 0 }, { name := "High", type := 9, offset := 1, embedded := false, tag := "", pkgPath := "", byteOffset := 16 }, { name := "Full", type := 25, offset := 2, embedded := false, tag := "", pkgPath := "", byteOffset := 32 }, { name := "Base", type := 26, offset := 3, embedded := false, tag := "", pkgPath := "", byteOffset := 40 }, { name := "Deltas", type := 26, offset := 4, embedded := false, tag := "", pkgPath := "", byteOffset := 64 }], some (.agg #[(.string ⟨#[]⟩), (.string ⟨#[]⟩), (.int .u64 0), (.slice none 0 0), (.slice none 0 0)])⟩ := by kernel_rfl
theorem ty29 : T.get 29 = some ⟨1, 8, .map 9 33, some (.map none)⟩ := by kernel_rfl
theorem ty31 : T.get 31 = some ⟨1, 2, .int (.u16), some (.int .u16 0)⟩ := by kernel_rfl
theorem ty33 : T.get 33 = some ⟨4, 48, .struct #[{ name := "Key", type := 9, offset := 0, embedded := false, tag := "", pkgPath := "", byteOffset := 0 }, { name := "Lsn", type := 25, offset := 1, embedded := false, tag := "", pkgPath := "", byteOffset := 16 }, { name := "Del", type := 4, offset := 2, embedded := false, tag := "", pkgPath := "", byteOffset := 24 }, { name := "Val", type := 9, offset := 3, embedded := false, tag := "", pkgPath := "", byteOffset := 32 }], some (.agg #[(.string ⟨#[]⟩), (.int .u64 0), (.bool false), (.string ⟨#[]⟩)])⟩ := by kernel_rfl
theorem ty36 : T.get 36 = some ⟨1, 2, .struct #[{ name := "Lsn", type := 31, offset := 0, embedded := false, tag := "", pkgPath := "", byteOffset := 0 }], some (.agg #[(.int .u16 0)])⟩ := by kernel_rfl
theorem ty39 : T.get 39 = some ⟨1, 24, .slice 9, some (.slice none 0 0)⟩ := by kernel_rfl
theorem ty41 : T.get 41 = some ⟨1, 8, .int (.i64), some (.int .i64 0)⟩ := by kernel_rfl
theorem ty58 : T.get 58 = some ⟨1, 24, .slice 5, some (.slice none 0 0)⟩ := by kernel_rfl
theorem ty68 : T.get 68 = some ⟨1, 8, .int (.u64), some (.int .u64 0)⟩ := by kernel_rfl
theorem ty72 : T.get 72 = some ⟨1, 8, .map 9 4, some (.map none)⟩ := by kernel_rfl
theorem ty97 : T.get 97 = some ⟨1, 24, .slice 26, some (.slice none 0 0)⟩ := by kernel_rfl
theorem ty110 : T.get 110 = some ⟨1, 8, .func #[] #[41] false, some .nilFunc⟩ := by kernel_rfl
theorem ty131 : T.get 131 = some ⟨1, 24, .slice 110, some (.slice none 0 0)⟩ := by kernel_rfl
theorem ty132 : T.get 132 = some ⟨1, 8, .int (.u64), some (.int .u64 0)⟩ := by kernel_rfl
theorem en7 : Entered Try.prog 7 Try.f7 := ⟨Try.func7, by kernel_rfl, by kernel_rfl⟩
theorem en8 : Entered Try.prog 8 Try.f8 := ⟨Try.func8, by kernel_rfl, by kernel_rfl⟩
theorem en9 : Entered Try.prog 9 Try.f9 := ⟨Try.func9, by kernel_rfl, by kernel_rfl⟩
theorem en10 : Entered Try.prog 10 Try.f10 := ⟨Try.func10, by kernel_rfl, by kernel_rfl⟩
theorem en11 : Entered Try.prog 11 Try.f11 := ⟨Try.func11, by kernel_rfl, by kernel_rfl⟩
theorem en12 : Entered Try.prog 12 Try.f12 := ⟨Try.func12, by kernel_rfl, by kernel_rfl⟩
theorem en16 : Entered Try.prog 16 Try.f16 := ⟨Try.func16, by kernel_rfl, by kernel_rfl⟩
theorem en20 : Entered Try.prog 20 Try.f20 := ⟨Try.func20, by kernel_rfl, by kernel_rfl⟩
theorem en21 : Entered Try.prog 21 Try.f21 := ⟨Try.func21, by kernel_rfl, by kernel_rfl⟩
theorem en22 : Entered Try.prog 22 Try.f22 := ⟨Try.func22, by kernel_rfl, by kernel_rfl⟩
theorem en25 : Entered Try.prog 25 Try.f25 := ⟨Try.func25, by kernel_rfl, by kernel_rfl⟩
theorem en26 : Entered Try.prog 26 Try.f26 := ⟨Try.func26, by kernel_rfl, by kernel_rfl⟩
theorem en27 : Entered Try.prog 27 Try.f27 := ⟨Try.func27, by kernel_rfl, by kernel_rfl⟩
theorem en28 : Entered Try.prog 28 Try.f28 := ⟨Try.func28, by kernel_rfl, by kernel_rfl⟩
theorem en29 : Entered Try.prog 29 Try.f29 := ⟨Try.func29, by kernel_rfl, by kernel_rfl⟩
theorem en30 : Entered Try.prog 30 Try.f30 := ⟨Try.func30, by kernel_rfl, by kernel_rfl⟩
theorem en31 : Entered Try.prog 31 Try.f31 := ⟨Try.func31, by kernel_rfl, by kernel_rfl⟩
theorem en32 : Entered Try.prog 32 Try.f32 := ⟨Try.func32, by kernel_rfl, by kernel_rfl⟩
theorem en33 : Entered Try.prog 33 Try.f33 := ⟨Try.func33, by kernel_rfl, by kernel_rfl⟩
theorem en34 : Entered Try.prog 34 Try.f34 := ⟨Try.func34, by kernel_rfl, by kernel_rfl⟩
theorem en35 : Entered Try.prog 35 Try.f35 := ⟨Try.func35, by kernel_rfl, by kernel_rfl⟩
theorem en36 : Entered Try.prog 36 Try.f36 := ⟨Try.func36, by kernel_rfl, by kernel_rfl⟩
theorem en37 : Entered Try.prog 37 Try.f37 := ⟨Try.func37, by kernel_rfl, by kernel_rfl⟩
theorem en38 : Entered Try.prog 38 Try.f38 := ⟨Try.func38, by kernel_rfl, by kernel_rfl⟩
theorem en39 : Entered Try.prog 39 Try.f39 := ⟨Try.func39, by kernel_rfl, by kernel_rfl⟩
theorem en45 : Entered Try.prog 45 Try.f45 := ⟨Try.func45, by kernel_rfl, by kernel_rfl⟩
theorem en46 : Entered Try.prog 46 Try.f46 := ⟨Try.func46, by kernel_rfl, by kernel_rfl⟩
theorem en47 : Entered Try.prog 47 Try.f47 := ⟨Try.func47, by kernel_rfl, by kernel_rfl⟩
theorem en48 : Entered Try.prog 48 Try.f48 := ⟨Try.func48, by kernel_rfl, by kernel_rfl⟩
theorem en50 : Entered Try.prog 50 Try.f50 := ⟨Try.func50, by kernel_rfl, by kernel_rfl⟩
theorem en51 : Entered Try.prog 51 Try.f51 := ⟨Try.func51, by kernel_rfl, by kernel_rfl⟩
theorem en52 : Entered Try.prog 52 Try.f52 := ⟨Try.func52, by kernel_rfl, by kernel_rfl⟩
theorem en53 : Entered Try.prog 53 Try.f53 := ⟨Try.func53, by kernel_rfl, by kernel_rfl⟩
theorem en54 : Entered Try.prog 54 Try.f54 := ⟨Try.func54, by kernel_rfl, by kernel_rfl⟩
theorem en55 : Entered Try.prog 55 Try.f55 := ⟨Try.func55, by kernel_rfl, by kernel_rfl⟩
theorem en56 : Entered Try.prog 56 Try.f56 := ⟨Try.func56, by kernel_rfl, by kernel_rfl⟩
theorem en57 : Entered Try.prog 57 Try.f57 := ⟨Try.func57, by kernel_rfl, by kernel_rfl⟩
theorem en58 : Entered Try.prog 58 Try.f58 := ⟨Try.func58, by kernel_rfl, by kernel_rfl⟩
theorem en59 : Entered Try.prog 59 Try.f59 := ⟨Try.func59, by kernel_rfl, by kernel_rfl⟩
theorem en60 : Entered Try.prog 60 Try.f60 := ⟨Try.func60, by kernel_rfl, by kernel_rfl⟩
theorem en61 : Entered Try.prog 61 Try.f61 := ⟨Try.func61, by kernel_rfl, by kernel_rfl⟩
theorem en62 : Entered Try.prog 62 Try.f62 := ⟨Try.func62, by kernel_rfl, by kernel_rfl⟩
theorem en63 : Entered Try.prog 63 Try.f63 := ⟨Try.func63, by kernel_rfl, by kernel_rfl⟩
theorem en64 : Entered Try.prog 64 Try.f64 := ⟨Try.func64, by kernel_rfl, by kernel_rfl⟩
theorem en70 : Entered Try.prog 70 Try.f70 := ⟨Try.func70, by kernel_rfl, by kernel_rfl⟩
theorem en71 : Entered Try.prog 71 Try.f71 := ⟨Try.func71, by kernel_rfl, by kernel_rfl⟩
theorem en72 : Entered Try.prog 72 Try.f72 := ⟨Try.func72, by kernel_rfl, by kernel_rfl⟩
theorem en73 : Entered Try.prog 73 Try.f73 := ⟨Try.func73, by kernel_rfl, by kernel_rfl⟩
theorem en74 : Entered Try.prog 74 Try.f74 := ⟨Try.func74, by kernel_rfl, by kernel_rfl⟩
theorem en75 : Entered Try.prog 75 Try.f75 := ⟨Try.func75, by kernel_rfl, by kernel_rfl⟩
theorem en76 : Entered Try.prog 76 Try.f76 := ⟨Try.func76, by kernel_rfl, by kernel_rfl⟩
theorem en77 : Entered Try.prog 77 Try.f77 := ⟨Try.func77, by kernel_rfl, by kernel_rfl⟩
theorem en78 : Entered Try.prog 78 Try.f78 := ⟨Try.func78, by kernel_rfl, by kernel_rfl⟩
theorem en79 : Entered Try.prog 79 Try.f79 := ⟨Try.func79, by kernel_rfl, by kernel_rfl⟩
theorem en80 : Entered Try.prog 80 Try.f80 := ⟨Try.func80, by kernel_rfl, by kernel_rfl⟩
theorem en81 : Entered Try.prog 81 Try.f81 := ⟨Try.func81, by kernel_rfl, by kernel_rfl⟩
theorem en82 : Entered Try.prog 82 Try.f82 := ⟨Try.func82, by kernel_rfl, by kernel_rfl⟩
theorem en83 : Entered Try.prog 83 Try.f83 := ⟨Try.func83, by kernel_rfl, by kernel_rfl⟩
theorem en84 : Entered Try.prog 84 Try.f84 := ⟨Try.func84, by kernel_rfl, by kernel_rfl⟩
theorem en85 : Entered Try.prog 85 Try.f85 := ⟨Try.func85, by kernel_rfl, by kernel_rfl⟩
theorem en86 : Entered Try.prog 86 Try.f86 := ⟨Try.func86, by kernel_rfl, by kernel_rfl⟩
theorem en88 : Entered Try.prog 88 Try.f88 := ⟨Try.func88, by kernel_rfl, by kernel_rfl⟩
theorem en92 : Entered Try.prog 92 Try.f92 := ⟨Try.func92, by kernel_rfl, by kernel_rfl⟩
theorem en93 : Entered Try.prog 93 Try.f93 := ⟨Try.func93, by kernel_rfl, by kernel_rfl⟩
theorem en99 : Entered Try.prog 99 Try.f99 := ⟨Try.func99, by kernel_rfl, by kernel_rfl⟩
theorem en102 : Entered Try.prog 102 Try.f102 := ⟨Try.func102, by kernel_rfl, by kernel_rfl⟩
theorem en103 : Entered Try.prog 103 Try.f103 := ⟨Try.func103, by kernel_rfl, by kernel_rfl⟩
theorem en104 : Entered Try.prog 104 Try.f104 := ⟨Try.func104, by kernel_rfl, by kernel_rfl⟩
theorem en105 : Entered Try.prog 105 Try.f105 := ⟨Try.func105, by kernel_rfl, by kernel_rfl⟩
theorem en106 : Entered Try.prog 106 Try.f106 := ⟨Try.func106, by kernel_rfl, by kernel_rfl⟩
theorem en107 : Entered Try.prog 107 Try.f107 := ⟨Try.func107, by kernel_rfl, by kernel_rfl⟩
theorem en111 : Entered Try.prog 111 Try.f111 := ⟨Try.func111, by kernel_rfl, by kernel_rfl⟩
theorem en112 : Entered Try.prog 112 Try.f112 := ⟨Try.func112, by kernel_rfl, by kernel_rfl⟩
theorem en113 : Entered Try.prog 113 Try.f113 := ⟨Try.func113, by kernel_rfl, by kernel_rfl⟩
end Go.Proofs.Ytebheelmgcggmaa
