/-
  The types of this program, a lemma each (printed by a program).
-/
import Derived.Test.YtldhcjfhlfgleaaProg
import Derived.Test.YtldhcjfhlfgleaaAb20
import Derived.KernelRfl
namespace Go.Proofs.Ytldhcjfhlfgleaa
open Go.Ab
set_option maxRecDepth 100000
noncomputable def T : Tr TI := tab (tyOf Try.prog) 131
theorem tyOK : TyOK Try.prog T := tyOK_of Try.prog 131
theorem mixed : Try.prog.follows .mixedOrders = true := by kernel_rfl
theorem ty3 : T.get 3 = some ⟨1, 8, .int (.i64), some (.int .i64 0)⟩ := by kernel_rfl
theorem ty4 : T.get 4 = some ⟨1, 1, .bool, some (.bool false)⟩ := by kernel_rfl
theorem ty5 : T.get 5 = some ⟨1, 1, .int (.u8), some (.int .u8 0)⟩ := by kernel_rfl
theorem ty9 : T.get 9 = some ⟨1, 16, .string, some (.string ⟨#[]⟩)⟩ := by kernel_rfl
theorem ty22 : T.get 22 = some ⟨1, 24, .slice 33, some (.slice none 0 0)⟩ := by kernel_rfl
theorem ty23 : T.get 23 = some ⟨1, 8, .pointer 67, some (.pointer none)⟩ := by kernel_rfl
theorem ty26 : T.get 26 = some ⟨1, 24, .slice 41, some (.slice none 0 0)⟩ := by kernel_rfl
theorem ty27 : T.get 27 = some ⟨1, 8, .int (.u64), some (.int .u64 0)⟩ := by kernel_rfl
theorem ty29 : T.get 29 = some ⟨2, 32, .struct #[{ name := "L", type := 26, offset := 0, embedded := false, tag := "", pkgPath := "", byteOffset := 0 }, { name := "Floor", type := 27, offset := 1, embedded := false, tag := "", pkgPath := "", byteOffset := 24 }], some (.agg #[(.slice none 0 0), (.int .u64 0)])⟩ := by kernel_rfl
theorem ty31 : T.get 31 = some ⟨1, 24, .slice 57, some (.slice none 0 0)⟩ := by kernel_rfl
theorem ty33 : T.get 33 = some ⟨5, 64, .struct #[{ name := "What", type := 3, offset := 0, embedded := false, tag := "", pkgPath := "", byteOffset := 0 }, { name := "Key", type := 9, offset := 1, embedded := false, tag := "", pkgPath := "", byteOffset := 8 }, { name := "Ts", type := 27, offset := 2, embedded := false, tag := "", pkgPath := "", byteOffset := 24 }, { name := "Here", type := 4, offset := 3, embedded := false, tag := "", pkgPath := "", byteOffset := 32 }, { name := "Vers", type := 31, offset := 4, embedded := false, tag := "", pkgPath := "", byteOffset := 40 }], some (.agg #[(.int .i64 0), (.string ⟨#[]⟩), (.int .u64 0), (.bool false), (.slice none 0 0)])⟩ := by kernel_rfl
theorem ty39 : T.get 39 = some ⟨4, 56, .struct #[{ name := "Key", type := 9, offset := 0, embedded := false, tag := "", pkgPath := "", byteOffset := 0 }, { name := "Rts", type := 27, offset := 1, embedded := false, tag := "", pkgPath := "", byteOffset := 16 }, { name := "Here", type := 4, offset := 2, embedded := false, tag := "", pkgPath := "", byteOffset := 24 }, { name := "Vers", type := 31, offset := 3, embedded := false, tag := "", pkgPath := "", byteOffset := 32 }], some (.agg #[(.string ⟨#[]⟩), (.int .u64 0), (.bool false), (.slice none 0 0)])⟩ := by kernel_rfl
theorem ty41 : T.get 41 = some ⟨4, 56, .struct #[{ name := "Key", type := 9, offset := 0, embedded := false, tag := "", pkgPath := "", byteOffset := 0 }, { name := "Rts", type := 27, offset := 1, embedded := false, tag := "", pkgPath := "", byteOffset := 16 }, { name := "Here", type := 4, offset := 2, embedded := false, tag := "", pkgPath := "", byteOffset := 24 }, { name := "Vers", type := 31, offset := 3, embedded := false, tag := "", pkgPath := "", byteOffset := 32 }], some (.agg #[(.string ⟨#[]⟩), (.int .u64 0), (.bool false), (.slice none 0 0)])⟩ := by kernel_rfl
theorem ty54 : T.get 54 = some ⟨1, 24, .slice 5, some (.slice none 0 0)⟩ := by kernel_rfl
theorem ty57 : T.get 57 = some ⟨5, 48, .struct #[{ name := "Ts", type := 27, offset := 0, embedded := false, tag := "", pkgPath := "", byteOffset := 0 }, { name := "Lsn", type := 27, offset := 1, embedded := false, tag := "", pkgPath := "", byteOffset := 8 }, { name := "Del", type := 4, offset := 2, embedded := false, tag := "", pkgPath := "", byteOffset := 16 }, { name := "Val", type := 9, offset := 3, embedded := false, tag := "", pkgPath := "", byteOffset := 24 }, { name := "Acked", type := 4, offset := 4, embedded := false, tag := "", pkgPath := "", byteOffset := 40 }], some (.agg #[(.int .u64 0), (.int .u64 0), (.bool false), (.string ⟨#[]⟩), (.bool false)])⟩ := by kernel_rfl
theorem ty60 : T.get 60 = some ⟨1, 24, .slice 9, some (.slice none 0 0)⟩ := by kernel_rfl
theorem ty65 : T.get 65 = some ⟨1, 24, .slice 70, some (.slice none 0 0)⟩ := by kernel_rfl
theorem ty67 : T.get 67 = some ⟨3, 40, .struct #[{ name := "slices", type := 65, offset := 0, embedded := false, tag := "", pkgPath := "couplet/table", byteOffset := 0 }, { name := "floor", type := 27, offset := 1, embedded := false, tag := "", pkgPath := "couplet/table", byteOffset := 24 }, { name := "rows", type := 3, offset := 2, embedded := false, tag := "", pkgPath := "couplet/table", byteOffset := 32 }], some (.agg #[(.slice none 0 0), (.int .u64 0), (.int .i64 0)])⟩ := by kernel_rfl
theorem ty68 : T.get 68 = some ⟨1, 8, .pointer 70, some (.pointer none)⟩ := by kernel_rfl
theorem ty70 : T.get 70 = some ⟨1, 8, .pointer 72, some (.pointer none)⟩ := by kernel_rfl
theorem ty72 : T.get 72 = some ⟨5, 64, .struct #[{ name := "Row", type := 39, offset := 0, embedded := true, tag := "", pkgPath := "", byteOffset := 0 }, { name := "next", type := 70, offset := 4, embedded := false, tag := "", pkgPath := "couplet/table", byteOffset := 56 }], some (.agg #[(.string ⟨#[]⟩), (.int .u64 0), (.bool false), (.slice none 0 0), (.pointer none)])⟩ := by kernel_rfl
theorem ty91 : T.get 91 = some ⟨1, 8, .int (.u64), some (.int .u64 0)⟩ := by kernel_rfl
theorem ty93 : T.get 93 = some ⟨1, 8, .func #[57] #[4] false, some .nilFunc⟩ := by kernel_rfl
theorem ty104 : T.get 104 = some ⟨1, 8, .int (.u64), some (.int .u64 0)⟩ := by kernel_rfl
theorem en8 : Entered Try.prog 8 Try.f8 := ⟨Try.func8, by kernel_rfl, by kernel_rfl⟩
theorem en9 : Entered Try.prog 9 Try.f9 := ⟨Try.func9, by kernel_rfl, by kernel_rfl⟩
theorem en10 : Entered Try.prog 10 Try.f10 := ⟨Try.func10, by kernel_rfl, by kernel_rfl⟩
theorem en11 : Entered Try.prog 11 Try.f11 := ⟨Try.func11, by kernel_rfl, by kernel_rfl⟩
theorem en12 : Entered Try.prog 12 Try.f12 := ⟨Try.func12, by kernel_rfl, by kernel_rfl⟩
theorem en13 : Entered Try.prog 13 Try.f13 := ⟨Try.func13, by kernel_rfl, by kernel_rfl⟩
theorem en14 : Entered Try.prog 14 Try.f14 := ⟨Try.func14, by kernel_rfl, by kernel_rfl⟩
theorem en15 : Entered Try.prog 15 Try.f15 := ⟨Try.func15, by kernel_rfl, by kernel_rfl⟩
theorem en16 : Entered Try.prog 16 Try.f16 := ⟨Try.func16, by kernel_rfl, by kernel_rfl⟩
theorem en19 : Entered Try.prog 19 Try.f19 := ⟨Try.func19, by kernel_rfl, by kernel_rfl⟩
theorem en20 : Entered Try.prog 20 Try.f20 := ⟨Try.func20, by kernel_rfl, by kernel_rfl⟩
theorem en21 : Entered Try.prog 21 Try.f21 := ⟨Try.func21, by kernel_rfl, by kernel_rfl⟩
theorem en22 : Entered Try.prog 22 Try.f22 := ⟨Try.func22, by kernel_rfl, by kernel_rfl⟩
theorem en23 : Entered Try.prog 23 Try.f23 := ⟨Try.func23, by kernel_rfl, by kernel_rfl⟩
theorem en24 : Entered Try.prog 24 Try.f24 := ⟨Try.func24, by kernel_rfl, by kernel_rfl⟩
theorem en25 : Entered Try.prog 25 Try.f25 := ⟨Try.func25, by kernel_rfl, by kernel_rfl⟩
theorem en26 : Entered Try.prog 26 Try.f26 := ⟨Try.func26, by kernel_rfl, by kernel_rfl⟩
theorem en27 : Entered Try.prog 27 Try.f27 := ⟨Try.func27, by kernel_rfl, by kernel_rfl⟩
theorem en28 : Entered Try.prog 28 Try.f28 := ⟨Try.func28, by kernel_rfl, by kernel_rfl⟩
theorem en29 : Entered Try.prog 29 Try.f29 := ⟨Try.func29, by kernel_rfl, by kernel_rfl⟩
theorem en30 : Entered Try.prog 30 Try.f30 := ⟨Try.func30, by kernel_rfl, by kernel_rfl⟩
theorem en31 : Entered Try.prog 31 Try.f31 := ⟨Try.func31, by kernel_rfl, by kernel_rfl⟩
theorem en32 : Entered Try.prog 32 Try.f32 := ⟨Try.func32, by kernel_rfl, by kernel_rfl⟩
theorem en33 : Entered Try.prog 33 Try.f33 := ⟨Try.func33, by kernel_rfl, by kernel_rfl⟩
theorem en34 : Entered Try.prog 34 Try.f34 := ⟨Try.func34, by kernel_rfl, by kernel_rfl⟩
theorem en35 : Entered Try.prog 35 Try.f35 := ⟨Try.func35, by kernel_rfl, by kernel_rfl⟩
theorem en36 : Entered Try.prog 36 Try.f36 := ⟨Try.func36, by kernel_rfl, by kernel_rfl⟩
theorem en37 : Entered Try.prog 37 Try.f37 := ⟨Try.func37, by kernel_rfl, by kernel_rfl⟩
theorem en38 : Entered Try.prog 38 Try.f38 := ⟨Try.func38, by kernel_rfl, by kernel_rfl⟩
theorem en39 : Entered Try.prog 39 Try.f39 := ⟨Try.func39, by kernel_rfl, by kernel_rfl⟩
theorem en40 : Entered Try.prog 40 Try.f40 := ⟨Try.func40, by kernel_rfl, by kernel_rfl⟩
theorem en41 : Entered Try.prog 41 Try.f41 := ⟨Try.func41, by kernel_rfl, by kernel_rfl⟩
theorem en42 : Entered Try.prog 42 Try.f42 := ⟨Try.func42, by kernel_rfl, by kernel_rfl⟩
theorem en43 : Entered Try.prog 43 Try.f43 := ⟨Try.func43, by kernel_rfl, by kernel_rfl⟩
theorem en44 : Entered Try.prog 44 Try.f44 := ⟨Try.func44, by kernel_rfl, by kernel_rfl⟩
theorem en45 : Entered Try.prog 45 Try.f45 := ⟨Try.func45, by kernel_rfl, by kernel_rfl⟩
theorem en46 : Entered Try.prog 46 Try.f46 := ⟨Try.func46, by kernel_rfl, by kernel_rfl⟩
theorem en47 : Entered Try.prog 47 Try.f47 := ⟨Try.func47, by kernel_rfl, by kernel_rfl⟩
theorem en48 : Entered Try.prog 48 Try.f48 := ⟨Try.func48, by kernel_rfl, by kernel_rfl⟩
theorem en49 : Entered Try.prog 49 Try.f49 := ⟨Try.func49, by kernel_rfl, by kernel_rfl⟩
theorem en50 : Entered Try.prog 50 Try.f50 := ⟨Try.func50, by kernel_rfl, by kernel_rfl⟩
theorem en51 : Entered Try.prog 51 Try.f51 := ⟨Try.func51, by kernel_rfl, by kernel_rfl⟩
theorem en52 : Entered Try.prog 52 Try.f52 := ⟨Try.func52, by kernel_rfl, by kernel_rfl⟩
theorem en54 : Entered Try.prog 54 Try.f54 := ⟨Try.func54, by kernel_rfl, by kernel_rfl⟩
theorem en55 : Entered Try.prog 55 Try.f55 := ⟨Try.func55, by kernel_rfl, by kernel_rfl⟩
theorem en56 : Entered Try.prog 56 Try.f56 := ⟨Try.func56, by kernel_rfl, by kernel_rfl⟩
theorem en57 : Entered Try.prog 57 Try.f57 := ⟨Try.func57, by kernel_rfl, by kernel_rfl⟩
theorem en58 : Entered Try.prog 58 Try.f58 := ⟨Try.func58, by kernel_rfl, by kernel_rfl⟩
theorem en59 : Entered Try.prog 59 Try.f59 := ⟨Try.func59, by kernel_rfl, by kernel_rfl⟩
theorem en60 : Entered Try.prog 60 Try.f60 := ⟨Try.func60, by kernel_rfl, by kernel_rfl⟩
theorem en61 : Entered Try.prog 61 Try.f61 := ⟨Try.func61, by kernel_rfl, by kernel_rfl⟩
theorem en62 : Entered Try.prog 62 Try.f62 := ⟨Try.func62, by kernel_rfl, by kernel_rfl⟩
theorem en63 : Entered Try.prog 63 Try.f63 := ⟨Try.func63, by kernel_rfl, by kernel_rfl⟩
theorem en64 : Entered Try.prog 64 Try.f64 := ⟨Try.func64, by kernel_rfl, by kernel_rfl⟩
theorem en65 : Entered Try.prog 65 Try.f65 := ⟨Try.func65, by kernel_rfl, by kernel_rfl⟩
end Go.Proofs.Ytldhcjfhlfgleaa
