/-
  The types of this program, a lemma each (printed by a program).
-/
import Derived.Test.YtjenbiohcecfnaaGreatProg
import Derived.Test.YtjenbiohcecfnaaGreatAb20
import Derived.KernelRfl
namespace Go.Proofs.YtjenbiohcecfnaaGreat
open Go.Ab
set_option maxRecDepth 100000
noncomputable def T : Tr TI := tab (tyOf Tryz.prog) 204
theorem tyOK : TyOK Tryz.prog T := tyOK_of Tryz.prog 204
theorem mixed : Tryz.prog.follows .mixedOrders = true := by kernel_rfl
theorem ty3 : T.get 3 = some ⟨1, 8, .int (.i64), some (.int .i64 0)⟩ := by kernel_rfl
theorem ty4 : T.get 4 = some ⟨1, 1, .bool, some (.bool false)⟩ := by kernel_rfl
theorem ty5 : T.get 5 = some ⟨1, 1, .int (.u8), some (.int .u8 0)⟩ := by kernel_rfl
theorem ty9 : T.get 9 = some ⟨1, 16, .string, some (.string ⟨#[]⟩)⟩ := by kernel_rfl
theorem ty22 : T.get 22 = some ⟨1, 8, .pointer 107, some (.pointer none)⟩ := by kernel_rfl
theorem ty23 : T.get 23 = some ⟨1, 8, .pointer 100, some (.pointer none)⟩ := by kernel_rfl
theorem ty26 : T.get 26 = some ⟨1, 8, .int (.i64), some (.int .i64 0)⟩ := by kernel_rfl
theorem ty27 : T.get 27 = some ⟨1, 8, .int (.u64), some (.int .u64 0)⟩ := by kernel_rfl
theorem ty29 : T.get 29 = some ⟨7, 64, .struct #[{ name := "Fetch", type := 4, offset := 0, embedded := false, tag := "", pkgPath := "", byteOffset := 0 }, { name := "Err", type := 26, offset := 1, embedded := false, tag := "", pkgPath := "", byteOffset := 8 }, { name := "Found", type := 4, offset := 2, embedded := false, tag := "", pkgPath := "", byteOffset := 16 }, { name := "Val", type := 9, offset := 3, embedded := false, tag := "", pkgPath := "", byteOffset := 24 }, { name := "Hang", type := 27, offset := 4, embedded := false, tag := "", pkgPath := "", byteOffset := 40 }, { name := "Need", type := 27, offset := 5, embedded := false, tag := "", pkgPath := "", byteOffset := 48 }, { name := "Over", type := 27, offset := 6, embedded := false, tag := "", pkgPath := "", byteOffset := 56 }], some (.agg #[(.bool false), (.int .i64 0), (.bool false), (.string ⟨#[]⟩), (.int .u64 0), (.int .u64 0), (.int .u64 0)])⟩ := by kernel_rfl
theorem ty33 : T.get 33 = some ⟨4, 48, .struct #[{ name := "Key", type := 9, offset := 0, embedded := false, tag := "", pkgPath := "", byteOffset := 0 }, { name := "Lsn", type := 27, offset := 1, embedded := false, tag := "", pkgPath := "", byteOffset := 16 }, { name := "Del", type := 4, offset := 2, embedded := false, tag := "", pkgPath := "", byteOffset := 24 }, { name := "Val", type := 9, offset := 3, embedded := false, tag := "", pkgPath := "", byteOffset := 32 }], some (.agg #[(.string ⟨#[]⟩), (.int .u64 0), (.bool false), (.string ⟨#[]⟩)])⟩ := by kernel_rfl
theorem ty34 : T.get 34 = some ⟨1, 24, .slice 49, some (.slice none 0 0)⟩ := by kernel_rfl
theorem ty36 : T.get 36 = some ⟨4, 56, .struct #[{ name := "Key", type := 9, offset := 0, embedded := false, tag := "", pkgPath := "", byteOffset := 0 }, { name := "Rts", type := 27, offset := 1, embedded := false, tag := "", pkgPath := "", byteOffset := 16 }, { name := "Here", type := 4, offset := 2, embedded := false, tag := "", pkgPath := "", byteOffset := 24 }, { name := "Vers", type := 34, offset := 3, embedded := false, tag := "", pkgPath := "", byteOffset := 32 }], some (.agg #[(.string ⟨#[]⟩), (.int .u64 0), (.bool false), (.slice none 0 0)])⟩ := by kernel_rfl
theorem ty39 : T.get 39 = some ⟨1, 24, .slice 45, some (.slice none 0 0)⟩ := by kernel_rfl
theorem ty40 : T.get 40 = some ⟨1, 24, .slice 27, some (.slice none 0 0)⟩ := by kernel_rfl
theorem ty43 : T.get 43 = some ⟨1, 24, .slice 33, some (.slice none 0 0)⟩ := by kernel_rfl
theorem ty45 : T.get 45 = some ⟨2, 32, .struct #[{ name := "Key", type := 9, offset := 0, embedded := false, tag := "", pkgPath := "", byteOffset := 0 }, { name := "Val", type := 9, offset := 1, embedded := false, tag := "", pkgPath := "", byteOffset := 16 }], some (.agg #[(.string ⟨#[]⟩), (.string ⟨#[]⟩)])⟩ := by kernel_rfl
theorem ty49 : T.get 49 = some ⟨5, 48, .struct #[{ name := "Ts", type := 27, offset := 0, embedded := false, tag := "", pkgPath := "", byteOffset := 0 }, { name := "Lsn", type := 27, offset := 1, embedded := false, tag := "", pkgPath := "", byteOffset := 8 }, { name := "Del", type := 4, offset := 2, embedded := false, tag := "", pkgPath := "", byteOffset := 16 }, { name := "Val", type := 9, offset := 3, embedded := false, tag := "", pkgPath := "", byteOffset := 24 }, { name := "Acked", type := 4, offset := 4, embedded := false, tag := "", pkgPath := "", byteOffset := 40 }], some (.agg #[(.int .u64 0), (.int .u64 0), (.bool false), (.string ⟨#[]⟩), (.bool false)])⟩ := by kernel_rfl
theorem ty50 : T.get 50 = some ⟨1, 8, .func #[] #[4] false, some .nilFunc⟩ := by kernel_rfl
theorem ty51 : T.get 51 = some ⟨1, 24, .slice 115, some (.slice none 0 0)⟩ := by kernel_rfl
theorem ty52 : T.get 52 = some ⟨1, 24, .slice 61, some (.slice none 0 0)⟩ := by kernel_rfl
theorem ty53 : T.get 53 = some ⟨2, 48, .array 2 52, some (.agg #[(.slice none 0 0), (.slice none 0 0)])⟩ := by kernel_rfl
theorem ty54 : T.get 54 = some ⟨3, 3, .array 3 5, some (.agg #[(.int .u8 0), (.int .u8 0), (.int .u8 0)])⟩ := by kernel_rfl
theorem ty61 : T.get 61 = some ⟨8, 48, .struct #[{ name := "What", type := 3, offset := 0, embedded := false, tag := "", pkgPath := "", byteOffset := 0 }, { name := "Ts", type := 5, offset := 1, embedded := false, tag := "", pkgPath := "", byteOffset := 8 }, { name := "A", type := 5, offset := 2, embedded := false, tag := "", pkgPath := "", byteOffset := 9 }, { name := "B", type := 5, offset := 3, embedded := false, tag := "", pkgPath := "", byteOffset := 10 }, { name := "Del", type := 4, offset := 4, embedded := false, tag := "", pkgPath := "", byteOffset := 11 }, { name := "Val", type := 5, offset := 5, embedded := false, tag := "", pkgPath := "", byteOffset := 12 }, { name := "Said", type := 43, offset := 6, embedded := false, tag := "", pkgPath := "", byteOffset := 16 }, { name := "Stable", type := 5, offset := 7, embedded := false, tag := "", pkgPath := "", byteOffset := 40 }], some (.agg #[(.int .i64 0), (.int .u8 0), (.int .u8 0), (.int .u8 0), (.bool false), (.int .u8 0), (.slice none 0 0), (.int .u8 0)])⟩ := by kernel_rfl
theorem ty74 : T.get 74 = some ⟨1, 8, .func #[49] #[4] false, some .nilFunc⟩ := by kernel_rfl
theorem ty75 : T.get 75 = some ⟨1, 8, .pointer 77, some (.pointer none)⟩ := by kernel_rfl
theorem ty77 : T.get 77 = some ⟨1, 8, .pointer 79, some (.pointer none)⟩ := by kernel_rfl
theorem ty79 : T.get 79 = some ⟨5, 64, .struct #[{ name := "Row", type := 36, offset := 0, embedded := true, tag := "", pkgPath := "", byteOffset := 0 }, { name := "next", type := 77, offset := 4, embedded := false, tag := "", pkgPath := "couplet/table", byteOffset := 56 }], some (.agg #[(.string ⟨#[]⟩), (.int .u64 0), (.bool false), (.slice none 0 0), (.pointer none)])⟩ := by kernel_rfl
theorem ty81 : T.get 81 = some ⟨1, 8, .map 9 45, some (.map none)⟩ := by kernel_rfl
theorem ty85 : T.get 85 = some ⟨1, 24, .slice 9, some (.slice none 0 0)⟩ := by kernel_rfl
theorem ty95 : T.get 95 = some ⟨2, 32, .struct #[{ name := "lo", type := 9, offset := 0, embedded := false, tag := "", pkgPath := "couplet/span", byteOffset := 0 }, { name := "hi", type := 9, offset := 1, embedded := false, tag := "", pkgPath := "couplet/span", byteOffset := 16 }], some (.agg #[(.string ⟨#[]⟩), (.string ⟨#[]⟩)])⟩ := by kernel_rfl
theorem ty97 : T.get 97 = some ⟨3, 40, .struct #[{ name := "within", type := 95, offset := 0, embedded := true, tag := "", pkgPath := "couplet/span", byteOffset := 0 }, { name := "ts", type := 27, offset := 2, embedded := false, tag := "", pkgPath := "couplet/span", byteOffset := 32 }], some (.agg #[(.string ⟨#[]⟩), (.string ⟨#[]⟩), (.int .u64 0)])⟩ := by kernel_rfl
theorem ty98 : T.get 98 = some ⟨1, 24, .slice 97, some (.slice none 0 0)⟩ := by kernel_rfl
theorem ty100 : T.get 100 = some ⟨2, 32, .struct #[{ name := "most", type := 3, offset := 0, embedded := false, tag := "", pkgPath := "couplet/span", byteOffset := 0 }, { name := "l", type := 98, offset := 1, embedded := false, tag := "", pkgPath := "couplet/span", byteOffset := 8 }], some (.agg #[(.int .i64 0), (.slice none 0 0)])⟩ := by kernel_rfl
theorem ty105 : T.get 105 = some ⟨1, 24, .slice 77, some (.slice none 0 0)⟩ := by kernel_rfl
theorem ty107 : T.get 107 = some ⟨3, 40, .struct #[{ name := "slices", type := 105, offset := 0, embedded := false, tag := "", pkgPath := "couplet/table", byteOffset := 0 }, { name := "floor", type := 27, offset := 1, embedded := false, tag := "", pkgPath := "couplet/table", byteOffset := 24 }, { name := "rows", type := 3, offset := 2, embedded := false, tag := "", pkgPath := "couplet/table", byteOffset := 32 }], some (.agg #[(.slice none 0 0), (.int .u64 0), (.int .i64 0)])⟩ := by kernel_rfl
theorem ty108 : T.get 108 = some ⟨1, 24, .slice 112, some (.slice none 0 0)⟩ := by kernel_rfl
theorem ty110 : T.get 110 = some ⟨2, 32, .struct #[{ name := "L", type := 108, offset := 0, embedded := false, tag := "", pkgPath := "", byteOffset := 0 }, { name := "Floor", type := 27, offset := 1, embedded := false, tag := "", pkgPath := "", byteOffset := 24 }], some (.agg #[(.slice none 0 0), (.int .u64 0)])⟩ := by kernel_rfl
theorem ty112 : T.get 112 = some ⟨4, 56, .struct #[{ name := "Key", type := 9, offset := 0, embedded := false, tag := "", pkgPath := "", byteOffset := 0 }, { name := "Rts", type := 27, offset := 1, embedded := false, tag := "", pkgPath := "", byteOffset := 16 }, { name := "Here", type := 4, offset := 2, embedded := false, tag := "", pkgPath := "", byteOffset := 24 }, { name := "Vers", type := 34, offset := 3, embedded := false, tag := "", pkgPath := "", byteOffset := 32 }], some (.agg #[(.string ⟨#[]⟩), (.int .u64 0), (.bool false), (.slice none 0 0)])⟩ := by kernel_rfl
theorem ty113 : T.get 113 = some ⟨1, 24, .slice 140, some (.slice none 0 0)⟩ := by kernel_rfl
theorem ty115 : T.get 115 = some ⟨4, 32, .struct #[{ name := "Key", type := 5, offset := 0, embedded := false, tag := "", pkgPath := "", byteOffset := 0 }, { name := "Rts", type := 5, offset := 1, embedded := false, tag := "", pkgPath := "", byteOffset := 1 }, { name := "Here", type := 4, offset := 2, embedded := false, tag := "", pkgPath := "", byteOffset := 2 }, { name := "Vers", type := 113, offset := 3, embedded := false, tag := "", pkgPath := "", byteOffset := 8 }], some (.agg #[(.int .u8 0), (.int .u8 0), (.bool false), (.slice none 0 0)])⟩ := by kernel_rfl
theorem ty118 : T.get 118 = some ⟨1, 24, .slice 5, some (.slice none 0 0)⟩ := by kernel_rfl
theorem ty123 : T.get 123 = some ⟨1, 24, .slice 50, some (.slice none 0 0)⟩ := by kernel_rfl
theorem ty134 : T.get 134 = some ⟨1, 8, .int (.u64), some (.int .u64 0)⟩ := by kernel_rfl
theorem ty140 : T.get 140 = some ⟨5, 5, .struct #[{ name := "Far", type := 5, offset := 0, embedded := false, tag := "", pkgPath := "", byteOffset := 0 }, { name := "Lsn", type := 5, offset := 1, embedded := false, tag := "", pkgPath := "", byteOffset := 1 }, { name := "Del", type := 4, offset := 2, embedded := false, tag := "", pkgPath := "", byteOffset := 2 }, { name := "Val", type := 5, offset := 3, embedded := false, tag := "", pkgPath := "", byteOffset := 3 }, { name := "Base", type := 4, offset := 4, embedded := false, tag := "", pkgPath := "", byteOffset := 4 }], some (.agg #[(.int .u8 0), (.int .u8 0), (.bool false), (.int .u8 0), (.bool false)])⟩ := by kernel_rfl
theorem ty143 : T.get 143 = some ⟨1, 24, .slice 74, some (.slice none 0 0)⟩ := by kernel_rfl
theorem en6 : Entered Tryz.prog 6 Tryz.f6 := ⟨Tryz.func6, by kernel_rfl, by kernel_rfl⟩
theorem en7 : Entered Tryz.prog 7 Tryz.f7 := ⟨Tryz.func7, by kernel_rfl, by kernel_rfl⟩
theorem en8 : Entered Tryz.prog 8 Tryz.f8 := ⟨Tryz.func8, by kernel_rfl, by kernel_rfl⟩
theorem en9 : Entered Tryz.prog 9 Tryz.f9 := ⟨Tryz.func9, by kernel_rfl, by kernel_rfl⟩
theorem en10 : Entered Tryz.prog 10 Tryz.f10 := ⟨Tryz.func10, by kernel_rfl, by kernel_rfl⟩
theorem en11 : Entered Tryz.prog 11 Tryz.f11 := ⟨Tryz.func11, by kernel_rfl, by kernel_rfl⟩
theorem en12 : Entered Tryz.prog 12 Tryz.f12 := ⟨Tryz.func12, by kernel_rfl, by kernel_rfl⟩
theorem en13 : Entered Tryz.prog 13 Tryz.f13 := ⟨Tryz.func13, by kernel_rfl, by kernel_rfl⟩
theorem en14 : Entered Tryz.prog 14 Tryz.f14 := ⟨Tryz.func14, by kernel_rfl, by kernel_rfl⟩
theorem en15 : Entered Tryz.prog 15 Tryz.f15 := ⟨Tryz.func15, by kernel_rfl, by kernel_rfl⟩
theorem en16 : Entered Tryz.prog 16 Tryz.f16 := ⟨Tryz.func16, by kernel_rfl, by kernel_rfl⟩
theorem en17 : Entered Tryz.prog 17 Tryz.f17 := ⟨Tryz.func17, by kernel_rfl, by kernel_rfl⟩
theorem en18 : Entered Tryz.prog 18 Tryz.f18 := ⟨Tryz.func18, by kernel_rfl, by kernel_rfl⟩
theorem en19 : Entered Tryz.prog 19 Tryz.f19 := ⟨Tryz.func19, by kernel_rfl, by kernel_rfl⟩
theorem en20 : Entered Tryz.prog 20 Tryz.f20 := ⟨Tryz.func20, by kernel_rfl, by kernel_rfl⟩
theorem en21 : Entered Tryz.prog 21 Tryz.f21 := ⟨Tryz.func21, by kernel_rfl, by kernel_rfl⟩
theorem en22 : Entered Tryz.prog 22 Tryz.f22 := ⟨Tryz.func22, by kernel_rfl, by kernel_rfl⟩
theorem en23 : Entered Tryz.prog 23 Tryz.f23 := ⟨Tryz.func23, by kernel_rfl, by kernel_rfl⟩
theorem en24 : Entered Tryz.prog 24 Tryz.f24 := ⟨Tryz.func24, by kernel_rfl, by kernel_rfl⟩
theorem en25 : Entered Tryz.prog 25 Tryz.f25 := ⟨Tryz.func25, by kernel_rfl, by kernel_rfl⟩
theorem en26 : Entered Tryz.prog 26 Tryz.f26 := ⟨Tryz.func26, by kernel_rfl, by kernel_rfl⟩
theorem en27 : Entered Tryz.prog 27 Tryz.f27 := ⟨Tryz.func27, by kernel_rfl, by kernel_rfl⟩
theorem en28 : Entered Tryz.prog 28 Tryz.f28 := ⟨Tryz.func28, by kernel_rfl, by kernel_rfl⟩
theorem en29 : Entered Tryz.prog 29 Tryz.f29 := ⟨Tryz.func29, by kernel_rfl, by kernel_rfl⟩
theorem en30 : Entered Tryz.prog 30 Tryz.f30 := ⟨Tryz.func30, by kernel_rfl, by kernel_rfl⟩
theorem en31 : Entered Tryz.prog 31 Tryz.f31 := ⟨Tryz.func31, by kernel_rfl, by kernel_rfl⟩
theorem en32 : Entered Tryz.prog 32 Tryz.f32 := ⟨Tryz.func32, by kernel_rfl, by kernel_rfl⟩
theorem en33 : Entered Tryz.prog 33 Tryz.f33 := ⟨Tryz.func33, by kernel_rfl, by kernel_rfl⟩
theorem en34 : Entered Tryz.prog 34 Tryz.f34 := ⟨Tryz.func34, by kernel_rfl, by kernel_rfl⟩
theorem en35 : Entered Tryz.prog 35 Tryz.f35 := ⟨Tryz.func35, by kernel_rfl, by kernel_rfl⟩
theorem en36 : Entered Tryz.prog 36 Tryz.f36 := ⟨Tryz.func36, by kernel_rfl, by kernel_rfl⟩
theorem en37 : Entered Tryz.prog 37 Tryz.f37 := ⟨Tryz.func37, by kernel_rfl, by kernel_rfl⟩
theorem en38 : Entered Tryz.prog 38 Tryz.f38 := ⟨Tryz.func38, by kernel_rfl, by kernel_rfl⟩
theorem en41 : Entered Tryz.prog 41 Tryz.f41 := ⟨Tryz.func41, by kernel_rfl, by kernel_rfl⟩
theorem en42 : Entered Tryz.prog 42 Tryz.f42 := ⟨Tryz.func42, by kernel_rfl, by kernel_rfl⟩
theorem en43 : Entered Tryz.prog 43 Tryz.f43 := ⟨Tryz.func43, by kernel_rfl, by kernel_rfl⟩
theorem en45 : Entered Tryz.prog 45 Tryz.f45 := ⟨Tryz.func45, by kernel_rfl, by kernel_rfl⟩
theorem en46 : Entered Tryz.prog 46 Tryz.f46 := ⟨Tryz.func46, by kernel_rfl, by kernel_rfl⟩
theorem en47 : Entered Tryz.prog 47 Tryz.f47 := ⟨Tryz.func47, by kernel_rfl, by kernel_rfl⟩
theorem en48 : Entered Tryz.prog 48 Tryz.f48 := ⟨Tryz.func48, by kernel_rfl, by kernel_rfl⟩
theorem en49 : Entered Tryz.prog 49 Tryz.f49 := ⟨Tryz.func49, by kernel_rfl, by kernel_rfl⟩
theorem en50 : Entered Tryz.prog 50 Tryz.f50 := ⟨Tryz.func50, by kernel_rfl, by kernel_rfl⟩
theorem en51 : Entered Tryz.prog 51 Tryz.f51 := ⟨Tryz.func51, by kernel_rfl, by kernel_rfl⟩
theorem en52 : Entered Tryz.prog 52 Tryz.f52 := ⟨Tryz.func52, by kernel_rfl, by kernel_rfl⟩
theorem en53 : Entered Tryz.prog 53 Tryz.f53 := ⟨Tryz.func53, by kernel_rfl, by kernel_rfl⟩
theorem en54 : Entered Tryz.prog 54 Tryz.f54 := ⟨Tryz.func54, by kernel_rfl, by kernel_rfl⟩
theorem en55 : Entered Tryz.prog 55 Tryz.f55 := ⟨Tryz.func55, by kernel_rfl, by kernel_rfl⟩
theorem en56 : Entered Tryz.prog 56 Tryz.f56 := ⟨Tryz.func56, by kernel_rfl, by kernel_rfl⟩
theorem en57 : Entered Tryz.prog 57 Tryz.f57 := ⟨Tryz.func57, by kernel_rfl, by kernel_rfl⟩
theorem en58 : Entered Tryz.prog 58 Tryz.f58 := ⟨Tryz.func58, by kernel_rfl, by kernel_rfl⟩
theorem en59 : Entered Tryz.prog 59 Tryz.f59 := ⟨Tryz.func59, by kernel_rfl, by kernel_rfl⟩
theorem en60 : Entered Tryz.prog 60 Tryz.f60 := ⟨Tryz.func60, by kernel_rfl, by kernel_rfl⟩
theorem en61 : Entered Tryz.prog 61 Tryz.f61 := ⟨Tryz.func61, by kernel_rfl, by kernel_rfl⟩
theorem en62 : Entered Tryz.prog 62 Tryz.f62 := ⟨Tryz.func62, by kernel_rfl, by kernel_rfl⟩
theorem en63 : Entered Tryz.prog 63 Tryz.f63 := ⟨Tryz.func63, by kernel_rfl, by kernel_rfl⟩
theorem en64 : Entered Tryz.prog 64 Tryz.f64 := ⟨Tryz.func64, by kernel_rfl, by kernel_rfl⟩
theorem en65 : Entered Tryz.prog 65 Tryz.f65 := ⟨Tryz.func65, by kernel_rfl, by kernel_rfl⟩
theorem en67 : Entered Tryz.prog 67 Tryz.f67 := ⟨Tryz.func67, by kernel_rfl, by kernel_rfl⟩
theorem en69 : Entered Tryz.prog 69 Tryz.f69 := ⟨Tryz.func69, by kernel_rfl, by kernel_rfl⟩
theorem en70 : Entered Tryz.prog 70 Tryz.f70 := ⟨Tryz.func70, by kernel_rfl, by kernel_rfl⟩
theorem en71 : Entered Tryz.prog 71 Tryz.f71 := ⟨Tryz.func71, by kernel_rfl, by kernel_rfl⟩
theorem en72 : Entered Tryz.prog 72 Tryz.f72 := ⟨Tryz.func72, by kernel_rfl, by kernel_rfl⟩
theorem en73 : Entered Tryz.prog 73 Tryz.f73 := ⟨Tryz.func73, by kernel_rfl, by kernel_rfl⟩
theorem en74 : Entered Tryz.prog 74 Tryz.f74 := ⟨Tryz.func74, by kernel_rfl, by kernel_rfl⟩
theorem en75 : Entered Tryz.prog 75 Tryz.f75 := ⟨Tryz.func75, by kernel_rfl, by kernel_rfl⟩
theorem en76 : Entered Tryz.prog 76 Tryz.f76 := ⟨Tryz.func76, by kernel_rfl, by kernel_rfl⟩
theorem en82 : Entered Tryz.prog 82 Tryz.f82 := ⟨Tryz.func82, by kernel_rfl, by kernel_rfl⟩
theorem en86 : Entered Tryz.prog 86 Tryz.f86 := ⟨Tryz.func86, by kernel_rfl, by kernel_rfl⟩
theorem en90 : Entered Tryz.prog 90 Tryz.f90 := ⟨Tryz.func90, by kernel_rfl, by kernel_rfl⟩
theorem en91 : Entered Tryz.prog 91 Tryz.f91 := ⟨Tryz.func91, by kernel_rfl, by kernel_rfl⟩
theorem en92 : Entered Tryz.prog 92 Tryz.f92 := ⟨Tryz.func92, by kernel_rfl, by kernel_rfl⟩
theorem en93 : Entered Tryz.prog 93 Tryz.f93 := ⟨Tryz.func93, by kernel_rfl, by kernel_rfl⟩
theorem en99 : Entered Tryz.prog 99 Tryz.f99 := ⟨Tryz.func99, by kernel_rfl, by kernel_rfl⟩
theorem en107 : Entered Tryz.prog 107 Tryz.f107 := ⟨Tryz.func107, by kernel_rfl, by kernel_rfl⟩
theorem en109 : Entered Tryz.prog 109 Tryz.f109 := ⟨Tryz.func109, by kernel_rfl, by kernel_rfl⟩
end Go.Proofs.YtjenbiohcecfnaaGreat
