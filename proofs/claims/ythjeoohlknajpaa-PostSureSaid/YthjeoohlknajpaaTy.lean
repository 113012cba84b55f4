/-
  The types of this program, a lemma each (printed by a program).
-/
import Derived.Test.YthjeoohlknajpaaProg
import Derived.Test.YthjeoohlknajpaaAb20
import Derived.KernelRfl
namespace Go.Proofs.Ythjeoohlknajpaa
open Go.Ab
set_option maxRecDepth 100000
noncomputable def T : Tr TI := tab (tyOf Try.prog) 65
theorem tyOK : TyOK Try.prog T := tyOK_of Try.prog 65
theorem mixed : Try.prog.follows .mixedOrders = true := by kernel_rfl
theorem ty0 : T.get 0 = some ⟨1, 0, .tuple #[], some (.tuple #[])⟩ := by kernel_rfl
theorem ty1 : T.get 1 = some ⟨1, 8, .func #[] #[] false, some .nilFunc⟩ := by kernel_rfl
theorem ty2 : T.get 2 = some ⟨1, 8, .int (.i64), some (.int .i64 0)⟩ := by kernel_rfl
theorem ty3 : T.get 3 = some ⟨1, 8, .int (.i64), some (.int .i64 0)⟩ := by kernel_rfl
theorem ty4 : T.get 4 = some ⟨1, 1, .bool, some (.bool false)⟩ := by kernel_rfl
theorem ty5 : T.get 5 = some ⟨1, 1, .int (.u8), some (.int .u8 0)⟩ := by kernel_rfl
theorem ty6 : T.get 6 = some ⟨1, 1, .int (.u8), some (.int .u8 0)⟩ := by kernel_rfl
theorem ty9 : T.get 9 = some ⟨1, 16, .string, some (.string ⟨#[]⟩)⟩ := by kernel_rfl
theorem ty10 : T.get 10 = some ⟨1, 16, .string, some (.string ⟨#[]⟩)⟩ := by kernel_rfl
theorem ty11 : T.get 11 = some ⟨1, 16, .string, some (.string ⟨#[]⟩)⟩ := by kernel_rfl
theorem ty12 : T.get 12 = some ⟨1, 8, .int (.u64), some (.int .u64 0)⟩ := by kernel_rfl
theorem ty15 : T.get 15 = some ⟨1, 8, .pointer 51, some (.pointer none)⟩ := by kernel_rfl
theorem ty16 : T.get 16 = some ⟨1, 8, .pointer 54, some (.pointer none)⟩ := by kernel_rfl
theorem ty17 : T.get 17 = some ⟨1, 8, .pointer 63, some (.pointer none)⟩ := by kernel_rfl
theorem ty20 : T.get 20 = some ⟨1, 16, .interface #[], some .nilIface⟩ := by kernel_rfl
theorem ty21 : T.get 21 = some ⟨1, 4, .int (.i32), some (.int .i32 0)⟩ := by kernel_rfl
theorem ty22 : T.get 22 = some ⟨1, 24, .slice 5, some (.slice none 0 0)⟩ := by kernel_rfl
theorem ty23 : T.get 23 = some ⟨1, 8, .pointer 41, some (.pointer none)⟩ := by kernel_rfl
theorem ty24 : T.get 24 = some ⟨1, 8, .func #[25] #[23] false, some .nilFunc⟩ := by kernel_rfl
theorem ty25 : T.get 25 = some ⟨1, 8, .int (.u64), some (.int .u64 0)⟩ := by kernel_rfl
theorem ty26 : T.get 26 = some ⟨1, 8, .int (.i64), some (.int .i64 0)⟩ := by kernel_rfl
theorem ty27 : T.get 27 = some ⟨1, 8, .func #[29] #[26] false, some .nilFunc⟩ := by kernel_rfl
theorem ty28 : T.get 28 = some ⟨4, 48, .struct #[{ name := "Key", type := 9, offset := 0, embedded := false, tag := "", pkgPath := "", byteOffset := 0 }, { name := "Lsn", type := 25, offset := 1, embedded := false, tag := "", pkgPath := "", byteOffset := 16 }, { name := "Del", type := 4, offset := 2, embedded := false, tag := "", pkgPath := "", byteOffset := 24 }, { name := "Val", type := 9, offset := 3, embedded := false, tag := "", pkgPath := "", byteOffset := 32 }], some (.agg #[(.string ⟨#[]⟩), (.int .u64 0), (.bool false), (.string ⟨#[]⟩)])⟩ := by kernel_rfl
theorem ty29 : T.get 29 = some ⟨4, 48, .struct #[{ name := "Key", type := 9, offset := 0, embedded := false, tag := "", pkgPath := "", byteOffset := 0 }, { name := "Lsn", type := 25, offset := 1, embedded := false, tag := "", pkgPath := "", byteOffset := 16 }, { name := "Del", type := 4, offset := 2, embedded := false, tag := "", pkgPath := "", byteOffset := 24 }, { name := "Val", type := 9, offset := 3, embedded := false, tag := "", pkgPath := "", byteOffset := 32 }], some (.agg #[(.string ⟨#[]⟩), (.int .u64 0), (.bool false), (.string ⟨#[]⟩)])⟩ := by kernel_rfl
theorem ty30 : T.get 30 = some ⟨1, 24, .slice 29, some (.slice none 0 0)⟩ := by kernel_rfl
theorem ty31 : T.get 31 = some ⟨1, 8, .func #[25] #[30] false, some .nilFunc⟩ := by kernel_rfl
theorem ty32 : T.get 32 = some ⟨1, 8, .func #[] #[25] false, some .nilFunc⟩ := by kernel_rfl
theorem ty33 : T.get 33 = some ⟨1, 8, .func #[25] #[4] false, some .nilFunc⟩ := by kernel_rfl
theorem ty34 : T.get 34 = some ⟨1, 8, .func #[] #[3] false, some .nilFunc⟩ := by kernel_rfl
theorem ty35 : T.get 35 = some ⟨1, 8, .func #[] #[4] false, some .nilFunc⟩ := by kernel_rfl
theorem ty36 : T.get 36 = some ⟨1, 8, .func #[5, 22] #[4] false, some .nilFunc⟩ := by kernel_rfl
theorem ty37 : T.get 37 = some ⟨1, 8, .func #[25] #[] false, some .nilFunc⟩ := by kernel_rfl
theorem ty38 : T.get 38 = some ⟨1, 8, .func #[5, 22, 22] #[4] false, some .nilFunc⟩ := by kernel_rfl
theorem ty39 : T.get 39 = some ⟨1, 24, .slice 43, some (.slice none 0 0)⟩ := by kernel_rfl
theorem ty40 : T.get 40 = some ⟨3, 40, .struct #[{ name := "base", type := 25, offset := 0, embedded := false, tag := "", pkgPath := "couplet/post", byteOffset := 0 }, { name := "l", type := 39, offset := 1, embedded := false, tag := "", pkgPath := "couplet/post", byteOffset := 8 }, { name := "waits", type := 3, offset := 2, embedded := false, tag := "", pkgPath := "couplet/post", byteOffset := 32 }], some (.agg #[(.int .u64 0), (.slice none 0 0), (.int .i64 0)])⟩ := by kernel_rfl
theorem ty41 : T.get 41 = some ⟨3, 40, .struct #[{ name := "base", type := 25, offset := 0, embedded := false, tag := "", pkgPath := "couplet/post", byteOffset := 0 }, { name := "l", type := 39, offset := 1, embedded := false, tag := "", pkgPath := "couplet/post", byteOffset := 8 }, { name := "waits", type := 3, offset := 2, embedded := false, tag := "", pkgPath := "couplet/post", byteOffset := 32 }], some (.agg #[(.int .u64 0), (.slice none 0 0), (.int .i64 0)])⟩ := by kernel_rfl
theorem ty42 : T.get 42 = some ⟨7, 64, .struct #[{ name := "Rec", type := 29, offset := 0, embedded := true, tag := "", pkgPath := "", byteOffset := 0 }, { name := "acked", type := 4, offset := 4, embedded := false, tag := "", pkgPath := "couplet/post", byteOffset := 48 }, { name := "sent", type := 4, offset := 5, embedded := false, tag := "", pkgPath := "couplet/post", byteOffset := 49 }, { name := "at", type := 25, offset := 6, embedded := false, tag := "", pkgPath := "couplet/post", byteOffset := 56 }], some (.agg #[(.string ⟨#[]⟩), (.int .u64 0), (.bool false), (.string ⟨#[]⟩), (.bool false), (.bool false), (.int .u64 0)])⟩ := by kernel_rfl
theorem ty43 : T.get 43 = some ⟨7, 64, .struct #[{ name := "Rec", type := 29, offset := 0, embedded := true, tag := "", pkgPath := "", byteOffset := 0 }, { name := "acked", type := 4, offset := 4, embedded := false, tag := "", pkgPath := "couplet/post", byteOffset := 48 }, { name := "sent", type := 4, offset := 5, embedded := false, tag := "", pkgPath := "couplet/post", byteOffset := 49 }, { name := "at", type := 25, offset := 6, embedded := false, tag := "", pkgPath := "couplet/post", byteOffset := 56 }], some (.agg #[(.string ⟨#[]⟩), (.int .u64 0), (.bool false), (.string ⟨#[]⟩), (.bool false), (.bool false), (.int .u64 0)])⟩ := by kernel_rfl
theorem ty44 : T.get 44 = some ⟨1, 8, .func #[48] #[] false, some .nilFunc⟩ := by kernel_rfl
theorem ty45 : T.get 45 = some ⟨1, 8, .func #[48] #[] false, some .nilFunc⟩ := by kernel_rfl
theorem ty46 : T.get 46 = some ⟨1, 8, .func #[] #[45] false, some .nilFunc⟩ := by kernel_rfl
theorem ty47 : T.get 47 = some ⟨1, 8, .pointer 43, some (.pointer none)⟩ := by kernel_rfl
theorem ty48 : T.get 48 = some ⟨1, 8, .func #[47] #[4] false, some .nilFunc⟩ := by kernel_rfl
theorem ty49 : T.get 49 = some ⟨1, 8, .func #[] #[9] false, some .nilFunc⟩ := by kernel_rfl
theorem ty52 : T.get 52 = some ⟨0, 0, .array 0 16, some (.agg #[])⟩ := by kernel_rfl
theorem ty55 : T.get 55 = some ⟨1, 4, .int (.u32), some (.int .u32 0)⟩ := by kernel_rfl
theorem ty56 : T.get 56 = some ⟨1, 1, .int (.u8), some (.int .u8 0)⟩ := by kernel_rfl
theorem ty57 : T.get 57 = some ⟨1, 1, .int (.u8), some (.int .u8 0)⟩ := by kernel_rfl
theorem ty58 : T.get 58 = some ⟨1, 8, .func #[64, 64] #[4] false, some .nilFunc⟩ := by kernel_rfl
theorem ty59 : T.get 59 = some ⟨1, 8, .pointer 5, some (.pointer none)⟩ := by kernel_rfl
theorem ty60 : T.get 60 = some ⟨1, 4, .int (.i32), some (.int .i32 0)⟩ := by kernel_rfl
theorem ty61 : T.get 61 = some ⟨1, 4, .int (.i32), some (.int .i32 0)⟩ := by kernel_rfl
theorem ty62 : T.get 62 = some ⟨11, 48, .struct #[{ name := "Size_", type := 12, offset := 0, embedded := false, tag := "", pkgPath := "", byteOffset := 0 }, { name := "PtrBytes", type := 12, offset := 1, embedded := false, tag := "", pkgPath := "", byteOffset := 8 }, { name := "Hash", type := 55, offset := 2, embedded := false, tag := "", pkgPath := "", byteOffset := 16 }, { name := "TFlag", type := 56, offset := 3, embedded := false, tag := "", pkgPath := "", byteOffset := 20 }, { name := "Align_", type := 5, offset := 4, embedded := false, tag := "", pkgPath := "", byteOffset := 21 }, { name := "FieldAlign_", type := 5, offset := 5, embedded := false, tag := "", pkgPath := "", byteOffset := 22 }, { name := "Kind_", type := 57, offset := 6, embedded := false, tag := "", pkgPath := "", byteOffset := 23 }, { name := "Equal", type := 58, offset := 7, embedded := false, tag := "", pkgPath := "", byteOffset := 24 }, { name := "GCData", type := 59, offset := 8, embedded := false, tag := "", pkgPath := "", byteOffset := 32 }, { name := "Str", type := 60, offset := 9, embedded := false, tag := "", pkgPath := "", byteOffset := 40 }, { name := "PtrToThis", type := 61, offset := 10, embedded := false, tag := "", pkgPath := "", byteOffset := 44 }], some (.agg #[(.int .u64 0), (.int .u64 0), (.int .u32 0), (.int .u8 0), (.int .u8 0), (.int .u8 0), (.int .u8 0), .nilFunc, (.pointer none), (.int .i32 0), (.int .i32 0)])⟩ := by kernel_rfl
theorem ty63 : T.get 63 = some ⟨11, 48, .struct #[{ name := "Size_", type := 12, offset := 0, embedded := false, tag := "", pkgPath := "", byteOffset := 0 }, { name := "PtrBytes", type := 12, offset := 1, embedded := false, tag := "", pkgPath := "", byteOffset := 8 }, { name := "Hash", type := 55, offset := 2, embedded := false, tag := "", pkgPath := "", byteOffset := 16 }, { name := "TFlag", type := 56, offset := 3, embedded := false, tag := "", pkgPath := "", byteOffset := 20 }, { name := "Align_", type := 5, offset := 4, embedded := false, tag := "", pkgPath := "", byteOffset := 21 }, { name := "FieldAlign_", type := 5, offset := 5, embedded := false, tag := "", pkgPath := "", byteOffset := 22 }, { name := "Kind_", type := 57, offset := 6, embedded := false, tag := "", pkgPath := "", byteOffset := 23 }, { name := "Equal", type := 58, offset := 7, embedded := false, tag := "", pkgPath := "", byteOffset := 24 }, { name := "GCData", type := 59, offset := 8, embedded := false, tag := "", pkgPath := "", byteOffset := 32 }, { name := "Str", type := 60, offset := 9, embedded := false, tag := "", pkgPath := "", byteOffset := 40 }, { name := "PtrToThis", type := 61, offset := 10, embedded := false, tag := "", pkgPath := "", byteOffset := 44 }], some (.agg #[(.int .u64 0), (.int .u64 0), (.int .u32 0), (.int .u8 0), (.int .u8 0), (.int .u8 0), (.int .u8 0), .nilFunc, (.pointer none), (.int .i32 0), (.int .i32 0)])⟩ := by kernel_rfl
theorem ty64 : T.get 64 = some ⟨1, 8, .unsafePointer, some (.pointer none)⟩ := by kernel_rfl
theorem en2 : Entered Try.prog 2 Try.f2 := ⟨Try.func2, by kernel_rfl, by kernel_rfl⟩
theorem en3 : Entered Try.prog 3 Try.f3 := ⟨Try.func3, by kernel_rfl, by kernel_rfl⟩
theorem en4 : Entered Try.prog 4 Try.f4 := ⟨Try.func4, by kernel_rfl, by kernel_rfl⟩
theorem en5 : Entered Try.prog 5 Try.f5 := ⟨Try.func5, by kernel_rfl, by kernel_rfl⟩
theorem en6 : Entered Try.prog 6 Try.f6 := ⟨Try.func6, by kernel_rfl, by kernel_rfl⟩
theorem en7 : Entered Try.prog 7 Try.f7 := ⟨Try.func7, by kernel_rfl, by kernel_rfl⟩
theorem en8 : Entered Try.prog 8 Try.f8 := ⟨Try.func8, by kernel_rfl, by kernel_rfl⟩
theorem en9 : Entered Try.prog 9 Try.f9 := ⟨Try.func9, by kernel_rfl, by kernel_rfl⟩
theorem en10 : Entered Try.prog 10 Try.f10 := ⟨Try.func10, by kernel_rfl, by kernel_rfl⟩
theorem en11 : Entered Try.prog 11 Try.f11 := ⟨Try.func11, by kernel_rfl, by kernel_rfl⟩
theorem en12 : Entered Try.prog 12 Try.f12 := ⟨Try.func12, by kernel_rfl, by kernel_rfl⟩
theorem en13 : Entered Try.prog 13 Try.f13 := ⟨Try.func13, by kernel_rfl, by kernel_rfl⟩
theorem en14 : Entered Try.prog 14 Try.f14 := ⟨Try.func14, by kernel_rfl, by kernel_rfl⟩
theorem en15 : Entered Try.prog 15 Try.f15 := ⟨Try.func15, by kernel_rfl, by kernel_rfl⟩
theorem en16 : Entered Try.prog 16 Try.f16 := ⟨Try.func16, by kernel_rfl, by kernel_rfl⟩
end Go.Proofs.Ythjeoohlknajpaa
