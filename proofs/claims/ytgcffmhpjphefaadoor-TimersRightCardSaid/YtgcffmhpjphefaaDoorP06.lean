/- What the evaluator reads of the program. -/
import Derived.Test.YtgcffmhpjphefaaDoorP05
import Derived.Test.YtgcffmhpjphefaaDoorProg
import Derived.ProofKit
import Derived.Laws.Externs
import Derived.Test.YtgcffmhpjphefaaDoorQ1
import Derived.WalkSmall
import Derived.Lib.AppendIntMem
set_option linter.unusedSimpArgs false
set_option linter.unusedVariables false
set_option linter.unusedSectionVars false
namespace Go.Proofs.YtgcffmhpjphefaaDoor
open Go Go.AE
set_option linter.defProp false

/-- The program, as the evaluator reads it. -/
def tab0 : ExtTab := [(32, add64Entry)]
theorem tab0_ok : ExtOK Tryd.prog tab0 := extOK_cons Tryd.f32 Tryd.func32 (by kernel_rfl) (by kernel_rfl) (by kernel_rfl) (by kernel_rfl) ((extOK_nil _))
noncomputable def E0 : Env := envOf Tryd.prog tab0 noHook
theorem E0_ok : EnvOK E0 Tryd.prog := envOf_ok tab0_ok
theorem E0_ro {Z : Go.AE.Road} : RoadRo Z E0 := fun _ _ _ _ _ _ h => by cases h
theorem E0_ron {b : Nat} : E0.ro b = none := rfl
theorem mixed : Tryd.prog.follows .mixedOrders = true := by kernel_rfl

noncomputable def t3 : TIn := match tiOf Tryd.prog 3 with
  | some i => i
  | none => ⟨.bool, 0, 0, none, #[], none⟩
theorem ti3 : E0.ti 3 = some t3 := by kernel_rfl
theorem t3_desc : t3.desc = TypeDesc.int IntKind.i64 := by kernel_rfl
theorem t3_size : t3.size = 1 := by kernel_rfl
theorem t3_zero : t3.zero = some (.int .i64 0) := by kernel_rfl
theorem t3_bytes : t3.bytes = 8 := by kernel_rfl
noncomputable def t4 : TIn := match tiOf Tryd.prog 4 with
  | some i => i
  | none => ⟨.bool, 0, 0, none, #[], none⟩
theorem ti4 : E0.ti 4 = some t4 := by kernel_rfl
theorem t4_desc : t4.desc = TypeDesc.bool := by kernel_rfl
theorem t4_size : t4.size = 1 := by kernel_rfl
theorem t4_zero : t4.zero = some (.bool false) := by kernel_rfl
theorem t4_bytes : t4.bytes = 1 := by kernel_rfl
noncomputable def t9 : TIn := match tiOf Tryd.prog 9 with
  | some i => i
  | none => ⟨.bool, 0, 0, none, #[], none⟩
theorem ti9 : E0.ti 9 = some t9 := by kernel_rfl
theorem t9_desc : t9.desc = TypeDesc.string := by kernel_rfl
theorem t9_size : t9.size = 1 := by kernel_rfl
theorem t9_zero : t9.zero = some (.string ByteArray.empty) := by kernel_rfl
theorem t9_bytes : t9.bytes = 16 := by kernel_rfl
noncomputable def t22 : TIn := match tiOf Tryd.prog 22 with
  | some i => i
  | none => ⟨.bool, 0, 0, none, #[], none⟩
theorem ti22 : E0.ti 22 = some t22 := by kernel_rfl
theorem t22_desc : t22.desc = TypeDesc.int IntKind.u64 := by kernel_rfl
theorem t22_size : t22.size = 1 := by kernel_rfl
theorem t22_zero : t22.zero = some (.int .u64 0) := by kernel_rfl
theorem t22_bytes : t22.bytes = 8 := by kernel_rfl
noncomputable def t2 : TIn := match tiOf Tryd.prog 2 with
  | some i => i
  | none => ⟨.bool, 0, 0, none, #[], none⟩
theorem ti2 : E0.ti 2 = some t2 := by kernel_rfl
theorem t2_desc : t2.desc = TypeDesc.int IntKind.i64 := by kernel_rfl
theorem t2_size : t2.size = 1 := by kernel_rfl
theorem t2_zero : t2.zero = some (.int .i64 0) := by kernel_rfl
theorem t2_bytes : t2.bytes = 8 := by kernel_rfl
noncomputable def t23 : TIn := match tiOf Tryd.prog 23 with
  | some i => i
  | none => ⟨.bool, 0, 0, none, #[], none⟩
theorem ti23 : E0.ti 23 = some t23 := by kernel_rfl
theorem t23_desc : t23.desc = TypeDesc.slice 36 := by kernel_rfl
theorem t23_size : t23.size = 1 := by kernel_rfl
theorem t23_zero : t23.zero = some (.slice none 0 0) := by kernel_rfl
theorem t23_bytes : t23.bytes = 24 := by kernel_rfl
noncomputable def t36 : TIn := match tiOf Tryd.prog 36 with
  | some i => i
  | none => ⟨.bool, 0, 0, none, #[], none⟩
theorem ti36 : E0.ti 36 = some t36 := by kernel_rfl
theorem t36_desc : t36.desc = TypeDesc.struct #[{ name := "Kind", type := 34, offset := 0, embedded := false, tag := "", pkgPath := "", byteOffset := 0 }, { name := "Key", type := 9, offset := 1, embedded := false, tag := "", pkgPath := "", byteOffset := 8 }, { name := "Value", type := 9, offset := 2, embedded := false, tag := "", pkgPath := "", byteOffset := 24 }, { name := "N", type := 2, offset := 3, embedded := false, tag := "", pkgPath := "", byteOffset := 40 }] := by kernel_rfl
theorem t36_size : t36.size = 4 := by kernel_rfl
theorem t36_zero : t36.zero = some (.agg #[.int .i64 0, .string ByteArray.empty, .string ByteArray.empty, .int .i64 0]) := by kernel_rfl
theorem t36_bytes : t36.bytes = 48 := by kernel_rfl
noncomputable def t34 : TIn := match tiOf Tryd.prog 34 with
  | some i => i
  | none => ⟨.bool, 0, 0, none, #[], none⟩
theorem ti34 : E0.ti 34 = some t34 := by kernel_rfl
theorem t34_desc : t34.desc = TypeDesc.int IntKind.i64 := by kernel_rfl
theorem t34_size : t34.size = 1 := by kernel_rfl
theorem t34_zero : t34.zero = some (.int .i64 0) := by kernel_rfl
theorem t34_bytes : t34.bytes = 8 := by kernel_rfl
noncomputable def t25 : TIn := match tiOf Tryd.prog 25 with
  | some i => i
  | none => ⟨.bool, 0, 0, none, #[], none⟩
theorem ti25 : E0.ti 25 = some t25 := by kernel_rfl
theorem t25_desc : t25.desc = TypeDesc.struct #[{ name := "Name", type := 9, offset := 0, embedded := false, tag := "", pkgPath := "", byteOffset := 0 }, { name := "Version", type := 3, offset := 1, embedded := false, tag := "", pkgPath := "", byteOffset := 16 }, { name := "At", type := 22, offset := 2, embedded := false, tag := "", pkgPath := "", byteOffset := 24 }, { name := "Every", type := 22, offset := 3, embedded := false, tag := "", pkgPath := "", byteOffset := 32 }, { name := "Do", type := 23, offset := 4, embedded := false, tag := "", pkgPath := "", byteOffset := 40 }] := by kernel_rfl
theorem t25_size : t25.size = 5 := by kernel_rfl
theorem t25_zero : t25.zero = some (.agg #[.string ByteArray.empty, .int .i64 0, .int .u64 0, .int .u64 0, .slice none 0 0]) := by kernel_rfl
theorem t25_bytes : t25.bytes = 64 := by kernel_rfl
noncomputable def t49 : TIn := match tiOf Tryd.prog 49 with
  | some i => i
  | none => ⟨.bool, 0, 0, none, #[], none⟩
theorem ti49 : E0.ti 49 = some t49 := by kernel_rfl
theorem t49_desc : t49.desc = TypeDesc.array 2 22 := by kernel_rfl
theorem t49_size : t49.size = 2 := by kernel_rfl
theorem t49_zero : t49.zero = some (.agg #[.int .u64 0, .int .u64 0]) := by kernel_rfl
theorem t49_bytes : t49.bytes = 16 := by kernel_rfl
noncomputable def t39 : TIn := match tiOf Tryd.prog 39 with
  | some i => i
  | none => ⟨.bool, 0, 0, none, #[], none⟩
theorem ti39 : E0.ti 39 = some t39 := by kernel_rfl
theorem t39_desc : t39.desc = TypeDesc.int IntKind.i64 := by kernel_rfl
theorem t39_size : t39.size = 1 := by kernel_rfl
theorem t39_zero : t39.zero = some (.int .i64 0) := by kernel_rfl
theorem t39_bytes : t39.bytes = 8 := by kernel_rfl
noncomputable def t55 : TIn := match tiOf Tryd.prog 55 with
  | some i => i
  | none => ⟨.bool, 0, 0, none, #[], none⟩
theorem ti55 : E0.ti 55 = some t55 := by kernel_rfl
theorem t55_desc : t55.desc = TypeDesc.pointer 86 := by kernel_rfl
theorem t55_size : t55.size = 1 := by kernel_rfl
theorem t55_zero : t55.zero = some (.pointer none) := by kernel_rfl
theorem t55_bytes : t55.bytes = 8 := by kernel_rfl
noncomputable def t86 : TIn := match tiOf Tryd.prog 86 with
  | some i => i
  | none => ⟨.bool, 0, 0, none, #[], none⟩
theorem ti86 : E0.ti 86 = some t86 := by kernel_rfl
theorem t86_desc : t86.desc = TypeDesc.struct #[{ name := "now", type := 22, offset := 0, embedded := false, tag := "", pkgPath := "belfry/wheel", byteOffset := 0 }, { name := "all", type := 82, offset := 1, embedded := false, tag := "", pkgPath := "belfry/wheel", byteOffset := 8 }, { name := "slots", type := 84, offset := 2, embedded := false, tag := "", pkgPath := "belfry/wheel", byteOffset := 16 }, { name := "far", type := 82, offset := 66, embedded := false, tag := "", pkgPath := "belfry/wheel", byteOffset := 528 }] := by kernel_rfl
theorem t86_size : t86.size = 67 := by kernel_rfl
theorem t86_zero : t86.zero = some (.agg #[.int .u64 0, .map none, .map none, .map none, .map none, .map none, .map none, .map none, .map none, .map none, .map none, .map none, .map none, .map none, .map none, .map none, .map none, .map none, .map none, .map none, .map none, .map none, .map none, .map none, .map none, .map none, .map none, .map none, .map none, .map none, .map none, .map none, .map none, .map none, .map none, .map none, .map none, .map none, .map none, .map none, .map none, .map none, .map none, .map none, .map none, .map none, .map none, .map none, .map none, .map none, .map none, .map none, .map none, .map none, .map none, .map none, .map none, .map none, .map none, .map none, .map none, .map none, .map none, .map none, .map none, .map none, .map none]) := by kernel_rfl
theorem t86_bytes : t86.bytes = 536 := by kernel_rfl
noncomputable def t82 : TIn := match tiOf Tryd.prog 82 with
  | some i => i
  | none => ⟨.bool, 0, 0, none, #[], none⟩
theorem ti82 : E0.ti 82 = some t82 := by kernel_rfl
theorem t82_desc : t82.desc = TypeDesc.map 9 22 := by kernel_rfl
theorem t82_size : t82.size = 1 := by kernel_rfl
theorem t82_zero : t82.zero = some (.map none) := by kernel_rfl
theorem t82_bytes : t82.bytes = 8 := by kernel_rfl
noncomputable def t83 : TIn := match tiOf Tryd.prog 83 with
  | some i => i
  | none => ⟨.bool, 0, 0, none, #[], none⟩
theorem ti83 : E0.ti 83 = some t83 := by kernel_rfl
theorem t83_desc : t83.desc = TypeDesc.array 16 82 := by kernel_rfl
theorem t83_size : t83.size = 16 := by kernel_rfl
theorem t83_zero : t83.zero = some (.agg #[.map none, .map none, .map none, .map none, .map none, .map none, .map none, .map none, .map none, .map none, .map none, .map none, .map none, .map none, .map none, .map none]) := by kernel_rfl
theorem t83_bytes : t83.bytes = 128 := by kernel_rfl
noncomputable def t84 : TIn := match tiOf Tryd.prog 84 with
  | some i => i
  | none => ⟨.bool, 0, 0, none, #[], none⟩
theorem ti84 : E0.ti 84 = some t84 := by kernel_rfl
theorem t84_desc : t84.desc = TypeDesc.array 4 83 := by kernel_rfl
theorem t84_size : t84.size = 64 := by kernel_rfl
theorem t84_zero : t84.zero = some (.agg #[.map none, .map none, .map none, .map none, .map none, .map none, .map none, .map none, .map none, .map none, .map none, .map none, .map none, .map none, .map none, .map none, .map none, .map none, .map none, .map none, .map none, .map none, .map none, .map none, .map none, .map none, .map none, .map none, .map none, .map none, .map none, .map none, .map none, .map none, .map none, .map none, .map none, .map none, .map none, .map none, .map none, .map none, .map none, .map none, .map none, .map none, .map none, .map none, .map none, .map none, .map none, .map none, .map none, .map none, .map none, .map none, .map none, .map none, .map none, .map none, .map none, .map none, .map none, .map none]) := by kernel_rfl
theorem t84_bytes : t84.bytes = 512 := by kernel_rfl
noncomputable def t67 : TIn := match tiOf Tryd.prog 67 with
  | some i => i
  | none => ⟨.bool, 0, 0, none, #[], none⟩
theorem ti67 : E0.ti 67 = some t67 := by kernel_rfl
theorem t67_desc : t67.desc = TypeDesc.struct #[{ name := "Name", type := 9, offset := 0, embedded := false, tag := "", pkgPath := "", byteOffset := 0 }, { name := "At", type := 22, offset := 1, embedded := false, tag := "", pkgPath := "", byteOffset := 16 }] := by kernel_rfl
theorem t67_size : t67.size = 2 := by kernel_rfl
theorem t67_zero : t67.zero = some (.agg #[.string ByteArray.empty, .int .u64 0]) := by kernel_rfl
theorem t67_bytes : t67.bytes = 24 := by kernel_rfl
noncomputable def t64 : TIn := match tiOf Tryd.prog 64 with
  | some i => i
  | none => ⟨.bool, 0, 0, none, #[], none⟩
theorem ti64 : E0.ti 64 = some t64 := by kernel_rfl
theorem t64_desc : t64.desc = TypeDesc.slice 67 := by kernel_rfl
theorem t64_size : t64.size = 1 := by kernel_rfl
theorem t64_zero : t64.zero = some (.slice none 0 0) := by kernel_rfl
theorem t64_bytes : t64.bytes = 24 := by kernel_rfl
noncomputable def t143 : TIn := match tiOf Tryd.prog 143 with
  | some i => i
  | none => ⟨.bool, 0, 0, none, #[], none⟩
theorem ti143 : E0.ti 143 = some t143 := by kernel_rfl
theorem t143_desc : t143.desc = TypeDesc.slice 3 := by kernel_rfl
theorem t143_size : t143.size = 1 := by kernel_rfl
theorem t143_zero : t143.zero = some (.slice none 0 0) := by kernel_rfl
theorem t143_bytes : t143.bytes = 24 := by kernel_rfl
theorem fn3 : E0.fn 3 = some Tryd.f3 := by kernel_rfl
theorem fn5 : E0.fn 5 = some Tryd.f5 := by kernel_rfl
theorem fn6 : E0.fn 6 = some Tryd.f6 := by kernel_rfl
theorem fn7 : E0.fn 7 = some Tryd.f7 := by kernel_rfl
theorem fn8 : E0.fn 8 = some Tryd.f8 := by kernel_rfl
theorem fn9 : E0.fn 9 = some Tryd.f9 := by kernel_rfl
theorem fn17 : E0.fn 17 = some Tryd.f17 := by kernel_rfl
theorem fn18 : E0.fn 18 = some Tryd.f18 := by kernel_rfl
theorem fn19 : E0.fn 19 = some Tryd.f19 := by kernel_rfl
theorem fn20 : E0.fn 20 = some Tryd.f20 := by kernel_rfl
theorem fn31 : E0.fn 31 = some Tryd.f31 := by kernel_rfl
theorem fn32 : E0.fn 32 = none := by kernel_rfl
theorem fn33 : E0.fn 33 = some Tryd.f33 := by kernel_rfl
theorem fn22 : E0.fn 22 = some Tryd.f22 := by kernel_rfl
theorem fn25 : E0.fn 25 = some Tryd.f25 := by kernel_rfl
theorem fn28 : E0.fn 28 = some Tryd.f28 := by kernel_rfl
theorem fn50 : E0.fn 50 = some Tryd.f50 := by kernel_rfl
theorem fn37 : E0.fn 37 = some Tryd.f37 := by kernel_rfl
theorem fn39 : E0.fn 39 = some Tryd.f39 := by kernel_rfl
theorem fn43 : E0.fn 43 = some Tryd.f43 := by kernel_rfl
theorem fn44 : E0.fn 44 = some Tryd.f44 := by kernel_rfl
theorem fn45 : E0.fn 45 = some Tryd.f45 := by kernel_rfl
theorem fn56 : E0.fn 56 = some Tryd.f56 := by kernel_rfl
theorem fn57 : E0.fn 57 = some Tryd.f57 := by kernel_rfl
theorem fn109 : E0.fn 109 = some Tryd.f109 := by kernel_rfl
theorem fn66 : E0.fn 66 = some Tryd.f66 := by kernel_rfl
theorem fn67 : E0.fn 67 = some Tryd.f67 := by kernel_rfl
theorem fn68 : E0.fn 68 = some Tryd.f68 := by kernel_rfl
theorem fn83 : E0.fn 83 = some Tryd.f83 := by kernel_rfl
theorem fn84 : E0.fn 84 = some Tryd.f84 := by kernel_rfl
def w_0 := And.intro @ti3 (And.intro @t3_desc (And.intro @t3_size (And.intro @t3_zero (And.intro @ti4 (And.intro @t4_desc (And.intro @t4_size (And.intro @t4_zero (And.intro @ti9 (And.intro @t9_desc (And.intro @t9_size (And.intro @t9_zero (And.intro @ti22 (And.intro @t22_desc (And.intro @t22_size (And.intro @t22_zero (And.intro @ti2 (And.intro @t2_desc (And.intro @t2_size (And.intro @t2_zero (And.intro @ti23 (And.intro @t23_desc (And.intro @t23_size (And.intro @t23_zero (And.intro @ti36 (And.intro @t36_desc (And.intro @t36_size (And.intro @t36_zero (And.intro @ti34 (And.intro @t34_desc (And.intro @t34_size (And.intro @t34_zero (And.intro @ti25 (And.intro @t25_desc (And.intro @t25_size (And.intro @t25_zero (And.intro @ti49 (And.intro @t49_desc (And.intro @t49_size (And.intro @t49_zero (And.intro @ti39 (And.intro @t39_desc (And.intro @t39_size (@t39_zero)))))))))))))))))))))))))))))))))))))))))))
def w_a := And.intro @fn3 (And.intro @fn5 (And.intro @fn6 (And.intro @fn7 (And.intro @fn8 (And.intro @fn9 (And.intro @fn17 (And.intro @fn18 (And.intro @fn19 (And.intro @fn20 (And.intro @fn31 (And.intro @fn32 (@fn33))))))))))))
def w_wh := And.intro @ti55 (And.intro @t55_desc (And.intro @t55_size (And.intro @t55_zero (And.intro @ti86 (And.intro @t86_desc (And.intro @t86_size (And.intro @t86_zero (And.intro @ti82 (And.intro @t82_desc (And.intro @t82_size (And.intro @t82_zero (And.intro @ti83 (And.intro @t83_desc (And.intro @t83_size (And.intro @t83_zero (And.intro @ti84 (And.intro @t84_desc (And.intro @t84_size (And.intro @t84_zero (And.intro @ti67 (And.intro @t67_desc (And.intro @t67_size (And.intro @t67_zero (And.intro @ti64 (And.intro @t64_desc (And.intro @t64_size (And.intro @t64_zero (And.intro @fn22 (And.intro @fn25 (And.intro @fn28 (And.intro @fn50 (And.intro @fn37 (And.intro @fn39 (And.intro @fn43 (And.intro @fn44 (And.intro @fn45 (And.intro @fn56 (And.intro @fn57 (And.intro @fn109 (And.intro @fn66 (And.intro @fn67 (And.intro @fn68 (And.intro @fn83 (And.intro @fn84 (And.intro @ti143 (And.intro @t143_desc (And.intro @t143_size (@t143_zero))))))))))))))))))))))))))))))))))))))))))))))))
end Go.Proofs.YtgcffmhpjphefaaDoor

/- More of what the evaluator reads of the program. -/
namespace Go.Proofs.YtgcffmhpjphefaaDoor
open Go Go.AE
set_option linter.defProp false
noncomputable def t5 : TIn := match tiOf Tryd.prog 5 with
  | some i => i
  | none => ⟨.bool, 0, 0, none, #[], none⟩
theorem ti5 : E0.ti 5 = some t5 := by kernel_rfl
theorem t5_desc : t5.desc = TypeDesc.int IntKind.u8 := by kernel_rfl
theorem t5_size : t5.size = 1 := by kernel_rfl
theorem t5_zero : t5.zero = some (.int .u8 0) := by kernel_rfl
theorem t5_bytes : t5.bytes = 1 := by kernel_rfl
noncomputable def t59 : TIn := match tiOf Tryd.prog 59 with
  | some i => i
  | none => ⟨.bool, 0, 0, none, #[], none⟩
theorem ti59 : E0.ti 59 = some t59 := by kernel_rfl
theorem t59_desc : t59.desc = TypeDesc.slice 5 := by kernel_rfl
theorem t59_size : t59.size = 1 := by kernel_rfl
theorem t59_zero : t59.zero = some (.slice none 0 0) := by kernel_rfl
theorem t59_bytes : t59.bytes = 24 := by kernel_rfl
noncomputable def t90 : TIn := match tiOf Tryd.prog 90 with
  | some i => i
  | none => ⟨.bool, 0, 0, none, #[], none⟩
theorem ti90 : E0.ti 90 = some t90 := by kernel_rfl
theorem t90_desc : t90.desc = TypeDesc.struct #[{ name := "Tag", type := 3, offset := 0, embedded := false, tag := "", pkgPath := "", byteOffset := 0 }, { name := "Data", type := 59, offset := 1, embedded := false, tag := "", pkgPath := "", byteOffset := 8 }] := by kernel_rfl
theorem t90_size : t90.size = 2 := by kernel_rfl
theorem t90_zero : t90.zero = some (.agg #[.int .i64 0, .slice none 0 0]) := by kernel_rfl
theorem t90_bytes : t90.bytes = 32 := by kernel_rfl
noncomputable def t87 : TIn := match tiOf Tryd.prog 87 with
  | some i => i
  | none => ⟨.bool, 0, 0, none, #[], none⟩
theorem ti87 : E0.ti 87 = some t87 := by kernel_rfl
theorem t87_desc : t87.desc = TypeDesc.slice 90 := by kernel_rfl
theorem t87_size : t87.size = 1 := by kernel_rfl
theorem t87_zero : t87.zero = some (.slice none 0 0) := by kernel_rfl
theorem t87_bytes : t87.bytes = 24 := by kernel_rfl
noncomputable def t53 : TIn := match tiOf Tryd.prog 53 with
  | some i => i
  | none => ⟨.bool, 0, 0, none, #[], none⟩
theorem ti53 : E0.ti 53 = some t53 := by kernel_rfl
theorem t53_desc : t53.desc = TypeDesc.pointer 80 := by kernel_rfl
theorem t53_size : t53.size = 1 := by kernel_rfl
theorem t53_zero : t53.zero = some (.pointer none) := by kernel_rfl
theorem t53_bytes : t53.bytes = 8 := by kernel_rfl
noncomputable def t80 : TIn := match tiOf Tryd.prog 80 with
  | some i => i
  | none => ⟨.bool, 0, 0, none, #[], none⟩
theorem ti80 : E0.ti 80 = some t80 := by kernel_rfl
theorem t80_desc : t80.desc = TypeDesc.struct #[{ name := "x", type := 75, offset := 0, embedded := false, tag := "", pkgPath := "belfry/queue", byteOffset := 0 }] := by kernel_rfl
theorem t80_size : t80.size = 1 := by kernel_rfl
theorem t80_zero : t80.zero = some (.agg #[.pointer none]) := by kernel_rfl
theorem t80_bytes : t80.bytes = 8 := by kernel_rfl
noncomputable def t75 : TIn := match tiOf Tryd.prog 75 with
  | some i => i
  | none => ⟨.bool, 0, 0, none, #[], none⟩
theorem ti75 : E0.ti 75 = some t75 := by kernel_rfl
theorem t75_desc : t75.desc = TypeDesc.pointer 78 := by kernel_rfl
theorem t75_size : t75.size = 1 := by kernel_rfl
theorem t75_zero : t75.zero = some (.pointer none) := by kernel_rfl
theorem t75_bytes : t75.bytes = 8 := by kernel_rfl
noncomputable def t78 : TIn := match tiOf Tryd.prog 78 with
  | some i => i
  | none => ⟨.bool, 0, 0, none, #[], none⟩
theorem ti78 : E0.ti 78 = some t78 := by kernel_rfl
theorem t78_desc : t78.desc = TypeDesc.struct #[{ name := "l", type := 68, offset := 0, embedded := false, tag := "", pkgPath := "belfry/queue", byteOffset := 0 }, { name := "where", type := 76, offset := 1, embedded := false, tag := "", pkgPath := "belfry/queue", byteOffset := 24 }] := by kernel_rfl
theorem t78_size : t78.size = 2 := by kernel_rfl
theorem t78_zero : t78.zero = some (.agg #[.slice none 0 0, .map none]) := by kernel_rfl
theorem t78_bytes : t78.bytes = 32 := by kernel_rfl
noncomputable def t71 : TIn := match tiOf Tryd.prog 71 with
  | some i => i
  | none => ⟨.bool, 0, 0, none, #[], none⟩
theorem ti71 : E0.ti 71 = some t71 := by kernel_rfl
theorem t71_desc : t71.desc = TypeDesc.struct #[{ name := "Name", type := 9, offset := 0, embedded := false, tag := "", pkgPath := "", byteOffset := 0 }, { name := "At", type := 22, offset := 1, embedded := false, tag := "", pkgPath := "", byteOffset := 16 }] := by kernel_rfl
theorem t71_size : t71.size = 2 := by kernel_rfl
theorem t71_zero : t71.zero = some (.agg #[.string ByteArray.empty, .int .u64 0]) := by kernel_rfl
theorem t71_bytes : t71.bytes = 24 := by kernel_rfl
noncomputable def t68 : TIn := match tiOf Tryd.prog 68 with
  | some i => i
  | none => ⟨.bool, 0, 0, none, #[], none⟩
theorem ti68 : E0.ti 68 = some t68 := by kernel_rfl
theorem t68_desc : t68.desc = TypeDesc.slice 71 := by kernel_rfl
theorem t68_size : t68.size = 1 := by kernel_rfl
theorem t68_zero : t68.zero = some (.slice none 0 0) := by kernel_rfl
theorem t68_bytes : t68.bytes = 24 := by kernel_rfl
noncomputable def t76 : TIn := match tiOf Tryd.prog 76 with
  | some i => i
  | none => ⟨.bool, 0, 0, none, #[], none⟩
theorem ti76 : E0.ti 76 = some t76 := by kernel_rfl
theorem t76_desc : t76.desc = TypeDesc.map 9 3 := by kernel_rfl
theorem t76_size : t76.size = 1 := by kernel_rfl
theorem t76_zero : t76.zero = some (.map none) := by kernel_rfl
theorem t76_bytes : t76.bytes = 8 := by kernel_rfl
noncomputable def t20 : TIn := match tiOf Tryd.prog 20 with
  | some i => i
  | none => ⟨.bool, 0, 0, none, #[], none⟩
theorem ti20 : E0.ti 20 = some t20 := by kernel_rfl
theorem t20_desc : t20.desc = TypeDesc.interface #[] := by kernel_rfl
theorem t20_size : t20.size = 1 := by kernel_rfl
theorem t20_zero : t20.zero = some (.nilIface) := by kernel_rfl
theorem t20_bytes : t20.bytes = 16 := by kernel_rfl
noncomputable def t107 : TIn := match tiOf Tryd.prog 107 with
  | some i => i
  | none => ⟨.bool, 0, 0, none, #[], none⟩
theorem ti107 : E0.ti 107 = some t107 := by kernel_rfl
theorem t107_desc : t107.desc = TypeDesc.interface #[("Len", 109), ("Less", 123), ("Pop", 122), ("Push", 110), ("Swap", 121)] := by kernel_rfl
theorem t107_size : t107.size = 1 := by kernel_rfl
theorem t107_zero : t107.zero = some (.nilIface) := by kernel_rfl
theorem t107_bytes : t107.bytes = 16 := by kernel_rfl
noncomputable def t37 : TIn := match tiOf Tryd.prog 37 with
  | some i => i
  | none => ⟨.bool, 0, 0, none, #[], none⟩
theorem ti37 : E0.ti 37 = some t37 := by kernel_rfl
theorem t37_desc : t37.desc = TypeDesc.pointer 58 := by kernel_rfl
theorem t37_size : t37.size = 1 := by kernel_rfl
theorem t37_zero : t37.zero = some (.pointer none) := by kernel_rfl
theorem t37_bytes : t37.bytes = 8 := by kernel_rfl
noncomputable def t58 : TIn := match tiOf Tryd.prog 58 with
  | some i => i
  | none => ⟨.bool, 0, 0, none, #[], none⟩
theorem ti58 : E0.ti 58 = some t58 := by kernel_rfl
theorem t58_desc : t58.desc = TypeDesc.struct #[{ name := "all", type := 52, offset := 0, embedded := false, tag := "", pkgPath := "belfry/timers", byteOffset := 0 }, { name := "near", type := 53, offset := 1, embedded := false, tag := "", pkgPath := "belfry/timers", byteOffset := 8 }, { name := "far", type := 55, offset := 2, embedded := false, tag := "", pkgPath := "belfry/timers", byteOffset := 16 }] := by kernel_rfl
theorem t58_size : t58.size = 3 := by kernel_rfl
theorem t58_zero : t58.zero = some (.agg #[.map none, .pointer none, .pointer none]) := by kernel_rfl
theorem t58_bytes : t58.bytes = 24 := by kernel_rfl
noncomputable def t52 : TIn := match tiOf Tryd.prog 52 with
  | some i => i
  | none => ⟨.bool, 0, 0, none, #[], none⟩
theorem ti52 : E0.ti 52 = some t52 := by kernel_rfl
theorem t52_desc : t52.desc = TypeDesc.map 9 25 := by kernel_rfl
theorem t52_size : t52.size = 1 := by kernel_rfl
theorem t52_zero : t52.zero = some (.map none) := by kernel_rfl
theorem t52_bytes : t52.bytes = 8 := by kernel_rfl
noncomputable def t62 : TIn := match tiOf Tryd.prog 62 with
  | some i => i
  | none => ⟨.bool, 0, 0, none, #[], none⟩
theorem ti62 : E0.ti 62 = some t62 := by kernel_rfl
theorem t62_desc : t62.desc = TypeDesc.func #[9] #[4] false := by kernel_rfl
theorem t62_size : t62.size = 1 := by kernel_rfl
theorem t62_zero : t62.zero = some (.nilFunc) := by kernel_rfl
theorem t62_bytes : t62.bytes = 8 := by kernel_rfl
noncomputable def t92 : TIn := match tiOf Tryd.prog 92 with
  | some i => i
  | none => ⟨.bool, 0, 0, none, #[], none⟩
theorem ti92 : E0.ti 92 = some t92 := by kernel_rfl
theorem t92_desc : t92.desc = TypeDesc.slice 62 := by kernel_rfl
theorem t92_size : t92.size = 1 := by kernel_rfl
theorem t92_zero : t92.zero = some (.slice none 0 0) := by kernel_rfl
theorem t92_bytes : t92.bytes = 24 := by kernel_rfl
theorem fn23 : E0.fn 23 = some Tryd.f23 := by kernel_rfl
theorem fn34 : E0.fn 34 = some Tryd.f34 := by kernel_rfl
theorem fn51 : E0.fn 51 = some Tryd.f51 := by kernel_rfl
theorem fn36 : E0.fn 36 = some Tryd.f36 := by kernel_rfl
theorem fn35 : E0.fn 35 = some Tryd.f35 := by kernel_rfl
theorem fn14 : E0.fn 14 = some Tryd.f14 := by kernel_rfl
theorem fn27 : E0.fn 27 = some Tryd.f27 := by kernel_rfl
theorem fn11 : E0.fn 11 = some Tryd.f11 := by kernel_rfl
theorem fn21 : E0.fn 21 = some Tryd.f21 := by kernel_rfl
theorem fn26 : E0.fn 26 = some Tryd.f26 := by kernel_rfl
theorem fn38 : E0.fn 38 = some Tryd.f38 := by kernel_rfl
theorem fn40 : E0.fn 40 = some Tryd.f40 := by kernel_rfl
theorem fn42 : E0.fn 42 = some Tryd.f42 := by kernel_rfl
theorem fn41 : E0.fn 41 = some Tryd.f41 := by kernel_rfl
theorem fn53 : E0.fn 53 = some Tryd.f53 := by kernel_rfl
theorem fn55 : E0.fn 55 = some Tryd.f55 := by kernel_rfl
theorem fn54 : E0.fn 54 = some Tryd.f54 := by kernel_rfl
theorem fn69 : E0.fn 69 = some Tryd.f69 := by kernel_rfl
theorem fn111 : E0.fn 111 = some Tryd.f111 := by kernel_rfl
theorem fn114 : E0.fn 114 = some Tryd.f114 := by kernel_rfl
theorem fn113 : E0.fn 113 = some Tryd.f113 := by kernel_rfl
theorem fn112 : E0.fn 112 = some Tryd.f112 := by kernel_rfl
theorem fn110 : E0.fn 110 = some Tryd.f110 := by kernel_rfl
theorem fn10 : E0.fn 10 = some Tryd.f10 := by kernel_rfl
theorem fn12 : E0.fn 12 = some Tryd.f12 := by kernel_rfl
theorem fn13 : E0.fn 13 = some Tryd.f13 := by kernel_rfl
theorem fn24 : E0.fn 24 = some Tryd.f24 := by kernel_rfl
def w_st := And.intro @ti5 (And.intro @t5_desc (And.intro @t5_size (And.intro @t5_zero (And.intro @ti59 (And.intro @t59_desc (And.intro @t59_size (And.intro @t59_zero (And.intro @ti90 (And.intro @t90_desc (And.intro @t90_size (And.intro @t90_zero (And.intro @ti87 (And.intro @t87_desc (And.intro @t87_size (And.intro @t87_zero (And.intro @fn23 (And.intro @fn34 (And.intro @fn51 (And.intro @fn36 (And.intro @fn35 (And.intro @fn14 (And.intro @fn27 (@fn11)))))))))))))))))))))))
def w_qu := And.intro @ti53 (And.intro @t53_desc (And.intro @t53_size (And.intro @t53_zero (And.intro @ti80 (And.intro @t80_desc (And.intro @t80_size (And.intro @t80_zero (And.intro @ti75 (And.intro @t75_desc (And.intro @t75_size (And.intro @t75_zero (And.intro @ti78 (And.intro @t78_desc (And.intro @t78_size (And.intro @t78_zero (And.intro @ti71 (And.intro @t71_desc (And.intro @t71_size (And.intro @t71_zero (And.intro @ti68 (And.intro @t68_desc (And.intro @t68_size (And.intro @t68_zero (And.intro @ti76 (And.intro @t76_desc (And.intro @t76_size (And.intro @t76_zero (And.intro @ti20 (And.intro @t20_desc (And.intro @t20_size (And.intro @t20_zero (And.intro @ti107 (And.intro @t107_desc (And.intro @t107_size (And.intro @t107_zero (And.intro @fn21 (And.intro @fn26 (And.intro @fn38 (And.intro @fn40 (And.intro @fn42 (And.intro @fn41 (And.intro @fn53 (And.intro @fn55 (And.intro @fn54 (And.intro @fn69 (And.intro @fn111 (And.intro @fn114 (And.intro @fn113 (And.intro @fn112 (@fn110))))))))))))))))))))))))))))))))))))))))))))))))))
def w_tb := And.intro @ti37 (And.intro @t37_desc (And.intro @t37_size (And.intro @t37_zero (And.intro @ti58 (And.intro @t58_desc (And.intro @t58_size (And.intro @t58_zero (And.intro @ti52 (And.intro @t52_desc (And.intro @t52_size (And.intro @t52_zero (And.intro @ti62 (And.intro @t62_desc (And.intro @t62_size (And.intro @t62_zero (And.intro @ti92 (And.intro @t92_desc (And.intro @t92_size (And.intro @t92_zero (And.intro @fn10 (And.intro @fn12 (And.intro @fn13 (@fn24)))))))))))))))))))))))
end Go.Proofs.YtgcffmhpjphefaaDoor

/- Steps: their cells; a step is itself. -/
namespace Go.Proofs.YtgcffmhpjphefaaDoor
open Go Go.AE
set_option maxRecDepth 10000
set_option maxHeartbeats 4000000

/-- A step. -/
structure StepD where
  kind : Int
  key : ByteArray
  val : ByteArray
  n : Int
def scell (y : StepD) : List Value := [.int .i64 y.kind, .string y.key, .string y.val, .int .i64 y.n]
/-- Steps in a slice. -/
abbrev Steps (E : Env) (A : ASt) (S : Nat → Prop) (v : Value) (l : List StepD) : Prop := SlAt E A S 4 v (l.map scell)
theorem scell_len {l : List StepD} : ∀ x ∈ l.map scell, x.length = 4 := by
  intro x hx
  obtain ⟨y, _, rfl⟩ := List.mem_map.1 hx
  rfl
theorem scell_sg : ∀ {l : List StepD}, singles (l.map scell).flatten = true
  | [] => rfl
  | y :: l => by
    rw [List.map_cons, List.flatten_cons]
    exact scell_sg (l := l)

theorem pb {α β : Type} {P : Program} {f : α → Sem β} : ∀ {m : Sem α} {a : α}, pureRun P m = some a → pureRun P (m >>= f) = pureRun P (f a) := by
  intro m
  induction m with
  | pure x => intro a h; cases h; rfl
  | program k ih => intro a h; exact ih P h
  | mark x k ih => intro a h; exact ih h
  | _ => intro a h; cases h
theorem beqB {k : ByteArray} : (k == k) = true := by
  first | exact beq_self_eq_true k | (cases k; simp [BEq.beq]; done) | (show (k.data == k.data) = true; exact beq_self_eq_true _) | (cases k; exact beq_self_eq_true _) | (obtain ⟨d⟩ := k; unfold BEq.beq ByteArray.instBEq; simp [ByteArray.instBEq.beq])
theorem es9 {k : ByteArray} {d : Nat} : pureRun Tryd.prog (Op.equalIn (d + 1) 9 (.string k) (.string k)) = some true := by
  unfold Op.equalIn
  rw [pb (a := .string) (by kernel_rfl)]
  show some (k == k) = some true
  rw [beqB]
theorem ei2 {a : Int} {d : Nat} : pureRun Tryd.prog (Op.equalIn (d + 1) 2 (.int .i64 a) (.int .i64 a)) = some true := by
  unfold Op.equalIn
  rw [pb (a := .int .i64) (by kernel_rfl)]
  show some (a == a) = some true
  simp
theorem ei34 {a : Int} {d : Nat} : pureRun Tryd.prog (Op.equalIn (d + 1) 34 (.int .i64 a) (.int .i64 a)) = some true := by
  unfold Op.equalIn
  rw [pb (a := .int .i64) (by kernel_rfl)]
  show some (a == a) = some true
  simp
theorem eqStep {k s u n} : pureRun Tryd.prog (Op.equal 36 (.agg #[.int .i64 k, .string s, .string u, .int .i64 n]) (.agg #[.int .i64 k, .string s, .string u, .int .i64 n])) = some true := by
  show pureRun Tryd.prog (Op.equalIn (9999 + 1) 36 (.agg #[.int .i64 k, .string s, .string u, .int .i64 n]) (.agg #[.int .i64 k, .string s, .string u, .int .i64 n])) = some true
  unfold Op.equalIn
  have hd := t36_desc
  rw [pb (a := t36.desc) (by kernel_rfl)]
  rw [hd]
  dsimp only
  rw [pb (m := program) (a := Tryd.prog) rfl]
  have h0 : Tryd.prog.stoodInHeld 36 = false := by kernel_rfl
  rw [h0]
  simp only [Bool.false_eq_true, if_false]
  have hp0 : pureRun Tryd.prog (part 34 #[Value.int .i64 k, .string s, .string u, .int .i64 n] 0) = some (.int .i64 k) := by kernel_rfl
  have hp1 : pureRun Tryd.prog (part 9 #[Value.int .i64 k, .string s, .string u, .int .i64 n] 1) = some (.string s) := by kernel_rfl
  have hp2 : pureRun Tryd.prog (part 9 #[Value.int .i64 k, .string s, .string u, .int .i64 n] 2) = some (.string u) := by kernel_rfl
  have hp3 : pureRun Tryd.prog (part 2 #[Value.int .i64 k, .string s, .string u, .int .i64 n] 3) = some (.int .i64 n) := by kernel_rfl
  simp only [List.forIn_toArray, List.forIn_cons, List.forIn_nil, bind_assoc, pure_bind]
  have n1 : ("Kind" = "_") = False := by simp
  have n2 : ("Key" = "_") = False := by simp
  have n3 : ("Value" = "_") = False := by simp
  have n4 : ("N" = "_") = False := by simp
  simp only [ne_eq, n1, n2, n3, n4, not_false_eq_true, if_true, bind_assoc]
  rw [pb hp0, pb hp0, pb (m := Op.equalIn 9999 34 (.int .i64 k) (.int .i64 k)) (ei34 (d := 9998))]
  simp only [Bool.not_true, Bool.false_eq_true, if_false, pure_bind, bind_assoc]
  rw [pb hp1, pb hp1, pb (m := Op.equalIn 9999 9 (.string s) (.string s)) (es9 (d := 9998))]
  simp only [Bool.not_true, Bool.false_eq_true, if_false, pure_bind, bind_assoc]
  rw [pb hp2, pb hp2, pb (m := Op.equalIn 9999 9 (.string u) (.string u)) (es9 (d := 9998))]
  simp only [Bool.not_true, Bool.false_eq_true, if_false, pure_bind, bind_assoc]
  rw [pb hp3, pb hp3, pb (m := Op.equalIn 9999 2 (.int .i64 n) (.int .i64 n)) (ei2 (d := 9998))]
  simp only [Bool.not_true, Bool.false_eq_true, if_false, pure_bind, bind_assoc]
  rfl
theorem neqStep {xo yo : Operand} {k s u n} : aBin2 E0 .neq 36 xo yo (.agg #[.int .i64 k, .string s, .string u, .int .i64 n]) (.agg #[.int .i64 k, .string s, .string u, .int .i64 n]) = some (.bool false) := by
  have e1 : E0.bin .neq 36 xo yo (.agg #[.int .i64 k, .string s, .string u, .int .i64 n]) (.agg #[.int .i64 k, .string s, .string u, .int .i64 n]) = some (.bool false) := by
    show pureRun Tryd.prog (do eqGuard .neq 36 xo yo (.agg #[.int .i64 k, .string s, .string u, .int .i64 n]) (.agg #[.int .i64 k, .string s, .string u, .int .i64 n]); binOp .neq 36 (.agg #[.int .i64 k, .string s, .string u, .int .i64 n]) (.agg #[.int .i64 k, .string s, .string u, .int .i64 n])) = _
    rw [pb (a := ()) (by kernel_rfl)]
    show pureRun Tryd.prog (do pure (Value.bool (!(← Op.equal 36 (.agg #[.int .i64 k, .string s, .string u, .int .i64 n]) (.agg #[.int .i64 k, .string s, .string u, .int .i64 n]))))) = _
    rw [pb eqStep]
    rfl
  have e2 : closed (.agg #[.int .i64 k, .string s, .string u, .int .i64 n]) = true := rfl
  have e3 : aBin E0 .neq 36 xo yo (.agg #[.int .i64 k, .string s, .string u, .int .i64 n]) (.agg #[.int .i64 k, .string s, .string u, .int .i64 n]) = none := by
    simp [aBin, eqV, ti36, t36_desc]
  simp only [aBin2, e3, e1, e2, Bool.and_self, cond_true]
  rfl
end Go.Proofs.YtgcffmhpjphefaaDoor

/- What is a right step. -/
namespace Go.Proofs.YtgcffmhpjphefaaDoor
open Go Go.AE
set_option maxRecDepth 10000
set_option maxHeartbeats 4000000
variable {Z : Go.AE.Road}

def NameOk (s : ByteArray) : Prop := 1 ≤ s.size ∧ s.size ≤ 16
instance (s : ByteArray) : Decidable (NameOk s) := by unfold NameOk; infer_instance
/-- A step that is right. -/
def StepD.good (y : StepD) : Prop := NameOk y.key ∧ ((y.kind = 1 ∧ y.val.size ≤ 60 ∧ y.n = 0) ∨ ((y.kind = 2 ∨ y.kind = 4) ∧ y.val.size = 0 ∧ y.n = 0) ∨ (y.kind = 3 ∧ y.val.size = 0))
instance (y : StepD) : Decidable y.good := by unfold StepD.good; infer_instance
theorem lenS {nm : ByteArray} {A : ASt} : aLen E0 9 (.string nm) A = some (.int .i64 (nm.size : Int)) := by
  simp only [aLen, ti9, t9_desc]; rfl
theorem empty_iff {s : ByteArray} : s = { data := #[] } ↔ s.size = 0 := by
  constructor
  · rintro rfl; rfl
  · intro h
    obtain ⟨d⟩ := s
    have : d.size = 0 := h
    simpa using this
theorem un_not {b : Bool} : aUn .not (.bool b) = some (.bool (!b)) := by rw [aUn]
theorem name_spec {A : ASt} {s : ByteArray} : CallW Z Tryd.prog 51 [.string s] A (fun r A' => r = .bool (decide (NameOk s)) ∧ A' = A) := by
  refine CallW.of_code E0_ok E0_ro fn51 rfl (n := 10) rfl (rs := [.tmp 2]) rfl (by simp) (codeW_ok E0_ok E0_ro ?_)
  by_cases h : s.size = 0
  · have h1 : (s ≠ { data := #[] }) = False := eq_false (by simpa using empty_iff.2 h)
    have h2 : NameOk s = False := eq_false (by unfold NameOk; omega)
    simp only [oneW_next, s_0, s_1, s_2, s_3, s_4, g_0, w_0, w_st, Hands, handsV, resultsV, oneOrTuple, argsT, ev, evs, evPairs, evOpt, closed, flat, nth, aCall, aEnter, notYield, aNilCheck, partV, isAggD, aFieldAddr, aField, aExtract, Option.isNone, aBuiltin, aUn, cond_true, cond_false, cond_dec, if_true, if_false, List.length_cons, List.length_nil, forall_const, implies_true, List.append_nil, List.cons_append, List.nil_append, eq_self, Nat.reduceEqDiff, Nat.reduceAdd, Nat.reduceMul, Nat.reduceSub, Nat.reduceLT, Nat.reduceLeDiff, Nat.reduceBEq, reduceIte, reduceCtorEq, b_sneq, h1, h2, undef, decide_false]
  · have h1 : (s ≠ { data := #[] }) = True := eq_true fun e => h (empty_iff.1 e)
    by_cases h3 : s.size ≤ 16
    · have h2 : NameOk s = True := eq_true (by unfold NameOk; omega)
      have h4 : ((s.size : Int) ≤ 16) = True := eq_true (by omega)
      simp only [oneW_next, s_0, s_1, s_2, s_3, s_4, g_0, w_0, w_st, Hands, handsV, resultsV, oneOrTuple, argsT, ev, evs, evPairs, evOpt, closed, flat, nth, aCall, aEnter, notYield, aNilCheck, partV, isAggD, aFieldAddr, aField, aExtract, Option.isNone, aBuiltin, aUn, cond_true, cond_false, cond_dec, if_true, if_false, List.length_cons, List.length_nil, forall_const, implies_true, List.append_nil, List.cons_append, List.nil_append, eq_self, Nat.reduceEqDiff, Nat.reduceAdd, Nat.reduceMul, Nat.reduceSub, Nat.reduceLT, Nat.reduceLeDiff, Nat.reduceBEq, reduceIte, reduceCtorEq, b_sneq, lenS, h1, h2, h4, undef, decide_true]
    · have h2 : NameOk s = False := eq_false (by unfold NameOk; omega)
      have h4 : ((s.size : Int) ≤ 16) = False := eq_false (by omega)
      simp only [oneW_next, s_0, s_1, s_2, s_3, s_4, g_0, w_0, w_st, Hands, handsV, resultsV, oneOrTuple, argsT, ev, evs, evPairs, evOpt, closed, flat, nth, aCall, aEnter, notYield, aNilCheck, partV, isAggD, aFieldAddr, aField, aExtract, Option.isNone, aBuiltin, aUn, cond_true, cond_false, cond_dec, if_true, if_false, List.length_cons, List.length_nil, forall_const, implies_true, List.append_nil, List.cons_append, List.nil_append, eq_self, Nat.reduceEqDiff, Nat.reduceAdd, Nat.reduceMul, Nat.reduceSub, Nat.reduceLT, Nat.reduceLeDiff, Nat.reduceBEq, reduceIte, reduceCtorEq, b_sneq, lenS, h1, h2, h4, undef, decide_false]
theorem rname_spec {A : ASt} {s : ByteArray} : CallW Z Tryd.prog 27 [.string s] A (fun r A' => r = .bool (decide (NameOk s)) ∧ A' = A) := by
  refine CallW.of_code E0_ok E0_ro fn27 rfl (n := 11) rfl (rs := [.tmp 2]) rfl (by simp) (codeW_ok E0_ok E0_ro ?_)
  by_cases h : s.size = 0
  · have h1 : ((s.size : Int) ≥ 1) = False := eq_false (by omega)
    have h2 : NameOk s = False := eq_false (by unfold NameOk; omega)
    simp only [oneW_next, s_0, s_1, s_2, s_3, s_4, g_0, w_0, w_st, Hands, handsV, resultsV, oneOrTuple, argsT, ev, evs, evPairs, evOpt, closed, flat, nth, aCall, aEnter, notYield, aNilCheck, partV, isAggD, aFieldAddr, aField, aExtract, Option.isNone, aBuiltin, aUn, cond_true, cond_false, cond_dec, if_true, if_false, List.length_cons, List.length_nil, forall_const, implies_true, List.append_nil, List.cons_append, List.nil_append, eq_self, Nat.reduceEqDiff, Nat.reduceAdd, Nat.reduceMul, Nat.reduceSub, Nat.reduceLT, Nat.reduceLeDiff, Nat.reduceBEq, reduceIte, reduceCtorEq, lenS, h1, h2, undef, decide_false]
  · have h1 : ((s.size : Int) ≥ 1) = True := eq_true (by omega)
    by_cases h3 : s.size ≤ 16
    · have h2 : NameOk s = True := eq_true (by unfold NameOk; omega)
      have h4 : ((s.size : Int) ≤ 16) = True := eq_true (by omega)
      simp only [oneW_next, s_0, s_1, s_2, s_3, s_4, g_0, w_0, w_st, Hands, handsV, resultsV, oneOrTuple, argsT, ev, evs, evPairs, evOpt, closed, flat, nth, aCall, aEnter, notYield, aNilCheck, partV, isAggD, aFieldAddr, aField, aExtract, Option.isNone, aBuiltin, aUn, cond_true, cond_false, cond_dec, if_true, if_false, List.length_cons, List.length_nil, forall_const, implies_true, List.append_nil, List.cons_append, List.nil_append, eq_self, Nat.reduceEqDiff, Nat.reduceAdd, Nat.reduceMul, Nat.reduceSub, Nat.reduceLT, Nat.reduceLeDiff, Nat.reduceBEq, reduceIte, reduceCtorEq, lenS, h1, h2, h4, undef, decide_true]
    · have h2 : NameOk s = False := eq_false (by unfold NameOk; omega)
      have h4 : ((s.size : Int) ≤ 16) = False := eq_false (by omega)
      simp only [oneW_next, s_0, s_1, s_2, s_3, s_4, g_0, w_0, w_st, Hands, handsV, resultsV, oneOrTuple, argsT, ev, evs, evPairs, evOpt, closed, flat, nth, aCall, aEnter, notYield, aNilCheck, partV, isAggD, aFieldAddr, aField, aExtract, Option.isNone, aBuiltin, aUn, cond_true, cond_false, cond_dec, if_true, if_false, List.length_cons, List.length_nil, forall_const, implies_true, List.append_nil, List.cons_append, List.nil_append, eq_self, Nat.reduceEqDiff, Nat.reduceAdd, Nat.reduceMul, Nat.reduceSub, Nat.reduceLT, Nat.reduceLeDiff, Nat.reduceBEq, reduceIte, reduceCtorEq, lenS, h1, h2, h4, undef, decide_false]

abbrev stepV (y : StepD) : Value := .agg #[.int .i64 y.kind, .string y.key, .string y.val, .int .i64 y.n]
theorem boxS {y : StepD} : aBox E0 36 (stepV y) = some (.row (scell y) 4 false, ptrTo) := by
  simp only [aBox, ti36, t36_size, Value.cells]
  rfl
theorem right_spec {A : ASt} {y : StepD} : CallW Z Tryd.prog 34 [stepV y] A (fun r A' => r = .bool (decide y.good) ∧ Fr [] A A') := by
  refine CallW.of_code E0_ok E0_ro fn34 rfl (n := 47) rfl (rs := [.tmp 2]) rfl (by simp) (codeW_ok E0_ok E0_ro ?_)
  simp only [oneW_next, s_0, s_1, s_2, s_3, s_4, g_0, w_0, w_st, Hands, handsV, resultsV, oneOrTuple, argsT, ev, evs, evPairs, evOpt, closed, flat, nth, aCall, aEnter, notYield, aNilCheck, partV, isAggD, aFieldAddr, aField, aExtract, Option.isNone, aBuiltin, aUn, cond_true, cond_false, cond_dec, if_true, if_false, List.length_cons, List.length_nil, forall_const, implies_true, List.append_nil, List.cons_append, List.nil_append, eq_self, Nat.reduceEqDiff, Nat.reduceAdd, Nat.reduceMul, Nat.reduceSub, Nat.reduceLT, Nat.reduceLeDiff, Nat.reduceBEq, reduceIte, reduceCtorEq, boxS, ptrTo]
  generalize hCd : ASt.new A _ = C
  have c1 : C.get A.next = some (.row [.int .i64 y.kind, .string y.key, .string y.val, .int .i64 y.n] 4 false) := by rw [← hCd, ASt.get_new, if_pos rfl]; rfl
  have fC : Fr [] A C := ⟨by rw [← hCd, ASt.next_new]; omega, fun b hb _ => by rw [← hCd, ASt.get_new, if_neg (by omega)]⟩
  generalize A.next = p at c1
  clear hCd
  have hg : ∀ b, (b = true ↔ y.good) → Value.bool b = Value.bool (decide y.good) ∧ Fr [] A C := fun b hb => ⟨by rw [Value.bool.injEq, Bool.eq_iff_iff, decide_eq_true_iff]; exact hb, fC⟩

  simp only [oneW_next, s_0, s_1, s_2, s_3, s_4, g_0, w_0, w_st, Hands, handsV, resultsV, oneOrTuple, argsT, ev, evs, evPairs, evOpt, closed, flat, nth, aCall, aEnter, notYield, aNilCheck, partV, isAggD, aFieldAddr, aField, aExtract, Option.isNone, aBuiltin, aUn, cond_true, cond_false, cond_dec, if_true, if_false, List.length_cons, List.length_nil, forall_const, implies_true, List.append_nil, List.cons_append, List.nil_append, eq_self, Nat.reduceEqDiff, Nat.reduceAdd, Nat.reduceMul, Nat.reduceSub, Nat.reduceLT, Nat.reduceLeDiff, Nat.reduceBEq, reduceIte, reduceCtorEq, scell, c1]
  by_cases k1 : y.kind = 1
  · simp only [oneW_next, s_0, s_1, s_2, s_3, s_4, g_0, w_0, w_st, Hands, handsV, resultsV, oneOrTuple, argsT, ev, evs, evPairs, evOpt, closed, flat, nth, aCall, aEnter, notYield, aNilCheck, partV, isAggD, aFieldAddr, aField, aExtract, Option.isNone, aBuiltin, aUn, cond_true, cond_false, cond_dec, if_true, if_false, List.length_cons, List.length_nil, forall_const, implies_true, List.append_nil, List.cons_append, List.nil_append, eq_self, Nat.reduceEqDiff, Nat.reduceAdd, Nat.reduceMul, Nat.reduceSub, Nat.reduceLT, Nat.reduceLeDiff, Nat.reduceBEq, reduceIte, reduceCtorEq, scell, c1, k1]
    refine CallT.mono (CallT.of_call name_spec) ?_
    rintro _ _ ⟨rfl, rfl⟩
    by_cases hn : NameOk y.key
    all_goals by_cases hv : ((y.val.size : Nat) : Int) ≤ 60
    all_goals by_cases h0 : y.n = 0
    all_goals simp only [oneW_next, s_0, s_1, s_2, s_3, s_4, g_0, w_0, w_st, Hands, handsV, resultsV, oneOrTuple, argsT, ev, evs, evPairs, evOpt, closed, flat, nth, aCall, aEnter, notYield, aNilCheck, partV, isAggD, aFieldAddr, aField, aExtract, Option.isNone, aBuiltin, aUn, cond_true, cond_false, cond_dec, if_true, if_false, List.length_cons, List.length_nil, forall_const, implies_true, List.append_nil, List.cons_append, List.nil_append, eq_self, Nat.reduceEqDiff, Nat.reduceAdd, Nat.reduceMul, Nat.reduceSub, Nat.reduceLT, Nat.reduceLeDiff, Nat.reduceBEq, reduceIte, reduceCtorEq, scell, c1, lenS, undef, hn, hv, h0, k1, decide_true, decide_false]
    all_goals refine hg _ ?_
    all_goals unfold StepD.good
    all_goals simp only [hn, k1, h0, true_and, false_and, and_true, and_false, or_false, false_or, iff_true, iff_false, Bool.false_eq_true, Int.reduceEq, not_false_eq_true, true_iff, false_iff]
    all_goals omega
  have k1' : (y.kind = 1) = False := eq_false k1
  by_cases k24 : y.kind = 2 ∨ y.kind = 4
  · have hval : (y.val = { data := #[] }) = (y.val.size = 0) := propext empty_iff
    rcases k24 with k | k
    all_goals simp only [oneW_next, s_0, s_1, s_2, s_3, s_4, g_0, w_0, w_st, Hands, handsV, resultsV, oneOrTuple, argsT, ev, evs, evPairs, evOpt, closed, flat, nth, aCall, aEnter, notYield, aNilCheck, partV, isAggD, aFieldAddr, aField, aExtract, Option.isNone, aBuiltin, aUn, cond_true, cond_false, cond_dec, if_true, if_false, List.length_cons, List.length_nil, forall_const, implies_true, List.append_nil, List.cons_append, List.nil_append, eq_self, Nat.reduceEqDiff, Nat.reduceAdd, Nat.reduceMul, Nat.reduceSub, Nat.reduceLT, Nat.reduceLeDiff, Nat.reduceBEq, reduceIte, reduceCtorEq, scell, c1, k, Int.reduceEq]
    all_goals refine CallT.mono (CallT.of_call name_spec) ?_
    all_goals rintro _ _ ⟨rfl, rfl⟩
    all_goals by_cases hn : NameOk y.key
    all_goals by_cases hv : y.val.size = 0
    all_goals by_cases h0 : y.n = 0
    all_goals simp only [oneW_next, s_0, s_1, s_2, s_3, s_4, g_0, w_0, w_st, Hands, handsV, resultsV, oneOrTuple, argsT, ev, evs, evPairs, evOpt, closed, flat, nth, aCall, aEnter, notYield, aNilCheck, partV, isAggD, aFieldAddr, aField, aExtract, Option.isNone, aBuiltin, aUn, cond_true, cond_false, cond_dec, if_true, if_false, List.length_cons, List.length_nil, forall_const, implies_true, List.append_nil, List.cons_append, List.nil_append, eq_self, Nat.reduceEqDiff, Nat.reduceAdd, Nat.reduceMul, Nat.reduceSub, Nat.reduceLT, Nat.reduceLeDiff, Nat.reduceBEq, reduceIte, reduceCtorEq, scell, c1, b_seql, hval, undef, hn, hv, h0, k, decide_true, decide_false]
    all_goals refine hg _ ?_
    all_goals unfold StepD.good
    all_goals simp only [hn, k, h0, hv, true_and, false_and, and_true, and_false, or_false, or_true, true_or, false_or, iff_true, iff_false, Bool.false_eq_true, Int.reduceEq, not_false_eq_true, true_iff, false_iff]
  have k2' : (y.kind = 2) = False := eq_false fun h => k24 (.inl h)
  have k4' : (y.kind = 4) = False := eq_false fun h => k24 (.inr h)
  by_cases k3 : y.kind = 3
  · have hval : (y.val = { data := #[] }) = (y.val.size = 0) := propext empty_iff
    simp only [oneW_next, s_0, s_1, s_2, s_3, s_4, g_0, w_0, w_st, Hands, handsV, resultsV, oneOrTuple, argsT, ev, evs, evPairs, evOpt, closed, flat, nth, aCall, aEnter, notYield, aNilCheck, partV, isAggD, aFieldAddr, aField, aExtract, Option.isNone, aBuiltin, aUn, cond_true, cond_false, cond_dec, if_true, if_false, List.length_cons, List.length_nil, forall_const, implies_true, List.append_nil, List.cons_append, List.nil_append, eq_self, Nat.reduceEqDiff, Nat.reduceAdd, Nat.reduceMul, Nat.reduceSub, Nat.reduceLT, Nat.reduceLeDiff, Nat.reduceBEq, reduceIte, reduceCtorEq, scell, c1, k3, Int.reduceEq]
    refine CallT.mono (CallT.of_call name_spec) ?_
    rintro _ _ ⟨rfl, rfl⟩
    by_cases hn : NameOk y.key
    all_goals by_cases hv : y.val.size = 0
    all_goals simp only [oneW_next, s_0, s_1, s_2, s_3, s_4, g_0, w_0, w_st, Hands, handsV, resultsV, oneOrTuple, argsT, ev, evs, evPairs, evOpt, closed, flat, nth, aCall, aEnter, notYield, aNilCheck, partV, isAggD, aFieldAddr, aField, aExtract, Option.isNone, aBuiltin, aUn, cond_true, cond_false, cond_dec, if_true, if_false, List.length_cons, List.length_nil, forall_const, implies_true, List.append_nil, List.cons_append, List.nil_append, eq_self, Nat.reduceEqDiff, Nat.reduceAdd, Nat.reduceMul, Nat.reduceSub, Nat.reduceLT, Nat.reduceLeDiff, Nat.reduceBEq, reduceIte, reduceCtorEq, scell, c1, b_seql, hval, undef, hn, hv, k3, decide_true, decide_false]
    all_goals refine hg _ ?_
    all_goals unfold StepD.good
    all_goals simp only [hn, k3, hv, true_and, false_and, and_true, and_false, or_false, or_true, true_or, false_or, iff_true, iff_false, Bool.false_eq_true, Int.reduceEq, not_false_eq_true, true_iff, false_iff]
  have k3' : (y.kind = 3) = False := eq_false k3
  simp only [oneW_next, s_0, s_1, s_2, s_3, s_4, g_0, w_0, w_st, Hands, handsV, resultsV, oneOrTuple, argsT, ev, evs, evPairs, evOpt, closed, flat, nth, aCall, aEnter, notYield, aNilCheck, partV, isAggD, aFieldAddr, aField, aExtract, Option.isNone, aBuiltin, aUn, cond_true, cond_false, cond_dec, if_true, if_false, List.length_cons, List.length_nil, forall_const, implies_true, List.append_nil, List.cons_append, List.nil_append, eq_self, Nat.reduceEqDiff, Nat.reduceAdd, Nat.reduceMul, Nat.reduceSub, Nat.reduceLT, Nat.reduceLeDiff, Nat.reduceBEq, reduceIte, reduceCtorEq, scell, c1, k1', k2', k3', k4']
  refine hg _ ?_
  unfold StepD.good
  simp only [k1', k2', k3', k4', false_and, and_false, or_false, Bool.false_eq_true]
theorem rright_spec {A : ASt} {y : StepD} : CallW Z Tryd.prog 14 [stepV y] A (fun r A' => r = .bool (decide y.good) ∧ Fr [] A A') := by
  refine CallW.of_code E0_ok E0_ro fn14 rfl (n := 45) rfl (rs := [.tmp 2]) rfl (by simp) (codeW_ok E0_ok E0_ro ?_)
  simp only [oneW_next, s_0, s_1, s_2, s_3, s_4, g_0, w_0, w_st, Hands, handsV, resultsV, oneOrTuple, argsT, ev, evs, evPairs, evOpt, closed, flat, nth, aCall, aEnter, notYield, aNilCheck, partV, isAggD, aFieldAddr, aField, aExtract, Option.isNone, aBuiltin, aUn, cond_true, cond_false, cond_dec, if_true, if_false, List.length_cons, List.length_nil, forall_const, implies_true, List.append_nil, List.cons_append, List.nil_append, eq_self, Nat.reduceEqDiff, Nat.reduceAdd, Nat.reduceMul, Nat.reduceSub, Nat.reduceLT, Nat.reduceLeDiff, Nat.reduceBEq, reduceIte, reduceCtorEq, boxS, ptrTo]
  generalize hCd : ASt.new A _ = C
  have c1 : C.get A.next = some (.row [.int .i64 y.kind, .string y.key, .string y.val, .int .i64 y.n] 4 false) := by rw [← hCd, ASt.get_new, if_pos rfl]; rfl
  have fC : Fr [] A C := ⟨by rw [← hCd, ASt.next_new]; omega, fun b hb _ => by rw [← hCd, ASt.get_new, if_neg (by omega)]⟩
  generalize A.next = p at c1
  clear hCd
  have hg : ∀ b, (b = true ↔ y.good) → Value.bool b = Value.bool (decide y.good) ∧ Fr [] A C := fun b hb => ⟨by rw [Value.bool.injEq, Bool.eq_iff_iff, decide_eq_true_iff]; exact hb, fC⟩

  simp only [oneW_next, s_0, s_1, s_2, s_3, s_4, g_0, w_0, w_st, Hands, handsV, resultsV, oneOrTuple, argsT, ev, evs, evPairs, evOpt, closed, flat, nth, aCall, aEnter, notYield, aNilCheck, partV, isAggD, aFieldAddr, aField, aExtract, Option.isNone, aBuiltin, aUn, cond_true, cond_false, cond_dec, if_true, if_false, List.length_cons, List.length_nil, forall_const, implies_true, List.append_nil, List.cons_append, List.nil_append, eq_self, Nat.reduceEqDiff, Nat.reduceAdd, Nat.reduceMul, Nat.reduceSub, Nat.reduceLT, Nat.reduceLeDiff, Nat.reduceBEq, reduceIte, reduceCtorEq, scell, c1]
  refine CallT.mono (CallT.of_call rname_spec) ?_
  rintro _ _ ⟨rfl, rfl⟩
  by_cases k1 : y.kind = 1
  · skip
    by_cases hn : NameOk y.key
    all_goals by_cases hv : ((y.val.size : Nat) : Int) ≤ 60
    all_goals by_cases h0 : y.n = 0
    all_goals simp only [oneW_next, s_0, s_1, s_2, s_3, s_4, g_0, w_0, w_st, Hands, handsV, resultsV, oneOrTuple, argsT, ev, evs, evPairs, evOpt, closed, flat, nth, aCall, aEnter, notYield, aNilCheck, partV, isAggD, aFieldAddr, aField, aExtract, Option.isNone, aBuiltin, aUn, cond_true, cond_false, cond_dec, if_true, if_false, List.length_cons, List.length_nil, forall_const, implies_true, List.append_nil, List.cons_append, List.nil_append, eq_self, Nat.reduceEqDiff, Nat.reduceAdd, Nat.reduceMul, Nat.reduceSub, Nat.reduceLT, Nat.reduceLeDiff, Nat.reduceBEq, reduceIte, reduceCtorEq, scell, c1, lenS, undef, hn, hv, h0, k1, decide_true, decide_false]
    all_goals refine hg _ ?_
    all_goals unfold StepD.good
    all_goals simp only [hn, k1, h0, true_and, false_and, and_true, and_false, or_false, false_or, iff_true, iff_false, Bool.false_eq_true, Int.reduceEq, not_false_eq_true, true_iff, false_iff]
    all_goals omega
  have k1' : (y.kind = 1) = False := eq_false k1
  by_cases k24 : y.kind = 2 ∨ y.kind = 4
  · have hval : (y.val = { data := #[] }) = (y.val.size = 0) := propext empty_iff
    rcases k24 with k | k
    all_goals by_cases hn : NameOk y.key
    all_goals by_cases hv : y.val.size = 0
    all_goals by_cases h0 : y.n = 0
    all_goals simp only [oneW_next, s_0, s_1, s_2, s_3, s_4, g_0, w_0, w_st, Hands, handsV, resultsV, oneOrTuple, argsT, ev, evs, evPairs, evOpt, closed, flat, nth, aCall, aEnter, notYield, aNilCheck, partV, isAggD, aFieldAddr, aField, aExtract, Option.isNone, aBuiltin, aUn, cond_true, cond_false, cond_dec, if_true, if_false, List.length_cons, List.length_nil, forall_const, implies_true, List.append_nil, List.cons_append, List.nil_append, eq_self, Nat.reduceEqDiff, Nat.reduceAdd, Nat.reduceMul, Nat.reduceSub, Nat.reduceLT, Nat.reduceLeDiff, Nat.reduceBEq, reduceIte, reduceCtorEq, scell, c1, b_seql, hval, undef, hn, hv, h0, k, Int.reduceEq, decide_true, decide_false]
    all_goals refine hg _ ?_
    all_goals unfold StepD.good
    all_goals simp only [hn, k, h0, hv, true_and, false_and, and_true, and_false, or_false, or_true, true_or, false_or, iff_true, iff_false, Bool.false_eq_true, Int.reduceEq, not_false_eq_true, true_iff, false_iff]
  have k2' : (y.kind = 2) = False := eq_false fun h => k24 (.inl h)
  have k4' : (y.kind = 4) = False := eq_false fun h => k24 (.inr h)
  by_cases k3 : y.kind = 3
  · have hval : (y.val = { data := #[] }) = (y.val.size = 0) := propext empty_iff
    by_cases hn : NameOk y.key
    all_goals by_cases hv : y.val.size = 0
    all_goals simp only [oneW_next, s_0, s_1, s_2, s_3, s_4, g_0, w_0, w_st, Hands, handsV, resultsV, oneOrTuple, argsT, ev, evs, evPairs, evOpt, closed, flat, nth, aCall, aEnter, notYield, aNilCheck, partV, isAggD, aFieldAddr, aField, aExtract, Option.isNone, aBuiltin, aUn, cond_true, cond_false, cond_dec, if_true, if_false, List.length_cons, List.length_nil, forall_const, implies_true, List.append_nil, List.cons_append, List.nil_append, eq_self, Nat.reduceEqDiff, Nat.reduceAdd, Nat.reduceMul, Nat.reduceSub, Nat.reduceLT, Nat.reduceLeDiff, Nat.reduceBEq, reduceIte, reduceCtorEq, scell, c1, b_seql, hval, undef, hn, hv, k3, Int.reduceEq, decide_true, decide_false]
    all_goals refine hg _ ?_
    all_goals unfold StepD.good
    all_goals simp only [hn, k3, hv, true_and, false_and, and_true, and_false, or_false, or_true, true_or, false_or, iff_true, iff_false, Bool.false_eq_true, Int.reduceEq, not_false_eq_true, true_iff, false_iff]
  have k3' : (y.kind = 3) = False := eq_false k3
  simp only [oneW_next, s_0, s_1, s_2, s_3, s_4, g_0, w_0, w_st, Hands, handsV, resultsV, oneOrTuple, argsT, ev, evs, evPairs, evOpt, closed, flat, nth, aCall, aEnter, notYield, aNilCheck, partV, isAggD, aFieldAddr, aField, aExtract, Option.isNone, aBuiltin, aUn, cond_true, cond_false, cond_dec, if_true, if_false, List.length_cons, List.length_nil, forall_const, implies_true, List.append_nil, List.cons_append, List.nil_append, eq_self, Nat.reduceEqDiff, Nat.reduceAdd, Nat.reduceMul, Nat.reduceSub, Nat.reduceLT, Nat.reduceLeDiff, Nat.reduceBEq, reduceIte, reduceCtorEq, scell, c1, k1', k2', k3', k4']
  refine hg _ ?_
  unfold StepD.good
  simp only [k1', k2', k3', k4', false_and, and_false, or_false, Bool.false_eq_true]
end Go.Proofs.YtgcffmhpjphefaaDoor

/- Fields as bytes: whatever they are, if they are not too long. -/
namespace Go.Proofs.YtgcffmhpjphefaaDoor
open Go Go.AE
set_option maxRecDepth 10000
set_option maxHeartbeats 4000000
variable {Z : Go.AE.Road}

theorem wrap_succC {i : Nat} (h : i < 1000000) : IntKind.i64.wrap ((i : Int) + 1) = ((i + 1 : Nat) : Int) := by
  rw [IntKind.wrap_i64]; omega
/-- A field: a tag, and bytes. -/
structure FieldD where
  tag : Int
  d : Value
  n : Nat
  cs : List Value
def fcell (f : FieldD) : List Value := [.int .i64 f.tag, f.d]
def FieldD.ok (A : ASt) (lo : Nat) (f : FieldD) : Prop := 1 ≤ f.tag ∧ f.tag ≤ 255 ∧ OwnS A lo 1 f.n f.d f.cs ∧ f.n ≤ 2000 ∧ singles f.cs = true
theorem FieldD.ok.fr {A B : ASt} {lo : Nat} {f : FieldD} {own : List Nat} (h : f.ok A lo) (hf : Fr own A B) (ho : ∀ b ∈ own, A.next ≤ b) : f.ok B lo :=
  ⟨h.1, h.2.1, h.2.2.1.fr hf (fun b hb hm => by have := (h.2.2.1.low b hb).2; have := ho b hm; omega), h.2.2.2.1, h.2.2.2.2⟩
theorem alF : aAlloc E0 90 = some (.row [.int .i64 0, .slice none 0 0] 2 false, ptrTo) := by
  simp only [aAlloc, w_st]; rfl
theorem stF {A : ASt} {b : Nat} {c0 c1 a0 a1 : Value} {tl : Bool} (h : A.get b = some (.row [c0, c1] 2 tl)) (hs : singles [a0, a1] = true) : aStore E0 90 (.pointer (some ⟨b, 0, none⟩)) (.agg #[a0, a1]) A = some (A.set b (.row [a0, a1] 2 tl)) := by
  have e : (Value.agg #[a0, a1]).cells.toList = [a0, a1] := rfl
  simp only [aStore, h, w_st, e, hs]; rfl
theorem bs59 {a b c : Int} : aBuildSlice E0 59 3 [(0, .int .u8 a), (1, .int .u8 b), (2, .int .u8 c)] = some (.row [.int .u8 a, .int .u8 b, .int .u8 c] 1 false, fun id => .slice (some ⟨id, 0, none⟩) 3 3) := by
  simp only [aBuildSlice, w_st]; rfl
theorem cvU {n : Int} {A : ASt} : aConvert E0 3 5 (.int .i64 n) A = some (.int .u8 (IntKind.u8.wrap n)) := conv_int ti3 ti5 t5_desc
theorem fcU {x : Operand} : freshOp E0 (.convert 3 5 x) = false := by kernel_rfl
theorem qcU {x : Operand} : quietOp E0 (.convert 3 5 x) = true := by kernel_rfl
theorem z5c : closed (.int .u8 0) = true := rfl
theorem z5l : Nat.beq (Value.int .u8 0).cells.toList.length 1 = true := rfl

theorem codec_spec {A : ASt} {S : Nat → Prop} {lo : Nat} {v : Value} {fs : List FieldD} (h : SlAt E0 A S 2 v (fs.map fcell)) (hf : ∀ f ∈ fs, f.ok A lo) (hl : fs.length ≤ 100) :
    CallW Z Tryd.prog 36 [v] A (fun r A' => (∃ o, r = .tuple #[o, .int .i64 0]) ∧ Fr [] A A') := by
  refine CallW.of_code E0_ok E0_ro fn36 rfl (n := 48) rfl (rs := [.tmp 2, .tmp 3]) rfl (by simp) (codeW_ok E0_ok E0_ro ?_)
  have l1 := h.len ti87 t87_desc
  simp only [List.length_map] at l1
  have d200 : ((fs.length : Int) > 200) = False := eq_false (by omega)
  simp only [oneW_next, s_0, s_1, s_2, s_3, s_4, g_0, w_0, w_st, Hands, handsV, resultsV, oneOrTuple, argsT, ev, evs, evPairs, evOpt, closed, flat, nth, aCall, aEnter, notYield, aNilCheck, partV, isAggD, aFieldAddr, aField, aExtract, Option.isNone, aBuiltin, aUn, cond_true, cond_false, cond_dec, if_true, if_false, List.length_cons, List.length_nil, forall_const, implies_true, List.append_nil, List.cons_append, List.nil_append, eq_self, Nat.reduceEqDiff, Nat.reduceAdd, Nat.reduceMul, Nat.reduceSub, Nat.reduceLT, Nat.reduceLeDiff, Nat.reduceBEq, reduceIte, reduceCtorEq, l1, d200]
  refine CodeW.mono (Q := fun o => ∃ T' A' r, o = .fr ⟨.exit 0, T', A'⟩ ∧ tget T' 4 = r ∧ Go.AE.single r = true ∧ Fr [] A A') ?_ ?_
  · refine CodeW.loopR (k := fs.length) (fun k T A' => ∃ i n cs out, k = fs.length - i ∧ i ≤ fs.length ∧ tget T 13 = .int .i64 ((i : Nat) : Int) ∧ tget T 12 = .int .i64 (fs.length : Int) ∧ tget T 11 = v ∧ tget T 4 = out ∧ OwnS A' A.next 1 n out cs ∧ n ≤ 2003 * i ∧ Fr [] A A') ?_ ⟨0, 0, [], .slice none 0 0, rfl, by omega, ?_, ?_, ?_, ?_, .inl ⟨rfl, rfl, rfl⟩, by omega, .refl _ _⟩
    · rintro k T A1 ⟨i, n, cs, out, rfl, hi, u13, u12, u11, u4, ho, hn, f1⟩
      refine codeW_ok E0_ok E0_ro ?_
      by_cases e1 : i < fs.length
      · have d1 : ((i : Int) < (fs.length : Int)) = True := eq_true (by omega)
        have hx : fs[i]? = some fs[i] := List.getElem?_eq_getElem _
        have hmem : fs[i] ∈ fs := List.getElem_mem _
        generalize fs[i] = f at hx hmem
        have hok := (hf f hmem).fr f1 (by simp)
        obtain ⟨b1, p1, c1, hx1, hc1, _, _, hcut1, hnth⟩ := (h.fr f1 (by simp)).ix ti87 t87_desc ti90 t90_size (x := fcell f) (i := i) (by rw [List.getElem?_map, hx]; rfl)
        have hg1 := hc1.g
        simp only [fcell] at hcut1
        simp only [oneW_next, s_0, s_1, s_2, s_3, s_4, g_0, w_0, w_st, Hands, handsV, resultsV, oneOrTuple, argsT, ev, evs, evPairs, evOpt, closed, flat, nth, aCall, aEnter, notYield, aNilCheck, partV, isAggD, aFieldAddr, aField, aExtract, Option.isNone, aBuiltin, aUn, cond_true, cond_false, cond_dec, if_true, if_false, List.length_cons, List.length_nil, forall_const, implies_true, List.append_nil, List.cons_append, List.nil_append, eq_self, Nat.reduceEqDiff, Nat.reduceAdd, Nat.reduceMul, Nat.reduceSub, Nat.reduceLT, Nat.reduceLeDiff, Nat.reduceBEq, reduceIte, reduceCtorEq, u13, u12, u11, d1, hx1, hg1, hcut1, alF, ptrTo]
        have hs1 : singles [.int .i64 f.tag, f.d] = true := by
          show (Go.AE.single f.d && true) = true
          rw [hok.2.2.1.single]; rfl
        have hst := stF (A := A1.new (.row [.int .i64 0, .slice none 0 0] 2 false)) (b := A1.next) (c0 := .int .i64 0) (c1 := .slice none 0 0) (tl := false) (by rw [ASt.get_new, if_pos rfl]) hs1
        simp only [oneW_next, s_0, s_1, s_2, s_3, s_4, g_0, w_0, w_st, Hands, handsV, resultsV, oneOrTuple, argsT, ev, evs, evPairs, evOpt, closed, flat, nth, aCall, aEnter, notYield, aNilCheck, partV, isAggD, aFieldAddr, aField, aExtract, Option.isNone, aBuiltin, aUn, cond_true, cond_false, cond_dec, if_true, if_false, List.length_cons, List.length_nil, forall_const, implies_true, List.append_nil, List.cons_append, List.nil_append, eq_self, Nat.reduceEqDiff, Nat.reduceAdd, Nat.reduceMul, Nat.reduceSub, Nat.reduceLT, Nat.reduceLeDiff, Nat.reduceBEq, reduceIte, reduceCtorEq, hst]
        generalize hCd : (A1.new (.row [.int .i64 0, .slice none 0 0] 2 false)).set A1.next (.row [.int .i64 f.tag, f.d] 2 false) = C
        have c2 : C.get A1.next = some (.row [.int .i64 f.tag, f.d] 2 false) := by rw [← hCd, ASt.get_set, if_pos rfl]
        have fC : Fr [] A1 C := ⟨by rw [← hCd, ASt.next_set, ASt.next_new]; omega, fun b hb _ => by rw [← hCd, ASt.get_set, if_neg (by omega), ASt.get_new, if_neg (by omega)]⟩
        have hCn : C.next = A1.next + 1 := by rw [← hCd, ASt.next_set, ASt.next_new]
        have hpn : A1.next < C.next := by omega
        have hpo : ∀ b ∈ slB out, b < A1.next := fun b hb => (ho.low b hb).2
        generalize hpd : A1.next = p at c2 hpn hpo
        clear hCd hst
        have hokC := hok.fr fC (by simp)
        have hoC := ho.fr fC (by simp)
        have ld := hokC.2.2.1.len ti59 t59_desc
        have g1 : (f.tag < 1) = False := eq_false (by have := hok.1; omega)
        have g2 : (f.tag > 255) = False := eq_false (by have := hok.2.1; omega)
        have g3 : ((f.n : Int) > 2000) = False := eq_false (by have := hok.2.2.2.1; omega)
        simp only [oneW_next, s_0, s_1, s_2, s_3, s_4, g_0, w_0, w_st, Hands, handsV, resultsV, oneOrTuple, argsT, ev, evs, evPairs, evOpt, closed, flat, nth, aCall, aEnter, notYield, aNilCheck, partV, isAggD, aFieldAddr, aField, aExtract, Option.isNone, aBuiltin, aUn, cond_true, cond_false, cond_dec, if_true, if_false, List.length_cons, List.length_nil, forall_const, implies_true, List.append_nil, List.cons_append, List.nil_append, eq_self, Nat.reduceEqDiff, Nat.reduceAdd, Nat.reduceMul, Nat.reduceSub, Nat.reduceLT, Nat.reduceLeDiff, Nat.reduceBEq, reduceIte, reduceCtorEq, u13, u12, u11, c2, ld, g1, g2, g3, undef]
        obtain ⟨q, hq⟩ : ∃ q, ∀ xo yo, aBin2 E0 .shr 3 xo yo (.int .i64 (f.n : Int)) (.int .u64 8) = some (.int .i64 q) := ⟨_, fun _ _ => b_shr (m := 8)⟩
        have vd : valEq f.d f.d = true := hokC.2.2.1.ve
        have vo : valEq out out = true := hoC.ve
        refine CodeW.seqf E0_ok E0_ro mixed noCon_ok [0,1,2,3,4,5,6,7,8,11,12,9,10,13,14] [9,10] [[],[],[],[],[],[],[],[],[],[],[],[],[11],[11],[11]] (by simp only [reorder, reoGo, strip, List.map_cons, List.map_nil, opAt, remap, nth, Option.map, σ, place', nbeq, List.length_cons, List.length_nil, Nat.reduceAdd, Nat.reduceLT, Nat.reduceEqDiff, if_true, if_false, reduceIte]; rfl) (by decide +kernel) (by kernel_rfl) (by kernel_rfl) (by kernel_rfl) (by kernel_rfl) ?_
        simp only [oneW_next, s_0, s_1, s_2, s_3, s_4, g_0, w_0, w_st, Hands, handsV, resultsV, oneOrTuple, argsT, ev, evs, evPairs, evOpt, closed, flat, nth, aCall, aEnter, notYield, aNilCheck, partV, isAggD, aFieldAddr, aField, aExtract, Option.isNone, aBuiltin, aUn, cond_true, cond_false, cond_dec, if_true, if_false, List.length_cons, List.length_nil, forall_const, implies_true, List.append_nil, List.cons_append, List.nil_append, eq_self, Nat.reduceEqDiff, Nat.reduceAdd, Nat.reduceMul, Nat.reduceSub, Nat.reduceLT, Nat.reduceLeDiff, Nat.reduceBEq, reduceIte, reduceCtorEq, q_0, q_1, q_2, f_0, pendW, hasN, reorder, E0_ron, exists_eq', List.length_cons, List.length_nil, u4, c2, aOp_convert, fcU, qcU, cvU, hq, bs59, vd, vo, get_next]
        generalize hr3 : [Value.int .u8 (IntKind.u8.wrap f.tag), .int .u8 (IntKind.u8.wrap q), .int .u8 (IntKind.u8.wrap (f.n : Int))] = r3
        have l3 : r3.length = 3 := by rw [← hr3]; rfl
        have s3 : singles r3 = true := by rw [← hr3]; rfl
        clear hr3
        have hH : ∀ D : ASt, C.next + 15 ≤ D.next → Fr [C.next + 11] D (D.set (C.next + 11) (.row r3 1 false)) := fun D hD => ⟨by rw [ASt.next_set]; omega, fun b hb hn => by rw [ASt.get_set, if_neg (by simpa using hn)]⟩
        have f15 : Fr [] C { heap := C.heap, next := C.next + 15 } := ⟨Nat.le_add_right _ _, fun _ _ _ => get_next⟩
        have hoH := (hoC.fr f15 (by simp)).fr (hH _ (Nat.le_refl _)) (fun b hb => by have := (hoC.low b hb).2; simp only [List.mem_singleton]; omega)
        have src3 : srcCells E0 1 (.slice (some ⟨C.next + 11, 0, none⟩) 3 3) 3 (ASt.set { heap := C.heap, next := C.next + 15 } (C.next + 11) (.row r3 1 false)) = some r3 := by
          simp only [srcCells, ASt.get_set, if_true]
          rw [show (3 * 1 : Nat) = r3.length by omega]
          unfold cut
          simp only [List.drop_zero, List.take_length, Nat.beq_refl, cond_true]
        have hfn := f1.next
        have hfn2 := fC.next
        have hnb : n ≤ 200300 := by omega
        obtain ⟨r1, B1, ha1, ho1, fB1, hr1⟩ := hoH.app (E := E0) (xt := 59) (x := .slice (some ⟨C.next + 11, 0, none⟩) 3 3) (m := 3) (new := r3) ti59 t59_desc ti5 t5_size ti59 (by rw [t59_desc]; rfl) t5_zero z5c z5l (by omega) rfl src3 (by omega) s3 (by rw [t5_bytes]; omega) (by rw [ASt.next_set]; show A.next ≤ C.next + 15; omega)
        rw [ha1]
        have nB1 : C.next + 15 ≤ B1.next := by have := fB1.next; rw [ASt.next_set] at this; exact this
        have fAB : Fr [] A B1 := ⟨by omega, fun b hb _ => by
          rw [fB1.get b (by rw [ASt.next_set]; show b < C.next + 15; omega) (fun hm => by have := (ho.low b hm).1; omega), ASt.get_set, if_neg (by omega), get_next, fC.get b (by omega) (by simp)]
          exact f1.get b hb (by simp)⟩
        have cB : B1.get p = some (.row [.int .i64 f.tag, f.d] 2 false) := by
          rw [fB1.get p (by rw [ASt.next_set]; show p < C.next + 15; omega) (fun hm => absurd (hpo p hm) (by omega)), ASt.get_set, if_neg (by omega), get_next]
          exact c2
        have hokB := (hf f hmem).fr fAB (by simp)
        obtain ⟨sr, lv, ln⟩ := hokB.2.2.1.src (E := E0)
        obtain ⟨r2, B2, ha2, ho2, fB2, hr2⟩ := ho1.app (E := E0) (xt := 59) (x := f.d) ti59 t59_desc ti5 t5_size ti59 (by rw [t59_desc]; rfl) t5_zero z5c z5l (by omega) lv sr ln hokB.2.2.2.2 (by have := hokB.2.2.2.1; rw [t5_bytes]; omega) (by omega)
        have fAB2 : Fr [] A B2 := ⟨by have := fB2.next; omega, fun b hb _ => by
          rw [fB2.get b (by omega) (fun hm => by have := (ho1.low b hm).1; omega)]
          exact fAB.get b hb (by simp)⟩
        have cB2 : B2.get p = some (.row [.int .i64 f.tag, f.d] 2 false) := by
          rw [fB2.get p (by omega) (fun hm => by
            rcases hr1 p hm with h | h
            · exact absurd (hpo p h) (by omega)
            · rw [ASt.next_set] at h
              have h : C.next + 15 ≤ p := h
              omega)]
          exact cB
        simp only [oneW_next, s_0, s_1, s_2, s_3, s_4, g_0, w_0, w_st, Hands, handsV, resultsV, oneOrTuple, argsT, ev, evs, evPairs, evOpt, closed, flat, nth, aCall, aEnter, notYield, aNilCheck, partV, isAggD, aFieldAddr, aField, aExtract, Option.isNone, aBuiltin, aUn, cond_true, cond_false, cond_dec, if_true, if_false, List.length_cons, List.length_nil, forall_const, implies_true, List.append_nil, List.cons_append, List.nil_append, eq_self, Nat.reduceEqDiff, Nat.reduceAdd, Nat.reduceMul, Nat.reduceSub, Nat.reduceLT, Nat.reduceLeDiff, Nat.reduceBEq, reduceIte, reduceCtorEq, q_0, q_1, q_2, f_0, pendW, hasN, reorder, E0_ron, exists_eq', List.length_cons, List.length_nil, Bool.false_and, Bool.and_false, vd, vo, cB, cB2, ha2, get_next, u13, wrap_succC (show i < 1000000 by omega)]
        refine ⟨fs.length - (i + 1), by omega, i + 1, n + 3 + f.n, cs ++ r3 ++ f.cs, r2, rfl, by omega, rfl, u12, u11, rfl, ho2, by have := hokB.2.2.2.1; omega, fAB2⟩
      · have d1 : ((i : Int) < (fs.length : Int)) = False := eq_false (by omega)
        simp only [oneW_next, s_0, s_1, s_2, s_3, s_4, g_0, w_0, w_st, Hands, handsV, resultsV, oneOrTuple, argsT, ev, evs, evPairs, evOpt, closed, flat, nth, aCall, aEnter, notYield, aNilCheck, partV, isAggD, aFieldAddr, aField, aExtract, Option.isNone, aBuiltin, aUn, cond_true, cond_false, cond_dec, if_true, if_false, List.length_cons, List.length_nil, forall_const, implies_true, List.append_nil, List.cons_append, List.nil_append, eq_self, Nat.reduceEqDiff, Nat.reduceAdd, Nat.reduceMul, Nat.reduceSub, Nat.reduceLT, Nat.reduceLeDiff, Nat.reduceBEq, reduceIte, reduceCtorEq, u13, u12, u11, d1]
        exact ⟨_, _, _, rfl, by simp only [tget_put, Nat.reduceEqDiff, if_false, if_true, reduceIte, u4], ho.single, f1⟩
    all_goals simp only [tget_put, Nat.reduceEqDiff, if_false, if_true, reduceIte]
    all_goals rfl
  · rintro o ⟨T', A', r, rfl, u4, hr, hf⟩
    simp only [oneW_next, s_0, s_1, s_2, s_3, s_4, g_0, w_0, w_st, Hands, handsV, resultsV, oneOrTuple, argsT, ev, evs, evPairs, evOpt, closed, flat, nth, aCall, aEnter, notYield, aNilCheck, partV, isAggD, aFieldAddr, aField, aExtract, Option.isNone, aBuiltin, aUn, cond_true, cond_false, cond_dec, if_true, if_false, List.length_cons, List.length_nil, forall_const, implies_true, List.append_nil, List.cons_append, List.nil_append, eq_self, Nat.reduceEqDiff, Nat.reduceAdd, Nat.reduceMul, Nat.reduceSub, Nat.reduceLT, Nat.reduceLeDiff, Nat.reduceBEq, reduceIte, reduceCtorEq, u4]
    exact ⟨⟨_, rfl⟩, hf⟩
end Go.Proofs.YtgcffmhpjphefaaDoor

/- The text of a number: how long it is at most (the library's contract; its table lies where the program began). -/
namespace Go.Proofs.YtgcffmhpjphefaaDoor
open Go Go.AE
set_option maxRecDepth 10000
set_option maxHeartbeats 4000000
variable {Z : Go.AE.Road}

/-- On this road the table of powers lies where it should. -/
def TabZ (Z : Go.AE.Road) : Prop := ∀ ρ A w, Z.reach ρ A w → Lib.TabIs Tryd.prog w "internal/strconv.uint64pow10" .u64 Lib.pow10Tab
theorem tab_road {s : Spans} {W : World} {g : Nat} (hg : Tryd.prog.globalNamed "internal/strconv.uint64pow10" = some g) (hgB : g < W.heap.size) (h : Lib.TabIs Tryd.prog W "internal/strconv.uint64pow10" .u64 Lib.pow10Tab) : TabZ (roadRo s W) := by
  intro ρ A w hs
  exact var?_below (Step.below' hs) hg hgB h
theorem itoa_size {n : Int} (h0 : -9223372036854775808 ≤ n) (h1 : n ≤ 9223372036854775807) : (Lib.itoa n).length ≤ 21 := by
  have hd : ∀ u : Nat, u < 18446744073709551616 → Lib.nDigits u ≤ 20 := fun u hu => by
    by_cases h : 1 ≤ u
    · obtain ⟨a, b⟩ := Lib.numDigits_eq u h hu
      split at a <;> omega
    · have : u = 0 := by omega
      subst this
      decide +kernel
  unfold Lib.itoa
  split
  · rw [List.length_cons, Lib.decDigits_length]
    have := hd _ (show (-n).toNat < 18446744073709551616 by omega)
    first | omega | (have h2 := hd n.natAbs (by omega); omega)
  · rw [Lib.decDigits_length]
    have := hd n.toNat (by omega)
    first | omega | (have h2 := hd n.natAbs (by omega); omega)
theorem fmt_spec (ht : TabZ Z) {A : ASt} {n : Int} (h0 : -9223372036854775808 ≤ n) (h1 : n < 9223372036854775808) :
    CallW Z Tryd.prog 35 [.int .i64 n, .int .i64 10] A (fun r A' => (∃ s : ByteArray, r = .string s ∧ s.size ≤ 21) ∧ A' = A) := by
  intro ρ w args' hR ha
  have e : args' = #[.int .i64 n, .int .i64 10] := by
    have := flats_eq (l := [.int .i64 n, .int .i64 10]) rfl ha
    apply Array.ext'
    rw [← this]
  rw [e]
  refine (Tryd.strconv_FormatInt_10 n h0 (by omega) w (ht _ _ _ hR)).mono ?_
  rintro e w' ⟨rfl, k, os, rfl⟩
  refine ⟨.string _, A, .string _, ρ, ⟨⟨_, rfl, ?_⟩, rfl⟩, rfl, .string _, Step.of_below (Z.rep hR) (Lib.below_grow _ _ (Nat.le_refl _) _ _) ?_⟩
  · exact itoa_size h0 (by omega)
  · first | (show w.drawn ≤ w.drawn + k; omega) | exact Nat.le_add_right _ _ | (simp [grow, World.drewN]; done)
end Go.Proofs.YtgcffmhpjphefaaDoor

/- An action as bytes: it has some just if it is short and its steps are right. -/
namespace Go.Proofs.YtgcffmhpjphefaaDoor
open Go Go.AE
set_option maxRecDepth 10000
set_option maxHeartbeats 8000000
variable {Z : Go.AE.Road} {s : Spans}

theorem al36 : aAlloc E0 36 = some (.row [.int .i64 0, .string ByteArray.empty, .string ByteArray.empty, .int .i64 0] 4 false, ptrTo) := by
  simp only [aAlloc, w_0]; rfl
theorem st36 {A : ASt} {b : Nat} {c0 c1 c2 c3 : Value} {tl : Bool} {y : StepD} (h : A.get b = some (.row [c0, c1, c2, c3] 4 tl)) : aStore E0 36 (.pointer (some ⟨b, 0, none⟩)) (stepV y) A = some (A.set b (.row (scell y) 4 tl)) := by
  have e : (stepV y).cells.toList = scell y := rfl
  have e2 : singles (scell y) = true := rfl
  have e3 : over [c0, c1, c2, c3] 0 (scell y) = some (scell y) := rfl
  have e4 : Nat.beq (scell y).length 4 = true := rfl
  simp only [aStore, h, w_0, e, e2, e3, e4, Bool.and_self, cond_true]
theorem cutS {y : StepD} : cut (scell y) 0 4 = some (scell y) := rfl
theorem addS {a b : ByteArray} (h : a.size + b.size ≤ 1000) : ∃ st : ByteArray, (∀ xo yo, aBin2 E0 .add 9 xo yo (.string a) (.string b) = some (.string st)) ∧ st.size = a.size + b.size := by
  have hl : ∀ x : ByteArray, x.data.toList.length = x.size := fun x => by rw [Array.length_toList]; rfl
  refine ⟨⟨(a.data.toList ++ b.data.toList).toArray⟩, fun xo yo => ?_, ?_⟩
  · have e : Nat.ble (a.data.toList.length + b.data.toList.length) 9223372036854775807 = true := Nat.ble_eq_true_of_le (by rw [hl, hl]; omega)
    simp only [aBin2, aBin, strOp, e, cond_true]
  · show (a.data.toList ++ b.data.toList).toArray.size = _
    rw [List.size_toArray, List.length_append, hl, hl]
theorem bytes_len {l : List UInt8} : (byteCells l).length = l.length := by unfold byteCells; simp
theorem bytes_sg : ∀ {l : List UInt8}, singles (byteCells l) = true
  | [] => rfl
  | x :: l => by
    show (Go.AE.single (.int .u8 x.toNat) && singles (byteCells l)) = true
    rw [bytes_sg (l := l)]; rfl
theorem bs59a {a : Int} : aBuildSlice E0 59 1 [(0, .int .u8 a)] = some (.row [.int .u8 a] 1 false, fun id => .slice (some ⟨id, 0, none⟩) 1 1) := by
  simp only [aBuildSlice, w_st]; rfl
theorem bld90 {k : Int} {d : Value} (h : d.cells = #[d]) : aBuild E0 90 [(0, .int .i64 k), (1, d)] = some (.agg #[.int .i64 k, d]) := by
  have e : d.cells.toList = [d] := by rw [h]
  have e1 : (Value.int .i64 k).cells.toList = [.int .i64 k] := rfl
  have e2 : (Value.agg #[.int .i64 0, .slice none 0 0]).cells.toList = [.int .i64 0, .slice none 0 0] := rfl
  have e3 : closed (.agg #[.int .i64 0, .slice none 0 0]) = true := by kernel_rfl
  simp only [aBuild, w_st, w_0, places, fillV, e, e1, e2, e3, cond_true]
  rfl
theorem bs87 {k : Int} {d : Value} : aBuildSlice E0 87 1 [(0, .agg #[.int .i64 k, d])] = some (.row [.int .i64 k, d] 2 false, fun id => .slice (some ⟨id, 0, none⟩) 1 1) := by
  simp only [aBuildSlice, w_st]
  rfl
theorem z90c : closed (.agg #[.int .i64 0, .slice none 0 0]) = true := by kernel_rfl
theorem z90l : Nat.beq (Value.agg #[.int .i64 0, .slice none 0 0]).cells.toList.length 2 = true := by kernel_rfl

/-- The walk halts at this branch. -/
def stopW (Z : Go.AE.Road) (E : Env) (P : Program) (n : Nat) (ro : Option Nat) (c : Code) (Q : Out → Prop) (T : Tmps) (A : ASt) : Prop := codeW Z E P n ro c Q T A
@[congr] theorem stopW_congr {E : Env} {P : Program} {n n' : Nat} {ro : Option Nat} {c : Code} {Q : Out → Prop} {T : Tmps} {A : ASt} (h : ∀ _ : Unit, tg n = n') : stopW Z E P n ro c Q T A = stopW Z E P n' ro c Q T A := by rw [← h ()]; rfl
theorem c_stop24 {E : Env} {P : Program} {n : Nat} {ro : Option Nat} {x y : Code} {Q : Out → Prop} {T : Tmps} {A : ASt} : codeW Z E P n ro (.cond (.tmp 24) x y) Q T A = stopW Z E P n ro (.cond (.tmp 24) x y) Q T A := by rw [stopW]

theorem fcUr {x : Operand} : freshOp (withRo E0 s) (.convert 3 5 x) = false := by kernel_rfl
theorem qcUr {x : Operand} : quietOp (withRo E0 s) (.convert 3 5 x) = true := by kernel_rfl
theorem encode_spec (hro : RoadS Z E0 s) (ht : TabZ Z) {A : ASt} {S : Nat → Prop} {v : Value} {l : List StepD} (h : Steps (withRo E0 s) A S v l) (hy : ∀ y ∈ l, -9223372036854775808 ≤ y.n ∧ y.n < 9223372036854775808) (hl : l.length ≤ 1000) :
    CallW Z Tryd.prog 23 [v] A (fun r A' => (∃ (o : Value) (e : Int), r = .tuple #[o, .int .i64 e] ∧ (e = 0 ↔ (l.length ≤ 4 ∧ ∀ y ∈ l, y.good))) ∧ Fr [] A A') := by
  refine CallW.assume hro fun hnr => ?_
  refine CallW.of_code (withRo_ok E0_ok) hro.ro (f := 23) (fn := Tryd.f23) fn23 rfl (n := 49) rfl (rs := [.tmp 2, .tmp 3]) rfl (by simp) (codeW_ok (withRo_ok E0_ok) hro.ro ?_)
  have l1 := h.len (wti.trans ti23) t23_desc
  simp only [wlen, List.length_map] at l1
  by_cases hl4 : (l.length : Int) > 4
  · have d4 := eq_true hl4
    simp only [w_w, oneW_next, s_0, s_1, s_2, s_3, s_4, g_0, w_0, w_st, Hands, handsV, resultsV, oneOrTuple, argsT, ev, evs, evPairs, evOpt, closed, flat, nth, aCall, aEnter, notYield, aNilCheck, partV, isAggD, aFieldAddr, aField, aExtract, Option.isNone, aBuiltin, aUn, cond_true, cond_false, cond_dec, if_true, if_false, List.length_cons, List.length_nil, forall_const, implies_true, List.append_nil, List.cons_append, List.nil_append, eq_self, Nat.reduceEqDiff, Nat.reduceAdd, Nat.reduceMul, Nat.reduceSub, Nat.reduceLT, Nat.reduceLeDiff, Nat.reduceBEq, reduceIte, reduceCtorEq, l1, d4]
    exact ⟨⟨_, _, rfl, by constructor <;> intro h <;> omega⟩, .refl _ _⟩
  have d4 := eq_false hl4
  simp only [w_w, oneW_next, s_0, s_1, s_2, s_3, s_4, g_0, w_0, w_st, Hands, handsV, resultsV, oneOrTuple, argsT, ev, evs, evPairs, evOpt, closed, flat, nth, aCall, aEnter, notYield, aNilCheck, partV, isAggD, aFieldAddr, aField, aExtract, Option.isNone, aBuiltin, aUn, cond_true, cond_false, cond_dec, if_true, if_false, List.length_cons, List.length_nil, forall_const, implies_true, List.append_nil, List.cons_append, List.nil_append, eq_self, Nat.reduceEqDiff, Nat.reduceAdd, Nat.reduceMul, Nat.reduceSub, Nat.reduceLT, Nat.reduceLeDiff, Nat.reduceBEq, reduceIte, reduceCtorEq, l1, d4]
  refine CodeW.mono (Q := fun o => (∃ T' A' n r, ∃ fs : List FieldD, o = .fr ⟨.exit 0, T', A'⟩ ∧ tget T' 4 = r ∧ OwnS A' A.next 2 n r (fs.map fcell).flatten ∧ n = fs.length ∧ n ≤ 4 ∧ (∀ f ∈ fs, FieldD.ok A' A.next f) ∧ (∀ y ∈ l, y.good) ∧ Fr [] A A') ∨ ∃ T' A', o = .fr ⟨.ret, T', A'⟩ ∧ tget T' 2 = .slice none 0 0 ∧ tget T' 3 = .int .i64 91 ∧ (∃ y ∈ l, ¬ y.good) ∧ Fr [] A A') ?_ ?_
  · refine CodeW.loopR (k := l.length) (fun k T A' => ∃ i out, ∃ fs : List FieldD, k = l.length - i ∧ i ≤ l.length ∧ tget T 13 = .int .i64 ((i : Nat) : Int) ∧ tget T 12 = .int .i64 (l.length : Int) ∧ tget T 11 = v ∧ tget T 4 = out ∧ OwnS A' A.next 2 i out (fs.map fcell).flatten ∧ i = fs.length ∧ (∀ f ∈ fs, FieldD.ok A' A.next f ∧ ∀ b ∈ slB f.d, b ∉ slB out) ∧ (∀ y ∈ l.take i, y.good) ∧ Fr [] A A') ?_ ⟨0, .slice none 0 0, [], rfl, by omega, ?_, ?_, ?_, ?_, .inl ⟨rfl, rfl, rfl⟩, rfl, by simp, by simp, .refl _ _⟩
    · rintro k T A1 ⟨i, out, fs, rfl, hi, u13, u12, u11, u4, ho, hif, hfs, hgd, f1⟩
      refine codeW_ok (withRo_ok E0_ok) hro.ro ?_
      by_cases e1 : i < l.length
      · have d1 : ((i : Int) < (l.length : Int)) = True := eq_true (by omega)
        have hx : l[i]? = some l[i] := List.getElem?_eq_getElem _
        have hmem : l[i] ∈ l := List.getElem_mem _
        generalize l[i] = y at hx hmem
        obtain ⟨b1, p1, cc, hx1, hc1, _, _, hcut1, hnth⟩ := (h.fr f1 (by simp)).ix (wti.trans ti23) t23_desc (wti.trans ti36) t36_size (x := scell y) (i := i) (by rw [List.getElem?_map, hx]; rfl)
        simp only [wix] at hx1
        have hg1 := hc1.g
        have hag : Value.agg (scell y).toArray = stepV y := rfl
        have hst := st36 (A := A1.new (.row [.int .i64 0, .string ByteArray.empty, .string ByteArray.empty, .int .i64 0] 4 false)) (b := A1.next) (y := y) (tl := false) (by rw [ASt.get_new, if_pos rfl])
        simp only [w_w, oneW_next, s_0, s_1, s_2, s_3, s_4, g_0, w_0, w_st, Hands, handsV, resultsV, oneOrTuple, argsT, ev, evs, evPairs, evOpt, closed, flat, nth, aCall, aEnter, notYield, aNilCheck, partV, isAggD, aFieldAddr, aField, aExtract, Option.isNone, aBuiltin, aUn, cond_true, cond_false, cond_dec, if_true, if_false, List.length_cons, List.length_nil, forall_const, implies_true, List.append_nil, List.cons_append, List.nil_append, eq_self, Nat.reduceEqDiff, Nat.reduceAdd, Nat.reduceMul, Nat.reduceSub, Nat.reduceLT, Nat.reduceLeDiff, Nat.reduceBEq, reduceIte, reduceCtorEq, u13, u12, u11, d1, hx1, hg1, hcut1, hag, al36, ptrTo, hst]
        generalize hCd : (A1.new (.row [.int .i64 0, .string ByteArray.empty, .string ByteArray.empty, .int .i64 0] 4 false)).set A1.next (.row (scell y) 4 false) = C
        have c2 : C.get A1.next = some (.row (scell y) 4 false) := by rw [← hCd, ASt.get_set, if_pos rfl]
        have fC : Fr [] A1 C := ⟨by rw [← hCd, ASt.next_set, ASt.next_new]; omega, fun b hb _ => by rw [← hCd, ASt.get_set, if_neg (by omega), ASt.get_new, if_neg (by omega)]⟩
        have hCn : C.next = A1.next + 1 := by rw [← hCd, ASt.next_set, ASt.next_new]
        have hf1n := f1.next
        have hpo : ∀ b ∈ slB out, b < A1.next := fun b hb => (ho.low b hb).2
        have hpA : A.next ≤ A1.next := hf1n
        generalize hpd : A1.next = p at c2 hpo hpA
        clear hCd hst
        simp only [w_w, oneW_next, s_0, s_1, s_2, s_3, s_4, g_0, w_0, w_st, Hands, handsV, resultsV, oneOrTuple, argsT, ev, evs, evPairs, evOpt, closed, flat, nth, aCall, aEnter, notYield, aNilCheck, partV, isAggD, aFieldAddr, aField, aExtract, Option.isNone, aBuiltin, aUn, cond_true, cond_false, cond_dec, if_true, if_false, List.length_cons, List.length_nil, forall_const, implies_true, List.append_nil, List.cons_append, List.nil_append, eq_self, Nat.reduceEqDiff, Nat.reduceAdd, Nat.reduceMul, Nat.reduceSub, Nat.reduceLT, Nat.reduceLeDiff, Nat.reduceBEq, reduceIte, reduceCtorEq, c2, cutS, hag]
        refine CallT.mono (CallT.of_call right_spec) ?_
        rintro _ D ⟨rfl, fD⟩
        have cD := (fD.get p (by omega) (by simp)).trans c2
        by_cases hgood : y.good
        · have dg : decide y.good = true := decide_eq_true hgood
          simp only [↓c_stop24, w_w, oneW_next, s_0, s_1, s_2, s_3, s_4, g_0, w_0, w_st, Hands, handsV, resultsV, oneOrTuple, argsT, ev, evs, evPairs, evOpt, closed, flat, nth, aCall, aEnter, notYield, aNilCheck, partV, isAggD, aFieldAddr, aField, aExtract, Option.isNone, aBuiltin, aUn, cond_true, cond_false, cond_dec, if_true, if_false, List.length_cons, List.length_nil, forall_const, implies_true, List.append_nil, List.cons_append, List.nil_append, eq_self, Nat.reduceEqDiff, Nat.reduceAdd, Nat.reduceMul, Nat.reduceSub, Nat.reduceLT, Nat.reduceLeDiff, Nat.reduceBEq, reduceIte, reduceCtorEq, dg, un_not, Bool.not_true, scell, cD]
          generalize hTd : (Tr.put _ 24 _) = T0
          have w24 : tget T0 24 = .bool (decide (y.kind = 3)) := by rw [← hTd]; simp only [tget_put, Nat.reduceEqDiff, if_false, if_true, reduceIte]
          have w6 : tget T0 6 = .pointer (some ⟨p, 0, none⟩) := by rw [← hTd]; simp only [tget_put, Nat.reduceEqDiff, if_false, if_true, reduceIte]
          have w7 : tget T0 7 = .string y.val := by rw [← hTd]; simp only [tget_put, Nat.reduceEqDiff, if_false, if_true, reduceIte]
          have w4 : tget T0 4 = out := by rw [← hTd]; simp only [tget_put, Nat.reduceEqDiff, if_false, if_true, reduceIte, u4]
          have w11 : tget T0 11 = v := by rw [← hTd]; simp only [tget_put, Nat.reduceEqDiff, if_false, if_true, reduceIte, u11]
          have w12 : tget T0 12 = .int .i64 (l.length : Int) := by rw [← hTd]; simp only [tget_put, Nat.reduceEqDiff, if_false, if_true, reduceIte, u12]
          have w13 : tget T0 13 = .int .i64 (i : Int) := by rw [← hTd]; simp only [tget_put, Nat.reduceEqDiff, if_false, if_true, reduceIte, u13]
          clear hTd u13 u12 u11 u4
          unfold stopW
          have hval : y.val.size ≤ 60 := by
            obtain ⟨_, ⟨_, h2, _⟩ | ⟨_, h2, _⟩ | ⟨_, h2⟩⟩ := hgood <;> omega
          refine codeW_mono (Q := fun o => ∃ T' A' rest, o = .fr ⟨.normal, T', A'⟩ ∧ tget T' 6 = .pointer (some ⟨p, 0, none⟩) ∧ tget T' 7 = .string rest ∧ rest.size ≤ 60 ∧ tget T' 4 = out ∧ tget T' 11 = v ∧ tget T' 12 = .int .i64 (l.length : Int) ∧ tget T' 13 = .int .i64 (i : Int) ∧ A' = D) ?_ ?_
          · rintro o ⟨T2, A2, rest, rfl, w6, w7, hrest, w4, w11, w12, w13, rfl⟩
            have hkey : y.key.size ≤ 16 := hgood.1.2
            have htag : 1 ≤ y.kind ∧ y.kind ≤ 4 := by
              obtain ⟨_, ⟨h1, _⟩ | ⟨h1 | h1, _⟩ | ⟨h1, _⟩⟩ := hgood <;> omega
            obtain ⟨st, hadd, hsz⟩ := addS (a := y.key) (b := rest) (by omega)
            simp only [w_w, oneW_next, s_0, s_1, s_2, s_3, s_4, g_0, w_0, w_st, Hands, handsV, resultsV, oneOrTuple, argsT, ev, evs, evPairs, evOpt, closed, flat, nth, aCall, aEnter, notYield, aNilCheck, partV, isAggD, aFieldAddr, aField, aExtract, Option.isNone, aBuiltin, aUn, cond_true, cond_false, cond_dec, if_true, if_false, List.length_cons, List.length_nil, forall_const, implies_true, List.append_nil, List.cons_append, List.nil_append, eq_self, Nat.reduceEqDiff, Nat.reduceAdd, Nat.reduceMul, Nat.reduceSub, Nat.reduceLT, Nat.reduceLeDiff, Nat.reduceBEq, reduceIte, reduceCtorEq]
            refine CodeW.seqf (withRo_ok E0_ok) hro.ro mixed noCon_ok [0,1,2,3,4,5,6,8,9,10,11,7,12,13,14,15,16] [0,1,2] [[],[],[],[],[],[],[],[],[],[],[],[],[11],[11],[11],[11,14],[11,14]] (by simp only [reorder, reoGo, strip, List.map_cons, List.map_nil, opAt, remap, nth, Option.map, σ, place', nbeq, List.length_cons, List.length_nil, Nat.reduceAdd, Nat.reduceLT, Nat.reduceEqDiff, if_true, if_false, reduceIte]; rfl) (by decide +kernel) (by kernel_rfl) (by kernel_rfl) (by kernel_rfl) (by kernel_rfl) ?_
            have vo : valEq out out = true := ho.ve
            have rp : (withRo E0 s).ro p = none := hnr p hpA
            simp only [w_w, oneW_next, s_0, s_1, s_2, s_3, s_4, g_0, w_0, w_st, Hands, handsV, resultsV, oneOrTuple, argsT, ev, evs, evPairs, evOpt, closed, flat, nth, aCall, aEnter, notYield, aNilCheck, partV, isAggD, aFieldAddr, aField, aExtract, Option.isNone, aBuiltin, aUn, cond_true, cond_false, cond_dec, if_true, if_false, List.length_cons, List.length_nil, forall_const, implies_true, List.append_nil, List.cons_append, List.nil_append, eq_self, Nat.reduceEqDiff, Nat.reduceAdd, Nat.reduceMul, Nat.reduceSub, Nat.reduceLT, Nat.reduceLeDiff, Nat.reduceBEq, reduceIte, reduceCtorEq, q_0, q_1, q_2, f_0, pendW, hasN, reorder, E0_ron, exists_eq', List.length_cons, List.length_nil, w4, w6, w7, scell, cD, rp, lenS, aOp_convert, fcUr, qcUr, cvU, hadd, bs59a, vo, get_next]
            have hsl : st.data.toList.length = st.size := by rw [Array.length_toList]; rfl
            have hDn := fD.next
            generalize hu : IntKind.u8.wrap ((y.key.size : Nat) : Int) = u
            clear hu
            have hH : ∀ (Y : ASt) (j : Nat) (c : List Value) (sz : Nat), j < 17 → A2.next + 17 ≤ Y.next → Fr [A2.next + j] Y (Y.set (A2.next + j) (.row c sz false)) := fun Y j c sz hj hY => ⟨by rw [ASt.next_set]; omega, fun b hb hn => by rw [ASt.get_set, if_neg (by simpa using hn)]⟩
            have hw1 : OwnS (ASt.set { heap := A2.heap, next := A2.next + 17 } (A2.next + 11) (.row [.int .u8 u] 1 false)) A2.next 1 1 (.slice (some ⟨A2.next + 11, 0, none⟩) 1 1) [.int .u8 u] :=
              .inr ⟨A2.next + 11, 1, false, rfl, by rw [ASt.get_set, if_pos rfl], by omega, by rw [ASt.next_set]; show A2.next + 11 < A2.next + 17; omega, rfl, .inr ⟨rfl, by unfold unk; decide⟩⟩
            obtain ⟨r1, B1, ha1, ho1, fB1, hr1⟩ := hw1.app (E := withRo E0 s) (xt := 9) (x := .string st) (m := st.data.toList.length) (new := byteCells st.data.toList) (wti.trans ti59) t59_desc (wti.trans ti5) t5_size (wti.trans ti9) (by rw [t9_desc]; rfl) t5_zero z5c z5l (by omega) rfl (by show some (byteCells (st.data.toList.take st.data.toList.length)) = _; rw [List.take_length]) (by rw [bytes_len]; omega) bytes_sg (by rw [t5_bytes]; omega) (by rw [ASt.next_set]; show A2.next ≤ A2.next + 17; omega)
            have nB1 : A2.next + 17 ≤ B1.next := by have := fB1.next; rw [ASt.next_set] at this; exact this
            have cB : B1.get p = some (.row (scell y) 4 false) := by
              rw [fB1.get p (by rw [ASt.next_set]; show p < A2.next + 17; omega) (by simp only [slB, List.mem_singleton]; omega), ASt.get_set, if_neg (by omega), get_next]
              exact cD
            rw [ha1]
            simp only [w_w, oneW_next, s_0, s_1, s_2, s_3, s_4, g_0, w_0, w_st, Hands, handsV, resultsV, oneOrTuple, argsT, ev, evs, evPairs, evOpt, closed, flat, nth, aCall, aEnter, notYield, aNilCheck, partV, isAggD, aFieldAddr, aField, aExtract, Option.isNone, aBuiltin, aUn, cond_true, cond_false, cond_dec, if_true, if_false, List.length_cons, List.length_nil, forall_const, implies_true, List.append_nil, List.cons_append, List.nil_append, eq_self, Nat.reduceEqDiff, Nat.reduceAdd, Nat.reduceMul, Nat.reduceSub, Nat.reduceLT, Nat.reduceLeDiff, Nat.reduceBEq, reduceIte, reduceCtorEq, q_0, q_1, q_2, f_0, pendW, hasN, reorder, E0_ron, exists_eq', List.length_cons, List.length_nil, Bool.false_and, Bool.and_false, w4, w6, w7, scell, cD, cB, rp, bld90 ho1.cells1, bs87, vo, get_next]
            have fr1 : Fr [A2.next + 11] A2 B1 := ⟨by omega, fun b hb hn => by
              rw [fB1.get b (by rw [ASt.next_set]; show b < A2.next + 17; omega) (by simpa [slB] using hn), ASt.get_set, if_neg (by simpa using hn), get_next]⟩
            have fr2 := hH B1 14 [.int .i64 y.kind, r1] 2 (by omega) nB1
            have hoA2 := (ho.fr fC (by simp)).fr fD (by simp)
            have hoH := (hoA2.fr fr1 (fun b hb => by have := hpo b hb; simp only [List.mem_singleton]; omega)).fr fr2 (fun b hb => by have := hpo b hb; simp only [List.mem_singleton]; omega)
            have nH2 : (B1.set (A2.next + 14) (.row [.int .i64 y.kind, r1] 2 false)).next = B1.next := ASt.next_set ..
            have src2 : srcCells (withRo E0 s) 2 (.slice (some ⟨A2.next + 14, 0, none⟩) 1 1) 1 (B1.set (A2.next + 14) (.row [.int .i64 y.kind, r1] 2 false)) = some [.int .i64 y.kind, r1] := by
              simp only [srcCells, ASt.get_set, if_true]
              rfl
            have sg2 : singles [.int .i64 y.kind, r1] = true := by
              show (Go.AE.single r1 && true) = true
              rw [ho1.single]; rfl
            obtain ⟨r2, B2, ha2, ho2, fB2, hr2⟩ := hoH.app (E := withRo E0 s) (xt := 87) (x := .slice (some ⟨A2.next + 14, 0, none⟩) 1 1) (m := 1) (new := [.int .i64 y.kind, r1]) (wti.trans ti87) t87_desc (wti.trans ti90) t90_size (wti.trans ti87) (by rw [t87_desc]; rfl) t90_zero z90c z90l (by omega) rfl src2 rfl sg2 (by rw [t90_bytes]; omega) (by rw [nH2]; omega)
            rw [nH2] at hr2
            have nB2 : B1.next ≤ B2.next := by have := fB2.next; rw [nH2] at this; exact this
            have cB2 : B2.get p = some (.row (scell y) 4 false) := by
              rw [fB2.get p (by rw [nH2]; omega) (fun hm => absurd (hpo p hm) (by omega)), ASt.get_set, if_neg (by omega)]
              exact cB
            rw [ha2]
            have hr1' : ∀ b ∈ slB r1, b = A2.next + 11 ∨ A2.next + 17 ≤ b := fun b hb => by
              rcases hr1 b hb with h | h
              · simp only [slB, List.mem_singleton] at h
                exact .inl h
              · rw [ASt.next_set] at h
                exact .inr h
            have hfall : ∀ f : FieldD, f.ok A1 A.next → (∀ b ∈ slB f.d, b ∉ slB out) → f.ok B2 A.next := fun f h1 h2 => by
              have g0 : f.ok B1 A.next := ((h1.fr fC (by simp)).fr fD (by simp)).fr fr1 (by simp)
              have hb0 : ∀ b ∈ slB f.d, b < A1.next := fun b hb => (h1.2.2.1.low b hb).2
              exact ⟨g0.1, g0.2.1, (g0.2.2.1.fr fr2 (fun b hb => by have := hb0 b hb; simp only [List.mem_singleton]; omega)).fr fB2 h2, g0.2.2.2.1, g0.2.2.2.2⟩
            have hnew : FieldD.ok B2 A.next ⟨y.kind, r1, 1 + st.data.toList.length, [.int .u8 u] ++ byteCells st.data.toList⟩ := by
              refine ⟨htag.1, by show y.kind ≤ 255; omega, ?_, by show 1 + _ ≤ 2000; omega, ?_⟩
              · refine ((ho1.lower (by omega)).fr fr2 (fun b hb => ?_)).fr fB2 (fun b hb hm => ?_)
                · have := hr1' b hb
                  simp only [List.mem_singleton]
                  omega
                · have := hpo b hm
                  have := (ho1.low b hb).1
                  omega
              · show (Go.AE.single (.int .u8 u) && singles (byteCells st.data.toList)) = true
                rw [bytes_sg]; rfl
            simp only [w_w, oneW_next, s_0, s_1, s_2, s_3, s_4, g_0, w_0, w_st, Hands, handsV, resultsV, oneOrTuple, argsT, ev, evs, evPairs, evOpt, closed, flat, nth, aCall, aEnter, notYield, aNilCheck, partV, isAggD, aFieldAddr, aField, aExtract, Option.isNone, aBuiltin, aUn, cond_true, cond_false, cond_dec, if_true, if_false, List.length_cons, List.length_nil, forall_const, implies_true, List.append_nil, List.cons_append, List.nil_append, eq_self, Nat.reduceEqDiff, Nat.reduceAdd, Nat.reduceMul, Nat.reduceSub, Nat.reduceLT, Nat.reduceLeDiff, Nat.reduceBEq, reduceIte, reduceCtorEq, q_0, q_1, q_2, f_0, pendW, hasN, reorder, E0_ron, exists_eq', List.length_cons, List.length_nil, Bool.false_and, Bool.and_false, w6, w13, scell, cB2, rp, vo, get_next, wrap_succC (show i < 1000000 by omega)]
            refine ⟨l.length - (i + 1), by omega, i + 1, r2, fs ++ [⟨y.kind, r1, 1 + st.data.toList.length, [.int .u8 u] ++ byteCells st.data.toList⟩], rfl, by omega, rfl, w12, w11, rfl, ?_, by simp [hif], ?_, ?_, ?_⟩
            · rw [List.map_append, List.flatten_append]
              exact ho2
            · intro f hf
              rcases List.mem_append.1 hf with hf | hf
              · refine ⟨hfall f (hfs f hf).1 (hfs f hf).2, fun b hb hm => ?_⟩
                rcases hr2 b hm with h | h
                · exact (hfs f hf).2 b hb h
                · have := ((hfs f hf).1.2.2.1.low b hb).2
                  omega
              · simp only [List.mem_singleton] at hf
                subst hf
                refine ⟨hnew, fun b hb hm => ?_⟩
                have hb : b ∈ slB r1 := hb
                have := ho1.low b hb
                rcases hr2 b hm with h | h
                · have := hpo b h
                  omega
                · omega
            · intro z hz
              rw [List.take_add_one, hx] at hz
              rcases List.mem_append.1 hz with hz | hz
              · exact hgd z hz
              · simp only [Option.toList, List.mem_singleton] at hz
                subst hz
                exact hgood
            · exact ⟨by omega, fun b hb _ => by
                rw [fB2.get b (by rw [nH2]; omega) (fun hm => by have := (ho.low b hm).1; omega), ASt.get_set, if_neg (by omega), fr1.get b (by omega) (by simp only [List.mem_singleton]; omega), fD.get b (by omega) (by simp), fC.get b (by omega) (by simp)]
                exact f1.get b hb (by simp)⟩
          · by_cases k3 : y.kind = 3
            · have e3 := eq_true k3
              simp only [w_w, oneW_next, s_0, s_1, s_2, s_3, s_4, g_0, w_0, w_st, Hands, handsV, resultsV, oneOrTuple, argsT, ev, evs, evPairs, evOpt, closed, flat, nth, aCall, aEnter, notYield, aNilCheck, partV, isAggD, aFieldAddr, aField, aExtract, Option.isNone, aBuiltin, aUn, cond_true, cond_false, cond_dec, if_true, if_false, List.length_cons, List.length_nil, forall_const, implies_true, List.append_nil, List.cons_append, List.nil_append, eq_self, Nat.reduceEqDiff, Nat.reduceAdd, Nat.reduceMul, Nat.reduceSub, Nat.reduceLT, Nat.reduceLeDiff, Nat.reduceBEq, reduceIte, reduceCtorEq, w24, e3, w6, scell, cD]
              refine CallT.mono (CallT.of_call (fmt_spec ht (hy y hmem).1 (hy y hmem).2)) ?_
              rintro _ _ ⟨⟨sx, rfl, hsx⟩, rfl⟩
              simp only [w_w, oneW_next, s_0, s_1, s_2, s_3, s_4, g_0, w_0, w_st, Hands, handsV, resultsV, oneOrTuple, argsT, ev, evs, evPairs, evOpt, closed, flat, nth, aCall, aEnter, notYield, aNilCheck, partV, isAggD, aFieldAddr, aField, aExtract, Option.isNone, aBuiltin, aUn, cond_true, cond_false, cond_dec, if_true, if_false, List.length_cons, List.length_nil, forall_const, implies_true, List.append_nil, List.cons_append, List.nil_append, eq_self, Nat.reduceEqDiff, Nat.reduceAdd, Nat.reduceMul, Nat.reduceSub, Nat.reduceLT, Nat.reduceLeDiff, Nat.reduceBEq, reduceIte, reduceCtorEq]
              exact ⟨_, _, sx, rfl, by simp only [tget_put, Nat.reduceEqDiff, if_false, if_true, reduceIte, w6], by simp only [tget_put, Nat.reduceEqDiff, if_false, if_true, reduceIte], by omega, by simp only [tget_put, Nat.reduceEqDiff, if_false, if_true, reduceIte, w4], by simp only [tget_put, Nat.reduceEqDiff, if_false, if_true, reduceIte, w11], by simp only [tget_put, Nat.reduceEqDiff, if_false, if_true, reduceIte, w12], by simp only [tget_put, Nat.reduceEqDiff, if_false, if_true, reduceIte, w13], rfl⟩
            · have e3 := eq_false k3
              simp only [w_w, oneW_next, s_0, s_1, s_2, s_3, s_4, g_0, w_0, w_st, Hands, handsV, resultsV, oneOrTuple, argsT, ev, evs, evPairs, evOpt, closed, flat, nth, aCall, aEnter, notYield, aNilCheck, partV, isAggD, aFieldAddr, aField, aExtract, Option.isNone, aBuiltin, aUn, cond_true, cond_false, cond_dec, if_true, if_false, List.length_cons, List.length_nil, forall_const, implies_true, List.append_nil, List.cons_append, List.nil_append, eq_self, Nat.reduceEqDiff, Nat.reduceAdd, Nat.reduceMul, Nat.reduceSub, Nat.reduceLT, Nat.reduceLeDiff, Nat.reduceBEq, reduceIte, reduceCtorEq, w24, e3]
              exact ⟨_, _, y.val, rfl, w6, w7, hval, w4, w11, w12, w13, rfl⟩
        · have dg : decide y.good = false := decide_eq_false hgood
          simp only [w_w, oneW_next, s_0, s_1, s_2, s_3, s_4, g_0, w_0, w_st, Hands, handsV, resultsV, oneOrTuple, argsT, ev, evs, evPairs, evOpt, closed, flat, nth, aCall, aEnter, notYield, aNilCheck, partV, isAggD, aFieldAddr, aField, aExtract, Option.isNone, aBuiltin, aUn, cond_true, cond_false, cond_dec, if_true, if_false, List.length_cons, List.length_nil, forall_const, implies_true, List.append_nil, List.cons_append, List.nil_append, eq_self, Nat.reduceEqDiff, Nat.reduceAdd, Nat.reduceMul, Nat.reduceSub, Nat.reduceLT, Nat.reduceLeDiff, Nat.reduceBEq, reduceIte, reduceCtorEq, dg, un_not, Bool.not_false]
          exact .inr ⟨_, _, rfl, by simp only [tget_put, Nat.reduceEqDiff, if_false, if_true, reduceIte], by simp only [tget_put, Nat.reduceEqDiff, if_false, if_true, reduceIte], ⟨y, hmem, hgood⟩, f1.trans (fC.trans fD)⟩
      · have d1 : ((i : Int) < (l.length : Int)) = False := eq_false (by omega)
        simp only [w_w, oneW_next, s_0, s_1, s_2, s_3, s_4, g_0, w_0, w_st, Hands, handsV, resultsV, oneOrTuple, argsT, ev, evs, evPairs, evOpt, closed, flat, nth, aCall, aEnter, notYield, aNilCheck, partV, isAggD, aFieldAddr, aField, aExtract, Option.isNone, aBuiltin, aUn, cond_true, cond_false, cond_dec, if_true, if_false, List.length_cons, List.length_nil, forall_const, implies_true, List.append_nil, List.cons_append, List.nil_append, eq_self, Nat.reduceEqDiff, Nat.reduceAdd, Nat.reduceMul, Nat.reduceSub, Nat.reduceLT, Nat.reduceLeDiff, Nat.reduceBEq, reduceIte, reduceCtorEq, u13, u12, u11, d1]
        rw [List.take_of_length_le (by omega)] at hgd
        exact .inl ⟨_, _, _, _, fs, rfl, by simp only [tget_put, Nat.reduceEqDiff, if_false, if_true, reduceIte, u4], ho, hif, by omega, fun f hf => (hfs f hf).1, hgd, f1⟩
    all_goals simp only [tget_put, Nat.reduceEqDiff, if_false, if_true, reduceIte]
    all_goals rfl
  · rintro o (⟨T', A', n, r, fs, rfl, u4, ho, hn, hn4, hfs, hgd, hf⟩ | ⟨T', A', rfl, u2, u3, ⟨y, hy1, hy2⟩, hf⟩)
    · simp only [w_w, oneW_next, s_0, s_1, s_2, s_3, s_4, g_0, w_0, w_st, Hands, handsV, resultsV, oneOrTuple, argsT, ev, evs, evPairs, evOpt, closed, flat, nth, aCall, aEnter, notYield, aNilCheck, partV, isAggD, aFieldAddr, aField, aExtract, Option.isNone, aBuiltin, aUn, cond_true, cond_false, cond_dec, if_true, if_false, List.length_cons, List.length_nil, forall_const, implies_true, List.append_nil, List.cons_append, List.nil_append, eq_self, Nat.reduceEqDiff, Nat.reduceAdd, Nat.reduceMul, Nat.reduceSub, Nat.reduceLT, Nat.reduceLeDiff, Nat.reduceBEq, reduceIte, reduceCtorEq, u4]
      have hsl : SlAt E0 A' (fun b => A.next ≤ b) 2 r (fs.map fcell) := OwnS.slAt (by rw [List.length_map, ← hn]; exact ho) (fun _ _ => rfl) (by intro x hx; obtain ⟨f, _, rfl⟩ := List.mem_map.1 hx; rfl)
      refine CallT.mono (CallT.of_call (codec_spec hsl hfs (by omega))) ?_
      rintro _ B ⟨⟨o, rfl⟩, fB⟩
      simp only [w_w, oneW_next, s_0, s_1, s_2, s_3, s_4, g_0, w_0, w_st, Hands, handsV, resultsV, oneOrTuple, argsT, ev, evs, evPairs, evOpt, closed, flat, nth, aCall, aEnter, notYield, aNilCheck, partV, isAggD, aFieldAddr, aField, aExtract, Option.isNone, aBuiltin, aUn, cond_true, cond_false, cond_dec, if_true, if_false, List.length_cons, List.length_nil, forall_const, implies_true, List.append_nil, List.cons_append, List.nil_append, eq_self, Nat.reduceEqDiff, Nat.reduceAdd, Nat.reduceMul, Nat.reduceSub, Nat.reduceLT, Nat.reduceLeDiff, Nat.reduceBEq, reduceIte, reduceCtorEq]
      exact ⟨⟨_, _, rfl, by simpa using ⟨by omega, hgd⟩⟩, hf.trans fB⟩
    · simp only [w_w, oneW_next, s_0, s_1, s_2, s_3, s_4, g_0, w_0, w_st, Hands, handsV, resultsV, oneOrTuple, argsT, ev, evs, evPairs, evOpt, closed, flat, nth, aCall, aEnter, notYield, aNilCheck, partV, isAggD, aFieldAddr, aField, aExtract, Option.isNone, aBuiltin, aUn, cond_true, cond_false, cond_dec, if_true, if_false, List.length_cons, List.length_nil, forall_const, implies_true, List.append_nil, List.cons_append, List.nil_append, eq_self, Nat.reduceEqDiff, Nat.reduceAdd, Nat.reduceMul, Nat.reduceSub, Nat.reduceLT, Nat.reduceLeDiff, Nat.reduceBEq, reduceIte, reduceCtorEq, u2, u3]
      exact ⟨⟨_, _, rfl, by constructor <;> intro h; cases h; exact absurd (h.2 y hy1) hy2⟩, hf⟩
end Go.Proofs.YtgcffmhpjphefaaDoor

/- A queue with nothing in it: what is asked of it, and one that is laid there. -/
namespace Go.Proofs.YtgcffmhpjphefaaDoor
open Go Go.AE
set_option maxRecDepth 10000
set_option maxHeartbeats 8000000
variable {Z : Go.AE.Road}

section
variable {E : Env} {T : Tmps} {A : ASt} {C : Tgt → List Value → ASt → (Value → ASt → Prop) → Prop} {K : Value → ASt → Prop}
theorem oneW_makeInterface {t : TypeId} {x : Operand} : oneW E C (.makeInterface t x) T A K = arW C K (aOp E (.makeInterface t x) T A) := oneW_op rfl
theorem oneW_typeAssert {x : Operand} {u t : TypeId} {ok : Bool} : oneW E C (.typeAssert x u t ok) T A K = arW C K (aOp E (.typeAssert x u t ok) T A) := oneW_op rfl
theorem aOp_makeInterface {t : TypeId} {x : Operand} : aOp E (.makeInterface t x) T A = (match ev T x with
    | some v => ofVal (aMakeIface E t v) A "makeInterface"
    | none => .bad "makeInterface") := by rw [aOp_def]; rfl
theorem aOp_typeAssert {x : Operand} {u t : TypeId} {ok : Bool} : aOp E (.typeAssert x u t ok) T A = (match ev T x with
    | some v => ofVal (aTypeAssert E v t ok) A "typeAssert"
    | none => .bad "typeAssert") := by rw [aOp_def]; rfl
theorem aInvoke_method {t : TypeId} {v r : Value} {name : String} {f : FuncId} {rest cs : List Value} (h : aMethod E t v name A = some (f, r)) : aInvoke E (.method name) (.iface t v :: rest) cs A = aEnter E f (r :: rest) A := by
  simp only [aInvoke, h]
end
theorem mifE {b : Option Addr} : aMakeIface E0 75 (.pointer b) = some (.iface 75 (.pointer b)) := by kernel_rfl
theorem mifT {k : ByteArray} {a : Int} : aMakeIface E0 71 (.agg #[.string k, .int .u64 a]) = some (.iface 71 (.agg #[.string k, .int .u64 a])) := by kernel_rfl
theorem taT {k : ByteArray} {a : Int} : aTypeAssert E0 (.iface 71 (.agg #[.string k, .int .u64 a])) 71 false = some (.agg #[.string k, .int .u64 a]) := by kernel_rfl
theorem mPush {b : Option Addr} {A : ASt} : aMethod E0 75 (.pointer b) "Push" A = some (113, .pointer b) := by kernel_rfl
theorem mLen {b : Option Addr} {A : ASt} : aMethod E0 75 (.pointer b) "Len" A = some (69, .pointer b) := by kernel_rfl
theorem bld80 {x : Option Addr} : aBuild E0 80 [(0, .pointer x)] = some (.agg #[.pointer x]) := by kernel_rfl
theorem bld78 {x : Option Nat} : aBuild E0 78 [(1, .map x)] = some (.agg #[.slice none 0 0, .map x]) := by kernel_rfl
theorem bld71 {k : ByteArray} {a : Int} : aBuild E0 71 [(0, .string k), (1, .int .u64 a)] = some (.agg #[.string k, .int .u64 a]) := by kernel_rfl
theorem box78 {x y : Value} : aBox E0 78 (.agg #[x, y]) = some (.row [x, y] 2 false, ptrTo) := by
  simp only [aBox, w_qu, Value.cells]
theorem box80 {x : Value} : aBox E0 80 (.agg #[x]) = some (.row [x] 1 false, ptrTo) := by
  simp only [aBox, w_qu, Value.cells]
theorem eqnilQ {xo yo : Operand} {x : Option Addr} : aBin2 E0 .eql 53 xo yo (.pointer x) (.pointer none) = some (.bool x.isNone) := b_ptr_nil ti53 t53_desc
/-- A queue with nothing in it. -/
structure Q0 (A : ASt) (q e w : Nat) : Prop where
  hq : A.get q = some (.row [.pointer (some ⟨e, 0, none⟩)] 1 false)
  he : A.get e = some (.row [.slice none 0 0, .map (some w)] 2 false)
  hw : A.get w = some (.map [] 0)
  lt : q < A.next ∧ e < A.next ∧ w < A.next
  ne : e ≠ w ∧ q ≠ w ∧ q ≠ e
theorem Q0.fr {A B : ASt} {q e w : Nat} {own : List Nat} (h : Q0 A q e w) (hf : Fr own A B) (h1 : q ∉ own) (h2 : e ∉ own) (h3 : w ∉ own) : Q0 B q e w :=
  ⟨(hf.get q h.lt.1 h1).trans h.hq, (hf.get e h.lt.2.1 h2).trans h.he, (hf.get w h.lt.2.2 h3).trans h.hw, ⟨Nat.lt_of_lt_of_le h.lt.1 hf.next, Nat.lt_of_lt_of_le h.lt.2.1 hf.next, Nat.lt_of_lt_of_le h.lt.2.2 hf.next⟩, h.ne⟩
theorem lookQ {A : ASt} {w : Nat} {k : ByteArray} (h : A.get w = some (.map [] 0)) : aLookup E0 76 (.map (some w)) (.string k) true A = some (.tuple #[.int .i64 0, .bool false]) := by
  simp only [aLookup, w_qu, w_0, h]
  rfl

theorem qnew_spec {A : ASt} : CallW Z Tryd.prog 21 [] A (fun r A' => ∃ q e w, r = .pointer (some ⟨q, 0, none⟩) ∧ Q0 A' q e w ∧ A.next ≤ q ∧ A.next ≤ e ∧ A.next ≤ w ∧ Fr [] A A') := by
  refine CallW.of_code E0_ok E0_ro fn21 rfl (n := 6) rfl (rs := [.tmp 0]) rfl (by simp) (codeW_ok E0_ok E0_ro ?_)
  simp only [oneW_next, s_0, s_1, s_2, s_3, s_4, g_0, w_0, w_qu, Hands, handsV, resultsV, oneOrTuple, argsT, ev, evs, evPairs, evOpt, closed, flat, nth, aCall, aEnter, notYield, aNilCheck, partV, isAggD, aFieldAddr, aField, aExtract, Option.isNone, aBuiltin, aUn, cond_true, cond_false, cond_dec, if_true, if_false, List.length_cons, List.length_nil, forall_const, implies_true, List.append_nil, List.cons_append, List.nil_append, eq_self, Nat.reduceEqDiff, Nat.reduceAdd, Nat.reduceMul, Nat.reduceSub, Nat.reduceLT, Nat.reduceLeDiff, Nat.reduceBEq, reduceIte, reduceCtorEq, bld78, box78, bld80, box80, ptrTo]
  generalize hC : ASt.new (ASt.new (ASt.new A _) _) _ = C
  have hg : ∀ b, C.get b = if b = A.next + 1 + 1 then some (.row [.pointer (some ⟨A.next + 1, 0, none⟩)] 1 false) else if b = A.next + 1 then some (.row [.slice none 0 0, .map (some A.next)] 2 false) else if b = A.next then some (.map [] 0) else A.get b := fun b => by
    rw [← hC]
    simp only [ASt.get_new, ASt.next_new]
  have hn : C.next = A.next + 3 := by rw [← hC]; simp only [ASt.next_new]
  refine ⟨A.next + 1 + 1, A.next + 1, A.next, rfl, ⟨?_, ?_, ?_, by omega, by omega⟩, by omega, by omega, by omega, ⟨by omega, fun b hb _ => ?_⟩⟩
  · rw [hg, if_pos rfl]
  · rw [hg, if_neg (by omega), if_pos rfl]
  · rw [hg, if_neg (by omega), if_neg (by omega), if_pos rfl]
  · rw [hg, if_neg (by omega), if_neg (by omega), if_neg (by omega)]
theorem qat_spec {A : ASt} {q e w : Nat} {k : ByteArray} (h : Q0 A q e w) : CallW Z Tryd.prog 40 [.pointer (some ⟨q, 0, none⟩), .string k] A (fun r A' => r = .tuple #[.int .i64 0, .bool false] ∧ A' = A) := by
  refine CallW.of_code E0_ok E0_ro fn40 rfl (n := 24) rfl (rs := [.tmp 4, .tmp 5]) rfl (by simp) (codeW_ok E0_ok E0_ro ?_)
  have h1 := h.hq
  have h2 := h.he
  simp only [oneW_next, s_0, s_1, s_2, s_3, s_4, g_0, w_0, w_qu, Hands, handsV, resultsV, oneOrTuple, argsT, ev, evs, evPairs, evOpt, closed, flat, nth, aCall, aEnter, notYield, aNilCheck, partV, isAggD, aFieldAddr, aField, aExtract, Option.isNone, aBuiltin, aUn, cond_true, cond_false, cond_dec, if_true, if_false, List.length_cons, List.length_nil, forall_const, implies_true, List.append_nil, List.cons_append, List.nil_append, eq_self, Nat.reduceEqDiff, Nat.reduceAdd, Nat.reduceMul, Nat.reduceSub, Nat.reduceLT, Nat.reduceLeDiff, Nat.reduceBEq, reduceIte, reduceCtorEq, eqnilQ, h1, h2, lookQ h.hw]
theorem qdrop_spec {A : ASt} {q e w : Nat} {k : ByteArray} (h : Q0 A q e w) : CallW Z Tryd.prog 38 [.pointer (some ⟨q, 0, none⟩), .string k] A (fun r A' => r = .bool false ∧ A' = A) := by
  refine CallW.of_code E0_ok E0_ro fn38 rfl (n := 22) rfl (rs := [.tmp 4]) rfl (by simp) (codeW_ok E0_ok E0_ro ?_)
  simp only [oneW_next, s_0, s_1, s_2, s_3, s_4, g_0, w_0, w_qu, Hands, handsV, resultsV, oneOrTuple, argsT, ev, evs, evPairs, evOpt, closed, flat, nth, aCall, aEnter, notYield, aNilCheck, partV, isAggD, aFieldAddr, aField, aExtract, Option.isNone, aBuiltin, aUn, cond_true, cond_false, cond_dec, if_true, if_false, List.length_cons, List.length_nil, forall_const, implies_true, List.append_nil, List.cons_append, List.nil_append, eq_self, Nat.reduceEqDiff, Nat.reduceAdd, Nat.reduceMul, Nat.reduceSub, Nat.reduceLT, Nat.reduceLeDiff, Nat.reduceBEq, reduceIte, reduceCtorEq]
  refine CallT.mono (CallT.of_call (qat_spec h)) ?_
  rintro _ _ ⟨rfl, rfl⟩
  simp only [oneW_next, s_0, s_1, s_2, s_3, s_4, g_0, w_0, w_qu, Hands, handsV, resultsV, oneOrTuple, argsT, ev, evs, evPairs, evOpt, closed, flat, nth, aCall, aEnter, notYield, aNilCheck, partV, isAggD, aFieldAddr, aField, aExtract, Option.isNone, aBuiltin, aUn, cond_true, cond_false, cond_dec, if_true, if_false, List.length_cons, List.length_nil, forall_const, implies_true, List.append_nil, List.cons_append, List.nil_append, eq_self, Nat.reduceEqDiff, Nat.reduceAdd, Nat.reduceMul, Nat.reduceSub, Nat.reduceLT, Nat.reduceLeDiff, Nat.reduceBEq, reduceIte, reduceCtorEq]

theorem fresh_ta {x : Operand} {u v : TypeId} {ok : Bool} {E : Env} : freshOp E (.typeAssert x u v ok) = false := by simp only [freshOp]
theorem quiet_ta {x : Operand} {u v : TypeId} {ok : Bool} {E : Env} : quietOp E (.typeAssert x u v ok) = true := by simp only [quietOp]
theorem fresh_mi {x : Operand} {u : TypeId} {E : Env} : freshOp E (.makeInterface u x) = false := by simp only [freshOp]
theorem quiet_mi {x : Operand} {u : TypeId} {E : Env} : quietOp E (.makeInterface u x) = true := by simp only [quietOp]
theorem fieldT {k : ByteArray} {a : Int} : aField E0 71 (.agg #[.string k, .int .u64 a]) 0 = some (.string k) := by kernel_rfl
theorem bs68 {k : ByteArray} {a : Int} : aBuildSlice E0 68 1 [(0, .agg #[.string k, .int .u64 a])] = some (.row [.string k, .int .u64 a] 2 false, fun id => .slice (some ⟨id, 0, none⟩) 1 1) := by
  simp only [aBuildSlice, w_qu]; rfl
theorem updQ {A : ASt} {w : Nat} {k : ByteArray} {x : Int} (h : A.get w = some (.map [] 0)) : ∃ es n, aMapUpdate E0 76 (.map (some w)) (.string k) (.int .i64 x) A = some (A.set w (.map es n)) := by
  refine ⟨[] ++ [{ key := .string k, val := .int .i64 x, born := 0 }], 0 + 1, ?_⟩
  simp only [aMapUpdate, w_qu, w_0, h]
  rfl
theorem st68 {A : ASt} {e : Nat} {x y : Value} {v : Value} (h : A.get e = some (.row [x, y] 2 false)) (hv : v.cells = #[v] ∧ Go.AE.single v = true) : aStore E0 68 (.pointer (some ⟨e, 0, none⟩)) v A = some (A.set e (.row [v, y] 2 false)) := by
  have e1 : v.cells.toList = [v] := by rw [hv.1]
  have e2 : singles [v] = true := by simp only [singles, hv.2, Bool.and_self]
  simp only [aStore, h, w_qu, e1, e2]; rfl
theorem va71 {k : ByteArray} {a : Int} : valEq (.agg #[.string k, .int .u64 a]) (.agg #[.string k, .int .u64 a]) = true := by simp [valEq, vEq, vStep, flatEq, lEq, bytesEq_iff]

theorem z71c : closed (.agg #[.string ByteArray.empty, .int .u64 0]) = true := by kernel_rfl
theorem z71l : Nat.beq (Value.agg #[.string ByteArray.empty, .int .u64 0]).cells.toList.length 2 = true := by kernel_rfl
theorem qpush_spec {A : ASt} {q e w : Nat} {k : ByteArray} {a : Nat} (h : Q0 A q e w) : CallW Z Tryd.prog 113 [.pointer (some ⟨e, 0, none⟩), .iface 71 (.agg #[.string k, .int .u64 (a : Int)])] A (fun _ A' => (∃ b c, A'.get e = some (.row [.slice b 1 c, .map (some w)] 2 false)) ∧ Fr [e, w] A A') := by
  refine CallW.of_code E0_ok E0_ro fn113 rfl (n := 27) rfl (rs := []) rfl (by simp) (codeW_ok E0_ok E0_ro ?_)
  have h2 := h.he
  obtain ⟨es, n, hup⟩ := updQ (k := k) (x := 0) (A := { heap := A.heap, next := A.next + 13 }) (w := w) (by rw [get_next]; exact h.hw)
  have lenQ : ∀ B, aLen E0 68 (.slice none 0 0) B = some (.int .i64 0) := fun B => by simp only [aLen, w_qu]; rfl
  simp only [oneW_next, s_0, s_1, s_2, s_3, s_4, g_0, w_0, w_qu, Hands, handsV, resultsV, oneOrTuple, argsT, ev, evs, evPairs, evOpt, closed, flat, nth, aCall, aEnter, notYield, aNilCheck, partV, isAggD, aFieldAddr, aField, aExtract, Option.isNone, aBuiltin, aUn, cond_true, cond_false, cond_dec, if_true, if_false, List.length_cons, List.length_nil, forall_const, implies_true, List.append_nil, List.cons_append, List.nil_append, eq_self, Nat.reduceEqDiff, Nat.reduceAdd, Nat.reduceMul, Nat.reduceSub, Nat.reduceLT, Nat.reduceLeDiff, Nat.reduceBEq, reduceIte, reduceCtorEq]
  refine CodeW.seqf E0_ok E0_ro mixed noCon_ok [0, 1, 2, 3, 4, 5, 6, 7, 8, 9, 10, 11, 12] [] (fanOf _ _ _) (by simp only [reorder, reoGo, strip, List.map_cons, List.map_nil, opAt, remap, nth, Option.map, σ, place', nbeq, List.length_cons, List.length_nil, Nat.reduceAdd, Nat.reduceLT, Nat.reduceEqDiff, if_true, if_false, reduceIte]; rfl) (by decide +kernel) (by kernel_rfl) (by kernel_rfl) (by kernel_rfl) rfl ?_
  simp only [oneW_next, s_0, s_1, s_2, s_3, s_4, g_0, w_0, w_qu, Hands, handsV, resultsV, oneOrTuple, argsT, ev, evs, evPairs, evOpt, closed, flat, nth, aCall, aEnter, notYield, aNilCheck, partV, isAggD, aFieldAddr, aField, aExtract, Option.isNone, aBuiltin, aUn, cond_true, cond_false, cond_dec, if_true, if_false, List.length_cons, List.length_nil, forall_const, implies_true, List.append_nil, List.cons_append, List.nil_append, eq_self, Nat.reduceEqDiff, Nat.reduceAdd, Nat.reduceMul, Nat.reduceSub, Nat.reduceLT, Nat.reduceLeDiff, Nat.reduceBEq, reduceIte, reduceCtorEq, q_0, q_1, q_2, f_0, pendW, hasN, reorder, E0_ron, exists_eq', List.length_cons, List.length_nil, fresh_ta, quiet_ta, oneW_typeAssert, aOp_typeAssert, taT, fieldT, h2, lenQ, hup, get_next]
  clear hup
  generalize hA : ASt.set _ w (.map es n) = A1
  have a1 : ∀ b, b ≠ w → A1.get b = A.get b := fun b hb => by rw [← hA, ASt.get_set, if_neg hb, get_next]
  have n1 : A1.next = A.next + 13 := by rw [← hA, ASt.next_set]
  clear hA
  have ce : A1.get e = some (.row [.slice none 0 0, .map (some w)] 2 false) := (a1 e h.ne.1).trans h2
  have vs : valEq (.slice none 0 0) (.slice none 0 0) = true := valEq_nilSlice
  have hlt := h.lt
  have hH : Fr [] A1 (ASt.set { heap := A1.heap, next := A1.next + 12 } (A1.next + 7) (.row [.string k, .int .u64 (a : Int)] 2 false)) := ⟨by rw [ASt.next_set]; exact Nat.le_add_right _ _, fun b hb _ => by rw [ASt.get_set, if_neg (by omega), get_next]⟩
  have srcE : srcCells E0 2 (.slice (some ⟨A1.next + 7, 0, none⟩) 1 1) 1 (ASt.set { heap := A1.heap, next := A1.next + 12 } (A1.next + 7) (.row [.string k, .int .u64 (a : Int)] 2 false)) = some [.string k, .int .u64 (a : Int)] := by
    simp only [srcCells, ASt.get_set, if_true]
    rfl
  obtain ⟨r, B, ha, ho, fB, hr⟩ := (show OwnS (ASt.set { heap := A1.heap, next := A1.next + 12 } (A1.next + 7) (.row [.string k, .int .u64 (a : Int)] 2 false)) A.next 2 0 (.slice none 0 0) [] from .inl ⟨rfl, rfl, rfl⟩).app (E := E0) (xt := 68) (x := .slice (some ⟨A1.next + 7, 0, none⟩) 1 1) (m := 1) ti68 t68_desc ti71 t71_size ti68 (by rw [t68_desc]; rfl) t71_zero z71c z71l (by omega) rfl srcE rfl rfl (by rw [t71_bytes]; omega) (by rw [ASt.next_set]; show A.next ≤ A1.next + 12; omega)
  have fAB : Fr [w] A B := ⟨by have := fB.next; rw [ASt.next_set] at this; have h3 : A1.next + 12 ≤ B.next := this; omega, fun b hb hn => by
    rw [fB.get b (by rw [ASt.next_set]; show b < A1.next + 12; omega) (by simp [slB]), ASt.get_set, if_neg (by omega), get_next]
    exact a1 b (by simpa using hn)⟩
  have cB : B.get e = some (.row [.slice none 0 0, .map (some w)] 2 false) := (fAB.get e hlt.2.1 (by simpa using h.ne.1)).trans h2
  have hst := st68 cB ⟨ho.cells1, ho.single⟩
  refine CodeW.seqf E0_ok E0_ro mixed noCon_ok [0,1,2,3,4,5,6,7,8,9,10,11] [0] [[],[],[],[],[],[],[],[],[7],[7],[7],[7]] (by simp only [reorder, reoGo, strip, List.map_cons, List.map_nil, opAt, remap, nth, Option.map, σ, place', nbeq, List.length_cons, List.length_nil, Nat.reduceAdd, Nat.reduceLT, Nat.reduceEqDiff, if_true, if_false, reduceIte]; rfl) (by decide +kernel) (by kernel_rfl) (by kernel_rfl) (by kernel_rfl) (by kernel_rfl) ?_
  simp only [oneW_next, s_0, s_1, s_2, s_3, s_4, g_0, w_0, w_qu, Hands, handsV, resultsV, oneOrTuple, argsT, ev, evs, evPairs, evOpt, closed, flat, nth, aCall, aEnter, notYield, aNilCheck, partV, isAggD, aFieldAddr, aField, aExtract, Option.isNone, aBuiltin, aUn, cond_true, cond_false, cond_dec, if_true, if_false, List.length_cons, List.length_nil, forall_const, implies_true, List.append_nil, List.cons_append, List.nil_append, eq_self, Nat.reduceEqDiff, Nat.reduceAdd, Nat.reduceMul, Nat.reduceSub, Nat.reduceLT, Nat.reduceLeDiff, Nat.reduceBEq, reduceIte, reduceCtorEq, q_0, q_1, q_2, f_0, pendW, hasN, reorder, E0_ron, exists_eq', List.length_cons, List.length_nil, Bool.false_and, Bool.and_false, fresh_ta, quiet_ta, oneW_typeAssert, aOp_typeAssert, taT, ce, vs, va71, bs68, lenQ, ha, hst, get_next]
  have hform : ∃ b c, r = .slice b 1 c := by
    rcases ho with ⟨h0, _⟩ | ⟨b, c, tl, rfl, _⟩
    · omega
    · exact ⟨_, _, rfl⟩
  obtain ⟨rb, rc, rfl⟩ := hform
  exact ⟨⟨_, _, rfl⟩, ⟨by rw [ASt.next_set]; exact fAB.next, fun b hb hn => by
    simp only [List.mem_cons, List.not_mem_nil, or_false, not_or] at hn
    rw [ASt.get_set, if_neg hn.1]
    exact fAB.get b hb (by simpa using hn.2)⟩⟩
theorem qlen_spec {A : ASt} {e : Nat} {b : Option Addr} {n c : Nat} {y : Value} {tl : Bool} (h : A.get e = some (.row [.slice b n c, y] 2 tl)) : CallW Z Tryd.prog 69 [.pointer (some ⟨e, 0, none⟩)] A (fun r A' => r = .int .i64 (n : Int) ∧ A' = A) := by
  refine CallW.of_code E0_ok E0_ro fn69 rfl (n := 8) rfl (rs := [.tmp 2]) rfl (by simp) (codeW_ok E0_ok E0_ro ?_)
  have lenQ : ∀ B, aLen E0 68 (.slice b n c) B = some (.int .i64 (n : Int)) := fun B => by simp only [aLen, w_qu]; rfl
  simp only [oneW_next, s_0, s_1, s_2, s_3, s_4, g_0, w_0, w_qu, Hands, handsV, resultsV, oneOrTuple, argsT, ev, evs, evPairs, evOpt, closed, flat, nth, aCall, aEnter, notYield, aNilCheck, partV, isAggD, aFieldAddr, aField, aExtract, Option.isNone, aBuiltin, aUn, cond_true, cond_false, cond_dec, if_true, if_false, List.length_cons, List.length_nil, forall_const, implies_true, List.append_nil, List.cons_append, List.nil_append, eq_self, Nat.reduceEqDiff, Nat.reduceAdd, Nat.reduceMul, Nat.reduceSub, Nat.reduceLT, Nat.reduceLeDiff, Nat.reduceBEq, reduceIte, reduceCtorEq, h, lenQ]
theorem qup_spec {A : ASt} {x : Value} : CallW Z Tryd.prog 55 [x, .int .i64 0] A (fun _ A' => A' = A) := by
  refine CallW.of_code E0_ok E0_ro fn55 rfl (n := 23) rfl (rs := []) rfl (by simp) (codeW_ok E0_ok E0_ro ?_)
  have w1 : IntKind.i64.wrap (0 - 1) = -1 := by kernel_rfl
  have w2 : IntKind.i64.wrap ((-1 : Int).tdiv 2) = 0 := by kernel_rfl
  simp only [oneW_next, s_0, s_1, s_2, s_3, s_4, g_0, w_0, w_qu, Hands, handsV, resultsV, oneOrTuple, argsT, ev, evs, evPairs, evOpt, closed, flat, nth, aCall, aEnter, notYield, aNilCheck, partV, isAggD, aFieldAddr, aField, aExtract, Option.isNone, aBuiltin, aUn, cond_true, cond_false, cond_dec, if_true, if_false, List.length_cons, List.length_nil, forall_const, implies_true, List.append_nil, List.cons_append, List.nil_append, eq_self, Nat.reduceEqDiff, Nat.reduceAdd, Nat.reduceMul, Nat.reduceSub, Nat.reduceLT, Nat.reduceLeDiff, Nat.reduceBEq, reduceIte, reduceCtorEq]
  refine CodeW.mono (Q := fun o => ∃ T', o = .fr ⟨.exit 0, T', A⟩) ?_ ?_
  · refine CodeW.loopR (k := 0) (fun n T A' => tget T 1 = .int .i64 0 ∧ A' = A) ?_ ⟨?_, rfl⟩
    · rintro n T A' ⟨u1, rfl⟩
      refine codeW_ok E0_ok E0_ro ?_
      simp only [oneW_next, s_0, s_1, s_2, s_3, s_4, g_0, w_0, w_qu, Hands, handsV, resultsV, oneOrTuple, argsT, ev, evs, evPairs, evOpt, closed, flat, nth, aCall, aEnter, notYield, aNilCheck, partV, isAggD, aFieldAddr, aField, aExtract, Option.isNone, aBuiltin, aUn, cond_true, cond_false, cond_dec, if_true, if_false, List.length_cons, List.length_nil, forall_const, implies_true, List.append_nil, List.cons_append, List.nil_append, eq_self, Nat.reduceEqDiff, Nat.reduceAdd, Nat.reduceMul, Nat.reduceSub, Nat.reduceLT, Nat.reduceLeDiff, Nat.reduceBEq, reduceIte, reduceCtorEq, u1, w1, b_quo (show (2 : Int) ≠ 0 by decide), w2, undef]
      exact ⟨_, rfl⟩
    · first | rfl | (simp only [tget_put, Nat.reduceEqDiff, if_false, if_true, reduceIte]; done) | (unfold argsT; rfl) | (simp [argsT, tget_put]; done) | trace_state
  · rintro o ⟨T', rfl⟩
    simp only [oneW_next, s_0, s_1, s_2, s_3, s_4, g_0, w_0, w_qu, Hands, handsV, resultsV, oneOrTuple, argsT, ev, evs, evPairs, evOpt, closed, flat, nth, aCall, aEnter, notYield, aNilCheck, partV, isAggD, aFieldAddr, aField, aExtract, Option.isNone, aBuiltin, aUn, cond_true, cond_false, cond_dec, if_true, if_false, List.length_cons, List.length_nil, forall_const, implies_true, List.append_nil, List.cons_append, List.nil_append, eq_self, Nat.reduceEqDiff, Nat.reduceAdd, Nat.reduceMul, Nat.reduceSub, Nat.reduceLT, Nat.reduceLeDiff, Nat.reduceBEq, reduceIte, reduceCtorEq]
theorem hpush_spec {A : ASt} {q e w : Nat} {k : ByteArray} {a : Nat} (h : Q0 A q e w) : CallW Z Tryd.prog 42 [.iface 75 (.pointer (some ⟨e, 0, none⟩)), .iface 71 (.agg #[.string k, .int .u64 (a : Int)])] A (fun _ A' => Fr [e, w] A A') := by
  refine CallW.of_code E0_ok E0_ro fn42 rfl (n := 12) rfl (rs := []) rfl (by simp) (codeW_ok E0_ok E0_ro ?_)
  have w1 : IntKind.i64.wrap (1 - 1) = 0 := by kernel_rfl
  simp only [oneW_next, s_0, s_1, s_2, s_3, s_4, g_0, w_0, w_qu, Hands, handsV, resultsV, oneOrTuple, argsT, ev, evs, evPairs, evOpt, closed, flat, nth, aCall, aEnter, notYield, aNilCheck, partV, isAggD, aFieldAddr, aField, aExtract, Option.isNone, aBuiltin, aUn, cond_true, cond_false, cond_dec, if_true, if_false, List.length_cons, List.length_nil, forall_const, implies_true, List.append_nil, List.cons_append, List.nil_append, eq_self, Nat.reduceEqDiff, Nat.reduceAdd, Nat.reduceMul, Nat.reduceSub, Nat.reduceLT, Nat.reduceLeDiff, Nat.reduceBEq, reduceIte, reduceCtorEq, aInvoke_method mPush]
  refine CallT.mono (CallT.of_call (qpush_spec h)) ?_
  rintro _ B ⟨⟨b, c, hB⟩, fB⟩
  simp only [oneW_next, s_0, s_1, s_2, s_3, s_4, g_0, w_0, w_qu, Hands, handsV, resultsV, oneOrTuple, argsT, ev, evs, evPairs, evOpt, closed, flat, nth, aCall, aEnter, notYield, aNilCheck, partV, isAggD, aFieldAddr, aField, aExtract, Option.isNone, aBuiltin, aUn, cond_true, cond_false, cond_dec, if_true, if_false, List.length_cons, List.length_nil, forall_const, implies_true, List.append_nil, List.cons_append, List.nil_append, eq_self, Nat.reduceEqDiff, Nat.reduceAdd, Nat.reduceMul, Nat.reduceSub, Nat.reduceLT, Nat.reduceLeDiff, Nat.reduceBEq, reduceIte, reduceCtorEq, aInvoke_method mLen]
  refine CallT.mono (CallT.of_call (qlen_spec hB)) ?_
  rintro _ _ ⟨rfl, rfl⟩
  have w1 : IntKind.i64.wrap (((1 : Nat) : Int) - 1) = 0 := by kernel_rfl
  simp only [oneW_next, s_0, s_1, s_2, s_3, s_4, g_0, w_0, w_qu, Hands, handsV, resultsV, oneOrTuple, argsT, ev, evs, evPairs, evOpt, closed, flat, nth, aCall, aEnter, notYield, aNilCheck, partV, isAggD, aFieldAddr, aField, aExtract, Option.isNone, aBuiltin, aUn, cond_true, cond_false, cond_dec, if_true, if_false, List.length_cons, List.length_nil, forall_const, implies_true, List.append_nil, List.cons_append, List.nil_append, eq_self, Nat.reduceEqDiff, Nat.reduceAdd, Nat.reduceMul, Nat.reduceSub, Nat.reduceLT, Nat.reduceLeDiff, Nat.reduceBEq, reduceIte, reduceCtorEq, w1]
  refine CallT.mono (CallT.of_call qup_spec) ?_
  rintro _ _ rfl
  simp only [oneW_next, s_0, s_1, s_2, s_3, s_4, g_0, w_0, w_qu, Hands, handsV, resultsV, oneOrTuple, argsT, ev, evs, evPairs, evOpt, closed, flat, nth, aCall, aEnter, notYield, aNilCheck, partV, isAggD, aFieldAddr, aField, aExtract, Option.isNone, aBuiltin, aUn, cond_true, cond_false, cond_dec, if_true, if_false, List.length_cons, List.length_nil, forall_const, implies_true, List.append_nil, List.cons_append, List.nil_append, eq_self, Nat.reduceEqDiff, Nat.reduceAdd, Nat.reduceMul, Nat.reduceSub, Nat.reduceLT, Nat.reduceLeDiff, Nat.reduceBEq, reduceIte, reduceCtorEq]
  exact fB
theorem qput_spec {A : ASt} {q e w : Nat} {k : ByteArray} {a : Nat} (h : Q0 A q e w) : CallW Z Tryd.prog 26 [.pointer (some ⟨q, 0, none⟩), .string k, .int .u64 (a : Int)] A (fun _ A' => Fr [e, w] A A') := by
  refine CallW.of_code E0_ok E0_ro fn26 rfl (n := 49) rfl (rs := [.tmp 6]) rfl (by simp) (codeW_ok E0_ok E0_ro ?_)
  have h1 := h.hq
  simp only [oneW_next, s_0, s_1, s_2, s_3, s_4, g_0, w_0, w_qu, Hands, handsV, resultsV, oneOrTuple, argsT, ev, evs, evPairs, evOpt, closed, flat, nth, aCall, aEnter, notYield, aNilCheck, partV, isAggD, aFieldAddr, aField, aExtract, Option.isNone, aBuiltin, aUn, cond_true, cond_false, cond_dec, if_true, if_false, List.length_cons, List.length_nil, forall_const, implies_true, List.append_nil, List.cons_append, List.nil_append, eq_self, Nat.reduceEqDiff, Nat.reduceAdd, Nat.reduceMul, Nat.reduceSub, Nat.reduceLT, Nat.reduceLeDiff, Nat.reduceBEq, reduceIte, reduceCtorEq]
  refine CallT.mono (CallT.of_call (qat_spec h)) ?_
  rintro _ _ ⟨rfl, rfl⟩
  simp only [oneW_next, s_0, s_1, s_2, s_3, s_4, g_0, w_0, w_qu, Hands, handsV, resultsV, oneOrTuple, argsT, ev, evs, evPairs, evOpt, closed, flat, nth, aCall, aEnter, notYield, aNilCheck, partV, isAggD, aFieldAddr, aField, aExtract, Option.isNone, aBuiltin, aUn, cond_true, cond_false, cond_dec, if_true, if_false, List.length_cons, List.length_nil, forall_const, implies_true, List.append_nil, List.cons_append, List.nil_append, eq_self, Nat.reduceEqDiff, Nat.reduceAdd, Nat.reduceMul, Nat.reduceSub, Nat.reduceLT, Nat.reduceLeDiff, Nat.reduceBEq, reduceIte, reduceCtorEq, eqnilQ, h1, oneW_makeInterface, aOp_makeInterface, mifE, mifT, bld71]
  refine CallT.mono (CallT.of_call (hpush_spec h)) ?_
  rintro _ B fB
  simp only [oneW_next, s_0, s_1, s_2, s_3, s_4, g_0, w_0, w_qu, Hands, handsV, resultsV, oneOrTuple, argsT, ev, evs, evPairs, evOpt, closed, flat, nth, aCall, aEnter, notYield, aNilCheck, partV, isAggD, aFieldAddr, aField, aExtract, Option.isNone, aBuiltin, aUn, cond_true, cond_false, cond_dec, if_true, if_false, List.length_cons, List.length_nil, forall_const, implies_true, List.append_nil, List.cons_append, List.nil_append, eq_self, Nat.reduceEqDiff, Nat.reduceAdd, Nat.reduceMul, Nat.reduceSub, Nat.reduceLT, Nat.reduceLeDiff, Nat.reduceBEq, reduceIte, reduceCtorEq]
  exact fB
end Go.Proofs.YtgcffmhpjphefaaDoor
