/- What the evaluator reads of the program. -/
import Derived.Test.YtgcffmhpjphefaaGreatDoorP06
import Derived.Test.YtgcffmhpjphefaaGreatDoorProg
import Derived.ProofKit
import Derived.Laws.Externs
import Derived.Test.YtgcffmhpjphefaaGreatDoorRows
import Derived.Lib.SmallJoins
import Derived.Deep.Slices
import Derived.Test.YtgcffmhpjphefaaGreatDoorQ1
import Derived.Lib.ItoaNum
set_option linter.unusedSimpArgs false
set_option linter.unusedVariables false
set_option linter.unusedSectionVars false
namespace Go.Proofs.YtgcffmhpjphefaaGreatDoor
open Go Go.AE
set_option linter.defProp false

def tab0 : ExtTab := [(91, add64Entry)]
theorem tab0_ok : ExtOK Tryz.prog tab0 := extOK_cons Tryz.f91 Tryz.func91 (by kernel_rfl) (by kernel_rfl) (by kernel_rfl) (by kernel_rfl) ((extOK_nil _))
noncomputable def E0 : Env := envOf Tryz.prog tab0 noHook
theorem E0_ok : EnvOK E0 Tryz.prog := envOf_ok tab0_ok
theorem E0_ro {Z : Go.AE.Road} : RoadRo Z E0 := fun _ _ _ _ _ _ h => by cases h
theorem E0_ron {b : Nat} : E0.ro b = none := rfl
theorem mixed : Tryz.prog.follows .mixedOrders = true := by kernel_rfl

noncomputable def t3 : TIn := match tiOf Tryz.prog 3 with
  | some i => i
  | none => ⟨.bool, 0, 0, none, #[], none⟩
theorem ti3 : E0.ti 3 = some t3 := by kernel_rfl
theorem t3_desc : t3.desc = TypeDesc.int IntKind.i64 := by kernel_rfl
theorem t3_size : t3.size = 1 := by kernel_rfl
theorem t3_zero : t3.zero = some (.int .i64 0) := by kernel_rfl
noncomputable def t4 : TIn := match tiOf Tryz.prog 4 with
  | some i => i
  | none => ⟨.bool, 0, 0, none, #[], none⟩
theorem ti4 : E0.ti 4 = some t4 := by kernel_rfl
theorem t4_desc : t4.desc = TypeDesc.bool := by kernel_rfl
theorem t4_size : t4.size = 1 := by kernel_rfl
theorem t4_zero : t4.zero = some (.bool false) := by kernel_rfl
noncomputable def t9 : TIn := match tiOf Tryz.prog 9 with
  | some i => i
  | none => ⟨.bool, 0, 0, none, #[], none⟩
theorem ti9 : E0.ti 9 = some t9 := by kernel_rfl
theorem t9_desc : t9.desc = TypeDesc.string := by kernel_rfl
theorem t9_size : t9.size = 1 := by kernel_rfl
theorem t9_zero : t9.zero = some (.string ByteArray.empty) := by kernel_rfl
theorem t9_bytes : t9.bytes = 16 := by kernel_rfl
noncomputable def t22 : TIn := match tiOf Tryz.prog 22 with
  | some i => i
  | none => ⟨.bool, 0, 0, none, #[], none⟩
theorem ti22 : E0.ti 22 = some t22 := by kernel_rfl
theorem t22_desc : t22.desc = TypeDesc.int IntKind.u64 := by kernel_rfl
theorem t22_size : t22.size = 1 := by kernel_rfl
theorem t22_zero : t22.zero = some (.int .u64 0) := by kernel_rfl
noncomputable def t2 : TIn := match tiOf Tryz.prog 2 with
  | some i => i
  | none => ⟨.bool, 0, 0, none, #[], none⟩
theorem ti2 : E0.ti 2 = some t2 := by kernel_rfl
theorem t2_desc : t2.desc = TypeDesc.int IntKind.i64 := by kernel_rfl
theorem t2_size : t2.size = 1 := by kernel_rfl
theorem t2_zero : t2.zero = some (.int .i64 0) := by kernel_rfl
noncomputable def t28 : TIn := match tiOf Tryz.prog 28 with
  | some i => i
  | none => ⟨.bool, 0, 0, none, #[], none⟩
theorem ti28 : E0.ti 28 = some t28 := by kernel_rfl
theorem t28_desc : t28.desc = TypeDesc.slice 56 := by kernel_rfl
theorem t28_size : t28.size = 1 := by kernel_rfl
theorem t28_zero : t28.zero = some (.slice none 0 0) := by kernel_rfl
noncomputable def t56 : TIn := match tiOf Tryz.prog 56 with
  | some i => i
  | none => ⟨.bool, 0, 0, none, #[], none⟩
theorem ti56 : E0.ti 56 = some t56 := by kernel_rfl
theorem t56_desc : t56.desc = TypeDesc.struct #[{ name := "Kind", type := 54, offset := 0, embedded := false, tag := "", pkgPath := "", byteOffset := 0 }, { name := "Key", type := 9, offset := 1, embedded := false, tag := "", pkgPath := "", byteOffset := 8 }, { name := "Value", type := 9, offset := 2, embedded := false, tag := "", pkgPath := "", byteOffset := 24 }, { name := "N", type := 2, offset := 3, embedded := false, tag := "", pkgPath := "", byteOffset := 40 }] := by kernel_rfl
theorem t56_size : t56.size = 4 := by kernel_rfl
theorem t56_zero : t56.zero = some (.agg #[.int .i64 0, .string ByteArray.empty, .string ByteArray.empty, .int .i64 0]) := by kernel_rfl
theorem t56_bytes : t56.bytes = 48 := by kernel_rfl
noncomputable def t54 : TIn := match tiOf Tryz.prog 54 with
  | some i => i
  | none => ⟨.bool, 0, 0, none, #[], none⟩
theorem ti54 : E0.ti 54 = some t54 := by kernel_rfl
theorem t54_desc : t54.desc = TypeDesc.int IntKind.i64 := by kernel_rfl
theorem t54_size : t54.size = 1 := by kernel_rfl
theorem t54_zero : t54.zero = some (.int .i64 0) := by kernel_rfl
noncomputable def t30 : TIn := match tiOf Tryz.prog 30 with
  | some i => i
  | none => ⟨.bool, 0, 0, none, #[], none⟩
theorem ti30 : E0.ti 30 = some t30 := by kernel_rfl
theorem t30_desc : t30.desc = TypeDesc.struct #[{ name := "Name", type := 9, offset := 0, embedded := false, tag := "", pkgPath := "", byteOffset := 0 }, { name := "Version", type := 3, offset := 1, embedded := false, tag := "", pkgPath := "", byteOffset := 16 }, { name := "At", type := 22, offset := 2, embedded := false, tag := "", pkgPath := "", byteOffset := 24 }, { name := "Every", type := 22, offset := 3, embedded := false, tag := "", pkgPath := "", byteOffset := 32 }, { name := "Do", type := 28, offset := 4, embedded := false, tag := "", pkgPath := "", byteOffset := 40 }] := by kernel_rfl
theorem t30_size : t30.size = 5 := by kernel_rfl
theorem t30_zero : t30.zero = some (.agg #[.string ByteArray.empty, .int .i64 0, .int .u64 0, .int .u64 0, .slice none 0 0]) := by kernel_rfl
theorem t30_bytes : t30.bytes = 64 := by kernel_rfl
noncomputable def t24 : TIn := match tiOf Tryz.prog 24 with
  | some i => i
  | none => ⟨.bool, 0, 0, none, #[], none⟩
theorem ti24 : E0.ti 24 = some t24 := by kernel_rfl
theorem t24_desc : t24.desc = TypeDesc.array 2 22 := by kernel_rfl
theorem t24_size : t24.size = 2 := by kernel_rfl
theorem t24_zero : t24.zero = some (.agg #[.int .u64 0, .int .u64 0]) := by kernel_rfl
noncomputable def t31 : TIn := match tiOf Tryz.prog 31 with
  | some i => i
  | none => ⟨.bool, 0, 0, none, #[], none⟩
theorem ti31 : E0.ti 31 = some t31 := by kernel_rfl
theorem t31_desc : t31.desc = TypeDesc.int IntKind.i64 := by kernel_rfl
theorem t31_size : t31.size = 1 := by kernel_rfl
theorem t31_zero : t31.zero = some (.int .i64 0) := by kernel_rfl
noncomputable def t65 : TIn := match tiOf Tryz.prog 65 with
  | some i => i
  | none => ⟨.bool, 0, 0, none, #[], none⟩
theorem ti65 : E0.ti 65 = some t65 := by kernel_rfl
theorem t65_desc : t65.desc = TypeDesc.pointer 101 := by kernel_rfl
theorem t65_size : t65.size = 1 := by kernel_rfl
theorem t65_zero : t65.zero = some (.pointer none) := by kernel_rfl
noncomputable def t101 : TIn := match tiOf Tryz.prog 101 with
  | some i => i
  | none => ⟨.bool, 0, 0, none, #[], none⟩
theorem ti101 : E0.ti 101 = some t101 := by kernel_rfl
theorem t101_desc : t101.desc = TypeDesc.struct #[{ name := "now", type := 22, offset := 0, embedded := false, tag := "", pkgPath := "belfry/wheel", byteOffset := 0 }, { name := "all", type := 97, offset := 1, embedded := false, tag := "", pkgPath := "belfry/wheel", byteOffset := 8 }, { name := "slots", type := 99, offset := 2, embedded := false, tag := "", pkgPath := "belfry/wheel", byteOffset := 16 }, { name := "far", type := 97, offset := 66, embedded := false, tag := "", pkgPath := "belfry/wheel", byteOffset := 528 }] := by kernel_rfl
theorem t101_size : t101.size = 67 := by kernel_rfl
theorem t101_zero : t101.zero = some (.agg #[.int .u64 0, .map none, .map none, .map none, .map none, .map none, .map none, .map none, .map none, .map none, .map none, .map none, .map none, .map none, .map none, .map none, .map none, .map none, .map none, .map none, .map none, .map none, .map none, .map none, .map none, .map none, .map none, .map none, .map none, .map none, .map none, .map none, .map none, .map none, .map none, .map none, .map none, .map none, .map none, .map none, .map none, .map none, .map none, .map none, .map none, .map none, .map none, .map none, .map none, .map none, .map none, .map none, .map none, .map none, .map none, .map none, .map none, .map none, .map none, .map none, .map none, .map none, .map none, .map none, .map none, .map none, .map none]) := by kernel_rfl
noncomputable def t97 : TIn := match tiOf Tryz.prog 97 with
  | some i => i
  | none => ⟨.bool, 0, 0, none, #[], none⟩
theorem ti97 : E0.ti 97 = some t97 := by kernel_rfl
theorem t97_desc : t97.desc = TypeDesc.map 9 22 := by kernel_rfl
theorem t97_size : t97.size = 1 := by kernel_rfl
theorem t97_zero : t97.zero = some (.map none) := by kernel_rfl
noncomputable def t98 : TIn := match tiOf Tryz.prog 98 with
  | some i => i
  | none => ⟨.bool, 0, 0, none, #[], none⟩
theorem ti98 : E0.ti 98 = some t98 := by kernel_rfl
theorem t98_desc : t98.desc = TypeDesc.array 16 97 := by kernel_rfl
theorem t98_size : t98.size = 16 := by kernel_rfl
theorem t98_zero : t98.zero = some (.agg #[.map none, .map none, .map none, .map none, .map none, .map none, .map none, .map none, .map none, .map none, .map none, .map none, .map none, .map none, .map none, .map none]) := by kernel_rfl
noncomputable def t99 : TIn := match tiOf Tryz.prog 99 with
  | some i => i
  | none => ⟨.bool, 0, 0, none, #[], none⟩
theorem ti99 : E0.ti 99 = some t99 := by kernel_rfl
theorem t99_desc : t99.desc = TypeDesc.array 4 98 := by kernel_rfl
theorem t99_size : t99.size = 64 := by kernel_rfl
theorem t99_zero : t99.zero = some (.agg #[.map none, .map none, .map none, .map none, .map none, .map none, .map none, .map none, .map none, .map none, .map none, .map none, .map none, .map none, .map none, .map none, .map none, .map none, .map none, .map none, .map none, .map none, .map none, .map none, .map none, .map none, .map none, .map none, .map none, .map none, .map none, .map none, .map none, .map none, .map none, .map none, .map none, .map none, .map none, .map none, .map none, .map none, .map none, .map none, .map none, .map none, .map none, .map none, .map none, .map none, .map none, .map none, .map none, .map none, .map none, .map none, .map none, .map none, .map none, .map none, .map none, .map none, .map none, .map none]) := by kernel_rfl
noncomputable def t77 : TIn := match tiOf Tryz.prog 77 with
  | some i => i
  | none => ⟨.bool, 0, 0, none, #[], none⟩
theorem ti77 : E0.ti 77 = some t77 := by kernel_rfl
theorem t77_desc : t77.desc = TypeDesc.struct #[{ name := "Name", type := 9, offset := 0, embedded := false, tag := "", pkgPath := "", byteOffset := 0 }, { name := "At", type := 22, offset := 1, embedded := false, tag := "", pkgPath := "", byteOffset := 16 }] := by kernel_rfl
theorem t77_size : t77.size = 2 := by kernel_rfl
theorem t77_zero : t77.zero = some (.agg #[.string ByteArray.empty, .int .u64 0]) := by kernel_rfl
theorem t77_bytes : t77.bytes = 24 := by kernel_rfl
noncomputable def t75 : TIn := match tiOf Tryz.prog 75 with
  | some i => i
  | none => ⟨.bool, 0, 0, none, #[], none⟩
theorem ti75 : E0.ti 75 = some t75 := by kernel_rfl
theorem t75_desc : t75.desc = TypeDesc.slice 77 := by kernel_rfl
theorem t75_size : t75.size = 1 := by kernel_rfl
theorem t75_zero : t75.zero = some (.slice none 0 0) := by kernel_rfl
noncomputable def t178 : TIn := match tiOf Tryz.prog 178 with
  | some i => i
  | none => ⟨.bool, 0, 0, none, #[], none⟩
theorem ti178 : E0.ti 178 = some t178 := by kernel_rfl
theorem t178_desc : t178.desc = TypeDesc.slice 3 := by kernel_rfl
theorem t178_size : t178.size = 1 := by kernel_rfl
theorem t178_zero : t178.zero = some (.slice none 0 0) := by kernel_rfl
noncomputable def t5 : TIn := match tiOf Tryz.prog 5 with
  | some i => i
  | none => ⟨.bool, 0, 0, none, #[], none⟩
theorem ti5 : E0.ti 5 = some t5 := by kernel_rfl
theorem t5_desc : t5.desc = TypeDesc.int IntKind.u8 := by kernel_rfl
theorem t5_size : t5.size = 1 := by kernel_rfl
theorem t5_zero : t5.zero = some (.int .u8 0) := by kernel_rfl
theorem t5_bytes : t5.bytes = 1 := by kernel_rfl
noncomputable def t85 : TIn := match tiOf Tryz.prog 85 with
  | some i => i
  | none => ⟨.bool, 0, 0, none, #[], none⟩
theorem ti85 : E0.ti 85 = some t85 := by kernel_rfl
theorem t85_desc : t85.desc = TypeDesc.slice 5 := by kernel_rfl
theorem t85_size : t85.size = 1 := by kernel_rfl
theorem t85_zero : t85.zero = some (.slice none 0 0) := by kernel_rfl
noncomputable def t122 : TIn := match tiOf Tryz.prog 122 with
  | some i => i
  | none => ⟨.bool, 0, 0, none, #[], none⟩
theorem ti122 : E0.ti 122 = some t122 := by kernel_rfl
theorem t122_desc : t122.desc = TypeDesc.struct #[{ name := "Tag", type := 3, offset := 0, embedded := false, tag := "", pkgPath := "", byteOffset := 0 }, { name := "Data", type := 85, offset := 1, embedded := false, tag := "", pkgPath := "", byteOffset := 8 }] := by kernel_rfl
theorem t122_size : t122.size = 2 := by kernel_rfl
theorem t122_zero : t122.zero = some (.agg #[.int .i64 0, .slice none 0 0]) := by kernel_rfl
theorem t122_bytes : t122.bytes = 32 := by kernel_rfl
noncomputable def t118 : TIn := match tiOf Tryz.prog 118 with
  | some i => i
  | none => ⟨.bool, 0, 0, none, #[], none⟩
theorem ti118 : E0.ti 118 = some t118 := by kernel_rfl
theorem t118_desc : t118.desc = TypeDesc.slice 122 := by kernel_rfl
theorem t118_size : t118.size = 1 := by kernel_rfl
theorem t118_zero : t118.zero = some (.slice none 0 0) := by kernel_rfl
noncomputable def t63 : TIn := match tiOf Tryz.prog 63 with
  | some i => i
  | none => ⟨.bool, 0, 0, none, #[], none⟩
theorem ti63 : E0.ti 63 = some t63 := by kernel_rfl
theorem t63_desc : t63.desc = TypeDesc.pointer 95 := by kernel_rfl
theorem t63_size : t63.size = 1 := by kernel_rfl
theorem t63_zero : t63.zero = some (.pointer none) := by kernel_rfl
noncomputable def t95 : TIn := match tiOf Tryz.prog 95 with
  | some i => i
  | none => ⟨.bool, 0, 0, none, #[], none⟩
theorem ti95 : E0.ti 95 = some t95 := by kernel_rfl
theorem t95_desc : t95.desc = TypeDesc.struct #[{ name := "x", type := 90, offset := 0, embedded := false, tag := "", pkgPath := "belfry/queue", byteOffset := 0 }] := by kernel_rfl
theorem t95_size : t95.size = 1 := by kernel_rfl
theorem t95_zero : t95.zero = some (.agg #[.pointer none]) := by kernel_rfl
noncomputable def t90 : TIn := match tiOf Tryz.prog 90 with
  | some i => i
  | none => ⟨.bool, 0, 0, none, #[], none⟩
theorem ti90 : E0.ti 90 = some t90 := by kernel_rfl
theorem t90_desc : t90.desc = TypeDesc.pointer 93 := by kernel_rfl
theorem t90_size : t90.size = 1 := by kernel_rfl
theorem t90_zero : t90.zero = some (.pointer none) := by kernel_rfl
noncomputable def t93 : TIn := match tiOf Tryz.prog 93 with
  | some i => i
  | none => ⟨.bool, 0, 0, none, #[], none⟩
theorem ti93 : E0.ti 93 = some t93 := by kernel_rfl
theorem t93_desc : t93.desc = TypeDesc.struct #[{ name := "l", type := 71, offset := 0, embedded := false, tag := "", pkgPath := "belfry/queue", byteOffset := 0 }, { name := "where", type := 91, offset := 1, embedded := false, tag := "", pkgPath := "belfry/queue", byteOffset := 24 }] := by kernel_rfl
theorem t93_size : t93.size = 2 := by kernel_rfl
theorem t93_zero : t93.zero = some (.agg #[.slice none 0 0, .map none]) := by kernel_rfl
noncomputable def t74 : TIn := match tiOf Tryz.prog 74 with
  | some i => i
  | none => ⟨.bool, 0, 0, none, #[], none⟩
theorem ti74 : E0.ti 74 = some t74 := by kernel_rfl
theorem t74_desc : t74.desc = TypeDesc.struct #[{ name := "Name", type := 9, offset := 0, embedded := false, tag := "", pkgPath := "", byteOffset := 0 }, { name := "At", type := 22, offset := 1, embedded := false, tag := "", pkgPath := "", byteOffset := 16 }] := by kernel_rfl
theorem t74_size : t74.size = 2 := by kernel_rfl
theorem t74_zero : t74.zero = some (.agg #[.string ByteArray.empty, .int .u64 0]) := by kernel_rfl
theorem t74_bytes : t74.bytes = 24 := by kernel_rfl
noncomputable def t71 : TIn := match tiOf Tryz.prog 71 with
  | some i => i
  | none => ⟨.bool, 0, 0, none, #[], none⟩
theorem ti71 : E0.ti 71 = some t71 := by kernel_rfl
theorem t71_desc : t71.desc = TypeDesc.slice 74 := by kernel_rfl
theorem t71_size : t71.size = 1 := by kernel_rfl
theorem t71_zero : t71.zero = some (.slice none 0 0) := by kernel_rfl
noncomputable def t91 : TIn := match tiOf Tryz.prog 91 with
  | some i => i
  | none => ⟨.bool, 0, 0, none, #[], none⟩
theorem ti91 : E0.ti 91 = some t91 := by kernel_rfl
theorem t91_desc : t91.desc = TypeDesc.map 9 3 := by kernel_rfl
theorem t91_size : t91.size = 1 := by kernel_rfl
theorem t91_zero : t91.zero = some (.map none) := by kernel_rfl
noncomputable def t20 : TIn := match tiOf Tryz.prog 20 with
  | some i => i
  | none => ⟨.bool, 0, 0, none, #[], none⟩
theorem ti20 : E0.ti 20 = some t20 := by kernel_rfl
theorem t20_desc : t20.desc = TypeDesc.interface #[] := by kernel_rfl
theorem t20_size : t20.size = 1 := by kernel_rfl
theorem t20_zero : t20.zero = some (.nilIface) := by kernel_rfl
noncomputable def t133 : TIn := match tiOf Tryz.prog 133 with
  | some i => i
  | none => ⟨.bool, 0, 0, none, #[], none⟩
theorem ti133 : E0.ti 133 = some t133 := by kernel_rfl
theorem t133_desc : t133.desc = TypeDesc.interface #[("Len", 125), ("Less", 152), ("Pop", 148), ("Push", 135), ("Swap", 147)] := by kernel_rfl
theorem t133_size : t133.size = 1 := by kernel_rfl
theorem t133_zero : t133.zero = some (.nilIface) := by kernel_rfl
noncomputable def t25 : TIn := match tiOf Tryz.prog 25 with
  | some i => i
  | none => ⟨.bool, 0, 0, none, #[], none⟩
theorem ti25 : E0.ti 25 = some t25 := by kernel_rfl
theorem t25_desc : t25.desc = TypeDesc.pointer 68 := by kernel_rfl
theorem t25_size : t25.size = 1 := by kernel_rfl
theorem t25_zero : t25.zero = some (.pointer none) := by kernel_rfl
noncomputable def t68 : TIn := match tiOf Tryz.prog 68 with
  | some i => i
  | none => ⟨.bool, 0, 0, none, #[], none⟩
theorem ti68 : E0.ti 68 = some t68 := by kernel_rfl
theorem t68_desc : t68.desc = TypeDesc.struct #[{ name := "all", type := 62, offset := 0, embedded := false, tag := "", pkgPath := "belfry/timers", byteOffset := 0 }, { name := "near", type := 63, offset := 1, embedded := false, tag := "", pkgPath := "belfry/timers", byteOffset := 8 }, { name := "far", type := 65, offset := 2, embedded := false, tag := "", pkgPath := "belfry/timers", byteOffset := 16 }] := by kernel_rfl
theorem t68_size : t68.size = 3 := by kernel_rfl
theorem t68_zero : t68.zero = some (.agg #[.map none, .pointer none, .pointer none]) := by kernel_rfl
noncomputable def t62 : TIn := match tiOf Tryz.prog 62 with
  | some i => i
  | none => ⟨.bool, 0, 0, none, #[], none⟩
theorem ti62 : E0.ti 62 = some t62 := by kernel_rfl
theorem t62_desc : t62.desc = TypeDesc.map 9 30 := by kernel_rfl
theorem t62_size : t62.size = 1 := by kernel_rfl
theorem t62_zero : t62.zero = some (.map none) := by kernel_rfl
noncomputable def t43 : TIn := match tiOf Tryz.prog 43 with
  | some i => i
  | none => ⟨.bool, 0, 0, none, #[], none⟩
theorem ti43 : E0.ti 43 = some t43 := by kernel_rfl
theorem t43_desc : t43.desc = TypeDesc.func #[9] #[4] false := by kernel_rfl
theorem t43_size : t43.size = 1 := by kernel_rfl
theorem t43_zero : t43.zero = some (.nilFunc) := by kernel_rfl
noncomputable def t84 : TIn := match tiOf Tryz.prog 84 with
  | some i => i
  | none => ⟨.bool, 0, 0, none, #[], none⟩
theorem ti84 : E0.ti 84 = some t84 := by kernel_rfl
theorem t84_desc : t84.desc = TypeDesc.slice 43 := by kernel_rfl
theorem t84_size : t84.size = 1 := by kernel_rfl
theorem t84_zero : t84.zero = some (.slice none 0 0) := by kernel_rfl
noncomputable def t127 : TIn := match tiOf Tryz.prog 127 with
  | some i => i
  | none => ⟨.bool, 0, 0, none, #[], none⟩
theorem ti127 : E0.ti 127 = some t127 := by kernel_rfl
theorem t127_desc : t127.desc = TypeDesc.slice 22 := by kernel_rfl
theorem t127_size : t127.size = 1 := by kernel_rfl
theorem t127_zero : t127.zero = some (.slice none 0 0) := by kernel_rfl
noncomputable def t34 : TIn := match tiOf Tryz.prog 34 with
  | some i => i
  | none => ⟨.bool, 0, 0, none, #[], none⟩
theorem ti34 : E0.ti 34 = some t34 := by kernel_rfl
theorem t34_desc : t34.desc = TypeDesc.slice 9 := by kernel_rfl
theorem t34_size : t34.size = 1 := by kernel_rfl
theorem t34_zero : t34.zero = some (.slice none 0 0) := by kernel_rfl
noncomputable def t23 : TIn := match tiOf Tryz.prog 23 with
  | some i => i
  | none => ⟨.bool, 0, 0, none, #[], none⟩
theorem ti23 : E0.ti 23 = some t23 := by kernel_rfl
theorem t23_desc : t23.desc = TypeDesc.slice 30 := by kernel_rfl
theorem t23_size : t23.size = 1 := by kernel_rfl
theorem t23_zero : t23.zero = some (.slice none 0 0) := by kernel_rfl
theorem fn8 : E0.fn 8 = some Tryz.f8 := by kernel_rfl
theorem fn15 : E0.fn 15 = some Tryz.f15 := by kernel_rfl
theorem fn39 : E0.fn 39 = some Tryz.f39 := by kernel_rfl
theorem fn40 : E0.fn 40 = some Tryz.f40 := by kernel_rfl
theorem fn67 : E0.fn 67 = some Tryz.f67 := by kernel_rfl
theorem fn31 : E0.fn 31 = some Tryz.f31 := by kernel_rfl
theorem fn112 : E0.fn 112 = some Tryz.f112 := by kernel_rfl
theorem fn68 : E0.fn 68 = some Tryz.f68 := by kernel_rfl
theorem fn90 : E0.fn 90 = some Tryz.f90 := by kernel_rfl
theorem fn91 : E0.fn 91 = none := by kernel_rfl
theorem fn52 : E0.fn 52 = some Tryz.f52 := by kernel_rfl
theorem fn30 : E0.fn 30 = some Tryz.f30 := by kernel_rfl
theorem fn32 : E0.fn 32 = some Tryz.f32 := by kernel_rfl
theorem fn35 : E0.fn 35 = some Tryz.f35 := by kernel_rfl
theorem fn38 : E0.fn 38 = some Tryz.f38 := by kernel_rfl
theorem fn41 : E0.fn 41 = some Tryz.f41 := by kernel_rfl
theorem fn53 : E0.fn 53 = some Tryz.f53 := by kernel_rfl
theorem fn61 : E0.fn 61 = some Tryz.f61 := by kernel_rfl
theorem fn62 : E0.fn 62 = some Tryz.f62 := by kernel_rfl
theorem fn63 : E0.fn 63 = some Tryz.f63 := by kernel_rfl
theorem fn85 : E0.fn 85 = some Tryz.f85 := by kernel_rfl
theorem fn86 : E0.fn 86 = some Tryz.f86 := by kernel_rfl
theorem fn77 : E0.fn 77 = some Tryz.f77 := by kernel_rfl
theorem fn51 : E0.fn 51 = some Tryz.f51 := by kernel_rfl
theorem fn99 : E0.fn 99 = some Tryz.f99 := by kernel_rfl
theorem fn100 : E0.fn 100 = some Tryz.f100 := by kernel_rfl
theorem fn101 : E0.fn 101 = some Tryz.f101 := by kernel_rfl
theorem fn125 : E0.fn 125 = some Tryz.f125 := by kernel_rfl
theorem fn126 : E0.fn 126 = some Tryz.f126 := by kernel_rfl
theorem fn43 : E0.fn 43 = some Tryz.f43 := by kernel_rfl
theorem fn70 : E0.fn 70 = some Tryz.f70 := by kernel_rfl
theorem fn92 : E0.fn 92 = some Tryz.f92 := by kernel_rfl
theorem fn72 : E0.fn 72 = some Tryz.f72 := by kernel_rfl
theorem fn71 : E0.fn 71 = some Tryz.f71 := by kernel_rfl
theorem fn73 : E0.fn 73 = some Tryz.f73 := by kernel_rfl
theorem fn44 : E0.fn 44 = some Tryz.f44 := by kernel_rfl
theorem fn21 : E0.fn 21 = some Tryz.f21 := by kernel_rfl
theorem fn29 : E0.fn 29 = some Tryz.f29 := by kernel_rfl
theorem fn33 : E0.fn 33 = some Tryz.f33 := by kernel_rfl
theorem fn42 : E0.fn 42 = some Tryz.f42 := by kernel_rfl
theorem fn54 : E0.fn 54 = some Tryz.f54 := by kernel_rfl
theorem fn56 : E0.fn 56 = some Tryz.f56 := by kernel_rfl
theorem fn55 : E0.fn 55 = some Tryz.f55 := by kernel_rfl
theorem fn69 : E0.fn 69 = some Tryz.f69 := by kernel_rfl
theorem fn82 : E0.fn 82 = some Tryz.f82 := by kernel_rfl
theorem fn81 : E0.fn 81 = some Tryz.f81 := by kernel_rfl
theorem fn97 : E0.fn 97 = some Tryz.f97 := by kernel_rfl
theorem fn160 : E0.fn 160 = some Tryz.f160 := by kernel_rfl
theorem fn163 : E0.fn 163 = some Tryz.f163 := by kernel_rfl
theorem fn162 : E0.fn 162 = some Tryz.f162 := by kernel_rfl
theorem fn161 : E0.fn 161 = some Tryz.f161 := by kernel_rfl
theorem fn159 : E0.fn 159 = some Tryz.f159 := by kernel_rfl
theorem fn7 : E0.fn 7 = some Tryz.f7 := by kernel_rfl
theorem fn9 : E0.fn 9 = some Tryz.f9 := by kernel_rfl
theorem fn14 : E0.fn 14 = some Tryz.f14 := by kernel_rfl
theorem fn18 : E0.fn 18 = some Tryz.f18 := by kernel_rfl
theorem fn84 : E0.fn 84 = some Tryz.f84 := by kernel_rfl
theorem fn34 : E0.fn 34 = some Tryz.f34 := by kernel_rfl
theorem fn58 : E0.fn 58 = some Tryz.f58 := by kernel_rfl
theorem fn59 : E0.fn 59 = some Tryz.f59 := by kernel_rfl
theorem fn83 : E0.fn 83 = some Tryz.f83 := by kernel_rfl
theorem fn57 : E0.fn 57 = some Tryz.f57 := by kernel_rfl
theorem fn60 : E0.fn 60 = some Tryz.f60 := by kernel_rfl
theorem fn80 : E0.fn 80 = some Tryz.f80 := by kernel_rfl
theorem fn96 : E0.fn 96 = some Tryz.f96 := by kernel_rfl
theorem fn78 : E0.fn 78 = some Tryz.f78 := by kernel_rfl
theorem fn79 : E0.fn 79 = some Tryz.f79 := by kernel_rfl
theorem fn95 : E0.fn 95 = some Tryz.f95 := by kernel_rfl
theorem fn36 : E0.fn 36 = some Tryz.f36 := by kernel_rfl
theorem fn64 : E0.fn 64 = some Tryz.f64 := by kernel_rfl
theorem fn65 : E0.fn 65 = some Tryz.f65 := by kernel_rfl
theorem fn87 : E0.fn 87 = some Tryz.f87 := by kernel_rfl
theorem fn37 : E0.fn 37 = some Tryz.f37 := by kernel_rfl
theorem fn66 : E0.fn 66 = some Tryz.f66 := by kernel_rfl
theorem fn11 : E0.fn 11 = some Tryz.f11 := by kernel_rfl
theorem fn10 : E0.fn 10 = some Tryz.f10 := by kernel_rfl
theorem fn12 : E0.fn 12 = some Tryz.f12 := by kernel_rfl
theorem fn13 : E0.fn 13 = some Tryz.f13 := by kernel_rfl
theorem fn28 : E0.fn 28 = some Tryz.f28 := by kernel_rfl
theorem fn16 : E0.fn 16 = some Tryz.f16 := by kernel_rfl
theorem fn3 : E0.fn 3 = some Tryz.f3 := by kernel_rfl
theorem fn4 : E0.fn 4 = some Tryz.f4 := by kernel_rfl
theorem fn17 : E0.fn 17 = some Tryz.f17 := by kernel_rfl
def w_0 := And.intro @ti3 (And.intro @t3_desc (And.intro @t3_size (And.intro @t3_zero (And.intro @ti4 (And.intro @t4_desc (And.intro @t4_size (And.intro @t4_zero (And.intro @ti9 (And.intro @t9_desc (And.intro @t9_size (And.intro @t9_zero (And.intro @ti22 (And.intro @t22_desc (And.intro @t22_size (And.intro @t22_zero (And.intro @ti2 (And.intro @t2_desc (And.intro @t2_size (And.intro @t2_zero (And.intro @ti28 (And.intro @t28_desc (And.intro @t28_size (And.intro @t28_zero (And.intro @ti56 (And.intro @t56_desc (And.intro @t56_size (And.intro @t56_zero (And.intro @ti54 (And.intro @t54_desc (And.intro @t54_size (And.intro @t54_zero (And.intro @ti30 (And.intro @t30_desc (And.intro @t30_size (And.intro @t30_zero (And.intro @ti24 (And.intro @t24_desc (And.intro @t24_size (And.intro @t24_zero (And.intro @ti31 (And.intro @t31_desc (And.intro @t31_size (@t31_zero)))))))))))))))))))))))))))))))))))))))))))
def w_a := And.intro @fn8 (And.intro @fn15 (And.intro @fn39 (And.intro @fn40 (And.intro @fn67 (And.intro @fn31 (And.intro @fn112 (And.intro @fn68 (And.intro @fn90 (And.intro @fn91 (@fn52))))))))))
def w_wh := And.intro @ti65 (And.intro @t65_desc (And.intro @t65_size (And.intro @t65_zero (And.intro @ti101 (And.intro @t101_desc (And.intro @t101_size (And.intro @t101_zero (And.intro @ti97 (And.intro @t97_desc (And.intro @t97_size (And.intro @t97_zero (And.intro @ti98 (And.intro @t98_desc (And.intro @t98_size (And.intro @t98_zero (And.intro @ti99 (And.intro @t99_desc (And.intro @t99_size (And.intro @t99_zero (And.intro @ti77 (And.intro @t77_desc (And.intro @t77_size (And.intro @t77_zero (And.intro @ti75 (And.intro @t75_desc (And.intro @t75_size (And.intro @t75_zero (And.intro @fn30 (And.intro @fn32 (And.intro @fn35 (And.intro @fn38 (And.intro @fn41 (And.intro @fn53 (And.intro @fn61 (And.intro @fn62 (And.intro @fn63 (And.intro @fn85 (And.intro @fn86 (And.intro @fn77 (And.intro @fn51 (And.intro @fn99 (And.intro @fn100 (And.intro @fn101 (And.intro @fn125 (And.intro @fn126 (And.intro @ti178 (And.intro @t178_desc (And.intro @t178_size (@t178_zero)))))))))))))))))))))))))))))))))))))))))))))))))
def w_st := And.intro @ti5 (And.intro @t5_desc (And.intro @t5_size (And.intro @t5_zero (And.intro @ti85 (And.intro @t85_desc (And.intro @t85_size (And.intro @t85_zero (And.intro @ti122 (And.intro @t122_desc (And.intro @t122_size (And.intro @t122_zero (And.intro @ti118 (And.intro @t118_desc (And.intro @t118_size (And.intro @t118_zero (And.intro @fn43 (And.intro @fn70 (And.intro @fn92 (And.intro @fn72 (And.intro @fn71 (And.intro @fn73 (And.intro @fn44 (@fn21)))))))))))))))))))))))
def w_qu := And.intro @ti63 (And.intro @t63_desc (And.intro @t63_size (And.intro @t63_zero (And.intro @ti95 (And.intro @t95_desc (And.intro @t95_size (And.intro @t95_zero (And.intro @ti90 (And.intro @t90_desc (And.intro @t90_size (And.intro @t90_zero (And.intro @ti93 (And.intro @t93_desc (And.intro @t93_size (And.intro @t93_zero (And.intro @ti74 (And.intro @t74_desc (And.intro @t74_size (And.intro @t74_zero (And.intro @ti71 (And.intro @t71_desc (And.intro @t71_size (And.intro @t71_zero (And.intro @ti91 (And.intro @t91_desc (And.intro @t91_size (And.intro @t91_zero (And.intro @ti20 (And.intro @t20_desc (And.intro @t20_size (And.intro @t20_zero (And.intro @ti133 (And.intro @t133_desc (And.intro @t133_size (And.intro @t133_zero (And.intro @fn29 (And.intro @fn33 (And.intro @fn42 (And.intro @fn54 (And.intro @fn56 (And.intro @fn55 (And.intro @fn69 (And.intro @fn82 (And.intro @fn81 (And.intro @fn97 (And.intro @fn160 (And.intro @fn163 (And.intro @fn162 (And.intro @fn161 (@fn159))))))))))))))))))))))))))))))))))))))))))))))))))
def w_tb := And.intro @ti25 (And.intro @t25_desc (And.intro @t25_size (And.intro @t25_zero (And.intro @ti68 (And.intro @t68_desc (And.intro @t68_size (And.intro @t68_zero (And.intro @ti62 (And.intro @t62_desc (And.intro @t62_size (And.intro @t62_zero (And.intro @ti43 (And.intro @t43_desc (And.intro @t43_size (And.intro @t43_zero (And.intro @ti84 (And.intro @t84_desc (And.intro @t84_size (And.intro @t84_zero (And.intro @fn7 (And.intro @fn9 (And.intro @fn14 (@fn18)))))))))))))))))))))))
def w_q2 := And.intro @fn84 (And.intro @fn34 (And.intro @fn58 (And.intro @fn59 (And.intro @fn83 (And.intro @fn57 (@fn60))))))
def w_so := And.intro @ti127 (And.intro @t127_desc (And.intro @t127_size (And.intro @t127_zero (And.intro @ti34 (And.intro @t34_desc (And.intro @t34_size (And.intro @t34_zero (And.intro @fn80 (And.intro @fn96 (And.intro @fn78 (And.intro @fn79 (And.intro @fn95 (And.intro @fn36 (And.intro @fn64 (And.intro @fn65 (And.intro @fn87 (And.intro @fn37 (@fn66))))))))))))))))))
def w_t2 := And.intro @ti23 (And.intro @t23_desc (And.intro @t23_size (And.intro @t23_zero (And.intro @fn11 (And.intro @fn10 (And.intro @fn12 (And.intro @fn13 (And.intro @fn28 (@fn16)))))))))
def w_lw := And.intro @fn3 (And.intro @fn4 (@fn17))
def z_0 := And.intro @oneW_next (And.intro s_0 (And.intro s_1 (And.intro s_2 (And.intro s_3 (And.intro s_4 (And.intro g_0 (And.intro w_0 (And.intro w_a (And.intro w_wh (And.intro w_st (And.intro w_qu (And.intro w_tb (And.intro w_q2 (And.intro w_so (And.intro w_t2 (And.intro w_lw (d_0)))))))))))))))))
end Go.Proofs.YtgcffmhpjphefaaGreatDoor

/- Steps: their cells; a step is itself. -/
namespace Go.Proofs.YtgcffmhpjphefaaGreatDoor
open Go Go.AE
set_option maxRecDepth 10000
set_option maxHeartbeats 4000000

structure StepD where
  kind : Int
  key : ByteArray
  val : ByteArray
  n : Int
def scell (y : StepD) : List Value := [.int .i64 y.kind, .string y.key, .string y.val, .int .i64 y.n]
abbrev Steps (E : Env) (A : ASt) (S : Nat → Prop) (v : Value) (l : List StepD) : Prop := SlAt E A S 4 v (l.map scell)
theorem scell_len {l : List StepD} : ∀ x ∈ l.map scell, x.length = 4 := by
  intro x hx
  obtain ⟨y, _, rfl⟩ := List.mem_map.1 hx
  rfl
theorem scell_sg : ∀ {l : List StepD}, singles (l.map scell).flatten = true
  | [] => rfl
  | y :: l => by
    rw [List.map_cons, List.flatten_cons]
    exact scell_sg (l := l)

theorem pb {α β : Type} {P : Program} {f : α → Sem β} : ∀ {m : Sem α} {a : α}, pureRun P m = some a → pureRun P (m >>= f) = pureRun P (f a) := by
  intro m
  induction m with
  | pure x => intro a h; cases h; rfl
  | program k ih => intro a h; exact ih P h
  | mark x k ih => intro a h; exact ih h
  | _ => intro a h; cases h
theorem beqB {k : ByteArray} : (k == k) = true := by
  first | exact beq_self_eq_true k | (cases k; simp [BEq.beq]; done) | (show (k.data == k.data) = true; exact beq_self_eq_true _) | (cases k; exact beq_self_eq_true _) | (obtain ⟨d⟩ := k; unfold BEq.beq ByteArray.instBEq; simp [ByteArray.instBEq.beq])
theorem es9 {k : ByteArray} {d : Nat} : pureRun Tryz.prog (Op.equalIn (d + 1) 9 (.string k) (.string k)) = some true := by
  unfold Op.equalIn
  rw [pb (a := .string) (by kernel_rfl)]
  show some (k == k) = some true
  rw [beqB]
theorem ei2 {a : Int} {d : Nat} : pureRun Tryz.prog (Op.equalIn (d + 1) 2 (.int .i64 a) (.int .i64 a)) = some true := by
  unfold Op.equalIn
  rw [pb (a := .int .i64) (by kernel_rfl)]
  show some (a == a) = some true
  simp
theorem ei34 {a : Int} {d : Nat} : pureRun Tryz.prog (Op.equalIn (d + 1) 54 (.int .i64 a) (.int .i64 a)) = some true := by
  unfold Op.equalIn
  rw [pb (a := .int .i64) (by kernel_rfl)]
  show some (a == a) = some true
  simp
theorem eqStep {k s u n} : pureRun Tryz.prog (Op.equal 56 (.agg #[.int .i64 k, .string s, .string u, .int .i64 n]) (.agg #[.int .i64 k, .string s, .string u, .int .i64 n])) = some true := by
  show pureRun Tryz.prog (Op.equalIn (9999 + 1) 56 (.agg #[.int .i64 k, .string s, .string u, .int .i64 n]) (.agg #[.int .i64 k, .string s, .string u, .int .i64 n])) = some true
  unfold Op.equalIn
  have hd := t56_desc
  rw [pb (a := t56.desc) (by kernel_rfl)]
  rw [hd]
  dsimp only
  rw [pb (m := program) (a := Tryz.prog) rfl]
  have h0 : Tryz.prog.stoodInHeld 56 = false := by kernel_rfl
  rw [h0]
  simp only [Bool.false_eq_true, if_false]
  have hp0 : pureRun Tryz.prog (part 54 #[Value.int .i64 k, .string s, .string u, .int .i64 n] 0) = some (.int .i64 k) := by kernel_rfl
  have hp1 : pureRun Tryz.prog (part 9 #[Value.int .i64 k, .string s, .string u, .int .i64 n] 1) = some (.string s) := by kernel_rfl
  have hp2 : pureRun Tryz.prog (part 9 #[Value.int .i64 k, .string s, .string u, .int .i64 n] 2) = some (.string u) := by kernel_rfl
  have hp3 : pureRun Tryz.prog (part 2 #[Value.int .i64 k, .string s, .string u, .int .i64 n] 3) = some (.int .i64 n) := by kernel_rfl
  simp only [List.forIn_toArray, List.forIn_cons, List.forIn_nil, bind_assoc, pure_bind]
  have n1 : ("Kind" = "_") = False := by simp
  have n2 : ("Key" = "_") = False := by simp
  have n3 : ("Value" = "_") = False := by simp
  have n4 : ("N" = "_") = False := by simp
  simp only [ne_eq, n1, n2, n3, n4, not_false_eq_true, if_true, bind_assoc]
  rw [pb hp0, pb hp0, pb (m := Op.equalIn 9999 54 (.int .i64 k) (.int .i64 k)) (ei34 (d := 9998))]
  simp only [Bool.not_true, Bool.false_eq_true, if_false, pure_bind, bind_assoc]
  rw [pb hp1, pb hp1, pb (m := Op.equalIn 9999 9 (.string s) (.string s)) (es9 (d := 9998))]
  simp only [Bool.not_true, Bool.false_eq_true, if_false, pure_bind, bind_assoc]
  rw [pb hp2, pb hp2, pb (m := Op.equalIn 9999 9 (.string u) (.string u)) (es9 (d := 9998))]
  simp only [Bool.not_true, Bool.false_eq_true, if_false, pure_bind, bind_assoc]
  rw [pb hp3, pb hp3, pb (m := Op.equalIn 9999 2 (.int .i64 n) (.int .i64 n)) (ei2 (d := 9998))]
  simp only [Bool.not_true, Bool.false_eq_true, if_false, pure_bind, bind_assoc]
  rfl
theorem neqStep {xo yo : Operand} {k s u n} : aBin2 E0 .neq 56 xo yo (.agg #[.int .i64 k, .string s, .string u, .int .i64 n]) (.agg #[.int .i64 k, .string s, .string u, .int .i64 n]) = some (.bool false) := by
  have e1 : E0.bin .neq 56 xo yo (.agg #[.int .i64 k, .string s, .string u, .int .i64 n]) (.agg #[.int .i64 k, .string s, .string u, .int .i64 n]) = some (.bool false) := by
    show pureRun Tryz.prog (do eqGuard .neq 56 xo yo (.agg #[.int .i64 k, .string s, .string u, .int .i64 n]) (.agg #[.int .i64 k, .string s, .string u, .int .i64 n]); binOp .neq 56 (.agg #[.int .i64 k, .string s, .string u, .int .i64 n]) (.agg #[.int .i64 k, .string s, .string u, .int .i64 n])) = _
    rw [pb (a := ()) (by kernel_rfl)]
    show pureRun Tryz.prog (do pure (Value.bool (!(← Op.equal 56 (.agg #[.int .i64 k, .string s, .string u, .int .i64 n]) (.agg #[.int .i64 k, .string s, .string u, .int .i64 n]))))) = _
    rw [pb eqStep]
    rfl
  have e2 : closed (.agg #[.int .i64 k, .string s, .string u, .int .i64 n]) = true := rfl
  have e3 : aBin E0 .neq 56 xo yo (.agg #[.int .i64 k, .string s, .string u, .int .i64 n]) (.agg #[.int .i64 k, .string s, .string u, .int .i64 n]) = none := by
    simp [aBin, eqV, ti56, t56_desc]
  simp only [aBin2, e3, e1, e2, Bool.and_self, cond_true]
  rfl
end Go.Proofs.YtgcffmhpjphefaaGreatDoor

/- The calendar. -/
namespace Go.Proofs.YtgcffmhpjphefaaGreatDoor
open Go Go.AE
set_option maxRecDepth 10000
set_option maxHeartbeats 4000000
variable {Z : Go.AE.Road}

def rst (a e t : Nat) : Nat := if t < a then 0 else if e = 0 then t - a else (t - a) % e
def nxt (a e t : Nat) : Option Nat := if t < a then some a else if e = 0 then none else if 18446744073709551616 ≤ t - rst a e t + e then none else some (t - rst a e t + e)
end Go.Proofs.YtgcffmhpjphefaaGreatDoor

/- Steps: a clone, the same, few; a timer behind it fired. -/
namespace Go.Proofs.YtgcffmhpjphefaaGreatDoor
open Go Go.AE
set_option maxRecDepth 10000
set_option maxHeartbeats 4000000
variable {Z : Go.AE.Road} {s : Spans}

theorem eqnilS_f {t e : TypeId} {ti : TIn} (ht : E0.ti t = some ti) (hd : ti.desc = .slice e) {xo yo : Operand} {x : Addr} {n c : Nat} : aBin2 E0 .eql t xo yo (.slice (some x) n c) (.slice none 0 0) = some (.bool false) := by
  simp [aBin2, aBin, eqV, ht, hd]
theorem eqnilS_t {t e : TypeId} {ti : TIn} (ht : E0.ti t = some ti) (hd : ti.desc = .slice e) {xo yo : Operand} : aBin2 E0 .eql t xo yo (.slice none 0 0) (.slice none 0 0) = some (.bool true) := by
  simp [aBin2, aBin, eqV, ht, hd]
theorem bs23 : aBuildSlice E0 28 0 [] = some (.row [] 4 false, fun id => .slice (some ⟨id, 0, none⟩) 0 0) := by kernel_rfl
theorem z36c : closed (.agg #[.int .i64 0, .string ByteArray.empty, .string ByteArray.empty, .int .i64 0]) = true := by kernel_rfl
theorem z36l : Nat.beq (Value.agg #[.int .i64 0, .string ByteArray.empty, .string ByteArray.empty, .int .i64 0]).cells.toList.length 4 = true := by kernel_rfl

theorem clone_spec (hro : RoadS Z E0 s) {A : ASt} {S : Nat → Prop} {v : Value} {l : List StepD} (h : Steps (withRo E0 s) A S v l) (hl : l.length ≤ 1000) :
    CallW Z Tryz.prog 52 [v] A (fun r A' => Steps (withRo E0 s) A' (fun b => A.next ≤ b) r l ∧ Fr [] A A') := by
  refine CallW.assume hro fun hnr => ?_
  refine CallW.of_code (withRo_ok E0_ok) hro.ro (f := 52) (fn := Tryz.f52) fn52 rfl (n := 8) rfl (rs := [.tmp 2]) rfl (by simp) (codeW_ok (withRo_ok E0_ok) hro.ro ?_)
  have h' := h
  rcases h with ⟨h1, rfl | rfl⟩ | ⟨b, o, cap, c, rfl, _⟩
  · simp only [w_w, z_0, flat, Option.isNone, aFieldAddr, aField, aBuiltin, cond_true, cond_false, cond_dec, if_true, if_false, List.length_cons, List.length_nil, forall_const, implies_true, List.append_nil, List.cons_append, List.nil_append, eq_self, Nat.reduceEqDiff, Nat.reduceAdd, Nat.reduceMul, Nat.reduceSub, Nat.reduceLT, Nat.reduceLeDiff, Nat.reduceBEq, reduceIte, reduceCtorEq, eqnilS_t ti28 t28_desc]
    exact ⟨.inl ⟨h1, .inl rfl⟩, .refl _ _⟩
  · have hN : Fr [] A (A.new (.row [] 4 false)) := .new
    obtain ⟨r, B, ha, hb, hf⟩ := append_all hnr (h'.fr hN (by simp)) rfl rfl (xt := 28) scell_len (wti.trans ti28) t28_desc (wti.trans ti56) t56_size (wti.trans ti28) (by rw [t28_desc]; rfl) t56_zero z36c z36l (by omega) (by rw [t56_bytes, List.length_map]; omega) scell_sg
    simp only [w_w, z_0, flat, Option.isNone, aFieldAddr, aField, aBuiltin, cond_true, cond_false, cond_dec, if_true, if_false, List.length_cons, List.length_nil, forall_const, implies_true, List.append_nil, List.cons_append, List.nil_append, eq_self, Nat.reduceEqDiff, Nat.reduceAdd, Nat.reduceMul, Nat.reduceSub, Nat.reduceLT, Nat.reduceLeDiff, Nat.reduceBEq, reduceIte, reduceCtorEq, eqnilS_f ti28 t28_desc, bs23, ha]
    exact ⟨hb, hf⟩
  · have hN : Fr [] A (A.new (.row [] 4 false)) := .new
    obtain ⟨r, B, ha, hb, hf⟩ := append_all hnr (h'.fr hN (by simp)) rfl rfl (xt := 28) scell_len (wti.trans ti28) t28_desc (wti.trans ti56) t56_size (wti.trans ti28) (by rw [t28_desc]; rfl) t56_zero z36c z36l (by omega) (by rw [t56_bytes, List.length_map]; omega) scell_sg
    simp only [w_w, z_0, flat, Option.isNone, aFieldAddr, aField, aBuiltin, cond_true, cond_false, cond_dec, if_true, if_false, List.length_cons, List.length_nil, forall_const, implies_true, List.append_nil, List.cons_append, List.nil_append, eq_self, Nat.reduceEqDiff, Nat.reduceAdd, Nat.reduceMul, Nat.reduceSub, Nat.reduceLT, Nat.reduceLeDiff, Nat.reduceBEq, reduceIte, reduceCtorEq, eqnilS_f ti28 t28_desc, bs23, ha]
    exact ⟨hb, hf⟩

structure TimD where
  name : ByteArray
  ver : Int
  at_ : Nat
  every : Nat
  steps : List StepD
def tcell (t : TimD) (dv : Value) : List Value := [.string t.name, .int .i64 t.ver, .int .u64 (t.at_ : Int), .int .u64 (t.every : Int), dv]
def tval (t : TimD) (dv : Value) : Value := .agg #[.string t.name, .int .i64 t.ver, .int .u64 (t.at_ : Int), .int .u64 (t.every : Int), dv]
theorem box25 {a b c d e : Value} : aBox E0 30 (.agg #[a, b, c, d, e]) = some (.row [a, b, c, d, e] 5 false, ptrTo) := by
  simp only [aBox, w_0]; rfl
theorem al25 : aAlloc E0 30 = some (.row [.string ByteArray.empty, .int .i64 0, .int .u64 0, .int .u64 0, .slice none 0 0] 5 false, ptrTo) := by
  simp only [aAlloc, w_0]; rfl
theorem st25 {A : ASt} {b : Nat} {c0 c1 c2 c3 c4 a0 a1 a2 a3 a4 : Value} {tl : Bool} (h : A.get b = some (.row [c0, c1, c2, c3, c4] 5 tl)) (hs : singles [a0, a1, a2, a3, a4] = true) : aStore E0 30 (.pointer (some ⟨b, 0, none⟩)) (.agg #[a0, a1, a2, a3, a4]) A = some (A.set b (.row [a0, a1, a2, a3, a4] 5 tl)) := by
  have e : (Value.agg #[a0, a1, a2, a3, a4]).cells.toList = [a0, a1, a2, a3, a4] := rfl
  simp only [aStore, h, w_0, e, hs]; rfl
theorem st23 {A : ASt} {b : Nat} {c0 c1 c2 c3 c4 v : Value} {tl : Bool} (h : A.get b = some (.row [c0, c1, c2, c3, c4] 5 tl)) (hs : v.cells = #[v]) (hv : single v = true) : aStore E0 28 (.pointer (some ⟨b, 4, none⟩)) v A = some (A.set b (.row [c0, c1, c2, c3, v] 5 tl)) := by
  have e : v.cells.toList = [v] := by rw [hs]
  have e2 : singles [v] = true := by simp only [singles, hv, Bool.and_self]
  simp only [aStore, h, w_0, e, e2]; rfl
theorem tim_sg {n : ByteArray} {v a e : Int} {r : Value} (h : Go.AE.single r = true) : singles [.string n, .int .i64 v, .int .u64 a, .int .u64 e, r] = true := by
  show (Go.AE.single r && true) = true
  rw [h]; rfl
theorem cut5 {a b c d e : Value} : cut [a, b, c, d, e] 0 5 = some [a, b, c, d, e] := rfl

theorem copied_spec (hro : RoadS Z E0 s) {A : ASt} {S : Nat → Prop} {t : TimD} {dv : Value} (h : Steps (withRo E0 s) A S dv t.steps) (hl : t.steps.length ≤ 1000) :
    CallW Z Tryz.prog 31 [tval t dv] A (fun r A' => ∃ dv', r = tval t dv' ∧ Steps (withRo E0 s) A' (fun b => A.next ≤ b) dv' t.steps ∧ Fr [] A A') := by
  refine CallW.of_code (withRo_ok E0_ok) hro.ro (f := 31) (fn := Tryz.f31) fn31 rfl (n := 8) rfl (rs := [.cell 2 30]) rfl (by simp) (codeW_ok (withRo_ok E0_ok) hro.ro ?_)
  have hsd := h.single
  simp only [w_w, z_0, flat, Option.isNone, aFieldAddr, aField, aBuiltin, cond_true, cond_false, cond_dec, if_true, if_false, List.length_cons, List.length_nil, forall_const, implies_true, List.append_nil, List.cons_append, List.nil_append, eq_self, Nat.reduceEqDiff, Nat.reduceAdd, Nat.reduceMul, Nat.reduceSub, Nat.reduceLT, Nat.reduceLeDiff, Nat.reduceBEq, reduceIte, reduceCtorEq, tval, box25, al25, ptrTo]
  generalize hC : ASt.new (ASt.new A _) _ = C
  obtain ⟨c1, c2, hn, hf⟩ := two_new hC
  clear hC
  refine CallT.mono (clone_spec hro (h.fr hf (by simp)) hl) ?_
  rintro r D ⟨hr, hf2⟩
  have d1 := (hf2.get _ (by omega) (by simp)).trans c1
  have d2 := (hf2.get _ (by omega) (by simp)).trans c2
  have g1 : (D.set A.next (.row [.string t.name, .int .i64 t.ver, .int .u64 (t.at_ : Int), .int .u64 (t.every : Int), r] 5 false)).get A.next = some (.row [.string t.name, .int .i64 t.ver, .int .u64 (t.at_ : Int), .int .u64 (t.every : Int), r] 5 false) := by rw [ASt.get_set, if_pos rfl]
  have g2 : (D.set A.next (.row [.string t.name, .int .i64 t.ver, .int .u64 (t.at_ : Int), .int .u64 (t.every : Int), r] 5 false)).get (A.next + 1) = D.get (A.next + 1) := by rw [ASt.get_set, if_neg (by omega)]
  have g2 := g2.trans d2
  have hsr : singles [.string t.name, .int .i64 t.ver, .int .u64 (t.at_ : Int), .int .u64 (t.every : Int), r] = true := tim_sg hr.single
  simp only [w_w, z_0, flat, Option.isNone, aFieldAddr, aField, aBuiltin, cond_true, cond_false, cond_dec, if_true, if_false, List.length_cons, List.length_nil, forall_const, implies_true, List.append_nil, List.cons_append, List.nil_append, eq_self, Nat.reduceEqDiff, Nat.reduceAdd, Nat.reduceMul, Nat.reduceSub, Nat.reduceLT, Nat.reduceLeDiff, Nat.reduceBEq, reduceIte, reduceCtorEq, st23 d1 hr.cells1 hr.single, g1, cut5, st25 g2 hsr]
  have hA : C.next ≤ D.next := hf2.next
  have f3 : Fr [A.next, A.next + 1] D ((D.set A.next (.row [.string t.name, .int .i64 t.ver, .int .u64 (t.at_ : Int), .int .u64 (t.every : Int), r] 5 false)).set (A.next + 1) (.row [.string t.name, .int .i64 t.ver, .int .u64 (t.at_ : Int), .int .u64 (t.every : Int), r] 5 false)) := ((Fr.refl _ _).set (.inl (by simp))).set (.inl (by simp))
  have g3 : ((D.set A.next (.row [.string t.name, .int .i64 t.ver, .int .u64 (t.at_ : Int), .int .u64 (t.every : Int), r] 5 false)).set (A.next + 1) (.row [.string t.name, .int .i64 t.ver, .int .u64 (t.at_ : Int), .int .u64 (t.every : Int), r] 5 false)).get (A.next + 1) = some (.row [.string t.name, .int .i64 t.ver, .int .u64 (t.at_ : Int), .int .u64 (t.every : Int), r] 5 false) := by rw [ASt.get_set, if_pos rfl]
  refine ⟨r, rfl, ((hr.imp (S' := fun b => A.next + 2 ≤ b) (fun b hb _ => by omega)).fr f3 (fun b hb _ => by simp; omega)).imp (fun b hb _ => by omega), ((hf.trans hf2).set (.inr (Nat.le_refl _))).set (.inr (by omega))⟩
end Go.Proofs.YtgcffmhpjphefaaGreatDoor

/- What a law's arguments hold: numbers, timers with steps. -/
namespace Go.Proofs.YtgcffmhpjphefaaGreatDoor
open Go Go.AE Go.ChangeShapes Go.WideShapes Go.ChangeAt Go.RowKit Go.Joins Go.Deep

set_option maxRecDepth 100000
theorem Tryz.own : ownKnob Tryz.prog.godebug = none := by kernel_rfl
theorem Tryz.laidOut : laidOutB Tryz.prog = true := by kernel_rfl
theorem wf_u64 {n : Int} (h : (Lit.int .u64 n).wf = true) : ∃ m : Nat, n = (m : Int) ∧ m < 18446744073709551616 := by
  simp only [Lit.wf, Bool.and_eq_true, decide_eq_true_eq] at h
  have h1 : (0 : Int) ≤ n := h.1
  have h2 : n ≤ 18446744073709551615 := h.2
  exact ⟨n.toNat, by omega, by omega⟩
theorem wf_i64 {n : Int} (h : (Lit.int .i64 n).wf = true) : -9223372036854775808 ≤ n ∧ n < 9223372036854775808 := by
  simp only [Lit.wf, Bool.and_eq_true, decide_eq_true_eq] at h
  have h1 : (-9223372036854775808 : Int) ≤ n := h.1
  have h2 : n ≤ 9223372036854775807 := h.2
  exact ⟨h1, by omega⟩
theorem add_plain {b o i : Nat} : (⟨b, o, none⟩ : Addr).add i = ⟨b, o + i, none⟩ := by
  unfold Addr.add
  split
  · rename_i h; subst h; rfl
  · rfl
theorem cap_unk {cap : Nat} (h : cap ≤ maxLen) : cap ≠ unk := by
  intro e
  subst e
  unfold unk maxLen at h
  exact absurd h (by decide)
theorem choose_ltS {n : Nat} {α : Type} [Inhabited α] {p : Nat → α → Prop} (h : ∀ i, i < n → ∃ y, p i y) : ∃ f : Nat → α, ∀ i, i < n → p i (f i) := by
  have : ∀ i, ∃ y, i < n → p i y := fun i => by
    by_cases hi : i < n
    · obtain ⟨y, hy⟩ := h i hi; exact ⟨y, fun _ => hy⟩
    · exact ⟨default, fun h => absurd h hi⟩
  exact ⟨fun i => Classical.choose (this i), fun i hi => Classical.choose_spec (this i) hi⟩
instance : Inhabited StepD := ⟨⟨0, ByteArray.empty, ByteArray.empty, 0⟩⟩
def StepD.ok (y : StepD) : Prop := -9223372036854775808 ≤ y.kind ∧ y.kind < 9223372036854775808 ∧ -9223372036854775808 ≤ y.n ∧ y.n < 9223372036854775808

section
variable {H : Type} {enc : TypeId × Value → H} {w : World} {base : Nat} {spare : Nat → Bool} {held : Bool}
def StepsAt (W : World) (v : Value) (l : List StepD) : Prop :=
  (l = [] ∧ v = .slice none 0 0) ∨ ∃ b o cap, v = .slice (some ⟨b, o, none⟩) l.length cap ∧ cap ≠ unk ∧ ∀ i y, l[i]? = some y → ∀ r c, (scell y)[r]? = some c → W.cell? ⟨b, o + (i * 4 + r), none⟩ = some c

theorem open_steps {fuel : Nat} {v : Value} {x : DataW H × List MemPlace} (h : DataW.trod enc Tryz.prog w base spare held fuel 28 [v] = some x) (hs : ∀ a len cap, v = .slice (some a) len cap → a.spot = none) :
    ∃ l, StepsAt w v l ∧ ∀ y ∈ l, y.ok := by
  rcases open_slice Tryz.underlying28 h with ⟨h0, _⟩ | ⟨a, len, cap, m, n, D, Pl, h0, _, hl, hcap, hm, _, hx⟩
  · cases h0; exact ⟨[], .inl ⟨rfl, rfl⟩, by simp⟩
  have hc : Tryz.prog.cellsOf 56 = 4 := by kernel_rfl
  rw [hc] at hx
  have hlm : len ≤ m := by rw [hm]; split <;> omega
  have each : ∀ i, i < len → ∃ y : StepD, y.ok ∧ ∀ r v, (scell y)[r]? = some v → w.cell? (a.add (i * 4 + r)) = some v := by
    intro i hi
    obtain ⟨cs', h1, h2⟩ := hx i (by omega)
    obtain ⟨_, hlen, hcell⟩ := World.cells?_some h1
    match cs', hlen with
    | [c0, c1, c2, c3], _ =>
      obtain ⟨y0, y1, y2, y3, k, _, _, g0, g1, g2, g3⟩ := trod_struct4 Tryz.underlying56 h2
      have k34 : Tryz.prog.cellsOf 54 = 1 := by kernel_rfl
      have k9 : Tryz.prog.cellsOf 9 = 1 := by kernel_rfl
      have k2 : Tryz.prog.cellsOf 2 = 1 := by kernel_rfl
      simp only [k34, k9, k2, List.drop_succ_cons, List.drop_zero, List.take_succ_cons, List.take_zero] at g0 g1 g2 g3
      obtain ⟨k0, e0, _, l0⟩ := DataW.trod_int Tryz.underlying54 g0
      obtain ⟨s1, e1, _⟩ := DataW.trod_string Tryz.underlying9 g1
      obtain ⟨s2, e2, _⟩ := DataW.trod_string Tryz.underlying9 g2
      obtain ⟨n3, e3, _, l3⟩ := DataW.trod_int Tryz.underlying2 g3
      cases e0; cases e1; cases e2; cases e3
      have w0 := wf_i64 l0
      have w3 := wf_i64 l3
      refine ⟨⟨k0, s1, s2, n3⟩, ⟨w0.1, w0.2, w3.1, w3.2⟩, fun r v hr => ?_⟩
      have hr4 : r < 4 := by
        by_cases hlt : r < 4
        · exact hlt
        · rw [List.getElem?_eq_none (by show 4 ≤ r; omega)] at hr
          cases hr
      have := hcell r hr4
      rw [add_add] at this
      rw [this]
      exact hr
  obtain ⟨f, hf⟩ := choose_ltS each
  cases h0
  have hsp := hs a len cap rfl
  obtain ⟨b, o, sp⟩ := a
  simp only at hsp
  subst hsp
  refine ⟨(List.range len).map f, .inr ⟨b, o, cap, by simp, cap_unk hcap, fun i y hy r c hr => ?_⟩, fun y hy => ?_⟩
  · rw [List.getElem?_map] at hy
    obtain ⟨j, hj, rfl⟩ := Option.map_eq_some_iff.1 hy
    have hi : i < len := by
      by_cases hlt : i < len
      · exact hlt
      · rw [List.getElem?_eq_none (by simp; omega)] at hj
        cases hj
    have : j = i := by simpa [List.getElem?_range hi] using hj.symm
    subst this
    have := (hf j hi).2 r c hr
    rwa [add_plain] at this
  · obtain ⟨i, hi, rfl⟩ := List.mem_map.1 hy
    exact (hf i (List.mem_range.1 hi)).1

theorem trod_u64 {fuel : Nat} {cs : List Value} {x : DataW H × List MemPlace} (h : DataW.trod enc Tryz.prog w base spare held fuel 22 cs = some x) : ∃ m : Nat, cs = [.int .u64 (m : Int)] ∧ m < 18446744073709551616 := by
  obtain ⟨n, rfl, _, hw⟩ := DataW.trod_int Tryz.underlying22 h
  obtain ⟨m, rfl, hm⟩ := wf_u64 hw
  exact ⟨m, rfl, hm⟩

end

theorem scells_at : ∀ {l : List StepD} {i : Nat} {v : Value}, ((l.map scell).flatten)[i]? = some v → ∃ q y r, l[q]? = some y ∧ r < 4 ∧ i = q * 4 + r ∧ (scell y)[r]? = some v
  | [], i, v, h => by simp at h
  | y :: l, 0, v, h => ⟨0, y, 0, rfl, by omega, rfl, h⟩
  | y :: l, 1, v, h => ⟨0, y, 1, rfl, by omega, rfl, h⟩
  | y :: l, 2, v, h => ⟨0, y, 2, rfl, by omega, rfl, h⟩
  | y :: l, 3, v, h => ⟨0, y, 3, rfl, by omega, rfl, h⟩
  | y :: l, i + 4, v, h => by
    obtain ⟨q, z, r, h1, h2, h3, h4⟩ := scells_at (l := l) (i := i) (v := v) h
    exact ⟨q + 1, z, r, by simpa using h1, h2, by omega, h4⟩
theorem scell_closed {y : StepD} {r : Nat} {v : Value} (h : (scell y)[r]? = some v) : closed v = true := by
  match r, h with
  | 0, h => cases h; rfl
  | 1, h => cases h; rfl
  | 2, h => cases h; rfl
  | 3, h => cases h; rfl

end Go.Proofs.YtgcffmhpjphefaaGreatDoor

/- The environment. -/

/- What is a right step. -/
namespace Go.Proofs.YtgcffmhpjphefaaGreatDoor
open Go Go.AE
set_option maxRecDepth 10000
set_option maxHeartbeats 4000000
variable {Z : Go.AE.Road}

def NameOk (s : ByteArray) : Prop := 1 ≤ s.size ∧ s.size ≤ 16
instance (s : ByteArray) : Decidable (NameOk s) := by unfold NameOk; infer_instance
def StepD.good (y : StepD) : Prop := NameOk y.key ∧ ((y.kind = 1 ∧ y.val.size ≤ 60 ∧ y.n = 0) ∨ ((y.kind = 2 ∨ y.kind = 4) ∧ y.val.size = 0 ∧ y.n = 0) ∨ (y.kind = 3 ∧ y.val.size = 0))
instance (y : StepD) : Decidable y.good := by unfold StepD.good; infer_instance
theorem lenS {nm : ByteArray} {A : ASt} : aLen E0 9 (.string nm) A = some (.int .i64 (nm.size : Int)) := by
  simp only [aLen, ti9, t9_desc]; rfl
theorem empty_iff {s : ByteArray} : s = { data := #[] } ↔ s.size = 0 := by
  constructor
  · rintro rfl; rfl
  · intro h
    obtain ⟨d⟩ := s
    have : d.size = 0 := h
    simpa using this
theorem un_not {b : Bool} : aUn .not (.bool b) = some (.bool (!b)) := by rw [aUn]
theorem name_spec {A : ASt} {s : ByteArray} : CallW Z Tryz.prog 92 [.string s] A (fun r A' => r = .bool (decide (NameOk s)) ∧ A' = A) := by
  refine CallW.of_code E0_ok E0_ro fn92 rfl (n := 10) rfl (rs := [.tmp 2]) rfl (by simp) (codeW_ok E0_ok E0_ro ?_)
  by_cases h : s.size = 0
  · have h1 : (s ≠ { data := #[] }) = False := eq_false (by simpa using empty_iff.2 h)
    have h2 : NameOk s = False := eq_false (by unfold NameOk; omega)
    simp only [z_0, flat, Option.isNone, aFieldAddr, aField, aBuiltin, cond_true, cond_false, cond_dec, if_true, if_false, List.length_cons, List.length_nil, forall_const, implies_true, List.append_nil, List.cons_append, List.nil_append, eq_self, Nat.reduceEqDiff, Nat.reduceAdd, Nat.reduceMul, Nat.reduceSub, Nat.reduceLT, Nat.reduceLeDiff, Nat.reduceBEq, reduceIte, reduceCtorEq, b_sneq, h1, h2, undef, decide_false]
  · have h1 : (s ≠ { data := #[] }) = True := eq_true fun e => h (empty_iff.1 e)
    by_cases h3 : s.size ≤ 16
    · have h2 : NameOk s = True := eq_true (by unfold NameOk; omega)
      have h4 : ((s.size : Int) ≤ 16) = True := eq_true (by omega)
      simp only [z_0, flat, Option.isNone, aFieldAddr, aField, aBuiltin, cond_true, cond_false, cond_dec, if_true, if_false, List.length_cons, List.length_nil, forall_const, implies_true, List.append_nil, List.cons_append, List.nil_append, eq_self, Nat.reduceEqDiff, Nat.reduceAdd, Nat.reduceMul, Nat.reduceSub, Nat.reduceLT, Nat.reduceLeDiff, Nat.reduceBEq, reduceIte, reduceCtorEq, b_sneq, lenS, h1, h2, h4, undef, decide_true]
    · have h2 : NameOk s = False := eq_false (by unfold NameOk; omega)
      have h4 : ((s.size : Int) ≤ 16) = False := eq_false (by omega)
      simp only [z_0, flat, Option.isNone, aFieldAddr, aField, aBuiltin, cond_true, cond_false, cond_dec, if_true, if_false, List.length_cons, List.length_nil, forall_const, implies_true, List.append_nil, List.cons_append, List.nil_append, eq_self, Nat.reduceEqDiff, Nat.reduceAdd, Nat.reduceMul, Nat.reduceSub, Nat.reduceLT, Nat.reduceLeDiff, Nat.reduceBEq, reduceIte, reduceCtorEq, b_sneq, lenS, h1, h2, h4, undef, decide_false]
abbrev stepV (y : StepD) : Value := .agg #[.int .i64 y.kind, .string y.key, .string y.val, .int .i64 y.n]
theorem boxS {y : StepD} : aBox E0 56 (stepV y) = some (.row (scell y) 4 false, ptrTo) := by
  simp only [aBox, ti56, t56_size, Value.cells]
  rfl
theorem right_spec {A : ASt} {y : StepD} : CallW Z Tryz.prog 70 [stepV y] A (fun r A' => r = .bool (decide y.good) ∧ Fr [] A A') := by
  refine CallW.of_code E0_ok E0_ro fn70 rfl (n := 47) rfl (rs := [.tmp 2]) rfl (by simp) (codeW_ok E0_ok E0_ro ?_)
  simp only [z_0, flat, Option.isNone, aFieldAddr, aField, aBuiltin, cond_true, cond_false, cond_dec, if_true, if_false, List.length_cons, List.length_nil, forall_const, implies_true, List.append_nil, List.cons_append, List.nil_append, eq_self, Nat.reduceEqDiff, Nat.reduceAdd, Nat.reduceMul, Nat.reduceSub, Nat.reduceLT, Nat.reduceLeDiff, Nat.reduceBEq, reduceIte, reduceCtorEq, boxS, ptrTo]
  generalize hCd : ASt.new A _ = C
  have c1 : C.get A.next = some (.row [.int .i64 y.kind, .string y.key, .string y.val, .int .i64 y.n] 4 false) := by rw [← hCd, ASt.get_new, if_pos rfl]; rfl
  have fC : Fr [] A C := ⟨by rw [← hCd, ASt.next_new]; omega, fun b hb _ => by rw [← hCd, ASt.get_new, if_neg (by omega)]⟩
  generalize A.next = p at c1
  clear hCd
  have hg : ∀ b, (b = true ↔ y.good) → Value.bool b = Value.bool (decide y.good) ∧ Fr [] A C := fun b hb => ⟨by rw [Value.bool.injEq, Bool.eq_iff_iff, decide_eq_true_iff]; exact hb, fC⟩

  simp only [z_0, flat, Option.isNone, aFieldAddr, aField, aBuiltin, cond_true, cond_false, cond_dec, if_true, if_false, List.length_cons, List.length_nil, forall_const, implies_true, List.append_nil, List.cons_append, List.nil_append, eq_self, Nat.reduceEqDiff, Nat.reduceAdd, Nat.reduceMul, Nat.reduceSub, Nat.reduceLT, Nat.reduceLeDiff, Nat.reduceBEq, reduceIte, reduceCtorEq, scell, c1]
  by_cases k1 : y.kind = 1
  · simp only [z_0, flat, Option.isNone, aFieldAddr, aField, aBuiltin, cond_true, cond_false, cond_dec, if_true, if_false, List.length_cons, List.length_nil, forall_const, implies_true, List.append_nil, List.cons_append, List.nil_append, eq_self, Nat.reduceEqDiff, Nat.reduceAdd, Nat.reduceMul, Nat.reduceSub, Nat.reduceLT, Nat.reduceLeDiff, Nat.reduceBEq, reduceIte, reduceCtorEq, scell, c1, k1]
    refine CallT.mono (CallT.of_call name_spec) ?_
    rintro _ _ ⟨rfl, rfl⟩
    by_cases hn : NameOk y.key
    all_goals by_cases hv : ((y.val.size : Nat) : Int) ≤ 60
    all_goals by_cases h0 : y.n = 0
    all_goals simp only [z_0, flat, Option.isNone, aFieldAddr, aField, aBuiltin, cond_true, cond_false, cond_dec, if_true, if_false, List.length_cons, List.length_nil, forall_const, implies_true, List.append_nil, List.cons_append, List.nil_append, eq_self, Nat.reduceEqDiff, Nat.reduceAdd, Nat.reduceMul, Nat.reduceSub, Nat.reduceLT, Nat.reduceLeDiff, Nat.reduceBEq, reduceIte, reduceCtorEq, scell, c1, lenS, undef, hn, hv, h0, k1, decide_true, decide_false]
    all_goals refine hg _ ?_
    all_goals unfold StepD.good
    all_goals simp only [hn, k1, h0, true_and, false_and, and_true, and_false, or_false, false_or, iff_true, iff_false, Bool.false_eq_true, Int.reduceEq, not_false_eq_true, true_iff, false_iff]
    all_goals omega
  have k1' : (y.kind = 1) = False := eq_false k1
  by_cases k24 : y.kind = 2 ∨ y.kind = 4
  · have hval : (y.val = { data := #[] }) = (y.val.size = 0) := propext empty_iff
    rcases k24 with k | k
    all_goals simp only [z_0, flat, Option.isNone, aFieldAddr, aField, aBuiltin, cond_true, cond_false, cond_dec, if_true, if_false, List.length_cons, List.length_nil, forall_const, implies_true, List.append_nil, List.cons_append, List.nil_append, eq_self, Nat.reduceEqDiff, Nat.reduceAdd, Nat.reduceMul, Nat.reduceSub, Nat.reduceLT, Nat.reduceLeDiff, Nat.reduceBEq, reduceIte, reduceCtorEq, scell, c1, k, Int.reduceEq]
    all_goals refine CallT.mono (CallT.of_call name_spec) ?_
    all_goals rintro _ _ ⟨rfl, rfl⟩
    all_goals by_cases hn : NameOk y.key
    all_goals by_cases hv : y.val.size = 0
    all_goals by_cases h0 : y.n = 0
    all_goals simp only [z_0, flat, Option.isNone, aFieldAddr, aField, aBuiltin, cond_true, cond_false, cond_dec, if_true, if_false, List.length_cons, List.length_nil, forall_const, implies_true, List.append_nil, List.cons_append, List.nil_append, eq_self, Nat.reduceEqDiff, Nat.reduceAdd, Nat.reduceMul, Nat.reduceSub, Nat.reduceLT, Nat.reduceLeDiff, Nat.reduceBEq, reduceIte, reduceCtorEq, scell, c1, b_seql, hval, undef, hn, hv, h0, k, decide_true, decide_false]
    all_goals refine hg _ ?_
    all_goals unfold StepD.good
    all_goals simp only [hn, k, h0, hv, true_and, false_and, and_true, and_false, or_false, or_true, true_or, false_or, iff_true, iff_false, Bool.false_eq_true, Int.reduceEq, not_false_eq_true, true_iff, false_iff]
  have k2' : (y.kind = 2) = False := eq_false fun h => k24 (.inl h)
  have k4' : (y.kind = 4) = False := eq_false fun h => k24 (.inr h)
  by_cases k3 : y.kind = 3
  · have hval : (y.val = { data := #[] }) = (y.val.size = 0) := propext empty_iff
    simp only [z_0, flat, Option.isNone, aFieldAddr, aField, aBuiltin, cond_true, cond_false, cond_dec, if_true, if_false, List.length_cons, List.length_nil, forall_const, implies_true, List.append_nil, List.cons_append, List.nil_append, eq_self, Nat.reduceEqDiff, Nat.reduceAdd, Nat.reduceMul, Nat.reduceSub, Nat.reduceLT, Nat.reduceLeDiff, Nat.reduceBEq, reduceIte, reduceCtorEq, scell, c1, k3, Int.reduceEq]
    refine CallT.mono (CallT.of_call name_spec) ?_
    rintro _ _ ⟨rfl, rfl⟩
    by_cases hn : NameOk y.key
    all_goals by_cases hv : y.val.size = 0
    all_goals simp only [z_0, flat, Option.isNone, aFieldAddr, aField, aBuiltin, cond_true, cond_false, cond_dec, if_true, if_false, List.length_cons, List.length_nil, forall_const, implies_true, List.append_nil, List.cons_append, List.nil_append, eq_self, Nat.reduceEqDiff, Nat.reduceAdd, Nat.reduceMul, Nat.reduceSub, Nat.reduceLT, Nat.reduceLeDiff, Nat.reduceBEq, reduceIte, reduceCtorEq, scell, c1, b_seql, hval, undef, hn, hv, k3, decide_true, decide_false]
    all_goals refine hg _ ?_
    all_goals unfold StepD.good
    all_goals simp only [hn, k3, hv, true_and, false_and, and_true, and_false, or_false, or_true, true_or, false_or, iff_true, iff_false, Bool.false_eq_true, Int.reduceEq, not_false_eq_true, true_iff, false_iff]
  have k3' : (y.kind = 3) = False := eq_false k3
  simp only [z_0, flat, Option.isNone, aFieldAddr, aField, aBuiltin, cond_true, cond_false, cond_dec, if_true, if_false, List.length_cons, List.length_nil, forall_const, implies_true, List.append_nil, List.cons_append, List.nil_append, eq_self, Nat.reduceEqDiff, Nat.reduceAdd, Nat.reduceMul, Nat.reduceSub, Nat.reduceLT, Nat.reduceLeDiff, Nat.reduceBEq, reduceIte, reduceCtorEq, scell, c1, k1', k2', k3', k4']
  refine hg _ ?_
  unfold StepD.good
  simp only [k1', k2', k3', k4', false_and, and_false, or_false, Bool.false_eq_true]
end Go.Proofs.YtgcffmhpjphefaaGreatDoor

/- A queue with nothing in it: what is asked of it, and one that is laid there. -/
namespace Go.Proofs.YtgcffmhpjphefaaGreatDoor
open Go Go.AE
set_option maxRecDepth 10000
set_option maxHeartbeats 8000000
variable {Z : Go.AE.Road}

section
variable {E : Env} {T : Tmps} {A : ASt} {C : Tgt → List Value → ASt → (Value → ASt → Prop) → Prop} {K : Value → ASt → Prop}
theorem oneW_makeInterface {t : TypeId} {x : Operand} : oneW E C (.makeInterface t x) T A K = arW C K (aOp E (.makeInterface t x) T A) := oneW_op rfl
theorem oneW_typeAssert {x : Operand} {u t : TypeId} {ok : Bool} : oneW E C (.typeAssert x u t ok) T A K = arW C K (aOp E (.typeAssert x u t ok) T A) := oneW_op rfl
theorem aOp_makeInterface {t : TypeId} {x : Operand} : aOp E (.makeInterface t x) T A = (match ev T x with
    | some v => ofVal (aMakeIface E t v) A "makeInterface"
    | none => .bad "makeInterface") := by rw [aOp_def]; rfl
theorem aOp_typeAssert {x : Operand} {u t : TypeId} {ok : Bool} : aOp E (.typeAssert x u t ok) T A = (match ev T x with
    | some v => ofVal (aTypeAssert E v t ok) A "typeAssert"
    | none => .bad "typeAssert") := by rw [aOp_def]; rfl
theorem aInvoke_method {t : TypeId} {v r : Value} {name : String} {f : FuncId} {rest cs : List Value} (h : aMethod E t v name A = some (f, r)) : aInvoke E (.method name) (.iface t v :: rest) cs A = aEnter E f (r :: rest) A := by
  simp only [aInvoke, h]
end
theorem mifE {b : Option Addr} : aMakeIface E0 90 (.pointer b) = some (.iface 90 (.pointer b)) := by kernel_rfl
theorem mifT {k : ByteArray} {a : Int} : aMakeIface E0 74 (.agg #[.string k, .int .u64 a]) = some (.iface 74 (.agg #[.string k, .int .u64 a])) := by kernel_rfl
theorem taT {k : ByteArray} {a : Int} : aTypeAssert E0 (.iface 74 (.agg #[.string k, .int .u64 a])) 74 false = some (.agg #[.string k, .int .u64 a]) := by kernel_rfl
theorem mPush {b : Option Addr} {A : ASt} : aMethod E0 90 (.pointer b) "Push" A = some (162, .pointer b) := by kernel_rfl
theorem mLen {b : Option Addr} {A : ASt} : aMethod E0 90 (.pointer b) "Len" A = some (97, .pointer b) := by kernel_rfl
theorem bld80 {x : Option Addr} : aBuild E0 95 [(0, .pointer x)] = some (.agg #[.pointer x]) := by kernel_rfl
theorem bld78 {x : Option Nat} : aBuild E0 93 [(1, .map x)] = some (.agg #[.slice none 0 0, .map x]) := by kernel_rfl
theorem bld71 {k : ByteArray} {a : Int} : aBuild E0 74 [(0, .string k), (1, .int .u64 a)] = some (.agg #[.string k, .int .u64 a]) := by kernel_rfl
theorem box78 {x y : Value} : aBox E0 93 (.agg #[x, y]) = some (.row [x, y] 2 false, ptrTo) := by
  simp only [aBox, w_qu, Value.cells]
theorem box80 {x : Value} : aBox E0 95 (.agg #[x]) = some (.row [x] 1 false, ptrTo) := by
  simp only [aBox, w_qu, Value.cells]
theorem eqnilQ {xo yo : Operand} {x : Option Addr} : aBin2 E0 .eql 63 xo yo (.pointer x) (.pointer none) = some (.bool x.isNone) := b_ptr_nil ti63 t63_desc
structure Q0 (A : ASt) (q e w : Nat) : Prop where
  hq : A.get q = some (.row [.pointer (some ⟨e, 0, none⟩)] 1 false)
  he : A.get e = some (.row [.slice none 0 0, .map (some w)] 2 false)
  hw : A.get w = some (.map [] 0)
  lt : q < A.next ∧ e < A.next ∧ w < A.next
  ne : e ≠ w ∧ q ≠ w ∧ q ≠ e
theorem Q0.fr {A B : ASt} {q e w : Nat} {own : List Nat} (h : Q0 A q e w) (hf : Fr own A B) (h1 : q ∉ own) (h2 : e ∉ own) (h3 : w ∉ own) : Q0 B q e w :=
  ⟨(hf.get q h.lt.1 h1).trans h.hq, (hf.get e h.lt.2.1 h2).trans h.he, (hf.get w h.lt.2.2 h3).trans h.hw, ⟨Nat.lt_of_lt_of_le h.lt.1 hf.next, Nat.lt_of_lt_of_le h.lt.2.1 hf.next, Nat.lt_of_lt_of_le h.lt.2.2 hf.next⟩, h.ne⟩
theorem qnew_spec {A : ASt} : CallW Z Tryz.prog 29 [] A (fun r A' => ∃ q e w, r = .pointer (some ⟨q, 0, none⟩) ∧ Q0 A' q e w ∧ A.next ≤ q ∧ A.next ≤ e ∧ A.next ≤ w ∧ Fr [] A A') := by
  refine CallW.of_code E0_ok E0_ro fn29 rfl (n := 6) rfl (rs := [.tmp 0]) rfl (by simp) (codeW_ok E0_ok E0_ro ?_)
  simp only [z_0, flat, Option.isNone, aFieldAddr, aField, aBuiltin, cond_true, cond_false, cond_dec, if_true, if_false, List.length_cons, List.length_nil, forall_const, implies_true, List.append_nil, List.cons_append, List.nil_append, eq_self, Nat.reduceEqDiff, Nat.reduceAdd, Nat.reduceMul, Nat.reduceSub, Nat.reduceLT, Nat.reduceLeDiff, Nat.reduceBEq, reduceIte, reduceCtorEq, bld78, box78, bld80, box80, ptrTo]
  generalize hC : ASt.new (ASt.new (ASt.new A _) _) _ = C
  have hg : ∀ b, C.get b = if b = A.next + 1 + 1 then some (.row [.pointer (some ⟨A.next + 1, 0, none⟩)] 1 false) else if b = A.next + 1 then some (.row [.slice none 0 0, .map (some A.next)] 2 false) else if b = A.next then some (.map [] 0) else A.get b := fun b => by
    rw [← hC]
    simp only [ASt.get_new, ASt.next_new]
  have hn : C.next = A.next + 3 := by rw [← hC]; simp only [ASt.next_new]
  refine ⟨A.next + 1 + 1, A.next + 1, A.next, rfl, ⟨?_, ?_, ?_, by omega, by omega⟩, by omega, by omega, by omega, ⟨by omega, fun b hb _ => ?_⟩⟩
  · rw [hg, if_pos rfl]
  · rw [hg, if_neg (by omega), if_pos rfl]
  · rw [hg, if_neg (by omega), if_neg (by omega), if_pos rfl]
  · rw [hg, if_neg (by omega), if_neg (by omega), if_neg (by omega)]
theorem fresh_ta {x : Operand} {u v : TypeId} {ok : Bool} {E : Env} : freshOp E (.typeAssert x u v ok) = false := by simp only [freshOp]
theorem quiet_ta {x : Operand} {u v : TypeId} {ok : Bool} {E : Env} : quietOp E (.typeAssert x u v ok) = true := by simp only [quietOp]
theorem fieldT {k : ByteArray} {a : Int} : aField E0 74 (.agg #[.string k, .int .u64 a]) 0 = some (.string k) := by kernel_rfl
theorem bs68 {k : ByteArray} {a : Int} : aBuildSlice E0 71 1 [(0, .agg #[.string k, .int .u64 a])] = some (.row [.string k, .int .u64 a] 2 false, fun id => .slice (some ⟨id, 0, none⟩) 1 1) := by
  simp only [aBuildSlice, w_qu]; rfl
theorem st68 {A : ASt} {e : Nat} {x y : Value} {v : Value} (h : A.get e = some (.row [x, y] 2 false)) (hv : v.cells = #[v] ∧ Go.AE.single v = true) : aStore E0 71 (.pointer (some ⟨e, 0, none⟩)) v A = some (A.set e (.row [v, y] 2 false)) := by
  have e1 : v.cells.toList = [v] := by rw [hv.1]
  have e2 : singles [v] = true := by simp only [singles, hv.2, Bool.and_self]
  simp only [aStore, h, w_qu, e1, e2]; rfl
theorem va71 {k : ByteArray} {a : Int} : valEq (.agg #[.string k, .int .u64 a]) (.agg #[.string k, .int .u64 a]) = true := by simp [valEq, vEq, vStep, flatEq, lEq, bytesEq_iff]

theorem z71c : closed (.agg #[.string ByteArray.empty, .int .u64 0]) = true := by kernel_rfl
theorem z71l : Nat.beq (Value.agg #[.string ByteArray.empty, .int .u64 0]).cells.toList.length 2 = true := by kernel_rfl
end Go.Proofs.YtgcffmhpjphefaaGreatDoor

/- The wheel's place, put, drop. -/
namespace Go.Proofs.YtgcffmhpjphefaaGreatDoor
open Go Go.AE

def wrow (now all : Nat) (ms : List Nat) : List Value := .int .u64 (now : Int) :: .map (some all) :: ms.map (fun i => Value.map (some i))

noncomputable def lvl (now at_ : Nat) : Nat := (Lib.bitLen (at_ ^^^ now) - 1) / 4
noncomputable def plc (now at_ : Nat) : Nat := if 4 ≤ lvl now at_ then 64 else 16 * lvl now at_ + at_ / 2 ^ (4 * lvl now at_) % 16

theorem wrow_slot {now all : Nat} {ms : List Nat} {k : Nat} (h : k < ms.length) : nth (wrow now all ms) (2 + k) = some (.map (some ms[k])) := by
  rw [nth_eq]; simp [wrow, h, Nat.add_comm 2 k]

theorem wrow_now {now all : Nat} {ms : List Nat} : nth (wrow now all ms) 0 = some (.int .u64 (now : Int)) := rfl
theorem wrow_all {now all : Nat} {ms : List Nat} : nth (wrow now all ms) 1 = some (.map (some all)) := rfl

theorem eqnil25 {xo yo : Operand} {x : Option Addr} : aBin2 E0 .eql 65 xo yo (.pointer x) (.pointer none) = some (.bool x.isNone) := b_ptr_nil ti65 t65_desc

theorem plc_lt {now a : Nat} : plc now a < 65 := by
  unfold plc
  split
  · omega
  · have : a / 2 ^ (4 * lvl now a) % 16 < 16 := Nat.mod_lt _ (by omega)
    omega

theorem lvl_int {b : Nat} (h : b ≤ 64) : IntKind.i64.wrap ((IntKind.i64.wrap ((b : Int) - 1)).tdiv 4) = (((b - 1) / 4 : Nat) : Int) := by
  have : ∀ b : Fin 65, IntKind.i64.wrap ((IntKind.i64.wrap (((b.1 : Nat) : Int) - 1)).tdiv 4) = (((b.1 - 1) / 4 : Nat) : Int) := by decide +kernel
  exact this ⟨b, by omega⟩

variable {Z : Go.AE.Road}
set_option maxRecDepth 10000

theorem len64 (x : Nat) (hx : x < 18446744073709551616) (A : ASt) : CallT Z Tryz.prog (.fn 61) [.int .u64 (x : Int)] A (fun v A' => v = .int .i64 ((Lib.bitLen x : Nat) : Int) ∧ A' = A) :=
  CallW.of_flat rfl rfl fun w => by
    have := Tryz.bits_Len64 (x : Int) w (by omega) (by omega)
    simpa using this

theorem place_walk {A : ASt} {W now all a : Nat} {ms : List Nat} (hW : A.get W = some (.row (wrow now all ms) 67 false)) (hm : ms.length = 65) (hn : now < 18446744073709551616) (ha : a < 18446744073709551616) :
    CallW Z Tryz.prog 53 [.pointer (some ⟨W, 0, none⟩), .int .u64 (a : Int)] A (fun v A' => v = .map (some (ms[plc now a]'(by rw [hm]; exact plc_lt))) ∧ ∃ k, A' = { A with next := A.next + k }) := by
  refine CallW.of_code E0_ok E0_ro fn53 rfl (n := 33) rfl (rs := [.tmp 4]) rfl (by simp) (codeW_ok E0_ok E0_ro ?_)
  have hx : a ^^^ now < 18446744073709551616 := Nat.xor_lt_two_pow (n := 64) (by omega) (by omega)
  have hb : Lib.bitLen (a ^^^ now) ≤ 64 := Lib.bitLen_le _ _ (by omega) hx
  simp only [hW, wrow_now, wrow_all, eqnil25, z_0, flat, Option.isNone, aFieldAddr, aField, aBuiltin, cond_true, cond_false, cond_dec, if_true, if_false, List.length_cons, List.length_nil, forall_const, implies_true, List.append_nil, List.cons_append, List.nil_append, eq_self, Nat.reduceEqDiff, Nat.reduceAdd, Nat.reduceMul, Nat.reduceSub, Nat.reduceLT, Nat.reduceLeDiff, Nat.reduceBEq, reduceIte, reduceCtorEq, b_xor64 ha hn]
  refine CallT.mono (len64 _ hx A) ?_
  rintro _ A' ⟨rfl, hA'⟩
  subst hA'
  simp only [hW, wrow_now, wrow_all, eqnil25, z_0, flat, Option.isNone, aFieldAddr, aField, aBuiltin, cond_true, cond_false, cond_dec, if_true, if_false, List.length_cons, List.length_nil, forall_const, implies_true, List.append_nil, List.cons_append, List.nil_append, eq_self, Nat.reduceEqDiff, Nat.reduceAdd, Nat.reduceMul, Nat.reduceSub, Nat.reduceLT, Nat.reduceLeDiff, Nat.reduceBEq, reduceIte, reduceCtorEq, b_quo (show (4 : Int) ≠ 0 by decide), lvl_int hb]
  refine brW_dec (fun h4 => ?_) (fun h4 => ?_)
  · have h4' : 4 ≤ lvl now a := by unfold lvl; omega
    have hp : plc now a = 64 := if_pos h4'
    have e66 : nth (wrow now all ms) 66 = some (.map (some (ms[plc now a]'(by rw [hm]; exact plc_lt)))) := by
      have := wrow_slot (now := now) (all := all) (ms := ms) (k := 64) (by omega)
      simp only [hp]
      exact this
    simp only [hW, wrow_now, wrow_all, eqnil25, z_0, flat, Option.isNone, aFieldAddr, aField, aBuiltin, cond_true, cond_false, cond_dec, if_true, if_false, List.length_cons, List.length_nil, forall_const, implies_true, List.append_nil, List.cons_append, List.nil_append, eq_self, Nat.reduceEqDiff, Nat.reduceAdd, Nat.reduceMul, Nat.reduceSub, Nat.reduceLT, Nat.reduceLeDiff, Nat.reduceBEq, reduceIte, reduceCtorEq, e66]
    exact ⟨0, rfl⟩
  · have hl : lvl now a < 4 := by unfold lvl; omega
    have hp : plc now a = 16 * lvl now a + a / 2 ^ (4 * lvl now a) % 16 := if_neg (by omega)
    have e4 : IntKind.i64.wrap (4 * ((lvl now a : Nat) : Int)) = ((4 * lvl now a : Nat) : Int) := by rw [IntKind.wrap_i64]; omega
    have hr : a / 2 ^ (4 * lvl now a) % 16 < 16 := Nat.mod_lt _ (by omega)
    have hlv : (Lib.bitLen (a ^^^ now) - 1) / 4 = lvl now a := rfl
    have esl : nth (wrow now all ms) (2 + lvl now a * 16 + a / 2 ^ (4 * lvl now a) % 16) = some (.map (some (ms[plc now a]'(by rw [hm]; exact plc_lt)))) := by
      have := wrow_slot (now := now) (all := all) (ms := ms) (k := plc now a) (by rw [hm]; exact plc_lt)
      rw [← this, hp]
      congr 1; omega
    rw [hlv]
    generalize lvl now a = lv at hl e4 hr esl
    have esh : ∀ xo yo t, aBin2 E0 .shr t xo yo (.int .u64 (a : Int)) (.int .i64 ((4 * lv : Nat) : Int)) = some (.int .u64 ((a / 2 ^ (4 * lv) : Nat) : Int)) := fun xo yo t => b_shr64 (by omega)
    have ere : ∀ xo yo t, aBin2 E0 .rem t xo yo (.int .u64 ((a / 2 ^ (4 * lv) : Nat) : Int)) (.int .u64 16) = some (.int .u64 ((a / 2 ^ (4 * lv) % 16 : Nat) : Int)) := fun xo yo t => b_rem_nat (b := 16) (by decide)
    generalize a / 2 ^ (4 * lv) = q at hr esl esh ere
    generalize q % 16 = r at hr esl ere
    have ei1 : ∀ o, aIndexAddr E0 99 (.pointer (some ⟨W, o, none⟩)) (.int .i64 (lv : Int)) = some (.pointer (some ⟨W, o + lv * 16, none⟩)) := fun o => by
      have := indexAddr_arr (A := A') ti99 t99_desc ti98 (kd := .i64) (k := lv) (b := W) (off := o) hl
      rwa [t98_size] at this
    have ei2 : ∀ o, aIndexAddr E0 98 (.pointer (some ⟨W, o, none⟩)) (.int .u64 (r : Int)) = some (.pointer (some ⟨W, o + r, none⟩)) := fun o => by
      have := indexAddr_arr (A := A') ti98 t98_desc ti97 (kd := .u64) (k := r) (b := W) (off := o) hr
      rwa [t97_size, Nat.mul_one] at this
    simp only [hW, wrow_now, wrow_all, eqnil25, z_0, flat, Option.isNone, aFieldAddr, aField, aBuiltin, cond_true, cond_false, cond_dec, if_true, if_false, List.length_cons, List.length_nil, forall_const, implies_true, List.append_nil, List.cons_append, List.nil_append, eq_self, Nat.reduceEqDiff, Nat.reduceAdd, Nat.reduceMul, Nat.reduceSub, Nat.reduceLT, Nat.reduceLeDiff, Nat.reduceBEq, reduceIte, reduceCtorEq]
    refine CodeW.quiet E0_ok E0_ro mixed (by kernel_rfl) (by kernel_rfl) ?_
    simp only [hW, wrow_now, wrow_all, eqnil25, z_0, flat, Option.isNone, aFieldAddr, aField, aBuiltin, cond_true, cond_false, cond_dec, if_true, if_false, List.length_cons, List.length_nil, forall_const, implies_true, List.append_nil, List.cons_append, List.nil_append, eq_self, Nat.reduceEqDiff, Nat.reduceAdd, Nat.reduceMul, Nat.reduceSub, Nat.reduceLT, Nat.reduceLeDiff, Nat.reduceBEq, reduceIte, reduceCtorEq, quietW_nil, quietW_arr, quietW_cons, aStill, freshOp, quietOp, E0_ron, get_empty, get_next, ofVal_none, valEq_int, valEq_str, valEq_bool, valEq_map, valEq_ptr, valEq_slice, valEq_nilSlice, valEq_mapNil, List.length_cons, List.length_nil, e4, esh, ere, ei1, ei2, esl]
    exact ⟨13, rfl⟩
end Go.Proofs.YtgcffmhpjphefaaGreatDoor

/- The wheel's put and drop. -/
namespace Go.Proofs.YtgcffmhpjphefaaGreatDoor
open Go Go.AE

abbrev TM := ByteArray → Option Nat
noncomputable def TM.put (M : TM) (k : ByteArray) (a : Nat) : TM := fun j => if j = k then some a else M j
noncomputable def TM.del (M : TM) (k : ByteArray) : TM := fun j => if j = k then none else M j

def Holds (A : ASt) (m : Nat) (M : TM) : Prop := ∃ l ck, A.get m = some (.map (uEnts l) ck) ∧ MapOK l ck ∧ ∀ k, uget l k = M k

theorem Holds.congr {A A' : ASt} {m : Nat} {M : TM} (h : Holds A m M) (e : A'.get m = A.get m) : Holds A' m M := by
  obtain ⟨l, ck, h1, h2⟩ := h
  exact ⟨l, ck, by rw [e]; exact h1, h2⟩
theorem Holds.ext {A : ASt} {m : Nat} {M M' : TM} (h : Holds A m M) (e : ∀ k, M k = M' k) : Holds A m M' := by
  obtain ⟨l, ck, h1, h2, h3⟩ := h
  exact ⟨l, ck, h1, h2, fun k => (h3 k).trans (e k)⟩

noncomputable def TM.at_ (M : TM) (now i : Nat) : TM := fun k => (M k).filter fun a => decide (plc now a = i)

structure WheelAt (A : ASt) (W all : Nat) (ms : List Nat) (now : Nat) (M : TM) : Prop where
  row : A.get W = some (.row (wrow now all ms) 67 false)
  len : ms.length = 65
  nowlt : now < 18446744073709551616
  nodup : (W :: all :: ms).Nodup
  below : ∀ b ∈ W :: all :: ms, b < A.next
  allm : Holds A all M
  slot : ∀ i m, ms[i]? = some m → Holds A m (M.at_ now i)
  lt : ∀ k a, M k = some a → a < 18446744073709551616
  gt : ∀ k a, M k = some a → now < a

theorem WheelAt.congr {A A' : ASt} {W all now : Nat} {ms : List Nat} {M : TM} (h : WheelAt A W all ms now M) (hn : A.next ≤ A'.next) (e : ∀ b ∈ W :: all :: ms, A'.get b = A.get b) : WheelAt A' W all ms now M :=
  ⟨by rw [e W (by simp)]; exact h.row, h.len, h.nowlt, h.nodup, fun b hb => Nat.lt_of_lt_of_le (h.below b hb) hn, h.allm.congr (e all (by simp)), fun i m hm => (h.slot i m hm).congr (e m (by simp [List.mem_of_getElem? hm])), h.lt, h.gt⟩

theorem WheelAt.plc {A : ASt} {W all now : Nat} {ms : List Nat} {M : TM} (h : WheelAt A W all ms now M) (a : Nat) : plc now a < ms.length := by rw [h.len]; exact plc_lt

theorem WheelAt.ne_all {A : ASt} {W all now : Nat} {ms : List Nat} {M : TM} (h : WheelAt A W all ms now M) {m : Nat} (hm : m ∈ ms) : m ≠ W ∧ m ≠ all ∧ all ≠ W := by
  have := h.nodup
  simp only [List.nodup_cons, List.mem_cons, not_or] at this
  exact ⟨fun e => this.1.2 (e ▸ hm), fun e => this.2.1 (e ▸ hm), fun e => this.1.1 e.symm⟩

theorem WheelAt.inj {A : ASt} {W all now : Nat} {ms : List Nat} {M : TM} (h : WheelAt A W all ms now M) {i j m : Nat} (hi : ms[i]? = some m) (hj : ms[j]? = some m) : i = j := by
  have := h.nodup
  simp only [List.nodup_cons] at this
  obtain ⟨hi', hi⟩ := List.getElem?_eq_some_iff.1 hi
  obtain ⟨hj', hj⟩ := List.getElem?_eq_some_iff.1 hj
  have hp := List.pairwise_iff_getElem.1 this.2.2
  rcases Nat.lt_trichotomy i j with hlt | e | hlt
  · exact absurd (hi.trans hj.symm) (hp i j hi' hj' hlt)
  · exact e
  · exact absurd (hj.trans hi.symm) (hp j i hj' hi' hlt)

variable {Z : Go.AE.Road}
set_option maxRecDepth 10000

theorem lookupT {A : ASt} {m ck : Nat} {l : List UE} (hm : A.get m = some (.map (uEnts l) ck)) (k : ByteArray) :
    aLookup E0 97 (.map (some m)) (.string k) true A = some (.tuple #[.int .u64 ((uget l k).getD 0 : Nat), .bool (uget l k).isSome]) := lookup_u ti97 t97_desc ti9 t9_desc ti22 t22_zero hm k
theorem updateT {A : ASt} {m ck : Nat} {l : List UE} (hm : A.get m = some (.map (uEnts l) ck)) (k : ByteArray) (v : Nat) :
    aMapUpdate E0 97 (.map (some m)) (.string k) (.int .u64 (v : Int)) A = some (A.set m (.map (uEnts (uput k v ck l)) (uck l k ck))) := mapUpdate_u ti97 t97_desc ti9 t9_desc hm k v
theorem deleteT {A : ASt} {m ck : Nat} {l : List UE} (hm : A.get m = some (.map (uEnts l) ck)) (k : ByteArray) :
    aDelete E0 97 (.map (some m)) (.string k) A = .val undef (if (uget l k).isSome then A.set m (.map (uEnts (udel k l)) ck) else A) := delete_u ti97 t97_desc ti9 t9_desc hm k

theorem WheelAt.del {A A' : ASt} {W all now : Nat} {ms : List Nat} {M : TM} (h : WheelAt A W all ms now M) (k : ByteArray) {a : Nat} (ha : M k = some a) {l la : List UE} {ck cka : Nat} {m : Nat} (hm : ms[_root_.Go.Proofs.YtgcffmhpjphefaaGreatDoor.plc now a]? = some m)
    (hl : A.get m = some (.map (uEnts l) ck)) (hok : MapOK l ck) (hg : ∀ j, uget l j = M.at_ now (_root_.Go.Proofs.YtgcffmhpjphefaaGreatDoor.plc now a) j) (hla : A.get all = some (.map (uEnts la) cka)) (hoka : MapOK la cka) (hga : ∀ j, uget la j = M j)
    (hn : A.next ≤ A'.next) (e : ∀ b, A'.get b = if b = all then some (.map (uEnts (udel k la)) cka) else if b = m then some (.map (uEnts (udel k l)) ck) else A.get b) : WheelAt A' W all ms now (M.del k) ∧ Fr (W :: all :: ms) A A' := by
  have hmem := List.mem_of_getElem? hm
  obtain ⟨n1, n2, n3⟩ := h.ne_all hmem
  refine ⟨⟨?_, h.len, h.nowlt, h.nodup, fun b hb => Nat.lt_of_lt_of_le (h.below b hb) hn, ?_, ?_, ?_, ?_⟩, hn, fun b hb hno => ?_⟩
  · rw [e, if_neg (Ne.symm n3), if_neg (Ne.symm n1)]; exact h.row
  · refine ⟨_, _, by rw [e, if_pos rfl], udel_ok hoka, fun j => ?_⟩
    rw [uget_udel hoka.keys, hga]; rfl
  · intro i m' hm'
    have hmem' := List.mem_of_getElem? hm'
    obtain ⟨_, n2', _⟩ := h.ne_all hmem'
    by_cases e2 : m' = m
    · subst e2
      have : i = _ := h.inj hm' hm
      subst this
      refine ⟨_, _, by rw [e, if_neg n2, if_pos rfl], udel_ok hok, fun j => ?_⟩
      rw [uget_udel hok.keys, hg]
      unfold TM.at_ TM.del
      by_cases ej : j = k <;> simp [ej]
    · refine ((h.slot i m' hm').congr (by rw [e, if_neg n2', if_neg e2])).ext fun j => ?_
      unfold TM.at_ TM.del
      by_cases ej : j = k
      · subst ej
        rw [if_pos rfl, ha]
        have hne : _root_.Go.Proofs.YtgcffmhpjphefaaGreatDoor.plc now a ≠ i := fun ee => e2 (by rw [ee, hm'] at hm; exact Option.some.inj hm)
        simp [Option.filter, hne]
      · rw [if_neg ej]
  · intro j b hj
    unfold TM.del at hj
    split at hj
    · cases hj
    · exact h.lt j b hj
  · intro j b hj
    unfold TM.del at hj
    split at hj
    · cases hj
    · exact h.gt j b hj
  · rw [e, if_neg (fun ee => hno (by simp [ee])), if_neg (fun ee => hno (by simp [ee, hmem]))]

theorem drop_spec {A : ASt} {W all now : Nat} {ms : List Nat} {M : TM} (h : WheelAt A W all ms now M) (k : ByteArray) :
    CallW Z Tryz.prog 41 [.pointer (some ⟨W, 0, none⟩), .string k] A (fun v A' => v = .bool (M k).isSome ∧ WheelAt A' W all ms now (M.del k) ∧ Fr (W :: all :: ms) A A') := by
  refine CallW.of_code E0_ok E0_ro fn41 rfl (n := 29) rfl (rs := [.tmp 4]) rfl (by simp) (codeW_ok E0_ok E0_ro ?_)
  have hW := h.row
  obtain ⟨la, cka, hla, hoka, hga⟩ := h.allm
  have hlk := lookupT hla k
  rw [hga] at hlk
  simp only [hW, wrow_now, wrow_all, eqnil25, z_0, flat, Option.isNone, aFieldAddr, aField, aBuiltin, cond_true, cond_false, cond_dec, if_true, if_false, List.length_cons, List.length_nil, forall_const, implies_true, List.append_nil, List.cons_append, List.nil_append, eq_self, Nat.reduceEqDiff, Nat.reduceAdd, Nat.reduceMul, Nat.reduceSub, Nat.reduceLT, Nat.reduceLeDiff, Nat.reduceBEq, reduceIte, reduceCtorEq, hlk]
  cases hk : M k with
  | none =>
    simp only [Option.isSome_none, hW, wrow_now, wrow_all, eqnil25, z_0, flat, Option.isNone, aFieldAddr, aField, aBuiltin, cond_true, cond_false, cond_dec, if_true, if_false, List.length_cons, List.length_nil, forall_const, implies_true, List.append_nil, List.cons_append, List.nil_append, eq_self, Nat.reduceEqDiff, Nat.reduceAdd, Nat.reduceMul, Nat.reduceSub, Nat.reduceLT, Nat.reduceLeDiff, Nat.reduceBEq, reduceIte, reduceCtorEq]
    refine ⟨?_, .refl _ _⟩
    have : M.del k = M := by
      funext j
      unfold TM.del
      by_cases e : j = k <;> simp [e, hk]
    rw [this]; exact h
  | some a =>
    have ha := h.lt k a hk
    simp only [Option.isSome_some, Option.getD_some, hW, wrow_now, wrow_all, eqnil25, z_0, flat, Option.isNone, aFieldAddr, aField, aBuiltin, cond_true, cond_false, cond_dec, if_true, if_false, List.length_cons, List.length_nil, forall_const, implies_true, List.append_nil, List.cons_append, List.nil_append, eq_self, Nat.reduceEqDiff, Nat.reduceAdd, Nat.reduceMul, Nat.reduceSub, Nat.reduceLT, Nat.reduceLeDiff, Nat.reduceBEq, reduceIte, reduceCtorEq]
    refine CallT.mono (place_walk hW h.len h.nowlt ha) ?_
    rintro _ _ ⟨rfl, x, rfl⟩
    have hm : ms[plc now a]? = some (ms[plc now a]'(h.plc a)) := List.getElem?_eq_getElem _
    generalize ms[plc now a]'(h.plc a) = m at hm
    obtain ⟨l, ck, hl, hok, hg⟩ := h.slot _ _ hm
    have hmem := List.mem_of_getElem? hm
    obtain ⟨n1, n2, n3⟩ := h.ne_all hmem
    have hgk : uget l k = some a := by rw [hg]; simp [TM.at_, hk, Option.filter]
    have hl' : ASt.get { heap := A.heap, next := A.next + x } m = some (.map (uEnts l) ck) := hl
    have hdel := deleteT hl' k
    rw [hgk] at hdel
    simp only [Option.isSome_some, if_true] at hdel
    have hla' : (ASt.set { heap := A.heap, next := A.next + x } m (.map (uEnts (udel k l)) ck)).get all = some (.map (uEnts la) cka) := by
      rw [ASt.get_set, if_neg (Ne.symm n2)]; exact hla
    have hdel2 := deleteT hla' k
    rw [hga, hk] at hdel2
    simp only [Option.isSome_some, if_true] at hdel2
    have hW' : (ASt.set { heap := A.heap, next := A.next + x } m (.map (uEnts (udel k l)) ck)).get W = some (.row (wrow now all ms) 67 false) := by
      rw [ASt.get_set, if_neg (Ne.symm n1)]; exact hW
    simp only [hW, wrow_now, wrow_all, eqnil25, z_0, flat, Option.isNone, aFieldAddr, aField, aBuiltin, cond_true, cond_false, cond_dec, if_true, if_false, List.length_cons, List.length_nil, forall_const, implies_true, List.append_nil, List.cons_append, List.nil_append, eq_self, Nat.reduceEqDiff, Nat.reduceAdd, Nat.reduceMul, Nat.reduceSub, Nat.reduceLT, Nat.reduceLeDiff, Nat.reduceBEq, reduceIte, reduceCtorEq, hdel, hdel2, hW']
    refine h.del k hk hm hl hok hg hla hoka hga ?_ fun b => ?_
    · show A.next ≤ A.next + x
      omega
    · simp only [ASt.get_set]
      rfl
end Go.Proofs.YtgcffmhpjphefaaGreatDoor

/- The wheel's put, clock, len. -/
namespace Go.Proofs.YtgcffmhpjphefaaGreatDoor
open Go Go.AE

variable {Z : Go.AE.Road}
set_option maxRecDepth 10000

theorem WheelAt.add {A A' : ASt} {W all now : Nat} {ms : List Nat} {M : TM} (h : WheelAt A W all ms now M) (k : ByteArray) {a : Nat} (hk : M k = none) (ha : now < a) (halt : a < 18446744073709551616) {l la : List UE} {ck cka : Nat} {m : Nat} (hm : ms[_root_.Go.Proofs.YtgcffmhpjphefaaGreatDoor.plc now a]? = some m)
    (hok : MapOK l ck) (hg : ∀ j, uget l j = M.at_ now (_root_.Go.Proofs.YtgcffmhpjphefaaGreatDoor.plc now a) j) (hoka : MapOK la cka) (hga : ∀ j, uget la j = M j)
    (hn : A.next ≤ A'.next) (e : ∀ b, A'.get b = if b = m then some (.map (uEnts (uput k a ck l)) (uck l k ck)) else if b = all then some (.map (uEnts (uput k a cka la)) (uck la k cka)) else A.get b) : WheelAt A' W all ms now (M.put k a) ∧ Fr (W :: all :: ms) A A' := by
  have hmem := List.mem_of_getElem? hm
  obtain ⟨n1, n2, n3⟩ := h.ne_all hmem
  refine ⟨⟨?_, h.len, h.nowlt, h.nodup, fun b hb => Nat.lt_of_lt_of_le (h.below b hb) hn, ?_, ?_, ?_, ?_⟩, hn, fun b hb hno => ?_⟩
  · rw [e, if_neg (Ne.symm n1), if_neg (Ne.symm n3)]; exact h.row
  · refine ⟨_, _, by rw [e, if_neg (Ne.symm n2), if_pos rfl], uput_ok hoka, fun j => ?_⟩
    rw [uget_uput, hga]; rfl
  · intro i m' hm'
    have hmem' := List.mem_of_getElem? hm'
    obtain ⟨_, n2', _⟩ := h.ne_all hmem'
    by_cases e2 : m' = m
    · subst e2
      have : i = _ := h.inj hm' hm
      subst this
      refine ⟨_, _, by rw [e, if_pos rfl], uput_ok hok, fun j => ?_⟩
      rw [uget_uput, hg]
      unfold TM.at_ TM.put
      by_cases ej : j = k <;> simp [ej, Option.filter]
    · refine ((h.slot i m' hm').congr (by rw [e, if_neg e2, if_neg n2'])).ext fun j => ?_
      unfold TM.at_ TM.put
      by_cases ej : j = k
      · subst ej
        have hne : _root_.Go.Proofs.YtgcffmhpjphefaaGreatDoor.plc now a ≠ i := fun ee => e2 (by rw [ee, hm'] at hm; exact Option.some.inj hm)
        simp [Option.filter, hne, hk]
      · rw [if_neg ej]
  · intro j b hj
    unfold TM.put at hj
    split at hj
    · cases hj; exact halt
    · exact h.lt j b hj
  · intro j b hj
    unfold TM.put at hj
    split at hj
    · cases hj; exact ha
    · exact h.gt j b hj
  · rw [e, if_neg (fun ee => hno (by simp [ee, hmem])), if_neg (fun ee => hno (by simp [ee]))]

theorem put_spec {A : ASt} {W all now : Nat} {ms : List Nat} {M : TM} (h : WheelAt A W all ms now M) (k : ByteArray) {a : Nat} (halt : a < 18446744073709551616) :
    CallW Z Tryz.prog 32 [.pointer (some ⟨W, 0, none⟩), .string k, .int .u64 (a : Int)] A (fun v A' => v = .bool (decide (now < a)) ∧ WheelAt A' W all ms now (if now < a then M.put k a else M) ∧ Fr (W :: all :: ms) A A') := by
  refine CallW.of_code E0_ok E0_ro fn32 rfl (n := 31) rfl (rs := [.tmp 6]) rfl (by simp) (codeW_ok E0_ok E0_ro ?_)
  have hW := h.row
  simp only [hW, wrow_now, wrow_all, eqnil25, z_0, flat, Option.isNone, aFieldAddr, aField, aBuiltin, cond_true, cond_false, cond_dec, if_true, if_false, List.length_cons, List.length_nil, forall_const, implies_true, List.append_nil, List.cons_append, List.nil_append, eq_self, Nat.reduceEqDiff, Nat.reduceAdd, Nat.reduceMul, Nat.reduceSub, Nat.reduceLT, Nat.reduceLeDiff, Nat.reduceBEq, reduceIte, reduceCtorEq]
  refine brW_dec (fun hle => ?_) (fun hle => ?_)
  · have hn : ¬ now < a := by omega
    simp only [hW, wrow_now, wrow_all, eqnil25, z_0, flat, Option.isNone, aFieldAddr, aField, aBuiltin, cond_true, cond_false, cond_dec, if_true, if_false, List.length_cons, List.length_nil, forall_const, implies_true, List.append_nil, List.cons_append, List.nil_append, eq_self, Nat.reduceEqDiff, Nat.reduceAdd, Nat.reduceMul, Nat.reduceSub, Nat.reduceLT, Nat.reduceLeDiff, Nat.reduceBEq, reduceIte, reduceCtorEq, hn]
    exact ⟨h, .refl _ _⟩
  · have hn : now < a := by omega
    simp only [hW, wrow_now, wrow_all, eqnil25, z_0, flat, Option.isNone, aFieldAddr, aField, aBuiltin, cond_true, cond_false, cond_dec, if_true, if_false, List.length_cons, List.length_nil, forall_const, implies_true, List.append_nil, List.cons_append, List.nil_append, eq_self, Nat.reduceEqDiff, Nat.reduceAdd, Nat.reduceMul, Nat.reduceSub, Nat.reduceLT, Nat.reduceLeDiff, Nat.reduceBEq, reduceIte, reduceCtorEq, hn]
    refine CallT.mono (drop_spec h k) ?_
    rintro v B ⟨rfl, h1, f1⟩
    have hW1 := h1.row
    obtain ⟨la, cka, hla, hoka, hga⟩ := h1.allm
    have hu1 := updateT hla k a
    simp only [hW, wrow_now, wrow_all, eqnil25, z_0, flat, Option.isNone, aFieldAddr, aField, aBuiltin, cond_true, cond_false, cond_dec, if_true, if_false, List.length_cons, List.length_nil, forall_const, implies_true, List.append_nil, List.cons_append, List.nil_append, eq_self, Nat.reduceEqDiff, Nat.reduceAdd, Nat.reduceMul, Nat.reduceSub, Nat.reduceLT, Nat.reduceLeDiff, Nat.reduceBEq, reduceIte, reduceCtorEq, hW1, hu1]
    have hne := h1.nodup
    simp only [List.nodup_cons, List.mem_cons, not_or] at hne
    have hW2 : (B.set all (.map (uEnts (uput k a cka la)) (uck la k cka))).get W = some (.row (wrow now all ms) 67 false) := by
      rw [ASt.get_set, if_neg hne.1.1]; exact hW1
    refine CallT.mono (place_walk hW2 h1.len h1.nowlt halt) ?_
    rintro _ _ ⟨rfl, x, rfl⟩
    have hm : ms[plc now a]? = some (ms[plc now a]'(h.plc a)) := List.getElem?_eq_getElem _
    generalize ms[plc now a]'(h.plc a) = m at hm
    obtain ⟨l, ck, hl, hok, hg⟩ := h1.slot _ _ hm
    have hmem := List.mem_of_getElem? hm
    obtain ⟨n1, n2, n3⟩ := h1.ne_all hmem
    have hl' : ASt.get { heap := (B.set all (.map (uEnts (uput k a cka la)) (uck la k cka))).heap, next := B.next + x } m = some (.map (uEnts l) ck) := by
      rw [get_next, ASt.get_set, if_neg n2]; exact hl
    have hu2 := updateT hl' k a
    simp only [hW, wrow_now, wrow_all, eqnil25, z_0, flat, Option.isNone, aFieldAddr, aField, aBuiltin, cond_true, cond_false, cond_dec, if_true, if_false, List.length_cons, List.length_nil, forall_const, implies_true, List.append_nil, List.cons_append, List.nil_append, eq_self, Nat.reduceEqDiff, Nat.reduceAdd, Nat.reduceMul, Nat.reduceSub, Nat.reduceLT, Nat.reduceLeDiff, Nat.reduceBEq, reduceIte, reduceCtorEq, hu2]
    have hadd := h1.add k (a := a) (by unfold TM.del; simp) hn halt hm hok hg hoka hga (A' := (ASt.set { heap := (B.set all (.map (uEnts (uput k a cka la)) (uck la k cka))).heap, next := B.next + x } m (.map (uEnts (uput k a ck l)) (uck l k ck)))) (by show B.next ≤ B.next + x; omega) (fun b => by
      rw [ASt.get_set, get_next, ASt.get_set])
    refine ⟨by simp [hn], ?_, f1.trans hadd.2⟩
    rw [if_pos hn]
    have e : (M.del k).put k a = M.put k a := by
      funext j
      unfold TM.put TM.del
      by_cases ej : j = k <;> simp [ej]
    rw [← e]
    exact hadd.1

theorem clock_spec {A : ASt} {W now all : Nat} {ms : List Nat} (hW : A.get W = some (.row (wrow now all ms) 67 false)) :
    CallW Z Tryz.prog 38 [.pointer (some ⟨W, 0, none⟩)] A (fun v A' => v = .int .u64 (now : Int) ∧ A' = A) := by
  refine CallW.of_code E0_ok E0_ro fn38 rfl (n := 9) rfl (rs := [.tmp 2]) rfl (by simp) (codeW_ok E0_ok E0_ro ?_)
  simp only [hW, wrow_now, wrow_all, eqnil25, z_0, flat, Option.isNone, aFieldAddr, aField, aBuiltin, cond_true, cond_false, cond_dec, if_true, if_false, List.length_cons, List.length_nil, forall_const, implies_true, List.append_nil, List.cons_append, List.nil_append, eq_self, Nat.reduceEqDiff, Nat.reduceAdd, Nat.reduceMul, Nat.reduceSub, Nat.reduceLT, Nat.reduceLeDiff, Nat.reduceBEq, reduceIte, reduceCtorEq]

end Go.Proofs.YtgcffmhpjphefaaGreatDoor

/- The wheel: what Advance's closure does. -/
namespace Go.Proofs.YtgcffmhpjphefaaGreatDoor
open Go Go.AE

variable {Z : Go.AE.Road}
set_option maxRecDepth 10000

noncomputable def puts (D : TM) (done : List UE) (p : Nat → Bool) : TM := fun k => match uget done k with
  | some a => if p a then some a else D k
  | none => D k
noncomputable def TM.over (D S : TM) (p : Nat → Bool) : TM := fun k => match S k with
  | some a => if p a then some a else D k
  | none => D k

theorem puts_nil {D : TM} {p : Nat → Bool} : puts D [] p = D := rfl
theorem puts_snoc {D : TM} {done : List UE} {p : Nat → Bool} {x : UE} (h : uget done x.1 = none) : puts D (done ++ [x]) p = if p x.2.1 then (puts D done p).put x.1 x.2.1 else puts D done p := by
  funext k
  unfold puts TM.put
  rw [uget_snoc]
  by_cases e : k = x.1
  · subst e
    rw [h]
    by_cases hp : p x.2.1 <;> simp [hp, h]
  · by_cases hp : p x.2.1 <;> simp [hp, e]

theorem fresh_key {l done : List UE} {ck : Nat} (hok : MapOK l ck) (hsub : ∀ x ∈ done, x ∈ l) {x : UE} (hx : x ∈ l) (hn : x ∉ done) : uget done x.1 = none := by
  rw [uget_none]
  intro y hy e
  exact hn (keys_one (f := fun z : UE => z.1) hok.keys (hsub y hy) hx e ▸ hy)

theorem rangeT {A : ASt} {m ck : Nat} {es : List MapEntry} (hm : A.get m = some (.map es ck)) : aRange E0 97 (.map (some m)) A = .val (.pointer (some ⟨A.next, 0, none⟩)) (A.new (.miter (some m) ck [] ck)) := range_u ti97 t97_desc hm
theorem clearT {A : ASt} {m ck : Nat} {es : List MapEntry} (hm : A.get m = some (.map es ck)) : aClear2 E0 t97 (.map (some m)) A = .val undef (A.set m (.map [] ck)) := by
  simp only [aClear2, t97_desc, aClear, hm]

theorem empty_spec {A : ASt} {m p3 p5 p6 d lf nw : Nat} {S D L : TM} (h3 : A.get p3 = some (.row [.int .u64 (nw : Int)] 1 false)) (h5 : A.get p5 = some (.row [.map (some d)] 1 false)) (h6 : A.get p6 = some (.row [.map (some lf)] 1 false))
    (hm : Holds A m S) (hd : Holds A d D) (hl : Holds A lf L) (e1 : m ≠ d) (e2 : m ≠ lf) (e3 : d ≠ lf) (hb : ∀ b ∈ [m, d, lf, p3, p5, p6], b < A.next) :
    CallW Z Tryz.prog 62 [.map (some m), .pointer (some ⟨p3, 0, none⟩), .pointer (some ⟨p5, 0, none⟩), .pointer (some ⟨p6, 0, none⟩)] A (fun _ A' => Holds A' m (fun _ => none) ∧ Holds A' d (D.over S fun a => decide (a ≤ nw)) ∧ Holds A' lf (L.over S fun a => !decide (a ≤ nw)) ∧ Fr [m, d, lf] A A') := by
  refine CallW.of_code E0_ok E0_ro fn62 rfl (n := 24) rfl (rs := []) rfl (by simp) (codeW_ok E0_ok E0_ro ?_)
  obtain ⟨es, ck, hes, hok, hg⟩ := hm
  have hmb := hb m (by simp)
  have hdb := hb d (by simp)
  have hlb := hb lf (by simp)
  have h3b := hb p3 (by simp)
  have h5b := hb p5 (by simp)
  have h6b := hb p6 (by simp)
  have ne : ∀ {p : Nat} {c : List Value} {sz : Nat} {tl : Bool}, A.get p = some (.row c sz tl) → ∀ {q : Nat} {T : TM}, Holds A q T → p ≠ q := by
    rintro p c sz tl hp q T ⟨_, _, hq, _⟩ rfl
    rw [hp] at hq
    cases hq
  simp only [wrow_now, wrow_all, eqnil25, z_0, flat, Option.isNone, aFieldAddr, aField, aBuiltin, cond_true, cond_false, cond_dec, if_true, if_false, List.length_cons, List.length_nil, forall_const, implies_true, List.append_nil, List.cons_append, List.nil_append, eq_self, Nat.reduceEqDiff, Nat.reduceAdd, Nat.reduceMul, Nat.reduceSub, Nat.reduceLT, Nat.reduceLeDiff, Nat.reduceBEq, reduceIte, reduceCtorEq, rangeT hes]
  refine CodeW.mono (Q := fun o => ∃ T' A' done, o = .fr ⟨.exit 0, T', A'⟩ ∧ InMap 8 A.next m ck es done T' A' ∧ (∀ x ∈ es, x ∈ done) ∧ tget T' 0 = .map (some m) ∧ Holds A' d (puts D done fun a => decide (a ≤ nw)) ∧ Holds A' lf (puts L done fun a => !decide (a ≤ nw)) ∧ Fr [m, d, lf] A A') ?_ ?_
  · refine CodeW.mapLoop (it := 8) (r := A.next) (m := m) (ck := ck) (l := es) (J := fun done T A' => tget T 0 = .map (some m) ∧ tget T 1 = .pointer (some ⟨p3, 0, none⟩) ∧ tget T 2 = .pointer (some ⟨p5, 0, none⟩) ∧ tget T 3 = .pointer (some ⟨p6, 0, none⟩) ∧ Holds A' d (puts D done fun a => decide (a ≤ nw)) ∧ Holds A' lf (puts L done fun a => !decide (a ≤ nw)) ∧ Fr [m, d, lf] A A') ?_ ?_ ?_
    · rintro done T A1 hi ⟨t0, t1, t2, t3, hd1, hl1, f1⟩
      refine codeW_ok E0_ok E0_ro ?_
      have g3 : A1.get p3 = _ := (f1.get p3 h3b (by simp [ne h3 ⟨es, ck, hes, hok, hg⟩, ne h3 hd, ne h3 hl])).trans h3
      have g5 : A1.get p5 = _ := (f1.get p5 h5b (by simp [ne h5 ⟨es, ck, hes, hok, hg⟩, ne h5 hd, ne h5 hl])).trans h5
      have g6 : A1.get p6 = _ := (f1.get p6 h6b (by simp [ne h6 ⟨es, ck, hes, hok, hg⟩, ne h6 hd, ne h6 hl])).trans h6
      have hit := hi.it
      simp only [wrow_now, wrow_all, eqnil25, z_0, flat, Option.isNone, aFieldAddr, aField, aBuiltin, cond_true, cond_false, cond_dec, if_true, if_false, List.length_cons, List.length_nil, forall_const, implies_true, List.append_nil, List.cons_append, List.nil_append, eq_self, Nat.reduceEqDiff, Nat.reduceAdd, Nat.reduceMul, Nat.reduceSub, Nat.reduceLT, Nat.reduceLeDiff, Nat.reduceBEq, reduceIte, reduceCtorEq, hit]
      refine nextV_u hok hi.sub hi.iter hi.map (fun x hx hn => ?_) (fun hall => ?_)
      · have hkey := fresh_key hok hi.sub hx hn
        obtain ⟨ld, ckd, hld, hokd, hgd⟩ := hd1
        obtain ⟨ll, ckl, hll, hokl, hgl⟩ := hl1
        have hent := entry_u (A := A1.set A.next (.miter (some m) ck ((done ++ [x]).map (·.2.2)) ck)) (r := A.next) (m := m) hok hx (by rw [ASt.get_set, if_pos rfl]) (by rw [ASt.get_set, if_neg (by omega)]; exact hi.map)
        have g3' : (A1.set A.next (.miter (some m) ck ((done ++ [x]).map (·.2.2)) ck)).get p3 = some (.row [.int .u64 (nw : Int)] 1 false) := by rw [ASt.get_set, if_neg (by omega)]; exact g3
        have g5' : (A1.set A.next (.miter (some m) ck ((done ++ [x]).map (·.2.2)) ck)).get p5 = some (.row [.map (some d)] 1 false) := by rw [ASt.get_set, if_neg (by omega)]; exact g5
        have g6' : (A1.set A.next (.miter (some m) ck ((done ++ [x]).map (·.2.2)) ck)).get p6 = some (.row [.map (some lf)] 1 false) := by rw [ASt.get_set, if_neg (by omega)]; exact g6
        have gd' : (A1.set A.next (.miter (some m) ck ((done ++ [x]).map (·.2.2)) ck)).get d = some (.map (uEnts ld) ckd) := by rw [ASt.get_set, if_neg (by omega)]; exact hld
        have gl' : (A1.set A.next (.miter (some m) ck ((done ++ [x]).map (·.2.2)) ck)).get lf = some (.map (uEnts ll) ckl) := by rw [ASt.get_set, if_neg (by omega)]; exact hll
        have gr' : (A1.set A.next (.miter (some m) ck ((done ++ [x]).map (·.2.2)) ck)).get A.next = some (.miter (some m) ck ((done ++ [x]).map (·.2.2)) ck) := by rw [ASt.get_set, if_pos rfl]
        have gm' : (A1.set A.next (.miter (some m) ck ((done ++ [x]).map (·.2.2)) ck)).get m = A1.get m := by rw [ASt.get_set, if_neg (by omega)]
        have fb : Fr [m, d, lf] A (A1.set A.next (.miter (some m) ck ((done ++ [x]).map (·.2.2)) ck)) := ⟨f1.next, fun b hb hn => by rw [ASt.get_set, if_neg (by omega)]; exact f1.get b hb hn⟩
        have nx1 := f1.next
        generalize A1.set A.next (.miter (some m) ck ((done ++ [x]).map (·.2.2)) ck) = B at *
        have hud := updateT gd' x.1 x.2.1
        have hul := updateT gl' x.1 x.2.1
        simp only [wrow_now, wrow_all, eqnil25, z_0, flat, Option.isNone, aFieldAddr, aField, aBuiltin, cond_true, cond_false, cond_dec, if_true, if_false, List.length_cons, List.length_nil, forall_const, implies_true, List.append_nil, List.cons_append, List.nil_append, eq_self, Nat.reduceEqDiff, Nat.reduceAdd, Nat.reduceMul, Nat.reduceSub, Nat.reduceLT, Nat.reduceLeDiff, Nat.reduceBEq, reduceIte, reduceCtorEq, hit, hent, t1, t2, t3, g3']
        refine brW_dec (fun hle => ?_) (fun hle => ?_)
        · have hle' : x.2.1 ≤ nw := by omega
          simp only [wrow_now, wrow_all, eqnil25, z_0, flat, Option.isNone, aFieldAddr, aField, aBuiltin, cond_true, cond_false, cond_dec, if_true, if_false, List.length_cons, List.length_nil, forall_const, implies_true, List.append_nil, List.cons_append, List.nil_append, eq_self, Nat.reduceEqDiff, Nat.reduceAdd, Nat.reduceMul, Nat.reduceSub, Nat.reduceLT, Nat.reduceLeDiff, Nat.reduceBEq, reduceIte, reduceCtorEq, t1, t2, t3, g5', hud]
          refine ⟨x, hx, hn, hi.step hx hn (by simp only [tget_put, Nat.reduceEqDiff, if_false, reduceIte]) (by rw [ASt.get_set, if_neg (by omega)]; exact gr') (by rw [ASt.get_set, if_neg e1]; exact gm'), ?_, ?_, ?_, ?_⟩
          · exact t0
          · refine ⟨_, _, by rw [ASt.get_set, if_pos rfl], uput_ok hokd, fun k => ?_⟩
            rw [uget_uput, hgd, puts_snoc hkey]
            simp only [hle', decide_true, if_true]
            rfl
          · refine ⟨ll, ckl, by rw [ASt.get_set, if_neg (Ne.symm e3)]; exact gl', hokl, fun k => ?_⟩
            rw [hgl, puts_snoc hkey]
            simp only [hle', decide_true, Bool.not_true, Bool.false_eq_true, if_false]
          · exact ⟨fb.next, fun b hb hn => by rw [ASt.get_set, if_neg (by rintro rfl; simp at hn)]; exact fb.get b hb hn⟩
        · have hle' : ¬ x.2.1 ≤ nw := by omega
          simp only [wrow_now, wrow_all, eqnil25, z_0, flat, Option.isNone, aFieldAddr, aField, aBuiltin, cond_true, cond_false, cond_dec, if_true, if_false, List.length_cons, List.length_nil, forall_const, implies_true, List.append_nil, List.cons_append, List.nil_append, eq_self, Nat.reduceEqDiff, Nat.reduceAdd, Nat.reduceMul, Nat.reduceSub, Nat.reduceLT, Nat.reduceLeDiff, Nat.reduceBEq, reduceIte, reduceCtorEq, t1, t2, t3, g6', hul]
          refine ⟨x, hx, hn, hi.step hx hn (by simp only [tget_put, Nat.reduceEqDiff, if_false, reduceIte]) (by rw [ASt.get_set, if_neg (by omega)]; exact gr') (by rw [ASt.get_set, if_neg e2]; exact gm'), ?_, ?_, ?_, ?_⟩
          · exact t0
          · refine ⟨ld, ckd, by rw [ASt.get_set, if_neg e3]; exact gd', hokd, fun k => ?_⟩
            rw [hgd, puts_snoc hkey]
            simp only [hle', decide_false, Bool.false_eq_true, if_false]
          · refine ⟨_, _, by rw [ASt.get_set, if_pos rfl], uput_ok hokl, fun k => ?_⟩
            rw [uget_uput, hgl, puts_snoc hkey]
            simp only [hle', decide_false, Bool.not_false, if_true]
            rfl
          · exact ⟨fb.next, fun b hb hn => by rw [ASt.get_set, if_neg (by rintro rfl; simp at hn)]; exact fb.get b hb hn⟩
      · simp only [wrow_now, wrow_all, eqnil25, z_0, flat, Option.isNone, aFieldAddr, aField, aBuiltin, cond_true, cond_false, cond_dec, if_true, if_false, List.length_cons, List.length_nil, forall_const, implies_true, List.append_nil, List.cons_append, List.nil_append, eq_self, Nat.reduceEqDiff, Nat.reduceAdd, Nat.reduceMul, Nat.reduceSub, Nat.reduceLT, Nat.reduceLeDiff, Nat.reduceBEq, reduceIte, reduceCtorEq]
        refine ⟨_, _, done, rfl, ⟨?_, hi.iter, hi.map, hi.sub, hi.nodup⟩, hall, ?_, hd1, hl1, f1⟩
        · simp only [tget_put, Nat.reduceEqDiff, if_false, reduceIte]; exact hit
        · simp only [tget_put, Nat.reduceEqDiff, if_false, reduceIte]; exact t0
    · refine ⟨rfl, by rw [ASt.get_new, if_pos rfl]; rfl, by rw [ASt.get_new, if_neg (by omega)]; exact hes, by simp, .nil⟩
    · refine ⟨rfl, rfl, rfl, rfl, hd.congr (by rw [ASt.get_new, if_neg (by omega)]), hl.congr (by rw [ASt.get_new, if_neg (by omega)]), Nat.le_succ _, fun b hb hn => by rw [ASt.get_new, if_neg (by omega)]⟩
  · rintro o ⟨T', A', done, rfl, hi, hall, t0, hd1, hl1, f1⟩
    have hck := hi.map
    simp only [wrow_now, wrow_all, eqnil25, z_0, flat, Option.isNone, aFieldAddr, aField, aBuiltin, cond_true, cond_false, cond_dec, if_true, if_false, List.length_cons, List.length_nil, forall_const, implies_true, List.append_nil, List.cons_append, List.nil_append, eq_self, Nat.reduceEqDiff, Nat.reduceAdd, Nat.reduceMul, Nat.reduceSub, Nat.reduceLT, Nat.reduceLeDiff, Nat.reduceBEq, reduceIte, reduceCtorEq, t0, clearT hck]
    obtain ⟨hk, hu⟩ := uget_all hok hi.sub hall hi.nodup
    have hov : ∀ (X : TM) (p : Nat → Bool), puts X done p = X.over S p := by
      intro X p
      funext k
      unfold puts TM.over
      rw [hu, hg]
    rw [hov] at hd1 hl1
    refine ⟨⟨[], ck, by rw [ASt.get_set, if_pos rfl]; rfl, ⟨.nil, .nil, by simp⟩, fun k => rfl⟩, hd1.congr (by rw [ASt.get_set, if_neg (Ne.symm e1)]), hl1.congr (by rw [ASt.get_set, if_neg (Ne.symm e2)]), f1.next, fun b hb hn => by rw [ASt.get_set, if_neg (by rintro rfl; simp at hn)]; exact f1.get b hb hn⟩
end Go.Proofs.YtgcffmhpjphefaaGreatDoor

/- The wheel: where a timer stands when the clock moves. Plain. -/
namespace Go.Proofs.YtgcffmhpjphefaaGreatDoor
open Go Go.AE

theorem bl_bounds {x : Nat} (h : x < 18446744073709551616) (h0 : x ≠ 0) : 1 ≤ Lib.bitLen x ∧ 2 ^ (Lib.bitLen x - 1) ≤ x ∧ x < 2 ^ Lib.bitLen x := Lib.bitLenAux_bounds 64 x (by omega) h0
theorem bl_lt {x : Nat} (h : x < 18446744073709551616) : x < 2 ^ Lib.bitLen x := by
  by_cases h0 : x = 0
  · subst h0; exact Nat.two_pow_pos _
  · exact (bl_bounds h h0).2.2
theorem bl_eq {x k : Nat} (h : x < 18446744073709551616) (h1 : 2 ^ k ≤ x) (h2 : x < 2 ^ (k + 1)) : Lib.bitLen x = k + 1 := by
  have h0 : x ≠ 0 := by have := Nat.two_pow_pos k; omega
  obtain ⟨b1, b2, b3⟩ := bl_bounds h h0
  have a1 : Lib.bitLen x - 1 < k + 1 := (Nat.pow_lt_pow_iff_right (a := 2) (by omega)).1 (by omega)
  have a2 : k < Lib.bitLen x := (Nat.pow_lt_pow_iff_right (a := 2) (by omega)).1 (by omega)
  omega
theorem bit_top {x t : Nat} (h1 : 2 ^ t ≤ x) (h2 : x < 2 ^ (t + 1)) : x.testBit t = true := by
  cases hb : x.testBit t with
  | true => rfl
  | false =>
    exfalso
    have : x < 2 ^ t := by
      refine Nat.lt_pow_two_of_testBit x fun j hj => ?_
      rcases Nat.eq_or_lt_of_le hj with rfl | hlt
      · exact hb
      · exact Nat.testBit_lt_two_pow (Nat.lt_of_lt_of_le h2 (Nat.pow_le_pow_right (by omega) hlt))
    omega

theorem lt_bit {x y : Nat} (t : Nat) (hx : x.testBit t = false) (hy : y.testBit t = true) (h : ∀ j, t < j → x.testBit j = y.testBit j) : x < y := by
  have e : x / 2 ^ (t + 1) = y / 2 ^ (t + 1) := by
    apply Nat.eq_of_testBit_eq
    intro i
    rw [Nat.testBit_div_two_pow, Nat.testBit_div_two_pow]
    exact h _ (by omega)
  have h1 : x / 2 ^ t = 2 * (x / 2 ^ (t + 1)) := by
    have a : x / 2 ^ t % 2 = 0 := by
      have := hx
      rw [Nat.testBit_eq_decide_div_mod_eq] at this
      have := of_decide_eq_false this
      omega
    have b : x / 2 ^ (t + 1) = x / 2 ^ t / 2 := by rw [Nat.pow_succ, Nat.div_div_eq_div_mul]
    omega
  have h2 : y / 2 ^ t = 2 * (y / 2 ^ (t + 1)) + 1 := by
    have a : y / 2 ^ t % 2 = 1 := by
      have := hy
      rw [Nat.testBit_eq_decide_div_mod_eq] at this
      exact of_decide_eq_true this
    have b : y / 2 ^ (t + 1) = y / 2 ^ t / 2 := by rw [Nat.pow_succ, Nat.div_div_eq_div_mul]
    omega
  have h3 : x / 2 ^ t < y / 2 ^ t := by omega
  exact (Nat.lt_of_not_le fun hle => by have := Nat.div_le_div_right (c := 2 ^ t) hle; omega)

theorem plc_far {now nw a : Nat} (hnow : now < 18446744073709551616) (hnw : nw < 18446744073709551616) (ha : a < 18446744073709551616) (hlt : now < a) (hD : ¬ plc now a < 16 * ((Lib.bitLen (nw ^^^ now) + 3) / 4)) : nw < a ∧ plc nw a = plc now a := by
  have hx : a ^^^ now < 18446744073709551616 := Nat.xor_lt_two_pow (n := 64) (by omega) (by omega)
  have hy : nw ^^^ now < 18446744073709551616 := Nat.xor_lt_two_pow (n := 64) (by omega) (by omega)
  have hx0 : a ^^^ now ≠ 0 := fun e => by
    have : a = now := by
      apply Nat.eq_of_testBit_eq
      intro i
      have := congrArg (fun z => z.testBit i) e
      simp only [Nat.testBit_xor, Nat.zero_testBit] at this
      simpa using this
    omega
  have hlv : (Lib.bitLen (nw ^^^ now) + 3) / 4 ≤ lvl now a := by
    unfold plc at hD
    split at hD
    · rename_i h4; omega
    · rename_i h4
      have : a / 2 ^ (4 * lvl now a) % 16 < 16 := Nat.mod_lt _ (by omega)
      omega
  obtain ⟨b1, b2, b3⟩ := bl_bounds hx hx0
  have by_ := bl_lt hy
  have hst : Lib.bitLen (nw ^^^ now) ≤ Lib.bitLen (a ^^^ now) - 1 := by unfold lvl at hlv; omega
  have hylt : nw ^^^ now < 2 ^ (Lib.bitLen (a ^^^ now) - 1) := Nat.lt_of_lt_of_le by_ (Nat.pow_le_pow_right (by omega) hst)
  obtain ⟨t, ht⟩ : ∃ t, Lib.bitLen (a ^^^ now) = t + 1 := ⟨_, (Nat.sub_add_cancel b1).symm⟩
  rw [ht, Nat.add_sub_cancel] at b2 hylt
  rw [ht] at b3
  have e : a ^^^ nw = (a ^^^ now) ^^^ (nw ^^^ now) := by
    apply Nat.eq_of_testBit_eq
    intro i
    simp only [Nat.testBit_xor]
    cases a.testBit i <;> cases nw.testBit i <;> cases now.testBit i <;> rfl
  have xt := bit_top b2 b3
  have ytz : ∀ j, t ≤ j → (nw ^^^ now).testBit j = false := fun j hj => Nat.testBit_lt_two_pow (Nat.lt_of_lt_of_le hylt (Nat.pow_le_pow_right (by omega) hj))
  have xz : ∀ j, t < j → (a ^^^ now).testBit j = false := fun j hj => Nat.testBit_lt_two_pow (Nat.lt_of_lt_of_le b3 (Nat.pow_le_pow_right (by omega) hj))
  have hbl : Lib.bitLen (a ^^^ nw) = t + 1 := by
    refine bl_eq ?_ ?_ ?_
    · exact Nat.xor_lt_two_pow (n := 64) (by omega) (by omega)
    · refine Nat.ge_two_pow_of_testBit ?_
      rw [e, Nat.testBit_xor, xt, ytz t (Nat.le_refl _)]; rfl
    · rw [e]
      exact Nat.xor_lt_two_pow b3 (Nat.lt_of_lt_of_le hylt (Nat.pow_le_pow_right (by omega) (by omega)))
  have hl : lvl nw a = lvl now a := by unfold lvl; rw [hbl, ht]
  have up : ∀ j, t < j → a.testBit j = now.testBit j := fun j hj => by
    have := xz j hj
    rw [Nat.testBit_xor] at this
    simpa using this
  have upn : ∀ j, t ≤ j → nw.testBit j = now.testBit j := fun j hj => by
    have := ytz j hj
    rw [Nat.testBit_xor] at this
    simpa using this
  rw [Nat.testBit_xor] at xt
  have hat : a.testBit t = true := by
    cases hb : a.testBit t with
    | true => rfl
    | false =>
      rw [hb, Bool.false_xor] at xt
      have := lt_bit t hb xt up
      omega
  rw [hat, Bool.true_xor, Bool.not_eq_true'] at xt
  refine ⟨lt_bit t (by rw [upn t (Nat.le_refl _)]; exact xt) hat fun j hj => by rw [upn j (by omega), up j hj], ?_⟩
  unfold plc
  rw [hl]
end Go.Proofs.YtgcffmhpjphefaaGreatDoor
