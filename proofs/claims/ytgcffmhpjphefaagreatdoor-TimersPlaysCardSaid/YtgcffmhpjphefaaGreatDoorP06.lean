/- What the evaluator reads of the program. -/
import Derived.Test.YtgcffmhpjphefaaGreatDoorP05
import Derived.Test.YtgcffmhpjphefaaGreatDoorProg
import Derived.ProofKit
import Derived.Laws.Externs
import Derived.Test.YtgcffmhpjphefaaGreatDoorRows
import Derived.Lib.SmallJoins
import Derived.Deep.Slices
import Derived.Test.YtgcffmhpjphefaaGreatDoorQ1
import Derived.Lib.ItoaNum
set_option linter.unusedSimpArgs false
set_option linter.unusedVariables false
set_option linter.unusedSectionVars false
namespace Go.Proofs.YtgcffmhpjphefaaGreatDoor
open Go Go.AE
set_option linter.defProp false

def tab0:ExtTab:=[(91,add64Entry)]
theorem tab0_ok:ExtOK Tryz.prog tab0:=extOK_cons Tryz.f91 Tryz.func91 (by kernel_rfl) (by kernel_rfl) (by kernel_rfl) (by kernel_rfl) ((extOK_nil _))
noncomputable def E0:Env:=envOf Tryz.prog tab0 noHook
theorem E0_ok:EnvOK E0 Tryz.prog:=envOf_ok tab0_ok
theorem E0_ro{Z:Go.AE.Road}:RoadRo Z E0:=fun _ _ _ _ _ _ h=>by cases h
theorem E0_ron{b:Nat}:E0.ro b=none:=rfl
theorem mixed:Tryz.prog.follows .mixedOrders=true:=by kernel_rfl

noncomputable def t3:TIn:=match tiOf Tryz.prog 3 with
 | some i=>i
 | none=>⟨.bool,0,0,none,#[],none⟩
theorem ti3:E0.ti 3=some t3:=by kernel_rfl
theorem t3_desc:t3.desc=TypeDesc.int IntKind.i64:=by kernel_rfl
theorem t3_size:t3.size=1:=by kernel_rfl
theorem t3_zero:t3.zero=some (.int .i64 0):=by kernel_rfl
noncomputable def t4:TIn:=match tiOf Tryz.prog 4 with
 | some i=>i
 | none=>⟨.bool,0,0,none,#[],none⟩
theorem ti4:E0.ti 4=some t4:=by kernel_rfl
theorem t4_desc:t4.desc=TypeDesc.bool:=by kernel_rfl
theorem t4_size:t4.size=1:=by kernel_rfl
theorem t4_zero:t4.zero=some (.bool false):=by kernel_rfl
noncomputable def t9:TIn:=match tiOf Tryz.prog 9 with
 | some i=>i
 | none=>⟨.bool,0,0,none,#[],none⟩
theorem ti9:E0.ti 9=some t9:=by kernel_rfl
theorem t9_desc:t9.desc=TypeDesc.string:=by kernel_rfl
theorem t9_size:t9.size=1:=by kernel_rfl
theorem t9_zero:t9.zero=some (.string ByteArray.empty):=by kernel_rfl
theorem t9_bytes:t9.bytes=16:=by kernel_rfl
noncomputable def t22:TIn:=match tiOf Tryz.prog 22 with
 | some i=>i
 | none=>⟨.bool,0,0,none,#[],none⟩
theorem ti22:E0.ti 22=some t22:=by kernel_rfl
theorem t22_desc:t22.desc=TypeDesc.int IntKind.u64:=by kernel_rfl
theorem t22_size:t22.size=1:=by kernel_rfl
theorem t22_zero:t22.zero=some (.int .u64 0):=by kernel_rfl
theorem t22_bytes:t22.bytes=8:=by kernel_rfl
noncomputable def t2:TIn:=match tiOf Tryz.prog 2 with
 | some i=>i
 | none=>⟨.bool,0,0,none,#[],none⟩
theorem ti2:E0.ti 2=some t2:=by kernel_rfl
theorem t2_desc:t2.desc=TypeDesc.int IntKind.i64:=by kernel_rfl
theorem t2_size:t2.size=1:=by kernel_rfl
theorem t2_zero:t2.zero=some (.int .i64 0):=by kernel_rfl
noncomputable def t28:TIn:=match tiOf Tryz.prog 28 with
 | some i=>i
 | none=>⟨.bool,0,0,none,#[],none⟩
theorem ti28:E0.ti 28=some t28:=by kernel_rfl
theorem t28_desc:t28.desc=TypeDesc.slice 56:=by kernel_rfl
theorem t28_size:t28.size=1:=by kernel_rfl
theorem t28_zero:t28.zero=some (.slice none 0 0):=by kernel_rfl
noncomputable def t56:TIn:=match tiOf Tryz.prog 56 with
 | some i=>i
 | none=>⟨.bool,0,0,none,#[],none⟩
theorem ti56:E0.ti 56=some t56:=by kernel_rfl
theorem t56_desc:t56.desc=TypeDesc.struct #[{ name := "Kind", type:=54,offset:=0,embedded:=false,tag := "", pkgPath := "", byteOffset:=0 },{ name := "Key", type:=9,offset:=1,embedded:=false,tag := "", pkgPath := "", byteOffset:=8 },{ name := "Value", type:=9,offset:=2,embedded:=false,tag := "", pkgPath := "", byteOffset:=24 },{ name := "N", type:=2,offset:=3,embedded:=false,tag := "", pkgPath := "", byteOffset:=40 }]:=by kernel_rfl
theorem t56_size:t56.size=4:=by kernel_rfl
theorem t56_zero:t56.zero=some (.agg #[.int .i64 0,.string ByteArray.empty,.string ByteArray.empty,.int .i64 0]):=by kernel_rfl
theorem t56_bytes:t56.bytes=48:=by kernel_rfl
noncomputable def t54:TIn:=match tiOf Tryz.prog 54 with
 | some i=>i
 | none=>⟨.bool,0,0,none,#[],none⟩
theorem ti54:E0.ti 54=some t54:=by kernel_rfl
theorem t54_desc:t54.desc=TypeDesc.int IntKind.i64:=by kernel_rfl
theorem t54_size:t54.size=1:=by kernel_rfl
theorem t54_zero:t54.zero=some (.int .i64 0):=by kernel_rfl
noncomputable def t30:TIn:=match tiOf Tryz.prog 30 with
 | some i=>i
 | none=>⟨.bool,0,0,none,#[],none⟩
theorem ti30:E0.ti 30=some t30:=by kernel_rfl
theorem t30_desc:t30.desc=TypeDesc.struct #[{ name := "Name", type:=9,offset:=0,embedded:=false,tag := "", pkgPath := "", byteOffset:=0 },{ name := "Version", type:=3,offset:=1,embedded:=false,tag := "", pkgPath := "", byteOffset:=16 },{ name := "At", type:=22,offset:=2,embedded:=false,tag := "", pkgPath := "", byteOffset:=24 },{ name := "Every", type:=22,offset:=3,embedded:=false,tag := "", pkgPath := "", byteOffset:=32 },{ name := "Do", type:=28,offset:=4,embedded:=false,tag := "", pkgPath := "", byteOffset:=40 }]:=by kernel_rfl
theorem t30_size:t30.size=5:=by kernel_rfl
theorem t30_zero:t30.zero=some (.agg #[.string ByteArray.empty,.int .i64 0,.int .u64 0,.int .u64 0,.slice none 0 0]):=by kernel_rfl
theorem t30_bytes:t30.bytes=64:=by kernel_rfl
noncomputable def t24:TIn:=match tiOf Tryz.prog 24 with
 | some i=>i
 | none=>⟨.bool,0,0,none,#[],none⟩
theorem ti24:E0.ti 24=some t24:=by kernel_rfl
theorem t24_desc:t24.desc=TypeDesc.array 2 22:=by kernel_rfl
theorem t24_size:t24.size=2:=by kernel_rfl
theorem t24_zero:t24.zero=some (.agg #[.int .u64 0,.int .u64 0]):=by kernel_rfl
noncomputable def t31:TIn:=match tiOf Tryz.prog 31 with
 | some i=>i
 | none=>⟨.bool,0,0,none,#[],none⟩
theorem ti31:E0.ti 31=some t31:=by kernel_rfl
theorem t31_desc:t31.desc=TypeDesc.int IntKind.i64:=by kernel_rfl
theorem t31_size:t31.size=1:=by kernel_rfl
theorem t31_zero:t31.zero=some (.int .i64 0):=by kernel_rfl
noncomputable def t65:TIn:=match tiOf Tryz.prog 65 with
 | some i=>i
 | none=>⟨.bool,0,0,none,#[],none⟩
theorem ti65:E0.ti 65=some t65:=by kernel_rfl
theorem t65_desc:t65.desc=TypeDesc.pointer 101:=by kernel_rfl
theorem t65_size:t65.size=1:=by kernel_rfl
theorem t65_zero:t65.zero=some (.pointer none):=by kernel_rfl
noncomputable def t101:TIn:=match tiOf Tryz.prog 101 with
 | some i=>i
 | none=>⟨.bool,0,0,none,#[],none⟩
theorem ti101:E0.ti 101=some t101:=by kernel_rfl
theorem t101_desc:t101.desc=TypeDesc.struct #[{ name := "now", type:=22,offset:=0,embedded:=false,tag := "", pkgPath := "belfry/wheel", byteOffset:=0 },{ name := "all", type:=97,offset:=1,embedded:=false,tag := "", pkgPath := "belfry/wheel", byteOffset:=8 },{ name := "slots", type:=99,offset:=2,embedded:=false,tag := "", pkgPath := "belfry/wheel", byteOffset:=16 },{ name := "far", type:=97,offset:=66,embedded:=false,tag := "", pkgPath := "belfry/wheel", byteOffset:=528 }]:=by kernel_rfl
theorem t101_size:t101.size=67:=by kernel_rfl
theorem t101_zero:t101.zero=some (.agg #[.int .u64 0,.map none,.map none,.map none,.map none,.map none,.map none,.map none,.map none,.map none,.map none,.map none,.map none,.map none,.map none,.map none,.map none,.map none,.map none,.map none,.map none,.map none,.map none,.map none,.map none,.map none,.map none,.map none,.map none,.map none,.map none,.map none,.map none,.map none,.map none,.map none,.map none,.map none,.map none,.map none,.map none,.map none,.map none,.map none,.map none,.map none,.map none,.map none,.map none,.map none,.map none,.map none,.map none,.map none,.map none,.map none,.map none,.map none,.map none,.map none,.map none,.map none,.map none,.map none,.map none,.map none,.map none]):=by kernel_rfl
noncomputable def t97:TIn:=match tiOf Tryz.prog 97 with
 | some i=>i
 | none=>⟨.bool,0,0,none,#[],none⟩
theorem ti97:E0.ti 97=some t97:=by kernel_rfl
theorem t97_desc:t97.desc=TypeDesc.map 9 22:=by kernel_rfl
theorem t97_size:t97.size=1:=by kernel_rfl
theorem t97_zero:t97.zero=some (.map none):=by kernel_rfl
noncomputable def t98:TIn:=match tiOf Tryz.prog 98 with
 | some i=>i
 | none=>⟨.bool,0,0,none,#[],none⟩
theorem ti98:E0.ti 98=some t98:=by kernel_rfl
theorem t98_desc:t98.desc=TypeDesc.array 16 97:=by kernel_rfl
theorem t98_size:t98.size=16:=by kernel_rfl
theorem t98_zero:t98.zero=some (.agg #[.map none,.map none,.map none,.map none,.map none,.map none,.map none,.map none,.map none,.map none,.map none,.map none,.map none,.map none,.map none,.map none]):=by kernel_rfl
noncomputable def t99:TIn:=match tiOf Tryz.prog 99 with
 | some i=>i
 | none=>⟨.bool,0,0,none,#[],none⟩
theorem ti99:E0.ti 99=some t99:=by kernel_rfl
theorem t99_desc:t99.desc=TypeDesc.array 4 98:=by kernel_rfl
theorem t99_size:t99.size=64:=by kernel_rfl
theorem t99_zero:t99.zero=some (.agg #[.map none,.map none,.map none,.map none,.map none,.map none,.map none,.map none,.map none,.map none,.map none,.map none,.map none,.map none,.map none,.map none,.map none,.map none,.map none,.map none,.map none,.map none,.map none,.map none,.map none,.map none,.map none,.map none,.map none,.map none,.map none,.map none,.map none,.map none,.map none,.map none,.map none,.map none,.map none,.map none,.map none,.map none,.map none,.map none,.map none,.map none,.map none,.map none,.map none,.map none,.map none,.map none,.map none,.map none,.map none,.map none,.map none,.map none,.map none,.map none,.map none,.map none,.map none,.map none]):=by kernel_rfl
noncomputable def t77:TIn:=match tiOf Tryz.prog 77 with
 | some i=>i
 | none=>⟨.bool,0,0,none,#[],none⟩
theorem ti77:E0.ti 77=some t77:=by kernel_rfl
theorem t77_desc:t77.desc=TypeDesc.struct #[{ name := "Name", type:=9,offset:=0,embedded:=false,tag := "", pkgPath := "", byteOffset:=0 },{ name := "At", type:=22,offset:=1,embedded:=false,tag := "", pkgPath := "", byteOffset:=16 }]:=by kernel_rfl
theorem t77_size:t77.size=2:=by kernel_rfl
theorem t77_zero:t77.zero=some (.agg #[.string ByteArray.empty,.int .u64 0]):=by kernel_rfl
theorem t77_bytes:t77.bytes=24:=by kernel_rfl
noncomputable def t75:TIn:=match tiOf Tryz.prog 75 with
 | some i=>i
 | none=>⟨.bool,0,0,none,#[],none⟩
theorem ti75:E0.ti 75=some t75:=by kernel_rfl
theorem t75_desc:t75.desc=TypeDesc.slice 77:=by kernel_rfl
theorem t75_size:t75.size=1:=by kernel_rfl
theorem t75_zero:t75.zero=some (.slice none 0 0):=by kernel_rfl
noncomputable def t178:TIn:=match tiOf Tryz.prog 178 with
 | some i=>i
 | none=>⟨.bool,0,0,none,#[],none⟩
theorem ti178:E0.ti 178=some t178:=by kernel_rfl
theorem t178_desc:t178.desc=TypeDesc.slice 3:=by kernel_rfl
theorem t178_size:t178.size=1:=by kernel_rfl
theorem t178_zero:t178.zero=some (.slice none 0 0):=by kernel_rfl
noncomputable def t5:TIn:=match tiOf Tryz.prog 5 with
 | some i=>i
 | none=>⟨.bool,0,0,none,#[],none⟩
theorem ti5:E0.ti 5=some t5:=by kernel_rfl
theorem t5_desc:t5.desc=TypeDesc.int IntKind.u8:=by kernel_rfl
theorem t5_size:t5.size=1:=by kernel_rfl
theorem t5_zero:t5.zero=some (.int .u8 0):=by kernel_rfl
theorem t5_bytes:t5.bytes=1:=by kernel_rfl
noncomputable def t85:TIn:=match tiOf Tryz.prog 85 with
 | some i=>i
 | none=>⟨.bool,0,0,none,#[],none⟩
theorem ti85:E0.ti 85=some t85:=by kernel_rfl
theorem t85_desc:t85.desc=TypeDesc.slice 5:=by kernel_rfl
theorem t85_size:t85.size=1:=by kernel_rfl
theorem t85_zero:t85.zero=some (.slice none 0 0):=by kernel_rfl
noncomputable def t122:TIn:=match tiOf Tryz.prog 122 with
 | some i=>i
 | none=>⟨.bool,0,0,none,#[],none⟩
theorem ti122:E0.ti 122=some t122:=by kernel_rfl
theorem t122_desc:t122.desc=TypeDesc.struct #[{ name := "Tag", type:=3,offset:=0,embedded:=false,tag := "", pkgPath := "", byteOffset:=0 },{ name := "Data", type:=85,offset:=1,embedded:=false,tag := "", pkgPath := "", byteOffset:=8 }]:=by kernel_rfl
theorem t122_size:t122.size=2:=by kernel_rfl
theorem t122_zero:t122.zero=some (.agg #[.int .i64 0,.slice none 0 0]):=by kernel_rfl
theorem t122_bytes:t122.bytes=32:=by kernel_rfl
noncomputable def t118:TIn:=match tiOf Tryz.prog 118 with
 | some i=>i
 | none=>⟨.bool,0,0,none,#[],none⟩
theorem ti118:E0.ti 118=some t118:=by kernel_rfl
theorem t118_desc:t118.desc=TypeDesc.slice 122:=by kernel_rfl
theorem t118_size:t118.size=1:=by kernel_rfl
theorem t118_zero:t118.zero=some (.slice none 0 0):=by kernel_rfl
noncomputable def t63:TIn:=match tiOf Tryz.prog 63 with
 | some i=>i
 | none=>⟨.bool,0,0,none,#[],none⟩
theorem ti63:E0.ti 63=some t63:=by kernel_rfl
theorem t63_desc:t63.desc=TypeDesc.pointer 95:=by kernel_rfl
theorem t63_size:t63.size=1:=by kernel_rfl
theorem t63_zero:t63.zero=some (.pointer none):=by kernel_rfl
noncomputable def t95:TIn:=match tiOf Tryz.prog 95 with
 | some i=>i
 | none=>⟨.bool,0,0,none,#[],none⟩
theorem ti95:E0.ti 95=some t95:=by kernel_rfl
theorem t95_desc:t95.desc=TypeDesc.struct #[{ name := "x", type:=90,offset:=0,embedded:=false,tag := "", pkgPath := "belfry/queue", byteOffset:=0 }]:=by kernel_rfl
theorem t95_size:t95.size=1:=by kernel_rfl
theorem t95_zero:t95.zero=some (.agg #[.pointer none]):=by kernel_rfl
noncomputable def t90:TIn:=match tiOf Tryz.prog 90 with
 | some i=>i
 | none=>⟨.bool,0,0,none,#[],none⟩
theorem ti90:E0.ti 90=some t90:=by kernel_rfl
theorem t90_desc:t90.desc=TypeDesc.pointer 93:=by kernel_rfl
theorem t90_size:t90.size=1:=by kernel_rfl
theorem t90_zero:t90.zero=some (.pointer none):=by kernel_rfl
noncomputable def t93:TIn:=match tiOf Tryz.prog 93 with
 | some i=>i
 | none=>⟨.bool,0,0,none,#[],none⟩
theorem ti93:E0.ti 93=some t93:=by kernel_rfl
theorem t93_desc:t93.desc=TypeDesc.struct #[{ name := "l", type:=71,offset:=0,embedded:=false,tag := "", pkgPath := "belfry/queue", byteOffset:=0 },{ name := "where", type:=91,offset:=1,embedded:=false,tag := "", pkgPath := "belfry/queue", byteOffset:=24 }]:=by kernel_rfl
theorem t93_size:t93.size=2:=by kernel_rfl
theorem t93_zero:t93.zero=some (.agg #[.slice none 0 0,.map none]):=by kernel_rfl
noncomputable def t74:TIn:=match tiOf Tryz.prog 74 with
 | some i=>i
 | none=>⟨.bool,0,0,none,#[],none⟩
theorem ti74:E0.ti 74=some t74:=by kernel_rfl
theorem t74_desc:t74.desc=TypeDesc.struct #[{ name := "Name", type:=9,offset:=0,embedded:=false,tag := "", pkgPath := "", byteOffset:=0 },{ name := "At", type:=22,offset:=1,embedded:=false,tag := "", pkgPath := "", byteOffset:=16 }]:=by kernel_rfl
theorem t74_size:t74.size=2:=by kernel_rfl
theorem t74_zero:t74.zero=some (.agg #[.string ByteArray.empty,.int .u64 0]):=by kernel_rfl
theorem t74_bytes:t74.bytes=24:=by kernel_rfl
noncomputable def t71:TIn:=match tiOf Tryz.prog 71 with
 | some i=>i
 | none=>⟨.bool,0,0,none,#[],none⟩
theorem ti71:E0.ti 71=some t71:=by kernel_rfl
theorem t71_desc:t71.desc=TypeDesc.slice 74:=by kernel_rfl
theorem t71_size:t71.size=1:=by kernel_rfl
theorem t71_zero:t71.zero=some (.slice none 0 0):=by kernel_rfl
noncomputable def t91:TIn:=match tiOf Tryz.prog 91 with
 | some i=>i
 | none=>⟨.bool,0,0,none,#[],none⟩
theorem ti91:E0.ti 91=some t91:=by kernel_rfl
theorem t91_desc:t91.desc=TypeDesc.map 9 3:=by kernel_rfl
theorem t91_size:t91.size=1:=by kernel_rfl
theorem t91_zero:t91.zero=some (.map none):=by kernel_rfl
noncomputable def t20:TIn:=match tiOf Tryz.prog 20 with
 | some i=>i
 | none=>⟨.bool,0,0,none,#[],none⟩
theorem ti20:E0.ti 20=some t20:=by kernel_rfl
theorem t20_desc:t20.desc=TypeDesc.interface #[]:=by kernel_rfl
theorem t20_size:t20.size=1:=by kernel_rfl
theorem t20_zero:t20.zero=some (.nilIface):=by kernel_rfl
noncomputable def t133:TIn:=match tiOf Tryz.prog 133 with
 | some i=>i
 | none=>⟨.bool,0,0,none,#[],none⟩
theorem ti133:E0.ti 133=some t133:=by kernel_rfl
theorem t133_desc:t133.desc=TypeDesc.interface #[("Len", 125),("Less", 152),("Pop", 148),("Push", 135),("Swap", 147)]:=by kernel_rfl
theorem t133_size:t133.size=1:=by kernel_rfl
theorem t133_zero:t133.zero=some (.nilIface):=by kernel_rfl
noncomputable def t25:TIn:=match tiOf Tryz.prog 25 with
 | some i=>i
 | none=>⟨.bool,0,0,none,#[],none⟩
theorem ti25:E0.ti 25=some t25:=by kernel_rfl
theorem t25_desc:t25.desc=TypeDesc.pointer 68:=by kernel_rfl
theorem t25_size:t25.size=1:=by kernel_rfl
theorem t25_zero:t25.zero=some (.pointer none):=by kernel_rfl
noncomputable def t68:TIn:=match tiOf Tryz.prog 68 with
 | some i=>i
 | none=>⟨.bool,0,0,none,#[],none⟩
theorem ti68:E0.ti 68=some t68:=by kernel_rfl
theorem t68_desc:t68.desc=TypeDesc.struct #[{ name := "all", type:=62,offset:=0,embedded:=false,tag := "", pkgPath := "belfry/timers", byteOffset:=0 },{ name := "near", type:=63,offset:=1,embedded:=false,tag := "", pkgPath := "belfry/timers", byteOffset:=8 },{ name := "far", type:=65,offset:=2,embedded:=false,tag := "", pkgPath := "belfry/timers", byteOffset:=16 }]:=by kernel_rfl
theorem t68_size:t68.size=3:=by kernel_rfl
theorem t68_zero:t68.zero=some (.agg #[.map none,.pointer none,.pointer none]):=by kernel_rfl
noncomputable def t62:TIn:=match tiOf Tryz.prog 62 with
 | some i=>i
 | none=>⟨.bool,0,0,none,#[],none⟩
theorem ti62:E0.ti 62=some t62:=by kernel_rfl
theorem t62_desc:t62.desc=TypeDesc.map 9 30:=by kernel_rfl
theorem t62_size:t62.size=1:=by kernel_rfl
theorem t62_zero:t62.zero=some (.map none):=by kernel_rfl
noncomputable def t43:TIn:=match tiOf Tryz.prog 43 with
 | some i=>i
 | none=>⟨.bool,0,0,none,#[],none⟩
theorem ti43:E0.ti 43=some t43:=by kernel_rfl
theorem t43_desc:t43.desc=TypeDesc.func #[9] #[4] false:=by kernel_rfl
theorem t43_size:t43.size=1:=by kernel_rfl
theorem t43_zero:t43.zero=some (.nilFunc):=by kernel_rfl
noncomputable def t84:TIn:=match tiOf Tryz.prog 84 with
 | some i=>i
 | none=>⟨.bool,0,0,none,#[],none⟩
theorem ti84:E0.ti 84=some t84:=by kernel_rfl
theorem t84_desc:t84.desc=TypeDesc.slice 43:=by kernel_rfl
theorem t84_size:t84.size=1:=by kernel_rfl
theorem t84_zero:t84.zero=some (.slice none 0 0):=by kernel_rfl
noncomputable def t127:TIn:=match tiOf Tryz.prog 127 with
 | some i=>i
 | none=>⟨.bool,0,0,none,#[],none⟩
theorem ti127:E0.ti 127=some t127:=by kernel_rfl
theorem t127_desc:t127.desc=TypeDesc.slice 22:=by kernel_rfl
theorem t127_size:t127.size=1:=by kernel_rfl
theorem t127_zero:t127.zero=some (.slice none 0 0):=by kernel_rfl
noncomputable def t34:TIn:=match tiOf Tryz.prog 34 with
 | some i=>i
 | none=>⟨.bool,0,0,none,#[],none⟩
theorem ti34:E0.ti 34=some t34:=by kernel_rfl
theorem t34_desc:t34.desc=TypeDesc.slice 9:=by kernel_rfl
theorem t34_size:t34.size=1:=by kernel_rfl
theorem t34_zero:t34.zero=some (.slice none 0 0):=by kernel_rfl
noncomputable def t23:TIn:=match tiOf Tryz.prog 23 with
 | some i=>i
 | none=>⟨.bool,0,0,none,#[],none⟩
theorem ti23:E0.ti 23=some t23:=by kernel_rfl
theorem t23_desc:t23.desc=TypeDesc.slice 30:=by kernel_rfl
theorem t23_size:t23.size=1:=by kernel_rfl
theorem t23_zero:t23.zero=some (.slice none 0 0):=by kernel_rfl
theorem fn8:E0.fn 8=some Tryz.f8:=by kernel_rfl
theorem fn15:E0.fn 15=some Tryz.f15:=by kernel_rfl
theorem fn39:E0.fn 39=some Tryz.f39:=by kernel_rfl
theorem fn40:E0.fn 40=some Tryz.f40:=by kernel_rfl
theorem fn67:E0.fn 67=some Tryz.f67:=by kernel_rfl
theorem fn31:E0.fn 31=some Tryz.f31:=by kernel_rfl
theorem fn112:E0.fn 112=some Tryz.f112:=by kernel_rfl
theorem fn68:E0.fn 68=some Tryz.f68:=by kernel_rfl
theorem fn90:E0.fn 90=some Tryz.f90:=by kernel_rfl
theorem fn91:E0.fn 91=none:=by kernel_rfl
theorem fn52:E0.fn 52=some Tryz.f52:=by kernel_rfl
theorem fn30:E0.fn 30=some Tryz.f30:=by kernel_rfl
theorem fn32:E0.fn 32=some Tryz.f32:=by kernel_rfl
theorem fn35:E0.fn 35=some Tryz.f35:=by kernel_rfl
theorem fn38:E0.fn 38=some Tryz.f38:=by kernel_rfl
theorem fn41:E0.fn 41=some Tryz.f41:=by kernel_rfl
theorem fn53:E0.fn 53=some Tryz.f53:=by kernel_rfl
theorem fn61:E0.fn 61=some Tryz.f61:=by kernel_rfl
theorem fn62:E0.fn 62=some Tryz.f62:=by kernel_rfl
theorem fn63:E0.fn 63=some Tryz.f63:=by kernel_rfl
theorem fn85:E0.fn 85=some Tryz.f85:=by kernel_rfl
theorem fn86:E0.fn 86=some Tryz.f86:=by kernel_rfl
theorem fn77:E0.fn 77=some Tryz.f77:=by kernel_rfl
theorem fn51:E0.fn 51=some Tryz.f51:=by kernel_rfl
theorem fn99:E0.fn 99=some Tryz.f99:=by kernel_rfl
theorem fn100:E0.fn 100=some Tryz.f100:=by kernel_rfl
theorem fn101:E0.fn 101=some Tryz.f101:=by kernel_rfl
theorem fn125:E0.fn 125=some Tryz.f125:=by kernel_rfl
theorem fn126:E0.fn 126=some Tryz.f126:=by kernel_rfl
theorem fn43:E0.fn 43=some Tryz.f43:=by kernel_rfl
theorem fn70:E0.fn 70=some Tryz.f70:=by kernel_rfl
theorem fn92:E0.fn 92=some Tryz.f92:=by kernel_rfl
theorem fn72:E0.fn 72=some Tryz.f72:=by kernel_rfl
theorem fn71:E0.fn 71=some Tryz.f71:=by kernel_rfl
theorem fn73:E0.fn 73=some Tryz.f73:=by kernel_rfl
theorem fn44:E0.fn 44=some Tryz.f44:=by kernel_rfl
theorem fn21:E0.fn 21=some Tryz.f21:=by kernel_rfl
theorem fn29:E0.fn 29=some Tryz.f29:=by kernel_rfl
theorem fn33:E0.fn 33=some Tryz.f33:=by kernel_rfl
theorem fn42:E0.fn 42=some Tryz.f42:=by kernel_rfl
theorem fn54:E0.fn 54=some Tryz.f54:=by kernel_rfl
theorem fn56:E0.fn 56=some Tryz.f56:=by kernel_rfl
theorem fn55:E0.fn 55=some Tryz.f55:=by kernel_rfl
theorem fn69:E0.fn 69=some Tryz.f69:=by kernel_rfl
theorem fn82:E0.fn 82=some Tryz.f82:=by kernel_rfl
theorem fn81:E0.fn 81=some Tryz.f81:=by kernel_rfl
theorem fn97:E0.fn 97=some Tryz.f97:=by kernel_rfl
theorem fn160:E0.fn 160=some Tryz.f160:=by kernel_rfl
theorem fn163:E0.fn 163=some Tryz.f163:=by kernel_rfl
theorem fn162:E0.fn 162=some Tryz.f162:=by kernel_rfl
theorem fn161:E0.fn 161=some Tryz.f161:=by kernel_rfl
theorem fn159:E0.fn 159=some Tryz.f159:=by kernel_rfl
theorem fn7:E0.fn 7=some Tryz.f7:=by kernel_rfl
theorem fn9:E0.fn 9=some Tryz.f9:=by kernel_rfl
theorem fn14:E0.fn 14=some Tryz.f14:=by kernel_rfl
theorem fn18:E0.fn 18=some Tryz.f18:=by kernel_rfl
theorem fn84:E0.fn 84=some Tryz.f84:=by kernel_rfl
theorem fn34:E0.fn 34=some Tryz.f34:=by kernel_rfl
theorem fn58:E0.fn 58=some Tryz.f58:=by kernel_rfl
theorem fn59:E0.fn 59=some Tryz.f59:=by kernel_rfl
theorem fn83:E0.fn 83=some Tryz.f83:=by kernel_rfl
theorem fn57:E0.fn 57=some Tryz.f57:=by kernel_rfl
theorem fn60:E0.fn 60=some Tryz.f60:=by kernel_rfl
theorem fn80:E0.fn 80=some Tryz.f80:=by kernel_rfl
theorem fn96:E0.fn 96=some Tryz.f96:=by kernel_rfl
theorem fn78:E0.fn 78=some Tryz.f78:=by kernel_rfl
theorem fn79:E0.fn 79=some Tryz.f79:=by kernel_rfl
theorem fn95:E0.fn 95=some Tryz.f95:=by kernel_rfl
theorem fn36:E0.fn 36=some Tryz.f36:=by kernel_rfl
theorem fn64:E0.fn 64=some Tryz.f64:=by kernel_rfl
theorem fn65:E0.fn 65=some Tryz.f65:=by kernel_rfl
theorem fn87:E0.fn 87=some Tryz.f87:=by kernel_rfl
theorem fn37:E0.fn 37=some Tryz.f37:=by kernel_rfl
theorem fn66:E0.fn 66=some Tryz.f66:=by kernel_rfl
theorem fn11:E0.fn 11=some Tryz.f11:=by kernel_rfl
theorem fn10:E0.fn 10=some Tryz.f10:=by kernel_rfl
theorem fn12:E0.fn 12=some Tryz.f12:=by kernel_rfl
theorem fn13:E0.fn 13=some Tryz.f13:=by kernel_rfl
theorem fn28:E0.fn 28=some Tryz.f28:=by kernel_rfl
theorem fn16:E0.fn 16=some Tryz.f16:=by kernel_rfl
theorem fn3:E0.fn 3=some Tryz.f3:=by kernel_rfl
theorem fn4:E0.fn 4=some Tryz.f4:=by kernel_rfl
theorem fn17:E0.fn 17=some Tryz.f17:=by kernel_rfl
def w_0:=And.intro @ti3 (And.intro @t3_desc (And.intro @t3_size (And.intro @t3_zero (And.intro @ti4 (And.intro @t4_desc (And.intro @t4_size (And.intro @t4_zero (And.intro @ti9 (And.intro @t9_desc (And.intro @t9_size (And.intro @t9_zero (And.intro @ti22 (And.intro @t22_desc (And.intro @t22_size (And.intro @t22_zero (And.intro @ti2 (And.intro @t2_desc (And.intro @t2_size (And.intro @t2_zero (And.intro @ti28 (And.intro @t28_desc (And.intro @t28_size (And.intro @t28_zero (And.intro @ti56 (And.intro @t56_desc (And.intro @t56_size (And.intro @t56_zero (And.intro @ti54 (And.intro @t54_desc (And.intro @t54_size (And.intro @t54_zero (And.intro @ti30 (And.intro @t30_desc (And.intro @t30_size (And.intro @t30_zero (And.intro @ti24 (And.intro @t24_desc (And.intro @t24_size (And.intro @t24_zero (And.intro @ti31 (And.intro @t31_desc (And.intro @t31_size (@t31_zero)))))))))))))))))))))))))))))))))))))))))))
def w_a:=And.intro @fn8 (And.intro @fn15 (And.intro @fn39 (And.intro @fn40 (And.intro @fn67 (And.intro @fn31 (And.intro @fn112 (And.intro @fn68 (And.intro @fn90 (And.intro @fn91 (@fn52))))))))))
def w_wh:=And.intro @ti65 (And.intro @t65_desc (And.intro @t65_size (And.intro @t65_zero (And.intro @ti101 (And.intro @t101_desc (And.intro @t101_size (And.intro @t101_zero (And.intro @ti97 (And.intro @t97_desc (And.intro @t97_size (And.intro @t97_zero (And.intro @ti98 (And.intro @t98_desc (And.intro @t98_size (And.intro @t98_zero (And.intro @ti99 (And.intro @t99_desc (And.intro @t99_size (And.intro @t99_zero (And.intro @ti77 (And.intro @t77_desc (And.intro @t77_size (And.intro @t77_zero (And.intro @ti75 (And.intro @t75_desc (And.intro @t75_size (And.intro @t75_zero (And.intro @fn30 (And.intro @fn32 (And.intro @fn35 (And.intro @fn38 (And.intro @fn41 (And.intro @fn53 (And.intro @fn61 (And.intro @fn62 (And.intro @fn63 (And.intro @fn85 (And.intro @fn86 (And.intro @fn77 (And.intro @fn51 (And.intro @fn99 (And.intro @fn100 (And.intro @fn101 (And.intro @fn125 (And.intro @fn126 (And.intro @ti178 (And.intro @t178_desc (And.intro @t178_size (@t178_zero)))))))))))))))))))))))))))))))))))))))))))))))))
def w_st:=And.intro @ti5 (And.intro @t5_desc (And.intro @t5_size (And.intro @t5_zero (And.intro @ti85 (And.intro @t85_desc (And.intro @t85_size (And.intro @t85_zero (And.intro @ti122 (And.intro @t122_desc (And.intro @t122_size (And.intro @t122_zero (And.intro @ti118 (And.intro @t118_desc (And.intro @t118_size (And.intro @t118_zero (And.intro @fn43 (And.intro @fn70 (And.intro @fn92 (And.intro @fn72 (And.intro @fn71 (And.intro @fn73 (And.intro @fn44 (@fn21)))))))))))))))))))))))
def w_qu:=And.intro @ti63 (And.intro @t63_desc (And.intro @t63_size (And.intro @t63_zero (And.intro @ti95 (And.intro @t95_desc (And.intro @t95_size (And.intro @t95_zero (And.intro @ti90 (And.intro @t90_desc (And.intro @t90_size (And.intro @t90_zero (And.intro @ti93 (And.intro @t93_desc (And.intro @t93_size (And.intro @t93_zero (And.intro @ti74 (And.intro @t74_desc (And.intro @t74_size (And.intro @t74_zero (And.intro @ti71 (And.intro @t71_desc (And.intro @t71_size (And.intro @t71_zero (And.intro @ti91 (And.intro @t91_desc (And.intro @t91_size (And.intro @t91_zero (And.intro @ti20 (And.intro @t20_desc (And.intro @t20_size (And.intro @t20_zero (And.intro @ti133 (And.intro @t133_desc (And.intro @t133_size (And.intro @t133_zero (And.intro @fn29 (And.intro @fn33 (And.intro @fn42 (And.intro @fn54 (And.intro @fn56 (And.intro @fn55 (And.intro @fn69 (And.intro @fn82 (And.intro @fn81 (And.intro @fn97 (And.intro @fn160 (And.intro @fn163 (And.intro @fn162 (And.intro @fn161 (@fn159))))))))))))))))))))))))))))))))))))))))))))))))))
def w_tb:=And.intro @ti25 (And.intro @t25_desc (And.intro @t25_size (And.intro @t25_zero (And.intro @ti68 (And.intro @t68_desc (And.intro @t68_size (And.intro @t68_zero (And.intro @ti62 (And.intro @t62_desc (And.intro @t62_size (And.intro @t62_zero (And.intro @ti43 (And.intro @t43_desc (And.intro @t43_size (And.intro @t43_zero (And.intro @ti84 (And.intro @t84_desc (And.intro @t84_size (And.intro @t84_zero (And.intro @fn7 (And.intro @fn9 (And.intro @fn14 (@fn18)))))))))))))))))))))))
def w_q2:=And.intro @fn84 (And.intro @fn34 (And.intro @fn58 (And.intro @fn59 (And.intro @fn83 (And.intro @fn57 (@fn60))))))
def w_so:=And.intro @ti127 (And.intro @t127_desc (And.intro @t127_size (And.intro @t127_zero (And.intro @ti34 (And.intro @t34_desc (And.intro @t34_size (And.intro @t34_zero (And.intro @fn80 (And.intro @fn96 (And.intro @fn78 (And.intro @fn79 (And.intro @fn95 (And.intro @fn36 (And.intro @fn64 (And.intro @fn65 (And.intro @fn87 (And.intro @fn37 (@fn66))))))))))))))))))
def w_t2:=And.intro @ti23 (And.intro @t23_desc (And.intro @t23_size (And.intro @t23_zero (And.intro @fn11 (And.intro @fn10 (And.intro @fn12 (And.intro @fn13 (And.intro @fn28 (@fn16)))))))))
def w_lw:=And.intro @fn3 (And.intro @fn4 (@fn17))
def z_0:=And.intro @oneW_next (And.intro s_0 (And.intro s_1 (And.intro s_2 (And.intro s_3 (And.intro s_4 (And.intro g_0 (And.intro w_0 (And.intro w_a (And.intro w_wh (And.intro w_st (And.intro w_qu (And.intro w_tb (And.intro w_q2 (And.intro w_so (And.intro w_t2 (And.intro w_lw (d_0)))))))))))))))))
end Go.Proofs.YtgcffmhpjphefaaGreatDoor

/- Steps: their cells; a step is itself. -/
namespace Go.Proofs.YtgcffmhpjphefaaGreatDoor
open Go Go.AE
set_option maxRecDepth 10000
set_option maxHeartbeats 4000000

structure StepD where
 kind:Int
 key:ByteArray
 val:ByteArray
 n:Int
def scell(y:StepD):List Value:=[.int .i64 y.kind,.string y.key,.string y.val,.int .i64 y.n]
abbrev Steps(E:Env)(A:ASt)(S:Nat→Prop)(v:Value)(l:List StepD):Prop:=SlAt E A S 4 v (l.map scell)
theorem scell_len{l:List StepD}:∀ x∈l.map scell,x.length=4:=by
 intro x hx
 obtain ⟨y,_,rfl⟩:=List.mem_map.1 hx
 rfl
theorem scell_sg:∀ {l:List StepD},singles (l.map scell).flatten=true
 | []=>rfl
 | y::l=>by
  rw [List.map_cons,List.flatten_cons]
  exact scell_sg (l:=l)

theorem pb{α β:Type}{P:Program}{f:α→Sem β}:∀ {m:Sem α} {a:α},pureRun P m=some a→pureRun P (m >>= f)=pureRun P (f a):=by
 intro m
 induction m with
 | pure x=>intro a h;cases h;rfl
 | program k ih=>intro a h;exact ih P h
 | mark x k ih=>intro a h;exact ih h
 | _=>intro a h;cases h
theorem beqB{k:ByteArray}:(k == k)=true:=by
 first | exact beq_self_eq_true k | (cases k;simp [BEq.beq];done) | (show (k.data == k.data)=true;exact beq_self_eq_true _) | (cases k;exact beq_self_eq_true _) | (obtain ⟨d⟩:=k;unfold BEq.beq ByteArray.instBEq;simp [ByteArray.instBEq.beq])
theorem es9{k:ByteArray}{d:Nat}:pureRun Tryz.prog (Op.equalIn (d+1) 9 (.string k) (.string k))=some true:=by
 unfold Op.equalIn
 rw [pb (a:=.string) (by kernel_rfl)]
 show some (k == k)=some true
 rw [beqB]
theorem ei2{a:Int}{d:Nat}:pureRun Tryz.prog (Op.equalIn (d+1) 2 (.int .i64 a) (.int .i64 a))=some true:=by
 unfold Op.equalIn
 rw [pb (a:=.int .i64) (by kernel_rfl)]
 show some (a == a)=some true
 simp
theorem ei34{a:Int}{d:Nat}:pureRun Tryz.prog (Op.equalIn (d+1) 54 (.int .i64 a) (.int .i64 a))=some true:=by
 unfold Op.equalIn
 rw [pb (a:=.int .i64) (by kernel_rfl)]
 show some (a == a)=some true
 simp
theorem eqStep{k s u n}:pureRun Tryz.prog (Op.equal 56 (.agg #[.int .i64 k,.string s,.string u,.int .i64 n]) (.agg #[.int .i64 k,.string s,.string u,.int .i64 n]))=some true:=by
 show pureRun Tryz.prog (Op.equalIn (9999+1) 56 (.agg #[.int .i64 k,.string s,.string u,.int .i64 n]) (.agg #[.int .i64 k,.string s,.string u,.int .i64 n]))=some true
 unfold Op.equalIn
 have hd:=t56_desc
 rw [pb (a:=t56.desc) (by kernel_rfl)]
 rw [hd]
 dsimp only
 rw [pb (m:=program) (a:=Tryz.prog) rfl]
 have h0:Tryz.prog.stoodInHeld 56=false:=by kernel_rfl
 rw [h0]
 simp only [Bool.false_eq_true,if_false]
 have hp0:pureRun Tryz.prog (part 54 #[Value.int .i64 k,.string s,.string u,.int .i64 n] 0)=some (.int .i64 k):=by kernel_rfl
 have hp1:pureRun Tryz.prog (part 9 #[Value.int .i64 k,.string s,.string u,.int .i64 n] 1)=some (.string s):=by kernel_rfl
 have hp2:pureRun Tryz.prog (part 9 #[Value.int .i64 k,.string s,.string u,.int .i64 n] 2)=some (.string u):=by kernel_rfl
 have hp3:pureRun Tryz.prog (part 2 #[Value.int .i64 k,.string s,.string u,.int .i64 n] 3)=some (.int .i64 n):=by kernel_rfl
 simp only [List.forIn_toArray,List.forIn_cons,List.forIn_nil,bind_assoc]
 have n1:("Kind" = "_")=False:=by simp
 have n2:("Key" = "_")=False:=by simp
 have n3:("Value" = "_")=False:=by simp
 have n4:("N" = "_")=False:=by simp
 simp only [ne_eq,n1,n2,n3,n4,not_false_eq_true,if_true,bind_assoc]
 rw [pb hp0,pb hp0,pb (m:=Op.equalIn 9999 54 (.int .i64 k) (.int .i64 k)) (ei34 (d:=9998))]
 simp only [Bool.not_true,Bool.false_eq_true,if_false,pure_bind,bind_assoc]
 rw [pb hp1,pb hp1,pb (m:=Op.equalIn 9999 9 (.string s) (.string s)) (es9 (d:=9998))]
 simp only [Bool.not_true,Bool.false_eq_true,if_false,pure_bind,bind_assoc]
 rw [pb hp2,pb hp2,pb (m:=Op.equalIn 9999 9 (.string u) (.string u)) (es9 (d:=9998))]
 simp only [Bool.not_true,Bool.false_eq_true,if_false,pure_bind,bind_assoc]
 rw [pb hp3,pb hp3,pb (m:=Op.equalIn 9999 2 (.int .i64 n) (.int .i64 n)) (ei2 (d:=9998))]
 simp only [Bool.not_true,Bool.false_eq_true,if_false,pure_bind]
 rfl
theorem neqStep{xo yo:Operand}{k s u n}:aBin2 E0 .neq 56 xo yo (.agg #[.int .i64 k,.string s,.string u,.int .i64 n]) (.agg #[.int .i64 k,.string s,.string u,.int .i64 n])=some (.bool false):=by
 have e1:E0.bin .neq 56 xo yo (.agg #[.int .i64 k,.string s,.string u,.int .i64 n]) (.agg #[.int .i64 k,.string s,.string u,.int .i64 n])=some (.bool false):=by
  show pureRun Tryz.prog (do eqGuard .neq 56 xo yo (.agg #[.int .i64 k,.string s,.string u,.int .i64 n]) (.agg #[.int .i64 k,.string s,.string u,.int .i64 n]);binOp .neq 56 (.agg #[.int .i64 k,.string s,.string u,.int .i64 n]) (.agg #[.int .i64 k,.string s,.string u,.int .i64 n]))=_
  rw [pb (a:=()) (by kernel_rfl)]
  show pureRun Tryz.prog (do pure (Value.bool (!(← Op.equal 56 (.agg #[.int .i64 k,.string s,.string u,.int .i64 n]) (.agg #[.int .i64 k,.string s,.string u,.int .i64 n])))))=_
  rw [pb eqStep]
  rfl
 have e2:closed (.agg #[.int .i64 k,.string s,.string u,.int .i64 n])=true:=rfl
 have e3:aBin E0 .neq 56 xo yo (.agg #[.int .i64 k,.string s,.string u,.int .i64 n]) (.agg #[.int .i64 k,.string s,.string u,.int .i64 n])=none:=by
  simp [aBin,eqV,ti56,t56_desc]
 simp only [aBin2,e3,e1,e2,Bool.and_self,cond_true]
 rfl
end Go.Proofs.YtgcffmhpjphefaaGreatDoor

/- The calendar. -/
namespace Go.Proofs.YtgcffmhpjphefaaGreatDoor
open Go Go.AE
set_option maxRecDepth 10000
set_option maxHeartbeats 4000000
variable {Z:Go.AE.Road}

def cnt(a e t:Nat):Nat:=if t<a then 0 else if e=0 then 0 else (t-a) / e
def rst(a e t:Nat):Nat:=if t<a then 0 else if e=0 then t-a else (t-a) % e
theorem wrap_sub{a b:Nat}(ha:a<18446744073709551616)(h:b≤a):IntKind.u64.wrap ((a:Int)-(b:Int))=((a-b:Nat):Int):=by
 rw [IntKind.wrap_u64];omega
theorem wrap_nat{a:Nat}(ha:a<18446744073709551616):IntKind.u64.wrap (a:Int)=(a:Int):=by
 rw [IntKind.wrap_u64];omega
theorem zero49:aAlloc E0 24=some (.row [.int .u64 0,.int .u64 0] 2 false,ptrTo):=by
 simp only [aAlloc,w_0];rfl
theorem bl49_0:aBuild E0 24 []=some (.agg #[.int .u64 0,.int .u64 0]):=by kernel_rfl
theorem bl49_1{x:Int}:aBuild E0 24 [(1,.int .u64 x)]=some (.agg #[.int .u64 0,.int .u64 x]):=by kernel_rfl
theorem bl49_2{x y:Int}:aBuild E0 24 [(0,.int .u64 x),(1,.int .u64 y)]=some (.agg #[.int .u64 x,.int .u64 y]):=by kernel_rfl
theorem st49{A:ASt}{b:Nat}{c0 c1:Value}{tl:Bool}{x y:Int}(h:A.get b=some (.row [c0,c1] 2 tl)):aStore E0 24 (.pointer (some ⟨b,0,none⟩)) (.agg #[.int .u64 x,.int .u64 y]) A=some (A.set b (.row [.int .u64 x,.int .u64 y] 2 tl)):=by
 simp only [aStore,h,w_0];rfl
theorem steps_spec{A:ASt}{a e t:Nat}(ha:a<18446744073709551616)(he:e<18446744073709551616)(ht:t<18446744073709551616):
  CallW Z Tryz.prog 112 [.int .u64 (a:Int),.int .u64 (e:Int),.int .u64 (t:Int)] A (fun v A'=>v=.agg #[.int .u64 ((cnt a e t:Nat):Int),.int .u64 ((rst a e t:Nat):Int)]∧Fr [] A A'):=by
 refine CallW.of_code E0_ok E0_ro fn112 rfl (n:=30) rfl (rs:=[.cell 6 24]) rfl (by simp) (codeW_ok E0_ok E0_ro ?_)
 simp only [z_0,if_true,if_false,eq_self,Nat.reduceEqDiff,Nat.reduceAdd,Nat.reduceLT,reduceCtorEq,zero49,ptrTo]
 have hg:(A.new (.row [.int .u64 0,.int .u64 0] 2 false)).get A.next=some (.row [.int .u64 0,.int .u64 0] 2 false):=by rw [ASt.get_new,if_pos rfl]
 have hf:Fr [] A (A.new (.row [.int .u64 0,.int .u64 0] 2 false)):=.new
 generalize A.new (.row [.int .u64 0,.int .u64 0] 2 false)=B at hg hf ⊢
 refine brW_dec (fun h=>?_) (fun h=>?_)
 ·have hl:t<a:=by omega
  have e1:cnt a e t=0:=by simp [cnt,hl]
  have e2:rst a e t=0:=by simp [rst,hl]
  simp only [z_0,cond_true,if_true,if_false,List.length_cons,List.length_nil,eq_self,Nat.reduceEqDiff,Nat.reduceAdd,Nat.reduceLT,reduceCtorEq,bl49_0,st49 hg,e1,e2,cut,List.take_succ_cons,List.take_zero,List.drop_zero,Value.agg.injEq,Array.mk.injEq]
  exact ⟨rfl,hf.set (.inr (Nat.le_refl _))⟩
 ·have hl:¬ t<a:=by omega
  have e3:=wrap_sub ht (Nat.le_of_not_lt hl)
  simp only [z_0,flat,cond_true,if_true,if_false,eq_self,Nat.reduceEqDiff,Nat.reduceLT,reduceCtorEq]
  refine brW_dec (fun h0=>?_) (fun h0=>?_)
  ·have h0':e=0:=by omega
   have e1:cnt a e t=0:=by simp [cnt,hl,h0']
   have e2:rst a e t=t-a:=by simp [rst,hl,h0']
   simp only [z_0,cond_true,if_true,if_false,List.length_cons,List.length_nil,eq_self,Nat.reduceEqDiff,Nat.reduceAdd,Nat.reduceLT,reduceCtorEq,bl49_1,st49 hg,e1,e2,e3,cut,List.take_succ_cons,List.take_zero,List.drop_zero,Value.agg.injEq,Array.mk.injEq]
   exact ⟨rfl,hf.set (.inr (Nat.le_refl _))⟩
  ·have h0':e≠0:=by omega
   have e1:cnt a e t=(t-a) / e:=by simp [cnt,hl,h0']
   have e2:rst a e t=(t-a) % e:=by simp [rst,hl,h0']
   have hq:∀ xo yo,aBin2 E0 .quo 22 xo yo (.int .u64 ((t-a:Nat):Int)) (.int .u64 (e:Int))=some (.int .u64 (((t-a) / e:Nat):Int)):=fun xo yo=>by
    rw [b_quo (by omega)]
    have e4:((t-a:Nat):Int).tdiv (e:Int)=(((t-a) / e:Nat):Int):=rfl
    rw [e4,wrap_nat (Nat.lt_of_le_of_lt (Nat.div_le_self _ _) (by omega))]
   have hr:∀ xo yo,aBin2 E0 .rem 22 xo yo (.int .u64 ((t-a:Nat):Int)) (.int .u64 (e:Int))=some (.int .u64 (((t-a) % e:Nat):Int)):=fun xo yo=>b_rem_nat h0'
   simp only [z_0]
   refine CodeW.seqf E0_ok E0_ro mixed noCon_ok [0,1,2,3,4,5,6,7,8,9,10,11] [] (fanOf _ _ _) (by simp only [reorder,reoGo,strip,List.map_cons,List.map_nil,opAt,remap,nth,Option.map,σ,place',List.length_cons,List.length_nil,Nat.reduceAdd];rfl) (by decide +kernel) (by kernel_rfl) (by kernel_rfl) (by kernel_rfl) rfl ?_
   have hst:∀ n x y,aStore E0 24 (.pointer (some ⟨A.next,0,none⟩)) (.agg #[.int .u64 x,.int .u64 y]) { heap:=B.heap,next:=n }=some (ASt.set { heap:=B.heap,next:=n } A.next (.row [.int .u64 x,.int .u64 y] 2 false)):=fun n x y=>st49 (by rw [get_next];exact hg)
   simp only [z_0,cond_true,if_true,if_false,List.length_cons,List.length_nil,eq_self,Nat.reduceEqDiff,Nat.reduceAdd,Nat.reduceLT,reduceCtorEq,q_0,q_2,f_0,reorder,List.length_cons,List.length_nil,e3,hq,hr,bl49_2,hst,e1,e2,cut,List.take_succ_cons,List.take_zero,List.drop_zero]
   exact (hf.trans (Fr.bump (Nat.le_add_right _ _))).set (.inr (Nat.le_refl _))
theorem last_spec{A:ASt}{a e t:Nat}(ha:a<18446744073709551616)(he:e<18446744073709551616)(ht:t<18446744073709551616):
  CallW Z Tryz.prog 90 [.int .u64 (a:Int),.int .u64 (e:Int),.int .u64 (t:Int)] A (fun v A'=>v=(if t<a then .tuple #[.int .u64 0,.bool false] else .tuple #[.int .u64 ((t-rst a e t:Nat):Int),.bool true])∧Fr [] A A'):=by
 refine CallW.of_code E0_ok E0_ro fn90 rfl (n:=18) rfl (rs:=[.tmp 6,.tmp 7]) rfl (by simp) (codeW_ok E0_ok E0_ro ?_)
 simp only [z_0,flat,cond_true,if_true,if_false,eq_self,Nat.reduceEqDiff,Nat.reduceAdd,Nat.reduceLT,reduceCtorEq]
 refine brW_dec (fun h=>?_) (fun h=>?_)
 ·have hl:t<a:=by omega
  simp only [z_0,flat,cond_true,if_true,if_false,eq_self,Nat.reduceEqDiff,Nat.reduceLT,reduceCtorEq,hl]
  exact .refl _ _
 ·have hl:¬ t<a:=by omega
  simp only [z_0,if_true,if_false,List.append_nil,List.nil_append,eq_self,Nat.reduceEqDiff,Nat.reduceLT,reduceCtorEq]
  refine CallT.mono (steps_spec ha he ht) ?_
  rintro _ B ⟨rfl,hf⟩
  have hr:rst a e t≤t:=by
   unfold rst
   rw [if_neg hl]
   split
   ·omega
   ·exact Nat.le_trans (Nat.mod_le _ _) (by omega)
  simp only [z_0,flat,cond_true,cond_false,if_true,if_false,eq_self,Nat.reduceEqDiff,Nat.reduceMul,Nat.reduceLT,reduceCtorEq,aIndex,wrap_sub ht hr,hl]
  exact hf
def nxt(a e t:Nat):Option Nat:=if t<a then some a else if e=0 then none else if 18446744073709551616≤t-rst a e t+e then none else some (t-rst a e t+e)
def optV:Option Nat→Value
 | some x=>.tuple #[.int .u64 (x:Int),.bool true]
 | none=>.tuple #[.int .u64 0,.bool false]
theorem add64_run{x y:Nat}:pureRun Tryz.prog (add64Entry #[.int .u64 (x:Int),.int .u64 (y:Int),.int .u64 0])=some (.tuple #[.int .u64 (((x+y) % 18446744073709551616:Nat):Int),.int .u64 (((x+y) / 18446744073709551616:Nat):Int)]):=by
 rfl
theorem ext32:E0.ext 91=some (fun args=>pureRun Tryz.prog (add64Entry args.toArray)):=rfl
theorem next_spec{A:ASt}{a e t:Nat}(ha:a<18446744073709551616)(he:e<18446744073709551616)(ht:t<18446744073709551616):
  CallW Z Tryz.prog 67 [.int .u64 (a:Int),.int .u64 (e:Int),.int .u64 (t:Int)] A (fun v A'=>v=optV (nxt a e t)∧Fr [] A A'):=by
 refine CallW.of_code E0_ok E0_ro fn67 rfl (n:=36) rfl (rs:=[.tmp 6,.tmp 7]) rfl (by simp) (codeW_ok E0_ok E0_ro ?_)
 simp only [z_0,flat,cond_true,if_true,if_false,eq_self,Nat.reduceEqDiff,Nat.reduceAdd,Nat.reduceLT,reduceCtorEq]
 refine brW_dec (fun h=>?_) (fun h=>?_)
 ·have hl:t<a:=by omega
  simp only [z_0,flat,cond_true,if_true,if_false,eq_self,Nat.reduceEqDiff,Nat.reduceLT,reduceCtorEq,nxt,hl,optV]
  exact .refl _ _
 ·have hl:¬ t<a:=by omega
  simp only [z_0,if_true,if_false,List.append_nil,List.nil_append,eq_self,Nat.reduceEqDiff,Nat.reduceLT,reduceCtorEq]
  refine CallT.mono (last_spec ha he ht) ?_
  rintro _ B ⟨rfl,hf⟩
  have hr:rst a e t≤t:=by
   unfold rst
   rw [if_neg hl]
   split
   ·omega
   ·exact Nat.le_trans (Nat.mod_le _ _) (by omega)
  by_cases h0:e=0
  ·have d0:((e:Int)=0)=True:=eq_true (by omega)
   have en:nxt a e t=none:=by simp [nxt,hl,h0]
   simp only [z_0,flat,cond_true,if_true,if_false,List.append_nil,List.nil_append,eq_self,Nat.reduceEqDiff,Nat.reduceLT,reduceCtorEq,hl,ext32,add64_run,flats,flat,d0,undef,en,optV]
   exact hf
  ·have d0:((e:Int)=0)=False:=eq_false (by omega)
   by_cases h1:18446744073709551616≤t-rst a e t+e
   ·have d1:((((t-rst a e t+e) / 18446744073709551616:Nat):Int) > 0)=True:=eq_true (by omega)
    have en:nxt a e t=none:=by simp [nxt,hl,h0,h1]
    simp only [z_0,flat,cond_true,cond_false,if_true,if_false,List.append_nil,List.nil_append,eq_self,Nat.reduceEqDiff,Nat.reduceLT,reduceCtorEq,hl,ext32,add64_run,flats,flat,d0,d1,en,optV]
    exact hf
   ·have d1:((((t-rst a e t+e) / 18446744073709551616:Nat):Int) > 0)=False:=eq_false (by omega)
    have en:nxt a e t=some (t-rst a e t+e):=by simp [nxt,hl,h0,h1]
    have em:(t-rst a e t+e) % 18446744073709551616=t-rst a e t+e:=by omega
    simp only [z_0,flat,cond_true,cond_false,if_true,if_false,List.append_nil,List.nil_append,eq_self,Nat.reduceEqDiff,Nat.reduceLT,reduceCtorEq,hl,ext32,add64_run,flats,flat,d0,d1,en,optV,em]
    exact hf
end Go.Proofs.YtgcffmhpjphefaaGreatDoor

/- Steps: a clone, the same, few; a timer behind it fired. -/
namespace Go.Proofs.YtgcffmhpjphefaaGreatDoor
open Go Go.AE
set_option maxRecDepth 10000
set_option maxHeartbeats 4000000
variable {Z:Go.AE.Road}{s:Spans}

theorem eqnilS_f{t e:TypeId}{ti:TIn}(ht:E0.ti t=some ti)(hd:ti.desc=.slice e){xo yo:Operand}{x:Addr}{n c:Nat}:aBin2 E0 .eql t xo yo (.slice (some x) n c) (.slice none 0 0)=some (.bool false):=by
 simp [aBin2,aBin,eqV,ht,hd]
theorem eqnilS_t{t e:TypeId}{ti:TIn}(ht:E0.ti t=some ti)(hd:ti.desc=.slice e){xo yo:Operand}:aBin2 E0 .eql t xo yo (.slice none 0 0) (.slice none 0 0)=some (.bool true):=by
 simp [aBin2,aBin,eqV,ht,hd]
theorem bs23:aBuildSlice E0 28 0 []=some (.row [] 4 false,fun id=>.slice (some ⟨id,0,none⟩) 0 0):=by kernel_rfl
theorem z36c:closed (.agg #[.int .i64 0,.string ByteArray.empty,.string ByteArray.empty,.int .i64 0])=true:=by kernel_rfl
theorem z36l:Nat.beq (Value.agg #[.int .i64 0,.string ByteArray.empty,.string ByteArray.empty,.int .i64 0]).cells.toList.length 4=true:=by kernel_rfl

theorem clone_spec(hro:RoadS Z E0 s){A:ASt}{S:Nat→Prop}{v:Value}{l:List StepD}(h:Steps (withRo E0 s) A S v l)(hl:l.length≤1000):
  CallW Z Tryz.prog 52 [v] A (fun r A'=>Steps (withRo E0 s) A' (fun b=>A.next≤b) r l∧Fr [] A A'):=by
 refine CallW.assume hro fun hnr=>?_
 refine CallW.of_code (withRo_ok E0_ok) hro.ro (f:=52) (fn:=Tryz.f52) fn52 rfl (n:=8) rfl (rs:=[.tmp 2]) rfl (by simp) (codeW_ok (withRo_ok E0_ok) hro.ro ?_)
 have h':=h
 rcases h with ⟨h1,rfl | rfl⟩ | ⟨b,o,cap,c,rfl,_⟩
 ·simp only [w_w,z_0,flat,cond_true,if_true,if_false,eq_self,Nat.reduceEqDiff,Nat.reduceLT,reduceCtorEq,eqnilS_t ti28 t28_desc]
  exact ⟨.inl ⟨h1,.inl rfl⟩,.refl _ _⟩
 ·have hN:Fr [] A (A.new (.row [] 4 false)):=.new
  obtain ⟨r,B,ha,hb,hf⟩:=append_all hnr (h'.fr hN (by simp)) rfl rfl (xt:=28) scell_len (wti.trans ti28) t28_desc (wti.trans ti56) t56_size (wti.trans ti28) (by rw [t28_desc];rfl) t56_zero z36c z36l (by omega) (by rw [t56_bytes,List.length_map];omega) scell_sg
  simp only [w_w,z_0,flat,aBuiltin,cond_true,if_true,if_false,eq_self,Nat.reduceEqDiff,Nat.reduceLT,reduceCtorEq,eqnilS_f ti28 t28_desc,bs23,ha]
  exact ⟨hb,hf⟩
 ·have hN:Fr [] A (A.new (.row [] 4 false)):=.new
  obtain ⟨r,B,ha,hb,hf⟩:=append_all hnr (h'.fr hN (by simp)) rfl rfl (xt:=28) scell_len (wti.trans ti28) t28_desc (wti.trans ti56) t56_size (wti.trans ti28) (by rw [t28_desc];rfl) t56_zero z36c z36l (by omega) (by rw [t56_bytes,List.length_map];omega) scell_sg
  simp only [w_w,z_0,flat,aBuiltin,cond_true,if_true,if_false,eq_self,Nat.reduceEqDiff,Nat.reduceLT,reduceCtorEq,eqnilS_f ti28 t28_desc,bs23,ha]
  exact ⟨hb,hf⟩

structure TimD where
 name:ByteArray
 ver:Int
 at_:Nat
 every:Nat
 steps:List StepD
def tcell(t:TimD)(dv:Value):List Value:=[.string t.name,.int .i64 t.ver,.int .u64 (t.at_:Int),.int .u64 (t.every:Int),dv]
def tval(t:TimD)(dv:Value):Value:=.agg #[.string t.name,.int .i64 t.ver,.int .u64 (t.at_:Int),.int .u64 (t.every:Int),dv]
theorem box25{a b c d e:Value}:aBox E0 30 (.agg #[a,b,c,d,e])=some (.row [a,b,c,d,e] 5 false,ptrTo):=by
 simp only [aBox,w_0];rfl
theorem al25:aAlloc E0 30=some (.row [.string ByteArray.empty,.int .i64 0,.int .u64 0,.int .u64 0,.slice none 0 0] 5 false,ptrTo):=by
 simp only [aAlloc,w_0];rfl
theorem st25{A:ASt}{b:Nat}{c0 c1 c2 c3 c4 a0 a1 a2 a3 a4:Value}{tl:Bool}(h:A.get b=some (.row [c0,c1,c2,c3,c4] 5 tl))(hs:singles [a0,a1,a2,a3,a4]=true):aStore E0 30 (.pointer (some ⟨b,0,none⟩)) (.agg #[a0,a1,a2,a3,a4]) A=some (A.set b (.row [a0,a1,a2,a3,a4] 5 tl)):=by
 have e:(Value.agg #[a0,a1,a2,a3,a4]).cells.toList=[a0,a1,a2,a3,a4]:=rfl
 simp only [aStore,h,w_0,e,hs];rfl
theorem st23{A:ASt}{b:Nat}{c0 c1 c2 c3 c4 v:Value}{tl:Bool}(h:A.get b=some (.row [c0,c1,c2,c3,c4] 5 tl))(hs:v.cells=#[v])(hv:single v=true):aStore E0 28 (.pointer (some ⟨b,4,none⟩)) v A=some (A.set b (.row [c0,c1,c2,c3,v] 5 tl)):=by
 have e:v.cells.toList=[v]:=by rw [hs]
 have e2:singles [v]=true:=by simp only [singles,hv,Bool.and_self]
 simp only [aStore,h,w_0,e,e2];rfl
theorem tim_sg{n:ByteArray}{v a e:Int}{r:Value}(h:Go.AE.single r=true):singles [.string n,.int .i64 v,.int .u64 a,.int .u64 e,r]=true:=by
 show (Go.AE.single r && true)=true
 rw [h];rfl
theorem cut5{a b c d e:Value}:cut [a,b,c,d,e] 0 5=some [a,b,c,d,e]:=rfl

theorem copied_spec(hro:RoadS Z E0 s){A:ASt}{S:Nat→Prop}{t:TimD}{dv:Value}(h:Steps (withRo E0 s) A S dv t.steps)(hl:t.steps.length≤1000):
  CallW Z Tryz.prog 31 [tval t dv] A (fun r A'=>∃ dv',r=tval t dv'∧Steps (withRo E0 s) A' (fun b=>A.next≤b) dv' t.steps∧Fr [] A A'):=by
 refine CallW.of_code (withRo_ok E0_ok) hro.ro (f:=31) (fn:=Tryz.f31) fn31 rfl (n:=8) rfl (rs:=[.cell 2 30]) rfl (by simp) (codeW_ok (withRo_ok E0_ok) hro.ro ?_)
 have hsd:=h.single
 simp only [w_w,z_0,aFieldAddr,cond_false,if_true,if_false,List.append_nil,List.nil_append,eq_self,Nat.reduceEqDiff,Nat.reduceLT,reduceCtorEq,tval,box25,al25,ptrTo]
 generalize hC:ASt.new (ASt.new A _) _=C
 obtain ⟨c1,c2,hn,hf⟩:=two_new hC
 clear hC
 refine CallT.mono (clone_spec hro (h.fr hf (by simp)) hl) ?_
 rintro r D ⟨hr,hf2⟩
 have d1:=(hf2.get _ (by omega) (by simp)).trans c1
 have d2:=(hf2.get _ (by omega) (by simp)).trans c2
 have g1:(D.set A.next (.row [.string t.name,.int .i64 t.ver,.int .u64 (t.at_:Int),.int .u64 (t.every:Int),r] 5 false)).get A.next=some (.row [.string t.name,.int .i64 t.ver,.int .u64 (t.at_:Int),.int .u64 (t.every:Int),r] 5 false):=by rw [ASt.get_set,if_pos rfl]
 have g2:(D.set A.next (.row [.string t.name,.int .i64 t.ver,.int .u64 (t.at_:Int),.int .u64 (t.every:Int),r] 5 false)).get (A.next+1)=D.get (A.next+1):=by rw [ASt.get_set,if_neg (by omega)]
 have g2:=g2.trans d2
 have hsr:singles [.string t.name,.int .i64 t.ver,.int .u64 (t.at_:Int),.int .u64 (t.every:Int),r]=true:=tim_sg hr.single
 simp only [w_w,z_0,aFieldAddr,cond_true,cond_false,if_true,if_false,eq_self,Nat.reduceEqDiff,Nat.reduceLT,reduceCtorEq,st23 d1 hr.cells1 hr.single,g1,cut5,st25 g2 hsr]
 have hA:C.next≤D.next:=hf2.next
 have f3:Fr [A.next,A.next+1] D ((D.set A.next (.row [.string t.name,.int .i64 t.ver,.int .u64 (t.at_:Int),.int .u64 (t.every:Int),r] 5 false)).set (A.next+1) (.row [.string t.name,.int .i64 t.ver,.int .u64 (t.at_:Int),.int .u64 (t.every:Int),r] 5 false)):=((Fr.refl _ _).set (.inl (by simp))).set (.inl (by simp))
 have g3:((D.set A.next (.row [.string t.name,.int .i64 t.ver,.int .u64 (t.at_:Int),.int .u64 (t.every:Int),r] 5 false)).set (A.next+1) (.row [.string t.name,.int .i64 t.ver,.int .u64 (t.at_:Int),.int .u64 (t.every:Int),r] 5 false)).get (A.next+1)=some (.row [.string t.name,.int .i64 t.ver,.int .u64 (t.at_:Int),.int .u64 (t.every:Int),r] 5 false):=by rw [ASt.get_set,if_pos rfl]
 refine ⟨r,rfl,((hr.imp (S':=fun b=>A.next+2≤b) (fun b hb _=>by omega)).fr f3 (fun b hb _=>by simp;omega)).imp (fun b hb _=>by omega),((hf.trans hf2).set (.inr (Nat.le_refl _))).set (.inr (by omega))⟩
end Go.Proofs.YtgcffmhpjphefaaGreatDoor

/- What a law's arguments hold: numbers, timers with steps. -/
namespace Go.Proofs.YtgcffmhpjphefaaGreatDoor
open Go Go.AE Go.ChangeShapes Go.WideShapes Go.ChangeAt Go.RowKit Go.Joins Go.Deep

set_option maxRecDepth 100000
theorem Tryz.own:ownKnob Tryz.prog.godebug=none:=by kernel_rfl
theorem Tryz.laidOut:laidOutB Tryz.prog=true:=by kernel_rfl
theorem wf_u64{n:Int}(h:(Lit.int .u64 n).wf=true):∃ m:Nat,n=(m:Int)∧m<18446744073709551616:=by
 simp only [Lit.wf,Bool.and_eq_true,decide_eq_true_eq] at h
 have h1:(0:Int)≤n:=h.1
 have h2:n≤18446744073709551615:=h.2
 exact ⟨n.toNat,by omega,by omega⟩
theorem wf_i64{n:Int}(h:(Lit.int .i64 n).wf=true):-9223372036854775808≤n∧n<9223372036854775808:=by
 simp only [Lit.wf,Bool.and_eq_true,decide_eq_true_eq] at h
 have h1:(-9223372036854775808:Int)≤n:=h.1
 have h2:n≤9223372036854775807:=h.2
 exact ⟨h1,by omega⟩
theorem add_plain{b o i:Nat}:(⟨b,o,none⟩:Addr).add i=⟨b,o+i,none⟩:=by
 unfold Addr.add
 split
 ·rename_i h;subst h;rfl
 ·rfl
theorem cap_unk{cap:Nat}(h:cap≤maxLen):cap≠unk:=by
 intro e
 subst e
 unfold unk maxLen at h
 exact absurd h (by decide)
theorem choose_ltS{n:Nat}{α:Type}[Inhabited α]{p:Nat→α→Prop}(h:∀ i,i<n→∃ y,p i y):∃ f:Nat→α,∀ i,i<n→p i (f i):=by
 have:∀ i,∃ y,i<n→p i y:=fun i=>by
  by_cases hi:i<n
  ·obtain ⟨y,hy⟩:=h i hi;exact ⟨y,fun _=>hy⟩
  ·exact ⟨default,fun h=>absurd h hi⟩
 exact ⟨fun i=>Classical.choose (this i),fun i hi=>Classical.choose_spec (this i) hi⟩
instance:Inhabited StepD:=⟨⟨0,ByteArray.empty,ByteArray.empty,0⟩⟩
def StepD.ok(y:StepD):Prop:=-9223372036854775808≤y.kind∧y.kind<9223372036854775808∧-9223372036854775808≤y.n∧y.n<9223372036854775808

section
variable {H:Type}{enc:TypeId×Value→H}{w:World}{base:Nat}{spare:Nat→Bool}{held:Bool}
def StepsAt(W:World)(v:Value)(l:List StepD):Prop:=
 (l=[]∧v=.slice none 0 0)∨∃ b o cap,v=.slice (some ⟨b,o,none⟩) l.length cap∧cap≠unk∧∀ i y,l[i]? = some y→∀ r c,(scell y)[r]? = some c→W.cell? ⟨b,o+(i*4+r),none⟩=some c

theorem open_steps{fuel:Nat}{v:Value}{x:DataW H×List MemPlace}(h:DataW.trod enc Tryz.prog w base spare held fuel 28 [v]=some x)(hs:∀ a len cap,v=.slice (some a) len cap→a.spot=none):
  ∃ l,StepsAt w v l∧∀ y∈l,y.ok:=by
 rcases open_slice Tryz.underlying28 h with ⟨h0,_⟩ | ⟨a,len,cap,m,n,D,Pl,h0,_,hl,hcap,hm,_,hx⟩
 ·cases h0;exact ⟨[],.inl ⟨rfl,rfl⟩,by simp⟩
 have hc:Tryz.prog.cellsOf 56=4:=by kernel_rfl
 rw [hc] at hx
 have hlm:len≤m:=by rw [hm];split<;>omega
 have each:∀ i,i<len→∃ y:StepD,y.ok∧∀ r v,(scell y)[r]? = some v→w.cell? (a.add (i*4+r))=some v:=by
  intro i hi
  obtain ⟨cs',h1,h2⟩:=hx i (by omega)
  obtain ⟨_,hlen,hcell⟩:=World.cells?_some h1
  match cs',hlen with
  | [c0,c1,c2,c3],_=>
   obtain ⟨y0,y1,y2,y3,k,_,_,g0,g1,g2,g3⟩:=trod_struct4 Tryz.underlying56 h2
   have k34:Tryz.prog.cellsOf 54=1:=by kernel_rfl
   have k9:Tryz.prog.cellsOf 9=1:=by kernel_rfl
   have k2:Tryz.prog.cellsOf 2=1:=by kernel_rfl
   simp only [k34,k9,k2,List.drop_succ_cons,List.drop_zero,List.take_succ_cons,List.take_zero] at g0 g1 g2 g3
   obtain ⟨k0,e0,_,l0⟩:=DataW.trod_int Tryz.underlying54 g0
   obtain ⟨s1,e1,_⟩:=DataW.trod_string Tryz.underlying9 g1
   obtain ⟨s2,e2,_⟩:=DataW.trod_string Tryz.underlying9 g2
   obtain ⟨n3,e3,_,l3⟩:=DataW.trod_int Tryz.underlying2 g3
   cases e0;cases e1;cases e2;cases e3
   have w0:=wf_i64 l0
   have w3:=wf_i64 l3
   refine ⟨⟨k0,s1,s2,n3⟩,⟨w0.1,w0.2,w3.1,w3.2⟩,fun r v hr=>?_⟩
   have hr4:r<4:=by
    by_cases hlt:r<4
    ·exact hlt
    ·rw [List.getElem?_eq_none (by show 4≤r;omega)] at hr
     cases hr
   have:=hcell r hr4
   rw [add_add] at this
   rw [this]
   exact hr
 obtain ⟨f,hf⟩:=choose_ltS each
 cases h0
 have hsp:=hs a len cap rfl
 obtain ⟨b,o,sp⟩:=a
 simp only at hsp
 subst hsp
 refine ⟨(List.range len).map f,.inr ⟨b,o,cap,by simp,cap_unk hcap,fun i y hy r c hr=>?_⟩,fun y hy=>?_⟩
 ·rw [List.getElem?_map] at hy
  obtain ⟨j,hj,rfl⟩:=Option.map_eq_some_iff.1 hy
  have hi:i<len:=by
   by_cases hlt:i<len
   ·exact hlt
   ·rw [List.getElem?_eq_none (by simp;omega)] at hj
    cases hj
  have:j=i:=by simpa [List.getElem?_range hi] using hj.symm
  subst this
  have:=(hf j hi).2 r c hr
  rwa [add_plain] at this
 ·obtain ⟨i,hi,rfl⟩:=List.mem_map.1 hy
  exact (hf i (List.mem_range.1 hi)).1

theorem trod_u64{fuel:Nat}{cs:List Value}{x:DataW H×List MemPlace}(h:DataW.trod enc Tryz.prog w base spare held fuel 22 cs=some x):∃ m:Nat,cs=[.int .u64 (m:Int)]∧m<18446744073709551616:=by
 obtain ⟨n,rfl,_,hw⟩:=DataW.trod_int Tryz.underlying22 h
 obtain ⟨m,rfl,hm⟩:=wf_u64 hw
 exact ⟨m,rfl,hm⟩

end

theorem scells_at:∀ {l:List StepD} {i:Nat} {v:Value},((l.map scell).flatten)[i]? = some v→∃ q y r,l[q]? = some y∧r<4∧i=q*4+r∧(scell y)[r]? = some v
 | [],i,v,h=>by simp at h
 | y::l,0,v,h=>⟨0,y,0,rfl,by omega,rfl,h⟩
 | y::l,1,v,h=>⟨0,y,1,rfl,by omega,rfl,h⟩
 | y::l,2,v,h=>⟨0,y,2,rfl,by omega,rfl,h⟩
 | y::l,3,v,h=>⟨0,y,3,rfl,by omega,rfl,h⟩
 | y::l,i+4,v,h=>by
  obtain ⟨q,z,r,h1,h2,h3,h4⟩:=scells_at (l:=l) (i:=i) (v:=v) h
  exact ⟨q+1,z,r,by simpa using h1,h2,by omega,h4⟩
theorem scell_closed{y:StepD}{r:Nat}{v:Value}(h:(scell y)[r]? = some v):closed v=true:=by
 match r,h with
 | 0,h=>cases h;rfl
 | 1,h=>cases h;rfl
 | 2,h=>cases h;rfl
 | 3,h=>cases h;rfl

end Go.Proofs.YtgcffmhpjphefaaGreatDoor

/- The environment. -/

/- What is a right step. -/
namespace Go.Proofs.YtgcffmhpjphefaaGreatDoor
open Go Go.AE
set_option maxRecDepth 10000
set_option maxHeartbeats 4000000
variable {Z:Go.AE.Road}

def NameOk(s:ByteArray):Prop:=1≤s.size∧s.size≤16
instance (s:ByteArray):Decidable (NameOk s):=by unfold NameOk;infer_instance
def StepD.good(y:StepD):Prop:=NameOk y.key∧((y.kind=1∧y.val.size≤60∧y.n=0)∨((y.kind=2∨y.kind=4)∧y.val.size=0∧y.n=0)∨(y.kind=3∧y.val.size=0))
instance (y:StepD):Decidable y.good:=by unfold StepD.good;infer_instance
theorem lenS{nm:ByteArray}{A:ASt}:aLen E0 9 (.string nm) A=some (.int .i64 (nm.size:Int)):=by
 simp only [aLen,ti9,t9_desc];rfl
theorem empty_iff{s:ByteArray}:s={ data:=#[] }↔s.size=0:=by
 constructor
 ·rintro rfl;rfl
 ·intro h
  obtain ⟨d⟩:=s
  have:d.size=0:=h
  simpa using this
theorem name_spec{A:ASt}{s:ByteArray}:CallW Z Tryz.prog 92 [.string s] A (fun r A'=>r=.bool (decide (NameOk s))∧A'=A):=by
 refine CallW.of_code E0_ok E0_ro fn92 rfl (n:=10) rfl (rs:=[.tmp 2]) rfl (by simp) (codeW_ok E0_ok E0_ro ?_)
 by_cases h:s.size=0
 ·have h1:(s≠{ data:=#[] })=False:=eq_false (by simpa using empty_iff.2 h)
  have h2:NameOk s=False:=eq_false (by unfold NameOk;omega)
  simp only [z_0,flat,cond_true,cond_false,if_true,if_false,eq_self,Nat.reduceEqDiff,Nat.reduceLT,reduceCtorEq,b_sneq,h1,h2,undef]
 ·have h1:(s≠{ data:=#[] })=True:=eq_true fun e=>h (empty_iff.1 e)
  by_cases h3:s.size≤16
  ·have h2:NameOk s=True:=eq_true (by unfold NameOk;omega)
   have h4:((s.size:Int)≤16)=True:=eq_true (by omega)
   simp only [z_0,flat,aBuiltin,cond_true,if_true,if_false,eq_self,Nat.reduceEqDiff,Nat.reduceLT,reduceCtorEq,b_sneq,lenS,h1,h2,h4]
  ·have h2:NameOk s=False:=eq_false (by unfold NameOk;omega)
   have h4:((s.size:Int)≤16)=False:=eq_false (by omega)
   simp only [z_0,flat,aBuiltin,cond_true,if_true,if_false,eq_self,Nat.reduceEqDiff,Nat.reduceLT,reduceCtorEq,b_sneq,lenS,h1,h2,h4]
theorem rname_spec{A:ASt}{s:ByteArray}:CallW Z Tryz.prog 44 [.string s] A (fun r A'=>r=.bool (decide (NameOk s))∧A'=A):=by
 refine CallW.of_code E0_ok E0_ro fn44 rfl (n:=11) rfl (rs:=[.tmp 2]) rfl (by simp) (codeW_ok E0_ok E0_ro ?_)
 by_cases h:s.size=0
 ·have h1:((s.size:Int)≥1)=False:=eq_false (by omega)
  have h2:NameOk s=False:=eq_false (by unfold NameOk;omega)
  simp only [z_0,flat,aBuiltin,cond_true,cond_false,if_true,if_false,eq_self,Nat.reduceEqDiff,Nat.reduceLT,reduceCtorEq,lenS,h1,h2,undef]
 ·have h1:((s.size:Int)≥1)=True:=eq_true (by omega)
  by_cases h3:s.size≤16
  ·have h2:NameOk s=True:=eq_true (by unfold NameOk;omega)
   have h4:((s.size:Int)≤16)=True:=eq_true (by omega)
   simp only [z_0,flat,aBuiltin,cond_true,if_true,if_false,eq_self,Nat.reduceEqDiff,Nat.reduceLT,reduceCtorEq,lenS,h1,h2,h4]
  ·have h2:NameOk s=False:=eq_false (by unfold NameOk;omega)
   have h4:((s.size:Int)≤16)=False:=eq_false (by omega)
   simp only [z_0,flat,aBuiltin,cond_true,if_true,if_false,eq_self,Nat.reduceEqDiff,Nat.reduceLT,reduceCtorEq,lenS,h1,h2,h4]

abbrev stepV(y:StepD):Value:=.agg #[.int .i64 y.kind,.string y.key,.string y.val,.int .i64 y.n]
theorem boxS{y:StepD}:aBox E0 56 (stepV y)=some (.row (scell y) 4 false,ptrTo):=by
 simp only [aBox,ti56,t56_size,Value.cells]
 rfl
theorem right_spec{A:ASt}{y:StepD}:CallW Z Tryz.prog 70 [stepV y] A (fun r A'=>r=.bool (decide y.good)∧Fr [] A A'):=by
 refine CallW.of_code E0_ok E0_ro fn70 rfl (n:=47) rfl (rs:=[.tmp 2]) rfl (by simp) (codeW_ok E0_ok E0_ro ?_)
 simp only [z_0,flat,aFieldAddr,cond_true,cond_false,if_true,if_false,eq_self,Nat.reduceEqDiff,Nat.reduceLT,reduceCtorEq,boxS,ptrTo]
 generalize hCd:ASt.new A _=C
 have c1:C.get A.next=some (.row [.int .i64 y.kind,.string y.key,.string y.val,.int .i64 y.n] 4 false):=by rw [← hCd,ASt.get_new,if_pos rfl];rfl
 have fC:Fr [] A C:=⟨by rw [← hCd,ASt.next_new];omega,fun b hb _=>by rw [← hCd,ASt.get_new,if_neg (by omega)]⟩
 generalize A.next=p at c1
 clear hCd
 have hg:∀ b,(b=true↔y.good)→Value.bool b=Value.bool (decide y.good)∧Fr [] A C:=fun b hb=>⟨by rw [Value.bool.injEq,Bool.eq_iff_iff,decide_eq_true_iff];exact hb,fC⟩

 simp only [z_0,flat,cond_true,if_true,if_false,eq_self,Nat.reduceEqDiff,Nat.reduceLT,reduceCtorEq,scell]
 by_cases k1:y.kind=1
 ·simp only [z_0,aFieldAddr,cond_false,if_true,if_false,List.append_nil,List.nil_append,eq_self,Nat.reduceEqDiff,Nat.reduceLT,reduceCtorEq,c1,k1]
  refine CallT.mono (CallT.of_call name_spec) ?_
  rintro _ _ ⟨rfl,rfl⟩
  by_cases hn:NameOk y.key
  all_goals by_cases hv:((y.val.size:Nat):Int)≤60
  all_goals by_cases h0:y.n=0
  all_goals simp only [z_0,flat,aFieldAddr,aBuiltin,cond_true,cond_false,if_true,if_false,eq_self,Nat.reduceEqDiff,Nat.reduceLT,reduceCtorEq,c1,lenS,undef,hn,hv,h0,k1]
  all_goals refine hg _ ?_
  all_goals unfold StepD.good
  all_goals simp only [hn,k1,h0,true_and,false_and,and_true,and_false,or_false,Bool.false_eq_true,Int.reduceEq,true_iff,false_iff]
  all_goals omega
 have k1':(y.kind=1)=False:=eq_false k1
 by_cases k24:y.kind=2∨y.kind=4
 ·have hval:(y.val={ data:=#[] })=(y.val.size=0):=propext empty_iff
  rcases k24 with k | k
  all_goals simp only [z_0,flat,aFieldAddr,cond_true,cond_false,if_true,if_false,List.append_nil,List.nil_append,eq_self,Nat.reduceEqDiff,Nat.reduceLT,reduceCtorEq,c1,k,Int.reduceEq]
  all_goals refine CallT.mono (CallT.of_call name_spec) ?_
  all_goals rintro _ _ ⟨rfl,rfl⟩
  all_goals by_cases hn:NameOk y.key
  all_goals by_cases hv:y.val.size=0
  all_goals by_cases h0:y.n=0
  all_goals simp only [z_0,flat,aFieldAddr,cond_true,cond_false,if_true,if_false,eq_self,Nat.reduceEqDiff,Nat.reduceLT,reduceCtorEq,c1,b_seql,hval,undef,hn,hv,h0,k]
  all_goals refine hg _ ?_
  all_goals unfold StepD.good
  all_goals simp only [hn,k,h0,hv,false_and,and_true,and_false,or_false,or_true,Bool.false_eq_true,Int.reduceEq]
 have k2':(y.kind=2)=False:=eq_false fun h=>k24 (.inl h)
 have k4':(y.kind=4)=False:=eq_false fun h=>k24 (.inr h)
 by_cases k3:y.kind=3
 ·have hval:(y.val={ data:=#[] })=(y.val.size=0):=propext empty_iff
  simp only [z_0,flat,aFieldAddr,cond_true,cond_false,if_true,if_false,List.append_nil,List.nil_append,eq_self,Nat.reduceEqDiff,Nat.reduceLT,reduceCtorEq,c1,k3,Int.reduceEq]
  refine CallT.mono (CallT.of_call name_spec) ?_
  rintro _ _ ⟨rfl,rfl⟩
  by_cases hn:NameOk y.key
  all_goals by_cases hv:y.val.size=0
  all_goals simp only [z_0,flat,aFieldAddr,cond_true,cond_false,if_true,if_false,eq_self,Nat.reduceEqDiff,Nat.reduceLT,reduceCtorEq,c1,b_seql,hval,undef,hn,hv,k3]
  all_goals refine hg _ ?_
  all_goals unfold StepD.good
  all_goals simp only [hn,k3,hv,true_and,false_and,and_true,and_false,or_false,or_true,Bool.false_eq_true,Int.reduceEq]
 have k3':(y.kind=3)=False:=eq_false k3
 simp only [z_0,flat,cond_true,if_true,if_false,eq_self,Nat.reduceEqDiff,Nat.reduceLT,reduceCtorEq,k1',k2',k3',k4']
 refine hg _ ?_
 unfold StepD.good
 simp only [k1',k2',k3',k4',false_and,and_false,or_false,Bool.false_eq_true]
theorem rright_spec{A:ASt}{y:StepD}:CallW Z Tryz.prog 73 [stepV y] A (fun r A'=>r=.bool (decide y.good)∧Fr [] A A'):=by
 refine CallW.of_code E0_ok E0_ro fn73 rfl (n:=45) rfl (rs:=[.tmp 2]) rfl (by simp) (codeW_ok E0_ok E0_ro ?_)
 simp only [z_0,flat,aFieldAddr,cond_true,cond_false,if_true,if_false,eq_self,Nat.reduceEqDiff,Nat.reduceLT,reduceCtorEq,boxS,ptrTo]
 generalize hCd:ASt.new A _=C
 have c1:C.get A.next=some (.row [.int .i64 y.kind,.string y.key,.string y.val,.int .i64 y.n] 4 false):=by rw [← hCd,ASt.get_new,if_pos rfl];rfl
 have fC:Fr [] A C:=⟨by rw [← hCd,ASt.next_new];omega,fun b hb _=>by rw [← hCd,ASt.get_new,if_neg (by omega)]⟩
 generalize A.next=p at c1
 clear hCd
 have hg:∀ b,(b=true↔y.good)→Value.bool b=Value.bool (decide y.good)∧Fr [] A C:=fun b hb=>⟨by rw [Value.bool.injEq,Bool.eq_iff_iff,decide_eq_true_iff];exact hb,fC⟩

 simp only [z_0,if_true,if_false,List.append_nil,List.nil_append,eq_self,Nat.reduceEqDiff,Nat.reduceLT,reduceCtorEq,scell]
 refine CallT.mono (CallT.of_call rname_spec) ?_
 rintro _ _ ⟨rfl,rfl⟩
 by_cases k1:y.kind=1
 ·skip
  by_cases hn:NameOk y.key
  all_goals by_cases hv:((y.val.size:Nat):Int)≤60
  all_goals by_cases h0:y.n=0
  all_goals simp only [z_0,flat,aFieldAddr,aBuiltin,cond_true,cond_false,if_true,if_false,eq_self,Nat.reduceEqDiff,Nat.reduceLT,reduceCtorEq,c1,lenS,undef,hn,hv,h0,k1]
  all_goals refine hg _ ?_
  all_goals unfold StepD.good
  all_goals simp only [hn,k1,h0,true_and,false_and,and_true,and_false,or_false,Bool.false_eq_true,Int.reduceEq,true_iff,false_iff]
  all_goals omega
 have k1':(y.kind=1)=False:=eq_false k1
 by_cases k24:y.kind=2∨y.kind=4
 ·have hval:(y.val={ data:=#[] })=(y.val.size=0):=propext empty_iff
  rcases k24 with k | k
  all_goals by_cases hn:NameOk y.key
  all_goals by_cases hv:y.val.size=0
  all_goals by_cases h0:y.n=0
  all_goals simp only [z_0,flat,aFieldAddr,cond_true,cond_false,if_true,if_false,eq_self,Nat.reduceEqDiff,Nat.reduceLT,reduceCtorEq,c1,b_seql,hval,undef,hn,hv,h0,k,Int.reduceEq]
  all_goals refine hg _ ?_
  all_goals unfold StepD.good
  all_goals simp only [hn,k,h0,hv,false_and,and_true,and_false,or_false,or_true,Bool.false_eq_true,Int.reduceEq]
 have k2':(y.kind=2)=False:=eq_false fun h=>k24 (.inl h)
 have k4':(y.kind=4)=False:=eq_false fun h=>k24 (.inr h)
 by_cases k3:y.kind=3
 ·have hval:(y.val={ data:=#[] })=(y.val.size=0):=propext empty_iff
  by_cases hn:NameOk y.key
  all_goals by_cases hv:y.val.size=0
  all_goals simp only [z_0,flat,aFieldAddr,cond_true,cond_false,if_true,if_false,eq_self,Nat.reduceEqDiff,Nat.reduceLT,reduceCtorEq,c1,b_seql,hval,undef,hn,hv,k3,Int.reduceEq]
  all_goals refine hg _ ?_
  all_goals unfold StepD.good
  all_goals simp only [hn,k3,hv,true_and,false_and,and_true,and_false,or_false,or_true,Bool.false_eq_true,Int.reduceEq]
 have k3':(y.kind=3)=False:=eq_false k3
 simp only [z_0,flat,aFieldAddr,cond_true,cond_false,if_true,if_false,eq_self,Nat.reduceEqDiff,Nat.reduceLT,reduceCtorEq,c1,k1',k2',k3',k4']
 refine hg _ ?_
 unfold StepD.good
 simp only [k1',k2',k3',k4',false_and,and_false,or_false,Bool.false_eq_true]
end Go.Proofs.YtgcffmhpjphefaaGreatDoor

/- A queue with nothing in it: what is asked of it, and one that is laid there. -/
namespace Go.Proofs.YtgcffmhpjphefaaGreatDoor
open Go Go.AE
set_option maxRecDepth 10000
set_option maxHeartbeats 8000000
variable {Z:Go.AE.Road}

section
variable {E:Env}{T:Tmps}{A:ASt}{C:Tgt→List Value→ASt→(Value→ASt→Prop)→Prop}{K:Value→ASt→Prop}
theorem oneW_makeInterface{t:TypeId}{x:Operand}:oneW E C (.makeInterface t x) T A K=arW C K (aOp E (.makeInterface t x) T A):=oneW_op rfl
theorem aOp_makeInterface{t:TypeId}{x:Operand}:aOp E (.makeInterface t x) T A=(match ev T x with
  | some v=>ofVal (aMakeIface E t v) A "makeInterface"
  | none=>.bad "makeInterface"):=by rw [aOp_def];rfl
theorem aOp_typeAssert{x:Operand}{u t:TypeId}{ok:Bool}:aOp E (.typeAssert x u t ok) T A=(match ev T x with
  | some v=>ofVal (aTypeAssert E v t ok) A "typeAssert"
  | none=>.bad "typeAssert"):=by rw [aOp_def];rfl
theorem aInvoke_method{t:TypeId}{v r:Value}{name:String}{f:FuncId}{rest cs:List Value}(h:aMethod E t v name A=some (f,r)):aInvoke E (.method name) (.iface t v::rest) cs A=aEnter E f (r::rest) A:=by
 simp only [aInvoke,h]
end
theorem mifE{b:Option Addr}:aMakeIface E0 90 (.pointer b)=some (.iface 90 (.pointer b)):=by kernel_rfl
theorem mifT{k:ByteArray}{a:Int}:aMakeIface E0 74 (.agg #[.string k,.int .u64 a])=some (.iface 74 (.agg #[.string k,.int .u64 a])):=by kernel_rfl
theorem taT{k:ByteArray}{a:Int}:aTypeAssert E0 (.iface 74 (.agg #[.string k,.int .u64 a])) 74 false=some (.agg #[.string k,.int .u64 a]):=by kernel_rfl
theorem mPush{b:Option Addr}{A:ASt}:aMethod E0 90 (.pointer b) "Push" A=some (162,.pointer b):=by kernel_rfl
theorem mLen{b:Option Addr}{A:ASt}:aMethod E0 90 (.pointer b) "Len" A=some (97,.pointer b):=by kernel_rfl
theorem bld80{x:Option Addr}:aBuild E0 95 [(0,.pointer x)]=some (.agg #[.pointer x]):=by kernel_rfl
theorem bld78{x:Option Nat}:aBuild E0 93 [(1,.map x)]=some (.agg #[.slice none 0 0,.map x]):=by kernel_rfl
theorem bld71{k:ByteArray}{a:Int}:aBuild E0 74 [(0,.string k),(1,.int .u64 a)]=some (.agg #[.string k,.int .u64 a]):=by kernel_rfl
theorem box78{x y:Value}:aBox E0 93 (.agg #[x,y])=some (.row [x,y] 2 false,ptrTo):=by
 simp only [aBox,w_qu,Value.cells]
theorem box80{x:Value}:aBox E0 95 (.agg #[x])=some (.row [x] 1 false,ptrTo):=by
 simp only [aBox,w_qu,Value.cells]
theorem eqnilQ{xo yo:Operand}{x:Option Addr}:aBin2 E0 .eql 63 xo yo (.pointer x) (.pointer none)=some (.bool x.isNone):=b_ptr_nil ti63 t63_desc
structure Q0(A:ASt)(q e w:Nat):Prop where
 hq:A.get q=some (.row [.pointer (some ⟨e,0,none⟩)] 1 false)
 he:A.get e=some (.row [.slice none 0 0,.map (some w)] 2 false)
 hw:A.get w=some (.map [] 0)
 lt:q<A.next∧e<A.next∧w<A.next
 ne:e≠w∧q≠w∧q≠e
theorem Q0.fr{A B:ASt}{q e w:Nat}{own:List Nat}(h:Q0 A q e w)(hf:Fr own A B)(h1:q∉own)(h2:e∉own)(h3:w∉own):Q0 B q e w:=
 ⟨(hf.get q h.lt.1 h1).trans h.hq,(hf.get e h.lt.2.1 h2).trans h.he,(hf.get w h.lt.2.2 h3).trans h.hw,⟨Nat.lt_of_lt_of_le h.lt.1 hf.next,Nat.lt_of_lt_of_le h.lt.2.1 hf.next,Nat.lt_of_lt_of_le h.lt.2.2 hf.next⟩,h.ne⟩
theorem qnew_spec{A:ASt}:CallW Z Tryz.prog 29 [] A (fun r A'=>∃ q e w,r=.pointer (some ⟨q,0,none⟩)∧Q0 A' q e w∧A.next≤q∧A.next≤e∧A.next≤w∧Fr [] A A'):=by
 refine CallW.of_code E0_ok E0_ro fn29 rfl (n:=6) rfl (rs:=[.tmp 0]) rfl (by simp) (codeW_ok E0_ok E0_ro ?_)
 simp only [z_0,flat,cond_true,if_true,if_false,eq_self,Nat.reduceEqDiff,Nat.reduceLT,reduceCtorEq,bld78,box78,bld80,box80,ptrTo]
 generalize hC:ASt.new (ASt.new (ASt.new A _) _) _=C
 have hg:∀ b,C.get b=if b=A.next+1+1 then some (.row [.pointer (some ⟨A.next+1,0,none⟩)] 1 false) else if b=A.next+1 then some (.row [.slice none 0 0,.map (some A.next)] 2 false) else if b=A.next then some (.map [] 0) else A.get b:=fun b=>by
  rw [← hC]
  simp only [ASt.get_new,ASt.next_new]
 have hn:C.next=A.next+3:=by rw [← hC];simp only [ASt.next_new]
 refine ⟨A.next+1+1,A.next+1,A.next,rfl,⟨?_,?_,?_,by omega,by omega⟩,by omega,by omega,by omega,⟨by omega,fun b hb _=>?_⟩⟩
 ·rw [hg,if_pos rfl]
 ·rw [hg,if_neg (by omega),if_pos rfl]
 ·rw [hg,if_neg (by omega),if_neg (by omega),if_pos rfl]
 ·rw [hg,if_neg (by omega),if_neg (by omega),if_neg (by omega)]
theorem fresh_ta{x:Operand}{u v:TypeId}{ok:Bool}{E:Env}:freshOp E (.typeAssert x u v ok)=false:=by simp only [freshOp]
theorem quiet_ta{x:Operand}{u v:TypeId}{ok:Bool}{E:Env}:quietOp E (.typeAssert x u v ok)=true:=by simp only [quietOp]
theorem bs68{k:ByteArray}{a:Int}:aBuildSlice E0 71 1 [(0,.agg #[.string k,.int .u64 a])]=some (.row [.string k,.int .u64 a] 2 false,fun id=>.slice (some ⟨id,0,none⟩) 1 1):=by
 simp only [aBuildSlice,w_qu];rfl
theorem st68{A:ASt}{e:Nat}{x y:Value}{v:Value}(h:A.get e=some (.row [x,y] 2 false))(hv:v.cells=#[v]∧Go.AE.single v=true):aStore E0 71 (.pointer (some ⟨e,0,none⟩)) v A=some (A.set e (.row [v,y] 2 false)):=by
 have e1:v.cells.toList=[v]:=by rw [hv.1]
 have e2:singles [v]=true:=by simp only [singles,hv.2,Bool.and_self]
 simp only [aStore,h,w_qu,e1,e2];rfl
theorem va71{k:ByteArray}{a:Int}:valEq (.agg #[.string k,.int .u64 a]) (.agg #[.string k,.int .u64 a])=true:=by simp [valEq,vEq,vStep,flatEq,lEq,bytesEq_iff]

theorem z71c:closed (.agg #[.string ByteArray.empty,.int .u64 0])=true:=by kernel_rfl
theorem z71l:Nat.beq (Value.agg #[.string ByteArray.empty,.int .u64 0]).cells.toList.length 2=true:=by kernel_rfl
end Go.Proofs.YtgcffmhpjphefaaGreatDoor

/- The wheel's place, put, drop. -/
namespace Go.Proofs.YtgcffmhpjphefaaGreatDoor
open Go Go.AE

def wrow(now all:Nat)(ms:List Nat):List Value:=.int .u64 (now:Int)::.map (some all)::ms.map (fun i=>Value.map (some i))

noncomputable def lvl(now at_:Nat):Nat:=(Lib.bitLen (at_ ^^^ now)-1) / 4
noncomputable def plc(now at_:Nat):Nat:=if 4≤lvl now at_ then 64 else 16*lvl now at_+at_ / 2 ^ (4*lvl now at_) % 16

theorem wrow_slot{now all:Nat}{ms:List Nat}{k:Nat}(h:k<ms.length):nth (wrow now all ms) (2+k)=some (.map (some ms[k])):=by
 rw [nth_eq];simp [wrow,h,Nat.add_comm 2 k]

theorem wrow_now{now all:Nat}{ms:List Nat}:nth (wrow now all ms) 0=some (.int .u64 (now:Int)):=rfl
theorem wrow_all{now all:Nat}{ms:List Nat}:nth (wrow now all ms) 1=some (.map (some all)):=rfl

theorem eqnil25{xo yo:Operand}{x:Option Addr}:aBin2 E0 .eql 65 xo yo (.pointer x) (.pointer none)=some (.bool x.isNone):=b_ptr_nil ti65 t65_desc

theorem plc_lt{now a:Nat}:plc now a<65:=by
 unfold plc
 split
 ·omega
 ·have:a / 2 ^ (4*lvl now a) % 16<16:=Nat.mod_lt _ (by omega)
  omega

theorem lvl_int{b:Nat}(h:b≤64):IntKind.i64.wrap ((IntKind.i64.wrap ((b:Int)-1)).tdiv 4)=(((b-1) / 4:Nat):Int):=by
 have:∀ b:Fin 65,IntKind.i64.wrap ((IntKind.i64.wrap (((b.1:Nat):Int)-1)).tdiv 4)=(((b.1-1) / 4:Nat):Int):=by decide +kernel
 exact this ⟨b,by omega⟩

variable {Z:Go.AE.Road}
set_option maxRecDepth 10000

theorem len64(x:Nat)(hx:x<18446744073709551616)(A:ASt):CallT Z Tryz.prog (.fn 61) [.int .u64 (x:Int)] A (fun v A'=>v=.int .i64 ((Lib.bitLen x:Nat):Int)∧A'=A):=
 CallW.of_flat rfl rfl fun w=>by
  have:=Tryz.bits_Len64 (x:Int) w (by omega) (by omega)
  simpa using this

theorem place_walk{A:ASt}{W now all a:Nat}{ms:List Nat}(hW:A.get W=some (.row (wrow now all ms) 67 false))(hm:ms.length=65)(hn:now<18446744073709551616)(ha:a<18446744073709551616):
  CallW Z Tryz.prog 53 [.pointer (some ⟨W,0,none⟩),.int .u64 (a:Int)] A (fun v A'=>v=.map (some (ms[plc now a]'(by rw [hm];exact plc_lt)))∧∃ k,A'={ A with next:=A.next+k }):=by
 refine CallW.of_code E0_ok E0_ro fn53 rfl (n:=33) rfl (rs:=[.tmp 4]) rfl (by simp) (codeW_ok E0_ok E0_ro ?_)
 have hx:a ^^^ now<18446744073709551616:=Nat.xor_lt_two_pow (n:=64) (by omega) (by omega)
 have hb:Lib.bitLen (a ^^^ now)≤64:=Lib.bitLen_le _ _ (by omega) hx
 simp only [hW,wrow_now,z_0,flat,aFieldAddr,cond_true,cond_false,if_true,if_false,List.append_nil,List.nil_append,eq_self,Nat.reduceEqDiff,Nat.reduceAdd,Nat.reduceLT,reduceCtorEq,b_xor64 ha hn]
 refine CallT.mono (len64 _ hx A) ?_
 rintro _ A' ⟨rfl,hA'⟩
 subst hA'
 simp only [z_0,flat,cond_true,if_true,if_false,eq_self,Nat.reduceEqDiff,Nat.reduceLT,reduceCtorEq,b_quo (show (4:Int)≠0 by decide),lvl_int hb]
 refine brW_dec (fun h4=>?_) (fun h4=>?_)
 ·have h4':4≤lvl now a:=by unfold lvl;omega
  have hp:plc now a=64:=if_pos h4'
  have e66:nth (wrow now all ms) 66=some (.map (some (ms[plc now a]'(by rw [hm];exact plc_lt)))):=by
   have:=wrow_slot (now:=now) (all:=all) (ms:=ms) (k:=64) (by omega)
   simp only [hp]
   exact this
  simp only [hW,z_0,aFieldAddr,cond_false,if_true,if_false,eq_self,Nat.reduceEqDiff,Nat.reduceLT,reduceCtorEq,e66]
  exact ⟨0,rfl⟩
 ·have hl:lvl now a<4:=by unfold lvl;omega
  have hp:plc now a=16*lvl now a+a / 2 ^ (4*lvl now a) % 16:=if_neg (by omega)
  have e4:IntKind.i64.wrap (4*((lvl now a:Nat):Int))=((4*lvl now a:Nat):Int):=by rw [IntKind.wrap_i64];omega
  have hr:a / 2 ^ (4*lvl now a) % 16<16:=Nat.mod_lt _ (by omega)
  have hlv:(Lib.bitLen (a ^^^ now)-1) / 4=lvl now a:=rfl
  have esl:nth (wrow now all ms) (2+lvl now a*16+a / 2 ^ (4*lvl now a) % 16)=some (.map (some (ms[plc now a]'(by rw [hm];exact plc_lt)))):=by
   have:=wrow_slot (now:=now) (all:=all) (ms:=ms) (k:=plc now a) (by rw [hm];exact plc_lt)
   rw [← this,hp]
   congr 1;omega
  rw [hlv]
  generalize lvl now a=lv at hl e4 hr esl
  have esh:∀ xo yo t,aBin2 E0 .shr t xo yo (.int .u64 (a:Int)) (.int .i64 ((4*lv:Nat):Int))=some (.int .u64 ((a / 2 ^ (4*lv):Nat):Int)):=fun xo yo t=>b_shr64 (by omega)
  have ere:∀ xo yo t,aBin2 E0 .rem t xo yo (.int .u64 ((a / 2 ^ (4*lv):Nat):Int)) (.int .u64 16)=some (.int .u64 ((a / 2 ^ (4*lv) % 16:Nat):Int)):=fun xo yo t=>b_rem_nat (b:=16) (by decide)
  generalize a / 2 ^ (4*lv)=q at hr esl esh ere
  generalize q % 16=r at hr esl ere
  have ei1:∀ o,aIndexAddr E0 99 (.pointer (some ⟨W,o,none⟩)) (.int .i64 (lv:Int))=some (.pointer (some ⟨W,o+lv*16,none⟩)):=fun o=>by
   have:=indexAddr_arr (A:=A') ti99 t99_desc ti98 (kd:=.i64) (k:=lv) (b:=W) (off:=o) hl
   rwa [t98_size] at this
  have ei2:∀ o,aIndexAddr E0 98 (.pointer (some ⟨W,o,none⟩)) (.int .u64 (r:Int))=some (.pointer (some ⟨W,o+r,none⟩)):=fun o=>by
   have:=indexAddr_arr (A:=A') ti98 t98_desc ti97 (kd:=.u64) (k:=r) (b:=W) (off:=o) hr
   rwa [t97_size,Nat.mul_one] at this
  simp only [z_0]
  refine CodeW.quiet E0_ok E0_ro mixed (by kernel_rfl) (by kernel_rfl) ?_
  simp only [hW,z_0,flat,aFieldAddr,cond_true,cond_false,if_true,if_false,List.length_cons,List.length_nil,eq_self,Nat.reduceEqDiff,Nat.reduceAdd,Nat.reduceLT,reduceCtorEq,quietW_nil,quietW_arr,quietW_cons,aStill,freshOp,quietOp,E0_ron,get_empty,get_next,ofVal_none,valEq_int,valEq_map,valEq_ptr,List.length_cons,List.length_nil,e4,esh,ere,ei1,ei2,esl]
  exact ⟨13,rfl⟩
end Go.Proofs.YtgcffmhpjphefaaGreatDoor

/- The wheel's put and drop. -/
namespace Go.Proofs.YtgcffmhpjphefaaGreatDoor
open Go Go.AE

abbrev TM:=ByteArray→Option Nat
noncomputable def TM.put(M:TM)(k:ByteArray)(a:Nat):TM:=fun j=>if j=k then some a else M j
noncomputable def TM.del(M:TM)(k:ByteArray):TM:=fun j=>if j=k then none else M j

def Holds(A:ASt)(m:Nat)(M:TM):Prop:=∃ l ck,A.get m=some (.map (uEnts l) ck)∧MapOK l ck∧∀ k,uget l k=M k

theorem Holds.congr{A A':ASt}{m:Nat}{M:TM}(h:Holds A m M)(e:A'.get m=A.get m):Holds A' m M:=by
 obtain ⟨l,ck,h1,h2⟩:=h
 exact ⟨l,ck,by rw [e];exact h1,h2⟩
theorem Holds.ext{A:ASt}{m:Nat}{M M':TM}(h:Holds A m M)(e:∀ k,M k=M' k):Holds A m M':=by
 obtain ⟨l,ck,h1,h2,h3⟩:=h
 exact ⟨l,ck,h1,h2,fun k=>(h3 k).trans (e k)⟩

noncomputable def TM.at_(M:TM)(now i:Nat):TM:=fun k=>(M k).filter fun a=>decide (plc now a=i)

structure WheelAt(A:ASt)(W all:Nat)(ms:List Nat)(now:Nat)(M:TM):Prop where
 row:A.get W=some (.row (wrow now all ms) 67 false)
 len:ms.length=65
 nowlt:now<18446744073709551616
 nodup:(W::all::ms).Nodup
 below:∀ b∈W::all::ms,b<A.next
 allm:Holds A all M
 slot:∀ i m,ms[i]? = some m→Holds A m (M.at_ now i)
 lt:∀ k a,M k=some a→a<18446744073709551616
 gt:∀ k a,M k=some a→now<a

theorem WheelAt.congr{A A':ASt}{W all now:Nat}{ms:List Nat}{M:TM}(h:WheelAt A W all ms now M)(hn:A.next≤A'.next)(e:∀ b∈W::all::ms,A'.get b=A.get b):WheelAt A' W all ms now M:=
 ⟨by rw [e W (by simp)];exact h.row,h.len,h.nowlt,h.nodup,fun b hb=>Nat.lt_of_lt_of_le (h.below b hb) hn,h.allm.congr (e all (by simp)),fun i m hm=>(h.slot i m hm).congr (e m (by simp [List.mem_of_getElem? hm])),h.lt,h.gt⟩

theorem WheelAt.plc{A:ASt}{W all now:Nat}{ms:List Nat}{M:TM}(h:WheelAt A W all ms now M)(a:Nat):plc now a<ms.length:=by rw [h.len];exact plc_lt

theorem WheelAt.ne_all{A:ASt}{W all now:Nat}{ms:List Nat}{M:TM}(h:WheelAt A W all ms now M){m:Nat}(hm:m∈ms):m≠W∧m≠all∧all≠W:=by
 have:=h.nodup
 simp only [List.nodup_cons,List.mem_cons,not_or] at this
 exact ⟨fun e=>this.1.2 (e ▸ hm),fun e=>this.2.1 (e ▸ hm),fun e=>this.1.1 e.symm⟩

theorem WheelAt.inj{A:ASt}{W all now:Nat}{ms:List Nat}{M:TM}(h:WheelAt A W all ms now M){i j m:Nat}(hi:ms[i]? = some m)(hj:ms[j]? = some m):i=j:=by
 have:=h.nodup
 simp only [List.nodup_cons] at this
 obtain ⟨hi',hi⟩:=List.getElem?_eq_some_iff.1 hi
 obtain ⟨hj',hj⟩:=List.getElem?_eq_some_iff.1 hj
 have hp:=List.pairwise_iff_getElem.1 this.2.2
 rcases Nat.lt_trichotomy i j with hlt | e | hlt
 ·exact absurd (hi.trans hj.symm) (hp i j hi' hj' hlt)
 ·exact e
 ·exact absurd (hj.trans hi.symm) (hp j i hj' hi' hlt)

variable {Z:Go.AE.Road}
set_option maxRecDepth 10000

theorem lookupT{A:ASt}{m ck:Nat}{l:List UE}(hm:A.get m=some (.map (uEnts l) ck))(k:ByteArray):
  aLookup E0 97 (.map (some m)) (.string k) true A=some (.tuple #[.int .u64 ((uget l k).getD 0:Nat),.bool (uget l k).isSome]):=lookup_u ti97 t97_desc ti9 t9_desc ti22 t22_zero hm k
theorem updateT{A:ASt}{m ck:Nat}{l:List UE}(hm:A.get m=some (.map (uEnts l) ck))(k:ByteArray)(v:Nat):
  aMapUpdate E0 97 (.map (some m)) (.string k) (.int .u64 (v:Int)) A=some (A.set m (.map (uEnts (uput k v ck l)) (uck l k ck))):=mapUpdate_u ti97 t97_desc ti9 t9_desc hm k v
theorem deleteT{A:ASt}{m ck:Nat}{l:List UE}(hm:A.get m=some (.map (uEnts l) ck))(k:ByteArray):
  aDelete E0 97 (.map (some m)) (.string k) A=.val undef (if (uget l k).isSome then A.set m (.map (uEnts (udel k l)) ck) else A):=delete_u ti97 t97_desc ti9 t9_desc hm k

theorem WheelAt.del{A A':ASt}{W all now:Nat}{ms:List Nat}{M:TM}(h:WheelAt A W all ms now M)(k:ByteArray){a:Nat}(ha:M k=some a){l la:List UE}{ck cka:Nat}{m:Nat}(hm:ms[_root_.Go.Proofs.YtgcffmhpjphefaaGreatDoor.plc now a]? = some m)
  (hl:A.get m=some (.map (uEnts l) ck)) (hok:MapOK l ck) (hg:∀ j,uget l j=M.at_ now (_root_.Go.Proofs.YtgcffmhpjphefaaGreatDoor.plc now a) j) (hla:A.get all=some (.map (uEnts la) cka)) (hoka:MapOK la cka) (hga:∀ j,uget la j=M j)
  (hn:A.next≤A'.next) (e:∀ b,A'.get b=if b=all then some (.map (uEnts (udel k la)) cka) else if b=m then some (.map (uEnts (udel k l)) ck) else A.get b):WheelAt A' W all ms now (M.del k)∧Fr (W::all::ms) A A':=by
 have hmem:=List.mem_of_getElem? hm
 obtain ⟨n1,n2,n3⟩:=h.ne_all hmem
 refine ⟨⟨?_,h.len,h.nowlt,h.nodup,fun b hb=>Nat.lt_of_lt_of_le (h.below b hb) hn,?_,?_,?_,?_⟩,hn,fun b hb hno=>?_⟩
 ·rw [e,if_neg (Ne.symm n3),if_neg (Ne.symm n1)];exact h.row
 ·refine ⟨_,_,by rw [e,if_pos rfl],udel_ok hoka,fun j=>?_⟩
  rw [uget_udel hoka.keys,hga];rfl
 ·intro i m' hm'
  have hmem':=List.mem_of_getElem? hm'
  obtain ⟨_,n2',_⟩:=h.ne_all hmem'
  by_cases e2:m'=m
  ·subst e2
   have:i=_:=h.inj hm' hm
   subst this
   refine ⟨_,_,by rw [e,if_neg n2,if_pos rfl],udel_ok hok,fun j=>?_⟩
   rw [uget_udel hok.keys,hg]
   unfold TM.at_ TM.del
   by_cases ej:j=k<;>simp [ej]
  ·refine ((h.slot i m' hm').congr (by rw [e,if_neg n2',if_neg e2])).ext fun j=>?_
   unfold TM.at_ TM.del
   by_cases ej:j=k
   ·subst ej
    rw [if_pos rfl,ha]
    have hne:_root_.Go.Proofs.YtgcffmhpjphefaaGreatDoor.plc now a≠i:=fun ee=>e2 (by rw [ee,hm'] at hm;exact Option.some.inj hm)
    simp [Option.filter,hne]
   ·rw [if_neg ej]
 ·intro j b hj
  unfold TM.del at hj
  split at hj
  ·cases hj
  ·exact h.lt j b hj
 ·intro j b hj
  unfold TM.del at hj
  split at hj
  ·cases hj
  ·exact h.gt j b hj
 ·rw [e,if_neg (fun ee=>hno (by simp [ee])),if_neg (fun ee=>hno (by simp [ee,hmem]))]

theorem drop_spec{A:ASt}{W all now:Nat}{ms:List Nat}{M:TM}(h:WheelAt A W all ms now M)(k:ByteArray):
  CallW Z Tryz.prog 41 [.pointer (some ⟨W,0,none⟩),.string k] A (fun v A'=>v=.bool (M k).isSome∧WheelAt A' W all ms now (M.del k)∧Fr (W::all::ms) A A'):=by
 refine CallW.of_code E0_ok E0_ro fn41 rfl (n:=29) rfl (rs:=[.tmp 4]) rfl (by simp) (codeW_ok E0_ok E0_ro ?_)
 have hW:=h.row
 obtain ⟨la,cka,hla,hoka,hga⟩:=h.allm
 have hlk:=lookupT hla k
 rw [hga] at hlk
 simp only [hW,wrow_all,eqnil25,z_0,flat,Option.isNone,aFieldAddr,cond_true,cond_false,if_true,if_false,eq_self,Nat.reduceEqDiff,Nat.reduceAdd,Nat.reduceLT,reduceCtorEq,hlk]
 cases hk:M k with
 | none=>
  simp only [Option.isSome_none,z_0,if_true,if_false,eq_self,Nat.reduceEqDiff,Nat.reduceLT,reduceCtorEq]
  refine ⟨?_,.refl _ _⟩
  have:M.del k=M:=by
   funext j
   unfold TM.del
   by_cases e:j=k<;>simp [e,hk]
  rw [this];exact h
 | some a=>
  have ha:=h.lt k a hk
  simp only [Option.isSome_some,Option.getD_some,z_0,if_true,if_false,List.append_nil,List.nil_append,eq_self,Nat.reduceEqDiff,Nat.reduceLT,reduceCtorEq]
  refine CallT.mono (place_walk hW h.len h.nowlt ha) ?_
  rintro _ _ ⟨rfl,x,rfl⟩
  have hm:ms[plc now a]? = some (ms[plc now a]'(h.plc a)):=List.getElem?_eq_getElem _
  generalize ms[plc now a]'(h.plc a)=m at hm
  obtain ⟨l,ck,hl,hok,hg⟩:=h.slot _ _ hm
  have hmem:=List.mem_of_getElem? hm
  obtain ⟨n1,n2,n3⟩:=h.ne_all hmem
  have hgk:uget l k=some a:=by rw [hg];simp [TM.at_,hk,Option.filter]
  have hl':ASt.get { heap:=A.heap,next:=A.next+x } m=some (.map (uEnts l) ck):=hl
  have hdel:=deleteT hl' k
  rw [hgk] at hdel
  simp only [Option.isSome_some,if_true] at hdel
  have hla':(ASt.set { heap:=A.heap,next:=A.next+x } m (.map (uEnts (udel k l)) ck)).get all=some (.map (uEnts la) cka):=by
   rw [ASt.get_set,if_neg (Ne.symm n2)];exact hla
  have hdel2:=deleteT hla' k
  rw [hga,hk] at hdel2
  simp only [Option.isSome_some,if_true] at hdel2
  have hW':(ASt.set { heap:=A.heap,next:=A.next+x } m (.map (uEnts (udel k l)) ck)).get W=some (.row (wrow now all ms) 67 false):=by
   rw [ASt.get_set,if_neg (Ne.symm n1)];exact hW
  simp only [wrow_all,z_0,aFieldAddr,aBuiltin,cond_false,if_true,if_false,eq_self,Nat.reduceEqDiff,Nat.reduceLT,reduceCtorEq,hdel,hdel2,hW']
  refine h.del k hk hm hl hok hg hla hoka hga ?_ fun b=>?_
  ·show A.next≤A.next+x
   omega
  ·simp only [ASt.get_set]
   rfl
end Go.Proofs.YtgcffmhpjphefaaGreatDoor

/- The wheel's put, clock, len. -/
namespace Go.Proofs.YtgcffmhpjphefaaGreatDoor
open Go Go.AE

variable {Z:Go.AE.Road}
set_option maxRecDepth 10000

theorem WheelAt.add{A A':ASt}{W all now:Nat}{ms:List Nat}{M:TM}(h:WheelAt A W all ms now M)(k:ByteArray){a:Nat}(hk:M k=none)(ha:now<a)(halt:a<18446744073709551616){l la:List UE}{ck cka:Nat}{m:Nat}(hm:ms[_root_.Go.Proofs.YtgcffmhpjphefaaGreatDoor.plc now a]? = some m)
  (hok:MapOK l ck) (hg:∀ j,uget l j=M.at_ now (_root_.Go.Proofs.YtgcffmhpjphefaaGreatDoor.plc now a) j) (hoka:MapOK la cka) (hga:∀ j,uget la j=M j)
  (hn:A.next≤A'.next) (e:∀ b,A'.get b=if b=m then some (.map (uEnts (uput k a ck l)) (uck l k ck)) else if b=all then some (.map (uEnts (uput k a cka la)) (uck la k cka)) else A.get b):WheelAt A' W all ms now (M.put k a)∧Fr (W::all::ms) A A':=by
 have hmem:=List.mem_of_getElem? hm
 obtain ⟨n1,n2,n3⟩:=h.ne_all hmem
 refine ⟨⟨?_,h.len,h.nowlt,h.nodup,fun b hb=>Nat.lt_of_lt_of_le (h.below b hb) hn,?_,?_,?_,?_⟩,hn,fun b hb hno=>?_⟩
 ·rw [e,if_neg (Ne.symm n1),if_neg (Ne.symm n3)];exact h.row
 ·refine ⟨_,_,by rw [e,if_neg (Ne.symm n2),if_pos rfl],uput_ok hoka,fun j=>?_⟩
  rw [uget_uput,hga];rfl
 ·intro i m' hm'
  have hmem':=List.mem_of_getElem? hm'
  obtain ⟨_,n2',_⟩:=h.ne_all hmem'
  by_cases e2:m'=m
  ·subst e2
   have:i=_:=h.inj hm' hm
   subst this
   refine ⟨_,_,by rw [e,if_pos rfl],uput_ok hok,fun j=>?_⟩
   rw [uget_uput,hg]
   unfold TM.at_ TM.put
   by_cases ej:j=k<;>simp [ej,Option.filter]
  ·refine ((h.slot i m' hm').congr (by rw [e,if_neg e2,if_neg n2'])).ext fun j=>?_
   unfold TM.at_ TM.put
   by_cases ej:j=k
   ·subst ej
    have hne:_root_.Go.Proofs.YtgcffmhpjphefaaGreatDoor.plc now a≠i:=fun ee=>e2 (by rw [ee,hm'] at hm;exact Option.some.inj hm)
    simp [Option.filter,hne,hk]
   ·rw [if_neg ej]
 ·intro j b hj
  unfold TM.put at hj
  split at hj
  ·cases hj;exact halt
  ·exact h.lt j b hj
 ·intro j b hj
  unfold TM.put at hj
  split at hj
  ·cases hj;exact ha
  ·exact h.gt j b hj
 ·rw [e,if_neg (fun ee=>hno (by simp [ee,hmem])),if_neg (fun ee=>hno (by simp [ee]))]

theorem put_spec{A:ASt}{W all now:Nat}{ms:List Nat}{M:TM}(h:WheelAt A W all ms now M)(k:ByteArray){a:Nat}(halt:a<18446744073709551616):
  CallW Z Tryz.prog 32 [.pointer (some ⟨W,0,none⟩),.string k,.int .u64 (a:Int)] A (fun v A'=>v=.bool (decide (now<a))∧WheelAt A' W all ms now (if now<a then M.put k a else M)∧Fr (W::all::ms) A A'):=by
 refine CallW.of_code E0_ok E0_ro fn32 rfl (n:=31) rfl (rs:=[.tmp 6]) rfl (by simp) (codeW_ok E0_ok E0_ro ?_)
 have hW:=h.row
 simp only [hW,wrow_now,eqnil25,z_0,flat,Option.isNone,aFieldAddr,cond_true,cond_false,if_true,if_false,eq_self,Nat.reduceEqDiff,Nat.reduceAdd,Nat.reduceLT,reduceCtorEq]
 refine brW_dec (fun hle=>?_) (fun hle=>?_)
 ·have hn:¬ now<a:=by omega
  simp only [z_0,flat,cond_true,if_true,if_false,eq_self,Nat.reduceEqDiff,Nat.reduceLT,reduceCtorEq,hn]
  exact ⟨h,.refl _ _⟩
 ·have hn:now<a:=by omega
  simp only [z_0,if_true,if_false,List.append_nil,List.nil_append,eq_self,Nat.reduceEqDiff,Nat.reduceLT,reduceCtorEq]
  refine CallT.mono (drop_spec h k) ?_
  rintro v B ⟨rfl,h1,f1⟩
  have hW1:=h1.row
  obtain ⟨la,cka,hla,hoka,hga⟩:=h1.allm
  have hu1:=updateT hla k a
  simp only [wrow_all,z_0,aFieldAddr,cond_false,if_true,if_false,List.append_nil,List.nil_append,eq_self,Nat.reduceEqDiff,Nat.reduceLT,reduceCtorEq,hW1,hu1]
  have hne:=h1.nodup
  simp only [List.nodup_cons,List.mem_cons,not_or] at hne
  have hW2:(B.set all (.map (uEnts (uput k a cka la)) (uck la k cka))).get W=some (.row (wrow now all ms) 67 false):=by
   rw [ASt.get_set,if_neg hne.1.1];exact hW1
  refine CallT.mono (place_walk hW2 h1.len h1.nowlt halt) ?_
  rintro _ _ ⟨rfl,x,rfl⟩
  have hm:ms[plc now a]? = some (ms[plc now a]'(h.plc a)):=List.getElem?_eq_getElem _
  generalize ms[plc now a]'(h.plc a)=m at hm
  obtain ⟨l,ck,hl,hok,hg⟩:=h1.slot _ _ hm
  have hmem:=List.mem_of_getElem? hm
  obtain ⟨n1,n2,n3⟩:=h1.ne_all hmem
  have hl':ASt.get { heap:=(B.set all (.map (uEnts (uput k a cka la)) (uck la k cka))).heap,next:=B.next+x } m=some (.map (uEnts l) ck):=by
   rw [get_next,ASt.get_set,if_neg n2];exact hl
  have hu2:=updateT hl' k a
  simp only [z_0,flat,cond_true,if_true,if_false,eq_self,Nat.reduceEqDiff,Nat.reduceLT,reduceCtorEq,hu2]
  have hadd:=h1.add k (a:=a) (by unfold TM.del;simp) hn halt hm hok hg hoka hga (A':=(ASt.set { heap:=(B.set all (.map (uEnts (uput k a cka la)) (uck la k cka))).heap,next:=B.next+x } m (.map (uEnts (uput k a ck l)) (uck l k ck)))) (by show B.next≤B.next+x;omega) (fun b=>by
   rw [ASt.get_set,get_next,ASt.get_set])
  refine ⟨by simp [hn],?_,f1.trans hadd.2⟩
  rw [if_pos hn]
  have e:(M.del k).put k a=M.put k a:=by
   funext j
   unfold TM.put TM.del
   by_cases ej:j=k<;>simp [ej]
  rw [← e]
  exact hadd.1

theorem clock_spec{A:ASt}{W now all:Nat}{ms:List Nat}(hW:A.get W=some (.row (wrow now all ms) 67 false)):
  CallW Z Tryz.prog 38 [.pointer (some ⟨W,0,none⟩)] A (fun v A'=>v=.int .u64 (now:Int)∧A'=A):=by
 refine CallW.of_code E0_ok E0_ro fn38 rfl (n:=9) rfl (rs:=[.tmp 2]) rfl (by simp) (codeW_ok E0_ok E0_ro ?_)
 simp only [hW,wrow_now,eqnil25,z_0,flat,Option.isNone,aFieldAddr,cond_true,cond_false,if_true,if_false,eq_self,Nat.reduceEqDiff,Nat.reduceLT,reduceCtorEq]

def Cnt(M:TM)(n:Nat):Prop:=∃ l:List ByteArray,l.Nodup∧(∀ k,k∈l↔(M k).isSome=true)∧l.length=n

theorem Holds.cnt{A:ASt}{m:Nat}{M:TM}{l:List UE}{ck:Nat}(_h:A.get m=some (.map (uEnts l) ck))(hok:MapOK l ck)(hg:∀ k,uget l k=M k):Cnt M l.length:=by
 refine ⟨l.map (·.1),hok.keys,fun k=>?_,by simp⟩
 rw [← hg]
 constructor
 ·intro hk
  obtain ⟨x,hx,rfl⟩:=List.mem_map.1 hk
  rw [uget_mem hok.keys hx];rfl
 ·intro hk
  obtain ⟨v,hv⟩:=Option.isSome_iff_exists.1 hk
  obtain ⟨b,hb⟩:=uget_some hv
  exact List.mem_map.2 ⟨_,hb,rfl⟩

theorem lenT{A:ASt}{m ck:Nat}{l:List UE}(hm:A.get m=some (.map (uEnts l) ck)):aLen E0 97 (.map (some m)) A=some (goInt l.length):=len_u ti97 t97_desc hm

theorem len_spec{A:ASt}{W all now:Nat}{ms:List Nat}{M:TM}(h:WheelAt A W all ms now M):
  CallW Z Tryz.prog 77 [.pointer (some ⟨W,0,none⟩)] A (fun v A'=>(∃ n:Nat,v=.int .i64 (n:Int)∧Cnt M n)∧A'=A):=by
 refine CallW.of_code E0_ok E0_ro fn77 rfl (n:=10) rfl (rs:=[.tmp 2]) rfl (by simp) (codeW_ok E0_ok E0_ro ?_)
 have hW:=h.row
 obtain ⟨la,cka,hla,hoka,hga⟩:=h.allm
 simp only [hW,wrow_all,eqnil25,z_0,flat,Option.isNone,aFieldAddr,aBuiltin,cond_true,cond_false,if_true,if_false,eq_self,Nat.reduceEqDiff,Nat.reduceLT,reduceCtorEq,lenT hla,goInt]
 exact ⟨la.length,rfl,Holds.cnt hla hoka hga⟩
end Go.Proofs.YtgcffmhpjphefaaGreatDoor

/- The wheel: what Advance's closure does. -/
namespace Go.Proofs.YtgcffmhpjphefaaGreatDoor
open Go Go.AE

variable {Z:Go.AE.Road}
set_option maxRecDepth 10000

noncomputable def puts(D:TM)(done:List UE)(p:Nat→Bool):TM:=fun k=>match uget done k with
 | some a=>if p a then some a else D k
 | none=>D k
noncomputable def TM.over(D S:TM)(p:Nat→Bool):TM:=fun k=>match S k with
 | some a=>if p a then some a else D k
 | none=>D k

theorem puts_nil{D:TM}{p:Nat→Bool}:puts D [] p=D:=rfl
theorem puts_snoc{D:TM}{done:List UE}{p:Nat→Bool}{x:UE}(h:uget done x.1=none):puts D (done++[x]) p=if p x.2.1 then (puts D done p).put x.1 x.2.1 else puts D done p:=by
 funext k
 unfold puts TM.put
 rw [uget_snoc]
 by_cases e:k=x.1
 ·subst e
  rw [h]
  by_cases hp:p x.2.1<;>simp [hp,h]
 ·by_cases hp:p x.2.1<;>simp [hp,e]

theorem fresh_key{l done:List UE}{ck:Nat}(hok:MapOK l ck)(hsub:∀ x∈done,x∈l){x:UE}(hx:x∈l)(hn:x∉done):uget done x.1=none:=by
 rw [uget_none]
 intro y hy e
 exact hn (keys_one (f:=fun z:UE=>z.1) hok.keys (hsub y hy) hx e ▸ hy)

theorem rangeT{A:ASt}{m ck:Nat}{es:List MapEntry}(hm:A.get m=some (.map es ck)):aRange E0 97 (.map (some m)) A=.val (.pointer (some ⟨A.next,0,none⟩)) (A.new (.miter (some m) ck [] ck)):=range_u ti97 t97_desc hm
theorem clearT{A:ASt}{m ck:Nat}{es:List MapEntry}(hm:A.get m=some (.map es ck)):aClear2 E0 t97 (.map (some m)) A=.val undef (A.set m (.map [] ck)):=by
 simp only [aClear2,aClear,hm]

theorem empty_spec{A:ASt}{m p3 p5 p6 d lf nw:Nat}{S D L:TM}(h3:A.get p3=some (.row [.int .u64 (nw:Int)] 1 false))(h5:A.get p5=some (.row [.map (some d)] 1 false))(h6:A.get p6=some (.row [.map (some lf)] 1 false))
  (hm:Holds A m S) (hd:Holds A d D) (hl:Holds A lf L) (e1:m≠d) (e2:m≠lf) (e3:d≠lf) (hb:∀ b∈[m,d,lf,p3,p5,p6],b<A.next) :
  CallW Z Tryz.prog 62 [.map (some m),.pointer (some ⟨p3,0,none⟩),.pointer (some ⟨p5,0,none⟩),.pointer (some ⟨p6,0,none⟩)] A (fun _ A'=>Holds A' m (fun _=>none)∧Holds A' d (D.over S fun a=>decide (a≤nw))∧Holds A' lf (L.over S fun a=>!decide (a≤nw))∧Fr [m,d,lf] A A'):=by
 refine CallW.of_code E0_ok E0_ro fn62 rfl (n:=24) rfl (rs:=[]) rfl (by simp) (codeW_ok E0_ok E0_ro ?_)
 obtain ⟨es,ck,hes,hok,hg⟩:=hm
 have hmb:=hb m (by simp)
 have hdb:=hb d (by simp)
 have hlb:=hb lf (by simp)
 have h3b:=hb p3 (by simp)
 have h5b:=hb p5 (by simp)
 have h6b:=hb p6 (by simp)
 have ne:∀ {p:Nat} {c:List Value} {sz:Nat} {tl:Bool},A.get p=some (.row c sz tl)→∀ {q:Nat} {T:TM},Holds A q T→p≠q:=by
  rintro p c sz tl hp q T ⟨_,_,hq,_⟩ rfl
  rw [hp] at hq
  cases hq
 simp only [z_0,if_true,if_false,eq_self,Nat.reduceEqDiff,Nat.reduceAdd,Nat.reduceLT,reduceCtorEq,rangeT hes]
 refine CodeW.mono (Q:=fun o=>∃ T' A' done,o=.fr ⟨.exit 0,T',A'⟩∧InMap 8 A.next m ck es done T' A'∧(∀ x∈es,x∈done)∧tget T' 0=.map (some m)∧Holds A' d (puts D done fun a=>decide (a≤nw))∧Holds A' lf (puts L done fun a=>!decide (a≤nw))∧Fr [m,d,lf] A A') ?_ ?_
 ·refine CodeW.mapLoop (it:=8) (r:=A.next) (m:=m) (ck:=ck) (l:=es) (J:=fun done T A'=>tget T 0=.map (some m)∧tget T 1=.pointer (some ⟨p3,0,none⟩)∧tget T 2=.pointer (some ⟨p5,0,none⟩)∧tget T 3=.pointer (some ⟨p6,0,none⟩)∧Holds A' d (puts D done fun a=>decide (a≤nw))∧Holds A' lf (puts L done fun a=>!decide (a≤nw))∧Fr [m,d,lf] A A') ?_ ?_ ?_
  ·rintro done T A1 hi ⟨t0,t1,t2,t3,hd1,hl1,f1⟩
   refine codeW_ok E0_ok E0_ro ?_
   have g3:A1.get p3=_:=(f1.get p3 h3b (by simp [ne h3 ⟨es,ck,hes,hok,hg⟩,ne h3 hd,ne h3 hl])).trans h3
   have g5:A1.get p5=_:=(f1.get p5 h5b (by simp [ne h5 ⟨es,ck,hes,hok,hg⟩,ne h5 hd,ne h5 hl])).trans h5
   have g6:A1.get p6=_:=(f1.get p6 h6b (by simp [ne h6 ⟨es,ck,hes,hok,hg⟩,ne h6 hd,ne h6 hl])).trans h6
   have hit:=hi.it
   simp only [z_0,hit]
   refine nextV_u hok hi.sub hi.iter hi.map (fun x hx hn=>?_) (fun hall=>?_)
   ·have hkey:=fresh_key hok hi.sub hx hn
    obtain ⟨ld,ckd,hld,hokd,hgd⟩:=hd1
    obtain ⟨ll,ckl,hll,hokl,hgl⟩:=hl1
    have hent:=entry_u (A:=A1.set A.next (.miter (some m) ck ((done++[x]).map (·.2.2)) ck)) (r:=A.next) (m:=m) hok hx (by rw [ASt.get_set,if_pos rfl]) (by rw [ASt.get_set,if_neg (by omega)];exact hi.map)
    have g3':(A1.set A.next (.miter (some m) ck ((done++[x]).map (·.2.2)) ck)).get p3=some (.row [.int .u64 (nw:Int)] 1 false):=by rw [ASt.get_set,if_neg (by omega)];exact g3
    have g5':(A1.set A.next (.miter (some m) ck ((done++[x]).map (·.2.2)) ck)).get p5=some (.row [.map (some d)] 1 false):=by rw [ASt.get_set,if_neg (by omega)];exact g5
    have g6':(A1.set A.next (.miter (some m) ck ((done++[x]).map (·.2.2)) ck)).get p6=some (.row [.map (some lf)] 1 false):=by rw [ASt.get_set,if_neg (by omega)];exact g6
    have gd':(A1.set A.next (.miter (some m) ck ((done++[x]).map (·.2.2)) ck)).get d=some (.map (uEnts ld) ckd):=by rw [ASt.get_set,if_neg (by omega)];exact hld
    have gl':(A1.set A.next (.miter (some m) ck ((done++[x]).map (·.2.2)) ck)).get lf=some (.map (uEnts ll) ckl):=by rw [ASt.get_set,if_neg (by omega)];exact hll
    have gr':(A1.set A.next (.miter (some m) ck ((done++[x]).map (·.2.2)) ck)).get A.next=some (.miter (some m) ck ((done++[x]).map (·.2.2)) ck):=by rw [ASt.get_set,if_pos rfl]
    have gm':(A1.set A.next (.miter (some m) ck ((done++[x]).map (·.2.2)) ck)).get m=A1.get m:=by rw [ASt.get_set,if_neg (by omega)]
    have fb:Fr [m,d,lf] A (A1.set A.next (.miter (some m) ck ((done++[x]).map (·.2.2)) ck)):=⟨f1.next,fun b hb hn=>by rw [ASt.get_set,if_neg (by omega)];exact f1.get b hb hn⟩
    have nx1:=f1.next
    generalize A1.set A.next (.miter (some m) ck ((done++[x]).map (·.2.2)) ck)=B at *
    have hud:=updateT gd' x.1 x.2.1
    have hul:=updateT gl' x.1 x.2.1
    simp only [z_0,cond_false,if_true,if_false,eq_self,Nat.reduceEqDiff,Nat.reduceLT,hit,hent,t1,g3']
    refine brW_dec (fun hle=>?_) (fun hle=>?_)
    ·have hle':x.2.1≤nw:=by omega
     simp only [z_0,cond_false,if_true,if_false,eq_self,Nat.reduceEqDiff,Nat.reduceLT,reduceCtorEq,t1,t2,t3,g5',hud]
     refine ⟨x,hx,hn,hi.step hx hn (by simp only [tget_put,Nat.reduceEqDiff,if_false]) (by rw [ASt.get_set,if_neg (by omega)];exact gr') (by rw [ASt.get_set,if_neg e1];exact gm'),?_,?_,?_,?_⟩
     ·exact t0
     ·refine ⟨_,_,by rw [ASt.get_set,if_pos rfl],uput_ok hokd,fun k=>?_⟩
      rw [uget_uput,hgd,puts_snoc hkey]
      simp only [hle',decide_true,if_true]
      rfl
     ·refine ⟨ll,ckl,by rw [ASt.get_set,if_neg (Ne.symm e3)];exact gl',hokl,fun k=>?_⟩
      rw [hgl,puts_snoc hkey]
      simp only [hle',decide_true,Bool.not_true,Bool.false_eq_true,if_false]
     ·exact ⟨fb.next,fun b hb hn=>by rw [ASt.get_set,if_neg (by rintro rfl;simp at hn)];exact fb.get b hb hn⟩
    ·have hle':¬ x.2.1≤nw:=by omega
     simp only [z_0,cond_false,if_true,if_false,eq_self,Nat.reduceEqDiff,Nat.reduceLT,reduceCtorEq,t1,t2,t3,g6',hul]
     refine ⟨x,hx,hn,hi.step hx hn (by simp only [tget_put,Nat.reduceEqDiff,if_false]) (by rw [ASt.get_set,if_neg (by omega)];exact gr') (by rw [ASt.get_set,if_neg e2];exact gm'),?_,?_,?_,?_⟩
     ·exact t0
     ·refine ⟨ld,ckd,by rw [ASt.get_set,if_neg e3];exact gd',hokd,fun k=>?_⟩
      rw [hgd,puts_snoc hkey]
      simp only [hle',decide_false,Bool.false_eq_true,if_false]
     ·refine ⟨_,_,by rw [ASt.get_set,if_pos rfl],uput_ok hokl,fun k=>?_⟩
      rw [uget_uput,hgl,puts_snoc hkey]
      simp only [hle',decide_false,Bool.not_false,if_true]
      rfl
     ·exact ⟨fb.next,fun b hb hn=>by rw [ASt.get_set,if_neg (by rintro rfl;simp at hn)];exact fb.get b hb hn⟩
   ·simp only [z_0,if_true,if_false,eq_self,Nat.reduceEqDiff,Nat.reduceLT]
    refine ⟨_,_,done,rfl,⟨?_,hi.iter,hi.map,hi.sub,hi.nodup⟩,hall,?_,hd1,hl1,f1⟩
    ·simp only [tget_put,Nat.reduceEqDiff,if_false];exact hit
    ·simp only [tget_put,Nat.reduceEqDiff,if_false];exact t0
  ·refine ⟨rfl,by rw [ASt.get_new,if_pos rfl];rfl,by rw [ASt.get_new,if_neg (by omega)];exact hes,by simp,.nil⟩
  ·refine ⟨rfl,rfl,rfl,rfl,hd.congr (by rw [ASt.get_new,if_neg (by omega)]),hl.congr (by rw [ASt.get_new,if_neg (by omega)]),Nat.le_succ _,fun b hb hn=>by rw [ASt.get_new,if_neg (by omega)]⟩
 ·rintro o ⟨T',A',done,rfl,hi,hall,t0,hd1,hl1,f1⟩
  have hck:=hi.map
  simp only [z_0,aBuiltin,if_true,eq_self,Nat.reduceLT,t0,clearT hck]
  obtain ⟨hk,hu⟩:=uget_all hok hi.sub hall hi.nodup
  have hov:∀ (X:TM) (p:Nat→Bool),puts X done p=X.over S p:=by
   intro X p
   funext k
   unfold puts TM.over
   rw [hu,hg]
  rw [hov] at hd1 hl1
  refine ⟨⟨[],ck,by rw [ASt.get_set,if_pos rfl];rfl,⟨.nil,.nil,by simp⟩,fun k=>rfl⟩,hd1.congr (by rw [ASt.get_set,if_neg (Ne.symm e1)]),hl1.congr (by rw [ASt.get_set,if_neg (Ne.symm e2)]),f1.next,fun b hb hn=>by rw [ASt.get_set,if_neg (by rintro rfl;simp at hn)];exact f1.get b hb hn⟩
end Go.Proofs.YtgcffmhpjphefaaGreatDoor

/- The wheel: where a timer stands when the clock moves. Plain. -/
namespace Go.Proofs.YtgcffmhpjphefaaGreatDoor
open Go Go.AE

theorem bl_bounds{x:Nat}(h:x<18446744073709551616)(h0:x≠0):1≤Lib.bitLen x∧2 ^ (Lib.bitLen x-1)≤x∧x<2 ^ Lib.bitLen x:=Lib.bitLenAux_bounds 64 x (by omega) h0
theorem bl_lt{x:Nat}(h:x<18446744073709551616):x<2 ^ Lib.bitLen x:=by
 by_cases h0:x=0
 ·subst h0;exact Nat.two_pow_pos _
 ·exact (bl_bounds h h0).2.2
theorem bl_eq{x k:Nat}(h:x<18446744073709551616)(h1:2 ^ k≤x)(h2:x<2 ^ (k+1)):Lib.bitLen x=k+1:=by
 have h0:x≠0:=by have:=Nat.two_pow_pos k;omega
 obtain ⟨b1,b2,b3⟩:=bl_bounds h h0
 have a1:Lib.bitLen x-1<k+1:=(Nat.pow_lt_pow_iff_right (a:=2) (by omega)).1 (by omega)
 have a2:k<Lib.bitLen x:=(Nat.pow_lt_pow_iff_right (a:=2) (by omega)).1 (by omega)
 omega
theorem bit_top{x t:Nat}(h1:2 ^ t≤x)(h2:x<2 ^ (t+1)):x.testBit t=true:=by
 cases hb:x.testBit t with
 | true=>rfl
 | false=>
  exfalso
  have:x<2 ^ t:=by
   refine Nat.lt_pow_two_of_testBit x fun j hj=>?_
   rcases Nat.eq_or_lt_of_le hj with rfl | hlt
   ·exact hb
   ·exact Nat.testBit_lt_two_pow (Nat.lt_of_lt_of_le h2 (Nat.pow_le_pow_right (by omega) hlt))
  omega

theorem lt_bit{x y:Nat}(t:Nat)(hx:x.testBit t=false)(hy:y.testBit t=true)(h:∀ j,t<j→x.testBit j=y.testBit j):x<y:=by
 have e:x / 2 ^ (t+1)=y / 2 ^ (t+1):=by
  apply Nat.eq_of_testBit_eq
  intro i
  rw [Nat.testBit_div_two_pow,Nat.testBit_div_two_pow]
  exact h _ (by omega)
 have h1:x / 2 ^ t=2*(x / 2 ^ (t+1)):=by
  have a:x / 2 ^ t % 2=0:=by
   have:=hx
   rw [Nat.testBit_eq_decide_div_mod_eq] at this
   have:=of_decide_eq_false this
   omega
  have b:x / 2 ^ (t+1)=x / 2 ^ t / 2:=by rw [Nat.pow_succ,Nat.div_div_eq_div_mul]
  omega
 have h2:y / 2 ^ t=2*(y / 2 ^ (t+1))+1:=by
  have a:y / 2 ^ t % 2=1:=by
   have:=hy
   rw [Nat.testBit_eq_decide_div_mod_eq] at this
   exact of_decide_eq_true this
  have b:y / 2 ^ (t+1)=y / 2 ^ t / 2:=by rw [Nat.pow_succ,Nat.div_div_eq_div_mul]
  omega
 have h3:x / 2 ^ t<y / 2 ^ t:=by omega
 exact (Nat.lt_of_not_le fun hle=>by have:=Nat.div_le_div_right (c:=2 ^ t) hle;omega)

theorem plc_far{now nw a:Nat}(hnow:now<18446744073709551616)(hnw:nw<18446744073709551616)(ha:a<18446744073709551616)(hlt:now<a)(hD:¬ plc now a<16*((Lib.bitLen (nw ^^^ now)+3) / 4)):nw<a∧plc nw a=plc now a:=by
 have hx:a ^^^ now<18446744073709551616:=Nat.xor_lt_two_pow (n:=64) (by omega) (by omega)
 have hy:nw ^^^ now<18446744073709551616:=Nat.xor_lt_two_pow (n:=64) (by omega) (by omega)
 have hx0:a ^^^ now≠0:=fun e=>by
  have:a=now:=by
   apply Nat.eq_of_testBit_eq
   intro i
   have:=congrArg (fun z=>z.testBit i) e
   simp only [Nat.testBit_xor,Nat.zero_testBit] at this
   simpa using this
  omega
 have hlv:(Lib.bitLen (nw ^^^ now)+3) / 4≤lvl now a:=by
  unfold plc at hD
  split at hD
  ·rename_i h4;omega
  ·rename_i h4
   have:a / 2 ^ (4*lvl now a) % 16<16:=Nat.mod_lt _ (by omega)
   omega
 obtain ⟨b1,b2,b3⟩:=bl_bounds hx hx0
 have by_:=bl_lt hy
 have hst:Lib.bitLen (nw ^^^ now)≤Lib.bitLen (a ^^^ now)-1:=by unfold lvl at hlv;omega
 have hylt:nw ^^^ now<2 ^ (Lib.bitLen (a ^^^ now)-1):=Nat.lt_of_lt_of_le by_ (Nat.pow_le_pow_right (by omega) hst)
 obtain ⟨t,ht⟩:∃ t,Lib.bitLen (a ^^^ now)=t+1:=⟨_,(Nat.sub_add_cancel b1).symm⟩
 rw [ht,Nat.add_sub_cancel] at b2 hylt
 rw [ht] at b3
 have e:a ^^^ nw=(a ^^^ now) ^^^ (nw ^^^ now):=by
  apply Nat.eq_of_testBit_eq
  intro i
  simp only [Nat.testBit_xor]
  cases a.testBit i<;>cases nw.testBit i<;>cases now.testBit i<;>rfl
 have xt:=bit_top b2 b3
 have ytz:∀ j,t≤j→(nw ^^^ now).testBit j=false:=fun j hj=>Nat.testBit_lt_two_pow (Nat.lt_of_lt_of_le hylt (Nat.pow_le_pow_right (by omega) hj))
 have xz:∀ j,t<j→(a ^^^ now).testBit j=false:=fun j hj=>Nat.testBit_lt_two_pow (Nat.lt_of_lt_of_le b3 (Nat.pow_le_pow_right (by omega) hj))
 have hbl:Lib.bitLen (a ^^^ nw)=t+1:=by
  refine bl_eq ?_ ?_ ?_
  ·exact Nat.xor_lt_two_pow (n:=64) (by omega) (by omega)
  ·refine Nat.ge_two_pow_of_testBit ?_
   rw [e,Nat.testBit_xor,xt,ytz t (Nat.le_refl _)];rfl
  ·rw [e]
   exact Nat.xor_lt_two_pow b3 (Nat.lt_of_lt_of_le hylt (Nat.pow_le_pow_right (by omega) (by omega)))
 have hl:lvl nw a=lvl now a:=by unfold lvl;rw [hbl,ht]
 have up:∀ j,t<j→a.testBit j=now.testBit j:=fun j hj=>by
  have:=xz j hj
  rw [Nat.testBit_xor] at this
  simpa using this
 have upn:∀ j,t≤j→nw.testBit j=now.testBit j:=fun j hj=>by
  have:=ytz j hj
  rw [Nat.testBit_xor] at this
  simpa using this
 rw [Nat.testBit_xor] at xt
 have hat:a.testBit t=true:=by
  cases hb:a.testBit t with
  | true=>rfl
  | false=>
   rw [hb,Bool.false_xor] at xt
   have:=lt_bit t hb xt up
   omega
 rw [hat,Bool.true_xor,Bool.not_eq_true'] at xt
 refine ⟨lt_bit t (by rw [upn t (Nat.le_refl _)];exact xt) hat fun j hj=>by rw [upn j (by omega),up j hj],?_⟩
 unfold plc
 rw [hl]
end Go.Proofs.YtgcffmhpjphefaaGreatDoor

/- The wheel's advance. -/
namespace Go.Proofs.YtgcffmhpjphefaaGreatDoor
open Go Go.AE

variable {Z:Go.AE.Road}
set_option maxRecDepth 10000

theorem box22{k:IntKind}{x:Int}:aBox E0 22 (.int k x)=some (.row [.int k x] 1 false,ptrTo):=by
 simp only [aBox,ti22,t22_size];rfl
theorem alloc59:aAlloc E0 97=some (.row [.map none] 1 false,ptrTo):=by
 simp only [aAlloc,ti97,t97_zero,t97_size];rfl
theorem store59{A:ASt}{b m:Nat}{x:Value}(h:A.get b=some (.row [x] 1 false)):aStore E0 97 (.pointer (some ⟨b,0,none⟩)) (.map (some m)) A=some (A.set b (.row [.map (some m)] 1 false)):=
 aStore_row h ti97 (by rw [t97_size];rfl) rfl rfl
theorem storeNow{A:ASt}{W now nw all:Nat}{ms:List Nat}(h:A.get W=some (.row (wrow now all ms) 67 false)):aStore E0 22 (.pointer (some ⟨W,0,none⟩)) (.int .u64 (nw:Int)) A=some (A.set W (.row (wrow nw all ms) 67 false)):=
 aStore_row h ti22 (by rw [t22_size];rfl) rfl rfl

def R27:Tgt→List Value→ASt→(Value→ASt→Prop)→Prop:=fun t args A S=>∃ x:Nat,x<18446744073709551616∧t=.fn 61∧args=[.int .u64 (x:Int)]∧S=fun v A'=>v=.int .i64 ((Lib.bitLen x:Nat):Int)∧A'=A
theorem R27_ok(t args A S)(h:R27 t args A S):CallT Z Tryz.prog t args A S:=by
 obtain ⟨x,hx,rfl,rfl,rfl⟩:=h
 exact len64 x hx A
theorem con27{x:Nat}(hx:x<18446744073709551616){A:ASt}{K:Value→ASt→Prop}(h:K (.int .i64 ((Lib.bitLen x:Nat):Int)) A):conC R27 (.fn 61) [.int .u64 (x:Int)] A K:=by
 refine ⟨⟨_,x,hx,rfl,rfl,rfl⟩,?_⟩
 rintro S ⟨y,hy,_,ha,rfl⟩ v A' ⟨rfl,rfl⟩
 simp only [List.cons.injEq,Value.int.injEq,Int.natCast_inj,and_true,true_and] at ha
 subst ha
 exact h

def tcells:List (ByteArray×Nat)→List Value
 | []=>[]
 | t::l=>.string t.1::.int .u64 (t.2:Nat)::tcells l
noncomputable def blt(x y:ByteArray):Bool:=bytesLt x.data.toList y.data.toList
def tlt(x y:ByteArray×Nat):Prop:=x.2<y.2∨(x.2=y.2∧blt x.1 y.1=true)
structure Lists(D:TM)(ts:List (ByteArray×Nat)):Prop where
 mem:∀ k a,(k,a)∈ts↔D k=some a
 ord:ts.Pairwise tlt
def SliceAt(A:ASt)(lo:Nat)(v:Value)(ts:List (ByteArray×Nat)):Prop:=
 (ts=[]∧v=.slice none 0 0)∨∃ b cap rest tl,v=.slice (some ⟨b,0,none⟩) ts.length cap∧A.get b=some (.row (tcells ts++rest) 2 tl)∧lo≤b∧b<A.next∧cap=unk∧rest=[]∧tl=true
def Srt(D:TM)(A:ASt)(v:Value)(A':ASt):Prop:=∃ ts,Lists D ts∧SliceAt A' A.next v ts∧Fr [] A A'

structure Adv(A0 A:ASt)(W all now:Nat)(ms:List Nat)(M:TM)(nw p3 p5 p6 d lf:Nat)(D:Nat→Bool):Prop where
 row:A.get W=some (.row (wrow now all ms) 67 false)
 allm:Holds A all M
 slot:∀ i m,ms[i]? = some m→Holds A m (if D i then (fun _=>none) else M.at_ now i)
 due:Holds A d (fun k=>(M k).filter fun a=>D (plc now a) && decide (a≤nw))
 lft:Holds A lf (fun k=>(M k).filter fun a=>D (plc now a) && !decide (a≤nw))
 h3:A.get p3=some (.row [.int .u64 (nw:Int)] 1 false)
 h5:A.get p5=some (.row [.map (some d)] 1 false)
 h6:A.get p6=some (.row [.map (some lf)] 1 false)
 nodup:(W::all::d::lf::ms).Nodup
 below:∀ b∈W::all::d::lf::p3::p5::p6::ms,b<A.next
 new:∀ b∈[d,lf,p3,p5,p6],A0.next≤b
 fr:Fr (W::all::ms) A0 A

theorem over_at{M:TM}{now i:Nat}{D p:Nat→Bool}:TM.over (fun k=>(M k).filter fun a=>D (plc now a) && p a) (M.at_ now i) p=fun k=>(M k).filter fun a=>(D (plc now a) || decide (plc now a=i)) && p a:=by
 funext k
 unfold TM.over TM.at_
 cases hk:M k with
 | none=>simp [hk]
 | some a=>
  by_cases hp:plc now a=i
  ·by_cases hpa:p a=true<;>simp [Option.filter,hk,hp,hpa]
  ·simp [Option.filter,hk,hp]

theorem Adv.step{A0 A:ASt}{W all now:Nat}{ms:List Nat}{M:TM}{nw p3 p5 p6 d lf:Nat}{D:Nat→Bool}(h:Adv A0 A W all now ms M nw p3 p5 p6 d lf D){i m:Nat}(hm:ms[i]? = some m)(hD:D i=false):
  CallW Z Tryz.prog 62 [.map (some m),.pointer (some ⟨p3,0,none⟩),.pointer (some ⟨p5,0,none⟩),.pointer (some ⟨p6,0,none⟩)] A (fun _ A'=>Adv A0 A' W all now ms M nw p3 p5 p6 d lf (fun j=>D j || decide (j=i))):=by
 have hmem:=List.mem_of_getElem? hm
 have hn:=h.nodup
 simp only [List.nodup_cons,List.mem_cons,not_or] at hn
 obtain ⟨⟨w1,w2,w3,w4⟩,⟨a1,a2,a3⟩,⟨d1,d2⟩,l1,hms⟩:=hn
 have nd:m≠d:=fun e=>d2 (e ▸ hmem)
 have nl:m≠lf:=fun e=>l1 (e ▸ hmem)
 have hsl:=h.slot i m hm
 simp only [hD,Bool.false_eq_true,if_false] at hsl
 refine (empty_spec h.h3 h.h5 h.h6 hsl h.due h.lft nd nl d1 (fun b hb=>h.below b (by simp at hb ⊢;rcases hb with rfl | rfl | rfl | rfl | rfl | rfl<;>simp [hmem]))).mono ?_
 rintro _ A' ⟨g1,g2,g3,f⟩
 have keep:∀ b,b<A.next→b≠m→b≠d→b≠lf→A'.get b=A.get b:=fun b hb e1 e2 e3=>f.get b hb (by simp [e1,e2,e3])
 have bel:∀ b∈W::all::d::lf::p3::p5::p6::ms,b<A'.next:=fun b hb=>Nat.lt_of_lt_of_le (h.below b hb) f.next
 have ne:∀ {p:Nat} {c:List Value} {sz:Nat} {tl:Bool},A.get p=some (.row c sz tl)→∀ {q:Nat} {T:TM},Holds A q T→p≠q:=by
  rintro p c sz tl hp q T ⟨_,_,hq,_⟩ rfl
  rw [hp] at hq
  cases hq
 have krow:∀ {p:Nat} {c:List Value} {sz:Nat} {tl:Bool},p<A.next→A.get p=some (.row c sz tl)→A'.get p=some (.row c sz tl):=fun hp hr=>by
  rw [keep _ hp (ne hr hsl) (ne hr h.due) (ne hr h.lft)];exact hr
 refine ⟨krow (h.below W (by simp)) h.row,h.allm.congr (keep all (h.below all (by simp)) (fun e=>a3 (e ▸ hmem)) a1 a2),fun j m' hj=>?_,g2.ext fun k=>?_,g3.ext fun k=>?_,krow (h.below p3 (by simp)) h.h3,krow (h.below p5 (by simp)) h.h5,krow (h.below p6 (by simp)) h.h6,h.nodup,bel,h.new,?_⟩
 ·have hj':=List.mem_of_getElem? hj
  by_cases e:j=i
  ·subst e
   rw [hm] at hj;cases hj
   simp only [decide_true,Bool.or_true,if_true]
   exact g1
  ·have em:m'≠m:=fun em=>e (by
    subst em
    obtain ⟨x1,x2⟩:=List.getElem?_eq_some_iff.1 hj
    obtain ⟨y1,y2⟩:=List.getElem?_eq_some_iff.1 hm
    rcases Nat.lt_trichotomy j i with hlt | he | hlt
    ·exact absurd (x2.trans y2.symm) (List.pairwise_iff_getElem.1 hms j i x1 y1 hlt)
    ·exact he
    ·exact absurd (y2.trans x2.symm) (List.pairwise_iff_getElem.1 hms i j y1 x1 hlt))
   simp only [e,decide_false,Bool.or_false]
   exact (h.slot j m' hj).congr (keep m' (h.below m' (by simp [hj'])) em (fun e=>d2 (e ▸ hj')) (fun e=>l1 (e ▸ hj')))
 ·rw [over_at]
 ·rw [over_at (p:=fun a=>!decide (a≤nw))]
 ·refine ⟨Nat.le_trans h.fr.next f.next,fun b hb hno=>?_⟩
  rw [f.get b (Nat.lt_of_lt_of_le hb h.fr.next) ?_,h.fr.get b hb hno]
  have n1:=h.new d (by simp)
  have n2:=h.new lf (by simp)
  simp only [List.mem_cons,List.not_mem_nil,or_false,not_or]
  exact ⟨fun e=>hno (by simp [e,hmem]),by omega,by omega⟩

theorem CodeW.label'{n:Nat}{ro:Option Nat}{l:Nat}{T:Tmps}{A:ASt}{Q:Out→Prop}(h:Q (.fr ⟨.normal,T,A⟩)):CodeW Z Tryz.prog n ro (.label l) T A Q:=
 fun ρ w a N rr hR hro ht hn hd=>wpIn_label ⟨.normal,T,A,h,trivial,ρ,ht,.refl (Z.rep hR),hn,hd⟩

structure AdvT(T:Tmps)(W p3 p5 p6 ps:Nat):Prop where
 t0:tget T 0=.pointer (some ⟨W,0,none⟩)
 t3:tget T 3=.pointer (some ⟨p3,0,none⟩)
 t5:tget T 5=.pointer (some ⟨p5,0,none⟩)
 t6:tget T 6=.pointer (some ⟨p6,0,none⟩)
 t7:tget T 7=.int .i64 (ps:Int)
 t8:tget T 8=.func (.func 62) #[] #[.pointer (some ⟨p3,0,none⟩),.pointer (some ⟨p5,0,none⟩),.pointer (some ⟨p6,0,none⟩)]
theorem AdvT.congr{T T':Tmps}{W p3 p5 p6 ps:Nat}(h:AdvT T W p3 p5 p6 ps)(e:∀ t∈[0,3,5,6,7,8],tget T' t=tget T t):AdvT T' W p3 p5 p6 ps:=
 ⟨(e 0 (by simp)).trans h.t0,(e 3 (by simp)).trans h.t3,(e 5 (by simp)).trans h.t5,(e 6 (by simp)).trans h.t6,(e 7 (by simp)).trans h.t7,(e 8 (by simp)).trans h.t8⟩
theorem Adv.congrD{A0 A:ASt}{W all now:Nat}{ms:List Nat}{M:TM}{nw p3 p5 p6 d lf:Nat}{D D':Nat→Bool}(h:Adv A0 A W all now ms M nw p3 p5 p6 d lf D)(e:∀ i,i<65→D i=D' i)(hl:ms.length=65):Adv A0 A W all now ms M nw p3 p5 p6 d lf D':=by
 have e1:∀ a,D (plc now a)=D' (plc now a):=fun a=>e _ plc_lt
 refine ⟨h.row,h.allm,fun i m hm=>?_,?_,?_,h.h3,h.h5,h.h6,h.nodup,h.below,h.new,h.fr⟩
 ·have:=(List.getElem?_eq_some_iff.1 hm).1
  rw [← e i (by omega)]
  exact h.slot i m hm
 ·have:=h.due
  simpa only [e1] using this
 ·have:=h.lft
  simpa only [e1] using this
theorem Adv.congrA{A0 A A':ASt}{W all now:Nat}{ms:List Nat}{M:TM}{nw p3 p5 p6 d lf:Nat}{D:Nat→Bool}(h:Adv A0 A W all now ms M nw p3 p5 p6 d lf D)(e:∀ b,A'.get b=A.get b)(hn:A.next≤A'.next):Adv A0 A' W all now ms M nw p3 p5 p6 d lf D:=
 ⟨(e W).trans h.row,h.allm.congr (e all),fun i m hm=>(h.slot i m hm).congr (e m),h.due.congr (e d),h.lft.congr (e lf),(e p3).trans h.h3,(e p5).trans h.h5,(e p6).trans h.h6,h.nodup,fun b hb=>Nat.lt_of_lt_of_le (h.below b hb) hn,h.new,⟨Nat.le_trans h.fr.next hn,fun b hb hno=>(e b).trans (h.fr.get b hb hno)⟩⟩
noncomputable def dels(M:TM)(done:List UE):TM:=fun k=>if (uget done k).isSome then none else M k
theorem dels_snoc{M:TM}{done:List UE}{x:UE}:dels M (done++[x])=(dels M done).del x.1:=by
 funext k
 unfold dels TM.del
 rw [uget_snoc]
 by_cases e:k=x.1
 ·simp [e]
 ·simp [e]
theorem Holds.delete{A:ASt}{m:Nat}{M:TM}(h:Holds A m M)(k:ByteArray):∃ A',aDelete E0 97 (.map (some m)) (.string k) A=.val undef A'∧Holds A' m (M.del k)∧Fr [m] A A':=by
 obtain ⟨l,ck,hl,hok,hg⟩:=h
 have:=deleteT hl k
 by_cases hs:(uget l k).isSome=true
 ·rw [if_pos hs] at this
  refine ⟨_,this,⟨_,_,by rw [ASt.get_set,if_pos rfl],udel_ok hok,fun j=>?_⟩,Nat.le_refl _,fun b _ hn=>by rw [ASt.get_set,if_neg (by simpa using hn)]⟩
  rw [uget_udel hok.keys,hg];rfl
 ·rw [if_neg hs] at this
  refine ⟨_,this,⟨l,ck,hl,hok,fun j=>?_⟩,.refl _ _⟩
  have hn:M k=none:=by rw [← hg];simpa using hs
  rw [hg]
  unfold TM.del
  by_cases e:j=k<;>simp [e,hn]
theorem Holds.update{A:ASt}{m:Nat}{M:TM}(h:Holds A m M)(k:ByteArray)(a:Nat):∃ A',aMapUpdate E0 97 (.map (some m)) (.string k) (.int .u64 (a:Int)) A=some A'∧Holds A' m (M.put k a)∧Fr [m] A A':=by
 obtain ⟨l,ck,hl,hok,hg⟩:=h
 refine ⟨_,updateT hl k a,⟨_,_,by rw [ASt.get_set,if_pos rfl],uput_ok hok,fun j=>?_⟩,Nat.le_refl _,fun b _ hn=>by rw [ASt.get_set,if_neg (by simpa using hn)]⟩
 rw [uget_uput,hg];rfl
theorem Holds.block{A:ASt}{m:Nat}{M:TM}(h:Holds A m M){c:List Value}{sz:Nat}{tl:Bool}{p:Nat}(hp:A.get p=some (.row c sz tl)):p≠m:=by
 rintro rfl
 obtain ⟨l,ck,hl,_⟩:=h
 rw [hp] at hl
 cases hl

theorem wrap_succ{n:Nat}(h:n<1000000):IntKind.i64.wrap ((n:Int)+1)=((n+1:Nat):Int):=by rw [IntKind.wrap_i64];omega

theorem pas_int{b:Nat}(h:b≤64):IntKind.i64.wrap ((IntKind.i64.wrap (IntKind.i64.wrap ((b:Int)+4)-1)).tdiv 4)=(((b+3) / 4:Nat):Int):=by
 have:∀ b:Fin 65,IntKind.i64.wrap ((IntKind.i64.wrap (IntKind.i64.wrap (((b.1:Nat):Int)+4)-1)).tdiv 4)=(((b.1+3) / 4:Nat):Int):=by decide +kernel
 exact this ⟨b,by omega⟩

theorem adv_walk{A:ASt}{W all now nw:Nat}{ms:List Nat}{M:TM}(h:WheelAt A W all ms now M)(hnw:nw<18446744073709551616)
  (hs:∀ {A:ASt} {d:Nat} {D:TM},Holds A d D→(∀ k a,D k=some a→M k=some a)→d<A.next→CallW Z Tryz.prog 63 [.map (some d)] A (Srt D A)) :
  CallW Z Tryz.prog 35 [.pointer (some ⟨W,0,none⟩),.int .u64 (nw:Int)] A (fun v A'=>if nw<now then v=.slice none 0 0∧WheelAt A' W all ms now M∧Fr (W::all::ms) A A' else ∃ ts,Lists (fun k=>(M k).filter fun a=>decide (a≤nw)) ts∧SliceAt A' A.next v ts∧WheelAt A' W all ms nw (fun k=>(M k).filter fun a=>decide (nw<a))∧Fr (W::all::ms) A A'):=by
 refine CallW.of_code E0_ok E0_ro fn35 rfl (n:=95) rfl (rs:=[.tmp 4]) rfl (by simp) (codeW_ok E0_ok E0_ro ?_)
 have hW:=h.row
 simp only [z_0,flat,cond_true,if_true,if_false,eq_self,Nat.reduceAdd,Nat.reduceLT,reduceCtorEq,box22,ptrTo]
 refine CodeW.quiet E0_ok E0_ro mixed (by kernel_rfl) (by kernel_rfl) ?_
 have hWb:=h.below W (by simp)
 have hne:W≠A.next:=by omega
 have hx:nw ^^^ now<18446744073709551616:=Nat.xor_lt_two_pow (n:=64) (by omega) (by have:=h.nowlt;omega)
 simp only [wrow_now,eqnil25,z_0,flat,Option.isNone,aFieldAddr,cond_true,cond_false,if_true,if_false,List.length_cons,List.length_nil,eq_self,Nat.reduceEqDiff,Nat.reduceAdd,Nat.reduceLT,reduceCtorEq,quietW_nil,quietW_arr,quietW_cons,aStill,freshOp,quietOp,E0_ron,get_empty,get_next,ofVal_none,valEq_int,valEq_bool,valEq_ptr,List.length_cons,List.length_nil,if_neg hne,hW]
 refine brW_dec (fun hlt=>?_) (fun hlt=>?_)
 ·have hlt':nw<now:=by omega
  simp only [z_0,flat,cond_true,if_true,if_false,eq_self,Nat.reduceEqDiff,Nat.reduceLT,reduceCtorEq,hlt']
  refine ⟨h.congr ?_ fun b hb=>?_,?_,fun b hb hn=>?_⟩
  ·simp only [];omega
  ·have:=h.below b hb
   simp only [get_next,ASt.get_new];rw [if_neg (by omega)]
  ·simp only [];omega
  ·simp only [get_next,ASt.get_new];rw [if_neg (by omega)]
 ·have hge:¬ nw<now:=by omega
  generalize hBd:ASt.mk (ASt.heap (A.new _)) _=B
  have hBg:∀ b,B.get b=if b=A.next then some (.row [.int .u64 (nw:Int)] 1 false) else A.get b:=fun b=>by rw [← hBd,get_next,ASt.get_new]
  have hBn:A.next<B.next:=by rw [← hBd];show A.next<A.next+1+_;omega
  clear hBd
  simp only [z_0,if_true,if_false,eq_self,Nat.reduceEqDiff,Nat.reduceLT,reduceCtorEq,alloc59,ptrTo]
  rw [store59 (x:=.map none) (by rw [ASt.get_new,if_pos (by rw [ASt.next_new])])]
  simp only [z_0,if_true,if_false,eq_self,Nat.reduceEqDiff,Nat.reduceLT,reduceCtorEq,alloc59,ptrTo]
  rw [store59 (x:=.map none) (by rw [ASt.get_new,if_pos (by rw [ASt.next_new,ASt.next_set,ASt.next_new,ASt.next_new])])]
  simp only [z_0]
  generalize hCd:ASt.set _ (B.next+1+1+1) _=C
  have hCg:∀ b,C.get b=if b=B.next+1+1+1 then some (.row [.map (some (B.next+1+1))] 1 false) else if b=B.next+1+1 then some (.map [] 0) else if b=B.next+1 then some (.row [.map (some B.next)] 1 false) else if b=B.next then some (.map [] 0) else B.get b:=fun b=>by
   rw [← hCd]
   simp only [ASt.get_set,ASt.get_new,ASt.next_new,ASt.next_set]
   by_cases e1:b=B.next+1+1+1
   ·simp [e1]
   ·by_cases e2:b=B.next+1+1
    ·simp [e2]
    ·by_cases e3:b=B.next+1
     ·simp [e3]
     ·simp [e1,e2,e3]
  have hCn:C.next=B.next+4:=by rw [← hCd];simp only [ASt.next_set,ASt.next_new]
  clear hCd
  refine CodeW.seqd E0_ok E0_ro mixed R27_ok [0,1,2,3,4,5,6,7,8,9,10] [] (by simp only [reorder,reoGo,strip,List.map_cons,List.map_nil,opAt,remap,nth,Option.map,σ,place',List.length_cons,List.length_nil,Nat.reduceAdd];rfl) (by decide +kernel) (by kernel_rfl) (by kernel_rfl) (by kernel_rfl) ?_
  have c3:C.get A.next=some (.row [.int .u64 (nw:Int)] 1 false):=by
   rw [hCg,if_neg (by omega),if_neg (by omega),if_neg (by omega),if_neg (by omega),hBg,if_pos rfl]
  have cW:C.get W=some (.row (wrow now all ms) 67 false):=by
   rw [hCg,if_neg (by omega),if_neg (by omega),if_neg (by omega),if_neg (by omega),hBg,if_neg (by omega)];exact hW
  simp only [wrow_now,z_0,aFieldAddr,cond_true,cond_false,if_true,if_false,List.length_cons,List.length_nil,List.append_nil,List.nil_append,eq_self,Nat.reduceEqDiff,Nat.reduceAdd,Nat.reduceLT,reduceCtorEq,q_0,q_1,q_2,hasN,E0_ron,List.length_cons,List.length_nil,c3,cW,b_xor64 hnw h.nowlt]
  refine con27 hx ?_
  have hb:Lib.bitLen (nw ^^^ now)≤64:=Lib.bitLen_le _ _ (by omega) hx
  simp only [z_0,flat,cond_true,if_true,if_false,eq_self,Nat.reduceEqDiff,Nat.reduceLT,reduceCtorEq,q_0,q_2,pendW,b_quo (show (4:Int)≠0 by decide)]
  have hpas:IntKind.i64.wrap ((IntKind.i64.wrap (IntKind.i64.wrap (((Lib.bitLen (nw ^^^ now):Nat):Int)+4)-1)).tdiv 4)=(((Lib.bitLen (nw ^^^ now)+3) / 4:Nat):Int):=pas_int hb
  simp only [hpas]
  have hp:(Lib.bitLen (nw ^^^ now)+3) / 4≤16:=by omega
  generalize hpd:(Lib.bitLen (nw ^^^ now)+3) / 4=ps at hp
  refine CodeW.label' ?_
  simp only [z_0,flat,cond_true,if_true,if_false,eq_self,Nat.reduceEqDiff,Nat.reduceLT,reduceCtorEq]
  have hadv0:Adv A C W all now ms M nw A.next (B.next+1) (B.next+1+1+1) B.next (B.next+1+1) (fun i=>decide (i<16*0)):=by
   have keep:∀ b,b<A.next→C.get b=A.get b:=fun b hb=>by
    rw [hCg,if_neg (by omega),if_neg (by omega),if_neg (by omega),if_neg (by omega),hBg,if_neg (by omega)]
   have hbl:=h.below
   refine ⟨cW,h.allm.congr (keep _ (hbl all (by simp))),fun i m hm=>?_,?_,?_,c3,?_,?_,?_,?_,?_,?_⟩
   ·simp only [Nat.mul_zero,Nat.not_lt_zero,decide_false,Bool.false_eq_true,if_false]
    exact (h.slot i m hm).congr (keep _ (hbl m (by simp [List.mem_of_getElem? hm])))
   ·refine ⟨[],0,by rw [hCg,if_neg (by omega),if_neg (by omega),if_neg (by omega),if_pos rfl];rfl,⟨.nil,.nil,by simp⟩,fun k=>?_⟩
    cases hk:M k<;>simp [uget,Option.filter,hk]
   ·refine ⟨[],0,by rw [hCg,if_neg (by omega),if_pos rfl];rfl,⟨.nil,.nil,by simp⟩,fun k=>?_⟩
    cases hk:M k<;>simp [uget,Option.filter,hk]
   ·rw [hCg,if_neg (by omega),if_neg (by omega),if_pos rfl]
   ·rw [hCg,if_pos rfl]
   ·have hn:=h.nodup
    simp only [List.nodup_cons,List.mem_cons,not_or] at hn ⊢
    have b1:=hbl W (by simp)
    have b2:=hbl all (by simp)
    have b3:∀ m∈ms,m<A.next:=fun m hm=>hbl m (by simp [hm])
    refine ⟨⟨hn.1.1,by omega,by omega,hn.1.2⟩,⟨by omega,by omega,hn.2.1⟩,⟨by omega,fun hm=>?_⟩,fun hm=>?_,hn.2.2⟩
    ·have:=b3 _ hm;omega
    ·have:=b3 _ hm;omega
   ·intro b hb
    simp only [List.mem_cons] at hb
    rw [hCn]
    rcases hb with rfl | rfl | rfl | rfl | rfl | rfl | rfl | hb
    ·omega
    ·have:=hbl b (by simp);omega
    ·omega
    ·omega
    ·omega
    ·omega
    ·omega
    ·have:=hbl b (by simp [hb]);omega
   ·intro b hb
    simp only [List.mem_cons,List.not_mem_nil,or_false] at hb
    rcases hb with rfl | rfl | rfl | rfl | rfl<;>omega
   ·exact ⟨by omega,fun b hb _=>keep b hb⟩
  generalize B.next+1+1+1=p6 at hadv0 ⊢
  generalize B.next+1+1=lf at hadv0 ⊢
  generalize B.next+1=p5 at hadv0 ⊢
  generalize B.next=d at hadv0 ⊢
  generalize A.next=p3 at hadv0 ⊢
  refine CodeW.mono (Q:=fun o=>∃ T' A',o=.fr ⟨.exit 0,T',A'⟩∧AdvT T' W p3 p5 p6 ps∧Adv A A' W all now ms M nw p3 p5 p6 d lf (fun i=>decide (i<16*min 4 ps))) ?_ ?_
  ·refine CodeW.loopR (k:=4) (fun k T A'=>∃ L,k=4-L∧L≤4∧L≤ps∧tget T 37=.int .i64 (L:Int)∧AdvT T W p3 p5 p6 ps∧Adv A A' W all now ms M nw p3 p5 p6 d lf (fun i=>decide (i<16*L))) ?_ ⟨0,rfl,by omega,by omega,?_,?_,?_⟩
   ·rintro k T1 A1 ⟨L,rfl,h4,hL,t37,ht,ha⟩
    refine codeW_ok E0_ok E0_ro ?_
    simp only [z_0,flat,cond_true,if_true,eq_self,Nat.reduceLT,t37]
    refine brW_dec (fun hl4=>?_) (fun hl4=>?_)
    ·have hl4':L<4:=by omega
     simp only [z_0,flat,cond_true,if_true,if_false,eq_self,Nat.reduceEqDiff,Nat.reduceLT,t37]
     refine CodeW.mono (Q:=fun o=>(∃ T' A',o=.fr ⟨.exit 2,T',A'⟩∧L<ps∧tget T' 37=.int .i64 (L:Int)∧AdvT T' W p3 p5 p6 ps∧Adv A A' W all now ms M nw p3 p5 p6 d lf (fun i=>decide (i<16*L+16)))∨(∃ T' A',o=.fr ⟨.exit 0,T',A'⟩∧L=ps∧AdvT T' W p3 p5 p6 ps∧Adv A A' W all now ms M nw p3 p5 p6 d lf (fun i=>decide (i<16*L)))) ?_ ?_
     ·refine CodeW.loopR (k:=16) (fun k T A'=>∃ j,k=16-j∧j≤16∧(0<j→L<ps)∧tget T 40=.int .i64 (j:Int)∧tget T 9=.int .i64 (L:Int)∧tget T 37=.int .i64 (L:Int)∧AdvT T W p3 p5 p6 ps∧Adv A A' W all now ms M nw p3 p5 p6 d lf (fun i=>decide (i<16*L+j))) ?_ ⟨0,rfl,by omega,by omega,?_,?_,?_,?_,?_⟩
      ·rintro k T2 A2 ⟨j,rfl,hj,hjl,u40,u9,u37,ut,ua⟩
       refine codeW_ok E0_ok E0_ro ?_
       simp only [z_0,flat,cond_true,if_true,eq_self,Nat.reduceLT,u40]
       refine brW_dec (fun hj6=>?_) (fun hj6=>?_)
       ·have hj6':j<16:=by omega
        have t0:=ut.t0
        have t7:=ut.t7
        have t8:=ut.t8
        simp only [z_0,if_true,if_false,eq_self,Nat.reduceEqDiff,Nat.reduceLT,u40,u9,t7]
        refine brW_dec (fun hge=>?_) (fun hge=>?_)
        ·have e0:j=0:=by omega
         subst e0
         simp only [z_0,eq_self,reduceCtorEq]
         exact .inr ⟨_,_,rfl,by omega,(ut.congr (by intro t ht';simp only [List.mem_cons,List.not_mem_nil,or_false] at ht';rcases ht' with rfl | rfl | rfl | rfl | rfl | rfl<;>simp only [tget_put,Nat.reduceEqDiff,if_false])),ua.congrD (fun i hi=>by simp) h.len⟩
        ·have hLp:L<ps:=by omega
         have uW:=ua.row
         have hix:16*L+j<ms.length:=by rw [h.len];omega
         have hm:ms[16*L+j]? = some ms[16*L+j]:=List.getElem?_eq_getElem _
         have hsl:nth (wrow now all ms) (2+L*16+j)=some (.map (some ms[16*L+j])):=by
          have:=wrow_slot (now:=now) (all:=all) (ms:=ms) (k:=16*L+j) hix
          rw [← this];congr 1;omega
         have ei1:∀ o,aIndexAddr E0 99 (.pointer (some ⟨W,o,none⟩)) (.int .i64 (L:Int))=some (.pointer (some ⟨W,o+L*16,none⟩)):=fun o=>by
          have:=indexAddr_arr (A:=A2) ti99 t99_desc ti98 (kd:=.i64) (k:=L) (b:=W) (off:=o) hl4'
          rwa [t98_size] at this
         have ei2:∀ o,aIndexAddr E0 98 (.pointer (some ⟨W,o,none⟩)) (.int .i64 (j:Int))=some (.pointer (some ⟨W,o+j,none⟩)):=fun o=>by
          have:=indexAddr_arr (A:=A2) ti98 t98_desc ti97 (kd:=.i64) (k:=j) (b:=W) (off:=o) hj6'
          rwa [t97_size,Nat.mul_one] at this
         have t0:=ut.t0
         have t8:=ut.t8
         simp only [z_0,aFieldAddr,cond_false,if_true,if_false,List.cons_append,List.nil_append,eq_self,Nat.reduceEqDiff,Nat.reduceLT,reduceCtorEq,u9,t0,t8,uW,ei1,ei2,hsl]
         refine CallT.mono (ua.step hm (by simp)) ?_
         rintro _ A3 ua3
         simp only [z_0,flat,cond_true,if_true,if_false,eq_self,Nat.reduceEqDiff,Nat.reduceLT,u40,wrap_succ (show j<1000000 by omega)]
         exact ⟨16-(j+1),by omega,j+1,rfl,by omega,fun _=>hLp,rfl,u9,u37,(ut.congr (by intro t ht';simp only [List.mem_cons,List.not_mem_nil,or_false] at ht';rcases ht' with rfl | rfl | rfl | rfl | rfl | rfl<;>simp only [tget_put,Nat.reduceEqDiff,if_false])),ua3.congrD (fun i hi=>by rw [Bool.eq_iff_iff];simp only [Bool.or_eq_true,decide_eq_true_eq];omega) h.len⟩
       ·have e16:j=16:=by omega
        subst e16
        simp only [z_0]
        exact .inl ⟨_,_,rfl,hjl (by omega),by simp only [tget_put,Nat.reduceEqDiff,if_false];exact u37,(ut.congr (by intro t ht';simp only [List.mem_cons,List.not_mem_nil,or_false] at ht';rcases ht' with rfl | rfl | rfl | rfl | rfl | rfl<;>simp only [tget_put,Nat.reduceEqDiff,if_false])),ua⟩
      ·simp only [tget_put,Nat.reduceEqDiff,if_false,if_true];rfl
      ·simp only [tget_put,Nat.reduceEqDiff,if_false,if_true]
      ·simp only [tget_put,Nat.reduceEqDiff,if_false];exact t37
      ·exact (ht.congr (by intro t ht';simp only [List.mem_cons,List.not_mem_nil,or_false] at ht';rcases ht' with rfl | rfl | rfl | rfl | rfl | rfl<;>simp only [tget_put,Nat.reduceEqDiff,if_false]))
      ·exact ha
     ·rintro o (⟨T',A',rfl,hlt,u37,ut,ua⟩ | ⟨T',A',rfl,hlt,ut,ua⟩)
      ·simp only [z_0,flat,cond_true,if_true,if_false,eq_self,Nat.reduceEqDiff,Nat.reduceLT,u37,wrap_succ (show L<1000000 by omega)]
       exact ⟨4-(L+1),by omega,L+1,rfl,by omega,by omega,rfl,(ut.congr (by intro t ht';simp only [List.mem_cons,List.not_mem_nil,or_false] at ht';rcases ht' with rfl | rfl | rfl | rfl | rfl | rfl<;>simp only [tget_put,Nat.reduceEqDiff,if_false])),ua.congrD (fun i hi=>by rw [Bool.eq_iff_iff];simp only [decide_eq_true_eq];omega) h.len⟩
      ·simp only [z_0,eq_self,reduceCtorEq]
       exact ⟨_,_,rfl,ut,ua.congrD (fun i hi=>by rw [Bool.eq_iff_iff];simp only [decide_eq_true_eq];omega) h.len⟩
    ·have e4:L=4:=by omega
     subst e4
     simp only [z_0]
     exact ⟨_,_,rfl,(ht.congr (by intro t ht';simp only [List.mem_cons,List.not_mem_nil,or_false] at ht';rcases ht' with rfl | rfl | rfl | rfl | rfl | rfl<;>simp only [tget_put,Nat.reduceEqDiff,if_false])),ha.congrD (fun i hi=>by rw [Bool.eq_iff_iff];simp only [decide_eq_true_eq];omega) h.len⟩
   ·simp only [tget_put,Nat.reduceEqDiff,if_false,if_true];rfl
   ·constructor<;>simp only [tget_put,Nat.reduceEqDiff,if_false,if_true]<;>rfl
   ·exact hadv0.congrA (fun b=>rfl) (Nat.le_add_right _ _)
  ·rintro o ⟨T',A1,rfl,ht,ha⟩
   have t0:=ht.t0
   have t7:=ht.t7
   have t8:=ht.t8
   simp only [z_0,flat,cond_true,if_true,if_false,eq_self,Nat.reduceEqDiff,Nat.reduceLT,t7]
   refine brW_join (fun T' A'=>AdvT T' W p3 p5 p6 ps∧Adv A A' W all now ms M nw p3 p5 p6 d lf (fun i=>decide (i<16*ps))) (fun h5=>?_) (fun h5=>?_) ?_
   ·have h5':4<ps:=by have:=of_decide_eq_true h5;omega
    have e4:min 4 ps=4:=by omega
    rw [e4] at ha
    have aW:=ha.row
    have hix:64<ms.length:=by rw [h.len];omega
    have hm:ms[64]? = some ms[64]:=List.getElem?_eq_getElem _
    have hsl:nth (wrow now all ms) 66=some (.map (some ms[64])):=wrow_slot hix
    simp only [z_0,aFieldAddr,cond_false,if_true,if_false,List.cons_append,List.nil_append,eq_self,Nat.reduceEqDiff,Nat.reduceLT,reduceCtorEq,t0,t8,aW,hsl]
    refine CallT.mono (ha.step hm (by simp)) ?_
    rintro _ A3 ha3
    simp only [z_0,Nat.reduceLT]
    exact ⟨_,_,rfl,(ht.congr (by intro t ht';simp only [List.mem_cons,List.not_mem_nil,or_false] at ht';rcases ht' with rfl | rfl | rfl | rfl | rfl | rfl<;>simp only [tget_put,Nat.reduceEqDiff,if_false])),ha3.congrD (fun i hi=>by rw [Bool.eq_iff_iff];simp only [Bool.or_eq_true,decide_eq_true_eq];omega) h.len⟩
   ·have h5':ps≤4:=by have:=of_decide_eq_false h5;omega
    exact codeW_skip ⟨_,_,rfl,(ht.congr (by intro t ht';simp only [List.mem_cons,List.not_mem_nil,or_false] at ht';rcases ht' with rfl | rfl | rfl | rfl | rfl | rfl<;>simp only [tget_put,Nat.reduceEqDiff,if_false])),ha.congrD (fun i hi=>by rw [Bool.eq_iff_iff];simp only [decide_eq_true_eq];omega) h.len⟩
   ·clear ha ht t0 t7 t8
    rintro T2 A2 ⟨ht,ha⟩
    have t0:=ht.t0
    have t3:=ht.t3
    have t5:=ht.t5
    have t6:=ht.t6
    have aW:=ha.row
    have a3:=ha.h3
    have a5:=ha.h5
    have hst:=storeNow (nw:=nw) aW
    have hn5:=ha.new p5 (by simp)
    have hnd:=ha.new d (by simp)
    have hnl:=ha.new lf (by simp)
    have hbW:W<A.next:=h.below W (by simp)
    obtain ⟨ed,ckd,hed,hokd,hgd⟩:=ha.due
    have hed':(A2.set W (.row (wrow nw all ms) 67 false)).get d=some (.map (uEnts ed) ckd):=by rw [ASt.get_set,if_neg (by omega)];exact hed
    have a5':(A2.set W (.row (wrow nw all ms) 67 false)).get p5=some (.row [.map (some d)] 1 false):=by rw [ASt.get_set,if_neg (by omega)];exact a5
    simp only [z_0,aFieldAddr,cond_false,if_true,if_false,eq_self,Nat.reduceEqDiff,Nat.reduceLT,reduceCtorEq,t0,t3,t5,a3,a5',hst,rangeT hed']
    have hXg:∀ b,(A2.set W (.row (wrow nw all ms) 67 false)).get b=if b=W then some (.row (wrow nw all ms) 67 false) else A2.get b:=fun b=>by rw [ASt.get_set]
    have hXn:(A2.set W (.row (wrow nw all ms) 67 false)).next=A2.next:=rfl
    generalize A2.set W (.row (wrow nw all ms) 67 false)=X at hXg hXn hed' a5' ⊢
    have hall:=ha.allm
    have hbX:∀ b∈W::all::d::lf::p3::p5::p6::ms,b<X.next:=fun b hb=>by rw [hXn];exact ha.below b hb
    have hnod:=ha.nodup
    simp only [List.nodup_cons,List.mem_cons,not_or] at hnod
    obtain ⟨⟨w1,w2,w3,w4⟩,⟨al1,al2,al3⟩,⟨d1,d2⟩,l1,hms⟩:=hnod
    have hXall:Holds X all M:=hall.congr (by rw [hXg,if_neg (Ne.symm w1)])
    have XW:X.get W=some (.row (wrow nw all ms) 67 false):=by rw [hXg,if_pos rfl]
    have Xb:∀ b∈W::all::d::lf::p3::p5::p6::ms,b≠X.next:=fun b hb=>by have:=hbX b hb;omega
    refine CodeW.mono (Q:=fun o=>∃ T' A' done,o=.fr ⟨.exit 4,T',A'⟩∧InMap 71 X.next d ckd ed done T' A'∧(∀ x∈ed,x∈done)∧tget T' 0=.pointer (some ⟨W,0,none⟩)∧tget T' 5=.pointer (some ⟨p5,0,none⟩)∧tget T' 6=.pointer (some ⟨p6,0,none⟩)∧Holds A' all (dels M done)∧Fr [all] X A'∧X.next<A'.next) ?_ ?_
    ·refine CodeW.mapLoop (it:=71) (r:=X.next) (m:=d) (ck:=ckd) (l:=ed) (J:=fun done T A'=>tget T 0=.pointer (some ⟨W,0,none⟩)∧tget T 5=.pointer (some ⟨p5,0,none⟩)∧tget T 6=.pointer (some ⟨p6,0,none⟩)∧Holds A' all (dels M done)∧Fr [all] X A'∧X.next<A'.next) ?_ ?_ ?_
     ·rintro done T3 A3 hi ⟨u0,u5,u6,hd3,f3,nx3⟩
      refine codeW_ok E0_ok E0_ro ?_
      have hit:=hi.it
      simp only [z_0,hit]
      refine nextV_u hokd hi.sub hi.iter hi.map (fun x hx hn=>?_) (fun hfin=>?_)
      ·have hent:=entry_u (A:=A3.set X.next (.miter (some d) ckd ((done++[x]).map (·.2.2)) ckd)) (r:=X.next) (m:=d) hokd hx (by rw [ASt.get_set,if_pos rfl]) (by rw [ASt.get_set,if_neg (Xb d (by simp))];exact hi.map)
       have hB:∀ b,(A3.set X.next (.miter (some d) ckd ((done++[x]).map (·.2.2)) ckd)).get b=if b=X.next then some (.miter (some d) ckd ((done++[x]).map (·.2.2)) ckd) else A3.get b:=fun b=>by rw [ASt.get_set]
       have hBn:(A3.set X.next (.miter (some d) ckd ((done++[x]).map (·.2.2)) ckd)).next=A3.next:=rfl
       generalize A3.set X.next (.miter (some d) ckd ((done++[x]).map (·.2.2)) ckd)=B3 at hent hB hBn ⊢
       have BW:B3.get W=some (.row (wrow nw all ms) 67 false):=by
        rw [hB,if_neg (Xb W (by simp)),f3.get W (hbX W (by simp)) (by simpa using w1)];exact XW
       obtain ⟨B4,hdel,h4,f4⟩:=(hd3.congr (show B3.get all=A3.get all by rw [hB,if_neg (Xb all (by simp))])).delete x.1
       have b3X:X.next<B3.next:=by
        rw [hBn];exact nx3
       simp only [wrow_all,z_0,aFieldAddr,aBuiltin,cond_false,if_true,if_false,eq_self,Nat.reduceEqDiff,Nat.reduceLT,reduceCtorEq,hit,hent,u0,BW,hdel]
       refine ⟨x,hx,hn,hi.step hx hn (by simp only [tget_put,Nat.reduceEqDiff,if_false]) ?_ ?_,u5,u6,?_,⟨?_,?_⟩,?_⟩
       ·rw [f4.get _ b3X (by simpa using Ne.symm (Xb all (by simp))),hB,if_pos rfl]
       ·rw [f4.get d (by have:=hbX d (by simp);omega) (by simpa using Ne.symm al1),hB,if_neg (Xb d (by simp))]
       ·rw [dels_snoc];exact h4
       ·have:=f3.next;have:=f4.next;omega
       ·intro b hb hn
        rw [f4.get b (by omega) hn,hB,if_neg (by omega)];exact f3.get b hb hn
       ·have:=f4.next;omega
      ·simp only [z_0,if_true,if_false,eq_self,Nat.reduceEqDiff,Nat.reduceLT]
       refine ⟨_,_,done,rfl,⟨?_,hi.iter,hi.map,hi.sub,hi.nodup⟩,hfin,?_,?_,?_,hd3,f3,nx3⟩
       ·simp only [tget_put,Nat.reduceEqDiff,if_false];exact hit
       ·simp only [tget_put,Nat.reduceEqDiff,if_false];exact u0
       ·simp only [tget_put,Nat.reduceEqDiff,if_false];exact u5
       ·simp only [tget_put,Nat.reduceEqDiff,if_false];exact u6
     ·refine ⟨by simp only [tget_put,Nat.reduceEqDiff,if_false,if_true];rw [hXn],by rw [ASt.get_new,if_pos rfl];rfl,by rw [ASt.get_new,if_neg (Xb d (by simp))];exact hed',by simp,.nil⟩
     ·refine ⟨?_,?_,?_,hXall.congr (by rw [ASt.get_new,if_neg (Xb all (by simp))]),⟨Nat.le_succ _,fun b hb hn=>by rw [ASt.get_new,if_neg (by omega)]⟩,Nat.lt_succ_self _⟩
      ·simp only [tget_put,Nat.reduceEqDiff,if_false];exact t0
      ·simp only [tget_put,Nat.reduceEqDiff,if_false];exact t5
      ·simp only [tget_put,Nat.reduceEqDiff,if_false];exact t6
    ·rintro o ⟨T3,Y,done,rfl,hiD,hfin,u0,u5,u6,hYall,fY,nxY⟩
     obtain ⟨_,hug⟩:=uget_all hokd hiD.sub hfin hiD.nodup
     have keepY:∀ b∈W::all::d::lf::p3::p5::p6::ms,b≠W→b≠all→Y.get b=A2.get b:=fun b hb n1 n2=>by
      rw [fY.get b (hbX b hb) (by simpa using n2),hXg,if_neg n1]
     have YW:Y.get W=some (.row (wrow nw all ms) 67 false):=by rw [fY.get W (hbX W (by simp)) (by simpa using w1)];exact XW
     have p5W:p5≠W:=by omega
     have p6W:p6≠W:=by have:=ha.new p6 (by simp);omega
     have p5a:p5≠all:=hall.block a5
     have p6a:p6≠all:=hall.block ha.h6
     have Y5:Y.get p5=some (.row [.map (some d)] 1 false):=(keepY p5 (by simp) p5W p5a).trans a5
     have Y6:Y.get p6=some (.row [.map (some lf)] 1 false):=(keepY p6 (by simp) p6W p6a).trans ha.h6
     have hbY:∀ b∈W::all::d::lf::p3::p5::p6::ms,b<Y.next:=fun b hb=>by have:=hbX b hb;have:=fY.next;omega
     have Yb:∀ b∈W::all::d::lf::p3::p5::p6::ms,b≠Y.next:=fun b hb=>by have:=hbY b hb;omega
     have hYl:Holds Y lf (fun k=>(M k).filter fun a=>decide (plc now a<16*ps) && !decide (a≤nw)):=ha.lft.congr (keepY lf (by simp) (Ne.symm w3) (Ne.symm al2))
     have hYd:Holds Y d (fun k=>(M k).filter fun a=>decide (plc now a<16*ps) && decide (a≤nw)):=ha.due.congr (keepY d (by simp) (Ne.symm w2) (Ne.symm al1))
     have hYs:∀ i m,ms[i]? = some m→Holds Y m (if i<16*ps then (fun _=>none) else M.at_ now i):=fun i m hm=>by
      have hmem:=List.mem_of_getElem? hm
      have:=ha.slot i m hm
      simp only [decide_eq_true_eq] at this
      exact this.congr (keepY m (by simp [hmem]) (fun e=>w4 (e ▸ hmem)) (fun e=>al3 (e ▸ hmem)))
     obtain ⟨el,ckl,hel,hokl,hgl⟩:=hYl
     simp only [z_0,cond_false,if_true,eq_self,Nat.reduceLT,u6,Y6,rangeT hel]
     have injm:∀ {i j m:Nat},ms[i]? = some m→ms[j]? = some m→i=j:=fun {i j m} hi hj=>by
      obtain ⟨x1,x2⟩:=List.getElem?_eq_some_iff.1 hi
      obtain ⟨y1,y2⟩:=List.getElem?_eq_some_iff.1 hj
      rcases Nat.lt_trichotomy i j with hlt | he | hlt
      ·exact absurd (x2.trans y2.symm) (List.pairwise_iff_getElem.1 hms i j x1 y1 hlt)
      ·exact he
      ·exact absurd (y2.trans x2.symm) (List.pairwise_iff_getElem.1 hms j i y1 x1 hlt)
     have hlv:∀ x∈el,x.2.1<18446744073709551616:=fun x hx=>by
      have h1:=uget_mem hokl.keys hx
      rw [hgl] at h1
      obtain ⟨h2,_⟩:=Option.filter_eq_some_iff.1 h1
      exact h.lt _ _ h2
     refine CodeW.mono (Q:=fun o=>∃ T' A' done,o=.fr ⟨.exit 6,T',A'⟩∧(∀ x∈done,x∈el)∧(∀ x∈el,x∈done)∧done.Nodup∧tget T' 5=.pointer (some ⟨p5,0,none⟩)∧(∀ i m,ms[i]? = some m→Holds A' m (puts (if i<16*ps then (fun _=>none) else M.at_ now i) done fun a=>decide (plc nw a=i)))∧Fr ms Y A') ?_ ?_
     ·refine CodeW.mapLoop (it:=82) (r:=Y.next) (m:=lf) (ck:=ckl) (l:=el) (J:=fun done T A'=>tget T 0=.pointer (some ⟨W,0,none⟩)∧tget T 5=.pointer (some ⟨p5,0,none⟩)∧(∀ i m,ms[i]? = some m→Holds A' m (puts (if i<16*ps then (fun _=>none) else M.at_ now i) done fun a=>decide (plc nw a=i)))∧Fr ms Y A'∧Y.next<A'.next) ?_ ?_ ?_
      ·rintro done T4 A4 hi ⟨v0,v5,hs4,f4,nx4⟩
       refine codeW_ok E0_ok E0_ro ?_
       have hit:=hi.it
       simp only [z_0,hit]
       refine nextV_u hokl hi.sub hi.iter hi.map (fun x hx hn=>?_) (fun hfin=>?_)
       ·have hkey:=fresh_key hokl hi.sub hx hn
        have hent:=entry_u (A:=A4.set Y.next (.miter (some lf) ckl ((done++[x]).map (·.2.2)) ckl)) (r:=Y.next) (m:=lf) hokl hx (by rw [ASt.get_set,if_pos rfl]) (by rw [ASt.get_set,if_neg (Yb lf (by simp))];exact hi.map)
        have hB:∀ b,(A4.set Y.next (.miter (some lf) ckl ((done++[x]).map (·.2.2)) ckl)).get b=if b=Y.next then some (.miter (some lf) ckl ((done++[x]).map (·.2.2)) ckl) else A4.get b:=fun b=>by rw [ASt.get_set]
        have hBn:(A4.set Y.next (.miter (some lf) ckl ((done++[x]).map (·.2.2)) ckl)).next=A4.next:=rfl
        generalize A4.set Y.next (.miter (some lf) ckl ((done++[x]).map (·.2.2)) ckl)=B3 at hent hB hBn ⊢
        have BW:B3.get W=some (.row (wrow nw all ms) 67 false):=by
         rw [hB,if_neg (Yb W (by simp)),f4.get W (hbY W (by simp)) w4];exact YW
        simp only [z_0,if_true,if_false,List.append_nil,List.nil_append,eq_self,Nat.reduceEqDiff,Nat.reduceLT,reduceCtorEq,hit,hent,v0]
        refine CallT.mono (place_walk BW h.len hnw (hlv x hx)) ?_
        rintro _ _ ⟨rfl,kx,rfl⟩
        have hpl:plc nw x.2.1<ms.length:=by rw [h.len];exact plc_lt
        have hm:ms[plc nw x.2.1]? = some (ms[plc nw x.2.1]'hpl):=List.getElem?_eq_getElem _
        generalize ms[plc nw x.2.1]'hpl=m at hm
        have hmem:=List.mem_of_getElem? hm
        have hmY:m≠Y.next:=Yb m (by simp [hmem])
        obtain ⟨B4,hup,h4,g4⟩:=((hs4 _ m hm).congr (show ASt.get { heap:=B3.heap,next:=B3.next+kx } m=A4.get m by rw [get_next,hB,if_neg hmY])).update x.1 x.2.1
        simp only [z_0,if_true,if_false,eq_self,Nat.reduceEqDiff,Nat.reduceLT,reduceCtorEq,hup]
        have gB:∀ b,b<B3.next→b≠m→B4.get b=B3.get b:=fun b hb hn=>by
         rw [g4.get b (by show b<B3.next+kx;omega) (by simpa using hn),get_next]
        have n4:A4.next≤B4.next:=by have:=g4.next;have:B3.next+kx≤B4.next:=this;omega
        refine ⟨x,hx,hn,hi.step hx hn (by simp only [tget_put,Nat.reduceEqDiff,if_false]) ?_ ?_,?_,?_,?_,⟨?_,?_⟩,?_⟩
        ·rw [gB _ (by omega) (Ne.symm hmY),hB,if_pos rfl]
        ·rw [gB lf (by have:=hbY lf (by simp);omega) (fun e=>l1 (e ▸ hmem)),hB,if_neg (Yb lf (by simp))]
        ·exact v0
        ·exact v5
        ·intro i m' hm'
         have hmem':=List.mem_of_getElem? hm'
         rw [puts_snoc hkey]
         by_cases e:plc nw x.2.1=i
         ·subst e
          rw [hm] at hm';cases hm'
          simp only [decide_true,if_true]
          exact h4
         ·have em:m'≠m:=fun em=>e (injm hm (em ▸ hm'))
          simp only [e,decide_false,Bool.false_eq_true,if_false]
          refine (hs4 i m' hm').congr ?_
          rw [gB m' (by have:=hbY m' (by simp [hmem']);omega) em,hB,if_neg (Yb m' (by simp [hmem']))]
        ·have:=f4.next;omega
        ·intro b hb hn
         rw [gB b (by omega) (fun e=>hn (e ▸ hmem)),hB,if_neg (by omega)];exact f4.get b hb hn
        ·omega
       ·simp only [z_0,if_true,if_false,eq_self,Nat.reduceEqDiff,Nat.reduceLT]
        refine ⟨_,_,done,rfl,hi.sub,hfin,hi.nodup,?_,hs4,f4⟩
        simp only [tget_put,Nat.reduceEqDiff,if_false];exact v5
      ·refine ⟨by simp only [tget_put,Nat.reduceEqDiff,if_false,if_true],by rw [ASt.get_new,if_pos rfl];rfl,by rw [ASt.get_new,if_neg (Yb lf (by simp))];exact hel,by simp,.nil⟩
      ·refine ⟨?_,?_,fun i m hm=>?_,⟨Nat.le_succ _,fun b hb hn=>by rw [ASt.get_new,if_neg (by omega)]⟩,Nat.lt_succ_self _⟩
       ·simp only [tget_put,Nat.reduceEqDiff,if_false];exact u0
       ·simp only [tget_put,Nat.reduceEqDiff,if_false];exact u5
       ·rw [puts_nil]
        exact (hYs i m hm).congr (by rw [ASt.get_new,if_neg (Yb m (by simp [List.mem_of_getElem? hm]))])
     ·rintro o ⟨T4,V,dl,rfl,hsub,hfin,hnodl,v5,hV,fV⟩
      obtain ⟨_,hugl⟩:=uget_all hokl hsub hfin hnodl
      have V5:V.get p5=some (.row [.map (some d)] 1 false):=by
       rw [fV.get p5 (hbY p5 (by simp)) (fun hm=>?_)]
       ·exact Y5
       ·obtain ⟨i,hi⟩:=List.getElem?_of_mem hm
        exact (hYs i _ hi).block Y5 rfl
      have hVd:Holds V d (fun k=>(M k).filter fun a=>decide (plc now a<16*ps) && decide (a≤nw)):=hYd.congr (fV.get d (hbY d (by simp)) d2)
      have hdV:d<V.next:=by have:=fV.next;have:=hbY d (by simp);omega
      simp only [z_0,cond_false,if_true,List.append_nil,List.nil_append,eq_self,Nat.reduceLT,v5,V5]
      refine CallT.mono (hs hVd (fun k a hk=>(Option.filter_eq_some_iff.1 hk).1) hdV) ?_
      rintro v U ⟨ts,hts,hsl,fU⟩
      simp only [z_0,if_true,if_false,eq_self,Nat.reduceEqDiff,Nat.reduceLT]
      rw [if_neg hge]
      have far:∀ {k a},M k=some a→¬ plc now a<16*ps→nw<a∧plc nw a=plc now a:=fun {k a} hk hD=>by
       rw [← hpd] at hD
       exact plc_far h.nowlt hnw (h.lt k a hk) (h.gt k a hk) hD
      have hp3:p3≤V.next:=by
       have:=ha.below p3 (by simp);have:=fY.next;have:=fV.next;omega
      have fAX:Fr [W] A2 X:=⟨by omega,fun b _ hn=>by rw [hXg,if_neg (by simpa using hn)]⟩
      have fAll:Fr (W::all::ms) A U:=ha.fr.trans ((fAX.sub (by simp)).trans ((fY.sub (by simp)).trans ((fV.sub (fun b hb=>by simp [hb])).trans (fU.sub (by simp)))))
      have keepU:∀ b,b<V.next→U.get b=V.get b:=fun b hb=>fU.get b hb (by simp)
      have hbV:∀ b∈W::all::d::lf::p3::p5::p6::ms,b<V.next:=fun b hb=>by have:=hbY b hb;have:=fV.next;omega
      refine ⟨ts,⟨fun k a=>(hts.mem k a).trans ?_,hts.ord⟩,?_,⟨?_,h.len,hnw,h.nodup,fun b hb=>Nat.lt_of_lt_of_le (hbV b (by simp only [List.mem_cons] at hb ⊢;rcases hb with h | h | h<;>simp [h])) fU.next,?_,?_,?_,?_⟩,fAll⟩
      ·cases hk:M k with
       | none=>simp []
       | some b=>
        by_cases hD:plc now b<16*ps
        ·simp [Option.filter,hD]
        ·have:=(far hk hD).1
         have e1:¬ b≤nw:=by omega
         simp [Option.filter,e1]
      ·rcases hsl with ⟨e1,e2⟩ | ⟨b,cap,rest,tl,e1,e2,e3,e4⟩
       ·exact .inl ⟨e1,e2⟩
       ·exact .inr ⟨b,cap,rest,tl,e1,e2,by omega,e4⟩
      ·rw [keepU W (hbV W (by simp)),fV.get W (hbY W (by simp)) w4];exact YW
      ·refine (hYall.congr ((keepU all (hbV all (by simp))).trans (fV.get all (hbY all (by simp)) al3))).ext fun k=>?_
       unfold dels
       rw [hug,hgd]
       cases hk:M k with
       | none=>simp [hk]
       | some b=>
        by_cases hD:plc now b<16*ps
        ·by_cases hle:b≤nw
         ·have e1:¬ nw<b:=by omega
          simp [Option.filter,hk,hD,hle,e1]
         ·have e1:nw<b:=by omega
          simp [Option.filter,hk,hD,hle,e1]
        ·have:=(far hk hD).1
         simp [Option.filter,hk,hD,this]
      ·intro i m hm
       have hmem:=List.mem_of_getElem? hm
       refine ((hV i m hm).congr (keepU m (hbV m (by simp [hmem])))).ext fun k=>?_
       unfold puts TM.at_
       rw [hugl,hgl]
       cases hk:M k with
       | none=>by_cases hi:i<16*ps<;>simp [hi,hk]
       | some b=>
        by_cases hD:plc now b<16*ps
        ·by_cases hle:b≤nw
         ·have e1:¬ nw<b:=by omega
          by_cases hi:i<16*ps
          ·simp [Option.filter,hk,hD,hle,e1,hi]
          ·have e2:plc now b≠i:=by omega
           simp [Option.filter,hk,hD,hle,e1,hi,e2]
         ·have e1:nw<b:=by omega
          by_cases hpi:plc nw b=i
          ·simp [Option.filter,hk,hD,hle,e1,hpi]
          ·by_cases hi:i<16*ps
           ·simp [Option.filter,hk,hD,hle,e1,hi,hpi]
           ·have e2:plc now b≠i:=by omega
            simp [Option.filter,hk,hD,hle,e1,hi,e2,hpi]
        ·obtain ⟨e1,e2⟩:=far hk hD
         by_cases hi:i<16*ps
         ·have e3:plc now b≠i:=by omega
          simp [Option.filter,hk,hD,e1,hi,e2,e3]
         ·simp [Option.filter,hk,hD,e1,hi,e2]
      ·intro k a hk
       obtain ⟨h2,_⟩:=Option.filter_eq_some_iff.1 hk
       exact h.lt k a h2
      ·intro k a hk
       obtain ⟨_,h2⟩:=Option.filter_eq_some_iff.1 hk
       exact of_decide_eq_true h2
end Go.Proofs.YtgcffmhpjphefaaGreatDoor
