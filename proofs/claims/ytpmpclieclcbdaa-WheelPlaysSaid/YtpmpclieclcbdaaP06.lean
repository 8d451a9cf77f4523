/- What the evaluator reads of the program. -/
import Derived.Test.YtpmpclieclcbdaaP05
import Derived.Test.YtpmpclieclcbdaaProg
import Derived.ProofKit
import Derived.Test.YtpmpclieclcbdaaQ1
import Derived.Lib.ItoaNum
set_option linter.unusedSimpArgs false
set_option linter.unusedVariables false
set_option linter.unusedSectionVars false
namespace Go.Proofs.Ytpmpclieclcbdaa
open Go Go.AE

/-- The program, as the evaluator reads it. -/
noncomputable def E0 : Env := envOf Try.prog [] noHook
theorem E0_ok : EnvOK E0 Try.prog := envOf_ok (extOK_nil _)
theorem E0_ro {Z : Go.AE.Road} : RoadRo Z E0 := fun _ _ _ _ _ _ h => by cases h
theorem E0_ron {b : Nat} : E0.ro b = none := rfl
theorem mixed : Try.prog.follows .mixedOrders = true := by kernel_rfl

noncomputable def t3 : TIn := match tiOf Try.prog 3 with
  | some i => i
  | none => ⟨.bool, 0, 0, none, #[], none⟩
theorem ti3 : E0.ti 3 = some t3 := by kernel_rfl
theorem t3_desc : t3.desc = TypeDesc.int IntKind.i64 := by kernel_rfl
theorem t3_size : t3.size = 1 := by kernel_rfl
theorem t3_zero : t3.zero = some (.int .i64 0) := by kernel_rfl
noncomputable def t4 : TIn := match tiOf Try.prog 4 with
  | some i => i
  | none => ⟨.bool, 0, 0, none, #[], none⟩
theorem ti4 : E0.ti 4 = some t4 := by kernel_rfl
theorem t4_desc : t4.desc = TypeDesc.bool := by kernel_rfl
theorem t4_size : t4.size = 1 := by kernel_rfl
theorem t4_zero : t4.zero = some (.bool false) := by kernel_rfl
noncomputable def t5 : TIn := match tiOf Try.prog 5 with
  | some i => i
  | none => ⟨.bool, 0, 0, none, #[], none⟩
theorem ti5 : E0.ti 5 = some t5 := by kernel_rfl
theorem t5_desc : t5.desc = TypeDesc.int IntKind.u8 := by kernel_rfl
theorem t5_size : t5.size = 1 := by kernel_rfl
theorem t5_zero : t5.zero = some (.int .u8 0) := by kernel_rfl
noncomputable def t9 : TIn := match tiOf Try.prog 9 with
  | some i => i
  | none => ⟨.bool, 0, 0, none, #[], none⟩
theorem ti9 : E0.ti 9 = some t9 := by kernel_rfl
theorem t9_desc : t9.desc = TypeDesc.string := by kernel_rfl
theorem t9_size : t9.size = 1 := by kernel_rfl
theorem t9_zero : t9.zero = some (.string ByteArray.empty) := by kernel_rfl
noncomputable def t22 : TIn := match tiOf Try.prog 22 with
  | some i => i
  | none => ⟨.bool, 0, 0, none, #[], none⟩
theorem ti22 : E0.ti 22 = some t22 := by kernel_rfl
theorem t22_desc : t22.desc = TypeDesc.int IntKind.u64 := by kernel_rfl
theorem t22_size : t22.size = 1 := by kernel_rfl
theorem t22_zero : t22.zero = some (.int .u64 0) := by kernel_rfl
noncomputable def t23 : TIn := match tiOf Try.prog 23 with
  | some i => i
  | none => ⟨.bool, 0, 0, none, #[], none⟩
theorem ti23 : E0.ti 23 = some t23 := by kernel_rfl
theorem t23_desc : t23.desc = TypeDesc.slice 22 := by kernel_rfl
theorem t23_size : t23.size = 1 := by kernel_rfl
theorem t23_zero : t23.zero = some (.slice none 0 0) := by kernel_rfl
noncomputable def t25 : TIn := match tiOf Try.prog 25 with
  | some i => i
  | none => ⟨.bool, 0, 0, none, #[], none⟩
theorem ti25 : E0.ti 25 = some t25 := by kernel_rfl
theorem t25_desc : t25.desc = TypeDesc.pointer 63 := by kernel_rfl
theorem t25_size : t25.size = 1 := by kernel_rfl
theorem t25_zero : t25.zero = some (.pointer none) := by kernel_rfl
noncomputable def t29 : TIn := match tiOf Try.prog 29 with
  | some i => i
  | none => ⟨.bool, 0, 0, none, #[], none⟩
theorem ti29 : E0.ti 29 = some t29 := by kernel_rfl
theorem t29_desc : t29.desc = TypeDesc.slice 5 := by kernel_rfl
theorem t29_size : t29.size = 1 := by kernel_rfl
theorem t29_zero : t29.zero = some (.slice none 0 0) := by kernel_rfl
noncomputable def t30 : TIn := match tiOf Try.prog 30 with
  | some i => i
  | none => ⟨.bool, 0, 0, none, #[], none⟩
theorem ti30 : E0.ti 30 = some t30 := by kernel_rfl
theorem t30_desc : t30.desc = TypeDesc.slice 33 := by kernel_rfl
theorem t30_size : t30.size = 1 := by kernel_rfl
theorem t30_zero : t30.zero = some (.slice none 0 0) := by kernel_rfl
noncomputable def t33 : TIn := match tiOf Try.prog 33 with
  | some i => i
  | none => ⟨.bool, 0, 0, none, #[], none⟩
theorem ti33 : E0.ti 33 = some t33 := by kernel_rfl
theorem t33_desc : t33.desc = TypeDesc.struct #[{ name := "Name", type := 9, offset := 0, embedded := false, tag := "", pkgPath := "", byteOffset := 0 }, { name := "At", type := 22, offset := 1, embedded := false, tag := "", pkgPath := "", byteOffset := 16 }] := by kernel_rfl
theorem t33_size : t33.size = 2 := by kernel_rfl
noncomputable def t37 : TIn := match tiOf Try.prog 37 with
  | some i => i
  | none => ⟨.bool, 0, 0, none, #[], none⟩
theorem ti37 : E0.ti 37 = some t37 := by kernel_rfl
theorem t37_desc : t37.desc = TypeDesc.slice 40 := by kernel_rfl
theorem t37_size : t37.size = 1 := by kernel_rfl
theorem t37_zero : t37.zero = some (.slice none 0 0) := by kernel_rfl
noncomputable def t38 : TIn := match tiOf Try.prog 38 with
  | some i => i
  | none => ⟨.bool, 0, 0, none, #[], none⟩
theorem ti38 : E0.ti 38 = some t38 := by kernel_rfl
theorem t38_desc : t38.desc = TypeDesc.array 2 22 := by kernel_rfl
theorem t38_size : t38.size = 2 := by kernel_rfl
noncomputable def t40 : TIn := match tiOf Try.prog 40 with
  | some i => i
  | none => ⟨.bool, 0, 0, none, #[], none⟩
theorem ti40 : E0.ti 40 = some t40 := by kernel_rfl
theorem t40_desc : t40.desc = TypeDesc.struct #[{ name := "Kind", type := 3, offset := 0, embedded := false, tag := "", pkgPath := "", byteOffset := 0 }, { name := "Name", type := 9, offset := 1, embedded := false, tag := "", pkgPath := "", byteOffset := 8 }, { name := "At", type := 22, offset := 2, embedded := false, tag := "", pkgPath := "", byteOffset := 24 }, { name := "By", type := 22, offset := 3, embedded := false, tag := "", pkgPath := "", byteOffset := 32 }] := by kernel_rfl
theorem t40_size : t40.size = 4 := by kernel_rfl
noncomputable def t44 : TIn := match tiOf Try.prog 44 with
  | some i => i
  | none => ⟨.bool, 0, 0, none, #[], none⟩
theorem ti44 : E0.ti 44 = some t44 := by kernel_rfl
theorem t44_desc : t44.desc = TypeDesc.pointer 47 := by kernel_rfl
theorem t44_size : t44.size = 1 := by kernel_rfl
theorem t44_zero : t44.zero = some (.pointer none) := by kernel_rfl
noncomputable def t45 : TIn := match tiOf Try.prog 45 with
  | some i => i
  | none => ⟨.bool, 0, 0, none, #[], none⟩
theorem ti45 : E0.ti 45 = some t45 := by kernel_rfl
theorem t45_desc : t45.desc = TypeDesc.slice 53 := by kernel_rfl
theorem t45_size : t45.size = 1 := by kernel_rfl
theorem t45_zero : t45.zero = some (.slice none 0 0) := by kernel_rfl
noncomputable def t47 : TIn := match tiOf Try.prog 47 with
  | some i => i
  | none => ⟨.bool, 0, 0, none, #[], none⟩
theorem ti47 : E0.ti 47 = some t47 := by kernel_rfl
theorem t47_desc : t47.desc = TypeDesc.struct #[{ name := "Now", type := 22, offset := 0, embedded := false, tag := "", pkgPath := "", byteOffset := 0 }, { name := "L", type := 45, offset := 1, embedded := false, tag := "", pkgPath := "", byteOffset := 8 }] := by kernel_rfl
theorem t47_size : t47.size = 2 := by kernel_rfl
noncomputable def t53 : TIn := match tiOf Try.prog 53 with
  | some i => i
  | none => ⟨.bool, 0, 0, none, #[], none⟩
theorem ti53 : E0.ti 53 = some t53 := by kernel_rfl
theorem t53_desc : t53.desc = TypeDesc.struct #[{ name := "Name", type := 9, offset := 0, embedded := false, tag := "", pkgPath := "", byteOffset := 0 }, { name := "At", type := 22, offset := 1, embedded := false, tag := "", pkgPath := "", byteOffset := 16 }] := by kernel_rfl
theorem t53_size : t53.size = 2 := by kernel_rfl
noncomputable def t58 : TIn := match tiOf Try.prog 58 with
  | some i => i
  | none => ⟨.bool, 0, 0, none, #[], none⟩
theorem ti58 : E0.ti 58 = some t58 := by kernel_rfl
theorem t58_desc : t58.desc = TypeDesc.map 9 22 := by kernel_rfl
theorem t58_size : t58.size = 1 := by kernel_rfl
theorem t58_zero : t58.zero = some (.map none) := by kernel_rfl
noncomputable def t59 : TIn := match tiOf Try.prog 59 with
  | some i => i
  | none => ⟨.bool, 0, 0, none, #[], none⟩
theorem ti59 : E0.ti 59 = some t59 := by kernel_rfl
theorem t59_desc : t59.desc = TypeDesc.map 9 22 := by kernel_rfl
theorem t59_size : t59.size = 1 := by kernel_rfl
theorem t59_zero : t59.zero = some (.map none) := by kernel_rfl
noncomputable def t60 : TIn := match tiOf Try.prog 60 with
  | some i => i
  | none => ⟨.bool, 0, 0, none, #[], none⟩
theorem ti60 : E0.ti 60 = some t60 := by kernel_rfl
theorem t60_desc : t60.desc = TypeDesc.array 16 59 := by kernel_rfl
theorem t60_size : t60.size = 16 := by kernel_rfl
noncomputable def t61 : TIn := match tiOf Try.prog 61 with
  | some i => i
  | none => ⟨.bool, 0, 0, none, #[], none⟩
theorem ti61 : E0.ti 61 = some t61 := by kernel_rfl
theorem t61_desc : t61.desc = TypeDesc.array 4 60 := by kernel_rfl
theorem t61_size : t61.size = 64 := by kernel_rfl
noncomputable def t63 : TIn := match tiOf Try.prog 63 with
  | some i => i
  | none => ⟨.bool, 0, 0, none, #[], none⟩
theorem ti63 : E0.ti 63 = some t63 := by kernel_rfl
theorem t63_desc : t63.desc = TypeDesc.struct #[{ name := "now", type := 22, offset := 0, embedded := false, tag := "", pkgPath := "belfry/wheel", byteOffset := 0 }, { name := "all", type := 59, offset := 1, embedded := false, tag := "", pkgPath := "belfry/wheel", byteOffset := 8 }, { name := "slots", type := 61, offset := 2, embedded := false, tag := "", pkgPath := "belfry/wheel", byteOffset := 16 }, { name := "far", type := 59, offset := 66, embedded := false, tag := "", pkgPath := "belfry/wheel", byteOffset := 528 }] := by kernel_rfl
theorem t63_size : t63.size = 67 := by kernel_rfl
theorem fn3 : E0.fn 3 = some Try.f3 := by kernel_rfl
theorem fn4 : E0.fn 4 = some Try.f4 := by kernel_rfl
theorem fn5 : E0.fn 5 = some Try.f5 := by kernel_rfl
theorem fn6 : E0.fn 6 = some Try.f6 := by kernel_rfl
theorem fn7 : E0.fn 7 = some Try.f7 := by kernel_rfl
theorem fn8 : E0.fn 8 = some Try.f8 := by kernel_rfl
theorem fn9 : E0.fn 9 = some Try.f9 := by kernel_rfl
theorem fn10 : E0.fn 10 = some Try.f10 := by kernel_rfl
theorem fn11 : E0.fn 11 = some Try.f11 := by kernel_rfl
theorem fn12 : E0.fn 12 = some Try.f12 := by kernel_rfl
theorem fn13 : E0.fn 13 = some Try.f13 := by kernel_rfl
theorem fn14 : E0.fn 14 = some Try.f14 := by kernel_rfl
theorem fn15 : E0.fn 15 = some Try.f15 := by kernel_rfl
theorem fn16 : E0.fn 16 = some Try.f16 := by kernel_rfl
theorem fn17 : E0.fn 17 = some Try.f17 := by kernel_rfl
theorem fn18 : E0.fn 18 = some Try.f18 := by kernel_rfl
theorem fn19 : E0.fn 19 = some Try.f19 := by kernel_rfl
theorem fn20 : E0.fn 20 = some Try.f20 := by kernel_rfl
theorem fn21 : E0.fn 21 = some Try.f21 := by kernel_rfl
theorem fn22 : E0.fn 22 = some Try.f22 := by kernel_rfl
theorem fn23 : E0.fn 23 = some Try.f23 := by kernel_rfl
theorem fn24 : E0.fn 24 = some Try.f24 := by kernel_rfl
theorem fn25 : E0.fn 25 = some Try.f25 := by kernel_rfl
theorem fn26 : E0.fn 26 = some Try.f26 := by kernel_rfl
theorem fn27 : E0.fn 27 = some Try.f27 := by kernel_rfl
theorem fn28 : E0.fn 28 = some Try.f28 := by kernel_rfl
theorem fn29 : E0.fn 29 = some Try.f29 := by kernel_rfl
theorem fn30 : E0.fn 30 = some Try.f30 := by kernel_rfl
theorem fn31 : E0.fn 31 = some Try.f31 := by kernel_rfl
theorem fn32 : E0.fn 32 = some Try.f32 := by kernel_rfl
theorem fn33 : E0.fn 33 = some Try.f33 := by kernel_rfl
theorem fn34 : E0.fn 34 = some Try.f34 := by kernel_rfl
theorem fn35 : E0.fn 35 = some Try.f35 := by kernel_rfl
theorem fn36 : E0.fn 36 = some Try.f36 := by kernel_rfl
theorem fn37 : E0.fn 37 = some Try.f37 := by kernel_rfl
theorem fn38 : E0.fn 38 = some Try.f38 := by kernel_rfl
theorem fn39 : E0.fn 39 = some Try.f39 := by kernel_rfl
theorem fn40 : E0.fn 40 = some Try.f40 := by kernel_rfl
theorem fn41 : E0.fn 41 = some Try.f41 := by kernel_rfl
theorem fn42 : E0.fn 42 = some Try.f42 := by kernel_rfl
theorem fn43 : E0.fn 43 = some Try.f43 := by kernel_rfl
theorem fn44 : E0.fn 44 = some Try.f44 := by kernel_rfl
theorem fn45 : E0.fn 45 = some Try.f45 := by kernel_rfl
theorem fn46 : E0.fn 46 = some Try.f46 := by kernel_rfl
theorem fn47 : E0.fn 47 = some Try.f47 := by kernel_rfl
theorem fn48 : E0.fn 48 = some Try.f48 := by kernel_rfl
theorem fn49 : E0.fn 49 = some Try.f49 := by kernel_rfl
end Go.Proofs.Ytpmpclieclcbdaa

/- The wheel's place, put, drop. -/
namespace Go.Proofs.Ytpmpclieclcbdaa
open Go Go.AE

/-- A wheel's cells: its clock, the map of all, the 64 slots and those that are far. -/
def wrow (now all : Nat) (ms : List Nat) : List Value := .int .u64 (now : Int) :: .map (some all) :: ms.map (fun i => Value.map (some i))

/-- Where a deadline stands: a slot's number, or 64. -/
noncomputable def lvl (now at_ : Nat) : Nat := (Lib.bitLen (at_ ^^^ now) - 1) / 4
noncomputable def plc (now at_ : Nat) : Nat := if 4 ≤ lvl now at_ then 64 else 16 * lvl now at_ + at_ / 2 ^ (4 * lvl now at_) % 16

theorem wrow_slot {now all : Nat} {ms : List Nat} {k : Nat} (h : k < ms.length) : nth (wrow now all ms) (2 + k) = some (.map (some ms[k])) := by
  rw [nth_eq]; simp [wrow, h, Nat.add_comm 2 k]

theorem wrow_now {now all : Nat} {ms : List Nat} : nth (wrow now all ms) 0 = some (.int .u64 (now : Int)) := rfl
theorem wrow_all {now all : Nat} {ms : List Nat} : nth (wrow now all ms) 1 = some (.map (some all)) := rfl

theorem eqnil25 {xo yo : Operand} {x : Option Addr} : aBin2 E0 .eql 25 xo yo (.pointer x) (.pointer none) = some (.bool x.isNone) := b_ptr_nil ti25 t25_desc

theorem plc_lt {now a : Nat} : plc now a < 65 := by
  unfold plc
  split
  · omega
  · have : a / 2 ^ (4 * lvl now a) % 16 < 16 := Nat.mod_lt _ (by omega)
    omega

theorem lvl_int {b : Nat} (h : b ≤ 64) : IntKind.i64.wrap ((IntKind.i64.wrap ((b : Int) - 1)).tdiv 4) = (((b - 1) / 4 : Nat) : Int) := by
  have : ∀ b : Fin 65, IntKind.i64.wrap ((IntKind.i64.wrap (((b.1 : Nat) : Int) - 1)).tdiv 4) = (((b.1 - 1) / 4 : Nat) : Int) := by decide +kernel
  exact this ⟨b, by omega⟩

variable {Z : Go.AE.Road}
set_option maxRecDepth 10000

theorem len64 (x : Nat) (hx : x < 18446744073709551616) (A : ASt) : CallT Z Try.prog (.fn 27) [.int .u64 (x : Int)] A (fun v A' => v = .int .i64 ((Lib.bitLen x : Nat) : Int) ∧ A' = A) :=
  CallW.of_flat rfl rfl fun w => by
    have := Try.bits_Len64 (x : Int) w (by omega) (by omega)
    simpa using this

theorem place_walk {A : ASt} {W now all a : Nat} {ms : List Nat} (hW : A.get W = some (.row (wrow now all ms) 67 false)) (hm : ms.length = 65) (hn : now < 18446744073709551616) (ha : a < 18446744073709551616) :
    CallW Z Try.prog 26 [.pointer (some ⟨W, 0, none⟩), .int .u64 (a : Int)] A (fun v A' => v = .map (some (ms[plc now a]'(by rw [hm]; exact plc_lt))) ∧ ∃ k, A' = { A with next := A.next + k }) := by
  refine CallW.of_code E0_ok E0_ro fn26 rfl (n := 33) rfl (rs := [.tmp 4]) rfl (by simp) (codeW_ok E0_ok E0_ro ?_)
  have hx : a ^^^ now < 18446744073709551616 := Nat.xor_lt_two_pow (n := 64) (by omega) (by omega)
  have hb : Lib.bitLen (a ^^^ now) ≤ 64 := Lib.bitLen_le _ _ (by omega) hx
  simp only [hW, oneW_next, s_0, s_1, s_2, s_3, s_4, Hands, handsV, resultsV, oneOrTuple, argsT, ev, evs, evPairs, evOpt, closed, flat, nth, aCall, aEnter, notYield, aNilCheck, aLoad, partV, isAggD, aFieldAddr, aField, aExtract, Option.isNone, aBuiltin, cond_true, cond_false, cond_dec, if_true, if_false, List.length_cons, List.length_nil, forall_const, implies_true, List.append_nil, List.cons_append, List.nil_append, eq_self, Nat.reduceEqDiff, Nat.reduceAdd, Nat.reduceMul, Nat.reduceSub, Nat.reduceLT, Nat.reduceLeDiff, Nat.reduceBEq, reduceIte, reduceCtorEq, ti63, t63_desc, t63_size, ti25, t25_desc, ti22, t22_desc, t22_size, ti59, t59_desc, t59_size, ti60, t60_desc, t60_size, ti61, t61_desc, t61_size, ti3, t3_desc, t3_size, ti40, t40_desc, t40_size, ti33, t33_desc, t33_size, ti9, t9_desc, t9_size, wrow_now, wrow_all, eqnil25, fn17, fn26, fn27, fn28, fn29, fn38, fn39, fn12, fn14, fn15, b_xor64 ha hn]
  refine CallT.mono (len64 _ hx A) ?_
  rintro _ A' ⟨rfl, hA'⟩
  subst hA'
  simp only [hW, oneW_next, s_0, s_1, s_2, s_3, s_4, Hands, handsV, resultsV, oneOrTuple, argsT, ev, evs, evPairs, evOpt, closed, flat, nth, aCall, aEnter, notYield, aNilCheck, aLoad, partV, isAggD, aFieldAddr, aField, aExtract, Option.isNone, aBuiltin, cond_true, cond_false, cond_dec, if_true, if_false, List.length_cons, List.length_nil, forall_const, implies_true, List.append_nil, List.cons_append, List.nil_append, eq_self, Nat.reduceEqDiff, Nat.reduceAdd, Nat.reduceMul, Nat.reduceSub, Nat.reduceLT, Nat.reduceLeDiff, Nat.reduceBEq, reduceIte, reduceCtorEq, ti63, t63_desc, t63_size, ti25, t25_desc, ti22, t22_desc, t22_size, ti59, t59_desc, t59_size, ti60, t60_desc, t60_size, ti61, t61_desc, t61_size, ti3, t3_desc, t3_size, ti40, t40_desc, t40_size, ti33, t33_desc, t33_size, ti9, t9_desc, t9_size, wrow_now, wrow_all, eqnil25, fn17, fn26, fn27, fn28, fn29, fn38, fn39, fn12, fn14, fn15, b_quo (show (4 : Int) ≠ 0 by decide), lvl_int hb]
  refine brW_dec (fun h4 => ?_) (fun h4 => ?_)
  · have h4' : 4 ≤ lvl now a := by unfold lvl; omega
    have hp : plc now a = 64 := if_pos h4'
    have e66 : nth (wrow now all ms) 66 = some (.map (some (ms[plc now a]'(by rw [hm]; exact plc_lt)))) := by
      have := wrow_slot (now := now) (all := all) (ms := ms) (k := 64) (by omega)
      simp only [hp]
      exact this
    simp only [hW, oneW_next, s_0, s_1, s_2, s_3, s_4, Hands, handsV, resultsV, oneOrTuple, argsT, ev, evs, evPairs, evOpt, closed, flat, nth, aCall, aEnter, notYield, aNilCheck, aLoad, partV, isAggD, aFieldAddr, aField, aExtract, Option.isNone, aBuiltin, cond_true, cond_false, cond_dec, if_true, if_false, List.length_cons, List.length_nil, forall_const, implies_true, List.append_nil, List.cons_append, List.nil_append, eq_self, Nat.reduceEqDiff, Nat.reduceAdd, Nat.reduceMul, Nat.reduceSub, Nat.reduceLT, Nat.reduceLeDiff, Nat.reduceBEq, reduceIte, reduceCtorEq, ti63, t63_desc, t63_size, ti25, t25_desc, ti22, t22_desc, t22_size, ti59, t59_desc, t59_size, ti60, t60_desc, t60_size, ti61, t61_desc, t61_size, ti3, t3_desc, t3_size, ti40, t40_desc, t40_size, ti33, t33_desc, t33_size, ti9, t9_desc, t9_size, wrow_now, wrow_all, eqnil25, fn17, fn26, fn27, fn28, fn29, fn38, fn39, fn12, fn14, fn15, e66]
    exact ⟨0, rfl⟩
  · have hl : lvl now a < 4 := by unfold lvl; omega
    have hp : plc now a = 16 * lvl now a + a / 2 ^ (4 * lvl now a) % 16 := if_neg (by omega)
    have e4 : IntKind.i64.wrap (4 * ((lvl now a : Nat) : Int)) = ((4 * lvl now a : Nat) : Int) := by rw [IntKind.wrap_i64]; omega
    have hr : a / 2 ^ (4 * lvl now a) % 16 < 16 := Nat.mod_lt _ (by omega)
    have hlv : (Lib.bitLen (a ^^^ now) - 1) / 4 = lvl now a := rfl
    have esl : nth (wrow now all ms) (2 + lvl now a * 16 + a / 2 ^ (4 * lvl now a) % 16) = some (.map (some (ms[plc now a]'(by rw [hm]; exact plc_lt)))) := by
      have := wrow_slot (now := now) (all := all) (ms := ms) (k := plc now a) (by rw [hm]; exact plc_lt)
      rw [← this, hp]
      congr 1; omega
    rw [hlv]
    generalize lvl now a = lv at hl e4 hr esl
    have esh : ∀ xo yo t, aBin2 E0 .shr t xo yo (.int .u64 (a : Int)) (.int .i64 ((4 * lv : Nat) : Int)) = some (.int .u64 ((a / 2 ^ (4 * lv) : Nat) : Int)) := fun xo yo t => b_shr64 (by omega)
    have ere : ∀ xo yo t, aBin2 E0 .rem t xo yo (.int .u64 ((a / 2 ^ (4 * lv) : Nat) : Int)) (.int .u64 16) = some (.int .u64 ((a / 2 ^ (4 * lv) % 16 : Nat) : Int)) := fun xo yo t => b_rem_nat (b := 16) (by decide)
    generalize a / 2 ^ (4 * lv) = q at hr esl esh ere
    generalize q % 16 = r at hr esl ere
    have ei1 : ∀ o, aIndexAddr E0 61 (.pointer (some ⟨W, o, none⟩)) (.int .i64 (lv : Int)) = some (.pointer (some ⟨W, o + lv * 16, none⟩)) := fun o => by
      have := indexAddr_arr (A := A') ti61 t61_desc ti60 (kd := .i64) (k := lv) (b := W) (off := o) hl
      rwa [t60_size] at this
    have ei2 : ∀ o, aIndexAddr E0 60 (.pointer (some ⟨W, o, none⟩)) (.int .u64 (r : Int)) = some (.pointer (some ⟨W, o + r, none⟩)) := fun o => by
      have := indexAddr_arr (A := A') ti60 t60_desc ti59 (kd := .u64) (k := r) (b := W) (off := o) hr
      rwa [t59_size, Nat.mul_one] at this
    simp only [hW, oneW_next, s_0, s_1, s_2, s_3, s_4, Hands, handsV, resultsV, oneOrTuple, argsT, ev, evs, evPairs, evOpt, closed, flat, nth, aCall, aEnter, notYield, aNilCheck, aLoad, partV, isAggD, aFieldAddr, aField, aExtract, Option.isNone, aBuiltin, cond_true, cond_false, cond_dec, if_true, if_false, List.length_cons, List.length_nil, forall_const, implies_true, List.append_nil, List.cons_append, List.nil_append, eq_self, Nat.reduceEqDiff, Nat.reduceAdd, Nat.reduceMul, Nat.reduceSub, Nat.reduceLT, Nat.reduceLeDiff, Nat.reduceBEq, reduceIte, reduceCtorEq, ti63, t63_desc, t63_size, ti25, t25_desc, ti22, t22_desc, t22_size, ti59, t59_desc, t59_size, ti60, t60_desc, t60_size, ti61, t61_desc, t61_size, ti3, t3_desc, t3_size, ti40, t40_desc, t40_size, ti33, t33_desc, t33_size, ti9, t9_desc, t9_size, wrow_now, wrow_all, eqnil25, fn17, fn26, fn27, fn28, fn29, fn38, fn39, fn12, fn14, fn15]
    refine CodeW.quiet E0_ok E0_ro mixed (by kernel_rfl) (by kernel_rfl) ?_
    simp only [hW, oneW_next, s_0, s_1, s_2, s_3, s_4, Hands, handsV, resultsV, oneOrTuple, argsT, ev, evs, evPairs, evOpt, closed, flat, nth, aCall, aEnter, notYield, aNilCheck, aLoad, partV, isAggD, aFieldAddr, aField, aExtract, Option.isNone, aBuiltin, cond_true, cond_false, cond_dec, if_true, if_false, List.length_cons, List.length_nil, forall_const, implies_true, List.append_nil, List.cons_append, List.nil_append, eq_self, Nat.reduceEqDiff, Nat.reduceAdd, Nat.reduceMul, Nat.reduceSub, Nat.reduceLT, Nat.reduceLeDiff, Nat.reduceBEq, reduceIte, reduceCtorEq, ti63, t63_desc, t63_size, ti25, t25_desc, ti22, t22_desc, t22_size, ti59, t59_desc, t59_size, ti60, t60_desc, t60_size, ti61, t61_desc, t61_size, ti3, t3_desc, t3_size, ti40, t40_desc, t40_size, ti33, t33_desc, t33_size, ti9, t9_desc, t9_size, wrow_now, wrow_all, eqnil25, fn17, fn26, fn27, fn28, fn29, fn38, fn39, fn12, fn14, fn15, quietW_nil, quietW_arr, quietW_cons, aStill, freshOp, quietOp, E0_ron, get_empty, get_next, ofVal_none, valEq_int, valEq_str, valEq_bool, valEq_map, valEq_ptr, valEq_slice, valEq_nilSlice, valEq_mapNil, List.length_cons, List.length_nil, e4, esh, ere, ei1, ei2, esl]
    exact ⟨13, rfl⟩
end Go.Proofs.Ytpmpclieclcbdaa

/- The wheel's put and drop. -/
namespace Go.Proofs.Ytpmpclieclcbdaa
open Go Go.AE

/-- Nothing but some blocks, and new ones, has turned. -/
structure Fr (own : List Nat) (A A' : ASt) : Prop where
  next : A.next ≤ A'.next
  get : ∀ b, b < A.next → b ∉ own → A'.get b = A.get b

theorem Fr.refl (own : List Nat) (A : ASt) : Fr own A A := ⟨Nat.le_refl _, fun _ _ _ => rfl⟩
theorem Fr.trans {own : List Nat} {A B C : ASt} (h : Fr own A B) (k : Fr own B C) : Fr own A C :=
  ⟨Nat.le_trans h.next k.next, fun b hb hn => (k.get b (Nat.lt_of_lt_of_le hb h.next) hn).trans (h.get b hb hn)⟩
theorem Fr.sub {own own' : List Nat} {A B : ASt} (h : Fr own A B) (hs : ∀ b ∈ own, b ∈ own') : Fr own' A B := ⟨h.next, fun b hb hn => h.get b hb fun hm => hn (hs b hm)⟩

/-- The timers of a wheel, by their names. -/
abbrev TM := ByteArray → Option Nat
noncomputable def TM.put (M : TM) (k : ByteArray) (a : Nat) : TM := fun j => if j = k then some a else M j
noncomputable def TM.del (M : TM) (k : ByteArray) : TM := fun j => if j = k then none else M j

/-- A map holds just these. -/
def Holds (A : ASt) (m : Nat) (M : TM) : Prop := ∃ l ck, A.get m = some (.map (uEnts l) ck) ∧ MapOK l ck ∧ ∀ k, uget l k = M k

theorem Holds.congr {A A' : ASt} {m : Nat} {M : TM} (h : Holds A m M) (e : A'.get m = A.get m) : Holds A' m M := by
  obtain ⟨l, ck, h1, h2⟩ := h
  exact ⟨l, ck, by rw [e]; exact h1, h2⟩
theorem Holds.ext {A : ASt} {m : Nat} {M M' : TM} (h : Holds A m M) (e : ∀ k, M k = M' k) : Holds A m M' := by
  obtain ⟨l, ck, h1, h2, h3⟩ := h
  exact ⟨l, ck, h1, h2, fun k => (h3 k).trans (e k)⟩

/-- Those that stand at one place. -/
noncomputable def TM.at_ (M : TM) (now i : Nat) : TM := fun k => (M k).filter fun a => decide (plc now a = i)

structure WheelAt (A : ASt) (W all : Nat) (ms : List Nat) (now : Nat) (M : TM) : Prop where
  row : A.get W = some (.row (wrow now all ms) 67 false)
  len : ms.length = 65
  nowlt : now < 18446744073709551616
  nodup : (W :: all :: ms).Nodup
  below : ∀ b ∈ W :: all :: ms, b < A.next
  allm : Holds A all M
  slot : ∀ i m, ms[i]? = some m → Holds A m (M.at_ now i)
  lt : ∀ k a, M k = some a → a < 18446744073709551616
  gt : ∀ k a, M k = some a → now < a

theorem WheelAt.congr {A A' : ASt} {W all now : Nat} {ms : List Nat} {M : TM} (h : WheelAt A W all ms now M) (hn : A.next ≤ A'.next) (e : ∀ b ∈ W :: all :: ms, A'.get b = A.get b) : WheelAt A' W all ms now M :=
  ⟨by rw [e W (by simp)]; exact h.row, h.len, h.nowlt, h.nodup, fun b hb => Nat.lt_of_lt_of_le (h.below b hb) hn, h.allm.congr (e all (by simp)), fun i m hm => (h.slot i m hm).congr (e m (by simp [List.mem_of_getElem? hm])), h.lt, h.gt⟩

theorem WheelAt.plc {A : ASt} {W all now : Nat} {ms : List Nat} {M : TM} (h : WheelAt A W all ms now M) (a : Nat) : plc now a < ms.length := by rw [h.len]; exact plc_lt

theorem WheelAt.ne_all {A : ASt} {W all now : Nat} {ms : List Nat} {M : TM} (h : WheelAt A W all ms now M) {m : Nat} (hm : m ∈ ms) : m ≠ W ∧ m ≠ all ∧ all ≠ W := by
  have := h.nodup
  simp only [List.nodup_cons, List.mem_cons, not_or] at this
  exact ⟨fun e => this.1.2 (e ▸ hm), fun e => this.2.1 (e ▸ hm), fun e => this.1.1 e.symm⟩

theorem WheelAt.inj {A : ASt} {W all now : Nat} {ms : List Nat} {M : TM} (h : WheelAt A W all ms now M) {i j m : Nat} (hi : ms[i]? = some m) (hj : ms[j]? = some m) : i = j := by
  have := h.nodup
  simp only [List.nodup_cons] at this
  obtain ⟨hi', hi⟩ := List.getElem?_eq_some_iff.1 hi
  obtain ⟨hj', hj⟩ := List.getElem?_eq_some_iff.1 hj
  have hp := List.pairwise_iff_getElem.1 this.2.2
  rcases Nat.lt_trichotomy i j with hlt | e | hlt
  · exact absurd (hi.trans hj.symm) (hp i j hi' hj' hlt)
  · exact e
  · exact absurd (hj.trans hi.symm) (hp j i hj' hi' hlt)

variable {Z : Go.AE.Road}
set_option maxRecDepth 10000

theorem lookupT {A : ASt} {m ck : Nat} {l : List UE} (hm : A.get m = some (.map (uEnts l) ck)) (k : ByteArray) :
    aLookup E0 59 (.map (some m)) (.string k) true A = some (.tuple #[.int .u64 ((uget l k).getD 0 : Nat), .bool (uget l k).isSome]) := lookup_u ti59 t59_desc ti9 t9_desc ti22 t22_zero hm k
theorem updateT {A : ASt} {m ck : Nat} {l : List UE} (hm : A.get m = some (.map (uEnts l) ck)) (k : ByteArray) (v : Nat) :
    aMapUpdate E0 59 (.map (some m)) (.string k) (.int .u64 (v : Int)) A = some (A.set m (.map (uEnts (uput k v ck l)) (uck l k ck))) := mapUpdate_u ti59 t59_desc ti9 t9_desc hm k v
theorem deleteT {A : ASt} {m ck : Nat} {l : List UE} (hm : A.get m = some (.map (uEnts l) ck)) (k : ByteArray) :
    aDelete E0 59 (.map (some m)) (.string k) A = .val undef (if (uget l k).isSome then A.set m (.map (uEnts (udel k l)) ck) else A) := delete_u ti59 t59_desc ti9 t9_desc hm k

/-- One name is taken away, in the map of all and where it stands. -/
theorem WheelAt.del {A A' : ASt} {W all now : Nat} {ms : List Nat} {M : TM} (h : WheelAt A W all ms now M) (k : ByteArray) {a : Nat} (ha : M k = some a) {l la : List UE} {ck cka : Nat} {m : Nat} (hm : ms[_root_.Go.Proofs.Ytpmpclieclcbdaa.plc now a]? = some m)
    (hl : A.get m = some (.map (uEnts l) ck)) (hok : MapOK l ck) (hg : ∀ j, uget l j = M.at_ now (_root_.Go.Proofs.Ytpmpclieclcbdaa.plc now a) j) (hla : A.get all = some (.map (uEnts la) cka)) (hoka : MapOK la cka) (hga : ∀ j, uget la j = M j)
    (hn : A.next ≤ A'.next) (e : ∀ b, A'.get b = if b = all then some (.map (uEnts (udel k la)) cka) else if b = m then some (.map (uEnts (udel k l)) ck) else A.get b) : WheelAt A' W all ms now (M.del k) ∧ Fr (W :: all :: ms) A A' := by
  have hmem := List.mem_of_getElem? hm
  obtain ⟨n1, n2, n3⟩ := h.ne_all hmem
  refine ⟨⟨?_, h.len, h.nowlt, h.nodup, fun b hb => Nat.lt_of_lt_of_le (h.below b hb) hn, ?_, ?_, ?_, ?_⟩, hn, fun b hb hno => ?_⟩
  · rw [e, if_neg (Ne.symm n3), if_neg (Ne.symm n1)]; exact h.row
  · refine ⟨_, _, by rw [e, if_pos rfl], udel_ok hoka, fun j => ?_⟩
    rw [uget_udel hoka.keys, hga]; rfl
  · intro i m' hm'
    have hmem' := List.mem_of_getElem? hm'
    obtain ⟨_, n2', _⟩ := h.ne_all hmem'
    by_cases e2 : m' = m
    · subst e2
      have : i = _ := h.inj hm' hm
      subst this
      refine ⟨_, _, by rw [e, if_neg n2, if_pos rfl], udel_ok hok, fun j => ?_⟩
      rw [uget_udel hok.keys, hg]
      unfold TM.at_ TM.del
      by_cases ej : j = k <;> simp [ej]
    · refine ((h.slot i m' hm').congr (by rw [e, if_neg n2', if_neg e2])).ext fun j => ?_
      unfold TM.at_ TM.del
      by_cases ej : j = k
      · subst ej
        rw [if_pos rfl, ha]
        have hne : _root_.Go.Proofs.Ytpmpclieclcbdaa.plc now a ≠ i := fun ee => e2 (by rw [ee, hm'] at hm; exact Option.some.inj hm)
        simp [Option.filter, hne]
      · rw [if_neg ej]
  · intro j b hj
    unfold TM.del at hj
    split at hj
    · cases hj
    · exact h.lt j b hj
  · intro j b hj
    unfold TM.del at hj
    split at hj
    · cases hj
    · exact h.gt j b hj
  · rw [e, if_neg (fun ee => hno (by simp [ee])), if_neg (fun ee => hno (by simp [ee, hmem]))]

theorem drop_spec {A : ASt} {W all now : Nat} {ms : List Nat} {M : TM} (h : WheelAt A W all ms now M) (k : ByteArray) :
    CallW Z Try.prog 17 [.pointer (some ⟨W, 0, none⟩), .string k] A (fun v A' => v = .bool (M k).isSome ∧ WheelAt A' W all ms now (M.del k) ∧ Fr (W :: all :: ms) A A') := by
  refine CallW.of_code E0_ok E0_ro fn17 rfl (n := 29) rfl (rs := [.tmp 4]) rfl (by simp) (codeW_ok E0_ok E0_ro ?_)
  have hW := h.row
  obtain ⟨la, cka, hla, hoka, hga⟩ := h.allm
  have hlk := lookupT hla k
  rw [hga] at hlk
  simp only [hW, oneW_next, s_0, s_1, s_2, s_3, s_4, Hands, handsV, resultsV, oneOrTuple, argsT, ev, evs, evPairs, evOpt, closed, flat, nth, aCall, aEnter, notYield, aNilCheck, aLoad, partV, isAggD, aFieldAddr, aField, aExtract, Option.isNone, aBuiltin, cond_true, cond_false, cond_dec, if_true, if_false, List.length_cons, List.length_nil, forall_const, implies_true, List.append_nil, List.cons_append, List.nil_append, eq_self, Nat.reduceEqDiff, Nat.reduceAdd, Nat.reduceMul, Nat.reduceSub, Nat.reduceLT, Nat.reduceLeDiff, Nat.reduceBEq, reduceIte, reduceCtorEq, ti63, t63_desc, t63_size, ti25, t25_desc, ti22, t22_desc, t22_size, ti59, t59_desc, t59_size, ti60, t60_desc, t60_size, ti61, t61_desc, t61_size, ti3, t3_desc, t3_size, ti40, t40_desc, t40_size, ti33, t33_desc, t33_size, ti9, t9_desc, t9_size, wrow_now, wrow_all, eqnil25, fn17, fn26, fn27, fn28, fn29, fn38, fn39, fn12, fn14, fn15, hlk]
  cases hk : M k with
  | none =>
    simp only [Option.isSome_none, hW, oneW_next, s_0, s_1, s_2, s_3, s_4, Hands, handsV, resultsV, oneOrTuple, argsT, ev, evs, evPairs, evOpt, closed, flat, nth, aCall, aEnter, notYield, aNilCheck, aLoad, partV, isAggD, aFieldAddr, aField, aExtract, Option.isNone, aBuiltin, cond_true, cond_false, cond_dec, if_true, if_false, List.length_cons, List.length_nil, forall_const, implies_true, List.append_nil, List.cons_append, List.nil_append, eq_self, Nat.reduceEqDiff, Nat.reduceAdd, Nat.reduceMul, Nat.reduceSub, Nat.reduceLT, Nat.reduceLeDiff, Nat.reduceBEq, reduceIte, reduceCtorEq, ti63, t63_desc, t63_size, ti25, t25_desc, ti22, t22_desc, t22_size, ti59, t59_desc, t59_size, ti60, t60_desc, t60_size, ti61, t61_desc, t61_size, ti3, t3_desc, t3_size, ti40, t40_desc, t40_size, ti33, t33_desc, t33_size, ti9, t9_desc, t9_size, wrow_now, wrow_all, eqnil25, fn17, fn26, fn27, fn28, fn29, fn38, fn39, fn12, fn14, fn15]
    refine ⟨?_, .refl _ _⟩
    have : M.del k = M := by
      funext j
      unfold TM.del
      by_cases e : j = k <;> simp [e, hk]
    rw [this]; exact h
  | some a =>
    have ha := h.lt k a hk
    simp only [Option.isSome_some, Option.getD_some, hW, oneW_next, s_0, s_1, s_2, s_3, s_4, Hands, handsV, resultsV, oneOrTuple, argsT, ev, evs, evPairs, evOpt, closed, flat, nth, aCall, aEnter, notYield, aNilCheck, aLoad, partV, isAggD, aFieldAddr, aField, aExtract, Option.isNone, aBuiltin, cond_true, cond_false, cond_dec, if_true, if_false, List.length_cons, List.length_nil, forall_const, implies_true, List.append_nil, List.cons_append, List.nil_append, eq_self, Nat.reduceEqDiff, Nat.reduceAdd, Nat.reduceMul, Nat.reduceSub, Nat.reduceLT, Nat.reduceLeDiff, Nat.reduceBEq, reduceIte, reduceCtorEq, ti63, t63_desc, t63_size, ti25, t25_desc, ti22, t22_desc, t22_size, ti59, t59_desc, t59_size, ti60, t60_desc, t60_size, ti61, t61_desc, t61_size, ti3, t3_desc, t3_size, ti40, t40_desc, t40_size, ti33, t33_desc, t33_size, ti9, t9_desc, t9_size, wrow_now, wrow_all, eqnil25, fn17, fn26, fn27, fn28, fn29, fn38, fn39, fn12, fn14, fn15]
    refine CallT.mono (place_walk hW h.len h.nowlt ha) ?_
    rintro _ _ ⟨rfl, x, rfl⟩
    have hm : ms[plc now a]? = some (ms[plc now a]'(h.plc a)) := List.getElem?_eq_getElem _
    generalize ms[plc now a]'(h.plc a) = m at hm
    obtain ⟨l, ck, hl, hok, hg⟩ := h.slot _ _ hm
    have hmem := List.mem_of_getElem? hm
    obtain ⟨n1, n2, n3⟩ := h.ne_all hmem
    have hgk : uget l k = some a := by rw [hg]; simp [TM.at_, hk, Option.filter]
    have hl' : ASt.get { heap := A.heap, next := A.next + x } m = some (.map (uEnts l) ck) := hl
    have hdel := deleteT hl' k
    rw [hgk] at hdel
    simp only [Option.isSome_some, if_true] at hdel
    have hla' : (ASt.set { heap := A.heap, next := A.next + x } m (.map (uEnts (udel k l)) ck)).get all = some (.map (uEnts la) cka) := by
      rw [ASt.get_set, if_neg (Ne.symm n2)]; exact hla
    have hdel2 := deleteT hla' k
    rw [hga, hk] at hdel2
    simp only [Option.isSome_some, if_true] at hdel2
    have hW' : (ASt.set { heap := A.heap, next := A.next + x } m (.map (uEnts (udel k l)) ck)).get W = some (.row (wrow now all ms) 67 false) := by
      rw [ASt.get_set, if_neg (Ne.symm n1)]; exact hW
    simp only [hW, oneW_next, s_0, s_1, s_2, s_3, s_4, Hands, handsV, resultsV, oneOrTuple, argsT, ev, evs, evPairs, evOpt, closed, flat, nth, aCall, aEnter, notYield, aNilCheck, aLoad, partV, isAggD, aFieldAddr, aField, aExtract, Option.isNone, aBuiltin, cond_true, cond_false, cond_dec, if_true, if_false, List.length_cons, List.length_nil, forall_const, implies_true, List.append_nil, List.cons_append, List.nil_append, eq_self, Nat.reduceEqDiff, Nat.reduceAdd, Nat.reduceMul, Nat.reduceSub, Nat.reduceLT, Nat.reduceLeDiff, Nat.reduceBEq, reduceIte, reduceCtorEq, ti63, t63_desc, t63_size, ti25, t25_desc, ti22, t22_desc, t22_size, ti59, t59_desc, t59_size, ti60, t60_desc, t60_size, ti61, t61_desc, t61_size, ti3, t3_desc, t3_size, ti40, t40_desc, t40_size, ti33, t33_desc, t33_size, ti9, t9_desc, t9_size, wrow_now, wrow_all, eqnil25, fn17, fn26, fn27, fn28, fn29, fn38, fn39, fn12, fn14, fn15, hdel, hdel2, hW']
    refine h.del k hk hm hl hok hg hla hoka hga ?_ fun b => ?_
    · show A.next ≤ A.next + x
      omega
    · simp only [ASt.get_set]
      rfl
end Go.Proofs.Ytpmpclieclcbdaa

/- The wheel's put, clock, len. -/
namespace Go.Proofs.Ytpmpclieclcbdaa
open Go Go.AE

variable {Z : Go.AE.Road}
set_option maxRecDepth 10000

/-- A name that is not there is laid, in the map of all and where it stands. -/
theorem WheelAt.add {A A' : ASt} {W all now : Nat} {ms : List Nat} {M : TM} (h : WheelAt A W all ms now M) (k : ByteArray) {a : Nat} (hk : M k = none) (ha : now < a) (halt : a < 18446744073709551616) {l la : List UE} {ck cka : Nat} {m : Nat} (hm : ms[_root_.Go.Proofs.Ytpmpclieclcbdaa.plc now a]? = some m)
    (hok : MapOK l ck) (hg : ∀ j, uget l j = M.at_ now (_root_.Go.Proofs.Ytpmpclieclcbdaa.plc now a) j) (hoka : MapOK la cka) (hga : ∀ j, uget la j = M j)
    (hn : A.next ≤ A'.next) (e : ∀ b, A'.get b = if b = m then some (.map (uEnts (uput k a ck l)) (uck l k ck)) else if b = all then some (.map (uEnts (uput k a cka la)) (uck la k cka)) else A.get b) : WheelAt A' W all ms now (M.put k a) ∧ Fr (W :: all :: ms) A A' := by
  have hmem := List.mem_of_getElem? hm
  obtain ⟨n1, n2, n3⟩ := h.ne_all hmem
  refine ⟨⟨?_, h.len, h.nowlt, h.nodup, fun b hb => Nat.lt_of_lt_of_le (h.below b hb) hn, ?_, ?_, ?_, ?_⟩, hn, fun b hb hno => ?_⟩
  · rw [e, if_neg (Ne.symm n1), if_neg (Ne.symm n3)]; exact h.row
  · refine ⟨_, _, by rw [e, if_neg (Ne.symm n2), if_pos rfl], uput_ok hoka, fun j => ?_⟩
    rw [uget_uput, hga]; rfl
  · intro i m' hm'
    have hmem' := List.mem_of_getElem? hm'
    obtain ⟨_, n2', _⟩ := h.ne_all hmem'
    by_cases e2 : m' = m
    · subst e2
      have : i = _ := h.inj hm' hm
      subst this
      refine ⟨_, _, by rw [e, if_pos rfl], uput_ok hok, fun j => ?_⟩
      rw [uget_uput, hg]
      unfold TM.at_ TM.put
      by_cases ej : j = k <;> simp [ej, Option.filter]
    · refine ((h.slot i m' hm').congr (by rw [e, if_neg e2, if_neg n2'])).ext fun j => ?_
      unfold TM.at_ TM.put
      by_cases ej : j = k
      · subst ej
        have hne : _root_.Go.Proofs.Ytpmpclieclcbdaa.plc now a ≠ i := fun ee => e2 (by rw [ee, hm'] at hm; exact Option.some.inj hm)
        simp [Option.filter, hne, hk]
      · rw [if_neg ej]
  · intro j b hj
    unfold TM.put at hj
    split at hj
    · cases hj; exact halt
    · exact h.lt j b hj
  · intro j b hj
    unfold TM.put at hj
    split at hj
    · cases hj; exact ha
    · exact h.gt j b hj
  · rw [e, if_neg (fun ee => hno (by simp [ee, hmem])), if_neg (fun ee => hno (by simp [ee]))]

theorem put_spec {A : ASt} {W all now : Nat} {ms : List Nat} {M : TM} (h : WheelAt A W all ms now M) (k : ByteArray) {a : Nat} (halt : a < 18446744073709551616) :
    CallW Z Try.prog 12 [.pointer (some ⟨W, 0, none⟩), .string k, .int .u64 (a : Int)] A (fun v A' => v = .bool (decide (now < a)) ∧ WheelAt A' W all ms now (if now < a then M.put k a else M) ∧ Fr (W :: all :: ms) A A') := by
  refine CallW.of_code E0_ok E0_ro fn12 rfl (n := 31) rfl (rs := [.tmp 6]) rfl (by simp) (codeW_ok E0_ok E0_ro ?_)
  have hW := h.row
  simp only [hW, oneW_next, s_0, s_1, s_2, s_3, s_4, Hands, handsV, resultsV, oneOrTuple, argsT, ev, evs, evPairs, evOpt, closed, flat, nth, aCall, aEnter, notYield, aNilCheck, aLoad, partV, isAggD, aFieldAddr, aField, aExtract, Option.isNone, aBuiltin, cond_true, cond_false, cond_dec, if_true, if_false, List.length_cons, List.length_nil, forall_const, implies_true, List.append_nil, List.cons_append, List.nil_append, eq_self, Nat.reduceEqDiff, Nat.reduceAdd, Nat.reduceMul, Nat.reduceSub, Nat.reduceLT, Nat.reduceLeDiff, Nat.reduceBEq, reduceIte, reduceCtorEq, ti63, t63_desc, t63_size, ti25, t25_desc, ti22, t22_desc, t22_size, ti59, t59_desc, t59_size, ti60, t60_desc, t60_size, ti61, t61_desc, t61_size, ti3, t3_desc, t3_size, ti40, t40_desc, t40_size, ti33, t33_desc, t33_size, ti9, t9_desc, t9_size, wrow_now, wrow_all, eqnil25, fn17, fn26, fn27, fn28, fn29, fn38, fn39, fn12, fn14, fn15]
  refine brW_dec (fun hle => ?_) (fun hle => ?_)
  · have hn : ¬ now < a := by omega
    simp only [hW, oneW_next, s_0, s_1, s_2, s_3, s_4, Hands, handsV, resultsV, oneOrTuple, argsT, ev, evs, evPairs, evOpt, closed, flat, nth, aCall, aEnter, notYield, aNilCheck, aLoad, partV, isAggD, aFieldAddr, aField, aExtract, Option.isNone, aBuiltin, cond_true, cond_false, cond_dec, if_true, if_false, List.length_cons, List.length_nil, forall_const, implies_true, List.append_nil, List.cons_append, List.nil_append, eq_self, Nat.reduceEqDiff, Nat.reduceAdd, Nat.reduceMul, Nat.reduceSub, Nat.reduceLT, Nat.reduceLeDiff, Nat.reduceBEq, reduceIte, reduceCtorEq, ti63, t63_desc, t63_size, ti25, t25_desc, ti22, t22_desc, t22_size, ti59, t59_desc, t59_size, ti60, t60_desc, t60_size, ti61, t61_desc, t61_size, ti3, t3_desc, t3_size, ti40, t40_desc, t40_size, ti33, t33_desc, t33_size, ti9, t9_desc, t9_size, wrow_now, wrow_all, eqnil25, fn17, fn26, fn27, fn28, fn29, fn38, fn39, fn12, fn14, fn15, hn]
    exact ⟨h, .refl _ _⟩
  · have hn : now < a := by omega
    simp only [hW, oneW_next, s_0, s_1, s_2, s_3, s_4, Hands, handsV, resultsV, oneOrTuple, argsT, ev, evs, evPairs, evOpt, closed, flat, nth, aCall, aEnter, notYield, aNilCheck, aLoad, partV, isAggD, aFieldAddr, aField, aExtract, Option.isNone, aBuiltin, cond_true, cond_false, cond_dec, if_true, if_false, List.length_cons, List.length_nil, forall_const, implies_true, List.append_nil, List.cons_append, List.nil_append, eq_self, Nat.reduceEqDiff, Nat.reduceAdd, Nat.reduceMul, Nat.reduceSub, Nat.reduceLT, Nat.reduceLeDiff, Nat.reduceBEq, reduceIte, reduceCtorEq, ti63, t63_desc, t63_size, ti25, t25_desc, ti22, t22_desc, t22_size, ti59, t59_desc, t59_size, ti60, t60_desc, t60_size, ti61, t61_desc, t61_size, ti3, t3_desc, t3_size, ti40, t40_desc, t40_size, ti33, t33_desc, t33_size, ti9, t9_desc, t9_size, wrow_now, wrow_all, eqnil25, fn17, fn26, fn27, fn28, fn29, fn38, fn39, fn12, fn14, fn15, hn]
    refine CallT.mono (drop_spec h k) ?_
    rintro v B ⟨rfl, h1, f1⟩
    have hW1 := h1.row
    obtain ⟨la, cka, hla, hoka, hga⟩ := h1.allm
    have hu1 := updateT hla k a
    simp only [hW, oneW_next, s_0, s_1, s_2, s_3, s_4, Hands, handsV, resultsV, oneOrTuple, argsT, ev, evs, evPairs, evOpt, closed, flat, nth, aCall, aEnter, notYield, aNilCheck, aLoad, partV, isAggD, aFieldAddr, aField, aExtract, Option.isNone, aBuiltin, cond_true, cond_false, cond_dec, if_true, if_false, List.length_cons, List.length_nil, forall_const, implies_true, List.append_nil, List.cons_append, List.nil_append, eq_self, Nat.reduceEqDiff, Nat.reduceAdd, Nat.reduceMul, Nat.reduceSub, Nat.reduceLT, Nat.reduceLeDiff, Nat.reduceBEq, reduceIte, reduceCtorEq, ti63, t63_desc, t63_size, ti25, t25_desc, ti22, t22_desc, t22_size, ti59, t59_desc, t59_size, ti60, t60_desc, t60_size, ti61, t61_desc, t61_size, ti3, t3_desc, t3_size, ti40, t40_desc, t40_size, ti33, t33_desc, t33_size, ti9, t9_desc, t9_size, wrow_now, wrow_all, eqnil25, fn17, fn26, fn27, fn28, fn29, fn38, fn39, fn12, fn14, fn15, hW1, hu1]
    have hne := h1.nodup
    simp only [List.nodup_cons, List.mem_cons, not_or] at hne
    have hW2 : (B.set all (.map (uEnts (uput k a cka la)) (uck la k cka))).get W = some (.row (wrow now all ms) 67 false) := by
      rw [ASt.get_set, if_neg hne.1.1]; exact hW1
    refine CallT.mono (place_walk hW2 h1.len h1.nowlt halt) ?_
    rintro _ _ ⟨rfl, x, rfl⟩
    have hm : ms[plc now a]? = some (ms[plc now a]'(h.plc a)) := List.getElem?_eq_getElem _
    generalize ms[plc now a]'(h.plc a) = m at hm
    obtain ⟨l, ck, hl, hok, hg⟩ := h1.slot _ _ hm
    have hmem := List.mem_of_getElem? hm
    obtain ⟨n1, n2, n3⟩ := h1.ne_all hmem
    have hl' : ASt.get { heap := (B.set all (.map (uEnts (uput k a cka la)) (uck la k cka))).heap, next := B.next + x } m = some (.map (uEnts l) ck) := by
      rw [get_next, ASt.get_set, if_neg n2]; exact hl
    have hu2 := updateT hl' k a
    simp only [hW, oneW_next, s_0, s_1, s_2, s_3, s_4, Hands, handsV, resultsV, oneOrTuple, argsT, ev, evs, evPairs, evOpt, closed, flat, nth, aCall, aEnter, notYield, aNilCheck, aLoad, partV, isAggD, aFieldAddr, aField, aExtract, Option.isNone, aBuiltin, cond_true, cond_false, cond_dec, if_true, if_false, List.length_cons, List.length_nil, forall_const, implies_true, List.append_nil, List.cons_append, List.nil_append, eq_self, Nat.reduceEqDiff, Nat.reduceAdd, Nat.reduceMul, Nat.reduceSub, Nat.reduceLT, Nat.reduceLeDiff, Nat.reduceBEq, reduceIte, reduceCtorEq, ti63, t63_desc, t63_size, ti25, t25_desc, ti22, t22_desc, t22_size, ti59, t59_desc, t59_size, ti60, t60_desc, t60_size, ti61, t61_desc, t61_size, ti3, t3_desc, t3_size, ti40, t40_desc, t40_size, ti33, t33_desc, t33_size, ti9, t9_desc, t9_size, wrow_now, wrow_all, eqnil25, fn17, fn26, fn27, fn28, fn29, fn38, fn39, fn12, fn14, fn15, hu2]
    have hadd := h1.add k (a := a) (by unfold TM.del; simp) hn halt hm hok hg hoka hga (A' := (ASt.set { heap := (B.set all (.map (uEnts (uput k a cka la)) (uck la k cka))).heap, next := B.next + x } m (.map (uEnts (uput k a ck l)) (uck l k ck)))) (by show B.next ≤ B.next + x; omega) (fun b => by
      rw [ASt.get_set, get_next, ASt.get_set])
    refine ⟨by simp [hn], ?_, f1.trans hadd.2⟩
    rw [if_pos hn]
    have e : (M.del k).put k a = M.put k a := by
      funext j
      unfold TM.put TM.del
      by_cases ej : j = k <;> simp [ej]
    rw [← e]
    exact hadd.1

theorem clock_spec {A : ASt} {W now all : Nat} {ms : List Nat} (hW : A.get W = some (.row (wrow now all ms) 67 false)) :
    CallW Z Try.prog 15 [.pointer (some ⟨W, 0, none⟩)] A (fun v A' => v = .int .u64 (now : Int) ∧ A' = A) := by
  refine CallW.of_code E0_ok E0_ro fn15 rfl (n := 9) rfl (rs := [.tmp 2]) rfl (by simp) (codeW_ok E0_ok E0_ro ?_)
  simp only [hW, oneW_next, s_0, s_1, s_2, s_3, s_4, Hands, handsV, resultsV, oneOrTuple, argsT, ev, evs, evPairs, evOpt, closed, flat, nth, aCall, aEnter, notYield, aNilCheck, aLoad, partV, isAggD, aFieldAddr, aField, aExtract, Option.isNone, aBuiltin, cond_true, cond_false, cond_dec, if_true, if_false, List.length_cons, List.length_nil, forall_const, implies_true, List.append_nil, List.cons_append, List.nil_append, eq_self, Nat.reduceEqDiff, Nat.reduceAdd, Nat.reduceMul, Nat.reduceSub, Nat.reduceLT, Nat.reduceLeDiff, Nat.reduceBEq, reduceIte, reduceCtorEq, ti63, t63_desc, t63_size, ti25, t25_desc, ti22, t22_desc, t22_size, ti59, t59_desc, t59_size, ti60, t60_desc, t60_size, ti61, t61_desc, t61_size, ti3, t3_desc, t3_size, ti40, t40_desc, t40_size, ti33, t33_desc, t33_size, ti9, t9_desc, t9_size, wrow_now, wrow_all, eqnil25, fn17, fn26, fn27, fn28, fn29, fn38, fn39, fn12, fn14, fn15]

/-- How many timers there are. -/
def Cnt (M : TM) (n : Nat) : Prop := ∃ l : List ByteArray, l.Nodup ∧ (∀ k, k ∈ l ↔ (M k).isSome = true) ∧ l.length = n

theorem Holds.cnt {A : ASt} {m : Nat} {M : TM} {l : List UE} {ck : Nat} (_h : A.get m = some (.map (uEnts l) ck)) (hok : MapOK l ck) (hg : ∀ k, uget l k = M k) : Cnt M l.length := by
  refine ⟨l.map (·.1), hok.keys, fun k => ?_, by simp⟩
  rw [← hg]
  constructor
  · intro hk
    obtain ⟨x, hx, rfl⟩ := List.mem_map.1 hk
    rw [uget_mem hok.keys hx]; rfl
  · intro hk
    obtain ⟨v, hv⟩ := Option.isSome_iff_exists.1 hk
    obtain ⟨b, hb⟩ := uget_some hv
    exact List.mem_map.2 ⟨_, hb, rfl⟩

theorem lenT {A : ASt} {m ck : Nat} {l : List UE} (hm : A.get m = some (.map (uEnts l) ck)) : aLen E0 59 (.map (some m)) A = some (goInt l.length) := len_u ti59 t59_desc hm

theorem len_spec {A : ASt} {W all now : Nat} {ms : List Nat} {M : TM} (h : WheelAt A W all ms now M) :
    CallW Z Try.prog 14 [.pointer (some ⟨W, 0, none⟩)] A (fun v A' => (∃ n : Nat, v = .int .i64 (n : Int) ∧ Cnt M n) ∧ A' = A) := by
  refine CallW.of_code E0_ok E0_ro fn14 rfl (n := 10) rfl (rs := [.tmp 2]) rfl (by simp) (codeW_ok E0_ok E0_ro ?_)
  have hW := h.row
  obtain ⟨la, cka, hla, hoka, hga⟩ := h.allm
  simp only [hW, oneW_next, s_0, s_1, s_2, s_3, s_4, Hands, handsV, resultsV, oneOrTuple, argsT, ev, evs, evPairs, evOpt, closed, flat, nth, aCall, aEnter, notYield, aNilCheck, aLoad, partV, isAggD, aFieldAddr, aField, aExtract, Option.isNone, aBuiltin, cond_true, cond_false, cond_dec, if_true, if_false, List.length_cons, List.length_nil, forall_const, implies_true, List.append_nil, List.cons_append, List.nil_append, eq_self, Nat.reduceEqDiff, Nat.reduceAdd, Nat.reduceMul, Nat.reduceSub, Nat.reduceLT, Nat.reduceLeDiff, Nat.reduceBEq, reduceIte, reduceCtorEq, ti63, t63_desc, t63_size, ti25, t25_desc, ti22, t22_desc, t22_size, ti59, t59_desc, t59_size, ti60, t60_desc, t60_size, ti61, t61_desc, t61_size, ti3, t3_desc, t3_size, ti40, t40_desc, t40_size, ti33, t33_desc, t33_size, ti9, t9_desc, t9_size, wrow_now, wrow_all, eqnil25, fn17, fn26, fn27, fn28, fn29, fn38, fn39, fn12, fn14, fn15, lenT hla, goInt]
  exact ⟨la.length, rfl, Holds.cnt hla hoka hga⟩
end Go.Proofs.Ytpmpclieclcbdaa

/- The wheel: what Advance's closure does. -/
namespace Go.Proofs.Ytpmpclieclcbdaa
open Go Go.AE

variable {Z : Go.AE.Road}
set_option maxRecDepth 10000

/-- What was gone through is laid over. -/
noncomputable def puts (D : TM) (done : List UE) (p : Nat → Bool) : TM := fun k => match uget done k with
  | some a => if p a then some a else D k
  | none => D k
noncomputable def TM.over (D S : TM) (p : Nat → Bool) : TM := fun k => match S k with
  | some a => if p a then some a else D k
  | none => D k

theorem puts_nil {D : TM} {p : Nat → Bool} : puts D [] p = D := rfl
theorem puts_snoc {D : TM} {done : List UE} {p : Nat → Bool} {x : UE} (h : uget done x.1 = none) : puts D (done ++ [x]) p = if p x.2.1 then (puts D done p).put x.1 x.2.1 else puts D done p := by
  funext k
  unfold puts TM.put
  rw [uget_snoc]
  by_cases e : k = x.1
  · subst e
    rw [h]
    by_cases hp : p x.2.1 <;> simp [hp, h]
  · by_cases hp : p x.2.1 <;> simp [hp, e]

theorem fresh_key {l done : List UE} {ck : Nat} (hok : MapOK l ck) (hsub : ∀ x ∈ done, x ∈ l) {x : UE} (hx : x ∈ l) (hn : x ∉ done) : uget done x.1 = none := by
  rw [uget_none]
  intro y hy e
  exact hn (keys_one (f := fun z : UE => z.1) hok.keys (hsub y hy) hx e ▸ hy)

theorem rangeT {A : ASt} {m ck : Nat} {es : List MapEntry} (hm : A.get m = some (.map es ck)) : aRange E0 59 (.map (some m)) A = .val (.pointer (some ⟨A.next, 0, none⟩)) (A.new (.miter (some m) ck [] ck)) := range_u ti59 t59_desc hm
theorem clearT {A : ASt} {m ck : Nat} {es : List MapEntry} (hm : A.get m = some (.map es ck)) : aClear2 E0 t59 (.map (some m)) A = .val undef (A.set m (.map [] ck)) := by
  simp only [aClear2, t59_desc, aClear, hm]

theorem empty_spec {A : ASt} {m p3 p5 p6 d lf nw : Nat} {S D L : TM} (h3 : A.get p3 = some (.row [.int .u64 (nw : Int)] 1 false)) (h5 : A.get p5 = some (.row [.map (some d)] 1 false)) (h6 : A.get p6 = some (.row [.map (some lf)] 1 false))
    (hm : Holds A m S) (hd : Holds A d D) (hl : Holds A lf L) (e1 : m ≠ d) (e2 : m ≠ lf) (e3 : d ≠ lf) (hb : ∀ b ∈ [m, d, lf, p3, p5, p6], b < A.next) :
    CallW Z Try.prog 28 [.map (some m), .pointer (some ⟨p3, 0, none⟩), .pointer (some ⟨p5, 0, none⟩), .pointer (some ⟨p6, 0, none⟩)] A (fun _ A' => Holds A' m (fun _ => none) ∧ Holds A' d (D.over S fun a => decide (a ≤ nw)) ∧ Holds A' lf (L.over S fun a => !decide (a ≤ nw)) ∧ Fr [m, d, lf] A A') := by
  refine CallW.of_code E0_ok E0_ro fn28 rfl (n := 24) rfl (rs := []) rfl (by simp) (codeW_ok E0_ok E0_ro ?_)
  obtain ⟨es, ck, hes, hok, hg⟩ := hm
  have hmb := hb m (by simp)
  have hdb := hb d (by simp)
  have hlb := hb lf (by simp)
  have h3b := hb p3 (by simp)
  have h5b := hb p5 (by simp)
  have h6b := hb p6 (by simp)
  have ne : ∀ {p : Nat} {c : List Value} {sz : Nat} {tl : Bool}, A.get p = some (.row c sz tl) → ∀ {q : Nat} {T : TM}, Holds A q T → p ≠ q := by
    rintro p c sz tl hp q T ⟨_, _, hq, _⟩ rfl
    rw [hp] at hq
    cases hq
  simp only [oneW_next, s_0, s_1, s_2, s_3, s_4, Hands, handsV, resultsV, oneOrTuple, argsT, ev, evs, evPairs, evOpt, closed, flat, nth, aCall, aEnter, notYield, aNilCheck, aLoad, partV, isAggD, aFieldAddr, aField, aExtract, Option.isNone, aBuiltin, cond_true, cond_false, cond_dec, if_true, if_false, List.length_cons, List.length_nil, forall_const, implies_true, List.append_nil, List.cons_append, List.nil_append, eq_self, Nat.reduceEqDiff, Nat.reduceAdd, Nat.reduceMul, Nat.reduceSub, Nat.reduceLT, Nat.reduceLeDiff, Nat.reduceBEq, reduceIte, reduceCtorEq, ti63, t63_desc, t63_size, ti25, t25_desc, ti22, t22_desc, t22_size, ti59, t59_desc, t59_size, ti60, t60_desc, t60_size, ti61, t61_desc, t61_size, ti3, t3_desc, t3_size, ti40, t40_desc, t40_size, ti33, t33_desc, t33_size, ti9, t9_desc, t9_size, wrow_now, wrow_all, eqnil25, fn17, fn26, fn27, fn28, fn29, fn38, fn39, fn12, fn14, fn15, rangeT hes]
  refine CodeW.mono (Q := fun o => ∃ T' A' done, o = .fr ⟨.exit 0, T', A'⟩ ∧ InMap 8 A.next m ck es done T' A' ∧ (∀ x ∈ es, x ∈ done) ∧ tget T' 0 = .map (some m) ∧ Holds A' d (puts D done fun a => decide (a ≤ nw)) ∧ Holds A' lf (puts L done fun a => !decide (a ≤ nw)) ∧ Fr [m, d, lf] A A') ?_ ?_
  · refine CodeW.mapLoop (it := 8) (r := A.next) (m := m) (ck := ck) (l := es) (J := fun done T A' => tget T 0 = .map (some m) ∧ tget T 1 = .pointer (some ⟨p3, 0, none⟩) ∧ tget T 2 = .pointer (some ⟨p5, 0, none⟩) ∧ tget T 3 = .pointer (some ⟨p6, 0, none⟩) ∧ Holds A' d (puts D done fun a => decide (a ≤ nw)) ∧ Holds A' lf (puts L done fun a => !decide (a ≤ nw)) ∧ Fr [m, d, lf] A A') ?_ ?_ ?_
    · rintro done T A1 hi ⟨t0, t1, t2, t3, hd1, hl1, f1⟩
      refine codeW_ok E0_ok E0_ro ?_
      have g3 : A1.get p3 = _ := (f1.get p3 h3b (by simp [ne h3 ⟨es, ck, hes, hok, hg⟩, ne h3 hd, ne h3 hl])).trans h3
      have g5 : A1.get p5 = _ := (f1.get p5 h5b (by simp [ne h5 ⟨es, ck, hes, hok, hg⟩, ne h5 hd, ne h5 hl])).trans h5
      have g6 : A1.get p6 = _ := (f1.get p6 h6b (by simp [ne h6 ⟨es, ck, hes, hok, hg⟩, ne h6 hd, ne h6 hl])).trans h6
      have hit := hi.it
      simp only [oneW_next, s_0, s_1, s_2, s_3, s_4, Hands, handsV, resultsV, oneOrTuple, argsT, ev, evs, evPairs, evOpt, closed, flat, nth, aCall, aEnter, notYield, aNilCheck, aLoad, partV, isAggD, aFieldAddr, aField, aExtract, Option.isNone, aBuiltin, cond_true, cond_false, cond_dec, if_true, if_false, List.length_cons, List.length_nil, forall_const, implies_true, List.append_nil, List.cons_append, List.nil_append, eq_self, Nat.reduceEqDiff, Nat.reduceAdd, Nat.reduceMul, Nat.reduceSub, Nat.reduceLT, Nat.reduceLeDiff, Nat.reduceBEq, reduceIte, reduceCtorEq, ti63, t63_desc, t63_size, ti25, t25_desc, ti22, t22_desc, t22_size, ti59, t59_desc, t59_size, ti60, t60_desc, t60_size, ti61, t61_desc, t61_size, ti3, t3_desc, t3_size, ti40, t40_desc, t40_size, ti33, t33_desc, t33_size, ti9, t9_desc, t9_size, wrow_now, wrow_all, eqnil25, fn17, fn26, fn27, fn28, fn29, fn38, fn39, fn12, fn14, fn15, hit]
      refine nextV_u hok hi.sub hi.iter hi.map (fun x hx hn => ?_) (fun hall => ?_)
      · have hkey := fresh_key hok hi.sub hx hn
        obtain ⟨ld, ckd, hld, hokd, hgd⟩ := hd1
        obtain ⟨ll, ckl, hll, hokl, hgl⟩ := hl1
        have hent := entry_u (A := A1.set A.next (.miter (some m) ck ((done ++ [x]).map (·.2.2)) ck)) (r := A.next) (m := m) hok hx (by rw [ASt.get_set, if_pos rfl]) (by rw [ASt.get_set, if_neg (by omega)]; exact hi.map)
        have g3' : (A1.set A.next (.miter (some m) ck ((done ++ [x]).map (·.2.2)) ck)).get p3 = some (.row [.int .u64 (nw : Int)] 1 false) := by rw [ASt.get_set, if_neg (by omega)]; exact g3
        have g5' : (A1.set A.next (.miter (some m) ck ((done ++ [x]).map (·.2.2)) ck)).get p5 = some (.row [.map (some d)] 1 false) := by rw [ASt.get_set, if_neg (by omega)]; exact g5
        have g6' : (A1.set A.next (.miter (some m) ck ((done ++ [x]).map (·.2.2)) ck)).get p6 = some (.row [.map (some lf)] 1 false) := by rw [ASt.get_set, if_neg (by omega)]; exact g6
        have gd' : (A1.set A.next (.miter (some m) ck ((done ++ [x]).map (·.2.2)) ck)).get d = some (.map (uEnts ld) ckd) := by rw [ASt.get_set, if_neg (by omega)]; exact hld
        have gl' : (A1.set A.next (.miter (some m) ck ((done ++ [x]).map (·.2.2)) ck)).get lf = some (.map (uEnts ll) ckl) := by rw [ASt.get_set, if_neg (by omega)]; exact hll
        have gr' : (A1.set A.next (.miter (some m) ck ((done ++ [x]).map (·.2.2)) ck)).get A.next = some (.miter (some m) ck ((done ++ [x]).map (·.2.2)) ck) := by rw [ASt.get_set, if_pos rfl]
        have gm' : (A1.set A.next (.miter (some m) ck ((done ++ [x]).map (·.2.2)) ck)).get m = A1.get m := by rw [ASt.get_set, if_neg (by omega)]
        have fb : Fr [m, d, lf] A (A1.set A.next (.miter (some m) ck ((done ++ [x]).map (·.2.2)) ck)) := ⟨f1.next, fun b hb hn => by rw [ASt.get_set, if_neg (by omega)]; exact f1.get b hb hn⟩
        have nx1 := f1.next
        generalize A1.set A.next (.miter (some m) ck ((done ++ [x]).map (·.2.2)) ck) = B at *
        have hud := updateT gd' x.1 x.2.1
        have hul := updateT gl' x.1 x.2.1
        simp only [oneW_next, s_0, s_1, s_2, s_3, s_4, Hands, handsV, resultsV, oneOrTuple, argsT, ev, evs, evPairs, evOpt, closed, flat, nth, aCall, aEnter, notYield, aNilCheck, aLoad, partV, isAggD, aFieldAddr, aField, aExtract, Option.isNone, aBuiltin, cond_true, cond_false, cond_dec, if_true, if_false, List.length_cons, List.length_nil, forall_const, implies_true, List.append_nil, List.cons_append, List.nil_append, eq_self, Nat.reduceEqDiff, Nat.reduceAdd, Nat.reduceMul, Nat.reduceSub, Nat.reduceLT, Nat.reduceLeDiff, Nat.reduceBEq, reduceIte, reduceCtorEq, ti63, t63_desc, t63_size, ti25, t25_desc, ti22, t22_desc, t22_size, ti59, t59_desc, t59_size, ti60, t60_desc, t60_size, ti61, t61_desc, t61_size, ti3, t3_desc, t3_size, ti40, t40_desc, t40_size, ti33, t33_desc, t33_size, ti9, t9_desc, t9_size, wrow_now, wrow_all, eqnil25, fn17, fn26, fn27, fn28, fn29, fn38, fn39, fn12, fn14, fn15, hit, hent, t1, t2, t3, g3']
        refine brW_dec (fun hle => ?_) (fun hle => ?_)
        · have hle' : x.2.1 ≤ nw := by omega
          simp only [oneW_next, s_0, s_1, s_2, s_3, s_4, Hands, handsV, resultsV, oneOrTuple, argsT, ev, evs, evPairs, evOpt, closed, flat, nth, aCall, aEnter, notYield, aNilCheck, aLoad, partV, isAggD, aFieldAddr, aField, aExtract, Option.isNone, aBuiltin, cond_true, cond_false, cond_dec, if_true, if_false, List.length_cons, List.length_nil, forall_const, implies_true, List.append_nil, List.cons_append, List.nil_append, eq_self, Nat.reduceEqDiff, Nat.reduceAdd, Nat.reduceMul, Nat.reduceSub, Nat.reduceLT, Nat.reduceLeDiff, Nat.reduceBEq, reduceIte, reduceCtorEq, ti63, t63_desc, t63_size, ti25, t25_desc, ti22, t22_desc, t22_size, ti59, t59_desc, t59_size, ti60, t60_desc, t60_size, ti61, t61_desc, t61_size, ti3, t3_desc, t3_size, ti40, t40_desc, t40_size, ti33, t33_desc, t33_size, ti9, t9_desc, t9_size, wrow_now, wrow_all, eqnil25, fn17, fn26, fn27, fn28, fn29, fn38, fn39, fn12, fn14, fn15, t1, t2, t3, g5', hud]
          refine ⟨x, hx, hn, hi.step hx hn (by simp only [tget_put, Nat.reduceEqDiff, if_false, reduceIte]) (by rw [ASt.get_set, if_neg (by omega)]; exact gr') (by rw [ASt.get_set, if_neg e1]; exact gm'), ?_, ?_, ?_, ?_⟩
          · exact t0
          · refine ⟨_, _, by rw [ASt.get_set, if_pos rfl], uput_ok hokd, fun k => ?_⟩
            rw [uget_uput, hgd, puts_snoc hkey]
            simp only [hle', decide_true, if_true]
            rfl
          · refine ⟨ll, ckl, by rw [ASt.get_set, if_neg (Ne.symm e3)]; exact gl', hokl, fun k => ?_⟩
            rw [hgl, puts_snoc hkey]
            simp only [hle', decide_true, Bool.not_true, Bool.false_eq_true, if_false]
          · exact ⟨fb.next, fun b hb hn => by rw [ASt.get_set, if_neg (by rintro rfl; simp at hn)]; exact fb.get b hb hn⟩
        · have hle' : ¬ x.2.1 ≤ nw := by omega
          simp only [oneW_next, s_0, s_1, s_2, s_3, s_4, Hands, handsV, resultsV, oneOrTuple, argsT, ev, evs, evPairs, evOpt, closed, flat, nth, aCall, aEnter, notYield, aNilCheck, aLoad, partV, isAggD, aFieldAddr, aField, aExtract, Option.isNone, aBuiltin, cond_true, cond_false, cond_dec, if_true, if_false, List.length_cons, List.length_nil, forall_const, implies_true, List.append_nil, List.cons_append, List.nil_append, eq_self, Nat.reduceEqDiff, Nat.reduceAdd, Nat.reduceMul, Nat.reduceSub, Nat.reduceLT, Nat.reduceLeDiff, Nat.reduceBEq, reduceIte, reduceCtorEq, ti63, t63_desc, t63_size, ti25, t25_desc, ti22, t22_desc, t22_size, ti59, t59_desc, t59_size, ti60, t60_desc, t60_size, ti61, t61_desc, t61_size, ti3, t3_desc, t3_size, ti40, t40_desc, t40_size, ti33, t33_desc, t33_size, ti9, t9_desc, t9_size, wrow_now, wrow_all, eqnil25, fn17, fn26, fn27, fn28, fn29, fn38, fn39, fn12, fn14, fn15, t1, t2, t3, g6', hul]
          refine ⟨x, hx, hn, hi.step hx hn (by simp only [tget_put, Nat.reduceEqDiff, if_false, reduceIte]) (by rw [ASt.get_set, if_neg (by omega)]; exact gr') (by rw [ASt.get_set, if_neg e2]; exact gm'), ?_, ?_, ?_, ?_⟩
          · exact t0
          · refine ⟨ld, ckd, by rw [ASt.get_set, if_neg e3]; exact gd', hokd, fun k => ?_⟩
            rw [hgd, puts_snoc hkey]
            simp only [hle', decide_false, Bool.false_eq_true, if_false]
          · refine ⟨_, _, by rw [ASt.get_set, if_pos rfl], uput_ok hokl, fun k => ?_⟩
            rw [uget_uput, hgl, puts_snoc hkey]
            simp only [hle', decide_false, Bool.not_false, if_true]
            rfl
          · exact ⟨fb.next, fun b hb hn => by rw [ASt.get_set, if_neg (by rintro rfl; simp at hn)]; exact fb.get b hb hn⟩
      · simp only [oneW_next, s_0, s_1, s_2, s_3, s_4, Hands, handsV, resultsV, oneOrTuple, argsT, ev, evs, evPairs, evOpt, closed, flat, nth, aCall, aEnter, notYield, aNilCheck, aLoad, partV, isAggD, aFieldAddr, aField, aExtract, Option.isNone, aBuiltin, cond_true, cond_false, cond_dec, if_true, if_false, List.length_cons, List.length_nil, forall_const, implies_true, List.append_nil, List.cons_append, List.nil_append, eq_self, Nat.reduceEqDiff, Nat.reduceAdd, Nat.reduceMul, Nat.reduceSub, Nat.reduceLT, Nat.reduceLeDiff, Nat.reduceBEq, reduceIte, reduceCtorEq, ti63, t63_desc, t63_size, ti25, t25_desc, ti22, t22_desc, t22_size, ti59, t59_desc, t59_size, ti60, t60_desc, t60_size, ti61, t61_desc, t61_size, ti3, t3_desc, t3_size, ti40, t40_desc, t40_size, ti33, t33_desc, t33_size, ti9, t9_desc, t9_size, wrow_now, wrow_all, eqnil25, fn17, fn26, fn27, fn28, fn29, fn38, fn39, fn12, fn14, fn15]
        refine ⟨_, _, done, rfl, ⟨?_, hi.iter, hi.map, hi.sub, hi.nodup⟩, hall, ?_, hd1, hl1, f1⟩
        · simp only [tget_put, Nat.reduceEqDiff, if_false, reduceIte]; exact hit
        · simp only [tget_put, Nat.reduceEqDiff, if_false, reduceIte]; exact t0
    · refine ⟨rfl, by rw [ASt.get_new, if_pos rfl]; rfl, by rw [ASt.get_new, if_neg (by omega)]; exact hes, by simp, .nil⟩
    · refine ⟨rfl, rfl, rfl, rfl, hd.congr (by rw [ASt.get_new, if_neg (by omega)]), hl.congr (by rw [ASt.get_new, if_neg (by omega)]), Nat.le_succ _, fun b hb hn => by rw [ASt.get_new, if_neg (by omega)]⟩
  · rintro o ⟨T', A', done, rfl, hi, hall, t0, hd1, hl1, f1⟩
    have hck := hi.map
    simp only [oneW_next, s_0, s_1, s_2, s_3, s_4, Hands, handsV, resultsV, oneOrTuple, argsT, ev, evs, evPairs, evOpt, closed, flat, nth, aCall, aEnter, notYield, aNilCheck, aLoad, partV, isAggD, aFieldAddr, aField, aExtract, Option.isNone, aBuiltin, cond_true, cond_false, cond_dec, if_true, if_false, List.length_cons, List.length_nil, forall_const, implies_true, List.append_nil, List.cons_append, List.nil_append, eq_self, Nat.reduceEqDiff, Nat.reduceAdd, Nat.reduceMul, Nat.reduceSub, Nat.reduceLT, Nat.reduceLeDiff, Nat.reduceBEq, reduceIte, reduceCtorEq, ti63, t63_desc, t63_size, ti25, t25_desc, ti22, t22_desc, t22_size, ti59, t59_desc, t59_size, ti60, t60_desc, t60_size, ti61, t61_desc, t61_size, ti3, t3_desc, t3_size, ti40, t40_desc, t40_size, ti33, t33_desc, t33_size, ti9, t9_desc, t9_size, wrow_now, wrow_all, eqnil25, fn17, fn26, fn27, fn28, fn29, fn38, fn39, fn12, fn14, fn15, t0, clearT hck]
    obtain ⟨hk, hu⟩ := uget_all hok hi.sub hall hi.nodup
    have hov : ∀ (X : TM) (p : Nat → Bool), puts X done p = X.over S p := by
      intro X p
      funext k
      unfold puts TM.over
      rw [hu, hg]
    rw [hov] at hd1 hl1
    refine ⟨⟨[], ck, by rw [ASt.get_set, if_pos rfl]; rfl, ⟨.nil, .nil, by simp⟩, fun k => rfl⟩, hd1.congr (by rw [ASt.get_set, if_neg (Ne.symm e1)]), hl1.congr (by rw [ASt.get_set, if_neg (Ne.symm e2)]), f1.next, fun b hb hn => by rw [ASt.get_set, if_neg (by rintro rfl; simp at hn)]; exact f1.get b hb hn⟩
end Go.Proofs.Ytpmpclieclcbdaa

/- The wheel: where a timer stands when the clock moves. Plain. -/
namespace Go.Proofs.Ytpmpclieclcbdaa
open Go Go.AE

theorem bl_bounds {x : Nat} (h : x < 18446744073709551616) (h0 : x ≠ 0) : 1 ≤ Lib.bitLen x ∧ 2 ^ (Lib.bitLen x - 1) ≤ x ∧ x < 2 ^ Lib.bitLen x := Lib.bitLenAux_bounds 64 x (by omega) h0
theorem bl_lt {x : Nat} (h : x < 18446744073709551616) : x < 2 ^ Lib.bitLen x := by
  by_cases h0 : x = 0
  · subst h0; exact Nat.two_pow_pos _
  · exact (bl_bounds h h0).2.2
theorem bl_eq {x k : Nat} (h : x < 18446744073709551616) (h1 : 2 ^ k ≤ x) (h2 : x < 2 ^ (k + 1)) : Lib.bitLen x = k + 1 := by
  have h0 : x ≠ 0 := by have := Nat.two_pow_pos k; omega
  obtain ⟨b1, b2, b3⟩ := bl_bounds h h0
  have a1 : Lib.bitLen x - 1 < k + 1 := (Nat.pow_lt_pow_iff_right (a := 2) (by omega)).1 (by omega)
  have a2 : k < Lib.bitLen x := (Nat.pow_lt_pow_iff_right (a := 2) (by omega)).1 (by omega)
  omega
theorem bit_top {x t : Nat} (h1 : 2 ^ t ≤ x) (h2 : x < 2 ^ (t + 1)) : x.testBit t = true := by
  cases hb : x.testBit t with
  | true => rfl
  | false =>
    exfalso
    have : x < 2 ^ t := by
      refine Nat.lt_pow_two_of_testBit x fun j hj => ?_
      rcases Nat.eq_or_lt_of_le hj with rfl | hlt
      · exact hb
      · exact Nat.testBit_lt_two_pow (Nat.lt_of_lt_of_le h2 (Nat.pow_le_pow_right (by omega) hlt))
    omega

theorem lt_bit {x y : Nat} (t : Nat) (hx : x.testBit t = false) (hy : y.testBit t = true) (h : ∀ j, t < j → x.testBit j = y.testBit j) : x < y := by
  have e : x / 2 ^ (t + 1) = y / 2 ^ (t + 1) := by
    apply Nat.eq_of_testBit_eq
    intro i
    rw [Nat.testBit_div_two_pow, Nat.testBit_div_two_pow]
    exact h _ (by omega)
  have h1 : x / 2 ^ t = 2 * (x / 2 ^ (t + 1)) := by
    have a : x / 2 ^ t % 2 = 0 := by
      have := hx
      rw [Nat.testBit_eq_decide_div_mod_eq] at this
      have := of_decide_eq_false this
      omega
    have b : x / 2 ^ (t + 1) = x / 2 ^ t / 2 := by rw [Nat.pow_succ, Nat.div_div_eq_div_mul]
    omega
  have h2 : y / 2 ^ t = 2 * (y / 2 ^ (t + 1)) + 1 := by
    have a : y / 2 ^ t % 2 = 1 := by
      have := hy
      rw [Nat.testBit_eq_decide_div_mod_eq] at this
      exact of_decide_eq_true this
    have b : y / 2 ^ (t + 1) = y / 2 ^ t / 2 := by rw [Nat.pow_succ, Nat.div_div_eq_div_mul]
    omega
  have h3 : x / 2 ^ t < y / 2 ^ t := by omega
  exact (Nat.lt_of_not_le fun hle => by have := Nat.div_le_div_right (c := 2 ^ t) hle; omega)

/-- A timer whose level is not left behind stays where it is, and is above the clock. -/
theorem plc_far {now nw a : Nat} (hnow : now < 18446744073709551616) (hnw : nw < 18446744073709551616) (ha : a < 18446744073709551616) (hlt : now < a) (hD : ¬ plc now a < 16 * ((Lib.bitLen (nw ^^^ now) + 3) / 4)) : nw < a ∧ plc nw a = plc now a := by
  have hx : a ^^^ now < 18446744073709551616 := Nat.xor_lt_two_pow (n := 64) (by omega) (by omega)
  have hy : nw ^^^ now < 18446744073709551616 := Nat.xor_lt_two_pow (n := 64) (by omega) (by omega)
  have hx0 : a ^^^ now ≠ 0 := fun e => by
    have : a = now := by
      apply Nat.eq_of_testBit_eq
      intro i
      have := congrArg (fun z => z.testBit i) e
      simp only [Nat.testBit_xor, Nat.zero_testBit] at this
      simpa using this
    omega
  have hlv : (Lib.bitLen (nw ^^^ now) + 3) / 4 ≤ lvl now a := by
    unfold plc at hD
    split at hD
    · rename_i h4; omega
    · rename_i h4
      have : a / 2 ^ (4 * lvl now a) % 16 < 16 := Nat.mod_lt _ (by omega)
      omega
  obtain ⟨b1, b2, b3⟩ := bl_bounds hx hx0
  have by_ := bl_lt hy
  have hst : Lib.bitLen (nw ^^^ now) ≤ Lib.bitLen (a ^^^ now) - 1 := by unfold lvl at hlv; omega
  have hylt : nw ^^^ now < 2 ^ (Lib.bitLen (a ^^^ now) - 1) := Nat.lt_of_lt_of_le by_ (Nat.pow_le_pow_right (by omega) hst)
  obtain ⟨t, ht⟩ : ∃ t, Lib.bitLen (a ^^^ now) = t + 1 := ⟨_, (Nat.sub_add_cancel b1).symm⟩
  rw [ht, Nat.add_sub_cancel] at b2 hylt
  rw [ht] at b3
  have e : a ^^^ nw = (a ^^^ now) ^^^ (nw ^^^ now) := by
    apply Nat.eq_of_testBit_eq
    intro i
    simp only [Nat.testBit_xor]
    cases a.testBit i <;> cases nw.testBit i <;> cases now.testBit i <;> rfl
  have xt := bit_top b2 b3
  have ytz : ∀ j, t ≤ j → (nw ^^^ now).testBit j = false := fun j hj => Nat.testBit_lt_two_pow (Nat.lt_of_lt_of_le hylt (Nat.pow_le_pow_right (by omega) hj))
  have xz : ∀ j, t < j → (a ^^^ now).testBit j = false := fun j hj => Nat.testBit_lt_two_pow (Nat.lt_of_lt_of_le b3 (Nat.pow_le_pow_right (by omega) hj))
  have hbl : Lib.bitLen (a ^^^ nw) = t + 1 := by
    refine bl_eq ?_ ?_ ?_
    · exact Nat.xor_lt_two_pow (n := 64) (by omega) (by omega)
    · refine Nat.ge_two_pow_of_testBit ?_
      rw [e, Nat.testBit_xor, xt, ytz t (Nat.le_refl _)]; rfl
    · rw [e]
      exact Nat.xor_lt_two_pow b3 (Nat.lt_of_lt_of_le hylt (Nat.pow_le_pow_right (by omega) (by omega)))
  have hl : lvl nw a = lvl now a := by unfold lvl; rw [hbl, ht]
  have up : ∀ j, t < j → a.testBit j = now.testBit j := fun j hj => by
    have := xz j hj
    rw [Nat.testBit_xor] at this
    simpa using this
  have upn : ∀ j, t ≤ j → nw.testBit j = now.testBit j := fun j hj => by
    have := ytz j hj
    rw [Nat.testBit_xor] at this
    simpa using this
  rw [Nat.testBit_xor] at xt
  have hat : a.testBit t = true := by
    cases hb : a.testBit t with
    | true => rfl
    | false =>
      rw [hb, Bool.false_xor] at xt
      have := lt_bit t hb xt up
      omega
  rw [hat, Bool.true_xor, Bool.not_eq_true'] at xt
  refine ⟨lt_bit t (by rw [upn t (Nat.le_refl _)]; exact xt) hat fun j hj => by rw [upn j (by omega), up j hj], ?_⟩
  unfold plc
  rw [hl]
end Go.Proofs.Ytpmpclieclcbdaa

/- The wheel's advance. -/
namespace Go.Proofs.Ytpmpclieclcbdaa
open Go Go.AE

variable {Z : Go.AE.Road}
set_option maxRecDepth 10000

theorem box22 {k : IntKind} {x : Int} : aBox E0 22 (.int k x) = some (.row [.int k x] 1 false, ptrTo) := by
  simp only [aBox, ti22, t22_size]; rfl
theorem alloc59 : aAlloc E0 59 = some (.row [.map none] 1 false, ptrTo) := by
  simp only [aAlloc, ti59, t59_zero, t59_size]; rfl
theorem store59 {A : ASt} {b m : Nat} {x : Value} (h : A.get b = some (.row [x] 1 false)) : aStore E0 59 (.pointer (some ⟨b, 0, none⟩)) (.map (some m)) A = some (A.set b (.row [.map (some m)] 1 false)) :=
  aStore_row h ti59 (by rw [t59_size]; rfl) rfl rfl
theorem storeNow {A : ASt} {W now nw all : Nat} {ms : List Nat} (h : A.get W = some (.row (wrow now all ms) 67 false)) : aStore E0 22 (.pointer (some ⟨W, 0, none⟩)) (.int .u64 (nw : Int)) A = some (A.set W (.row (wrow nw all ms) 67 false)) :=
  aStore_row h ti22 (by rw [t22_size]; rfl) rfl rfl

/-- The contract of Len64. -/
def R27 : Tgt → List Value → ASt → (Value → ASt → Prop) → Prop := fun t args A S => ∃ x : Nat, x < 18446744073709551616 ∧ t = .fn 27 ∧ args = [.int .u64 (x : Int)] ∧ S = fun v A' => v = .int .i64 ((Lib.bitLen x : Nat) : Int) ∧ A' = A
theorem R27_ok (t args A S) (h : R27 t args A S) : CallT Z Try.prog t args A S := by
  obtain ⟨x, hx, rfl, rfl, rfl⟩ := h
  exact len64 x hx A
theorem con27 {x : Nat} (hx : x < 18446744073709551616) {A : ASt} {K : Value → ASt → Prop} (h : K (.int .i64 ((Lib.bitLen x : Nat) : Int)) A) : conC R27 (.fn 27) [.int .u64 (x : Int)] A K := by
  refine ⟨⟨_, x, hx, rfl, rfl, rfl⟩, ?_⟩
  rintro S ⟨y, hy, _, ha, rfl⟩ v A' ⟨rfl, rfl⟩
  simp only [List.cons.injEq, Value.int.injEq, Int.natCast_inj, and_true, true_and] at ha
  subst ha
  exact h

/-- Timers in a row. -/
def tcells : List (ByteArray × Nat) → List Value
  | [] => []
  | t :: l => .string t.1 :: .int .u64 (t.2 : Nat) :: tcells l
/-- In order of deadlines, then names. -/
noncomputable def blt (x y : ByteArray) : Bool := bytesLt x.data.toList y.data.toList
def tlt (x y : ByteArray × Nat) : Prop := x.2 < y.2 ∨ (x.2 = y.2 ∧ blt x.1 y.1 = true)
/-- These are a set's timers, in order. -/
structure Lists (D : TM) (ts : List (ByteArray × Nat)) : Prop where
  mem : ∀ k a, (k, a) ∈ ts ↔ D k = some a
  ord : ts.Pairwise tlt
def SliceAt (A : ASt) (lo : Nat) (v : Value) (ts : List (ByteArray × Nat)) : Prop :=
  (ts = [] ∧ v = .slice none 0 0) ∨ ∃ b cap rest tl, v = .slice (some ⟨b, 0, none⟩) ts.length cap ∧ A.get b = some (.row (tcells ts ++ rest) 2 tl) ∧ lo ≤ b ∧ b < A.next ∧ cap = unk ∧ rest = [] ∧ tl = true
def Srt (D : TM) (A : ASt) (v : Value) (A' : ASt) : Prop := ∃ ts, Lists D ts ∧ SliceAt A' A.next v ts ∧ Fr [] A A'

/-- In the midst of an advance: the places that 'D' names are emptied. -/
structure Adv (A0 A : ASt) (W all now : Nat) (ms : List Nat) (M : TM) (nw p3 p5 p6 d lf : Nat) (D : Nat → Bool) : Prop where
  row : A.get W = some (.row (wrow now all ms) 67 false)
  allm : Holds A all M
  slot : ∀ i m, ms[i]? = some m → Holds A m (if D i then (fun _ => none) else M.at_ now i)
  due : Holds A d (fun k => (M k).filter fun a => D (plc now a) && decide (a ≤ nw))
  lft : Holds A lf (fun k => (M k).filter fun a => D (plc now a) && !decide (a ≤ nw))
  h3 : A.get p3 = some (.row [.int .u64 (nw : Int)] 1 false)
  h5 : A.get p5 = some (.row [.map (some d)] 1 false)
  h6 : A.get p6 = some (.row [.map (some lf)] 1 false)
  nodup : (W :: all :: d :: lf :: ms).Nodup
  below : ∀ b ∈ W :: all :: d :: lf :: p3 :: p5 :: p6 :: ms, b < A.next
  new : ∀ b ∈ [d, lf, p3, p5, p6], A0.next ≤ b
  fr : Fr (W :: all :: ms) A0 A

theorem over_at {M : TM} {now i : Nat} {D p : Nat → Bool} : TM.over (fun k => (M k).filter fun a => D (plc now a) && p a) (M.at_ now i) p = fun k => (M k).filter fun a => (D (plc now a) || decide (plc now a = i)) && p a := by
  funext k
  unfold TM.over TM.at_
  cases hk : M k with
  | none => simp [hk]
  | some a =>
    by_cases hp : plc now a = i
    · by_cases hpa : p a = true <;> simp [Option.filter, hk, hp, hpa]
    · simp [Option.filter, hk, hp]

theorem Adv.step {A0 A : ASt} {W all now : Nat} {ms : List Nat} {M : TM} {nw p3 p5 p6 d lf : Nat} {D : Nat → Bool} (h : Adv A0 A W all now ms M nw p3 p5 p6 d lf D) {i m : Nat} (hm : ms[i]? = some m) (hD : D i = false) :
    CallW Z Try.prog 28 [.map (some m), .pointer (some ⟨p3, 0, none⟩), .pointer (some ⟨p5, 0, none⟩), .pointer (some ⟨p6, 0, none⟩)] A (fun _ A' => Adv A0 A' W all now ms M nw p3 p5 p6 d lf (fun j => D j || decide (j = i))) := by
  have hmem := List.mem_of_getElem? hm
  have hn := h.nodup
  simp only [List.nodup_cons, List.mem_cons, not_or] at hn
  obtain ⟨⟨w1, w2, w3, w4⟩, ⟨a1, a2, a3⟩, ⟨d1, d2⟩, l1, hms⟩ := hn
  have nd : m ≠ d := fun e => d2 (e ▸ hmem)
  have nl : m ≠ lf := fun e => l1 (e ▸ hmem)
  have hsl := h.slot i m hm
  simp only [hD, Bool.false_eq_true, if_false] at hsl
  refine (empty_spec h.h3 h.h5 h.h6 hsl h.due h.lft nd nl d1 (fun b hb => h.below b (by simp at hb ⊢; rcases hb with rfl | rfl | rfl | rfl | rfl | rfl <;> simp [hmem]))).mono ?_
  rintro _ A' ⟨g1, g2, g3, f⟩
  have keep : ∀ b, b < A.next → b ≠ m → b ≠ d → b ≠ lf → A'.get b = A.get b := fun b hb e1 e2 e3 => f.get b hb (by simp [e1, e2, e3])
  have bel : ∀ b ∈ W :: all :: d :: lf :: p3 :: p5 :: p6 :: ms, b < A'.next := fun b hb => Nat.lt_of_lt_of_le (h.below b hb) f.next
  have ne : ∀ {p : Nat} {c : List Value} {sz : Nat} {tl : Bool}, A.get p = some (.row c sz tl) → ∀ {q : Nat} {T : TM}, Holds A q T → p ≠ q := by
    rintro p c sz tl hp q T ⟨_, _, hq, _⟩ rfl
    rw [hp] at hq
    cases hq
  have krow : ∀ {p : Nat} {c : List Value} {sz : Nat} {tl : Bool}, p < A.next → A.get p = some (.row c sz tl) → A'.get p = some (.row c sz tl) := fun hp hr => by
    rw [keep _ hp (ne hr hsl) (ne hr h.due) (ne hr h.lft)]; exact hr
  refine ⟨krow (h.below W (by simp)) h.row, h.allm.congr (keep all (h.below all (by simp)) (fun e => a3 (e ▸ hmem)) a1 a2), fun j m' hj => ?_, g2.ext fun k => ?_, g3.ext fun k => ?_, krow (h.below p3 (by simp)) h.h3, krow (h.below p5 (by simp)) h.h5, krow (h.below p6 (by simp)) h.h6, h.nodup, bel, h.new, ?_⟩
  · have hj' := List.mem_of_getElem? hj
    by_cases e : j = i
    · subst e
      rw [hm] at hj; cases hj
      simp only [decide_true, Bool.or_true, if_true]
      exact g1
    · have em : m' ≠ m := fun em => e (by
        subst em
        obtain ⟨x1, x2⟩ := List.getElem?_eq_some_iff.1 hj
        obtain ⟨y1, y2⟩ := List.getElem?_eq_some_iff.1 hm
        rcases Nat.lt_trichotomy j i with hlt | he | hlt
        · exact absurd (x2.trans y2.symm) (List.pairwise_iff_getElem.1 hms j i x1 y1 hlt)
        · exact he
        · exact absurd (y2.trans x2.symm) (List.pairwise_iff_getElem.1 hms i j y1 x1 hlt))
      simp only [e, decide_false, Bool.or_false]
      exact (h.slot j m' hj).congr (keep m' (h.below m' (by simp [hj'])) em (fun e => d2 (e ▸ hj')) (fun e => l1 (e ▸ hj')))
  · rw [over_at]
  · rw [over_at (p := fun a => !decide (a ≤ nw))]
  · refine ⟨Nat.le_trans h.fr.next f.next, fun b hb hno => ?_⟩
    rw [f.get b (Nat.lt_of_lt_of_le hb h.fr.next) ?_, h.fr.get b hb hno]
    have n1 := h.new d (by simp)
    have n2 := h.new lf (by simp)
    simp only [List.mem_cons, List.not_mem_nil, or_false, not_or]
    exact ⟨fun e => hno (by simp [e, hmem]), by omega, by omega⟩

theorem CodeW.label' {n : Nat} {ro : Option Nat} {l : Nat} {T : Tmps} {A : ASt} {Q : Out → Prop} (h : Q (.fr ⟨.normal, T, A⟩)) : CodeW Z Try.prog n ro (.label l) T A Q :=
  fun ρ w a N rr hR hro ht hn hd => wpIn_label ⟨.normal, T, A, h, trivial, ρ, ht, .refl (Z.rep hR), hn, hd⟩

structure AdvT (T : Tmps) (W p3 p5 p6 ps : Nat) : Prop where
  t0 : tget T 0 = .pointer (some ⟨W, 0, none⟩)
  t3 : tget T 3 = .pointer (some ⟨p3, 0, none⟩)
  t5 : tget T 5 = .pointer (some ⟨p5, 0, none⟩)
  t6 : tget T 6 = .pointer (some ⟨p6, 0, none⟩)
  t7 : tget T 7 = .int .i64 (ps : Int)
  t8 : tget T 8 = .func (.func 28) #[] #[.pointer (some ⟨p3, 0, none⟩), .pointer (some ⟨p5, 0, none⟩), .pointer (some ⟨p6, 0, none⟩)]
theorem AdvT.congr {T T' : Tmps} {W p3 p5 p6 ps : Nat} (h : AdvT T W p3 p5 p6 ps) (e : ∀ t ∈ [0, 3, 5, 6, 7, 8], tget T' t = tget T t) : AdvT T' W p3 p5 p6 ps :=
  ⟨(e 0 (by simp)).trans h.t0, (e 3 (by simp)).trans h.t3, (e 5 (by simp)).trans h.t5, (e 6 (by simp)).trans h.t6, (e 7 (by simp)).trans h.t7, (e 8 (by simp)).trans h.t8⟩
theorem Adv.congrD {A0 A : ASt} {W all now : Nat} {ms : List Nat} {M : TM} {nw p3 p5 p6 d lf : Nat} {D D' : Nat → Bool} (h : Adv A0 A W all now ms M nw p3 p5 p6 d lf D) (e : ∀ i, i < 65 → D i = D' i) (hl : ms.length = 65) : Adv A0 A W all now ms M nw p3 p5 p6 d lf D' := by
  have e1 : ∀ a, D (plc now a) = D' (plc now a) := fun a => e _ plc_lt
  refine ⟨h.row, h.allm, fun i m hm => ?_, ?_, ?_, h.h3, h.h5, h.h6, h.nodup, h.below, h.new, h.fr⟩
  · have := (List.getElem?_eq_some_iff.1 hm).1
    rw [← e i (by omega)]
    exact h.slot i m hm
  · have := h.due
    simpa only [e1] using this
  · have := h.lft
    simpa only [e1] using this
theorem Adv.congrA {A0 A A' : ASt} {W all now : Nat} {ms : List Nat} {M : TM} {nw p3 p5 p6 d lf : Nat} {D : Nat → Bool} (h : Adv A0 A W all now ms M nw p3 p5 p6 d lf D) (e : ∀ b, A'.get b = A.get b) (hn : A.next ≤ A'.next) : Adv A0 A' W all now ms M nw p3 p5 p6 d lf D :=
  ⟨(e W).trans h.row, h.allm.congr (e all), fun i m hm => (h.slot i m hm).congr (e m), h.due.congr (e d), h.lft.congr (e lf), (e p3).trans h.h3, (e p5).trans h.h5, (e p6).trans h.h6, h.nodup, fun b hb => Nat.lt_of_lt_of_le (h.below b hb) hn, h.new, ⟨Nat.le_trans h.fr.next hn, fun b hb hno => (e b).trans (h.fr.get b hb hno)⟩⟩
noncomputable def dels (M : TM) (done : List UE) : TM := fun k => if (uget done k).isSome then none else M k
theorem dels_snoc {M : TM} {done : List UE} {x : UE} : dels M (done ++ [x]) = (dels M done).del x.1 := by
  funext k
  unfold dels TM.del
  rw [uget_snoc]
  by_cases e : k = x.1
  · simp [e]
  · simp [e]
theorem Holds.delete {A : ASt} {m : Nat} {M : TM} (h : Holds A m M) (k : ByteArray) : ∃ A', aDelete E0 59 (.map (some m)) (.string k) A = .val undef A' ∧ Holds A' m (M.del k) ∧ Fr [m] A A' := by
  obtain ⟨l, ck, hl, hok, hg⟩ := h
  have := deleteT hl k
  by_cases hs : (uget l k).isSome = true
  · rw [if_pos hs] at this
    refine ⟨_, this, ⟨_, _, by rw [ASt.get_set, if_pos rfl], udel_ok hok, fun j => ?_⟩, Nat.le_refl _, fun b _ hn => by rw [ASt.get_set, if_neg (by simpa using hn)]⟩
    rw [uget_udel hok.keys, hg]; rfl
  · rw [if_neg hs] at this
    refine ⟨_, this, ⟨l, ck, hl, hok, fun j => ?_⟩, .refl _ _⟩
    have hn : M k = none := by rw [← hg]; simpa using hs
    rw [hg]
    unfold TM.del
    by_cases e : j = k <;> simp [e, hn]
theorem Holds.update {A : ASt} {m : Nat} {M : TM} (h : Holds A m M) (k : ByteArray) (a : Nat) : ∃ A', aMapUpdate E0 59 (.map (some m)) (.string k) (.int .u64 (a : Int)) A = some A' ∧ Holds A' m (M.put k a) ∧ Fr [m] A A' := by
  obtain ⟨l, ck, hl, hok, hg⟩ := h
  refine ⟨_, updateT hl k a, ⟨_, _, by rw [ASt.get_set, if_pos rfl], uput_ok hok, fun j => ?_⟩, Nat.le_refl _, fun b _ hn => by rw [ASt.get_set, if_neg (by simpa using hn)]⟩
  rw [uget_uput, hg]; rfl
theorem Holds.block {A : ASt} {m : Nat} {M : TM} (h : Holds A m M) {c : List Value} {sz : Nat} {tl : Bool} {p : Nat} (hp : A.get p = some (.row c sz tl)) : p ≠ m := by
  rintro rfl
  obtain ⟨l, ck, hl, _⟩ := h
  rw [hp] at hl
  cases hl

theorem wrap_succ {n : Nat} (h : n < 1000000) : IntKind.i64.wrap ((n : Int) + 1) = ((n + 1 : Nat) : Int) := by rw [IntKind.wrap_i64]; omega

theorem pas_int {b : Nat} (h : b ≤ 64) : IntKind.i64.wrap ((IntKind.i64.wrap (IntKind.i64.wrap ((b : Int) + 4) - 1)).tdiv 4) = (((b + 3) / 4 : Nat) : Int) := by
  have : ∀ b : Fin 65, IntKind.i64.wrap ((IntKind.i64.wrap (IntKind.i64.wrap (((b.1 : Nat) : Int) + 4) - 1)).tdiv 4) = (((b.1 + 3) / 4 : Nat) : Int) := by decide +kernel
  exact this ⟨b, by omega⟩

theorem adv_walk {A : ASt} {W all now nw : Nat} {ms : List Nat} {M : TM} (h : WheelAt A W all ms now M) (hnw : nw < 18446744073709551616)
    (hs : ∀ {A : ASt} {d : Nat} {D : TM}, Holds A d D → (∀ k a, D k = some a → M k = some a) → d < A.next → CallW Z Try.prog 29 [.map (some d)] A (Srt D A)) :
    CallW Z Try.prog 13 [.pointer (some ⟨W, 0, none⟩), .int .u64 (nw : Int)] A (fun v A' => if nw < now then v = .slice none 0 0 ∧ WheelAt A' W all ms now M ∧ Fr (W :: all :: ms) A A' else ∃ ts, Lists (fun k => (M k).filter fun a => decide (a ≤ nw)) ts ∧ SliceAt A' A.next v ts ∧ WheelAt A' W all ms nw (fun k => (M k).filter fun a => decide (nw < a)) ∧ Fr (W :: all :: ms) A A') := by
  refine CallW.of_code E0_ok E0_ro fn13 rfl (n := 95) rfl (rs := [.tmp 4]) rfl (by simp) (codeW_ok E0_ok E0_ro ?_)
  have hW := h.row
  simp only [oneW_next, s_0, s_1, s_2, s_3, s_4, Hands, handsV, resultsV, oneOrTuple, argsT, ev, evs, evPairs, evOpt, closed, flat, nth, aCall, aEnter, notYield, aNilCheck, aLoad, partV, isAggD, aFieldAddr, aField, aExtract, Option.isNone, aBuiltin, cond_true, cond_false, cond_dec, if_true, if_false, List.length_cons, List.length_nil, forall_const, implies_true, List.append_nil, List.cons_append, List.nil_append, eq_self, Nat.reduceEqDiff, Nat.reduceAdd, Nat.reduceMul, Nat.reduceSub, Nat.reduceLT, Nat.reduceLeDiff, Nat.reduceBEq, reduceIte, reduceCtorEq, ti63, t63_desc, t63_size, ti25, t25_desc, ti22, t22_desc, t22_size, ti59, t59_desc, t59_size, ti60, t60_desc, t60_size, ti61, t61_desc, t61_size, ti3, t3_desc, t3_size, ti40, t40_desc, t40_size, ti33, t33_desc, t33_size, ti9, t9_desc, t9_size, wrow_now, wrow_all, eqnil25, fn17, fn26, fn27, fn28, fn29, fn38, fn39, fn12, fn14, fn15, box22, ptrTo]
  refine CodeW.quiet E0_ok E0_ro mixed (by kernel_rfl) (by kernel_rfl) ?_
  have hWb := h.below W (by simp)
  have hne : W ≠ A.next := by omega
  have hx : nw ^^^ now < 18446744073709551616 := Nat.xor_lt_two_pow (n := 64) (by omega) (by have := h.nowlt; omega)
  simp only [oneW_next, s_0, s_1, s_2, s_3, s_4, Hands, handsV, resultsV, oneOrTuple, argsT, ev, evs, evPairs, evOpt, closed, flat, nth, aCall, aEnter, notYield, aNilCheck, aLoad, partV, isAggD, aFieldAddr, aField, aExtract, Option.isNone, aBuiltin, cond_true, cond_false, cond_dec, if_true, if_false, List.length_cons, List.length_nil, forall_const, implies_true, List.append_nil, List.cons_append, List.nil_append, eq_self, Nat.reduceEqDiff, Nat.reduceAdd, Nat.reduceMul, Nat.reduceSub, Nat.reduceLT, Nat.reduceLeDiff, Nat.reduceBEq, reduceIte, reduceCtorEq, ti63, t63_desc, t63_size, ti25, t25_desc, ti22, t22_desc, t22_size, ti59, t59_desc, t59_size, ti60, t60_desc, t60_size, ti61, t61_desc, t61_size, ti3, t3_desc, t3_size, ti40, t40_desc, t40_size, ti33, t33_desc, t33_size, ti9, t9_desc, t9_size, wrow_now, wrow_all, eqnil25, fn17, fn26, fn27, fn28, fn29, fn38, fn39, fn12, fn14, fn15, quietW_nil, quietW_arr, quietW_cons, aStill, freshOp, quietOp, E0_ron, get_empty, get_next, ofVal_none, valEq_int, valEq_str, valEq_bool, valEq_map, valEq_ptr, valEq_slice, valEq_nilSlice, valEq_mapNil, List.length_cons, List.length_nil, if_neg hne, hW]
  refine brW_dec (fun hlt => ?_) (fun hlt => ?_)
  · have hlt' : nw < now := by omega
    simp only [oneW_next, s_0, s_1, s_2, s_3, s_4, Hands, handsV, resultsV, oneOrTuple, argsT, ev, evs, evPairs, evOpt, closed, flat, nth, aCall, aEnter, notYield, aNilCheck, aLoad, partV, isAggD, aFieldAddr, aField, aExtract, Option.isNone, aBuiltin, cond_true, cond_false, cond_dec, if_true, if_false, List.length_cons, List.length_nil, forall_const, implies_true, List.append_nil, List.cons_append, List.nil_append, eq_self, Nat.reduceEqDiff, Nat.reduceAdd, Nat.reduceMul, Nat.reduceSub, Nat.reduceLT, Nat.reduceLeDiff, Nat.reduceBEq, reduceIte, reduceCtorEq, ti63, t63_desc, t63_size, ti25, t25_desc, ti22, t22_desc, t22_size, ti59, t59_desc, t59_size, ti60, t60_desc, t60_size, ti61, t61_desc, t61_size, ti3, t3_desc, t3_size, ti40, t40_desc, t40_size, ti33, t33_desc, t33_size, ti9, t9_desc, t9_size, wrow_now, wrow_all, eqnil25, fn17, fn26, fn27, fn28, fn29, fn38, fn39, fn12, fn14, fn15, hlt']
    refine ⟨h.congr ?_ fun b hb => ?_, ?_, fun b hb hn => ?_⟩
    · simp only [ASt.next_new]; omega
    · have := h.below b hb
      simp only [get_next, ASt.get_new]; rw [if_neg (by omega)]
    · simp only [ASt.next_new]; omega
    · simp only [get_next, ASt.get_new]; rw [if_neg (by omega)]
  · have hge : ¬ nw < now := by omega
    generalize hBd : ASt.mk (ASt.heap (A.new _)) _ = B
    have hBg : ∀ b, B.get b = if b = A.next then some (.row [.int .u64 (nw : Int)] 1 false) else A.get b := fun b => by rw [← hBd, get_next, ASt.get_new]
    have hBn : A.next < B.next := by rw [← hBd]; show A.next < A.next + 1 + _; omega
    clear hBd
    simp only [oneW_next, s_0, s_1, s_2, s_3, s_4, Hands, handsV, resultsV, oneOrTuple, argsT, ev, evs, evPairs, evOpt, closed, flat, nth, aCall, aEnter, notYield, aNilCheck, aLoad, partV, isAggD, aFieldAddr, aField, aExtract, Option.isNone, aBuiltin, cond_true, cond_false, cond_dec, if_true, if_false, List.length_cons, List.length_nil, forall_const, implies_true, List.append_nil, List.cons_append, List.nil_append, eq_self, Nat.reduceEqDiff, Nat.reduceAdd, Nat.reduceMul, Nat.reduceSub, Nat.reduceLT, Nat.reduceLeDiff, Nat.reduceBEq, reduceIte, reduceCtorEq, ti63, t63_desc, t63_size, ti25, t25_desc, ti22, t22_desc, t22_size, ti59, t59_desc, t59_size, ti60, t60_desc, t60_size, ti61, t61_desc, t61_size, ti3, t3_desc, t3_size, ti40, t40_desc, t40_size, ti33, t33_desc, t33_size, ti9, t9_desc, t9_size, wrow_now, wrow_all, eqnil25, fn17, fn26, fn27, fn28, fn29, fn38, fn39, fn12, fn14, fn15, alloc59, ptrTo]
    rw [store59 (x := .map none) (by rw [ASt.get_new, if_pos (by rw [ASt.next_new])])]
    simp only [oneW_next, s_0, s_1, s_2, s_3, s_4, Hands, handsV, resultsV, oneOrTuple, argsT, ev, evs, evPairs, evOpt, closed, flat, nth, aCall, aEnter, notYield, aNilCheck, aLoad, partV, isAggD, aFieldAddr, aField, aExtract, Option.isNone, aBuiltin, cond_true, cond_false, cond_dec, if_true, if_false, List.length_cons, List.length_nil, forall_const, implies_true, List.append_nil, List.cons_append, List.nil_append, eq_self, Nat.reduceEqDiff, Nat.reduceAdd, Nat.reduceMul, Nat.reduceSub, Nat.reduceLT, Nat.reduceLeDiff, Nat.reduceBEq, reduceIte, reduceCtorEq, ti63, t63_desc, t63_size, ti25, t25_desc, ti22, t22_desc, t22_size, ti59, t59_desc, t59_size, ti60, t60_desc, t60_size, ti61, t61_desc, t61_size, ti3, t3_desc, t3_size, ti40, t40_desc, t40_size, ti33, t33_desc, t33_size, ti9, t9_desc, t9_size, wrow_now, wrow_all, eqnil25, fn17, fn26, fn27, fn28, fn29, fn38, fn39, fn12, fn14, fn15, alloc59, ptrTo]
    rw [store59 (x := .map none) (by rw [ASt.get_new, if_pos (by rw [ASt.next_new, ASt.next_set, ASt.next_new, ASt.next_new])])]
    simp only [oneW_next, s_0, s_1, s_2, s_3, s_4, Hands, handsV, resultsV, oneOrTuple, argsT, ev, evs, evPairs, evOpt, closed, flat, nth, aCall, aEnter, notYield, aNilCheck, aLoad, partV, isAggD, aFieldAddr, aField, aExtract, Option.isNone, aBuiltin, cond_true, cond_false, cond_dec, if_true, if_false, List.length_cons, List.length_nil, forall_const, implies_true, List.append_nil, List.cons_append, List.nil_append, eq_self, Nat.reduceEqDiff, Nat.reduceAdd, Nat.reduceMul, Nat.reduceSub, Nat.reduceLT, Nat.reduceLeDiff, Nat.reduceBEq, reduceIte, reduceCtorEq, ti63, t63_desc, t63_size, ti25, t25_desc, ti22, t22_desc, t22_size, ti59, t59_desc, t59_size, ti60, t60_desc, t60_size, ti61, t61_desc, t61_size, ti3, t3_desc, t3_size, ti40, t40_desc, t40_size, ti33, t33_desc, t33_size, ti9, t9_desc, t9_size, wrow_now, wrow_all, eqnil25, fn17, fn26, fn27, fn28, fn29, fn38, fn39, fn12, fn14, fn15, alloc59, ptrTo]
    generalize hCd : ASt.set _ (B.next + 1 + 1 + 1) _ = C
    have hCg : ∀ b, C.get b = if b = B.next + 1 + 1 + 1 then some (.row [.map (some (B.next + 1 + 1))] 1 false) else if b = B.next + 1 + 1 then some (.map [] 0) else if b = B.next + 1 then some (.row [.map (some B.next)] 1 false) else if b = B.next then some (.map [] 0) else B.get b := fun b => by
      rw [← hCd]
      simp only [ASt.get_set, ASt.get_new, ASt.next_new, ASt.next_set]
      by_cases e1 : b = B.next + 1 + 1 + 1
      · simp [e1]
      · by_cases e2 : b = B.next + 1 + 1
        · simp [e2]
        · by_cases e3 : b = B.next + 1
          · simp [e3]
          · simp [e1, e2, e3]
    have hCn : C.next = B.next + 4 := by rw [← hCd]; simp only [ASt.next_set, ASt.next_new]
    clear hCd
    refine CodeW.seqd E0_ok E0_ro mixed R27_ok [0, 1, 2, 3, 4, 5, 6, 7, 8, 9, 10] [] (by simp only [reorder, reoGo, strip, List.map_cons, List.map_nil, opAt, remap, nth, Option.map, σ, place', nbeq, List.length_cons, List.length_nil, Nat.reduceAdd, Nat.reduceLT, Nat.reduceEqDiff, if_true, if_false, reduceIte]; rfl) (by decide +kernel) (by kernel_rfl) (by kernel_rfl) (by kernel_rfl) ?_
    have c3 : C.get A.next = some (.row [.int .u64 (nw : Int)] 1 false) := by
      rw [hCg, if_neg (by omega), if_neg (by omega), if_neg (by omega), if_neg (by omega), hBg, if_pos rfl]
    have cW : C.get W = some (.row (wrow now all ms) 67 false) := by
      rw [hCg, if_neg (by omega), if_neg (by omega), if_neg (by omega), if_neg (by omega), hBg, if_neg (by omega)]; exact hW
    simp only [oneW_next, s_0, s_1, s_2, s_3, s_4, Hands, handsV, resultsV, oneOrTuple, argsT, ev, evs, evPairs, evOpt, closed, flat, nth, aCall, aEnter, notYield, aNilCheck, aLoad, partV, isAggD, aFieldAddr, aField, aExtract, Option.isNone, aBuiltin, cond_true, cond_false, cond_dec, if_true, if_false, List.length_cons, List.length_nil, forall_const, implies_true, List.append_nil, List.cons_append, List.nil_append, eq_self, Nat.reduceEqDiff, Nat.reduceAdd, Nat.reduceMul, Nat.reduceSub, Nat.reduceLT, Nat.reduceLeDiff, Nat.reduceBEq, reduceIte, reduceCtorEq, ti63, t63_desc, t63_size, ti25, t25_desc, ti22, t22_desc, t22_size, ti59, t59_desc, t59_size, ti60, t60_desc, t60_size, ti61, t61_desc, t61_size, ti3, t3_desc, t3_size, ti40, t40_desc, t40_size, ti33, t33_desc, t33_size, ti9, t9_desc, t9_size, wrow_now, wrow_all, eqnil25, fn17, fn26, fn27, fn28, fn29, fn38, fn39, fn12, fn14, fn15, q_0, q_1, q_2, f_0, pendW, hasN, reorder, E0_ron, exists_eq', List.length_cons, List.length_nil, c3, cW, b_xor64 hnw h.nowlt]
    refine con27 hx ?_
    have hb : Lib.bitLen (nw ^^^ now) ≤ 64 := Lib.bitLen_le _ _ (by omega) hx
    simp only [oneW_next, s_0, s_1, s_2, s_3, s_4, Hands, handsV, resultsV, oneOrTuple, argsT, ev, evs, evPairs, evOpt, closed, flat, nth, aCall, aEnter, notYield, aNilCheck, aLoad, partV, isAggD, aFieldAddr, aField, aExtract, Option.isNone, aBuiltin, cond_true, cond_false, cond_dec, if_true, if_false, List.length_cons, List.length_nil, forall_const, implies_true, List.append_nil, List.cons_append, List.nil_append, eq_self, Nat.reduceEqDiff, Nat.reduceAdd, Nat.reduceMul, Nat.reduceSub, Nat.reduceLT, Nat.reduceLeDiff, Nat.reduceBEq, reduceIte, reduceCtorEq, ti63, t63_desc, t63_size, ti25, t25_desc, ti22, t22_desc, t22_size, ti59, t59_desc, t59_size, ti60, t60_desc, t60_size, ti61, t61_desc, t61_size, ti3, t3_desc, t3_size, ti40, t40_desc, t40_size, ti33, t33_desc, t33_size, ti9, t9_desc, t9_size, wrow_now, wrow_all, eqnil25, fn17, fn26, fn27, fn28, fn29, fn38, fn39, fn12, fn14, fn15, q_0, q_1, q_2, f_0, pendW, hasN, reorder, E0_ron, exists_eq', List.length_cons, List.length_nil, b_quo (show (4 : Int) ≠ 0 by decide)]
    have hpas : IntKind.i64.wrap ((IntKind.i64.wrap (IntKind.i64.wrap (((Lib.bitLen (nw ^^^ now) : Nat) : Int) + 4) - 1)).tdiv 4) = (((Lib.bitLen (nw ^^^ now) + 3) / 4 : Nat) : Int) := pas_int hb
    simp only [hpas]
    have hp : (Lib.bitLen (nw ^^^ now) + 3) / 4 ≤ 16 := by omega
    generalize hpd : (Lib.bitLen (nw ^^^ now) + 3) / 4 = ps at hp
    refine CodeW.label' ?_
    simp only [oneW_next, s_0, s_1, s_2, s_3, s_4, Hands, handsV, resultsV, oneOrTuple, argsT, ev, evs, evPairs, evOpt, closed, flat, nth, aCall, aEnter, notYield, aNilCheck, aLoad, partV, isAggD, aFieldAddr, aField, aExtract, Option.isNone, aBuiltin, cond_true, cond_false, cond_dec, if_true, if_false, List.length_cons, List.length_nil, forall_const, implies_true, List.append_nil, List.cons_append, List.nil_append, eq_self, Nat.reduceEqDiff, Nat.reduceAdd, Nat.reduceMul, Nat.reduceSub, Nat.reduceLT, Nat.reduceLeDiff, Nat.reduceBEq, reduceIte, reduceCtorEq, ti63, t63_desc, t63_size, ti25, t25_desc, ti22, t22_desc, t22_size, ti59, t59_desc, t59_size, ti60, t60_desc, t60_size, ti61, t61_desc, t61_size, ti3, t3_desc, t3_size, ti40, t40_desc, t40_size, ti33, t33_desc, t33_size, ti9, t9_desc, t9_size, wrow_now, wrow_all, eqnil25, fn17, fn26, fn27, fn28, fn29, fn38, fn39, fn12, fn14, fn15]
    have hadv0 : Adv A C W all now ms M nw A.next (B.next + 1) (B.next + 1 + 1 + 1) B.next (B.next + 1 + 1) (fun i => decide (i < 16 * 0)) := by
      have keep : ∀ b, b < A.next → C.get b = A.get b := fun b hb => by
        rw [hCg, if_neg (by omega), if_neg (by omega), if_neg (by omega), if_neg (by omega), hBg, if_neg (by omega)]
      have hbl := h.below
      refine ⟨cW, h.allm.congr (keep _ (hbl all (by simp))), fun i m hm => ?_, ?_, ?_, c3, ?_, ?_, ?_, ?_, ?_, ?_⟩
      · simp only [Nat.mul_zero, Nat.not_lt_zero, decide_false, Bool.false_eq_true, if_false]
        exact (h.slot i m hm).congr (keep _ (hbl m (by simp [List.mem_of_getElem? hm])))
      · refine ⟨[], 0, by rw [hCg, if_neg (by omega), if_neg (by omega), if_neg (by omega), if_pos rfl]; rfl, ⟨.nil, .nil, by simp⟩, fun k => ?_⟩
        cases hk : M k <;> simp [uget, Option.filter, hk]
      · refine ⟨[], 0, by rw [hCg, if_neg (by omega), if_pos rfl]; rfl, ⟨.nil, .nil, by simp⟩, fun k => ?_⟩
        cases hk : M k <;> simp [uget, Option.filter, hk]
      · rw [hCg, if_neg (by omega), if_neg (by omega), if_pos rfl]
      · rw [hCg, if_pos rfl]
      · have hn := h.nodup
        simp only [List.nodup_cons, List.mem_cons, not_or] at hn ⊢
        have b1 := hbl W (by simp)
        have b2 := hbl all (by simp)
        have b3 : ∀ m ∈ ms, m < A.next := fun m hm => hbl m (by simp [hm])
        refine ⟨⟨hn.1.1, by omega, by omega, hn.1.2⟩, ⟨by omega, by omega, hn.2.1⟩, ⟨by omega, fun hm => ?_⟩, fun hm => ?_, hn.2.2⟩
        · have := b3 _ hm; omega
        · have := b3 _ hm; omega
      · intro b hb
        simp only [List.mem_cons] at hb
        rw [hCn]
        rcases hb with rfl | rfl | rfl | rfl | rfl | rfl | rfl | hb
        · omega
        · have := hbl b (by simp); omega
        · omega
        · omega
        · omega
        · omega
        · omega
        · have := hbl b (by simp [hb]); omega
      · intro b hb
        simp only [List.mem_cons, List.not_mem_nil, or_false] at hb
        rcases hb with rfl | rfl | rfl | rfl | rfl <;> omega
      · exact ⟨by omega, fun b hb _ => keep b hb⟩
    generalize B.next + 1 + 1 + 1 = p6 at hadv0 ⊢
    generalize B.next + 1 + 1 = lf at hadv0 ⊢
    generalize B.next + 1 = p5 at hadv0 ⊢
    generalize B.next = d at hadv0 ⊢
    generalize A.next = p3 at hadv0 ⊢
    refine CodeW.mono (Q := fun o => ∃ T' A', o = .fr ⟨.exit 0, T', A'⟩ ∧ AdvT T' W p3 p5 p6 ps ∧ Adv A A' W all now ms M nw p3 p5 p6 d lf (fun i => decide (i < 16 * min 4 ps))) ?_ ?_
    · refine CodeW.loopR (k := 4) (fun k T A' => ∃ L, k = 4 - L ∧ L ≤ 4 ∧ L ≤ ps ∧ tget T 37 = .int .i64 (L : Int) ∧ AdvT T W p3 p5 p6 ps ∧ Adv A A' W all now ms M nw p3 p5 p6 d lf (fun i => decide (i < 16 * L))) ?_ ⟨0, rfl, by omega, by omega, ?_, ?_, ?_⟩
      · rintro k T1 A1 ⟨L, rfl, h4, hL, t37, ht, ha⟩
        refine codeW_ok E0_ok E0_ro ?_
        simp only [oneW_next, s_0, s_1, s_2, s_3, s_4, Hands, handsV, resultsV, oneOrTuple, argsT, ev, evs, evPairs, evOpt, closed, flat, nth, aCall, aEnter, notYield, aNilCheck, aLoad, partV, isAggD, aFieldAddr, aField, aExtract, Option.isNone, aBuiltin, cond_true, cond_false, cond_dec, if_true, if_false, List.length_cons, List.length_nil, forall_const, implies_true, List.append_nil, List.cons_append, List.nil_append, eq_self, Nat.reduceEqDiff, Nat.reduceAdd, Nat.reduceMul, Nat.reduceSub, Nat.reduceLT, Nat.reduceLeDiff, Nat.reduceBEq, reduceIte, reduceCtorEq, ti63, t63_desc, t63_size, ti25, t25_desc, ti22, t22_desc, t22_size, ti59, t59_desc, t59_size, ti60, t60_desc, t60_size, ti61, t61_desc, t61_size, ti3, t3_desc, t3_size, ti40, t40_desc, t40_size, ti33, t33_desc, t33_size, ti9, t9_desc, t9_size, wrow_now, wrow_all, eqnil25, fn17, fn26, fn27, fn28, fn29, fn38, fn39, fn12, fn14, fn15, t37]
        refine brW_dec (fun hl4 => ?_) (fun hl4 => ?_)
        · have hl4' : L < 4 := by omega
          simp only [oneW_next, s_0, s_1, s_2, s_3, s_4, Hands, handsV, resultsV, oneOrTuple, argsT, ev, evs, evPairs, evOpt, closed, flat, nth, aCall, aEnter, notYield, aNilCheck, aLoad, partV, isAggD, aFieldAddr, aField, aExtract, Option.isNone, aBuiltin, cond_true, cond_false, cond_dec, if_true, if_false, List.length_cons, List.length_nil, forall_const, implies_true, List.append_nil, List.cons_append, List.nil_append, eq_self, Nat.reduceEqDiff, Nat.reduceAdd, Nat.reduceMul, Nat.reduceSub, Nat.reduceLT, Nat.reduceLeDiff, Nat.reduceBEq, reduceIte, reduceCtorEq, ti63, t63_desc, t63_size, ti25, t25_desc, ti22, t22_desc, t22_size, ti59, t59_desc, t59_size, ti60, t60_desc, t60_size, ti61, t61_desc, t61_size, ti3, t3_desc, t3_size, ti40, t40_desc, t40_size, ti33, t33_desc, t33_size, ti9, t9_desc, t9_size, wrow_now, wrow_all, eqnil25, fn17, fn26, fn27, fn28, fn29, fn38, fn39, fn12, fn14, fn15, t37]
          refine CodeW.mono (Q := fun o => (∃ T' A', o = .fr ⟨.exit 2, T', A'⟩ ∧ L < ps ∧ tget T' 37 = .int .i64 (L : Int) ∧ AdvT T' W p3 p5 p6 ps ∧ Adv A A' W all now ms M nw p3 p5 p6 d lf (fun i => decide (i < 16 * L + 16))) ∨ (∃ T' A', o = .fr ⟨.exit 0, T', A'⟩ ∧ L = ps ∧ AdvT T' W p3 p5 p6 ps ∧ Adv A A' W all now ms M nw p3 p5 p6 d lf (fun i => decide (i < 16 * L)))) ?_ ?_
          · refine CodeW.loopR (k := 16) (fun k T A' => ∃ j, k = 16 - j ∧ j ≤ 16 ∧ (0 < j → L < ps) ∧ tget T 40 = .int .i64 (j : Int) ∧ tget T 9 = .int .i64 (L : Int) ∧ tget T 37 = .int .i64 (L : Int) ∧ AdvT T W p3 p5 p6 ps ∧ Adv A A' W all now ms M nw p3 p5 p6 d lf (fun i => decide (i < 16 * L + j))) ?_ ⟨0, rfl, by omega, by omega, ?_, ?_, ?_, ?_, ?_⟩
            · rintro k T2 A2 ⟨j, rfl, hj, hjl, u40, u9, u37, ut, ua⟩
              refine codeW_ok E0_ok E0_ro ?_
              simp only [oneW_next, s_0, s_1, s_2, s_3, s_4, Hands, handsV, resultsV, oneOrTuple, argsT, ev, evs, evPairs, evOpt, closed, flat, nth, aCall, aEnter, notYield, aNilCheck, aLoad, partV, isAggD, aFieldAddr, aField, aExtract, Option.isNone, aBuiltin, cond_true, cond_false, cond_dec, if_true, if_false, List.length_cons, List.length_nil, forall_const, implies_true, List.append_nil, List.cons_append, List.nil_append, eq_self, Nat.reduceEqDiff, Nat.reduceAdd, Nat.reduceMul, Nat.reduceSub, Nat.reduceLT, Nat.reduceLeDiff, Nat.reduceBEq, reduceIte, reduceCtorEq, ti63, t63_desc, t63_size, ti25, t25_desc, ti22, t22_desc, t22_size, ti59, t59_desc, t59_size, ti60, t60_desc, t60_size, ti61, t61_desc, t61_size, ti3, t3_desc, t3_size, ti40, t40_desc, t40_size, ti33, t33_desc, t33_size, ti9, t9_desc, t9_size, wrow_now, wrow_all, eqnil25, fn17, fn26, fn27, fn28, fn29, fn38, fn39, fn12, fn14, fn15, u40]
              refine brW_dec (fun hj6 => ?_) (fun hj6 => ?_)
              · have hj6' : j < 16 := by omega
                have t0 := ut.t0
                have t7 := ut.t7
                have t8 := ut.t8
                simp only [oneW_next, s_0, s_1, s_2, s_3, s_4, Hands, handsV, resultsV, oneOrTuple, argsT, ev, evs, evPairs, evOpt, closed, flat, nth, aCall, aEnter, notYield, aNilCheck, aLoad, partV, isAggD, aFieldAddr, aField, aExtract, Option.isNone, aBuiltin, cond_true, cond_false, cond_dec, if_true, if_false, List.length_cons, List.length_nil, forall_const, implies_true, List.append_nil, List.cons_append, List.nil_append, eq_self, Nat.reduceEqDiff, Nat.reduceAdd, Nat.reduceMul, Nat.reduceSub, Nat.reduceLT, Nat.reduceLeDiff, Nat.reduceBEq, reduceIte, reduceCtorEq, ti63, t63_desc, t63_size, ti25, t25_desc, ti22, t22_desc, t22_size, ti59, t59_desc, t59_size, ti60, t60_desc, t60_size, ti61, t61_desc, t61_size, ti3, t3_desc, t3_size, ti40, t40_desc, t40_size, ti33, t33_desc, t33_size, ti9, t9_desc, t9_size, wrow_now, wrow_all, eqnil25, fn17, fn26, fn27, fn28, fn29, fn38, fn39, fn12, fn14, fn15, u40, u9, u37, t7]
                refine brW_dec (fun hge => ?_) (fun hge => ?_)
                · have e0 : j = 0 := by omega
                  subst e0
                  simp only [oneW_next, s_0, s_1, s_2, s_3, s_4, Hands, handsV, resultsV, oneOrTuple, argsT, ev, evs, evPairs, evOpt, closed, flat, nth, aCall, aEnter, notYield, aNilCheck, aLoad, partV, isAggD, aFieldAddr, aField, aExtract, Option.isNone, aBuiltin, cond_true, cond_false, cond_dec, if_true, if_false, List.length_cons, List.length_nil, forall_const, implies_true, List.append_nil, List.cons_append, List.nil_append, eq_self, Nat.reduceEqDiff, Nat.reduceAdd, Nat.reduceMul, Nat.reduceSub, Nat.reduceLT, Nat.reduceLeDiff, Nat.reduceBEq, reduceIte, reduceCtorEq, ti63, t63_desc, t63_size, ti25, t25_desc, ti22, t22_desc, t22_size, ti59, t59_desc, t59_size, ti60, t60_desc, t60_size, ti61, t61_desc, t61_size, ti3, t3_desc, t3_size, ti40, t40_desc, t40_size, ti33, t33_desc, t33_size, ti9, t9_desc, t9_size, wrow_now, wrow_all, eqnil25, fn17, fn26, fn27, fn28, fn29, fn38, fn39, fn12, fn14, fn15]
                  exact .inr ⟨_, _, rfl, by omega, (ut.congr (by intro t ht'; simp only [List.mem_cons, List.not_mem_nil, or_false] at ht'; rcases ht' with rfl | rfl | rfl | rfl | rfl | rfl <;> simp only [tget_put, Nat.reduceEqDiff, if_false, reduceIte])), ua.congrD (fun i hi => by simp) h.len⟩
                · have hLp : L < ps := by omega
                  have uW := ua.row
                  have hix : 16 * L + j < ms.length := by rw [h.len]; omega
                  have hm : ms[16 * L + j]? = some ms[16 * L + j] := List.getElem?_eq_getElem _
                  have hsl : nth (wrow now all ms) (2 + L * 16 + j) = some (.map (some ms[16 * L + j])) := by
                    have := wrow_slot (now := now) (all := all) (ms := ms) (k := 16 * L + j) hix
                    rw [← this]; congr 1; omega
                  have ei1 : ∀ o, aIndexAddr E0 61 (.pointer (some ⟨W, o, none⟩)) (.int .i64 (L : Int)) = some (.pointer (some ⟨W, o + L * 16, none⟩)) := fun o => by
                    have := indexAddr_arr (A := A2) ti61 t61_desc ti60 (kd := .i64) (k := L) (b := W) (off := o) hl4'
                    rwa [t60_size] at this
                  have ei2 : ∀ o, aIndexAddr E0 60 (.pointer (some ⟨W, o, none⟩)) (.int .i64 (j : Int)) = some (.pointer (some ⟨W, o + j, none⟩)) := fun o => by
                    have := indexAddr_arr (A := A2) ti60 t60_desc ti59 (kd := .i64) (k := j) (b := W) (off := o) hj6'
                    rwa [t59_size, Nat.mul_one] at this
                  have t0 := ut.t0
                  have t8 := ut.t8
                  simp only [oneW_next, s_0, s_1, s_2, s_3, s_4, Hands, handsV, resultsV, oneOrTuple, argsT, ev, evs, evPairs, evOpt, closed, flat, nth, aCall, aEnter, notYield, aNilCheck, aLoad, partV, isAggD, aFieldAddr, aField, aExtract, Option.isNone, aBuiltin, cond_true, cond_false, cond_dec, if_true, if_false, List.length_cons, List.length_nil, forall_const, implies_true, List.append_nil, List.cons_append, List.nil_append, eq_self, Nat.reduceEqDiff, Nat.reduceAdd, Nat.reduceMul, Nat.reduceSub, Nat.reduceLT, Nat.reduceLeDiff, Nat.reduceBEq, reduceIte, reduceCtorEq, ti63, t63_desc, t63_size, ti25, t25_desc, ti22, t22_desc, t22_size, ti59, t59_desc, t59_size, ti60, t60_desc, t60_size, ti61, t61_desc, t61_size, ti3, t3_desc, t3_size, ti40, t40_desc, t40_size, ti33, t33_desc, t33_size, ti9, t9_desc, t9_size, wrow_now, wrow_all, eqnil25, fn17, fn26, fn27, fn28, fn29, fn38, fn39, fn12, fn14, fn15, u9, t0, t8, uW, ei1, ei2, hsl, aInvoke_func]
                  refine CallT.mono (ua.step hm (by simp)) ?_
                  rintro _ A3 ua3
                  simp only [oneW_next, s_0, s_1, s_2, s_3, s_4, Hands, handsV, resultsV, oneOrTuple, argsT, ev, evs, evPairs, evOpt, closed, flat, nth, aCall, aEnter, notYield, aNilCheck, aLoad, partV, isAggD, aFieldAddr, aField, aExtract, Option.isNone, aBuiltin, cond_true, cond_false, cond_dec, if_true, if_false, List.length_cons, List.length_nil, forall_const, implies_true, List.append_nil, List.cons_append, List.nil_append, eq_self, Nat.reduceEqDiff, Nat.reduceAdd, Nat.reduceMul, Nat.reduceSub, Nat.reduceLT, Nat.reduceLeDiff, Nat.reduceBEq, reduceIte, reduceCtorEq, ti63, t63_desc, t63_size, ti25, t25_desc, ti22, t22_desc, t22_size, ti59, t59_desc, t59_size, ti60, t60_desc, t60_size, ti61, t61_desc, t61_size, ti3, t3_desc, t3_size, ti40, t40_desc, t40_size, ti33, t33_desc, t33_size, ti9, t9_desc, t9_size, wrow_now, wrow_all, eqnil25, fn17, fn26, fn27, fn28, fn29, fn38, fn39, fn12, fn14, fn15, u40, wrap_succ (show j < 1000000 by omega)]
                  exact ⟨16 - (j + 1), by omega, j + 1, rfl, by omega, fun _ => hLp, rfl, u9, u37, (ut.congr (by intro t ht'; simp only [List.mem_cons, List.not_mem_nil, or_false] at ht'; rcases ht' with rfl | rfl | rfl | rfl | rfl | rfl <;> simp only [tget_put, Nat.reduceEqDiff, if_false, reduceIte])), ua3.congrD (fun i hi => by rw [Bool.eq_iff_iff]; simp only [Bool.or_eq_true, decide_eq_true_eq]; omega) h.len⟩
              · have e16 : j = 16 := by omega
                subst e16
                simp only [oneW_next, s_0, s_1, s_2, s_3, s_4, Hands, handsV, resultsV, oneOrTuple, argsT, ev, evs, evPairs, evOpt, closed, flat, nth, aCall, aEnter, notYield, aNilCheck, aLoad, partV, isAggD, aFieldAddr, aField, aExtract, Option.isNone, aBuiltin, cond_true, cond_false, cond_dec, if_true, if_false, List.length_cons, List.length_nil, forall_const, implies_true, List.append_nil, List.cons_append, List.nil_append, eq_self, Nat.reduceEqDiff, Nat.reduceAdd, Nat.reduceMul, Nat.reduceSub, Nat.reduceLT, Nat.reduceLeDiff, Nat.reduceBEq, reduceIte, reduceCtorEq, ti63, t63_desc, t63_size, ti25, t25_desc, ti22, t22_desc, t22_size, ti59, t59_desc, t59_size, ti60, t60_desc, t60_size, ti61, t61_desc, t61_size, ti3, t3_desc, t3_size, ti40, t40_desc, t40_size, ti33, t33_desc, t33_size, ti9, t9_desc, t9_size, wrow_now, wrow_all, eqnil25, fn17, fn26, fn27, fn28, fn29, fn38, fn39, fn12, fn14, fn15]
                exact .inl ⟨_, _, rfl, hjl (by omega), by simp only [tget_put, Nat.reduceEqDiff, if_false, if_true, reduceIte]; exact u37, (ut.congr (by intro t ht'; simp only [List.mem_cons, List.not_mem_nil, or_false] at ht'; rcases ht' with rfl | rfl | rfl | rfl | rfl | rfl <;> simp only [tget_put, Nat.reduceEqDiff, if_false, reduceIte])), ua⟩
            · simp only [tget_put, Nat.reduceEqDiff, if_false, if_true, reduceIte]; rfl
            · simp only [tget_put, Nat.reduceEqDiff, if_false, if_true, reduceIte]
            · simp only [tget_put, Nat.reduceEqDiff, if_false, if_true, reduceIte]; exact t37
            · exact (ht.congr (by intro t ht'; simp only [List.mem_cons, List.not_mem_nil, or_false] at ht'; rcases ht' with rfl | rfl | rfl | rfl | rfl | rfl <;> simp only [tget_put, Nat.reduceEqDiff, if_false, reduceIte]))
            · exact ha
          · rintro o (⟨T', A', rfl, hlt, u37, ut, ua⟩ | ⟨T', A', rfl, hlt, ut, ua⟩)
            · simp only [oneW_next, s_0, s_1, s_2, s_3, s_4, Hands, handsV, resultsV, oneOrTuple, argsT, ev, evs, evPairs, evOpt, closed, flat, nth, aCall, aEnter, notYield, aNilCheck, aLoad, partV, isAggD, aFieldAddr, aField, aExtract, Option.isNone, aBuiltin, cond_true, cond_false, cond_dec, if_true, if_false, List.length_cons, List.length_nil, forall_const, implies_true, List.append_nil, List.cons_append, List.nil_append, eq_self, Nat.reduceEqDiff, Nat.reduceAdd, Nat.reduceMul, Nat.reduceSub, Nat.reduceLT, Nat.reduceLeDiff, Nat.reduceBEq, reduceIte, reduceCtorEq, ti63, t63_desc, t63_size, ti25, t25_desc, ti22, t22_desc, t22_size, ti59, t59_desc, t59_size, ti60, t60_desc, t60_size, ti61, t61_desc, t61_size, ti3, t3_desc, t3_size, ti40, t40_desc, t40_size, ti33, t33_desc, t33_size, ti9, t9_desc, t9_size, wrow_now, wrow_all, eqnil25, fn17, fn26, fn27, fn28, fn29, fn38, fn39, fn12, fn14, fn15, u37, wrap_succ (show L < 1000000 by omega)]
              exact ⟨4 - (L + 1), by omega, L + 1, rfl, by omega, by omega, rfl, (ut.congr (by intro t ht'; simp only [List.mem_cons, List.not_mem_nil, or_false] at ht'; rcases ht' with rfl | rfl | rfl | rfl | rfl | rfl <;> simp only [tget_put, Nat.reduceEqDiff, if_false, reduceIte])), ua.congrD (fun i hi => by rw [Bool.eq_iff_iff]; simp only [decide_eq_true_eq]; omega) h.len⟩
            · simp only [oneW_next, s_0, s_1, s_2, s_3, s_4, Hands, handsV, resultsV, oneOrTuple, argsT, ev, evs, evPairs, evOpt, closed, flat, nth, aCall, aEnter, notYield, aNilCheck, aLoad, partV, isAggD, aFieldAddr, aField, aExtract, Option.isNone, aBuiltin, cond_true, cond_false, cond_dec, if_true, if_false, List.length_cons, List.length_nil, forall_const, implies_true, List.append_nil, List.cons_append, List.nil_append, eq_self, Nat.reduceEqDiff, Nat.reduceAdd, Nat.reduceMul, Nat.reduceSub, Nat.reduceLT, Nat.reduceLeDiff, Nat.reduceBEq, reduceIte, reduceCtorEq, ti63, t63_desc, t63_size, ti25, t25_desc, ti22, t22_desc, t22_size, ti59, t59_desc, t59_size, ti60, t60_desc, t60_size, ti61, t61_desc, t61_size, ti3, t3_desc, t3_size, ti40, t40_desc, t40_size, ti33, t33_desc, t33_size, ti9, t9_desc, t9_size, wrow_now, wrow_all, eqnil25, fn17, fn26, fn27, fn28, fn29, fn38, fn39, fn12, fn14, fn15]
              exact ⟨_, _, rfl, ut, ua.congrD (fun i hi => by rw [Bool.eq_iff_iff]; simp only [decide_eq_true_eq]; omega) h.len⟩
        · have e4 : L = 4 := by omega
          subst e4
          simp only [oneW_next, s_0, s_1, s_2, s_3, s_4, Hands, handsV, resultsV, oneOrTuple, argsT, ev, evs, evPairs, evOpt, closed, flat, nth, aCall, aEnter, notYield, aNilCheck, aLoad, partV, isAggD, aFieldAddr, aField, aExtract, Option.isNone, aBuiltin, cond_true, cond_false, cond_dec, if_true, if_false, List.length_cons, List.length_nil, forall_const, implies_true, List.append_nil, List.cons_append, List.nil_append, eq_self, Nat.reduceEqDiff, Nat.reduceAdd, Nat.reduceMul, Nat.reduceSub, Nat.reduceLT, Nat.reduceLeDiff, Nat.reduceBEq, reduceIte, reduceCtorEq, ti63, t63_desc, t63_size, ti25, t25_desc, ti22, t22_desc, t22_size, ti59, t59_desc, t59_size, ti60, t60_desc, t60_size, ti61, t61_desc, t61_size, ti3, t3_desc, t3_size, ti40, t40_desc, t40_size, ti33, t33_desc, t33_size, ti9, t9_desc, t9_size, wrow_now, wrow_all, eqnil25, fn17, fn26, fn27, fn28, fn29, fn38, fn39, fn12, fn14, fn15]
          exact ⟨_, _, rfl, (ht.congr (by intro t ht'; simp only [List.mem_cons, List.not_mem_nil, or_false] at ht'; rcases ht' with rfl | rfl | rfl | rfl | rfl | rfl <;> simp only [tget_put, Nat.reduceEqDiff, if_false, reduceIte])), ha.congrD (fun i hi => by rw [Bool.eq_iff_iff]; simp only [decide_eq_true_eq]; omega) h.len⟩
      · simp only [tget_put, Nat.reduceEqDiff, if_false, if_true, reduceIte]; rfl
      · constructor <;> simp only [tget_put, Nat.reduceEqDiff, if_false, if_true, reduceIte] <;> rfl
      · exact hadv0.congrA (fun b => rfl) (Nat.le_add_right _ _)
    · rintro o ⟨T', A1, rfl, ht, ha⟩
      have t0 := ht.t0
      have t7 := ht.t7
      have t8 := ht.t8
      simp only [oneW_next, s_0, s_1, s_2, s_3, s_4, Hands, handsV, resultsV, oneOrTuple, argsT, ev, evs, evPairs, evOpt, closed, flat, nth, aCall, aEnter, notYield, aNilCheck, aLoad, partV, isAggD, aFieldAddr, aField, aExtract, Option.isNone, aBuiltin, cond_true, cond_false, cond_dec, if_true, if_false, List.length_cons, List.length_nil, forall_const, implies_true, List.append_nil, List.cons_append, List.nil_append, eq_self, Nat.reduceEqDiff, Nat.reduceAdd, Nat.reduceMul, Nat.reduceSub, Nat.reduceLT, Nat.reduceLeDiff, Nat.reduceBEq, reduceIte, reduceCtorEq, ti63, t63_desc, t63_size, ti25, t25_desc, ti22, t22_desc, t22_size, ti59, t59_desc, t59_size, ti60, t60_desc, t60_size, ti61, t61_desc, t61_size, ti3, t3_desc, t3_size, ti40, t40_desc, t40_size, ti33, t33_desc, t33_size, ti9, t9_desc, t9_size, wrow_now, wrow_all, eqnil25, fn17, fn26, fn27, fn28, fn29, fn38, fn39, fn12, fn14, fn15, t7]
      refine brW_join (fun T' A' => AdvT T' W p3 p5 p6 ps ∧ Adv A A' W all now ms M nw p3 p5 p6 d lf (fun i => decide (i < 16 * ps))) (fun h5 => ?_) (fun h5 => ?_) ?_
      · have h5' : 4 < ps := by have := of_decide_eq_true h5; omega
        have e4 : min 4 ps = 4 := by omega
        rw [e4] at ha
        have aW := ha.row
        have hix : 64 < ms.length := by rw [h.len]; omega
        have hm : ms[64]? = some ms[64] := List.getElem?_eq_getElem _
        have hsl : nth (wrow now all ms) 66 = some (.map (some ms[64])) := wrow_slot hix
        simp only [oneW_next, s_0, s_1, s_2, s_3, s_4, Hands, handsV, resultsV, oneOrTuple, argsT, ev, evs, evPairs, evOpt, closed, flat, nth, aCall, aEnter, notYield, aNilCheck, aLoad, partV, isAggD, aFieldAddr, aField, aExtract, Option.isNone, aBuiltin, cond_true, cond_false, cond_dec, if_true, if_false, List.length_cons, List.length_nil, forall_const, implies_true, List.append_nil, List.cons_append, List.nil_append, eq_self, Nat.reduceEqDiff, Nat.reduceAdd, Nat.reduceMul, Nat.reduceSub, Nat.reduceLT, Nat.reduceLeDiff, Nat.reduceBEq, reduceIte, reduceCtorEq, ti63, t63_desc, t63_size, ti25, t25_desc, ti22, t22_desc, t22_size, ti59, t59_desc, t59_size, ti60, t60_desc, t60_size, ti61, t61_desc, t61_size, ti3, t3_desc, t3_size, ti40, t40_desc, t40_size, ti33, t33_desc, t33_size, ti9, t9_desc, t9_size, wrow_now, wrow_all, eqnil25, fn17, fn26, fn27, fn28, fn29, fn38, fn39, fn12, fn14, fn15, t0, t8, aW, hsl, aInvoke_func]
        refine CallT.mono (ha.step hm (by simp)) ?_
        rintro _ A3 ha3
        simp only [oneW_next, s_0, s_1, s_2, s_3, s_4, Hands, handsV, resultsV, oneOrTuple, argsT, ev, evs, evPairs, evOpt, closed, flat, nth, aCall, aEnter, notYield, aNilCheck, aLoad, partV, isAggD, aFieldAddr, aField, aExtract, Option.isNone, aBuiltin, cond_true, cond_false, cond_dec, if_true, if_false, List.length_cons, List.length_nil, forall_const, implies_true, List.append_nil, List.cons_append, List.nil_append, eq_self, Nat.reduceEqDiff, Nat.reduceAdd, Nat.reduceMul, Nat.reduceSub, Nat.reduceLT, Nat.reduceLeDiff, Nat.reduceBEq, reduceIte, reduceCtorEq, ti63, t63_desc, t63_size, ti25, t25_desc, ti22, t22_desc, t22_size, ti59, t59_desc, t59_size, ti60, t60_desc, t60_size, ti61, t61_desc, t61_size, ti3, t3_desc, t3_size, ti40, t40_desc, t40_size, ti33, t33_desc, t33_size, ti9, t9_desc, t9_size, wrow_now, wrow_all, eqnil25, fn17, fn26, fn27, fn28, fn29, fn38, fn39, fn12, fn14, fn15]
        exact ⟨_, _, rfl, (ht.congr (by intro t ht'; simp only [List.mem_cons, List.not_mem_nil, or_false] at ht'; rcases ht' with rfl | rfl | rfl | rfl | rfl | rfl <;> simp only [tget_put, Nat.reduceEqDiff, if_false, reduceIte])), ha3.congrD (fun i hi => by rw [Bool.eq_iff_iff]; simp only [Bool.or_eq_true, decide_eq_true_eq]; omega) h.len⟩
      · have h5' : ps ≤ 4 := by have := of_decide_eq_false h5; omega
        exact codeW_skip ⟨_, _, rfl, (ht.congr (by intro t ht'; simp only [List.mem_cons, List.not_mem_nil, or_false] at ht'; rcases ht' with rfl | rfl | rfl | rfl | rfl | rfl <;> simp only [tget_put, Nat.reduceEqDiff, if_false, reduceIte])), ha.congrD (fun i hi => by rw [Bool.eq_iff_iff]; simp only [decide_eq_true_eq]; omega) h.len⟩
      · clear ha ht t0 t7 t8
        rintro T2 A2 ⟨ht, ha⟩
        have t0 := ht.t0
        have t3 := ht.t3
        have t5 := ht.t5
        have t6 := ht.t6
        have aW := ha.row
        have a3 := ha.h3
        have a5 := ha.h5
        have hst := storeNow (nw := nw) aW
        have hn5 := ha.new p5 (by simp)
        have hnd := ha.new d (by simp)
        have hnl := ha.new lf (by simp)
        have hbW : W < A.next := h.below W (by simp)
        obtain ⟨ed, ckd, hed, hokd, hgd⟩ := ha.due
        have hed' : (A2.set W (.row (wrow nw all ms) 67 false)).get d = some (.map (uEnts ed) ckd) := by rw [ASt.get_set, if_neg (by omega)]; exact hed
        have a5' : (A2.set W (.row (wrow nw all ms) 67 false)).get p5 = some (.row [.map (some d)] 1 false) := by rw [ASt.get_set, if_neg (by omega)]; exact a5
        simp only [oneW_next, s_0, s_1, s_2, s_3, s_4, Hands, handsV, resultsV, oneOrTuple, argsT, ev, evs, evPairs, evOpt, closed, flat, nth, aCall, aEnter, notYield, aNilCheck, aLoad, partV, isAggD, aFieldAddr, aField, aExtract, Option.isNone, aBuiltin, cond_true, cond_false, cond_dec, if_true, if_false, List.length_cons, List.length_nil, forall_const, implies_true, List.append_nil, List.cons_append, List.nil_append, eq_self, Nat.reduceEqDiff, Nat.reduceAdd, Nat.reduceMul, Nat.reduceSub, Nat.reduceLT, Nat.reduceLeDiff, Nat.reduceBEq, reduceIte, reduceCtorEq, ti63, t63_desc, t63_size, ti25, t25_desc, ti22, t22_desc, t22_size, ti59, t59_desc, t59_size, ti60, t60_desc, t60_size, ti61, t61_desc, t61_size, ti3, t3_desc, t3_size, ti40, t40_desc, t40_size, ti33, t33_desc, t33_size, ti9, t9_desc, t9_size, wrow_now, wrow_all, eqnil25, fn17, fn26, fn27, fn28, fn29, fn38, fn39, fn12, fn14, fn15, t0, t3, t5, t6, a3, a5', hst, rangeT hed']
        have hXg : ∀ b, (A2.set W (.row (wrow nw all ms) 67 false)).get b = if b = W then some (.row (wrow nw all ms) 67 false) else A2.get b := fun b => by rw [ASt.get_set]
        have hXn : (A2.set W (.row (wrow nw all ms) 67 false)).next = A2.next := rfl
        generalize A2.set W (.row (wrow nw all ms) 67 false) = X at hXg hXn hed' a5' ⊢
        have hall := ha.allm
        have hbX : ∀ b ∈ W :: all :: d :: lf :: p3 :: p5 :: p6 :: ms, b < X.next := fun b hb => by rw [hXn]; exact ha.below b hb
        have hnod := ha.nodup
        simp only [List.nodup_cons, List.mem_cons, not_or] at hnod
        obtain ⟨⟨w1, w2, w3, w4⟩, ⟨al1, al2, al3⟩, ⟨d1, d2⟩, l1, hms⟩ := hnod
        have hXall : Holds X all M := hall.congr (by rw [hXg, if_neg (Ne.symm w1)])
        have XW : X.get W = some (.row (wrow nw all ms) 67 false) := by rw [hXg, if_pos rfl]
        have Xb : ∀ b ∈ W :: all :: d :: lf :: p3 :: p5 :: p6 :: ms, b ≠ X.next := fun b hb => by have := hbX b hb; omega
        refine CodeW.mono (Q := fun o => ∃ T' A' done, o = .fr ⟨.exit 4, T', A'⟩ ∧ InMap 71 X.next d ckd ed done T' A' ∧ (∀ x ∈ ed, x ∈ done) ∧ tget T' 0 = .pointer (some ⟨W, 0, none⟩) ∧ tget T' 5 = .pointer (some ⟨p5, 0, none⟩) ∧ tget T' 6 = .pointer (some ⟨p6, 0, none⟩) ∧ Holds A' all (dels M done) ∧ Fr [all] X A' ∧ X.next < A'.next) ?_ ?_
        · refine CodeW.mapLoop (it := 71) (r := X.next) (m := d) (ck := ckd) (l := ed) (J := fun done T A' => tget T 0 = .pointer (some ⟨W, 0, none⟩) ∧ tget T 5 = .pointer (some ⟨p5, 0, none⟩) ∧ tget T 6 = .pointer (some ⟨p6, 0, none⟩) ∧ Holds A' all (dels M done) ∧ Fr [all] X A' ∧ X.next < A'.next) ?_ ?_ ?_
          · rintro done T3 A3 hi ⟨u0, u5, u6, hd3, f3, nx3⟩
            refine codeW_ok E0_ok E0_ro ?_
            have hit := hi.it
            simp only [oneW_next, s_0, s_1, s_2, s_3, s_4, Hands, handsV, resultsV, oneOrTuple, argsT, ev, evs, evPairs, evOpt, closed, flat, nth, aCall, aEnter, notYield, aNilCheck, aLoad, partV, isAggD, aFieldAddr, aField, aExtract, Option.isNone, aBuiltin, cond_true, cond_false, cond_dec, if_true, if_false, List.length_cons, List.length_nil, forall_const, implies_true, List.append_nil, List.cons_append, List.nil_append, eq_self, Nat.reduceEqDiff, Nat.reduceAdd, Nat.reduceMul, Nat.reduceSub, Nat.reduceLT, Nat.reduceLeDiff, Nat.reduceBEq, reduceIte, reduceCtorEq, ti63, t63_desc, t63_size, ti25, t25_desc, ti22, t22_desc, t22_size, ti59, t59_desc, t59_size, ti60, t60_desc, t60_size, ti61, t61_desc, t61_size, ti3, t3_desc, t3_size, ti40, t40_desc, t40_size, ti33, t33_desc, t33_size, ti9, t9_desc, t9_size, wrow_now, wrow_all, eqnil25, fn17, fn26, fn27, fn28, fn29, fn38, fn39, fn12, fn14, fn15, hit]
            refine nextV_u hokd hi.sub hi.iter hi.map (fun x hx hn => ?_) (fun hfin => ?_)
            · have hent := entry_u (A := A3.set X.next (.miter (some d) ckd ((done ++ [x]).map (·.2.2)) ckd)) (r := X.next) (m := d) hokd hx (by rw [ASt.get_set, if_pos rfl]) (by rw [ASt.get_set, if_neg (Xb d (by simp))]; exact hi.map)
              have hB : ∀ b, (A3.set X.next (.miter (some d) ckd ((done ++ [x]).map (·.2.2)) ckd)).get b = if b = X.next then some (.miter (some d) ckd ((done ++ [x]).map (·.2.2)) ckd) else A3.get b := fun b => by rw [ASt.get_set]
              have hBn : (A3.set X.next (.miter (some d) ckd ((done ++ [x]).map (·.2.2)) ckd)).next = A3.next := rfl
              generalize A3.set X.next (.miter (some d) ckd ((done ++ [x]).map (·.2.2)) ckd) = B3 at hent hB hBn ⊢
              have BW : B3.get W = some (.row (wrow nw all ms) 67 false) := by
                rw [hB, if_neg (Xb W (by simp)), f3.get W (hbX W (by simp)) (by simpa using w1)]; exact XW
              obtain ⟨B4, hdel, h4, f4⟩ := (hd3.congr (show B3.get all = A3.get all by rw [hB, if_neg (Xb all (by simp))])).delete x.1
              have b3X : X.next < B3.next := by
                rw [hBn]; exact nx3
              simp only [oneW_next, s_0, s_1, s_2, s_3, s_4, Hands, handsV, resultsV, oneOrTuple, argsT, ev, evs, evPairs, evOpt, closed, flat, nth, aCall, aEnter, notYield, aNilCheck, aLoad, partV, isAggD, aFieldAddr, aField, aExtract, Option.isNone, aBuiltin, cond_true, cond_false, cond_dec, if_true, if_false, List.length_cons, List.length_nil, forall_const, implies_true, List.append_nil, List.cons_append, List.nil_append, eq_self, Nat.reduceEqDiff, Nat.reduceAdd, Nat.reduceMul, Nat.reduceSub, Nat.reduceLT, Nat.reduceLeDiff, Nat.reduceBEq, reduceIte, reduceCtorEq, ti63, t63_desc, t63_size, ti25, t25_desc, ti22, t22_desc, t22_size, ti59, t59_desc, t59_size, ti60, t60_desc, t60_size, ti61, t61_desc, t61_size, ti3, t3_desc, t3_size, ti40, t40_desc, t40_size, ti33, t33_desc, t33_size, ti9, t9_desc, t9_size, wrow_now, wrow_all, eqnil25, fn17, fn26, fn27, fn28, fn29, fn38, fn39, fn12, fn14, fn15, hit, hent, u0, BW, hdel]
              refine ⟨x, hx, hn, hi.step hx hn (by simp only [tget_put, Nat.reduceEqDiff, if_false, reduceIte]) ?_ ?_, u5, u6, ?_, ⟨?_, ?_⟩, ?_⟩
              · rw [f4.get _ b3X (by simpa using Ne.symm (Xb all (by simp))), hB, if_pos rfl]
              · rw [f4.get d (by have := hbX d (by simp); omega) (by simpa using Ne.symm al1), hB, if_neg (Xb d (by simp))]
              · rw [dels_snoc]; exact h4
              · have := f3.next; have := f4.next; omega
              · intro b hb hn
                rw [f4.get b (by omega) hn, hB, if_neg (by omega)]; exact f3.get b hb hn
              · have := f4.next; omega
            · simp only [oneW_next, s_0, s_1, s_2, s_3, s_4, Hands, handsV, resultsV, oneOrTuple, argsT, ev, evs, evPairs, evOpt, closed, flat, nth, aCall, aEnter, notYield, aNilCheck, aLoad, partV, isAggD, aFieldAddr, aField, aExtract, Option.isNone, aBuiltin, cond_true, cond_false, cond_dec, if_true, if_false, List.length_cons, List.length_nil, forall_const, implies_true, List.append_nil, List.cons_append, List.nil_append, eq_self, Nat.reduceEqDiff, Nat.reduceAdd, Nat.reduceMul, Nat.reduceSub, Nat.reduceLT, Nat.reduceLeDiff, Nat.reduceBEq, reduceIte, reduceCtorEq, ti63, t63_desc, t63_size, ti25, t25_desc, ti22, t22_desc, t22_size, ti59, t59_desc, t59_size, ti60, t60_desc, t60_size, ti61, t61_desc, t61_size, ti3, t3_desc, t3_size, ti40, t40_desc, t40_size, ti33, t33_desc, t33_size, ti9, t9_desc, t9_size, wrow_now, wrow_all, eqnil25, fn17, fn26, fn27, fn28, fn29, fn38, fn39, fn12, fn14, fn15]
              refine ⟨_, _, done, rfl, ⟨?_, hi.iter, hi.map, hi.sub, hi.nodup⟩, hfin, ?_, ?_, ?_, hd3, f3, nx3⟩
              · simp only [tget_put, Nat.reduceEqDiff, if_false, reduceIte]; exact hit
              · simp only [tget_put, Nat.reduceEqDiff, if_false, reduceIte]; exact u0
              · simp only [tget_put, Nat.reduceEqDiff, if_false, reduceIte]; exact u5
              · simp only [tget_put, Nat.reduceEqDiff, if_false, reduceIte]; exact u6
          · refine ⟨by simp only [tget_put, Nat.reduceEqDiff, if_false, if_true, reduceIte]; rw [hXn], by rw [ASt.get_new, if_pos rfl]; rfl, by rw [ASt.get_new, if_neg (Xb d (by simp))]; exact hed', by simp, .nil⟩
          · refine ⟨?_, ?_, ?_, hXall.congr (by rw [ASt.get_new, if_neg (Xb all (by simp))]), ⟨Nat.le_succ _, fun b hb hn => by rw [ASt.get_new, if_neg (by omega)]⟩, Nat.lt_succ_self _⟩
            · simp only [tget_put, Nat.reduceEqDiff, if_false, reduceIte]; exact t0
            · simp only [tget_put, Nat.reduceEqDiff, if_false, reduceIte]; exact t5
            · simp only [tget_put, Nat.reduceEqDiff, if_false, reduceIte]; exact t6
        · rintro o ⟨T3, Y, done, rfl, hiD, hfin, u0, u5, u6, hYall, fY, nxY⟩
          obtain ⟨_, hug⟩ := uget_all hokd hiD.sub hfin hiD.nodup
          have keepY : ∀ b ∈ W :: all :: d :: lf :: p3 :: p5 :: p6 :: ms, b ≠ W → b ≠ all → Y.get b = A2.get b := fun b hb n1 n2 => by
            rw [fY.get b (hbX b hb) (by simpa using n2), hXg, if_neg n1]
          have YW : Y.get W = some (.row (wrow nw all ms) 67 false) := by rw [fY.get W (hbX W (by simp)) (by simpa using w1)]; exact XW
          have p5W : p5 ≠ W := by omega
          have p6W : p6 ≠ W := by have := ha.new p6 (by simp); omega
          have p5a : p5 ≠ all := hall.block a5
          have p6a : p6 ≠ all := hall.block ha.h6
          have Y5 : Y.get p5 = some (.row [.map (some d)] 1 false) := (keepY p5 (by simp) p5W p5a).trans a5
          have Y6 : Y.get p6 = some (.row [.map (some lf)] 1 false) := (keepY p6 (by simp) p6W p6a).trans ha.h6
          have hbY : ∀ b ∈ W :: all :: d :: lf :: p3 :: p5 :: p6 :: ms, b < Y.next := fun b hb => by have := hbX b hb; have := fY.next; omega
          have Yb : ∀ b ∈ W :: all :: d :: lf :: p3 :: p5 :: p6 :: ms, b ≠ Y.next := fun b hb => by have := hbY b hb; omega
          have hYl : Holds Y lf (fun k => (M k).filter fun a => decide (plc now a < 16 * ps) && !decide (a ≤ nw)) := ha.lft.congr (keepY lf (by simp) (Ne.symm w3) (Ne.symm al2))
          have hYd : Holds Y d (fun k => (M k).filter fun a => decide (plc now a < 16 * ps) && decide (a ≤ nw)) := ha.due.congr (keepY d (by simp) (Ne.symm w2) (Ne.symm al1))
          have hYs : ∀ i m, ms[i]? = some m → Holds Y m (if i < 16 * ps then (fun _ => none) else M.at_ now i) := fun i m hm => by
            have hmem := List.mem_of_getElem? hm
            have := ha.slot i m hm
            simp only [decide_eq_true_eq] at this
            exact this.congr (keepY m (by simp [hmem]) (fun e => w4 (e ▸ hmem)) (fun e => al3 (e ▸ hmem)))
          obtain ⟨el, ckl, hel, hokl, hgl⟩ := hYl
          simp only [oneW_next, s_0, s_1, s_2, s_3, s_4, Hands, handsV, resultsV, oneOrTuple, argsT, ev, evs, evPairs, evOpt, closed, flat, nth, aCall, aEnter, notYield, aNilCheck, aLoad, partV, isAggD, aFieldAddr, aField, aExtract, Option.isNone, aBuiltin, cond_true, cond_false, cond_dec, if_true, if_false, List.length_cons, List.length_nil, forall_const, implies_true, List.append_nil, List.cons_append, List.nil_append, eq_self, Nat.reduceEqDiff, Nat.reduceAdd, Nat.reduceMul, Nat.reduceSub, Nat.reduceLT, Nat.reduceLeDiff, Nat.reduceBEq, reduceIte, reduceCtorEq, ti63, t63_desc, t63_size, ti25, t25_desc, ti22, t22_desc, t22_size, ti59, t59_desc, t59_size, ti60, t60_desc, t60_size, ti61, t61_desc, t61_size, ti3, t3_desc, t3_size, ti40, t40_desc, t40_size, ti33, t33_desc, t33_size, ti9, t9_desc, t9_size, wrow_now, wrow_all, eqnil25, fn17, fn26, fn27, fn28, fn29, fn38, fn39, fn12, fn14, fn15, u0, u5, u6, Y5, Y6, rangeT hel]
          have injm : ∀ {i j m : Nat}, ms[i]? = some m → ms[j]? = some m → i = j := fun {i j m} hi hj => by
            obtain ⟨x1, x2⟩ := List.getElem?_eq_some_iff.1 hi
            obtain ⟨y1, y2⟩ := List.getElem?_eq_some_iff.1 hj
            rcases Nat.lt_trichotomy i j with hlt | he | hlt
            · exact absurd (x2.trans y2.symm) (List.pairwise_iff_getElem.1 hms i j x1 y1 hlt)
            · exact he
            · exact absurd (y2.trans x2.symm) (List.pairwise_iff_getElem.1 hms j i y1 x1 hlt)
          have hlv : ∀ x ∈ el, x.2.1 < 18446744073709551616 := fun x hx => by
            have h1 := uget_mem hokl.keys hx
            rw [hgl] at h1
            obtain ⟨h2, _⟩ := Option.filter_eq_some_iff.1 h1
            exact h.lt _ _ h2
          refine CodeW.mono (Q := fun o => ∃ T' A' done, o = .fr ⟨.exit 6, T', A'⟩ ∧ (∀ x ∈ done, x ∈ el) ∧ (∀ x ∈ el, x ∈ done) ∧ done.Nodup ∧ tget T' 5 = .pointer (some ⟨p5, 0, none⟩) ∧ (∀ i m, ms[i]? = some m → Holds A' m (puts (if i < 16 * ps then (fun _ => none) else M.at_ now i) done fun a => decide (plc nw a = i))) ∧ Fr ms Y A') ?_ ?_
          · refine CodeW.mapLoop (it := 82) (r := Y.next) (m := lf) (ck := ckl) (l := el) (J := fun done T A' => tget T 0 = .pointer (some ⟨W, 0, none⟩) ∧ tget T 5 = .pointer (some ⟨p5, 0, none⟩) ∧ (∀ i m, ms[i]? = some m → Holds A' m (puts (if i < 16 * ps then (fun _ => none) else M.at_ now i) done fun a => decide (plc nw a = i))) ∧ Fr ms Y A' ∧ Y.next < A'.next) ?_ ?_ ?_
            · rintro done T4 A4 hi ⟨v0, v5, hs4, f4, nx4⟩
              refine codeW_ok E0_ok E0_ro ?_
              have hit := hi.it
              simp only [oneW_next, s_0, s_1, s_2, s_3, s_4, Hands, handsV, resultsV, oneOrTuple, argsT, ev, evs, evPairs, evOpt, closed, flat, nth, aCall, aEnter, notYield, aNilCheck, aLoad, partV, isAggD, aFieldAddr, aField, aExtract, Option.isNone, aBuiltin, cond_true, cond_false, cond_dec, if_true, if_false, List.length_cons, List.length_nil, forall_const, implies_true, List.append_nil, List.cons_append, List.nil_append, eq_self, Nat.reduceEqDiff, Nat.reduceAdd, Nat.reduceMul, Nat.reduceSub, Nat.reduceLT, Nat.reduceLeDiff, Nat.reduceBEq, reduceIte, reduceCtorEq, ti63, t63_desc, t63_size, ti25, t25_desc, ti22, t22_desc, t22_size, ti59, t59_desc, t59_size, ti60, t60_desc, t60_size, ti61, t61_desc, t61_size, ti3, t3_desc, t3_size, ti40, t40_desc, t40_size, ti33, t33_desc, t33_size, ti9, t9_desc, t9_size, wrow_now, wrow_all, eqnil25, fn17, fn26, fn27, fn28, fn29, fn38, fn39, fn12, fn14, fn15, hit]
              refine nextV_u hokl hi.sub hi.iter hi.map (fun x hx hn => ?_) (fun hfin => ?_)
              · have hkey := fresh_key hokl hi.sub hx hn
                have hent := entry_u (A := A4.set Y.next (.miter (some lf) ckl ((done ++ [x]).map (·.2.2)) ckl)) (r := Y.next) (m := lf) hokl hx (by rw [ASt.get_set, if_pos rfl]) (by rw [ASt.get_set, if_neg (Yb lf (by simp))]; exact hi.map)
                have hB : ∀ b, (A4.set Y.next (.miter (some lf) ckl ((done ++ [x]).map (·.2.2)) ckl)).get b = if b = Y.next then some (.miter (some lf) ckl ((done ++ [x]).map (·.2.2)) ckl) else A4.get b := fun b => by rw [ASt.get_set]
                have hBn : (A4.set Y.next (.miter (some lf) ckl ((done ++ [x]).map (·.2.2)) ckl)).next = A4.next := rfl
                generalize A4.set Y.next (.miter (some lf) ckl ((done ++ [x]).map (·.2.2)) ckl) = B3 at hent hB hBn ⊢
                have BW : B3.get W = some (.row (wrow nw all ms) 67 false) := by
                  rw [hB, if_neg (Yb W (by simp)), f4.get W (hbY W (by simp)) w4]; exact YW
                simp only [oneW_next, s_0, s_1, s_2, s_3, s_4, Hands, handsV, resultsV, oneOrTuple, argsT, ev, evs, evPairs, evOpt, closed, flat, nth, aCall, aEnter, notYield, aNilCheck, aLoad, partV, isAggD, aFieldAddr, aField, aExtract, Option.isNone, aBuiltin, cond_true, cond_false, cond_dec, if_true, if_false, List.length_cons, List.length_nil, forall_const, implies_true, List.append_nil, List.cons_append, List.nil_append, eq_self, Nat.reduceEqDiff, Nat.reduceAdd, Nat.reduceMul, Nat.reduceSub, Nat.reduceLT, Nat.reduceLeDiff, Nat.reduceBEq, reduceIte, reduceCtorEq, ti63, t63_desc, t63_size, ti25, t25_desc, ti22, t22_desc, t22_size, ti59, t59_desc, t59_size, ti60, t60_desc, t60_size, ti61, t61_desc, t61_size, ti3, t3_desc, t3_size, ti40, t40_desc, t40_size, ti33, t33_desc, t33_size, ti9, t9_desc, t9_size, wrow_now, wrow_all, eqnil25, fn17, fn26, fn27, fn28, fn29, fn38, fn39, fn12, fn14, fn15, hit, hent, v0]
                refine CallT.mono (place_walk BW h.len hnw (hlv x hx)) ?_
                rintro _ _ ⟨rfl, kx, rfl⟩
                have hpl : plc nw x.2.1 < ms.length := by rw [h.len]; exact plc_lt
                have hm : ms[plc nw x.2.1]? = some (ms[plc nw x.2.1]'hpl) := List.getElem?_eq_getElem _
                generalize ms[plc nw x.2.1]'hpl = m at hm
                have hmem := List.mem_of_getElem? hm
                have hmY : m ≠ Y.next := Yb m (by simp [hmem])
                obtain ⟨B4, hup, h4, g4⟩ := ((hs4 _ m hm).congr (show ASt.get { heap := B3.heap, next := B3.next + kx } m = A4.get m by rw [get_next, hB, if_neg hmY])).update x.1 x.2.1
                simp only [oneW_next, s_0, s_1, s_2, s_3, s_4, Hands, handsV, resultsV, oneOrTuple, argsT, ev, evs, evPairs, evOpt, closed, flat, nth, aCall, aEnter, notYield, aNilCheck, aLoad, partV, isAggD, aFieldAddr, aField, aExtract, Option.isNone, aBuiltin, cond_true, cond_false, cond_dec, if_true, if_false, List.length_cons, List.length_nil, forall_const, implies_true, List.append_nil, List.cons_append, List.nil_append, eq_self, Nat.reduceEqDiff, Nat.reduceAdd, Nat.reduceMul, Nat.reduceSub, Nat.reduceLT, Nat.reduceLeDiff, Nat.reduceBEq, reduceIte, reduceCtorEq, ti63, t63_desc, t63_size, ti25, t25_desc, ti22, t22_desc, t22_size, ti59, t59_desc, t59_size, ti60, t60_desc, t60_size, ti61, t61_desc, t61_size, ti3, t3_desc, t3_size, ti40, t40_desc, t40_size, ti33, t33_desc, t33_size, ti9, t9_desc, t9_size, wrow_now, wrow_all, eqnil25, fn17, fn26, fn27, fn28, fn29, fn38, fn39, fn12, fn14, fn15, hup]
                have gB : ∀ b, b < B3.next → b ≠ m → B4.get b = B3.get b := fun b hb hn => by
                  rw [g4.get b (by show b < B3.next + kx; omega) (by simpa using hn), get_next]
                have n4 : A4.next ≤ B4.next := by have := g4.next; have : B3.next + kx ≤ B4.next := this; omega
                refine ⟨x, hx, hn, hi.step hx hn (by simp only [tget_put, Nat.reduceEqDiff, if_false, reduceIte]) ?_ ?_, ?_, ?_, ?_, ⟨?_, ?_⟩, ?_⟩
                · rw [gB _ (by omega) (Ne.symm hmY), hB, if_pos rfl]
                · rw [gB lf (by have := hbY lf (by simp); omega) (fun e => l1 (e ▸ hmem)), hB, if_neg (Yb lf (by simp))]
                · exact v0
                · exact v5
                · intro i m' hm'
                  have hmem' := List.mem_of_getElem? hm'
                  rw [puts_snoc hkey]
                  by_cases e : plc nw x.2.1 = i
                  · subst e
                    rw [hm] at hm'; cases hm'
                    simp only [decide_true, if_true]
                    exact h4
                  · have em : m' ≠ m := fun em => e (injm hm (em ▸ hm'))
                    simp only [e, decide_false, Bool.false_eq_true, if_false]
                    refine (hs4 i m' hm').congr ?_
                    rw [gB m' (by have := hbY m' (by simp [hmem']); omega) em, hB, if_neg (Yb m' (by simp [hmem']))]
                · have := f4.next; omega
                · intro b hb hn
                  rw [gB b (by omega) (fun e => hn (e ▸ hmem)), hB, if_neg (by omega)]; exact f4.get b hb hn
                · omega
              · simp only [oneW_next, s_0, s_1, s_2, s_3, s_4, Hands, handsV, resultsV, oneOrTuple, argsT, ev, evs, evPairs, evOpt, closed, flat, nth, aCall, aEnter, notYield, aNilCheck, aLoad, partV, isAggD, aFieldAddr, aField, aExtract, Option.isNone, aBuiltin, cond_true, cond_false, cond_dec, if_true, if_false, List.length_cons, List.length_nil, forall_const, implies_true, List.append_nil, List.cons_append, List.nil_append, eq_self, Nat.reduceEqDiff, Nat.reduceAdd, Nat.reduceMul, Nat.reduceSub, Nat.reduceLT, Nat.reduceLeDiff, Nat.reduceBEq, reduceIte, reduceCtorEq, ti63, t63_desc, t63_size, ti25, t25_desc, ti22, t22_desc, t22_size, ti59, t59_desc, t59_size, ti60, t60_desc, t60_size, ti61, t61_desc, t61_size, ti3, t3_desc, t3_size, ti40, t40_desc, t40_size, ti33, t33_desc, t33_size, ti9, t9_desc, t9_size, wrow_now, wrow_all, eqnil25, fn17, fn26, fn27, fn28, fn29, fn38, fn39, fn12, fn14, fn15]
                refine ⟨_, _, done, rfl, hi.sub, hfin, hi.nodup, ?_, hs4, f4⟩
                simp only [tget_put, Nat.reduceEqDiff, if_false, reduceIte]; exact v5
            · refine ⟨by simp only [tget_put, Nat.reduceEqDiff, if_false, if_true, reduceIte], by rw [ASt.get_new, if_pos rfl]; rfl, by rw [ASt.get_new, if_neg (Yb lf (by simp))]; exact hel, by simp, .nil⟩
            · refine ⟨?_, ?_, fun i m hm => ?_, ⟨Nat.le_succ _, fun b hb hn => by rw [ASt.get_new, if_neg (by omega)]⟩, Nat.lt_succ_self _⟩
              · simp only [tget_put, Nat.reduceEqDiff, if_false, reduceIte]; exact u0
              · simp only [tget_put, Nat.reduceEqDiff, if_false, reduceIte]; exact u5
              · rw [puts_nil]
                exact (hYs i m hm).congr (by rw [ASt.get_new, if_neg (Yb m (by simp [List.mem_of_getElem? hm]))])
          · rintro o ⟨T4, V, dl, rfl, hsub, hfin, hnodl, v5, hV, fV⟩
            obtain ⟨_, hugl⟩ := uget_all hokl hsub hfin hnodl
            have V5 : V.get p5 = some (.row [.map (some d)] 1 false) := by
              rw [fV.get p5 (hbY p5 (by simp)) (fun hm => ?_)]
              · exact Y5
              · obtain ⟨i, hi⟩ := List.getElem?_of_mem hm
                exact (hYs i _ hi).block Y5 rfl
            have hVd : Holds V d (fun k => (M k).filter fun a => decide (plc now a < 16 * ps) && decide (a ≤ nw)) := hYd.congr (fV.get d (hbY d (by simp)) d2)
            have hdV : d < V.next := by have := fV.next; have := hbY d (by simp); omega
            simp only [oneW_next, s_0, s_1, s_2, s_3, s_4, Hands, handsV, resultsV, oneOrTuple, argsT, ev, evs, evPairs, evOpt, closed, flat, nth, aCall, aEnter, notYield, aNilCheck, aLoad, partV, isAggD, aFieldAddr, aField, aExtract, Option.isNone, aBuiltin, cond_true, cond_false, cond_dec, if_true, if_false, List.length_cons, List.length_nil, forall_const, implies_true, List.append_nil, List.cons_append, List.nil_append, eq_self, Nat.reduceEqDiff, Nat.reduceAdd, Nat.reduceMul, Nat.reduceSub, Nat.reduceLT, Nat.reduceLeDiff, Nat.reduceBEq, reduceIte, reduceCtorEq, ti63, t63_desc, t63_size, ti25, t25_desc, ti22, t22_desc, t22_size, ti59, t59_desc, t59_size, ti60, t60_desc, t60_size, ti61, t61_desc, t61_size, ti3, t3_desc, t3_size, ti40, t40_desc, t40_size, ti33, t33_desc, t33_size, ti9, t9_desc, t9_size, wrow_now, wrow_all, eqnil25, fn17, fn26, fn27, fn28, fn29, fn38, fn39, fn12, fn14, fn15, v5, V5]
            refine CallT.mono (hs hVd (fun k a hk => (Option.filter_eq_some_iff.1 hk).1) hdV) ?_
            rintro v U ⟨ts, hts, hsl, fU⟩
            simp only [oneW_next, s_0, s_1, s_2, s_3, s_4, Hands, handsV, resultsV, oneOrTuple, argsT, ev, evs, evPairs, evOpt, closed, flat, nth, aCall, aEnter, notYield, aNilCheck, aLoad, partV, isAggD, aFieldAddr, aField, aExtract, Option.isNone, aBuiltin, cond_true, cond_false, cond_dec, if_true, if_false, List.length_cons, List.length_nil, forall_const, implies_true, List.append_nil, List.cons_append, List.nil_append, eq_self, Nat.reduceEqDiff, Nat.reduceAdd, Nat.reduceMul, Nat.reduceSub, Nat.reduceLT, Nat.reduceLeDiff, Nat.reduceBEq, reduceIte, reduceCtorEq, ti63, t63_desc, t63_size, ti25, t25_desc, ti22, t22_desc, t22_size, ti59, t59_desc, t59_size, ti60, t60_desc, t60_size, ti61, t61_desc, t61_size, ti3, t3_desc, t3_size, ti40, t40_desc, t40_size, ti33, t33_desc, t33_size, ti9, t9_desc, t9_size, wrow_now, wrow_all, eqnil25, fn17, fn26, fn27, fn28, fn29, fn38, fn39, fn12, fn14, fn15]
            rw [if_neg hge]
            have far : ∀ {k a}, M k = some a → ¬ plc now a < 16 * ps → nw < a ∧ plc nw a = plc now a := fun {k a} hk hD => by
              rw [← hpd] at hD
              exact plc_far h.nowlt hnw (h.lt k a hk) (h.gt k a hk) hD
            have hp3 : p3 ≤ V.next := by
              have := ha.below p3 (by simp); have := fY.next; have := fV.next; omega
            have fAX : Fr [W] A2 X := ⟨by omega, fun b _ hn => by rw [hXg, if_neg (by simpa using hn)]⟩
            have fAll : Fr (W :: all :: ms) A U := ha.fr.trans ((fAX.sub (by simp)).trans ((fY.sub (by simp)).trans ((fV.sub (fun b hb => by simp [hb])).trans (fU.sub (by simp)))))
            have keepU : ∀ b, b < V.next → U.get b = V.get b := fun b hb => fU.get b hb (by simp)
            have hbV : ∀ b ∈ W :: all :: d :: lf :: p3 :: p5 :: p6 :: ms, b < V.next := fun b hb => by have := hbY b hb; have := fV.next; omega
            refine ⟨ts, ⟨fun k a => (hts.mem k a).trans ?_, hts.ord⟩, ?_, ⟨?_, h.len, hnw, h.nodup, fun b hb => Nat.lt_of_lt_of_le (hbV b (by simp only [List.mem_cons] at hb ⊢; rcases hb with h | h | h <;> simp [h])) fU.next, ?_, ?_, ?_, ?_⟩, fAll⟩
            · cases hk : M k with
              | none => simp [hk]
              | some b =>
                by_cases hD : plc now b < 16 * ps
                · simp [Option.filter, hk, hD]
                · have := (far hk hD).1
                  have e1 : ¬ b ≤ nw := by omega
                  simp [Option.filter, hk, e1]
            · rcases hsl with ⟨e1, e2⟩ | ⟨b, cap, rest, tl, e1, e2, e3, e4⟩
              · exact .inl ⟨e1, e2⟩
              · exact .inr ⟨b, cap, rest, tl, e1, e2, by omega, e4⟩
            · rw [keepU W (hbV W (by simp)), fV.get W (hbY W (by simp)) w4]; exact YW
            · refine (hYall.congr ((keepU all (hbV all (by simp))).trans (fV.get all (hbY all (by simp)) al3))).ext fun k => ?_
              unfold dels
              rw [hug, hgd]
              cases hk : M k with
              | none => simp [hk]
              | some b =>
                by_cases hD : plc now b < 16 * ps
                · by_cases hle : b ≤ nw
                  · have e1 : ¬ nw < b := by omega
                    simp [Option.filter, hk, hD, hle, e1]
                  · have e1 : nw < b := by omega
                    simp [Option.filter, hk, hD, hle, e1]
                · have := (far hk hD).1
                  simp [Option.filter, hk, hD, this]
            · intro i m hm
              have hmem := List.mem_of_getElem? hm
              refine ((hV i m hm).congr (keepU m (hbV m (by simp [hmem])))).ext fun k => ?_
              unfold puts TM.at_
              rw [hugl, hgl]
              cases hk : M k with
              | none => by_cases hi : i < 16 * ps <;> simp [hi, hk]
              | some b =>
                by_cases hD : plc now b < 16 * ps
                · by_cases hle : b ≤ nw
                  · have e1 : ¬ nw < b := by omega
                    by_cases hi : i < 16 * ps
                    · simp [Option.filter, hk, hD, hle, e1, hi]
                    · have e2 : plc now b ≠ i := by omega
                      simp [Option.filter, hk, hD, hle, e1, hi, e2]
                  · have e1 : nw < b := by omega
                    by_cases hpi : plc nw b = i
                    · simp [Option.filter, hk, hD, hle, e1, hpi]
                    · by_cases hi : i < 16 * ps
                      · simp [Option.filter, hk, hD, hle, e1, hi, hpi]
                      · have e2 : plc now b ≠ i := by omega
                        simp [Option.filter, hk, hD, hle, e1, hi, e2, hpi]
                · obtain ⟨e1, e2⟩ := far hk hD
                  by_cases hi : i < 16 * ps
                  · have e3 : plc now b ≠ i := by omega
                    simp [Option.filter, hk, hD, e1, hi, e2, e3]
                  · simp [Option.filter, hk, hD, e1, hi, e2]
            · intro k a hk
              obtain ⟨h2, _⟩ := Option.filter_eq_some_iff.1 hk
              exact h.lt k a h2
            · intro k a hk
              obtain ⟨_, h2⟩ := Option.filter_eq_some_iff.1 hk
              exact of_decide_eq_true h2
end Go.Proofs.Ytpmpclieclcbdaa
