/- The calendar. -/
import Derived.Test.YtgcffmhpjphefaaDoorP06
import Derived.Test.YtgcffmhpjphefaaDoorQ2
import Derived.Lib.ItoaNum
set_option linter.unusedSimpArgs false
set_option linter.unusedVariables false
set_option linter.unusedSectionVars false
namespace Go.Proofs.YtgcffmhpjphefaaDoor
open Go Go.AE
set_option maxRecDepth 10000
set_option maxHeartbeats 4000000
variable {Z : Go.AE.Road}

/-- How many times, and what is left. -/
def cnt (a e t : Nat) : Nat := if t < a then 0 else if e = 0 then 0 else (t - a) / e
def rst (a e t : Nat) : Nat := if t < a then 0 else if e = 0 then t - a else (t - a) % e
theorem wrap_sub {a b : Nat} (ha : a < 18446744073709551616) (h : b ≤ a) : IntKind.u64.wrap ((a : Int) - (b : Int)) = ((a - b : Nat) : Int) := by
  rw [IntKind.wrap_u64]; omega
theorem wrap_nat {a : Nat} (ha : a < 18446744073709551616) : IntKind.u64.wrap (a : Int) = (a : Int) := by
  rw [IntKind.wrap_u64]; omega
theorem zero49 : aAlloc E0 49 = some (.row [.int .u64 0, .int .u64 0] 2 false, ptrTo) := by
  simp only [aAlloc, w_0]; rfl
theorem bl49_0 : aBuild E0 49 [] = some (.agg #[.int .u64 0, .int .u64 0]) := by kernel_rfl
theorem bl49_1 {x : Int} : aBuild E0 49 [(1, .int .u64 x)] = some (.agg #[.int .u64 0, .int .u64 x]) := by kernel_rfl
theorem bl49_2 {x y : Int} : aBuild E0 49 [(0, .int .u64 x), (1, .int .u64 y)] = some (.agg #[.int .u64 x, .int .u64 y]) := by kernel_rfl
theorem st49 {A : ASt} {b : Nat} {c0 c1 : Value} {tl : Bool} {x y : Int} (h : A.get b = some (.row [c0, c1] 2 tl)) : aStore E0 49 (.pointer (some ⟨b, 0, none⟩)) (.agg #[.int .u64 x, .int .u64 y]) A = some (A.set b (.row [.int .u64 x, .int .u64 y] 2 tl)) := by
  simp only [aStore, h, w_0]; rfl
theorem steps_spec {A : ASt} {a e t : Nat} (ha : a < 18446744073709551616) (he : e < 18446744073709551616) (ht : t < 18446744073709551616) :
    CallW Z Tryd.prog 19 [.int .u64 (a : Int), .int .u64 (e : Int), .int .u64 (t : Int)] A (fun v A' => v = .agg #[.int .u64 ((cnt a e t : Nat) : Int), .int .u64 ((rst a e t : Nat) : Int)] ∧ Fr [] A A') := by
  refine CallW.of_code E0_ok E0_ro fn19 rfl (n := 30) rfl (rs := [.cell 6 49]) rfl (by simp) (codeW_ok E0_ok E0_ro ?_)
  simp only [oneW_next, s_0, s_1, s_2, s_3, s_4, g_0, w_0, w_a, Hands, handsV, resultsV, oneOrTuple, argsT, ev, evs, evPairs, evOpt, closed, flat, nth, aCall, aEnter, notYield, aNilCheck, partV, isAggD, aFieldAddr, aField, aExtract, Option.isNone, aBuiltin, aUn, cond_true, cond_false, cond_dec, if_true, if_false, List.length_cons, List.length_nil, forall_const, implies_true, List.append_nil, List.cons_append, List.nil_append, eq_self, Nat.reduceEqDiff, Nat.reduceAdd, Nat.reduceMul, Nat.reduceSub, Nat.reduceLT, Nat.reduceLeDiff, Nat.reduceBEq, reduceIte, reduceCtorEq, zero49, ptrTo]
  have hg : (A.new (.row [.int .u64 0, .int .u64 0] 2 false)).get A.next = some (.row [.int .u64 0, .int .u64 0] 2 false) := by rw [ASt.get_new, if_pos rfl]
  have hf : Fr [] A (A.new (.row [.int .u64 0, .int .u64 0] 2 false)) := .new
  generalize A.new (.row [.int .u64 0, .int .u64 0] 2 false) = B at hg hf ⊢
  refine brW_dec (fun h => ?_) (fun h => ?_)
  · have hl : t < a := by omega
    have e1 : cnt a e t = 0 := by simp [cnt, hl]
    have e2 : rst a e t = 0 := by simp [rst, hl]
    simp only [oneW_next, s_0, s_1, s_2, s_3, s_4, g_0, w_0, w_a, Hands, handsV, resultsV, oneOrTuple, argsT, ev, evs, evPairs, evOpt, closed, flat, nth, aCall, aEnter, notYield, aNilCheck, partV, isAggD, aFieldAddr, aField, aExtract, Option.isNone, aBuiltin, aUn, cond_true, cond_false, cond_dec, if_true, if_false, List.length_cons, List.length_nil, forall_const, implies_true, List.append_nil, List.cons_append, List.nil_append, eq_self, Nat.reduceEqDiff, Nat.reduceAdd, Nat.reduceMul, Nat.reduceSub, Nat.reduceLT, Nat.reduceLeDiff, Nat.reduceBEq, reduceIte, reduceCtorEq, bl49_0, st49 hg, e1, e2, cut, List.take_succ_cons, List.take_zero, List.drop_zero, Option.some.injEq, Value.agg.injEq, Array.mk.injEq]
    exact ⟨rfl, hf.set (.inr (Nat.le_refl _))⟩
  · have hl : ¬ t < a := by omega
    have e3 := wrap_sub ht (Nat.le_of_not_lt hl)
    simp only [oneW_next, s_0, s_1, s_2, s_3, s_4, g_0, w_0, w_a, Hands, handsV, resultsV, oneOrTuple, argsT, ev, evs, evPairs, evOpt, closed, flat, nth, aCall, aEnter, notYield, aNilCheck, partV, isAggD, aFieldAddr, aField, aExtract, Option.isNone, aBuiltin, aUn, cond_true, cond_false, cond_dec, if_true, if_false, List.length_cons, List.length_nil, forall_const, implies_true, List.append_nil, List.cons_append, List.nil_append, eq_self, Nat.reduceEqDiff, Nat.reduceAdd, Nat.reduceMul, Nat.reduceSub, Nat.reduceLT, Nat.reduceLeDiff, Nat.reduceBEq, reduceIte, reduceCtorEq]
    refine brW_dec (fun h0 => ?_) (fun h0 => ?_)
    · have h0' : e = 0 := by omega
      have e1 : cnt a e t = 0 := by simp [cnt, hl, h0']
      have e2 : rst a e t = t - a := by simp [rst, hl, h0']
      simp only [oneW_next, s_0, s_1, s_2, s_3, s_4, g_0, w_0, w_a, Hands, handsV, resultsV, oneOrTuple, argsT, ev, evs, evPairs, evOpt, closed, flat, nth, aCall, aEnter, notYield, aNilCheck, partV, isAggD, aFieldAddr, aField, aExtract, Option.isNone, aBuiltin, aUn, cond_true, cond_false, cond_dec, if_true, if_false, List.length_cons, List.length_nil, forall_const, implies_true, List.append_nil, List.cons_append, List.nil_append, eq_self, Nat.reduceEqDiff, Nat.reduceAdd, Nat.reduceMul, Nat.reduceSub, Nat.reduceLT, Nat.reduceLeDiff, Nat.reduceBEq, reduceIte, reduceCtorEq, bl49_1, st49 hg, e1, e2, e3, cut, List.take_succ_cons, List.take_zero, List.drop_zero, Option.some.injEq, Value.agg.injEq, Array.mk.injEq]
      exact ⟨rfl, hf.set (.inr (Nat.le_refl _))⟩
    · have h0' : e ≠ 0 := by omega
      have e1 : cnt a e t = (t - a) / e := by simp [cnt, hl, h0']
      have e2 : rst a e t = (t - a) % e := by simp [rst, hl, h0']
      have hq : ∀ xo yo, aBin2 E0 .quo 22 xo yo (.int .u64 ((t - a : Nat) : Int)) (.int .u64 (e : Int)) = some (.int .u64 (((t - a) / e : Nat) : Int)) := fun xo yo => by
        rw [b_quo (by omega)]
        have e4 : ((t - a : Nat) : Int).tdiv (e : Int) = (((t - a) / e : Nat) : Int) := rfl
        rw [e4, wrap_nat (Nat.lt_of_le_of_lt (Nat.div_le_self _ _) (by omega))]
      have hr : ∀ xo yo, aBin2 E0 .rem 22 xo yo (.int .u64 ((t - a : Nat) : Int)) (.int .u64 (e : Int)) = some (.int .u64 (((t - a) % e : Nat) : Int)) := fun xo yo => b_rem_nat h0'
      simp only [oneW_next, s_0, s_1, s_2, s_3, s_4, g_0, w_0, w_a, Hands, handsV, resultsV, oneOrTuple, argsT, ev, evs, evPairs, evOpt, closed, flat, nth, aCall, aEnter, notYield, aNilCheck, partV, isAggD, aFieldAddr, aField, aExtract, Option.isNone, aBuiltin, aUn, cond_true, cond_false, cond_dec, if_true, if_false, List.length_cons, List.length_nil, forall_const, implies_true, List.append_nil, List.cons_append, List.nil_append, eq_self, Nat.reduceEqDiff, Nat.reduceAdd, Nat.reduceMul, Nat.reduceSub, Nat.reduceLT, Nat.reduceLeDiff, Nat.reduceBEq, reduceIte, reduceCtorEq]
      refine CodeW.seqf E0_ok E0_ro mixed noCon_ok [0, 1, 2, 3, 4, 5, 6, 7, 8, 9, 10, 11] [] (fanOf _ _ _) (by simp only [reorder, reoGo, strip, List.map_cons, List.map_nil, opAt, remap, nth, Option.map, σ, place', nbeq, List.length_cons, List.length_nil, Nat.reduceAdd, Nat.reduceLT, Nat.reduceEqDiff, if_true, if_false, reduceIte]; rfl) (by decide +kernel) (by kernel_rfl) (by kernel_rfl) (by kernel_rfl) rfl ?_
      have hst : ∀ n x y, aStore E0 49 (.pointer (some ⟨A.next, 0, none⟩)) (.agg #[.int .u64 x, .int .u64 y]) { heap := B.heap, next := n } = some (ASt.set { heap := B.heap, next := n } A.next (.row [.int .u64 x, .int .u64 y] 2 false)) := fun n x y => st49 (by rw [get_next]; exact hg)
      simp only [oneW_next, s_0, s_1, s_2, s_3, s_4, g_0, w_0, w_a, Hands, handsV, resultsV, oneOrTuple, argsT, ev, evs, evPairs, evOpt, closed, flat, nth, aCall, aEnter, notYield, aNilCheck, partV, isAggD, aFieldAddr, aField, aExtract, Option.isNone, aBuiltin, aUn, cond_true, cond_false, cond_dec, if_true, if_false, List.length_cons, List.length_nil, forall_const, implies_true, List.append_nil, List.cons_append, List.nil_append, eq_self, Nat.reduceEqDiff, Nat.reduceAdd, Nat.reduceMul, Nat.reduceSub, Nat.reduceLT, Nat.reduceLeDiff, Nat.reduceBEq, reduceIte, reduceCtorEq, q_0, q_1, q_2, f_0, pendW, hasN, reorder, E0_ron, exists_eq', List.length_cons, List.length_nil, e3, hq, hr, bl49_2, hst, e1, e2, cut, List.take_succ_cons, List.take_zero, List.drop_zero, Option.some.injEq, Value.agg.injEq, Array.mk.injEq]
      exact (hf.trans (Fr.bump (Nat.le_add_right _ _))).set (.inr (Nat.le_refl _))
theorem last_spec {A : ASt} {a e t : Nat} (ha : a < 18446744073709551616) (he : e < 18446744073709551616) (ht : t < 18446744073709551616) :
    CallW Z Tryd.prog 31 [.int .u64 (a : Int), .int .u64 (e : Int), .int .u64 (t : Int)] A (fun v A' => v = (if t < a then .tuple #[.int .u64 0, .bool false] else .tuple #[.int .u64 ((t - rst a e t : Nat) : Int), .bool true]) ∧ Fr [] A A') := by
  refine CallW.of_code E0_ok E0_ro fn31 rfl (n := 18) rfl (rs := [.tmp 6, .tmp 7]) rfl (by simp) (codeW_ok E0_ok E0_ro ?_)
  simp only [oneW_next, s_0, s_1, s_2, s_3, s_4, g_0, w_0, w_a, Hands, handsV, resultsV, oneOrTuple, argsT, ev, evs, evPairs, evOpt, closed, flat, nth, aCall, aEnter, notYield, aNilCheck, partV, isAggD, aFieldAddr, aField, aExtract, Option.isNone, aBuiltin, aUn, cond_true, cond_false, cond_dec, if_true, if_false, List.length_cons, List.length_nil, forall_const, implies_true, List.append_nil, List.cons_append, List.nil_append, eq_self, Nat.reduceEqDiff, Nat.reduceAdd, Nat.reduceMul, Nat.reduceSub, Nat.reduceLT, Nat.reduceLeDiff, Nat.reduceBEq, reduceIte, reduceCtorEq]
  refine brW_dec (fun h => ?_) (fun h => ?_)
  · have hl : t < a := by omega
    simp only [oneW_next, s_0, s_1, s_2, s_3, s_4, g_0, w_0, w_a, Hands, handsV, resultsV, oneOrTuple, argsT, ev, evs, evPairs, evOpt, closed, flat, nth, aCall, aEnter, notYield, aNilCheck, partV, isAggD, aFieldAddr, aField, aExtract, Option.isNone, aBuiltin, aUn, cond_true, cond_false, cond_dec, if_true, if_false, List.length_cons, List.length_nil, forall_const, implies_true, List.append_nil, List.cons_append, List.nil_append, eq_self, Nat.reduceEqDiff, Nat.reduceAdd, Nat.reduceMul, Nat.reduceSub, Nat.reduceLT, Nat.reduceLeDiff, Nat.reduceBEq, reduceIte, reduceCtorEq, hl]
    exact .refl _ _
  · have hl : ¬ t < a := by omega
    simp only [oneW_next, s_0, s_1, s_2, s_3, s_4, g_0, w_0, w_a, Hands, handsV, resultsV, oneOrTuple, argsT, ev, evs, evPairs, evOpt, closed, flat, nth, aCall, aEnter, notYield, aNilCheck, partV, isAggD, aFieldAddr, aField, aExtract, Option.isNone, aBuiltin, aUn, cond_true, cond_false, cond_dec, if_true, if_false, List.length_cons, List.length_nil, forall_const, implies_true, List.append_nil, List.cons_append, List.nil_append, eq_self, Nat.reduceEqDiff, Nat.reduceAdd, Nat.reduceMul, Nat.reduceSub, Nat.reduceLT, Nat.reduceLeDiff, Nat.reduceBEq, reduceIte, reduceCtorEq, hl]
    refine CallT.mono (steps_spec ha he ht) ?_
    rintro _ B ⟨rfl, hf⟩
    have hr : rst a e t ≤ t := by
      unfold rst
      rw [if_neg hl]
      split
      · omega
      · exact Nat.le_trans (Nat.mod_le _ _) (by omega)
    simp only [oneW_next, s_0, s_1, s_2, s_3, s_4, g_0, w_0, w_a, Hands, handsV, resultsV, oneOrTuple, argsT, ev, evs, evPairs, evOpt, closed, flat, nth, aCall, aEnter, notYield, aNilCheck, partV, isAggD, aFieldAddr, aField, aExtract, Option.isNone, aBuiltin, aUn, cond_true, cond_false, cond_dec, if_true, if_false, List.length_cons, List.length_nil, forall_const, implies_true, List.append_nil, List.cons_append, List.nil_append, eq_self, Nat.reduceEqDiff, Nat.reduceAdd, Nat.reduceMul, Nat.reduceSub, Nat.reduceLT, Nat.reduceLeDiff, Nat.reduceBEq, reduceIte, reduceCtorEq, aIndex, wrap_sub ht hr, hl]
    exact hf
/-- The first occurrence above a tick. -/
def nxt (a e t : Nat) : Option Nat := if t < a then some a else if e = 0 then none else if 18446744073709551616 ≤ t - rst a e t + e then none else some (t - rst a e t + e)
def optV : Option Nat → Value
  | some x => .tuple #[.int .u64 (x : Int), .bool true]
  | none => .tuple #[.int .u64 0, .bool false]
theorem add64_run {x y : Nat} : pureRun Tryd.prog (add64Entry #[.int .u64 (x : Int), .int .u64 (y : Int), .int .u64 0]) = some (.tuple #[.int .u64 (((x + y) % 18446744073709551616 : Nat) : Int), .int .u64 (((x + y) / 18446744073709551616 : Nat) : Int)]) := by
  rfl
theorem ext32 : E0.ext 32 = some (fun args => pureRun Tryd.prog (add64Entry args.toArray)) := rfl
theorem next_spec {A : ASt} {a e t : Nat} (ha : a < 18446744073709551616) (he : e < 18446744073709551616) (ht : t < 18446744073709551616) :
    CallW Z Tryd.prog 17 [.int .u64 (a : Int), .int .u64 (e : Int), .int .u64 (t : Int)] A (fun v A' => v = optV (nxt a e t) ∧ Fr [] A A') := by
  refine CallW.of_code E0_ok E0_ro fn17 rfl (n := 36) rfl (rs := [.tmp 6, .tmp 7]) rfl (by simp) (codeW_ok E0_ok E0_ro ?_)
  simp only [oneW_next, s_0, s_1, s_2, s_3, s_4, g_0, w_0, w_a, Hands, handsV, resultsV, oneOrTuple, argsT, ev, evs, evPairs, evOpt, closed, flat, nth, aCall, aEnter, notYield, aNilCheck, partV, isAggD, aFieldAddr, aField, aExtract, Option.isNone, aBuiltin, aUn, cond_true, cond_false, cond_dec, if_true, if_false, List.length_cons, List.length_nil, forall_const, implies_true, List.append_nil, List.cons_append, List.nil_append, eq_self, Nat.reduceEqDiff, Nat.reduceAdd, Nat.reduceMul, Nat.reduceSub, Nat.reduceLT, Nat.reduceLeDiff, Nat.reduceBEq, reduceIte, reduceCtorEq]
  refine brW_dec (fun h => ?_) (fun h => ?_)
  · have hl : t < a := by omega
    simp only [oneW_next, s_0, s_1, s_2, s_3, s_4, g_0, w_0, w_a, Hands, handsV, resultsV, oneOrTuple, argsT, ev, evs, evPairs, evOpt, closed, flat, nth, aCall, aEnter, notYield, aNilCheck, partV, isAggD, aFieldAddr, aField, aExtract, Option.isNone, aBuiltin, aUn, cond_true, cond_false, cond_dec, if_true, if_false, List.length_cons, List.length_nil, forall_const, implies_true, List.append_nil, List.cons_append, List.nil_append, eq_self, Nat.reduceEqDiff, Nat.reduceAdd, Nat.reduceMul, Nat.reduceSub, Nat.reduceLT, Nat.reduceLeDiff, Nat.reduceBEq, reduceIte, reduceCtorEq, nxt, hl, optV]
    exact .refl _ _
  · have hl : ¬ t < a := by omega
    simp only [oneW_next, s_0, s_1, s_2, s_3, s_4, g_0, w_0, w_a, Hands, handsV, resultsV, oneOrTuple, argsT, ev, evs, evPairs, evOpt, closed, flat, nth, aCall, aEnter, notYield, aNilCheck, partV, isAggD, aFieldAddr, aField, aExtract, Option.isNone, aBuiltin, aUn, cond_true, cond_false, cond_dec, if_true, if_false, List.length_cons, List.length_nil, forall_const, implies_true, List.append_nil, List.cons_append, List.nil_append, eq_self, Nat.reduceEqDiff, Nat.reduceAdd, Nat.reduceMul, Nat.reduceSub, Nat.reduceLT, Nat.reduceLeDiff, Nat.reduceBEq, reduceIte, reduceCtorEq]
    refine CallT.mono (last_spec ha he ht) ?_
    rintro _ B ⟨rfl, hf⟩
    have hr : rst a e t ≤ t := by
      unfold rst
      rw [if_neg hl]
      split
      · omega
      · exact Nat.le_trans (Nat.mod_le _ _) (by omega)
    by_cases h0 : e = 0
    · have d0 : ((e : Int) = 0) = True := eq_true (by omega)
      have en : nxt a e t = none := by simp [nxt, hl, h0]
      simp only [oneW_next, s_0, s_1, s_2, s_3, s_4, g_0, w_0, w_a, Hands, handsV, resultsV, oneOrTuple, argsT, ev, evs, evPairs, evOpt, closed, flat, nth, aCall, aEnter, notYield, aNilCheck, partV, isAggD, aFieldAddr, aField, aExtract, Option.isNone, aBuiltin, aUn, cond_true, cond_false, cond_dec, if_true, if_false, List.length_cons, List.length_nil, forall_const, implies_true, List.append_nil, List.cons_append, List.nil_append, eq_self, Nat.reduceEqDiff, Nat.reduceAdd, Nat.reduceMul, Nat.reduceSub, Nat.reduceLT, Nat.reduceLeDiff, Nat.reduceBEq, reduceIte, reduceCtorEq, hl, ext32, add64_run, flats, flat, d0, undef, en, optV]
      exact hf
    · have d0 : ((e : Int) = 0) = False := eq_false (by omega)
      by_cases h1 : 18446744073709551616 ≤ t - rst a e t + e
      · have d1 : ((((t - rst a e t + e) / 18446744073709551616 : Nat) : Int) > 0) = True := eq_true (by omega)
        have en : nxt a e t = none := by simp [nxt, hl, h0, h1]
        simp only [oneW_next, s_0, s_1, s_2, s_3, s_4, g_0, w_0, w_a, Hands, handsV, resultsV, oneOrTuple, argsT, ev, evs, evPairs, evOpt, closed, flat, nth, aCall, aEnter, notYield, aNilCheck, partV, isAggD, aFieldAddr, aField, aExtract, Option.isNone, aBuiltin, aUn, cond_true, cond_false, cond_dec, if_true, if_false, List.length_cons, List.length_nil, forall_const, implies_true, List.append_nil, List.cons_append, List.nil_append, eq_self, Nat.reduceEqDiff, Nat.reduceAdd, Nat.reduceMul, Nat.reduceSub, Nat.reduceLT, Nat.reduceLeDiff, Nat.reduceBEq, reduceIte, reduceCtorEq, hl, ext32, add64_run, flats, flat, d0, d1, undef, en, optV]
        exact hf
      · have d1 : ((((t - rst a e t + e) / 18446744073709551616 : Nat) : Int) > 0) = False := eq_false (by omega)
        have en : nxt a e t = some (t - rst a e t + e) := by simp [nxt, hl, h0, h1]
        have em : (t - rst a e t + e) % 18446744073709551616 = t - rst a e t + e := by omega
        simp only [oneW_next, s_0, s_1, s_2, s_3, s_4, g_0, w_0, w_a, Hands, handsV, resultsV, oneOrTuple, argsT, ev, evs, evPairs, evOpt, closed, flat, nth, aCall, aEnter, notYield, aNilCheck, partV, isAggD, aFieldAddr, aField, aExtract, Option.isNone, aBuiltin, aUn, cond_true, cond_false, cond_dec, if_true, if_false, List.length_cons, List.length_nil, forall_const, implies_true, List.append_nil, List.cons_append, List.nil_append, eq_self, Nat.reduceEqDiff, Nat.reduceAdd, Nat.reduceMul, Nat.reduceSub, Nat.reduceLT, Nat.reduceLeDiff, Nat.reduceBEq, reduceIte, reduceCtorEq, hl, ext32, add64_run, flats, flat, d0, d1, undef, en, optV, em]
        exact hf
/-- Whether a tick is an occurrence. -/
theorem index_spec {A : ASt} {a e t : Nat} (ha : a < 18446744073709551616) (he : e < 18446744073709551616) (ht : t < 18446744073709551616) :
    CallW Z Tryd.prog 8 [.int .u64 (a : Int), .int .u64 (e : Int), .int .u64 (t : Int)] A (fun v A' => (∃ n, v = .tuple #[.int .u64 n, .bool (decide (a ≤ t ∧ rst a e t = 0))]) ∧ Fr [] A A') := by
  refine CallW.of_code E0_ok E0_ro fn8 rfl (n := 23) rfl (rs := [.tmp 6, .tmp 7]) rfl (by simp) (codeW_ok E0_ok E0_ro ?_)
  simp only [oneW_next, s_0, s_1, s_2, s_3, s_4, g_0, w_0, w_a, Hands, handsV, resultsV, oneOrTuple, argsT, ev, evs, evPairs, evOpt, closed, flat, nth, aCall, aEnter, notYield, aNilCheck, partV, isAggD, aFieldAddr, aField, aExtract, Option.isNone, aBuiltin, aUn, cond_true, cond_false, cond_dec, if_true, if_false, List.length_cons, List.length_nil, forall_const, implies_true, List.append_nil, List.cons_append, List.nil_append, eq_self, Nat.reduceEqDiff, Nat.reduceAdd, Nat.reduceMul, Nat.reduceSub, Nat.reduceLT, Nat.reduceLeDiff, Nat.reduceBEq, reduceIte, reduceCtorEq]
  refine CallT.mono (steps_spec ha he ht) ?_
  rintro _ B ⟨rfl, hf⟩
  have st : ∀ x y : Int, aStore E0 49 (.pointer (some ⟨B.next, 0, none⟩)) (.agg #[.int .u64 x, .int .u64 y]) (B.new (.row [.int .u64 0, .int .u64 0] 2 false)) = some ((B.new (.row [.int .u64 0, .int .u64 0] 2 false)).set B.next (.row [.int .u64 x, .int .u64 y] 2 false)) := fun x y => st49 (by rw [ASt.get_new, if_pos rfl])
  have i0 : ∀ C b, aIndexAddr E0 49 (.pointer (some ⟨b, 0, none⟩)) (.int .i64 0) = some (.pointer (some ⟨b, 0, none⟩)) := fun C b => indexAddr_arr (A := C) ti49 t49_desc ti22 (k := 0) (off := 0) (by omega)
  have i1 : ∀ C b, aIndexAddr E0 49 (.pointer (some ⟨b, 0, none⟩)) (.int .i64 1) = some (.pointer (some ⟨b, 1, none⟩)) := fun C b => indexAddr_arr (A := C) ti49 t49_desc ti22 (k := 1) (off := 0) (by omega)
  have i0 := i0 B
  have i1 := i1 B
  have hf2 : Fr [] A ((B.new (.row [.int .u64 0, .int .u64 0] 2 false)).set B.next (.row [.int .u64 (cnt a e t : Int), .int .u64 (rst a e t : Int)] 2 false)) := (hf.trans .new).set (.inr hf.next)
  by_cases h1 : t < a
  · have d1 : ((t : Int) < (a : Int)) = True := eq_true (by omega)
    have d2 : decide (a ≤ t ∧ rst a e t = 0) = false := decide_eq_false (by omega)
    simp only [oneW_next, s_0, s_1, s_2, s_3, s_4, g_0, w_0, w_a, Hands, handsV, resultsV, oneOrTuple, argsT, ev, evs, evPairs, evOpt, closed, flat, nth, aCall, aEnter, notYield, aNilCheck, partV, isAggD, aFieldAddr, aField, aExtract, Option.isNone, aBuiltin, aUn, cond_true, cond_false, cond_dec, if_true, if_false, List.length_cons, List.length_nil, forall_const, implies_true, List.append_nil, List.cons_append, List.nil_append, eq_self, Nat.reduceEqDiff, Nat.reduceAdd, Nat.reduceMul, Nat.reduceSub, Nat.reduceLT, Nat.reduceLeDiff, Nat.reduceBEq, reduceIte, reduceCtorEq, zero49, ptrTo, st, d1, d2, undef]
    exact ⟨⟨_, rfl⟩, hf2⟩
  · have d1 : ((t : Int) < (a : Int)) = False := eq_false (by omega)
    by_cases h2 : rst a e t = 0
    · have d2 : (((rst a e t : Nat) : Int) > 0) = False := eq_false (by omega)
      have d3 : decide (a ≤ t ∧ rst a e t = 0) = true := decide_eq_true (by omega)
      simp only [oneW_next, s_0, s_1, s_2, s_3, s_4, g_0, w_0, w_a, Hands, handsV, resultsV, oneOrTuple, argsT, ev, evs, evPairs, evOpt, closed, flat, nth, aCall, aEnter, notYield, aNilCheck, partV, isAggD, aFieldAddr, aField, aExtract, Option.isNone, aBuiltin, aUn, cond_true, cond_false, cond_dec, if_true, if_false, List.length_cons, List.length_nil, forall_const, implies_true, List.append_nil, List.cons_append, List.nil_append, eq_self, Nat.reduceEqDiff, Nat.reduceAdd, Nat.reduceMul, Nat.reduceSub, Nat.reduceLT, Nat.reduceLeDiff, Nat.reduceBEq, reduceIte, reduceCtorEq, zero49, ptrTo, st, d1, d2, d3, i0, i1, undef]
      exact ⟨⟨_, rfl⟩, hf2⟩
    · have d2 : (((rst a e t : Nat) : Int) > 0) = True := eq_true (by omega)
      have d3 : decide (a ≤ t ∧ rst a e t = 0) = false := decide_eq_false (by omega)
      simp only [oneW_next, s_0, s_1, s_2, s_3, s_4, g_0, w_0, w_a, Hands, handsV, resultsV, oneOrTuple, argsT, ev, evs, evPairs, evOpt, closed, flat, nth, aCall, aEnter, notYield, aNilCheck, partV, isAggD, aFieldAddr, aField, aExtract, Option.isNone, aBuiltin, aUn, cond_true, cond_false, cond_dec, if_true, if_false, List.length_cons, List.length_nil, forall_const, implies_true, List.append_nil, List.cons_append, List.nil_append, eq_self, Nat.reduceEqDiff, Nat.reduceAdd, Nat.reduceMul, Nat.reduceSub, Nat.reduceLT, Nat.reduceLeDiff, Nat.reduceBEq, reduceIte, reduceCtorEq, zero49, ptrTo, st, d1, d2, d3, i0, i1, undef]
      exact ⟨⟨_, rfl⟩, hf2⟩
end Go.Proofs.YtgcffmhpjphefaaDoor

/- Steps: a clone, the same, few; a timer behind it fired. -/
namespace Go.Proofs.YtgcffmhpjphefaaDoor
open Go Go.AE
set_option maxRecDepth 10000
set_option maxHeartbeats 4000000
variable {Z : Go.AE.Road} {s : Spans}

theorem eqnilS_f {t e : TypeId} {ti : TIn} (ht : E0.ti t = some ti) (hd : ti.desc = .slice e) {xo yo : Operand} {x : Addr} {n c : Nat} : aBin2 E0 .eql t xo yo (.slice (some x) n c) (.slice none 0 0) = some (.bool false) := by
  simp [aBin2, aBin, eqV, ht, hd]
theorem eqnilS_t {t e : TypeId} {ti : TIn} (ht : E0.ti t = some ti) (hd : ti.desc = .slice e) {xo yo : Operand} : aBin2 E0 .eql t xo yo (.slice none 0 0) (.slice none 0 0) = some (.bool true) := by
  simp [aBin2, aBin, eqV, ht, hd]
theorem bs23 : aBuildSlice E0 23 0 [] = some (.row [] 4 false, fun id => .slice (some ⟨id, 0, none⟩) 0 0) := by kernel_rfl
theorem z36c : closed (.agg #[.int .i64 0, .string ByteArray.empty, .string ByteArray.empty, .int .i64 0]) = true := by kernel_rfl
theorem z36l : Nat.beq (Value.agg #[.int .i64 0, .string ByteArray.empty, .string ByteArray.empty, .int .i64 0]).cells.toList.length 4 = true := by kernel_rfl

theorem clone_spec (hro : RoadS Z E0 s) {A : ASt} {S : Nat → Prop} {v : Value} {l : List StepD} (h : Steps (withRo E0 s) A S v l) (hl : l.length ≤ 1000) :
    CallW Z Tryd.prog 33 [v] A (fun r A' => Steps (withRo E0 s) A' (fun b => A.next ≤ b) r l ∧ Fr [] A A') := by
  refine CallW.assume hro fun hnr => ?_
  refine CallW.of_code (withRo_ok E0_ok) hro.ro (f := 33) (fn := Tryd.f33) fn33 rfl (n := 8) rfl (rs := [.tmp 2]) rfl (by simp) (codeW_ok (withRo_ok E0_ok) hro.ro ?_)
  have h' := h
  rcases h with ⟨h1, rfl⟩ | ⟨b, o, cap, c, rfl, _⟩
  · simp only [w_w, oneW_next, s_0, s_1, s_2, s_3, s_4, g_0, w_0, w_a, Hands, handsV, resultsV, oneOrTuple, argsT, ev, evs, evPairs, evOpt, closed, flat, nth, aCall, aEnter, notYield, aNilCheck, partV, isAggD, aFieldAddr, aField, aExtract, Option.isNone, aBuiltin, aUn, cond_true, cond_false, cond_dec, if_true, if_false, List.length_cons, List.length_nil, forall_const, implies_true, List.append_nil, List.cons_append, List.nil_append, eq_self, Nat.reduceEqDiff, Nat.reduceAdd, Nat.reduceMul, Nat.reduceSub, Nat.reduceLT, Nat.reduceLeDiff, Nat.reduceBEq, reduceIte, reduceCtorEq, eqnilS_t ti23 t23_desc]
    exact ⟨.inl ⟨h1, rfl⟩, .refl _ _⟩
  · have hN : Fr [] A (A.new (.row [] 4 false)) := .new
    obtain ⟨r, B, ha, hb, hf⟩ := append_all hnr (h'.fr hN (by simp)) rfl rfl (xt := 23) scell_len (wti.trans ti23) t23_desc (wti.trans ti36) t36_size (wti.trans ti23) (by rw [t23_desc]; rfl) t36_zero z36c z36l (by omega) (by rw [t36_bytes, List.length_map]; omega) scell_sg
    simp only [w_w, oneW_next, s_0, s_1, s_2, s_3, s_4, g_0, w_0, w_a, Hands, handsV, resultsV, oneOrTuple, argsT, ev, evs, evPairs, evOpt, closed, flat, nth, aCall, aEnter, notYield, aNilCheck, partV, isAggD, aFieldAddr, aField, aExtract, Option.isNone, aBuiltin, aUn, cond_true, cond_false, cond_dec, if_true, if_false, List.length_cons, List.length_nil, forall_const, implies_true, List.append_nil, List.cons_append, List.nil_append, eq_self, Nat.reduceEqDiff, Nat.reduceAdd, Nat.reduceMul, Nat.reduceSub, Nat.reduceLT, Nat.reduceLeDiff, Nat.reduceBEq, reduceIte, reduceCtorEq, eqnilS_f ti23 t23_desc, bs23, ha]
    exact ⟨hb, hf⟩

/-- A timer. -/
structure TimD where
  name : ByteArray
  ver : Int
  at_ : Nat
  every : Nat
  steps : List StepD
def tcell (t : TimD) (dv : Value) : List Value := [.string t.name, .int .i64 t.ver, .int .u64 (t.at_ : Int), .int .u64 (t.every : Int), dv]
def tval (t : TimD) (dv : Value) : Value := .agg #[.string t.name, .int .i64 t.ver, .int .u64 (t.at_ : Int), .int .u64 (t.every : Int), dv]
theorem box25 {a b c d e : Value} : aBox E0 25 (.agg #[a, b, c, d, e]) = some (.row [a, b, c, d, e] 5 false, ptrTo) := by
  simp only [aBox, w_0]; rfl
theorem al25 : aAlloc E0 25 = some (.row [.string ByteArray.empty, .int .i64 0, .int .u64 0, .int .u64 0, .slice none 0 0] 5 false, ptrTo) := by
  simp only [aAlloc, w_0]; rfl
theorem st25 {A : ASt} {b : Nat} {c0 c1 c2 c3 c4 a0 a1 a2 a3 a4 : Value} {tl : Bool} (h : A.get b = some (.row [c0, c1, c2, c3, c4] 5 tl)) (hs : singles [a0, a1, a2, a3, a4] = true) : aStore E0 25 (.pointer (some ⟨b, 0, none⟩)) (.agg #[a0, a1, a2, a3, a4]) A = some (A.set b (.row [a0, a1, a2, a3, a4] 5 tl)) := by
  have e : (Value.agg #[a0, a1, a2, a3, a4]).cells.toList = [a0, a1, a2, a3, a4] := rfl
  simp only [aStore, h, w_0, e, hs]; rfl
theorem st23 {A : ASt} {b : Nat} {c0 c1 c2 c3 c4 v : Value} {tl : Bool} (h : A.get b = some (.row [c0, c1, c2, c3, c4] 5 tl)) (hs : v.cells = #[v]) (hv : single v = true) : aStore E0 23 (.pointer (some ⟨b, 4, none⟩)) v A = some (A.set b (.row [c0, c1, c2, c3, v] 5 tl)) := by
  have e : v.cells.toList = [v] := by rw [hs]
  have e2 : singles [v] = true := by simp only [singles, hv, Bool.and_self]
  simp only [aStore, h, w_0, e, e2]; rfl
theorem tim_sg {n : ByteArray} {v a e : Int} {r : Value} (h : Go.AE.single r = true) : singles [.string n, .int .i64 v, .int .u64 a, .int .u64 e, r] = true := by
  show (Go.AE.single r && true) = true
  rw [h]; rfl
theorem cut5 {a b c d e : Value} : cut [a, b, c, d, e] 0 5 = some [a, b, c, d, e] := rfl

theorem copied_spec (hro : RoadS Z E0 s) {A : ASt} {S : Nat → Prop} {t : TimD} {dv : Value} (h : Steps (withRo E0 s) A S dv t.steps) (hl : t.steps.length ≤ 1000) :
    CallW Z Tryd.prog 18 [tval t dv] A (fun r A' => ∃ dv', r = tval t dv' ∧ Steps (withRo E0 s) A' (fun b => A.next ≤ b) dv' t.steps ∧ Fr [] A A') := by
  refine CallW.of_code (withRo_ok E0_ok) hro.ro (f := 18) (fn := Tryd.f18) fn18 rfl (n := 8) rfl (rs := [.cell 2 25]) rfl (by simp) (codeW_ok (withRo_ok E0_ok) hro.ro ?_)
  have hsd := h.single
  simp only [w_w, oneW_next, s_0, s_1, s_2, s_3, s_4, g_0, w_0, w_a, Hands, handsV, resultsV, oneOrTuple, argsT, ev, evs, evPairs, evOpt, closed, flat, nth, aCall, aEnter, notYield, aNilCheck, partV, isAggD, aFieldAddr, aField, aExtract, Option.isNone, aBuiltin, aUn, cond_true, cond_false, cond_dec, if_true, if_false, List.length_cons, List.length_nil, forall_const, implies_true, List.append_nil, List.cons_append, List.nil_append, eq_self, Nat.reduceEqDiff, Nat.reduceAdd, Nat.reduceMul, Nat.reduceSub, Nat.reduceLT, Nat.reduceLeDiff, Nat.reduceBEq, reduceIte, reduceCtorEq, tval, box25, al25, ptrTo]
  generalize hC : ASt.new (ASt.new A _) _ = C
  obtain ⟨c1, c2, hn, hf⟩ := two_new hC
  clear hC
  refine CallT.mono (clone_spec hro (h.fr hf (by simp)) hl) ?_
  rintro r D ⟨hr, hf2⟩
  have d1 := (hf2.get _ (by omega) (by simp)).trans c1
  have d2 := (hf2.get _ (by omega) (by simp)).trans c2
  have g1 : (D.set A.next (.row [.string t.name, .int .i64 t.ver, .int .u64 (t.at_ : Int), .int .u64 (t.every : Int), r] 5 false)).get A.next = some (.row [.string t.name, .int .i64 t.ver, .int .u64 (t.at_ : Int), .int .u64 (t.every : Int), r] 5 false) := by rw [ASt.get_set, if_pos rfl]
  have g2 : (D.set A.next (.row [.string t.name, .int .i64 t.ver, .int .u64 (t.at_ : Int), .int .u64 (t.every : Int), r] 5 false)).get (A.next + 1) = D.get (A.next + 1) := by rw [ASt.get_set, if_neg (by omega)]
  have g2 := g2.trans d2
  have hsr : singles [.string t.name, .int .i64 t.ver, .int .u64 (t.at_ : Int), .int .u64 (t.every : Int), r] = true := tim_sg hr.single
  simp only [w_w, oneW_next, s_0, s_1, s_2, s_3, s_4, g_0, w_0, w_a, Hands, handsV, resultsV, oneOrTuple, argsT, ev, evs, evPairs, evOpt, closed, flat, nth, aCall, aEnter, notYield, aNilCheck, partV, isAggD, aFieldAddr, aField, aExtract, Option.isNone, aBuiltin, aUn, cond_true, cond_false, cond_dec, if_true, if_false, List.length_cons, List.length_nil, forall_const, implies_true, List.append_nil, List.cons_append, List.nil_append, eq_self, Nat.reduceEqDiff, Nat.reduceAdd, Nat.reduceMul, Nat.reduceSub, Nat.reduceLT, Nat.reduceLeDiff, Nat.reduceBEq, reduceIte, reduceCtorEq, st23 d1 hr.cells1 hr.single, g1, cut5, st25 g2 hsr]
  have hA : C.next ≤ D.next := hf2.next
  have f3 : Fr [A.next, A.next + 1] D ((D.set A.next (.row [.string t.name, .int .i64 t.ver, .int .u64 (t.at_ : Int), .int .u64 (t.every : Int), r] 5 false)).set (A.next + 1) (.row [.string t.name, .int .i64 t.ver, .int .u64 (t.at_ : Int), .int .u64 (t.every : Int), r] 5 false)) := ((Fr.refl _ _).set (.inl (by simp))).set (.inl (by simp))
  have g3 : ((D.set A.next (.row [.string t.name, .int .i64 t.ver, .int .u64 (t.at_ : Int), .int .u64 (t.every : Int), r] 5 false)).set (A.next + 1) (.row [.string t.name, .int .i64 t.ver, .int .u64 (t.at_ : Int), .int .u64 (t.every : Int), r] 5 false)).get (A.next + 1) = some (.row [.string t.name, .int .i64 t.ver, .int .u64 (t.at_ : Int), .int .u64 (t.every : Int), r] 5 false) := by rw [ASt.get_set, if_pos rfl]
  refine ⟨r, rfl, ((hr.imp (S' := fun b => A.next + 2 ≤ b) (fun b hb _ => by omega)).fr f3 (fun b hb _ => by simp; omega)).imp (fun b hb _ => by omega), ((hf.trans hf2).set (.inr (Nat.le_refl _))).set (.inr (by omega))⟩
end Go.Proofs.YtgcffmhpjphefaaDoor

/- A timer behind it fired; timers that are the same; few steps. -/
namespace Go.Proofs.YtgcffmhpjphefaaDoor
open Go Go.AE
set_option maxRecDepth 10000
set_option maxHeartbeats 4000000
variable {Z : Go.AE.Road} {s : Spans}

def zt : TimD := ⟨ByteArray.empty, 0, 0, 0, []⟩
/-- A timer behind it fired. -/
def aft (t : TimD) (now : Nat) : Option TimD := match nxt t.at_ t.every now with
  | some x => if 4611686018427387904 < x then none else some { t with at_ := x }
  | none => none
theorem nxt_lt {a e t x : Nat} (ha : a < 18446744073709551616) (h : nxt a e t = some x) : x < 18446744073709551616 := by
  unfold nxt at h
  split at h
  · cases h; exact ha
  · split at h
    · cases h
    · split at h
      · cases h
      · cases h; omega
theorem bl25 : aBuild E0 25 [] = some (tval zt (.slice none 0 0)) := by kernel_rfl
theorem st22 {A : ASt} {b : Nat} {c0 c1 c2 c3 c4 : Value} {tl : Bool} {x : Int} (h : A.get b = some (.row [c0, c1, c2, c3, c4] 5 tl)) : aStore E0 22 (.pointer (some ⟨b, 2, none⟩)) (.int .u64 x) A = some (A.set b (.row [c0, c1, .int .u64 x, c3, c4] 5 tl)) := by
  simp only [aStore, h, w_0]; rfl

theorem after_spec (hro : RoadS Z E0 s) {A : ASt} {S : Nat → Prop} {t : TimD} {dv : Value} {now : Nat} (h : Steps (withRo E0 s) A S dv t.steps) (hl : t.steps.length ≤ 1000) (ha : t.at_ < 18446744073709551616) (he : t.every < 18446744073709551616) (hn : now < 18446744073709551616) :
    CallW Z Tryd.prog 7 [tval t dv, .int .u64 (now : Int)] A (fun r A' => ∃ dv', r = .tuple #[tval ((aft t now).getD zt) dv', .bool (aft t now).isSome] ∧ Steps (withRo E0 s) A' (fun b => A.next ≤ b) dv' ((aft t now).getD zt).steps ∧ Fr [] A A') := by
  refine CallW.of_code (withRo_ok E0_ok) hro.ro (f := 7) (fn := Tryd.f7) fn7 rfl (n := 28) rfl (rs := [.cell 4 25, .tmp 5]) rfl (by simp) (codeW_ok (withRo_ok E0_ok) hro.ro ?_)
  simp only [w_w, oneW_next, s_0, s_1, s_2, s_3, s_4, g_0, w_0, w_a, Hands, handsV, resultsV, oneOrTuple, argsT, ev, evs, evPairs, evOpt, closed, flat, nth, aCall, aEnter, notYield, aNilCheck, partV, isAggD, aFieldAddr, aField, aExtract, Option.isNone, aBuiltin, aUn, cond_true, cond_false, cond_dec, if_true, if_false, List.length_cons, List.length_nil, forall_const, implies_true, List.append_nil, List.cons_append, List.nil_append, eq_self, Nat.reduceEqDiff, Nat.reduceAdd, Nat.reduceMul, Nat.reduceSub, Nat.reduceLT, Nat.reduceLeDiff, Nat.reduceBEq, reduceIte, reduceCtorEq, tval, box25, al25, ptrTo]
  generalize hC : ASt.new (ASt.new A _) _ = C
  obtain ⟨c1, c2, hCn, hf⟩ := two_new hC
  clear hC
  refine CallT.mono (next_spec ha he hn) ?_
  rintro _ D ⟨rfl, hf2⟩
  have hA : C.next ≤ D.next := hf2.next
  have d1 := (hf2.get _ (by omega) (by simp)).trans c1
  have d2 := (hf2.get _ (by omega) (by simp)).trans c2
  have hs := h.single
  have hzs : singles [.string zt.name, .int .i64 zt.ver, .int .u64 (zt.at_ : Int), .int .u64 (zt.every : Int), .slice none 0 0] = true := rfl
  have none_ : aft t now = none → (∃ x, (nxt t.at_ t.every now) = some x ∧ 4611686018427387904 < x) ∨ nxt t.at_ t.every now = none := by
    intro e
    unfold aft at e
    cases hx : nxt t.at_ t.every now with
    | none => exact .inr rfl
    | some x =>
      rw [hx] at e
      simp only at e
      split at e
      · rename_i hlt; exact .inl ⟨x, rfl, hlt⟩
      · cases e
  have fin : ∀ {v : Value}, v = .tuple #[tval zt (.slice none 0 0), .bool false] → aft t now = none → ∃ dv', v = .tuple #[tval ((aft t now).getD zt) dv', .bool (aft t now).isSome] ∧ Steps (withRo E0 s) (D.set (A.next + 1) (.row [.string zt.name, .int .i64 zt.ver, .int .u64 (zt.at_ : Int), .int .u64 (zt.every : Int), .slice none 0 0] 5 false)) (fun b => A.next ≤ b) dv' ((aft t now).getD zt).steps ∧ Fr [] A (D.set (A.next + 1) (.row [.string zt.name, .int .i64 zt.ver, .int .u64 (zt.at_ : Int), .int .u64 (zt.every : Int), .slice none 0 0] 5 false)) := by
    rintro v rfl e
    rw [e]
    exact ⟨.slice none 0 0, rfl, .inl ⟨rfl, rfl⟩, (hf.trans hf2).set (.inr (by omega))⟩
  cases ho : aft t now with
  | none =>
    have g2 : (D.set (A.next + 1) (.row [.string zt.name, .int .i64 zt.ver, .int .u64 (zt.at_ : Int), .int .u64 (zt.every : Int), .slice none 0 0] 5 false)).get (A.next + 1) = some (.row [.string zt.name, .int .i64 zt.ver, .int .u64 (zt.at_ : Int), .int .u64 (zt.every : Int), .slice none 0 0] 5 false) := by rw [ASt.get_set, if_pos rfl]
    rw [ho] at fin
    rcases none_ ho with ⟨x, hx, hlt⟩ | hx
    · have dx : ((x : Int) > 4611686018427387904) = True := eq_true (by omega)
      simp only [w_w, oneW_next, s_0, s_1, s_2, s_3, s_4, g_0, w_0, w_a, Hands, handsV, resultsV, oneOrTuple, argsT, ev, evs, evPairs, evOpt, closed, flat, nth, aCall, aEnter, notYield, aNilCheck, partV, isAggD, aFieldAddr, aField, aExtract, Option.isNone, aBuiltin, aUn, cond_true, cond_false, cond_dec, if_true, if_false, List.length_cons, List.length_nil, forall_const, implies_true, List.append_nil, List.cons_append, List.nil_append, eq_self, Nat.reduceEqDiff, Nat.reduceAdd, Nat.reduceMul, Nat.reduceSub, Nat.reduceLT, Nat.reduceLeDiff, Nat.reduceBEq, reduceIte, reduceCtorEq, hx, optV, dx, bl25, st25 d2 hzs, tval, g2, cut5, undef]
      exact fin rfl rfl
    · simp only [w_w, oneW_next, s_0, s_1, s_2, s_3, s_4, g_0, w_0, w_a, Hands, handsV, resultsV, oneOrTuple, argsT, ev, evs, evPairs, evOpt, closed, flat, nth, aCall, aEnter, notYield, aNilCheck, partV, isAggD, aFieldAddr, aField, aExtract, Option.isNone, aBuiltin, aUn, cond_true, cond_false, cond_dec, if_true, if_false, List.length_cons, List.length_nil, forall_const, implies_true, List.append_nil, List.cons_append, List.nil_append, eq_self, Nat.reduceEqDiff, Nat.reduceAdd, Nat.reduceMul, Nat.reduceSub, Nat.reduceLT, Nat.reduceLeDiff, Nat.reduceBEq, reduceIte, reduceCtorEq, hx, optV, bl25, st25 d2 hzs, tval, g2, cut5, undef]
      exact fin rfl rfl
  | some u =>
    have hx : nxt t.at_ t.every now = some u.at_ ∧ u = { t with at_ := u.at_ } ∧ ¬ 4611686018427387904 < u.at_ := by
      unfold aft at ho
      cases hx : nxt t.at_ t.every now with
      | none => rw [hx] at ho; cases ho
      | some x =>
        rw [hx] at ho
        simp only at ho
        split at ho
        · cases ho
        · rename_i hlt; cases ho; exact ⟨rfl, rfl, hlt⟩
    obtain ⟨hx, hu, hlt⟩ := hx
    have hus : u.steps = t.steps := by rw [hu]
    have hun : u.name = t.name := by rw [hu]
    have huv : u.ver = t.ver := by rw [hu]
    have hue : u.every = t.every := by rw [hu]
    have dx : ((u.at_ : Int) > 4611686018427387904) = False := eq_false (by omega)
    simp only [w_w, oneW_next, s_0, s_1, s_2, s_3, s_4, g_0, w_0, w_a, Hands, handsV, resultsV, oneOrTuple, argsT, ev, evs, evPairs, evOpt, closed, flat, nth, aCall, aEnter, notYield, aNilCheck, partV, isAggD, aFieldAddr, aField, aExtract, Option.isNone, aBuiltin, aUn, cond_true, cond_false, cond_dec, if_true, if_false, List.length_cons, List.length_nil, forall_const, implies_true, List.append_nil, List.cons_append, List.nil_append, eq_self, Nat.reduceEqDiff, Nat.reduceAdd, Nat.reduceMul, Nat.reduceSub, Nat.reduceLT, Nat.reduceLeDiff, Nat.reduceBEq, reduceIte, reduceCtorEq, hx, optV, dx, st22 d1]
    generalize hE : D.set A.next _ = X
    have x1 : X.get A.next = some (.row [.string t.name, .int .i64 t.ver, .int .u64 (u.at_ : Int), .int .u64 (t.every : Int), dv] 5 false) := by rw [← hE, ASt.get_set, if_pos rfl]
    have x2 : X.get (A.next + 1) = D.get (A.next + 1) := by rw [← hE, ASt.get_set, if_neg (by omega)]
    have x2 := x2.trans d2
    have hfX : Fr [] A X := by rw [← hE]; exact (hf.trans hf2).set (.inr (Nat.le_refl _))
    have hXn : X.next = D.next := by rw [← hE, ASt.next_set]
    clear hE
    simp only [w_w, oneW_next, s_0, s_1, s_2, s_3, s_4, g_0, w_0, w_a, Hands, handsV, resultsV, oneOrTuple, argsT, ev, evs, evPairs, evOpt, closed, flat, nth, aCall, aEnter, notYield, aNilCheck, partV, isAggD, aFieldAddr, aField, aExtract, Option.isNone, aBuiltin, aUn, cond_true, cond_false, cond_dec, if_true, if_false, List.length_cons, List.length_nil, forall_const, implies_true, List.append_nil, List.cons_append, List.nil_append, eq_self, Nat.reduceEqDiff, Nat.reduceAdd, Nat.reduceMul, Nat.reduceSub, Nat.reduceLT, Nat.reduceLeDiff, Nat.reduceBEq, reduceIte, reduceCtorEq, x1, cut5]
    have hc := copied_spec hro (A := X) (S := S) (t := u) (dv := dv) (by rw [hus]; exact h.fr hfX (by simp)) (by rw [hus]; exact hl)
    have hte : tval u dv = .agg #[.string t.name, .int .i64 t.ver, .int .u64 (u.at_ : Int), .int .u64 (t.every : Int), dv] := by rw [tval, hun, huv, hue]
    rw [hte] at hc
    refine CallT.mono hc ?_
    rintro _ Y ⟨r, rfl, hr, hf3⟩
    have hYn := hf3.next
    have y2 := (hf3.get _ (by omega) (by simp)).trans x2
    simp only [w_w, oneW_next, s_0, s_1, s_2, s_3, s_4, g_0, w_0, w_a, Hands, handsV, resultsV, oneOrTuple, argsT, ev, evs, evPairs, evOpt, closed, flat, nth, aCall, aEnter, notYield, aNilCheck, partV, isAggD, aFieldAddr, aField, aExtract, Option.isNone, aBuiltin, aUn, cond_true, cond_false, cond_dec, if_true, if_false, List.length_cons, List.length_nil, forall_const, implies_true, List.append_nil, List.cons_append, List.nil_append, eq_self, Nat.reduceEqDiff, Nat.reduceAdd, Nat.reduceMul, Nat.reduceSub, Nat.reduceLT, Nat.reduceLeDiff, Nat.reduceBEq, reduceIte, reduceCtorEq, tval, st25 y2 (tim_sg hr.single)]
    have g2 : (Y.set (A.next + 1) (.row [.string u.name, .int .i64 u.ver, .int .u64 (u.at_ : Int), .int .u64 (u.every : Int), r] 5 false)).get (A.next + 1) = some (.row [.string u.name, .int .i64 u.ver, .int .u64 (u.at_ : Int), .int .u64 (u.every : Int), r] 5 false) := by rw [ASt.get_set, if_pos rfl]
    simp only [w_w, oneW_next, s_0, s_1, s_2, s_3, s_4, g_0, w_0, w_a, Hands, handsV, resultsV, oneOrTuple, argsT, ev, evs, evPairs, evOpt, closed, flat, nth, aCall, aEnter, notYield, aNilCheck, partV, isAggD, aFieldAddr, aField, aExtract, Option.isNone, aBuiltin, aUn, cond_true, cond_false, cond_dec, if_true, if_false, List.length_cons, List.length_nil, forall_const, implies_true, List.append_nil, List.cons_append, List.nil_append, eq_self, Nat.reduceEqDiff, Nat.reduceAdd, Nat.reduceMul, Nat.reduceSub, Nat.reduceLT, Nat.reduceLeDiff, Nat.reduceBEq, reduceIte, reduceCtorEq, g2, cut5]
    refine ⟨r, rfl, ?_, ?_⟩
    · have := (hr.imp (S' := fun b => A.next + 2 ≤ b) (fun b hb _ => by omega)).fr (own := [A.next + 1]) (A' := Y.set (A.next + 1) (.row [.string u.name, .int .i64 u.ver, .int .u64 (u.at_ : Int), .int .u64 (u.every : Int), r] 5 false)) ((Fr.refl _ _).set (.inl (by simp))) (fun b hb _ => by simp; omega)
      exact this.imp (fun b hb _ => by omega)
    · exact (hfX.trans hf3).set (.inr (by omega))
end Go.Proofs.YtgcffmhpjphefaaDoor

/- Steps and timers that are the same; few steps. -/
namespace Go.Proofs.YtgcffmhpjphefaaDoor
open Go Go.AE
set_option maxRecDepth 10000
set_option maxHeartbeats 4000000
variable {Z : Go.AE.Road} {s : Spans}

theorem wrap_succT {i : Nat} (h : i < 1000000) : IntKind.i64.wrap ((i : Int) + 1) = ((i + 1 : Nat) : Int) := by
  rw [IntKind.wrap_i64]; omega
theorem map_get {l : List StepD} {i : Nat} (h : i < l.length) : (l.map scell)[i]? = some (scell l[i]) := by simp [h]
/-- Equal steps are told to be the same. -/
theorem same_steps (hro : RoadS Z E0 s) {A : ASt} {S1 S2 : Nat → Prop} {v1 v2 : Value} {l : List StepD} (h1 : Steps (withRo E0 s) A S1 v1 l) (h2 : Steps (withRo E0 s) A S2 v2 l) (hl : l.length ≤ 1000) :
    CallW Z Tryd.prog 20 [v1, v2] A (fun r A' => r = .bool true ∧ Fr [] A A') := by
  refine CallW.of_code (withRo_ok E0_ok) hro.ro (f := 20) (fn := Tryd.f20) fn20 rfl (n := 26) rfl (rs := [.tmp 4]) rfl (by simp) (codeW_ok (withRo_ok E0_ok) hro.ro ?_)
  have l1 := h1.len (wti.trans ti23) t23_desc
  have l2 := h2.len (wti.trans ti23) t23_desc
  simp only [wlen, List.length_map] at l1 l2
  have fne : ∀ q : Int, (q ≠ q) = False := fun q => eq_false (by simp)
  simp only [w_w, oneW_next, s_0, s_1, s_2, s_3, s_4, g_0, w_0, w_a, Hands, handsV, resultsV, oneOrTuple, argsT, ev, evs, evPairs, evOpt, closed, flat, nth, aCall, aEnter, notYield, aNilCheck, partV, isAggD, aFieldAddr, aField, aExtract, Option.isNone, aBuiltin, aUn, cond_true, cond_false, cond_dec, if_true, if_false, List.length_cons, List.length_nil, forall_const, implies_true, List.append_nil, List.cons_append, List.nil_append, eq_self, Nat.reduceEqDiff, Nat.reduceAdd, Nat.reduceMul, Nat.reduceSub, Nat.reduceLT, Nat.reduceLeDiff, Nat.reduceBEq, reduceIte, reduceCtorEq, l1, l2, fne]
  refine CodeW.mono (Q := fun o => ∃ T' A', o = .fr ⟨.exit 0, T', A'⟩ ∧ Fr [] A A') ?_ ?_
  · refine CodeW.loopR (k := l.length) (fun n T A' => ∃ i, n = l.length - i ∧ i ≤ l.length ∧ tget T 5 = .int .i64 ((i : Nat) : Int) ∧ tget T 0 = v1 ∧ tget T 1 = v2 ∧ Fr [] A A') ?_ ⟨0, rfl, by omega, ?_, ?_, ?_, .refl _ _⟩
    · rintro n T A1 ⟨i, rfl, hi, u5, u0, u1, hf⟩
      refine codeW_ok (withRo_ok E0_ok) hro.ro ?_
      by_cases e1 : i < l.length
      · have d1 : ((i : Int) < (l.length : Int)) = True := eq_true (by omega)
        have g1 := h1.fr hf (by simp)
        have g2 := h2.fr hf (by simp)
        obtain ⟨b1, p1, c1, hx1, hc1, _, _, hcut1, _⟩ := g1.ix (wti.trans ti23) t23_desc (wti.trans ti36) t36_size (map_get e1)
        obtain ⟨b2, p2, c2, hx2, hc2, _, _, hcut2, _⟩ := g2.ix (wti.trans ti23) t23_desc (wti.trans ti36) t36_size (map_get e1)
        simp only [wix] at hx1 hx2
        have k1 := h1.ve
        have k2 := h2.ve
        have vs : valEq (.agg #[.int .i64 l[i].kind, .string l[i].key, .string l[i].val, .int .i64 l[i].n]) (.agg #[.int .i64 l[i].kind, .string l[i].key, .string l[i].val, .int .i64 l[i].n]) = true := by
          simp [valEq, vEq, vStep, flatEq, lEq, bytesEq_iff]
        simp only [scell] at hcut1 hcut2
        simp only [w_w, oneW_next, s_0, s_1, s_2, s_3, s_4, g_0, w_0, w_a, Hands, handsV, resultsV, oneOrTuple, argsT, ev, evs, evPairs, evOpt, closed, flat, nth, aCall, aEnter, notYield, aNilCheck, partV, isAggD, aFieldAddr, aField, aExtract, Option.isNone, aBuiltin, aUn, cond_true, cond_false, cond_dec, if_true, if_false, List.length_cons, List.length_nil, forall_const, implies_true, List.append_nil, List.cons_append, List.nil_append, eq_self, Nat.reduceEqDiff, Nat.reduceAdd, Nat.reduceMul, Nat.reduceSub, Nat.reduceLT, Nat.reduceLeDiff, Nat.reduceBEq, reduceIte, reduceCtorEq, u5, u0, l1, d1]
        refine CodeW.quiet (withRo_ok E0_ok) hro.ro mixed (by kernel_rfl) (by kernel_rfl) ?_
        rcases hc1 with ⟨a1, r1⟩ | ⟨⟨_, _, a1⟩, r1⟩ <;> rcases hc2 with ⟨a2, r2⟩ | ⟨⟨_, _, a2⟩, r2⟩ <;>
        · simp only [w_w, oneW_next, s_0, s_1, s_2, s_3, s_4, g_0, w_0, w_a, Hands, handsV, resultsV, oneOrTuple, argsT, ev, evs, evPairs, evOpt, closed, flat, nth, aCall, aEnter, notYield, aNilCheck, partV, isAggD, aFieldAddr, aField, aExtract, Option.isNone, aBuiltin, aUn, cond_true, cond_false, cond_dec, if_true, if_false, List.length_cons, List.length_nil, forall_const, implies_true, List.append_nil, List.cons_append, List.nil_append, eq_self, Nat.reduceEqDiff, Nat.reduceAdd, Nat.reduceMul, Nat.reduceSub, Nat.reduceLT, Nat.reduceLeDiff, Nat.reduceBEq, reduceIte, reduceCtorEq, quietW_nil, quietW_arr, quietW_cons, aStill, freshOp, quietOp, E0_ron, get_empty, get_next, ofVal_none, valEq_int, valEq_str, valEq_bool, valEq_map, valEq_ptr, valEq_slice, valEq_nilSlice, valEq_mapNil, List.length_cons, List.length_nil, u5, u0, u1, hx1, hx2, a1, a2, r1, r2, hcut1, hcut2, k1, k2, vs, neqStep, wrap_succT (show i < 1000000 by omega)]
          exact ⟨l.length - (i + 1), by omega, i + 1, rfl, by omega, rfl, hf.trans (Fr.bump (by omega))⟩
      · have d1 : ((i : Int) < (l.length : Int)) = False := eq_false (by omega)
        simp only [w_w, oneW_next, s_0, s_1, s_2, s_3, s_4, g_0, w_0, w_a, Hands, handsV, resultsV, oneOrTuple, argsT, ev, evs, evPairs, evOpt, closed, flat, nth, aCall, aEnter, notYield, aNilCheck, partV, isAggD, aFieldAddr, aField, aExtract, Option.isNone, aBuiltin, aUn, cond_true, cond_false, cond_dec, if_true, if_false, List.length_cons, List.length_nil, forall_const, implies_true, List.append_nil, List.cons_append, List.nil_append, eq_self, Nat.reduceEqDiff, Nat.reduceAdd, Nat.reduceMul, Nat.reduceSub, Nat.reduceLT, Nat.reduceLeDiff, Nat.reduceBEq, reduceIte, reduceCtorEq, u5, u0, l1, d1]
        exact ⟨_, _, rfl, hf⟩
    all_goals simp only [tget_put, Nat.reduceEqDiff, if_false, if_true, reduceIte, and_self]
    all_goals rfl
  · rintro o ⟨T', A', rfl, hf⟩
    simp only [w_w, oneW_next, s_0, s_1, s_2, s_3, s_4, g_0, w_0, w_a, Hands, handsV, resultsV, oneOrTuple, argsT, ev, evs, evPairs, evOpt, closed, flat, nth, aCall, aEnter, notYield, aNilCheck, partV, isAggD, aFieldAddr, aField, aExtract, Option.isNone, aBuiltin, aUn, cond_true, cond_false, cond_dec, if_true, if_false, List.length_cons, List.length_nil, forall_const, implies_true, List.append_nil, List.cons_append, List.nil_append, eq_self, Nat.reduceEqDiff, Nat.reduceAdd, Nat.reduceMul, Nat.reduceSub, Nat.reduceLT, Nat.reduceLeDiff, Nat.reduceBEq, reduceIte, reduceCtorEq]
    exact hf
/-- Equal timers are told to be the same. -/
theorem same_tim (hro : RoadS Z E0 s) {A : ASt} {S1 S2 : Nat → Prop} {t : TimD} {v1 v2 : Value} (h1 : Steps (withRo E0 s) A S1 v1 t.steps) (h2 : Steps (withRo E0 s) A S2 v2 t.steps) (hl : t.steps.length ≤ 1000) :
    CallW Z Tryd.prog 9 [tval t v1, tval t v2] A (fun r A' => r = .bool true ∧ Fr [] A A') := by
  refine CallW.of_code (withRo_ok E0_ok) hro.ro (f := 9) (fn := Tryd.f9) fn9 rfl (n := 40) rfl (rs := [.tmp 4]) rfl (by simp) (codeW_ok (withRo_ok E0_ok) hro.ro ?_)
  simp only [w_w, oneW_next, s_0, s_1, s_2, s_3, s_4, g_0, w_0, w_a, Hands, handsV, resultsV, oneOrTuple, argsT, ev, evs, evPairs, evOpt, closed, flat, nth, aCall, aEnter, notYield, aNilCheck, partV, isAggD, aFieldAddr, aField, aExtract, Option.isNone, aBuiltin, aUn, cond_true, cond_false, cond_dec, if_true, if_false, List.length_cons, List.length_nil, forall_const, implies_true, List.append_nil, List.cons_append, List.nil_append, eq_self, Nat.reduceEqDiff, Nat.reduceAdd, Nat.reduceMul, Nat.reduceSub, Nat.reduceLT, Nat.reduceLeDiff, Nat.reduceBEq, reduceIte, reduceCtorEq, tval, box25, ptrTo]
  generalize hC : ASt.new (ASt.new A _) _ = C
  obtain ⟨c1, c2, hn, hf⟩ := two_new hC
  clear hC
  refine CallT.mono (same_steps hro (h1.fr hf (by simp)) (h2.fr hf (by simp)) hl) ?_
  rintro _ D ⟨rfl, hf2⟩
  have d1 := (hf2.get _ (by omega) (by simp)).trans c1
  have d2 := (hf2.get _ (by omega) (by simp)).trans c2
  simp only [w_w, oneW_next, s_0, s_1, s_2, s_3, s_4, g_0, w_0, w_a, Hands, handsV, resultsV, oneOrTuple, argsT, ev, evs, evPairs, evOpt, closed, flat, nth, aCall, aEnter, notYield, aNilCheck, partV, isAggD, aFieldAddr, aField, aExtract, Option.isNone, aBuiltin, aUn, cond_true, cond_false, cond_dec, if_true, if_false, List.length_cons, List.length_nil, forall_const, implies_true, List.append_nil, List.cons_append, List.nil_append, eq_self, Nat.reduceEqDiff, Nat.reduceAdd, Nat.reduceMul, Nat.reduceSub, Nat.reduceLT, Nat.reduceLeDiff, Nat.reduceBEq, reduceIte, reduceCtorEq, d1, d2, b_seql]
  exact hf.trans hf2

/-- Few steps, and short texts. -/
theorem fits_spec (hro : RoadS Z E0 s) {A : ASt} {S1 : Nat → Prop} {t : TimD} {v1 : Value} (h1 : Steps (withRo E0 s) A S1 v1 t.steps) :
    CallW Z Tryd.prog 5 [tval t v1] A (fun r A' => (∃ b, r = .bool b ∧ (b = true → t.steps.length ≤ 10 ∧ t.name.size ≤ 100 ∧ ∀ y ∈ t.steps, y.key.size ≤ 100 ∧ y.val.size ≤ 100)) ∧ Fr [] A A') := by
  refine CallW.of_code (withRo_ok E0_ok) hro.ro (f := 5) (fn := Tryd.f5) fn5 rfl (n := 37) rfl (rs := [.tmp 2]) rfl (by simp) (codeW_ok (withRo_ok E0_ok) hro.ro ?_)
  have l1 := h1.len (wti.trans ti23) t23_desc
  simp only [wlen, List.length_map] at l1
  have ls : ∀ (k : ByteArray) (B : ASt), aLen E0 9 (.string k) B = some (.int .i64 (k.size : Int)) := fun k B => len_str ti9 t9_desc
  simp only [w_w, oneW_next, s_0, s_1, s_2, s_3, s_4, g_0, w_0, w_a, Hands, handsV, resultsV, oneOrTuple, argsT, ev, evs, evPairs, evOpt, closed, flat, nth, aCall, aEnter, notYield, aNilCheck, partV, isAggD, aFieldAddr, aField, aExtract, Option.isNone, aBuiltin, aUn, cond_true, cond_false, cond_dec, if_true, if_false, List.length_cons, List.length_nil, forall_const, implies_true, List.append_nil, List.cons_append, List.nil_append, eq_self, Nat.reduceEqDiff, Nat.reduceAdd, Nat.reduceMul, Nat.reduceSub, Nat.reduceLT, Nat.reduceLeDiff, Nat.reduceBEq, reduceIte, reduceCtorEq, tval, box25, ptrTo]
  generalize hC : ASt.new A _ = C
  have c1 : C.get A.next = some (.row [.string t.name, .int .i64 t.ver, .int .u64 (t.at_ : Int), .int .u64 (t.every : Int), v1] 5 false) := by rw [← hC, ASt.get_new, if_pos rfl]
  have hf : Fr [] A C := by rw [← hC]; exact .new
  clear hC
  have g1 := h1.fr hf (by simp)
  refine CodeW.mono (Q := fun o => (∃ T', o = .fr ⟨.ret, T', C⟩ ∧ tget T' 2 = .bool false) ∨ ∃ T', o = .fr ⟨.exit 0, T', C⟩ ∧ tget T' 1 = .pointer (some ⟨A.next, 0, none⟩) ∧ t.steps.length ≤ 10 ∧ ∀ y ∈ t.steps, y.key.size ≤ 100 ∧ y.val.size ≤ 100) ?_ ?_
  · refine CodeW.loopR (k := 11) (fun n T A' => ∃ i, n = 11 - i ∧ i ≤ 10 ∧ i ≤ t.steps.length ∧ tget T 3 = .int .i64 ((i : Nat) : Int) ∧ tget T 1 = .pointer (some ⟨A.next, 0, none⟩) ∧ (∀ y ∈ t.steps.take i, y.key.size ≤ 100 ∧ y.val.size ≤ 100) ∧ A' = C) ?_ ⟨0, rfl, by omega, by omega, ?_, ?_, by simp, rfl⟩
    · rintro n T A1 ⟨i, rfl, hi, hil, u3, u1, hall, rfl⟩
      refine codeW_ok (withRo_ok E0_ok) hro.ro ?_
      by_cases e1 : i < t.steps.length
      · have d1 : ((i : Int) < (t.steps.length : Int)) = True := eq_true (by omega)
        by_cases e2 : i = 10
        · have d2 : ((i : Int) = 10) = True := eq_true (by omega)
          simp only [w_w, oneW_next, s_0, s_1, s_2, s_3, s_4, g_0, w_0, w_a, Hands, handsV, resultsV, oneOrTuple, argsT, ev, evs, evPairs, evOpt, closed, flat, nth, aCall, aEnter, notYield, aNilCheck, partV, isAggD, aFieldAddr, aField, aExtract, Option.isNone, aBuiltin, aUn, cond_true, cond_false, cond_dec, if_true, if_false, List.length_cons, List.length_nil, forall_const, implies_true, List.append_nil, List.cons_append, List.nil_append, eq_self, Nat.reduceEqDiff, Nat.reduceAdd, Nat.reduceMul, Nat.reduceSub, Nat.reduceLT, Nat.reduceLeDiff, Nat.reduceBEq, reduceIte, reduceCtorEq, u3, u1, c1, l1, d1, d2, undef]
          exact .inl ⟨_, rfl, by simp only [tget_put, Nat.reduceEqDiff, if_false, if_true, reduceIte]⟩
        · have d2 : ((i : Int) = 10) = False := eq_false (by omega)
          obtain ⟨b, p, c, hx, hc, _, _, _, hnth⟩ := g1.ix (wti.trans ti23) t23_desc (wti.trans ti36) t36_size (map_get e1)
          simp only [wix] at hx
          have hcg := hc.g
          have n1 := hnth 1 _ rfl
          have n2 := hnth 2 _ rfl
          by_cases e3 : t.steps[i].key.size > 100
          · have d3 : (((t.steps[i].key.size : Nat) : Int) > 100) = True := eq_true (by omega)
            simp only [w_w, oneW_next, s_0, s_1, s_2, s_3, s_4, g_0, w_0, w_a, Hands, handsV, resultsV, oneOrTuple, argsT, ev, evs, evPairs, evOpt, closed, flat, nth, aCall, aEnter, notYield, aNilCheck, partV, isAggD, aFieldAddr, aField, aExtract, Option.isNone, aBuiltin, aUn, cond_true, cond_false, cond_dec, if_true, if_false, List.length_cons, List.length_nil, forall_const, implies_true, List.append_nil, List.cons_append, List.nil_append, eq_self, Nat.reduceEqDiff, Nat.reduceAdd, Nat.reduceMul, Nat.reduceSub, Nat.reduceLT, Nat.reduceLeDiff, Nat.reduceBEq, reduceIte, reduceCtorEq, u3, u1, c1, l1, d1, d2, hx, hcg, n1, ls, d3, undef]
            exact .inl ⟨_, rfl, by simp only [tget_put, Nat.reduceEqDiff, if_false, if_true, reduceIte]⟩
          · have d3 : (((t.steps[i].key.size : Nat) : Int) > 100) = False := eq_false (by omega)
            by_cases e4 : t.steps[i].val.size > 100
            · have d4 : (((t.steps[i].val.size : Nat) : Int) > 100) = True := eq_true (by omega)
              simp only [w_w, oneW_next, s_0, s_1, s_2, s_3, s_4, g_0, w_0, w_a, Hands, handsV, resultsV, oneOrTuple, argsT, ev, evs, evPairs, evOpt, closed, flat, nth, aCall, aEnter, notYield, aNilCheck, partV, isAggD, aFieldAddr, aField, aExtract, Option.isNone, aBuiltin, aUn, cond_true, cond_false, cond_dec, if_true, if_false, List.length_cons, List.length_nil, forall_const, implies_true, List.append_nil, List.cons_append, List.nil_append, eq_self, Nat.reduceEqDiff, Nat.reduceAdd, Nat.reduceMul, Nat.reduceSub, Nat.reduceLT, Nat.reduceLeDiff, Nat.reduceBEq, reduceIte, reduceCtorEq, u3, u1, c1, l1, d1, d2, hx, hcg, n1, n2, ls, d3, d4, undef]
              exact .inl ⟨_, rfl, by simp only [tget_put, Nat.reduceEqDiff, if_false, if_true, reduceIte]⟩
            · have d4 : (((t.steps[i].val.size : Nat) : Int) > 100) = False := eq_false (by omega)
              simp only [w_w, oneW_next, s_0, s_1, s_2, s_3, s_4, g_0, w_0, w_a, Hands, handsV, resultsV, oneOrTuple, argsT, ev, evs, evPairs, evOpt, closed, flat, nth, aCall, aEnter, notYield, aNilCheck, partV, isAggD, aFieldAddr, aField, aExtract, Option.isNone, aBuiltin, aUn, cond_true, cond_false, cond_dec, if_true, if_false, List.length_cons, List.length_nil, forall_const, implies_true, List.append_nil, List.cons_append, List.nil_append, eq_self, Nat.reduceEqDiff, Nat.reduceAdd, Nat.reduceMul, Nat.reduceSub, Nat.reduceLT, Nat.reduceLeDiff, Nat.reduceBEq, reduceIte, reduceCtorEq, u3, u1, c1, l1, d1, d2, hx, hcg, n1, n2, ls, d3, d4, undef, wrap_succT (show i < 1000000 by omega)]
              refine ⟨11 - (i + 1), by omega, i + 1, rfl, by omega, by omega, rfl, ?_⟩
              intro y hy
              rw [List.take_add_one, List.getElem?_eq_getElem e1] at hy
              rcases List.mem_append.1 hy with hy | hy
              · exact hall y hy
              · simp only [Option.toList, List.mem_singleton] at hy
                subst hy
                exact ⟨by omega, by omega⟩
      · have d1 : ((i : Int) < (t.steps.length : Int)) = False := eq_false (by omega)
        simp only [w_w, oneW_next, s_0, s_1, s_2, s_3, s_4, g_0, w_0, w_a, Hands, handsV, resultsV, oneOrTuple, argsT, ev, evs, evPairs, evOpt, closed, flat, nth, aCall, aEnter, notYield, aNilCheck, partV, isAggD, aFieldAddr, aField, aExtract, Option.isNone, aBuiltin, aUn, cond_true, cond_false, cond_dec, if_true, if_false, List.length_cons, List.length_nil, forall_const, implies_true, List.append_nil, List.cons_append, List.nil_append, eq_self, Nat.reduceEqDiff, Nat.reduceAdd, Nat.reduceMul, Nat.reduceSub, Nat.reduceLT, Nat.reduceLeDiff, Nat.reduceBEq, reduceIte, reduceCtorEq, u3, u1, c1, l1, d1]
        rw [List.take_of_length_le (by omega)] at hall
        exact .inr ⟨_, rfl, by simp only [tget_put, Nat.reduceEqDiff, if_false, if_true, reduceIte, u1], by omega, hall⟩
    all_goals simp only [tget_put, Nat.reduceEqDiff, if_false, if_true, reduceIte, and_self]
    all_goals rfl
  · rintro o (⟨T', rfl, u2⟩ | ⟨T', rfl, u1, hlen, hall⟩)
    · simp only [w_w, oneW_next, s_0, s_1, s_2, s_3, s_4, g_0, w_0, w_a, Hands, handsV, resultsV, oneOrTuple, argsT, ev, evs, evPairs, evOpt, closed, flat, nth, aCall, aEnter, notYield, aNilCheck, partV, isAggD, aFieldAddr, aField, aExtract, Option.isNone, aBuiltin, aUn, cond_true, cond_false, cond_dec, if_true, if_false, List.length_cons, List.length_nil, forall_const, implies_true, List.append_nil, List.cons_append, List.nil_append, eq_self, Nat.reduceEqDiff, Nat.reduceAdd, Nat.reduceMul, Nat.reduceSub, Nat.reduceLT, Nat.reduceLeDiff, Nat.reduceBEq, reduceIte, reduceCtorEq, u2]
      exact ⟨⟨false, rfl, by simp⟩, hf⟩
    · simp only [w_w, oneW_next, s_0, s_1, s_2, s_3, s_4, g_0, w_0, w_a, Hands, handsV, resultsV, oneOrTuple, argsT, ev, evs, evPairs, evOpt, closed, flat, nth, aCall, aEnter, notYield, aNilCheck, partV, isAggD, aFieldAddr, aField, aExtract, Option.isNone, aBuiltin, aUn, cond_true, cond_false, cond_dec, if_true, if_false, List.length_cons, List.length_nil, forall_const, implies_true, List.append_nil, List.cons_append, List.nil_append, eq_self, Nat.reduceEqDiff, Nat.reduceAdd, Nat.reduceMul, Nat.reduceSub, Nat.reduceLT, Nat.reduceLeDiff, Nat.reduceBEq, reduceIte, reduceCtorEq, u1, c1, ls]
      exact ⟨⟨_, rfl, fun hb => ⟨hlen, by have := of_decide_eq_true hb; omega, hall⟩⟩, hf⟩
end Go.Proofs.YtgcffmhpjphefaaDoor

/- The wheel's place, put, drop. -/
namespace Go.Proofs.YtgcffmhpjphefaaDoor
open Go Go.AE

/-- A wheel's cells: its clock, the map of all, the 64 slots and those that are far. -/
def wrow (now all : Nat) (ms : List Nat) : List Value := .int .u64 (now : Int) :: .map (some all) :: ms.map (fun i => Value.map (some i))

/-- Where a deadline stands: a slot's number, or 64. -/
noncomputable def lvl (now at_ : Nat) : Nat := (Lib.bitLen (at_ ^^^ now) - 1) / 4
noncomputable def plc (now at_ : Nat) : Nat := if 4 ≤ lvl now at_ then 64 else 16 * lvl now at_ + at_ / 2 ^ (4 * lvl now at_) % 16

theorem wrow_slot {now all : Nat} {ms : List Nat} {k : Nat} (h : k < ms.length) : nth (wrow now all ms) (2 + k) = some (.map (some ms[k])) := by
  rw [nth_eq]; simp [wrow, h, Nat.add_comm 2 k]

theorem wrow_now {now all : Nat} {ms : List Nat} : nth (wrow now all ms) 0 = some (.int .u64 (now : Int)) := rfl
theorem wrow_all {now all : Nat} {ms : List Nat} : nth (wrow now all ms) 1 = some (.map (some all)) := rfl

theorem eqnil25 {xo yo : Operand} {x : Option Addr} : aBin2 E0 .eql 55 xo yo (.pointer x) (.pointer none) = some (.bool x.isNone) := b_ptr_nil ti55 t55_desc

theorem plc_lt {now a : Nat} : plc now a < 65 := by
  unfold plc
  split
  · omega
  · have : a / 2 ^ (4 * lvl now a) % 16 < 16 := Nat.mod_lt _ (by omega)
    omega

theorem lvl_int {b : Nat} (h : b ≤ 64) : IntKind.i64.wrap ((IntKind.i64.wrap ((b : Int) - 1)).tdiv 4) = (((b - 1) / 4 : Nat) : Int) := by
  have : ∀ b : Fin 65, IntKind.i64.wrap ((IntKind.i64.wrap (((b.1 : Nat) : Int) - 1)).tdiv 4) = (((b.1 - 1) / 4 : Nat) : Int) := by decide +kernel
  exact this ⟨b, by omega⟩

variable {Z : Go.AE.Road}
set_option maxRecDepth 10000

theorem len64 (x : Nat) (hx : x < 18446744073709551616) (A : ASt) : CallT Z Tryd.prog (.fn 43) [.int .u64 (x : Int)] A (fun v A' => v = .int .i64 ((Lib.bitLen x : Nat) : Int) ∧ A' = A) :=
  CallW.of_flat rfl rfl fun w => by
    have := Tryd.bits_Len64 (x : Int) w (by omega) (by omega)
    simpa using this

theorem place_walk {A : ASt} {W now all a : Nat} {ms : List Nat} (hW : A.get W = some (.row (wrow now all ms) 67 false)) (hm : ms.length = 65) (hn : now < 18446744073709551616) (ha : a < 18446744073709551616) :
    CallW Z Tryd.prog 39 [.pointer (some ⟨W, 0, none⟩), .int .u64 (a : Int)] A (fun v A' => v = .map (some (ms[plc now a]'(by rw [hm]; exact plc_lt))) ∧ ∃ k, A' = { A with next := A.next + k }) := by
  refine CallW.of_code E0_ok E0_ro fn39 rfl (n := 33) rfl (rs := [.tmp 4]) rfl (by simp) (codeW_ok E0_ok E0_ro ?_)
  have hx : a ^^^ now < 18446744073709551616 := Nat.xor_lt_two_pow (n := 64) (by omega) (by omega)
  have hb : Lib.bitLen (a ^^^ now) ≤ 64 := Lib.bitLen_le _ _ (by omega) hx
  simp only [hW, wrow_now, wrow_all, eqnil25, oneW_next, s_0, s_1, s_2, s_3, s_4, g_0, w_0, w_wh, Hands, handsV, resultsV, oneOrTuple, argsT, ev, evs, evPairs, evOpt, closed, flat, nth, aCall, aEnter, notYield, aNilCheck, partV, isAggD, aFieldAddr, aField, aExtract, Option.isNone, aBuiltin, aUn, cond_true, cond_false, cond_dec, if_true, if_false, List.length_cons, List.length_nil, forall_const, implies_true, List.append_nil, List.cons_append, List.nil_append, eq_self, Nat.reduceEqDiff, Nat.reduceAdd, Nat.reduceMul, Nat.reduceSub, Nat.reduceLT, Nat.reduceLeDiff, Nat.reduceBEq, reduceIte, reduceCtorEq, b_xor64 ha hn]
  refine CallT.mono (len64 _ hx A) ?_
  rintro _ A' ⟨rfl, hA'⟩
  subst hA'
  simp only [hW, wrow_now, wrow_all, eqnil25, oneW_next, s_0, s_1, s_2, s_3, s_4, g_0, w_0, w_wh, Hands, handsV, resultsV, oneOrTuple, argsT, ev, evs, evPairs, evOpt, closed, flat, nth, aCall, aEnter, notYield, aNilCheck, partV, isAggD, aFieldAddr, aField, aExtract, Option.isNone, aBuiltin, aUn, cond_true, cond_false, cond_dec, if_true, if_false, List.length_cons, List.length_nil, forall_const, implies_true, List.append_nil, List.cons_append, List.nil_append, eq_self, Nat.reduceEqDiff, Nat.reduceAdd, Nat.reduceMul, Nat.reduceSub, Nat.reduceLT, Nat.reduceLeDiff, Nat.reduceBEq, reduceIte, reduceCtorEq, b_quo (show (4 : Int) ≠ 0 by decide), lvl_int hb]
  refine brW_dec (fun h4 => ?_) (fun h4 => ?_)
  · have h4' : 4 ≤ lvl now a := by unfold lvl; omega
    have hp : plc now a = 64 := if_pos h4'
    have e66 : nth (wrow now all ms) 66 = some (.map (some (ms[plc now a]'(by rw [hm]; exact plc_lt)))) := by
      have := wrow_slot (now := now) (all := all) (ms := ms) (k := 64) (by omega)
      simp only [hp]
      exact this
    simp only [hW, wrow_now, wrow_all, eqnil25, oneW_next, s_0, s_1, s_2, s_3, s_4, g_0, w_0, w_wh, Hands, handsV, resultsV, oneOrTuple, argsT, ev, evs, evPairs, evOpt, closed, flat, nth, aCall, aEnter, notYield, aNilCheck, partV, isAggD, aFieldAddr, aField, aExtract, Option.isNone, aBuiltin, aUn, cond_true, cond_false, cond_dec, if_true, if_false, List.length_cons, List.length_nil, forall_const, implies_true, List.append_nil, List.cons_append, List.nil_append, eq_self, Nat.reduceEqDiff, Nat.reduceAdd, Nat.reduceMul, Nat.reduceSub, Nat.reduceLT, Nat.reduceLeDiff, Nat.reduceBEq, reduceIte, reduceCtorEq, e66]
    exact ⟨0, rfl⟩
  · have hl : lvl now a < 4 := by unfold lvl; omega
    have hp : plc now a = 16 * lvl now a + a / 2 ^ (4 * lvl now a) % 16 := if_neg (by omega)
    have e4 : IntKind.i64.wrap (4 * ((lvl now a : Nat) : Int)) = ((4 * lvl now a : Nat) : Int) := by rw [IntKind.wrap_i64]; omega
    have hr : a / 2 ^ (4 * lvl now a) % 16 < 16 := Nat.mod_lt _ (by omega)
    have hlv : (Lib.bitLen (a ^^^ now) - 1) / 4 = lvl now a := rfl
    have esl : nth (wrow now all ms) (2 + lvl now a * 16 + a / 2 ^ (4 * lvl now a) % 16) = some (.map (some (ms[plc now a]'(by rw [hm]; exact plc_lt)))) := by
      have := wrow_slot (now := now) (all := all) (ms := ms) (k := plc now a) (by rw [hm]; exact plc_lt)
      rw [← this, hp]
      congr 1; omega
    rw [hlv]
    generalize lvl now a = lv at hl e4 hr esl
    have esh : ∀ xo yo t, aBin2 E0 .shr t xo yo (.int .u64 (a : Int)) (.int .i64 ((4 * lv : Nat) : Int)) = some (.int .u64 ((a / 2 ^ (4 * lv) : Nat) : Int)) := fun xo yo t => b_shr64 (by omega)
    have ere : ∀ xo yo t, aBin2 E0 .rem t xo yo (.int .u64 ((a / 2 ^ (4 * lv) : Nat) : Int)) (.int .u64 16) = some (.int .u64 ((a / 2 ^ (4 * lv) % 16 : Nat) : Int)) := fun xo yo t => b_rem_nat (b := 16) (by decide)
    generalize a / 2 ^ (4 * lv) = q at hr esl esh ere
    generalize q % 16 = r at hr esl ere
    have ei1 : ∀ o, aIndexAddr E0 84 (.pointer (some ⟨W, o, none⟩)) (.int .i64 (lv : Int)) = some (.pointer (some ⟨W, o + lv * 16, none⟩)) := fun o => by
      have := indexAddr_arr (A := A') ti84 t84_desc ti83 (kd := .i64) (k := lv) (b := W) (off := o) hl
      rwa [t83_size] at this
    have ei2 : ∀ o, aIndexAddr E0 83 (.pointer (some ⟨W, o, none⟩)) (.int .u64 (r : Int)) = some (.pointer (some ⟨W, o + r, none⟩)) := fun o => by
      have := indexAddr_arr (A := A') ti83 t83_desc ti82 (kd := .u64) (k := r) (b := W) (off := o) hr
      rwa [t82_size, Nat.mul_one] at this
    simp only [hW, wrow_now, wrow_all, eqnil25, oneW_next, s_0, s_1, s_2, s_3, s_4, g_0, w_0, w_wh, Hands, handsV, resultsV, oneOrTuple, argsT, ev, evs, evPairs, evOpt, closed, flat, nth, aCall, aEnter, notYield, aNilCheck, partV, isAggD, aFieldAddr, aField, aExtract, Option.isNone, aBuiltin, aUn, cond_true, cond_false, cond_dec, if_true, if_false, List.length_cons, List.length_nil, forall_const, implies_true, List.append_nil, List.cons_append, List.nil_append, eq_self, Nat.reduceEqDiff, Nat.reduceAdd, Nat.reduceMul, Nat.reduceSub, Nat.reduceLT, Nat.reduceLeDiff, Nat.reduceBEq, reduceIte, reduceCtorEq]
    refine CodeW.quiet E0_ok E0_ro mixed (by kernel_rfl) (by kernel_rfl) ?_
    simp only [hW, wrow_now, wrow_all, eqnil25, oneW_next, s_0, s_1, s_2, s_3, s_4, g_0, w_0, w_wh, Hands, handsV, resultsV, oneOrTuple, argsT, ev, evs, evPairs, evOpt, closed, flat, nth, aCall, aEnter, notYield, aNilCheck, partV, isAggD, aFieldAddr, aField, aExtract, Option.isNone, aBuiltin, aUn, cond_true, cond_false, cond_dec, if_true, if_false, List.length_cons, List.length_nil, forall_const, implies_true, List.append_nil, List.cons_append, List.nil_append, eq_self, Nat.reduceEqDiff, Nat.reduceAdd, Nat.reduceMul, Nat.reduceSub, Nat.reduceLT, Nat.reduceLeDiff, Nat.reduceBEq, reduceIte, reduceCtorEq, quietW_nil, quietW_arr, quietW_cons, aStill, freshOp, quietOp, E0_ron, get_empty, get_next, ofVal_none, valEq_int, valEq_str, valEq_bool, valEq_map, valEq_ptr, valEq_slice, valEq_nilSlice, valEq_mapNil, List.length_cons, List.length_nil, e4, esh, ere, ei1, ei2, esl]
    exact ⟨13, rfl⟩
end Go.Proofs.YtgcffmhpjphefaaDoor

/- The wheel's put and drop. -/
namespace Go.Proofs.YtgcffmhpjphefaaDoor
open Go Go.AE

/-- The timers of a wheel, by their names. -/
abbrev TM := ByteArray → Option Nat
noncomputable def TM.put (M : TM) (k : ByteArray) (a : Nat) : TM := fun j => if j = k then some a else M j
noncomputable def TM.del (M : TM) (k : ByteArray) : TM := fun j => if j = k then none else M j

/-- A map holds just these. -/
def Holds (A : ASt) (m : Nat) (M : TM) : Prop := ∃ l ck, A.get m = some (.map (uEnts l) ck) ∧ MapOK l ck ∧ ∀ k, uget l k = M k

theorem Holds.congr {A A' : ASt} {m : Nat} {M : TM} (h : Holds A m M) (e : A'.get m = A.get m) : Holds A' m M := by
  obtain ⟨l, ck, h1, h2⟩ := h
  exact ⟨l, ck, by rw [e]; exact h1, h2⟩
theorem Holds.ext {A : ASt} {m : Nat} {M M' : TM} (h : Holds A m M) (e : ∀ k, M k = M' k) : Holds A m M' := by
  obtain ⟨l, ck, h1, h2, h3⟩ := h
  exact ⟨l, ck, h1, h2, fun k => (h3 k).trans (e k)⟩

/-- Those that stand at one place. -/
noncomputable def TM.at_ (M : TM) (now i : Nat) : TM := fun k => (M k).filter fun a => decide (plc now a = i)

structure WheelAt (A : ASt) (W all : Nat) (ms : List Nat) (now : Nat) (M : TM) : Prop where
  row : A.get W = some (.row (wrow now all ms) 67 false)
  len : ms.length = 65
  nowlt : now < 18446744073709551616
  nodup : (W :: all :: ms).Nodup
  below : ∀ b ∈ W :: all :: ms, b < A.next
  allm : Holds A all M
  slot : ∀ i m, ms[i]? = some m → Holds A m (M.at_ now i)
  lt : ∀ k a, M k = some a → a < 18446744073709551616
  gt : ∀ k a, M k = some a → now < a

theorem WheelAt.congr {A A' : ASt} {W all now : Nat} {ms : List Nat} {M : TM} (h : WheelAt A W all ms now M) (hn : A.next ≤ A'.next) (e : ∀ b ∈ W :: all :: ms, A'.get b = A.get b) : WheelAt A' W all ms now M :=
  ⟨by rw [e W (by simp)]; exact h.row, h.len, h.nowlt, h.nodup, fun b hb => Nat.lt_of_lt_of_le (h.below b hb) hn, h.allm.congr (e all (by simp)), fun i m hm => (h.slot i m hm).congr (e m (by simp [List.mem_of_getElem? hm])), h.lt, h.gt⟩

theorem WheelAt.plc {A : ASt} {W all now : Nat} {ms : List Nat} {M : TM} (h : WheelAt A W all ms now M) (a : Nat) : plc now a < ms.length := by rw [h.len]; exact plc_lt

theorem WheelAt.ne_all {A : ASt} {W all now : Nat} {ms : List Nat} {M : TM} (h : WheelAt A W all ms now M) {m : Nat} (hm : m ∈ ms) : m ≠ W ∧ m ≠ all ∧ all ≠ W := by
  have := h.nodup
  simp only [List.nodup_cons, List.mem_cons, not_or] at this
  exact ⟨fun e => this.1.2 (e ▸ hm), fun e => this.2.1 (e ▸ hm), fun e => this.1.1 e.symm⟩

theorem WheelAt.inj {A : ASt} {W all now : Nat} {ms : List Nat} {M : TM} (h : WheelAt A W all ms now M) {i j m : Nat} (hi : ms[i]? = some m) (hj : ms[j]? = some m) : i = j := by
  have := h.nodup
  simp only [List.nodup_cons] at this
  obtain ⟨hi', hi⟩ := List.getElem?_eq_some_iff.1 hi
  obtain ⟨hj', hj⟩ := List.getElem?_eq_some_iff.1 hj
  have hp := List.pairwise_iff_getElem.1 this.2.2
  rcases Nat.lt_trichotomy i j with hlt | e | hlt
  · exact absurd (hi.trans hj.symm) (hp i j hi' hj' hlt)
  · exact e
  · exact absurd (hj.trans hi.symm) (hp j i hj' hi' hlt)

variable {Z : Go.AE.Road}
set_option maxRecDepth 10000

theorem lookupT {A : ASt} {m ck : Nat} {l : List UE} (hm : A.get m = some (.map (uEnts l) ck)) (k : ByteArray) :
    aLookup E0 82 (.map (some m)) (.string k) true A = some (.tuple #[.int .u64 ((uget l k).getD 0 : Nat), .bool (uget l k).isSome]) := lookup_u ti82 t82_desc ti9 t9_desc ti22 t22_zero hm k
theorem updateT {A : ASt} {m ck : Nat} {l : List UE} (hm : A.get m = some (.map (uEnts l) ck)) (k : ByteArray) (v : Nat) :
    aMapUpdate E0 82 (.map (some m)) (.string k) (.int .u64 (v : Int)) A = some (A.set m (.map (uEnts (uput k v ck l)) (uck l k ck))) := mapUpdate_u ti82 t82_desc ti9 t9_desc hm k v
theorem deleteT {A : ASt} {m ck : Nat} {l : List UE} (hm : A.get m = some (.map (uEnts l) ck)) (k : ByteArray) :
    aDelete E0 82 (.map (some m)) (.string k) A = .val undef (if (uget l k).isSome then A.set m (.map (uEnts (udel k l)) ck) else A) := delete_u ti82 t82_desc ti9 t9_desc hm k

/-- One name is taken away, in the map of all and where it stands. -/
theorem WheelAt.del {A A' : ASt} {W all now : Nat} {ms : List Nat} {M : TM} (h : WheelAt A W all ms now M) (k : ByteArray) {a : Nat} (ha : M k = some a) {l la : List UE} {ck cka : Nat} {m : Nat} (hm : ms[_root_.Go.Proofs.YtgcffmhpjphefaaDoor.plc now a]? = some m)
    (hl : A.get m = some (.map (uEnts l) ck)) (hok : MapOK l ck) (hg : ∀ j, uget l j = M.at_ now (_root_.Go.Proofs.YtgcffmhpjphefaaDoor.plc now a) j) (hla : A.get all = some (.map (uEnts la) cka)) (hoka : MapOK la cka) (hga : ∀ j, uget la j = M j)
    (hn : A.next ≤ A'.next) (e : ∀ b, A'.get b = if b = all then some (.map (uEnts (udel k la)) cka) else if b = m then some (.map (uEnts (udel k l)) ck) else A.get b) : WheelAt A' W all ms now (M.del k) ∧ Fr (W :: all :: ms) A A' := by
  have hmem := List.mem_of_getElem? hm
  obtain ⟨n1, n2, n3⟩ := h.ne_all hmem
  refine ⟨⟨?_, h.len, h.nowlt, h.nodup, fun b hb => Nat.lt_of_lt_of_le (h.below b hb) hn, ?_, ?_, ?_, ?_⟩, hn, fun b hb hno => ?_⟩
  · rw [e, if_neg (Ne.symm n3), if_neg (Ne.symm n1)]; exact h.row
  · refine ⟨_, _, by rw [e, if_pos rfl], udel_ok hoka, fun j => ?_⟩
    rw [uget_udel hoka.keys, hga]; rfl
  · intro i m' hm'
    have hmem' := List.mem_of_getElem? hm'
    obtain ⟨_, n2', _⟩ := h.ne_all hmem'
    by_cases e2 : m' = m
    · subst e2
      have : i = _ := h.inj hm' hm
      subst this
      refine ⟨_, _, by rw [e, if_neg n2, if_pos rfl], udel_ok hok, fun j => ?_⟩
      rw [uget_udel hok.keys, hg]
      unfold TM.at_ TM.del
      by_cases ej : j = k <;> simp [ej]
    · refine ((h.slot i m' hm').congr (by rw [e, if_neg n2', if_neg e2])).ext fun j => ?_
      unfold TM.at_ TM.del
      by_cases ej : j = k
      · subst ej
        rw [if_pos rfl, ha]
        have hne : _root_.Go.Proofs.YtgcffmhpjphefaaDoor.plc now a ≠ i := fun ee => e2 (by rw [ee, hm'] at hm; exact Option.some.inj hm)
        simp [Option.filter, hne]
      · rw [if_neg ej]
  · intro j b hj
    unfold TM.del at hj
    split at hj
    · cases hj
    · exact h.lt j b hj
  · intro j b hj
    unfold TM.del at hj
    split at hj
    · cases hj
    · exact h.gt j b hj
  · rw [e, if_neg (fun ee => hno (by simp [ee])), if_neg (fun ee => hno (by simp [ee, hmem]))]

theorem drop_spec {A : ASt} {W all now : Nat} {ms : List Nat} {M : TM} (h : WheelAt A W all ms now M) (k : ByteArray) :
    CallW Z Tryd.prog 37 [.pointer (some ⟨W, 0, none⟩), .string k] A (fun v A' => v = .bool (M k).isSome ∧ WheelAt A' W all ms now (M.del k) ∧ Fr (W :: all :: ms) A A') := by
  refine CallW.of_code E0_ok E0_ro fn37 rfl (n := 29) rfl (rs := [.tmp 4]) rfl (by simp) (codeW_ok E0_ok E0_ro ?_)
  have hW := h.row
  obtain ⟨la, cka, hla, hoka, hga⟩ := h.allm
  have hlk := lookupT hla k
  rw [hga] at hlk
  simp only [hW, wrow_now, wrow_all, eqnil25, oneW_next, s_0, s_1, s_2, s_3, s_4, g_0, w_0, w_wh, Hands, handsV, resultsV, oneOrTuple, argsT, ev, evs, evPairs, evOpt, closed, flat, nth, aCall, aEnter, notYield, aNilCheck, partV, isAggD, aFieldAddr, aField, aExtract, Option.isNone, aBuiltin, aUn, cond_true, cond_false, cond_dec, if_true, if_false, List.length_cons, List.length_nil, forall_const, implies_true, List.append_nil, List.cons_append, List.nil_append, eq_self, Nat.reduceEqDiff, Nat.reduceAdd, Nat.reduceMul, Nat.reduceSub, Nat.reduceLT, Nat.reduceLeDiff, Nat.reduceBEq, reduceIte, reduceCtorEq, hlk]
  cases hk : M k with
  | none =>
    simp only [Option.isSome_none, hW, wrow_now, wrow_all, eqnil25, oneW_next, s_0, s_1, s_2, s_3, s_4, g_0, w_0, w_wh, Hands, handsV, resultsV, oneOrTuple, argsT, ev, evs, evPairs, evOpt, closed, flat, nth, aCall, aEnter, notYield, aNilCheck, partV, isAggD, aFieldAddr, aField, aExtract, Option.isNone, aBuiltin, aUn, cond_true, cond_false, cond_dec, if_true, if_false, List.length_cons, List.length_nil, forall_const, implies_true, List.append_nil, List.cons_append, List.nil_append, eq_self, Nat.reduceEqDiff, Nat.reduceAdd, Nat.reduceMul, Nat.reduceSub, Nat.reduceLT, Nat.reduceLeDiff, Nat.reduceBEq, reduceIte, reduceCtorEq]
    refine ⟨?_, .refl _ _⟩
    have : M.del k = M := by
      funext j
      unfold TM.del
      by_cases e : j = k <;> simp [e, hk]
    rw [this]; exact h
  | some a =>
    have ha := h.lt k a hk
    simp only [Option.isSome_some, Option.getD_some, hW, wrow_now, wrow_all, eqnil25, oneW_next, s_0, s_1, s_2, s_3, s_4, g_0, w_0, w_wh, Hands, handsV, resultsV, oneOrTuple, argsT, ev, evs, evPairs, evOpt, closed, flat, nth, aCall, aEnter, notYield, aNilCheck, partV, isAggD, aFieldAddr, aField, aExtract, Option.isNone, aBuiltin, aUn, cond_true, cond_false, cond_dec, if_true, if_false, List.length_cons, List.length_nil, forall_const, implies_true, List.append_nil, List.cons_append, List.nil_append, eq_self, Nat.reduceEqDiff, Nat.reduceAdd, Nat.reduceMul, Nat.reduceSub, Nat.reduceLT, Nat.reduceLeDiff, Nat.reduceBEq, reduceIte, reduceCtorEq]
    refine CallT.mono (place_walk hW h.len h.nowlt ha) ?_
    rintro _ _ ⟨rfl, x, rfl⟩
    have hm : ms[plc now a]? = some (ms[plc now a]'(h.plc a)) := List.getElem?_eq_getElem _
    generalize ms[plc now a]'(h.plc a) = m at hm
    obtain ⟨l, ck, hl, hok, hg⟩ := h.slot _ _ hm
    have hmem := List.mem_of_getElem? hm
    obtain ⟨n1, n2, n3⟩ := h.ne_all hmem
    have hgk : uget l k = some a := by rw [hg]; simp [TM.at_, hk, Option.filter]
    have hl' : ASt.get { heap := A.heap, next := A.next + x } m = some (.map (uEnts l) ck) := hl
    have hdel := deleteT hl' k
    rw [hgk] at hdel
    simp only [Option.isSome_some, if_true] at hdel
    have hla' : (ASt.set { heap := A.heap, next := A.next + x } m (.map (uEnts (udel k l)) ck)).get all = some (.map (uEnts la) cka) := by
      rw [ASt.get_set, if_neg (Ne.symm n2)]; exact hla
    have hdel2 := deleteT hla' k
    rw [hga, hk] at hdel2
    simp only [Option.isSome_some, if_true] at hdel2
    have hW' : (ASt.set { heap := A.heap, next := A.next + x } m (.map (uEnts (udel k l)) ck)).get W = some (.row (wrow now all ms) 67 false) := by
      rw [ASt.get_set, if_neg (Ne.symm n1)]; exact hW
    simp only [hW, wrow_now, wrow_all, eqnil25, oneW_next, s_0, s_1, s_2, s_3, s_4, g_0, w_0, w_wh, Hands, handsV, resultsV, oneOrTuple, argsT, ev, evs, evPairs, evOpt, closed, flat, nth, aCall, aEnter, notYield, aNilCheck, partV, isAggD, aFieldAddr, aField, aExtract, Option.isNone, aBuiltin, aUn, cond_true, cond_false, cond_dec, if_true, if_false, List.length_cons, List.length_nil, forall_const, implies_true, List.append_nil, List.cons_append, List.nil_append, eq_self, Nat.reduceEqDiff, Nat.reduceAdd, Nat.reduceMul, Nat.reduceSub, Nat.reduceLT, Nat.reduceLeDiff, Nat.reduceBEq, reduceIte, reduceCtorEq, hdel, hdel2, hW']
    refine h.del k hk hm hl hok hg hla hoka hga ?_ fun b => ?_
    · show A.next ≤ A.next + x
      omega
    · simp only [ASt.get_set]
      rfl
end Go.Proofs.YtgcffmhpjphefaaDoor

/- The wheel's put, clock, len. -/
namespace Go.Proofs.YtgcffmhpjphefaaDoor
open Go Go.AE

variable {Z : Go.AE.Road}
set_option maxRecDepth 10000

/-- A name that is not there is laid, in the map of all and where it stands. -/
theorem WheelAt.add {A A' : ASt} {W all now : Nat} {ms : List Nat} {M : TM} (h : WheelAt A W all ms now M) (k : ByteArray) {a : Nat} (hk : M k = none) (ha : now < a) (halt : a < 18446744073709551616) {l la : List UE} {ck cka : Nat} {m : Nat} (hm : ms[_root_.Go.Proofs.YtgcffmhpjphefaaDoor.plc now a]? = some m)
    (hok : MapOK l ck) (hg : ∀ j, uget l j = M.at_ now (_root_.Go.Proofs.YtgcffmhpjphefaaDoor.plc now a) j) (hoka : MapOK la cka) (hga : ∀ j, uget la j = M j)
    (hn : A.next ≤ A'.next) (e : ∀ b, A'.get b = if b = m then some (.map (uEnts (uput k a ck l)) (uck l k ck)) else if b = all then some (.map (uEnts (uput k a cka la)) (uck la k cka)) else A.get b) : WheelAt A' W all ms now (M.put k a) ∧ Fr (W :: all :: ms) A A' := by
  have hmem := List.mem_of_getElem? hm
  obtain ⟨n1, n2, n3⟩ := h.ne_all hmem
  refine ⟨⟨?_, h.len, h.nowlt, h.nodup, fun b hb => Nat.lt_of_lt_of_le (h.below b hb) hn, ?_, ?_, ?_, ?_⟩, hn, fun b hb hno => ?_⟩
  · rw [e, if_neg (Ne.symm n1), if_neg (Ne.symm n3)]; exact h.row
  · refine ⟨_, _, by rw [e, if_neg (Ne.symm n2), if_pos rfl], uput_ok hoka, fun j => ?_⟩
    rw [uget_uput, hga]; rfl
  · intro i m' hm'
    have hmem' := List.mem_of_getElem? hm'
    obtain ⟨_, n2', _⟩ := h.ne_all hmem'
    by_cases e2 : m' = m
    · subst e2
      have : i = _ := h.inj hm' hm
      subst this
      refine ⟨_, _, by rw [e, if_pos rfl], uput_ok hok, fun j => ?_⟩
      rw [uget_uput, hg]
      unfold TM.at_ TM.put
      by_cases ej : j = k <;> simp [ej, Option.filter]
    · refine ((h.slot i m' hm').congr (by rw [e, if_neg e2, if_neg n2'])).ext fun j => ?_
      unfold TM.at_ TM.put
      by_cases ej : j = k
      · subst ej
        have hne : _root_.Go.Proofs.YtgcffmhpjphefaaDoor.plc now a ≠ i := fun ee => e2 (by rw [ee, hm'] at hm; exact Option.some.inj hm)
        simp [Option.filter, hne, hk]
      · rw [if_neg ej]
  · intro j b hj
    unfold TM.put at hj
    split at hj
    · cases hj; exact halt
    · exact h.lt j b hj
  · intro j b hj
    unfold TM.put at hj
    split at hj
    · cases hj; exact ha
    · exact h.gt j b hj
  · rw [e, if_neg (fun ee => hno (by simp [ee, hmem])), if_neg (fun ee => hno (by simp [ee]))]

theorem put_spec {A : ASt} {W all now : Nat} {ms : List Nat} {M : TM} (h : WheelAt A W all ms now M) (k : ByteArray) {a : Nat} (halt : a < 18446744073709551616) :
    CallW Z Tryd.prog 25 [.pointer (some ⟨W, 0, none⟩), .string k, .int .u64 (a : Int)] A (fun v A' => v = .bool (decide (now < a)) ∧ WheelAt A' W all ms now (if now < a then M.put k a else M) ∧ Fr (W :: all :: ms) A A') := by
  refine CallW.of_code E0_ok E0_ro fn25 rfl (n := 31) rfl (rs := [.tmp 6]) rfl (by simp) (codeW_ok E0_ok E0_ro ?_)
  have hW := h.row
  simp only [hW, wrow_now, wrow_all, eqnil25, oneW_next, s_0, s_1, s_2, s_3, s_4, g_0, w_0, w_wh, Hands, handsV, resultsV, oneOrTuple, argsT, ev, evs, evPairs, evOpt, closed, flat, nth, aCall, aEnter, notYield, aNilCheck, partV, isAggD, aFieldAddr, aField, aExtract, Option.isNone, aBuiltin, aUn, cond_true, cond_false, cond_dec, if_true, if_false, List.length_cons, List.length_nil, forall_const, implies_true, List.append_nil, List.cons_append, List.nil_append, eq_self, Nat.reduceEqDiff, Nat.reduceAdd, Nat.reduceMul, Nat.reduceSub, Nat.reduceLT, Nat.reduceLeDiff, Nat.reduceBEq, reduceIte, reduceCtorEq]
  refine brW_dec (fun hle => ?_) (fun hle => ?_)
  · have hn : ¬ now < a := by omega
    simp only [hW, wrow_now, wrow_all, eqnil25, oneW_next, s_0, s_1, s_2, s_3, s_4, g_0, w_0, w_wh, Hands, handsV, resultsV, oneOrTuple, argsT, ev, evs, evPairs, evOpt, closed, flat, nth, aCall, aEnter, notYield, aNilCheck, partV, isAggD, aFieldAddr, aField, aExtract, Option.isNone, aBuiltin, aUn, cond_true, cond_false, cond_dec, if_true, if_false, List.length_cons, List.length_nil, forall_const, implies_true, List.append_nil, List.cons_append, List.nil_append, eq_self, Nat.reduceEqDiff, Nat.reduceAdd, Nat.reduceMul, Nat.reduceSub, Nat.reduceLT, Nat.reduceLeDiff, Nat.reduceBEq, reduceIte, reduceCtorEq, hn]
    exact ⟨h, .refl _ _⟩
  · have hn : now < a := by omega
    simp only [hW, wrow_now, wrow_all, eqnil25, oneW_next, s_0, s_1, s_2, s_3, s_4, g_0, w_0, w_wh, Hands, handsV, resultsV, oneOrTuple, argsT, ev, evs, evPairs, evOpt, closed, flat, nth, aCall, aEnter, notYield, aNilCheck, partV, isAggD, aFieldAddr, aField, aExtract, Option.isNone, aBuiltin, aUn, cond_true, cond_false, cond_dec, if_true, if_false, List.length_cons, List.length_nil, forall_const, implies_true, List.append_nil, List.cons_append, List.nil_append, eq_self, Nat.reduceEqDiff, Nat.reduceAdd, Nat.reduceMul, Nat.reduceSub, Nat.reduceLT, Nat.reduceLeDiff, Nat.reduceBEq, reduceIte, reduceCtorEq, hn]
    refine CallT.mono (drop_spec h k) ?_
    rintro v B ⟨rfl, h1, f1⟩
    have hW1 := h1.row
    obtain ⟨la, cka, hla, hoka, hga⟩ := h1.allm
    have hu1 := updateT hla k a
    simp only [hW, wrow_now, wrow_all, eqnil25, oneW_next, s_0, s_1, s_2, s_3, s_4, g_0, w_0, w_wh, Hands, handsV, resultsV, oneOrTuple, argsT, ev, evs, evPairs, evOpt, closed, flat, nth, aCall, aEnter, notYield, aNilCheck, partV, isAggD, aFieldAddr, aField, aExtract, Option.isNone, aBuiltin, aUn, cond_true, cond_false, cond_dec, if_true, if_false, List.length_cons, List.length_nil, forall_const, implies_true, List.append_nil, List.cons_append, List.nil_append, eq_self, Nat.reduceEqDiff, Nat.reduceAdd, Nat.reduceMul, Nat.reduceSub, Nat.reduceLT, Nat.reduceLeDiff, Nat.reduceBEq, reduceIte, reduceCtorEq, hW1, hu1]
    have hne := h1.nodup
    simp only [List.nodup_cons, List.mem_cons, not_or] at hne
    have hW2 : (B.set all (.map (uEnts (uput k a cka la)) (uck la k cka))).get W = some (.row (wrow now all ms) 67 false) := by
      rw [ASt.get_set, if_neg hne.1.1]; exact hW1
    refine CallT.mono (place_walk hW2 h1.len h1.nowlt halt) ?_
    rintro _ _ ⟨rfl, x, rfl⟩
    have hm : ms[plc now a]? = some (ms[plc now a]'(h.plc a)) := List.getElem?_eq_getElem _
    generalize ms[plc now a]'(h.plc a) = m at hm
    obtain ⟨l, ck, hl, hok, hg⟩ := h1.slot _ _ hm
    have hmem := List.mem_of_getElem? hm
    obtain ⟨n1, n2, n3⟩ := h1.ne_all hmem
    have hl' : ASt.get { heap := (B.set all (.map (uEnts (uput k a cka la)) (uck la k cka))).heap, next := B.next + x } m = some (.map (uEnts l) ck) := by
      rw [get_next, ASt.get_set, if_neg n2]; exact hl
    have hu2 := updateT hl' k a
    simp only [hW, wrow_now, wrow_all, eqnil25, oneW_next, s_0, s_1, s_2, s_3, s_4, g_0, w_0, w_wh, Hands, handsV, resultsV, oneOrTuple, argsT, ev, evs, evPairs, evOpt, closed, flat, nth, aCall, aEnter, notYield, aNilCheck, partV, isAggD, aFieldAddr, aField, aExtract, Option.isNone, aBuiltin, aUn, cond_true, cond_false, cond_dec, if_true, if_false, List.length_cons, List.length_nil, forall_const, implies_true, List.append_nil, List.cons_append, List.nil_append, eq_self, Nat.reduceEqDiff, Nat.reduceAdd, Nat.reduceMul, Nat.reduceSub, Nat.reduceLT, Nat.reduceLeDiff, Nat.reduceBEq, reduceIte, reduceCtorEq, hu2]
    have hadd := h1.add k (a := a) (by unfold TM.del; simp) hn halt hm hok hg hoka hga (A' := (ASt.set { heap := (B.set all (.map (uEnts (uput k a cka la)) (uck la k cka))).heap, next := B.next + x } m (.map (uEnts (uput k a ck l)) (uck l k ck)))) (by show B.next ≤ B.next + x; omega) (fun b => by
      rw [ASt.get_set, get_next, ASt.get_set])
    refine ⟨by simp [hn], ?_, f1.trans hadd.2⟩
    rw [if_pos hn]
    have e : (M.del k).put k a = M.put k a := by
      funext j
      unfold TM.put TM.del
      by_cases ej : j = k <;> simp [ej]
    rw [← e]
    exact hadd.1

theorem clock_spec {A : ASt} {W now all : Nat} {ms : List Nat} (hW : A.get W = some (.row (wrow now all ms) 67 false)) :
    CallW Z Tryd.prog 50 [.pointer (some ⟨W, 0, none⟩)] A (fun v A' => v = .int .u64 (now : Int) ∧ A' = A) := by
  refine CallW.of_code E0_ok E0_ro fn50 rfl (n := 9) rfl (rs := [.tmp 2]) rfl (by simp) (codeW_ok E0_ok E0_ro ?_)
  simp only [hW, wrow_now, wrow_all, eqnil25, oneW_next, s_0, s_1, s_2, s_3, s_4, g_0, w_0, w_wh, Hands, handsV, resultsV, oneOrTuple, argsT, ev, evs, evPairs, evOpt, closed, flat, nth, aCall, aEnter, notYield, aNilCheck, partV, isAggD, aFieldAddr, aField, aExtract, Option.isNone, aBuiltin, aUn, cond_true, cond_false, cond_dec, if_true, if_false, List.length_cons, List.length_nil, forall_const, implies_true, List.append_nil, List.cons_append, List.nil_append, eq_self, Nat.reduceEqDiff, Nat.reduceAdd, Nat.reduceMul, Nat.reduceSub, Nat.reduceLT, Nat.reduceLeDiff, Nat.reduceBEq, reduceIte, reduceCtorEq]

/-- How many timers there are. -/
def Cnt (M : TM) (n : Nat) : Prop := ∃ l : List ByteArray, l.Nodup ∧ (∀ k, k ∈ l ↔ (M k).isSome = true) ∧ l.length = n

theorem Holds.cnt {A : ASt} {m : Nat} {M : TM} {l : List UE} {ck : Nat} (_h : A.get m = some (.map (uEnts l) ck)) (hok : MapOK l ck) (hg : ∀ k, uget l k = M k) : Cnt M l.length := by
  refine ⟨l.map (·.1), hok.keys, fun k => ?_, by simp⟩
  rw [← hg]
  constructor
  · intro hk
    obtain ⟨x, hx, rfl⟩ := List.mem_map.1 hk
    rw [uget_mem hok.keys hx]; rfl
  · intro hk
    obtain ⟨v, hv⟩ := Option.isSome_iff_exists.1 hk
    obtain ⟨b, hb⟩ := uget_some hv
    exact List.mem_map.2 ⟨_, hb, rfl⟩

theorem lenT {A : ASt} {m ck : Nat} {l : List UE} (hm : A.get m = some (.map (uEnts l) ck)) : aLen E0 82 (.map (some m)) A = some (goInt l.length) := len_u ti82 t82_desc hm

theorem len_spec {A : ASt} {W all now : Nat} {ms : List Nat} {M : TM} (h : WheelAt A W all ms now M) :
    CallW Z Tryd.prog 109 [.pointer (some ⟨W, 0, none⟩)] A (fun v A' => (∃ n : Nat, v = .int .i64 (n : Int) ∧ Cnt M n) ∧ A' = A) := by
  refine CallW.of_code E0_ok E0_ro fn109 rfl (n := 10) rfl (rs := [.tmp 2]) rfl (by simp) (codeW_ok E0_ok E0_ro ?_)
  have hW := h.row
  obtain ⟨la, cka, hla, hoka, hga⟩ := h.allm
  simp only [hW, wrow_now, wrow_all, eqnil25, oneW_next, s_0, s_1, s_2, s_3, s_4, g_0, w_0, w_wh, Hands, handsV, resultsV, oneOrTuple, argsT, ev, evs, evPairs, evOpt, closed, flat, nth, aCall, aEnter, notYield, aNilCheck, partV, isAggD, aFieldAddr, aField, aExtract, Option.isNone, aBuiltin, aUn, cond_true, cond_false, cond_dec, if_true, if_false, List.length_cons, List.length_nil, forall_const, implies_true, List.append_nil, List.cons_append, List.nil_append, eq_self, Nat.reduceEqDiff, Nat.reduceAdd, Nat.reduceMul, Nat.reduceSub, Nat.reduceLT, Nat.reduceLeDiff, Nat.reduceBEq, reduceIte, reduceCtorEq, lenT hla, goInt]
  exact ⟨la.length, rfl, Holds.cnt hla hoka hga⟩
end Go.Proofs.YtgcffmhpjphefaaDoor

/- The wheel: what Advance's closure does. -/
namespace Go.Proofs.YtgcffmhpjphefaaDoor
open Go Go.AE

variable {Z : Go.AE.Road}
set_option maxRecDepth 10000

/-- What was gone through is laid over. -/
noncomputable def puts (D : TM) (done : List UE) (p : Nat → Bool) : TM := fun k => match uget done k with
  | some a => if p a then some a else D k
  | none => D k
noncomputable def TM.over (D S : TM) (p : Nat → Bool) : TM := fun k => match S k with
  | some a => if p a then some a else D k
  | none => D k

theorem puts_nil {D : TM} {p : Nat → Bool} : puts D [] p = D := rfl
theorem puts_snoc {D : TM} {done : List UE} {p : Nat → Bool} {x : UE} (h : uget done x.1 = none) : puts D (done ++ [x]) p = if p x.2.1 then (puts D done p).put x.1 x.2.1 else puts D done p := by
  funext k
  unfold puts TM.put
  rw [uget_snoc]
  by_cases e : k = x.1
  · subst e
    rw [h]
    by_cases hp : p x.2.1 <;> simp [hp, h]
  · by_cases hp : p x.2.1 <;> simp [hp, e]

theorem fresh_key {l done : List UE} {ck : Nat} (hok : MapOK l ck) (hsub : ∀ x ∈ done, x ∈ l) {x : UE} (hx : x ∈ l) (hn : x ∉ done) : uget done x.1 = none := by
  rw [uget_none]
  intro y hy e
  exact hn (keys_one (f := fun z : UE => z.1) hok.keys (hsub y hy) hx e ▸ hy)

theorem rangeT {A : ASt} {m ck : Nat} {es : List MapEntry} (hm : A.get m = some (.map es ck)) : aRange E0 82 (.map (some m)) A = .val (.pointer (some ⟨A.next, 0, none⟩)) (A.new (.miter (some m) ck [] ck)) := range_u ti82 t82_desc hm
theorem clearT {A : ASt} {m ck : Nat} {es : List MapEntry} (hm : A.get m = some (.map es ck)) : aClear2 E0 t82 (.map (some m)) A = .val undef (A.set m (.map [] ck)) := by
  simp only [aClear2, t82_desc, aClear, hm]

theorem empty_spec {A : ASt} {m p3 p5 p6 d lf nw : Nat} {S D L : TM} (h3 : A.get p3 = some (.row [.int .u64 (nw : Int)] 1 false)) (h5 : A.get p5 = some (.row [.map (some d)] 1 false)) (h6 : A.get p6 = some (.row [.map (some lf)] 1 false))
    (hm : Holds A m S) (hd : Holds A d D) (hl : Holds A lf L) (e1 : m ≠ d) (e2 : m ≠ lf) (e3 : d ≠ lf) (hb : ∀ b ∈ [m, d, lf, p3, p5, p6], b < A.next) :
    CallW Z Tryd.prog 44 [.map (some m), .pointer (some ⟨p3, 0, none⟩), .pointer (some ⟨p5, 0, none⟩), .pointer (some ⟨p6, 0, none⟩)] A (fun _ A' => Holds A' m (fun _ => none) ∧ Holds A' d (D.over S fun a => decide (a ≤ nw)) ∧ Holds A' lf (L.over S fun a => !decide (a ≤ nw)) ∧ Fr [m, d, lf] A A') := by
  refine CallW.of_code E0_ok E0_ro fn44 rfl (n := 24) rfl (rs := []) rfl (by simp) (codeW_ok E0_ok E0_ro ?_)
  obtain ⟨es, ck, hes, hok, hg⟩ := hm
  have hmb := hb m (by simp)
  have hdb := hb d (by simp)
  have hlb := hb lf (by simp)
  have h3b := hb p3 (by simp)
  have h5b := hb p5 (by simp)
  have h6b := hb p6 (by simp)
  have ne : ∀ {p : Nat} {c : List Value} {sz : Nat} {tl : Bool}, A.get p = some (.row c sz tl) → ∀ {q : Nat} {T : TM}, Holds A q T → p ≠ q := by
    rintro p c sz tl hp q T ⟨_, _, hq, _⟩ rfl
    rw [hp] at hq
    cases hq
  simp only [wrow_now, wrow_all, eqnil25, oneW_next, s_0, s_1, s_2, s_3, s_4, g_0, w_0, w_wh, Hands, handsV, resultsV, oneOrTuple, argsT, ev, evs, evPairs, evOpt, closed, flat, nth, aCall, aEnter, notYield, aNilCheck, partV, isAggD, aFieldAddr, aField, aExtract, Option.isNone, aBuiltin, aUn, cond_true, cond_false, cond_dec, if_true, if_false, List.length_cons, List.length_nil, forall_const, implies_true, List.append_nil, List.cons_append, List.nil_append, eq_self, Nat.reduceEqDiff, Nat.reduceAdd, Nat.reduceMul, Nat.reduceSub, Nat.reduceLT, Nat.reduceLeDiff, Nat.reduceBEq, reduceIte, reduceCtorEq, rangeT hes]
  refine CodeW.mono (Q := fun o => ∃ T' A' done, o = .fr ⟨.exit 0, T', A'⟩ ∧ InMap 8 A.next m ck es done T' A' ∧ (∀ x ∈ es, x ∈ done) ∧ tget T' 0 = .map (some m) ∧ Holds A' d (puts D done fun a => decide (a ≤ nw)) ∧ Holds A' lf (puts L done fun a => !decide (a ≤ nw)) ∧ Fr [m, d, lf] A A') ?_ ?_
  · refine CodeW.mapLoop (it := 8) (r := A.next) (m := m) (ck := ck) (l := es) (J := fun done T A' => tget T 0 = .map (some m) ∧ tget T 1 = .pointer (some ⟨p3, 0, none⟩) ∧ tget T 2 = .pointer (some ⟨p5, 0, none⟩) ∧ tget T 3 = .pointer (some ⟨p6, 0, none⟩) ∧ Holds A' d (puts D done fun a => decide (a ≤ nw)) ∧ Holds A' lf (puts L done fun a => !decide (a ≤ nw)) ∧ Fr [m, d, lf] A A') ?_ ?_ ?_
    · rintro done T A1 hi ⟨t0, t1, t2, t3, hd1, hl1, f1⟩
      refine codeW_ok E0_ok E0_ro ?_
      have g3 : A1.get p3 = _ := (f1.get p3 h3b (by simp [ne h3 ⟨es, ck, hes, hok, hg⟩, ne h3 hd, ne h3 hl])).trans h3
      have g5 : A1.get p5 = _ := (f1.get p5 h5b (by simp [ne h5 ⟨es, ck, hes, hok, hg⟩, ne h5 hd, ne h5 hl])).trans h5
      have g6 : A1.get p6 = _ := (f1.get p6 h6b (by simp [ne h6 ⟨es, ck, hes, hok, hg⟩, ne h6 hd, ne h6 hl])).trans h6
      have hit := hi.it
      simp only [wrow_now, wrow_all, eqnil25, oneW_next, s_0, s_1, s_2, s_3, s_4, g_0, w_0, w_wh, Hands, handsV, resultsV, oneOrTuple, argsT, ev, evs, evPairs, evOpt, closed, flat, nth, aCall, aEnter, notYield, aNilCheck, partV, isAggD, aFieldAddr, aField, aExtract, Option.isNone, aBuiltin, aUn, cond_true, cond_false, cond_dec, if_true, if_false, List.length_cons, List.length_nil, forall_const, implies_true, List.append_nil, List.cons_append, List.nil_append, eq_self, Nat.reduceEqDiff, Nat.reduceAdd, Nat.reduceMul, Nat.reduceSub, Nat.reduceLT, Nat.reduceLeDiff, Nat.reduceBEq, reduceIte, reduceCtorEq, hit]
      refine nextV_u hok hi.sub hi.iter hi.map (fun x hx hn => ?_) (fun hall => ?_)
      · have hkey := fresh_key hok hi.sub hx hn
        obtain ⟨ld, ckd, hld, hokd, hgd⟩ := hd1
        obtain ⟨ll, ckl, hll, hokl, hgl⟩ := hl1
        have hent := entry_u (A := A1.set A.next (.miter (some m) ck ((done ++ [x]).map (·.2.2)) ck)) (r := A.next) (m := m) hok hx (by rw [ASt.get_set, if_pos rfl]) (by rw [ASt.get_set, if_neg (by omega)]; exact hi.map)
        have g3' : (A1.set A.next (.miter (some m) ck ((done ++ [x]).map (·.2.2)) ck)).get p3 = some (.row [.int .u64 (nw : Int)] 1 false) := by rw [ASt.get_set, if_neg (by omega)]; exact g3
        have g5' : (A1.set A.next (.miter (some m) ck ((done ++ [x]).map (·.2.2)) ck)).get p5 = some (.row [.map (some d)] 1 false) := by rw [ASt.get_set, if_neg (by omega)]; exact g5
        have g6' : (A1.set A.next (.miter (some m) ck ((done ++ [x]).map (·.2.2)) ck)).get p6 = some (.row [.map (some lf)] 1 false) := by rw [ASt.get_set, if_neg (by omega)]; exact g6
        have gd' : (A1.set A.next (.miter (some m) ck ((done ++ [x]).map (·.2.2)) ck)).get d = some (.map (uEnts ld) ckd) := by rw [ASt.get_set, if_neg (by omega)]; exact hld
        have gl' : (A1.set A.next (.miter (some m) ck ((done ++ [x]).map (·.2.2)) ck)).get lf = some (.map (uEnts ll) ckl) := by rw [ASt.get_set, if_neg (by omega)]; exact hll
        have gr' : (A1.set A.next (.miter (some m) ck ((done ++ [x]).map (·.2.2)) ck)).get A.next = some (.miter (some m) ck ((done ++ [x]).map (·.2.2)) ck) := by rw [ASt.get_set, if_pos rfl]
        have gm' : (A1.set A.next (.miter (some m) ck ((done ++ [x]).map (·.2.2)) ck)).get m = A1.get m := by rw [ASt.get_set, if_neg (by omega)]
        have fb : Fr [m, d, lf] A (A1.set A.next (.miter (some m) ck ((done ++ [x]).map (·.2.2)) ck)) := ⟨f1.next, fun b hb hn => by rw [ASt.get_set, if_neg (by omega)]; exact f1.get b hb hn⟩
        have nx1 := f1.next
        generalize A1.set A.next (.miter (some m) ck ((done ++ [x]).map (·.2.2)) ck) = B at *
        have hud := updateT gd' x.1 x.2.1
        have hul := updateT gl' x.1 x.2.1
        simp only [wrow_now, wrow_all, eqnil25, oneW_next, s_0, s_1, s_2, s_3, s_4, g_0, w_0, w_wh, Hands, handsV, resultsV, oneOrTuple, argsT, ev, evs, evPairs, evOpt, closed, flat, nth, aCall, aEnter, notYield, aNilCheck, partV, isAggD, aFieldAddr, aField, aExtract, Option.isNone, aBuiltin, aUn, cond_true, cond_false, cond_dec, if_true, if_false, List.length_cons, List.length_nil, forall_const, implies_true, List.append_nil, List.cons_append, List.nil_append, eq_self, Nat.reduceEqDiff, Nat.reduceAdd, Nat.reduceMul, Nat.reduceSub, Nat.reduceLT, Nat.reduceLeDiff, Nat.reduceBEq, reduceIte, reduceCtorEq, hit, hent, t1, t2, t3, g3']
        refine brW_dec (fun hle => ?_) (fun hle => ?_)
        · have hle' : x.2.1 ≤ nw := by omega
          simp only [wrow_now, wrow_all, eqnil25, oneW_next, s_0, s_1, s_2, s_3, s_4, g_0, w_0, w_wh, Hands, handsV, resultsV, oneOrTuple, argsT, ev, evs, evPairs, evOpt, closed, flat, nth, aCall, aEnter, notYield, aNilCheck, partV, isAggD, aFieldAddr, aField, aExtract, Option.isNone, aBuiltin, aUn, cond_true, cond_false, cond_dec, if_true, if_false, List.length_cons, List.length_nil, forall_const, implies_true, List.append_nil, List.cons_append, List.nil_append, eq_self, Nat.reduceEqDiff, Nat.reduceAdd, Nat.reduceMul, Nat.reduceSub, Nat.reduceLT, Nat.reduceLeDiff, Nat.reduceBEq, reduceIte, reduceCtorEq, t1, t2, t3, g5', hud]
          refine ⟨x, hx, hn, hi.step hx hn (by simp only [tget_put, Nat.reduceEqDiff, if_false, reduceIte]) (by rw [ASt.get_set, if_neg (by omega)]; exact gr') (by rw [ASt.get_set, if_neg e1]; exact gm'), ?_, ?_, ?_, ?_⟩
          · exact t0
          · refine ⟨_, _, by rw [ASt.get_set, if_pos rfl], uput_ok hokd, fun k => ?_⟩
            rw [uget_uput, hgd, puts_snoc hkey]
            simp only [hle', decide_true, if_true]
            rfl
          · refine ⟨ll, ckl, by rw [ASt.get_set, if_neg (Ne.symm e3)]; exact gl', hokl, fun k => ?_⟩
            rw [hgl, puts_snoc hkey]
            simp only [hle', decide_true, Bool.not_true, Bool.false_eq_true, if_false]
          · exact ⟨fb.next, fun b hb hn => by rw [ASt.get_set, if_neg (by rintro rfl; simp at hn)]; exact fb.get b hb hn⟩
        · have hle' : ¬ x.2.1 ≤ nw := by omega
          simp only [wrow_now, wrow_all, eqnil25, oneW_next, s_0, s_1, s_2, s_3, s_4, g_0, w_0, w_wh, Hands, handsV, resultsV, oneOrTuple, argsT, ev, evs, evPairs, evOpt, closed, flat, nth, aCall, aEnter, notYield, aNilCheck, partV, isAggD, aFieldAddr, aField, aExtract, Option.isNone, aBuiltin, aUn, cond_true, cond_false, cond_dec, if_true, if_false, List.length_cons, List.length_nil, forall_const, implies_true, List.append_nil, List.cons_append, List.nil_append, eq_self, Nat.reduceEqDiff, Nat.reduceAdd, Nat.reduceMul, Nat.reduceSub, Nat.reduceLT, Nat.reduceLeDiff, Nat.reduceBEq, reduceIte, reduceCtorEq, t1, t2, t3, g6', hul]
          refine ⟨x, hx, hn, hi.step hx hn (by simp only [tget_put, Nat.reduceEqDiff, if_false, reduceIte]) (by rw [ASt.get_set, if_neg (by omega)]; exact gr') (by rw [ASt.get_set, if_neg e2]; exact gm'), ?_, ?_, ?_, ?_⟩
          · exact t0
          · refine ⟨ld, ckd, by rw [ASt.get_set, if_neg e3]; exact gd', hokd, fun k => ?_⟩
            rw [hgd, puts_snoc hkey]
            simp only [hle', decide_false, Bool.false_eq_true, if_false]
          · refine ⟨_, _, by rw [ASt.get_set, if_pos rfl], uput_ok hokl, fun k => ?_⟩
            rw [uget_uput, hgl, puts_snoc hkey]
            simp only [hle', decide_false, Bool.not_false, if_true]
            rfl
          · exact ⟨fb.next, fun b hb hn => by rw [ASt.get_set, if_neg (by rintro rfl; simp at hn)]; exact fb.get b hb hn⟩
      · simp only [wrow_now, wrow_all, eqnil25, oneW_next, s_0, s_1, s_2, s_3, s_4, g_0, w_0, w_wh, Hands, handsV, resultsV, oneOrTuple, argsT, ev, evs, evPairs, evOpt, closed, flat, nth, aCall, aEnter, notYield, aNilCheck, partV, isAggD, aFieldAddr, aField, aExtract, Option.isNone, aBuiltin, aUn, cond_true, cond_false, cond_dec, if_true, if_false, List.length_cons, List.length_nil, forall_const, implies_true, List.append_nil, List.cons_append, List.nil_append, eq_self, Nat.reduceEqDiff, Nat.reduceAdd, Nat.reduceMul, Nat.reduceSub, Nat.reduceLT, Nat.reduceLeDiff, Nat.reduceBEq, reduceIte, reduceCtorEq]
        refine ⟨_, _, done, rfl, ⟨?_, hi.iter, hi.map, hi.sub, hi.nodup⟩, hall, ?_, hd1, hl1, f1⟩
        · simp only [tget_put, Nat.reduceEqDiff, if_false, reduceIte]; exact hit
        · simp only [tget_put, Nat.reduceEqDiff, if_false, reduceIte]; exact t0
    · refine ⟨rfl, by rw [ASt.get_new, if_pos rfl]; rfl, by rw [ASt.get_new, if_neg (by omega)]; exact hes, by simp, .nil⟩
    · refine ⟨rfl, rfl, rfl, rfl, hd.congr (by rw [ASt.get_new, if_neg (by omega)]), hl.congr (by rw [ASt.get_new, if_neg (by omega)]), Nat.le_succ _, fun b hb hn => by rw [ASt.get_new, if_neg (by omega)]⟩
  · rintro o ⟨T', A', done, rfl, hi, hall, t0, hd1, hl1, f1⟩
    have hck := hi.map
    simp only [wrow_now, wrow_all, eqnil25, oneW_next, s_0, s_1, s_2, s_3, s_4, g_0, w_0, w_wh, Hands, handsV, resultsV, oneOrTuple, argsT, ev, evs, evPairs, evOpt, closed, flat, nth, aCall, aEnter, notYield, aNilCheck, partV, isAggD, aFieldAddr, aField, aExtract, Option.isNone, aBuiltin, aUn, cond_true, cond_false, cond_dec, if_true, if_false, List.length_cons, List.length_nil, forall_const, implies_true, List.append_nil, List.cons_append, List.nil_append, eq_self, Nat.reduceEqDiff, Nat.reduceAdd, Nat.reduceMul, Nat.reduceSub, Nat.reduceLT, Nat.reduceLeDiff, Nat.reduceBEq, reduceIte, reduceCtorEq, t0, clearT hck]
    obtain ⟨hk, hu⟩ := uget_all hok hi.sub hall hi.nodup
    have hov : ∀ (X : TM) (p : Nat → Bool), puts X done p = X.over S p := by
      intro X p
      funext k
      unfold puts TM.over
      rw [hu, hg]
    rw [hov] at hd1 hl1
    refine ⟨⟨[], ck, by rw [ASt.get_set, if_pos rfl]; rfl, ⟨.nil, .nil, by simp⟩, fun k => rfl⟩, hd1.congr (by rw [ASt.get_set, if_neg (Ne.symm e1)]), hl1.congr (by rw [ASt.get_set, if_neg (Ne.symm e2)]), f1.next, fun b hb hn => by rw [ASt.get_set, if_neg (by rintro rfl; simp at hn)]; exact f1.get b hb hn⟩
end Go.Proofs.YtgcffmhpjphefaaDoor

/- The wheel: where a timer stands when the clock moves. Plain. -/
namespace Go.Proofs.YtgcffmhpjphefaaDoor
open Go Go.AE

theorem bl_bounds {x : Nat} (h : x < 18446744073709551616) (h0 : x ≠ 0) : 1 ≤ Lib.bitLen x ∧ 2 ^ (Lib.bitLen x - 1) ≤ x ∧ x < 2 ^ Lib.bitLen x := Lib.bitLenAux_bounds 64 x (by omega) h0
theorem bl_lt {x : Nat} (h : x < 18446744073709551616) : x < 2 ^ Lib.bitLen x := by
  by_cases h0 : x = 0
  · subst h0; exact Nat.two_pow_pos _
  · exact (bl_bounds h h0).2.2
theorem bl_eq {x k : Nat} (h : x < 18446744073709551616) (h1 : 2 ^ k ≤ x) (h2 : x < 2 ^ (k + 1)) : Lib.bitLen x = k + 1 := by
  have h0 : x ≠ 0 := by have := Nat.two_pow_pos k; omega
  obtain ⟨b1, b2, b3⟩ := bl_bounds h h0
  have a1 : Lib.bitLen x - 1 < k + 1 := (Nat.pow_lt_pow_iff_right (a := 2) (by omega)).1 (by omega)
  have a2 : k < Lib.bitLen x := (Nat.pow_lt_pow_iff_right (a := 2) (by omega)).1 (by omega)
  omega
theorem bit_top {x t : Nat} (h1 : 2 ^ t ≤ x) (h2 : x < 2 ^ (t + 1)) : x.testBit t = true := by
  cases hb : x.testBit t with
  | true => rfl
  | false =>
    exfalso
    have : x < 2 ^ t := by
      refine Nat.lt_pow_two_of_testBit x fun j hj => ?_
      rcases Nat.eq_or_lt_of_le hj with rfl | hlt
      · exact hb
      · exact Nat.testBit_lt_two_pow (Nat.lt_of_lt_of_le h2 (Nat.pow_le_pow_right (by omega) hlt))
    omega

theorem lt_bit {x y : Nat} (t : Nat) (hx : x.testBit t = false) (hy : y.testBit t = true) (h : ∀ j, t < j → x.testBit j = y.testBit j) : x < y := by
  have e : x / 2 ^ (t + 1) = y / 2 ^ (t + 1) := by
    apply Nat.eq_of_testBit_eq
    intro i
    rw [Nat.testBit_div_two_pow, Nat.testBit_div_two_pow]
    exact h _ (by omega)
  have h1 : x / 2 ^ t = 2 * (x / 2 ^ (t + 1)) := by
    have a : x / 2 ^ t % 2 = 0 := by
      have := hx
      rw [Nat.testBit_eq_decide_div_mod_eq] at this
      have := of_decide_eq_false this
      omega
    have b : x / 2 ^ (t + 1) = x / 2 ^ t / 2 := by rw [Nat.pow_succ, Nat.div_div_eq_div_mul]
    omega
  have h2 : y / 2 ^ t = 2 * (y / 2 ^ (t + 1)) + 1 := by
    have a : y / 2 ^ t % 2 = 1 := by
      have := hy
      rw [Nat.testBit_eq_decide_div_mod_eq] at this
      exact of_decide_eq_true this
    have b : y / 2 ^ (t + 1) = y / 2 ^ t / 2 := by rw [Nat.pow_succ, Nat.div_div_eq_div_mul]
    omega
  have h3 : x / 2 ^ t < y / 2 ^ t := by omega
  exact (Nat.lt_of_not_le fun hle => by have := Nat.div_le_div_right (c := 2 ^ t) hle; omega)

/-- A timer whose level is not left behind stays where it is, and is above the clock. -/
theorem plc_far {now nw a : Nat} (hnow : now < 18446744073709551616) (hnw : nw < 18446744073709551616) (ha : a < 18446744073709551616) (hlt : now < a) (hD : ¬ plc now a < 16 * ((Lib.bitLen (nw ^^^ now) + 3) / 4)) : nw < a ∧ plc nw a = plc now a := by
  have hx : a ^^^ now < 18446744073709551616 := Nat.xor_lt_two_pow (n := 64) (by omega) (by omega)
  have hy : nw ^^^ now < 18446744073709551616 := Nat.xor_lt_two_pow (n := 64) (by omega) (by omega)
  have hx0 : a ^^^ now ≠ 0 := fun e => by
    have : a = now := by
      apply Nat.eq_of_testBit_eq
      intro i
      have := congrArg (fun z => z.testBit i) e
      simp only [Nat.testBit_xor, Nat.zero_testBit] at this
      simpa using this
    omega
  have hlv : (Lib.bitLen (nw ^^^ now) + 3) / 4 ≤ lvl now a := by
    unfold plc at hD
    split at hD
    · rename_i h4; omega
    · rename_i h4
      have : a / 2 ^ (4 * lvl now a) % 16 < 16 := Nat.mod_lt _ (by omega)
      omega
  obtain ⟨b1, b2, b3⟩ := bl_bounds hx hx0
  have by_ := bl_lt hy
  have hst : Lib.bitLen (nw ^^^ now) ≤ Lib.bitLen (a ^^^ now) - 1 := by unfold lvl at hlv; omega
  have hylt : nw ^^^ now < 2 ^ (Lib.bitLen (a ^^^ now) - 1) := Nat.lt_of_lt_of_le by_ (Nat.pow_le_pow_right (by omega) hst)
  obtain ⟨t, ht⟩ : ∃ t, Lib.bitLen (a ^^^ now) = t + 1 := ⟨_, (Nat.sub_add_cancel b1).symm⟩
  rw [ht, Nat.add_sub_cancel] at b2 hylt
  rw [ht] at b3
  have e : a ^^^ nw = (a ^^^ now) ^^^ (nw ^^^ now) := by
    apply Nat.eq_of_testBit_eq
    intro i
    simp only [Nat.testBit_xor]
    cases a.testBit i <;> cases nw.testBit i <;> cases now.testBit i <;> rfl
  have xt := bit_top b2 b3
  have ytz : ∀ j, t ≤ j → (nw ^^^ now).testBit j = false := fun j hj => Nat.testBit_lt_two_pow (Nat.lt_of_lt_of_le hylt (Nat.pow_le_pow_right (by omega) hj))
  have xz : ∀ j, t < j → (a ^^^ now).testBit j = false := fun j hj => Nat.testBit_lt_two_pow (Nat.lt_of_lt_of_le b3 (Nat.pow_le_pow_right (by omega) hj))
  have hbl : Lib.bitLen (a ^^^ nw) = t + 1 := by
    refine bl_eq ?_ ?_ ?_
    · exact Nat.xor_lt_two_pow (n := 64) (by omega) (by omega)
    · refine Nat.ge_two_pow_of_testBit ?_
      rw [e, Nat.testBit_xor, xt, ytz t (Nat.le_refl _)]; rfl
    · rw [e]
      exact Nat.xor_lt_two_pow b3 (Nat.lt_of_lt_of_le hylt (Nat.pow_le_pow_right (by omega) (by omega)))
  have hl : lvl nw a = lvl now a := by unfold lvl; rw [hbl, ht]
  have up : ∀ j, t < j → a.testBit j = now.testBit j := fun j hj => by
    have := xz j hj
    rw [Nat.testBit_xor] at this
    simpa using this
  have upn : ∀ j, t ≤ j → nw.testBit j = now.testBit j := fun j hj => by
    have := ytz j hj
    rw [Nat.testBit_xor] at this
    simpa using this
  rw [Nat.testBit_xor] at xt
  have hat : a.testBit t = true := by
    cases hb : a.testBit t with
    | true => rfl
    | false =>
      rw [hb, Bool.false_xor] at xt
      have := lt_bit t hb xt up
      omega
  rw [hat, Bool.true_xor, Bool.not_eq_true'] at xt
  refine ⟨lt_bit t (by rw [upn t (Nat.le_refl _)]; exact xt) hat fun j hj => by rw [upn j (by omega), up j hj], ?_⟩
  unfold plc
  rw [hl]
end Go.Proofs.YtgcffmhpjphefaaDoor
