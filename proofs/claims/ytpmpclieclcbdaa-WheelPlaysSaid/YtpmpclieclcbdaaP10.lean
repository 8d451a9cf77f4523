/- The law 'WheelPlays': the walk. -/
import Derived.Test.YtpmpclieclcbdaaP09
import Derived.Test.YtpmpclieclcbdaaRows
import Derived.ProofKit
import Derived.Lib.SmallJoins
import Derived.Deep.Slices
set_option linter.unusedSimpArgs false
set_option linter.unusedVariables false
set_option linter.unusedSectionVars false
namespace Go.Proofs.Ytpmpclieclcbdaa
open Go Go.AE Go.Sort

variable {Z : Go.AE.Road}
set_option maxRecDepth 10000
set_option maxHeartbeats 8000000

theorem bump_fr {A : ASt} {n : Nat} : Fr [] A { heap := A.heap, next := A.next + n } := ⟨Nat.le_add_right _ _, fun _ _ _ => get_next⟩
theorem both_put {F G : ASt} {W all m nw i : Nat} {ms : List Nat} {M : TM} {v v' : Value} {L' : List (ByteArray × Nat)} (hw : WheelAt F W all ms nw M) (hd : DocAt G m nw v' L') (hL : Lists M L') (hup : Upto M i) (hl : L'.length ≤ i) (hbk : ∀ b, Blk v b → b ∉ W :: all :: ms) (hb : ∀ b, Blk v' b → Blk v b ∨ F.next ≤ b) (f : Fr [m] F G) (hm : m ∉ W :: all :: ms) : Both G W all ms m i :=
  ⟨nw, M, v', L', hw.congr f.next (fun b hb => f.get b (hw.below b hb) (by simp only [List.mem_singleton]; exact fun e => hm (e ▸ hb))), hd, hL, hup, hl, fun b h hm => (hb b h).elim (fun h => hbk b h hm) (fun h => absurd (hw.below b hm) (by omega))⟩
theorem z_get {D F G : ASt} {n W all m nw : Nat} {ms : List Nat} {M : TM} {v : Value} {L : List (ByteArray × Nat)} (h0 : D.get 0 = none) (hn : 0 < D.next) (fF : Fr (W :: all :: ms) { heap := D.heap, next := D.next + n } F) (fG : Fr [m] F G) (hw : WheelAt D W all ms nw M) (hd : DocAt D m nw v L) : G.get 0 = none := by
  have h1 : D.next + n ≤ F.next := fF.next
  rw [fG.get 0 (by omega) (by simp only [List.mem_singleton]; rintro rfl; rw [hd.row] at h0; cases h0), fF.get 0 (by show 0 < D.next + n; omega) (hw.nn h0), get_next]
  exact h0
theorem slot_none {A : ASt} {W : Nat} {l j : Int} (h : l < 0 ∨ 4 ≤ l ∨ j < 0 ∨ 16 ≤ j) :
    CallW Z Try.prog 24 [.pointer (some ⟨W, 0, none⟩), .int .i64 l, .int .i64 j] A (fun r A' => r = .slice none 0 0 ∧ A' = A) := by
  refine CallW.of_code E0_ok E0_ro fn24 rfl (n := 34) rfl (rs := [.tmp 6]) rfl (by simp) (codeW_ok E0_ok E0_ro ?_)
  by_cases h1 : l < 0
  · have f1 := eq_true h1
    simp only [oneW_next, s_0, s_1, s_2, s_3, s_4, Hands, handsV, resultsV, oneOrTuple, argsT, ev, evs, evPairs, evOpt, closed, flat, nth, aCall, aEnter, notYield, aNilCheck, aLoad, partV, isAggD, aFieldAddr, aField, aExtract, Option.isNone, aBuiltin, cond_true, cond_false, cond_dec, if_true, if_false, List.length_cons, List.length_nil, forall_const, implies_true, List.append_nil, List.cons_append, List.nil_append, eq_self, Nat.reduceEqDiff, Nat.reduceAdd, Nat.reduceMul, Nat.reduceSub, Nat.reduceLT, Nat.reduceLeDiff, Nat.reduceBEq, reduceIte, reduceCtorEq, ti63, t63_desc, t63_size, ti25, t25_desc, ti22, t22_desc, t22_size, ti59, t59_desc, t59_size, ti60, t60_desc, t60_size, ti61, t61_desc, t61_size, ti3, t3_desc, t3_size, ti40, t40_desc, t40_size, ti33, t33_desc, t33_size, ti9, t9_desc, t9_size, wrow_now, wrow_all, eqnil25, fn17, fn26, fn27, fn28, fn29, fn38, fn39, fn12, fn14, fn15, eqnil25, f1]
  have f1 := eq_false h1
  by_cases h2 : l ≥ 4
  · have f2 := eq_true h2
    simp only [oneW_next, s_0, s_1, s_2, s_3, s_4, Hands, handsV, resultsV, oneOrTuple, argsT, ev, evs, evPairs, evOpt, closed, flat, nth, aCall, aEnter, notYield, aNilCheck, aLoad, partV, isAggD, aFieldAddr, aField, aExtract, Option.isNone, aBuiltin, cond_true, cond_false, cond_dec, if_true, if_false, List.length_cons, List.length_nil, forall_const, implies_true, List.append_nil, List.cons_append, List.nil_append, eq_self, Nat.reduceEqDiff, Nat.reduceAdd, Nat.reduceMul, Nat.reduceSub, Nat.reduceLT, Nat.reduceLeDiff, Nat.reduceBEq, reduceIte, reduceCtorEq, ti63, t63_desc, t63_size, ti25, t25_desc, ti22, t22_desc, t22_size, ti59, t59_desc, t59_size, ti60, t60_desc, t60_size, ti61, t61_desc, t61_size, ti3, t3_desc, t3_size, ti40, t40_desc, t40_size, ti33, t33_desc, t33_size, ti9, t9_desc, t9_size, wrow_now, wrow_all, eqnil25, fn17, fn26, fn27, fn28, fn29, fn38, fn39, fn12, fn14, fn15, eqnil25, f1, f2]
  have f2 := eq_false h2
  by_cases h3 : j < 0
  · have f3 := eq_true h3
    simp only [oneW_next, s_0, s_1, s_2, s_3, s_4, Hands, handsV, resultsV, oneOrTuple, argsT, ev, evs, evPairs, evOpt, closed, flat, nth, aCall, aEnter, notYield, aNilCheck, aLoad, partV, isAggD, aFieldAddr, aField, aExtract, Option.isNone, aBuiltin, cond_true, cond_false, cond_dec, if_true, if_false, List.length_cons, List.length_nil, forall_const, implies_true, List.append_nil, List.cons_append, List.nil_append, eq_self, Nat.reduceEqDiff, Nat.reduceAdd, Nat.reduceMul, Nat.reduceSub, Nat.reduceLT, Nat.reduceLeDiff, Nat.reduceBEq, reduceIte, reduceCtorEq, ti63, t63_desc, t63_size, ti25, t25_desc, ti22, t22_desc, t22_size, ti59, t59_desc, t59_size, ti60, t60_desc, t60_size, ti61, t61_desc, t61_size, ti3, t3_desc, t3_size, ti40, t40_desc, t40_size, ti33, t33_desc, t33_size, ti9, t9_desc, t9_size, wrow_now, wrow_all, eqnil25, fn17, fn26, fn27, fn28, fn29, fn38, fn39, fn12, fn14, fn15, eqnil25, f1, f2, f3]
  have f3 := eq_false h3
  have f4 : (j ≥ 16) = True := eq_true (by omega)
  simp only [oneW_next, s_0, s_1, s_2, s_3, s_4, Hands, handsV, resultsV, oneOrTuple, argsT, ev, evs, evPairs, evOpt, closed, flat, nth, aCall, aEnter, notYield, aNilCheck, aLoad, partV, isAggD, aFieldAddr, aField, aExtract, Option.isNone, aBuiltin, cond_true, cond_false, cond_dec, if_true, if_false, List.length_cons, List.length_nil, forall_const, implies_true, List.append_nil, List.cons_append, List.nil_append, eq_self, Nat.reduceEqDiff, Nat.reduceAdd, Nat.reduceMul, Nat.reduceSub, Nat.reduceLT, Nat.reduceLeDiff, Nat.reduceBEq, reduceIte, reduceCtorEq, ti63, t63_desc, t63_size, ti25, t25_desc, ti22, t22_desc, t22_size, ti59, t59_desc, t59_size, ti60, t60_desc, t60_size, ti61, t61_desc, t61_size, ti3, t3_desc, t3_size, ti40, t40_desc, t40_size, ti33, t33_desc, t33_size, ti9, t9_desc, t9_size, wrow_now, wrow_all, eqnil25, fn17, fn26, fn27, fn28, fn29, fn38, fn39, fn12, fn14, fn15, eqnil25, f1, f2, f3, f4]

theorem Lists.first {M : TM} {L : List (ByteArray × Nat)} {t : Nat} {k : ByteArray} (hL : Lists M L) (hk : M k = some t) (hmin : ∀ k a, M k = some a → t ≤ a) : ∃ x, L[0]? = some x ∧ x.2 = t := by
  have hm := (hL.mem k t).2 hk
  match L, hL, hm with
  | x :: l, hL, hm =>
    refine ⟨x, rfl, ?_⟩
    have h1 : t ≤ x.2 := hmin _ _ ((hL.mem x.1 x.2).1 (by simp))
    rcases List.mem_cons.1 hm with e | e
    · rw [← e]
    · have := (List.pairwise_cons.1 hL.ord).1 _ e
      rcases this with h | h
      · have : x.2 < t := h
        omega
      · exact h.1

theorem plays_walk {s : Spans} {acts : List ActD} {sv : Value} {now : Nat} (hro : RoadRo Z (withRo E0 s)) (hs0 : roTab s 0 = some (acells acts)) (hsl : s.length = 1)
    (hlen : ∀ A, aLen E0 37 sv A = some (.int .i64 (acts.length : Int))) (hix : ∀ i : Nat, i < acts.length → aIndexAddr E0 37 sv (.int .i64 (i : Int)) = some (.pointer (some ⟨0, i * 4, none⟩)))
    (hnow : now < 18446744073709551616) (hact : ∀ x ∈ acts, x.at_ < 18446744073709551616 ∧ x.by_ < 18446744073709551616) :
    CallW Z Try.prog 5 [.int .u64 (now : Int), sv] (startAt s.length) (fun v _ => v = .bool true) := by
  refine CallW.of_code (withRo_ok E0_ok) hro (f := 5) (fn := Try.f5) fn5 rfl (n := 158) rfl (rs := [.tmp 4]) rfl (by simp) (codeW_ok (withRo_ok E0_ok) hro ?_)
  simp only [oneW_next, s_0, s_1, s_2, s_3, s_4, Hands, handsV, resultsV, oneOrTuple, argsT, ev, evs, evPairs, evOpt, closed, flat, nth, aCall, aEnter, notYield, aNilCheck, aLoad, partV, isAggD, aFieldAddr, aField, aExtract, Option.isNone, aBuiltin, cond_true, cond_false, cond_dec, if_true, if_false, List.length_cons, List.length_nil, forall_const, implies_true, List.append_nil, List.cons_append, List.nil_append, eq_self, Nat.reduceEqDiff, Nat.reduceAdd, Nat.reduceMul, Nat.reduceSub, Nat.reduceLT, Nat.reduceLeDiff, Nat.reduceBEq, reduceIte, reduceCtorEq, ti63, t63_desc, t63_size, ti25, t25_desc, ti22, t22_desc, t22_size, ti59, t59_desc, t59_size, ti60, t60_desc, t60_size, ti61, t61_desc, t61_size, ti3, t3_desc, t3_size, ti40, t40_desc, t40_size, ti33, t33_desc, t33_size, ti9, t9_desc, t9_size, wrow_now, wrow_all, eqnil25, fn17, fn26, fn27, fn28, fn29, fn38, fn39, fn12, fn14, fn15, wti, wfn, wbin, wbox, wlen, wix, walloc, wst, fn10]
  refine CallT.mono (new_walk2 hnow) ?_
  rintro v B ⟨W, all, ms, rfl, hw, fB, hn1⟩
  have c0 : (startAt s.length).get 0 = none := rfl
  have hCn : (startAt s.length).next = s.length := rfl
  have hBn := fB.next
  have hWp : s.length ≤ W := hn1 W (by simp)
  have b0n : B.get 0 = none := by rw [fB.get 0 (by omega) (by simp)]; exact c0
  have ro0 : (withRo E0 s).ro 0 = some (acells acts) := hs0
  have len9 : ∀ (nm : ByteArray) (A : ASt), aLen E0 9 (.string nm) A = some (.int .i64 (nm.data.toList.length : Int)) := fun nm A => by
    simp only [aLen, ti9, t9_desc]; rfl
  simp only [oneW_next, s_0, s_1, s_2, s_3, s_4, Hands, handsV, resultsV, oneOrTuple, argsT, ev, evs, evPairs, evOpt, closed, flat, nth, aCall, aEnter, notYield, aNilCheck, aLoad, partV, isAggD, aFieldAddr, aField, aExtract, Option.isNone, aBuiltin, cond_true, cond_false, cond_dec, if_true, if_false, List.length_cons, List.length_nil, forall_const, implies_true, List.append_nil, List.cons_append, List.nil_append, eq_self, Nat.reduceEqDiff, Nat.reduceAdd, Nat.reduceMul, Nat.reduceSub, Nat.reduceLT, Nat.reduceLeDiff, Nat.reduceBEq, reduceIte, reduceCtorEq, ti63, t63_desc, t63_size, ti25, t25_desc, ti22, t22_desc, t22_size, ti59, t59_desc, t59_size, ti60, t60_desc, t60_size, ti61, t61_desc, t61_size, ti3, t3_desc, t3_size, ti40, t40_desc, t40_size, ti33, t33_desc, t33_size, ti9, t9_desc, t9_size, wrow_now, wrow_all, eqnil25, fn17, fn26, fn27, fn28, fn29, fn38, fn39, fn12, fn14, fn15, wti, wfn, wbin, wbox, wlen, wix, walloc, wst, eqnil25, build47, box47, ptrTo]
  generalize hCd : ASt.new B _ = C
  have cm : C.get B.next = some (.row [.int .u64 (now : Int), .slice none 0 0] 2 false) := by rw [← hCd, ASt.get_new, if_pos rfl]
  have hC : ∀ b, b < B.next → C.get b = B.get b := fun b hb => by rw [← hCd, ASt.get_new, if_neg (by omega)]
  have hCn1 : C.next = B.next + 1 := by rw [← hCd, ASt.next_new]
  have hmb : B.next ∉ W :: all :: ms := fun hm => absurd (hw.below _ hm) (by omega)
  have hm1 : s.length ≤ B.next := by omega
  have hbw : ∀ b ∈ W :: all :: ms, b < B.next := fun b hb => hw.below b hb
  have hBC : B.next ≤ C.next := by omega
  have hw0 := hw.congr hBC fun b hb => hC b (hbw b hb)
  have c00 : C.get 0 = none := by rw [hC 0 (by omega)]; exact b0n
  generalize B.next = m at cm hCn1 hmb hm1
  clear hCd
  have hbo : Both C W all ms m 0 := ⟨now, _, .slice none 0 0, [], hw0, ⟨cm, by omega, .inl ⟨rfl, .inl rfl⟩, by rintro ⟨_, _, _, h⟩; cases h⟩, ⟨by simp, List.Pairwise.nil⟩, ⟨[], by simp, by simp⟩, by simp, by rintro b ⟨_, _, _, h⟩; cases h⟩
  clear hC hw hbw hw0 cm hBC
  refine CodeW.mono (Q := fun o => ∃ T' A' i, o = .fr ⟨.exit 0, T', A'⟩ ∧ i ≤ 100 ∧ tget T' 5 = .pointer (some ⟨W, 0, none⟩)) ?_ ?_
  · refine CodeW.loopR (k := 100) (fun k T A' => ∃ i, k = 100 - i ∧ i ≤ 100 ∧ i ≤ acts.length ∧ tget T 7 = .int .i64 ((i : Nat) : Int) ∧ tget T 1 = sv ∧ tget T 5 = .pointer (some ⟨W, 0, none⟩) ∧ tget T 6 = .pointer (some ⟨m, 0, none⟩) ∧ Both A' W all ms m i ∧ A'.get 0 = none ∧ 1 ≤ A'.next) ?_ ⟨0, rfl, by omega, by omega, ?_, ?_, ?_, ?_, hbo, c00, by omega⟩
    · rintro k T A1 ⟨i, rfl, hi1, hi2, u7, u1, u5, u6, hbo, hg0, hnx⟩
      refine codeW_ok (withRo_ok E0_ok) hro ?_
      by_cases e1 : i < acts.length
      · by_cases e2 : i < 100
        · have d1 : ((i : Int) < (acts.length : Int)) = True := eq_true (by omega)
          have d2 : ((i : Int) < 100) = True := eq_true (by omega)
          have hx : acts[i]? = some acts[i] := List.getElem?_eq_getElem _
          have hxm : acts[i] ∈ acts := List.getElem_mem _
          generalize acts[i] = x at hx hxm
          obtain ⟨g0, g1, g2, g3, g4⟩ := acells_get acts i x hx
          have hx1 := hix i e1
          have hst : aStore E0 40 (.pointer (some ⟨A1.next, 0, none⟩)) (.agg #[.int .i64 x.kind, .string x.name, .int .u64 (x.at_ : Int), .int .u64 (x.by_ : Int)]) (A1.new (.row [.int .i64 0, .string ByteArray.empty, .int .u64 0, .int .u64 0] 4 false)) = some ((A1.new (.row [.int .i64 0, .string ByteArray.empty, .int .u64 0, .int .u64 0] 4 false)).set A1.next (.row [.int .i64 x.kind, .string x.name, .int .u64 (x.at_ : Int), .int .u64 (x.by_ : Int)] 4 false)) := store40 (by rw [ASt.get_new, if_pos rfl])
          simp only [oneW_next, s_0, s_1, s_2, s_3, s_4, Hands, handsV, resultsV, oneOrTuple, argsT, ev, evs, evPairs, evOpt, closed, flat, nth, aCall, aEnter, notYield, aNilCheck, aLoad, partV, isAggD, aFieldAddr, aField, aExtract, Option.isNone, aBuiltin, cond_true, cond_false, cond_dec, if_true, if_false, List.length_cons, List.length_nil, forall_const, implies_true, List.append_nil, List.cons_append, List.nil_append, eq_self, Nat.reduceEqDiff, Nat.reduceAdd, Nat.reduceMul, Nat.reduceSub, Nat.reduceLT, Nat.reduceLeDiff, Nat.reduceBEq, reduceIte, reduceCtorEq, ti63, t63_desc, t63_size, ti25, t25_desc, ti22, t22_desc, t22_size, ti59, t59_desc, t59_size, ti60, t60_desc, t60_size, ti61, t61_desc, t61_size, ti3, t3_desc, t3_size, ti40, t40_desc, t40_size, ti33, t33_desc, t33_size, ti9, t9_desc, t9_size, wrow_now, wrow_all, eqnil25, fn17, fn26, fn27, fn28, fn29, fn38, fn39, fn12, fn14, fn15, wti, wfn, wbin, wbox, wlen, wix, walloc, wst, u7, u1, hlen, d1, d2, hx1, hg0, ro0, g4, alloc40, ptrTo, hst]
          generalize hCd : (A1.new (.row [.int .i64 0, .string ByteArray.empty, .int .u64 0, .int .u64 0] 4 false)).set A1.next (.row [.int .i64 x.kind, .string x.name, .int .u64 (x.at_ : Int), .int .u64 (x.by_ : Int)] 4 false) = C1
          have c1 : C1.get A1.next = some (.row [.int .i64 x.kind, .string x.name, .int .u64 (x.at_ : Int), .int .u64 (x.by_ : Int)] 4 false) := by rw [← hCd, ASt.get_set, if_pos rfl]
          have hC : ∀ b, b < A1.next → C1.get b = A1.get b := fun b hb => by rw [← hCd, ASt.get_set, if_neg (by omega), ASt.get_new, if_neg (by omega)]
          have hC1n : C1.next = A1.next + 1 := by rw [← hCd, ASt.next_set, ASt.next_new]
          clear hCd hst
          have hb1 : Both C1 W all ms m i := hbo.fr ⟨by omega, fun b hb _ => hC b hb⟩
          have g1' : C1.get 0 = none := by rw [hC 0 (by omega)]; exact hg0
          have rc1 : (withRo E0 s).ro A1.next = none := ro_none (by omega)
          have hP : A1.next < C1.next := by omega
          have hpo : A1.next ∉ W :: all :: ms ∧ A1.next ≠ m := by
            obtain ⟨_, _, _, _, h1, h2, _⟩ := hbo
            exact ⟨fun hm => absurd (h1.below _ hm) (by omega), fun e => absurd h2.lt (by omega)⟩
          generalize A1.next = p at c1 rc1 hP hpo
          clear hbo hg0 hnx hC hC1n g0 g1 g2 g3 g4 hx1 hx d1 d2
          by_cases hlong : (x.name.data.toList.length : Int) > 40
          · have d3 := eq_true hlong
            simp only [oneW_next, s_0, s_1, s_2, s_3, s_4, Hands, handsV, resultsV, oneOrTuple, argsT, ev, evs, evPairs, evOpt, closed, flat, nth, aCall, aEnter, notYield, aNilCheck, aLoad, partV, isAggD, aFieldAddr, aField, aExtract, Option.isNone, aBuiltin, cond_true, cond_false, cond_dec, if_true, if_false, List.length_cons, List.length_nil, forall_const, implies_true, List.append_nil, List.cons_append, List.nil_append, eq_self, Nat.reduceEqDiff, Nat.reduceAdd, Nat.reduceMul, Nat.reduceSub, Nat.reduceLT, Nat.reduceLeDiff, Nat.reduceBEq, reduceIte, reduceCtorEq, ti63, t63_desc, t63_size, ti25, t25_desc, ti22, t22_desc, t22_size, ti59, t59_desc, t59_size, ti60, t60_desc, t60_size, ti61, t61_desc, t61_size, ti3, t3_desc, t3_size, ti40, t40_desc, t40_size, ti33, t33_desc, t33_size, ti9, t9_desc, t9_size, wrow_now, wrow_all, eqnil25, fn17, fn26, fn27, fn28, fn29, fn38, fn39, fn12, fn14, fn15, wti, wfn, wbin, wbox, wlen, wix, walloc, wst, u7, c1, len9, d3, wrap_succ (show i < 1000000 by omega)]
            exact ⟨100 - (i + 1), by omega, i + 1, rfl, by omega, by omega, rfl, u1, u5, u6, hb1.mono (by omega), g1', by omega⟩
          have d3 := eq_false hlong
          obtain ⟨nw, M, v, L, hw1, hd1, hL, hup, hll, hbk⟩ := hb1
          simp only [oneW_next, s_0, s_1, s_2, s_3, s_4, Hands, handsV, resultsV, oneOrTuple, argsT, ev, evs, evPairs, evOpt, closed, flat, nth, aCall, aEnter, notYield, aNilCheck, aLoad, partV, isAggD, aFieldAddr, aField, aExtract, Option.isNone, aBuiltin, cond_true, cond_false, cond_dec, if_true, if_false, List.length_cons, List.length_nil, forall_const, implies_true, List.append_nil, List.cons_append, List.nil_append, eq_self, Nat.reduceEqDiff, Nat.reduceAdd, Nat.reduceMul, Nat.reduceSub, Nat.reduceLT, Nat.reduceLeDiff, Nat.reduceBEq, reduceIte, reduceCtorEq, ti63, t63_desc, t63_size, ti25, t25_desc, ti22, t22_desc, t22_size, ti59, t59_desc, t59_size, ti60, t60_desc, t60_size, ti61, t61_desc, t61_size, ti3, t3_desc, t3_size, ti40, t40_desc, t40_size, ti33, t33_desc, t33_size, ti9, t9_desc, t9_size, wrow_now, wrow_all, eqnil25, fn17, fn26, fn27, fn28, fn29, fn38, fn39, fn12, fn14, fn15, wti, wfn, wbin, wbox, wlen, wix, walloc, wst, u5, u7, c1, cut4, len9, d3, fn16]
          refine CallT.mono (CallT.of_call (tick_any (Z := Z) (a := x.at_) (b := x.by_) (k := x.kind) (name := x.name) hw1 (hup.few (by omega)) (hact x hxm).1 (hact x hxm).2)) ?_
          rintro _ D ⟨t, rfl, htl, fD⟩
          have hwD := hw1.congr fD.next fun b hb => fD.get b (hw1.below b hb) (by simp)
          have hdD := hd1.fr fD (by simp) (by simp)
          have gD : D.get 0 = none := by rw [fD.get 0 (by omega) (by simp)]; exact g1'
          have cD := (fD.get p hP (by simp)).trans c1
          have hDn := fD.next
          simp only [↓c_stop2, oneW_next, s_0, s_1, s_2, s_3, s_4, Hands, handsV, resultsV, oneOrTuple, argsT, ev, evs, evPairs, evOpt, closed, flat, nth, aCall, aEnter, notYield, aNilCheck, aLoad, partV, isAggD, aFieldAddr, aField, aExtract, Option.isNone, aBuiltin, cond_true, cond_false, cond_dec, if_true, if_false, List.length_cons, List.length_nil, forall_const, implies_true, List.append_nil, List.cons_append, List.nil_append, eq_self, Nat.reduceEqDiff, Nat.reduceAdd, Nat.reduceMul, Nat.reduceSub, Nat.reduceLT, Nat.reduceLeDiff, Nat.reduceBEq, reduceIte, reduceCtorEq, ti63, t63_desc, t63_size, ti25, t25_desc, ti22, t22_desc, t22_size, ti59, t59_desc, t59_size, ti60, t60_desc, t60_size, ti61, t61_desc, t61_size, ti3, t3_desc, t3_size, ti40, t40_desc, t40_size, ti33, t33_desc, t33_size, ti9, t9_desc, t9_size, wrow_now, wrow_all, eqnil25, fn17, fn26, fn27, fn28, fn29, fn38, fn39, fn12, fn14, fn15, wti, wfn, wbin, wbox, wlen, wix, walloc, wst, u5, u7, cD, cut4]
          unfold blk2
          generalize hTd : (Tr.put _ 44 _) = T0
          have w44 : tget T0 44 = .int .i64 x.kind := by rw [← hTd]; simp only [tget_put, Nat.reduceEqDiff, if_false, if_true, reduceIte]
          have w9 : tget T0 9 = .int .u64 (t : Int) := by rw [← hTd]; simp only [tget_put, Nat.reduceEqDiff, if_false, if_true, reduceIte]
          have w8 : tget T0 8 = .pointer (some ⟨p, 0, none⟩) := by rw [← hTd]; simp only [tget_put, Nat.reduceEqDiff, if_false, if_true, reduceIte]
          have w10 : tget T0 10 = .bool true := by rw [← hTd]; simp only [tget_put, Nat.reduceEqDiff, if_false, if_true, reduceIte]
          have w7 : tget T0 7 = .int .i64 (i : Int) := by rw [← hTd]; simp only [tget_put, Nat.reduceEqDiff, if_false, if_true, reduceIte, u7]
          have w1 : tget T0 1 = sv := by rw [← hTd]; simp only [tget_put, Nat.reduceEqDiff, if_false, if_true, reduceIte, u1]
          have w5 : tget T0 5 = .pointer (some ⟨W, 0, none⟩) := by rw [← hTd]; simp only [tget_put, Nat.reduceEqDiff, if_false, if_true, reduceIte, u5]
          have w6 : tget T0 6 = .pointer (some ⟨m, 0, none⟩) := by rw [← hTd]; simp only [tget_put, Nat.reduceEqDiff, if_false, if_true, reduceIte, u6]
          clear hTd u7 u1 u5 u6
          refine codeW_mono (Q := fun o => ∃ T' A', o = .fr ⟨.normal, T', A'⟩ ∧ tget T' 10 = .bool true ∧ tget T' 7 = .int .i64 (i : Int) ∧ tget T' 1 = sv ∧ tget T' 5 = .pointer (some ⟨W, 0, none⟩) ∧ tget T' 6 = .pointer (some ⟨m, 0, none⟩) ∧ Both A' W all ms m (i + 1) ∧ A'.get 0 = none ∧ 1 ≤ A'.next) ?_ ?_
          · clear hwD hdD gD cD hDn w44 w9 w8 w10 w7 w1 w5 w6 hw1 hd1 hL hup hll hbk fD c1 rc1 hP hpo htl g1' d3 hlong hxm
            rintro o ⟨T2, A2, rfl, v10, v7, v1, v5, v6, ⟨nw', M', v', L', hw2, hd2, hL2, hup2, hll2, hbk2⟩, hz, hn⟩
            simp only [oneW_next, s_0, s_1, s_2, s_3, s_4, Hands, handsV, resultsV, oneOrTuple, argsT, ev, evs, evPairs, evOpt, closed, flat, nth, aCall, aEnter, notYield, aNilCheck, aLoad, partV, isAggD, aFieldAddr, aField, aExtract, Option.isNone, aBuiltin, cond_true, cond_false, cond_dec, if_true, if_false, List.length_cons, List.length_nil, forall_const, implies_true, List.append_nil, List.cons_append, List.nil_append, eq_self, Nat.reduceEqDiff, Nat.reduceAdd, Nat.reduceMul, Nat.reduceSub, Nat.reduceLT, Nat.reduceLeDiff, Nat.reduceBEq, reduceIte, reduceCtorEq, ti63, t63_desc, t63_size, ti25, t25_desc, ti22, t22_desc, t22_size, ti59, t59_desc, t59_size, ti60, t60_desc, t60_size, ti61, t61_desc, t61_size, ti3, t3_desc, t3_size, ti40, t40_desc, t40_size, ti33, t33_desc, t33_size, ti9, t9_desc, t9_size, wrow_now, wrow_all, eqnil25, fn17, fn26, fn27, fn28, fn29, fn38, fn39, fn12, fn14, fn15, wti, wfn, wbin, wbox, wlen, wix, walloc, wst, v5, v6, v7, fn22]
            refine CallT.mono (soonest_spec hw2 (hup2.few (by omega))) ?_
            rintro r A3 ⟨f3, hr⟩
            have hw3 := hw2.congr f3.next fun b hb => f3.get b (hw2.below b hb) (by simp)
            have hd3 := hd2.fr f3 (by simp) (by simp)
            have hz3 : A3.get 0 = none := by rw [f3.get 0 (by omega) (by simp)]; exact hz
            have hn3 := f3.next
            have hkey : ∃ (t : Nat) (ok : Bool), r = .tuple #[.int .u64 (t : Int), .bool ok] ∧ (ok = false ∧ L'.length = 0 ∨ ok = true ∧ ∃ x, L'[0]? = some x ∧ x.2 = t) := by
              rcases hr with ⟨rfl, h0⟩ | ⟨t, rfl, ⟨k, hk⟩, hmin⟩
              · refine ⟨0, false, rfl, .inl ⟨rfl, ?_⟩⟩
                cases hLe : L' with
                | nil => rfl
                | cons x l =>
                  have := (hL2.mem x.1 x.2).1 (by rw [hLe]; simp)
                  rw [h0] at this
                  cases this
              · exact ⟨t, true, rfl, .inr ⟨rfl, hL2.first hk hmin⟩⟩
            obtain ⟨t, ok, rfl, hok⟩ := hkey
            clear hr
            simp only [oneW_next, s_0, s_1, s_2, s_3, s_4, Hands, handsV, resultsV, oneOrTuple, argsT, ev, evs, evPairs, evOpt, closed, flat, nth, aCall, aEnter, notYield, aNilCheck, aLoad, partV, isAggD, aFieldAddr, aField, aExtract, Option.isNone, aBuiltin, cond_true, cond_false, cond_dec, if_true, if_false, List.length_cons, List.length_nil, forall_const, implies_true, List.append_nil, List.cons_append, List.nil_append, eq_self, Nat.reduceEqDiff, Nat.reduceAdd, Nat.reduceMul, Nat.reduceSub, Nat.reduceLT, Nat.reduceLeDiff, Nat.reduceBEq, reduceIte, reduceCtorEq, ti63, t63_desc, t63_size, ti25, t25_desc, ti22, t22_desc, t22_size, ti59, t59_desc, t59_size, ti60, t60_desc, t60_size, ti61, t61_desc, t61_size, ti3, t3_desc, t3_size, ti40, t40_desc, t40_size, ti33, t33_desc, t33_size, ti9, t9_desc, t9_size, wrow_now, wrow_all, eqnil25, fn17, fn26, fn27, fn28, fn29, fn38, fn39, fn12, fn14, fn15, wti, wfn, wbin, wbox, wlen, wix, walloc, wst, v5, v6, v7, fn23]
            refine CallT.mono (stands_spec hw3 (hup2.few (by omega)) hd3 hL2 (by omega)) ?_
            rintro _ A4 ⟨rfl, f4⟩
            have hw4 := hw3.congr f4.next fun b hb => f4.get b (hw3.below b hb) (by simp)
            have hd4 := hd3.fr f4 (by simp) (by simp)
            have hz4 : A4.get 0 = none := by rw [f4.get 0 (by omega) (by simp)]; exact hz3
            have hn4 := f4.next
            have hwH : WheelAt { heap := A4.heap, next := A4.next + 49 } W all ms nw' M' := hw4.congr (Nat.le_add_right _ _) (fun _ _ => rfl)
            have hr4 := hd4.row
            have rm : (withRo E0 s).ro m = none := ro_none hm1
            have vv : valEq v' v' = true := hd4.rd.reads.ve
            have hlv : ∀ B, aLen E0 45 v' B = some (.int .i64 (L'.length : Int)) := fun _ => hd4.rd.reads.len
            have fne : ∀ q : Int, (q ≠ q) = False := fun q => eq_false (by simp)
            have hbo' : ∀ n, Both { heap := A4.heap, next := A4.next + n } W all ms m (i + 1) := fun n => Both.fr ⟨nw', M', v', L', hw4, hd4, hL2, hup2, hll2, hbk2⟩ bump_fr
            simp only [oneW_next, s_0, s_1, s_2, s_3, s_4, Hands, handsV, resultsV, oneOrTuple, argsT, ev, evs, evPairs, evOpt, closed, flat, nth, aCall, aEnter, notYield, aNilCheck, aLoad, partV, isAggD, aFieldAddr, aField, aExtract, Option.isNone, aBuiltin, cond_true, cond_false, cond_dec, if_true, if_false, List.length_cons, List.length_nil, forall_const, implies_true, List.append_nil, List.cons_append, List.nil_append, eq_self, Nat.reduceEqDiff, Nat.reduceAdd, Nat.reduceMul, Nat.reduceSub, Nat.reduceLT, Nat.reduceLeDiff, Nat.reduceBEq, reduceIte, reduceCtorEq, ti63, t63_desc, t63_size, ti25, t25_desc, ti22, t22_desc, t22_size, ti59, t59_desc, t59_size, ti60, t60_desc, t60_size, ti61, t61_desc, t61_size, ti3, t3_desc, t3_size, ti40, t40_desc, t40_size, ti33, t33_desc, t33_size, ti9, t9_desc, t9_size, wrow_now, wrow_all, eqnil25, fn17, fn26, fn27, fn28, fn29, fn38, fn39, fn12, fn14, fn15, wti, wfn, wbin, wbox, wlen, wix, walloc, wst, v5, v6, v7, v10]
            refine CodeW.seqf (withRo_ok E0_ok) hro mixed (RLen_ok (W := W) (all := all) (now := nw') (ms := ms) (M := M') hL2.cnt) [0, 1, 2, 3, 4, 5, 6, 7, 9, 10, 11, 12, 8, 13, 14, 15, 16, 18, 19, 20, 21, 22, 17, 23, 24, 25, 26, 27, 28, 29, 30, 31, 32, 33, 34, 35, 36, 37, 38, 39, 40, 41, 42, 43, 44, 45, 46, 47, 48] [8, 9, 10, 11, 17, 18, 19, 20, 21] (fanOf _ _ _) (by simp only [reorder, reoGo, strip, List.map_cons, List.map_nil, opAt, remap, nth, Option.map, σ, place', nbeq, List.length_cons, List.length_nil, Nat.reduceAdd, Nat.reduceLT, Nat.reduceEqDiff, if_true, if_false, reduceIte]; rfl) (by decide +kernel) (by kernel_rfl) (by kernel_rfl) (by kernel_rfl) rfl ?_
            rcases hok with ⟨rfl, hl0⟩ | ⟨rfl, x0, hx0, rfl⟩
            · have g0 : ((L'.length : Int) > 0) = False := eq_false (by omega)
              simp only [oneW_next, s_0, s_1, s_2, s_3, s_4, Hands, handsV, resultsV, oneOrTuple, argsT, ev, evs, evPairs, evOpt, closed, flat, nth, aCall, aEnter, notYield, aNilCheck, aLoad, partV, isAggD, aFieldAddr, aField, aExtract, Option.isNone, aBuiltin, cond_true, cond_false, cond_dec, if_true, if_false, List.length_cons, List.length_nil, forall_const, implies_true, List.append_nil, List.cons_append, List.nil_append, eq_self, Nat.reduceEqDiff, Nat.reduceAdd, Nat.reduceMul, Nat.reduceSub, Nat.reduceLT, Nat.reduceLeDiff, Nat.reduceBEq, reduceIte, reduceCtorEq, ti63, t63_desc, t63_size, ti25, t25_desc, ti22, t22_desc, t22_size, ti59, t59_desc, t59_size, ti60, t60_desc, t60_size, ti61, t61_desc, t61_size, ti3, t3_desc, t3_size, ti40, t40_desc, t40_size, ti33, t33_desc, t33_size, ti9, t9_desc, t9_size, wrow_now, wrow_all, eqnil25, fn17, fn26, fn27, fn28, fn29, fn38, fn39, fn12, fn14, fn15, q_0, q_1, q_2, f_0, pendW, hasN, reorder, E0_ron, exists_eq', List.length_cons, List.length_nil, wti, wfn, wbin, wbox, wlen, wix, walloc, wst, v5, v6, v7, v10, ti44, t44_desc, ti47, t47_desc, t47_size, ti45, t45_desc, t45_size, ti53, t53_desc, t53_size, un_notP, Bool.not_true, Bool.not_false, undef, hr4, rm, vv, hlv, fne, get_next, fn15]
              refine conA15 hwH ?_
              simp only [oneW_next, s_0, s_1, s_2, s_3, s_4, Hands, handsV, resultsV, oneOrTuple, argsT, ev, evs, evPairs, evOpt, closed, flat, nth, aCall, aEnter, notYield, aNilCheck, aLoad, partV, isAggD, aFieldAddr, aField, aExtract, Option.isNone, aBuiltin, cond_true, cond_false, cond_dec, if_true, if_false, List.length_cons, List.length_nil, forall_const, implies_true, List.append_nil, List.cons_append, List.nil_append, eq_self, Nat.reduceEqDiff, Nat.reduceAdd, Nat.reduceMul, Nat.reduceSub, Nat.reduceLT, Nat.reduceLeDiff, Nat.reduceBEq, reduceIte, reduceCtorEq, ti63, t63_desc, t63_size, ti25, t25_desc, ti22, t22_desc, t22_size, ti59, t59_desc, t59_size, ti60, t60_desc, t60_size, ti61, t61_desc, t61_size, ti3, t3_desc, t3_size, ti40, t40_desc, t40_size, ti33, t33_desc, t33_size, ti9, t9_desc, t9_size, wrow_now, wrow_all, eqnil25, fn17, fn26, fn27, fn28, fn29, fn38, fn39, fn12, fn14, fn15, q_0, q_1, q_2, f_0, pendW, hasN, reorder, E0_ron, exists_eq', List.length_cons, List.length_nil, wti, wfn, wbin, wbox, wlen, wix, walloc, wst, v5, v6, v7, v10, ti44, t44_desc, ti47, t47_desc, t47_size, ti45, t45_desc, t45_size, ti53, t53_desc, t53_size, un_notP, Bool.not_true, Bool.not_false, undef, hr4, rm, vv, hlv, fne, get_next, fn14]
              refine conA14 hwH ?_
              simp only [oneW_next, s_0, s_1, s_2, s_3, s_4, Hands, handsV, resultsV, oneOrTuple, argsT, ev, evs, evPairs, evOpt, closed, flat, nth, aCall, aEnter, notYield, aNilCheck, aLoad, partV, isAggD, aFieldAddr, aField, aExtract, Option.isNone, aBuiltin, cond_true, cond_false, cond_dec, if_true, if_false, List.length_cons, List.length_nil, forall_const, implies_true, List.append_nil, List.cons_append, List.nil_append, eq_self, Nat.reduceEqDiff, Nat.reduceAdd, Nat.reduceMul, Nat.reduceSub, Nat.reduceLT, Nat.reduceLeDiff, Nat.reduceBEq, reduceIte, reduceCtorEq, ti63, t63_desc, t63_size, ti25, t25_desc, ti22, t22_desc, t22_size, ti59, t59_desc, t59_size, ti60, t60_desc, t60_size, ti61, t61_desc, t61_size, ti3, t3_desc, t3_size, ti40, t40_desc, t40_size, ti33, t33_desc, t33_size, ti9, t9_desc, t9_size, wrow_now, wrow_all, eqnil25, fn17, fn26, fn27, fn28, fn29, fn38, fn39, fn12, fn14, fn15, q_0, q_1, q_2, f_0, pendW, hasN, reorder, E0_ron, exists_eq', List.length_cons, List.length_nil, wti, wfn, wbin, wbox, wlen, wix, walloc, wst, v5, v6, v7, v10, ti44, t44_desc, ti47, t47_desc, t47_size, ti45, t45_desc, t45_size, ti53, t53_desc, t53_size, un_notP, Bool.not_true, Bool.not_false, undef, hr4, rm, vv, hlv, fne, g0, get_next, neqB, decide_false, decide_true, bne_self_eq_false, wrap_succ (show i < 1000000 by omega)]
              exact ⟨100 - (i + 1), by omega, i + 1, rfl, by omega, by omega, rfl, v1, hbo' 49, hz4⟩
            · have hl0 := lt_of_get hx0
              have g0 : ((L'.length : Int) > 0) = True := eq_true (by omega)
              obtain ⟨bb, q, c, sz, tl, hix0, hbb, hbn, gn, ga⟩ := hd4.rd.reads.ix hx0
              have hix0 : aIndexAddr E0 45 v' (.int .i64 0) = some (.pointer (some ⟨bb, q, none⟩)) := hix0
              have hb0 : bb ≠ 0 := by
                intro e
                rw [e, hz4] at hbb
                cases hbb
              have rb : (withRo E0 s).ro bb = none := ro_none (by omega)
              simp only [oneW_next, s_0, s_1, s_2, s_3, s_4, Hands, handsV, resultsV, oneOrTuple, argsT, ev, evs, evPairs, evOpt, closed, flat, nth, aCall, aEnter, notYield, aNilCheck, aLoad, partV, isAggD, aFieldAddr, aField, aExtract, Option.isNone, aBuiltin, cond_true, cond_false, cond_dec, if_true, if_false, List.length_cons, List.length_nil, forall_const, implies_true, List.append_nil, List.cons_append, List.nil_append, eq_self, Nat.reduceEqDiff, Nat.reduceAdd, Nat.reduceMul, Nat.reduceSub, Nat.reduceLT, Nat.reduceLeDiff, Nat.reduceBEq, reduceIte, reduceCtorEq, ti63, t63_desc, t63_size, ti25, t25_desc, ti22, t22_desc, t22_size, ti59, t59_desc, t59_size, ti60, t60_desc, t60_size, ti61, t61_desc, t61_size, ti3, t3_desc, t3_size, ti40, t40_desc, t40_size, ti33, t33_desc, t33_size, ti9, t9_desc, t9_size, wrow_now, wrow_all, eqnil25, fn17, fn26, fn27, fn28, fn29, fn38, fn39, fn12, fn14, fn15, q_0, q_1, q_2, f_0, pendW, hasN, reorder, E0_ron, exists_eq', List.length_cons, List.length_nil, wti, wfn, wbin, wbox, wlen, wix, walloc, wst, v5, v6, v7, v10, ti44, t44_desc, ti47, t47_desc, t47_size, ti45, t45_desc, t45_size, ti53, t53_desc, t53_size, un_notP, Bool.not_true, Bool.not_false, undef, hr4, rm, vv, hlv, fne, get_next, fn15]
              refine conA15 hwH ?_
              simp only [oneW_next, s_0, s_1, s_2, s_3, s_4, Hands, handsV, resultsV, oneOrTuple, argsT, ev, evs, evPairs, evOpt, closed, flat, nth, aCall, aEnter, notYield, aNilCheck, aLoad, partV, isAggD, aFieldAddr, aField, aExtract, Option.isNone, aBuiltin, cond_true, cond_false, cond_dec, if_true, if_false, List.length_cons, List.length_nil, forall_const, implies_true, List.append_nil, List.cons_append, List.nil_append, eq_self, Nat.reduceEqDiff, Nat.reduceAdd, Nat.reduceMul, Nat.reduceSub, Nat.reduceLT, Nat.reduceLeDiff, Nat.reduceBEq, reduceIte, reduceCtorEq, ti63, t63_desc, t63_size, ti25, t25_desc, ti22, t22_desc, t22_size, ti59, t59_desc, t59_size, ti60, t60_desc, t60_size, ti61, t61_desc, t61_size, ti3, t3_desc, t3_size, ti40, t40_desc, t40_size, ti33, t33_desc, t33_size, ti9, t9_desc, t9_size, wrow_now, wrow_all, eqnil25, fn17, fn26, fn27, fn28, fn29, fn38, fn39, fn12, fn14, fn15, q_0, q_1, q_2, f_0, pendW, hasN, reorder, E0_ron, exists_eq', List.length_cons, List.length_nil, wti, wfn, wbin, wbox, wlen, wix, walloc, wst, v5, v6, v7, v10, ti44, t44_desc, ti47, t47_desc, t47_size, ti45, t45_desc, t45_size, ti53, t53_desc, t53_size, un_notP, Bool.not_true, Bool.not_false, undef, hr4, rm, vv, hlv, fne, get_next, fn14]
              refine conA14 hwH ?_
              simp only [oneW_next, s_0, s_1, s_2, s_3, s_4, Hands, handsV, resultsV, oneOrTuple, argsT, ev, evs, evPairs, evOpt, closed, flat, nth, aCall, aEnter, notYield, aNilCheck, aLoad, partV, isAggD, aFieldAddr, aField, aExtract, Option.isNone, aBuiltin, cond_true, cond_false, cond_dec, if_true, if_false, List.length_cons, List.length_nil, forall_const, implies_true, List.append_nil, List.cons_append, List.nil_append, eq_self, Nat.reduceEqDiff, Nat.reduceAdd, Nat.reduceMul, Nat.reduceSub, Nat.reduceLT, Nat.reduceLeDiff, Nat.reduceBEq, reduceIte, reduceCtorEq, ti63, t63_desc, t63_size, ti25, t25_desc, ti22, t22_desc, t22_size, ti59, t59_desc, t59_size, ti60, t60_desc, t60_size, ti61, t61_desc, t61_size, ti3, t3_desc, t3_size, ti40, t40_desc, t40_size, ti33, t33_desc, t33_size, ti9, t9_desc, t9_size, wrow_now, wrow_all, eqnil25, fn17, fn26, fn27, fn28, fn29, fn38, fn39, fn12, fn14, fn15, q_0, q_1, q_2, f_0, pendW, hasN, reorder, E0_ron, exists_eq', List.length_cons, List.length_nil, wti, wfn, wbin, wbox, wlen, wix, walloc, wst, v5, v6, v7, v10, ti44, t44_desc, ti47, t47_desc, t47_size, ti45, t45_desc, t45_size, ti53, t53_desc, t53_size, un_notP, Bool.not_true, Bool.not_false, undef, hr4, rm, vv, hlv, fne, g0, hix0, hbb, ga, rb, get_next, neqB, decide_false, decide_true, bne_self_eq_false, wrap_succ (show i < 1000000 by omega)]
              exact ⟨100 - (i + 1), by omega, i + 1, rfl, by omega, by omega, rfl, v1, hbo' 49, hz4⟩
          · have hwH : WheelAt { heap := D.heap, next := D.next + 12 } W all ms nw M := hwD.congr (Nat.le_add_right _ _) (fun _ _ => rfl)
            have hwH2 : WheelAt { heap := D.heap, next := D.next + 10 } W all ms nw M := hwD.congr (Nat.le_add_right _ _) (fun _ _ => rfl)
            by_cases k1 : x.kind = 1
            · have e1' : (x.kind = 1) = True := eq_true k1
              simp only [oneW_next, s_0, s_1, s_2, s_3, s_4, Hands, handsV, resultsV, oneOrTuple, argsT, ev, evs, evPairs, evOpt, closed, flat, nth, aCall, aEnter, notYield, aNilCheck, aLoad, partV, isAggD, aFieldAddr, aField, aExtract, Option.isNone, aBuiltin, cond_true, cond_false, cond_dec, if_true, if_false, List.length_cons, List.length_nil, forall_const, implies_true, List.append_nil, List.cons_append, List.nil_append, eq_self, Nat.reduceEqDiff, Nat.reduceAdd, Nat.reduceMul, Nat.reduceSub, Nat.reduceLT, Nat.reduceLeDiff, Nat.reduceBEq, reduceIte, reduceCtorEq, ti63, t63_desc, t63_size, ti25, t25_desc, ti22, t22_desc, t22_size, ti59, t59_desc, t59_size, ti60, t60_desc, t60_size, ti61, t61_desc, t61_size, ti3, t3_desc, t3_size, ti40, t40_desc, t40_size, ti33, t33_desc, t33_size, ti9, t9_desc, t9_size, wrow_now, wrow_all, eqnil25, fn17, fn26, fn27, fn28, fn29, fn38, fn39, fn12, fn14, fn15, wti, wfn, wbin, wbox, wlen, wix, walloc, wst, w44, w5, w6, w7, w8, w9, e1']
              refine CodeW.seqf (withRo_ok E0_ok) hro mixed (RPut_ok (W := W) (all := all) (now := nw) (m := m) (ms := ms) (M := M) (name := x.name) (v := v) (L := L) htl hL (by omega)) [0, 1, 2, 3, 5, 6, 7, 8, 4, 9, 10, 11] [4, 5, 6, 7] (fanOf _ _ _) (by simp only [reorder, reoGo, strip, List.map_cons, List.map_nil, opAt, remap, nth, Option.map, σ, place', nbeq, List.length_cons, List.length_nil, Nat.reduceAdd, Nat.reduceLT, Nat.reduceEqDiff, if_true, if_false, reduceIte]; rfl) (by decide +kernel) (by kernel_rfl) (by kernel_rfl) (by kernel_rfl) rfl ?_
              simp only [oneW_next, s_0, s_1, s_2, s_3, s_4, Hands, handsV, resultsV, oneOrTuple, argsT, ev, evs, evPairs, evOpt, closed, flat, nth, aCall, aEnter, notYield, aNilCheck, aLoad, partV, isAggD, aFieldAddr, aField, aExtract, Option.isNone, aBuiltin, cond_true, cond_false, cond_dec, if_true, if_false, List.length_cons, List.length_nil, forall_const, implies_true, List.append_nil, List.cons_append, List.nil_append, eq_self, Nat.reduceEqDiff, Nat.reduceAdd, Nat.reduceMul, Nat.reduceSub, Nat.reduceLT, Nat.reduceLeDiff, Nat.reduceBEq, reduceIte, reduceCtorEq, ti63, t63_desc, t63_size, ti25, t25_desc, ti22, t22_desc, t22_size, ti59, t59_desc, t59_size, ti60, t60_desc, t60_size, ti61, t61_desc, t61_size, ti3, t3_desc, t3_size, ti40, t40_desc, t40_size, ti33, t33_desc, t33_size, ti9, t9_desc, t9_size, wrow_now, wrow_all, eqnil25, fn17, fn26, fn27, fn28, fn29, fn38, fn39, fn12, fn14, fn15, q_0, q_1, q_2, f_0, pendW, hasN, reorder, E0_ron, exists_eq', List.length_cons, List.length_nil, wti, wfn, wbin, wbox, wlen, wix, walloc, wst, w5, w6, w8, w9, cD, rc1, get_next, fn12]
              refine conA12 hwH ?_
              intro F hwF fF
              have hFn : D.next + 12 ≤ F.next := fF.next
              have hdF : DocAt F m nw v L := (hdD.fr (bump_fr (n := 12)) (by simp) (by simp)).fr fF hmb hbk
              have cF := (fF.get p (by show p < D.next + 12; omega) hpo.1).trans cD
              simp only [oneW_next, s_0, s_1, s_2, s_3, s_4, Hands, handsV, resultsV, oneOrTuple, argsT, ev, evs, evPairs, evOpt, closed, flat, nth, aCall, aEnter, notYield, aNilCheck, aLoad, partV, isAggD, aFieldAddr, aField, aExtract, Option.isNone, aBuiltin, cond_true, cond_false, cond_dec, if_true, if_false, List.length_cons, List.length_nil, forall_const, implies_true, List.append_nil, List.cons_append, List.nil_append, eq_self, Nat.reduceEqDiff, Nat.reduceAdd, Nat.reduceMul, Nat.reduceSub, Nat.reduceLT, Nat.reduceLeDiff, Nat.reduceBEq, reduceIte, reduceCtorEq, ti63, t63_desc, t63_size, ti25, t25_desc, ti22, t22_desc, t22_size, ti59, t59_desc, t59_size, ti60, t60_desc, t60_size, ti61, t61_desc, t61_size, ti3, t3_desc, t3_size, ti40, t40_desc, t40_size, ti33, t33_desc, t33_size, ti9, t9_desc, t9_size, wrow_now, wrow_all, eqnil25, fn17, fn26, fn27, fn28, fn29, fn38, fn39, fn12, fn14, fn15, q_0, q_1, q_2, f_0, pendW, hasN, reorder, E0_ron, exists_eq', List.length_cons, List.length_nil, wti, wfn, wbin, wbox, wlen, wix, walloc, wst, w5, w6, w8, w9, cF, rc1, get_next, fn18]
              refine conA18 hdF ?_
              intro G v' L' hdG hL' hl' hb' fG
              have cG := (fG.get p (by omega) (by simpa using hpo.2)).trans cF
              simp only [oneW_next, s_0, s_1, s_2, s_3, s_4, Hands, handsV, resultsV, oneOrTuple, argsT, ev, evs, evPairs, evOpt, closed, flat, nth, aCall, aEnter, notYield, aNilCheck, aLoad, partV, isAggD, aFieldAddr, aField, aExtract, Option.isNone, aBuiltin, cond_true, cond_false, cond_dec, if_true, if_false, List.length_cons, List.length_nil, forall_const, implies_true, List.append_nil, List.cons_append, List.nil_append, eq_self, Nat.reduceEqDiff, Nat.reduceAdd, Nat.reduceMul, Nat.reduceSub, Nat.reduceLT, Nat.reduceLeDiff, Nat.reduceBEq, reduceIte, reduceCtorEq, ti63, t63_desc, t63_size, ti25, t25_desc, ti22, t22_desc, t22_size, ti59, t59_desc, t59_size, ti60, t60_desc, t60_size, ti61, t61_desc, t61_size, ti3, t3_desc, t3_size, ti40, t40_desc, t40_size, ti33, t33_desc, t33_size, ti9, t9_desc, t9_size, wrow_now, wrow_all, eqnil25, fn17, fn26, fn27, fn28, fn29, fn38, fn39, fn12, fn14, fn15, q_0, q_1, q_2, f_0, pendW, hasN, reorder, E0_ron, exists_eq', List.length_cons, List.length_nil, wti, wfn, wbin, wbox, wlen, wix, walloc, wst, eqB, w5, w6, w7, w1, cG]
              exact ⟨_, _, rfl, by simp only [tget_put, Nat.reduceEqDiff, if_false, if_true, reduceIte], by simp only [tget_put, Nat.reduceEqDiff, if_false, if_true, reduceIte, w7], by simp only [tget_put, Nat.reduceEqDiff, if_false, if_true, reduceIte, w1], by simp only [tget_put, Nat.reduceEqDiff, if_false, if_true, reduceIte, w5], by simp only [tget_put, Nat.reduceEqDiff, if_false, if_true, reduceIte, w6], both_put hwF hdG hL' (by split; exact hup.put _ _; exact hup.mono (by omega)) (by omega) hbk hb' fG hmb, z_get gD (by omega) fF fG hwD hdD, by have := fG.next; omega⟩
            have e1' : (x.kind = 1) = False := eq_false k1
            by_cases k2 : x.kind = 2
            · have e2' : (x.kind = 2) = True := eq_true k2
              simp only [oneW_next, s_0, s_1, s_2, s_3, s_4, Hands, handsV, resultsV, oneOrTuple, argsT, ev, evs, evPairs, evOpt, closed, flat, nth, aCall, aEnter, notYield, aNilCheck, aLoad, partV, isAggD, aFieldAddr, aField, aExtract, Option.isNone, aBuiltin, cond_true, cond_false, cond_dec, if_true, if_false, List.length_cons, List.length_nil, forall_const, implies_true, List.append_nil, List.cons_append, List.nil_append, eq_self, Nat.reduceEqDiff, Nat.reduceAdd, Nat.reduceMul, Nat.reduceSub, Nat.reduceLT, Nat.reduceLeDiff, Nat.reduceBEq, reduceIte, reduceCtorEq, ti63, t63_desc, t63_size, ti25, t25_desc, ti22, t22_desc, t22_size, ti59, t59_desc, t59_size, ti60, t60_desc, t60_size, ti61, t61_desc, t61_size, ti3, t3_desc, t3_size, ti40, t40_desc, t40_size, ti33, t33_desc, t33_size, ti9, t9_desc, t9_size, wrow_now, wrow_all, eqnil25, fn17, fn26, fn27, fn28, fn29, fn38, fn39, fn12, fn14, fn15, wti, wfn, wbin, wbox, wlen, wix, walloc, wst, w44, w5, w6, w7, w8, w9, e1', e2']
              refine CodeW.seqf (withRo_ok E0_ok) hro mixed (RPut_ok (W := W) (all := all) (now := nw) (m := m) (ms := ms) (M := M) (name := x.name) (v := v) (L := L) htl hL (by omega)) [0, 1, 2, 3, 5, 6, 7, 8, 4, 9, 10, 11] [4, 5, 6, 7] (fanOf _ _ _) (by simp only [reorder, reoGo, strip, List.map_cons, List.map_nil, opAt, remap, nth, Option.map, σ, place', nbeq, List.length_cons, List.length_nil, Nat.reduceAdd, Nat.reduceLT, Nat.reduceEqDiff, if_true, if_false, reduceIte]; rfl) (by decide +kernel) (by kernel_rfl) (by kernel_rfl) (by kernel_rfl) rfl ?_
              simp only [oneW_next, s_0, s_1, s_2, s_3, s_4, Hands, handsV, resultsV, oneOrTuple, argsT, ev, evs, evPairs, evOpt, closed, flat, nth, aCall, aEnter, notYield, aNilCheck, aLoad, partV, isAggD, aFieldAddr, aField, aExtract, Option.isNone, aBuiltin, cond_true, cond_false, cond_dec, if_true, if_false, List.length_cons, List.length_nil, forall_const, implies_true, List.append_nil, List.cons_append, List.nil_append, eq_self, Nat.reduceEqDiff, Nat.reduceAdd, Nat.reduceMul, Nat.reduceSub, Nat.reduceLT, Nat.reduceLeDiff, Nat.reduceBEq, reduceIte, reduceCtorEq, ti63, t63_desc, t63_size, ti25, t25_desc, ti22, t22_desc, t22_size, ti59, t59_desc, t59_size, ti60, t60_desc, t60_size, ti61, t61_desc, t61_size, ti3, t3_desc, t3_size, ti40, t40_desc, t40_size, ti33, t33_desc, t33_size, ti9, t9_desc, t9_size, wrow_now, wrow_all, eqnil25, fn17, fn26, fn27, fn28, fn29, fn38, fn39, fn12, fn14, fn15, q_0, q_1, q_2, f_0, pendW, hasN, reorder, E0_ron, exists_eq', List.length_cons, List.length_nil, wti, wfn, wbin, wbox, wlen, wix, walloc, wst, w5, w6, w8, w9, cD, rc1, get_next, fn12]
              refine conA12 hwH ?_
              intro F hwF fF
              have hFn : D.next + 12 ≤ F.next := fF.next
              have hdF : DocAt F m nw v L := (hdD.fr (bump_fr (n := 12)) (by simp) (by simp)).fr fF hmb hbk
              have cF := (fF.get p (by show p < D.next + 12; omega) hpo.1).trans cD
              simp only [oneW_next, s_0, s_1, s_2, s_3, s_4, Hands, handsV, resultsV, oneOrTuple, argsT, ev, evs, evPairs, evOpt, closed, flat, nth, aCall, aEnter, notYield, aNilCheck, aLoad, partV, isAggD, aFieldAddr, aField, aExtract, Option.isNone, aBuiltin, cond_true, cond_false, cond_dec, if_true, if_false, List.length_cons, List.length_nil, forall_const, implies_true, List.append_nil, List.cons_append, List.nil_append, eq_self, Nat.reduceEqDiff, Nat.reduceAdd, Nat.reduceMul, Nat.reduceSub, Nat.reduceLT, Nat.reduceLeDiff, Nat.reduceBEq, reduceIte, reduceCtorEq, ti63, t63_desc, t63_size, ti25, t25_desc, ti22, t22_desc, t22_size, ti59, t59_desc, t59_size, ti60, t60_desc, t60_size, ti61, t61_desc, t61_size, ti3, t3_desc, t3_size, ti40, t40_desc, t40_size, ti33, t33_desc, t33_size, ti9, t9_desc, t9_size, wrow_now, wrow_all, eqnil25, fn17, fn26, fn27, fn28, fn29, fn38, fn39, fn12, fn14, fn15, q_0, q_1, q_2, f_0, pendW, hasN, reorder, E0_ron, exists_eq', List.length_cons, List.length_nil, wti, wfn, wbin, wbox, wlen, wix, walloc, wst, w5, w6, w8, w9, cF, rc1, get_next, fn18]
              refine conA18 hdF ?_
              intro G v' L' hdG hL' hl' hb' fG
              have cG := (fG.get p (by omega) (by simpa using hpo.2)).trans cF
              simp only [oneW_next, s_0, s_1, s_2, s_3, s_4, Hands, handsV, resultsV, oneOrTuple, argsT, ev, evs, evPairs, evOpt, closed, flat, nth, aCall, aEnter, notYield, aNilCheck, aLoad, partV, isAggD, aFieldAddr, aField, aExtract, Option.isNone, aBuiltin, cond_true, cond_false, cond_dec, if_true, if_false, List.length_cons, List.length_nil, forall_const, implies_true, List.append_nil, List.cons_append, List.nil_append, eq_self, Nat.reduceEqDiff, Nat.reduceAdd, Nat.reduceMul, Nat.reduceSub, Nat.reduceLT, Nat.reduceLeDiff, Nat.reduceBEq, reduceIte, reduceCtorEq, ti63, t63_desc, t63_size, ti25, t25_desc, ti22, t22_desc, t22_size, ti59, t59_desc, t59_size, ti60, t60_desc, t60_size, ti61, t61_desc, t61_size, ti3, t3_desc, t3_size, ti40, t40_desc, t40_size, ti33, t33_desc, t33_size, ti9, t9_desc, t9_size, wrow_now, wrow_all, eqnil25, fn17, fn26, fn27, fn28, fn29, fn38, fn39, fn12, fn14, fn15, q_0, q_1, q_2, f_0, pendW, hasN, reorder, E0_ron, exists_eq', List.length_cons, List.length_nil, wti, wfn, wbin, wbox, wlen, wix, walloc, wst, eqB, w5, w6, w7, w1, cG]
              exact ⟨_, _, rfl, by simp only [tget_put, Nat.reduceEqDiff, if_false, if_true, reduceIte], by simp only [tget_put, Nat.reduceEqDiff, if_false, if_true, reduceIte, w7], by simp only [tget_put, Nat.reduceEqDiff, if_false, if_true, reduceIte, w1], by simp only [tget_put, Nat.reduceEqDiff, if_false, if_true, reduceIte, w5], by simp only [tget_put, Nat.reduceEqDiff, if_false, if_true, reduceIte, w6], both_put hwF hdG hL' (by split; exact hup.put _ _; exact hup.mono (by omega)) (by omega) hbk hb' fG hmb, z_get gD (by omega) fF fG hwD hdD, by have := fG.next; omega⟩
            have e2' : (x.kind = 2) = False := eq_false k2
            by_cases k3 : x.kind = 3
            · have e3' : (x.kind = 3) = True := eq_true k3
              simp only [oneW_next, s_0, s_1, s_2, s_3, s_4, Hands, handsV, resultsV, oneOrTuple, argsT, ev, evs, evPairs, evOpt, closed, flat, nth, aCall, aEnter, notYield, aNilCheck, aLoad, partV, isAggD, aFieldAddr, aField, aExtract, Option.isNone, aBuiltin, cond_true, cond_false, cond_dec, if_true, if_false, List.length_cons, List.length_nil, forall_const, implies_true, List.append_nil, List.cons_append, List.nil_append, eq_self, Nat.reduceEqDiff, Nat.reduceAdd, Nat.reduceMul, Nat.reduceSub, Nat.reduceLT, Nat.reduceLeDiff, Nat.reduceBEq, reduceIte, reduceCtorEq, ti63, t63_desc, t63_size, ti25, t25_desc, ti22, t22_desc, t22_size, ti59, t59_desc, t59_size, ti60, t60_desc, t60_size, ti61, t61_desc, t61_size, ti3, t3_desc, t3_size, ti40, t40_desc, t40_size, ti33, t33_desc, t33_size, ti9, t9_desc, t9_size, wrow_now, wrow_all, eqnil25, fn17, fn26, fn27, fn28, fn29, fn38, fn39, fn12, fn14, fn15, wti, wfn, wbin, wbox, wlen, wix, walloc, wst, w44, w5, w6, w7, w8, w9, e1', e2', e3']
              refine CodeW.seqf (withRo_ok E0_ok) hro mixed (RDrop_ok (W := W) (all := all) (now := nw) (m := m) (ms := ms) (M := M) (name := x.name) (v := v) (L := L) hL (by omega)) [0, 1, 2, 4, 5, 6, 3, 7, 8, 9] [3, 4, 5] (fanOf _ _ _) (by simp only [reorder, reoGo, strip, List.map_cons, List.map_nil, opAt, remap, nth, Option.map, σ, place', nbeq, List.length_cons, List.length_nil, Nat.reduceAdd, Nat.reduceLT, Nat.reduceEqDiff, if_true, if_false, reduceIte]; rfl) (by decide +kernel) (by kernel_rfl) (by kernel_rfl) (by kernel_rfl) rfl ?_
              simp only [oneW_next, s_0, s_1, s_2, s_3, s_4, Hands, handsV, resultsV, oneOrTuple, argsT, ev, evs, evPairs, evOpt, closed, flat, nth, aCall, aEnter, notYield, aNilCheck, aLoad, partV, isAggD, aFieldAddr, aField, aExtract, Option.isNone, aBuiltin, cond_true, cond_false, cond_dec, if_true, if_false, List.length_cons, List.length_nil, forall_const, implies_true, List.append_nil, List.cons_append, List.nil_append, eq_self, Nat.reduceEqDiff, Nat.reduceAdd, Nat.reduceMul, Nat.reduceSub, Nat.reduceLT, Nat.reduceLeDiff, Nat.reduceBEq, reduceIte, reduceCtorEq, ti63, t63_desc, t63_size, ti25, t25_desc, ti22, t22_desc, t22_size, ti59, t59_desc, t59_size, ti60, t60_desc, t60_size, ti61, t61_desc, t61_size, ti3, t3_desc, t3_size, ti40, t40_desc, t40_size, ti33, t33_desc, t33_size, ti9, t9_desc, t9_size, wrow_now, wrow_all, eqnil25, fn17, fn26, fn27, fn28, fn29, fn38, fn39, fn12, fn14, fn15, q_0, q_1, q_2, f_0, pendW, hasN, reorder, E0_ron, exists_eq', List.length_cons, List.length_nil, wti, wfn, wbin, wbox, wlen, wix, walloc, wst, w5, w6, w8, w9, cD, rc1, get_next, fn17]
              refine conA17 hwH2 ?_
              intro F hwF fF
              have hFn : D.next + 10 ≤ F.next := fF.next
              have hdF : DocAt F m nw v L := (hdD.fr (bump_fr (n := 10)) (by simp) (by simp)).fr fF hmb hbk
              have cF := (fF.get p (by show p < D.next + 10; omega) hpo.1).trans cD
              simp only [oneW_next, s_0, s_1, s_2, s_3, s_4, Hands, handsV, resultsV, oneOrTuple, argsT, ev, evs, evPairs, evOpt, closed, flat, nth, aCall, aEnter, notYield, aNilCheck, aLoad, partV, isAggD, aFieldAddr, aField, aExtract, Option.isNone, aBuiltin, cond_true, cond_false, cond_dec, if_true, if_false, List.length_cons, List.length_nil, forall_const, implies_true, List.append_nil, List.cons_append, List.nil_append, eq_self, Nat.reduceEqDiff, Nat.reduceAdd, Nat.reduceMul, Nat.reduceSub, Nat.reduceLT, Nat.reduceLeDiff, Nat.reduceBEq, reduceIte, reduceCtorEq, ti63, t63_desc, t63_size, ti25, t25_desc, ti22, t22_desc, t22_size, ti59, t59_desc, t59_size, ti60, t60_desc, t60_size, ti61, t61_desc, t61_size, ti3, t3_desc, t3_size, ti40, t40_desc, t40_size, ti33, t33_desc, t33_size, ti9, t9_desc, t9_size, wrow_now, wrow_all, eqnil25, fn17, fn26, fn27, fn28, fn29, fn38, fn39, fn12, fn14, fn15, q_0, q_1, q_2, f_0, pendW, hasN, reorder, E0_ron, exists_eq', List.length_cons, List.length_nil, wti, wfn, wbin, wbox, wlen, wix, walloc, wst, w5, w6, w8, w9, cF, rc1, get_next, fn19]
              refine conA19 hdF ?_
              intro G v' L' hdG hL' hl' hb' fG
              have cG := (fG.get p (by omega) (by simpa using hpo.2)).trans cF
              simp only [oneW_next, s_0, s_1, s_2, s_3, s_4, Hands, handsV, resultsV, oneOrTuple, argsT, ev, evs, evPairs, evOpt, closed, flat, nth, aCall, aEnter, notYield, aNilCheck, aLoad, partV, isAggD, aFieldAddr, aField, aExtract, Option.isNone, aBuiltin, cond_true, cond_false, cond_dec, if_true, if_false, List.length_cons, List.length_nil, forall_const, implies_true, List.append_nil, List.cons_append, List.nil_append, eq_self, Nat.reduceEqDiff, Nat.reduceAdd, Nat.reduceMul, Nat.reduceSub, Nat.reduceLT, Nat.reduceLeDiff, Nat.reduceBEq, reduceIte, reduceCtorEq, ti63, t63_desc, t63_size, ti25, t25_desc, ti22, t22_desc, t22_size, ti59, t59_desc, t59_size, ti60, t60_desc, t60_size, ti61, t61_desc, t61_size, ti3, t3_desc, t3_size, ti40, t40_desc, t40_size, ti33, t33_desc, t33_size, ti9, t9_desc, t9_size, wrow_now, wrow_all, eqnil25, fn17, fn26, fn27, fn28, fn29, fn38, fn39, fn12, fn14, fn15, q_0, q_1, q_2, f_0, pendW, hasN, reorder, E0_ron, exists_eq', List.length_cons, List.length_nil, wti, wfn, wbin, wbox, wlen, wix, walloc, wst, eqB, w5, w6, w7, w1, cG]
              exact ⟨_, _, rfl, by simp only [tget_put, Nat.reduceEqDiff, if_false, if_true, reduceIte], by simp only [tget_put, Nat.reduceEqDiff, if_false, if_true, reduceIte, w7], by simp only [tget_put, Nat.reduceEqDiff, if_false, if_true, reduceIte, w1], by simp only [tget_put, Nat.reduceEqDiff, if_false, if_true, reduceIte, w5], by simp only [tget_put, Nat.reduceEqDiff, if_false, if_true, reduceIte, w6], both_put hwF hdG hL' ((hup.del _).mono (by omega)) (by omega) hbk hb' fG hmb, z_get gD (by omega) fF fG hwD hdD, by have := fG.next; omega⟩
            have e3' : (x.kind = 3) = False := eq_false k3
            have hDp : 0 < D.next := by omega
            by_cases k456 : x.kind = 4 ∨ x.kind = 5 ∨ x.kind = 6
            · rcases k456 with k | k | k
              all_goals
                rw [k] at w44
                simp only [oneW_next, s_0, s_1, s_2, s_3, s_4, Hands, handsV, resultsV, oneOrTuple, argsT, ev, evs, evPairs, evOpt, closed, flat, nth, aCall, aEnter, notYield, aNilCheck, aLoad, partV, isAggD, aFieldAddr, aField, aExtract, Option.isNone, aBuiltin, cond_true, cond_false, cond_dec, if_true, if_false, List.length_cons, List.length_nil, forall_const, implies_true, List.append_nil, List.cons_append, List.nil_append, eq_self, Nat.reduceEqDiff, Nat.reduceAdd, Nat.reduceMul, Nat.reduceSub, Nat.reduceLT, Nat.reduceLeDiff, Nat.reduceBEq, reduceIte, reduceCtorEq, ti63, t63_desc, t63_size, ti25, t25_desc, ti22, t22_desc, t22_size, ti59, t59_desc, t59_size, ti60, t60_desc, t60_size, ti61, t61_desc, t61_size, ti3, t3_desc, t3_size, ti40, t40_desc, t40_size, ti33, t33_desc, t33_size, ti9, t9_desc, t9_size, wrow_now, wrow_all, eqnil25, fn17, fn26, fn27, fn28, fn29, fn38, fn39, fn12, fn14, fn15, wti, wfn, wbin, wbox, wlen, wix, walloc, wst, w44, w5, w6, w7, w8, w9, Int.reduceEq, fn13]
                refine CallT.mono (advance_spec hwD (hup.few (by omega)) htl) ?_
                intro r F hq
                by_cases hlt : t < nw
                · rw [if_pos hlt] at hq
                  obtain ⟨rfl, hwF, fF⟩ := hq
                  have hdF := hdD.fr fF hmb hbk
                  simp only [oneW_next, s_0, s_1, s_2, s_3, s_4, Hands, handsV, resultsV, oneOrTuple, argsT, ev, evs, evPairs, evOpt, closed, flat, nth, aCall, aEnter, notYield, aNilCheck, aLoad, partV, isAggD, aFieldAddr, aField, aExtract, Option.isNone, aBuiltin, cond_true, cond_false, cond_dec, if_true, if_false, List.length_cons, List.length_nil, forall_const, implies_true, List.append_nil, List.cons_append, List.nil_append, eq_self, Nat.reduceEqDiff, Nat.reduceAdd, Nat.reduceMul, Nat.reduceSub, Nat.reduceLT, Nat.reduceLeDiff, Nat.reduceBEq, reduceIte, reduceCtorEq, ti63, t63_desc, t63_size, ti25, t25_desc, ti22, t22_desc, t22_size, ti59, t59_desc, t59_size, ti60, t60_desc, t60_size, ti61, t61_desc, t61_size, ti3, t3_desc, t3_size, ti40, t40_desc, t40_size, ti33, t33_desc, t33_size, ti9, t9_desc, t9_size, wrow_now, wrow_all, eqnil25, fn17, fn26, fn27, fn28, fn29, fn38, fn39, fn12, fn14, fn15, wti, wfn, wbin, wbox, wlen, wix, walloc, wst, w5, w6, w7, w8, w9, fn21]
                  refine CallT.mono (doc_adv (nw := t) hdF hL (by omega)) ?_
                  intro r' G hq
                  rw [if_pos hlt] at hq
                  obtain ⟨rfl, rfl⟩ := hq
                  simp only [oneW_next, s_0, s_1, s_2, s_3, s_4, Hands, handsV, resultsV, oneOrTuple, argsT, ev, evs, evPairs, evOpt, closed, flat, nth, aCall, aEnter, notYield, aNilCheck, aLoad, partV, isAggD, aFieldAddr, aField, aExtract, Option.isNone, aBuiltin, cond_true, cond_false, cond_dec, if_true, if_false, List.length_cons, List.length_nil, forall_const, implies_true, List.append_nil, List.cons_append, List.nil_append, eq_self, Nat.reduceEqDiff, Nat.reduceAdd, Nat.reduceMul, Nat.reduceSub, Nat.reduceLT, Nat.reduceLeDiff, Nat.reduceBEq, reduceIte, reduceCtorEq, ti63, t63_desc, t63_size, ti25, t25_desc, ti22, t22_desc, t22_size, ti59, t59_desc, t59_size, ti60, t60_desc, t60_size, ti61, t61_desc, t61_size, ti3, t3_desc, t3_size, ti40, t40_desc, t40_size, ti33, t33_desc, t33_size, ti9, t9_desc, t9_size, wrow_now, wrow_all, eqnil25, fn17, fn26, fn27, fn28, fn29, fn38, fn39, fn12, fn14, fn15, wti, wfn, wbin, wbox, wlen, wix, walloc, wst, w5, w6, w7, w8, w9, fn20]
                  refine CallT.mono (same_spec (l := []) (lo := 0) (.inl ⟨rfl, rfl⟩) (.inl ⟨rfl, .inl ⟨0, rfl⟩⟩) (by simp)) ?_
                  rintro _ H ⟨rfl, fH⟩
                  simp only [oneW_next, s_0, s_1, s_2, s_3, s_4, Hands, handsV, resultsV, oneOrTuple, argsT, ev, evs, evPairs, evOpt, closed, flat, nth, aCall, aEnter, notYield, aNilCheck, aLoad, partV, isAggD, aFieldAddr, aField, aExtract, Option.isNone, aBuiltin, cond_true, cond_false, cond_dec, if_true, if_false, List.length_cons, List.length_nil, forall_const, implies_true, List.append_nil, List.cons_append, List.nil_append, eq_self, Nat.reduceEqDiff, Nat.reduceAdd, Nat.reduceMul, Nat.reduceSub, Nat.reduceLT, Nat.reduceLeDiff, Nat.reduceBEq, reduceIte, reduceCtorEq, ti63, t63_desc, t63_size, ti25, t25_desc, ti22, t22_desc, t22_size, ti59, t59_desc, t59_size, ti60, t60_desc, t60_size, ti61, t61_desc, t61_size, ti3, t3_desc, t3_size, ti40, t40_desc, t40_size, ti33, t33_desc, t33_size, ti9, t9_desc, t9_size, wrow_now, wrow_all, eqnil25, fn17, fn26, fn27, fn28, fn29, fn38, fn39, fn12, fn14, fn15, wti, wfn, wbin, wbox, wlen, wix, walloc, wst, w5, w6, w7, w8, w9]
                  have hn1 := fF.next
                  have hn2 := fH.next
                  have hz : H.get 0 = none := by rw [fH.get 0 (by omega) (by simp), fF.get 0 (by omega) (hwD.nn gD)]; exact gD
                  exact ⟨_, _, rfl, by simp only [tget_put, Nat.reduceEqDiff, if_false, if_true, reduceIte], by simp only [tget_put, Nat.reduceEqDiff, if_false, if_true, reduceIte, w7], by simp only [tget_put, Nat.reduceEqDiff, if_false, if_true, reduceIte, w1], by simp only [tget_put, Nat.reduceEqDiff, if_false, if_true, reduceIte, w5], by simp only [tget_put, Nat.reduceEqDiff, if_false, if_true, reduceIte, w6], (Both.fr ⟨nw, M, v, L, hwF, hdF, hL, hup.mono (by omega), by omega, hbk⟩ fH), hz, by omega⟩
                · rw [if_neg hlt] at hq
                  obtain ⟨ts, hts, hsl', hwF, fF⟩ := hq
                  have hdF := hdD.fr fF hmb hbk
                  simp only [oneW_next, s_0, s_1, s_2, s_3, s_4, Hands, handsV, resultsV, oneOrTuple, argsT, ev, evs, evPairs, evOpt, closed, flat, nth, aCall, aEnter, notYield, aNilCheck, aLoad, partV, isAggD, aFieldAddr, aField, aExtract, Option.isNone, aBuiltin, cond_true, cond_false, cond_dec, if_true, if_false, List.length_cons, List.length_nil, forall_const, implies_true, List.append_nil, List.cons_append, List.nil_append, eq_self, Nat.reduceEqDiff, Nat.reduceAdd, Nat.reduceMul, Nat.reduceSub, Nat.reduceLT, Nat.reduceLeDiff, Nat.reduceBEq, reduceIte, reduceCtorEq, ti63, t63_desc, t63_size, ti25, t25_desc, ti22, t22_desc, t22_size, ti59, t59_desc, t59_size, ti60, t60_desc, t60_size, ti61, t61_desc, t61_size, ti3, t3_desc, t3_size, ti40, t40_desc, t40_size, ti33, t33_desc, t33_size, ti9, t9_desc, t9_size, wrow_now, wrow_all, eqnil25, fn17, fn26, fn27, fn28, fn29, fn38, fn39, fn12, fn14, fn15, wti, wfn, wbin, wbox, wlen, wix, walloc, wst, w5, w6, w7, w8, w9, fn21]
                  refine CallT.mono (doc_adv (nw := t) hdF hL (by omega)) ?_
                  intro r' G hq
                  rw [if_neg hlt] at hq
                  obtain ⟨L1, v', L', hrd, hL1, hdG, hL', hln, hln1, hbv, hbr, fG⟩ := hq
                  have e := hts.uniq hL1
                  subst e
                  simp only [oneW_next, s_0, s_1, s_2, s_3, s_4, Hands, handsV, resultsV, oneOrTuple, argsT, ev, evs, evPairs, evOpt, closed, flat, nth, aCall, aEnter, notYield, aNilCheck, aLoad, partV, isAggD, aFieldAddr, aField, aExtract, Option.isNone, aBuiltin, cond_true, cond_false, cond_dec, if_true, if_false, List.length_cons, List.length_nil, forall_const, implies_true, List.append_nil, List.cons_append, List.nil_append, eq_self, Nat.reduceEqDiff, Nat.reduceAdd, Nat.reduceMul, Nat.reduceSub, Nat.reduceLT, Nat.reduceLeDiff, Nat.reduceBEq, reduceIte, reduceCtorEq, ti63, t63_desc, t63_size, ti25, t25_desc, ti22, t22_desc, t22_size, ti59, t59_desc, t59_size, ti60, t60_desc, t60_size, ti61, t61_desc, t61_size, ti3, t3_desc, t3_size, ti40, t40_desc, t40_size, ti33, t33_desc, t33_size, ti9, t9_desc, t9_size, wrow_now, wrow_all, eqnil25, fn17, fn26, fn27, fn28, fn29, fn38, fn39, fn12, fn14, fn15, wti, wfn, wbin, wbox, wlen, wix, walloc, wst, w5, w6, w7, w8, w9, fn20]
                  refine CallT.mono (same_spec (hsl'.fr fG (by simpa using hdD.lt)) hrd (by omega)) ?_
                  rintro _ H ⟨rfl, fH⟩
                  simp only [oneW_next, s_0, s_1, s_2, s_3, s_4, Hands, handsV, resultsV, oneOrTuple, argsT, ev, evs, evPairs, evOpt, closed, flat, nth, aCall, aEnter, notYield, aNilCheck, aLoad, partV, isAggD, aFieldAddr, aField, aExtract, Option.isNone, aBuiltin, cond_true, cond_false, cond_dec, if_true, if_false, List.length_cons, List.length_nil, forall_const, implies_true, List.append_nil, List.cons_append, List.nil_append, eq_self, Nat.reduceEqDiff, Nat.reduceAdd, Nat.reduceMul, Nat.reduceSub, Nat.reduceLT, Nat.reduceLeDiff, Nat.reduceBEq, reduceIte, reduceCtorEq, ti63, t63_desc, t63_size, ti25, t25_desc, ti22, t22_desc, t22_size, ti59, t59_desc, t59_size, ti60, t60_desc, t60_size, ti61, t61_desc, t61_size, ti3, t3_desc, t3_size, ti40, t40_desc, t40_size, ti33, t33_desc, t33_size, ti9, t9_desc, t9_size, wrow_now, wrow_all, eqnil25, fn17, fn26, fn27, fn28, fn29, fn38, fn39, fn12, fn14, fn15, wti, wfn, wbin, wbox, wlen, wix, walloc, wst, w5, w6, w7, w8, w9]
                  have hn1 := fF.next
                  have hn2 := fG.next
                  have hn3 := fH.next
                  have hz : H.get 0 = none := by rw [fH.get 0 (by omega) (by simp), fG.get 0 (by omega) (by simp only [List.mem_singleton]; rintro rfl; rw [hdD.row] at gD; cases gD), fF.get 0 (by omega) (hwD.nn gD)]; exact gD
                  exact ⟨_, _, rfl, by simp only [tget_put, Nat.reduceEqDiff, if_false, if_true, reduceIte], by simp only [tget_put, Nat.reduceEqDiff, if_false, if_true, reduceIte, w7], by simp only [tget_put, Nat.reduceEqDiff, if_false, if_true, reduceIte, w1], by simp only [tget_put, Nat.reduceEqDiff, if_false, if_true, reduceIte, w5], by simp only [tget_put, Nat.reduceEqDiff, if_false, if_true, reduceIte, w6], (Both.fr (both_put hwF hdG hL' ((hup.filter _).mono (by omega)) (by omega) hbk (fun b h => .inl (hbv b h)) fG hmb) fH), hz, by omega⟩
            have e4' : (x.kind = 4) = False := eq_false fun h => k456 (.inl h)
            have e5' : (x.kind = 5) = False := eq_false fun h => k456 (.inr (.inl h))
            have e6' : (x.kind = 6) = False := eq_false fun h => k456 (.inr (.inr h))
            simp only [oneW_next, s_0, s_1, s_2, s_3, s_4, Hands, handsV, resultsV, oneOrTuple, argsT, ev, evs, evPairs, evOpt, closed, flat, nth, aCall, aEnter, notYield, aNilCheck, aLoad, partV, isAggD, aFieldAddr, aField, aExtract, Option.isNone, aBuiltin, cond_true, cond_false, cond_dec, if_true, if_false, List.length_cons, List.length_nil, forall_const, implies_true, List.append_nil, List.cons_append, List.nil_append, eq_self, Nat.reduceEqDiff, Nat.reduceAdd, Nat.reduceMul, Nat.reduceSub, Nat.reduceLT, Nat.reduceLeDiff, Nat.reduceBEq, reduceIte, reduceCtorEq, ti63, t63_desc, t63_size, ti25, t25_desc, ti22, t22_desc, t22_size, ti59, t59_desc, t59_size, ti60, t60_desc, t60_size, ti61, t61_desc, t61_size, ti3, t3_desc, t3_size, ti40, t40_desc, t40_size, ti33, t33_desc, t33_size, ti9, t9_desc, t9_size, wrow_now, wrow_all, eqnil25, fn17, fn26, fn27, fn28, fn29, fn38, fn39, fn12, fn14, fn15, wti, wfn, wbin, wbox, wlen, wix, walloc, wst, w44, w5, w6, w7, w8, w9, e1', e2', e3', e4', e5', e6']
            exact ⟨_, _, rfl, by simp only [tget_put, Nat.reduceEqDiff, if_false, if_true, reduceIte, w10], by simp only [tget_put, Nat.reduceEqDiff, if_false, if_true, reduceIte, w7], by simp only [tget_put, Nat.reduceEqDiff, if_false, if_true, reduceIte, w1], by simp only [tget_put, Nat.reduceEqDiff, if_false, if_true, reduceIte, w5], by simp only [tget_put, Nat.reduceEqDiff, if_false, if_true, reduceIte, w6], ⟨nw, M, v, L, hwD, hdD, hL, hup.mono (by omega), by omega, hbk⟩, gD, by omega⟩
        · have d1 : ((i : Int) < (acts.length : Int)) = True := eq_true (by omega)
          have d2 : ((i : Int) < 100) = False := eq_false (by omega)
          simp only [oneW_next, s_0, s_1, s_2, s_3, s_4, Hands, handsV, resultsV, oneOrTuple, argsT, ev, evs, evPairs, evOpt, closed, flat, nth, aCall, aEnter, notYield, aNilCheck, aLoad, partV, isAggD, aFieldAddr, aField, aExtract, Option.isNone, aBuiltin, cond_true, cond_false, cond_dec, if_true, if_false, List.length_cons, List.length_nil, forall_const, implies_true, List.append_nil, List.cons_append, List.nil_append, eq_self, Nat.reduceEqDiff, Nat.reduceAdd, Nat.reduceMul, Nat.reduceSub, Nat.reduceLT, Nat.reduceLeDiff, Nat.reduceBEq, reduceIte, reduceCtorEq, ti63, t63_desc, t63_size, ti25, t25_desc, ti22, t22_desc, t22_size, ti59, t59_desc, t59_size, ti60, t60_desc, t60_size, ti61, t61_desc, t61_size, ti3, t3_desc, t3_size, ti40, t40_desc, t40_size, ti33, t33_desc, t33_size, ti9, t9_desc, t9_size, wrow_now, wrow_all, eqnil25, fn17, fn26, fn27, fn28, fn29, fn38, fn39, fn12, fn14, fn15, wti, wfn, wbin, wbox, wlen, wix, walloc, wst, u7, u1, hlen, d1, d2]
          exact ⟨_, _, i, rfl, hi1, by simp only [tget_put, Nat.reduceEqDiff, if_false, if_true, reduceIte, u5]⟩
      · have d1 : ((i : Int) < (acts.length : Int)) = False := eq_false (by omega)
        simp only [oneW_next, s_0, s_1, s_2, s_3, s_4, Hands, handsV, resultsV, oneOrTuple, argsT, ev, evs, evPairs, evOpt, closed, flat, nth, aCall, aEnter, notYield, aNilCheck, aLoad, partV, isAggD, aFieldAddr, aField, aExtract, Option.isNone, aBuiltin, cond_true, cond_false, cond_dec, if_true, if_false, List.length_cons, List.length_nil, forall_const, implies_true, List.append_nil, List.cons_append, List.nil_append, eq_self, Nat.reduceEqDiff, Nat.reduceAdd, Nat.reduceMul, Nat.reduceSub, Nat.reduceLT, Nat.reduceLeDiff, Nat.reduceBEq, reduceIte, reduceCtorEq, ti63, t63_desc, t63_size, ti25, t25_desc, ti22, t22_desc, t22_size, ti59, t59_desc, t59_size, ti60, t60_desc, t60_size, ti61, t61_desc, t61_size, ti3, t3_desc, t3_size, ti40, t40_desc, t40_size, ti33, t33_desc, t33_size, ti9, t9_desc, t9_size, wrow_now, wrow_all, eqnil25, fn17, fn26, fn27, fn28, fn29, fn38, fn39, fn12, fn14, fn15, wti, wfn, wbin, wbox, wlen, wix, walloc, wst, u7, u1, hlen, d1]
        exact ⟨_, _, i, rfl, hi1, by simp only [tget_put, Nat.reduceEqDiff, if_false, if_true, reduceIte, u5]⟩
    all_goals simp only [tget_put, Nat.reduceEqDiff, if_false, if_true, reduceIte, and_self]
    all_goals rfl
  · rintro o ⟨T1, A1, i0, rfl, hi0, u5⟩
    have len30n : ∀ A, aLen E0 30 (.slice none 0 0) A = some (.int .i64 0) := fun A => by simp only [aLen, ti30, t30_desc]; rfl
    have w0 : IntKind.i64.wrap (0 + 0) = 0 := by kernel_rfl
    simp only [oneW_next, s_0, s_1, s_2, s_3, s_4, Hands, handsV, resultsV, oneOrTuple, argsT, ev, evs, evPairs, evOpt, closed, flat, nth, aCall, aEnter, notYield, aNilCheck, aLoad, partV, isAggD, aFieldAddr, aField, aExtract, Option.isNone, aBuiltin, cond_true, cond_false, cond_dec, if_true, if_false, List.length_cons, List.length_nil, forall_const, implies_true, List.append_nil, List.cons_append, List.nil_append, eq_self, Nat.reduceEqDiff, Nat.reduceAdd, Nat.reduceMul, Nat.reduceSub, Nat.reduceLT, Nat.reduceLeDiff, Nat.reduceBEq, reduceIte, reduceCtorEq, ti63, t63_desc, t63_size, ti25, t25_desc, ti22, t22_desc, t22_size, ti59, t59_desc, t59_size, ti60, t60_desc, t60_size, ti61, t61_desc, t61_size, ti3, t3_desc, t3_size, ti40, t40_desc, t40_size, ti33, t33_desc, t33_size, ti9, t9_desc, t9_size, wrow_now, wrow_all, eqnil25, fn17, fn26, fn27, fn28, fn29, fn38, fn39, fn12, fn14, fn15, wti, wfn, wbin, wbox, wlen, wix, walloc, wst, u5, fn24]
    refine CallT.mono (slot_none (by omega)) ?_
    rintro _ A2 ⟨rfl, rfl⟩
    simp only [oneW_next, s_0, s_1, s_2, s_3, s_4, Hands, handsV, resultsV, oneOrTuple, argsT, ev, evs, evPairs, evOpt, closed, flat, nth, aCall, aEnter, notYield, aNilCheck, aLoad, partV, isAggD, aFieldAddr, aField, aExtract, Option.isNone, aBuiltin, cond_true, cond_false, cond_dec, if_true, if_false, List.length_cons, List.length_nil, forall_const, implies_true, List.append_nil, List.cons_append, List.nil_append, eq_self, Nat.reduceEqDiff, Nat.reduceAdd, Nat.reduceMul, Nat.reduceSub, Nat.reduceLT, Nat.reduceLeDiff, Nat.reduceBEq, reduceIte, reduceCtorEq, ti63, t63_desc, t63_size, ti25, t25_desc, ti22, t22_desc, t22_size, ti59, t59_desc, t59_size, ti60, t60_desc, t60_size, ti61, t61_desc, t61_size, ti3, t3_desc, t3_size, ti40, t40_desc, t40_size, ti33, t33_desc, t33_size, ti9, t9_desc, t9_size, wrow_now, wrow_all, eqnil25, fn17, fn26, fn27, fn28, fn29, fn38, fn39, fn12, fn14, fn15, wti, wfn, wbin, wbox, wlen, wix, walloc, wst, u5, fn24, len30n]
    refine CallT.mono (slot_none (by omega)) ?_
    rintro _ A2 ⟨rfl, rfl⟩
    simp only [oneW_next, s_0, s_1, s_2, s_3, s_4, Hands, handsV, resultsV, oneOrTuple, argsT, ev, evs, evPairs, evOpt, closed, flat, nth, aCall, aEnter, notYield, aNilCheck, aLoad, partV, isAggD, aFieldAddr, aField, aExtract, Option.isNone, aBuiltin, cond_true, cond_false, cond_dec, if_true, if_false, List.length_cons, List.length_nil, forall_const, implies_true, List.append_nil, List.cons_append, List.nil_append, eq_self, Nat.reduceEqDiff, Nat.reduceAdd, Nat.reduceMul, Nat.reduceSub, Nat.reduceLT, Nat.reduceLeDiff, Nat.reduceBEq, reduceIte, reduceCtorEq, ti63, t63_desc, t63_size, ti25, t25_desc, ti22, t22_desc, t22_size, ti59, t59_desc, t59_size, ti60, t60_desc, t60_size, ti61, t61_desc, t61_size, ti3, t3_desc, t3_size, ti40, t40_desc, t40_size, ti33, t33_desc, t33_size, ti9, t9_desc, t9_size, wrow_now, wrow_all, eqnil25, fn17, fn26, fn27, fn28, fn29, fn38, fn39, fn12, fn14, fn15, wti, wfn, wbin, wbox, wlen, wix, walloc, wst, u5, fn24, len30n, w0]
    refine CallT.mono (slot_none (by omega)) ?_
    rintro _ A2 ⟨rfl, rfl⟩
    simp only [oneW_next, s_0, s_1, s_2, s_3, s_4, Hands, handsV, resultsV, oneOrTuple, argsT, ev, evs, evPairs, evOpt, closed, flat, nth, aCall, aEnter, notYield, aNilCheck, aLoad, partV, isAggD, aFieldAddr, aField, aExtract, Option.isNone, aBuiltin, cond_true, cond_false, cond_dec, if_true, if_false, List.length_cons, List.length_nil, forall_const, implies_true, List.append_nil, List.cons_append, List.nil_append, eq_self, Nat.reduceEqDiff, Nat.reduceAdd, Nat.reduceMul, Nat.reduceSub, Nat.reduceLT, Nat.reduceLeDiff, Nat.reduceBEq, reduceIte, reduceCtorEq, ti63, t63_desc, t63_size, ti25, t25_desc, ti22, t22_desc, t22_size, ti59, t59_desc, t59_size, ti60, t60_desc, t60_size, ti61, t61_desc, t61_size, ti3, t3_desc, t3_size, ti40, t40_desc, t40_size, ti33, t33_desc, t33_size, ti9, t9_desc, t9_size, wrow_now, wrow_all, eqnil25, fn17, fn26, fn27, fn28, fn29, fn38, fn39, fn12, fn14, fn15, wti, wfn, wbin, wbox, wlen, wix, walloc, wst, u5, fn24, len30n, w0]
    refine CallT.mono (slot_none (by omega)) ?_
    rintro _ A2 ⟨rfl, rfl⟩
    simp only [oneW_next, s_0, s_1, s_2, s_3, s_4, Hands, handsV, resultsV, oneOrTuple, argsT, ev, evs, evPairs, evOpt, closed, flat, nth, aCall, aEnter, notYield, aNilCheck, aLoad, partV, isAggD, aFieldAddr, aField, aExtract, Option.isNone, aBuiltin, cond_true, cond_false, cond_dec, if_true, if_false, List.length_cons, List.length_nil, forall_const, implies_true, List.append_nil, List.cons_append, List.nil_append, eq_self, Nat.reduceEqDiff, Nat.reduceAdd, Nat.reduceMul, Nat.reduceSub, Nat.reduceLT, Nat.reduceLeDiff, Nat.reduceBEq, reduceIte, reduceCtorEq, ti63, t63_desc, t63_size, ti25, t25_desc, ti22, t22_desc, t22_size, ti59, t59_desc, t59_size, ti60, t60_desc, t60_size, ti61, t61_desc, t61_size, ti3, t3_desc, t3_size, ti40, t40_desc, t40_size, ti33, t33_desc, t33_size, ti9, t9_desc, t9_size, wrow_now, wrow_all, eqnil25, fn17, fn26, fn27, fn28, fn29, fn38, fn39, fn12, fn14, fn15, wti, wfn, wbin, wbox, wlen, wix, walloc, wst, u5, fn24, len30n, w0, fn9]
    refine CallT.mono alive_spec ?_
    rintro _ A2 ⟨rfl, rfl⟩
    simp only [oneW_next, s_0, s_1, s_2, s_3, s_4, Hands, handsV, resultsV, oneOrTuple, argsT, ev, evs, evPairs, evOpt, closed, flat, nth, aCall, aEnter, notYield, aNilCheck, aLoad, partV, isAggD, aFieldAddr, aField, aExtract, Option.isNone, aBuiltin, cond_true, cond_false, cond_dec, if_true, if_false, List.length_cons, List.length_nil, forall_const, implies_true, List.append_nil, List.cons_append, List.nil_append, eq_self, Nat.reduceEqDiff, Nat.reduceAdd, Nat.reduceMul, Nat.reduceSub, Nat.reduceLT, Nat.reduceLeDiff, Nat.reduceBEq, reduceIte, reduceCtorEq, ti63, t63_desc, t63_size, ti25, t25_desc, ti22, t22_desc, t22_size, ti59, t59_desc, t59_size, ti60, t60_desc, t60_size, ti61, t61_desc, t61_size, ti3, t3_desc, t3_size, ti40, t40_desc, t40_size, ti33, t33_desc, t33_size, ti9, t9_desc, t9_size, wrow_now, wrow_all, eqnil25, fn17, fn26, fn27, fn28, fn29, fn38, fn39, fn12, fn14, fn15, wti, wfn, wbin, wbox, wlen, wix, walloc, wst, u5]
end Go.Proofs.Ytpmpclieclcbdaa

/- What a law's arguments hold: numbers, pairs of numbers, scripts in a slice, numbers in a slice. -/
namespace Go.Proofs.Ytpmpclieclcbdaa
open Go Go.AE Go.ChangeShapes Go.WideShapes Go.ChangeAt Go.RowKit Go.Joins Go.Deep

theorem Try.own : ownKnob Try.prog.godebug = none := by kernel_rfl
theorem Try.laidOut : laidOutB Try.prog = true := by kernel_rfl

set_option maxRecDepth 100000
theorem wf_u64 {n : Int} (h : (Lit.int .u64 n).wf = true) : ∃ m : Nat, n = (m : Int) ∧ m < 18446744073709551616 := by
  simp only [Lit.wf, Bool.and_eq_true, decide_eq_true_eq] at h
  have h1 : (0 : Int) ≤ n := h.1
  have h2 : n ≤ 18446744073709551615 := h.2
  exact ⟨n.toNat, by omega, by omega⟩
theorem trod_u64 {H : Type} {enc : TypeId × Value → H} {w : World} {base : Nat} {spare : Nat → Bool} {held : Bool} {fuel : Nat} {cs : List Value} {x : DataW H × List MemPlace} (h : DataW.trod enc Try.prog w base spare held fuel 22 cs = some x) : ∃ m : Nat, cs = [.int .u64 (m : Int)] ∧ m < 18446744073709551616 := by
  obtain ⟨n, rfl, _, hw⟩ := DataW.trod_int Try.underlying22 h
  obtain ⟨m, rfl, hm⟩ := wf_u64 hw
  exact ⟨m, rfl, hm⟩

instance : Inhabited ActD := ⟨⟨0, ByteArray.empty, 0, 0⟩⟩
def acell (y : ActD) : List Value := [.int .i64 y.kind, .string y.name, .int .u64 (y.at_ : Int), .int .u64 (y.by_ : Int)]
theorem acells_at : ∀ {acts : List ActD} {i : Nat} {v : Value}, (acells acts)[i]? = some v → ∃ q y r, acts[q]? = some y ∧ r < 4 ∧ i = q * 4 + r ∧ (acell y)[r]? = some v
  | [], i, v, h => by simp [acells] at h
  | y :: l, 0, v, h => ⟨0, y, 0, rfl, by omega, rfl, h⟩
  | y :: l, 1, v, h => ⟨0, y, 1, rfl, by omega, rfl, h⟩
  | y :: l, 2, v, h => ⟨0, y, 2, rfl, by omega, rfl, h⟩
  | y :: l, 3, v, h => ⟨0, y, 3, rfl, by omega, rfl, h⟩
  | y :: l, i + 4, v, h => by
    obtain ⟨q, z, r, h1, h2, h3, h4⟩ := acells_at (acts := l) (i := i) (v := v) h
    exact ⟨q + 1, z, r, by simpa using h1, h2, by omega, h4⟩

section
variable {H : Type} {enc : TypeId × Value → H} {w : World} {base : Nat} {spare : Nat → Bool} {held : Bool}

/-- A script. -/
theorem open_acts {fuel : Nat} {cs : List Value} {x : DataW H × List MemPlace} (h : DataW.trod enc Try.prog w base spare held fuel 37 cs = some x) :
    cs = [.slice none 0 0] ∨ ∃ (a : Addr) (len cap : Nat) (acts : List ActD), cs = [.slice (some a) len cap] ∧ cap ≤ maxLen ∧ acts.length = len ∧ (∀ y ∈ acts, y.at_ < 18446744073709551616 ∧ y.by_ < 18446744073709551616) ∧
      ∀ i y, acts[i]? = some y → ∀ r v, (acell y)[r]? = some v → w.cell? (a.add (i * 4 + r)) = some v := by
  rcases open_slice Try.underlying37 h with ⟨h0, _⟩ | ⟨a, len, cap, m, n, D, Pl, rfl, _, hl, hcap, hm, _, hx⟩
  · exact .inl h0
  right
  have hc : Try.prog.cellsOf 40 = 4 := by kernel_rfl
  rw [hc] at hx
  have hlm : len ≤ m := by rw [hm]; split <;> omega
  have each : ∀ i, i < len → ∃ y : ActD, (y.at_ < 18446744073709551616 ∧ y.by_ < 18446744073709551616) ∧ ∀ r v, (acell y)[r]? = some v → w.cell? (a.add (i * 4 + r)) = some v := by
    intro i hi
    obtain ⟨cs', h1, h2⟩ := hx i (by omega)
    obtain ⟨_, hlen, hcell⟩ := World.cells?_some h1
    match cs', hlen with
    | [c0, c1, c2, c3], _ =>
      obtain ⟨y0, y1, y2, y3, k, _, _, g0, g1, g2, g3⟩ := trod_struct4 Try.underlying40 h2
      have c3' : Try.prog.cellsOf 3 = 1 := by kernel_rfl
      have c9' : Try.prog.cellsOf 9 = 1 := by kernel_rfl
      have c22' : Try.prog.cellsOf 22 = 1 := by kernel_rfl
      simp only [c3', c9', c22', List.drop_succ_cons, List.drop_zero, List.take_succ_cons, List.take_zero] at g0 g1 g2 g3
      obtain ⟨k0, e0, _⟩ := DataW.trod_int Try.underlying3 g0
      obtain ⟨s1, e1, _⟩ := DataW.trod_string Try.underlying9 g1
      obtain ⟨n2, e2, l2⟩ := trod_u64 g2
      obtain ⟨n3, e3, l3⟩ := trod_u64 g3
      cases e0; cases e1; cases e2; cases e3
      refine ⟨⟨k0, s1, n2, n3⟩, ⟨l2, l3⟩, fun r v hr => ?_⟩
      have hr4 : r < 4 := by
        by_cases hlt : r < 4
        · exact hlt
        · rw [List.getElem?_eq_none (by show 4 ≤ r; omega)] at hr
          cases hr
      have := hcell r hr4
      rw [add_add] at this
      rw [this]
      exact hr
  obtain ⟨f, hf⟩ := choose_lt each
  refine ⟨a, len, cap, (List.range len).map f, rfl, hcap, by simp, ?_, ?_⟩
  · intro y hy
    obtain ⟨i, hi, rfl⟩ := List.mem_map.1 hy
    exact (hf i (List.mem_range.1 hi)).1
  · intro i y hy
    rw [List.getElem?_map] at hy
    obtain ⟨j, hj, rfl⟩ := Option.map_eq_some_iff.1 hy
    have hi : i < len := by
      by_cases hlt : i < len
      · exact hlt
      · rw [List.getElem?_eq_none (by simp; omega)] at hj
        cases hj
    have : j = i := by simpa [List.getElem?_range hi] using hj.symm
    subst this
    exact (hf j hi).2

/-- Numbers in a slice. -/
theorem open_u64s {fuel : Nat} {cs : List Value} {x : DataW H × List MemPlace} (h : DataW.trod enc Try.prog w base spare held fuel 23 cs = some x) :
    cs = [.slice none 0 0] ∨ ∃ (a : Addr) (len cap : Nat) (l : List Nat), cs = [.slice (some a) len cap] ∧ cap ≤ maxLen ∧ l.length = len ∧ (∀ y ∈ l, y < 18446744073709551616) ∧
      ∀ (i y : Nat), l[i]? = some y → w.cell? (a.add i) = some (.int .u64 (y : Int)) := by
  rcases open_slice1 Try.underlying23 (by kernel_rfl) h with ⟨h0, _⟩ | ⟨a, len, cap, m, n, V, D, Pl, rfl, _, hl, hcap, hm, _, hx⟩
  · exact .inl h0
  right
  have hlm : len ≤ m := by rw [hm]; split <;> omega
  have each : ∀ i, i < len → ∃ y : Nat, y < 18446744073709551616 ∧ w.cell? (a.add i) = some (.int .u64 (y : Int)) := by
    intro i hi
    obtain ⟨h1, h2⟩ := hx i (by omega)
    obtain ⟨y, e, hy⟩ := trod_u64 h2
    simp only [List.cons.injEq, and_true] at e
    exact ⟨y, hy, by rw [h1, e]⟩
  obtain ⟨f, hf⟩ := choose_lt each
  refine ⟨a, len, cap, (List.range len).map f, rfl, hcap, by simp, ?_, ?_⟩
  · intro y hy
    obtain ⟨i, hi, rfl⟩ := List.mem_map.1 hy
    exact (hf i (List.mem_range.1 hi)).1
  · intro i y hy
    rw [List.getElem?_map] at hy
    obtain ⟨j, hj, rfl⟩ := Option.map_eq_some_iff.1 hy
    have hi : i < len := by
      by_cases hlt : i < len
      · exact hlt
      · rw [List.getElem?_eq_none (by simp; omega)] at hj
        cases hj
    have : j = i := by simpa [List.getElem?_range hi] using hj.symm
    subst this
    exact (hf j hi).2

/-- Two numbers. -/
theorem open_two {v : Value} {d : DataW H} {p : List MemPlace} {base' : Nat} (hv : Value.okWide Try.prog w .any base' 38 v) (h : DataW.Trod enc Try.prog w base spare held 38 v d p) : ∃ b0 b1 : Nat, v = .agg #[.int .u64 (b0 : Int), .int .u64 (b1 : Int)] ∧ b0 < 18446744073709551616 ∧ b1 < 18446744073709551616 := by
  obtain ⟨cs, rfl, hsz, _⟩ : ∃ cs, v = .agg cs ∧ cs.size = Try.prog.cellsOf 38 ∧ Row.okWide Try.prog w .any base' 38 cs := by
    unfold Value.okWide at hv
    rw [Try.underlying38] at hv
    exact hv
  have h2 : Try.prog.cellsOf 38 = 2 := by kernel_rfl
  rw [h2] at hsz
  obtain ⟨l⟩ := cs
  match l, hsz with
  | [c0, c1], _ =>
    obtain ⟨fuel, hf⟩ := h
    have hf : DataW.trod enc Try.prog w base spare held fuel 38 [c0, c1] = some (d, p) := hf
    obtain ⟨xs, m, _, _, _, hxl, hg⟩ := DataW.trod_array Try.underlying38 hf
    have c22 : Try.prog.cellsOf 22 = 1 := by kernel_rfl
    match xs, hxl with
    | [y0, y1], _ =>
      have g0 := hg 0 (by omega)
      have g1 := hg 1 (by omega)
      simp only [c22, Nat.zero_mul, Nat.mul_one, List.drop_succ_cons, List.drop_zero, List.take_succ_cons, List.take_zero] at g0 g1
      obtain ⟨n0, e0, l0⟩ := trod_u64 g0
      obtain ⟨n1, e1, l1⟩ := trod_u64 g1
      cases e0; cases e1
      exact ⟨n0, n1, rfl, l0, l1⟩

/-- A slice that a row hands in lies at a plain place. -/
theorem spot_none {t e : TypeId} {a : Addr} {len cap : Nat} (ht : Try.prog.underlying t = some (.slice e)) (hv : Value.okWide Try.prog w .any base t (.slice (some a) len cap)) : a.spot = none := by
  unfold Value.okWide Cell.okWide Cell.ok at hv
  rw [ht] at hv
  exact hv.2.2.2.1
end

theorem add_plain {b o i : Nat} : (⟨b, o, none⟩ : Addr).add i = ⟨b, o + i, none⟩ := by
  unfold Addr.add
  split
  · rename_i h; subst h; rfl
  · rfl
end Go.Proofs.Ytpmpclieclcbdaa
