/- The law 'TimersCopies', walked: the call. -/
import Derived.Test.YtgcffmhpjphefaaGreatDoorP11
set_option linter.unusedSimpArgs false
set_option linter.unusedVariables false
set_option linter.unusedSectionVars false
namespace Go.Proofs.YtgcffmhpjphefaaGreatDoor
open Go Go.AE
set_option maxRecDepth 10000
set_option maxHeartbeats 16000000
variable {Z : Go.AE.Road} {s : Spans}

theorem copies_walk (hro : RoadS Z E0 s) (ht : TabZ Z) {A : ASt} {S0 : Nat → Prop} {lv lw : Value} {P0 P2 : List (TimD × Value)} {now : Nat} (hl : Handed s A S0 lv P0) (hl2 : Handed s A S0 lw P2) (hS0 : ∀ b, S0 b → b < A.next) (hnow : now < 18446744073709551616) :
    CallW Z Tryz.prog 4 [.int .u64 (now : Int), lv, lw] A (fun v _ => v = .bool true) := by
  refine CallW.assume hro fun hnr => ?_
  refine CallW.of_code (withRo_ok E0_ok) hro.ro (f := 4) (fn := Tryz.f4) fn4 rfl (n := 143) rfl (rs := [.tmp 6]) rfl (by simp) (codeW_ok (withRo_ok E0_ok) hro.ro ?_)
  obtain ⟨lb, lc, rfl⟩ := hl.sl.form
  obtain ⟨mb, mc, rfl⟩ := hl2.sl.form
  rw [List.length_map] at hl hl2
  simp only [List.length_map, w_w, oneW_next, s_0, s_1, s_2, s_3, s_4, g_0, w_0, w_wh, w_st, w_qu, w_tb, w_q2, w_t2, w_so, w_a, w_lw, d_0, flat, Option.isNone, aFieldAddr, aField, aBuiltin, cond_true, cond_false, cond_dec, if_true, if_false, List.length_cons, List.length_nil, forall_const, implies_true, List.append_nil, List.cons_append, List.nil_append, eq_self, Nat.reduceEqDiff, Nat.reduceAdd, Nat.reduceMul, Nat.reduceSub, Nat.reduceLT, Nat.reduceLeDiff, Nat.reduceBEq, reduceIte, reduceCtorEq]
  refine CallT.mono (CallT.of_call (tU_new (s := s) hro hnow)) ?_
  rintro _ C ⟨x, U0, rfl, hT, fC, hU0⟩
  have hlC := hl.fr fC (by simp)
  have hmC := hl2.fr fC (by simp)
  have nC := fC.next
  have llen := timLen hlC.sl
  have mlen := timLen hmC.sl
  have e40 : ∀ P : List (TimD × Value), ((40 : Int) < (P.length : Int)) = (40 < P.length) := fun P => propext ⟨fun h => by omega, fun h => by omega⟩
  by_cases h40 : 40 < P0.length
  · have d1 := (e40 P0).trans (eq_true h40)
    simp only [w_w, oneW_next, s_0, s_1, s_2, s_3, s_4, g_0, w_0, w_wh, w_st, w_qu, w_tb, w_q2, w_t2, w_so, w_a, w_lw, d_0, flat, Option.isNone, aFieldAddr, aField, aBuiltin, cond_true, cond_false, cond_dec, if_true, if_false, List.length_cons, List.length_nil, forall_const, implies_true, List.append_nil, List.cons_append, List.nil_append, eq_self, Nat.reduceEqDiff, Nat.reduceAdd, Nat.reduceMul, Nat.reduceSub, Nat.reduceLT, Nat.reduceLeDiff, Nat.reduceBEq, reduceIte, reduceCtorEq, eqnilT, neqnilT, llen, mlen, d1, decide_true, Bool.not_false, undef]
  by_cases h41 : 40 < P2.length
  · have d1 := (e40 P0).trans (eq_false h40)
    have d2 := (e40 P2).trans (eq_true h41)
    simp only [w_w, oneW_next, s_0, s_1, s_2, s_3, s_4, g_0, w_0, w_wh, w_st, w_qu, w_tb, w_q2, w_t2, w_so, w_a, w_lw, d_0, flat, Option.isNone, aFieldAddr, aField, aBuiltin, cond_true, cond_false, cond_dec, if_true, if_false, List.length_cons, List.length_nil, forall_const, implies_true, List.append_nil, List.cons_append, List.nil_append, eq_self, Nat.reduceEqDiff, Nat.reduceAdd, Nat.reduceMul, Nat.reduceSub, Nat.reduceLT, Nat.reduceLeDiff, Nat.reduceBEq, reduceIte, reduceCtorEq, eqnilT, neqnilT, llen, mlen, d1, d2, decide_true, decide_false, Bool.not_false, undef]
  have d1 := (e40 P0).trans (eq_false h40)
  have d2 := (e40 P2).trans (eq_false h41)
  simp only [w_w, oneW_next, s_0, s_1, s_2, s_3, s_4, g_0, w_0, w_wh, w_st, w_qu, w_tb, w_q2, w_t2, w_so, w_a, w_lw, d_0, flat, Option.isNone, aFieldAddr, aField, aBuiltin, cond_true, cond_false, cond_dec, if_true, if_false, List.length_cons, List.length_nil, forall_const, implies_true, List.append_nil, List.cons_append, List.nil_append, eq_self, Nat.reduceEqDiff, Nat.reduceAdd, Nat.reduceMul, Nat.reduceSub, Nat.reduceLT, Nat.reduceLeDiff, Nat.reduceBEq, reduceIte, reduceCtorEq, eqnilT, neqnilT, llen, mlen, d1, d2, decide_false, undef]
  refine CodeW.mono (Q := fun o => ∃ T' A', o = .fr ⟨.exit 0, T', A'⟩ ∧ tget T' 0 = .int .u64 (now : Int) ∧ tget T' 2 = .slice mb P2.length mc ∧ tget T' 7 = .pointer (some ⟨x, 0, none⟩) ∧ ∃ D U, TabU s A' x now 40 D U ∧ (∀ b, U b → A.next ≤ b) ∧ A.next ≤ A'.next ∧ Handed s A' S0 (.slice mb P2.length mc) P2) ?_ ?_
  · refine CodeW.loopR (k := P0.length) (fun n T A' => ∃ (i : Nat) (D : TD) (U : Nat → Prop), n = P0.length - i ∧ i ≤ P0.length ∧ tget T 0 = .int .u64 (now : Int) ∧ tget T 1 = .slice lb P0.length lc ∧ tget T 2 = .slice mb P2.length mc ∧ tget T 7 = .pointer (some ⟨x, 0, none⟩) ∧ tget T 8 = .int .i64 (i : Int) ∧ TabU s A' x now i D U ∧ (∀ b, U b → A.next ≤ b) ∧ A.next ≤ A'.next ∧ Handed s A' S0 (.slice lb P0.length lc) P0 ∧ Handed s A' S0 (.slice mb P2.length mc) P2) ?_ ⟨0, _, U0, rfl, Nat.zero_le _, ?_, ?_, ?_, ?_, ?_, hT, hU0, nC, hlC, hmC⟩
    · rintro k T A1 ⟨i, D, U, rfl, hi, u0, u1, u2, u7, u8, hT1, hU1, n1, hl1, hm1⟩
      refine codeW_ok (withRo_ok E0_ok) hro.ro ?_
      have llen1 := timLen hl1.sl
      have w1 : IntKind.i64.wrap ((i : Int) + 1) = ((i + 1 : Nat) : Int) := by rw [IntKind.wrap_i64]; omega
      by_cases hlt : i < P0.length
      · have d3 : ((i : Int) < (P0.length : Int)) = True := eq_true (by omega)
        obtain ⟨p, hp⟩ : ∃ p, P0[i]? = some p := ⟨_, List.getElem?_eq_getElem hlt⟩
        obtain ⟨b1, o1, c1, hx1, hc1, hcut, _, _, _⟩ := timIx hl1.sl hp
        have hpm := hl1.st p (List.mem_of_getElem? hp)
        have hag : Value.agg (tcell p.1 p.2).toArray = tval p.1 p.2 := rfl
        simp only [w_w, oneW_next, s_0, s_1, s_2, s_3, s_4, g_0, w_0, w_wh, w_st, w_qu, w_tb, w_q2, w_t2, w_so, w_a, w_lw, d_0, flat, Option.isNone, aFieldAddr, aField, aBuiltin, cond_true, cond_false, cond_dec, if_true, if_false, List.length_cons, List.length_nil, forall_const, implies_true, List.append_nil, List.cons_append, List.nil_append, eq_self, Nat.reduceEqDiff, Nat.reduceAdd, Nat.reduceMul, Nat.reduceSub, Nat.reduceLT, Nat.reduceLeDiff, Nat.reduceBEq, reduceIte, reduceCtorEq, u0, u1, u2, u7, u8, llen1, d3, decide_true, hx1, hc1, hcut, hag]
        refine CallT.mono (CallT.of_call (fits_spec (t := p.1) hro hpm.1)) ?_
        rintro _ F ⟨⟨bf, rfl, hbf⟩, fF⟩
        have hTF := hT1.fr0 fF
        have hlF := hl1.fr fF (by simp)
        have hmF := hm1.fr fF (by simp)
        have nF := fF.next
        cases bf with
        | false =>
          simp only [w_w, oneW_next, s_0, s_1, s_2, s_3, s_4, g_0, w_0, w_wh, w_st, w_qu, w_tb, w_q2, w_t2, w_so, w_a, w_lw, d_0, flat, Option.isNone, aFieldAddr, aField, aBuiltin, cond_true, cond_false, cond_dec, if_true, if_false, List.length_cons, List.length_nil, forall_const, implies_true, List.append_nil, List.cons_append, List.nil_append, eq_self, Nat.reduceEqDiff, Nat.reduceAdd, Nat.reduceMul, Nat.reduceSub, Nat.reduceLT, Nat.reduceLeDiff, Nat.reduceBEq, reduceIte, reduceCtorEq, u0, u1, u2, u7, u8, w1]
          exact ⟨P0.length - (i + 1), by omega, i + 1, D, U, rfl, by omega, rfl, hTF.le (by omega), hU1, by omega, hlF, hmF⟩
        | true =>
          have hfit := hbf rfl
          obtain ⟨b2, o2, c2, hx2, hc2, hcut2, _, _, _⟩ := timIx hlF.sl hp
          have hpm2 := hlF.st p (List.mem_of_getElem? hp)
          simp only [w_w, oneW_next, s_0, s_1, s_2, s_3, s_4, g_0, w_0, w_wh, w_st, w_qu, w_tb, w_q2, w_t2, w_so, w_a, w_lw, d_0, flat, Option.isNone, aFieldAddr, aField, aBuiltin, cond_true, cond_false, cond_dec, if_true, if_false, List.length_cons, List.length_nil, forall_const, implies_true, List.append_nil, List.cons_append, List.nil_append, eq_self, Nat.reduceEqDiff, Nat.reduceAdd, Nat.reduceMul, Nat.reduceSub, Nat.reduceLT, Nat.reduceLeDiff, Nat.reduceBEq, reduceIte, reduceCtorEq, u0, u1, u2, u7, u8, hx2, hc2, hcut2, hag]
          refine CallT.mono (CallT.of_call (tU_set (t := p.1) hro ht hTF (by omega) hpm2.1 ⟨by omega, hpm2.2.1⟩ hpm2.2.2 (fun b h1 _ h2 => by have := hS0 b h1; have := hU1 b h2; omega))) ?_
          rintro r G ⟨D', U', hr, hTG, hgr, fG⟩
          have nG := fG.next
          have hfr : ∀ {v : Value} {P : List (TimD × Value)}, Handed s F S0 v P → Handed s G S0 v P := fun h => by
            obtain ⟨own, h1, h2⟩ := fG
            exact h.fr h1 (fun b h3 _ hm => by have := hS0 b h3; have := hU1 b (h2 b hm); omega)
          have hU' : ∀ b, U' b → A.next ≤ b := fun b hb => by
            rcases hgr b hb with h3 | h3
            · exact hU1 b h3
            · omega
          rcases hr with ⟨_, rfl, _⟩ | ⟨_, rfl, _⟩
          · simp only [w_w, oneW_next, s_0, s_1, s_2, s_3, s_4, g_0, w_0, w_wh, w_st, w_qu, w_tb, w_q2, w_t2, w_so, w_a, w_lw, d_0, flat, Option.isNone, aFieldAddr, aField, aBuiltin, cond_true, cond_false, cond_dec, if_true, if_false, List.length_cons, List.length_nil, forall_const, implies_true, List.append_nil, List.cons_append, List.nil_append, eq_self, Nat.reduceEqDiff, Nat.reduceAdd, Nat.reduceMul, Nat.reduceSub, Nat.reduceLT, Nat.reduceLeDiff, Nat.reduceBEq, reduceIte, reduceCtorEq, u0, u1, u2, u7, u8, w1]
            exact ⟨P0.length - (i + 1), by omega, i + 1, D', U', rfl, by omega, rfl, hTG, hU', by omega, hfr hlF, hfr hmF⟩
          · simp only [w_w, oneW_next, s_0, s_1, s_2, s_3, s_4, g_0, w_0, w_wh, w_st, w_qu, w_tb, w_q2, w_t2, w_so, w_a, w_lw, d_0, flat, Option.isNone, aFieldAddr, aField, aBuiltin, cond_true, cond_false, cond_dec, if_true, if_false, List.length_cons, List.length_nil, forall_const, implies_true, List.append_nil, List.cons_append, List.nil_append, eq_self, Nat.reduceEqDiff, Nat.reduceAdd, Nat.reduceMul, Nat.reduceSub, Nat.reduceLT, Nat.reduceLeDiff, Nat.reduceBEq, reduceIte, reduceCtorEq, u0, u1, u2, u7, u8, w1]
            exact ⟨P0.length - (i + 1), by omega, i + 1, D', U', rfl, by omega, rfl, hTG, hU', by omega, hfr hlF, hfr hmF⟩
      · have d3 : ((i : Int) < (P0.length : Int)) = False := eq_false (by omega)
        simp only [w_w, oneW_next, s_0, s_1, s_2, s_3, s_4, g_0, w_0, w_wh, w_st, w_qu, w_tb, w_q2, w_t2, w_so, w_a, w_lw, d_0, flat, Option.isNone, aFieldAddr, aField, aBuiltin, cond_true, cond_false, cond_dec, if_true, if_false, List.length_cons, List.length_nil, forall_const, implies_true, List.append_nil, List.cons_append, List.nil_append, eq_self, Nat.reduceEqDiff, Nat.reduceAdd, Nat.reduceMul, Nat.reduceSub, Nat.reduceLT, Nat.reduceLeDiff, Nat.reduceBEq, reduceIte, reduceCtorEq, u0, u1, u2, u7, u8, llen1, d3, decide_false]
        refine ⟨_, _, rfl, ?_, ?_, ?_, D, U, hT1.le (by omega), hU1, n1, hm1⟩
        all_goals simp only [tget_put, Nat.reduceEqDiff, if_false, if_true, reduceIte, u0, u2, u7]
    all_goals first | rfl | (unfold argsT; rfl)
  · rintro o ⟨T', A1, rfl, u0, u2, u7, D, U, hT1, hU1, n1, hm1⟩
    simp only [w_w, oneW_next, s_0, s_1, s_2, s_3, s_4, g_0, w_0, w_wh, w_st, w_qu, w_tb, w_q2, w_t2, w_so, w_a, w_lw, d_0, flat, Option.isNone, aFieldAddr, aField, aBuiltin, cond_true, cond_false, cond_dec, if_true, if_false, List.length_cons, List.length_nil, forall_const, implies_true, List.append_nil, List.cons_append, List.nil_append, eq_self, Nat.reduceEqDiff, Nat.reduceAdd, Nat.reduceMul, Nat.reduceSub, Nat.reduceLT, Nat.reduceLeDiff, Nat.reduceBEq, reduceIte, reduceCtorEq, u0, u2, u7]
    refine CallT.mono (CallT.of_call (tU_copy hro ht hT1 (by omega))) ?_
    rintro _ C1 ⟨y, Uc, rfl, hTc, hUc, fC1⟩
    have hTx := hT1.fr0 fC1
    have hmC1 := hm1.fr fC1 (by simp)
    have nC1 := fC1.next
    have hltU := hT1.lt
    simp only [w_w, oneW_next, s_0, s_1, s_2, s_3, s_4, g_0, w_0, w_wh, w_st, w_qu, w_tb, w_q2, w_t2, w_so, w_a, w_lw, d_0, flat, Option.isNone, aFieldAddr, aField, aBuiltin, cond_true, cond_false, cond_dec, if_true, if_false, List.length_cons, List.length_nil, forall_const, implies_true, List.append_nil, List.cons_append, List.nil_append, eq_self, Nat.reduceEqDiff, Nat.reduceAdd, Nat.reduceMul, Nat.reduceSub, Nat.reduceLT, Nat.reduceLeDiff, Nat.reduceBEq, reduceIte, reduceCtorEq, u0, u2, u7, eqnilT]
    -- all of them, and those that are due
    refine CallT.mono (CallT.of_call (tU_all hro hTx (by omega))) ?_
    rintro ra F1 ⟨Pa, hPa, hAa, fF1⟩
    have nF1 := fF1.next
    have hpa := hPa.p
    obtain ⟨ab, ac, rfl⟩ := hPa.form
    have hTx1 := hTx.fr0 fF1
    have hTc1 := hTc.fr0 fF1
    have hmF1 := hmC1.fr fF1 (by simp)
    simp only [w_w, oneW_next, s_0, s_1, s_2, s_3, s_4, g_0, w_0, w_wh, w_st, w_qu, w_tb, w_q2, w_t2, w_so, w_a, w_lw, d_0, flat, Option.isNone, aFieldAddr, aField, aBuiltin, cond_true, cond_false, cond_dec, if_true, if_false, List.length_cons, List.length_nil, forall_const, implies_true, List.append_nil, List.cons_append, List.nil_append, eq_self, Nat.reduceEqDiff, Nat.reduceAdd, Nat.reduceMul, Nat.reduceSub, Nat.reduceLT, Nat.reduceLeDiff, Nat.reduceBEq, reduceIte, reduceCtorEq, u0, u2, u7]
    refine CallT.mono (CallT.of_call (tU_due hro hTx1 (by omega))) ?_
    rintro rd F2 ⟨Ld, Pd, hLd, hPd, hmd, Ux, hTx2, hgx, fF2, hpd⟩
    have nF2 := fF2.next
    obtain ⟨db, dc, rfl⟩ := hPd.form
    have hltc := hTc.lt
    have hUx : ∀ b, Ux b → (b < A1.next ∧ A.next ≤ b) ∨ F1.next ≤ b ∧ b < F2.next := fun b hb => by
      have h5 := hTx2.lt b hb
      rcases hgx b hb with h3 | h3
      · exact .inl ⟨hltU b h3, hU1 b h3⟩
      · exact .inr ⟨h3, h5⟩
    have hTc2 := hTc1.fr fF2 (fun b h3 h4 => by have := hUc b h3; have := hltU b h4; omega)
    have hpa2 := hpa.fr fF2 (fun b h3 h4 => by have := hltU b h3; have := h4.1; omega)
    have hmfr : ∀ {B B' : ASt} {V : Nat → Prop}, FrU V B B' → (∀ b, V b → A.next ≤ b) → Handed s B S0 (.slice mb P2.length mc) P2 → Handed s B' S0 (.slice mb P2.length mc) P2 := fun hf hV h => by
      obtain ⟨own, h1, h2⟩ := hf
      exact h.fr h1 (fun b h3 _ hm => by have := hS0 b h3; have := hV b (h2 b hm); omega)
    have hmF2 := hmfr fF2 hU1 hmF1
    simp only [w_w, oneW_next, s_0, s_1, s_2, s_3, s_4, g_0, w_0, w_wh, w_st, w_qu, w_tb, w_q2, w_t2, w_so, w_a, w_lw, d_0, flat, Option.isNone, aFieldAddr, aField, aBuiltin, cond_true, cond_false, cond_dec, if_true, if_false, List.length_cons, List.length_nil, forall_const, implies_true, List.append_nil, List.cons_append, List.nil_append, eq_self, Nat.reduceEqDiff, Nat.reduceAdd, Nat.reduceMul, Nat.reduceSub, Nat.reduceLT, Nat.reduceLeDiff, Nat.reduceBEq, reduceIte, reduceCtorEq, u0, u2, u7]
    have hsteps : ∀ {P : List (TimD × Value)}, (∀ p ∈ P, ∃ k, D k = some p.1) → ∀ p ∈ P, p.1.steps.length ≤ 1000 := fun h p hp => by
      obtain ⟨k, hk⟩ := h p hp
      exact (hT1.ok k _ hk).1.steps
    have hro2 : ∀ {lo : Nat}, A.next ≤ lo → ∀ b, lo ≤ b → (withRo E0 s).ro b = none := fun h b hb => hnr b (by omega)
    refine CallT.mono (CallT.of_call (tU_all hro hTc2 (by omega))) ?_
    rintro rc F3 ⟨Pc, hPc, hAc, fF3⟩
    have nF3 := fF3.next
    obtain ⟨cb, cc, rfl⟩ := hPc.form
    have hpa3 := hpa2.fr0 fF3
    have hpd3 := hpd.fr0 fF3
    have hTx3 := hTx2.fr0 fF3
    have hTc3 := hTc2.fr0 fF3
    have hmF3 := hmF2.fr fF3 (by simp)
    simp only [w_w, oneW_next, s_0, s_1, s_2, s_3, s_4, g_0, w_0, w_wh, w_st, w_qu, w_tb, w_q2, w_t2, w_so, w_a, w_lw, d_0, flat, Option.isNone, aFieldAddr, aField, aBuiltin, cond_true, cond_false, cond_dec, if_true, if_false, List.length_cons, List.length_nil, forall_const, implies_true, List.append_nil, List.cons_append, List.nil_append, eq_self, Nat.reduceEqDiff, Nat.reduceAdd, Nat.reduceMul, Nat.reduceSub, Nat.reduceLT, Nat.reduceLeDiff, Nat.reduceBEq, reduceIte, reduceCtorEq, u0, u2, u7]
    refine CallT.mono (CallT.of_call (sameAll_spec hro (hPc.sl (hro2 (by omega))) (hpa3.sl (hro2 (by omega))) hPc.steps hpa3.st (all_uniq hAc hAa) (hsteps (all_some hAc)) (by have := all_len hAc hTc2.upto; omega) (hro2 (by omega)) (hro2 (by omega)))) ?_
    rintro _ F4 ⟨rfl, fF4⟩
    have nF4 := fF4.next
    have hpa4 := hpa3.fr0 fF4
    have hpd4 := hpd3.fr0 fF4
    have hTx4 := hTx3.fr0 fF4
    have hTc4 := hTc3.fr0 fF4
    have hmF4 := hmF3.fr fF4 (by simp)
    simp only [w_w, oneW_next, s_0, s_1, s_2, s_3, s_4, g_0, w_0, w_wh, w_st, w_qu, w_tb, w_q2, w_t2, w_so, w_a, w_lw, d_0, flat, Option.isNone, aFieldAddr, aField, aBuiltin, cond_true, cond_false, cond_dec, if_true, if_false, List.length_cons, List.length_nil, forall_const, implies_true, List.append_nil, List.cons_append, List.nil_append, eq_self, Nat.reduceEqDiff, Nat.reduceAdd, Nat.reduceMul, Nat.reduceSub, Nat.reduceLT, Nat.reduceLeDiff, Nat.reduceBEq, reduceIte, reduceCtorEq, u0, u2, u7]
    refine CallT.mono (CallT.of_call (tU_due hro hTc4 (by omega))) ?_
    rintro re F5 ⟨Le, Pe, hLe, hPe, hme, Uc1, hTc5, hgc, fF5, hpe⟩
    have nF5 := fF5.next
    obtain ⟨eb, ec, rfl⟩ := hPe.form
    have hUc1 : ∀ b, Uc1 b → (A1.next ≤ b ∧ b < C1.next) ∨ F2.next ≤ b := fun b hb => by
      rcases hgc b hb with h3 | h3
      · exact .inl ⟨hUc b h3, hltc b h3⟩
      · exact .inr (by omega)
    have hoff : ∀ {V : Nat → Prop}, (∀ b, V b → (A1.next ≤ b ∧ b < C1.next) ∨ F2.next ≤ b) → (∀ b, Ux b → ¬ V b) := fun hV b h3 h4 => by
      rcases hUx b h3 with h5 | h5 <;> rcases hV b h4 with h6 | h6 <;> omega
    have hoffa : ∀ {V : Nat → Prop}, (∀ b, V b → (A1.next ≤ b ∧ b < C1.next) ∨ F2.next ≤ b) → ∀ b, V b → ¬ (C1.next ≤ b ∧ b < F1.next) := fun hV b h4 h3 => by
      rcases hV b h4 with h6 | h6 <;> omega
    have hoffd : ∀ {V : Nat → Prop}, (∀ b, V b → (A1.next ≤ b ∧ b < C1.next) ∨ F2.next ≤ b) → ∀ b, V b → ¬ (F1.next ≤ b ∧ b < F2.next ∧ ¬ Ux b) := fun hV b h4 h3 => by
      rcases hV b h4 with h6 | h6 <;> omega
    have hlow : ∀ {V : Nat → Prop}, (∀ b, V b → (A1.next ≤ b ∧ b < C1.next) ∨ F2.next ≤ b) → ∀ b, V b → A.next ≤ b := fun hV b h4 => by
      rcases hV b h4 with h6 | h6 <;> omega
    have hUcc : ∀ b, Uc b → (A1.next ≤ b ∧ b < C1.next) ∨ F2.next ≤ b := fun b hb => .inl ⟨hUc b hb, hltc b hb⟩
    have hTx5 := hTx4.fr fF5 (hoff hUcc)
    have hpa5 := hpa4.fr fF5 (hoffa hUcc)
    have hpd5 := hpd4.fr fF5 (hoffd hUcc)
    have hmF5 := hmfr fF5 (hlow hUcc) hmF4
    simp only [w_w, oneW_next, s_0, s_1, s_2, s_3, s_4, g_0, w_0, w_wh, w_st, w_qu, w_tb, w_q2, w_t2, w_so, w_a, w_lw, d_0, flat, Option.isNone, aFieldAddr, aField, aBuiltin, cond_true, cond_false, cond_dec, if_true, if_false, List.length_cons, List.length_nil, forall_const, implies_true, List.append_nil, List.cons_append, List.nil_append, eq_self, Nat.reduceEqDiff, Nat.reduceAdd, Nat.reduceMul, Nat.reduceSub, Nat.reduceLT, Nat.reduceLeDiff, Nat.reduceBEq, reduceIte, reduceCtorEq, u0, u2, u7]
    refine CallT.mono (CallT.of_call (sameAll_spec hro (hPe.sl (hro2 (by omega))) (hpd5.sl (hro2 (by omega))) hPe.steps hpd5.st (due_list hLe hLd hme hmd) (hsteps (due_some hLe hme)) (by have := (due_len hLe hme hTc4.upto).2; omega) (hro2 (by omega)) (hro2 (by omega)))) ?_
    rintro _ F6 ⟨rfl, fF6⟩
    have nF6 := fF6.next
    have hpa6 := hpa5.fr0 fF6
    have hpd6 := hpd5.fr0 fF6
    have hTx6 := hTx5.fr0 fF6
    have hTc6 := hTc5.fr0 fF6
    have hmF6 := hmF5.fr fF6 (by simp)
    have mlen6 := timLen hmF6.sl
    simp only [w_w, oneW_next, s_0, s_1, s_2, s_3, s_4, g_0, w_0, w_wh, w_st, w_qu, w_tb, w_q2, w_t2, w_so, w_a, w_lw, d_0, flat, Option.isNone, aFieldAddr, aField, aBuiltin, cond_true, cond_false, cond_dec, if_true, if_false, List.length_cons, List.length_nil, forall_const, implies_true, List.append_nil, List.cons_append, List.nil_append, eq_self, Nat.reduceEqDiff, Nat.reduceAdd, Nat.reduceMul, Nat.reduceSub, Nat.reduceLT, Nat.reduceLeDiff, Nat.reduceBEq, reduceIte, reduceCtorEq, u0, u2, u7]
    refine CodeW.mono (Q := fun o => ∃ T' A', o = .fr ⟨.exit 2, T', A'⟩ ∧ tget T' 0 = .int .u64 (now : Int) ∧ tget T' 7 = .pointer (some ⟨x, 0, none⟩) ∧ tget T' 10 = .pointer (some ⟨y, 0, none⟩) ∧ tget T' 11 = .slice ab Pa.length ac ∧ tget T' 12 = .slice db Pd.length dc ∧ tget T' 13 = .bool true ∧ tget T' 14 = .bool true ∧ ∃ D' U', TabU s A' y now 80 D' U' ∧ (∀ b, U' b → (A1.next ≤ b ∧ b < C1.next) ∨ F2.next ≤ b) ∧ TabU s A' x now 40 D Ux ∧ TimsP s A' C1.next (fun b => C1.next ≤ b ∧ b < F1.next) (.slice ab Pa.length ac) Pa ∧ TimsP s A' F1.next (fun b => F1.next ≤ b ∧ b < F2.next ∧ ¬ Ux b) (.slice db Pd.length dc) Pd ∧ F2.next ≤ A'.next) ?_ ?_
    · refine CodeW.loopR (k := P2.length) (fun n T A' => ∃ (i : Nat) (D' : TD) (U' : Nat → Prop), n = P2.length - i ∧ i ≤ P2.length ∧ tget T 0 = .int .u64 (now : Int) ∧ tget T 2 = .slice mb P2.length mc ∧ tget T 7 = .pointer (some ⟨x, 0, none⟩) ∧ tget T 10 = .pointer (some ⟨y, 0, none⟩) ∧ tget T 11 = .slice ab Pa.length ac ∧ tget T 12 = .slice db Pd.length dc ∧ tget T 13 = .bool true ∧ tget T 14 = .bool true ∧ tget T 15 = .int .i64 (i : Int) ∧ TabU s A' y now (40 + i) D' U' ∧ (∀ b, U' b → (A1.next ≤ b ∧ b < C1.next) ∨ F2.next ≤ b) ∧ TabU s A' x now 40 D Ux ∧ TimsP s A' C1.next (fun b => C1.next ≤ b ∧ b < F1.next) (.slice ab Pa.length ac) Pa ∧ TimsP s A' F1.next (fun b => F1.next ≤ b ∧ b < F2.next ∧ ¬ Ux b) (.slice db Pd.length dc) Pd ∧ F2.next ≤ A'.next ∧ Handed s A' S0 (.slice mb P2.length mc) P2) ?_ ⟨0, D, Uc1, rfl, Nat.zero_le _, ?_, ?_, ?_, ?_, ?_, ?_, ?_, ?_, ?_, hTc6, hUc1, hTx6, hpa6, hpd6, by omega, hmF6⟩
      · rintro k T A2 ⟨i, D', U', rfl, hi, w0, w2, w7, w10, w11, w12, w13, w14, w15, hTy, hU', hTx7, hpa7, hpd7, n7, hm7⟩
        refine codeW_ok (withRo_ok E0_ok) hro.ro ?_
        have mlen7 := timLen hm7.sl
        have wi : IntKind.i64.wrap ((i : Int) + 1) = ((i + 1 : Nat) : Int) := by rw [IntKind.wrap_i64]; omega
        by_cases hlt : i < P2.length
        · have d3 : ((i : Int) < (P2.length : Int)) = True := eq_true (by omega)
          obtain ⟨p, hp⟩ : ∃ p, P2[i]? = some p := ⟨_, List.getElem?_eq_getElem hlt⟩
          obtain ⟨b1, o1, c1, hx1, hc1, hcut, _, _, _⟩ := timIx hm7.sl hp
          have hpm := hm7.st p (List.mem_of_getElem? hp)
          have hag : Value.agg (tcell p.1 p.2).toArray = tval p.1 p.2 := rfl
          simp only [w_w, oneW_next, s_0, s_1, s_2, s_3, s_4, g_0, w_0, w_wh, w_st, w_qu, w_tb, w_q2, w_t2, w_so, w_a, w_lw, d_0, flat, Option.isNone, aFieldAddr, aField, aBuiltin, cond_true, cond_false, cond_dec, if_true, if_false, List.length_cons, List.length_nil, forall_const, implies_true, List.append_nil, List.cons_append, List.nil_append, eq_self, Nat.reduceEqDiff, Nat.reduceAdd, Nat.reduceMul, Nat.reduceSub, Nat.reduceLT, Nat.reduceLeDiff, Nat.reduceBEq, reduceIte, reduceCtorEq, w0, w2, w7, w10, w11, w12, w13, w14, w15, mlen7, d3, decide_true, hx1, hc1, hcut, hag]
          refine CallT.mono (CallT.of_call (fits_spec (t := p.1) hro hpm.1)) ?_
          rintro _ G ⟨⟨bf, rfl, hbf⟩, fG⟩
          have hTyG := hTy.fr0 fG
          have hTxG := hTx7.fr0 fG
          have hpaG := hpa7.fr0 fG
          have hpdG := hpd7.fr0 fG
          have hmG := hm7.fr fG (by simp)
          have nG := fG.next
          cases bf with
          | false =>
            simp only [w_w, oneW_next, s_0, s_1, s_2, s_3, s_4, g_0, w_0, w_wh, w_st, w_qu, w_tb, w_q2, w_t2, w_so, w_a, w_lw, d_0, flat, Option.isNone, aFieldAddr, aField, aBuiltin, cond_true, cond_false, cond_dec, if_true, if_false, List.length_cons, List.length_nil, forall_const, implies_true, List.append_nil, List.cons_append, List.nil_append, eq_self, Nat.reduceEqDiff, Nat.reduceAdd, Nat.reduceMul, Nat.reduceSub, Nat.reduceLT, Nat.reduceLeDiff, Nat.reduceBEq, reduceIte, reduceCtorEq, w0, w2, w7, w10, w11, w12, w13, w14, w15, undef, wi]
            exact ⟨P2.length - (i + 1), by omega, i + 1, D', U', rfl, by omega, rfl, hTyG.le (by omega), hU', hTxG, hpaG, hpdG, by omega, hmG⟩
          | true =>
            have hfit := hbf rfl
            have nltU := hTyG.lt
            have nn : F2.next ≤ G.next := by omega
            have e01 : decide ((0 : Int) = 1) = false := rfl
            have e10 : decide ((1 : Int) = 0) = false := rfl
            by_cases hev : i % 2 = 0
            · have hrem : ∀ xo yo, aBin2 E0 .rem 3 xo yo (.int .i64 (i : Int)) (.int .i64 2) = some (.int .i64 0) := fun xo yo => by
                have := b_rem_nat (E := E0) (t := 3) (xo := xo) (yo := yo) (k := .i64) (a := i) (b := 2) (by decide)
                rw [hev] at this
                exact this
              obtain ⟨b2, o2, c2, hx2, hc2, hcut2, _, _, _⟩ := timIx hmG.sl hp
              have hpm2 := hmG.st p (List.mem_of_getElem? hp)
              simp only [w_w, oneW_next, s_0, s_1, s_2, s_3, s_4, g_0, w_0, w_wh, w_st, w_qu, w_tb, w_q2, w_t2, w_so, w_a, w_lw, d_0, flat, Option.isNone, aFieldAddr, aField, aBuiltin, cond_true, cond_false, cond_dec, if_true, if_false, List.length_cons, List.length_nil, forall_const, implies_true, List.append_nil, List.cons_append, List.nil_append, eq_self, Nat.reduceEqDiff, Nat.reduceAdd, Nat.reduceMul, Nat.reduceSub, Nat.reduceLT, Nat.reduceLeDiff, Nat.reduceBEq, reduceIte, reduceCtorEq, w0, w2, w7, w10, w11, w12, w13, w14, w15, undef, wi, hrem, e01, e10, hx2, hc2, hcut2, hag]
              refine CallT.mono (CallT.of_call (tU_set (t := p.1) hro ht hTyG (by omega) hpm2.1 ⟨by omega, hpm2.2.1⟩ hpm2.2.2 (fun b h1 _ h2 => by have := hS0 b h1; have := hlow hU' b h2; omega))) ?_
              rintro r G' ⟨D2, U2, hr, hTG, hgr, fG'⟩
              have nG' := fG'.next
              have hU2 : ∀ b, U2 b → (A1.next ≤ b ∧ b < C1.next) ∨ F2.next ≤ b := fun b hb => by
                rcases hgr b hb with h3 | h3
                · exact hU' b h3
                · exact .inr (by omega)
              rcases hr with ⟨_, rfl, _⟩ | ⟨_, rfl, _⟩
              · simp only [w_w, oneW_next, s_0, s_1, s_2, s_3, s_4, g_0, w_0, w_wh, w_st, w_qu, w_tb, w_q2, w_t2, w_so, w_a, w_lw, d_0, flat, Option.isNone, aFieldAddr, aField, aBuiltin, cond_true, cond_false, cond_dec, if_true, if_false, List.length_cons, List.length_nil, forall_const, implies_true, List.append_nil, List.cons_append, List.nil_append, eq_self, Nat.reduceEqDiff, Nat.reduceAdd, Nat.reduceMul, Nat.reduceSub, Nat.reduceLT, Nat.reduceLeDiff, Nat.reduceBEq, reduceIte, reduceCtorEq, w0, w2, w7, w10, w11, w12, w13, w14, w15, undef, wi, hrem, e01, e10]
                exact ⟨P2.length - (i + 1), by omega, i + 1, D2, U2, rfl, by omega, rfl, hTG.le (by omega), hU2, hTxG.fr fG' (hoff hU'), hpaG.fr fG' (hoffa hU'), hpdG.fr fG' (hoffd hU'), by omega, hmfr fG' (hlow hU') hmG⟩
              · simp only [w_w, oneW_next, s_0, s_1, s_2, s_3, s_4, g_0, w_0, w_wh, w_st, w_qu, w_tb, w_q2, w_t2, w_so, w_a, w_lw, d_0, flat, Option.isNone, aFieldAddr, aField, aBuiltin, cond_true, cond_false, cond_dec, if_true, if_false, List.length_cons, List.length_nil, forall_const, implies_true, List.append_nil, List.cons_append, List.nil_append, eq_self, Nat.reduceEqDiff, Nat.reduceAdd, Nat.reduceMul, Nat.reduceSub, Nat.reduceLT, Nat.reduceLeDiff, Nat.reduceBEq, reduceIte, reduceCtorEq, w0, w2, w7, w10, w11, w12, w13, w14, w15, undef, wi, hrem, e01, e10]
                exact ⟨P2.length - (i + 1), by omega, i + 1, D2, U2, rfl, by omega, rfl, hTG.le (by omega), hU2, hTxG.fr fG' (hoff hU'), hpaG.fr fG' (hoffa hU'), hpdG.fr fG' (hoffd hU'), by omega, hmfr fG' (hlow hU') hmG⟩
            · have hrem : ∀ xo yo, aBin2 E0 .rem 3 xo yo (.int .i64 (i : Int)) (.int .i64 2) = some (.int .i64 1) := fun xo yo => by
                have := b_rem_nat (E := E0) (t := 3) (xo := xo) (yo := yo) (k := .i64) (a := i) (b := 2) (by decide)
                rw [show i % 2 = 1 by omega] at this
                exact this
              obtain ⟨b2, o2, c2, hx2, hc2, hcut2, hnm2, _, _⟩ := timIx hmG.sl hp
              simp only [w_w, oneW_next, s_0, s_1, s_2, s_3, s_4, g_0, w_0, w_wh, w_st, w_qu, w_tb, w_q2, w_t2, w_so, w_a, w_lw, d_0, flat, Option.isNone, aFieldAddr, aField, aBuiltin, cond_true, cond_false, cond_dec, if_true, if_false, List.length_cons, List.length_nil, forall_const, implies_true, List.append_nil, List.cons_append, List.nil_append, eq_self, Nat.reduceEqDiff, Nat.reduceAdd, Nat.reduceMul, Nat.reduceSub, Nat.reduceLT, Nat.reduceLeDiff, Nat.reduceBEq, reduceIte, reduceCtorEq, w0, w2, w7, w10, w11, w12, w13, w14, w15, undef, wi, hrem, e01, e10, hx2, hc2, hcut2, hnm2, hag]
              refine CallT.mono (CallT.of_call (tU_drop hTyG)) ?_
              rintro _ G' ⟨rfl, U2, hTG, hgr, fG'⟩
              have nG' := fG'.next
              have hU2 : ∀ b, U2 b → (A1.next ≤ b ∧ b < C1.next) ∨ F2.next ≤ b := fun b hb => by
                rcases hgr b hb with h3 | h3
                · exact hU' b h3
                · exact .inr (by omega)
              simp only [w_w, oneW_next, s_0, s_1, s_2, s_3, s_4, g_0, w_0, w_wh, w_st, w_qu, w_tb, w_q2, w_t2, w_so, w_a, w_lw, d_0, flat, Option.isNone, aFieldAddr, aField, aBuiltin, cond_true, cond_false, cond_dec, if_true, if_false, List.length_cons, List.length_nil, forall_const, implies_true, List.append_nil, List.cons_append, List.nil_append, eq_self, Nat.reduceEqDiff, Nat.reduceAdd, Nat.reduceMul, Nat.reduceSub, Nat.reduceLT, Nat.reduceLeDiff, Nat.reduceBEq, reduceIte, reduceCtorEq, w0, w2, w7, w10, w11, w12, w13, w14, w15, undef, wi, hrem, e01, e10]
              exact ⟨P2.length - (i + 1), by omega, i + 1, _, U2, rfl, by omega, rfl, hTG.le (by omega), hU2, hTxG.fr fG' (hoff hU'), hpaG.fr fG' (hoffa hU'), hpdG.fr fG' (hoffd hU'), by omega, hmfr fG' (hlow hU') hmG⟩
        · have d3 : ((i : Int) < (P2.length : Int)) = False := eq_false (by omega)
          simp only [w_w, oneW_next, s_0, s_1, s_2, s_3, s_4, g_0, w_0, w_wh, w_st, w_qu, w_tb, w_q2, w_t2, w_so, w_a, w_lw, d_0, flat, Option.isNone, aFieldAddr, aField, aBuiltin, cond_true, cond_false, cond_dec, if_true, if_false, List.length_cons, List.length_nil, forall_const, implies_true, List.append_nil, List.cons_append, List.nil_append, eq_self, Nat.reduceEqDiff, Nat.reduceAdd, Nat.reduceMul, Nat.reduceSub, Nat.reduceLT, Nat.reduceLeDiff, Nat.reduceBEq, reduceIte, reduceCtorEq, w0, w2, w7, w10, w11, w12, w13, w14, w15, mlen7, d3, decide_false]
          refine ⟨_, _, rfl, ?_, ?_, ?_, ?_, ?_, ?_, ?_, D', U', hTy.le (by omega), hU', hTx7, hpa7, hpd7, n7⟩
          all_goals simp only [tget_put, Nat.reduceEqDiff, if_false, if_true, reduceIte, w0, w7, w10, w11, w12, w13, w14]
      all_goals first | rfl | (simp only [tget_put, Nat.reduceEqDiff, if_false, if_true, reduceIte, u0, u2, u7]; done) | (simp only [tget_put, Nat.reduceEqDiff, if_false, if_true, reduceIte]; rfl)
    · rintro o ⟨T2, A2, rfl, w0, w7, w10, w11, w12, w13, w14, D', U', hTy, hU', hTx7, hpa7, hpd7, n7⟩
      simp only [w_w, oneW_next, s_0, s_1, s_2, s_3, s_4, g_0, w_0, w_wh, w_st, w_qu, w_tb, w_q2, w_t2, w_so, w_a, w_lw, d_0, flat, Option.isNone, aFieldAddr, aField, aBuiltin, cond_true, cond_false, cond_dec, if_true, if_false, List.length_cons, List.length_nil, forall_const, implies_true, List.append_nil, List.cons_append, List.nil_append, eq_self, Nat.reduceEqDiff, Nat.reduceAdd, Nat.reduceMul, Nat.reduceSub, Nat.reduceLT, Nat.reduceLeDiff, Nat.reduceBEq, reduceIte, reduceCtorEq, w0, w7, w10, w11, w12, w13, w14]
      refine CallT.mono (CallT.of_call (tU_adv (nw := 18446744073709551615) hTy (by omega) (by omega))) ?_
      rintro ru B0 ⟨_, _, _, U3, hTy2, hgr2, fB0⟩
      have nB0 := fB0.next
      have hU3 : ∀ b, U3 b → (A1.next ≤ b ∧ b < C1.next) ∨ F2.next ≤ b := fun b hb => by
        rcases hgr2 b hb with h3 | h3
        · exact hU' b h3
        · exact .inr (by omega)
      have hTx8 := hTx7.fr fB0 (hoff hU')
      have hpa8 := hpa7.fr fB0 (hoffa hU')
      have hpd8 := hpd7.fr fB0 (hoffd hU')
      simp only [w_w, oneW_next, s_0, s_1, s_2, s_3, s_4, g_0, w_0, w_wh, w_st, w_qu, w_tb, w_q2, w_t2, w_so, w_a, w_lw, d_0, flat, Option.isNone, aFieldAddr, aField, aBuiltin, cond_true, cond_false, cond_dec, if_true, if_false, List.length_cons, List.length_nil, forall_const, implies_true, List.append_nil, List.cons_append, List.nil_append, eq_self, Nat.reduceEqDiff, Nat.reduceAdd, Nat.reduceMul, Nat.reduceSub, Nat.reduceLT, Nat.reduceLeDiff, Nat.reduceBEq, reduceIte, reduceCtorEq, w0, w7, w10, w11, w12, w13, w14]
      refine CallT.mono (CallT.of_call (tU_all hro hTx8 (by omega))) ?_
      rintro rg B1 ⟨Pg, hPg, hAg, fB1⟩
      have nB1 := fB1.next
      obtain ⟨gb, gc, rfl⟩ := hPg.form
      have hTx9 := hTx8.fr0 fB1
      have hTy3 := hTy2.fr0 fB1
      have hpa9 := hpa8.fr0 fB1
      have hpd9 := hpd8.fr0 fB1
      simp only [w_w, oneW_next, s_0, s_1, s_2, s_3, s_4, g_0, w_0, w_wh, w_st, w_qu, w_tb, w_q2, w_t2, w_so, w_a, w_lw, d_0, flat, Option.isNone, aFieldAddr, aField, aBuiltin, cond_true, cond_false, cond_dec, if_true, if_false, List.length_cons, List.length_nil, forall_const, implies_true, List.append_nil, List.cons_append, List.nil_append, eq_self, Nat.reduceEqDiff, Nat.reduceAdd, Nat.reduceMul, Nat.reduceSub, Nat.reduceLT, Nat.reduceLeDiff, Nat.reduceBEq, reduceIte, reduceCtorEq, w0, w7, w10, w11, w12, w13, w14]
      refine CallT.mono (CallT.of_call (sameAll_spec hro (hPg.sl (hro2 (by omega))) (hpa9.sl (hro2 (by omega))) hPg.steps hpa9.st (all_uniq hAg hAa) (hsteps (all_some hAg)) (by have := all_len hAg hTx9.upto; omega) (hro2 (by omega)) (hro2 (by omega)))) ?_
      rintro _ B2 ⟨rfl, fB2⟩
      have nB2 := fB2.next
      have hTx10 := hTx9.fr0 fB2
      have hTy4 := hTy3.fr0 fB2
      have hpd10 := hpd9.fr0 fB2
      simp only [w_w, oneW_next, s_0, s_1, s_2, s_3, s_4, g_0, w_0, w_wh, w_st, w_qu, w_tb, w_q2, w_t2, w_so, w_a, w_lw, d_0, flat, Option.isNone, aFieldAddr, aField, aBuiltin, cond_true, cond_false, cond_dec, if_true, if_false, List.length_cons, List.length_nil, forall_const, implies_true, List.append_nil, List.cons_append, List.nil_append, eq_self, Nat.reduceEqDiff, Nat.reduceAdd, Nat.reduceMul, Nat.reduceSub, Nat.reduceLT, Nat.reduceLeDiff, Nat.reduceBEq, reduceIte, reduceCtorEq, w0, w7, w10, w11, w12, w13, w14]
      refine CallT.mono (CallT.of_call (tU_due hro hTx10 (by omega))) ?_
      rintro rh B3 ⟨Lh, Ph, hLh, hPh, hmh, Ux2, hTx11, hgx2, fB3, hph⟩
      have nB3 := fB3.next
      obtain ⟨hb, hc, rfl⟩ := hPh.form
      have hltx := hTx10.lt
      have hltd : ∀ b, U3 b → b < B0.next := hTy2.lt
      have hpd11 := hpd10.fr fB3 (fun b h1 h2 => h2.2.2 h1)
      have hTy5 := hTy4.fr fB3 (fun b h1 h2 => hoff hU3 b h2 h1)
      simp only [w_w, oneW_next, s_0, s_1, s_2, s_3, s_4, g_0, w_0, w_wh, w_st, w_qu, w_tb, w_q2, w_t2, w_so, w_a, w_lw, d_0, flat, Option.isNone, aFieldAddr, aField, aBuiltin, cond_true, cond_false, cond_dec, if_true, if_false, List.length_cons, List.length_nil, forall_const, implies_true, List.append_nil, List.cons_append, List.nil_append, eq_self, Nat.reduceEqDiff, Nat.reduceAdd, Nat.reduceMul, Nat.reduceSub, Nat.reduceLT, Nat.reduceLeDiff, Nat.reduceBEq, reduceIte, reduceCtorEq, w0, w7, w10, w11, w12, w13, w14]
      refine CallT.mono (CallT.of_call (sameAll_spec hro (hPh.sl (hro2 (by omega))) (hpd11.sl (hro2 (by omega))) hPh.steps hpd11.st (due_list hLh hLd hmh hmd) (hsteps (due_some hLh hmh)) (by have := (due_len hLh hmh hTx10.upto).2; omega) (hro2 (by omega)) (hro2 (by omega)))) ?_
      rintro _ B4 ⟨rfl, fB4⟩
      have nB4 := fB4.next
      have hTx12 := hTx11.fr0 fB4
      have hTy6 := hTy5.fr0 fB4
      simp only [w_w, oneW_next, s_0, s_1, s_2, s_3, s_4, g_0, w_0, w_wh, w_st, w_qu, w_tb, w_q2, w_t2, w_so, w_a, w_lw, d_0, flat, Option.isNone, aFieldAddr, aField, aBuiltin, cond_true, cond_false, cond_dec, if_true, if_false, List.length_cons, List.length_nil, forall_const, implies_true, List.append_nil, List.cons_append, List.nil_append, eq_self, Nat.reduceEqDiff, Nat.reduceAdd, Nat.reduceMul, Nat.reduceSub, Nat.reduceLT, Nat.reduceLeDiff, Nat.reduceBEq, reduceIte, reduceCtorEq, w0, w7, w10, w11, w12, w13, w14]
      refine CallT.mono (CallT.of_call alive_spec) ?_
      rintro _ _ ⟨rfl, rfl⟩
      simp only [w_w, oneW_next, s_0, s_1, s_2, s_3, s_4, g_0, w_0, w_wh, w_st, w_qu, w_tb, w_q2, w_t2, w_so, w_a, w_lw, d_0, flat, Option.isNone, aFieldAddr, aField, aBuiltin, cond_true, cond_false, cond_dec, if_true, if_false, List.length_cons, List.length_nil, forall_const, implies_true, List.append_nil, List.cons_append, List.nil_append, eq_self, Nat.reduceEqDiff, Nat.reduceAdd, Nat.reduceMul, Nat.reduceSub, Nat.reduceLT, Nat.reduceLeDiff, Nat.reduceBEq, reduceIte, reduceCtorEq, w0, w7, w10, w11, w12, w13, w14]
      refine CallT.mono (CallT.of_call (tU_clock hTx12)) ?_
      rintro _ _ ⟨rfl, rfl⟩
      simp only [w_w, oneW_next, s_0, s_1, s_2, s_3, s_4, g_0, w_0, w_wh, w_st, w_qu, w_tb, w_q2, w_t2, w_so, w_a, w_lw, d_0, flat, Option.isNone, aFieldAddr, aField, aBuiltin, cond_true, cond_false, cond_dec, if_true, if_false, List.length_cons, List.length_nil, forall_const, implies_true, List.append_nil, List.cons_append, List.nil_append, eq_self, Nat.reduceEqDiff, Nat.reduceAdd, Nat.reduceMul, Nat.reduceSub, Nat.reduceLT, Nat.reduceLeDiff, Nat.reduceBEq, reduceIte, reduceCtorEq, w0, w7, w10, w11, w12, w13, w14]
      refine CallT.mono (CallT.of_call (tU_due hro hTy6 (by omega))) ?_
      rintro ri B5 ⟨Li, Pi, hLi, hPi, hmi, Uy2, hTy7, hgy2, fB5, hpi⟩
      obtain ⟨ib, ic, rfl⟩ := hPi.form
      have leni := timLenO hPi
      simp only [w_w, oneW_next, s_0, s_1, s_2, s_3, s_4, g_0, w_0, w_wh, w_st, w_qu, w_tb, w_q2, w_t2, w_so, w_a, w_lw, d_0, flat, Option.isNone, aFieldAddr, aField, aBuiltin, cond_true, cond_false, cond_dec, if_true, if_false, List.length_cons, List.length_nil, forall_const, implies_true, List.append_nil, List.cons_append, List.nil_append, eq_self, Nat.reduceEqDiff, Nat.reduceAdd, Nat.reduceMul, Nat.reduceSub, Nat.reduceLT, Nat.reduceLeDiff, Nat.reduceBEq, reduceIte, reduceCtorEq, w0, w7, w10, w11, w12, w13, w14, leni]
      refine CallT.mono (CallT.of_call (tU_all hro hTy7 (by omega))) ?_
      rintro rj B6 ⟨Pj, hPj, hAj, fB6⟩
      obtain ⟨jb, jc, rfl⟩ := hPj.form
      have lenj := timLenO hPj
      have hlen : Pi.length = Pj.length := by
        have h1 : Pi.length = Li.length := (due_len hLi hmi hTy7.upto).1
        have h2 := due_count hLi hAj (fun k t hk => (hTy7.ok k t hk).2)
        have h3 : (Pj.map (·.1)).filter (fun t => decide (t.at_ ≤ max now 18446744073709551615)) = Pj.map (·.1) := by
          refine List.filter_eq_self.2 fun t ht => ?_
          have := (hTy7.ok _ _ ((hAj.mem t).1 ht)).1
          unfold TimD.right at this
          exact decide_eq_true (by omega)
        rw [h3, List.length_map] at h2
        omega
      have dl : ((Pi.length : Int) = (Pj.length : Int)) = True := eq_true (by omega)
      simp only [w_w, oneW_next, s_0, s_1, s_2, s_3, s_4, g_0, w_0, w_wh, w_st, w_qu, w_tb, w_q2, w_t2, w_so, w_a, w_lw, d_0, flat, Option.isNone, aFieldAddr, aField, aBuiltin, cond_true, cond_false, cond_dec, if_true, if_false, List.length_cons, List.length_nil, forall_const, implies_true, List.append_nil, List.cons_append, List.nil_append, eq_self, Nat.reduceEqDiff, Nat.reduceAdd, Nat.reduceMul, Nat.reduceSub, Nat.reduceLT, Nat.reduceLeDiff, Nat.reduceBEq, reduceIte, reduceCtorEq, w0, w7, w10, w11, w12, w13, w14, leni, lenj, dl, decide_true]
end Go.Proofs.YtgcffmhpjphefaaGreatDoor
