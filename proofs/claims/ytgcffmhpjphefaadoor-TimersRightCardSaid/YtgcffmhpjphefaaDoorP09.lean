/- TimersRight: the walk. -/
import Derived.Test.YtgcffmhpjphefaaDoorP08
import Derived.Test.YtgcffmhpjphefaaDoorRows
import Derived.ProofKit
import Derived.Lib.SmallJoins
import Derived.Deep.Slices
set_option linter.unusedSimpArgs false
set_option linter.unusedVariables false
set_option linter.unusedSectionVars false
namespace Go.Proofs.YtgcffmhpjphefaaDoor
open Go Go.AE
set_option maxRecDepth 10000
set_option maxHeartbeats 8000000
variable {Z : Go.AE.Road} {s : Spans}

theorem eqnilT' {xo yo : Operand} {x : Option Addr} : aBin2 E0 .neq 37 xo yo (.pointer x) (.pointer none) = some (.bool (!x.isNone)) := b_ptr_nil' ti37 t37_desc
theorem fn4 : E0.fn 4 = some Tryd.f4 := by kernel_rfl
abbrev zTimD : TimD := ⟨ByteArray.empty, 0, 0, 0, []⟩
theorem neq4 {xo yo : Operand} {a b : Bool} : aBin2 E0 .neq 4 xo yo (.bool a) (.bool b) = some (.bool (a != b)) := by
  cases a <;> cases b <;> kernel_rfl
theorem eq4 {xo yo : Operand} {a b : Bool} : aBin2 E0 .eql 4 xo yo (.bool a) (.bool b) = some (.bool (a == b)) := by
  cases a <;> cases b <;> kernel_rfl
theorem stN {A : ASt} {b : Nat} {t : TimD} {dv : Value} {nm : ByteArray} (h : A.get b = some (.row (tcell t dv) 5 false)) : aStore E0 9 (.pointer (some ⟨b, 0, none⟩)) (.string nm) A = some (A.set b (.row (tcell { t with name := nm } dv) 5 false)) := by
  simp only [aStore, h, w_0]; rfl
theorem stA {A : ASt} {b : Nat} {t : TimD} {dv : Value} {x : Nat} (h : A.get b = some (.row (tcell t dv) 5 false)) : aStore E0 22 (.pointer (some ⟨b, 2, none⟩)) (.int .u64 (x : Int)) A = some (A.set b (.row (tcell { t with at_ := x } dv) 5 false)) := by
  simp only [aStore, h, w_0]; rfl
theorem stV {A : ASt} {b : Nat} {t : TimD} {dv : Value} {x : Int} (h : A.get b = some (.row (tcell t dv) 5 false)) : aStore E0 3 (.pointer (some ⟨b, 1, none⟩)) (.int .i64 x) A = some (A.set b (.row (tcell { t with ver := x } dv) 5 false)) := by
  simp only [aStore, h, w_0]; rfl
theorem setF {A : ASt} {b : Nat} {o : AObj} : Fr [b] A (A.set b o) ∧ (A.set b o).get b = some o ∧ (A.set b o).next = A.next := ⟨⟨by rw [ASt.next_set]; exact Nat.le_refl _, fun c _ hn => by rw [ASt.get_set, if_neg (by simpa using hn)]⟩, by rw [ASt.get_set, if_pos rfl], ASt.next_set ..⟩
theorem bs23' {y : StepD} : aBuildSlice E0 23 1 [(0, stepV y)] = some (.row (scell y) 4 false, fun id => .slice (some ⟨id, 0, none⟩) 1 1) := by
  simp only [aBuildSlice, w_0]; rfl
theorem right_walk (hro : RoadS Z E0 s) (htab : TabZ Z) {A : ASt} {S : Nat → Prop} {t : TimD} {dv : Value} {y : StepD} (h : Steps (withRo E0 s) A S dv t.steps) (hS0 : ∀ b, S b → b < A.next) (hys : ∀ y ∈ t.steps, -9223372036854775808 ≤ y.n ∧ y.n < 9223372036854775808) (hyn : -9223372036854775808 ≤ y.n ∧ y.n < 9223372036854775808) (ha : t.at_ < 18446744073709551616) :
    CallW Z Tryd.prog 4 [tval t dv, stepV y] A (fun v _ => v = .bool true) := by
  refine CallW.assume hro fun hnr => ?_
  refine CallW.of_code (withRo_ok E0_ok) hro.ro (f := 4) (fn := Tryd.f4) fn4 rfl (n := 126) rfl (rs := [.tmp 4]) rfl (by simp) (codeW_ok (withRo_ok E0_ok) hro.ro ?_)
  simp only [w_w, oneW_next, s_0, s_1, s_2, s_3, s_4, g_0, w_0, w_wh, w_st, w_qu, w_tb, w_a, Hands, handsV, resultsV, oneOrTuple, argsT, ev, evs, evPairs, evOpt, closed, flat, nth, aCall, aEnter, notYield, aNilCheck, partV, isAggD, aFieldAddr, aField, aExtract, Option.isNone, aBuiltin, aUn, cond_true, cond_false, cond_dec, if_true, if_false, List.length_cons, List.length_nil, forall_const, implies_true, List.append_nil, List.cons_append, List.nil_append, eq_self, Nat.reduceEqDiff, Nat.reduceAdd, Nat.reduceMul, Nat.reduceSub, Nat.reduceLT, Nat.reduceLeDiff, Nat.reduceBEq, reduceIte, reduceCtorEq, box25', boxS, ptrTo]
  generalize hCd : ASt.new (ASt.new A _) _ = C
  obtain ⟨c1, c2, hn, fC⟩ := two_new hCd
  clear hCd
  have hcut : cut (tcell t dv) 0 5 = some (tcell t dv) := rfl
  have hag : Value.agg (tcell t dv).toArray = tval t dv := rfl
  have hagS : Value.agg (scell y).toArray = stepV y := rfl
  have hp1 : A.next < C.next := by omega
  have hp2 : A.next + 1 < C.next := by omega
  simp only [w_w, oneW_next, s_0, s_1, s_2, s_3, s_4, g_0, w_0, w_wh, w_st, w_qu, w_tb, w_a, Hands, handsV, resultsV, oneOrTuple, argsT, ev, evs, evPairs, evOpt, closed, flat, nth, aCall, aEnter, notYield, aNilCheck, partV, isAggD, aFieldAddr, aField, aExtract, Option.isNone, aBuiltin, aUn, cond_true, cond_false, cond_dec, if_true, if_false, List.length_cons, List.length_nil, forall_const, implies_true, List.append_nil, List.cons_append, List.nil_append, eq_self, Nat.reduceEqDiff, Nat.reduceAdd, Nat.reduceMul, Nat.reduceSub, Nat.reduceLT, Nat.reduceLeDiff, Nat.reduceBEq, reduceIte, reduceCtorEq, c1, hcut, hag]
  refine CallT.mono (CallT.of_call (fits_spec hro (h.fr fC (by simp)))) ?_
  rintro _ D ⟨⟨ok, rfl, hok⟩, fD⟩
  simp only [w_w, oneW_next, s_0, s_1, s_2, s_3, s_4, g_0, w_0, w_wh, w_st, w_qu, w_tb, w_a, Hands, handsV, resultsV, oneOrTuple, argsT, ev, evs, evPairs, evOpt, closed, flat, nth, aCall, aEnter, notYield, aNilCheck, partV, isAggD, aFieldAddr, aField, aExtract, Option.isNone, aBuiltin, aUn, cond_true, cond_false, cond_dec, if_true, if_false, List.length_cons, List.length_nil, forall_const, implies_true, List.append_nil, List.cons_append, List.nil_append, eq_self, Nat.reduceEqDiff, Nat.reduceAdd, Nat.reduceMul, Nat.reduceSub, Nat.reduceLT, Nat.reduceLeDiff, Nat.reduceBEq, reduceIte, reduceCtorEq]
  refine CallT.mono (CallT.of_call (tnew_spec (now := 0) (by omega))) ?_
  rintro _ F ⟨x, m, q, e, w, W, all, ms, rfl, hT, fF, hlow⟩
  have nD := fD.next
  have nF := fF.next
  have d1 := (fD.get _ hp1 (by simp)).trans c1
  have d2 := (fD.get _ hp2 (by simp)).trans c2
  have d1 := (fF.get _ (by omega) (by simp)).trans d1
  have d2 := (fF.get _ (by omega) (by simp)).trans d2
  cases ok with
  | false => simp only [w_w, oneW_next, s_0, s_1, s_2, s_3, s_4, g_0, w_0, w_wh, w_st, w_qu, w_tb, w_a, Hands, handsV, resultsV, oneOrTuple, argsT, ev, evs, evPairs, evOpt, closed, flat, nth, aCall, aEnter, notYield, aNilCheck, partV, isAggD, aFieldAddr, aField, aExtract, Option.isNone, aBuiltin, aUn, cond_true, cond_false, cond_dec, if_true, if_false, List.length_cons, List.length_nil, forall_const, implies_true, List.append_nil, List.cons_append, List.nil_append, eq_self, Nat.reduceEqDiff, Nat.reduceAdd, Nat.reduceMul, Nat.reduceSub, Nat.reduceLT, Nat.reduceLeDiff, Nat.reduceBEq, reduceIte, reduceCtorEq, un_not, Bool.not_false, undef, eqnilT']
  | true =>
  obtain ⟨hl10, _, _⟩ := hok rfl
  by_cases k1 : ((y.key.size : Nat) : Int) > 100
  · have f1 := eq_true k1
    simp only [w_w, oneW_next, s_0, s_1, s_2, s_3, s_4, g_0, w_0, w_wh, w_st, w_qu, w_tb, w_a, Hands, handsV, resultsV, oneOrTuple, argsT, ev, evs, evPairs, evOpt, closed, flat, nth, aCall, aEnter, notYield, aNilCheck, partV, isAggD, aFieldAddr, aField, aExtract, Option.isNone, aBuiltin, aUn, cond_true, cond_false, cond_dec, if_true, if_false, List.length_cons, List.length_nil, forall_const, implies_true, List.append_nil, List.cons_append, List.nil_append, eq_self, Nat.reduceEqDiff, Nat.reduceAdd, Nat.reduceMul, Nat.reduceSub, Nat.reduceLT, Nat.reduceLeDiff, Nat.reduceBEq, reduceIte, reduceCtorEq, un_not, Bool.not_true, Bool.not_false, undef, eqnilT, eqnilT', d2, scell, lenS, f1]
  have f1 := eq_false k1
  by_cases k2 : ((y.val.size : Nat) : Int) > 100
  · have f2 := eq_true k2
    simp only [w_w, oneW_next, s_0, s_1, s_2, s_3, s_4, g_0, w_0, w_wh, w_st, w_qu, w_tb, w_a, Hands, handsV, resultsV, oneOrTuple, argsT, ev, evs, evPairs, evOpt, closed, flat, nth, aCall, aEnter, notYield, aNilCheck, partV, isAggD, aFieldAddr, aField, aExtract, Option.isNone, aBuiltin, aUn, cond_true, cond_false, cond_dec, if_true, if_false, List.length_cons, List.length_nil, forall_const, implies_true, List.append_nil, List.cons_append, List.nil_append, eq_self, Nat.reduceEqDiff, Nat.reduceAdd, Nat.reduceMul, Nat.reduceSub, Nat.reduceLT, Nat.reduceLeDiff, Nat.reduceBEq, reduceIte, reduceCtorEq, un_not, Bool.not_true, Bool.not_false, undef, eqnilT, eqnilT', d2, scell, lenS, f1, f2]
  have f2 := eq_false k2
  simp only [w_w, oneW_next, s_0, s_1, s_2, s_3, s_4, g_0, w_0, w_wh, w_st, w_qu, w_tb, w_a, Hands, handsV, resultsV, oneOrTuple, argsT, ev, evs, evPairs, evOpt, closed, flat, nth, aCall, aEnter, notYield, aNilCheck, partV, isAggD, aFieldAddr, aField, aExtract, Option.isNone, aBuiltin, aUn, cond_true, cond_false, cond_dec, if_true, if_false, List.length_cons, List.length_nil, forall_const, implies_true, List.append_nil, List.cons_append, List.nil_append, eq_self, Nat.reduceEqDiff, Nat.reduceAdd, Nat.reduceMul, Nat.reduceSub, Nat.reduceLT, Nat.reduceLeDiff, Nat.reduceBEq, reduceIte, reduceCtorEq, un_not, Bool.not_true, Bool.not_false, undef, eqnilT, eqnilT', d1, d2, scell, lenS, f1, f2, hcut, hag]
  have hsF := ((h.fr fC (by simp)).fr fD (by simp)).fr fF (by simp)
  have hin : StepsIn t.steps := ⟨by omega, hys⟩
  refine CallT.mono (CallT.of_call (tright_spec hro htab hsF hin)) ?_
  rintro _ G ⟨⟨r, rfl, hr⟩, fG⟩
  have nG := fG.next
  have g1 := (fG.get _ (by omega) (by simp)).trans d1
  have g2 := (fG.get _ (by omega) (by simp)).trans d2
  have hTG := hT.fr fG
  have hsG := hsF.fr fG (by simp)
  have hlw : ∀ b ∈ x :: m :: e :: w :: W :: all :: ms, D.next ≤ b := fun b hb => hlow b (by simp only [List.mem_cons, List.cons_append, List.nil_append] at hb ⊢; rcases hb with h | h | h | h | h | h | h <;> simp [h])
  simp only [w_w, oneW_next, s_0, s_1, s_2, s_3, s_4, g_0, w_0, w_wh, w_st, w_qu, w_tb, w_a, Hands, handsV, resultsV, oneOrTuple, argsT, ev, evs, evPairs, evOpt, closed, flat, nth, aCall, aEnter, notYield, aNilCheck, partV, isAggD, aFieldAddr, aField, aExtract, Option.isNone, aBuiltin, aUn, cond_true, cond_false, cond_dec, if_true, if_false, List.length_cons, List.length_nil, forall_const, implies_true, List.append_nil, List.cons_append, List.nil_append, eq_self, Nat.reduceEqDiff, Nat.reduceAdd, Nat.reduceMul, Nat.reduceSub, Nat.reduceLT, Nat.reduceLeDiff, Nat.reduceBEq, reduceIte, reduceCtorEq, g1, hcut, hag]
  refine CallT.mono (CallT.of_call (tset_spec hro htab hTG hsG hin ha (fun b h1 _ hm => by have := hS0 b h1; have := hlw b hm; omega) (hnr x (by have := hlw x (by simp); omega)))) ?_
  rintro er H ⟨hres, fH⟩
  have nH := fH.next
  have hpn : ∀ b, b < D.next → b ∉ m :: e :: w :: W :: all :: ms := fun b hb hm => absurd (hlw b (by simp only [List.mem_cons] at hm ⊢; exact .inr hm)) (by omega)
  have h1 := (fH.get _ (by omega) (hpn _ (by omega))).trans g1
  have h2 := (fH.get _ (by omega) (hpn _ (by omega))).trans g2
  have hsH := hsG.fr fH (fun b h1 _ hm => hpn b (by have := hS0 b h1; omega) hm)
  -- what the table holds
  obtain ⟨er', c, u, du, S', rfl, hxH, hmH, hltH, hlk, hdu, hru⟩ : ∃ (er' : Int) (c : AObj) (u : TimD) (du : Value) (S' : Nat → Prop), er = .int .i64 er' ∧ H.get x = some (.row [.map (some m), .pointer (some ⟨q, 0, none⟩), .pointer (some ⟨W, 0, none⟩)] 3 false) ∧ H.get m = some c ∧ (x < H.next ∧ m < H.next) ∧ (∀ B : ASt, B.get m = some c → aLookup E0 52 (.map (some m)) (.string t.name) true B = some (.tuple #[tval u du, .bool r])) ∧ Steps (withRo E0 s) H S' du u.steps ∧ ((r = true ∧ er' = 0 ∧ u = t) ∨ (r = false ∧ er' = 101 ∧ u.steps = [])) := by
    have hl := hTG.lt
    rcases hres with ⟨hrt, rfl, hx, dv', S', hm, hd⟩ | ⟨hrt, rfl, hT0⟩
    · have hrr : r = true := hr.2 hrt
      subst hrr
      exact ⟨0, _, t, dv', S', rfl, hx, hm, ⟨by omega, by omega⟩, fun B hB => lookM1 hB, hd, .inl ⟨rfl, rfl, rfl⟩⟩
    · have hrr : r = false := by
        cases r with
        | false => rfl
        | true => exact absurd (hr.1 rfl) hrt
      subst hrr
      exact ⟨101, _, zTimD, .slice none 0 0, fun _ => True, rfl, hT0.hx, hT0.hm, ⟨by omega, by omega⟩, fun B hB => lookM0 hB, .inl ⟨rfl, rfl⟩, .inr ⟨rfl, rfl, rfl⟩⟩
  have hul : u.steps.length ≤ 1000 := by
    rcases hru with ⟨_, _, rfl⟩ | ⟨_, _, hu⟩
    · omega
    · rw [hu]; simp
  clear hres
  simp only [w_w, oneW_next, s_0, s_1, s_2, s_3, s_4, g_0, w_0, w_wh, w_st, w_qu, w_tb, w_a, Hands, handsV, resultsV, oneOrTuple, argsT, ev, evs, evPairs, evOpt, closed, flat, nth, aCall, aEnter, notYield, aNilCheck, partV, isAggD, aFieldAddr, aField, aExtract, Option.isNone, aBuiltin, aUn, cond_true, cond_false, cond_dec, if_true, if_false, List.length_cons, List.length_nil, forall_const, implies_true, List.append_nil, List.cons_append, List.nil_append, eq_self, Nat.reduceEqDiff, Nat.reduceAdd, Nat.reduceMul, Nat.reduceSub, Nat.reduceLT, Nat.reduceLeDiff, Nat.reduceBEq, reduceIte, reduceCtorEq, h1, tcell]
  refine CallT.mono (CallT.of_call (tget_gen hro hxH hmH hltH hlk hdu hul)) ?_
  rintro _ I ⟨du', rfl, hdI, fI⟩
  have nI := fI.next
  have i1 := (fI.get _ (by omega) (by simp)).trans h1
  have i2 := (fI.get _ (by omega) (by simp)).trans h2
  have hsI := hsH.fr fI (by simp)
  simp only [w_w, oneW_next, s_0, s_1, s_2, s_3, s_4, g_0, w_0, w_wh, w_st, w_qu, w_tb, w_a, Hands, handsV, resultsV, oneOrTuple, argsT, ev, evs, evPairs, evOpt, closed, flat, nth, aCall, aEnter, notYield, aNilCheck, partV, isAggD, aFieldAddr, aField, aExtract, Option.isNone, aBuiltin, aUn, cond_true, cond_false, cond_dec, if_true, if_false, List.length_cons, List.length_nil, forall_const, implies_true, List.append_nil, List.cons_append, List.nil_append, eq_self, Nat.reduceEqDiff, Nat.reduceAdd, Nat.reduceMul, Nat.reduceSub, Nat.reduceLT, Nat.reduceLeDiff, Nat.reduceBEq, reduceIte, reduceCtorEq, al25, ptrTo]
  have hst := st25 (A := I.new (.row [.string ByteArray.empty, .int .i64 0, .int .u64 0, .int .u64 0, .slice none 0 0] 5 false)) (b := I.next) (a0 := .string u.name) (a1 := .int .i64 u.ver) (a2 := .int .u64 (u.at_ : Int)) (a3 := .int .u64 (u.every : Int)) (a4 := du') (by rw [ASt.get_new, if_pos rfl]) (tim_sg hdI.single)
  have hst : aStore E0 25 (.pointer (some ⟨I.next, 0, none⟩)) (tval u du') (I.new (.row [.string ByteArray.empty, .int .i64 0, .int .u64 0, .int .u64 0, .slice none 0 0] 5 false)) = some ((I.new (.row [.string ByteArray.empty, .int .i64 0, .int .u64 0, .int .u64 0, .slice none 0 0] 5 false)).set I.next (.row (tcell u du') 5 false)) := hst
  rw [hst]
  generalize hJd : (I.new (.row [.string ByteArray.empty, .int .i64 0, .int .u64 0, .int .u64 0, .slice none 0 0] 5 false)).set I.next _ = J
  have j9 : J.get I.next = some (.row (tcell u du') 5 false) := by rw [← hJd, ASt.get_set, if_pos rfl]
  have fJ : Fr [] I J := ⟨by rw [← hJd, ASt.next_set, ASt.next_new]; omega, fun b hb _ => by rw [← hJd, ASt.get_set, if_neg (by omega), ASt.get_new, if_neg (by omega)]⟩
  have nJ : J.next = I.next + 1 := by rw [← hJd, ASt.next_set, ASt.next_new]
  clear hJd hst
  have j1 := (fJ.get _ (by omega) (by simp)).trans i1
  have j2 := (fJ.get _ (by omega) (by simp)).trans i2
  have hsJ := hsI.fr fJ (by simp)
  have hdJ := hdI.fr fJ (by simp)
  have hcutU : cut (tcell u du') 0 5 = some (tcell u du') := rfl
  have hagU : Value.agg (tcell u du').toArray = tval u du' := rfl
  simp only [w_w, oneW_next, s_0, s_1, s_2, s_3, s_4, g_0, w_0, w_wh, w_st, w_qu, w_tb, w_a, Hands, handsV, resultsV, oneOrTuple, argsT, ev, evs, evPairs, evOpt, closed, flat, nth, aCall, aEnter, notYield, aNilCheck, partV, isAggD, aFieldAddr, aField, aExtract, Option.isNone, aBuiltin, aUn, cond_true, cond_false, cond_dec, if_true, if_false, List.length_cons, List.length_nil, forall_const, implies_true, List.append_nil, List.cons_append, List.nil_append, eq_self, Nat.reduceEqDiff, Nat.reduceAdd, Nat.reduceMul, Nat.reduceSub, Nat.reduceLT, Nat.reduceLeDiff, Nat.reduceBEq, reduceIte, reduceCtorEq, j1, j9, hcut, hag, hcutU, hagU]
  have hsame : CallW Z Tryd.prog 9 [tval u du', tval t dv] J (fun v A' => (∃ b, v = .bool b ∧ (r = true → b = true)) ∧ Fr [] J A') := by
    rcases hru with ⟨rfl, _, rfl⟩ | ⟨rfl, _, hu⟩
    · refine CallW.mono (same_tim hro hdJ hsJ (by omega)) ?_
      rintro v A' ⟨rfl, hf⟩
      exact ⟨⟨_, rfl, fun _ => rfl⟩, hf⟩
    · refine CallW.mono (same_zero hro hdJ hu hsJ (by omega)) ?_
      rintro v A' ⟨⟨b, rfl⟩, hf⟩
      exact ⟨⟨b, rfl, fun h => by cases h⟩, hf⟩
  refine CallT.mono (CallT.of_call hsame) ?_
  rintro _ K ⟨⟨sm, rfl, hsm⟩, fK⟩
  have nK := fK.next
  have k1 := (fK.get _ (by omega) (by simp)).trans j1
  have k2 := (fK.get _ (by omega) (by simp)).trans j2
  have hsK := hsJ.fr fK (by simp)
  clear hlk hmH hxH hltH hdu hsame hdJ hdI j1 j2 j9 i1 i2 h1 h2 g1 g2 d1 d2 c1 c2
  have hstA := fun (B : ASt) => st25 (A := B.new (.row [.string ByteArray.empty, .int .i64 0, .int .u64 0, .int .u64 0, .slice none 0 0] 5 false)) (b := B.next) (c0 := .string ByteArray.empty) (c1 := .int .i64 0) (c2 := .int .u64 0) (c3 := .int .u64 0) (c4 := .slice none 0 0) (tl := false) (a0 := .string t.name) (a1 := .int .i64 t.ver) (a2 := .int .u64 (t.at_ : Int)) (a3 := .int .u64 (t.every : Int)) (a4 := dv) (by rw [ASt.get_new, if_pos rfl]) (tim_sg h.single)
  have hstA : ∀ B : ASt, aStore E0 25 (.pointer (some ⟨B.next, 0, none⟩)) (tval t dv) (B.new (.row [.string ByteArray.empty, .int .i64 0, .int .u64 0, .int .u64 0, .slice none 0 0] 5 false)) = some ((B.new (.row [.string ByteArray.empty, .int .i64 0, .int .u64 0, .int .u64 0, .slice none 0 0] 5 false)).set B.next (.row (tcell t dv) 5 false)) := hstA
  have hal : ∀ B : ASt, Fr [] B ((B.new (.row [.string ByteArray.empty, .int .i64 0, .int .u64 0, .int .u64 0, .slice none 0 0] 5 false)).set B.next (.row (tcell t dv) 5 false)) ∧ ((B.new (.row [.string ByteArray.empty, .int .i64 0, .int .u64 0, .int .u64 0, .slice none 0 0] 5 false)).set B.next (.row (tcell t dv) 5 false)).get B.next = some (.row (tcell t dv) 5 false) ∧ ((B.new (.row [.string ByteArray.empty, .int .i64 0, .int .u64 0, .int .u64 0, .slice none 0 0] 5 false)).set B.next (.row (tcell t dv) 5 false)).next = B.next + 1 := fun B =>
    ⟨⟨by rw [ASt.next_set, ASt.next_new]; omega, fun b hb _ => by rw [ASt.get_set, if_neg (by omega), ASt.get_new, if_neg (by omega)]⟩, by rw [ASt.get_set, if_pos rfl], by rw [ASt.next_set, ASt.next_new]⟩
  have fK' : A.next + 1 < K.next := by omega
  generalize A.next = p at k1 k2 fK' hS0 hnr
  clear fC fD fF fG fH fI fJ fK hTG hT hlow hlw hpn hsJ hsI hsH hsG hsF
  have n0 : nth (tcell t dv) 0 = some (.string t.name) := rfl
  obtain ⟨nm, hadd, hnm⟩ := addS (a := t.name) (b := { data := #[48, 49, 50, 51, 52, 53, 54, 55, 56, 57, 97, 98, 99, 100, 101, 102] }) (by have : ({ data := #[48, 49, 50, 51, 52, 53, 54, 55, 56, 57, 97, 98, 99, 100, 101, 102] } : ByteArray).size = 16 := rfl; have := (hok rfl).2.1; omega)
  have hnm16 : nm.size = t.name.size + 16 := hnm
  have hru' : (r = true ∧ er' = 0 ∧ sm = true) ∨ (r = false ∧ er' = 101) := by
    rcases hru with ⟨h1, h2, _⟩ | ⟨h1, h2, _⟩
    · exact .inl ⟨h1, h2, hsm h1⟩
    · exact .inr ⟨h1, h2⟩
  clear hru hsm hul hcutU hagU
  rcases hru' with ⟨rfl, rfl, rfl⟩ | ⟨rfl, rfl⟩
  all_goals
    simp only [w_w, oneW_next, s_0, s_1, s_2, s_3, s_4, g_0, w_0, w_wh, w_st, w_qu, w_tb, w_a, Hands, handsV, resultsV, oneOrTuple, argsT, ev, evs, evPairs, evOpt, closed, flat, nth, aCall, aEnter, notYield, aNilCheck, partV, isAggD, aFieldAddr, aField, aExtract, Option.isNone, aBuiltin, aUn, cond_true, cond_false, cond_dec, if_true, if_false, List.length_cons, List.length_nil, forall_const, implies_true, List.append_nil, List.cons_append, List.nil_append, eq_self, Nat.reduceEqDiff, Nat.reduceAdd, Nat.reduceMul, Nat.reduceSub, Nat.reduceLT, Nat.reduceLeDiff, Nat.reduceBEq, reduceIte, reduceCtorEq, un_not, Bool.not_true, Bool.not_false, undef, neq4, bne_self_eq_false, Int.reduceEq, Int.reduceNe, ne_eq, not_true_eq_false, not_false_eq_true, decide_true, decide_false, al25, ptrTo, k1, hcut, hag]
    rw [hstA K]
    obtain ⟨fa, ga, na⟩ := hal K
    generalize (K.new (.row [.string ByteArray.empty, .int .i64 0, .int .u64 0, .int .u64 0, .slice none 0 0] 5 false)).set K.next (.row (tcell t dv) 5 false) = X1 at fa ga na ⊢
    have p1 := (fa.get p (by omega) (by simp)).trans k1
    have q1 := (fa.get (p + 1) (by omega) (by simp)).trans k2
    simp only [w_w, oneW_next, s_0, s_1, s_2, s_3, s_4, g_0, w_0, w_wh, w_st, w_qu, w_tb, w_a, Hands, handsV, resultsV, oneOrTuple, argsT, ev, evs, evPairs, evOpt, closed, flat, nth, aCall, aEnter, notYield, aNilCheck, partV, isAggD, aFieldAddr, aField, aExtract, Option.isNone, aBuiltin, aUn, cond_true, cond_false, cond_dec, if_true, if_false, List.length_cons, List.length_nil, forall_const, implies_true, List.append_nil, List.cons_append, List.nil_append, eq_self, Nat.reduceEqDiff, Nat.reduceAdd, Nat.reduceMul, Nat.reduceSub, Nat.reduceLT, Nat.reduceLeDiff, Nat.reduceBEq, reduceIte, reduceCtorEq, p1, n0, hadd]
    rw [stN ga]
    obtain ⟨f2, a2, n2⟩ := setF (A := X1) (b := K.next) (o := .row (tcell { t with name := nm } dv) 5 false)
    generalize X1.set K.next (.row (tcell { t with name := nm } dv) 5 false) = X2 at f2 a2 n2 ⊢
    have p2 := (f2.get p (by omega) (by simp only [List.mem_singleton]; omega)).trans p1
    have q2 := (f2.get (p + 1) (by omega) (by simp only [List.mem_singleton]; omega)).trans q1
    simp only [w_w, oneW_next, s_0, s_1, s_2, s_3, s_4, g_0, w_0, w_wh, w_st, w_qu, w_tb, w_a, Hands, handsV, resultsV, oneOrTuple, argsT, ev, evs, evPairs, evOpt, closed, flat, nth, aCall, aEnter, notYield, aNilCheck, partV, isAggD, aFieldAddr, aField, aExtract, Option.isNone, aBuiltin, aUn, cond_true, cond_false, cond_dec, if_true, if_false, List.length_cons, List.length_nil, forall_const, implies_true, List.append_nil, List.cons_append, List.nil_append, eq_self, Nat.reduceEqDiff, Nat.reduceAdd, Nat.reduceMul, Nat.reduceSub, Nat.reduceLT, Nat.reduceLeDiff, Nat.reduceBEq, reduceIte, reduceCtorEq, p2, hcut, hag, al25, ptrTo]
    rw [hstA X2]
    obtain ⟨f3, b3, n3⟩ := hal X2
    generalize (X2.new (.row [.string ByteArray.empty, .int .i64 0, .int .u64 0, .int .u64 0, .slice none 0 0] 5 false)).set X2.next (.row (tcell t dv) 5 false) = X3 at f3 b3 n3 ⊢
    have p3 := (f3.get p (by omega) (by simp)).trans p2
    have q3 := (f3.get (p + 1) (by omega) (by simp)).trans q2
    have a3 := (f3.get K.next (by omega) (by simp)).trans a2
    have hbig : (Value.int .u64 4611686018427387905) = .int .u64 ((4611686018427387905 : Nat) : Int) := rfl
    simp only [w_w, oneW_next, s_0, s_1, s_2, s_3, s_4, g_0, w_0, w_wh, w_st, w_qu, w_tb, w_a, Hands, handsV, resultsV, oneOrTuple, argsT, ev, evs, evPairs, evOpt, closed, flat, nth, aCall, aEnter, notYield, aNilCheck, partV, isAggD, aFieldAddr, aField, aExtract, Option.isNone, aBuiltin, aUn, cond_true, cond_false, cond_dec, if_true, if_false, List.length_cons, List.length_nil, forall_const, implies_true, List.append_nil, List.cons_append, List.nil_append, eq_self, Nat.reduceEqDiff, Nat.reduceAdd, Nat.reduceMul, Nat.reduceSub, Nat.reduceLT, Nat.reduceLeDiff, Nat.reduceBEq, reduceIte, reduceCtorEq]
    rw [hbig, stA b3]
    obtain ⟨f4, b4, n4⟩ := setF (A := X3) (b := X2.next) (o := .row (tcell { t with at_ := 4611686018427387905 } dv) 5 false)
    generalize X3.set X2.next (.row (tcell { t with at_ := 4611686018427387905 } dv) 5 false) = X4 at f4 b4 n4 ⊢
    have p4 := (f4.get p (by omega) (by simp only [List.mem_singleton]; omega)).trans p3
    have q4 := (f4.get (p + 1) (by omega) (by simp only [List.mem_singleton]; omega)).trans q3
    have a4 := (f4.get K.next (by omega) (by simp only [List.mem_singleton]; omega)).trans a3
    simp only [w_w, oneW_next, s_0, s_1, s_2, s_3, s_4, g_0, w_0, w_wh, w_st, w_qu, w_tb, w_a, Hands, handsV, resultsV, oneOrTuple, argsT, ev, evs, evPairs, evOpt, closed, flat, nth, aCall, aEnter, notYield, aNilCheck, partV, isAggD, aFieldAddr, aField, aExtract, Option.isNone, aBuiltin, aUn, cond_true, cond_false, cond_dec, if_true, if_false, List.length_cons, List.length_nil, forall_const, implies_true, List.append_nil, List.cons_append, List.nil_append, eq_self, Nat.reduceEqDiff, Nat.reduceAdd, Nat.reduceMul, Nat.reduceSub, Nat.reduceLT, Nat.reduceLeDiff, Nat.reduceBEq, reduceIte, reduceCtorEq, p4, hcut, hag, al25, ptrTo]
    rw [hstA X4]
    obtain ⟨f5, c5, n5⟩ := hal X4
    generalize (X4.new (.row [.string ByteArray.empty, .int .i64 0, .int .u64 0, .int .u64 0, .slice none 0 0] 5 false)).set X4.next (.row (tcell t dv) 5 false) = X5 at f5 c5 n5 ⊢
    have p5 := (f5.get p (by omega) (by simp)).trans p4
    have q5 := (f5.get (p + 1) (by omega) (by simp)).trans q4
    have a5 := (f5.get K.next (by omega) (by simp)).trans a4
    have b5 := (f5.get X2.next (by omega) (by simp)).trans b4
    simp only [w_w, oneW_next, s_0, s_1, s_2, s_3, s_4, g_0, w_0, w_wh, w_st, w_qu, w_tb, w_a, Hands, handsV, resultsV, oneOrTuple, argsT, ev, evs, evPairs, evOpt, closed, flat, nth, aCall, aEnter, notYield, aNilCheck, partV, isAggD, aFieldAddr, aField, aExtract, Option.isNone, aBuiltin, aUn, cond_true, cond_false, cond_dec, if_true, if_false, List.length_cons, List.length_nil, forall_const, implies_true, List.append_nil, List.cons_append, List.nil_append, eq_self, Nat.reduceEqDiff, Nat.reduceAdd, Nat.reduceMul, Nat.reduceSub, Nat.reduceLT, Nat.reduceLeDiff, Nat.reduceBEq, reduceIte, reduceCtorEq]
    rw [stV c5]
    obtain ⟨f6, c6, n6⟩ := setF (A := X5) (b := X4.next) (o := .row (tcell { t with ver := 0 } dv) 5 false)
    generalize X5.set X4.next (.row (tcell { t with ver := 0 } dv) 5 false) = X6 at f6 c6 n6 ⊢
    have p6 := (f6.get p (by omega) (by simp only [List.mem_singleton]; omega)).trans p5
    have q6 := (f6.get (p + 1) (by omega) (by simp only [List.mem_singleton]; omega)).trans q5
    have a6 := (f6.get K.next (by omega) (by simp only [List.mem_singleton]; omega)).trans a5
    have b6 := (f6.get X2.next (by omega) (by simp only [List.mem_singleton]; omega)).trans b5
    simp only [w_w, oneW_next, s_0, s_1, s_2, s_3, s_4, g_0, w_0, w_wh, w_st, w_qu, w_tb, w_a, Hands, handsV, resultsV, oneOrTuple, argsT, ev, evs, evPairs, evOpt, closed, flat, nth, aCall, aEnter, notYield, aNilCheck, partV, isAggD, aFieldAddr, aField, aExtract, Option.isNone, aBuiltin, aUn, cond_true, cond_false, cond_dec, if_true, if_false, List.length_cons, List.length_nil, forall_const, implies_true, List.append_nil, List.cons_append, List.nil_append, eq_self, Nat.reduceEqDiff, Nat.reduceAdd, Nat.reduceMul, Nat.reduceSub, Nat.reduceLT, Nat.reduceLeDiff, Nat.reduceBEq, reduceIte, reduceCtorEq, p6, hcut, hag, al25, ptrTo]
    rw [hstA X6]
    obtain ⟨f7, d7, n7⟩ := hal X6
    generalize (X6.new (.row [.string ByteArray.empty, .int .i64 0, .int .u64 0, .int .u64 0, .slice none 0 0] 5 false)).set X6.next (.row (tcell t dv) 5 false) = X7 at f7 d7 n7 ⊢
    have p7 := (f7.get p (by omega) (by simp)).trans p6
    have q7 := (f7.get (p + 1) (by omega) (by simp)).trans q6
    have a7 := (f7.get K.next (by omega) (by simp)).trans a6
    have b7 := (f7.get X2.next (by omega) (by simp)).trans b6
    have c7 := (f7.get X4.next (by omega) (by simp)).trans c6
    simp only [w_w, oneW_next, s_0, s_1, s_2, s_3, s_4, g_0, w_0, w_wh, w_st, w_qu, w_tb, w_a, Hands, handsV, resultsV, oneOrTuple, argsT, ev, evs, evPairs, evOpt, closed, flat, nth, aCall, aEnter, notYield, aNilCheck, partV, isAggD, aFieldAddr, aField, aExtract, Option.isNone, aBuiltin, aUn, cond_true, cond_false, cond_dec, if_true, if_false, List.length_cons, List.length_nil, forall_const, implies_true, List.append_nil, List.cons_append, List.nil_append, eq_self, Nat.reduceEqDiff, Nat.reduceAdd, Nat.reduceMul, Nat.reduceSub, Nat.reduceLT, Nat.reduceLeDiff, Nat.reduceBEq, reduceIte, reduceCtorEq, q7, cutS, hagS, bs23']
    have f8 : Fr [] X7 (X7.new (.row (scell y) 4 false)) := .new
    have e8 : (X7.new (.row (scell y) 4 false)).get X7.next = some (.row (scell y) 4 false) := by rw [ASt.get_new, if_pos rfl]
    have n8 : (X7.new (.row (scell y) 4 false)).next = X7.next + 1 := ASt.next_new ..
    generalize X7.new (.row (scell y) 4 false) = X8 at f8 e8 n8 ⊢
    have d8 := (f8.get X6.next (by omega) (by simp)).trans d7
    rw [st23 d8 rfl rfl]
    obtain ⟨f9, d9, n9⟩ := setF (A := X8) (b := X6.next) (o := .row (tcell { t with steps := [y] } (.slice (some ⟨X7.next, 0, none⟩) 1 1)) 5 false)
    have hset : X8.set X6.next (.row [.string t.name, .int .i64 t.ver, .int .u64 (t.at_ : Int), .int .u64 (t.every : Int), .slice (some ⟨X7.next, 0, none⟩) 1 1] 5 false) = X8.set X6.next (.row (tcell { t with steps := [y] } (.slice (some ⟨X7.next, 0, none⟩) 1 1)) 5 false) := rfl
    rw [hset]
    generalize X8.set X6.next (.row (tcell { t with steps := [y] } (.slice (some ⟨X7.next, 0, none⟩) 1 1)) 5 false) = X9 at f9 d9 n9 ⊢
    have fKX : Fr [] K X9 := ⟨by omega, fun b hb _ => by
      rw [f9.get b (by omega) (by simp only [List.mem_singleton]; omega), f8.get b (by omega) (by simp), f7.get b (by omega) (by simp), f6.get b (by omega) (by simp only [List.mem_singleton]; omega), f5.get b (by omega) (by simp), f4.get b (by omega) (by simp only [List.mem_singleton]; omega), f3.get b (by omega) (by simp), f2.get b (by omega) (by simp only [List.mem_singleton]; omega)]
      exact fa.get b hb (by simp)⟩
    have f79 : Fr [X6.next] X7 X9 := ⟨by omega, fun b hb hn => by rw [f9.get b (by omega) hn, f8.get b hb (by simp)]⟩
    have p9 := (f79.get p (by omega) (by simp only [List.mem_singleton]; omega)).trans p7
    have q9 := (f79.get (p + 1) (by omega) (by simp only [List.mem_singleton]; omega)).trans q7
    have a9 := (f79.get K.next (by omega) (by simp only [List.mem_singleton]; omega)).trans a7
    have b9 := (f79.get X2.next (by omega) (by simp only [List.mem_singleton]; omega)).trans b7
    have c9 := (f79.get X4.next (by omega) (by simp only [List.mem_singleton]; omega)).trans c7
    have e9 := (f9.get X7.next (by omega) (by simp only [List.mem_singleton]; omega)).trans e8
    have hcutA : ∀ (u : TimD) (v : Value), cut (tcell u v) 0 5 = some (tcell u v) := fun _ _ => rfl
    have hagA : ∀ (u : TimD) (v : Value), Value.agg (tcell u v).toArray = tval u v := fun _ _ => rfl
    have hs9 := hsK.fr fKX (by simp)
    simp only [w_w, oneW_next, s_0, s_1, s_2, s_3, s_4, g_0, w_0, w_wh, w_st, w_qu, w_tb, w_a, Hands, handsV, resultsV, oneOrTuple, argsT, ev, evs, evPairs, evOpt, closed, flat, nth, aCall, aEnter, notYield, aNilCheck, partV, isAggD, aFieldAddr, aField, aExtract, Option.isNone, aBuiltin, aUn, cond_true, cond_false, cond_dec, if_true, if_false, List.length_cons, List.length_nil, forall_const, implies_true, List.append_nil, List.cons_append, List.nil_append, eq_self, Nat.reduceEqDiff, Nat.reduceAdd, Nat.reduceMul, Nat.reduceSub, Nat.reduceLT, Nat.reduceLeDiff, Nat.reduceBEq, reduceIte, reduceCtorEq, a9, hcutA, hagA]
    refine CallT.mono (CallT.of_call (tright_spec (t := { t with name := nm }) hro htab hs9 hin)) ?_
    rintro _ Y1 ⟨⟨r1, rfl, hr1⟩, gY1⟩
    have nY1 := gY1.next
    have hsY1 := hs9.fr gY1 (by simp)
    have y2b := (gY1.get _ (by omega) (by simp)).trans b9
    have y2c := (gY1.get _ (by omega) (by simp)).trans c9
    have z2 := (gY1.get (p + 1) (by omega) (by simp)).trans q9
    cases r1 with
    | true =>
      have hz : t.name.size = 0 := by have := (hr1.1 rfl).2.2.1; have h2 : nm.size ≤ 16 := this; omega
      have fz : (((t.name.size : Nat) : Int) = 0) = True := eq_true (by omega)
      simp only [w_w, oneW_next, s_0, s_1, s_2, s_3, s_4, g_0, w_0, w_wh, w_st, w_qu, w_tb, w_a, Hands, handsV, resultsV, oneOrTuple, argsT, ev, evs, evPairs, evOpt, closed, flat, nth, aCall, aEnter, notYield, aNilCheck, partV, isAggD, aFieldAddr, aField, aExtract, Option.isNone, aBuiltin, aUn, cond_true, cond_false, cond_dec, if_true, if_false, List.length_cons, List.length_nil, forall_const, implies_true, List.append_nil, List.cons_append, List.nil_append, eq_self, Nat.reduceEqDiff, Nat.reduceAdd, Nat.reduceMul, Nat.reduceSub, Nat.reduceLT, Nat.reduceLeDiff, Nat.reduceBEq, reduceIte, reduceCtorEq, un_not, Bool.not_true, Bool.not_false, undef, z2, hagS, cutS]
      obtain ⟨Y, gY, eY⟩ : ∃ Y, Fr [] X9 Y ∧ Y = Y1 := ⟨Y1, gY1, rfl⟩
      subst eY
      refine CallT.mono (CallT.of_call rright_spec) ?_
      rintro _ V ⟨rfl, gV⟩
      have gXV := gY.trans gV
      have nV := gXV.next
      have v1 := (gXV.get p (by omega) (by simp)).trans p9
      have vd := (gXV.get X6.next (by omega) (by simp)).trans d9
      have ve := (gXV.get X7.next (by omega) (by simp)).trans e9
      simp only [w_w, oneW_next, s_0, s_1, s_2, s_3, s_4, g_0, w_0, w_wh, w_st, w_qu, w_tb, w_a, Hands, handsV, resultsV, oneOrTuple, argsT, ev, evs, evPairs, evOpt, closed, flat, nth, aCall, aEnter, notYield, aNilCheck, partV, isAggD, aFieldAddr, aField, aExtract, Option.isNone, aBuiltin, aUn, cond_true, cond_false, cond_dec, if_true, if_false, List.length_cons, List.length_nil, forall_const, implies_true, List.append_nil, List.cons_append, List.nil_append, eq_self, Nat.reduceEqDiff, Nat.reduceAdd, Nat.reduceMul, Nat.reduceSub, Nat.reduceLT, Nat.reduceLeDiff, Nat.reduceBEq, reduceIte, reduceCtorEq, un_not, Bool.not_true, Bool.not_false, undef]
      refine CallT.mono (CallT.of_call alive_spec) ?_
      rintro _ V' ⟨rfl, hV'⟩
      have hV' := hV'.symm
      subst hV'
      simp only [w_w, oneW_next, s_0, s_1, s_2, s_3, s_4, g_0, w_0, w_wh, w_st, w_qu, w_tb, w_a, Hands, handsV, resultsV, oneOrTuple, argsT, ev, evs, evPairs, evOpt, closed, flat, nth, aCall, aEnter, notYield, aNilCheck, partV, isAggD, aFieldAddr, aField, aExtract, Option.isNone, aBuiltin, aUn, cond_true, cond_false, cond_dec, if_true, if_false, List.length_cons, List.length_nil, forall_const, implies_true, List.append_nil, List.cons_append, List.nil_append, eq_self, Nat.reduceEqDiff, Nat.reduceAdd, Nat.reduceMul, Nat.reduceSub, Nat.reduceLT, Nat.reduceLeDiff, Nat.reduceBEq, reduceIte, reduceCtorEq, un_not, Bool.not_true, Bool.not_false, undef, v1, n0, lenS, fz, decide_true, vd, hcutA, hagA]
      all_goals
        have hSy : Steps (withRo E0 s) V (fun _ => True) (.slice (some ⟨X7.next, 0, none⟩) 1 1) [y] := .inr ⟨X7.next, 0, 1, scell y, rfl, .of_row ve (hnr _ (by omega)), trivial, by omega, by intro x hx; simp only [List.map_cons, List.map_nil, List.mem_singleton] at hx; subst hx; rfl, rfl⟩
        refine CallT.mono (CallT.of_call (tright_spec (t := { t with steps := [y] }) hro htab hSy ⟨by simp, by simpa using hyn⟩)) ?_
        rintro _ U ⟨⟨rd, rfl, hrd⟩, gU⟩
        have erd : rd = decide y.good := by
          have hrt := hr.1 rfl
          rw [Bool.eq_iff_iff, hrd, decide_eq_true_iff]
          constructor
          · intro x
            exact x.1.2 y (by simp)
          · intro x
            exact ⟨⟨by simp, by simpa using x⟩, hrt.2⟩
        subst erd
        simp only [w_w, oneW_next, s_0, s_1, s_2, s_3, s_4, g_0, w_0, w_wh, w_st, w_qu, w_tb, w_a, Hands, handsV, resultsV, oneOrTuple, argsT, ev, evs, evPairs, evOpt, closed, flat, nth, aCall, aEnter, notYield, aNilCheck, partV, isAggD, aFieldAddr, aField, aExtract, Option.isNone, aBuiltin, aUn, cond_true, cond_false, cond_dec, if_true, if_false, List.length_cons, List.length_nil, forall_const, implies_true, List.append_nil, List.cons_append, List.nil_append, eq_self, Nat.reduceEqDiff, Nat.reduceAdd, Nat.reduceMul, Nat.reduceSub, Nat.reduceLT, Nat.reduceLeDiff, Nat.reduceBEq, reduceIte, reduceCtorEq, un_not, Bool.not_true, Bool.not_false, undef, eq4, beq_self_eq_true]
    | false =>
      simp only [w_w, oneW_next, s_0, s_1, s_2, s_3, s_4, g_0, w_0, w_wh, w_st, w_qu, w_tb, w_a, Hands, handsV, resultsV, oneOrTuple, argsT, ev, evs, evPairs, evOpt, closed, flat, nth, aCall, aEnter, notYield, aNilCheck, partV, isAggD, aFieldAddr, aField, aExtract, Option.isNone, aBuiltin, aUn, cond_true, cond_false, cond_dec, if_true, if_false, List.length_cons, List.length_nil, forall_const, implies_true, List.append_nil, List.cons_append, List.nil_append, eq_self, Nat.reduceEqDiff, Nat.reduceAdd, Nat.reduceMul, Nat.reduceSub, Nat.reduceLT, Nat.reduceLeDiff, Nat.reduceBEq, reduceIte, reduceCtorEq, un_not, Bool.not_true, Bool.not_false, undef, y2b, hcutA, hagA]
      refine CallT.mono (CallT.of_call (tright_spec (t := { t with at_ := 4611686018427387905 }) hro htab (hsY1) hin)) ?_
      rintro _ Y2 ⟨⟨r2, rfl, hr2⟩, gY2⟩
      have e2 : r2 = false := by cases r2 with | false => rfl | true => exact absurd (hr2.1 rfl).2.2.2.2.2.1 (by simp)
      subst e2
      have y3c := (gY2.get _ (by omega) (by simp)).trans y2c
      have nY2 := gY2.next
      simp only [w_w, oneW_next, s_0, s_1, s_2, s_3, s_4, g_0, w_0, w_wh, w_st, w_qu, w_tb, w_a, Hands, handsV, resultsV, oneOrTuple, argsT, ev, evs, evPairs, evOpt, closed, flat, nth, aCall, aEnter, notYield, aNilCheck, partV, isAggD, aFieldAddr, aField, aExtract, Option.isNone, aBuiltin, aUn, cond_true, cond_false, cond_dec, if_true, if_false, List.length_cons, List.length_nil, forall_const, implies_true, List.append_nil, List.cons_append, List.nil_append, eq_self, Nat.reduceEqDiff, Nat.reduceAdd, Nat.reduceMul, Nat.reduceSub, Nat.reduceLT, Nat.reduceLeDiff, Nat.reduceBEq, reduceIte, reduceCtorEq, un_not, Bool.not_true, Bool.not_false, undef, y3c, hcutA, hagA]
      refine CallT.mono (CallT.of_call (tright_spec (t := { t with ver := 0 }) hro htab (hsY1.fr gY2 (by simp)) hin)) ?_
      rintro _ Y ⟨⟨r3, rfl, hr3⟩, gY3⟩
      have e3 : r3 = false := by cases r3 with | false => rfl | true => exact absurd (hr3.1 rfl).2.2.2.1 (by simp)
      subst e3
      have gY : Fr [] X9 Y := gY1.trans (gY2.trans gY3)
      have z2 := (gY.get (p + 1) (by omega) (by simp)).trans q9
      simp only [w_w, oneW_next, s_0, s_1, s_2, s_3, s_4, g_0, w_0, w_wh, w_st, w_qu, w_tb, w_a, Hands, handsV, resultsV, oneOrTuple, argsT, ev, evs, evPairs, evOpt, closed, flat, nth, aCall, aEnter, notYield, aNilCheck, partV, isAggD, aFieldAddr, aField, aExtract, Option.isNone, aBuiltin, aUn, cond_true, cond_false, cond_dec, if_true, if_false, List.length_cons, List.length_nil, forall_const, implies_true, List.append_nil, List.cons_append, List.nil_append, eq_self, Nat.reduceEqDiff, Nat.reduceAdd, Nat.reduceMul, Nat.reduceSub, Nat.reduceLT, Nat.reduceLeDiff, Nat.reduceBEq, reduceIte, reduceCtorEq, un_not, Bool.not_true, Bool.not_false, undef, z2, hagS, cutS]
      refine CallT.mono (CallT.of_call rright_spec) ?_
      rintro _ V ⟨rfl, gV⟩
      have gXV := gY.trans gV
      have nV := gXV.next
      have v1 := (gXV.get p (by omega) (by simp)).trans p9
      have vd := (gXV.get X6.next (by omega) (by simp)).trans d9
      have ve := (gXV.get X7.next (by omega) (by simp)).trans e9
      simp only [w_w, oneW_next, s_0, s_1, s_2, s_3, s_4, g_0, w_0, w_wh, w_st, w_qu, w_tb, w_a, Hands, handsV, resultsV, oneOrTuple, argsT, ev, evs, evPairs, evOpt, closed, flat, nth, aCall, aEnter, notYield, aNilCheck, partV, isAggD, aFieldAddr, aField, aExtract, Option.isNone, aBuiltin, aUn, cond_true, cond_false, cond_dec, if_true, if_false, List.length_cons, List.length_nil, forall_const, implies_true, List.append_nil, List.cons_append, List.nil_append, eq_self, Nat.reduceEqDiff, Nat.reduceAdd, Nat.reduceMul, Nat.reduceSub, Nat.reduceLT, Nat.reduceLeDiff, Nat.reduceBEq, reduceIte, reduceCtorEq, un_not, Bool.not_true, Bool.not_false, undef]
      refine CallT.mono (CallT.of_call alive_spec) ?_
      rintro _ V' ⟨rfl, hV'⟩
      have hV' := hV'.symm
      subst hV'
      simp only [w_w, oneW_next, s_0, s_1, s_2, s_3, s_4, g_0, w_0, w_wh, w_st, w_qu, w_tb, w_a, Hands, handsV, resultsV, oneOrTuple, argsT, ev, evs, evPairs, evOpt, closed, flat, nth, aCall, aEnter, notYield, aNilCheck, partV, isAggD, aFieldAddr, aField, aExtract, Option.isNone, aBuiltin, aUn, cond_true, cond_false, cond_dec, if_true, if_false, List.length_cons, List.length_nil, forall_const, implies_true, List.append_nil, List.cons_append, List.nil_append, eq_self, Nat.reduceEqDiff, Nat.reduceAdd, Nat.reduceMul, Nat.reduceSub, Nat.reduceLT, Nat.reduceLeDiff, Nat.reduceBEq, reduceIte, reduceCtorEq, un_not, Bool.not_true, Bool.not_false, undef, v1, n0, lenS, vd, hcutA, hagA]
      all_goals
        have hSy : Steps (withRo E0 s) V (fun _ => True) (.slice (some ⟨X7.next, 0, none⟩) 1 1) [y] := .inr ⟨X7.next, 0, 1, scell y, rfl, .of_row ve (hnr _ (by omega)), trivial, by omega, by intro x hx; simp only [List.map_cons, List.map_nil, List.mem_singleton] at hx; subst hx; rfl, rfl⟩
        refine CallT.mono (CallT.of_call (tright_spec (t := { t with steps := [y] }) hro htab hSy ⟨by simp, by simpa using hyn⟩)) ?_
        rintro _ U ⟨⟨rd, rfl, hrd⟩, gU⟩
        have erd : rd = decide y.good := by
          have hrt := hr.1 rfl
          rw [Bool.eq_iff_iff, hrd, decide_eq_true_iff]
          constructor
          · intro x
            exact x.1.2 y (by simp)
          · intro x
            exact ⟨⟨by simp, by simpa using x⟩, hrt.2⟩
        subst erd
        simp only [w_w, oneW_next, s_0, s_1, s_2, s_3, s_4, g_0, w_0, w_wh, w_st, w_qu, w_tb, w_a, Hands, handsV, resultsV, oneOrTuple, argsT, ev, evs, evPairs, evOpt, closed, flat, nth, aCall, aEnter, notYield, aNilCheck, partV, isAggD, aFieldAddr, aField, aExtract, Option.isNone, aBuiltin, aUn, cond_true, cond_false, cond_dec, if_true, if_false, List.length_cons, List.length_nil, forall_const, implies_true, List.append_nil, List.cons_append, List.nil_append, eq_self, Nat.reduceEqDiff, Nat.reduceAdd, Nat.reduceMul, Nat.reduceSub, Nat.reduceLT, Nat.reduceLeDiff, Nat.reduceBEq, reduceIte, reduceCtorEq, un_not, Bool.not_true, Bool.not_false, undef, eq4, beq_self_eq_true]
end Go.Proofs.YtgcffmhpjphefaaDoor

/- What a law's arguments hold: numbers, timers with steps. -/
namespace Go.Proofs.YtgcffmhpjphefaaDoor
open Go Go.AE Go.ChangeShapes Go.WideShapes Go.ChangeAt Go.RowKit Go.Joins Go.Deep

set_option maxRecDepth 100000
theorem Tryd.own : ownKnob Tryd.prog.godebug = none := by kernel_rfl
theorem Tryd.laidOut : laidOutB Tryd.prog = true := by kernel_rfl
theorem wf_u64 {n : Int} (h : (Lit.int .u64 n).wf = true) : ∃ m : Nat, n = (m : Int) ∧ m < 18446744073709551616 := by
  simp only [Lit.wf, Bool.and_eq_true, decide_eq_true_eq] at h
  have h1 : (0 : Int) ≤ n := h.1
  have h2 : n ≤ 18446744073709551615 := h.2
  exact ⟨n.toNat, by omega, by omega⟩
theorem wf_i64 {n : Int} (h : (Lit.int .i64 n).wf = true) : -9223372036854775808 ≤ n ∧ n < 9223372036854775808 := by
  simp only [Lit.wf, Bool.and_eq_true, decide_eq_true_eq] at h
  have h1 : (-9223372036854775808 : Int) ≤ n := h.1
  have h2 : n ≤ 9223372036854775807 := h.2
  exact ⟨h1, by omega⟩
theorem add_plain {b o i : Nat} : (⟨b, o, none⟩ : Addr).add i = ⟨b, o + i, none⟩ := by
  unfold Addr.add
  split
  · rename_i h; subst h; rfl
  · rfl
theorem cap_unk {cap : Nat} (h : cap ≤ maxLen) : cap ≠ unk := by
  intro e
  subst e
  unfold unk maxLen at h
  exact absurd h (by decide)
theorem choose_ltS {n : Nat} {α : Type} [Inhabited α] {p : Nat → α → Prop} (h : ∀ i, i < n → ∃ y, p i y) : ∃ f : Nat → α, ∀ i, i < n → p i (f i) := by
  have : ∀ i, ∃ y, i < n → p i y := fun i => by
    by_cases hi : i < n
    · obtain ⟨y, hy⟩ := h i hi; exact ⟨y, fun _ => hy⟩
    · exact ⟨default, fun h => absurd h hi⟩
  exact ⟨fun i => Classical.choose (this i), fun i hi => Classical.choose_spec (this i) hi⟩
instance : Inhabited StepD := ⟨⟨0, ByteArray.empty, ByteArray.empty, 0⟩⟩
def StepD.ok (y : StepD) : Prop := -9223372036854775808 ≤ y.kind ∧ y.kind < 9223372036854775808 ∧ -9223372036854775808 ≤ y.n ∧ y.n < 9223372036854775808

section
variable {H : Type} {enc : TypeId × Value → H} {w : World} {base : Nat} {spare : Nat → Bool} {held : Bool}
/-- What a slice of steps is to the walk. -/
def StepsAt (W : World) (v : Value) (l : List StepD) : Prop :=
  (l = [] ∧ v = .slice none 0 0) ∨ ∃ b o cap, v = .slice (some ⟨b, o, none⟩) l.length cap ∧ cap ≠ unk ∧ ∀ i y, l[i]? = some y → ∀ r c, (scell y)[r]? = some c → W.cell? ⟨b, o + (i * 4 + r), none⟩ = some c

theorem open_steps {fuel : Nat} {v : Value} {x : DataW H × List MemPlace} (h : DataW.trod enc Tryd.prog w base spare held fuel 23 [v] = some x) (hs : ∀ a len cap, v = .slice (some a) len cap → a.spot = none) :
    ∃ l, StepsAt w v l ∧ ∀ y ∈ l, y.ok := by
  rcases open_slice Tryd.underlying23 h with ⟨h0, _⟩ | ⟨a, len, cap, m, n, D, Pl, h0, _, hl, hcap, hm, _, hx⟩
  · cases h0; exact ⟨[], .inl ⟨rfl, rfl⟩, by simp⟩
  have hc : Tryd.prog.cellsOf 36 = 4 := by kernel_rfl
  rw [hc] at hx
  have hlm : len ≤ m := by rw [hm]; split <;> omega
  have each : ∀ i, i < len → ∃ y : StepD, y.ok ∧ ∀ r v, (scell y)[r]? = some v → w.cell? (a.add (i * 4 + r)) = some v := by
    intro i hi
    obtain ⟨cs', h1, h2⟩ := hx i (by omega)
    obtain ⟨_, hlen, hcell⟩ := World.cells?_some h1
    match cs', hlen with
    | [c0, c1, c2, c3], _ =>
      obtain ⟨y0, y1, y2, y3, k, _, _, g0, g1, g2, g3⟩ := trod_struct4 Tryd.underlying36 h2
      have k34 : Tryd.prog.cellsOf 34 = 1 := by kernel_rfl
      have k9 : Tryd.prog.cellsOf 9 = 1 := by kernel_rfl
      have k2 : Tryd.prog.cellsOf 2 = 1 := by kernel_rfl
      simp only [k34, k9, k2, List.drop_succ_cons, List.drop_zero, List.take_succ_cons, List.take_zero] at g0 g1 g2 g3
      obtain ⟨k0, e0, _, l0⟩ := DataW.trod_int Tryd.underlying34 g0
      obtain ⟨s1, e1, _⟩ := DataW.trod_string Tryd.underlying9 g1
      obtain ⟨s2, e2, _⟩ := DataW.trod_string Tryd.underlying9 g2
      obtain ⟨n3, e3, _, l3⟩ := DataW.trod_int Tryd.underlying2 g3
      cases e0; cases e1; cases e2; cases e3
      have w0 := wf_i64 l0
      have w3 := wf_i64 l3
      refine ⟨⟨k0, s1, s2, n3⟩, ⟨w0.1, w0.2, w3.1, w3.2⟩, fun r v hr => ?_⟩
      have hr4 : r < 4 := by
        by_cases hlt : r < 4
        · exact hlt
        · rw [List.getElem?_eq_none (by show 4 ≤ r; omega)] at hr
          cases hr
      have := hcell r hr4
      rw [add_add] at this
      rw [this]
      exact hr
  obtain ⟨f, hf⟩ := choose_ltS each
  cases h0
  have hsp := hs a len cap rfl
  obtain ⟨b, o, sp⟩ := a
  simp only at hsp
  subst hsp
  refine ⟨(List.range len).map f, .inr ⟨b, o, cap, by simp, cap_unk hcap, fun i y hy r c hr => ?_⟩, fun y hy => ?_⟩
  · rw [List.getElem?_map] at hy
    obtain ⟨j, hj, rfl⟩ := Option.map_eq_some_iff.1 hy
    have hi : i < len := by
      by_cases hlt : i < len
      · exact hlt
      · rw [List.getElem?_eq_none (by simp; omega)] at hj
        cases hj
    have : j = i := by simpa [List.getElem?_range hi] using hj.symm
    subst this
    have := (hf j hi).2 r c hr
    rwa [add_plain] at this
  · obtain ⟨i, hi, rfl⟩ := List.mem_map.1 hy
    exact (hf i (List.mem_range.1 hi)).1

theorem trod_u64 {fuel : Nat} {cs : List Value} {x : DataW H × List MemPlace} (h : DataW.trod enc Tryd.prog w base spare held fuel 22 cs = some x) : ∃ m : Nat, cs = [.int .u64 (m : Int)] ∧ m < 18446744073709551616 := by
  obtain ⟨n, rfl, _, hw⟩ := DataW.trod_int Tryd.underlying22 h
  obtain ⟨m, rfl, hm⟩ := wf_u64 hw
  exact ⟨m, rfl, hm⟩

/-- A timer. -/
theorem open_timer {v : Value} {d : DataW H} {p : List MemPlace} {base' : Nat} (hv : Value.okWide Tryd.prog w .any base' 25 v) (h : DataW.Trod enc Tryd.prog w base spare held 25 v d p) :
    ∃ (t : TimD) (dv : Value), v = tval t dv ∧ StepsAt w dv t.steps ∧ (∀ y ∈ t.steps, y.ok) ∧ t.at_ < 18446744073709551616 ∧ t.every < 18446744073709551616 ∧ -9223372036854775808 ≤ t.ver ∧ t.ver < 9223372036854775808 := by
  obtain ⟨cs, rfl, hsz, hrow⟩ : ∃ cs, v = .agg cs ∧ cs.size = Tryd.prog.cellsOf 25 ∧ Row.okWide Tryd.prog w .any base' 25 cs := by
    unfold Value.okWide at hv
    rw [Tryd.underlying25] at hv
    exact hv
  have h5 : Tryd.prog.cellsOf 25 = 5 := by kernel_rfl
  rw [h5] at hsz
  obtain ⟨l⟩ := cs
  match l, hsz with
  | [c0, c1, c2, c3, c4], _ =>
    obtain ⟨fuel, hf⟩ := h
    have hf : DataW.trod enc Tryd.prog w base spare held fuel 25 [c0, c1, c2, c3, c4] = some (d, p) := hf
    obtain ⟨xs, n, _, _, _, hxl, hg⟩ := Go.DataW.trod_struct Tryd.underlying25 hf
    have k9 : Tryd.prog.cellsOf 9 = 1 := by kernel_rfl
    have k3 : Tryd.prog.cellsOf 3 = 1 := by kernel_rfl
    have k22 : Tryd.prog.cellsOf 22 = 1 := by kernel_rfl
    have k23 : Tryd.prog.cellsOf 23 = 1 := by kernel_rfl
    match xs, hxl with
    | [x0, x1, x2, x3, x4], _ =>
    have g0 : DataW.trod enc Tryd.prog w base spare held n 9 (([c0, c1, c2, c3, c4].drop 0).take (Tryd.prog.cellsOf 9)) = some x0 := hg 0 _ rfl
    have g1 : DataW.trod enc Tryd.prog w base spare held n 3 (([c0, c1, c2, c3, c4].drop 1).take (Tryd.prog.cellsOf 3)) = some x1 := hg 1 _ rfl
    have g2 : DataW.trod enc Tryd.prog w base spare held n 22 (([c0, c1, c2, c3, c4].drop 2).take (Tryd.prog.cellsOf 22)) = some x2 := hg 2 _ rfl
    have g3 : DataW.trod enc Tryd.prog w base spare held n 22 (([c0, c1, c2, c3, c4].drop 3).take (Tryd.prog.cellsOf 22)) = some x3 := hg 3 _ rfl
    have g4 : DataW.trod enc Tryd.prog w base spare held n 23 (([c0, c1, c2, c3, c4].drop 4).take (Tryd.prog.cellsOf 23)) = some x4 := hg 4 _ rfl
    rw [k9] at g0
    rw [k3] at g1
    rw [k22] at g2 g3
    rw [k23] at g4
    obtain ⟨s, e0, _⟩ := Go.DataW.trod_string Tryd.underlying9 g0
    obtain ⟨ver, e1, _, l1⟩ := DataW.trod_int Tryd.underlying3 g1
    obtain ⟨at_, e2, l2⟩ := trod_u64 g2
    obtain ⟨ev, e3, l3⟩ := trod_u64 g3
    cases e0; cases e1; cases e2; cases e3
    have hsp : ∀ a len cap, c4 = .slice (some a) len cap → a.spot = none := by
      rintro a len cap rfl
      obtain ⟨ts, hts, _, hr⟩ := hrow
      have ht2 : Tryd.prog.cellTypes Tryd.prog.depth 25 = some [9, 3, 22, 22, 23] := by kernel_rfl
      rw [ht2] at hts
      cases hts
      obtain ⟨u, hu, hc⟩ := hr 4 _ rfl
      have hu : some 23 = some u := hu
      cases hu
      unfold Cell.okWide Cell.ok at hc
      rw [Tryd.underlying23] at hc
      exact hc.2.2.2.1
    obtain ⟨steps, hst, hok⟩ := open_steps g4 hsp
    have w1 := wf_i64 l1
    exact ⟨⟨s, ver, at_, ev, steps⟩, c4, rfl, hst, hok, l2, l3, w1.1, w1.2⟩
end

theorem scells_at : ∀ {l : List StepD} {i : Nat} {v : Value}, ((l.map scell).flatten)[i]? = some v → ∃ q y r, l[q]? = some y ∧ r < 4 ∧ i = q * 4 + r ∧ (scell y)[r]? = some v
  | [], i, v, h => by simp at h
  | y :: l, 0, v, h => ⟨0, y, 0, rfl, by omega, rfl, h⟩
  | y :: l, 1, v, h => ⟨0, y, 1, rfl, by omega, rfl, h⟩
  | y :: l, 2, v, h => ⟨0, y, 2, rfl, by omega, rfl, h⟩
  | y :: l, 3, v, h => ⟨0, y, 3, rfl, by omega, rfl, h⟩
  | y :: l, i + 4, v, h => by
    obtain ⟨q, z, r, h1, h2, h3, h4⟩ := scells_at (l := l) (i := i) (v := v) h
    exact ⟨q + 1, z, r, by simpa using h1, h2, by omega, h4⟩
theorem scell_closed {y : StepD} {r : Nat} {v : Value} (h : (scell y)[r]? = some v) : closed v = true := by
  match r, h with
  | 0, h => cases h; rfl
  | 1, h => cases h; rfl
  | 2, h => cases h; rfl
  | 3, h => cases h; rfl

/-- One more span, for steps. -/
theorem steps_span {W : World} {v : Value} {l : List StepD} (h : StepsAt W v l) (s : Spans) : ∃ (x : Go.AE.Loc × List Value) (sv : Value), (∀ (i : Nat) (c : Value), x.2[i]? = some c → closed c = true ∧ W.cell? ⟨x.1.B, x.1.o + i, none⟩ = some c) ∧
    (∀ s', roRen (s ++ x :: s') s.length = some x.1) ∧ (∀ s', VRel (roRen (s ++ x :: s')) sv v) ∧ ∀ s' A, (∀ b, b < A.next → A.get b = none) → s.length < A.next → Steps (withRo E0 (s ++ x :: s')) A (fun b => b = s.length) sv l := by
  rcases h with ⟨rfl, rfl⟩ | ⟨b, o, cap, rfl, hcap, hx⟩
  · refine ⟨(⟨0, 0, 0, 0, undef⟩, []), .slice none 0 0, by simp, fun s' => ?_, fun s' => .nilSlice 0 0, fun s' A _ _ => .inl ⟨rfl, rfl⟩⟩
    unfold roRen
    simp
  · refine ⟨(⟨b, o, 0, 0, undef⟩, (l.map scell).flatten), .slice (some ⟨s.length, 0, none⟩) l.length cap, ?_, ?_, ?_, ?_⟩
    · intro i c hc
      obtain ⟨q, y, r, h1, _, rfl, h4⟩ := scells_at hc
      exact ⟨scell_closed h4, hx q y h1 r c h4⟩
    · intro s'
      unfold roRen
      simp
    · intro s'
      have hr : roRen (s ++ (⟨b, o, 0, 0, undef⟩, (l.map scell).flatten) :: s') s.length = some ⟨b, o, 0, 0, undef⟩ := by unfold roRen; simp
      exact .slice (ρ := roRen (s ++ (⟨b, o, 0, 0, undef⟩, (l.map scell).flatten) :: s')) (b := s.length) (off := 0) l.length hr hcap
    · intro s' A hA hn
      have hlen := flat_len (scell_len (l := l))
      refine .inr ⟨s.length, 0, cap, (l.map scell).flatten, by rw [List.length_map], .inl ⟨hA _ hn, ?_⟩, rfl, hn, scell_len, ?_⟩
      · rw [ro_of]
        unfold roTab
        simp
      · unfold cut
        simp only [List.drop_zero, ← hlen, List.take_length, Nat.beq_refl, cond_true]
end Go.Proofs.YtgcffmhpjphefaaDoor
