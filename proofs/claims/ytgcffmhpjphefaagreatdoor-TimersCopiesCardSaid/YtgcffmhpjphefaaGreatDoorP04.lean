/- The evaluator: each step of a drawn region, and the whole. -/
import Derived.Test.YtgcffmhpjphefaaGreatDoorP03
import Derived.RowKit
import Derived.Laws.Externs
import Derived.ProofKit
import Derived.Laws.Bits64
import Derived.Laws.BitsLemmas
set_option linter.unusedSimpArgs false
set_option linter.unusedVariables false
set_option linter.unusedSectionVars false
namespace Go.AE
open Go

section
variable {E : Env} {P : Program} {call : Tgt → List Value → ASt → Nd (Value × ASt)} {n base : Nat} {ops : Array Oper} {an : List Nat} {ex : Nat → Bool} {S : Nat → PSt} {val : Nat → Value} {p : Nat} {ds : List Deferred} {rr : Option Nat}
variable {ρ₀ : Ren} {A₀ : ASt} {w₀ : World} {D : Nat → Bool} {q : Nat} {ρ : Ren} {T : Tmps} {a : Act} {w : World}

theorem Inv.view_at (hp : Plan E call n base ops an ex S val p) (h : Inv E call n base ops an S val p ds ρ₀ A₀ w₀ D q ρ T a w) {i m : Nat} (hi : i ≤ p) (hanc : ∀ j, Anc an i j → D j = true) (hlow : ∀ j, Anc an i j → j < i) (hm : nth an i = some m) (hst0 : ∀ j, (S p).louds.testBit j = true → (D j = true ↔ j < i)) :
    (S q).H = (S i).H ∧ (S q).louds = (S i).louds ∧ (∀ b, (viewAt base an (S i).louds m (S i).fl (S i).H).get b = (viewAt base an (S i).louds m (S p).fl (S i).H).get b) ∧
    (∀ b o', (viewAt base an (S i).louds m (S i).fl (S i).H).get b = some o' → (addFl base (fun f => !takenAt (S q).louds f 0 an && D f) (S p).fl (S q).H).get b = some o') ∧
    (viewAt base an (S i).louds m (S i).fl (S i).H).next = (addFl base (fun f => !takenAt (S q).louds f 0 an && D f) (S p).fl (S q).H).next := by
  have hancm : ∀ j, m.testBit j = true → D j = true := fun j hj => hanc j ⟨m, hm, hj⟩
  obtain ⟨eH, eL⟩ := hp.stages h.le hi (fun j hj => (h.stage j hj).symm.trans (hst0 j hj))
  have hview : ∀ b, (viewAt base an (S i).louds m (S i).fl (S i).H).get b = (viewAt base an (S i).louds m (S p).fl (S i).H).get b := by
    intro b
    unfold viewAt
    rw [addFl_get, addFl_get]
    by_cases hc : base ≤ b ∧ (!takenAt (S i).louds (b - base) 0 an && m.testBit (b - base)) = true
    · rw [if_pos hc, if_pos hc]
      have h2 := hc.2
      rw [Bool.and_eq_true] at h2
      rw [hp.fl_at hi (hlow _ ⟨m, hm, h2.2⟩)]
    · rw [if_neg hc, if_neg hc]
  refine ⟨eH, eL, hview, fun b o' hb => ?_, ?_⟩
  · rw [hview, ← eL, ← eH] at hb
    exact h.view_sub hp hancm b o' hb
  · unfold viewAt
    rw [addFl_next, addFl_next, eH]

theorem Inv.loud (hp : Plan E call n base ops an ex S val p) (h : Inv E call n base ops an S val p ds ρ₀ A₀ w₀ D q ρ T a w) (hbase : base = A₀.next) {i : Nat} {o : Oper} {m : Nat} (hi : i < p) (ho : ops[i]? = some o) (hDi : D i = false) (hanc : ∀ j, Anc an i j → D j = true) (hlow : ∀ j, Anc an i j → j < i) (hm : nth an i = some m)
    (hst0 : ∀ j, (S p).louds.testBit j = true → (D j = true ↔ j < i)) (hdst : ∀ t, dstAt ops i = some t → SlotOK ops an i t) {H' : ASt} (hH : (S (i + 1)).H = H') (hfl : (S (i + 1)).fl = (S i).fl) (hl : (S (i + 1)).louds = (S i).louds ||| 2 ^ i) {T1 : Tmps} (hput : putN n (S i).T o.dst (val i) = some T1)
    {v' : Value} {w' : World} {ρ' : Ren} (hvr : VRel ρ' (val i) v') (hst : Step ρ (viewAt base an (S i).louds m (S i).fl (S i).H) w ρ' H' w') :
    ∃ T', Inv E call n base ops an S val p ds ρ₀ A₀ w₀ (fun j => D j || j == i) (i + 1) ρ' T' (a.put o.dst v') w' := by
  have hR := h.step.rep
  have hancm : ∀ j, m.testBit j = true → D j = true := fun j hj => hanc j ⟨m, hm, hj⟩
  have hnext : (addFl base (fun f => !takenAt (S q).louds f 0 an && D f) (S p).fl (S q).H).next = (S q).H.next := addFl_next _ _ _ _
  obtain ⟨eH, eL⟩ := hp.stages h.le (Nat.le_of_lt hi) (fun j hj => (h.stage j hj).symm.trans (hst0 j hj))
  have hholes := h.holes
  have hroom := h.room
  have hstep := h.step
  rw [eL] at hholes
  rw [eH] at hholes hroom
  rw [eL, eH] at hstep hR hnext
  have hview : ∀ b, (viewAt base an (S i).louds m (S i).fl (S i).H).get b = (viewAt base an (S i).louds m (S p).fl (S i).H).get b := by
    intro b
    unfold viewAt
    rw [addFl_get, addFl_get]
    by_cases hc : base ≤ b ∧ (!takenAt (S i).louds (b - base) 0 an && m.testBit (b - base)) = true
    · rw [if_pos hc, if_pos hc]
      have h2 := hc.2
      rw [Bool.and_eq_true] at h2
      rw [hp.fl_at (by omega) (hlow _ ⟨m, hm, h2.2⟩)]
    · rw [if_neg hc, if_neg hc]
  have hsub : ∀ b o', (viewAt base an (S i).louds m (S i).fl (S i).H).get b = some o' → (addFl base (fun f => !takenAt (S i).louds f 0 an && D f) (S p).fl (S i).H).get b = some o' := by
    intro b o' hb
    rw [hview, ← eL, ← eH] at hb
    rw [← eL, ← eH]
    exact h.view_sub hp hancm b o' hb
  have hnx : (viewAt base an (S i).louds m (S i).fl (S i).H).next = (addFl base (fun f => !takenAt (S i).louds f 0 an && D f) (S p).fl (S i).H).next := by
    unfold viewAt
    rw [addFl_next, addFl_next]
  have hnx2 : (viewAt base an (S i).louds m (S i).fl (S i).H).next = (S i).H.next := by unfold viewAt; rw [addFl_next]
  have htk : ∀ f, takenAt (S (i + 1)).louds f 0 an = true ↔ takenAt (S i).louds f 0 an = true ∨ m.testBit f = true := by
    intro f
    rw [takenAt_anc, takenAt_anc, hl]
    constructor
    · rintro ⟨j, hj, hjf⟩
      rw [Nat.testBit_or, Nat.testBit_two_pow, Bool.or_eq_true_iff] at hj
      rcases hj with hj | hj
      · exact .inl ⟨j, hj, hjf⟩
      · have : i = j := by simpa using hj
        subst this
        obtain ⟨m2, hm2, hf2⟩ := hjf
        rw [hm] at hm2; cases hm2
        exact .inr hf2
    · rintro (⟨j, hj, hjf⟩ | hf)
      · exact ⟨j, by rw [Nat.testBit_or, hj]; rfl, hjf⟩
      · exact ⟨i, by rw [Nat.testBit_or, Nat.testBit_two_pow]; simp, m, hm, hf⟩
  have hfi : flGet (S p).fl i = none := by
    rw [← hp.fl_at (q := i + 1) (by omega) (by omega), hfl]
    exact hp.fl_lt (by omega) (Nat.le_refl _)
  -- what the part's heap lacks, it lacks behind the step
  have hgone : ∀ b, b < base + ops.size → (viewAt base an (S i).louds m (S i).fl (S i).H).get b = none → H'.get b = none := fun b hb hn => hst.dom b (by omega) hn
  have hfr := Step.frame (A' := addFl base (fun f => !takenAt (S (i + 1)).louds f 0 an && (D f || f == i)) (S p).fl H') hR hsub hnx hst (fun b => ?_) (by rw [addFl_next])
  · obtain ⟨T', hT'⟩ := putN_ok hput T
    refine ⟨T', by omega, lt_upd h.lt hi, fun j hj => ?_, fun t => ?_, putN_sound (h.rel.mono hst.ext) h.size hT' hvr, ?_, fun f hf hD => ?_, fun f hf ht => ?_, ?_, by rw [size_put]; exact h.size, by rw [defers_put]; exact h.defers, fun j hj k hk => ?_⟩
    · rw [or_eq_true', hst0 j hj]; omega
    · rw [putN_get hT' t, sv_upd hDi h.cl hdst hi t]
      simp only [dstAt, ho, Option.bind_some]
      rw [h.tm t]
    · rw [hH]; exact hstep.trans hfr
    · simp only [Bool.or_eq_false_iff] at hD
      rw [hst.keep _ (by omega)]
      exact h.free f hf hD.1
    · rw [hH]
      have h1 : takenAt (S i).louds f 0 an = false := by
        cases hh2 : takenAt (S i).louds f 0 an with
        | false => rfl
        | true => rw [(htk f).2 (.inl hh2)] at ht; cases ht
      have h2 : m.testBit f = false := by
        cases hh2 : m.testBit f with
        | false => rfl
        | true => rw [(htk f).2 (.inr hh2)] at ht; cases ht
      refine hgone _ (by omega) ?_
      unfold viewAt
      rw [addFl_get, if_neg]
      · exact hholes f hf h1
      · rw [show base + f - base = f by omega, h2]; simp
    · rw [hH]; have := hst.next; omega
    · rw [or_eq_true'] at hj ⊢
      rcases hj with hj | rfl
      · exact .inl (h.cl j hj k hk)
      · exact .inl (hanc k hk)
  · rw [hview]
    have hg := hgone b
    rw [hview] at hg
    unfold viewAt at hg ⊢
    rw [addFl_get] at hg ⊢
    rw [addFl_get, addFl_get]
    -- the block's number, told from the region's first
    by_cases hb : base ≤ b
    · cases ht1 : takenAt (S i).louds (b - base) 0 an with
      | true =>
        have ht2 := (htk (b - base)).2 (.inl ht1)
        simp only [ht1, ht2, hb, true_and, Bool.not_true, Bool.false_and, Bool.false_eq_true, if_false]
        cases hh1 : H'.get b with
        | some x => simp
        | none =>
          cases hh2 : (S i).H.get b with
          | some y => simp
          | none => simp
      | false =>
        cases hmf : m.testBit (b - base) with
        | true =>
          have ht2 := (htk (b - base)).2 (.inr hmf)
          have hDf := hancm _ hmf
          simp only [ht1, ht2, hb, hmf, hDf, true_and, Bool.not_true, Bool.not_false, Bool.false_and, Bool.and_self, Bool.false_eq_true, if_false, if_true]
          cases hh1 : H'.get b with
          | some x => simp
          | none =>
            cases hh2 : flGet (S p).fl (b - base) with
            | some y => simp
            | none =>
              cases hh3 : (S i).H.get b with
              | some y => simp
              | none => simp
        | false =>
          have ht2 : takenAt (S (i + 1)).louds (b - base) 0 an = false := by
            cases hh2 : takenAt (S (i + 1)).louds (b - base) 0 an with
            | false => rfl
            | true =>
              rcases (htk _).1 hh2 with h1 | h1
              · rw [h1] at ht1; cases ht1
              · rw [h1] at hmf; cases hmf
          simp only [ht1, ht2, hb, hmf, true_and, Bool.not_false, Bool.and_false, Bool.true_and, Bool.false_eq_true, if_false] at hg ⊢
          cases hf : flGet (S p).fl (b - base) with
          | none =>
            cases hh1 : H'.get b with
            | some x => simp
            | none =>
              cases hh3 : (S i).H.get b with
              | some y => simp
              | none => simp
          | some ob =>
            have hlt : b - base < ops.size := by
              rcases Nat.lt_or_ge (b - base) p with h' | h'
              · exact Nat.lt_of_lt_of_le h' hp.le
              · rw [hp.fl_lt (Nat.le_refl _) h'] at hf; cases hf
            have hno := hholes _ hlt ht1
            rw [show base + (b - base) = b by omega] at hno
            have hne : ¬ b - base = i := fun e => by rw [e, hfi] at hf; cases hf
            have hnb : (b - base == i) = false := by simpa using hne
            rw [hg (by omega) hno, hno]
            simp only [hnb, Bool.or_false]
            cases hDf : D (b - base) <;> simp
    · simp only [hb, false_and, if_false]
      cases hh1 : H'.get b with
      | some x => simp
      | none =>
        cases hh3 : (S i).H.get b with
        | some y => simp
        | none => simp



theorem step_sound {Z : Road} (hE : EnvOK E P) (hZr : RoadRo Z E) (hcall : CallSound Z P call) (hZ : Z.reach ρ₀ A₀ w₀) (hp : Plan E call n base ops an ex S val p) (hreads : readsOK E base an (S p) (S p).reads = true)
    (h : Inv E call n base ops an S val p ds ρ₀ A₀ w₀ D q ρ T a w) (hbase : base = A₀.next) (hexd : ∀ j, ex j = true → D j = true) {i : Nat} (hi : i < p) (hDi : D i = false) (hanc : ∀ j, Anc an i j → D j = true) (hlow : ∀ j, Anc an i j → j < i)
    (hslot : ∀ o, ops[i]? = some o → ∀ t ∈ looks ops o ++ o.dst.toList, SlotOK ops an i t) {Qx : Exit → Act → World → Prop} {K : Act → World → Prop}
    (hK : ∀ q' ρ' T' a' w', Inv E call n base ops an S val p ds ρ₀ A₀ w₀ (fun j => D j || j == i) q' ρ' T' a' w' → K a' w') : wpOpIn (FR rr) 0 P ops Qx i K a w := by
  obtain ⟨o, m, ho, hm, hput, hps⟩ := hp.at_ hi
  have hslot := hslot o ho
  have hdst : ∀ t, dstAt ops i = some t → SlotOK ops an i t := fun t ht => hslot t (by
    simp only [dstAt, ho, Option.bind_some] at ht
    simp [ht])
  have hlook : ∀ t ∈ looks ops o, tget T t = tget (S i).T t := fun t ht => by
    rw [h.tm t, hp.sv_all (by omega) t]
    exact sv_look (hslot t (by simp [ht])) hDi hanc h.cl (by omega)
  have hopr : ∀ t, Operand.tmp t ∈ o.op.operands.toList → tget T t = tget (S i).T t := fun t ht => hlook t (by
    unfold looks
    exact List.mem_append_left _ (tmpsOf_mem ht))
  have hR := h.step.rep
  have hRz := Z.step hZ h.step
  have hancm : ∀ j, m.testBit j = true → D j = true := fun j hj => hanc j ⟨m, hm, hj⟩
  have hnext : (addFl base (fun f => !takenAt (S q).louds f 0 an && D f) (S p).fl (S q).H).next = (S q).H.next := addFl_next _ _ _ _
  unfold wpOpIn
  rw [ho]
  simp only []
  rw [wanted_sound h.rel, wantedA_congr hlook]
  cases hps with
  | off hw hv hH hfl hl hh hr =>
    rw [hw]
    simp only [Bool.false_eq_true, if_false]
    obtain ⟨T', hinv⟩ := h.silent hp hbase hi ho hDi hanc hdst hl hfl hput (v' := undef) (by rw [hv]; exact VRel.undef) (Step.refl hR)
    exact ⟨fun _ _ => trivial, hK _ _ _ _ _ hinv⟩
  | fresh ob f hw haf hv hH hfl hl hh hr =>
    rw [hw, if_pos rfl]
    have haf' : aFresh E o.op T = some (ob, f) := by rw [(aOp_congr (E := E) (A := A₀) hopr).2]; exact haf
    obtain ⟨v', w', L, hrun, hvr, hst⟩ := fresh_sound hE hR (h.free i (Nat.lt_of_lt_of_le hi hp.le) hDi) h.rel o haf'
    refine ⟨fun _ _ => trivial, ?_⟩
    rw [Oper.semAt_eq _ _ _ (fun c hc => by rw [hc] at haf; cases haf), hrun, Oper.uponIn_value]
    obtain ⟨T', hT'⟩ := putN_ok hput T
    simp only [] at hvr hst
    rw [← hv] at hvr
    have hge : ∀ b, b < A₀.next → b ≠ base + i := fun b hb => by omega
    have hli : (S p).louds.testBit i = false := by
      cases hb : (S p).louds.testBit i with
      | false => rfl
      | true =>
        have : (S (i + 1)).louds.testBit i = true := (hp.louds_iff (by omega)).2 ⟨by omega, hb⟩
        rw [hl] at this
        have := hp.louds_lt (by omega) this
        omega
    have hfi : flGet (S p).fl i = some ob := by
      rw [← hp.fl_at (q := i + 1) (by omega) (by omega), hfl]
      simp [flGet]
    have hti : takenAt (S q).louds i 0 an = false := by
      cases ht : takenAt (S q).louds i 0 an with
      | false => rfl
      | true => rw [h.taken_anc hp ht] at hDi; cases hDi
    refine hK q (upd ρ (base + i) L) T' _ w' ⟨h.le, lt_upd h.lt hi, fun j hj => ?_, fun t => ?_, putN_sound (h.rel.mono hst.ext) h.size hT' hvr, ?_, fun f' hf' hD => ?_, h.holes, h.room, by rw [size_put]; exact h.size, by rw [defers_put]; exact h.defers, fun j hj k hk => ?_⟩
    · rw [or_eq_true', ← h.stage j hj]
      constructor
      · rintro (h1 | rfl)
        · exact h1
        · rw [hli] at hj; cases hj
      · exact .inl
    · rw [putN_get hT' t, sv_upd hDi h.cl hdst hi t]
      simp only [dstAt, ho, Option.bind_some]
      rw [h.tm t]
    · refine (h.step.trans0 hst (fun b hb => ?_) (fun b hb hn => ?_)).congr (fun b => ?_) ?_
      · unfold upd; rw [if_neg (hge b hb)]
      · rw [ASt.get_newAt, if_neg (hge b hb)]; exact hn
      · rw [ASt.get_newAt, addFl_get, addFl_get]
        by_cases e : b = base + i
        · subst e
          rw [if_pos rfl]
          rw [show base + i - base = i by omega, hfi, hti]
          simp
        · rw [if_neg e]
          by_cases e2 : base ≤ b
          · have : (b - base == i) = false := by simp; omega
            simp only [this, Bool.or_false]
          · rw [if_neg (fun hh => e2 hh.1), if_neg (fun hh => e2 hh.1)]
      · rw [ASt.next_newAt, addFl_next, addFl_next]
        have := h.room
        have := hp.le
        omega
    · simp only [Bool.or_eq_false_iff] at hD
      unfold upd
      rw [if_neg (by have : f' ≠ i := by simpa using hD.2
                     omega)]
      exact h.free f' hf' hD.1
    · rw [or_eq_true'] at hj ⊢
      rcases hj with hj | rfl
      · exact .inl (h.cl j hj k hk)
      · exact .inl (hanc k hk)
  | still A' hw hq hv hH hfl hl hh hr =>
    rw [hw, if_pos rfl]
    rw [← (aOp_congr (E := E) (A := { heap := .e, next := 0 }) hopr).1] at hv
    have hv2 := quiet_run hq hv (S q).H.next
    have hsub : ∀ b o', ({ heap := .e, next := (S q).H.next } : ASt).get b = some o' → (addFl base (fun f => !takenAt (S q).louds f 0 an && D f) (S p).fl (S q).H).get b = some o' := fun b o' hb => by
      have : ({ heap := .e, next := (S q).H.next } : ASt).get b = none := rfl
      rw [this] at hb; cases hb
    refine oneOp_sound hE hZr hcall (A := { heap := .e, next := (S q).H.next }) (Z.sub hRz hsub hnext.symm) h.rel (o := o) (Q := fun r => r = (val i, { heap := .e, next := (S q).H.next })) ?_ ?_
    · rw [oneOp_quiet hq hv2]; rfl
    · intro v A2 v' w' ρ' e hvr hst
      cases e
      obtain ⟨T', hinv⟩ := h.silent hp hbase hi ho hDi hanc hdst hl hfl hput hvr (frame_same hR hsub hnext.symm hst)
      exact hK _ _ _ _ _ hinv
  | read hw hq hH hfl hl hh hr =>
    rw [hw, if_pos rfl]
    have hmem : (⟨i, o.op, (S i).T, val i⟩ : Rd) ∈ (S p).reads := hp.reads_at (q := i + 1) (by omega) (by rw [hr]; simp)
    obtain ⟨m', hm', hra⟩ := readsOK_spec hreads _ hmem
    simp only [] at hm'
    rw [hm] at hm'; cases hm'
    obtain ⟨A', hv⟩ := readAt_spec hra _ _ (hp.hist_at h.le) (by
      apply Nat.eq_of_testBit_eq
      intro j
      simp only [Nat.testBit_and]
      cases hmj : m.testBit j with
      | false => simp
      | true =>
        cases hlj : (S p).louds.testBit j with
        | false => simp
        | true =>
          have : (S q).louds.testBit j = true := (hp.louds_iff h.le).2 ⟨(h.stage j hlj).1 (hancm j hmj), hlj⟩
          simp [this]) (by
      apply Nat.eq_of_testBit_eq
      intro j
      simp only [Nat.testBit_and, Nat.zero_testBit]
      cases hqj : (S q).louds.testBit j with
      | false => simp
      | true =>
        cases hbj : (behind i 0 an).testBit j with
        | false => simp
        | true =>
          have h1 := (hp.louds_iff h.le).1 hqj
          have h2 := (h.stage j h1.2).2 h1.1
          have := h.cl j h2 i (behind_anc hbj)
          rw [this] at hDi; cases hDi)
    simp only [] at hv
    rw [← (aOp_congr (E := E) hopr).1] at hv
    have hv2 := quiet_run hq hv (viewAt base an (S q).louds m (S p).fl (S q).H).next
    have hsub := h.view_sub hp hancm
    have hnx : (viewAt base an (S q).louds m (S p).fl (S q).H).next = (addFl base (fun f => !takenAt (S q).louds f 0 an && D f) (S p).fl (S q).H).next := by
      unfold viewAt
      rw [addFl_next, addFl_next]
    refine oneOp_sound hE hZr hcall (Z.sub hRz hsub hnx) h.rel (o := o) (Q := fun r => r = (val i, viewAt base an (S q).louds m (S p).fl (S q).H)) ?_ ?_
    · rw [oneOp_quiet hq hv2]; rfl
    · intro v A2 v' w' ρ' e hvr hst
      cases e
      obtain ⟨T', hinv⟩ := h.silent hp hbase hi ho hDi hanc hdst hl hfl hput hvr (frame_same hR hsub hnx hst)
      exact hK _ _ _ _ _ hinv
  | loud H' hw hlm hone hH hfl hl hh hr =>
    rw [hw, if_pos rfl]
    rw [← oneOp_congr hopr] at hone
    have hli : (S p).louds.testBit i = true := by
      have : (S (i + 1)).louds.testBit i = true := by rw [hl, Nat.testBit_or, Nat.testBit_two_pow]; simp
      exact ((hp.louds_iff (by omega)).1 this).2
    -- the stage is this one
    have hst0 : ∀ j, (S p).louds.testBit j = true → (D j = true ↔ j < i) := by
      intro j hj
      constructor
      · intro hDj
        rcases Nat.lt_trichotomy j i with h1 | h1 | h1
        · exact h1
        · subst h1; rw [hDj] at hDi; cases hDi
        · obtain ⟨oj, mj, hoj, hmj, _, hpsj⟩ := hp.at_ (i := j) (hp.louds_lt (Nat.le_refl _) hj)
          have hj1 : (S (j + 1)).louds.testBit j = true := (hp.louds_iff (by have := hp.louds_lt (Nat.le_refl _) hj; omega)).2 ⟨by omega, hj⟩
          have hne : ¬ (S j).louds.testBit j = true := fun hh => by have := hp.louds_lt (by have := hp.louds_lt (Nat.le_refl _) hj; omega) hh; omega
          have hanj : Anc an j i := by
            cases hpsj with
            | off _ _ _ _ e => rw [e] at hj1; exact absurd hj1 hne
            | fresh _ _ _ _ _ _ _ e => rw [e] at hj1; exact absurd hj1 hne
            | still _ _ _ _ _ _ e => rw [e] at hj1; exact absurd hj1 hne
            | read _ _ _ _ e => rw [e] at hj1; exact absurd hj1 hne
            | loudN _ hlm' => exact ⟨mj, hmj, hlm' i ((hp.louds_iff (by have := hp.louds_lt (Nat.le_refl _) hj; omega)).2 ⟨h1, hli⟩)⟩
            | loud _ _ hlm' => exact ⟨mj, hmj, hlm' i ((hp.louds_iff (by have := hp.louds_lt (Nat.le_refl _) hj; omega)).2 ⟨h1, hli⟩)⟩
          have := h.cl j hDj i hanj
          rw [this] at hDi; cases hDi
      · intro hji
        exact hancm j (hlm j ((hp.louds_iff (by omega)).2 ⟨hji, hj⟩))
    obtain ⟨eH, eL, hview, hsub, hnx⟩ := h.view_at hp (Nat.le_of_lt hi) hanc hlow hm hst0
    refine oneOp_sound hE hZr hcall (Z.sub hRz hsub hnx) h.rel (o := o) (Q := fun r => r = (val i, H')) ?_ ?_
    · rw [hone]; rfl
    · intro v A2 v' w' ρ' e hvr hst
      cases e
      obtain ⟨T', hinv⟩ := h.loud hp hbase hi ho hDi hanc hlow hm hst0 hdst hH hfl hl hput hvr hst
      exact hK _ _ _ _ _ hinv
  | loudN hx =>
    have := hexd i hx
    rw [this] at hDi; cases hDi

/-! ### the count of what is left -/
noncomputable def left (D : Nat → Bool) : Nat → Nat
  | 0 => 0
  | k + 1 => left D k + cond (D k) 0 1

theorem left_le (D : Nat → Bool) : ∀ k, left D k ≤ k
  | 0 => Nat.le_refl _
  | k + 1 => by
    have := left_le D k
    unfold left
    cases D k <;> simp <;> omega

theorem left_zero {D : Nat → Bool} : ∀ {k : Nat}, left D k = 0 → ∀ i, i < k → D i = true
  | 0, _, i, hi => by omega
  | k + 1, h, i, hi => by
    unfold left at h
    cases hd : D k with
    | false => rw [hd] at h; simp at h
    | true =>
      rw [hd] at h
      by_cases e : i = k
      · rw [e]; exact hd
      · exact left_zero (k := k) (by simpa using h) i (by omega)

theorem left_upd {D : Nat → Bool} {i : Nat} (hD : D i = false) : ∀ {k : Nat}, left (fun j => D j || j == i) k + (if i < k then 1 else 0) = left D k
  | 0 => by simp [left]
  | k + 1 => by
    have := left_upd (D := D) (i := i) hD (k := k)
    unfold left
    by_cases e : k = i
    · subst e
      rw [if_neg (by omega)] at this
      rw [if_pos (by omega), hD]
      simp only [beq_self_eq_true, Bool.or_true, cond_true, cond_false]
      omega
    · have hne : (k == i) = false := by simpa using e
      simp only [hne, Bool.or_false]
      by_cases hlt : i < k
      · rw [if_pos hlt] at this
        rw [if_pos (by omega)]
        omega
      · rw [if_neg hlt] at this
        rw [if_neg (by omega)]
        omega

theorem ready_mem {md : Region.Mode} {listed : Array Bool} {i : Nat} : i ∈ Region.ready md ops listed ↔ i < ops.size ∧ listed.getD i true = false ∧ ∃ o, ops[i]? = some o ∧ ∀ e ∈ o.after.toList, Region.binds md e = true → listed.getD e.on false = true := by
  unfold Region.ready
  simp only [List.mem_filter, List.mem_range, Bool.and_eq_true, Bool.not_eq_true']
  refine and_congr Iff.rfl (and_congr Iff.rfl ?_)
  cases ho : ops[i]? with
  | none => simp
  | some o =>
    simp only [Option.map_some, Option.getD_some]
    constructor
    · intro h
      refine ⟨o, rfl, fun e he hb => ?_⟩
      rw [← Array.all_toList] at h
      have := List.all_eq_true.1 h e he
      rw [hb] at this
      simpa using this
    · rintro ⟨o', ho', h⟩
      cases ho'
      rw [← Array.all_toList]
      refine List.all_eq_true.2 fun e he => ?_
      cases hb : Region.binds md e with
      | false => simp
      | true => simpa using h e he hb

theorem many_sound {Z : Road} (hE : EnvOK E P) (hZr : RoadRo Z E) (hcall : CallSound Z P call) (hZ : Z.reach ρ₀ A₀ w₀) (hp : Plan E call n base ops an ex S val p) {Q : PSt → Prop}
    (h : Inv E call n base ops an S val p ds ρ₀ A₀ w₀ D q ρ T a w) (hbase : base = A₀.next) (hex : ∀ j, ex j = true → j < p) (hexd : ∀ j, ex j = true → D j = true) {o : Oper} {m : Nat} (ho : ops[p]? = some o) (hm : nth an p = some m) (hw : wantedA ops (S p).T o = true) (hlm : ∀ j, (S p).louds.testBit j = true → m.testBit j = true)
    (hone : (oneOp E call o (S p).T (viewAt base an (S p).louds m (S p).fl (S p).H)).all (fun r => ∃ T', putN n (S p).T o.dst r.1 = some T' ∧ (planN E call n base ops an (p + 1) (ops.toList.drop (p + 1)) { T := T', H := r.2, fl := (S p).fl, louds := (S p).louds ||| 2 ^ p, hist := ((S p).louds ||| 2 ^ p, r.2) :: (S p).hist, reads := (S p).reads }).all Q))
    (hanc : ∀ j, Anc an p j → D j = true) (hlow : ∀ j, Anc an p j → j < p)
    (hslot : ∀ o, ops[p]? = some o → ∀ t ∈ looks ops o ++ o.dst.toList, SlotOK ops an p t) {Qx : Exit → Act → World → Prop} {K : Act → World → Prop}
    (hK : ∀ ex' S' val' p' q' ρ' T' a' w', Plan E call n base ops an ex' S' val' p' → NextOp E call n base ops an Q (S' p') p' → (∀ j, ex' j = true → j < p') → (∀ j, ex' j = true → (D j || j == p) = true) → Inv E call n base ops an S' val' p' ds ρ₀ A₀ w₀ (fun j => D j || j == p) q' ρ' T' a' w' → K a' w') : wpOpIn (FR rr) 0 P ops Qx p K a w := by
  have hslot := hslot o ho
  have hDp : D p = false := by
    cases hd : D p with
    | false => rfl
    | true => have := h.lt p hd; omega
  have hdst : ∀ t, dstAt ops p = some t → SlotOK ops an p t := fun t ht => hslot t (by
    simp only [dstAt, ho, Option.bind_some] at ht
    simp [ht])
  have hlook : ∀ t ∈ looks ops o, tget T t = tget (S p).T t := fun t ht => by
    rw [h.tm t, hp.sv_all (Nat.le_refl _) t]
    exact sv_look (hslot t (by simp [ht])) hDp hanc h.cl (Nat.le_refl _)
  have hopr : ∀ t, Operand.tmp t ∈ o.op.operands.toList → tget T t = tget (S p).T t := fun t ht => hlook t (by
    unfold looks
    exact List.mem_append_left _ (tmpsOf_mem ht))
  have hRz := Z.step hZ h.step
  have hst0 : ∀ j, (S p).louds.testBit j = true → (D j = true ↔ j < p) := fun j hj => ⟨fun hd => h.lt j hd, fun _ => hanc j ⟨m, hm, hlm j hj⟩⟩
  unfold wpOpIn
  rw [ho]
  simp only []
  rw [wanted_sound h.rel, wantedA_congr hlook, hw, if_pos rfl]
  rw [← oneOp_congr hopr] at hone
  obtain ⟨eH, eL, hview, hsub, hnx⟩ := h.view_at hp (Nat.le_refl _) hanc hlow hm hst0
  refine oneOp_sound hE hZr hcall (Z.sub hRz hsub hnx) h.rel (o := o) hone ?_
  rintro v A2 v' w' ρ' ⟨T1, hput, htree⟩ hvr hst
  have hp1 := hp.snoc (ex' := fun j => ex j || j == p) (fun j hj => by simp [hj]) ho (m := m) (v := v) (s' := { T := T1, H := A2, fl := (S p).fl, louds := (S p).louds ||| 2 ^ p, hist := ((S p).louds ||| 2 ^ p, A2) :: (S p).hist, reads := (S p).reads }) hm hput (.loudN (by simp) hlm rfl rfl rfl rfl)
  obtain ⟨p', S', val', hp', hle, hS, hv, hnxt⟩ := planN_run (Q := Q) _ (p + 1) _ _ hp1 rfl (by rw [if_neg (by omega)]; exact htree)
  have hS0 : ∀ x, x ≤ p → S' x = S x := fun x hx => by rw [hS x (by omega)]; exact if_pos hx
  have hS1 : S' (p + 1) = { T := T1, H := A2, fl := (S p).fl, louds := (S p).louds ||| 2 ^ p, hist := ((S p).louds ||| 2 ^ p, A2) :: (S p).hist, reads := (S p).reads } := by rw [hS _ (Nat.le_refl _)]; exact if_neg (by omega)
  have hvp : val' p = v := by rw [hv p (by omega)]; exact if_pos rfl
  have h' := h.extend hp hp' (by omega) hS0 (fun x hx => by rw [hv x (by omega)]; exact if_neg (by omega))
  have hSp := hS0 p (Nat.le_refl _)
  have hst0' : ∀ j, (S' p').louds.testBit j = true → (D j = true ↔ j < p) := fun j hj => by
    constructor
    · exact fun hd => h.lt j hd
    · intro hjp
      refine (hst0 j ?_).2 hjp
      have : (S' p).louds.testBit j = true := (hp'.louds_iff (by omega)).2 ⟨hjp, hj⟩
      rwa [hSp] at this
  obtain ⟨T', hinv⟩ := h'.loud hp' hbase (i := p) (H' := A2) (T1 := T1) (by omega) ho hDp hanc hlow hm hst0' hdst (by rw [hS1]) (by rw [hS1, hSp]) (by rw [hS1, hSp]) (by rw [hSp, hvp]; exact hput) (by rw [hvp]; exact hvr) (by rw [hSp]; exact hst)
  refine hK _ S' val' p' _ ρ' T' _ w' hp' hnxt (fun j hj => ?_) (fun j hj => ?_) hinv
  · simp only [Bool.or_eq_true, beq_iff_eq] at hj
    rcases hj with hj | rfl
    · have := hex j hj; omega
    · omega
  · simp only [Bool.or_eq_true, beq_iff_eq] at hj ⊢
    exact hj.imp (hexd j) id

theorem allBehind_spec {i : Nat} : ∀ {l : List Nat}, allBehind i l = true → ∀ (k m : Nat), l[k]? = some m → m.testBit i = true
  | [], _, k, m, h => by simp at h
  | x :: l, h, k, m, hk => by
    unfold allBehind at h
    rw [Bool.and_eq_true] at h
    cases k with
    | zero => simp at hk; subst hk; exact h.1
    | succ k => exact allBehind_spec h.2 k m (by simpa using hk)

theorem any_sound {Z : Road} (hE : EnvOK E P) (hZr : RoadRo Z E) (hcall : CallSound Z P call) (hZ : Z.reach ρ₀ A₀ w₀) {Q : PSt → Prop} (hreg : regOK ops (ancs ops.toList []) ops.toList 0 ops.toList = true)
    (hbase : base = A₀.next) {Qx : Exit → Act → World → Prop}
    (hQ : ∀ s, Q s → readsOK E base (ancs ops.toList []) s s.reads = true)
    (hfin : ∀ (ex : Nat → Bool) (S : Nat → PSt) (val : Nat → Value) (D : Nat → Bool) q ρ T a w, Plan E call n base ops (ancs ops.toList []) ex S val ops.size → Q (S ops.size) → Inv E call n base ops (ancs ops.toList []) S val ops.size ds ρ₀ A₀ w₀ D q ρ T a w → (∀ i, i < ops.size → D i = true) → Qx .normal a w) :
    ∀ (fuel : Nat) (listed : Array Bool) (ex : Nat → Bool) (S : Nat → PSt) (val : Nat → Value) (p q : Nat) (ρ : Ren) (T : Tmps) (a : Act) (w : World), listed.size = ops.size → left (fun i => listed.getD i false) ops.size ≤ fuel →
      Plan E call n base ops (ancs ops.toList []) ex S val p → NextOp E call n base ops (ancs ops.toList []) Q (S p) p → (∀ j, ex j = true → j < p) → (∀ j, ex j = true → listed.getD j false = true) →
      Inv E call n base ops (ancs ops.toList []) S val p ds ρ₀ A₀ w₀ (fun i => listed.getD i false) q ρ T a w → wpAnyIn (FR rr) 0 P .any ops Qx fuel listed a w := by
  intro fuel
  -- all is done
  have done : ∀ (ex : Nat → Bool) (S : Nat → PSt) (val : Nat → Value) (p q : Nat) (D : Nat → Bool) (ρ : Ren) (T : Tmps) (a : Act) (w : World), Plan E call n base ops (ancs ops.toList []) ex S val p → NextOp E call n base ops (ancs ops.toList []) Q (S p) p →
      Inv E call n base ops (ancs ops.toList []) S val p ds ρ₀ A₀ w₀ D q ρ T a w → (∀ i, i < ops.size → D i = true) → Qx .normal a w := by
    intro ex S val p q D ρ T a w hp hn h hall
    cases hn with
    | fin e hq => subst e; exact hfin ex S val D q ρ T a w hp hq h hall
    | many o m ho =>
      have hlt := (Array.getElem?_eq_some_iff.1 ho).1
      have := h.lt p (hall p hlt)
      omega
  induction fuel with
  | zero =>
    intro listed ex S val p q ρ T a w hs hl hp hn hex hexd h
    have hall := left_zero (Nat.le_zero.1 hl)
    refine ⟨?_, done _ _ _ _ _ _ _ _ _ _ hp hn h hall⟩
    cases hr : Region.ready .any ops listed with
    | nil => rfl
    | cons i l =>
      have hm : i ∈ Region.ready .any ops listed := by rw [hr]; simp
      obtain ⟨h1, h2, _⟩ := ready_mem.1 hm
      have := hall i h1
      simp only [Array.getD_eq_getD_getElem?] at this h2
      have e : listed[i]? = some listed[i] := by simp [hs, h1]
      rw [e] at this h2
      simp at this h2
      rw [this] at h2; cases h2
  | succ fuel ih =>
    intro listed ex S val p q ρ T a w hs hl hp hn hex hexd h
    have hfalse : ∀ i, i < ops.size → listed.getD i false = listed.getD i true := fun i hi => by
      simp only [Array.getD_eq_getD_getElem?]
      have e : listed[i]? = some listed[i] := by simp [hs, hi]
      rw [e]; rfl
    have hord : ∀ i o, ops[i]? = some o → ∀ e ∈ o.after.toList, Region.binds .any e = true → e.on < i := fun i o ho e he hb => by
      have := (regOK_spec hreg i o (by simpa using ho)).1
      rw [Nat.zero_add] at this
      exact edgesOK_spec this e he hb
    refine ⟨fun hr => done _ _ _ _ _ _ _ _ _ _ hp hn h ?_, fun i hi => ?_⟩
    · intro i
      induction i using Nat.strongRecOn with
      | ind i ihi =>
        intro hi
        cases hd : listed.getD i false with
        | true => rfl
        | false =>
          have : i ∈ Region.ready .any ops listed := ready_mem.2 ⟨hi, by rw [← hfalse i hi]; exact hd, ops[i], by simp [hi], fun e he hb => by
            have hlt := hord i ops[i] (by simp [hi]) e he hb
            exact ihi e.on hlt (by omega)⟩
          rw [hr] at this; simp at this
    · obtain ⟨hilt, hDi, o, ho, hedges⟩ := ready_mem.1 hi
      rw [← hfalse i hilt] at hDi
      have hanc : ∀ j, Anc (ancs ops.toList []) i j → listed.getD j false = true := by
        rintro j ⟨m, hm, hmj⟩
        obtain ⟨m', hm', hall⟩ := ancs_at ops.toList (i := i) (o := o) (by simpa using ho)
        rw [hm] at hm'; cases hm'
        obtain ⟨e, he, hb, hej⟩ := hall j hmj
        rcases hej with rfl | ⟨_, hej⟩
        · exact hedges e he hb
        · exact h.cl e.on (hedges e he hb) j hej
      have hlow : ∀ i j, Anc (ancs ops.toList []) i j → j < i := by
        intro i
        induction i using Nat.strongRecOn with
        | ind i ihi =>
          rintro j ⟨m, hm, hmj⟩
          have hin : i < ops.toList.length := by
            obtain ⟨r, h1, h2, _⟩ := ancs_spec ops.toList []
            rw [nth_eq, h1] at hm
            have := (List.getElem?_eq_some_iff.1 hm).1
            simp at this
            simp; simp at h2; omega
          obtain ⟨m', hm', hall⟩ := ancs_at ops.toList (i := i) (o := ops.toList[i]) (by simp [hin])
          rw [hm] at hm'; cases hm'
          obtain ⟨e, he, hb, hej⟩ := hall j hmj
          have hlt := hord i ops.toList[i] (by simp at hin; simp [hin]) e he hb
          rcases hej with rfl | ⟨_, hej⟩
          · exact hlt
          · have := ihi e.on hlt j hej; omega
      have hslot : ∀ o, ops[i]? = some o → ∀ t ∈ looks ops o ++ o.dst.toList, SlotOK ops (ancs ops.toList []) i t := by
        intro o ho t ht k hk
        have h1 := (regOK_spec hreg i o (by simpa using ho)).2 t ht
        rw [Nat.zero_add] at h1
        unfold dstAt at hk
        cases hok : ops[k]? with
        | none => rw [hok] at hk; cases hk
        | some ok =>
          rw [hok, Option.bind_some] at hk
          have := slotOK_spec h1 k ok (by simpa using hok) hk
          rw [Nat.zero_add] at this
          exact this
      have hD : (fun j => (listed.setIfInBounds i true).getD j false) = fun j => listed.getD j false || j == i := by
        funext j
        simp only [Array.getD_eq_getD_getElem?]
        by_cases e : j = i
        · subst e
          simp [hs, hilt]
        · rw [Array.getElem?_setIfInBounds_ne (Ne.symm e)]
          have : (j == i) = false := by simpa using e
          simp [this]
      have hDj : ∀ j, (listed.setIfInBounds i true).getD j false = (listed.getD j false || j == i) := fun j => congrFun hD j
      have hmeas : left (fun j => (listed.setIfInBounds i true).getD j false) ops.size ≤ fuel := by
        rw [hD]
        have := left_upd (D := fun i => listed.getD i false) (i := i) hDi (k := ops.size)
        rw [if_pos hilt] at this
        omega
      by_cases hip : i < p
      · have hreads : readsOK E base (ancs ops.toList []) (S p) (S p).reads = true := by
          cases hn with
          | fin e hq => exact hQ _ hq
          | many o m _ _ _ _ _ hr => exact hr
        refine step_sound hE hZr hcall hZ hp hreads h hbase hexd hip hDi hanc (hlow i) hslot ?_
        intro q' ρ' T' a' w' hinv
        refine ih _ ex S val p q' ρ' T' a' w' (by simpa using hs) hmeas hp hn hex (fun j hj => ?_) (by rw [hD]; exact hinv)
        rw [hDj, hexd j hj]; rfl
      · cases hn with
        | fin e hq => omega
        | many o m ho hm hw hlm hbeh hr hone =>
          have hpi : i = p := by
            by_cases e : i = p
            · exact e
            · exfalso
              have hgt : p < i := by omega
              obtain ⟨m', hm', _⟩ := ancs_at ops.toList (i := i) (o := ops[i]) (by simp [hilt])
              have hb := allBehind_spec hbeh (i - (p + 1)) m' (by rw [List.getElem?_drop, show p + 1 + (i - (p + 1)) = i by omega, ← nth_eq]; exact hm')
              have := hanc p ⟨m', hm', hb⟩
              have := h.lt p this
              omega
          subst hpi
          refine many_sound hE hZr hcall hZ hp h hbase hex hexd ho hm hw hlm hone hanc (hlow i) hslot ?_
          intro ex' S' val' p' q' ρ' T' a' w' hp' hn' hex' hexd' hinv
          refine ih _ ex' S' val' p' q' ρ' T' a' w' (by simpa using hs) hmeas hp' hn' hex' (fun j hj => ?_) (by rw [hD]; exact hinv)
          rw [hDj]; exact hexd' j hj

end

theorem draw_any {Z : Road} {E : Env} {P : Program} (hE : EnvOK E P) (hZr : RoadRo Z E) {call : Tgt → List Value → ASt → Nd (Value × ASt)} (hcall : CallSound Z P call) {n : Nat} {ops : Array Oper} {T : Tmps} {A : ASt} {Q : Tmps × ASt → Prop} (hQ : (drawRun E call n ops T A).all Q)
    {ρ : Ren} {w : World} {a : Act} {N : Nat} {rr : Option Nat} (hZ : Z.reach ρ A w) (ht : TRel ρ T a) (hn : a.tmps.size = n) (hd : Defs N w a.defers) :
    wpAnyIn (FR rr) 0 P .any ops (fun e a' w' => e = .normal ∧ ∃ T' A', Q (T', A') ∧ After ρ A w n N T' A' a' w') ops.size (Array.replicate ops.size false) a { w with drawn := w.drawn + 1 } := by
  have hR := Z.rep hZ
  unfold drawRun at hQ
  simp only [fN_eq] at hQ
  cases hreg : regOK ops (ancs ops.toList []) ops.toList 0 ops.toList with
  | false => rw [hreg] at hQ; exact hQ.elim
  | true =>
    rw [hreg, cond_true] at hQ
    have hQ' := Nd.all_bind _ hQ
    have hp0 : Plan E call n A.next ops (ancs ops.toList []) (fun _ => false) (fun _ => { T, H := { heap := A.heap, next := A.next + ops.toList.length }, fl := [], louds := 0, hist := [(0, { heap := A.heap, next := A.next + ops.toList.length })], reads := [] }) (fun _ => undef) 0 :=
      ⟨Nat.zero_le _, fun i o hi => by omega, rfl, rfl, rfl⟩
    obtain ⟨p, S, val, hp, _, hS, _, hnxt⟩ := planN_run _ 0 _ _ hp0 rfl hQ'
    have hS0 := hS 0 (Nat.le_refl _)
    have hst : Step ρ A w ρ { A with next := A.next + ops.toList.length } { w with drawn := w.drawn + 1 } := (Step.bump hR _).trans (Step.drew (Step.bump hR _).rep)
    have hsz : (Array.replicate ops.size false).size = ops.size := by simp
    have hD0 : ∀ j, (Array.replicate ops.size false).getD j false = false := by
      intro j
      simp only [Array.getD_eq_getD_getElem?]
      rw [Array.getElem?_replicate]
      split <;> rfl
    have hH : (S 0).H = { A with next := A.next + ops.toList.length } := by rw [hS0]
    refine any_sound (ds := a.defers) (base := A.next) (A₀ := A) (w₀ := w) (ρ₀ := ρ) hE hZr hcall hZ (Q := fun s => (cond (readsOK E A.next (ancs ops.toList []) s s.reads) (Nd.ret (s.T, addFl A.next (fun f => !takenAt s.louds f 0 (ancs ops.toList [])) s.fl s.H)) (.fail "draw: a read hangs on the order") : Nd (Tmps × ASt)).all Q) hreg rfl (fun s hs => ?_) ?_ ops.size _ (fun _ => false) S val p 0 ρ T a _ hsz (left_le _ _) hp hnxt (fun j hj => by cases hj) (fun j hj => by cases hj) ?_
    · cases hc : readsOK E A.next (ancs ops.toList []) s s.reads with
      | true => rfl
      | false => rw [hc] at hs; exact hs.elim
    · intro ex S val D q ρ' T' a' w' hp hq h hall
      cases hc : readsOK E A.next (ancs ops.toList []) (S ops.size) (S ops.size).reads with
      | false => rw [hc] at hq; exact hq.elim
      | true =>
        rw [hc, cond_true] at hq
        refine ⟨rfl, (S ops.size).T, _, hq, ρ', ?_, ?_, h.size, by rw [h.defers]; exact hd.step hR h.step⟩
        · refine h.rel.congr fun t => ?_
          have h1 := hp.sv_all (Nat.le_refl _) t
          rw [h.tm t, h1]
          have : ∀ k, k ≤ ops.size → sv ops val (S 0).T (fun _ => true) k t = sv ops val (S 0).T D k t := by
            intro k
            induction k with
            | zero => intro _; rfl
            | succ k ih =>
              intro hk
              rw [sv_succ, sv_succ, ih (by omega), hall k (by omega)]
          exact this _ (Nat.le_refl _)
        · obtain ⟨eH, eL⟩ := hp.stages (q := ops.size) (q' := q) (Nat.le_refl _) h.le (fun j hj => by
            have := hp.louds_lt (Nat.le_refl _) hj
            have h2 := h.stage j hj
            have h3 := hall j this
            constructor
            · intro _; exact h2.1 h3
            · intro _; exact this)
          refine h.step.congr (fun b => ?_) ?_
          · rw [addFl_get, addFl_get, ← eH, ← eL]
            cases hf : flGet (S ops.size).fl (b - A.next) with
            | none => simp
            | some ob =>
              have hlt : b - A.next < ops.size := by
                rcases Nat.lt_or_ge (b - A.next) ops.size with h' | h'
                · exact h'
                · have := hp.fl_lt (Nat.le_refl _) h'
                  rw [hf] at this; cases this
              simp only [hall _ hlt, Bool.and_true]
          · rw [addFl_next, addFl_next, eH]
    · refine ⟨Nat.zero_le _, fun j hj => (by rw [hD0] at hj; cases hj), fun j hj => ?_, fun t => ?_, ht, ?_, fun f hf _ => hR.fresh _ (by omega), fun f hf _ => ?_, ?_, hn, rfl, fun j hj => ?_⟩
      · rw [hD0]; simp
      · have : ∀ k, sv ops val (S 0).T (fun i => (Array.replicate ops.size false).getD i false) k t = tget (S 0).T t := by
          intro k
          induction k with
          | zero => rfl
          | succ k ih => rw [sv_succ, ih, hD0]; simp
        rw [this, hS0]
      · refine hst.congr (fun b => ?_) ?_
        · rw [addFl_get, hH, if_neg]
          rw [hD0]; simp
        · rw [addFl_next, hH]
      · rw [hH]
        have : A.get (A.next + f) = none := by
          cases hg : A.get (A.next + f) with
          | none => rfl
          | some x =>
            obtain ⟨L, hL, _⟩ := hR.obj _ _ hg
            rw [hR.fresh _ (by omega)] at hL; cases hL
        exact this
      · rw [hH]; simp
      · rw [hD0] at hj; cases hj

theorem draw_sound {Z : Road} {E : Env} {P : Program} (hE : EnvOK E P) (hZr : RoadRo Z E) (hm : P.follows .mixedOrders = true) : DrawSound Z E P := by
  intro call hcall n id ops T A Q hQ ρ w a N rr hZ ht hn hd
  exact wpIn_region_any hm (draw_any hE hZr hcall hQ hZ ht hn hd)

end Go.AE

/- The evaluator: what a run that ends 'true' says of the call. -/
namespace Go.AE
open Go Go.RowKit Go.ChangeShapes Go.WideShapes

noncomputable def tiOf (P : Program) (t : TypeId) : Option TIn :=
  match P.info? t, P.underlying t with
  | some i, some d => some { desc := d, size := i.size, bytes := i.bytes, zero := i.zero, methods := i.methods, named := none }
  | _, _ => none

noncomputable def fnOf (P : Program) (f : FuncId) : Option Func :=
  match P.funcs[f]? with
  | some g => cond (g.body.isSome && !(g.name == "runtime.NumGoroutine")) (some g) none
  | none => none

abbrev ExtTab := List (FuncId × (Array Value → Sem Value))

noncomputable def extOf (P : Program) : ExtTab → FuncId → Option (List Value → Option Value)
  | [], _ => none
  | (g, e) :: l, f => cond (Nat.beq f g) (some fun args => pureRun P (e args.toArray)) (extOf P l f)

noncomputable def ExtOK (P : Program) (tab : ExtTab) : Prop := ∀ x ∈ tab, ∃ fn, P.funcs[x.1]? = some fn ∧ (fn.name == "runtime.NumGoroutine") = false ∧ fn.body.isNone = true ∧ Extern.findNext fn = none ∧ Extern.find fn = some x.2

theorem extOK_nil (P : Program) : ExtOK P [] := fun _ h => by cases h

theorem extOK_cons {P : Program} {tab : ExtTab} {f : FuncId} {e : Array Value → Sem Value} (fn : Func) (h1 : P.funcs[f]? = some fn) (h2 : (fn.name == "runtime.NumGoroutine") = false) (h3 : fn.body.isNone = true) (h4 : Extern.findNext fn = none) (h5 : Extern.find fn = some e) (h : ExtOK P tab) : ExtOK P ((f, e) :: tab) := fun x hx => by
  rcases List.mem_cons.1 hx with rfl | hx
  · exact ⟨fn, h1, h2, h3, h4, h5⟩
  · exact h x hx

theorem pureRun_sound {α : Type} {P : Program} : ∀ {s : Sem α} {a : α}, pureRun P s = some a → ∀ w, s.run P w = .ok a w
  | .pure _, _, h, w => by cases h; rfl
  | .program k, a, h, w => pureRun_sound (s := k P) h w
  | .mark _ k, a, h, w => pureRun_sound (s := k) h w

theorem extOf_ok {P : Program} : ∀ {tab : ExtTab}, ExtOK P tab → ∀ f g, extOf P tab f = some g → ∀ args v, g args = some v → ∀ w, (callFunc f args.toArray).run P w = .ok (.value v) w
  | [], _, f, g, h, _, _, _, _ => by cases h
  | (g', e) :: l, ht, f, g, h, args, v, hv, w => by
    unfold extOf at h
    cases hb : Nat.beq f g' with
    | true =>
      rw [hb, cond_true] at h
      have hfg := Nat.eq_of_beq_eq_true hb
      subst hfg
      cases h
      obtain ⟨fn, h1, h2, h3, h4, h5⟩ := ht (f, e) (by simp)
      rw [run_callFunc_extern h1 h2 h3 h4 h5, pureRun_sound hv w]
      rfl
    | false =>
      rw [hb, cond_false] at h
      exact extOf_ok (fun x hx => ht x (by simp [hx])) f g h args v hv w

abbrev HookTab := FuncId → List Value → ASt → Option (Nd (Value × ASt))
noncomputable def noHook : HookTab := fun _ _ _ => none

noncomputable def envOf (P : Program) (tab : ExtTab) (hk : HookTab) : Env := { ti := tiOf P, fn := fnOf P, ext := extOf P tab, hook := hk, bin := fun op t xo yo x y => pureRun P (do eqGuard op t xo yo x y; binOp op t x y), ro := fun _ => none }

theorem tiOf_ok {P : Program} {t : TypeId} {i : TIn} (h : tiOf P t = some i) : ∃ j, P.info? t = some j ∧ P.underlying t = some i.desc ∧ j.size = i.size ∧ j.bytes = i.bytes ∧ j.zero = i.zero ∧ j.methods = i.methods := by
  unfold tiOf at h
  split at h
  · rename_i j d hj hd
    cases h
    exact ⟨j, hj, hd, rfl, rfl, rfl, rfl⟩
  · cases h

theorem fnOf_ok {P : Program} {f : FuncId} {g : Func} (h : fnOf P f = some g) : P.funcs[f]? = some g ∧ g.body.isSome = true ∧ (g.name == "runtime.NumGoroutine") = false := by
  unfold fnOf at h
  split at h
  · rename_i g' hg
    cases hb : (g'.body.isSome && !(g'.name == "runtime.NumGoroutine")) with
    | false => rw [hb] at h; cases h
    | true =>
      rw [hb] at h; cases h
      rw [Bool.and_eq_true, Bool.not_eq_true'] at hb
      exact ⟨hg, hb.1, hb.2⟩
  · cases h

theorem envOf_ok {P : Program} {tab : ExtTab} {hk : HookTab} (ht : ExtOK P tab) : EnvOK (envOf P tab hk) P := ⟨fun _ _ h => tiOf_ok h, fun _ _ h => fnOf_ok h, fun _ _ _ _ _ _ _ h w => pureRun_sound h w, extOf_ok ht⟩

noncomputable def allTo (p : Nat → Bool) : Nat → Bool
  | 0 => true
  | k + 1 => p k && allTo p k

theorem allTo_spec {p : Nat → Bool} : ∀ {k : Nat}, allTo p k = true → ∀ i, i < k → p i = true
  | 0, _, i, hi => by omega
  | k + 1, h, i, hi => by
    unfold allTo at h
    rw [Bool.and_eq_true] at h
    by_cases e : i = k
    · rw [e]; exact h.1
    · exact allTo_spec h.2 i (by omega)

noncomputable def ends (q : Value → Bool) : Nd Out → Bool
  | .ret (.res v _) => q v
  | .ret (.fr _) => false
  | .ask n k => allTo (fun i => ends q (k i)) n
  | .fail _ => false
  | .pick _ _ => false

theorem ends_all {q : Value → Bool} : ∀ {m : Nd Out}, ends q m = true → m.all fun o => ∃ v A, o = .res v A ∧ q v = true
  | .ret (.res v A), h => ⟨v, A, rfl, h⟩
  | .ret (.fr _), h => by cases h
  | .ask n k, h => fun i hi => ends_all (allTo_spec (show allTo (fun i => ends q (k i)) n = true from h) i hi)
  | .fail _, h => by cases h
  | .pick _ _, h => by cases h

noncomputable def isTrueV : Value → Bool
  | .bool true => true
  | _ => false

noncomputable def rawRen (raws : List Value) : Ren := fun k => match raws[k]? with
  | some v => some ⟨0, 0, 0, 0, v⟩
  | none => none
noncomputable def startAt (n : Nat) : ASt := { heap := .e, next := n }

theorem rep_start (raws : List Value) (w : World) : Rep (rawRen raws) (startAt raws.length) w := by
  refine ⟨fun b o h => ?_, fun b b' o o' L L' _ h => ?_, fun b hb => ?_⟩
  · cases h
  · cases h
  · unfold rawRen
    rw [List.getElem?_eq_none hb]

theorem Step.below {ρ ρ' : Ren} {n : Nat} {A' : ASt} {w w' : World} (h : Step ρ (startAt n) w ρ' A' w') : Below w.heap.size w w' := by
  have hno : ∀ B j, ¬ Owned ρ (startAt n) B j := by
    rintro B j ⟨b, o, L, hb, _⟩
    cases hb
  refine ⟨h.os, h.tape, h.output, h.size, fun k hk => ?_⟩
  have hget : w.heap[k]? = some w.heap[k] := by simp [hk]
  cases ho : w.heap[k] with
  | cells c el fr =>
    rw [ho] at hget
    obtain ⟨c', h1, h2, h3⟩ := h.cells k c el fr hget
    rw [hget, h1]
    have : c' = c := Array.ext_getElem? fun j => h3 j (hno k j)
    rw [this]
  | _ =>
    rw [ho] at hget
    rw [hget]
    exact h.objs k _ hget (by simp) (hno k 0)

theorem Step.sub {ρ₀ ρ : Ren} {A₀ A G : ASt} {w₀ w : World} (h : Step ρ₀ A₀ w₀ ρ A w) (hs : ∀ b o, G.get b = some o → A.get b = some o) (hn : G.next = A.next) : Step ρ₀ A₀ w₀ ρ G w :=
  ⟨⟨h.rep.sub hs hn, h.ext, by rw [hn]; exact h.next, h.size, h.os, h.tape, h.output, h.drawn, h.cells, h.objs, fun B j hB ho => h.owns B j hB (ho.sub hs)⟩, h.keep, fun b hb hd => by
    cases hg : G.get b with
    | none => rfl
    | some o =>
      have h1 := hs b o hg
      rw [h.dom b hb hd] at h1
      cases h1⟩

noncomputable def roadFrom (ρ₀ : Ren) (A₀ : ASt) (w₀ : World) : Road := { reach := fun ρ A w => Step ρ₀ A₀ w₀ ρ A w, rep := fun h => h.rep, step := fun h k => h.trans k, sub := fun h hs hn => h.sub hs hn }

noncomputable abbrev roadRaw (raws : List Value) (w : World) : Road := roadFrom (rawRen raws) (startAt raws.length) w

theorem hook_none {Z : Road} {P : Program} {tab : ExtTab} : HookOK Z (envOf P tab noHook) P := fun f args A r h => by cases h

/-! ### the row of a law -/
section
variable {H : Type} {enc : TypeId × Value → H} {P : Program}

theorem trodAll_stays (hl : laidOutB P = true) {W W' : World} (hb : Below W.heap.size W W') : ∀ {ts : List TypeId} {vs : List Value} {ds : List (DataW H)} {p : List MemPlace}, (∀ t ∈ ts, P.readableRec t = true ∧ t < P.types.size) →
    DataW.TrodAll enc P W 0 (fun _ => true) true ts vs ds p → (∀ x ∈ p, x.block < W.heap.size) → DataW.TrodAll enc P W' 0 (fun b => decide (b < W.heap.size)) true ts vs ds p
  | [], _, _, _, _, h, _ => by
    obtain ⟨rfl, rfl, rfl⟩ := trodAll_nil h
    exact h
  | t :: ts, _, _, _, ht, h, hlt => by
    obtain ⟨v, vs1, d, ds1, a, b, rfl, rfl, rfl, h1, h2⟩ := trodAll_cons h
    exact ⟨a, b, Below.trod hl (ht t (by simp)).1 (ht t (by simp)).2 h1 hb (fun x hx => hlt x (by simp [hx])), trodAll_stays hl hb (fun t' h' => ht t' (by simp [h'])) h2 (fun x hx => hlt x (by simp [hx])), rfl⟩

theorem law_post {f : Func} {s : ChangeSpec} {apart fresh : Bool} {W W' : World} {args : Array Value} {ds gs : List (DataW H)} {before : List MemPlace} {t : TypeId}
    (hl : laidOutB P = true) (hr : ∀ t ∈ f.params.toList, P.readableRec t = true ∧ t < P.types.size)
    (hW : DataW.Whole enc P f.params.toList s.vars apart W args.toList ds gs before) (hvars : s.vars = [])
    (hb : Below W.heap.size W W') (hres : f.resultTypes = #[t]) (ht : P.underlying t = some .bool) (hfn : gs = [] → s.fn H (ds ++ gs) = { results := [.lit (.bool true)], args := ds }) :
    s.post enc P f apart fresh false false W args (.bool true) W' := by
  have hW' := hW
  obtain ⟨p, q, hA, hV, hpq, hfz, hnd⟩ := hW
  have hlt : ∀ x ∈ p, x.block < W.heap.size := fun x hx => by
    have := hW'.lt x (by rw [hpq]; simp [hx])
    simpa using this
  rw [hvars] at hV
  obtain ⟨rfl, rfl⟩ := trodVars_none hV
  have hf := hfn rfl
  refine ⟨ds, [], before, [], p, [], hW', ?_, ?_, ?_, hb.frame _, fun h => by cases h⟩
  · rw [hf, hres]
    exact trodAll_mk1 (shut_bool ht true)
  · rw [hf]
    exact trodAll_stays hl hb hr hA hlt
  · rw [hf, hvars]
    rfl

end

end Go.AE

/- The evaluator: what is so behind code, whatever the loops do, by what stays so. -/
namespace Go.AE
open Go

section
variable {Z : Road} {E : Env} {P : Program}

noncomputable def CodeW (Z : Road) (P : Program) (n : Nat) (ro : Option Nat) (c : Code) (T : Tmps) (A : ASt) (Q : Out → Prop) : Prop :=
  ∀ ρ w a N rr, Z.reach ρ A w → RoRel ρ ro rr → TRel ρ T a → a.tmps.size = n → Defs N w a.defers → c.wpIn (FR rr) 0 P (CodePost Q ρ A w n N) a w

noncomputable def CallW (Z : Road) (P : Program) (f : FuncId) (args : List Value) (A : ASt) (Q : Value → ASt → Prop) : Prop :=
  ∀ ρ w (args' : Array Value), Z.reach ρ A w → VsRel ρ args args'.toList →
    Calls P f args' w fun e w' => ∃ v A' v' ρ', Q v A' ∧ e = .returned v' ∧ VRel ρ' v v' ∧ Step ρ A w ρ' A' w'

theorem CallW.mono {f : FuncId} {args : List Value} {A : ASt} {Q Q' : Value → ASt → Prop} (h : CallW Z P f args A Q) (hq : ∀ v A', Q v A' → Q' v A') : CallW Z P f args A Q' :=
  fun ρ w args' h1 h2 => (h ρ w args' h1 h2).mono fun e w' ⟨v, A', v', ρ', hq', rest⟩ => ⟨v, A', v', ρ', hq v A' hq', rest⟩

theorem CodePost.mono {Q Q' : Out → Prop} (hq : ∀ o, Q o → Q' o) {ρ : Ren} {A : ASt} {w : World} {n N : Nat} {e : Exit} {a' : Act} {w' : World} (h : CodePost Q ρ A w n N e a' w') : CodePost Q' ρ A w n N e a' w' :=
  let ⟨ex, T', A', h1, h2⟩ := h
  ⟨ex, T', A', hq _ h1, h2⟩

theorem CodeW.mono {n : Nat} {ro : Option Nat} {c : Code} {T : Tmps} {A : ASt} {Q Q' : Out → Prop} (h : CodeW Z P n ro c T A Q) (hq : ∀ o, Q o → Q' o) : CodeW Z P n ro c T A Q' :=
  fun ρ w a N rr h1 h2 h3 h4 h5 => wpIn_mono (h ρ w a N rr h1 h2 h3 h4 h5) fun _ _ _ h => h.mono hq

theorem CodeW.slots {n : Nat} {ro : Option Nat} {c : Code} {T T' : Tmps} {A : ASt} {Q : Out → Prop} (h : CodeW Z P n ro c T' A Q) (e : ∀ t, tget T' t = tget T t) : CodeW Z P n ro c T A Q :=
  fun ρ w a N rr h1 h2 h3 h4 h5 => h ρ w a N rr h1 h2 (h3.congr e) h4 h5

theorem CodeW.of_run (hE : EnvOK E P) (hZr : RoadRo Z E) (hH : HookOK Z E P) (hm : P.follows .mixedOrders = true) {fuel n : Nat} {ro : Option Nat} {c : Code} {T : Tmps} {A : ASt} {Q : Out → Prop} (h : (run E fuel (.code n ro c T A)).all Q) : CodeW Z P n ro c T A Q :=
  (run_sound hE hZr hH (draw_sound hE hZr hm) fuel).code n ro c T A Q h

theorem CallW.of_run (hE : EnvOK E P) (hZr : RoadRo Z E) (hH : HookOK Z E P) (hm : P.follows .mixedOrders = true) {fuel : Nat} {f : FuncId} {args : List Value} {A : ASt} {Q : Value → ASt → Prop} (h : (callBy (run E fuel) (.fn f) args A).all fun r => Q r.1 r.2) : CallW Z P f args A Q :=
  fun ρ w args' h1 h2 => (run_sound hE hZr hH (draw_sound hE hZr hm) fuel).call (.fn f) args A _ h ρ w args' h1 h2

theorem CodeW.skip {n : Nat} {ro : Option Nat} {T : Tmps} {A : ASt} {Q : Out → Prop} (h : Q (.fr ⟨.normal, T, A⟩)) : CodeW Z P n ro .skip T A Q :=
  fun ρ w a N rr hR hro ht hn hd => wpIn_skip ⟨.normal, T, A, h, trivial, ρ, ht, .refl (Z.rep hR), hn, hd⟩
theorem CodeW.ret {n : Nat} {ro : Option Nat} {T : Tmps} {A : ASt} {Q : Out → Prop} (h : Q (.fr ⟨.ret, T, A⟩)) : CodeW Z P n ro .ret T A Q :=
  fun ρ w a N rr hR hro ht hn hd => wpIn_ret ⟨.ret, T, A, h, trivial, ρ, ht, .refl (Z.rep hR), hn, hd⟩
theorem CodeW.exit {n id : Nat} {ro : Option Nat} {T : Tmps} {A : ASt} {Q : Out → Prop} (h : Q (.fr ⟨.exit id, T, A⟩)) : CodeW Z P n ro (.exit id) T A Q :=
  fun ρ w a N rr hR hro ht hn hd => wpIn_exit ⟨.exit id, T, A, h, rfl, ρ, ht, .refl (Z.rep hR), hn, hd⟩

def Onw (k : Tmps → ASt → Prop) (Q : Out → Prop) : Out → Prop
  | .fr ⟨.normal, T, A⟩ => k T A
  | o => Q o

theorem CodeW.seq {n : Nat} {ro : Option Nat} {x y : Code} {T : Tmps} {A : ASt} {Q : Out → Prop} (h : CodeW Z P n ro x T A (Onw (fun T' A' => CodeW Z P n ro y T' A' Q) Q)) : CodeW Z P n ro (.seq x y) T A Q := by
  intro ρ w a N rr hR hro ht hn hd
  refine wpIn_seq (wpIn_mono (h ρ w a N rr hR hro ht hn hd) ?_)
  rintro e a' w' ⟨ex, T', A', hq, hex, ρ', ht', hst, hn', hd'⟩
  cases ex with
  | normal =>
    cases e <;> first | exact hex.elim | skip
    refine wpIn_mono (hq ρ' w' a' N rr (Z.step hR hst) (hro.mono hst.ext) ht' hn' hd') ?_
    rintro e2 a2 w2 ⟨ex2, T2, A2, hq2, hex2, haft⟩
    exact ⟨ex2, T2, A2, hq2, hex2, haft.trans hst⟩
  | exit i => cases e <;> first | exact hex.elim | exact ⟨.exit i, T', A', hq, hex, ρ', ht', hst, hn', hd'⟩
  | ret => cases e <;> first | exact hex.elim | exact ⟨.ret, T', A', hq, hex, ρ', ht', hst, hn', hd'⟩

theorem CodeW.cond {n : Nat} {ro : Option Nat} {x : Operand} {y z : Code} {T : Tmps} {A : ASt} {Q : Out → Prop} {b : Bool} (hx : ev T x = some (.bool b)) (h1 : b = true → CodeW Z P n ro y T A Q) (h2 : b = false → CodeW Z P n ro z T A Q) : CodeW Z P n ro (.cond x y z) T A Q := by
  intro ρ w a N rr hR hro ht hn hd
  have hv := ev_sound ht hx
  have hev : a.eval x = .bool b := by
    generalize a.eval x = u at hv
    cases hv; rfl
  cases b with
  | true => exact wpIn_cond_true hev (h1 rfl ρ w a N rr hR hro ht hn hd)
  | false => exact wpIn_cond_false hev (h2 rfl ρ w a N rr hR hro ht hn hd)

def Outb (id : Nat) (Q : Out → Prop) : Out → Prop
  | .fr ⟨.exit i, T, A⟩ => Q (.fr ⟨cond (Nat.beq i id) .normal (.exit i), T, A⟩)
  | o => Q o

theorem CodeW.block {n id : Nat} {ro : Option Nat} {b : Code} {T : Tmps} {A : ASt} {Q : Out → Prop} (h : CodeW Z P n ro b T A (Outb id Q)) : CodeW Z P n ro (.block id b) T A Q := by
  intro ρ w a N rr hR hro ht hn hd
  refine wpIn_block (wpIn_mono (h ρ w a N rr hR hro ht hn hd) ?_)
  rintro e a' w' ⟨ex, T', A', hq, hex, haft⟩
  cases ex with
  | normal => cases e <;> first | exact hex.elim | exact ⟨.normal, T', A', hq, hex, haft⟩
  | exit i =>
    cases e <;> first | exact hex.elim | skip
    rename_i j
    have hij : i = j := hex
    subst hij
    simp only [Exit.inBlock]
    have hq' : Q (.fr ⟨_root_.cond (Nat.beq i id) .normal (.exit i), T', A'⟩) := hq
    by_cases e : i = id
    · subst e
      rw [if_pos rfl]
      rw [Nat.beq_refl, cond_true] at hq'
      exact ⟨.normal, T', A', hq', trivial, haft⟩
    · rw [if_neg e]
      have hb : Nat.beq i id = false := by
        cases hb : Nat.beq i id with
        | false => rfl
        | true => exact absurd (Nat.eq_of_beq_eq_true hb) e
      rw [hb, cond_false] at hq'
      exact ⟨.exit i, T', A', hq', rfl, haft⟩
  | ret => cases e <;> first | exact hex.elim | exact ⟨.ret, T', A', hq, hex, haft⟩

theorem CodeW.scope {n : Nat} {ro : Option Nat} {b : Code} {T : Tmps} {A : ASt} {Q : Out → Prop} (h : CodeW Z P n ro b T A Q) : CodeW Z P n ro (.scope b) T A Q := by
  intro ρ w a N rr hR hro ht hn hd
  refine wpIn_scope_straight (wpIn_mono (h ρ w a N rr hR hro ht hn hd) ?_)
  rintro e a' w' ⟨ex, T', A', hq, hex, haft⟩
  cases ex <;> cases e <;> first | exact hex.elim | exact ⟨_, T', A', hq, hex, haft⟩

theorem CodeW.loop {n : Nat} {ro : Option Nat} {b : Code} {Q : Out → Prop} (I : Tmps → ASt → Prop) (μ : Tmps → ASt → Nat)
    (hb : ∀ T A, I T A → CodeW Z P n ro b T A (Onw (fun T' A' => I T' A' ∧ μ T' A' < μ T A) Q)) {T : Tmps} {A : ASt} (hI : I T A) : CodeW Z P n ro (.loop b) T A Q := by
  intro ρ w a N rr hR hro ht hn hd
  refine wpIn_loop_rounds (μ T A + 1) ?_
  have key : ∀ (k : Nat) (T1 : Tmps) (A1 : ASt) (ρ1 : Ren) (a1 : Act) (w1 : World), μ T1 A1 < k → I T1 A1 → Step ρ A w ρ1 A1 w1 → TRel ρ1 T1 a1 → a1.tmps.size = n → Defs N w1 a1.defers → roundsIn (FR rr) P b (CodePost Q ρ A w n N) k a1 w1 := by
    intro k
    induction k with
    | zero => intro T1 A1 ρ1 a1 w1 h; omega
    | succ k ih =>
      intro T1 A1 ρ1 a1 w1 hk hI1 hs ht1 hn1 hd1
      rw [roundsIn_succ]
      refine wpIn_mono (hb T1 A1 hI1 ρ1 w1 a1 N rr (Z.step hR hs) (hro.mono hs.ext) ht1 hn1 hd1) ?_
      rintro e a' w' ⟨ex, T', A', hq, hex, ρ', ht', hst, hn', hd'⟩
      cases ex with
      | normal =>
        cases e <;> first | exact hex.elim | skip
        exact ih T' A' ρ' a' w' (by have := hq.2; omega) hq.1 (hs.trans hst) ht' hn' hd'
      | exit i => cases e <;> first | exact hex.elim | exact ⟨.exit i, T', A', hq, hex, ρ', ht', hs.trans hst, hn', hd'⟩
      | ret => cases e <;> first | exact hex.elim | exact ⟨.ret, T', A', hq, hex, ρ', ht', hs.trans hst, hn', hd'⟩
  exact key _ T A ρ a w (Nat.lt_succ_self _) hI (.refl (Z.rep hR)) ht hn hd

noncomputable def handsV (o : Option (List Value)) (Q : Value → Prop) : Prop :=
  match o with
  | some l => Q (oneOrTuple l)
  | none => False
def Hands (E : Env) (rs : List ResultVar) (Q : Value → ASt → Prop) : Out → Prop
  | .fr ⟨.normal, T, A⟩ => handsV (resultsV E T A rs) (fun v => Q v A)
  | .fr ⟨.ret, T, A⟩ => handsV (resultsV E T A rs) (fun v => Q v A)
  | _ => False

theorem CallW.of_code (hE : EnvOK E P) (hZr : RoadRo Z E) {f : FuncId} {fn : Func} {c : Code} (hf : E.fn f = some fn) (hb : fn.body = some c) {n : Nat} (hn : fn.ntmps = n) {rs : List ResultVar} (hrs : fn.results.toList = rs) {args : List Value} (hlen : args.length ≤ n) {A : ASt} {Q : Value → ASt → Prop}
    (h : CodeW Z P n none c (argsT 0 args .e) A (Hands E rs Q)) : CallW Z P f args A Q := by
  subst hn hrs
  intro ρ w args' hR ha
  obtain ⟨hP, _, _⟩ := hE.fn f fn hf
  have hl := ha.length
  simp only [Array.length_toList] at hl
  refine (callsIn_wide (n := 0)).1 (callsIn_of_wp_marks hP hb trivial ?_)
  have hw := h ρ w { tmps := args' ++ Array.replicate (fn.ntmps - args'.size) undef, defers := [] } w.heap.size none hR trivial (enter_rel ha _) (by simp; omega) (defs_nil w)
  refine wpIn_mono (F := Fence.wide) hw ?_
  rintro e a' w' ⟨ex, T', A', hq, hex, ρ', ht, hst, hn, _, rs, hd1, hd2, hd3⟩
  have fin : ∀ (hq' : handsV (resultsV E T' A' fn.results.toList) (fun v => Q v A')), LeavesInM Fence.wide 0 P fn a'.tmps (fun e w' => ∃ v A' v' ρ', Q v A' ∧ e = .returned v' ∧ VRel ρ' v v' ∧ Step ρ A w ρ' A' w') a'.defers .returning w' := by
    intro hq'
    unfold handsV at hq'
    split at hq'
    case h_2 => exact hq'.elim
    rename_i vs hvs
    rw [hd1]
    refine leaves_marks (fun w2 hst2 => ?_) rs w' hst hd2 hd3
    obtain ⟨v', h1, h2⟩ := results_run hE hst2.rep (hZr _ _ _ (Z.step hR hst2)) ht hvs
    exact ⟨v', h1, _, _, v', ρ', hq', rfl, h2, hst2⟩
  cases ex with
  | normal => cases e <;> first | exact hex.elim | exact fin hq
  | ret => cases e <;> first | exact hex.elim | exact fin hq
  | exit i => exact hq.elim

end
end Go.AE

/- The evaluator: operations one by one, whatever the values are. -/
namespace Go.AE
open Go

section
variable {Z : Road} {E : Env} {P : Program}

noncomputable def CallT (Z : Road) (P : Program) (t : Tgt) (args : List Value) (A : ASt) (K : Value → ASt → Prop) : Prop :=
  ∀ ρ w (args' : Array Value), Z.reach ρ A w → VsRel ρ args args'.toList → TgtSound P ρ t args' w fun e w' => ∃ v A' v' ρ', K v A' ∧ e = .returned v' ∧ VRel ρ' v v' ∧ Step ρ A w ρ' A' w'

theorem CallT.of_call {f : FuncId} {args : List Value} {A : ASt} {K : Value → ASt → Prop} (h : CallW Z P f args A K) : CallT Z P (.fn f) args A K := h

def brW (b : Bool) (x y : Prop) : Prop := (b = true → x) ∧ (b = false → y)
theorem brW_true {x y : Prop} : brW true x y = x := propext ⟨fun h => h.1 rfl, fun h => ⟨fun _ => h, fun h => (by cases h)⟩⟩
theorem brW_false {x y : Prop} : brW false x y = y := propext ⟨fun h => h.2 rfl, fun h => ⟨fun h => (by cases h), fun _ => h⟩⟩
theorem brW_dec {p : Prop} [Decidable p] {x y : Prop} (h1 : p → x) (h2 : ¬ p → y) : brW (decide p) x y := ⟨fun h => h1 (of_decide_eq_true h), fun h => h2 (of_decide_eq_false h)⟩

noncomputable def arW (C : Tgt → List Value → ASt → (Value → ASt → Prop) → Prop) (K : Value → ASt → Prop) : AR → Prop
  | .val v A => K v A
  | .enter t args A => C t args A K
  | .bad _ => False

noncomputable def oneW (E : Env) (C : Tgt → List Value → ASt → (Value → ASt → Prop) → Prop) (op : Op) (T : Tmps) (A : ASt) (K : Value → ASt → Prop) : Prop :=
  match op with
  | .next it isString => ∃ v, ev T it = some v ∧ (aNext v isString A).all fun r => K r.1 r.2
  | op => arW C K (aOp E op T A)

noncomputable def putW (n : Nat) (T : Tmps) (dst : Option Tmp) (v : Value) (K : Tmps → Prop) : Prop :=
  match dst with
  | some d => d < n ∧ K (T.put d (some v))
  | none => K T

noncomputable def opsW (E : Env) (C : Tgt → List Value → ASt → (Value → ASt → Prop) → Prop) (n : Nat) (ops : Array Oper) : List Oper → Tmps → ASt → (Tmps → ASt → Prop) → Prop
  | [], T, A, K => K T A
  | o :: l, T, A, K =>
    brW (wantedA ops T o) (oneW E C o.op T A fun v A' => putW n T o.dst v fun T' => opsW E C n ops l T' A' K)
      (putW n T o.dst undef fun T' => opsW E C n ops l T' A K)

theorem putW_putN {n : Nat} {T : Tmps} {dst : Option Tmp} {v : Value} {K : Tmps → Prop} (h : putW n T dst v K) : ∃ T', putN n T dst v = some T' ∧ K T' := by
  cases dst with
  | none => exact ⟨T, rfl, h⟩
  | some d =>
    obtain ⟨h1, h2⟩ := h
    refine ⟨_, ?_, h2⟩
    show cond (Nat.blt d n) (Tr.putC T d (some v) some) none = _
    rw [show Nat.blt d n = true from Nat.ble_eq_true_of_le h1]
    exact Tr.putC_eq _ _ _ _

noncomputable def onlyCall (t : Tgt) (args : List Value) (A : ASt) (K : Value → ASt → Prop) : Tgt → List Value → ASt → Nd (Value × ASt) := fun t' args' A' =>
  open Classical in if t' = t ∧ args' = args ∧ A' = A then .pick (fun r => K r.1 r.2) .ret else .fail "other"

theorem onlyCall_sound {t : Tgt} {args : List Value} {A : ASt} {K : Value → ASt → Prop} (h : CallT Z P t args A K) : CallSound Z P (onlyCall t args A K) := by
  intro t' args' A' Q hQ ρ w a' hr ha
  unfold onlyCall at hQ
  split at hQ
  · rename_i e
    obtain ⟨rfl, rfl, rfl⟩ := e
    have := h ρ w a' hr ha
    cases t' with
    | fn f => exact Calls.mono this fun e w' ⟨v, A1, v', ρ', hk, rest⟩ => ⟨v, A1, v', ρ', hQ (v, A1) hk, rest⟩
    | round l =>
      intro L hL
      obtain ⟨f, tmps, as, b, h1, h2⟩ := this L hL
      exact ⟨f, tmps, as, b, h1, h2.mono fun e w' ⟨v, A1, v', ρ', hk, rest⟩ => ⟨v, A1, v', ρ', hQ (v, A1) hk, rest⟩⟩
  · exact hQ.elim

theorem fail_sound : CallSound Z P (fun _ _ _ => .fail "no call") := fun _ _ _ _ h => h.elim

theorem oneW_sound (hE : EnvOK E P) (hZr : RoadRo Z E) {ρ : Ren} {A : ASt} {w : World} (hR : Z.reach ρ A w) {T : Tmps} {a : Act} (ht : TRel ρ T a) {o : Oper} {rr : Option Nat}
    {K : Value → ASt → Prop} (h : oneW E (CallT Z P) o.op T A K) {next : Act → World → Prop} {Qx : Exit → Act → World → Prop}
    (hnext : ∀ v A' v' w' ρ', K v A' → VRel ρ' v v' → Step ρ A w ρ' A' w' → next (a.put o.dst v') w') : o.wpIn (FR rr) 0 P a w next Qx := by
  unfold oneW at h
  split at h
  · rename_i it isString hop
    obtain ⟨v, hv, hall⟩ := h
    refine oneOp_sound hE hZr (call := fun _ _ _ => .fail "no call") fail_sound hR ht (Q := fun r => K r.1 r.2) ?_ hnext
    unfold oneOp
    rw [hop]
    simp only [hv]
    exact hall
  · rename_i hn
    cases hr : aOp E o.op T A with
    | val v A' =>
      rw [hr] at h
      refine oneOp_sound hE hZr (call := fun _ _ _ => .fail "no call") fail_sound hR ht (Q := fun r => K r.1 r.2) ?_ hnext
      unfold oneOp
      split
      · rename_i hop; exact absurd hop (hn _ _)
      · rw [hr]; exact h
    | enter t args A' =>
      rw [hr] at h
      refine oneOp_sound hE hZr (call := onlyCall t args A' K) (onlyCall_sound h) hR ht (Q := fun r => K r.1 r.2) ?_ hnext
      unfold oneOp
      split
      · rename_i hop; exact absurd hop (hn _ _)
      · rw [hr]
        simp only [onlyCall, and_self, if_true]
        exact fun r hr => hr
    | bad why => rw [hr] at h; exact h.elim

theorem opsW_sound (hE : EnvOK E P) (hZr : RoadRo Z E) {n N : Nat} {rr : Option Nat} {ops : Array Oper} {Qx : Exit → Act → World → Prop} {ρ₀ : Ren} {A₀ : ASt} {w₀ : World} {K : Tmps → ASt → Prop} (hZ : Z.reach ρ₀ A₀ w₀)
    (hfin : ∀ T A a w, K T A → After ρ₀ A₀ w₀ n N T A a w → Qx .normal a w) :
    ∀ (l : List Oper) (k : Nat) (T : Tmps) (A : ASt) (a : Act) (w : World) (ρ : Ren), ops.toList.drop k = l → opsW E (CallT Z P) n ops l T A K → TRel ρ T a → Step ρ₀ A₀ w₀ ρ A w → a.tmps.size = n → Defs N w a.defers →
      wpOpsIn (FR rr) 0 P ops Qx (List.range' k l.length) a w
  | [], k, T, A, a, w, ρ, hl, h, ht, hs, hn, hd => by
    simp only [List.length_nil, List.range'_zero, wpOpsIn]
    exact hfin T A a w h ⟨ρ, ht, hs, hn, hd⟩
  | o :: l, k, T, A, a, w, ρ, hl, h, ht, hs, hn, hd => by
    have ho : ops[k]? = some o := by
      have : (ops.toList.drop k)[0]? = some o := by rw [hl]; rfl
      rw [List.getElem?_drop] at this
      simpa using this
    have hl' : ops.toList.drop (k + 1) = l := by
      have : (ops.toList.drop k).drop 1 = l := by rw [hl]; rfl
      rwa [List.drop_drop] at this
    simp only [List.length_cons, List.range'_succ, wpOpsIn, ho]
    rw [wanted_sound ht]
    simp only [opsW] at h
    cases hw : wantedA ops T o with
    | true =>
      rw [if_pos rfl]
      refine oneW_sound hE hZr (Z.step hZ hs) ht (h.1 hw) ?_
      intro v A' v' w' ρ' hk hvr hst
      obtain ⟨T', hT', hk'⟩ := putW_putN hk
      exact opsW_sound hE hZr hZ hfin l (k + 1) T' A' _ w' ρ' hl' hk' (putN_sound (ht.mono hst.ext) hn hT' hvr) (hs.trans hst) (by rw [size_put]; exact hn) (by rw [defers_put]; exact hd.step hs.rep hst)
    | false =>
      simp only [Bool.false_eq_true, if_false]
      refine ⟨fun _ _ => trivial, ?_⟩
      obtain ⟨T', hT', hk'⟩ := putW_putN (h.2 hw)
      exact opsW_sound hE hZr hZ hfin l (k + 1) T' A _ w ρ hl' hk' (putN_sound ht hn hT' VRel.undef) hs (by rw [size_put]; exact hn) (by rw [defers_put]; exact hd)

theorem CodeW.region (hE : EnvOK E P) (hZr : RoadRo Z E) {n id : Nat} {ro : Option Nat} {ops : Array Oper} {T : Tmps} {A : ASt} {Q : Out → Prop}
    (h : opsW E (CallT Z P) n ops ops.toList T A fun T' A' => Q (.fr ⟨.normal, T', A'⟩)) : CodeW Z P n ro (.region id ops false) T A Q := by
  intro ρ w a N rr hR hro ht hn hd
  have hr : (List.range ops.size) = List.range' 0 ops.toList.length := by rw [List.range_eq_range']; simp
  refine wpIn_region ?_
  rw [hr]
  refine opsW_sound hE hZr (N := N) (rr := rr) (ρ₀ := ρ) (A₀ := A) (w₀ := w) hR ?_ ops.toList 0 T A a w ρ (by simp) h ht (.refl (Z.rep hR)) hn hd
  intro T' A' a' w' hq haft
  exact ⟨.normal, T', A', hq, trivial, haft⟩

theorem CodeW.drawn (hE : EnvOK E P) (hZr : RoadRo Z E) (hm : P.follows .mixedOrders = true) {call : Tgt → List Value → ASt → Nd (Value × ASt)} (hcall : CallSound Z P call) {n id : Nat} {ro : Option Nat} {ops : Array Oper} {T : Tmps} {A : ASt} {Q : Out → Prop}
    (h : (drawRun E call n ops T A).all fun r => Q (.fr ⟨.normal, r.1, r.2⟩)) : CodeW Z P n ro (.region id ops true) T A Q := by
  intro ρ w a N rr hR hro ht hn hd
  refine wpIn_mono (draw_sound hE hZr hm call hcall n id ops T A _ h ρ w a N rr hR ht hn hd) ?_
  rintro e a' w' ⟨rfl, T', A', hq, haft⟩
  exact ⟨.normal, T', A', hq, trivial, haft⟩

end
end Go.AE

/- The evaluator: each operation's own equation. -/
namespace Go.AE
open Go

noncomputable def codeW (Z : Road) (E : Env) (P : Program) (n : Nat) (ro : Option Nat) : Code → (Out → Prop) → Tmps → ASt → Prop
  | .skip, Q, T, A => Q (.fr ⟨.normal, T, A⟩)
  | .ret, Q, T, A => Q (.fr ⟨.ret, T, A⟩)
  | .exit id, Q, T, A => Q (.fr ⟨.exit id, T, A⟩)
  | .seq x y, Q, T, A => codeW Z E P n ro x (Onw (fun T' A' => codeW Z E P n ro y Q T' A') Q) T A
  | .cond x y z, Q, T, A => match ev T x with
    | some (.bool b) => brW b (codeW Z E P n ro y Q T A) (codeW Z E P n ro z Q T A)
    | _ => False
  | .block id b, Q, T, A => codeW Z E P n ro b (Outb id Q) T A
  | .scope b, Q, T, A => codeW Z E P n ro b Q T A
  | .region _ ops false, Q, T, A => opsW E (CallT Z P) n ops ops.toList T A fun T' A' => Q (.fr ⟨.normal, T', A'⟩)
  | c, Q, T, A => CodeW Z P n ro c T A Q

theorem codeW_ok {Z : Road} {E : Env} {P : Program} (hE : EnvOK E P) (hZr : RoadRo Z E) {n : Nat} {ro : Option Nat} : ∀ {c : Code} {Q : Out → Prop} {T : Tmps} {A : ASt}, codeW Z E P n ro c Q T A → CodeW Z P n ro c T A Q := by
  intro c
  induction c with
  | skip => intro Q T A h; exact .skip h
  | ret => intro Q T A h; exact .ret h
  | exit id => intro Q T A h; exact .exit h
  | seq x y ihx ihy =>
    intro Q T A h
    refine .seq ((ihx h).mono fun o ho => ?_)
    cases o with
    | res v A => exact ho
    | fr r =>
      obtain ⟨ex, T', A'⟩ := r
      cases ex with
      | normal => exact ihy ho
      | exit i => exact ho
      | ret => exact ho
  | cond x y z ihy ihz =>
    intro Q T A h
    simp only [codeW] at h
    split at h
    · rename_i b hb
      exact .cond hb (fun e => ihy (h.1 e)) (fun e => ihz (h.2 e))
    · exact h.elim
  | block id b ih => intro Q T A h; exact .block (ih h)
  | scope b ih => intro Q T A h; exact .scope (ih h)
  | region id ops d =>
    intro Q T A h
    cases d with
    | false => exact .region hE hZr h
    | true => exact h
  | _ => intro Q T A h; exact h

/-! ### where the simplifier does not look before its time -/
def tg {α : Type} (a : α) : α := a
theorem tg_eq {α : Type} {a : α} : tg a = a := congrArg (fun x => x) (Eq.refl a)
def tgN (b : Bool) : Bool := if b = true then true else false
theorem tgN_eq {b : Bool} : tgN b = b := by cases b <;> rfl
@[congr] theorem brW_congr {b b' : Bool} {x y : Prop} (h : ∀ _ : Unit, tgN b = b') : brW b x y = brW b' x y := by rw [← h (), tgN_eq]
@[congr] theorem arW_congr {C : Tgt → List Value → ASt → (Value → ASt → Prop) → Prop} {K : Value → ASt → Prop} {r r' : AR} (h : ∀ _ : Unit, tg r = r') : arW C K r = arW C K r' := by rw [← h ()]; rfl
@[congr] theorem codeW_congr {Z : Road} {E : Env} {P : Program} {n n' : Nat} {ro : Option Nat} {c : Code} {Q : Out → Prop} {T : Tmps} {A : ASt} (h : ∀ _ : Unit, tg n = n') : codeW Z E P n ro c Q T A = codeW Z E P n' ro c Q T A := by rw [← h ()]; rfl
@[congr] theorem CodeW_congr {Z : Road} {P : Program} {n n' : Nat} {ro : Option Nat} {c : Code} {Q : Out → Prop} {T : Tmps} {A : ASt} (h : ∀ _ : Unit, tg n = n') : CodeW Z P n ro c T A Q = CodeW Z P n' ro c T A Q := by rw [← h ()]; rfl
@[congr] theorem CallT_congr {Z : Road} {P : Program} {t : Tgt} {l l' : List Value} {A A' : ASt} {K : Value → ASt → Prop} (h : ∀ _ : Unit, tg l = l') (h2 : A = A') : CallT Z P t l A K = CallT Z P t l' A' K := by rw [← h (), ← h2]; rfl
@[congr] theorem opsW_congr {E : Env} {C : Tgt → List Value → ASt → (Value → ASt → Prop) → Prop} {n n' : Nat} {ops : Array Oper} {l : List Oper} {T : Tmps} {A : ASt} {K : Tmps → ASt → Prop} (h : ∀ _ : Unit, tg n = n') : opsW E C n ops l T A K = opsW E C n' ops l T A K := by rw [← h ()]; rfl
@[congr] theorem oneW_congr {E : Env} {C : Tgt → List Value → ASt → (Value → ASt → Prop) → Prop} {o o' : Op} {T : Tmps} {A : ASt} {K : Value → ASt → Prop} (h : ∀ _ : Unit, tg o = o') : oneW E C o T A K = oneW E C o' T A K := by rw [← h ()]; rfl
@[congr] theorem putW_congr {n : Nat} {T : Tmps} {d : Option Tmp} {v v' : Value} {K : Tmps → Prop} (h : ∀ _ : Unit, tg v = v') : putW n T d v K = putW n T d v' K := by rw [← h ()]; rfl
@[congr] theorem Onw_congr {k : Tmps → ASt → Prop} {Q : Out → Prop} {o o' : Out} (h : ∀ _ : Unit, tg o = o') : Onw k Q o = Onw k Q o' := by rw [← h ()]; rfl
@[congr] theorem Outb_congr {id id' : Nat} {Q : Out → Prop} {o : Out} (h : ∀ _ : Unit, tg id = id') : Outb id Q o = Outb id' Q o := by rw [← h ()]; rfl
@[congr] theorem Hands_congr {E : Env} {rs rs' : List ResultVar} {Q : Value → ASt → Prop} {o : Out} (h : ∀ _ : Unit, tg rs = rs') : Hands E rs Q o = Hands E rs' Q o := by rw [← h ()]; rfl
@[congr] theorem handsV_congr {o o' : Option (List Value)} {Q : Value → Prop} (h : ∀ _ : Unit, tg o = o') : handsV o Q = handsV o' Q := by rw [← h ()]; rfl

theorem opsW_nil {E : Env} {C : Tgt → List Value → ASt → (Value → ASt → Prop) → Prop} {n : Nat} {ops : Array Oper} {T : Tmps} {A : ASt} {K : Tmps → ASt → Prop} : opsW E C n ops [] T A K = K T A := by rw [opsW]
theorem opsW_arr {E : Env} {C : Tgt → List Value → ASt → (Value → ASt → Prop) → Prop} {n : Nat} {ops : Array Oper} {T : Tmps} {A : ASt} {K : Tmps → ASt → Prop} {l : List Oper} : opsW E C n ops (List.toArray l).toList T A K = opsW E C n ops l T A K := by rw [List.toList_toArray]
theorem opsW_cons {E : Env} {C : Tgt → List Value → ASt → (Value → ASt → Prop) → Prop} {n : Nat} {ops : Array Oper} {T : Tmps} {A : ASt} {K : Tmps → ASt → Prop} {d : Option Tmp} {op : Op} {ty : TypeId} {ps : String} {af : Array Edge} {g : Option (Nat × Bool)} {l : List Oper} :
    opsW E C n ops (⟨d, op, ty, ps, af, g⟩ :: l) T A K = brW (wantedA ops T ⟨d, op, ty, ps, af, g⟩) (oneW E C op T A fun v A' => putW n T d v fun T' => opsW E C n ops l T' A' K) (putW n T d undef fun T' => opsW E C n ops l T' A K) := by rw [opsW]

section
variable {E : Env} {T : Tmps} {A : ASt}

theorem ofVal_some {v : Value} {w : String} : ofVal (some v) A w = .val v A := rfl
theorem plain_val {v : Value} : (AR.val v A).plain = .val v A := rfl

theorem arW_val {C : Tgt → List Value → ASt → (Value → ASt → Prop) → Prop} {K : Value → ASt → Prop} {v : Value} : arW C K (.val v A) = K v A := rfl
theorem aOp_move {x : Operand} : aOp E (.move x) T A = ofVal (ev T x) A "move" := by rw [aOp_def]; rfl
theorem aOp_assign {x : Operand} : aOp E (.assign x) T A = ofVal (ev T x) A "move" := by rw [aOp_def]; rfl
theorem aOp_pick {c a b : Operand} : aOp E (.pick c a b) T A = (match ev T c with
    | some (.bool t) => ofVal (cond t (ev T a) (ev T b)) A "pick"
    | _ => .bad "pick") := by rw [aOp_def]; rfl
theorem aOp_build {t : TypeId} {ps : Array (Nat × Operand)} : aOp E (.build t ps) T A = (match evPairs T ps.toList with
    | some l => ofVal (aBuild E t l) A "build"
    | none => .bad "build") := by rw [aOp_def]; rfl
theorem aOp_load {t : TypeId} {a : Operand} : aOp E (.load t a) T A = (match ev T a with
    | some v => ofVal (aLoad E t v A) A "load"
    | none => .bad "load") := by rw [aOp_def]; rfl
theorem aOp_store {t : TypeId} {a x : Operand} : aOp E (.store t a x) T A = (match ev T a, ev T x with
    | some p, some v => match aStore E t p v A with
      | some A' => .val undef A'
      | none => .bad "store"
    | _, _ => .bad "store") := by rw [aOp_def]; rfl
theorem aOp_nilCheck {x : Operand} : aOp E (.nilCheck x) T A = (match ev T x with
    | some v => ofVal (aNilCheck v) A "nilCheck"
    | none => .bad "nilCheck") := by rw [aOp_def]; rfl
theorem aOp_binOp {op : BinOp} {t u : TypeId} {x y : Operand} : aOp E (.binOp op t x y u) T A = (match ev T x, ev T y with
    | some a, some b => ofVal (aBin2 E op t x y a b) A "binOp"
    | _, _ => .bad "binOp") := by rw [aOp_def]; rfl
theorem aOp_unOp {op : UnOp} {t : TypeId} {x : Operand} : aOp E (.unOp op t x) T A = (match ev T x with
    | some v => ofVal (aUn op v) A "unOp"
    | none => .bad "unOp") := by rw [aOp_def]; rfl
theorem aOp_makeFunc {fn : Fn} {f c : Array Operand} : aOp E (.makeFunc fn f c) T A = (match evs T f.toList, evs T c.toList with
    | some l, some r => cond (notYield fn) (.val (.func fn l.toArray r.toArray) A) (.bad "makeFunc")
    | _, _ => .bad "makeFunc") := by rw [aOp_def]; rfl
theorem aOp_slice {t : TypeId} {x : Operand} {lo hi mx : Option Operand} : aOp E (.slice t x lo hi mx) T A = (match ev T x, evOpt T lo, evOpt T hi, evOpt T mx with
    | some v, some a, some b, some c => ofVal (aSlice E t v a b c A) A "slice"
    | _, _, _, _ => .bad "slice") := by rw [aOp_def]; rfl
theorem aOp_fieldAddr {s f : Nat} {x : Operand} : aOp E (.fieldAddr s x f) T A = (match ev T x with
    | some v => ofVal (aFieldAddr E s v f) A "fieldAddr"
    | none => .bad "fieldAddr") := by rw [aOp_def]; rfl
theorem aOp_field {s f : Nat} {x : Operand} : aOp E (.field s x f) T A = (match ev T x with
    | some v => ofVal (aField E s v f) A "field"
    | none => .bad "field") := by rw [aOp_def]; rfl
theorem aOp_indexAddr {t : TypeId} {x i : Operand} : aOp E (.indexAddr t x i) T A = (match ev T x, ev T i with
    | some v, some k => ofVal (aIndexAddr E t v k) A "indexAddr"
    | _, _ => .bad "indexAddr") := by rw [aOp_def]; rfl
theorem aOp_index {t : TypeId} {x i : Operand} : aOp E (.index t x i) T A = (match ev T x, ev T i with
    | some v, some k => ofVal (aIndex E t v k) A "index"
    | _, _ => .bad "index") := by rw [aOp_def]; rfl
theorem aOp_lookup {t : TypeId} {x k : Operand} {ok : Bool} : aOp E (.lookup t x k ok) T A = (match ev T x, ev T k with
    | some v, some w => ofVal (aLookup E t v w ok A) A "lookup"
    | _, _ => .bad "lookup") := by rw [aOp_def]; rfl
theorem aOp_mapUpdate {t : TypeId} {m k x : Operand} : aOp E (.mapUpdate t m k x) T A = (match ev T m, ev T k, ev T x with
    | some a, some b, some c => match aMapUpdate E t a b c A with
      | some A' => .val undef A'
      | none => .bad "mapUpdate"
    | _, _, _ => .bad "mapUpdate") := by rw [aOp_def]; rfl
theorem aOp_range {t : TypeId} {x : Operand} : aOp E (.range t x) T A = (match ev T x with
    | some v => (aRange E t v A).plain
    | none => .bad "range") := by rw [aOp_def]; rfl
theorem aOp_entry {it : Operand} : aOp E (.entry it) T A = (match ev T it with
    | some v => ofVal (aEntry v A) A "entry"
    | none => .bad "entry") := by rw [aOp_def]; rfl
theorem aOp_extract {t : Operand} {i : Nat} : aOp E (.extract t i) T A = (match ev T t with
    | some v => ofVal (aExtract v i) A "extract"
    | none => .bad "extract") := by rw [aOp_def]; rfl
theorem aOp_call {c : Call} : aOp E (.call c) T A = aCall E T c A := by rw [aOp_def]; rfl
theorem aOp_alloc {t : TypeId} : aOp E (.alloc t) T A = (match aAlloc E t with
    | some (ob, f) => .val (f A.next) (A.new ob)
    | none => .bad "fresh") := by rw [aOp_def]; rfl
theorem aOp_box {t : TypeId} {x : Operand} : aOp E (.box t x) T A = (match (match ev T x with
      | some v => aBox E t v
      | none => none) with
    | some (ob, f) => .val (f A.next) (A.new ob)
    | none => .bad "fresh") := by rw [aOp_def]; rfl
theorem aOp_makeMap {t : TypeId} : aOp E (.makeMap t none) T A = .val (.map (some A.next)) (A.new (.map [] 0)) := by rw [aOp_def]; rfl
theorem aOp_buildSlice {t : TypeId} {n : Nat} {ps : Array (Nat × Operand)} : aOp E (.buildSlice t n ps) T A = (match (match evPairs T ps.toList with
      | some l => aBuildSlice E t n l
      | none => none) with
    | some (ob, f) => .val (f A.next) (A.new ob)
    | none => .bad "fresh") := by rw [aOp_def]; rfl

theorem aInvoke_func {f : FuncId} {args captured : List Value} : aInvoke E (.func f) args captured A = aEnter E f (args ++ captured) A := rfl

noncomputable def guardB (T : Tmps) (o : Option Oper) (w : Bool) : Bool :=
  match o with
  | some g => match g.dst with
    | some d => match tget T d with
      | .bool b => b == w
      | _ => false
    | none => false
  | none => false
theorem wanted_none {ops : Array Oper} {d : Option Tmp} {op : Op} {ty : TypeId} {pos : String} {af : Array Edge} : wantedA ops T ⟨d, op, ty, pos, af, none⟩ = true := congrArg (fun x => x) (Eq.refl true)
theorem wanted_some {ops : Array Oper} {d : Option Tmp} {op : Op} {ty : TypeId} {pos : String} {af : Array Edge} {j : Nat} {w : Bool} : wantedA ops T ⟨d, op, ty, pos, af, some (j, w)⟩ = guardB T (nth ops.toList j) w := congrArg (fun x => x) (Eq.refl (guardB T (nth ops.toList j) w))
theorem guardB_some {d : Tmp} {op : Op} {ty : TypeId} {pos : String} {af : Array Edge} {g : Option (Nat × Bool)} {w : Bool} : guardB T (some ⟨some d, op, ty, pos, af, g⟩) w = (match tget T d with
      | .bool b => b == w
      | _ => false) := congrArg (fun x => x) (Eq.refl _)
theorem bq_t {b : Bool} : (b == true) = b := by cases b <;> rfl
theorem bq_f {b : Bool} : (b == false) = !b := by cases b <;> rfl
theorem nbeq {a b : Nat} : Nat.beq a b = decide (a = b) := by
  cases h : Nat.beq a b with
  | true => simp [Nat.eq_of_beq_eq_true h]
  | false => simp [Nat.ne_of_beq_eq_false h]
theorem nble {a b : Nat} : Nat.ble a b = decide (a ≤ b) := by
  cases h : Nat.ble a b with
  | true => simp [Nat.le_of_ble_eq_true h]
  | false =>
    have : ¬ a ≤ b := fun hh => by rw [Nat.ble_eq_true_of_le hh] at h; cases h
    simp [this]
theorem nblt {a b : Nat} : Nat.blt a b = decide (a < b) := nble
theorem cond_dec {α : Type} {p : Prop} [Decidable p] {x y : α} : cond (decide p) x y = if p then x else y := by
  by_cases h : p <;> simp [h]

theorem aStore_row {t : TypeId} {b off : Nat} {c c' : List Value} {sz : Nat} {tl : Bool} (h : A.get b = some (.row c sz tl)) {i : TIn} (hi : E.ti t = some i) {v : Value} (hl : v.cells.toList.length = i.size) (hs : singles v.cells.toList = true) (ho : over c off v.cells.toList = some c') :
    aStore E t (.pointer (some ⟨b, off, none⟩)) v A = some (A.set b (.row c' sz tl)) := by
  have e : Nat.beq v.cells.toList.length i.size = true := by rw [hl]; exact Nat.beq_refl _
  simp only [aStore, h, hi, e, hs, Bool.and_self, cond_true, ho]

theorem bytesEq_iff (a b : ByteArray) : bytesEq a.data.toList b.data.toList = decide (a = b) := by
  rw [bytesEq_eq]
  rw [Bool.eq_iff_iff]
  simp only [beq_iff_eq, decide_eq_true_eq]
  constructor
  · intro h; exact ByteArray.ext (Array.ext' h)
  · intro h; rw [h]

end
end Go.AE

/- The evaluator: maps of strings to numbers. -/
namespace Go.AE
open Go

abbrev UE := ByteArray × Nat × Nat
noncomputable def ue (x : UE) : MapEntry := { key := .string x.1, val := .int .u64 x.2.1, born := x.2.2 }
noncomputable def uEnts (l : List UE) : List MapEntry := l.map ue

structure MapOK (l : List UE) (ck : Nat) : Prop where
  keys : (l.map (·.1)).Nodup
  born : (l.map (·.2.2)).Nodup
  lt : ∀ x ∈ l, x.2.2 < ck

noncomputable def uget (l : List UE) (k : ByteArray) : Option Nat :=
  match l with
  | [] => none
  | x :: l => if k = x.1 then some x.2.1 else uget l k

theorem uget_some {l : List UE} {k : ByteArray} {v : Nat} (h : uget l k = some v) : ∃ b, (k, v, b) ∈ l := by
  induction l with
  | nil => cases h
  | cons x l ih =>
    simp only [uget] at h
    split at h
    · rename_i e; cases h; exact ⟨x.2.2, by rw [e]; simp⟩
    · obtain ⟨b, hb⟩ := ih h; exact ⟨b, by simp [hb]⟩

theorem uget_mem {l : List UE} (hn : (l.map (·.1)).Nodup) {x : UE} (h : x ∈ l) : uget l x.1 = some x.2.1 := by
  induction l with
  | nil => cases h
  | cons y l ih =>
    simp only [List.map_cons, List.nodup_cons] at hn
    simp only [uget]
    rcases List.mem_cons.1 h with rfl | h
    · rw [if_pos rfl]
    · rw [if_neg, ih hn.2 h]
      intro e
      exact hn.1 (List.mem_map.2 ⟨x, h, e⟩)

theorem uget_none {l : List UE} {k : ByteArray} : uget l k = none ↔ ∀ x ∈ l, x.1 ≠ k := by
  induction l with
  | nil => simp [uget]
  | cons y l ih =>
    simp only [uget]
    by_cases e : k = y.1
    · simp [e]
    · simp [e, ih, Ne.symm e]

noncomputable def upos (k : ByteArray) : List UE → Nat → Option (Nat × Nat)
  | [], _ => none
  | x :: l, i => if k = x.1 then some (i, x.2.1) else upos k l (i + 1)

theorem findE_u (k : ByteArray) : ∀ (l : List UE) (i : Nat), findE (.string k) (uEnts l) i = some ((upos k l i).map fun p => (p.1, .int .u64 p.2))
  | [], i => rfl
  | x :: l, i => by
    have ih := findE_u k l (i + 1)
    simp only [uEnts, List.map_cons, findE, ue, sameKey, bytesEq_iff, upos]
    by_cases e : k = x.1
    · simp [e]
    · simp only [e, decide_false, if_false]
      exact ih

theorem upos_get (k : ByteArray) : ∀ (l : List UE) (i : Nat), (upos k l i).map (·.2) = uget l k
  | [], i => rfl
  | x :: l, i => by
    simp only [upos, uget]
    by_cases e : k = x.1
    · simp [e]
    · simp only [e, if_false]; exact upos_get k l (i + 1)

noncomputable def uput (k : ByteArray) (v ck : Nat) : List UE → List UE
  | [] => [(k, v, ck)]
  | x :: l => if k = x.1 then (k, v, x.2.2) :: l else x :: uput k v ck l
noncomputable def uck (l : List UE) (k : ByteArray) (ck : Nat) : Nat := if (uget l k).isSome then ck else ck + 1
noncomputable def udel (k : ByteArray) : List UE → List UE
  | [] => []
  | x :: l => if k = x.1 then l else x :: udel k l

theorem uget_uput {k : ByteArray} {v ck : Nat} {l : List UE} (j : ByteArray) : uget (uput k v ck l) j = if j = k then some v else uget l j := by
  induction l with
  | nil => simp [uput, uget]
  | cons x l ih =>
    simp only [uput]
    by_cases e : k = x.1
    · rw [if_pos e]
      simp only [uget]
      by_cases e2 : j = k
      · simp [e2]
      · simp [e2, ← e]
    · rw [if_neg e]
      simp only [uget, ih]
      by_cases e2 : j = k
      · subst e2; simp [e]
      · simp [e2]

theorem uput_keys {k : ByteArray} {v ck : Nat} : ∀ {l : List UE}, (uput k v ck l).map (·.1) = if (uget l k).isSome then l.map (·.1) else l.map (·.1) ++ [k]
  | [] => rfl
  | x :: l => by
    simp only [uput, uget]
    by_cases e : k = x.1
    · simp [e]
    · simp only [e, if_false, List.map_cons, uput_keys (l := l)]
      split <;> simp

theorem uput_born {k : ByteArray} {v ck : Nat} : ∀ {l : List UE}, (uput k v ck l).map (·.2.2) = if (uget l k).isSome then l.map (·.2.2) else l.map (·.2.2) ++ [ck]
  | [] => rfl
  | x :: l => by
    simp only [uput, uget]
    by_cases e : k = x.1
    · simp [e]
    · simp only [e, if_false, List.map_cons, uput_born (l := l)]
      split <;> simp

theorem uput_ok {k : ByteArray} {v ck : Nat} {l : List UE} (h : MapOK l ck) : MapOK (uput k v ck l) (uck l k ck) := by
  refine ⟨?_, ?_, ?_⟩
  · rw [uput_keys]
    cases hg : uget l k with
    | some u => simpa using h.keys
    | none =>
      simp only [Option.isSome_none, Bool.false_eq_true, if_false]
      rw [List.nodup_append]
      refine ⟨h.keys, by simp, fun a ha b hb => ?_⟩
      simp at hb; subst hb
      obtain ⟨x, hx, rfl⟩ := List.mem_map.1 ha
      exact uget_none.1 hg x hx
  · rw [uput_born]
    cases hg : uget l k with
    | some u => simpa using h.born
    | none =>
      simp only [Option.isSome_none, Bool.false_eq_true, if_false]
      rw [List.nodup_append]
      refine ⟨h.born, by simp, fun a ha b hb => ?_⟩
      simp at hb; subst hb
      obtain ⟨x, hx, rfl⟩ := List.mem_map.1 ha
      have := h.lt x hx
      omega
  · intro x hx
    have hm : x.2.2 ∈ (uput k v ck l).map (·.2.2) := List.mem_map.2 ⟨x, hx, rfl⟩
    rw [uput_born] at hm
    unfold uck
    cases hg : uget l k with
    | some u =>
      rw [hg] at hm
      simp only [Option.isSome_some, if_true] at hm ⊢
      obtain ⟨y, hy, e⟩ := List.mem_map.1 hm
      have := h.lt y hy
      omega
    | none =>
      rw [hg] at hm
      simp only [Option.isSome_none, Bool.false_eq_true, if_false] at hm ⊢
      rcases List.mem_append.1 hm with hm | hm
      · obtain ⟨y, hy, e⟩ := List.mem_map.1 hm
        have := h.lt y hy
        omega
      · simp at hm; omega

theorem udel_sub {k : ByteArray} : ∀ {l : List UE}, (udel k l).Sublist l
  | [] => .slnil
  | x :: l => by
    simp only [udel]
    split
    · exact List.sublist_cons_self _ _
    · exact udel_sub.cons_cons _

theorem udel_ok {k : ByteArray} {l : List UE} {ck : Nat} (h : MapOK l ck) : MapOK (udel k l) ck :=
  ⟨h.keys.sublist (udel_sub.map _), h.born.sublist (udel_sub.map _), fun x hx => h.lt x (udel_sub.subset hx)⟩

theorem uget_udel {k : ByteArray} {l : List UE} (hn : (l.map (·.1)).Nodup) (j : ByteArray) : uget (udel k l) j = if j = k then none else uget l j := by
  induction l with
  | nil => simp [udel, uget]
  | cons x l ih =>
    simp only [List.map_cons, List.nodup_cons] at hn
    simp only [udel]
    by_cases e : k = x.1
    · rw [if_pos e]
      by_cases e2 : j = k
      · rw [if_pos e2, uget_none]
        intro y hy e3
        exact hn.1 (List.mem_map.2 ⟨y, hy, by rw [e3, e2, e]⟩)
      · rw [if_neg e2]
        simp only [uget]
        rw [if_neg (by rw [← e]; exact e2)]
    · rw [if_neg e]
      simp only [uget, ih hn.2]
      by_cases e2 : j = k
      · subst e2; simp [e]
      · simp [e2]

theorem setVal_u {k : ByteArray} {v ck : Nat} : ∀ {l : List UE} {i j u : Nat}, upos k l i = some (j, u) → i ≤ j ∧ setVal (uEnts l) (j - i) (.string k) (.int .u64 v) = uEnts (uput k v ck l)
  | [], i, j, u, h => by cases h
  | x :: l, i, j, u, h => by
    simp only [upos] at h
    by_cases e : k = x.1
    · rw [if_pos e] at h
      cases h
      refine ⟨Nat.le_refl _, ?_⟩
      simp only [Nat.sub_self, uEnts, List.map_cons, setVal, uput, if_pos e, ue]
    · rw [if_neg e] at h
      obtain ⟨h1, h2⟩ := setVal_u (ck := ck) (v := v) h
      refine ⟨by omega, ?_⟩
      rw [show j - i = (j - (i + 1)) + 1 by omega]
      simp only [uEnts, List.map_cons, setVal, uput, if_neg e]
      rw [← uEnts, h2]
      rfl

theorem eraseAt_u {k : ByteArray} : ∀ {l : List UE} {i j u : Nat}, upos k l i = some (j, u) → i ≤ j ∧ eraseAt (uEnts l) (j - i) = uEnts (udel k l)
  | [], i, j, u, h => by cases h
  | x :: l, i, j, u, h => by
    simp only [upos] at h
    by_cases e : k = x.1
    · rw [if_pos e] at h
      cases h
      refine ⟨Nat.le_refl _, ?_⟩
      simp only [Nat.sub_self, uEnts, List.map_cons, eraseAt, udel, if_pos e]
    · rw [if_neg e] at h
      obtain ⟨h1, h2⟩ := eraseAt_u h
      refine ⟨by omega, ?_⟩
      rw [show j - i = (j - (i + 1)) + 1 by omega]
      simp only [uEnts, List.map_cons, eraseAt, udel, if_neg e]
      rw [← uEnts, h2]
      rfl

theorem uput_new {k : ByteArray} {v ck : Nat} : ∀ {l : List UE}, uget l k = none → uput k v ck l = l ++ [(k, v, ck)]
  | [], _ => rfl
  | x :: l, h => by
    simp only [uget] at h
    by_cases e : k = x.1
    · rw [if_pos e] at h; cases h
    · rw [if_neg e] at h
      simp only [uput, if_neg e, uput_new h, List.cons_append]

section
variable {E : Env} {A : ASt} {t kt et m ck : Nat} {l : List UE} {i ki ei : TIn}

theorem lookup_u (hi : E.ti t = some i) (hd : i.desc = .map kt et) (hk : E.ti kt = some ki) (hkd : ki.desc = .string) (he : E.ti et = some ei) (hz : ei.zero = some (.int .u64 0)) (hm : A.get m = some (.map (uEnts l) ck)) (k : ByteArray) :
    aLookup E t (.map (some m)) (.string k) true A = some (.tuple #[.int .u64 ((uget l k).getD 0 : Nat), .bool (uget l k).isSome]) := by
  have hp : plainKey ki.desc (.string k) = true := by rw [hkd]; rfl
  simp only [aLookup, hi, hd, hk, he, hp, cond_true, hm, findE_u]
  have := upos_get k l 0
  cases hu : upos k l 0 with
  | none => rw [hu] at this; simp only [Option.map_none] at this ⊢; rw [← this, hz]; rfl
  | some p => rw [hu] at this; simp only [Option.map_some] at this ⊢; rw [← this]; rfl

theorem mapUpdate_u (hi : E.ti t = some i) (hd : i.desc = .map kt et) (hk : E.ti kt = some ki) (hkd : ki.desc = .string) (hm : A.get m = some (.map (uEnts l) ck)) (k : ByteArray) (v : Nat) :
    aMapUpdate E t (.map (some m)) (.string k) (.int .u64 v) A = some (A.set m (.map (uEnts (uput k v ck l)) (uck l k ck))) := by
  have hp : plainKey ki.desc (.string k) = true := by rw [hkd]; rfl
  simp only [aMapUpdate, hi, hd, hk, hp, cond_true, hm, findE_u]
  have := upos_get k l 0
  cases hu : upos k l 0 with
  | none =>
    rw [hu] at this
    simp only [Option.map_none] at this ⊢
    have hg : uget l k = none := this.symm
    rw [uput_new hg]
    unfold uck
    rw [hg]
    simp [uEnts, ue]
  | some p =>
    rw [hu] at this
    simp only [Option.map_some] at this ⊢
    have hs := (setVal_u (ck := ck) (v := v) hu).2
    simp only [Nat.sub_zero] at hs
    unfold uck
    rw [← this, hs]
    rfl

theorem delete_u (hi : E.ti t = some i) (hd : i.desc = .map kt et) (hk : E.ti kt = some ki) (hkd : ki.desc = .string) (hm : A.get m = some (.map (uEnts l) ck)) (k : ByteArray) :
    aDelete E t (.map (some m)) (.string k) A = .val undef (if (uget l k).isSome then A.set m (.map (uEnts (udel k l)) ck) else A) := by
  have hp : plainKey ki.desc (.string k) = true := by rw [hkd]; rfl
  simp only [aDelete, hi, hd, hk, hp, cond_true, hm, findE_u]
  have := upos_get k l 0
  cases hu : upos k l 0 with
  | none => rw [hu] at this; simp only [Option.map_none] at this ⊢; rw [← this]; rfl
  | some p =>
    rw [hu] at this
    simp only [Option.map_some] at this ⊢
    have hs := (eraseAt_u hu).2
    simp only [Nat.sub_zero] at hs
    rw [← this, hs]
    rfl

end

end Go.AE

/- The evaluator: numbers; calls whose contract is known of the model. -/
namespace Go.AE
open Go

section
variable {Z : Road} {E : Env} {P : Program}

theorem CallW.of_flat {f : FuncId} {args : List Value} {v : Value} {A : ASt} (hf : flats args = true) (hv : closed v = true) (h : ∀ w, Calls P f args.toArray w fun e w' => e = .returned v ∧ w' = w) : CallW Z P f args A (fun v' A' => v' = v ∧ A' = A) := by
  intro ρ w args' hR ha
  have e : args' = args.toArray := by
    have := flats_eq hf ha
    apply Array.ext'
    rw [← this]
  rw [e]
  refine (h w).mono ?_
  rintro e w' ⟨rfl, rfl⟩
  exact ⟨v, A, v, ρ, ⟨rfl, rfl⟩, rfl, .refl_closed hv, .refl (Z.rep hR)⟩

theorem CallT.mono {t : Tgt} {args : List Value} {A : ASt} {K K' : Value → ASt → Prop} (h : CallT Z P t args A K) (hk : ∀ v A', K v A' → K' v A') : CallT Z P t args A K' := by
  intro ρ w args' hR ha
  have := h ρ w args' hR ha
  cases t with
  | fn f => exact Calls.mono this fun e w' ⟨v, A', v', ρ', h1, rest⟩ => ⟨v, A', v', ρ', hk v A' h1, rest⟩
  | round l =>
    intro L hL
    obtain ⟨f, tmps, as, b, h1, h2⟩ := this L hL
    exact ⟨f, tmps, as, b, h1, h2.mono fun e w' ⟨v, A', v', ρ', h1, rest⟩ => ⟨v, A', v', ρ', hk v A' h1, rest⟩⟩

section
variable {t : TypeId} {xo yo : Operand} {k : IntKind} {a b : Int}
theorem ctor_self : Nat.beq k.ctorIdx k.ctorIdx = true := Nat.beq_refl _
theorem b_add : aBin2 E .add t xo yo (.int k a) (.int k b) = some (.int k (k.wrap (a + b))) := by simp only [aBin2, aBin, ctor_self, cond_true, intOp]
theorem b_sub : aBin2 E .sub t xo yo (.int k a) (.int k b) = some (.int k (k.wrap (a - b))) := by simp only [aBin2, aBin, ctor_self, cond_true, intOp]
theorem b_mul : aBin2 E .mul t xo yo (.int k a) (.int k b) = some (.int k (k.wrap (a * b))) := by simp only [aBin2, aBin, ctor_self, cond_true, intOp]
theorem b_xor : aBin2 E .xor t xo yo (.int k a) (.int k b) = some (.int k (k.wrap (BitVec.ofInt k.bits a ^^^ BitVec.ofInt k.bits b).toNat)) := by simp only [aBin2, aBin, ctor_self, cond_true, intOp]
theorem b_eql : aBin2 E .eql t xo yo (.int k a) (.int k b) = some (.bool (decide (a = b))) := by
  simp only [aBin2, aBin, ctor_self, cond_true, intOp]; rfl
theorem b_neq : aBin2 E .neq t xo yo (.int k a) (.int k b) = some (.bool (decide (a ≠ b))) := by
  simp only [aBin2, aBin, ctor_self, cond_true, intOp]
  congr 2
  by_cases h : a = b <;> simp [h]
theorem b_lss : aBin2 E .lss t xo yo (.int k a) (.int k b) = some (.bool (decide (a < b))) := by simp only [aBin2, aBin, ctor_self, cond_true, intOp]
theorem b_leq : aBin2 E .leq t xo yo (.int k a) (.int k b) = some (.bool (decide (a ≤ b))) := by simp only [aBin2, aBin, ctor_self, cond_true, intOp]
theorem b_gtr : aBin2 E .gtr t xo yo (.int k a) (.int k b) = some (.bool (decide (a > b))) := by simp only [aBin2, aBin, ctor_self, cond_true, intOp]
theorem b_geq : aBin2 E .geq t xo yo (.int k a) (.int k b) = some (.bool (decide (a ≥ b))) := by simp only [aBin2, aBin, ctor_self, cond_true, intOp]
theorem b_quo (h : b ≠ 0) : aBin2 E .quo t xo yo (.int k a) (.int k b) = some (.int k (k.wrap (a.tdiv b))) := by
  have : (b == 0) = false := by simpa using h
  simp only [aBin2, aBin, ctor_self, cond_true, intOp, this, cond_false]
theorem b_rem (h : b ≠ 0) : aBin2 E .rem t xo yo (.int k a) (.int k b) = some (.int k (a.tmod b)) := by
  have : (b == 0) = false := by simpa using h
  simp only [aBin2, aBin, ctor_self, cond_true, intOp, this, cond_false]
theorem b_shr {k' : IntKind} {m : Nat} : aBin2 E .shr t xo yo (.int k a) (.int k' ((m : Nat) : Int)) = some (.int k (a.fdiv (2 ^ (min m k.bits)))) := rfl
theorem b_ptr_nil {i : TIn} (h : E.ti t = some i) {e : TypeId} (hd : i.desc = .pointer e) {x : Option Addr} : aBin2 E .eql t xo yo (.pointer x) (.pointer none) = some (.bool x.isNone) := by
  cases x <;> simp [aBin2, aBin, eqV, h, hd]
theorem b_ptr_nil' {i : TIn} (h : E.ti t = some i) {e : TypeId} (hd : i.desc = .pointer e) {x : Option Addr} : aBin2 E .neq t xo yo (.pointer x) (.pointer none) = some (.bool (!x.isNone)) := by
  cases x <;> simp [aBin2, aBin, eqV, h, hd]
end

theorem b_shr64 {t : TypeId} {xo yo : Operand} {k' : IntKind} {a m : Nat} (hm : m ≤ 64) : aBin2 E .shr t xo yo (.int .u64 (a : Int)) (.int k' ((m : Nat) : Int)) = some (.int .u64 ((a / 2 ^ m : Nat) : Int)) := by
  rw [b_shr]
  have e : min m IntKind.u64.bits = m := Nat.min_eq_left hm
  rw [e]
  congr 2
  have h2 : (2 : Int) ^ m = ((2 ^ m : Nat) : Int) := by simp
  rw [h2, Int.fdiv_eq_ediv_of_nonneg _ (Int.natCast_nonneg _)]
  rfl
theorem b_rem_nat {t : TypeId} {xo yo : Operand} {k : IntKind} {a b : Nat} (hb : b ≠ 0) : aBin2 E .rem t xo yo (.int k (a : Int)) (.int k (b : Int)) = some (.int k ((a % b : Nat) : Int)) := by
  rw [b_rem (by omega)]
  rfl

theorem indexAddr_arr {A : ASt} {t e : TypeId} {i j : TIn} {len : Nat} (h : E.ti t = some i) (hd : i.desc = .array len e) (he : E.ti e = some j) {kd : IntKind} {k b off : Nat} (hk : k < len) :
    aIndexAddr E t (.pointer (some ⟨b, off, none⟩)) (.int kd (k : Int)) = some (.pointer (some ⟨b, off + k * j.size, none⟩)) := by
  have hb : Nat.blt k len = true := Nat.ble_eq_true_of_le hk
  have e1 : aIndexAddr E t (.pointer (some ⟨b, off, none⟩)) (.int kd (k : Int)) = (match E.ti t with
    | some i => match i.desc with
      | .array len e => match E.ti e with
        | some j => cond (Nat.blt k len) (some (.pointer (some ⟨b, off + k * j.size, none⟩))) none
        | none => none
      | _ => none
    | none => none) := by
    unfold aIndexAddr
    cases E.ti t with
    | none => rfl
    | some i => cases hd : i.desc <;> simp [hd] <;> rfl
  rw [e1, h]
  simp only [hd, he, hb, cond_true]
theorem indexAddr_sl {A : ASt} {t e : TypeId} {i j : TIn} (h : E.ti t = some i) (hd : i.desc = .slice e) (he : E.ti e = some j) {kd : IntKind} {k b off len cap : Nat} (hk : k < len) :
    aIndexAddr E t (.slice (some ⟨b, off, none⟩) len cap) (.int kd (k : Int)) = some (.pointer (some ⟨b, off + k * j.size, none⟩)) := by
  have hb : Nat.blt k len = true := Nat.ble_eq_true_of_le hk
  have e1 : aIndexAddr E t (.slice (some ⟨b, off, none⟩) len cap) (.int kd (k : Int)) = (match E.ti t with
    | some i => match i.desc with
      | .slice e => match E.ti e with
        | some j => cond (Nat.blt k len) (some (.pointer (some ⟨b, off + k * j.size, none⟩))) none
        | none => none
      | _ => none
    | none => none) := by
    unfold aIndexAddr
    cases E.ti t with
    | none => rfl
    | some i => cases hd : i.desc <;> simp [hd] <;> rfl
  rw [e1, h]
  simp only [hd, he, hb, cond_true]

theorem b_xor64 {t : TypeId} {xo yo : Operand} {a b : Nat} (ha : a < 18446744073709551616) (hb : b < 18446744073709551616) : aBin2 E .xor t xo yo (.int .u64 (a : Int)) (.int .u64 (b : Int)) = some (.int .u64 ((a ^^^ b : Nat) : Int)) := by
  rw [b_xor]
  congr 2
  have h1 : (BitVec.ofInt IntKind.u64.bits (a : Int) ^^^ BitVec.ofInt IntKind.u64.bits (b : Int)).toNat = a ^^^ b := by
    have e : IntKind.u64.bits = 64 := rfl
    rw [e]
    rw [BitVec.toNat_xor, BitVec.toNat_ofInt, BitVec.toNat_ofInt]
    congr 1 <;> omega
  rw [h1, IntKind.wrap_u64]
  have : a ^^^ b < 2 ^ 64 := Nat.xor_lt_two_pow (by omega) (by omega)
  omega

end
end Go.AE

/- The evaluator: a drawn region of operations that only read. -/
namespace Go.AE
open Go

noncomputable def aStill (E : Env) (op : Op) (T : Tmps) (H : ASt) : AR :=
  match aOp E op T { heap := .e, next := 0 } with
  | .val v A => .val v A
  | _ => aOp E op T H

noncomputable def quietW (E : Env) (n : Nat) (ops : Array Oper) (H : ASt) : List Oper → Tmps → (Tmps → Prop) → Prop
  | [], T, K => K T
  | o :: l, T, K =>
    brW (wantedA ops T o) (freshOp E o.op = false ∧ quietOp E o.op = true ∧ arW (fun _ _ _ _ => False) (fun v _ => valEq v v = true ∧ putW n T o.dst v fun T' => quietW E n ops H l T' K) (aStill E o.op T H))
      (putW n T o.dst undef fun T' => quietW E n ops H l T' K)

@[congr] theorem quietW_congr {E : Env} {n n' : Nat} {ops : Array Oper} {H : ASt} {l : List Oper} {T : Tmps} {K : Tmps → Prop} (h : tg n = n') : quietW E n ops H l T K = quietW E n' ops H l T K := by rw [← h]; rfl

structure QSt (E : Env) (an : List Nat) (H : ASt) (s : PSt) : Prop where
  qH : s.H = H
  qfl : s.fl = []
  ql : s.louds = 0
  qh : s.hist = [(0, H)]
  qr : ∀ r ∈ s.reads, (∃ m, nth an r.i = some m) ∧ (∃ A', aOp E r.o r.T H = .val r.v A') ∧ valEq r.v r.v = true

theorem QSt.readsOK {E : Env} {base : Nat} {an : List Nat} {H : ASt} {s : PSt} (h : QSt E an H s) : ∀ {l : List Rd}, (∀ r ∈ l, r ∈ s.reads) → Go.AE.readsOK E base an s l = true
  | [], _ => rfl
  | r :: l, hl => by
    unfold Go.AE.readsOK
    rw [Bool.and_eq_true]
    refine ⟨?_, h.readsOK fun x hx => hl x (by simp [hx])⟩
    obtain ⟨⟨m, hm⟩, ⟨A', ha⟩, hv⟩ := h.qr r (hl r (by simp))
    rw [hm]
    simp only [h.qfl, h.ql, h.qh, readAt, Bool.and_true]
    have hview : viewAt base an 0 m [] H = H := rfl
    rw [hview, ha]
    simp only [hv]
    cases (Nat.beq (m &&& 0 &&& 0) (m &&& 0) && Nat.beq (0 &&& behind r.i 0 an) 0) <;> rfl

theorem planN_quiet {E : Env} {n base : Nat} {ops : Array Oper} {an : List Nat} {H : ASt} {call : Tgt → List Value → ASt → Nd (Value × ASt)} {K : Tmps → Prop} : ∀ (l : List Oper) (i : Nat) (s : PSt), QSt E an H s → i + l.length ≤ an.length → quietW E n ops H l s.T K → (planN E call n base ops an i l s).all fun s' => QSt E an H s' ∧ K s'.T
  | [], i, s, hs, _, h => ⟨hs, h⟩
  | o :: l, i, s, hs, hl, h => by
    have hlt : i < an.length := by simp at hl; omega
    have hm : nth an i = some an[i] := by rw [nth_eq]; simp [hlt]
    have step : ∃ s', planStep E call n base ops an i o s = some s' ∧ QSt E an H s' ∧ quietW E n ops H l s'.T K := by
      unfold planStep
      rw [hm]
      simp only []
      cases hw : wantedA ops s.T o with
      | false =>
        rw [cond_false]
        obtain ⟨T', hT, hk⟩ := putW_putN (h.2 hw)
        rw [hT]
        exact ⟨_, rfl, ⟨hs.qH, hs.qfl, hs.ql, hs.qh, hs.qr⟩, hk⟩
      | true =>
        rw [cond_true]
        obtain ⟨hf, hq, har⟩ := h.1 hw
        rw [hf, cond_false, hq, cond_true]
        unfold aStill at har
        cases h0 : aOp E o.op s.T { heap := .e, next := 0 } with
        | val v A0 =>
          rw [h0] at har
          obtain ⟨_, hp⟩ := har
          obtain ⟨T', hT, hk⟩ := putW_putN hp
          simp only [hT]
          exact ⟨_, rfl, ⟨hs.qH, hs.qfl, hs.ql, hs.qh, hs.qr⟩, hk⟩
        | enter t a A0 =>
          rw [h0] at har
          have hview : viewAt base an s.louds an[i] s.fl s.H = H := by rw [hs.qfl, hs.qH]; rfl
          simp only [hview]
          cases h1 : aOp E o.op s.T H with
          | val v A1 =>
            rw [h1] at har
            obtain ⟨hv, hp⟩ := har
            obtain ⟨T', hT, hk⟩ := putW_putN hp
            simp only [hT]
            refine ⟨_, rfl, ⟨hs.qH, hs.qfl, hs.ql, hs.qh, fun r hr => ?_⟩, hk⟩
            rcases List.mem_cons.1 hr with rfl | hr
            · exact ⟨⟨_, hm⟩, ⟨A1, h1⟩, hv⟩
            · exact hs.qr r hr
          | enter _ _ _ => rw [h1] at har; exact har.elim
          | bad _ => rw [h1] at har; exact har.elim
        | bad why =>
          rw [h0] at har
          have hview : viewAt base an s.louds an[i] s.fl s.H = H := by rw [hs.qfl, hs.qH]; rfl
          simp only [hview]
          cases h1 : aOp E o.op s.T H with
          | val v A1 =>
            rw [h1] at har
            obtain ⟨hv, hp⟩ := har
            obtain ⟨T', hT, hk⟩ := putW_putN hp
            simp only [hT]
            refine ⟨_, rfl, ⟨hs.qH, hs.qfl, hs.ql, hs.qh, fun r hr => ?_⟩, hk⟩
            rcases List.mem_cons.1 hr with rfl | hr
            · exact ⟨⟨_, hm⟩, ⟨A1, h1⟩, hv⟩
            · exact hs.qr r hr
          | enter _ _ _ => rw [h1] at har; exact har.elim
          | bad _ => rw [h1] at har; exact har.elim
    obtain ⟨s', h1, h2, h3⟩ := step
    unfold planN
    rw [h1]
    exact planN_quiet l (i + 1) s' h2 (by simp at hl; omega) h3

theorem Nd.all_bind' {α β : Type} {q : β → Prop} (f : α → Nd β) : ∀ {m : Nd α}, (m.all fun a => (f a).all q) → (m.bind f).all q
  | .ret _, h => h
  | .ask _ _, h => fun i hi => Nd.all_bind' f (h i hi)
  | .fail _, h => h
  | .pick _ _, h => fun r hr => Nd.all_bind' f (h r hr)

theorem CodeW.quiet {Z : Road} {E : Env} {P : Program} (hE : EnvOK E P) (hZr : RoadRo Z E) (hm : P.follows .mixedOrders = true) {n id : Nat} {ro : Option Nat} {ops : Array Oper} {T : Tmps} {A : ASt} {Q : Out → Prop}
    (hreg : regOK ops (ancs ops.toList []) ops.toList 0 ops.toList = true) (hn : Nat.beq (ancs ops.toList []).length ops.toList.length = true)
    (h : quietW E n ops { A with next := A.next + ops.toList.length } ops.toList T fun T' => Q (.fr ⟨.normal, T', { A with next := A.next + ops.toList.length }⟩)) : CodeW Z P n ro (.region id ops true) T A Q := by
  refine CodeW.drawn hE hZr hm (call := fun _ _ _ => .fail "no call") fail_sound ?_
  unfold drawRun
  rw [hreg, cond_true]
  simp only [fN_eq]
  refine Nd.all_bind' _ ?_
  have hs0 : QSt E (ancs ops.toList []) { A with next := A.next + ops.toList.length } { T, H := { A with next := A.next + ops.toList.length }, fl := [], louds := 0, hist := [(0, { A with next := A.next + ops.toList.length })], reads := [] } := ⟨rfl, rfl, rfl, rfl, fun r hr => by cases hr⟩
  refine Nd.all_mono (fun s hs => ?_) (planN_quiet (base := A.next) (call := fun _ _ _ => .fail "no call") ops.toList 0 _ hs0 (by rw [Nat.eq_of_beq_eq_true hn]; omega) h)
  obtain ⟨h1, h2⟩ := hs
  rw [h1.readsOK fun r hr => hr, cond_true]
  simp only [Nd.all]
  rw [h1.qfl, h1.qH]
  exact h2

theorem get_empty {n b : Nat} : ASt.get { heap := .e, next := n } b = none := rfl
theorem get_next {A : ASt} {n b : Nat} : ASt.get { heap := A.heap, next := n } b = A.get b := rfl
theorem ofVal_none {A : ASt} {w : String} : ofVal none A w = .bad w := rfl
theorem valEq_int {k : IntKind} {a : Int} : valEq (.int k a) (.int k a) = true := by simp [valEq, vEq, vStep, flatEq]
theorem valEq_str {s : ByteArray} : valEq (.string s) (.string s) = true := by simp [valEq, vEq, vStep, flatEq, bytesEq_iff]
theorem valEq_bool {b : Bool} : valEq (.bool b) (.bool b) = true := by simp [valEq, vEq, vStep, flatEq]
theorem valEq_map {m : Nat} : valEq (.map (some m)) (.map (some m)) = true := by simp [valEq, vEq, vStep, flatEq]
theorem valEq_ptr {b o : Nat} : valEq (.pointer (some ⟨b, o, none⟩)) (.pointer (some ⟨b, o, none⟩)) = true := by simp [valEq, vEq, vStep, flatEq]
theorem valEq_slice {b o l c : Nat} : valEq (.slice (some ⟨b, o, none⟩) l c) (.slice (some ⟨b, o, none⟩) l c) = true := by simp [valEq, vEq, vStep, flatEq]
theorem valEq_nilSlice {l c : Nat} : valEq (.slice none l c) (.slice none l c) = true := by simp [valEq, vEq, vStep, flatEq]
theorem valEq_mapNil : valEq (.map none) (.map none) = true := by simp [valEq, vEq, vStep, flatEq]

end Go.AE

/- The evaluator: loops over maps of strings to numbers. -/
namespace Go.AE
open Go

noncomputable def nextV (o : Option Value) (isString : Bool) (A : ASt) (K : Value → ASt → Prop) : Prop :=
  match o with
  | some v => (aNext v isString A).all fun r => K r.1 r.2
  | none => False
theorem oneW_next {E : Env} {C : Tgt → List Value → ASt → (Value → ASt → Prop) → Prop} {it : Operand} {s : Bool} {T : Tmps} {A : ASt} {K : Value → ASt → Prop} : oneW E C (.next it s) T A K = nextV (ev T it) s A K := by
  apply propext
  show (∃ v, ev T it = some v ∧ (aNext v s A).all fun r => K r.1 r.2) ↔ _
  unfold nextV
  cases ev T it with
  | none => simp
  | some v => simp
@[congr] theorem nextV_congr {o o' : Option Value} {s : Bool} {A A' : ASt} {K : Value → ASt → Prop} (h : ∀ _ : Unit, tg o = o') (h2 : A = A') : nextV o s A K = nextV o' s A' K := by rw [← h (), ← h2]; rfl

theorem keys_one {α β : Type} {f : α → β} {l : List α} (hn : (l.map f).Nodup) {x y : α} (hx : x ∈ l) (hy : y ∈ l) (e : f x = f y) : x = y := by
  induction l with
  | nil => cases hx
  | cons z l ih =>
    simp only [List.map_cons, List.nodup_cons] at hn
    rcases List.mem_cons.1 hx with h1 | h1 <;> rcases List.mem_cons.1 hy with h2 | h2
    · rw [h1, h2]
    · exact absurd (List.mem_map.2 ⟨y, h2, by rw [← e, h1]⟩) hn.1
    · exact absurd (List.mem_map.2 ⟨x, h1, by rw [e, h2]⟩) hn.1
    · exact ih hn.2 h1 h2

theorem MapOK.mem_born {l : List UE} {ck : Nat} (hok : MapOK l ck) {x y : UE} (hx : x ∈ l) (hy : y ∈ l) (e : x.2.2 = y.2.2) : x = y := by
  have hp := hok.born
  clear hok
  exact keys_one (f := fun x : UE => x.2.2) hp hx hy e

theorem nextV_u {l done : List UE} {ck m r : Nat} {A : ASt} {K : Value → ASt → Prop} (hok : MapOK l ck) (hsub : ∀ x ∈ done, x ∈ l) (hr : A.get r = some (.miter (some m) ck (done.map (·.2.2)) ck)) (hm : A.get m = some (.map (uEnts l) ck))
    (h1 : ∀ x ∈ l, x ∉ done → K (.tuple #[.bool true, .string x.1, .int .u64 (x.2.1 : Nat)]) (A.set r (.miter (some m) ck ((done ++ [x]).map (·.2.2)) ck)))
    (h2 : (∀ x ∈ l, x ∈ done) → K (.tuple #[.bool false]) A) : nextV (some (.pointer (some ⟨r, 0, none⟩))) false A K := by
  have hold : (done.map (·.2.2)).isEmpty = true ∨ (uEnts l).all (fun e => decide (e.born ≥ ck)) = false := by
    cases done with
    | nil => exact .inl rfl
    | cons y d =>
      right
      rw [List.all_eq_false]
      refine ⟨ue y, List.mem_map.2 ⟨y, hsub y (by simp), rfl⟩, ?_⟩
      have := hok.lt y (hsub y (by simp))
      simp [ue]; omega
  have hb : ((done.map (·.2.2)).isEmpty || !((uEnts l).all fun e => decide (e.born ≥ ck))) = true := by
    rcases hold with h | h <;> simp [h]
  have hmem : ∀ e, e ∈ entriesLeft (done.map (·.2.2)) (uEnts l) → ∃ x ∈ l, x ∉ done ∧ e = ue x := by
    intro e he
    simp only [entriesLeft, List.mem_filter, uEnts, List.mem_map] at he
    obtain ⟨⟨x, hx, rfl⟩, hn⟩ := he
    refine ⟨x, hx, fun hd => ?_, rfl⟩
    have : (done.map (·.2.2)).contains (ue x).born = true := List.contains_iff_mem.2 (List.mem_map.2 ⟨x, hd, rfl⟩)
    rw [this] at hn
    cases hn
  have hyoung : ∀ e, e ∈ entriesLeft (done.map (·.2.2)) (uEnts l) → e.born < ck := by
    intro e he
    obtain ⟨x, hx, _, rfl⟩ := hmem e he
    exact hok.lt x hx
  have hK : ∀ e, e ∈ entriesLeft (done.map (·.2.2)) (uEnts l) → K (.tuple #[.bool true, e.key, e.val]) (A.set r (.miter (some m) ck (done.map (·.2.2) ++ [e.born]) ck)) := by
    intro e he
    obtain ⟨x, hx, hn, rfl⟩ := hmem e he
    have := h1 x hx hn
    rw [List.map_append] at this
    exact this
  simp only [nextV, aNext, hr, hm, Nat.beq_refl, Bool.and_self, cond_true]
  cases hL : entriesLeft (done.map (·.2.2)) (uEnts l) with
  | nil =>
    have hall : ∀ x ∈ l, x ∈ done := by
      intro x hx
      by_cases hd : x ∈ done
      · exact hd
      · exfalso
        have : ue x ∈ entriesLeft (done.map (·.2.2)) (uEnts l) := by
          simp only [entriesLeft, List.mem_filter, uEnts, List.mem_map]
          refine ⟨⟨x, hx, rfl⟩, ?_⟩
          have : (done.map (·.2.2)).contains (ue x).born = false := by
            rw [Bool.eq_false_iff]
            intro hc
            obtain ⟨y, hy, e⟩ := List.mem_map.1 (List.contains_iff_mem.1 hc)
            have := hok.mem_born (hsub y hy) hx e
            exact hd (this ▸ hy)
          rw [this]; rfl
        rw [hL] at this
        cases this
    have hb2 : ((done.map (·.2.2)).isEmpty || ((uEnts l).isEmpty || !((uEnts l).all fun e => decide (e.born ≥ ck)))) = true := by
      rcases hold with h | h <;> simp [h]
    rw [hb2, cond_true]
    exact h2 hall
  | cons e rest =>
    rw [hL] at hyoung hK
    cases rest with
    | nil =>
      have h3 : decide (e.born < ck) = true := decide_eq_true (hyoung e (by simp))
      simp only [h3, hb, Bool.and_self, cond_true, Nd.all]
      exact hK e (by simp)
    | cons e2 rest =>
      have h3 : ((e :: e2 :: rest).all fun e => decide (e.born < ck)) = true := List.all_eq_true.2 fun x hx => decide_eq_true (hyoung x hx)
      simp only [h3, hb, Bool.and_self, cond_true, Nd.all]
      intro i hi
      have hi' : nth (e :: e2 :: rest) i = some ((e :: e2 :: rest)[i]'hi) := by rw [nth_eq]; exact List.getElem?_eq_getElem _
      rw [hi']
      exact hK _ (List.getElem_mem hi)

theorem lastOf_snoc (l : List Nat) (x : Nat) : lastOf (l ++ [x]) = some x := by rw [lastOf_eq]; simp

theorem findBorn_u {l : List UE} (hn : (l.map (·.2.2)).Nodup) {x : UE} (hx : x ∈ l) : findBorn x.2.2 (uEnts l) = some (ue x) := by
  induction l with
  | nil => cases hx
  | cons y l ih =>
    simp only [List.map_cons, List.nodup_cons] at hn
    simp only [uEnts, List.map_cons, findBorn]
    rcases List.mem_cons.1 hx with rfl | hx
    · have : Nat.beq (ue x).born x.2.2 = true := Nat.beq_refl _
      rw [this, cond_true]
    · have : Nat.beq (ue y).born x.2.2 = false := by
        rw [Bool.eq_false_iff]
        intro h
        exact hn.1 (List.mem_map.2 ⟨x, hx, (Nat.eq_of_beq_eq_true h).symm⟩)
      rw [this, cond_false]
      exact ih hn.2 hx

theorem entry_u {l done : List UE} {ck m r : Nat} {A : ASt} {x : UE} (hok : MapOK l ck) (hx : x ∈ l) (hr : A.get r = some (.miter (some m) ck ((done ++ [x]).map (·.2.2)) ck)) (hm : A.get m = some (.map (uEnts l) ck)) :
    aEntry (.pointer (some ⟨r, 0, none⟩)) A = some (.tuple #[.string x.1, .int .u64 (x.2.1 : Nat)]) := by
  simp only [aEntry, hr, hm, List.map_append, List.map_cons, List.map_nil, lastOf_snoc, Nat.beq_refl, cond_true, findBorn_u hok.born hx]
  rfl

theorem CodeW.loopR {Z : Road} {P : Program} {n : Nat} {ro : Option Nat} {b : Code} {Q : Out → Prop} (I : Nat → Tmps → ASt → Prop)
    (hb : ∀ k T A, I k T A → CodeW Z P n ro b T A (Onw (fun T' A' => ∃ k', k' < k ∧ I k' T' A') Q)) {k : Nat} {T : Tmps} {A : ASt} (hI : I k T A) : CodeW Z P n ro (.loop b) T A Q := by
  intro ρ w a N rr hR hro ht hn hd
  refine wpIn_loop_rounds (k + 1) ?_
  have key : ∀ (j k1 : Nat) (T1 : Tmps) (A1 : ASt) (ρ1 : Ren) (a1 : Act) (w1 : World), k1 < j → I k1 T1 A1 → Step ρ A w ρ1 A1 w1 → TRel ρ1 T1 a1 → a1.tmps.size = n → Defs N w1 a1.defers → roundsIn (FR rr) P b (CodePost Q ρ A w n N) j a1 w1 := by
    intro j
    induction j with
    | zero => intro k1 T1 A1 ρ1 a1 w1 h; omega
    | succ j ih =>
      intro k1 T1 A1 ρ1 a1 w1 hk hI1 hs ht1 hn1 hd1
      rw [roundsIn_succ]
      refine wpIn_mono (hb k1 T1 A1 hI1 ρ1 w1 a1 N rr (Z.step hR hs) (hro.mono hs.ext) ht1 hn1 hd1) ?_
      rintro e a' w' ⟨ex, T', A', hq, hex, ρ', ht', hst, hn', hd'⟩
      cases ex with
      | normal =>
        cases e <;> first | exact hex.elim | skip
        obtain ⟨k', hlt, hi⟩ := hq
        exact ih k' T' A' ρ' a' w' (by omega) hi (hs.trans hst) ht' hn' hd'
      | exit i => cases e <;> first | exact hex.elim | exact ⟨.exit i, T', A', hq, hex, ρ', ht', hs.trans hst, hn', hd'⟩
      | ret => cases e <;> first | exact hex.elim | exact ⟨.ret, T', A', hq, hex, ρ', ht', hs.trans hst, hn', hd'⟩
  exact key _ k T A ρ a w (Nat.lt_succ_self _) hI (.refl (Z.rep hR)) ht hn hd

structure InMap (it : Tmp) (r m ck : Nat) (l done : List UE) (T : Tmps) (A : ASt) : Prop where
  it : tget T it = .pointer (some ⟨r, 0, none⟩)
  iter : A.get r = some (.miter (some m) ck (done.map (·.2.2)) ck)
  map : A.get m = some (.map (uEnts l) ck)
  sub : ∀ x ∈ done, x ∈ l
  nodup : done.Nodup

theorem nodup_le {l : List UE} : ∀ {d : List UE}, d.Nodup → (∀ x ∈ d, x ∈ l) → d.length ≤ l.length := by
  induction l with
  | nil =>
    intro d _ hs
    cases d with
    | nil => simp
    | cons x d => exact absurd (hs x (by simp)) (by simp)
  | cons y l ih =>
    intro d hd hs
    by_cases hy : y ∈ d
    · obtain ⟨s, t, rfl⟩ := List.append_of_mem hy
      have hd' : (s ++ t).Nodup ∧ y ∉ s ++ t := by
        have h1 : (s ++ y :: t).Perm (y :: (s ++ t)) := List.perm_middle
        have h2 := (h1.nodup_iff).1 hd
        simp only [List.nodup_cons] at h2
        exact ⟨h2.2, h2.1⟩
      have h1 := ih hd'.1 (fun x hx => by
        rcases List.mem_cons.1 (hs x (by rcases List.mem_append.1 hx with h | h <;> simp [h])) with e | e
        · exact absurd (e ▸ hx) hd'.2
        · exact e)
      simp only [List.length_append, List.length_cons] at h1 ⊢; omega
    · have h1 := ih (d := d) hd (fun x hx => by
        rcases List.mem_cons.1 (hs x hx) with e | e
        · exact absurd (e ▸ hx) hy
        · exact e)
      simp only [List.length_cons]; omega

theorem CodeW.mapLoop {Z : Road} {P : Program} {n : Nat} {ro : Option Nat} {b : Code} {Q : Out → Prop} {it : Tmp} {r m ck : Nat} {l : List UE} (J : List UE → Tmps → ASt → Prop)
    (hb : ∀ done T A, InMap it r m ck l done T A → J done T A → CodeW Z P n ro b T A (Onw (fun T' A' => ∃ x, x ∈ l ∧ x ∉ done ∧ InMap it r m ck l (done ++ [x]) T' A' ∧ J (done ++ [x]) T' A') Q))
    {T : Tmps} {A : ASt} (h0 : InMap it r m ck l [] T A) (hJ : J [] T A) : CodeW Z P n ro (.loop b) T A Q := by
  refine CodeW.loopR (fun k T A => ∃ done, k = l.length - done.length ∧ InMap it r m ck l done T A ∧ J done T A) ?_ ⟨[], rfl, h0, hJ⟩
  rintro k T A ⟨done, rfl, hi, hj⟩
  refine (hb done T A hi hj).mono fun o ho => ?_
  cases o with
  | res v A => exact ho
  | fr rr =>
    obtain ⟨ex, T', A'⟩ := rr
    cases ex with
    | normal =>
      obtain ⟨x, h1, h2, h3, h4⟩ := ho
      refine ⟨_, ?_, done ++ [x], rfl, h3, h4⟩
      have h5 := nodup_le h3.nodup h3.sub
      simp only [List.length_append, List.length_cons, List.length_nil] at h5 ⊢
      omega
    | exit i => exact ho
    | ret => exact ho

theorem InMap.step {it : Tmp} {r m ck : Nat} {l done : List UE} {T T' : Tmps} {A A' : ASt} (h : InMap it r m ck l done T A) {x : UE} (hx : x ∈ l) (hn : x ∉ done) (ht : tget T' it = tget T it) (hr : A'.get r = some (.miter (some m) ck ((done ++ [x]).map (·.2.2)) ck)) (hm : A'.get m = A.get m) : InMap it r m ck l (done ++ [x]) T' A' :=
  ⟨ht.trans h.it, hr, hm.trans h.map, fun y hy => by
    rcases List.mem_append.1 hy with h1 | h1
    · exact h.sub y h1
    · rw [List.mem_singleton.1 h1]; exact hx, by
    rw [List.nodup_append]
    refine ⟨h.nodup, by simp, fun a ha b hb e => ?_⟩
    rw [List.mem_singleton.1 hb] at e
    exact hn (e ▸ ha)⟩

theorem uget_all {l done : List UE} {ck : Nat} (hok : MapOK l ck) (hsub : ∀ x ∈ done, x ∈ l) (hall : ∀ x ∈ l, x ∈ done) (hd : done.Nodup) : (done.map (·.1)).Nodup ∧ ∀ k, uget done k = uget l k := by
  have hk : (done.map (·.1)).Nodup := by
    rw [List.Nodup, List.pairwise_map]
    refine List.Pairwise.imp_of_mem (fun {a b} ha hb hne e => hne ?_) hd
    have h1 := uget_mem hok.keys (hsub a ha)
    have h2 := uget_mem hok.keys (hsub b hb)
    exact keys_one (f := fun x : UE => x.1) hok.keys (hsub a ha) (hsub b hb) e
  refine ⟨hk, fun k => ?_⟩
  cases h : uget l k with
  | none =>
    rw [uget_none] at h ⊢
    exact fun x hx => h x (hsub x hx)
  | some v =>
    obtain ⟨b, hb⟩ := uget_some h
    exact uget_mem hk (hall _ hb)

theorem range_u {E : Env} {A : ASt} {t : TypeId} {i : TIn} {kt et : TypeId} {m ck : Nat} {es : List MapEntry} (hi : E.ti t = some i) (hd : i.desc = .map kt et) (hm : A.get m = some (.map es ck)) :
    aRange E t (.map (some m)) A = .val (.pointer (some ⟨A.next, 0, none⟩)) (A.new (.miter (some m) ck [] ck)) := by
  simp only [aRange, hi, hd, hm, fN_eq]; rfl

theorem uget_snoc {l : List UE} {x : UE} (k : ByteArray) : uget (l ++ [x]) k = (uget l k).or (if k = x.1 then some x.2.1 else none) := by
  induction l with
  | nil => simp [uget]
  | cons y l ih =>
    simp only [List.cons_append, uget]
    by_cases e : k = y.1
    · simp [e]
    · simp only [e, if_false]; exact ih
end Go.AE
namespace Go.AE
open Go
def isNextB : Op → Bool
  | .next _ _ => true
  | _ => false
theorem oneW_op {E : Env} {C : Tgt → List Value → ASt → (Value → ASt → Prop) → Prop} {op : Op} {T : Tmps} {A : ASt} {K : Value → ASt → Prop} (h : isNextB op = false) : oneW E C op T A K = arW C K (aOp E op T A) := by
  cases op <;> first | rfl | cases h
theorem oneW_move {x : Operand} {E : Env} {C : Tgt → List Value → ASt → (Value → ASt → Prop) → Prop} {T : Tmps} {A : ASt} {K : Value → ASt → Prop} : oneW E C (.move x) T A K = arW C K (aOp E (.move x) T A) := oneW_op rfl
theorem oneW_assign {x : Operand} {E : Env} {C : Tgt → List Value → ASt → (Value → ASt → Prop) → Prop} {T : Tmps} {A : ASt} {K : Value → ASt → Prop} : oneW E C (.assign x) T A K = arW C K (aOp E (.assign x) T A) := oneW_op rfl
theorem oneW_pick {c a b : Operand} {E : Env} {C : Tgt → List Value → ASt → (Value → ASt → Prop) → Prop} {T : Tmps} {A : ASt} {K : Value → ASt → Prop} : oneW E C (.pick c a b) T A K = arW C K (aOp E (.pick c a b) T A) := oneW_op rfl
theorem oneW_build {t : TypeId} {ps : Array (Nat × Operand)} {E : Env} {C : Tgt → List Value → ASt → (Value → ASt → Prop) → Prop} {T : Tmps} {A : ASt} {K : Value → ASt → Prop} : oneW E C (.build t ps) T A K = arW C K (aOp E (.build t ps) T A) := oneW_op rfl
theorem oneW_load {t : TypeId} {a : Operand} {E : Env} {C : Tgt → List Value → ASt → (Value → ASt → Prop) → Prop} {T : Tmps} {A : ASt} {K : Value → ASt → Prop} : oneW E C (.load t a) T A K = arW C K (aOp E (.load t a) T A) := oneW_op rfl
theorem oneW_store {t : TypeId} {a x : Operand} {E : Env} {C : Tgt → List Value → ASt → (Value → ASt → Prop) → Prop} {T : Tmps} {A : ASt} {K : Value → ASt → Prop} : oneW E C (.store t a x) T A K = arW C K (aOp E (.store t a x) T A) := oneW_op rfl
theorem oneW_nilCheck {x : Operand} {E : Env} {C : Tgt → List Value → ASt → (Value → ASt → Prop) → Prop} {T : Tmps} {A : ASt} {K : Value → ASt → Prop} : oneW E C (.nilCheck x) T A K = arW C K (aOp E (.nilCheck x) T A) := oneW_op rfl
theorem oneW_binOp {op : BinOp} {t u : TypeId} {x y : Operand} {E : Env} {C : Tgt → List Value → ASt → (Value → ASt → Prop) → Prop} {T : Tmps} {A : ASt} {K : Value → ASt → Prop} : oneW E C (.binOp op t x y u) T A K = arW C K (aOp E (.binOp op t x y u) T A) := oneW_op rfl
theorem oneW_unOp {op : UnOp} {t : TypeId} {x : Operand} {E : Env} {C : Tgt → List Value → ASt → (Value → ASt → Prop) → Prop} {T : Tmps} {A : ASt} {K : Value → ASt → Prop} : oneW E C (.unOp op t x) T A K = arW C K (aOp E (.unOp op t x) T A) := oneW_op rfl
theorem oneW_makeFunc {fn : Fn} {f c : Array Operand} {E : Env} {C : Tgt → List Value → ASt → (Value → ASt → Prop) → Prop} {T : Tmps} {A : ASt} {K : Value → ASt → Prop} : oneW E C (.makeFunc fn f c) T A K = arW C K (aOp E (.makeFunc fn f c) T A) := oneW_op rfl
theorem oneW_slice {t : TypeId} {x : Operand} {lo hi mx : Option Operand} {E : Env} {C : Tgt → List Value → ASt → (Value → ASt → Prop) → Prop} {T : Tmps} {A : ASt} {K : Value → ASt → Prop} : oneW E C (.slice t x lo hi mx) T A K = arW C K (aOp E (.slice t x lo hi mx) T A) := oneW_op rfl
theorem oneW_fieldAddr {s f : Nat} {x : Operand} {E : Env} {C : Tgt → List Value → ASt → (Value → ASt → Prop) → Prop} {T : Tmps} {A : ASt} {K : Value → ASt → Prop} : oneW E C (.fieldAddr s x f) T A K = arW C K (aOp E (.fieldAddr s x f) T A) := oneW_op rfl
theorem oneW_field {s f : Nat} {x : Operand} {E : Env} {C : Tgt → List Value → ASt → (Value → ASt → Prop) → Prop} {T : Tmps} {A : ASt} {K : Value → ASt → Prop} : oneW E C (.field s x f) T A K = arW C K (aOp E (.field s x f) T A) := oneW_op rfl
theorem oneW_indexAddr {t : TypeId} {x i : Operand} {E : Env} {C : Tgt → List Value → ASt → (Value → ASt → Prop) → Prop} {T : Tmps} {A : ASt} {K : Value → ASt → Prop} : oneW E C (.indexAddr t x i) T A K = arW C K (aOp E (.indexAddr t x i) T A) := oneW_op rfl
theorem oneW_index {t : TypeId} {x i : Operand} {E : Env} {C : Tgt → List Value → ASt → (Value → ASt → Prop) → Prop} {T : Tmps} {A : ASt} {K : Value → ASt → Prop} : oneW E C (.index t x i) T A K = arW C K (aOp E (.index t x i) T A) := oneW_op rfl
theorem oneW_lookup {t : TypeId} {x k : Operand} {ok : Bool} {E : Env} {C : Tgt → List Value → ASt → (Value → ASt → Prop) → Prop} {T : Tmps} {A : ASt} {K : Value → ASt → Prop} : oneW E C (.lookup t x k ok) T A K = arW C K (aOp E (.lookup t x k ok) T A) := oneW_op rfl
theorem oneW_mapUpdate {t : TypeId} {m k x : Operand} {E : Env} {C : Tgt → List Value → ASt → (Value → ASt → Prop) → Prop} {T : Tmps} {A : ASt} {K : Value → ASt → Prop} : oneW E C (.mapUpdate t m k x) T A K = arW C K (aOp E (.mapUpdate t m k x) T A) := oneW_op rfl
theorem oneW_range {t : TypeId} {x : Operand} {E : Env} {C : Tgt → List Value → ASt → (Value → ASt → Prop) → Prop} {T : Tmps} {A : ASt} {K : Value → ASt → Prop} : oneW E C (.range t x) T A K = arW C K (aOp E (.range t x) T A) := oneW_op rfl
theorem oneW_entry {it : Operand} {E : Env} {C : Tgt → List Value → ASt → (Value → ASt → Prop) → Prop} {T : Tmps} {A : ASt} {K : Value → ASt → Prop} : oneW E C (.entry it) T A K = arW C K (aOp E (.entry it) T A) := oneW_op rfl
theorem oneW_extract {t : Operand} {i : Nat} {E : Env} {C : Tgt → List Value → ASt → (Value → ASt → Prop) → Prop} {T : Tmps} {A : ASt} {K : Value → ASt → Prop} : oneW E C (.extract t i) T A K = arW C K (aOp E (.extract t i) T A) := oneW_op rfl
theorem oneW_call {c : Call} {E : Env} {C : Tgt → List Value → ASt → (Value → ASt → Prop) → Prop} {T : Tmps} {A : ASt} {K : Value → ASt → Prop} : oneW E C (.call c) T A K = arW C K (aOp E (.call c) T A) := oneW_op rfl
theorem oneW_alloc {t : TypeId} {E : Env} {C : Tgt → List Value → ASt → (Value → ASt → Prop) → Prop} {T : Tmps} {A : ASt} {K : Value → ASt → Prop} : oneW E C (.alloc t) T A K = arW C K (aOp E (.alloc t) T A) := oneW_op rfl
theorem oneW_box {t : TypeId} {x : Operand} {E : Env} {C : Tgt → List Value → ASt → (Value → ASt → Prop) → Prop} {T : Tmps} {A : ASt} {K : Value → ASt → Prop} : oneW E C (.box t x) T A K = arW C K (aOp E (.box t x) T A) := oneW_op rfl
theorem oneW_makeMap {t : TypeId} {n : Option Operand} {E : Env} {C : Tgt → List Value → ASt → (Value → ASt → Prop) → Prop} {T : Tmps} {A : ASt} {K : Value → ASt → Prop} : oneW E C (.makeMap t n) T A K = arW C K (aOp E (.makeMap t n) T A) := oneW_op rfl
theorem oneW_buildSlice {t : TypeId} {n : Nat} {ps : Array (Nat × Operand)} {E : Env} {C : Tgt → List Value → ASt → (Value → ASt → Prop) → Prop} {T : Tmps} {A : ASt} {K : Value → ASt → Prop} : oneW E C (.buildSlice t n ps) T A K = arW C K (aOp E (.buildSlice t n ps) T A) := oneW_op rfl
theorem oneW_convert {f t : TypeId} {x : Operand} {E : Env} {C : Tgt → List Value → ASt → (Value → ASt → Prop) → Prop} {T : Tmps} {A : ASt} {K : Value → ASt → Prop} : oneW E C (.convert f t x) T A K = arW C K (aOp E (.convert f t x) T A) := oneW_op rfl
end Go.AE

/- The evaluator: a drawn region's operations in another order of the text. -/
namespace Go.AE
open Go

def place' (π : List Nat) (i : Nat) : Nat := match π with
  | [] => 0
  | x :: l => if x = i then 0 else place' l i + 1
def σ (π : List Nat) (i : Nat) : Nat := if i < π.length then place' π i else i
def remap (π : List Nat) (o : Oper) : Oper := { o with after := o.after.map (fun e => { e with on := σ π e.on }), guard := o.guard.map fun g => (σ π g.1, g.2) }
noncomputable def opAt (π : List Nat) : Option Oper → Oper
  | some o => remap π o
  | none => ⟨none, .move (.const undef), 0, "", #[], none⟩
noncomputable def reoGo (π : List Nat) (ops : List Oper) : List Nat → List Oper
  | [] => []
  | i :: l => opAt π (nth ops i) :: reoGo π ops l
noncomputable def reorder (π : List Nat) (ops : List Oper) : List Oper := reoGo π ops π
def permOK (π : List Nat) (n : Nat) : Bool := π.length == n && (List.range n).all (fun i => place' π i < n && (π[place' π i]? == some i)) && (List.range n).all (fun j => match π[j]? with
  | some i => decide (i < n) && (place' π i == j)
  | none => false)

section
variable {π : List Nat} {ops : List Oper}

theorem permOK_spec (h : permOK π ops.length = true) : π.length = ops.length ∧ (∀ i, i < ops.length → σ π i < ops.length ∧ π[σ π i]? = some i) ∧ (∀ j, j < ops.length → ∃ i, i < ops.length ∧ π[j]? = some i ∧ σ π i = j) := by
  unfold permOK at h
  simp only [Bool.and_eq_true, beq_iff_eq, List.all_eq_true, List.mem_range, decide_eq_true_eq] at h
  obtain ⟨⟨h1, h2⟩, h3⟩ := h
  refine ⟨h1, fun i hi => ?_, fun j hj => ?_⟩
  · unfold σ
    rw [if_pos (by omega)]
    exact h2 i hi
  · have := h3 j hj
    split at this
    · rename_i i hi
      simp only [Bool.and_eq_true, beq_iff_eq, decide_eq_true_eq] at this
      refine ⟨i, this.1, hi, ?_⟩
      unfold σ
      rw [if_pos (by omega)]
      exact this.2
    · cases this

theorem reorder_get (h : permOK π ops.length = true) : (reorder π ops).length = ops.length ∧ ∀ i o, ops[i]? = some o → (reorder π ops)[σ π i]? = some (remap π o) := by
  obtain ⟨h1, h2, h3⟩ := permOK_spec h
  have key : ∀ l : List Nat, reoGo π ops l = l.map fun i => opAt π (nth ops i) := by
    intro l
    induction l with
    | nil => rfl
    | cons i l ih => simp only [reoGo, List.map_cons, ih]
  refine ⟨by simp [reorder, key, h1], fun i o ho => ?_⟩
  have hi : i < ops.length := (List.getElem?_eq_some_iff.1 ho).1
  simp only [reorder, key, List.getElem?_map, (h2 i hi).2, Option.map_some, nth_eq, ho, opAt]

theorem σ_inj (h : permOK π ops.length = true) {i j : Nat} (hi : i < ops.length) (hj : j < ops.length) (e : σ π i = σ π j) : i = j := by
  obtain ⟨_, h2, _⟩ := permOK_spec h
  have a := (h2 i hi).2
  have b := (h2 j hj).2
  rw [e, b] at a
  exact (Option.some.inj a).symm

theorem σ_out (h : permOK π ops.length = true) {i : Nat} (hi : ¬ i < ops.length) : σ π i = i := by
  have := (permOK_spec h).1
  unfold σ
  rw [if_neg (by omega)]

theorem wpIn_remap {F : Fence} {n : Nat} {P : Program} {o : Oper} {a : Act} {w : World} {K : Act → World → Prop} {Q : Exit → Act → World → Prop} (h : (remap π o).wpIn F n P a w K Q) : o.wpIn F n P a w K Q := h

theorem yielded_reorder (h : permOK π ops.length = true) (tmps : Array Value) (j : Nat) : yielded (reorder π ops).toArray tmps (σ π j) = yielded ops.toArray tmps j := by
  obtain ⟨hl, hg⟩ := reorder_get h
  unfold yielded
  by_cases hj : j < ops.length
  · have e : ops[j]? = some ops[j] := by simp [hj]
    have e' := hg j _ e
    simp only [List.getElem?_toArray, e, e', Option.bind_some]
    rfl
  · rw [σ_out h hj]
    have e : ops[j]? = none := by simp; omega
    have e' : (reorder π ops)[j]? = none := by simp [hl]; omega
    simp only [List.getElem?_toArray, e, e', Option.bind_none]

theorem wpOpIn_reorder (h : permOK π ops.length = true) {F : Fence} {n : Nat} {P : Program} {Q : Exit → Act → World → Prop} {i : Nat} {K : Act → World → Prop} {a : Act} {w : World} (hi : i < ops.length) (hh : wpOpIn F n P (reorder π ops).toArray Q (σ π i) K a w) : wpOpIn F n P ops.toArray Q i K a w := by
  obtain ⟨hl, hg⟩ := reorder_get h
  have e : ops[i]? = some ops[i] := by simp [hi]
  have e' := hg i _ e
  unfold wpOpIn at hh ⊢
  simp only [List.getElem?_toArray, e, e'] at hh ⊢
  have hw : Region.wanted (remap π ops[i]) (yielded (reorder π ops).toArray a.tmps) = Region.wanted ops[i] (yielded ops.toArray a.tmps) := by
    unfold Region.wanted remap
    generalize ops[i] = o
    obtain ⟨d, op, ty, ps, af, g⟩ := o
    cases g with
    | none => rfl
    | some g => simp only [Option.map_some, yielded_reorder h]
  rw [hw] at hh
  split
  · rename_i hc; rw [if_pos hc] at hh; exact wpIn_remap hh
  · rename_i hc; rw [if_neg hc] at hh; exact hh

theorem ready_reorder (h : permOK π ops.length = true) {listed listed' : Array Bool} (hs : listed.size = ops.length) (hs' : listed'.size = ops.length) (hll : ∀ i, i < ops.length → listed'[σ π i]? = listed[i]?) {i : Nat} (hi : i < ops.length) :
    i ∈ Region.ready .any ops.toArray listed ↔ σ π i ∈ Region.ready .any (reorder π ops).toArray listed' := by
  obtain ⟨hl, hg⟩ := reorder_get h
  obtain ⟨_, h2, _⟩ := permOK_spec h
  have e : ops[i]? = some ops[i] := by simp [hi]
  have e' := hg i _ e
  have hget : ∀ (d : Bool) k, listed'.getD (σ π k) d = listed.getD k d := by
    intro d k
    simp only [Array.getD_eq_getD_getElem?]
    by_cases hk : k < ops.length
    · rw [hll k hk]
    · rw [σ_out h hk]
      have a1 : listed[k]? = none := by simp; omega
      have a2 : listed'[k]? = none := by simp; omega
      rw [a1, a2]
  rw [ready_mem, ready_mem]
  simp only [List.size_toArray, List.getElem?_toArray, hl, hi, (h2 i hi).1, true_and, hget, e, e', Option.some.injEq, exists_eq_left']
  refine and_congr Iff.rfl ?_
  have hb : ∀ x : Edge, Region.binds .any { x with on := σ π x.on } = Region.binds .any x := fun x => rfl
  constructor
  · intro hx y hy hyb
    simp only [remap, Array.toList_map, List.mem_map] at hy
    obtain ⟨x, hx1, rfl⟩ := hy
    rw [hb] at hyb
    show listed'.getD (σ π x.on) false = true
    rw [hget]
    exact hx x hx1 hyb
  · intro hx x hx1 hxb
    have := hx { x with on := σ π x.on } (by simp only [remap, Array.toList_map, List.mem_map]; exact ⟨x, hx1, rfl⟩) (by rw [hb]; exact hxb)
    have e : listed'.getD (σ π x.on) false = true := this
    rwa [hget] at e

theorem wpAnyIn_reorder (h : permOK π ops.length = true) {F : Fence} {n : Nat} {P : Program} {Q : Exit → Act → World → Prop} : ∀ (fuel : Nat) (listed listed' : Array Bool) (a : Act) (w : World), listed.size = ops.length → listed'.size = ops.length → (∀ i, i < ops.length → listed'[σ π i]? = listed[i]?) →
    wpAnyIn F n P .any (reorder π ops).toArray Q fuel listed' a w → wpAnyIn F n P .any ops.toArray Q fuel listed a w := by
  obtain ⟨hl, hg⟩ := reorder_get h
  obtain ⟨_, h2, h3⟩ := permOK_spec h
  have hnil : ∀ {listed listed' : Array Bool}, listed.size = ops.length → listed'.size = ops.length → (∀ i, i < ops.length → listed'[σ π i]? = listed[i]?) → (Region.ready .any ops.toArray listed = [] ↔ Region.ready .any (reorder π ops).toArray listed' = []) := by
    intro listed listed' hs hs' hll
    constructor
    · intro h0
      rw [List.eq_nil_iff_forall_not_mem] at h0 ⊢
      intro j hj
      have hjl := (ready_mem.1 hj).1
      simp only [List.size_toArray, hl] at hjl
      obtain ⟨i, hi, _, rfl⟩ := h3 j hjl
      exact h0 i ((ready_reorder h hs hs' hll hi).2 hj)
    · intro h0
      rw [List.eq_nil_iff_forall_not_mem] at h0 ⊢
      intro i hi
      have hil := (ready_mem.1 hi).1
      simp only [List.size_toArray] at hil
      exact h0 _ ((ready_reorder h hs hs' hll hil).1 hi)
  intro fuel
  induction fuel with
  | zero =>
    intro listed listed' a w hs hs' hll hh
    exact ⟨(hnil hs hs' hll).2 hh.1, hh.2⟩
  | succ fuel ih =>
    intro listed listed' a w hs hs' hll hh
    refine ⟨fun h0 => hh.1 ((hnil hs hs' hll).1 h0), fun i hi => ?_⟩
    have hil := (ready_mem.1 hi).1
    simp only [List.size_toArray] at hil
    refine wpOpIn_reorder h hil (wpOpIn_mono (fun a w hh => ?_) (hh.2 _ ((ready_reorder h hs hs' hll hil).1 hi)))
    refine ih _ _ a w (by simpa using hs) (by simpa using hs') (fun k hk => ?_) hh
    by_cases e : k = i
    · subst e
      have := (h2 k hk).1
      simp [Array.getElem?_setIfInBounds, hs, hs', hk, this]
    · have e' : ¬ σ π i = σ π k := fun ee => e (σ_inj h hil hk ee).symm
      rw [Array.getElem?_setIfInBounds_ne e', Array.getElem?_setIfInBounds_ne (Ne.symm e)]
      exact hll k hk

theorem CodeW.drawnR {Z : Road} {E : Env} {P : Program} (hE : EnvOK E P) (hZr : RoadRo Z E) (hm : P.follows .mixedOrders = true) {call : Tgt → List Value → ASt → Nd (Value × ASt)} (hcall : CallSound Z P call) {n id : Nat} {ro : Option Nat} {T : Tmps} {A : ASt} {Q : Out → Prop} {ps : Array Oper} (π : List Nat) (h : permOK π ps.toList.length = true)
    (hh : (drawRun E call n (reorder π ps.toList).toArray T A).all fun r => Q (.fr ⟨.normal, r.1, r.2⟩)) : CodeW Z P n ro (.region id ps true) T A Q := by
  intro ρ w a N rr hR hro ht hn hd
  have hl := (reorder_get h).1
  have h1 := draw_any (rr := rr) hE hZr hcall hh hR ht hn hd
  have h2 := wpAnyIn_reorder h _ (Array.replicate ps.toList.length false) _ _ _ (by simp) (by simp [hl]) (fun i hi => by
    have := ((permOK_spec h).2.1 i hi).1
    have a1 : i < ps.size := by simpa using hi
    have a2 : σ π i < ps.size := by simpa using this
    simp [Array.getElem?_replicate, hl, a1, a2]) h1
  have h3 : wpAnyIn (FR rr) 0 P .any ps (fun e a' w' => e = .normal ∧ ∃ T' A', Q (.fr ⟨.normal, T', A'⟩) ∧ After ρ A w n N T' A' a' w') ps.size (Array.replicate ps.size false) a { w with drawn := w.drawn + 1 } := by
    have e : ((reorder π ps.toList).toArray).size = ps.size := by simp [hl]
    rw [e] at h2
    simpa using h2
  refine wpIn_mono (wpIn_region_any hm h3) ?_
  rintro e a' w' ⟨rfl, T', A', hq, haft⟩
  exact ⟨.normal, T', A', hq, trivial, haft⟩
end
end Go.AE
