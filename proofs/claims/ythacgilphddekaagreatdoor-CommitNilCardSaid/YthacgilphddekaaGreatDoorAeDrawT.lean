/- The evaluator: each step of a drawn region, and the whole. -/
import Derived.Test.YthacgilphddekaaGreatDoorAeDrawS
namespace Go.AE
open Go

section
variable {E : Env} {P : Program} {call : Tgt → List Value → ASt → Nd (Value × ASt)} {n base : Nat} {ops : Array Oper} {an : List Nat} {S : Nat → PSt} {val : Nat → Value} {ds : List Deferred} {rr : Option Nat}
variable {ρ₀ : Ren} {A₀ : ASt} {w₀ : World} {D : Nat → Bool} {q : Nat} {ρ : Ren} {T : Tmps} {a : Act} {w : World}

theorem step_sound {Z : Road} (hE : EnvOK E P) (hZr : RoadRo Z E) (hcall : CallSound Z P call) (hZ : Z.reach ρ₀ A₀ w₀) (hp : Plan E call n base ops an S val) (hreads : readsOK E base an (S ops.size) (S ops.size).reads = true)
    (h : Inv E call n base ops an S val ds ρ₀ A₀ w₀ D q ρ T a w) (hbase : base = A₀.next) {i : Nat} (hi : i < ops.size) (hDi : D i = false) (hanc : ∀ j, Anc an i j → D j = true) (hlow : ∀ j, Anc an i j → j < i)
    (hslot : ∀ o, ops[i]? = some o → ∀ t ∈ looks ops o ++ o.dst.toList, SlotOK ops an i t) {Qx : Exit → Act → World → Prop} {K : Act → World → Prop}
    (hK : ∀ q' ρ' T' a' w', Inv E call n base ops an S val ds ρ₀ A₀ w₀ (fun j => D j || j == i) q' ρ' T' a' w' → K a' w') : wpOpIn (FR rr) 0 P ops Qx i K a w := by
  obtain ⟨o, m, ho, hm, hput, hps⟩ := hp.at_ hi
  have hslot := hslot o ho
  have hdst : ∀ t, dstAt ops i = some t → SlotOK ops an i t := fun t ht => hslot t (by
    simp only [dstAt, ho, Option.bind_some] at ht
    simp [ht])
  have hlook : ∀ t ∈ looks ops o, tget T t = tget (S i).T t := fun t ht => by
    rw [h.tm t, hp.sv_all (by omega) t]
    exact sv_look (hslot t (by simp [ht])) hDi hanc h.cl (by omega)
  have hopr : ∀ t, Operand.tmp t ∈ o.op.operands.toList → tget T t = tget (S i).T t := fun t ht => hlook t (by
    unfold looks
    exact List.mem_append_left _ (tmpsOf_mem ht))
  have hR := h.step.rep
  have hRz := Z.step hZ h.step
  have hancm : ∀ j, m.testBit j = true → D j = true := fun j hj => hanc j ⟨m, hm, hj⟩
  have hnext : (addFl base (fun f => !takenAt (S q).louds f 0 an && D f) (S ops.size).fl (S q).H).next = (S q).H.next := addFl_next _ _ _ _
  unfold wpOpIn
  rw [ho]
  simp only []
  rw [wanted_sound h.rel, wantedA_congr hlook]
  cases hps with
  | off hw hv hH hfl hl hh hr =>
    rw [hw]
    simp only [Bool.false_eq_true, if_false]
    obtain ⟨T', hinv⟩ := h.silent hp hbase ho hDi hanc hdst hl hfl hput (v' := undef) (by rw [hv]; exact VRel.undef) (Step.refl hR)
    exact ⟨fun _ _ => trivial, hK _ _ _ _ _ hinv⟩
  | fresh ob f hw haf hv hH hfl hl hh hr =>
    rw [hw, if_pos rfl]
    have haf' : aFresh E o.op T = some (ob, f) := by rw [(aOp_congr (E := E) (A := A₀) hopr).2]; exact haf
    obtain ⟨v', w', L, hrun, hvr, hst⟩ := fresh_sound hE hR (h.free i hi hDi) h.rel o haf'
    refine ⟨fun _ _ => trivial, ?_⟩
    rw [Oper.semAt_eq _ _ _ (fun c hc => by rw [hc] at haf; cases haf), hrun, Oper.uponIn_value]
    obtain ⟨T', hT'⟩ := putN_ok hput T
    simp only [] at hvr hst
    rw [← hv] at hvr
    have hge : ∀ b, b < A₀.next → b ≠ base + i := fun b hb => by omega
    have hli : (S ops.size).louds.testBit i = false := by
      cases hb : (S ops.size).louds.testBit i with
      | false => rfl
      | true =>
        have : (S (i + 1)).louds.testBit i = true := (hp.louds_iff (by omega)).2 ⟨by omega, hb⟩
        rw [hl] at this
        have := hp.louds_lt (by omega) this
        omega
    have hfi : flGet (S ops.size).fl i = some ob := by
      rw [← hp.fl_at (q := i + 1) (by omega) (by omega), hfl]
      simp [flGet]
    have hti : takenAt (S q).louds i 0 an = false := by
      cases ht : takenAt (S q).louds i 0 an with
      | false => rfl
      | true => rw [h.taken_anc hp ht] at hDi; cases hDi
    refine hK q (upd ρ (base + i) L) T' _ w' ⟨h.le, fun j hj => ?_, fun t => ?_, putN_sound (h.rel.mono hst.ext) h.size hT' hvr, ?_, fun f' hf' hD => ?_, h.holes, h.room, by rw [size_put]; exact h.size, by rw [defers_put]; exact h.defers, fun j hj k hk => ?_⟩
    · rw [or_eq_true', ← h.stage j hj]
      constructor
      · rintro (h1 | rfl)
        · exact h1
        · rw [hli] at hj; cases hj
      · exact .inl
    · rw [putN_get hT' t, sv_upd hDi h.cl hdst hi t]
      simp only [dstAt, ho, Option.bind_some]
      rw [h.tm t]
    · refine (h.step.trans0 hst (fun b hb => ?_) (fun b hb hn => ?_)).congr (fun b => ?_) ?_
      · unfold upd; rw [if_neg (hge b hb)]
      · rw [ASt.get_newAt, if_neg (hge b hb)]; exact hn
      · rw [ASt.get_newAt, addFl_get, addFl_get]
        by_cases e : b = base + i
        · subst e
          rw [if_pos rfl]
          rw [show base + i - base = i by omega, hfi, hti]
          simp
        · rw [if_neg e]
          by_cases e2 : base ≤ b
          · have : (b - base == i) = false := by simp; omega
            simp only [this, Bool.or_false]
          · rw [if_neg (fun hh => e2 hh.1), if_neg (fun hh => e2 hh.1)]
      · rw [ASt.next_newAt, addFl_next, addFl_next]
        have := h.room
        omega
    · simp only [Bool.or_eq_false_iff] at hD
      unfold upd
      rw [if_neg (by have : f' ≠ i := by simpa using hD.2
                     omega)]
      exact h.free f' hf' hD.1
    · rw [or_eq_true'] at hj ⊢
      rcases hj with hj | rfl
      · exact .inl (h.cl j hj k hk)
      · exact .inl (hanc k hk)
  | still A' hw hq hv hH hfl hl hh hr =>
    rw [hw, if_pos rfl]
    rw [← (aOp_congr (E := E) (A := { heap := .e, next := 0 }) hopr).1] at hv
    have hv2 := quiet_run hq hv (S q).H.next
    have hsub : ∀ b o', ({ heap := .e, next := (S q).H.next } : ASt).get b = some o' → (addFl base (fun f => !takenAt (S q).louds f 0 an && D f) (S ops.size).fl (S q).H).get b = some o' := fun b o' hb => by
      have : ({ heap := .e, next := (S q).H.next } : ASt).get b = none := rfl
      rw [this] at hb; cases hb
    refine oneOp_sound hE hZr hcall (A := { heap := .e, next := (S q).H.next }) (Z.sub hRz hsub hnext.symm) h.rel (o := o) (Q := fun r => r = (val i, { heap := .e, next := (S q).H.next })) ?_ ?_
    · rw [oneOp_quiet hq hv2]; rfl
    · intro v A2 v' w' ρ' e hvr hst
      cases e
      obtain ⟨T', hinv⟩ := h.silent hp hbase ho hDi hanc hdst hl hfl hput hvr (frame_same hR hsub hnext.symm hst)
      exact hK _ _ _ _ _ hinv
  | read hw hq hH hfl hl hh hr =>
    rw [hw, if_pos rfl]
    have hmem : (⟨i, o.op, (S i).T, val i⟩ : Rd) ∈ (S ops.size).reads := hp.reads_at (q := i + 1) (by omega) (by rw [hr]; simp)
    obtain ⟨m', hm', hra⟩ := readsOK_spec hreads _ hmem
    simp only [] at hm'
    rw [hm] at hm'; cases hm'
    obtain ⟨A', hv⟩ := readAt_spec hra _ _ (hp.hist_at h.le) (by
      apply Nat.eq_of_testBit_eq
      intro j
      simp only [Nat.testBit_and]
      cases hmj : m.testBit j with
      | false => simp
      | true =>
        cases hlj : (S ops.size).louds.testBit j with
        | false => simp
        | true =>
          have : (S q).louds.testBit j = true := (hp.louds_iff h.le).2 ⟨(h.stage j hlj).1 (hancm j hmj), hlj⟩
          simp [this]) (by
      apply Nat.eq_of_testBit_eq
      intro j
      simp only [Nat.testBit_and, Nat.zero_testBit]
      cases hqj : (S q).louds.testBit j with
      | false => simp
      | true =>
        cases hbj : (behind i 0 an).testBit j with
        | false => simp
        | true =>
          have h1 := (hp.louds_iff h.le).1 hqj
          have h2 := (h.stage j h1.2).2 h1.1
          have := h.cl j h2 i (behind_anc hbj)
          rw [this] at hDi; cases hDi)
    simp only [] at hv
    rw [← (aOp_congr (E := E) hopr).1] at hv
    have hv2 := quiet_run hq hv (viewAt base an (S q).louds m (S ops.size).fl (S q).H).next
    have hsub := h.view_sub hp hancm
    have hnx : (viewAt base an (S q).louds m (S ops.size).fl (S q).H).next = (addFl base (fun f => !takenAt (S q).louds f 0 an && D f) (S ops.size).fl (S q).H).next := by
      unfold viewAt
      rw [addFl_next, addFl_next]
    refine oneOp_sound hE hZr hcall (Z.sub hRz hsub hnx) h.rel (o := o) (Q := fun r => r = (val i, viewAt base an (S q).louds m (S ops.size).fl (S q).H)) ?_ ?_
    · rw [oneOp_quiet hq hv2]; rfl
    · intro v A2 v' w' ρ' e hvr hst
      cases e
      obtain ⟨T', hinv⟩ := h.silent hp hbase ho hDi hanc hdst hl hfl hput hvr (frame_same hR hsub hnx hst)
      exact hK _ _ _ _ _ hinv
  | loud H' hw hlm hone hH hfl hl hh hr =>
    rw [hw, if_pos rfl]
    rw [← oneOp_congr hopr] at hone
    have hli : (S ops.size).louds.testBit i = true := by
      have : (S (i + 1)).louds.testBit i = true := by rw [hl, Nat.testBit_or, Nat.testBit_two_pow]; simp
      exact ((hp.louds_iff (by omega)).1 this).2
    -- the stage is this one
    have hst0 : ∀ j, (S ops.size).louds.testBit j = true → (D j = true ↔ j < i) := by
      intro j hj
      constructor
      · intro hDj
        rcases Nat.lt_trichotomy j i with h1 | h1 | h1
        · exact h1
        · subst h1; rw [hDj] at hDi; cases hDi
        · obtain ⟨oj, mj, hoj, hmj, _, hpsj⟩ := hp.at_ (i := j) (hp.louds_lt (Nat.le_refl _) hj)
          have hj1 : (S (j + 1)).louds.testBit j = true := (hp.louds_iff (by have := hp.louds_lt (Nat.le_refl _) hj; omega)).2 ⟨by omega, hj⟩
          have hne : ¬ (S j).louds.testBit j = true := fun hh => by have := hp.louds_lt (by have := hp.louds_lt (Nat.le_refl _) hj; omega) hh; omega
          have hanj : Anc an j i := by
            cases hpsj with
            | off _ _ _ _ e => rw [e] at hj1; exact absurd hj1 hne
            | fresh _ _ _ _ _ _ _ e => rw [e] at hj1; exact absurd hj1 hne
            | still _ _ _ _ _ _ e => rw [e] at hj1; exact absurd hj1 hne
            | read _ _ _ _ e => rw [e] at hj1; exact absurd hj1 hne
            | loud _ _ hlm' => exact ⟨mj, hmj, hlm' i ((hp.louds_iff (by have := hp.louds_lt (Nat.le_refl _) hj; omega)).2 ⟨h1, hli⟩)⟩
          have := h.cl j hDj i hanj
          rw [this] at hDi; cases hDi
      · intro hji
        exact hancm j (hlm j ((hp.louds_iff (by omega)).2 ⟨hji, hj⟩))
    obtain ⟨eH, eL⟩ := hp.stages h.le (Nat.le_of_lt hi) (fun j hj => (h.stage j hj).symm.trans (hst0 j hj))
    have hholes := h.holes
    have hroom := h.room
    have hstep := h.step
    rw [eL] at hholes
    rw [eH] at hholes hroom
    rw [eL, eH] at hstep hR hnext hRz
    have hview : ∀ b, (viewAt base an (S i).louds m (S i).fl (S i).H).get b = (viewAt base an (S i).louds m (S ops.size).fl (S i).H).get b := by
      intro b
      unfold viewAt
      rw [addFl_get, addFl_get]
      by_cases hc : base ≤ b ∧ (!takenAt (S i).louds (b - base) 0 an && m.testBit (b - base)) = true
      · rw [if_pos hc, if_pos hc]
        have h2 := hc.2
        rw [Bool.and_eq_true] at h2
        rw [hp.fl_at (by omega) (hlow _ ⟨m, hm, h2.2⟩)]
      · rw [if_neg hc, if_neg hc]
    have hsub : ∀ b o', (viewAt base an (S i).louds m (S i).fl (S i).H).get b = some o' → (addFl base (fun f => !takenAt (S i).louds f 0 an && D f) (S ops.size).fl (S i).H).get b = some o' := by
      intro b o' hb
      rw [hview, ← eL, ← eH] at hb
      rw [← eL, ← eH]
      exact h.view_sub hp hancm b o' hb
    have hnx : (viewAt base an (S i).louds m (S i).fl (S i).H).next = (addFl base (fun f => !takenAt (S i).louds f 0 an && D f) (S ops.size).fl (S i).H).next := by
      unfold viewAt
      rw [addFl_next, addFl_next]
    have hnx2 : (viewAt base an (S i).louds m (S i).fl (S i).H).next = (S i).H.next := by unfold viewAt; rw [addFl_next]
    have htk : ∀ f, takenAt (S (i + 1)).louds f 0 an = true ↔ takenAt (S i).louds f 0 an = true ∨ m.testBit f = true := by
      intro f
      rw [takenAt_anc, takenAt_anc, hl]
      constructor
      · rintro ⟨j, hj, hjf⟩
        rw [Nat.testBit_or, Nat.testBit_two_pow, Bool.or_eq_true_iff] at hj
        rcases hj with hj | hj
        · exact .inl ⟨j, hj, hjf⟩
        · have : i = j := by simpa using hj
          subst this
          obtain ⟨m2, hm2, hf2⟩ := hjf
          rw [hm] at hm2; cases hm2
          exact .inr hf2
      · rintro (⟨j, hj, hjf⟩ | hf)
        · exact ⟨j, by rw [Nat.testBit_or, hj]; rfl, hjf⟩
        · exact ⟨i, by rw [Nat.testBit_or, Nat.testBit_two_pow]; simp, m, hm, hf⟩
    have hfi : flGet (S ops.size).fl i = none := by
      rw [← hp.fl_at (q := i + 1) (by omega) (by omega), hfl]
      exact hp.fl_lt (by omega) (Nat.le_refl _)
    refine oneOp_sound hE hZr hcall (Z.sub hRz hsub hnx) h.rel (o := o) (Q := fun r => r = (val i, H')) ?_ ?_
    · rw [hone]; rfl
    · intro v A2 v' w' ρ' e hvr hst
      cases e
      -- what the part's heap lacks, it lacks behind the step
      have hgone : ∀ b, b < base + ops.size → (viewAt base an (S i).louds m (S i).fl (S i).H).get b = none → H'.get b = none := fun b hb hn => hst.dom b (by omega) hn
      have hfr := Step.frame (A' := addFl base (fun f => !takenAt (S (i + 1)).louds f 0 an && (D f || f == i)) (S ops.size).fl H') hR hsub hnx hst (fun b => ?_) (by rw [addFl_next])
      · obtain ⟨T', hT'⟩ := putN_ok hput T
        refine hK (i + 1) ρ' T' _ w' ⟨by omega, fun j hj => ?_, fun t => ?_, putN_sound (h.rel.mono hst.ext) h.size hT' hvr, ?_, fun f hf hD => ?_, fun f hf ht => ?_, ?_, by rw [size_put]; exact h.size, by rw [defers_put]; exact h.defers, fun j hj k hk => ?_⟩
        · rw [or_eq_true', hst0 j hj]; omega
        · rw [putN_get hT' t, sv_upd hDi h.cl hdst hi t]
          simp only [dstAt, ho, Option.bind_some]
          rw [h.tm t]
        · rw [hH]; exact hstep.trans hfr
        · simp only [Bool.or_eq_false_iff] at hD
          rw [hst.keep _ (by omega)]
          exact h.free f hf hD.1
        · rw [hH]
          have h1 : takenAt (S i).louds f 0 an = false := by
            cases hh2 : takenAt (S i).louds f 0 an with
            | false => rfl
            | true => rw [(htk f).2 (.inl hh2)] at ht; cases ht
          have h2 : m.testBit f = false := by
            cases hh2 : m.testBit f with
            | false => rfl
            | true => rw [(htk f).2 (.inr hh2)] at ht; cases ht
          refine hgone _ (by omega) ?_
          unfold viewAt
          rw [addFl_get, if_neg]
          · exact hholes f hf h1
          · rw [show base + f - base = f by omega, h2]; simp
        · rw [hH]; have := hst.next; omega
        · rw [or_eq_true'] at hj ⊢
          rcases hj with hj | rfl
          · exact .inl (h.cl j hj k hk)
          · exact .inl (hanc k hk)
      · rw [hview]
        have hg := hgone b
        rw [hview] at hg
        unfold viewAt at hg ⊢
        rw [addFl_get] at hg ⊢
        rw [addFl_get, addFl_get]
        -- the block's number, told from the region's first
        by_cases hb : base ≤ b
        · cases ht1 : takenAt (S i).louds (b - base) 0 an with
          | true =>
            have ht2 := (htk (b - base)).2 (.inl ht1)
            simp only [ht1, ht2, hb, true_and, Bool.not_true, Bool.false_and, Bool.false_eq_true, if_false]
            cases hh1 : H'.get b with
            | some x => simp
            | none =>
              cases hh2 : (S i).H.get b with
              | some y => simp
              | none => simp
          | false =>
            cases hmf : m.testBit (b - base) with
            | true =>
              have ht2 := (htk (b - base)).2 (.inr hmf)
              have hDf := hancm _ hmf
              simp only [ht1, ht2, hb, hmf, hDf, true_and, Bool.not_true, Bool.not_false, Bool.false_and, Bool.and_self, Bool.false_eq_true, if_false, if_true]
              cases hh1 : H'.get b with
              | some x => simp
              | none =>
                cases hh2 : flGet (S ops.size).fl (b - base) with
                | some y => simp
                | none =>
                  cases hh3 : (S i).H.get b with
                  | some y => simp
                  | none => simp
            | false =>
              have ht2 : takenAt (S (i + 1)).louds (b - base) 0 an = false := by
                cases hh2 : takenAt (S (i + 1)).louds (b - base) 0 an with
                | false => rfl
                | true =>
                  rcases (htk _).1 hh2 with h1 | h1
                  · rw [h1] at ht1; cases ht1
                  · rw [h1] at hmf; cases hmf
              simp only [ht1, ht2, hb, hmf, true_and, Bool.not_false, Bool.and_false, Bool.true_and, Bool.false_eq_true, if_false] at hg ⊢
              cases hf : flGet (S ops.size).fl (b - base) with
              | none =>
                cases hh1 : H'.get b with
                | some x => simp
                | none =>
                  cases hh3 : (S i).H.get b with
                  | some y => simp
                  | none => simp
              | some ob =>
                have hlt : b - base < ops.size := by
                  rcases Nat.lt_or_ge (b - base) ops.size with h' | h'
                  · exact h'
                  · rw [hp.fl_lt (Nat.le_refl _) h'] at hf; cases hf
                have hno := hholes _ hlt ht1
                rw [show base + (b - base) = b by omega] at hno
                have hne : ¬ b - base = i := fun e => by rw [e, hfi] at hf; cases hf
                have hnb : (b - base == i) = false := by simpa using hne
                rw [hg (by omega) hno, hno]
                simp only [hnb, Bool.or_false]
                cases hDf : D (b - base) <;> simp
        · simp only [hb, false_and, if_false]
          cases hh1 : H'.get b with
          | some x => simp
          | none =>
            cases hh3 : (S i).H.get b with
            | some y => simp
            | none => simp

/-! ### the count of what is left -/
noncomputable def left (D : Nat → Bool) : Nat → Nat
  | 0 => 0
  | k + 1 => left D k + cond (D k) 0 1

theorem left_le (D : Nat → Bool) : ∀ k, left D k ≤ k
  | 0 => Nat.le_refl _
  | k + 1 => by
    have := left_le D k
    unfold left
    cases D k <;> simp <;> omega

theorem left_zero {D : Nat → Bool} : ∀ {k : Nat}, left D k = 0 → ∀ i, i < k → D i = true
  | 0, _, i, hi => by omega
  | k + 1, h, i, hi => by
    unfold left at h
    cases hd : D k with
    | false => rw [hd] at h; simp at h
    | true =>
      rw [hd] at h
      by_cases e : i = k
      · rw [e]; exact hd
      · exact left_zero (k := k) (by simpa using h) i (by omega)

theorem left_upd {D : Nat → Bool} {i : Nat} (hD : D i = false) : ∀ {k : Nat}, left (fun j => D j || j == i) k + (if i < k then 1 else 0) = left D k
  | 0 => by simp [left]
  | k + 1 => by
    have := left_upd (D := D) (i := i) hD (k := k)
    unfold left
    by_cases e : k = i
    · subst e
      rw [if_neg (by omega)] at this
      rw [if_pos (by omega), hD]
      simp only [beq_self_eq_true, Bool.or_true, cond_true, cond_false]
      omega
    · have hne : (k == i) = false := by simpa using e
      simp only [hne, Bool.or_false]
      by_cases hlt : i < k
      · rw [if_pos hlt] at this
        rw [if_pos (by omega)]
        omega
      · rw [if_neg hlt] at this
        rw [if_neg (by omega)]
        omega

theorem ready_mem {md : Region.Mode} {listed : Array Bool} {i : Nat} : i ∈ Region.ready md ops listed ↔ i < ops.size ∧ listed.getD i true = false ∧ ∃ o, ops[i]? = some o ∧ ∀ e ∈ o.after.toList, Region.binds md e = true → listed.getD e.on false = true := by
  unfold Region.ready
  simp only [List.mem_filter, List.mem_range, Bool.and_eq_true, Bool.not_eq_true']
  refine and_congr Iff.rfl (and_congr Iff.rfl ?_)
  cases ho : ops[i]? with
  | none => simp
  | some o =>
    simp only [Option.map_some, Option.getD_some]
    constructor
    · intro h
      refine ⟨o, rfl, fun e he hb => ?_⟩
      rw [← Array.all_toList] at h
      have := List.all_eq_true.1 h e he
      rw [hb] at this
      simpa using this
    · rintro ⟨o', ho', h⟩
      cases ho'
      rw [← Array.all_toList]
      refine List.all_eq_true.2 fun e he => ?_
      cases hb : Region.binds md e with
      | false => simp
      | true => simpa using h e he hb

theorem any_sound {Z : Road} (hE : EnvOK E P) (hZr : RoadRo Z E) (hcall : CallSound Z P call) (hZ : Z.reach ρ₀ A₀ w₀) (hp : Plan E call n base ops (ancs ops.toList []) S val) (hreads : readsOK E base (ancs ops.toList []) (S ops.size) (S ops.size).reads = true) (hreg : regOK ops (ancs ops.toList []) ops.toList 0 ops.toList = true)
    (hbase : base = A₀.next) {Qx : Exit → Act → World → Prop}
    (hfin : ∀ (D : Nat → Bool) q ρ T a w, Inv E call n base ops (ancs ops.toList []) S val ds ρ₀ A₀ w₀ D q ρ T a w → (∀ i, i < ops.size → D i = true) → Qx .normal a w) :
    ∀ (fuel : Nat) (listed : Array Bool) (q : Nat) (ρ : Ren) (T : Tmps) (a : Act) (w : World), listed.size = ops.size → left (fun i => listed.getD i false) ops.size ≤ fuel →
      Inv E call n base ops (ancs ops.toList []) S val ds ρ₀ A₀ w₀ (fun i => listed.getD i false) q ρ T a w → wpAnyIn (FR rr) 0 P .any ops Qx fuel listed a w := by
  intro fuel
  induction fuel with
  | zero =>
    intro listed q ρ T a w hs hl h
    have hall := left_zero (Nat.le_zero.1 hl)
    refine ⟨?_, hfin _ _ _ _ _ _ h hall⟩
    cases hr : Region.ready .any ops listed with
    | nil => rfl
    | cons i l =>
      have hm : i ∈ Region.ready .any ops listed := by rw [hr]; simp
      obtain ⟨h1, h2, _⟩ := ready_mem.1 hm
      have := hall i h1
      simp only [Array.getD_eq_getD_getElem?] at this h2
      have e : listed[i]? = some listed[i] := by simp [hs, h1]
      rw [e] at this h2
      simp at this h2
      rw [this] at h2; cases h2
  | succ fuel ih =>
    intro listed q ρ T a w hs hl h
    have hfalse : ∀ i, i < ops.size → listed.getD i false = listed.getD i true := fun i hi => by
      simp only [Array.getD_eq_getD_getElem?]
      have e : listed[i]? = some listed[i] := by simp [hs, hi]
      rw [e]; rfl
    have hord : ∀ i o, ops[i]? = some o → ∀ e ∈ o.after.toList, Region.binds .any e = true → e.on < i := fun i o ho e he hb => by
      have := (regOK_spec hreg i o (by simpa using ho)).1
      rw [Nat.zero_add] at this
      exact edgesOK_spec this e he hb
    refine ⟨fun hr => hfin _ _ _ _ _ _ h ?_, fun i hi => ?_⟩
    · intro i
      induction i using Nat.strongRecOn with
      | ind i ihi =>
        intro hi
        cases hd : listed.getD i false with
        | true => rfl
        | false =>
          have : i ∈ Region.ready .any ops listed := ready_mem.2 ⟨hi, by rw [← hfalse i hi]; exact hd, ops[i], by simp [hi], fun e he hb => by
            have hlt := hord i ops[i] (by simp [hi]) e he hb
            exact ihi e.on hlt (by omega)⟩
          rw [hr] at this; simp at this
    · obtain ⟨hilt, hDi, o, ho, hedges⟩ := ready_mem.1 hi
      rw [← hfalse i hilt] at hDi
      have hanc : ∀ j, Anc (ancs ops.toList []) i j → listed.getD j false = true := by
        rintro j ⟨m, hm, hmj⟩
        obtain ⟨m', hm', hall⟩ := ancs_at ops.toList (i := i) (o := o) (by simpa using ho)
        rw [hm] at hm'; cases hm'
        obtain ⟨e, he, hb, hej⟩ := hall j hmj
        rcases hej with rfl | ⟨_, hej⟩
        · exact hedges e he hb
        · exact h.cl e.on (hedges e he hb) j hej
      have hlow : ∀ i j, Anc (ancs ops.toList []) i j → j < i := by
        intro i
        induction i using Nat.strongRecOn with
        | ind i ihi =>
          rintro j ⟨m, hm, hmj⟩
          have hin : i < ops.toList.length := by
            obtain ⟨r, h1, h2, _⟩ := ancs_spec ops.toList []
            rw [nth_eq, h1] at hm
            have := (List.getElem?_eq_some_iff.1 hm).1
            simp at this
            simp; simp at h2; omega
          obtain ⟨m', hm', hall⟩ := ancs_at ops.toList (i := i) (o := ops.toList[i]) (by simp [hin])
          rw [hm] at hm'; cases hm'
          obtain ⟨e, he, hb, hej⟩ := hall j hmj
          have hlt := hord i ops.toList[i] (by simp at hin; simp [hin]) e he hb
          rcases hej with rfl | ⟨_, hej⟩
          · exact hlt
          · have := ihi e.on hlt j hej; omega
      have hslot : ∀ o, ops[i]? = some o → ∀ t ∈ looks ops o ++ o.dst.toList, SlotOK ops (ancs ops.toList []) i t := by
        intro o ho t ht k hk
        have h1 := (regOK_spec hreg i o (by simpa using ho)).2 t ht
        rw [Nat.zero_add] at h1
        unfold dstAt at hk
        cases hok : ops[k]? with
        | none => rw [hok] at hk; cases hk
        | some ok =>
          rw [hok, Option.bind_some] at hk
          have := slotOK_spec h1 k ok (by simpa using hok) hk
          rw [Nat.zero_add] at this
          exact this
      refine step_sound hE hZr hcall hZ hp hreads h hbase hilt hDi hanc (hlow i) hslot ?_
      intro q' ρ' T' a' w' hinv
      have hD : (fun j => (listed.setIfInBounds i true).getD j false) = fun j => listed.getD j false || j == i := by
        funext j
        simp only [Array.getD_eq_getD_getElem?]
        by_cases e : j = i
        · subst e
          simp [hs, hilt]
        · rw [Array.getElem?_setIfInBounds_ne (Ne.symm e)]
          have : (j == i) = false := by simpa using e
          simp [this]
      refine ih _ q' ρ' T' a' w' (by simpa using hs) ?_ (by rw [hD]; exact hinv)
      rw [hD]
      have := left_upd (D := fun i => listed.getD i false) (i := i) hDi (k := ops.size)
      rw [if_pos hilt] at this
      omega

end

theorem draw_sound {Z : Road} {E : Env} {P : Program} (hE : EnvOK E P) (hZr : RoadRo Z E) (hm : P.follows .mixedOrders = true) : DrawSound Z E P := by
  intro call hcall n id ops T A Q hQ ρ w a N rr hZ ht hn hd
  have hR := Z.rep hZ
  unfold drawRun at hQ
  simp only [fN_eq] at hQ
  cases hreg : regOK ops (ancs ops.toList []) ops.toList 0 ops.toList with
  | false => rw [hreg] at hQ; exact hQ.elim
  | true =>
    rw [hreg, cond_true] at hQ
    split at hQ
    · rename_i s hgo
      cases hreads : readsOK E A.next (ancs ops.toList []) s s.reads with
      | false => rw [hreads] at hQ; exact hQ.elim
      | true =>
        rw [hreads, cond_true] at hQ
        obtain ⟨S, val, hS0, hSn, hp⟩ := plan_of_go E call n A.next ops _ hgo rfl rfl rfl
        refine wpIn_region_any hm ?_
        have hst : Step ρ A w ρ { A with next := A.next + ops.toList.length } { w with drawn := w.drawn + 1 } := (Step.bump hR _).trans (Step.drew (Step.bump hR _).rep)
        have hsz : (Array.replicate ops.size false).size = ops.size := by simp
        have hD0 : ∀ j, (Array.replicate ops.size false).getD j false = false := by
          intro j
          simp only [Array.getD_eq_getD_getElem?]
          rw [Array.getElem?_replicate]
          split <;> rfl
        have hH : (S 0).H = { A with next := A.next + ops.toList.length } := by rw [hS0]
        refine any_sound (ds := a.defers) (base := A.next) (A₀ := A) (w₀ := w) (ρ₀ := ρ) hE hZr hcall hZ hp (by rw [hSn]; exact hreads) hreg rfl ?_ ops.size _ 0 ρ T a _ hsz (left_le _ _) ?_
        · intro D q ρ' T' a' w' h hall
          refine ⟨rfl, s.T, _, hQ, ρ', ?_, ?_, h.size, by rw [h.defers]; exact hd.step hR h.step⟩
          · refine h.rel.congr fun t => ?_
            have h1 := hp.sv_all (Nat.le_refl _) t
            rw [hSn] at h1
            rw [h.tm t, h1]
            have : ∀ k, k ≤ ops.size → sv ops val (S 0).T (fun _ => true) k t = sv ops val (S 0).T D k t := by
              intro k
              induction k with
              | zero => intro _; rfl
              | succ k ih =>
                intro hk
                rw [sv_succ, sv_succ, ih (by omega), hall k (by omega)]
            exact this _ (Nat.le_refl _)
          · obtain ⟨eH, eL⟩ := hp.stages (q := ops.size) (q' := q) (Nat.le_refl _) h.le (fun j hj => by
              have := hp.louds_lt (Nat.le_refl _) hj
              have h2 := h.stage j hj
              have h3 := hall j this
              constructor
              · intro _; exact h2.1 h3
              · intro _; exact this)
            rw [hSn] at eH eL
            refine h.step.congr (fun b => ?_) ?_
            · rw [addFl_get, addFl_get, ← eH, ← eL, hSn]
              cases hf : flGet s.fl (b - A.next) with
              | none => simp
              | some ob =>
                have hlt : b - A.next < ops.size := by
                  rcases Nat.lt_or_ge (b - A.next) ops.size with h' | h'
                  · exact h'
                  · have := hp.fl_lt (Nat.le_refl _) h'
                    rw [hSn, hf] at this; cases this
                simp only [hall _ hlt, Bool.and_true]
            · rw [addFl_next, addFl_next, eH]
        · refine ⟨Nat.zero_le _, fun j hj => ?_, fun t => ?_, ht, ?_, fun f hf _ => hR.fresh _ (by omega), fun f hf _ => ?_, ?_, hn, rfl, fun j hj => ?_⟩
          · rw [hD0]; simp
          · have : ∀ k, sv ops val (S 0).T (fun i => (Array.replicate ops.size false).getD i false) k t = tget (S 0).T t := by
              intro k
              induction k with
              | zero => rfl
              | succ k ih => rw [sv_succ, ih, hD0]; simp
            rw [this, hS0]
          · refine hst.congr (fun b => ?_) ?_
            · rw [addFl_get, hH, if_neg]
              rw [hD0]; simp
            · rw [addFl_next, hH]
          · rw [hH]
            have : A.get (A.next + f) = none := by
              cases hg : A.get (A.next + f) with
              | none => rfl
              | some x =>
                obtain ⟨L, hL, _⟩ := hR.obj _ _ hg
                rw [hR.fresh _ (by omega)] at hL; cases hL
            exact this
          · rw [hH]; simp
          · rw [hD0] at hj; cases hj
    · exact hQ.elim

end Go.AE
