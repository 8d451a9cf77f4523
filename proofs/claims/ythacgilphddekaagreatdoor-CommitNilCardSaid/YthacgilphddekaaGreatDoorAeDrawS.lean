/- The evaluator: a region whose order is drawn does what its plan says. -/
import Derived.Test.YthacgilphddekaaGreatDoorAeDrawB
import Derived.Orders
namespace Go.AE
open Go

theorem Step.bump {ρ : Ren} {A : ASt} {w : World} (h : Rep ρ A w) (k : Nat) : Step ρ A w ρ { A with next := A.next + k } w :=
  ⟨⟨⟨h.obj, h.apart, fun b hb => h.fresh b (by simp only [] at hb; omega)⟩, .refl _, by simp, Nat.le_refl _, rfl, rfl, rfl, fun _ c _ _ h => ⟨c, h, rfl, fun _ _ => rfl⟩, fun _ _ h _ _ => h, fun _ _ _ h => h⟩, fun _ _ => rfl, fun _ _ h => h⟩

theorem Step.trans0 {ρ ρ₁ ρ₂ : Ren} {A A₁ A₂ : ASt} {w w₁ w₂ : World} (h : Step ρ A w ρ₁ A₁ w₁) (k : Step0 ρ₁ A₁ w₁ ρ₂ A₂ w₂) (hk : ∀ b, b < A.next → ρ₂ b = ρ₁ b) (hd : ∀ b, b < A.next → A₁.get b = none → A₂.get b = none) : Step ρ A w ρ₂ A₂ w₂ :=
  ⟨h.toStep0.trans k, fun b hb => (hk b hb).trans (h.keep b hb), fun b hb hn => hd b hb (h.dom b hb hn)⟩

theorem TRel.congr {ρ : Ren} {T T' : Tmps} {a : Act} (h : TRel ρ T a) (e : ∀ t, tget T' t = tget T t) : TRel ρ T' a := ⟨fun t => by rw [e]; exact h.at_ t⟩

theorem putN_ok {n : Nat} {T T1 : Tmps} {dst : Option Tmp} {v : Value} (h : putN n T dst v = some T1) (T' : Tmps) : ∃ T2, putN n T' dst v = some T2 := by
  cases dst with
  | none => exact ⟨T', rfl⟩
  | some d =>
    simp only [putN] at h ⊢
    cases hb : Nat.blt d n with
    | false => rw [hb] at h; cases h
    | true => exact ⟨_, by rw [cond_true, Tr.putC_eq]⟩

theorem wantedA_congr {ops : Array Oper} {T T' : Tmps} {o : Oper} (h : ∀ t ∈ looks ops o, tget T t = tget T' t) : wantedA ops T o = wantedA ops T' o := by
  unfold wantedA
  unfold looks at h
  cases hg : o.guard with
  | none => rfl
  | some gw =>
    obtain ⟨j, want⟩ := gw
    rw [hg] at h
    simp only [] at h ⊢
    cases hn : nth ops.toList j with
    | none => rfl
    | some g =>
      rw [hn] at h
      simp only [] at h ⊢
      cases hd : g.dst with
      | none => rfl
      | some d =>
        rw [hd] at h
        simp only [] at h ⊢
        rw [h d (by simp)]

theorem oneOp_quiet {E : Env} {call : Tgt → List Value → ASt → Nd (Value × ASt)} {o : Oper} {T : Tmps} {A A' : ASt} {v : Value} (hq : quietOp E o.op = true) (h : aOp E o.op T A = .val v A') : oneOp E call o T A = .ret (v, A') := by
  unfold oneOp
  split
  · rename_i it s hop
    rw [hop] at hq; simp [quietOp] at hq
  · rw [h]

theorem quiet_run {E : Env} {o : Op} (hq : quietOp E o = true) {T : Tmps} {A A' : ASt} {v : Value} (h : aOp E o T A = .val v A') (n : Nat) : aOp E o T { heap := A.heap, next := n } = .val v { heap := A.heap, next := n } := by
  obtain ⟨r, why, hr⟩ := quiet_spec hq T A.heap
  have h1 := hr A.next
  have e : ({ heap := A.heap, next := A.next } : ASt) = A := rfl
  rw [e, h] at h1
  rw [hr n]
  cases r with
  | none => cases h1
  | some u => cases h1; rfl

theorem readsOK_spec {E : Env} {base : Nat} {an : List Nat} {s : PSt} : ∀ {l : List Rd}, readsOK E base an s l = true → ∀ r ∈ l, ∃ m, nth an r.i = some m ∧ readAt E base an s.fl m (behind r.i 0 an) s.louds r s.hist = true
  | [], _, r, hr => by simp at hr
  | x :: l, h, r, hr => by
    unfold readsOK at h
    rw [Bool.and_eq_true] at h
    rcases List.mem_cons.1 hr with rfl | hr
    · have h1 := h.1
      cases hm : nth an r.i with
      | none => rw [hm] at h1; cases h1
      | some m => rw [hm] at h1; exact ⟨m, rfl, h1⟩
    · exact readsOK_spec h.2 r hr

theorem readAt_spec {E : Env} {base : Nat} {an : List Nat} {fl : List Fl} {m beh louds : Nat} {r : Rd} : ∀ {l : List (Nat × ASt)}, readAt E base an fl m beh louds r l = true → ∀ mask H, (mask, H) ∈ l → (m &&& louds) &&& mask = m &&& louds → mask &&& beh = 0 →
    ∃ A', aOp E r.o r.T (viewAt base an mask m fl H) = .val r.v A'
  | [], _, mask, H, hr, _, _ => by simp at hr
  | x :: l, h, mask, H, hr, h1, h2 => by
    obtain ⟨mk, Hx⟩ := x
    unfold readAt at h
    rw [Bool.and_eq_true] at h
    rcases List.mem_cons.1 hr with e | hr
    · cases e
      have h3 := h.1
      have c1 : Nat.beq ((m &&& louds) &&& mask) (m &&& louds) = true := by rw [h1]; exact Nat.beq_refl _
      have c2 : Nat.beq (mask &&& beh) 0 = true := by rw [h2]; rfl
      rw [c1, c2, Bool.and_self, cond_true] at h3
      split at h3
      · rename_i v A' hv
        rw [← valEq_eq h3]
        exact ⟨A', hv⟩
      · cases h3
    · exact readAt_spec h.2 mask H hr h1 h2

section
variable {E : Env} {P : Program} {call : Tgt → List Value → ASt → Nd (Value × ASt)} {n base : Nat} {ops : Array Oper} {an : List Nat} {S : Nat → PSt} {val : Nat → Value} {ds : List Deferred}

/-- Where a run of the region stands once the operations 'D' are done. -/
structure Inv (E : Env) (call : Tgt → List Value → ASt → Nd (Value × ASt)) (n base : Nat) (ops : Array Oper) (an : List Nat) (S : Nat → PSt) (val : Nat → Value) (ds : List Deferred) (ρ₀ : Ren) (A₀ : ASt) (w₀ : World) (D : Nat → Bool) (q : Nat) (ρ : Ren) (T : Tmps) (a : Act) (w : World) : Prop where
  le : q ≤ ops.size
  stage : ∀ j, (S ops.size).louds.testBit j = true → (D j = true ↔ j < q)
  tm : ∀ t, tget T t = sv ops val (S 0).T D ops.size t
  rel : TRel ρ T a
  step : Step ρ₀ A₀ w₀ ρ (addFl base (fun f => !takenAt (S q).louds f 0 an && D f) (S ops.size).fl (S q).H) w
  free : ∀ f, f < ops.size → D f = false → ρ (base + f) = none
  holes : ∀ f, f < ops.size → takenAt (S q).louds f 0 an = false → (S q).H.get (base + f) = none
  room : base + ops.size ≤ (S q).H.next
  size : a.tmps.size = n
  defers : a.defers = ds
  cl : ∀ j, D j = true → ∀ k, Anc an j k → D k = true

variable {ρ₀ : Ren} {A₀ : ASt} {w₀ : World} {D : Nat → Bool} {q : Nat} {ρ : Ren} {T : Tmps} {a : Act} {w : World}

theorem or_eq_true' {D : Nat → Bool} {i j : Nat} : ((D j || j == i) = true) ↔ D j = true ∨ j = i := by simp

/-- Behind an operation that is neither loud nor makes a block. -/
theorem Inv.silent (hp : Plan E call n base ops an S val) (h : Inv E call n base ops an S val ds ρ₀ A₀ w₀ D q ρ T a w) (hbase : base = A₀.next) {i : Nat} {o : Oper} (ho : ops[i]? = some o) (hDi : D i = false) (hanc : ∀ j, Anc an i j → D j = true) (hslot : ∀ t, dstAt ops i = some t → SlotOK ops an i t)
    (hl : (S (i + 1)).louds = (S i).louds) (hfl : (S (i + 1)).fl = (S i).fl) {ρ' : Ren} {w' : World} {v' : Value} {T1 : Tmps} (hput : putN n (S i).T o.dst (val i) = some T1)
    (hv : VRel ρ' (val i) v') (hst : Step ρ (addFl base (fun f => !takenAt (S q).louds f 0 an && D f) (S ops.size).fl (S q).H) w ρ' (addFl base (fun f => !takenAt (S q).louds f 0 an && D f) (S ops.size).fl (S q).H) w') :
    ∃ T', Inv E call n base ops an S val ds ρ₀ A₀ w₀ (fun j => D j || j == i) q ρ' T' (a.put o.dst v') w' := by
  have hi : i < ops.size := (Array.getElem?_eq_some_iff.1 ho).1
  obtain ⟨T', hT'⟩ := putN_ok hput T
  have hli : (S ops.size).louds.testBit i = false := by
    cases hb : (S ops.size).louds.testBit i with
    | false => rfl
    | true =>
      have : (S (i + 1)).louds.testBit i = true := (hp.louds_iff (by omega)).2 ⟨by omega, hb⟩
      rw [hl] at this
      have := hp.louds_lt (by omega) this
      omega
  have hfi : flGet (S ops.size).fl i = none := by
    rw [← hp.fl_at (q := i + 1) (by omega) (by omega), hfl]
    exact hp.fl_lt (by omega) (Nat.le_refl _)
  refine ⟨T', h.le, fun j hj => ?_, fun t => ?_, putN_sound (h.rel.mono hst.ext) h.size hT' hv, (h.step.trans hst).congr (fun b => ?_) ?_, fun f hf hD => ?_, h.holes, h.room, by rw [size_put]; exact h.size, by rw [defers_put]; exact h.defers, fun j hj k hk => ?_⟩
  · rw [or_eq_true', ← h.stage j hj]
    constructor
    · rintro (h1 | rfl)
      · exact h1
      · rw [hli] at hj; cases hj
    · exact .inl
  · rw [putN_get hT' t, sv_upd hDi h.cl hslot hi t]
    simp only [dstAt, ho, Option.bind_some]
    rw [h.tm t]
  · rw [addFl_get, addFl_get]
    by_cases e : b - base = i
    · rw [e, hfi]
      simp
    · have : ((b - base) == i) = false := by simpa using e
      simp only [this, Bool.or_false]
  · rw [addFl_next, addFl_next]
  · simp only [Bool.or_eq_false_iff] at hD
    rw [hst.keep _ (by rw [addFl_next]; have := h.room; omega)]
    exact h.free f hf hD.1
  · rw [or_eq_true'] at hj ⊢
    rcases hj with hj | rfl
    · exact .inl (h.cl j hj k hk)
    · exact .inl (hanc k hk)

theorem Inv.taken_anc (hp : Plan E call n base ops an S val) (h : Inv E call n base ops an S val ds ρ₀ A₀ w₀ D q ρ T a w) {f : Nat} (hf : takenAt (S q).louds f 0 an = true) : D f = true := by
  rw [takenAt_anc] at hf
  obtain ⟨j, hj, hjf⟩ := hf
  rw [hp.louds_iff h.le] at hj
  exact h.cl j ((h.stage j hj.2).2 hj.1) f hjf

/-- What operation 'i' looks at is a part of the heap. -/
theorem Inv.view_sub (hp : Plan E call n base ops an S val) (h : Inv E call n base ops an S val ds ρ₀ A₀ w₀ D q ρ T a w) {m : Nat} (hanc : ∀ j, m.testBit j = true → D j = true) (b : Nat) (o : AObj)
    (hb : (viewAt base an (S q).louds m (S ops.size).fl (S q).H).get b = some o) : (addFl base (fun f => !takenAt (S q).louds f 0 an && D f) (S ops.size).fl (S q).H).get b = some o := by
  unfold viewAt at hb
  rw [addFl_get] at hb ⊢
  by_cases hc : base ≤ b ∧ (!takenAt (S q).louds (b - base) 0 an && m.testBit (b - base)) = true
  · rw [if_pos hc] at hb
    rw [if_pos ⟨hc.1, by
      have := hc.2
      rw [Bool.and_eq_true] at this ⊢
      exact ⟨this.1, hanc _ this.2⟩⟩]
    exact hb
  · rw [if_neg hc] at hb
    by_cases hc2 : base ≤ b ∧ (!takenAt (S q).louds (b - base) 0 an && D (b - base)) = true
    · rw [if_pos hc2]
      have h2 := hc2.2
      rw [Bool.and_eq_true, Bool.not_eq_true'] at h2
      cases hg : flGet (S ops.size).fl (b - base) with
      | none => exact hb
      | some x =>
        have hlt : b - base < ops.size := by
          rcases Nat.lt_or_ge (b - base) ops.size with h' | h'
          · exact h'
          · rw [hp.fl_lt (Nat.le_refl _) h'] at hg; cases hg
        have := h.holes _ hlt h2.1
        rw [show base + (b - base) = b by omega, hb] at this
        cases this
    · rw [if_neg hc2]; exact hb

theorem frame_same {ρ ρ' : Ren} {A G : ASt} {w w' : World} (hR : Rep ρ A w) (hsub : ∀ b o, G.get b = some o → A.get b = some o) (hn : G.next = A.next) (hs : Step ρ G w ρ' G w') : Step ρ A w ρ' A w' :=
  Step.frame hR hsub hn hs (fun b => by
    cases hg : G.get b with
    | none => simp
    | some o => simp [hsub b o hg]) hn.symm

end

end Go.AE
