/- The evaluator: the states of the plan of a drawn region, and the slots behind a part of it. -/
import Derived.Test.YthacgilphddekaaGreatDoorAeDrawA
namespace Go.AE
open Go

section
variable (E : Env) (call : Tgt → List Value → ASt → Nd (Value × ASt)) (n base : Nat) (ops : Array Oper) (an : List Nat)

/-- One operation of the plan. -/
inductive PS (i m : Nat) (o : Oper) (s s' : PSt) (v : Value) : Prop
  | off : wantedA ops s.T o = false → v = undef → s'.H = s.H → s'.fl = s.fl → s'.louds = s.louds → s'.hist = s.hist → s'.reads = s.reads → PS i m o s s' v
  | fresh (ob : AObj) (f : Nat → Value) : wantedA ops s.T o = true → aFresh E o.op s.T = some (ob, f) → v = f (base + i) → s'.H = s.H → s'.fl = ⟨i, ob⟩ :: s.fl → s'.louds = s.louds → s'.hist = s.hist → s'.reads = s.reads → PS i m o s s' v
  | still (A' : ASt) : wantedA ops s.T o = true → quietOp E o.op = true → aOp E o.op s.T { heap := .e, next := 0 } = .val v A' → s'.H = s.H → s'.fl = s.fl → s'.louds = s.louds → s'.hist = s.hist → s'.reads = s.reads → PS i m o s s' v
  | read : wantedA ops s.T o = true → quietOp E o.op = true → s'.H = s.H → s'.fl = s.fl → s'.louds = s.louds → s'.hist = s.hist → s'.reads = ⟨i, o.op, s.T, v⟩ :: s.reads → PS i m o s s' v
  | loud (H' : ASt) : wantedA ops s.T o = true → (∀ j, s.louds.testBit j = true → m.testBit j = true) → oneOp E call o s.T (viewAt base an s.louds m s.fl s.H) = .ret (v, H') → s'.H = H' → s'.fl = s.fl →
      s'.louds = s.louds ||| 2 ^ i → s'.hist = (s'.louds, s'.H) :: s.hist → s'.reads = s.reads → PS i m o s s' v

theorem planStep_ps {i : Nat} {o : Oper} {s s' : PSt} (h : planStep E call n base ops an i o s = some s') :
    ∃ m v, nth an i = some m ∧ putN n s.T o.dst v = some s'.T ∧ PS E call base ops an i m o s s' v := by
  unfold planStep at h
  split at h
  · cases h
  · rename_i m hm
    cases hw : wantedA ops s.T o with
    | false =>
      rw [hw, cond_false] at h
      split at h
      · rename_i T' hT
        cases h
        exact ⟨m, undef, hm, hT, .off hw rfl rfl rfl rfl rfl rfl⟩
      · cases h
    | true =>
      rw [hw, cond_true] at h
      cases hf : freshOp E o.op with
      | true =>
        rw [hf, cond_true] at h
        split at h
        · rename_i ob f ha
          split at h
          · rename_i T' hT
            cases h
            exact ⟨m, _, hm, hT, .fresh ob f hw ha rfl rfl rfl rfl rfl rfl⟩
          · cases h
        · cases h
      | false =>
        rw [hf, cond_false] at h
        cases hq : quietOp E o.op with
        | true =>
          rw [hq, cond_true] at h
          split at h
          · rename_i v A' hv
            split at h
            · rename_i T' hT
              cases h
              exact ⟨m, v, hm, hT, .still A' hw hq hv rfl rfl rfl rfl rfl⟩
            · cases h
          · split at h
            · rename_i v A' hv
              split at h
              · rename_i T' hT
                cases h
                exact ⟨m, v, hm, hT, .read hw hq rfl rfl rfl rfl rfl⟩
              · cases h
            · cases h
        | false =>
          rw [hq, cond_false] at h
          cases hb : Nat.beq (m &&& s.louds) s.louds with
          | false => rw [hb] at h; cases h
          | true =>
            rw [hb, cond_true] at h
            have hb' := Nat.eq_of_beq_eq_true hb
            split at h
            · rename_i v H' hr
              split at h
              · rename_i T' hT
                cases h
                refine ⟨m, v, hm, hT, .loud H' hw (fun j hj => ?_) hr rfl rfl rfl rfl rfl⟩
                rw [← hb', Nat.testBit_and, Bool.and_eq_true] at hj
                exact hj.1
              · cases h
            · cases h

theorem planGo_states : ∀ (l : List Oper) (i : Nat) (s s' : PSt), planGo E call n base ops an i l s = some s' →
    ∃ S : Nat → PSt, S i = s ∧ S (i + l.length) = s' ∧ ∀ k o, l[k]? = some o → planStep E call n base ops an (i + k) o (S (i + k)) = some (S (i + k + 1))
  | [], i, s, s', h => by
    simp [planGo] at h
    exact ⟨fun _ => s, rfl, h, by simp⟩
  | o :: l, i, s, s', h => by
    unfold planGo at h
    split at h
    · rename_i s1 h1
      obtain ⟨S, hS0, hS1, hS⟩ := planGo_states l (i + 1) s1 s' h
      refine ⟨fun x => if x = i then s else S x, by simp, ?_, ?_⟩
      · simp only [List.length_cons]
        rw [if_neg (by omega), ← hS1]
        congr 1; omega
      · intro k x hk
        cases k with
        | zero =>
          simp at hk; subst hk
          simp only [Nat.add_zero]
          rw [if_pos trivial, if_neg (by omega), hS0]
          exact h1
        | succ k =>
          have := hS k x (by simpa using hk)
          simp only []
          rw [if_neg (by omega), if_neg (by omega)]
          rw [show i + (k + 1) = i + 1 + k by omega]
          exact this
    · cases h

/-- The states of a plan. -/
structure Plan (S : Nat → PSt) (val : Nat → Value) : Prop where
  step : ∀ i o, ops[i]? = some o → ∃ m, nth an i = some m ∧ putN n (S i).T o.dst (val i) = some (S (i + 1)).T ∧ PS E call base ops an i m o (S i) (S (i + 1)) (val i)
  louds0 : (S 0).louds = 0
  fl0 : (S 0).fl = []
  hist0 : (S 0).hist = [((S 0).louds, (S 0).H)]

theorem plan_of_go {s0 s : PSt} (h : planGo E call n base ops an 0 ops.toList s0 = some s) (h1 : s0.louds = 0) (h2 : s0.fl = []) (h3 : s0.hist = [(s0.louds, s0.H)]) :
    ∃ S val, S 0 = s0 ∧ S ops.size = s ∧ Plan E call n base ops an S val := by
  obtain ⟨S, hS0, hS1, hS⟩ := planGo_states E call n base ops an _ _ _ _ h
  have ex : ∀ i, ∃ v, ∀ o, ops[i]? = some o → ∃ m, nth an i = some m ∧ putN n (S i).T o.dst v = some (S (i + 1)).T ∧ PS E call base ops an i m o (S i) (S (i + 1)) v := by
    intro i
    cases ho : ops[i]? with
    | none => exact ⟨undef, by simp⟩
    | some o =>
      have := hS i o (by simpa using ho)
      rw [Nat.zero_add] at this
      obtain ⟨m, v, e1, e2, e3⟩ := planStep_ps E call n base ops an this
      refine ⟨v, fun x hx => ?_⟩
      cases hx
      exact ⟨m, e1, e2, e3⟩
  obtain ⟨val, hval⟩ := Classical.axiomOfChoice ex
  refine ⟨S, val, hS0, ?_, ⟨hval, by rw [hS0]; exact h1, by rw [hS0]; exact h2, by rw [hS0]; exact h3⟩⟩
  rw [← hS1]; simp

variable {E call n base ops an}
variable {S : Nat → PSt} {val : Nat → Value}

theorem Plan.at_ (hp : Plan E call n base ops an S val) {i : Nat} (hi : i < ops.size) : ∃ o m, ops[i]? = some o ∧ nth an i = some m ∧ putN n (S i).T o.dst (val i) = some (S (i + 1)).T ∧ PS E call base ops an i m o (S i) (S (i + 1)) (val i) := by
  obtain ⟨m, h⟩ := hp.step i ops[i] (by simp [hi])
  exact ⟨ops[i], m, by simp [hi], h⟩

theorem Plan.small (hp : Plan E call n base ops an S val) {i : Nat} (hi : i < ops.size) : (((S (i + 1)).louds = (S i).louds ∧ (S (i + 1)).H = (S i).H ∧ (S (i + 1)).hist = (S i).hist) ∨ ((S (i + 1)).louds = (S i).louds ||| 2 ^ i ∧ (S (i + 1)).hist = ((S (i + 1)).louds, (S (i + 1)).H) :: (S i).hist)) ∧
    ((S (i + 1)).fl = (S i).fl ∨ ∃ ob, (S (i + 1)).fl = ⟨i, ob⟩ :: (S i).fl) ∧ ((S (i + 1)).reads = (S i).reads ∨ ∃ r, (S (i + 1)).reads = r :: (S i).reads) := by
  obtain ⟨o, m, _, _, _, h⟩ := hp.at_ hi
  cases h with
  | off _ _ a b c d e => exact ⟨.inl ⟨c, a, d⟩, .inl b, .inl e⟩
  | fresh ob f _ _ _ a b c d e => exact ⟨.inl ⟨c, a, d⟩, .inr ⟨_, b⟩, .inl e⟩
  | still _ _ _ _ a b c d e => exact ⟨.inl ⟨c, a, d⟩, .inl b, .inl e⟩
  | read _ _ a b c d e => exact ⟨.inl ⟨c, a, d⟩, .inl b, .inr ⟨_, e⟩⟩
  | loud H' _ _ _ a b c d e => exact ⟨.inr ⟨c, d⟩, .inl b, .inl e⟩

theorem Plan.louds_lt (hp : Plan E call n base ops an S val) : ∀ {q j : Nat}, q ≤ ops.size → (S q).louds.testBit j = true → j < q
  | 0, j, _, h => by rw [hp.louds0] at h; simp at h
  | q + 1, j, hq, h => by
    rcases (hp.small (i := q) (by omega)).1 with ⟨h1, _⟩ | ⟨h1, _⟩
    · rw [h1] at h; have := hp.louds_lt (by omega) h; omega
    · rw [h1, Nat.testBit_or, Nat.testBit_two_pow, Bool.or_eq_true_iff] at h
      rcases h with h | h
      · have := hp.louds_lt (by omega) h; omega
      · have : q = j := by simpa using h
        omega

theorem Plan.louds_keep (hp : Plan E call n base ops an S val) {q : Nat} : ∀ {d j : Nat}, q + d ≤ ops.size → j < q → (S (q + d)).louds.testBit j = (S q).louds.testBit j
  | 0, j, _, _ => rfl
  | d + 1, j, hq, hj => by
    rw [← hp.louds_keep (d := d) (by omega) hj]
    rcases (hp.small (i := q + d) (by omega)).1 with ⟨h1, _⟩ | ⟨h1, _⟩
    · rw [← Nat.add_assoc, h1]
    · rw [← Nat.add_assoc, h1, Nat.testBit_or, Nat.testBit_two_pow]
      have : ¬ q + d = j := by omega
      simp [this]

theorem Plan.louds_iff (hp : Plan E call n base ops an S val) {q j : Nat} (hq : q ≤ ops.size) : (S q).louds.testBit j = true ↔ j < q ∧ (S ops.size).louds.testBit j = true := by
  obtain ⟨d, hd⟩ := Nat.exists_eq_add_of_le hq
  constructor
  · intro h
    have := hp.louds_lt hq h
    refine ⟨this, ?_⟩
    rw [hd, hp.louds_keep (by omega) this]; exact h
  · rintro ⟨h1, h2⟩
    rw [hd, hp.louds_keep (by omega) h1] at h2; exact h2

theorem Plan.fl_lt (hp : Plan E call n base ops an S val) : ∀ {q f : Nat}, q ≤ ops.size → q ≤ f → flGet (S q).fl f = none
  | 0, f, _, _ => by rw [hp.fl0]; rfl
  | q + 1, f, hq, hf => by
    rcases (hp.small (i := q) (by omega)).2.1 with h1 | ⟨ob, h1⟩
    · rw [h1]; exact hp.fl_lt (by omega) (by omega)
    · rw [h1]; unfold flGet; rw [if_neg (by simp only []; omega)]; exact hp.fl_lt (by omega) (by omega)

theorem Plan.fl_keep (hp : Plan E call n base ops an S val) {q : Nat} : ∀ {d f : Nat}, q + d ≤ ops.size → f < q → flGet (S (q + d)).fl f = flGet (S q).fl f
  | 0, f, _, _ => rfl
  | d + 1, f, hq, hf => by
    rw [← hp.fl_keep (d := d) (by omega) hf]
    rcases (hp.small (i := q + d) (by omega)).2.1 with h1 | ⟨ob, h1⟩
    · rw [← Nat.add_assoc, h1]
    · rw [← Nat.add_assoc, h1]; conv => lhs; unfold flGet
      rw [if_neg (by simp only []; omega)]

theorem Plan.fl_at (hp : Plan E call n base ops an S val) {q f : Nat} (hq : q ≤ ops.size) (hf : f < q) : flGet (S q).fl f = flGet (S ops.size).fl f := by
  obtain ⟨d, hd⟩ := Nat.exists_eq_add_of_le hq
  rw [hd, hp.fl_keep (by omega) hf]

theorem Plan.hist_self (hp : Plan E call n base ops an S val) : ∀ {q : Nat}, q ≤ ops.size → ((S q).louds, (S q).H) ∈ (S q).hist
  | 0, _ => by rw [hp.hist0]; simp
  | q + 1, hq => by
    rcases (hp.small (i := q) (by omega)).1 with ⟨h1, h2, h3⟩ | ⟨h1, h2⟩
    · rw [h1, h2, h3]; exact hp.hist_self (by omega)
    · rw [h2]; simp

theorem Plan.hist_keep (hp : Plan E call n base ops an S val) {q : Nat} : ∀ {d : Nat} {x : Nat × ASt}, q + d ≤ ops.size → x ∈ (S q).hist → x ∈ (S (q + d)).hist
  | 0, x, _, h => h
  | d + 1, x, hq, h => by
    have := hp.hist_keep (d := d) (by omega) h
    rcases (hp.small (i := q + d) (by omega)).1 with ⟨_, _, h3⟩ | ⟨_, h2⟩
    · rw [← Nat.add_assoc, h3]; exact this
    · rw [← Nat.add_assoc, h2]; exact List.mem_cons_of_mem _ this

theorem Plan.hist_at (hp : Plan E call n base ops an S val) {q : Nat} (hq : q ≤ ops.size) : ((S q).louds, (S q).H) ∈ (S ops.size).hist := by
  obtain ⟨d, hd⟩ := Nat.exists_eq_add_of_le hq
  have := hp.hist_keep (q := q) (d := d) (by omega) (hp.hist_self hq)
  rwa [← hd] at this

theorem Plan.reads_keep (hp : Plan E call n base ops an S val) {q : Nat} : ∀ {d : Nat} {x : Rd}, q + d ≤ ops.size → x ∈ (S q).reads → x ∈ (S (q + d)).reads
  | 0, x, _, h => h
  | d + 1, x, hq, h => by
    have := hp.reads_keep (d := d) (by omega) h
    rcases (hp.small (i := q + d) (by omega)).2.2 with h3 | ⟨_, h2⟩
    · rw [← Nat.add_assoc, h3]; exact this
    · rw [← Nat.add_assoc, h2]; exact List.mem_cons_of_mem _ this

theorem Plan.reads_at (hp : Plan E call n base ops an S val) {q : Nat} (hq : q ≤ ops.size) {x : Rd} (h : x ∈ (S q).reads) : x ∈ (S ops.size).reads := by
  obtain ⟨d, hd⟩ := Nat.exists_eq_add_of_le hq
  have := hp.reads_keep (q := q) (d := d) (by omega) h
  rwa [← hd] at this

/-- Between two stages without a loud one the heap stays. -/
theorem Plan.stage (hp : Plan E call n base ops an S val) {q : Nat} : ∀ {d : Nat}, q + d ≤ ops.size → (∀ j, q ≤ j → j < q + d → (S ops.size).louds.testBit j = false) → (S (q + d)).H = (S q).H ∧ (S (q + d)).louds = (S q).louds
  | 0, _, _ => ⟨rfl, rfl⟩
  | d + 1, hq, h => by
    obtain ⟨e1, e2⟩ := hp.stage (d := d) (by omega) (fun j h1 h2 => h j h1 (by omega))
    rcases (hp.small (i := q + d) (by omega)).1 with ⟨h1, h2, _⟩ | ⟨h1, _⟩
    · exact ⟨by rw [← Nat.add_assoc, h2, e1], by rw [← Nat.add_assoc, h1, e2]⟩
    · have : (S (q + d + 1)).louds.testBit (q + d) = true := by rw [h1, Nat.testBit_or, Nat.testBit_two_pow]; simp
      rw [hp.louds_iff (by omega)] at this
      rw [h (q + d) (by omega) (by omega)] at this
      cases this.2

theorem Plan.stages (hp : Plan E call n base ops an S val) {q q' : Nat} (hq : q ≤ ops.size) (hq' : q' ≤ ops.size) (h : ∀ j, (S ops.size).louds.testBit j = true → (j < q ↔ j < q')) : (S q).H = (S q').H ∧ (S q).louds = (S q').louds := by
  have go : ∀ {a b : Nat}, a ≤ b → b ≤ ops.size → (∀ j, (S ops.size).louds.testBit j = true → (j < a ↔ j < b)) → (S b).H = (S a).H ∧ (S b).louds = (S a).louds := by
    intro a b hab hb hh
    obtain ⟨d, rfl⟩ := Nat.exists_eq_add_of_le hab
    refine hp.stage hb fun j h1 h2 => ?_
    cases hj : (S ops.size).louds.testBit j with
    | false => rfl
    | true => have := hh j hj; omega
  rcases Nat.le_total q q' with hle | hle
  · have := go hle hq' h; exact ⟨this.1.symm, this.2.symm⟩
  · exact go hle hq fun j hj => (h j hj).symm

end

/-! ### slots -/
noncomputable def dstAt (ops : Array Oper) (i : Nat) : Option Tmp := (ops[i]?).bind (·.dst)

noncomputable def sv (ops : Array Oper) (val : Nat → Value) (T0 : Tmps) (D : Nat → Bool) : Nat → Nat → Value
  | 0, t => tget T0 t
  | i + 1, t => if D i = true ∧ dstAt ops i = some t then val i else sv ops val T0 D i t

theorem sv_succ (ops : Array Oper) (val : Nat → Value) (T0 : Tmps) (D : Nat → Bool) (i t : Nat) : sv ops val T0 D (i + 1) t = if D i = true ∧ dstAt ops i = some t then val i else sv ops val T0 D i t := rfl

theorem tget_put {T : Tmps} {d : Tmp} {v : Value} (t : Tmp) : tget (T.put d (some v)) t = if t = d then v else tget T t := by
  unfold tget
  rw [Tr.get_put]
  by_cases e : t = d
  · simp [e]
  · simp [e]

theorem putN_get {n : Nat} {T T' : Tmps} {dst : Option Tmp} {v : Value} (h : putN n T dst v = some T') (t : Tmp) : tget T' t = if dst = some t then v else tget T t := by
  cases dst with
  | none => simp [putN] at h; subst h; simp
  | some d =>
    simp only [putN] at h
    cases hb : Nat.blt d n with
    | false => rw [hb] at h; cases h
    | true =>
      rw [hb, cond_true, Tr.putC_eq] at h
      cases h
      rw [tget_put]
      by_cases e : t = d
      · subst e; simp
      · rw [if_neg e, if_neg (by intro h; cases h; exact e rfl)]

section
variable {E : Env} {call : Tgt → List Value → ASt → Nd (Value × ASt)} {n base : Nat} {ops : Array Oper} {an : List Nat} {S : Nat → PSt} {val : Nat → Value}

theorem Plan.sv_all (hp : Plan E call n base ops an S val) : ∀ {i : Nat}, i ≤ ops.size → ∀ t, tget (S i).T t = sv ops val (S 0).T (fun _ => true) i t
  | 0, _, t => rfl
  | i + 1, hi, t => by
    obtain ⟨o, m, ho, _, hput, _⟩ := hp.at_ (i := i) (by omega)
    rw [putN_get hput t, Plan.sv_all hp (by omega) t]
    simp [sv, dstAt, ho]

/-- What is asked of the slot that an operation looks at or writes. -/
noncomputable def SlotOK (ops : Array Oper) (an : List Nat) (i t : Nat) : Prop := ∀ k, dstAt ops k = some t → k = i ∨ (k < i ∧ Anc an i k) ∨ (i < k ∧ Anc an k i)

theorem sv_look {D : Nat → Bool} {T0 : Tmps} {i t : Nat} (hs : SlotOK ops an i t) (hDi : D i = false) (hanc : ∀ j, Anc an i j → D j = true) (hcl : ∀ j, D j = true → ∀ k, Anc an j k → D k = true) {N : Nat} (hN : i ≤ N) :
    sv ops val T0 D N t = sv ops val T0 (fun _ => true) i t := by
  have low : ∀ k, k ≤ i → sv ops val T0 D k t = sv ops val T0 (fun _ => true) k t := by
    intro k
    induction k with
    | zero => intro _; rfl
    | succ k ih =>
      intro hk
      rw [sv_succ, sv_succ]
      rw [ih (by omega)]
      by_cases hd : dstAt ops k = some t
      · have : D k = true := by
          rcases hs k hd with h | ⟨_, h⟩ | ⟨h, _⟩
          · omega
          · exact hanc k h
          · omega
        simp [hd, this]
      · simp [hd]
  have high : ∀ d, sv ops val T0 D (i + d) t = sv ops val T0 D i t := by
    intro d
    induction d with
    | zero => rfl
    | succ d ih =>
      rw [← Nat.add_assoc]
      rw [sv_succ]
      rw [if_neg, ih]
      · rintro ⟨hD, hd⟩
        rcases hs _ hd with h | ⟨h, _⟩ | ⟨_, h⟩
        · rw [h] at hD; rw [hD] at hDi; cases hDi
        · omega
        · have := hcl _ hD _ h
          rw [this] at hDi; cases hDi
  obtain ⟨d, rfl⟩ := Nat.exists_eq_add_of_le hN
  rw [high d, low i (Nat.le_refl _)]

theorem sv_upd {D : Nat → Bool} {T0 : Tmps} {i : Nat} (hDi : D i = false) (hcl : ∀ j, D j = true → ∀ k, Anc an j k → D k = true) (hs : ∀ t, dstAt ops i = some t → SlotOK ops an i t) {N : Nat} (hN : i < N) (t : Nat) :
    sv ops val T0 (fun j => D j || j == i) N t = if dstAt ops i = some t then val i else sv ops val T0 D N t := by
  have low : ∀ k, k ≤ i → sv ops val T0 (fun j => D j || j == i) k t = sv ops val T0 D k t := by
    intro k
    induction k with
    | zero => intro _; rfl
    | succ k ih =>
      intro hk
      rw [sv_succ, sv_succ]
      rw [ih (by omega)]
      have : (k == i) = false := by simp; omega
      simp [this]
  have mid : sv ops val T0 (fun j => D j || j == i) (i + 1) t = if dstAt ops i = some t then val i else sv ops val T0 D i t := by
    rw [sv_succ]
    rw [low i (Nat.le_refl _)]
    simp
  have mid' : sv ops val T0 D (i + 1) t = sv ops val T0 D i t := by
    rw [sv_succ]
    rw [if_neg (by rw [hDi]; simp)]
  have high : ∀ d, sv ops val T0 (fun j => D j || j == i) (i + 1 + d) t = if dstAt ops i = some t then val i else sv ops val T0 D (i + 1 + d) t := by
    intro d
    induction d with
    | zero => rw [Nat.add_zero, mid, mid']
    | succ d ih =>
      rw [← Nat.add_assoc]
      rw [sv_succ]
      have hne : (i + 1 + d == i) = false := by simp; omega
      rw [ih]
      simp only [hne, Bool.or_false]
      by_cases hi : dstAt ops i = some t
      · rw [if_pos hi, if_pos hi]
        rw [if_neg]
        rintro ⟨hD, hd⟩
        rcases hs t hi _ hd with h | ⟨h, _⟩ | ⟨_, h⟩
        · omega
        · omega
        · have := hcl _ hD _ h
          rw [this] at hDi; cases hDi
      · rw [if_neg hi, if_neg hi]
        rfl
  obtain ⟨d, rfl⟩ := Nat.exists_eq_add_of_le (Nat.succ_le_of_lt hN)
  exact high d
end

end Go.AE
