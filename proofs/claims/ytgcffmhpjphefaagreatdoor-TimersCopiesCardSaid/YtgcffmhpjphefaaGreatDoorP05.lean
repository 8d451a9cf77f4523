/- The evaluator: a drawn region whose loud and new ones stand ahead of all that follows: as it stands in the text. -/
import Derived.Test.YtgcffmhpjphefaaGreatDoorP04
set_option linter.unusedSimpArgs false
set_option linter.unusedVariables false
set_option linter.unusedSectionVars false
namespace Go.AE
open Go

section
variable (E : Env)

noncomputable def loudB (o : Oper) : Bool := !freshOp E o.op && !quietOp E o.op
noncomputable def safeB (i : Nat) : Nat → List Oper → List Nat → Bool
  | j, o :: l, m :: an => (!(loudB E o && Nat.blt i j) || m.testBit i) && safeB i (j + 1) l an
  | _, _, _ => true
noncomputable def hasN (x : Nat) : List Nat → Bool
  | [] => false
  | y :: l => Nat.beq x y || hasN x l

noncomputable def seqOK (ops : List Oper) (an : List Nat) (un : List Nat) : Nat → List Oper → Bool
  | _, [] => true
  | i, o :: l => (match nth an i with
    | some m => Nat.blt m (2 ^ i)
    | none => false) && ((quietOp E o.op && !freshOp E o.op || allBehind i (an.drop (i + 1))) && ((hasN i un || (!(quietOp E o.op) || safeB E i 0 ops an)) && seqOK ops an un (i + 1) l))

noncomputable def freshW (r : Option Fresh) (K : AObj → (Nat → Value) → Prop) : Prop :=
  match r with
  | some (ob, f) => K ob f
  | none => False
noncomputable def stillW (r r2 : AR) (K : Value → Prop) (K2 : Value → Prop) : Prop :=
  match r with
  | .val v _ => K v
  | _ => match r2 with
    | .val v _ => valEq v v = true ∧ K2 v
    | _ => False
abbrev Pend := Op × Tmps × Value
noncomputable def pendW (E : Env) (H : ASt) : List Pend → Prop
  | [] => True
  | p :: l => (∃ A', aOp E p.1 p.2.1 H = .val p.2.2 A') ∧ pendW E H l
noncomputable def pendIf (b : Bool) (p : Pend) (l : List Pend) : List Pend := cond b (p :: l) l

noncomputable def seqW (C : Tgt → List Value → ASt → (Value → ASt → Prop) → Prop) (n base : Nat) (ops : Array Oper) (un : List Nat) : Nat → List Oper → List Pend → Tmps → ASt → (Tmps → ASt → Prop) → Prop
  | _, [], _, T, H, K => K T H
  | i, o :: l, pd, T, H, K =>
    brW (wantedA ops T o)
      (brW (freshOp E o.op) (freshW (aFresh E o.op T) fun ob f => putW n T o.dst (f (base + i)) fun T' => seqW C n base ops un (i + 1) l pd T' (H.set (base + i) ob) K)
        (brW (quietOp E o.op) (stillW (aOp E o.op T { heap := .e, next := 0 }) (aOp E o.op T H) (fun v => putW n T o.dst v fun T' => seqW C n base ops un (i + 1) l pd T' H K) fun v => putW n T o.dst v fun T' => seqW C n base ops un (i + 1) l (pendIf (hasN i un) (o.op, T, v) pd) T' H K)
          (oneW E C o.op T H fun v H' => pendW E H' pd ∧ putW n T o.dst v fun T' => seqW C n base ops un (i + 1) l pd T' H' K)))
      (putW n T o.dst undef fun T' => seqW C n base ops un (i + 1) l pd T' H K)
end

@[congr] theorem freshW_congr {r r' : Option Fresh} {K : AObj → (Nat → Value) → Prop} (h : ∀ _ : Unit, tg r = r') : freshW r K = freshW r' K := by rw [← h ()]; rfl
@[congr] theorem stillW_congr {r r' r2 : AR} {K K2 : Value → Prop} (h : ∀ _ : Unit, tg r = r') : stillW r r2 K K2 = stillW r' r2 K K2 := by rw [← h ()]; rfl
theorem freshW_some {ob : AObj} {f : Nat → Value} {K : AObj → (Nat → Value) → Prop} : freshW (some (ob, f)) K = K ob f := by simp only [freshW]
theorem stillW_val {v : Value} {A : ASt} {r2 : AR} {K K2 : Value → Prop} : stillW (.val v A) r2 K K2 = K v := by simp only [stillW]
noncomputable def readW (r2 : AR) (K : Value → Prop) : Prop :=
  match r2 with
  | .val v _ => valEq v v = true ∧ K v
  | _ => False
@[congr] theorem readW_congr {r r' : AR} {K : Value → Prop} (h : ∀ _ : Unit, tg r = r') : readW r K = readW r' K := by rw [← h ()]; rfl
theorem stillW_bad {s : String} {r2 : AR} {K K2 : Value → Prop} : stillW (.bad s) r2 K K2 = readW r2 K2 := by simp only [stillW, readW]
theorem readW_val {v : Value} {A : ASt} {K : Value → Prop} : readW (.val v A) K = (valEq v v = true ∧ K v) := by simp only [readW]
theorem pendIf_t {p : Pend} {l : List Pend} : pendIf true p l = p :: l := rfl
theorem pendIf_f {p : Pend} {l : List Pend} : pendIf false p l = l := rfl
@[congr] theorem seqW_congr {E : Env} {C : Tgt → List Value → ASt → (Value → ASt → Prop) → Prop} {n n' base i : Nat} {ops : Array Oper} {un : List Nat} {l : List Oper} {pd pd' : List Pend} {T : Tmps} {H : ASt} {K : Tmps → ASt → Prop} (h : ∀ _ : Unit, tg n = n') (h2 : pd = pd') : seqW E C n base ops un i l pd T H K = seqW E C n' base ops un i l pd' T H K := by rw [← h (), ← h2]; rfl


theorem seqW_nil {E : Env} {C : Tgt → List Value → ASt → (Value → ASt → Prop) → Prop} {n base i : Nat} {ops : Array Oper} {un : List Nat} {pd : List Pend} {T : Tmps} {H : ASt} {K : Tmps → ASt → Prop} : seqW E C n base ops un i [] pd T H K = K T H := by rw [seqW]
theorem seqW_cons {E : Env} {C : Tgt → List Value → ASt → (Value → ASt → Prop) → Prop} {n base i : Nat} {ops : Array Oper} {un : List Nat} {pd : List Pend} {T : Tmps} {H : ASt} {K : Tmps → ASt → Prop} {d : Option Tmp} {op : Op} {ty : TypeId} {ps : String} {af : Array Edge} {g : Option (Nat × Bool)} {l : List Oper} :
    seqW E C n base ops un i (⟨d, op, ty, ps, af, g⟩ :: l) pd T H K = brW (wantedA ops T ⟨d, op, ty, ps, af, g⟩)
      (brW (freshOp E op) (freshW (aFresh E op T) fun ob f => putW n T d (f (base + i)) fun T' => seqW E C n base ops un (i + 1) l pd T' (H.set (base + i) ob) K)
        (brW (quietOp E op) (stillW (aOp E op T { heap := .e, next := 0 }) (aOp E op T H) (fun v => putW n T d v fun T' => seqW E C n base ops un (i + 1) l pd T' H K) fun v => putW n T d v fun T' => seqW E C n base ops un (i + 1) l (pendIf (hasN i un) (op, T, v) pd) T' H K)
          (oneW E C op T H fun v H' => pendW E H' pd ∧ putW n T d v fun T' => seqW E C n base ops un (i + 1) l pd T' H' K)))
      (putW n T d undef fun T' => seqW E C n base ops un (i + 1) l pd T' H K) := by rw [seqW]

/-! ### what is so of it -/
theorem addFl_congr {base : Nat} {g g' : Nat → Bool} {A : ASt} : ∀ {fl : List Fl}, (∀ x ∈ fl, g x.f = g' x.f) → addFl base g fl A = addFl base g' fl A
  | [], _ => rfl
  | x :: l, h => by
    unfold addFl
    rw [h x (by simp), addFl_congr fun y hy => h y (by simp [hy])]
theorem addFl_none {base : Nat} {g : Nat → Bool} {A : ASt} : ∀ {fl : List Fl}, (∀ x ∈ fl, g x.f = false) → addFl base g fl A = A
  | [], _ => rfl
  | x :: l, h => by
    unfold addFl
    rw [h x (by simp), cond_false, addFl_none fun y hy => h y (by simp [hy])]
theorem behind_spec {i b : Nat} : ∀ {l : List Nat} {k : Nat}, (∃ j m, l[j]? = some m ∧ k + j = b ∧ m.testBit i = true) → (behind i k l).testBit b = true
  | [], k, h => by obtain ⟨j, m, h1, _⟩ := h; simp at h1
  | x :: l, k, h => by
    obtain ⟨j, m, h1, h2, h3⟩ := h
    unfold behind
    cases j with
    | zero =>
      simp at h1; subst h1
      rw [h3, cond_true, Nat.testBit_or]
      have : k = b := by omega
      subst this
      simp
    | succ j =>
      have ih := behind_spec (i := i) (b := b) (l := l) (k := k + 1) ⟨j, m, by simpa using h1, by omega, h3⟩
      cases x.testBit i with
      | true => rw [cond_true, Nat.testBit_or, ih, Bool.or_true]
      | false => rw [cond_false]; exact ih

section
variable {E : Env} {C : Tgt → List Value → ASt → (Value → ASt → Prop) → Prop} {call : Tgt → List Value → ASt → Nd (Value × ASt)} {n base : Nat} {ops : Array Oper} {an un : List Nat}

def Ahead (an : List Nat) (b : Nat) : Prop := ∀ j m, b < j → nth an j = some m → m.testBit b = true
def RI (E : Env) (base : Nat) (an : List Nat) (s : PSt) (r : Rd) : Prop := ∃ m, nth an r.i = some m ∧ ∀ e ∈ s.hist,
  (∃ b, m.testBit b = true ∧ s.louds.testBit b = true ∧ e.1.testBit b = false) ∨ (∃ b m', e.1.testBit b = true ∧ nth an b = some m' ∧ m'.testBit r.i = true) ∨ ((∃ A', aOp E r.o r.T (viewAt base an e.1 m s.fl e.2) = .val r.v A') ∧ valEq r.v r.v = true)

def Safe (E : Env) (all : List Oper) (an : List Nat) (x : Nat) : Prop := ∀ j o m, all[j]? = some o → nth an j = some m → loudB E o = true → x < j → m.testBit x = true

structure SSt (E : Env) (base : Nat) (all : List Oper) (an : List Nat) (pd : List Pend) (i : Nat) (s : PSt) (H : ASt) : Prop where
  hH : addFl base (fun f => !takenAt s.louds f 0 an) s.fl s.H = H
  fls : ∀ x ∈ s.fl, x.f < i ∧ Ahead an x.f
  lou : ∀ b, s.louds.testBit b = true → b < i ∧ Ahead an b
  mask : ∀ e ∈ s.hist, ∀ b, e.1.testBit b = true → b < i
  hist : ∀ e ∈ s.hist, e = (s.louds, s.H) ∨ ∃ b, s.louds.testBit b = true ∧ e.1.testBit b = false
  vq : ∀ r ∈ s.reads, valEq r.v r.v = true
  reads : ∀ r ∈ s.reads, r.i < i ∧ RI E base an s r ∧ (Safe E all an r.i ∨ (r.o, r.T, r.v) ∈ pd)

theorem RI.ok {s : PSt} {r : Rd} (h : RI E base an s r) : ∃ m, nth an r.i = some m ∧ readAt E base an s.fl m (behind r.i 0 an) s.louds r s.hist = true := by
  obtain ⟨m, hm, h⟩ := h
  refine ⟨m, hm, ?_⟩
  have : ∀ l, (∀ e ∈ l, e ∈ s.hist) → readAt E base an s.fl m (behind r.i 0 an) s.louds r l = true := by
    intro l
    induction l with
    | nil => intro _; rfl
    | cons e l ih =>
      intro hl
      obtain ⟨mask, Hm⟩ := e
      unfold readAt
      rw [Bool.and_eq_true]
      refine ⟨?_, ih fun e he => hl e (by simp [he])⟩
      rcases h (mask, Hm) (hl _ (by simp)) with ⟨b, h1, h2, h3⟩ | ⟨b, m', h1, h2, h3⟩ | ⟨⟨A', h1⟩, h2⟩
      · have : Nat.beq (m &&& s.louds &&& mask) (m &&& s.louds) = false := by
          rw [Bool.eq_false_iff]
          intro hb
          have hb := Nat.eq_of_beq_eq_true hb
          have := congrArg (fun x => x.testBit b) hb
          simp only [Nat.testBit_and, h1, h2, h3, Bool.and_true, Bool.and_false] at this
          cases this
        rw [this, Bool.false_and, cond_false]
      · have : Nat.beq (mask &&& behind r.i 0 an) 0 = false := by
          rw [Bool.eq_false_iff]
          intro hb
          have hb := Nat.eq_of_beq_eq_true hb
          have hbe := behind_spec (i := r.i) (b := b) (l := an) (k := 0) ⟨b, m', by rw [← nth_eq]; exact h2, by omega, h3⟩
          have := congrArg (fun x => x.testBit b) hb
          simp only [Nat.testBit_and, hbe, Bool.and_true, Nat.zero_testBit] at this
          have h1' : mask.testBit b = true := h1
          rw [h1'] at this
          cases this
        rw [this, Bool.and_false, cond_false]
      · have h1' : aOp E r.o r.T (viewAt base an mask m s.fl Hm) = .val r.v A' := h1
        rw [h1']
        simp only [h2]
        cases (Nat.beq (m &&& s.louds &&& mask) (m &&& s.louds) && Nat.beq (mask &&& behind r.i 0 an) 0) <;> rfl
  exact this _ fun e he => he

theorem SSt.readsOK {all : List Oper} {pd : List Pend} {i : Nat} {s : PSt} {H : ASt} (h : SSt E base all an pd i s H) : Go.AE.readsOK E base an s s.reads = true := by
  have : ∀ l, (∀ r ∈ l, r ∈ s.reads) → Go.AE.readsOK E base an s l = true := by
    intro l
    induction l with
    | nil => intro _; rfl
    | cons r l ih =>
      intro hl
      unfold Go.AE.readsOK
      rw [Bool.and_eq_true]
      refine ⟨?_, ih fun x hx => hl x (by simp [hx])⟩
      obtain ⟨m, hm, hr⟩ := (h.reads r (hl r (by simp))).2.1.ok
      rw [hm]
      exact hr
  exact this _ fun r hr => hr

theorem SSt.view {all : List Oper} {pd : List Pend} {i m : Nat} {s : PSt} {H : ASt} (h : SSt E base all an pd i s H) (hm : nth an i = some m) : viewAt base an s.louds m s.fl s.H = H := by
  rw [← h.hH]
  unfold viewAt
  refine addFl_congr fun x hx => ?_
  obtain ⟨h1, h2⟩ := h.fls x hx
  rw [h2 i m h1 hm, Bool.and_true]

theorem safeB_spec {i : Nat} : ∀ {l : List Oper} {a : List Nat} {j : Nat}, safeB E i j l a = true → ∀ k o m, l[k]? = some o → a[k]? = some m → loudB E o = true → i < j + k → m.testBit i = true
  | [], a, j, _, k, o, m, ho, _, _, _ => by simp at ho
  | _ :: _, [], j, _, k, o, m, _, ha, _, _ => by simp at ha
  | x :: l, y :: a, j, h, k, o, m, ho, ha, hb, hi => by
    unfold safeB at h
    rw [Bool.and_eq_true] at h
    cases k with
    | zero =>
      simp at ho ha; subst ho ha
      have h1 := h.1
      rw [hb, show Nat.blt i j = true from Nat.ble_eq_true_of_le (by omega)] at h1
      simpa using h1
    | succ k => exact safeB_spec h.2 k o m (by simpa using ho) (by simpa using ha) hb (by omega)

theorem seqOK_spec {all : List Oper} : ∀ {l : List Oper} {i : Nat}, seqOK E all an un i l = true → ∀ k o, l[k]? = some o → (∃ m, nth an (i + k) = some m ∧ m < 2 ^ (i + k)) ∧ ((quietOp E o.op = true ∧ freshOp E o.op = false) ∨ Ahead an (i + k)) ∧ (hasN (i + k) un = false → quietOp E o.op = true → safeB E (i + k) 0 all an = true)
  | [], i, _, k, o, ho => by simp at ho
  | x :: l, i, h, k, o, ho => by
    unfold seqOK at h
    simp only [Bool.and_eq_true] at h
    obtain ⟨h1, h2, h3, h4⟩ := h
    cases k with
    | zero =>
      simp at ho; subst ho
      refine ⟨?_, ?_, ?_⟩
      · split at h1
        · rename_i m hm; exact ⟨m, hm, Nat.le_of_ble_eq_true h1⟩
        · cases h1
      · rw [Bool.or_eq_true, Bool.and_eq_true] at h2
        rcases h2 with ⟨a, b⟩ | h2
        · exact .inl ⟨a, by simpa using b⟩
        · refine .inr fun j m hj hm => allBehind_spec h2 (j - (i + 1)) m ?_
          rw [List.getElem?_drop, ← nth_eq, show i + 1 + (j - (i + 1)) = j by omega]; exact hm
      · intro hu hq
        rw [Nat.add_zero] at hu ⊢
        rw [hu, hq] at h3
        simpa using h3
    | succ k =>
      have := seqOK_spec h4 k o (by simpa using ho)
      rwa [show i + 1 + k = i + (k + 1) by omega] at this

noncomputable def conCall (R : Tgt → List Value → ASt → (Value → ASt → Prop) → Prop) : Tgt → List Value → ASt → Nd (Value × ASt) := fun t args A =>
  open Classical in if h : ∃ S, R t args A S then .pick (fun r => Classical.choose h r.1 r.2) .ret else .fail "no contract"
def conC (R : Tgt → List Value → ASt → (Value → ASt → Prop) → Prop) : Tgt → List Value → ASt → (Value → ASt → Prop) → Prop := fun t args A K => (∃ S, R t args A S) ∧ ∀ S, R t args A S → ∀ v A', S v A' → K v A'

theorem conCall_sound {Z : Road} {P : Program} {R : Tgt → List Value → ASt → (Value → ASt → Prop) → Prop} (h : ∀ t args A S, R t args A S → CallT Z P t args A S) : CallSound Z P (conCall R) := by
  intro t args A Q hQ ρ w a' hr ha
  unfold conCall at hQ
  split at hQ
  · rename_i he
    have := h _ _ _ _ (Classical.choose_spec he) ρ w a' hr ha
    cases t with
    | fn f => exact Calls.mono this fun e w' ⟨v, A1, v', ρ', hk, rest⟩ => ⟨v, A1, v', ρ', hQ (v, A1) hk, rest⟩
    | round l =>
      intro L hL
      obtain ⟨f, tmps, as, b, h1, h2⟩ := this L hL
      exact ⟨f, tmps, as, b, h1, h2.mono fun e w' ⟨v, A1, v', ρ', hk, rest⟩ => ⟨v, A1, v', ρ', hQ (v, A1) hk, rest⟩⟩
  · exact hQ.elim

theorem oneW_con {R : Tgt → List Value → ASt → (Value → ASt → Prop) → Prop} {o : Oper} {T : Tmps} {A : ASt} {K : Value → ASt → Prop} (h : oneW E (conC R) o.op T A K) : (oneOp E (conCall R) o T A).all fun r => K r.1 r.2 := by
  unfold oneW at h
  unfold oneOp
  split at h
  · rename_i it isString hop
    obtain ⟨v, hv, hall⟩ := h
    rw [hop]
    simp only [hv]
    exact hall
  · rename_i hn
    split
    · rename_i hop; exact absurd hop (hn _ _)
    · cases hr : aOp E o.op T A with
      | val v A' => rw [hr] at h; exact h
      | enter t args A' =>
        rw [hr] at h
        obtain ⟨he, hall⟩ := h
        simp only [conCall, dif_pos he]
        exact fun r hr => hall _ (Classical.choose_spec he) _ _ hr
      | bad why => rw [hr] at h; exact h.elim

theorem pendW_mem {E : Env} {H : ASt} : ∀ {l : List Pend}, pendW E H l → ∀ p ∈ l, ∃ A', aOp E p.1 p.2.1 H = .val p.2.2 A'
  | [], _, p, hp => by cases hp
  | q :: l, h, p, hp => by
    rcases List.mem_cons.1 hp with rfl | hp
    · exact h.1
    · exact pendW_mem h.2 p hp

theorem allBehind_of {i : Nat} : ∀ {l : List Nat}, (∀ (k m : Nat), l[k]? = some m → m.testBit i = true) → allBehind i l = true
  | [], _ => rfl
  | x :: l, h => by
    unfold allBehind
    rw [h 0 x rfl, Bool.true_and]
    exact allBehind_of fun k m hk => h (k + 1) m (by simpa using hk)

theorem planN_seq {R : Tgt → List Value → ASt → (Value → ASt → Prop) → Prop} {all : List Oper} (hall : ops.toList = all) (hlen : an.length = all.length) (hok : seqOK E all an un 0 all = true) {K : Tmps → ASt → Prop} : ∀ (l : List Oper) (pd : List Pend) (i : Nat) (s : PSt) (H : ASt), all.drop i = l → SSt E base all an pd i s H → seqW E (conC R) n base ops un i l pd s.T H K →
    (planN E (conCall R) n base ops an i l s).all fun s' => Go.AE.readsOK E base an s' s'.reads = true ∧ K s'.T (addFl base (fun f => !takenAt s'.louds f 0 an) s'.fl s'.H)
  | [], pd, i, s, H, hl, hs, h => by
    unfold planN
    refine ⟨hs.readsOK, ?_⟩
    rw [hs.hH]
    exact h
  | o :: l, pd, i, s, H, hl, hs, h => by
    have ho : all[i]? = some o := by
      have : (all.drop i)[0]? = some o := by rw [hl]; rfl
      simpa using this
    have hl' : all.drop (i + 1) = l := by
      have : (all.drop i).drop 1 = l := by rw [hl]; rfl
      rwa [List.drop_drop] at this
    obtain ⟨⟨m, hm, hmlt⟩, hah, hsf⟩ := seqOK_spec hok i o ho
    rw [Nat.zero_add] at hm hmlt hah hsf
    have low : ∀ j m, nth an j = some m → ∀ b, m.testBit b = true → b < j := by
      intro j m hm b hb
      have hj : j < all.length := by
        rw [nth_eq] at hm
        have := (List.getElem?_eq_some_iff.1 hm).1
        omega
      obtain ⟨⟨m', hm', hlt⟩, _⟩ := seqOK_spec hok j all[j] (by simp [hj])
      rw [Nat.zero_add] at hm' hlt
      rw [hm] at hm'; cases hm'
      rcases Nat.lt_or_ge b j with h | h
      · exact h
      · rw [Nat.testBit_lt_two_pow (Nat.lt_of_lt_of_le hlt (Nat.pow_le_pow_right (by omega) h))] at hb
        cases hb
    have hv := hs.view hm
    have still : ∀ {T' : Tmps}, SSt E base all an pd (i + 1) { s with T := T' } H := fun {T'} =>
      ⟨hs.hH, fun x hx => ⟨Nat.lt_succ_of_lt (hs.fls x hx).1, (hs.fls x hx).2⟩, fun b hb => ⟨Nat.lt_succ_of_lt (hs.lou b hb).1, (hs.lou b hb).2⟩, fun e he b hb => Nat.lt_succ_of_lt (hs.mask e he b hb), hs.hist, hs.vq, fun r hr => ⟨Nat.lt_succ_of_lt (hs.reads r hr).1, (hs.reads r hr).2⟩⟩
    unfold seqW at h
    have rd : ∀ {v : Value} {A1 : ASt} {T' : Tmps}, quietOp E o.op = true → aOp E o.op s.T H = .val v A1 → valEq v v = true → SSt E base all an (pendIf (hasN i un) (o.op, s.T, v) pd) (i + 1) { s with T := T', reads := ⟨i, o.op, s.T, v⟩ :: s.reads } H := by
      intro v A1 T' hq h1 hval
      have hsub : ∀ p ∈ pd, p ∈ pendIf (hasN i un) (o.op, s.T, v) pd := fun p hp => by
        cases hu : hasN i un with
        | true => exact List.mem_cons_of_mem _ hp
        | false => exact hp
      refine ⟨hs.hH, fun x hx => ⟨Nat.lt_succ_of_lt (hs.fls x hx).1, (hs.fls x hx).2⟩, fun b hb => ⟨Nat.lt_succ_of_lt (hs.lou b hb).1, (hs.lou b hb).2⟩, fun e he b hb => Nat.lt_succ_of_lt (hs.mask e he b hb), hs.hist, fun r hr => ?_, fun r hr => ?_⟩
      · rcases List.mem_cons.1 hr with rfl | hr
        · exact hval
        · exact hs.vq r hr
      rcases List.mem_cons.1 hr with rfl | hr
      · refine ⟨Nat.lt_succ_self _, ⟨m, hm, fun e he => ?_⟩, ?_⟩
        · rcases hs.hist e he with rfl | ⟨b, h2, h3⟩
          · refine .inr (.inr ⟨⟨A1, ?_⟩, hval⟩)
            show aOp E o.op s.T (viewAt base an s.louds m s.fl s.H) = _
            rw [hv]; exact h1
          · exact .inl ⟨b, (hs.lou b h2).2 i m (hs.lou b h2).1 hm, h2, h3⟩
        · cases hun : hasN i un with
          | true => exact .inr (List.mem_cons_self ..)
          | false => exact .inl fun j o' m' hj hm' hlb hij => safeB_spec (hsf hun hq) j o' m' hj (by rw [← nth_eq]; exact hm') hlb (by simpa using hij)
      · exact ⟨Nat.lt_succ_of_lt (hs.reads r hr).1, (hs.reads r hr).2.1, (hs.reads r hr).2.2.imp id (hsub _)⟩
    -- one state behind
    have one : ∀ s', planStep E (conCall R) n base ops an i o s = some s' → ∀ pd' H', SSt E base all an pd' (i + 1) s' H' → seqW E (conC R) n base ops un (i + 1) l pd' s'.T H' K → (planN E (conCall R) n base ops an i (o :: l) s).all fun s' => Go.AE.readsOK E base an s' s'.reads = true ∧ K s'.T (addFl base (fun f => !takenAt s'.louds f 0 an) s'.fl s'.H) := by
      intro s' hs' pd' H' h1 h2
      unfold planN
      rw [hs']
      exact planN_seq hall hlen hok l pd' (i + 1) s' H' hl' h1 h2
    cases hw : wantedA ops s.T o with
    | false =>
      obtain ⟨T', hT, hk⟩ := putW_putN (h.2 hw)
      refine one { s with T := T' } ?_ pd H still hk
      unfold planStep
      rw [hm]
      simp only [hw, cond_false, hT]
    | true =>
      have h := h.1 hw
      cases hf : freshOp E o.op with
      | true =>
        have h := h.1 hf
        unfold freshW at h
        split at h
        case h_2 => exact h.elim
        rename_i ob f hfr
        obtain ⟨T', hT, hk⟩ := putW_putN h
        have hA : Ahead an i := by
          rcases hah with ⟨_, h2⟩ | h2
          · rw [hf] at h2; cases h2
          · exact h2
        have hnt : takenAt s.louds i 0 an = false := by
          rw [Bool.eq_false_iff]
          intro hc
          obtain ⟨j, m', h1, h2, h3⟩ := takenAt_spec.1 hc
          rw [Nat.zero_add] at h2
          have a1 := (hs.lou j h2).1
          have a2 := low j m' (by rw [nth_eq]; exact h1) i h3
          omega
        refine one { s with T := T', fl := ⟨i, ob⟩ :: s.fl } ?_ pd (H.set (base + i) ob) ?_ hk
        · unfold planStep
          rw [hm]
          simp only [hw, cond_true, hf, hfr, hT]
        · refine ⟨?_, fun x hx => ?_, fun b hb => ⟨Nat.lt_succ_of_lt (hs.lou b hb).1, (hs.lou b hb).2⟩, fun e he b hb => Nat.lt_succ_of_lt (hs.mask e he b hb), hs.hist, hs.vq, fun r hr => ⟨Nat.lt_succ_of_lt (hs.reads r hr).1, ?_, (hs.reads r hr).2.2⟩⟩
          · show addFl base _ (⟨i, ob⟩ :: s.fl) s.H = _
            unfold addFl
            simp only [hnt, Bool.not_false, cond_true]
            rw [hs.hH]
          · rcases List.mem_cons.1 hx with rfl | hx
            · exact ⟨Nat.lt_succ_self _, hA⟩
            · exact ⟨Nat.lt_succ_of_lt (hs.fls x hx).1, (hs.fls x hx).2⟩
          · obtain ⟨hlt, ⟨m', hm', he⟩, _⟩ := hs.reads r hr
            refine ⟨m', hm', fun e hee => ?_⟩
            rcases he e hee with h1 | h1 | ⟨⟨A', h1⟩, h2⟩
            · exact .inl h1
            · exact .inr (.inl h1)
            · refine .inr (.inr ⟨⟨A', ?_⟩, h2⟩)
              rw [← h1]
              show aOp E r.o r.T (addFl base _ (⟨i, ob⟩ :: s.fl) e.2) = _
              conv => lhs; unfold addFl
              have : m'.testBit i = false := by
                rw [Bool.eq_false_iff]
                intro hc
                have := low r.i m' hm' i hc
                omega
              simp only [this, Bool.and_false, cond_false]
              rfl
      | false =>
        have h := h.2 hf
        cases hq : quietOp E o.op with
        | true =>
          have h := h.1 hq
          cases h0 : aOp E o.op s.T { heap := .e, next := 0 } with
          | val v A0 =>
            rw [h0] at h
            obtain ⟨T', hT, hk⟩ := putW_putN (K := fun T' => seqW E (conC R) n base ops un (i + 1) l pd T' H K) h
            refine one { s with T := T' } ?_ pd H still hk
            unfold planStep
            rw [hm]
            simp only [hw, cond_true, hf, cond_false, hq, h0, hT]
          | enter t a A0 =>
            rw [h0] at h
            simp only [stillW] at h
            cases h1 : aOp E o.op s.T H with
            | val v A1 =>
              rw [h1] at h
              obtain ⟨hval, hp⟩ := h
              obtain ⟨T', hT, hk⟩ := putW_putN hp
              refine one { s with T := T', reads := ⟨i, o.op, s.T, v⟩ :: s.reads } ?_ _ H ?_ hk
              · unfold planStep
                rw [hm]
                simp only [hw, cond_true, hf, cond_false, hq, h0, hv, h1, hT]
              · exact rd hq h1 hval
            | enter _ _ _ => rw [h1] at h; exact h.elim
            | bad _ => rw [h1] at h; exact h.elim
          | bad why =>
            rw [h0] at h
            simp only [stillW] at h
            cases h1 : aOp E o.op s.T H with
            | val v A1 =>
              rw [h1] at h
              obtain ⟨hval, hp⟩ := h
              obtain ⟨T', hT, hk⟩ := putW_putN hp
              refine one { s with T := T', reads := ⟨i, o.op, s.T, v⟩ :: s.reads } ?_ _ H ?_ hk
              · unfold planStep
                rw [hm]
                simp only [hw, cond_true, hf, cond_false, hq, h0, hv, h1, hT]
              · exact rd hq h1 hval
            | enter _ _ _ => rw [h1] at h; exact h.elim
            | bad _ => rw [h1] at h; exact h.elim
        | false =>
          have h := oneW_con (h.2 hq)
          have hA : Ahead an i := by
            rcases hah with ⟨h2, _⟩ | h2
            · rw [hq] at h2; cases h2
            · exact h2
          have hlm : ∀ b, s.louds.testBit b = true → m.testBit b = true := fun b hb => (hs.lou b hb).2 i m (hs.lou b hb).1 hm
          have hbeq : Nat.beq (m &&& s.louds) s.louds = true := by
            have : m &&& s.louds = s.louds := by
              apply Nat.eq_of_testBit_eq
              intro b
              rw [Nat.testBit_and]
              cases hb : s.louds.testBit b with
              | true => rw [hlm b hb]; rfl
              | false => simp
            rw [this]; exact Nat.beq_refl _
          have hloud : loudB E o = true := by unfold loudB; rw [hf, hq]; rfl
          have hvq : ∀ r ∈ s.reads, valEq r.v r.v = true := hs.vq
          have nxt : ∀ (T' : Tmps) (H' : ASt), pendW E H' pd → SSt E base all an pd (i + 1) { T := T', H := H', fl := s.fl, louds := s.louds ||| 2 ^ i, hist := (s.louds ||| 2 ^ i, H') :: s.hist, reads := s.reads } H' := by
            intro T' H' hpw
            have hpd := pendW_mem hpw
            have htk : ∀ x ∈ s.fl, takenAt (s.louds ||| 2 ^ i) x.f 0 an = true := fun x hx => takenAt_spec.2 ⟨i, m, by rw [← nth_eq]; exact hm, by rw [Nat.zero_add, Nat.testBit_or, Nat.testBit_two_pow_self, Bool.or_true], (hs.fls x hx).2 i m (hs.fls x hx).1 hm⟩
            have hbit : ∀ b, (s.louds ||| 2 ^ i).testBit b = true → s.louds.testBit b = true ∨ b = i := by
              intro b hb
              rw [Nat.testBit_or, Bool.or_eq_true] at hb
              rcases hb with hb | hb
              · exact .inl hb
              · rw [Nat.testBit_two_pow] at hb
                exact .inr (by simpa using hb : i = b).symm
            have hbiti : (s.louds ||| 2 ^ i).testBit i = true := by rw [Nat.testBit_or, Nat.testBit_two_pow_self, Bool.or_true]
            refine ⟨addFl_none fun x hx => ?_, fun x hx => ⟨Nat.lt_succ_of_lt (hs.fls x hx).1, (hs.fls x hx).2⟩, fun b hb => ?_, fun e he b hb => ?_, fun e he => ?_, hs.vq, fun r hr => ⟨Nat.lt_succ_of_lt (hs.reads r hr).1, ?_, (hs.reads r hr).2.2⟩⟩
            · have : takenAt (s.louds ||| 2 ^ i) x.f 0 an = true := takenAt_spec.2 ⟨i, m, by rw [← nth_eq]; exact hm, by rw [Nat.zero_add]; exact hbiti, (hs.fls x hx).2 i m (hs.fls x hx).1 hm⟩
              show (!takenAt (s.louds ||| 2 ^ i) x.f 0 an) = false
              rw [this]; rfl
            · rcases hbit b hb with hb | rfl
              · exact ⟨Nat.lt_succ_of_lt (hs.lou b hb).1, (hs.lou b hb).2⟩
              · exact ⟨Nat.lt_succ_self _, hA⟩
            · rcases List.mem_cons.1 he with rfl | he
              · rcases hbit b hb with hb | rfl
                · exact Nat.lt_succ_of_lt (hs.lou b hb).1
                · exact Nat.lt_succ_self _
              · exact Nat.lt_succ_of_lt (hs.mask e he b hb)
            · rcases List.mem_cons.1 he with rfl | he
              · exact .inl rfl
              · refine .inr ⟨i, hbiti, ?_⟩
                rw [Bool.eq_false_iff]
                intro hc
                have := hs.mask e he i hc
                omega
            · obtain ⟨hlt, ⟨m', hm', hre⟩, hsafe⟩ := hs.reads r hr
              refine ⟨m', hm', fun e he => ?_⟩
              rcases List.mem_cons.1 he with rfl | he
              · rcases hsafe with hsafe | hpend
                · exact .inr (.inl ⟨i, m, hbiti, hm, hsafe i o m ho hm hloud hlt⟩)
                · obtain ⟨A', hA'⟩ := hpd _ hpend
                  refine .inr (.inr ⟨⟨A', ?_⟩, ?_⟩)
                  · rw [← hA']
                    show aOp E r.o r.T (addFl base _ s.fl H') = _
                    rw [addFl_none fun x hx => by rw [htk x hx]; rfl]
                  · exact hvq r hr
              · rcases hre e he with ⟨b, h1, h2, h3⟩ | h1 | h1
                · refine .inl ⟨b, h1, ?_, h3⟩
                  show (s.louds ||| 2 ^ i).testBit b = true
                  rw [Nat.testBit_or, h2, Bool.true_or]
                · exact .inr (.inl h1)
                · exact .inr (.inr h1)
          cases hr : oneOp E (conCall R) o s.T H with
          | ret r =>
            rw [hr] at h
            obtain ⟨T', hT, hk⟩ := putW_putN (K := fun T' => seqW E (conC R) n base ops un (i + 1) l pd T' r.2 K) h.2
            refine one { T := T', H := r.2, fl := s.fl, louds := s.louds ||| 2 ^ i, hist := (s.louds ||| 2 ^ i, r.2) :: s.hist, reads := s.reads } ?_ pd r.2 (nxt _ _ h.1) hk
            unfold planStep
            rw [hm]
            simp only [hw, cond_true, hf, cond_false, hq, hbeq, hv, hr, hT]
          | _ =>
            have hnone : planStep E (conCall R) n base ops an i o s = none := by
              unfold planStep
              rw [hm]
              simp only [hw, cond_true, hf, cond_false, hq, hbeq, hv, hr]
            have hb : allBehind i (an.drop (i + 1)) = true := allBehind_of fun k m' hk => by
              rw [List.getElem?_drop, ← nth_eq] at hk
              exact hA _ m' (by omega) hk
            unfold planN
            rw [hnone, hm]
            simp only [hw, hf, hq, hbeq, hb, hs.readsOK, Bool.not_false, Bool.and_self, cond_true, hv]
            refine Nd.all_bind' _ (Nd.all_mono (fun r hr2 => ?_) h)
            obtain ⟨T', hT, hk⟩ := putW_putN (K := fun T' => seqW E (conC R) n base ops un (i + 1) l pd T' r.2 K) hr2.2
            simp only [hT]
            exact planN_seq hall hlen hok l pd (i + 1) _ r.2 hl' (nxt _ _ hr2.1) hk
end

def strip (o : Oper) : Oper := { o with after := #[] }
theorem nth_map {α β : Type} {f : α → β} : ∀ {l : List α} {i : Nat}, nth (l.map f) i = (nth l i).map f
  | [], i => by simp [nth_eq]
  | x :: l, 0 => rfl
  | x :: l, i + 1 => nth_map (l := l) (i := i)
theorem wantedA_strip {l : List Oper} {T : Tmps} {o : Oper} : wantedA (l.map strip).toArray T (strip o) = wantedA l.toArray T o := by
  unfold wantedA
  show (match o.guard with
    | none => true
    | some (j, want) => match nth (l.map strip).toArray.toList j with
      | some g => match g.dst with
        | some d => match tget T d with
          | .bool b => b == want
          | _ => false
        | none => false
      | none => false) = _
  cases o.guard with
  | none => rfl
  | some g =>
    obtain ⟨j, w⟩ := g
    simp only [List.toList_toArray, nth_map]
    cases nth l j with
    | none => rfl
    | some q => rfl
theorem seqW_strip {E : Env} {C : Tgt → List Value → ASt → (Value → ASt → Prop) → Prop} {n base : Nat} {all : List Oper} {un : List Nat} {K : Tmps → ASt → Prop} : ∀ {l : List Oper} {i : Nat} {pd : List Pend} {T : Tmps} {H : ASt}, seqW E C n base (all.map strip).toArray un i (l.map strip) pd T H K = seqW E C n base all.toArray un i l pd T H K
  | [], _, _, _, _ => rfl
  | o :: l, i, pd, T, H => by
    have ih : ∀ pd H, (fun T' => seqW E C n base (all.map strip).toArray un (i + 1) (l.map strip) pd T' H K) = fun T' => seqW E C n base all.toArray un (i + 1) l pd T' H K := fun pd H => funext fun T' => seqW_strip (l := l)
    have hb : ∀ {b b' : Bool} {x x' y y' : Prop}, b = b' → x = x' → y = y' → brW b x y = brW b' x' y' := fun h1 h2 h3 => by rw [h1, h2, h3]
    rw [List.map_cons]
    unfold seqW
    refine hb wantedA_strip (hb rfl ?_ (hb rfl ?_ ?_)) ?_
    · refine congrArg (freshW (aFresh E o.op T)) (funext fun ob => funext fun f => ?_)
      show putW n T o.dst (f (base + i)) (fun T' => seqW E C n base (all.map strip).toArray un (i + 1) (l.map strip) pd T' (H.set (base + i) ob) K) = _
      rw [ih]
    · show stillW (aOp E o.op T { heap := .e, next := 0 }) (aOp E o.op T H) (fun v => putW n T o.dst v (fun T' => seqW E C n base (all.map strip).toArray un (i + 1) (l.map strip) pd T' H K)) (fun v => putW n T o.dst v (fun T' => seqW E C n base (all.map strip).toArray un (i + 1) (l.map strip) (pendIf (hasN i un) (o.op, T, v) pd) T' H K)) = _
      have h1 : (fun v => putW n T o.dst v (fun T' => seqW E C n base (all.map strip).toArray un (i + 1) (l.map strip) pd T' H K)) = fun v => putW n T o.dst v (fun T' => seqW E C n base all.toArray un (i + 1) l pd T' H K) := funext fun v => by rw [ih]
      have h2 : (fun v => putW n T o.dst v (fun T' => seqW E C n base (all.map strip).toArray un (i + 1) (l.map strip) (pendIf (hasN i un) (o.op, T, v) pd) T' H K)) = fun v => putW n T o.dst v (fun T' => seqW E C n base all.toArray un (i + 1) l (pendIf (hasN i un) (o.op, T, v) pd) T' H K) := funext fun v => by rw [ih]
      rw [h1, h2]
    · show oneW E C o.op T H (fun v H' => pendW E H' pd ∧ putW n T o.dst v (fun T' => seqW E C n base (all.map strip).toArray un (i + 1) (l.map strip) pd T' H' K)) = _
      have h1 : (fun v H' => pendW E H' pd ∧ putW n T o.dst v (fun T' => seqW E C n base (all.map strip).toArray un (i + 1) (l.map strip) pd T' H' K)) = fun v H' => pendW E H' pd ∧ putW n T o.dst v (fun T' => seqW E C n base all.toArray un (i + 1) l pd T' H' K) := funext fun v => funext fun H' => by rw [ih]
      rw [h1]
    · show putW n T o.dst undef (fun T' => seqW E C n base (all.map strip).toArray un (i + 1) (l.map strip) pd T' H K) = _
      rw [ih]

theorem CodeW.seqd {Z : Road} {E : Env} {P : Program} (hE : EnvOK E P) (hZr : RoadRo Z E) (hm : P.follows .mixedOrders = true) {R : Tgt → List Value → ASt → (Value → ASt → Prop) → Prop} (hR : ∀ t args A S, R t args A S → CallT Z P t args A S)
    {n id : Nat} {ro : Option Nat} {T : Tmps} {A : ASt} {Q : Out → Prop} {ps : Array Oper} (π un : List Nat) {l : List Oper} (hl : (reorder π ps.toList).map strip = l) (hp : permOK π ps.toList.length = true) (hreg : regOK (reorder π ps.toList).toArray (ancs (reorder π ps.toList) []) (reorder π ps.toList) 0 (reorder π ps.toList) = true)
    (hn : Nat.beq (ancs (reorder π ps.toList) []).length (reorder π ps.toList).length = true) (hs : seqOK E (reorder π ps.toList) (ancs (reorder π ps.toList) []) un 0 (reorder π ps.toList) = true)
    (h : seqW E (conC R) n A.next l.toArray un 0 l [] T { heap := A.heap, next := A.next + l.length } fun T' A' => Q (.fr ⟨.normal, T', A'⟩)) : CodeW Z P n ro (.region id ps true) T A Q := by
  refine CodeW.drawnR hE hZr hm (conCall_sound hR) π hp ?_
  subst hl
  rw [seqW_strip, List.length_map] at h
  generalize reorder π ps.toList = l at hreg hn hs h ⊢
  unfold drawRun
  rw [show (l.toArray).toList = l by simp, hreg, cond_true]
  simp only [fN_eq]
  refine Nd.all_bind' _ ?_
  have hs0 : SSt E A.next l (ancs l []) [] 0 { T, H := { heap := A.heap, next := A.next + l.length }, fl := [], louds := 0, hist := [(0, { heap := A.heap, next := A.next + l.length })], reads := [] } { heap := A.heap, next := A.next + l.length } :=
    ⟨rfl, (by simp), (fun b hb => by simp at hb), (fun e he b hb => by simp at he; subst he; simp at hb), (fun e he => by simp at he; exact .inl he), (by simp), (by simp)⟩
  refine Nd.all_mono (fun s hq => ?_) (planN_seq (R := R) (ops := l.toArray) (by simp) (Nat.eq_of_beq_eq_true hn) hs l [] 0 _ _ rfl hs0 h)
  obtain ⟨h1, h2⟩ := hq
  rw [h1, cond_true]
  exact h2

/-! ### kinds of operations, not by computing -/
noncomputable def quietC (c : Callee) : Bool := match c with
  | .builtin .len | .builtin .cap | .builtin .min | .builtin .max => true
  | _ => false
theorem fresh_move {x : Operand} {E : Env} : freshOp E (.move x) = false := by simp only [freshOp]
theorem quiet_move {x : Operand} {E : Env} : quietOp E (.move x) = true := by simp only [quietOp]
theorem fresh_assign {x : Operand} {E : Env} : freshOp E (.assign x) = false := by simp only [freshOp]
theorem quiet_assign {x : Operand} {E : Env} : quietOp E (.assign x) = true := by simp only [quietOp]
theorem fresh_pick {c a b : Operand} {E : Env} : freshOp E (.pick c a b) = false := by simp only [freshOp]
theorem quiet_pick {c a b : Operand} {E : Env} : quietOp E (.pick c a b) = true := by simp only [quietOp]
theorem fresh_build {t : TypeId} {ps : Array (Nat × Operand)} {E : Env} : freshOp E (.build t ps) = false := by simp only [freshOp]
theorem quiet_build {t : TypeId} {ps : Array (Nat × Operand)} {E : Env} : quietOp E (.build t ps) = true := by simp only [quietOp]
theorem fresh_load {t : TypeId} {a : Operand} {E : Env} : freshOp E (.load t a) = false := by simp only [freshOp]
theorem quiet_load {t : TypeId} {a : Operand} {E : Env} : quietOp E (.load t a) = true := by simp only [quietOp]
theorem fresh_store {t : TypeId} {a x : Operand} {E : Env} : freshOp E (.store t a x) = false := by simp only [freshOp]
theorem quiet_store {t : TypeId} {a x : Operand} {E : Env} : quietOp E (.store t a x) = false := by simp only [quietOp]
theorem fresh_nilCheck {x : Operand} {E : Env} : freshOp E (.nilCheck x) = false := by simp only [freshOp]
theorem quiet_nilCheck {x : Operand} {E : Env} : quietOp E (.nilCheck x) = true := by simp only [quietOp]
theorem fresh_binOp {op : BinOp} {t u : TypeId} {x y : Operand} {E : Env} : freshOp E (.binOp op t x y u) = false := by simp only [freshOp]
theorem quiet_binOp {op : BinOp} {t u : TypeId} {x y : Operand} {E : Env} : quietOp E (.binOp op t x y u) = true := by simp only [quietOp]
theorem fresh_unOp {op : UnOp} {t : TypeId} {x : Operand} {E : Env} : freshOp E (.unOp op t x) = false := by simp only [freshOp]
theorem quiet_unOp {op : UnOp} {t : TypeId} {x : Operand} {E : Env} : quietOp E (.unOp op t x) = true := by simp only [quietOp]
theorem fresh_makeFunc {fn : Fn} {f c : Array Operand} {E : Env} : freshOp E (.makeFunc fn f c) = false := by simp only [freshOp]
theorem quiet_makeFunc {fn : Fn} {f c : Array Operand} {E : Env} : quietOp E (.makeFunc fn f c) = true := by simp only [quietOp]
theorem fresh_slice {t : TypeId} {x : Operand} {lo hi mx : Option Operand} {E : Env} : freshOp E (.slice t x lo hi mx) = false := by simp only [freshOp]
theorem quiet_slice {t : TypeId} {x : Operand} {lo hi mx : Option Operand} {E : Env} : quietOp E (.slice t x lo hi mx) = true := by simp only [quietOp]
theorem fresh_fieldAddr {s f : Nat} {x : Operand} {E : Env} : freshOp E (.fieldAddr s x f) = false := by simp only [freshOp]
theorem quiet_fieldAddr {s f : Nat} {x : Operand} {E : Env} : quietOp E (.fieldAddr s x f) = true := by simp only [quietOp]
theorem fresh_field {s f : Nat} {x : Operand} {E : Env} : freshOp E (.field s x f) = false := by simp only [freshOp]
theorem quiet_field {s f : Nat} {x : Operand} {E : Env} : quietOp E (.field s x f) = true := by simp only [quietOp]
theorem fresh_indexAddr {t : TypeId} {x i : Operand} {E : Env} : freshOp E (.indexAddr t x i) = false := by simp only [freshOp]
theorem quiet_indexAddr {t : TypeId} {x i : Operand} {E : Env} : quietOp E (.indexAddr t x i) = true := by simp only [quietOp]
theorem fresh_index {t : TypeId} {x i : Operand} {E : Env} : freshOp E (.index t x i) = false := by simp only [freshOp]
theorem quiet_index {t : TypeId} {x i : Operand} {E : Env} : quietOp E (.index t x i) = true := by simp only [quietOp]
theorem fresh_lookup {t : TypeId} {x k : Operand} {ok : Bool} {E : Env} : freshOp E (.lookup t x k ok) = false := by simp only [freshOp]
theorem quiet_lookup {t : TypeId} {x k : Operand} {ok : Bool} {E : Env} : quietOp E (.lookup t x k ok) = true := by simp only [quietOp]
theorem fresh_mapUpdate {t : TypeId} {m k x : Operand} {E : Env} : freshOp E (.mapUpdate t m k x) = false := by simp only [freshOp]
theorem quiet_mapUpdate {t : TypeId} {m k x : Operand} {E : Env} : quietOp E (.mapUpdate t m k x) = false := by simp only [quietOp]
theorem fresh_range {t : TypeId} {x : Operand} {E : Env} : freshOp E (.range t x) = false := by simp only [freshOp]
theorem quiet_range {t : TypeId} {x : Operand} {E : Env} : quietOp E (.range t x) = false := by simp only [quietOp]
theorem fresh_entry {it : Operand} {E : Env} : freshOp E (.entry it) = false := by simp only [freshOp]
theorem quiet_entry {it : Operand} {E : Env} : quietOp E (.entry it) = true := by simp only [quietOp]
theorem fresh_extract {t : Operand} {i : Nat} {E : Env} : freshOp E (.extract t i) = false := by simp only [freshOp]
theorem quiet_extract {t : Operand} {i : Nat} {E : Env} : quietOp E (.extract t i) = true := by simp only [quietOp]
theorem fresh_call {c : Call} {E : Env} : freshOp E (.call c) = false := by simp only [freshOp]
theorem quiet_call {c : Call} {E : Env} : quietOp E (.call c) = quietC c.callee := by
  obtain ⟨cl, a, t⟩ := c
  cases cl with
  | builtin b => cases b <;> rfl
  | _ => rfl
theorem fresh_alloc {t : TypeId} {E : Env} : freshOp E (.alloc t) = true := by simp only [freshOp]
theorem quiet_alloc {t : TypeId} {E : Env} : quietOp E (.alloc t) = false := by simp only [quietOp]
theorem fresh_box {t : TypeId} {x : Operand} {E : Env} : freshOp E (.box t x) = true := by simp only [freshOp]
theorem quiet_box {t : TypeId} {x : Operand} {E : Env} : quietOp E (.box t x) = false := by simp only [quietOp]
theorem fresh_makeMap {t : TypeId} {n : Option Operand} {E : Env} : freshOp E (.makeMap t n) = true := by simp only [freshOp]
theorem quiet_makeMap {t : TypeId} {n : Option Operand} {E : Env} : quietOp E (.makeMap t n) = false := by simp only [quietOp]
theorem fresh_buildSlice {t : TypeId} {n : Nat} {ps : Array (Nat × Operand)} {E : Env} : freshOp E (.buildSlice t n ps) = true := by simp only [freshOp]
theorem quiet_buildSlice {t : TypeId} {n : Nat} {ps : Array (Nat × Operand)} {E : Env} : quietOp E (.buildSlice t n ps) = false := by simp only [quietOp]
theorem quietC_value {o : Operand} : quietC (.value o) = false := by simp only [quietC]
theorem quietC_len : quietC (.builtin .len) = true := by simp only [quietC]
theorem quietC_cap : quietC (.builtin .cap) = true := by simp only [quietC]
theorem quietC_append : quietC (.builtin .append) = false := by simp only [quietC]
theorem quietC_delete : quietC (.builtin .delete) = false := by simp only [quietC]
theorem fr_buildSlice {E : Env} {T : Tmps} {t : TypeId} {n : Nat} {ps : Array (Nat × Operand)} : aFresh E (.buildSlice t n ps) T = (match evPairs T ps.toList with
    | some l => aBuildSlice E t n l
    | none => none) := by simp only [aFresh]; rfl
end Go.AE

/- The evaluator: what is so behind straight code may be weakened; where two ways meet. -/
namespace Go.AE
open Go
section
variable {Z : Road} {E : Env} {P : Program}

theorem arW_mono {K K' : Value → ASt → Prop} (hk : ∀ v A, K v A → K' v A) {r : AR} (h : arW (CallT Z P) K r) : arW (CallT Z P) K' r := by
  cases r with
  | val v A => exact hk _ _ h
  | enter t args A => exact CallT.mono h hk
  | bad w => exact h
theorem oneW_mono {K K' : Value → ASt → Prop} (hk : ∀ v A, K v A → K' v A) {op : Op} {T : Tmps} {A : ASt} (h : oneW E (CallT Z P) op T A K) : oneW E (CallT Z P) op T A K' := by
  by_cases hn : isNextB op = true
  · cases op <;> first | cases hn | skip
    rw [oneW_next] at h ⊢
    unfold nextV at h ⊢
    split at h
    · exact Nd.all_mono (fun r hr => hk _ _ hr) h
    · exact h.elim
  · have hn : isNextB op = false := by simpa using hn
    rw [oneW_op hn] at h ⊢
    exact arW_mono hk h
theorem putW_mono {n : Nat} {T : Tmps} {d : Option Tmp} {v : Value} {K K' : Tmps → Prop} (hk : ∀ T, K T → K' T) (h : putW n T d v K) : putW n T d v K' := by
  cases d with
  | none => exact hk _ h
  | some d => exact ⟨h.1, hk _ h.2⟩
theorem opsW_mono {n : Nat} {ops : Array Oper} {K K' : Tmps → ASt → Prop} (hk : ∀ T A, K T A → K' T A) : ∀ {l : List Oper} {T : Tmps} {A : ASt}, opsW E (CallT Z P) n ops l T A K → opsW E (CallT Z P) n ops l T A K'
  | [], _, _, h => hk _ _ h
  | o :: l, T, A, h => ⟨fun e => oneW_mono (fun v A' h' => putW_mono (fun T' h'' => opsW_mono hk h'') h') (h.1 e), fun e => putW_mono (fun T' h'' => opsW_mono hk h'') (h.2 e)⟩

theorem codeW_mono {n : Nat} {ro : Option Nat} : ∀ {c : Code} {Q Q' : Out → Prop} {T : Tmps} {A : ASt}, (∀ o, Q o → Q' o) → codeW Z E P n ro c Q T A → codeW Z E P n ro c Q' T A := by
  intro c
  induction c with
  | skip => intro Q Q' T A hq h; exact hq _ h
  | ret => intro Q Q' T A hq h; exact hq _ h
  | exit id => intro Q Q' T A hq h; exact hq _ h
  | seq x y ihx ihy =>
    intro Q Q' T A hq h
    refine ihx (fun o ho => ?_) h
    cases o with
    | res v A => exact hq _ ho
    | fr r =>
      obtain ⟨ex, T', A'⟩ := r
      cases ex with
      | normal => exact ihy hq ho
      | exit i => exact hq _ ho
      | ret => exact hq _ ho
  | cond x y z ihy ihz =>
    intro Q Q' T A hq h
    simp only [codeW] at h ⊢
    split at h
    · rename_i b hb
      exact ⟨fun e => ihy hq (h.1 e), fun e => ihz hq (h.2 e)⟩
    · exact h.elim
  | block id b ih =>
    intro Q Q' T A hq h
    refine ih (fun o ho => ?_) h
    cases o with
    | res v A => exact hq _ ho
    | fr r =>
      obtain ⟨ex, T', A'⟩ := r
      cases ex with
      | normal => exact hq _ ho
      | exit i => exact hq _ ho
      | ret => exact hq _ ho
  | scope b ih => intro Q Q' T A hq h; exact ih hq h
  | region id ops d =>
    intro Q Q' T A hq h
    cases d with
    | false => exact opsW_mono (fun _ _ h => hq _ h) h
    | true => exact CodeW.mono h hq
  | _ => intro Q Q' T A hq h; exact CodeW.mono h hq

theorem codeW_skip {n : Nat} {ro : Option Nat} {Q : Out → Prop} {T : Tmps} {A : ASt} (h : Q (.fr ⟨.normal, T, A⟩)) : codeW Z E P n ro .skip Q T A := h

theorem brW_b {b : Bool} {x y : Prop} (h1 : b = true → x) (h2 : b = false → y) : brW b x y := ⟨h1, h2⟩

theorem brW_join {b : Bool} {n : Nat} {ro : Option Nat} {c1 c2 : Code} {Q : Out → Prop} {T1 T2 : Tmps} {A1 A2 : ASt} (K : Tmps → ASt → Prop) (h1 : b = true → codeW Z E P n ro c1 (fun o => ∃ T' A', o = .fr ⟨.normal, T', A'⟩ ∧ K T' A') T1 A1) (h2 : b = false → codeW Z E P n ro c2 (fun o => ∃ T' A', o = .fr ⟨.normal, T', A'⟩ ∧ K T' A') T2 A2)
    (hk : ∀ T' A', K T' A' → Q (.fr ⟨.normal, T', A'⟩)) : brW b (codeW Z E P n ro c1 Q T1 A1) (codeW Z E P n ro c2 Q T2 A2) :=
  ⟨fun e => codeW_mono (fun o ⟨T', A', ho, h⟩ => ho ▸ hk _ _ h) (h1 e), fun e => codeW_mono (fun o ⟨T', A', ho, h⟩ => ho ▸ hk _ _ h) (h2 e)⟩
end
end Go.AE

/- The evaluator: equations of the walk that the simplifier takes as they stand, not by computing. -/
namespace Go.AE
open Go

noncomputable def condW (o : Option Value) (f : Bool → Prop) : Prop :=
  match o with
  | some (.bool b) => f b
  | _ => False
@[congr] theorem condW_congr {o o' : Option Value} {f : Bool → Prop} (h : ∀ _ : Unit, tg o = o') : condW o f = condW o' f := by rw [← h ()]; rfl
theorem condW_b {b : Bool} {f : Bool → Prop} : condW (some (.bool b)) f = f b := by rw [condW]

section
variable {Z : Road} {E : Env} {P : Program} {n : Nat} {ro : Option Nat} {Q : Out → Prop} {T : Tmps} {A : ASt}
theorem c_skip : codeW Z E P n ro .skip Q T A = Q (.fr ⟨.normal, T, A⟩) := by rw [codeW]
theorem c_ret : codeW Z E P n ro .ret Q T A = Q (.fr ⟨.ret, T, A⟩) := by rw [codeW]
theorem c_exit {id : Nat} : codeW Z E P n ro (.exit id) Q T A = Q (.fr ⟨.exit id, T, A⟩) := by rw [codeW]
theorem c_seq {x y : Code} : codeW Z E P n ro (.seq x y) Q T A = codeW Z E P n ro x (Onw (fun T' A' => codeW Z E P n ro y Q T' A') Q) T A := by rw [codeW]
theorem c_cond {x : Operand} {y z : Code} : codeW Z E P n ro (.cond x y z) Q T A = condW (ev T x) fun b => brW b (codeW Z E P n ro y Q T A) (codeW Z E P n ro z Q T A) := by
  rw [codeW]
  cases ev T x with
  | none => rfl
  | some v => cases v <;> rfl
theorem c_block {id : Nat} {b : Code} : codeW Z E P n ro (.block id b) Q T A = codeW Z E P n ro b (Outb id Q) T A := by rw [codeW]
theorem c_scope {b : Code} : codeW Z E P n ro (.scope b) Q T A = codeW Z E P n ro b Q T A := by rw [codeW]
theorem c_region {id : Nat} {ops : Array Oper} : codeW Z E P n ro (.region id ops false) Q T A = opsW E (CallT Z P) n ops ops.toList T A fun T' A' => Q (.fr ⟨.normal, T', A'⟩) := by rw [codeW]
theorem c_drawn {id : Nat} {ops : Array Oper} : codeW Z E P n ro (.region id ops true) Q T A = CodeW Z P n ro (.region id ops true) T A Q := by rw [codeW] <;> intros <;> simp_all
theorem c_loop {b : Code} : codeW Z E P n ro (.loop b) Q T A = CodeW Z P n ro (.loop b) T A Q := by rw [codeW] <;> intros <;> contradiction
theorem onw_n {k : Tmps → ASt → Prop} : Onw k Q (.fr ⟨.normal, T, A⟩) = k T A := by rw [Onw]
theorem onw_r {k : Tmps → ASt → Prop} : Onw k Q (.fr ⟨.ret, T, A⟩) = Q (.fr ⟨.ret, T, A⟩) := by rw [Onw]; intros; simp_all
theorem onw_e {k : Tmps → ASt → Prop} {i : Nat} : Onw k Q (.fr ⟨.exit i, T, A⟩) = Q (.fr ⟨.exit i, T, A⟩) := by rw [Onw]; intros; simp_all
theorem outb_e {id : Nat} : Outb id Q (.fr ⟨.exit id, T, A⟩) = Q (.fr ⟨.normal, T, A⟩) := by
  rw [Outb]
  have : Nat.beq id id = true := Nat.beq_refl id
  rw [this]; rfl
theorem outb_o {id i : Nat} (h : (i = id) = False) : Outb id Q (.fr ⟨.exit i, T, A⟩) = Q (.fr ⟨.exit i, T, A⟩) := by
  rw [Outb]
  have : Nat.beq i id = false := by
    cases hb : Nat.beq i id with
    | true => exact (h.mp (Nat.eq_of_beq_eq_true hb)).elim
    | false => rfl
  rw [this]; rfl
theorem outb_n {id : Nat} : Outb id Q (.fr ⟨.normal, T, A⟩) = Q (.fr ⟨.normal, T, A⟩) := by rw [Outb]; intros; simp_all
theorem outb_r {id : Nat} : Outb id Q (.fr ⟨.ret, T, A⟩) = Q (.fr ⟨.ret, T, A⟩) := by rw [Outb]; intros; simp_all
theorem putW_some {d : Tmp} {v : Value} {K : Tmps → Prop} : putW n T (some d) v K = (d < n ∧ K (T.put d (some v))) := by rw [putW]
theorem putW_none {v : Value} {K : Tmps → Prop} : putW n T none v K = K T := by rw [putW]
end
theorem quietW_nil {E : Env} {n : Nat} {ops : Array Oper} {H : ASt} {T : Tmps} {K : Tmps → Prop} : quietW E n ops H [] T K = K T := by rw [quietW]
theorem quietW_arr {E : Env} {n : Nat} {ops : Array Oper} {H : ASt} {l : List Oper} {T : Tmps} {K : Tmps → Prop} : quietW E n ops H (List.toArray l).toList T K = quietW E n ops H l T K := by rw [List.toList_toArray]
theorem quietW_cons {E : Env} {n : Nat} {ops : Array Oper} {H : ASt} {T : Tmps} {K : Tmps → Prop} {d : Option Tmp} {op : Op} {ty : TypeId} {ps : String} {af : Array Edge} {g : Option (Nat × Bool)} {l : List Oper} :
    quietW E n ops H (⟨d, op, ty, ps, af, g⟩ :: l) T K = brW (wantedA ops T ⟨d, op, ty, ps, af, g⟩) (freshOp E op = false ∧ quietOp E op = true ∧ arW (fun _ _ _ _ => False) (fun v _ => valEq v v = true ∧ putW n T d v fun T' => quietW E n ops H l T' K) (aStill E op T H)) (putW n T d undef fun T' => quietW E n ops H l T' K) := by rw [quietW]
end Go.AE

/- The evaluator: a drawn region as it stands, its new blocks in flight till one that is loud stands behind them. -/
namespace Go.AE
open Go
set_option linter.defProp false

noncomputable def fanAt (fan : List (List Nat)) (i f : Nat) : Bool :=
  match nth fan i with
  | some l => hasN f l
  | none => false
noncomputable def tkn (fan : List (List Nat)) (f : Nat) : List Nat → Bool
  | [] => false
  | j :: lo => fanAt fan j f || tkn fan f lo
noncomputable def seesF (base : Nat) (fan : List (List Nat)) (lo : List Nat) (i : Nat) : List Fl → ASt → ASt
  | [], H => H
  | x :: l, H => cond (!tkn fan x.f lo && fanAt fan i x.f) ((seesF base fan lo i l H).set (base + x.f) x.ob) (seesF base fan lo i l H)
noncomputable def restF (base : Nat) (fan : List (List Nat)) (lo : List Nat) : List Fl → ASt → ASt
  | [], H => H
  | x :: l, H => cond (tkn fan x.f lo) (restF base fan lo l H) ((restF base fan lo l H).set (base + x.f) x.ob)
noncomputable def freshPos (E : Env) : Nat → List Oper → List Nat
  | _, [] => []
  | i, o :: l => cond (freshOp E o.op) (i :: freshPos E (i + 1) l) (freshPos E (i + 1) l)
noncomputable def fltr (m : Nat) : List Nat → List Nat
  | [] => []
  | f :: l => cond (m.testBit f) (f :: fltr m l) (fltr m l)
noncomputable def fanOf (E : Env) (all : List Oper) (an : List Nat) : List (List Nat) := an.map fun m => fltr m (freshPos E 0 all)
abbrev PendF := Nat × Op × Tmps × Value
noncomputable def pendF (E : Env) (base : Nat) (fan : List (List Nat)) (lo : List Nat) (fl : List Fl) (H : ASt) : List PendF → Prop
  | [] => True
  | p :: l => (∃ A', aOp E p.2.1 p.2.2.1 (seesF base fan lo p.1 fl H) = .val p.2.2.2 A') ∧ pendF E base fan lo fl H l
noncomputable def pendIfF (b : Bool) (p : PendF) (l : List PendF) : List PendF := cond b (p :: l) l
theorem pendIfF_t {p : PendF} {l : List PendF} : pendIfF true p l = p :: l := by simp only [pendIfF, cond_true]
theorem pendIfF_f {p : PendF} {l : List PendF} : pendIfF false p l = l := by simp only [pendIfF, cond_false]

noncomputable def seqF (E : Env) (C : Tgt → List Value → ASt → (Value → ASt → Prop) → Prop) (n base : Nat) (ops : Array Oper) (un : List Nat) (fan : List (List Nat)) : Nat → List Oper → List PendF → List Nat → List Fl → Tmps → ASt → (Tmps → ASt → Prop) → Prop
  | _, [], _, lo, fl, T, H, K => K T (restF base fan lo fl H)
  | i, o :: l, pd, lo, fl, T, H, K =>
    brW (wantedA ops T o)
      (brW (freshOp E o.op) (freshW (aFresh E o.op T) fun ob f => putW n T o.dst (f (base + i)) fun T' => seqF E C n base ops un fan (i + 1) l pd lo (⟨i, ob⟩ :: fl) T' H K)
        (brW (quietOp E o.op) (stillW (aOp E o.op T { heap := .e, next := 0 }) (aOp E o.op T (seesF base fan lo i fl H)) (fun v => putW n T o.dst v fun T' => seqF E C n base ops un fan (i + 1) l pd lo fl T' H K) fun v => putW n T o.dst v fun T' => seqF E C n base ops un fan (i + 1) l (pendIfF (hasN i un) (i, o.op, T, v) pd) lo fl T' H K)
          (oneW E C o.op T (seesF base fan lo i fl H) fun v H' => pendF E base fan (i :: lo) fl H' pd ∧ putW n T o.dst v fun T' => seqF E C n base ops un fan (i + 1) l pd (i :: lo) fl T' H' K)))
      (putW n T o.dst undef fun T' => seqF E C n base ops un fan (i + 1) l pd lo fl T' H K)

noncomputable def seqFOK (E : Env) (ops : List Oper) (an : List Nat) (un : List Nat) : Nat → List Oper → Bool
  | _, [] => true
  | i, o :: l => (match nth an i with
    | some m => Nat.blt m (2 ^ i)
    | none => false) && ((quietOp E o.op || (freshOp E o.op || allBehind i (an.drop (i + 1)))) && ((hasN i un || (!(quietOp E o.op) || safeB E i 0 ops an)) && seqFOK E ops an un (i + 1) l))

@[congr] theorem seqF_congr {E : Env} {C : Tgt → List Value → ASt → (Value → ASt → Prop) → Prop} {n n' base i : Nat} {ops : Array Oper} {un : List Nat} {fan : List (List Nat)} {l : List Oper} {pd pd' : List PendF} {lo lo' : List Nat} {fl fl' : List Fl} {T : Tmps} {H : ASt} {K : Tmps → ASt → Prop} (h : ∀ _ : Unit, tg n = n') (h2 : pd = pd') (h3 : lo = lo') (h4 : fl = fl') : seqF E C n base ops un fan i l pd lo fl T H K = seqF E C n' base ops un fan i l pd' lo' fl' T H K := by rw [← h (), ← h2, ← h3, ← h4]; rfl

section
variable {E : Env} {C : Tgt → List Value → ASt → (Value → ASt → Prop) → Prop} {n base i : Nat} {ops : Array Oper} {un : List Nat} {fan : List (List Nat)} {pd : List PendF} {lo : List Nat} {fl : List Fl} {T : Tmps} {H : ASt} {K : Tmps → ASt → Prop}
theorem seqF_nil : seqF E C n base ops un fan i [] pd lo fl T H K = K T (restF base fan lo fl H) := by rw [seqF]
theorem seqF_cons {d : Option Tmp} {op : Op} {ty : TypeId} {ps : String} {af : Array Edge} {g : Option (Nat × Bool)} {l : List Oper} :
    seqF E C n base ops un fan i (⟨d, op, ty, ps, af, g⟩ :: l) pd lo fl T H K = brW (wantedA ops T ⟨d, op, ty, ps, af, g⟩)
      (brW (freshOp E op) (freshW (aFresh E op T) fun ob f => putW n T d (f (base + i)) fun T' => seqF E C n base ops un fan (i + 1) l pd lo (⟨i, ob⟩ :: fl) T' H K)
        (brW (quietOp E op) (stillW (aOp E op T { heap := .e, next := 0 }) (aOp E op T (seesF base fan lo i fl H)) (fun v => putW n T d v fun T' => seqF E C n base ops un fan (i + 1) l pd lo fl T' H K) fun v => putW n T d v fun T' => seqF E C n base ops un fan (i + 1) l (pendIfF (hasN i un) (i, op, T, v) pd) lo fl T' H K)
          (oneW E C op T (seesF base fan lo i fl H) fun v H' => pendF E base fan (i :: lo) fl H' pd ∧ putW n T d v fun T' => seqF E C n base ops un fan (i + 1) l pd (i :: lo) fl T' H' K)))
      (putW n T d undef fun T' => seqF E C n base ops un fan (i + 1) l pd lo fl T' H K) := by rw [seqF]
theorem seesF_nil : seesF base fan lo i [] H = H := by rw [seesF]
theorem seesF_cons {f : Nat} {ob : AObj} {l : List Fl} : seesF base fan lo i (⟨f, ob⟩ :: l) H = cond (!tkn fan f lo && fanAt fan i f) ((seesF base fan lo i l H).set (base + f) ob) (seesF base fan lo i l H) := by rw [seesF]
theorem restF_nil : restF base fan lo [] H = H := by rw [restF]
theorem restF_cons {f : Nat} {ob : AObj} {l : List Fl} : restF base fan lo (⟨f, ob⟩ :: l) H = cond (tkn fan f lo) (restF base fan lo l H) ((restF base fan lo l H).set (base + f) ob) := by rw [restF]
theorem tkn_nil {f : Nat} : tkn fan f [] = false := by rw [tkn]
theorem tkn_cons {f j : Nat} {l : List Nat} : tkn fan f (j :: l) = (fanAt fan j f || tkn fan f l) := by rw [tkn]
theorem fanAt_eq {f : Nat} : fanAt fan i f = (match nth fan i with
  | some l => hasN f l
  | none => false) := by rw [fanAt]
theorem pendF_nil : pendF E base fan lo fl H [] = True := by rw [pendF]
theorem pendF_cons {j : Nat} {op : Op} {T : Tmps} {v : Value} {l : List PendF} : pendF E base fan lo fl H ((j, op, T, v) :: l) = ((∃ A', aOp E op T (seesF base fan lo j fl H) = .val v A') ∧ pendF E base fan lo fl H l) := by rw [pendF]
end

/-! ### what is so of it -/
theorem freshPos_mem {E : Env} {f : Nat} : ∀ {l : List Oper} {i : Nat}, (∃ k o, l[k]? = some o ∧ i + k = f ∧ freshOp E o.op = true) → f ∈ freshPos E i l
  | [], i, h => by obtain ⟨k, o, h, _⟩ := h; simp at h
  | x :: l, i, h => by
    obtain ⟨k, o, h1, h2, h3⟩ := h
    unfold freshPos
    cases k with
    | zero =>
      simp at h1; subst h1
      rw [h3, cond_true]
      have : i = f := by omega
      subst this
      exact List.mem_cons_self ..
    | succ k =>
      have ih := freshPos_mem (l := l) (i := i + 1) ⟨k, o, by simpa using h1, (by omega : i + 1 + k = f), h3⟩
      cases freshOp E x.op with
      | true => rw [cond_true]; exact List.mem_cons_of_mem _ ih
      | false => rw [cond_false]; exact ih
theorem fltr_has {m f : Nat} : ∀ {l : List Nat}, f ∈ l → hasN f (fltr m l) = m.testBit f
  | [], h => by cases h
  | x :: l, h => by
    unfold fltr
    by_cases e : f = x
    · subst e
      cases hb : m.testBit f with
      | true => rw [cond_true]; unfold hasN; rw [Nat.beq_refl, Bool.true_or]
      | false =>
        rw [cond_false]
        have : ∀ {l : List Nat}, hasN f (fltr m l) = false := by
          intro l
          induction l with
          | nil => rfl
          | cons y l ih =>
            unfold fltr
            cases hy : m.testBit y with
            | false => rw [cond_false]; exact ih
            | true =>
              rw [cond_true]
              unfold hasN
              rw [ih, Bool.or_false, nbeq]
              have : ¬ f = y := fun e => by rw [e, hy] at hb; cases hb
              simp [this]
        exact this
    · have ih := fltr_has (m := m) (l := l) (by simpa [e] using h)
      cases m.testBit x with
      | true =>
        rw [cond_true]
        unfold hasN
        rw [ih, nbeq]
        simp [e]
      | false => rw [cond_false]; exact ih
theorem fanOf_at {E : Env} {all : List Oper} {an : List Nat} {i m f : Nat} (hm : nth an i = some m) (hf : f ∈ freshPos E 0 all) : fanAt (fanOf E all an) i f = m.testBit f := by
  unfold fanAt fanOf
  rw [nth_map, hm]
  exact fltr_has hf

theorem seqFOK_spec {E : Env} {an un : List Nat} {all : List Oper} : ∀ {l : List Oper} {i : Nat}, seqFOK E all an un i l = true → ∀ k o, l[k]? = some o → (∃ m, nth an (i + k) = some m ∧ m < 2 ^ (i + k)) ∧ (quietOp E o.op = true ∨ freshOp E o.op = true ∨ Ahead an (i + k)) ∧ (hasN (i + k) un = false → quietOp E o.op = true → safeB E (i + k) 0 all an = true)
  | [], i, _, k, o, ho => by simp at ho
  | x :: l, i, h, k, o, ho => by
    unfold seqFOK at h
    simp only [Bool.and_eq_true] at h
    obtain ⟨h1, h2, h3, h4⟩ := h
    cases k with
    | zero =>
      simp at ho; subst ho
      refine ⟨?_, ?_, ?_⟩
      · split at h1
        · rename_i m hm; exact ⟨m, hm, Nat.le_of_ble_eq_true h1⟩
        · cases h1
      · rw [Bool.or_eq_true, Bool.or_eq_true] at h2
        rcases h2 with h2 | h2 | h2
        · exact .inl h2
        · exact .inr (.inl h2)
        · refine .inr (.inr fun j m hj hm => allBehind_spec h2 (j - (i + 1)) m ?_)
          rw [List.getElem?_drop, ← nth_eq, show i + 1 + (j - (i + 1)) = j by omega]; exact hm
      · intro hu hq
        rw [Nat.add_zero] at hu ⊢
        rw [hu, hq] at h3
        simpa using h3
    | succ k =>
      have := seqFOK_spec h4 k o (by simpa using ho)
      rwa [show i + 1 + k = i + (k + 1) by omega] at this

section
variable {E : Env} {n base : Nat} {ops : Array Oper} {an un : List Nat}

structure SF (E : Env) (base : Nat) (all : List Oper) (an : List Nat) (pd : List PendF) (lo : List Nat) (i : Nat) (s : PSt) : Prop where
  hlo : ∀ b, s.louds.testBit b = true ↔ b ∈ lo
  fls : ∀ x ∈ s.fl, x.f < i ∧ x.f ∈ freshPos E 0 all
  lou : ∀ b ∈ lo, b < i ∧ b < an.length ∧ Ahead an b
  mask : ∀ e ∈ s.hist, ∀ b, e.1.testBit b = true → b < i
  hist : ∀ e ∈ s.hist, e = (s.louds, s.H) ∨ ∃ b, s.louds.testBit b = true ∧ e.1.testBit b = false
  vq : ∀ r ∈ s.reads, valEq r.v r.v = true
  reads : ∀ r ∈ s.reads, r.i < i ∧ RI E base an s r ∧ (Safe E all an r.i ∨ (r.i, r.o, r.T, r.v) ∈ pd)

theorem SF.readsOK {all : List Oper} {pd : List PendF} {lo : List Nat} {i : Nat} {s : PSt} (h : SF E base all an pd lo i s) : Go.AE.readsOK E base an s s.reads = true := by
  have : ∀ l, (∀ r ∈ l, r ∈ s.reads) → Go.AE.readsOK E base an s l = true := by
    intro l
    induction l with
    | nil => intro _; rfl
    | cons r l ih =>
      intro hl
      unfold Go.AE.readsOK
      rw [Bool.and_eq_true]
      refine ⟨?_, ih fun x hx => hl x (by simp [hx])⟩
      obtain ⟨m, hm, hr⟩ := (h.reads r (hl r (by simp))).2.1.ok
      rw [hm]
      exact hr
  exact this _ fun r hr => hr

theorem tkn_spec {all : List Oper} {f : Nat} {louds : Nat} (hf : f ∈ freshPos E 0 all) (hb : ∀ b, louds.testBit b = true → b < an.length) : ∀ {lo : List Nat}, (∀ b, louds.testBit b = true ↔ b ∈ lo) → takenAt louds f 0 an = tkn (fanOf E all an) f lo := by
  intro lo hlo
  have h2 : ∀ {lo : List Nat}, (∀ b ∈ lo, b < an.length) → (tkn (fanOf E all an) f lo = true ↔ ∃ b ∈ lo, ∃ m, nth an b = some m ∧ m.testBit f = true) := by
    intro lo
    induction lo with
    | nil => intro _; simp [tkn]
    | cons j lo ih =>
      intro hlt
      unfold tkn
      rw [Bool.or_eq_true, ih fun b hb => hlt b (by simp [hb])]
      have hj : nth an j = some (an[j]'(hlt j (by simp))) := by rw [nth_eq]; exact List.getElem?_eq_getElem _
      rw [fanOf_at hj hf]
      constructor
      · rintro (h | ⟨b, hb, h⟩)
        · exact ⟨j, by simp, _, hj, h⟩
        · exact ⟨b, by simp [hb], h⟩
      · rintro ⟨b, hb, m, h3, h4⟩
        rcases List.mem_cons.1 hb with rfl | hb
        · rw [hj] at h3; cases h3; exact .inl h4
        · exact .inr ⟨b, hb, m, h3, h4⟩
  have h2 := h2 (lo := lo) fun b hb' => hb b ((hlo b).2 hb')
  have h1 := takenAt_spec (mask := louds) (f := f) (l := an) (k := 0)
  cases hc : tkn (fanOf E all an) f lo with
  | true =>
    obtain ⟨b, hbm, m, h3, h4⟩ := h2.1 hc
    exact h1.2 ⟨b, m, by rw [← nth_eq]; exact h3, by rw [Nat.zero_add]; exact (hlo b).2 hbm, h4⟩
  | false =>
    rw [Bool.eq_false_iff]
    intro ht
    obtain ⟨j, m, h3, h4, h5⟩ := h1.1 ht
    rw [Nat.zero_add] at h4
    have := h2.2 ⟨j, (hlo j).1 h4, m, by rw [nth_eq]; exact h3, h5⟩
    rw [hc] at this; cases this

theorem sees_view {all : List Oper} {lo : List Nat} {louds i m : Nat} {A : ASt} (hm : nth an i = some m) (hb : ∀ b, louds.testBit b = true → b < an.length) (hlo : ∀ b, louds.testBit b = true ↔ b ∈ lo) : ∀ {fl : List Fl}, (∀ x ∈ fl, x.f ∈ freshPos E 0 all) → viewAt base an louds m fl A = seesF base (fanOf E all an) lo i fl A
  | [], _ => rfl
  | x :: l, h => by
    have ih := sees_view (A := A) hm hb hlo (fl := l) fun y hy => h y (by simp [hy])
    unfold viewAt at ih ⊢
    unfold addFl seesF
    rw [ih, tkn_spec (h x (by simp)) hb hlo, fanOf_at hm (h x (by simp))]
theorem rest_view {all : List Oper} {lo : List Nat} {louds : Nat} {A : ASt} (hb : ∀ b, louds.testBit b = true → b < an.length) (hlo : ∀ b, louds.testBit b = true ↔ b ∈ lo) : ∀ {fl : List Fl}, (∀ x ∈ fl, x.f ∈ freshPos E 0 all) → addFl base (fun f => !takenAt louds f 0 an) fl A = restF base (fanOf E all an) lo fl A
  | [], _ => rfl
  | x :: l, h => by
    have ih := rest_view (A := A) hb hlo (fl := l) fun y hy => h y (by simp [hy])
    unfold addFl restF
    rw [ih, tkn_spec (h x (by simp)) hb hlo]
    cases tkn (fanOf E all an) x.f lo <;> rfl

theorem pendF_mem {fan : List (List Nat)} {lo : List Nat} {fl : List Fl} {H : ASt} : ∀ {l : List PendF}, pendF E base fan lo fl H l → ∀ p ∈ l, ∃ A', aOp E p.2.1 p.2.2.1 (seesF base fan lo p.1 fl H) = .val p.2.2.2 A'
  | [], _, p, hp => by cases hp
  | q :: l, h, p, hp => by
    rcases List.mem_cons.1 hp with rfl | hp
    · exact h.1
    · exact pendF_mem h.2 p hp

theorem planN_seqF {R : Tgt → List Value → ASt → (Value → ASt → Prop) → Prop} {all : List Oper} (hall : ops.toList = all) (hlen : an.length = all.length) (hok : seqFOK E all an un 0 all = true) {K : Tmps → ASt → Prop} : ∀ (l : List Oper) (pd : List PendF) (lo : List Nat) (i : Nat) (s : PSt), all.drop i = l → SF E base all an pd lo i s → seqF E (conC R) n base ops un (fanOf E all an) i l pd lo s.fl s.T s.H K →
    (planN E (conCall R) n base ops an i l s).all fun s' => Go.AE.readsOK E base an s' s'.reads = true ∧ K s'.T (addFl base (fun f => !takenAt s'.louds f 0 an) s'.fl s'.H)
  | [], pd, lo, i, s, hl, hs, h => by
    unfold planN
    refine ⟨hs.readsOK, ?_⟩
    have hi : ∀ b, s.louds.testBit b = true → b < an.length := fun b hb => (hs.lou b ((hs.hlo b).1 hb)).2.1
    rw [rest_view hi hs.hlo fun x hx => (hs.fls x hx).2]
    unfold seqF at h
    exact h
  | o :: l, pd, lo, i, s, hl, hs, h => by
    have ho : all[i]? = some o := by
      have : (all.drop i)[0]? = some o := by rw [hl]; rfl
      simpa using this
    have hl' : all.drop (i + 1) = l := by
      have : (all.drop i).drop 1 = l := by rw [hl]; rfl
      rwa [List.drop_drop] at this
    obtain ⟨⟨m, hm, hmlt⟩, hah, hsf⟩ := seqFOK_spec hok i o ho
    rw [Nat.zero_add] at hm hmlt hah hsf
    have hilen : i < an.length := by
      rw [nth_eq] at hm
      exact (List.getElem?_eq_some_iff.1 hm).1
    have low : ∀ j m, nth an j = some m → ∀ b, m.testBit b = true → b < j := by
      intro j m hm b hb
      have hj : j < all.length := by
        rw [nth_eq] at hm
        have := (List.getElem?_eq_some_iff.1 hm).1
        omega
      obtain ⟨⟨m', hm', hlt⟩, _⟩ := seqFOK_spec hok j all[j] (by simp [hj])
      rw [Nat.zero_add] at hm' hlt
      rw [hm] at hm'; cases hm'
      rcases Nat.lt_or_ge b j with h | h
      · exact h
      · rw [Nat.testBit_lt_two_pow (Nat.lt_of_lt_of_le hlt (Nat.pow_le_pow_right (by omega) h))] at hb
        cases hb
    have hi : ∀ b, s.louds.testBit b = true → b < an.length := fun b hb => (hs.lou b ((hs.hlo b).1 hb)).2.1
    have hfl : ∀ x ∈ s.fl, x.f ∈ freshPos E 0 all := fun x hx => (hs.fls x hx).2
    have hv : viewAt base an s.louds m s.fl s.H = seesF base (fanOf E all an) lo i s.fl s.H := sees_view hm hi hs.hlo hfl
    have up : ∀ b ∈ lo, b < i + 1 ∧ b < an.length ∧ Ahead an b := fun b hb => ⟨Nat.lt_succ_of_lt (hs.lou b hb).1, (hs.lou b hb).2⟩
    have still : ∀ {T' : Tmps}, SF E base all an pd lo (i + 1) { s with T := T' } := fun {T'} =>
      ⟨hs.hlo, fun x hx => ⟨Nat.lt_succ_of_lt (hs.fls x hx).1, (hs.fls x hx).2⟩, up, fun e he b hb => Nat.lt_succ_of_lt (hs.mask e he b hb), hs.hist, hs.vq, fun r hr => ⟨Nat.lt_succ_of_lt (hs.reads r hr).1, (hs.reads r hr).2⟩⟩
    unfold seqF at h
    have rd : ∀ {v : Value} {A1 : ASt} {T' : Tmps}, quietOp E o.op = true → aOp E o.op s.T (seesF base (fanOf E all an) lo i s.fl s.H) = .val v A1 → valEq v v = true → SF E base all an (pendIfF (hasN i un) (i, o.op, s.T, v) pd) lo (i + 1) { s with T := T', reads := ⟨i, o.op, s.T, v⟩ :: s.reads } := by
      intro v A1 T' hq h1 hval
      have hsub : ∀ p ∈ pd, p ∈ pendIfF (hasN i un) (i, o.op, s.T, v) pd := fun p hp => by
        cases hu : hasN i un with
        | true => exact List.mem_cons_of_mem _ hp
        | false => exact hp
      refine ⟨hs.hlo, fun x hx => ⟨Nat.lt_succ_of_lt (hs.fls x hx).1, (hs.fls x hx).2⟩, up, fun e he b hb => Nat.lt_succ_of_lt (hs.mask e he b hb), hs.hist, fun r hr => ?_, fun r hr => ?_⟩
      · rcases List.mem_cons.1 hr with rfl | hr
        · exact hval
        · exact hs.vq r hr
      rcases List.mem_cons.1 hr with rfl | hr
      · refine ⟨Nat.lt_succ_self _, ⟨m, hm, fun e he => ?_⟩, ?_⟩
        · rcases hs.hist e he with rfl | ⟨b, h2, h3⟩
          · refine .inr (.inr ⟨⟨A1, ?_⟩, hval⟩)
            show aOp E o.op s.T (viewAt base an s.louds m s.fl s.H) = _
            rw [hv]; exact h1
          · have hb := hs.lou b ((hs.hlo b).1 h2)
            exact .inl ⟨b, hb.2.2 i m hb.1 hm, h2, h3⟩
        · cases hun : hasN i un with
          | true => exact .inr (List.mem_cons_self ..)
          | false => exact .inl fun j o' m' hj hm' hlb hij => safeB_spec (hsf hun hq) j o' m' hj (by rw [← nth_eq]; exact hm') hlb (by simpa using hij)
      · exact ⟨Nat.lt_succ_of_lt (hs.reads r hr).1, (hs.reads r hr).2.1, (hs.reads r hr).2.2.imp id (hsub _)⟩
    -- one state behind
    have one : ∀ s', planStep E (conCall R) n base ops an i o s = some s' → ∀ pd' lo', SF E base all an pd' lo' (i + 1) s' → seqF E (conC R) n base ops un (fanOf E all an) (i + 1) l pd' lo' s'.fl s'.T s'.H K → (planN E (conCall R) n base ops an i (o :: l) s).all fun s' => Go.AE.readsOK E base an s' s'.reads = true ∧ K s'.T (addFl base (fun f => !takenAt s'.louds f 0 an) s'.fl s'.H) := by
      intro s' hs' pd' lo' h1 h2
      unfold planN
      rw [hs']
      exact planN_seqF hall hlen hok l pd' lo' (i + 1) s' hl' h1 h2
    cases hw : wantedA ops s.T o with
    | false =>
      obtain ⟨T', hT, hk⟩ := putW_putN (h.2 hw)
      refine one { s with T := T' } ?_ pd lo still hk
      unfold planStep
      rw [hm]
      simp only [hw, cond_false, hT]
    | true =>
      have h := h.1 hw
      cases hf : freshOp E o.op with
      | true =>
        have h := h.1 hf
        unfold freshW at h
        split at h
        case h_2 => exact h.elim
        rename_i ob f hfr
        obtain ⟨T', hT, hk⟩ := putW_putN h
        refine one { s with T := T', fl := ⟨i, ob⟩ :: s.fl } ?_ pd lo ?_ hk
        · unfold planStep
          rw [hm]
          simp only [hw, cond_true, hf, hfr, hT]
        · refine ⟨hs.hlo, fun x hx => ?_, up, fun e he b hb => Nat.lt_succ_of_lt (hs.mask e he b hb), hs.hist, hs.vq, fun r hr => ⟨Nat.lt_succ_of_lt (hs.reads r hr).1, ?_, (hs.reads r hr).2.2⟩⟩
          · rcases List.mem_cons.1 hx with rfl | hx
            · exact ⟨Nat.lt_succ_self _, freshPos_mem ⟨i, o, ho, Nat.zero_add _, hf⟩⟩
            · exact ⟨Nat.lt_succ_of_lt (hs.fls x hx).1, (hs.fls x hx).2⟩
          · obtain ⟨hlt, ⟨m', hm', he⟩, _⟩ := hs.reads r hr
            refine ⟨m', hm', fun e hee => ?_⟩
            rcases he e hee with h1 | h1 | ⟨⟨A', h1⟩, h2⟩
            · exact .inl h1
            · exact .inr (.inl h1)
            · refine .inr (.inr ⟨⟨A', ?_⟩, h2⟩)
              rw [← h1]
              show aOp E r.o r.T (addFl base _ (⟨i, ob⟩ :: s.fl) e.2) = _
              conv => lhs; unfold addFl
              have : m'.testBit i = false := by
                rw [Bool.eq_false_iff]
                intro hc
                have := low r.i m' hm' i hc
                omega
              simp only [this, Bool.and_false, cond_false]
              rfl
      | false =>
        have h := h.2 hf
        cases hq : quietOp E o.op with
        | true =>
          have h := h.1 hq
          cases h0 : aOp E o.op s.T { heap := .e, next := 0 } with
          | val v A0 =>
            rw [h0] at h
            obtain ⟨T', hT, hk⟩ := putW_putN (K := fun T' => seqF E (conC R) n base ops un (fanOf E all an) (i + 1) l pd lo s.fl T' s.H K) h
            refine one { s with T := T' } ?_ pd lo still hk
            unfold planStep
            rw [hm]
            simp only [hw, cond_true, hf, cond_false, hq, h0, hT]
          | enter t a A0 =>
            rw [h0] at h
            simp only [stillW] at h
            cases h1 : aOp E o.op s.T (seesF base (fanOf E all an) lo i s.fl s.H) with
            | val v A1 =>
              rw [h1] at h
              obtain ⟨hval, hp⟩ := h
              obtain ⟨T', hT, hk⟩ := putW_putN hp
              refine one { s with T := T', reads := ⟨i, o.op, s.T, v⟩ :: s.reads } ?_ _ lo ?_ hk
              · unfold planStep
                rw [hm]
                simp only [hw, cond_true, hf, cond_false, hq, h0, hv, h1, hT]
              · exact rd hq h1 hval
            | enter _ _ _ => rw [h1] at h; exact h.elim
            | bad _ => rw [h1] at h; exact h.elim
          | bad why =>
            rw [h0] at h
            simp only [stillW] at h
            cases h1 : aOp E o.op s.T (seesF base (fanOf E all an) lo i s.fl s.H) with
            | val v A1 =>
              rw [h1] at h
              obtain ⟨hval, hp⟩ := h
              obtain ⟨T', hT, hk⟩ := putW_putN hp
              refine one { s with T := T', reads := ⟨i, o.op, s.T, v⟩ :: s.reads } ?_ _ lo ?_ hk
              · unfold planStep
                rw [hm]
                simp only [hw, cond_true, hf, cond_false, hq, h0, hv, h1, hT]
              · exact rd hq h1 hval
            | enter _ _ _ => rw [h1] at h; exact h.elim
            | bad _ => rw [h1] at h; exact h.elim
        | false =>
          have h := oneW_con (h.2 hq)
          have hA : Ahead an i := by
            rcases hah with h2 | h2 | h2
            · rw [hq] at h2; cases h2
            · rw [hf] at h2; cases h2
            · exact h2
          have hlm : ∀ b, s.louds.testBit b = true → m.testBit b = true := fun b hb => (hs.lou b ((hs.hlo b).1 hb)).2.2 i m (hs.lou b ((hs.hlo b).1 hb)).1 hm
          have hbeq : Nat.beq (m &&& s.louds) s.louds = true := by
            have : m &&& s.louds = s.louds := by
              apply Nat.eq_of_testBit_eq
              intro b
              rw [Nat.testBit_and]
              cases hb : s.louds.testBit b with
              | true => rw [hlm b hb]; rfl
              | false => simp
            rw [this]; exact Nat.beq_refl _
          have hloud : loudB E o = true := by unfold loudB; rw [hf, hq]; rfl
          have hvq : ∀ r ∈ s.reads, valEq r.v r.v = true := hs.vq
          have nxt : ∀ (T' : Tmps) (H' : ASt), pendF E base (fanOf E all an) (i :: lo) s.fl H' pd → SF E base all an pd (i :: lo) (i + 1) { T := T', H := H', fl := s.fl, louds := s.louds ||| 2 ^ i, hist := (s.louds ||| 2 ^ i, H') :: s.hist, reads := s.reads } := by
            intro T' H' hpw
            have hpd := pendF_mem hpw
            have hbit : ∀ b, (s.louds ||| 2 ^ i).testBit b = true ↔ b ∈ i :: lo := by
              intro b
              rw [Nat.testBit_or, Bool.or_eq_true, Nat.testBit_two_pow, List.mem_cons, hs.hlo]
              constructor
              · rintro (h | h)
                · exact .inr h
                · exact .inl (by simpa using h : i = b).symm
              · rintro (h | h)
                · exact .inr (by simp [h])
                · exact .inl h
            have hbiti : (s.louds ||| 2 ^ i).testBit i = true := by rw [Nat.testBit_or, Nat.testBit_two_pow_self, Bool.or_true]
            have hup : ∀ b ∈ i :: lo, b < i + 1 ∧ b < an.length ∧ Ahead an b := by
              intro b hb
              rcases List.mem_cons.1 hb with rfl | hb
              · exact ⟨Nat.lt_succ_self _, hilen, hA⟩
              · exact up b hb
            refine ⟨hbit, fun x hx => ⟨Nat.lt_succ_of_lt (hs.fls x hx).1, (hs.fls x hx).2⟩, hup, fun e he b hb => ?_, fun e he => ?_, hs.vq, fun r hr => ⟨Nat.lt_succ_of_lt (hs.reads r hr).1, ?_, (hs.reads r hr).2.2⟩⟩
            · rcases List.mem_cons.1 he with rfl | he
              · exact (hup b ((hbit b).1 hb)).1
              · exact Nat.lt_succ_of_lt (hs.mask e he b hb)
            · rcases List.mem_cons.1 he with rfl | he
              · exact .inl rfl
              · refine .inr ⟨i, hbiti, ?_⟩
                rw [Bool.eq_false_iff]
                intro hc
                have := hs.mask e he i hc
                omega
            · obtain ⟨hlt, ⟨m', hm', hre⟩, hsafe⟩ := hs.reads r hr
              refine ⟨m', hm', fun e he => ?_⟩
              rcases List.mem_cons.1 he with rfl | he
              · rcases hsafe with hsafe | hpend
                · exact .inr (.inl ⟨i, m, hbiti, hm, hsafe i o m ho hm hloud hlt⟩)
                · obtain ⟨A', hA'⟩ := hpd _ hpend
                  refine .inr (.inr ⟨⟨A', ?_⟩, hvq r hr⟩)
                  rw [← hA']
                  exact congrArg (aOp E r.o r.T) (sees_view hm' (fun b hb => (hup b ((hbit b).1 hb)).2.1) hbit hfl)
              · rcases hre e he with ⟨b, h1, h2, h3⟩ | h1 | h1
                · refine .inl ⟨b, h1, ?_, h3⟩
                  show (s.louds ||| 2 ^ i).testBit b = true
                  rw [Nat.testBit_or, h2, Bool.true_or]
                · exact .inr (.inl h1)
                · exact .inr (.inr h1)
          cases hr : oneOp E (conCall R) o s.T (seesF base (fanOf E all an) lo i s.fl s.H) with
          | ret r =>
            rw [hr] at h
            obtain ⟨T', hT, hk⟩ := putW_putN (K := fun T' => seqF E (conC R) n base ops un (fanOf E all an) (i + 1) l pd (i :: lo) s.fl T' r.2 K) h.2
            refine one { T := T', H := r.2, fl := s.fl, louds := s.louds ||| 2 ^ i, hist := (s.louds ||| 2 ^ i, r.2) :: s.hist, reads := s.reads } ?_ pd (i :: lo) (nxt _ _ h.1) hk
            unfold planStep
            rw [hm]
            simp only [hw, cond_true, hf, cond_false, hq, hbeq, hv, hr, hT]
          | _ =>
            have hnone : planStep E (conCall R) n base ops an i o s = none := by
              unfold planStep
              rw [hm]
              simp only [hw, cond_true, hf, cond_false, hq, hbeq, hv, hr]
            have hb : allBehind i (an.drop (i + 1)) = true := allBehind_of fun k m' hk => by
              rw [List.getElem?_drop, ← nth_eq] at hk
              exact hA _ m' (by omega) hk
            unfold planN
            rw [hnone, hm]
            simp only [hw, hf, hq, hbeq, hb, hs.readsOK, Bool.not_false, Bool.and_self, cond_true, hv]
            refine Nd.all_bind' _ (Nd.all_mono (fun r hr2 => ?_) h)
            obtain ⟨T', hT, hk⟩ := putW_putN (K := fun T' => seqF E (conC R) n base ops un (fanOf E all an) (i + 1) l pd (i :: lo) s.fl T' r.2 K) hr2.2
            simp only [hT]
            exact planN_seqF hall hlen hok l pd (i :: lo) (i + 1) _ hl' (nxt _ _ hr2.1) hk
end

theorem seqF_strip {E : Env} {C : Tgt → List Value → ASt → (Value → ASt → Prop) → Prop} {n base : Nat} {all : List Oper} {un : List Nat} {fan : List (List Nat)} {K : Tmps → ASt → Prop} : ∀ {l : List Oper} {i : Nat} {pd : List PendF} {lo : List Nat} {fl : List Fl} {T : Tmps} {H : ASt}, seqF E C n base (all.map strip).toArray un fan i (l.map strip) pd lo fl T H K = seqF E C n base all.toArray un fan i l pd lo fl T H K
  | [], _, _, _, _, _, _ => by rw [List.map_nil, seqF, seqF]
  | o :: l, i, pd, lo, fl, T, H => by
    have ih : ∀ pd lo fl H, (fun T' => seqF E C n base (all.map strip).toArray un fan (i + 1) (l.map strip) pd lo fl T' H K) = fun T' => seqF E C n base all.toArray un fan (i + 1) l pd lo fl T' H K := fun pd lo fl H => funext fun T' => seqF_strip (l := l)
    have hb : ∀ {b b' : Bool} {x x' y y' : Prop}, b = b' → x = x' → y = y' → brW b x y = brW b' x' y' := fun h1 h2 h3 => by rw [h1, h2, h3]
    rw [List.map_cons]
    unfold seqF
    refine hb wantedA_strip (hb rfl ?_ (hb rfl ?_ ?_)) ?_
    · refine congrArg (freshW (aFresh E o.op T)) (funext fun ob => funext fun f => ?_)
      show putW n T o.dst (f (base + i)) (fun T' => seqF E C n base (all.map strip).toArray un fan (i + 1) (l.map strip) pd lo (⟨i, ob⟩ :: fl) T' H K) = _
      rw [ih]
    · show stillW (aOp E o.op T { heap := .e, next := 0 }) (aOp E o.op T (seesF base fan lo i fl H)) (fun v => putW n T o.dst v (fun T' => seqF E C n base (all.map strip).toArray un fan (i + 1) (l.map strip) pd lo fl T' H K)) (fun v => putW n T o.dst v (fun T' => seqF E C n base (all.map strip).toArray un fan (i + 1) (l.map strip) (pendIfF (hasN i un) (i, o.op, T, v) pd) lo fl T' H K)) = _
      have h1 : (fun v => putW n T o.dst v (fun T' => seqF E C n base (all.map strip).toArray un fan (i + 1) (l.map strip) pd lo fl T' H K)) = fun v => putW n T o.dst v (fun T' => seqF E C n base all.toArray un fan (i + 1) l pd lo fl T' H K) := funext fun v => by rw [ih]
      have h2 : (fun v => putW n T o.dst v (fun T' => seqF E C n base (all.map strip).toArray un fan (i + 1) (l.map strip) (pendIfF (hasN i un) (i, o.op, T, v) pd) lo fl T' H K)) = fun v => putW n T o.dst v (fun T' => seqF E C n base all.toArray un fan (i + 1) l (pendIfF (hasN i un) (i, o.op, T, v) pd) lo fl T' H K) := funext fun v => by rw [ih]
      rw [h1, h2]
    · show oneW E C o.op T (seesF base fan lo i fl H) (fun v H' => pendF E base fan (i :: lo) fl H' pd ∧ putW n T o.dst v (fun T' => seqF E C n base (all.map strip).toArray un fan (i + 1) (l.map strip) pd (i :: lo) fl T' H' K)) = _
      have h1 : (fun v H' => pendF E base fan (i :: lo) fl H' pd ∧ putW n T o.dst v (fun T' => seqF E C n base (all.map strip).toArray un fan (i + 1) (l.map strip) pd (i :: lo) fl T' H' K)) = fun v H' => pendF E base fan (i :: lo) fl H' pd ∧ putW n T o.dst v (fun T' => seqF E C n base all.toArray un fan (i + 1) l pd (i :: lo) fl T' H' K) := funext fun v => funext fun H' => by rw [ih]
      rw [h1]
    · show putW n T o.dst undef (fun T' => seqF E C n base (all.map strip).toArray un fan (i + 1) (l.map strip) pd lo fl T' H K) = _
      rw [ih]

theorem CodeW.seqf {Z : Road} {E : Env} {P : Program} (hE : EnvOK E P) (hZr : RoadRo Z E) (hm : P.follows .mixedOrders = true) {R : Tgt → List Value → ASt → (Value → ASt → Prop) → Prop} (hR : ∀ t args A S, R t args A S → CallT Z P t args A S)
    {n id : Nat} {ro : Option Nat} {T : Tmps} {A : ASt} {Q : Out → Prop} {ps : Array Oper} (π un : List Nat) (fan : List (List Nat)) {l : List Oper} (hl : (reorder π ps.toList).map strip = l) (hp : permOK π ps.toList.length = true) (hreg : regOK (reorder π ps.toList).toArray (ancs (reorder π ps.toList) []) (reorder π ps.toList) 0 (reorder π ps.toList) = true)
    (hn : Nat.beq (ancs (reorder π ps.toList) []).length (reorder π ps.toList).length = true) (hs : seqFOK E (reorder π ps.toList) (ancs (reorder π ps.toList) []) un 0 (reorder π ps.toList) = true) (hfan : fanOf E (reorder π ps.toList) (ancs (reorder π ps.toList) []) = fan)
    (h : seqF E (conC R) n A.next l.toArray un fan 0 l [] [] [] T { heap := A.heap, next := A.next + l.length } fun T' A' => Q (.fr ⟨.normal, T', A'⟩)) : CodeW Z P n ro (.region id ps true) T A Q := by
  refine CodeW.drawnR hE hZr hm (conCall_sound hR) π hp ?_
  subst hl hfan
  rw [seqF_strip, List.length_map] at h
  generalize reorder π ps.toList = l at hreg hn hs h ⊢
  unfold drawRun
  rw [show (l.toArray).toList = l by simp, hreg, cond_true]
  simp only [fN_eq]
  refine Nd.all_bind' _ ?_
  have hs0 : SF E A.next l (ancs l []) [] [] 0 { T, H := { heap := A.heap, next := A.next + l.length }, fl := [], louds := 0, hist := [(0, { heap := A.heap, next := A.next + l.length })], reads := [] } :=
    ⟨(by simp), (by simp), (by simp), (fun e he b hb => by simp at he; subst he; simp at hb), (fun e he => by simp at he; exact .inl he), (by simp), (by simp)⟩
  refine Nd.all_mono (fun s hq => ?_) (planN_seqF (R := R) (ops := l.toArray) (by simp) (Nat.eq_of_beq_eq_true hn) hs l [] [] 0 _ rfl hs0 h)
  obtain ⟨h1, h2⟩ := hq
  rw [h1, cond_true]
  exact h2

def noCon : Tgt → List Value → ASt → (Value → ASt → Prop) → Prop := fun _ _ _ _ => False
theorem noCon_ok {Z : Road} {P : Program} (t args A S) (h : noCon t args A S) : CallT Z P t args A S := h.elim

def f_0 := And.intro @seqF_nil (And.intro @seqF_cons (And.intro @seesF_nil (And.intro @seesF_cons (And.intro @restF_nil (And.intro @restF_cons (And.intro @tkn_nil (And.intro @tkn_cons (And.intro @fanAt_eq (And.intro @pendF_nil (And.intro @pendF_cons (And.intro @pendIfF_t @pendIfF_f)))))))))))
end Go.AE

/- The evaluator: the equations of the walk, all of them as one. -/
namespace Go.AE
open Go
set_option linter.defProp false
def s_0 := And.intro @tg_eq (And.intro @tgN_eq (And.intro @brW_true (And.intro @brW_false (And.intro @c_skip (And.intro @c_ret (And.intro @c_exit (And.intro @c_seq (And.intro @c_cond (And.intro @condW_b (And.intro @c_block (And.intro @c_scope (And.intro @c_region (And.intro @c_drawn (And.intro @c_loop (And.intro @onw_n (And.intro @onw_r (And.intro @onw_e (And.intro @outb_e (And.intro @outb_o (And.intro @outb_n (And.intro @outb_r (And.intro @putW_some (And.intro @putW_none (And.intro @opsW_arr (And.intro @opsW_nil (And.intro @opsW_cons (And.intro @wanted_none (And.intro @wanted_some (@guardB_some)))))))))))))))))))))))))))))
def s_1 := And.intro @oneW_next (And.intro @oneW_move (And.intro @oneW_assign (And.intro @oneW_pick (And.intro @oneW_build (And.intro @oneW_load (And.intro @oneW_store (And.intro @oneW_nilCheck (And.intro @oneW_binOp (And.intro @oneW_unOp (And.intro @oneW_makeFunc (And.intro @oneW_slice (And.intro @oneW_fieldAddr (And.intro @oneW_field (And.intro @oneW_indexAddr (And.intro @oneW_index (And.intro @oneW_lookup (And.intro @oneW_mapUpdate (And.intro @oneW_range (And.intro @oneW_entry (And.intro @oneW_extract (And.intro @oneW_call (And.intro @oneW_alloc (And.intro @oneW_box (And.intro @oneW_makeMap (And.intro @oneW_buildSlice (And.intro @oneW_convert (And.intro @arW_val (And.intro @ofVal_some (@plain_val)))))))))))))))))))))))))))))
def s_2 := And.intro @aOp_move (And.intro @aOp_assign (And.intro @aOp_pick (And.intro @aOp_build (And.intro @aOp_load (And.intro @aOp_store (And.intro @aOp_nilCheck (And.intro @aOp_binOp (And.intro @aOp_unOp (And.intro @aOp_makeFunc (And.intro @aOp_slice (And.intro @aOp_fieldAddr (And.intro @aOp_field (And.intro @aOp_indexAddr (And.intro @aOp_index (And.intro @aOp_lookup (And.intro @aOp_mapUpdate (And.intro @aOp_range (And.intro @aOp_entry (And.intro @aOp_extract (And.intro @aOp_call (And.intro @aOp_alloc (And.intro @aOp_box (And.intro @aOp_makeMap (And.intro @aOp_buildSlice (And.intro @aInvoke_func (And.intro @nbeq (And.intro @nble (And.intro @nblt (@decide_true)))))))))))))))))))))))))))))
def s_3 := And.intro @decide_false (And.intro @decide_eq_true_eq (And.intro @Bool.false_eq_true (And.intro @Bool.and_true (And.intro @Bool.true_and (And.intro @Bool.not_true (And.intro @Bool.not_false (And.intro @bq_t (And.intro @bq_f (And.intro @tget_put (And.intro @b_add (And.intro @b_sub (And.intro @b_mul (And.intro @b_xor (And.intro @b_eql (And.intro @b_neq (And.intro @b_lss (And.intro @b_leq (And.intro @b_gtr (And.intro @b_geq (And.intro @b_shr (And.intro @true_implies (And.intro @false_implies (And.intro @and_true (And.intro @true_and (And.intro @ASt.get_set (And.intro @ASt.get_new (And.intro @ASt.next_set (And.intro @ASt.next_new (@Nat.zero_add)))))))))))))))))))))))))))))
def s_4 := And.intro @Nat.add_zero (@ctor_self)
def q_0 := And.intro @seqW_nil (And.intro @seqW_cons (And.intro @pendIf_t (And.intro @pendIf_f (And.intro @AR.val.injEq (And.intro @and_self (And.intro @fresh_move (And.intro @quiet_move (And.intro @fresh_assign (And.intro @quiet_assign (And.intro @fresh_pick (And.intro @quiet_pick (And.intro @fresh_build (And.intro @quiet_build (And.intro @fresh_load (And.intro @quiet_load (And.intro @fresh_store (And.intro @quiet_store (And.intro @fresh_nilCheck (And.intro @quiet_nilCheck (And.intro @fresh_binOp (And.intro @quiet_binOp (And.intro @fresh_unOp (And.intro @quiet_unOp (And.intro @fresh_makeFunc (And.intro @quiet_makeFunc (And.intro @fresh_slice (And.intro @quiet_slice (And.intro @fresh_fieldAddr (@quiet_fieldAddr)))))))))))))))))))))))))))))
def q_1 := And.intro @fresh_field (And.intro @quiet_field (And.intro @fresh_indexAddr (And.intro @quiet_indexAddr (And.intro @fresh_index (And.intro @quiet_index (And.intro @fresh_lookup (And.intro @quiet_lookup (And.intro @fresh_mapUpdate (And.intro @quiet_mapUpdate (And.intro @fresh_range (And.intro @quiet_range (And.intro @fresh_entry (And.intro @quiet_entry (And.intro @fresh_extract (And.intro @quiet_extract (And.intro @fresh_call (And.intro @quiet_call (And.intro @fresh_alloc (And.intro @quiet_alloc (And.intro @fresh_box (And.intro @quiet_box (And.intro @fresh_makeMap (And.intro @quiet_makeMap (And.intro @fresh_buildSlice (And.intro @quiet_buildSlice (And.intro @quietC_value (And.intro @quietC_len (And.intro @quietC_cap (@quietC_append)))))))))))))))))))))))))))))
def q_2 := And.intro @quietC_delete (And.intro @fr_buildSlice (And.intro @stillW_val (And.intro @stillW_bad (And.intro @readW_val (And.intro @freshW_some (And.intro @Bool.true_or (And.intro @Bool.false_or (And.intro @Bool.or_true (And.intro @Bool.or_false (And.intro @get_empty (And.intro @get_next (And.intro @ofVal_none (And.intro @valEq_int (And.intro @valEq_str (And.intro @valEq_bool (And.intro @valEq_map (And.intro @valEq_ptr (And.intro @valEq_slice (And.intro @valEq_nilSlice (@valEq_mapNil))))))))))))))))))))
end Go.AE

/- The evaluator: more equations: a conversion, an index. -/
namespace Go.AE
open Go

theorem aOp_convert {E : Env} {s d : TypeId} {x : Operand} {T : Tmps} {A : ASt} (hf : freshOp E (.convert s d x) = false) : aOp E (.convert s d x) T A = (match ev T x with
    | some v => ofVal (aConvert E s d v A) A "convert"
    | none => .bad "convert") := by rw [aOp_def, hf]; rfl
theorem conv_int {E : Env} {s d : TypeId} {i j : TIn} (hs : E.ti s = some i) (hd : E.ti d = some j) {k : IntKind} (hj : j.desc = .int k) {k' : IntKind} {n : Int} {A : ASt} : aConvert E s d (.int k' n) A = some (.int k (k.wrap n)) := by
  simp only [aConvert, hs, hd, hj]
end Go.AE

/- The evaluator: what its functions unfold to, all of it as one. -/
namespace Go.AE
open Go
set_option linter.defProp false
def d_0 := And.intro @Hands.eq_1 (And.intro @Hands.eq_2 (And.intro @Hands.eq_3 (And.intro @handsV.eq_1 (And.intro @handsV.eq_2 (And.intro @resultsV.eq_1 (And.intro @resultsV.eq_2 (And.intro @resultsV.eq_3 (And.intro @oneOrTuple.eq_1 (And.intro @oneOrTuple.eq_2 (And.intro @argsT.eq_1 (And.intro @argsT.eq_2 (And.intro @ev.eq_1 (And.intro @ev.eq_2 (And.intro @ev.eq_3 (And.intro @ev.eq_4 (And.intro @evs.eq_1 (And.intro @evs.eq_2 (And.intro @evPairs.eq_1 (And.intro @evPairs.eq_2 (And.intro @evOpt.eq_1 (And.intro @evOpt.eq_2 (And.intro @nth.eq_1 (And.intro @nth.eq_2 (And.intro @nth.eq_3 (And.intro @aCall.eq_1 (And.intro @aEnter.eq_1 (And.intro @notYield.eq_1 (And.intro @notYield.eq_2 (And.intro @aNilCheck.eq_1 (And.intro @aNilCheck.eq_2 (And.intro @aNilCheck.eq_3 (And.intro @aNilCheck.eq_4 (And.intro @aNilCheck.eq_5 (And.intro @aNilCheck.eq_6 (And.intro @partV.eq_1 (And.intro @isAggD.eq_1 (And.intro @isAggD.eq_2 (And.intro @isAggD.eq_3 (And.intro @aExtract.eq_1 (And.intro @aExtract.eq_2 (And.intro @aUn.eq_1 (And.intro @aUn.eq_2 (And.intro @aUn.eq_3 (And.intro @aUn.eq_4 (And.intro @closed.eq_1 (And.intro @closed.eq_2 (@closed.eq_3)))))))))))))))))))))))))))))))))))))))))))))))
end Go.AE

/- The evaluator: a start with slices that are read alone. -/
namespace Go.AE
open Go Go.RowKit

abbrev Spans := List (Loc × List Value)
noncomputable def roRen (s : Spans) : Ren := fun k => (s[k]?).map (·.1)
noncomputable def roTab (s : Spans) : Nat → Option (List Value) := fun k => (s[k]?).map (·.2)
noncomputable def withRo (E : Env) (s : Spans) : Env := { E with ro := roTab s }
theorem withRo_ok {E : Env} {P : Program} {s : Spans} (h : EnvOK E P) : EnvOK (withRo E s) P := ⟨h.1, h.2, h.3, h.4⟩

theorem rep_ro (s : Spans) (W : World) : Rep (roRen s) (startAt s.length) W := by
  refine ⟨fun b o h => ?_, fun b b' o o' L L' _ h => ?_, fun b hb => ?_⟩
  · cases h
  · cases h
  · unfold roRen
    rw [List.getElem?_eq_none hb]; rfl

noncomputable abbrev roadRo (s : Spans) (W : World) : Road := roadFrom (roRen s) (startAt s.length) W

theorem cell_below {W w : World} (h : Below W.heap.size W w) {B j : Nat} {v : Value} (hc : W.cell? ⟨B, j, none⟩ = some v) : w.cell? ⟨B, j, none⟩ = some v := by
  unfold World.cell? at hc ⊢
  have hB : B < W.heap.size := by
    by_cases hlt : B < W.heap.size
    · exact hlt
    · have e : W.heap[B]? = none := Array.getElem?_eq_none (by omega)
      simp only [e] at hc
      cases hc
  have e := h.block B hB
  simp only [e]
  exact hc

theorem Step.below' {ρ₀ ρ : Ren} {n : Nat} {A : ASt} {W w : World} (h : Step ρ₀ (startAt n) W ρ A w) : Below W.heap.size W w := Step.below h

theorem calls_ro {P : Program} {s : Spans} {W : World} {f : FuncId} {args : List Value} {args' : Array Value} (ha : VsRel (roRen s) args args'.toList) {Q : Value → ASt → Prop} (h : CallW (roadRo s W) P f args (startAt s.length) Q) :
    Calls P f args' W fun e w' => ∃ v A' v' ρ', Q v A' ∧ e = .returned v' ∧ VRel ρ' v v' ∧ Below W.heap.size W w' :=
  (h (roRen s) W args' (Step.refl (rep_ro s W)) ha).mono fun e w' ⟨v, A', v', ρ', hq, he, hv, hst⟩ => ⟨v, A', v', ρ', hq, he, hv, Step.below hst⟩

theorem calls_ro_true {P : Program} {s : Spans} {W : World} {f : FuncId} {args : List Value} {args' : Array Value} (ha : VsRel (roRen s) args args'.toList) (h : CallW (roadRo s W) P f args (startAt s.length) (fun v _ => v = .bool true)) :
    Calls P f args' W fun e w' => e = .returned (.bool true) ∧ Below W.heap.size W w' :=
  (calls_ro ha h).mono fun e w' ⟨v, A', v', ρ', hq, he, hv, hb⟩ => by
    subst hq
    cases hv
    exact ⟨he, hb⟩
end Go.AE

/- The evaluator: frames; slices of rows of cells, wherever they lie, also in rows that are read alone. -/
namespace Go.AE
open Go
set_option linter.defProp false

structure Fr (own : List Nat) (A A' : ASt) : Prop where
  next : A.next ≤ A'.next
  get : ∀ b, b < A.next → b ∉ own → A'.get b = A.get b

theorem Fr.refl (own : List Nat) (A : ASt) : Fr own A A := ⟨Nat.le_refl _, fun _ _ _ => rfl⟩
theorem Fr.trans {own : List Nat} {A B C : ASt} (h : Fr own A B) (k : Fr own B C) : Fr own A C :=
  ⟨Nat.le_trans h.next k.next, fun b hb hn => (k.get b (Nat.lt_of_lt_of_le hb h.next) hn).trans (h.get b hb hn)⟩
theorem Fr.sub {own own' : List Nat} {A B : ASt} (h : Fr own A B) (hs : ∀ b ∈ own, b ∈ own') : Fr own' A B := ⟨h.next, fun b hb hn => h.get b hb fun hm => hn (hs b hm)⟩
theorem Fr.nil {own : List Nat} {A B : ASt} (h : Fr [] A B) : Fr own A B := h.sub (by simp)
theorem Fr.new {own : List Nat} {A : ASt} {o : AObj} : Fr own A (A.new o) := ⟨by rw [ASt.next_new]; omega, fun b hb _ => by rw [ASt.get_new, if_neg (by omega)]⟩
theorem Fr.set {own : List Nat} {A B : ASt} {b : Nat} {o : AObj} (h : Fr own A B) (hb : b ∈ own ∨ A.next ≤ b) : Fr own A (B.set b o) := ⟨by rw [ASt.next_set]; exact h.next, fun x hx hn => by
  rw [ASt.get_set, if_neg]
  · exact h.get x hx hn
  · rintro rfl
    rcases hb with hb | hb
    · exact hn hb
    · omega⟩
theorem Fr.bump {own : List Nat} {A : ASt} {n : Nat} (h : A.next ≤ n) : Fr own A { heap := A.heap, next := n } := ⟨h, fun b _ _ => get_next⟩
theorem Fr.fresh {own l : List Nat} {A B C : ASt} (h : Fr own A B) (k : Fr (own ++ l) B C) (hl : ∀ b ∈ l, A.next ≤ b) : Fr own A C := ⟨Nat.le_trans h.next k.next, fun b hb hn => by
  rw [k.get b (Nat.lt_of_lt_of_le hb h.next) (fun hm => by
    rcases List.mem_append.1 hm with hm | hm
    · exact hn hm
    · have := hl b hm; omega)]
  exact h.get b hb hn⟩

section
variable {E : Env} {s : Spans}
theorem wti {t : TypeId} : (withRo E s).ti t = E.ti t := congrArg (fun x => x) rfl
theorem wfn {f : FuncId} : (withRo E s).fn f = E.fn f := congrArg (fun x => x) rfl
theorem wext {f : FuncId} : (withRo E s).ext f = E.ext f := congrArg (fun x => x) rfl
theorem wbin {op : BinOp} {t : TypeId} {xo yo : Operand} {x y : Value} : aBin2 (withRo E s) op t xo yo x y = aBin2 E op t xo yo x y := congrArg (fun x => x) rfl
theorem wbox {t : TypeId} {v : Value} : aBox (withRo E s) t v = aBox E t v := congrArg (fun x => x) rfl
theorem wlen {t : TypeId} {v : Value} {A : ASt} : aLen (withRo E s) t v A = aLen E t v A := congrArg (fun x => x) rfl
theorem wix {t : TypeId} {x i : Value} : aIndexAddr (withRo E s) t x i = aIndexAddr E t x i := congrArg (fun x => x) rfl
theorem widx {t : TypeId} {x i : Value} : aIndex (withRo E s) t x i = aIndex E t x i := congrArg (fun x => x) rfl
theorem wcv {a b : TypeId} {v : Value} {A : ASt} : aConvert (withRo E s) a b v A = aConvert E a b v A := congrArg (fun x => x) rfl
theorem wbs {t : TypeId} {n : Nat} {l : List (Nat × Value)} : aBuildSlice (withRo E s) t n l = aBuildSlice E t n l := congrArg (fun x => x) rfl
theorem wplaces : ∀ {l : List Field}, places (withRo E s) l = places E l
  | [] => rfl
  | f :: l => by simp only [places, wti, wplaces (l := l)]
theorem wbl {t : TypeId} {l : List (Nat × Value)} : aBuild (withRo E s) t l = aBuild E t l := by simp only [aBuild, wti, wplaces]
theorem wal {t : TypeId} : aAlloc (withRo E s) t = aAlloc E t := congrArg (fun x => x) rfl
theorem wst {t : TypeId} {a v : Value} {A : ASt} : aStore (withRo E s) t a v A = aStore E t a v A := congrArg (fun x => x) rfl
theorem wlk {t : TypeId} {x k : Value} {ok : Bool} {A : ASt} : aLookup (withRo E s) t x k ok A = aLookup E t x k ok A := congrArg (fun x => x) rfl
theorem wup {t : TypeId} {m k v : Value} {A : ASt} : aMapUpdate (withRo E s) t m k v A = aMapUpdate E t m k v A := congrArg (fun x => x) rfl
theorem wdl {t : TypeId} {m k : Value} {A : ASt} : aDelete (withRo E s) t m k A = aDelete E t m k A := congrArg (fun x => x) rfl
theorem wrg {t : TypeId} {m : Value} {A : ASt} : aRange (withRo E s) t m A = aRange E t m A := congrArg (fun x => x) rfl
theorem wsl {t : TypeId} {x : Value} {lo hi mx : Option Value} {A : ASt} : aSlice (withRo E s) t x lo hi mx A = aSlice E t x lo hi mx A := congrArg (fun x => x) rfl
theorem wfa {t : TypeId} {x : Value} {f : Nat} : aFieldAddr (withRo E s) t x f = aFieldAddr E t x f := congrArg (fun x => x) rfl
theorem wfd {t : TypeId} {x : Value} {f : Nat} : aField (withRo E s) t x f = aField E t x f := congrArg (fun x => x) rfl
theorem wpt {t : TypeId} {c : List Value} {off : Nat} : partV (withRo E s) t c off = partV E t c off := congrArg (fun x => x) rfl
def w_w := And.intro @wti (And.intro @wfn (And.intro @wext (And.intro @wbin (And.intro @wbox (And.intro @wlen (And.intro @wix (And.intro @widx (And.intro @wcv (And.intro @wbs (And.intro @wbl (And.intro @wal (And.intro @wst (And.intro @wlk (And.intro @wup (And.intro @wdl (And.intro @wrg (And.intro @wsl (And.intro @wfa (And.intro @wfd @wpt)))))))))))))))))))
end

section
variable {E : Env} {A A' : ASt}

noncomputable def cellsG (E : Env) (b : Nat) : Option AObj → Option (List Value)
  | some (.row c _ _) => some c
  | none => E.ro b
  | _ => none
theorem cellsG_row {b sz : Nat} {c : List Value} {tl : Bool} : cellsG E b (some (.row c sz tl)) = some c := by rw [cellsG]
theorem cellsG_none {b : Nat} : cellsG E b none = E.ro b := by rw [cellsG]
noncomputable def ldG (E : Env) (t : TypeId) (off : Nat) : Option (List Value) → Option Value
  | some c => partV E t c off
  | none => none
theorem ldG_some {t : TypeId} {off : Nat} {c : List Value} : ldG E t off (some c) = partV E t c off := by rw [ldG]
theorem ldG_none {t : TypeId} {off : Nat} : ldG E t off none = none := by rw [ldG]
theorem aLoad_g {t : TypeId} {b off : Nat} : aLoad E t (.pointer (some ⟨b, off, none⟩)) A = ldG E t off (cellsG E b (A.get b)) := by
  simp only [aLoad]
  cases A.get b with
  | none => simp only [cellsG]; cases E.ro b <;> rfl
  | some o => cases o <;> rfl
theorem ro_of {s : Spans} {b : Nat} : (withRo E s).ro b = roTab s b := congrArg (fun x => x) rfl
theorem eq_add_k {n k : Nat} : (n = n + k) = (k = 0) := by simp
theorem add_k_eq {n k : Nat} : (n + k = n) = (k = 0) := by simp
theorem b_seql {t : TypeId} {xo yo : Operand} {a b : ByteArray} : aBin2 E .eql t xo yo (.string a) (.string b) = some (.bool (decide (a = b))) := by
  show some (Value.bool (bytesEq a.data.toList b.data.toList)) = _
  rw [bytesEq_iff]
theorem b_sneq {t : TypeId} {xo yo : Operand} {a b : ByteArray} : aBin2 E .neq t xo yo (.string a) (.string b) = some (.bool (decide (a ≠ b))) := by
  show some (Value.bool (!bytesEq a.data.toList b.data.toList)) = _
  rw [bytesEq_iff]
  simp
def g_0 := And.intro @eq_add_k (And.intro @add_k_eq <| And.intro @aLoad_g (And.intro @ldG_some <| And.intro @ldG_none (And.intro @cellsG_row @cellsG_none)))

def CellsAt (E : Env) (A : ASt) (b : Nat) (c : List Value) : Prop := (A.get b = none ∧ E.ro b = some c) ∨ ((∃ sz tl, A.get b = some (.row c sz tl)) ∧ E.ro b = none)
theorem CellsAt.g {b : Nat} {c : List Value} (h : CellsAt E A b c) : cellsG E b (A.get b) = some c := by
  rcases h with ⟨h1, h2⟩ | ⟨⟨sz, tl, h1⟩, _⟩
  · rw [h1, cellsG_none]; exact h2
  · rw [h1, cellsG_row]
theorem CellsAt.congr {b : Nat} {c : List Value} (h : CellsAt E A b c) (e : A'.get b = A.get b) : CellsAt E A' b c := by unfold CellsAt at *; rw [e]; exact h
theorem CellsAt.of_row {b sz : Nat} {c : List Value} {tl : Bool} (h : A.get b = some (.row c sz tl)) (hr : E.ro b = none) : CellsAt E A b c := .inr ⟨⟨sz, tl, h⟩, hr⟩
theorem CellsAt.src {b o sz n len cap : Nat} {c : List Value} (h : CellsAt E A b c) : srcCells E sz (.slice (some ⟨b, o, none⟩) len cap) n A = cut c o (n * sz) := by
  have h := h.g
  simp only [srcCells]
  cases hg : A.get b with
  | none =>
    rw [hg, cellsG_none] at h
    rw [h]
  | some ob =>
    rw [hg] at h
    cases ob <;> simp only [cellsG] at h <;> first | (cases h; rfl) | cases h

structure RoadS (Z : Road) (E : Env) (s : Spans) : Prop where
  ro : RoadRo Z (withRo E s)
  nx : ∀ ρ A w, Z.reach ρ A w → s.length ≤ A.next
theorem CallW.assume {Z : Road} {P : Program} {E : Env} {s : Spans} (hZ : RoadS Z E s) {f : FuncId} {args : List Value} {A : ASt} {Q : Value → ASt → Prop} (h : (∀ b, A.next ≤ b → (withRo E s).ro b = none) → CallW Z P f args A Q) : CallW Z P f args A Q := by
  intro ρ w args' hR ha
  refine h (fun b hb => ?_) ρ w args' hR ha
  have := hZ.nx _ _ _ hR
  rw [ro_of]
  unfold roTab
  rw [List.getElem?_eq_none (by omega)]; rfl

def SlAt (E : Env) (A : ASt) (S : Nat → Prop) (sz : Nat) (v : Value) (l : List (List Value)) : Prop :=
  (l = [] ∧ (v = .slice none 0 0 ∨ v = zslice)) ∨ ∃ b o cap c, v = .slice (some ⟨b, o, none⟩) l.length cap ∧ CellsAt E A b c ∧ S b ∧ b < A.next ∧ (∀ x ∈ l, x.length = sz) ∧ cut c o (l.length * sz) = some l.flatten

variable {S : Nat → Prop} {sz : Nat} {v : Value} {l : List (List Value)}
theorem SlAt.fr {own : List Nat} (h : SlAt E A S sz v l) (hf : Fr own A A') (ho : ∀ b, S b → b < A.next → b ∉ own) : SlAt E A' S sz v l := by
  rcases h with h | ⟨b, o, cap, c, rfl, hb, hs, hn, h1, h2⟩
  · exact .inl h
  · exact .inr ⟨b, o, cap, c, rfl, hb.congr (hf.get b hn (ho b hs hn)), hs, Nat.lt_of_lt_of_le hn hf.next, h1, h2⟩
theorem SlAt.imp {S' : Nat → Prop} (h : SlAt E A S sz v l) (hi : ∀ b, S b → b < A.next → S' b) : SlAt E A S' sz v l := by
  rcases h with h | ⟨b, o, cap, c, rfl, hb, hs, hn, h1, h2⟩
  · exact .inl h
  · exact .inr ⟨b, o, cap, c, rfl, hb, hi b hs hn, hn, h1, h2⟩
theorem SlAt.nil : SlAt E A S sz (.slice none 0 0) [] := .inl ⟨rfl, .inl rfl⟩
theorem SlAt.zero : SlAt E A S sz zslice [] := .inl ⟨rfl, .inr rfl⟩
theorem valEq_zslice : valEq zslice zslice = true := by simp [valEq, vEq, vStep, flatEq, lEq]
theorem SlAt.form (h : SlAt E A S sz v l) : ∃ b c, v = .slice b l.length c := by
  rcases h with ⟨rfl, rfl | rfl⟩ | ⟨b, o, cap, c, rfl, _⟩
  · exact ⟨_, _, rfl⟩
  · exact ⟨_, _, rfl⟩
  · exact ⟨_, _, rfl⟩
theorem SlAt.ve (h : SlAt E A S sz v l) : valEq v v = true := by
  rcases h with ⟨_, rfl | rfl⟩ | ⟨b, o, cap, _, rfl, _⟩
  · exact valEq_nilSlice
  · exact valEq_zslice
  · exact valEq_slice
theorem SlAt.single (h : SlAt E A S sz v l) : single v = true := by
  rcases h with ⟨_, rfl | rfl⟩ | ⟨b, o, cap, _, rfl, _⟩ <;> rfl
theorem SlAt.cells1 (h : SlAt E A S sz v l) : v.cells = #[v] := by
  rcases h with ⟨_, rfl | rfl⟩ | ⟨b, o, cap, _, rfl, _⟩ <;> rfl
theorem SlAt.len (h : SlAt E A S sz v l) {t e : TypeId} {i : TIn} (ht : E.ti t = some i) (hd : i.desc = .slice e) (B : ASt) : aLen E t v B = some (.int .i64 (l.length : Int)) := by
  obtain ⟨b, c, rfl⟩ := h.form
  simp only [aLen, ht, hd]; rfl

theorem cut_flat {c : List Value} : ∀ {l : List (List Value)} {o i sz : Nat} {x : List Value}, cut c o (l.length * sz) = some l.flatten → (∀ x ∈ l, x.length = sz) → l[i]? = some x → cut c (o + i * sz) sz = some x
  | [], o, i, sz, x, _, _, h => by simp at h
  | y :: l, o, i, sz, x, hc, hl, hx => by
    obtain ⟨h1, h2, h3⟩ := cut_some hc
    have hy : y.length = sz := hl y (by simp)
    rw [List.flatten_cons] at h1 h2
    have e1 : ((c.drop o).take ((y :: l).length * sz)) = y ++ l.flatten := h1.symm
    rw [List.length_cons, Nat.succ_mul] at e1
    have ey : (c.drop o).take sz = y := by
      have := congrArg (List.take sz) e1
      rw [List.take_take, Nat.min_eq_left (Nat.le_add_left sz _), List.take_append_of_le_length (Nat.le_of_eq hy.symm), List.take_of_length_le (Nat.le_of_eq hy)] at this
      exact this
    cases i with
    | zero =>
      simp at hx; subst hx
      rw [Nat.zero_mul, Nat.add_zero]
      unfold cut
      simp only [ey, hy, Nat.beq_refl, cond_true]
    | succ i =>
      have er : (c.drop (o + sz)).take (l.length * sz) = l.flatten := by
        have := congrArg (List.drop sz) e1
        rw [List.drop_take, List.drop_drop, List.drop_append_of_le_length (Nat.le_of_eq hy.symm), List.drop_of_length_le (Nat.le_of_eq hy), List.nil_append] at this
        rwa [show l.length * sz + sz - sz = l.length * sz by omega] at this
      have hlen : l.flatten.length = l.length * sz := by
        rw [List.length_append, List.length_cons, Nat.succ_mul] at h2
        omega
      have hc' : cut c (o + sz) (l.length * sz) = some l.flatten := by
        unfold cut
        simp only [er, hlen, Nat.beq_refl, cond_true]
      have := cut_flat (l := l) (o := o + sz) (i := i) (sz := sz) (x := x) hc' (fun z hz => hl z (by simp [hz])) (by simpa using hx)
      rw [Nat.succ_mul]
      rwa [show o + (i * sz + sz) = o + sz + i * sz by omega]
theorem cut_nth {c x : List Value} {o sz j : Nat} {y : Value} (h : cut c o sz = some x) (hj : x[j]? = some y) : nth c (o + j) = some y := by
  obtain ⟨h1, h2, _⟩ := cut_some h
  have hlt : j < sz := by have := (List.getElem?_eq_some_iff.1 hj).1; omega
  rw [nth_eq]
  rw [h1, List.getElem?_take_of_lt hlt, List.getElem?_drop] at hj
  exact hj

theorem SlAt.ix (h : SlAt E A S sz v l) {t e : TypeId} {ti te : TIn} (ht : E.ti t = some ti) (hd : ti.desc = .slice e) (he : E.ti e = some te) (hs : te.size = sz) {i : Nat} {x : List Value} (hx : l[i]? = some x) :
    ∃ b p c, (∀ kd, aIndexAddr E t v (.int kd (i : Int)) = some (.pointer (some ⟨b, p, none⟩))) ∧ CellsAt E A b c ∧ S b ∧ b < A.next ∧ cut c p sz = some x ∧ ∀ j y, x[j]? = some y → nth c (p + j) = some y := by
  have hi : i < l.length := (List.getElem?_eq_some_iff.1 hx).1
  rcases h with ⟨rfl, _⟩ | ⟨b, o, cap, c, rfl, hb, hS, hn, h1, h2⟩
  · simp at hi
  · have hc := cut_flat h2 h1 hx
    refine ⟨b, o + i * sz, c, fun kd => ?_, hb, hS, hn, hc, fun j y hj => cut_nth hc hj⟩
    have := indexAddr_sl (A := A) ht hd he (kd := kd) (k := i) (b := b) (off := o) (len := l.length) (cap := cap) hi
    rwa [hs] at this
theorem SlAt.src (h : SlAt E A S sz v l) : srcCells E sz v l.length A = some l.flatten := by
  rcases h with ⟨rfl, rfl | rfl⟩ | ⟨b, o, cap, c, rfl, hb, hS, hn, h1, h2⟩
  · rfl
  · rfl
  · rw [hb.src]; exact h2
theorem len_str {t : TypeId} {i : TIn} (ht : E.ti t = some i) (hd : i.desc = .string) {k : ByteArray} : aLen E t (.string k) A = some (.int .i64 (k.size : Int)) := by
  simp only [aLen, ht, hd]; rfl
theorem SlAt.lenV (h : SlAt E A S sz v l) : lenV v = some l.length := by
  obtain ⟨b, c, rfl⟩ := h.form
  rfl
theorem flat_len {l : List (List Value)} {sz : Nat} : (∀ x ∈ l, x.length = sz) → l.flatten.length = l.length * sz := by
  induction l with
  | nil => intro _; simp
  | cons y l ih =>
    intro h
    rw [List.flatten_cons, List.length_append, ih fun x hx => h x (by simp [hx]), h y (by simp), List.length_cons, Nat.succ_mul]
    omega

theorem append_all {b : Nat} {tl : Bool} {ob : AObj} (hnr : ∀ b, A.next ≤ b → E.ro b = none) (h : SlAt E (A.new ob) S sz v l) (hob : ob = .row [] sz tl) (hb : b = A.next) (hl : ∀ x ∈ l, x.length = sz) {t e xt : TypeId} {ti te xi : TIn} {z : Value} (ht : E.ti t = some ti) (hd : ti.desc = .slice e) (he : E.ti e = some te) (hs : te.size = sz) (hx : E.ti xt = some xi) (hxi : isIntD xi.desc = false) (hz : te.zero = some z) (hzc : closed z = true) (hzl : Nat.beq z.cells.toList.length sz = true) (hsz : 0 < sz) (hbytes : l.length * (te.bytes + 1) < 1000000000) (hsg : singles l.flatten = true) :
    ∃ r B, aAppend E t xt (.slice (some ⟨b, 0, none⟩) 0 0) v (A.new ob) = .val r B ∧ SlAt E B (fun x => A.next ≤ x) sz r l ∧ Fr [] A B := by
  subst hob hb
  have hlen := flat_len hl
  have hg : (A.new (.row [] sz tl)).get A.next = some (.row [] sz tl) := by rw [ASt.get_new, if_pos rfl]
  have hn : (A.new (.row [] sz tl)).next = A.next + 1 := ASt.next_new ..
  have c1 : Nat.blt 0 sz = true := Nat.ble_eq_true_of_le hsz
  have c2 : Nat.blt ((0 + l.length) * (te.bytes + 1)) 1000000000 = true := Nat.ble_eq_true_of_le (by rw [Nat.zero_add]; exact hbytes)
  have c3 : Nat.beq l.flatten.length (l.length * sz) = true := by rw [hlen]; exact Nat.beq_refl _
  have e : aAppend E t xt (.slice (some ⟨A.next, 0, none⟩) 0 0) v (A.new (.row [] sz tl)) = appendTo sz (some ⟨A.next, 0, none⟩) 0 0 l.length l.flatten (A.new (.row [] sz tl)) := by
    simp only [aAppend, ht, hx, hd, he, h.lenV, hz, hs, h.src, hxi, c1, c2, c3, hsg, hzc, hzl, Bool.not_false, Bool.and_self, cond_true]
  rw [e]
  have c4 : Nat.beq 0 unk = false := by rw [nbeq]; unfold unk; simp
  have c5 : Nat.ble (0 + 0 * sz) ([] : List Value).length = true := by rw [Nat.zero_mul]; rfl
  by_cases h0 : l = []
  · subst h0
    refine ⟨.slice (some ⟨A.next, 0, none⟩) 0 0, (A.new (.row [] sz tl)).set A.next (.row [] sz tl), ?_, ?_, ?_⟩
    · simp only [appendTo, hg, Nat.beq_refl, c5, Bool.and_self, cond_true, c4, cond_false, List.length_nil, Nat.add_zero, Nat.ble, List.flatten_nil, over, Nat.zero_mul, List.take_nil, List.drop_nil, List.append_nil]
    · refine .inr ⟨A.next, 0, 0, [], rfl, .of_row (by rw [ASt.get_set, if_pos rfl]) (hnr _ (Nat.le_refl _)), Nat.le_refl _, by rw [ASt.next_set, hn]; omega, by simp, ?_⟩
      simp [cut]
    · exact Fr.set .new (.inr (Nat.le_refl _))
  · have c6 : Nat.ble (0 + l.length) 0 = false := by
      rw [nble]
      have : 0 < l.length := List.length_pos_iff.2 h0
      simp; exact h0
    refine ⟨.slice (some ⟨A.next + 1, 0, none⟩) l.length unk, (A.new (.row [] sz tl)).new (.row l.flatten sz true), ?_, ?_, ?_⟩
    · have c7 : Nat.ble 0 ([] : List Value).length = true := rfl
      rw [Nat.zero_add] at c6
      simp only [appendTo, hg, Nat.beq_refl, c7, Bool.and_self, cond_true, c4, cond_false, c6, grown_eq, hn, Nat.zero_mul, Nat.zero_add, List.take_zero, List.drop_nil, List.nil_append, Nat.zero_add]
    · refine .inr ⟨A.next + 1, 0, unk, l.flatten, rfl, .of_row (by rw [ASt.get_new, hn, if_pos rfl]) (hnr _ (Nat.le_succ _)), by omega, by rw [ASt.next_new, hn]; omega, hl, ?_⟩
      unfold cut
      simp only [List.drop_zero, ← hlen, List.take_length, Nat.beq_refl, cond_true]
    · exact Fr.new.trans .new
theorem two_new {A C : ASt} {x y : AObj} (h : (A.new x).new y = C) : C.get A.next = some x ∧ C.get (A.next + 1) = some y ∧ C.next = A.next + 2 ∧ Fr [] A C := by
  subst h
  refine ⟨?_, ?_, by rw [ASt.next_new, ASt.next_new], Fr.new.trans .new⟩
  · rw [ASt.get_new, if_neg (by rw [ASt.next_new]; omega), ASt.get_new, if_pos rfl]
  · rw [ASt.get_new, ASt.next_new, if_pos rfl]
end
end Go.AE

/- A slice of one's own: what is laid behind it. -/
namespace Go.AE
open Go
set_option maxRecDepth 10000
set_option maxHeartbeats 1000000

def slB : Value → List Nat
  | .slice (some a) _ _ => [a.block]
  | _ => []
def OwnS (A : ASt) (lo sz n : Nat) (v : Value) (cs : List Value) : Prop :=
  (n = 0 ∧ cs = [] ∧ v = .slice none 0 0) ∨ ∃ b cap tl, v = .slice (some ⟨b, 0, none⟩) n cap ∧ A.get b = some (.row cs sz tl) ∧ lo ≤ b ∧ b < A.next ∧ cs.length = n * sz ∧ ((cap = unk ∧ tl = true) ∨ (cap = n ∧ cap ≠ unk))
section
variable {A B : ASt} {lo sz n m : Nat} {v : Value} {cs new : List Value}
theorem OwnS.fr {own : List Nat} (h : OwnS A lo sz n v cs) (hf : Fr own A B) (ho : ∀ b ∈ slB v, b ∉ own) : OwnS B lo sz n v cs := by
  rcases h with h | ⟨b, cap, tl, rfl, hb, h1, h2, h3⟩
  · exact .inl h
  · exact .inr ⟨b, cap, tl, rfl, (hf.get b h2 (ho b (by simp [slB]))).trans hb, h1, Nat.lt_of_lt_of_le h2 hf.next, h3⟩
theorem OwnS.low (h : OwnS A lo sz n v cs) : ∀ b ∈ slB v, lo ≤ b ∧ b < A.next := by
  rcases h with ⟨_, _, rfl⟩ | ⟨b, cap, tl, rfl, hb, h1, h2, h3⟩
  · intro b hb; cases hb
  · intro c hc
    simp only [slB, List.mem_singleton] at hc
    subst hc
    exact ⟨h1, h2⟩
theorem OwnS.lower {lo' : Nat} (h : OwnS A lo sz n v cs) (hl : lo' ≤ lo) : OwnS A lo' sz n v cs := by
  rcases h with h | ⟨b, cap, tl, rfl, hb, h1, h2⟩
  · exact .inl h
  · exact .inr ⟨b, cap, tl, rfl, hb, Nat.le_trans hl h1, h2⟩
theorem over_nil {c : List Value} {k : Nat} (h : k ≤ c.length) : over c k [] = some c := by
  unfold over
  rw [List.length_nil, Nat.add_zero, Nat.ble_eq_true_of_le h, cond_true, List.nil_append, List.take_append_drop]
theorem OwnS.appendTo (h : OwnS A lo sz n v cs) (hm : new.length = m * sz) (hsz : 0 < sz) (hlo : lo ≤ A.next) : ∀ base len cap, v = .slice base len cap →
    ∃ r B, Go.AE.appendTo sz base len cap m new A = .val r B ∧ OwnS B lo sz (n + m) r (cs ++ new) ∧ Fr (slB v) A B ∧ ∀ b ∈ slB r, b ∈ slB v ∨ A.next ≤ b := by
  intro base len cap0 hv
  rcases h with ⟨rfl, rfl, rfl⟩ | ⟨b, cap, tl, rfl, hb, h1, h2, hc, hcap⟩
  · cases hv
    by_cases m0 : m = 0
    · subst m0
      have : new = [] := List.eq_nil_of_length_eq_zero (by rw [hm, Nat.zero_mul])
      subst this
      exact ⟨.slice none 0 0, A, by simp only [Go.AE.appendTo, Nat.beq_refl, Bool.and_self, cond_true], .inl ⟨rfl, rfl, rfl⟩, .refl _ _, by intro b hb; cases hb⟩
    · have e : Nat.beq m 0 = false := by rw [nbeq]; simpa using m0
      refine ⟨.slice (some ⟨A.next, 0, none⟩) m unk, A.new (.row new sz true), by simp only [Go.AE.appendTo, Nat.beq_refl, Bool.and_self, cond_true, e, cond_false, grown_eq], .inr ⟨A.next, unk, true, by rw [Nat.zero_add], by rw [ASt.get_new, if_pos rfl]; rfl, hlo, by rw [ASt.next_new]; omega, by simpa using hm, .inl ⟨rfl, rfl⟩⟩, .new, ?_⟩
      intro c hc
      simp only [slB, List.mem_singleton] at hc
      exact .inr (by omega)
  · cases hv
    have e1 : Nat.beq sz sz = true := Nat.beq_refl _
    have e2 : Nat.ble (0 + n * sz) cs.length = true := Nat.ble_eq_true_of_le (by omega)
    by_cases m0 : m = 0
    · subst m0
      have : new = [] := List.eq_nil_of_length_eq_zero (by rw [hm, Nat.zero_mul])
      subst this
      have e3 : Nat.ble (0 + (n + 0) * sz) cs.length = true := Nat.ble_eq_true_of_le (by rw [Nat.add_zero]; omega)
      have e4 : over cs (0 + n * sz) [] = some cs := over_nil (by omega)
      refine ⟨.slice (some ⟨b, 0, none⟩) (n + 0) cap0, A.set b (.row cs sz tl), ?_, .inr ⟨b, cap0, tl, rfl, by rw [ASt.get_set, if_pos rfl, List.append_nil], h1, by rw [ASt.next_set]; exact h2, by simpa using hc, by simpa using hcap⟩, ⟨by rw [ASt.next_set]; exact Nat.le_refl _, fun b' _ hn => by rw [ASt.get_set, if_neg (by simpa [slB] using hn)]⟩, ?_⟩
      · rcases hcap with ⟨rfl, rfl⟩ | ⟨rfl, hcu⟩
        · have e5 : Nat.beq unk unk = true := Nat.beq_refl _
          simp only [Go.AE.appendTo, hb, e1, e2, Bool.and_self, cond_true, e5, e3, e4]
        · have e5 : Nat.beq cap0 unk = false := by rw [nbeq]; simpa using hcu
          have e6 : Nat.ble (cap0 + 0) cap0 = true := Nat.ble_eq_true_of_le (Nat.le_refl _)
          simp only [Go.AE.appendTo, hb, e1, e2, Bool.and_self, cond_true, cond_false, e5, e6, e4]
      · intro c hc
        exact .inl hc
    · have hlt : 0 < m * sz := Nat.mul_pos (by omega) hsz
      have e7 : (n + m) * sz = n * sz + m * sz := Nat.add_mul ..
      rcases hcap with ⟨rfl, rfl⟩ | ⟨rfl, hcu⟩
      · have e5 : Nat.beq unk unk = true := Nat.beq_refl _
        have e3 : Nat.ble (0 + (n + m) * sz) cs.length = false := by rw [nble]; simp; omega
        have e4 : Nat.beq (0 + n * sz) cs.length = true := by rw [nbeq]; simp; omega
        refine ⟨.slice (some ⟨A.next, 0, none⟩) (n + m) unk, (A.set b (.row [] sz false)).new (.row (cs ++ new) sz true), ?_, .inr ⟨A.next, unk, true, rfl, by rw [ASt.get_new, ASt.next_set, if_pos rfl], hlo, by rw [ASt.next_new, ASt.next_set]; omega, by rw [List.length_append, hc, hm, e7], .inl ⟨rfl, rfl⟩⟩, ⟨by rw [ASt.next_new, ASt.next_set]; omega, fun b' hb' hn => by rw [ASt.get_new, ASt.next_set, if_neg (by omega), ASt.get_set, if_neg (by simpa [slB] using hn)]⟩, ?_⟩
        · simp only [Go.AE.appendTo, hb, e1, e2, Bool.and_self, cond_true, cond_false, e5, e3, e4, grown_eq, List.take_zero, List.drop_zero, ASt.next_set]
        · intro c hc'
          simp only [slB, List.mem_singleton] at hc'
          exact .inr (by omega)
      · have e5 : Nat.beq cap0 unk = false := by rw [nbeq]; simpa using hcu
        have e6 : Nat.ble (cap0 + m) cap0 = false := by rw [nble]; simp; omega
        have e8 : (cs.drop 0).take (cap0 * sz) = cs := by rw [List.drop_zero, List.take_of_length_le (by omega)]
        refine ⟨.slice (some ⟨A.next, 0, none⟩) (cap0 + m) unk, A.new (.row (cs ++ new) sz true), ?_, .inr ⟨A.next, unk, true, rfl, by rw [ASt.get_new, if_pos rfl], hlo, by rw [ASt.next_new]; omega, by rw [List.length_append, hc, hm, e7], .inl ⟨rfl, rfl⟩⟩, ⟨by rw [ASt.next_new]; omega, fun b' hb' hn => by rw [ASt.get_new, if_neg (by omega)]⟩, ?_⟩
        · simp only [Go.AE.appendTo, hb, e1, e2, Bool.and_self, cond_true, cond_false, e5, e6, e8, grown_eq]
        · intro c hc'
          simp only [slB, List.mem_singleton] at hc'
          exact .inr (by omega)
theorem OwnS.app {E : Env} {t e xt : TypeId} {ti te xi : TIn} {x z : Value} (h : OwnS A lo sz n v cs) (ht : E.ti t = some ti) (hd : ti.desc = .slice e) (he : E.ti e = some te) (hs : te.size = sz) (hx : E.ti xt = some xi) (hxi : isIntD xi.desc = false) (hz : te.zero = some z) (hzc : closed z = true) (hzl : Nat.beq z.cells.toList.length sz = true) (hsz : 0 < sz)
    (hlen : lenV x = some m) (hsrc : srcCells E sz x m A = some new) (hm : new.length = m * sz) (hsg : singles new = true) (hbytes : (n + m) * (te.bytes + 1) < 1000000000) (hlo : lo ≤ A.next) :
    ∃ r B, aAppend E t xt v x A = .val r B ∧ OwnS B lo sz (n + m) r (cs ++ new) ∧ Fr (slB v) A B ∧ ∀ b ∈ slB r, b ∈ slB v ∨ A.next ≤ b := by
  have hf : ∃ base cap, v = .slice base n cap := by
    rcases h with ⟨rfl, _, rfl⟩ | ⟨b, cap, tl, rfl, _⟩
    · exact ⟨_, _, rfl⟩
    · exact ⟨_, _, rfl⟩
  obtain ⟨base, cap, rfl⟩ := hf
  obtain ⟨r, B, h1, h2⟩ := h.appendTo hm hsz hlo base n cap rfl
  refine ⟨r, B, ?_, h2⟩
  rw [← h1]
  subst hs
  have c1 : Nat.blt 0 te.size = true := Nat.ble_eq_true_of_le hsz
  have c2 : Nat.blt ((n + m) * (te.bytes + 1)) 1000000000 = true := Nat.ble_eq_true_of_le hbytes
  have c3 : Nat.beq new.length (m * te.size) = true := by rw [hm]; exact Nat.beq_refl _
  simp only [aAppend, ht, hx, hd, he, hlen, hz, hsrc, hxi, c1, c2, c3, hsg, hzc, hzl, Bool.not_false, Bool.and_self, cond_true]
theorem OwnS.slAt {E : Env} {l : List (List Value)} (h : OwnS A lo sz l.length v l.flatten) (hro : ∀ b, lo ≤ b → E.ro b = none) (hl : ∀ x ∈ l, x.length = sz) : SlAt E A (fun b => lo ≤ b) sz v l := by
  rcases h with ⟨h0, _, rfl⟩ | ⟨b, cap, tl, rfl, hb, h1, h2, hc, _⟩
  · exact .inl ⟨List.eq_nil_of_length_eq_zero h0, .inl rfl⟩
  · refine .inr ⟨b, 0, cap, _, rfl, .of_row hb (hro b h1), h1, h2, hl, ?_⟩
    rw [← hc]
    unfold cut
    simp only [List.drop_zero, List.take_length, Nat.beq_refl, cond_true]
theorem OwnS.single (h : OwnS A lo sz n v cs) : single v = true := by
  rcases h with ⟨_, _, rfl⟩ | ⟨b, cap, tl, rfl, _⟩ <;> rfl
theorem OwnS.cells1 (h : OwnS A lo sz n v cs) : v.cells = #[v] := by
  rcases h with ⟨_, _, rfl⟩ | ⟨b, cap, tl, rfl, _⟩ <;> rfl
theorem OwnS.len {E : Env} (h : OwnS A lo sz n v cs) {t e : TypeId} {i : TIn} (ht : E.ti t = some i) (hd : i.desc = .slice e) (B : ASt) : aLen E t v B = some (.int .i64 (n : Int)) := by
  rcases h with ⟨rfl, _, rfl⟩ | ⟨b, cap, tl, rfl, _⟩
  · simp only [aLen, ht, hd]; rfl
  · simp only [aLen, ht, hd]; rfl
theorem OwnS.src {E : Env} (h : OwnS A lo 1 n v cs) : srcCells E 1 v n A = some cs ∧ lenV v = some n ∧ cs.length = n * 1 := by
  rcases h with ⟨rfl, rfl, rfl⟩ | ⟨b, cap, tl, rfl, hb, _, _, hc, _⟩
  · exact ⟨rfl, rfl, rfl⟩
  · refine ⟨?_, rfl, hc⟩
    simp only [srcCells, hb]
    rw [← hc]
    unfold cut
    simp only [List.drop_zero, List.take_length, Nat.beq_refl, cond_true]
theorem OwnS.ve (h : OwnS A lo sz n v cs) : valEq v v = true := by
  rcases h with ⟨_, _, rfl⟩ | ⟨b, cap, tl, rfl, _⟩
  · exact valEq_nilSlice
  · exact valEq_slice
end
end Go.AE

/- A heap in a list, in plain Lean: what a swap does, up and down; no program in sight. -/
namespace Go.AE
open Go

section
variable {α : Type}
def swp (l : List α) (i k : Nat) : List α := match l[i]?, l[k]? with
  | some x, some y => (l.set i y).set k x
  | _, _ => l
theorem swp_len {l : List α} {i k : Nat} : (swp l i k).length = l.length := by
  unfold swp
  split <;> simp
theorem swp_eq {l : List α} {i k : Nat} {x y : α} (hi : l[i]? = some x) (hk : l[k]? = some y) : swp l i k = (l.set i y).set k x := by
  unfold swp
  rw [hi, hk]
theorem swp_get {l : List α} {i k : Nat} (hi : i < l.length) (hk : k < l.length) (j : Nat) : (swp l i k)[j]? = if j = k then l[i]? else if j = i then l[k]? else l[j]? := by
  rw [swp_eq (List.getElem?_eq_getElem hi) (List.getElem?_eq_getElem hk)]
  rw [List.getElem?_set, List.getElem?_set]
  by_cases h1 : j = k
  · subst h1
    simp [hk, List.getElem?_eq_getElem hi]
  · by_cases h2 : j = i
    · subst h2
      simp [h1, Ne.symm h1, hi, List.getElem?_eq_getElem hk]
    · simp [h1, h2, Ne.symm h1, Ne.symm h2]
theorem swp_mem {l : List α} {i k : Nat} (hi : i < l.length) (hk : k < l.length) (x : α) : x ∈ swp l i k ↔ x ∈ l := by
  rw [List.mem_iff_getElem?, List.mem_iff_getElem?]
  constructor
  · rintro ⟨j, hj⟩
    rw [swp_get hi hk] at hj
    split at hj
    · exact ⟨_, hj⟩
    · split at hj
      · exact ⟨_, hj⟩
      · exact ⟨_, hj⟩
  · rintro ⟨j, hj⟩
    by_cases h1 : j = k
    · subst h1
      refine ⟨i, ?_⟩
      rw [swp_get hi hk]
      by_cases h3 : i = j
      · subst h3; simp [hj]
      · simp [h3, hj]
    · by_cases h2 : j = i
      · subst h2
        exact ⟨k, by rw [swp_get hi hk]; simp [hj]⟩
      · exact ⟨j, by rw [swp_get hi hk]; simp [h1, h2, hj]⟩
structure SameL (n : Nat) (l l' : List α) : Prop where
  len : l'.length = l.length
  mem : ∀ x, x ∈ l' ↔ x ∈ l
  rest : ∀ k, n ≤ k → l'[k]? = l[k]?
theorem SameL.refl {n : Nat} (l : List α) : SameL n l l := ⟨rfl, fun _ => .rfl, fun _ _ => rfl⟩
theorem SameL.trans {n : Nat} {a b c : List α} (h : SameL n a b) (k : SameL n b c) : SameL n a c :=
  ⟨k.len.trans h.len, fun x => (k.mem x).trans (h.mem x), fun j hj => (k.rest j hj).trans (h.rest j hj)⟩
theorem SameL.swp {n : Nat} {l : List α} {i k : Nat} (hi : i < n) (hk : k < n) (hn : n ≤ l.length) : SameL n l (swp l i k) :=
  ⟨swp_len, swp_mem (by omega) (by omega), fun j hj => by rw [swp_get (by omega) (by omega), if_neg (by omega), if_neg (by omega)]⟩

structure TotLt (lt : α → α → Prop) : Prop where
  irr : ∀ x, ¬ lt x x
  trans : ∀ {x y z}, lt x y → lt y z → lt x z
  tri : ∀ {x y}, ¬ lt x y → ¬ lt y x → x = y
variable {lt : α → α → Prop}
theorem TotLt.asym (h : TotLt lt) {x y : α} (k : lt x y) : ¬ lt y x := fun k' => h.irr x (h.trans k k')
theorem TotLt.nle (h : TotLt lt) {x y z : α} (h1 : ¬ lt y x) (h2 : ¬ lt z y) : ¬ lt z x := fun h3 => by
  by_cases k : lt y z
  · exact h1 (h.trans k h3)
  · have := h.tri k h2
    subst this
    exact h1 h3
def OrdL (lt : α → α → Prop) (l : List α) (p c : Nat) : Prop := ∀ x y, l[p]? = some x → l[c]? = some y → ¬ lt y x
def HeapL (lt : α → α → Prop) (l : List α) (n : Nat) : Prop := ∀ c, 0 < c → c < n → OrdL lt l ((c - 1) / 2) c
def UpI (lt : α → α → Prop) (l : List α) (n j : Nat) : Prop :=
  (∀ c, 0 < c → c < n → c ≠ j → OrdL lt l ((c - 1) / 2) c) ∧ ∀ c, 0 < c → c < n → (c - 1) / 2 = j → 0 < j → OrdL lt l ((j - 1) / 2) c
def DownI (lt : α → α → Prop) (l : List α) (n i i0 : Nat) : Prop :=
  (∀ c, 0 < c → c < n → (c - 1) / 2 ≠ i → (c = i → i ≠ i0) → OrdL lt l ((c - 1) / 2) c) ∧ ∀ c, 0 < c → c < n → (c - 1) / 2 = i → 0 < i → OrdL lt l ((i - 1) / 2) c

theorem OrdL.nle (hT : TotLt lt) {l : List α} {a b c : Nat} (hb : b < l.length) (h1 : OrdL lt l a b) (h2 : OrdL lt l b c) : OrdL lt l a c := fun x y hx hy =>
  hT.nle (h1 x _ hx (List.getElem?_eq_getElem hb)) (h2 _ y (List.getElem?_eq_getElem hb) hy)
theorem OrdL.congr {l l' : List α} {p c p' c' : Nat} (h : OrdL lt l p c) (e1 : l'[p']? = l[p]?) (e2 : l'[c']? = l[c]?) : OrdL lt l' p' c' := fun x y hx hy => h x y (e1 ▸ hx) (e2 ▸ hy)

theorem up_step (hT : TotLt lt) {l : List α} {n j : Nat} {x y : α} (h : UpI lt l n j) (hj : j < n) (hn : n ≤ l.length) (h0 : 0 < j) (hx : l[(j - 1) / 2]? = some x) (hy : l[j]? = some y) (hlt : lt y x) :
    UpI lt (swp l ((j - 1) / 2) j) n ((j - 1) / 2) := by
  have hi : (j - 1) / 2 < j := by omega
  have g := swp_get (l := l) (i := (j - 1) / 2) (k := j) (by omega) (by omega)
  have xy : OrdL lt l j ((j - 1) / 2) := fun a b ha hb => by
    rw [hy] at ha; rw [hx] at hb
    cases ha; cases hb
    exact hT.asym hlt
  have gi : (swp l ((j - 1) / 2) j)[(j - 1) / 2]? = l[j]? := by rw [g, if_neg (by omega), if_pos rfl]
  have gj : (swp l ((j - 1) / 2) j)[j]? = l[(j - 1) / 2]? := by rw [g, if_pos rfl]
  have ge : ∀ c, c ≠ j → c ≠ (j - 1) / 2 → (swp l ((j - 1) / 2) j)[c]? = l[c]? := fun c h1 h2 => by rw [g, if_neg h1, if_neg h2]
  refine ⟨fun c c0 cn ci => ?_, fun c c0 cn cp i0 => ?_⟩
  · by_cases e1 : c = j
    · subst e1
      exact xy.congr gi gj
    · have hc := ge c e1 ci
      by_cases e2 : (c - 1) / 2 = j
      · rw [e2]
        exact (h.2 c c0 cn e2 h0).congr gj hc
      · by_cases e3 : (c - 1) / 2 = (j - 1) / 2
        · rw [e3]
          have h1 := h.1 c c0 cn e1
          rw [e3] at h1
          intro a b ha hb
          rw [gi, hy] at ha
          rw [hc] at hb
          cases ha
          exact fun hl => h1 x b hx hb (hT.trans hl hlt)
        · exact (h.1 c c0 cn e1).congr (ge _ e2 e3) hc
  · have h1 := h.1 ((j - 1) / 2) i0 (by omega) (by omega)
    have gp := ge (((j - 1) / 2 - 1) / 2) (by omega) (by omega)
    by_cases e1 : c = j
    · subst e1
      exact h1.congr gp gj
    · have h2 := h.1 c c0 cn e1
      rw [cp] at h2
      exact (OrdL.nle hT (by omega) h1 h2).congr gp (ge c e1 (by omega))
theorem up_end {l : List α} {n j : Nat} (h : UpI lt l n j) (he : 0 < j → OrdL lt l ((j - 1) / 2) j) : HeapL lt l n := fun c c0 cn => by
  by_cases e : c = j
  · subst e
    exact he c0
  · exact h.1 c c0 cn e
theorem down_step (hT : TotLt lt) {l : List α} {n i i0 j : Nat} {x y : α} (h : DownI lt l n i i0) (hj : j < n) (hn : n ≤ l.length) (hp : (j - 1) / 2 = i) (j0 : 0 < j) (hx : l[i]? = some x) (hy : l[j]? = some y) (hlt : lt y x)
    (hs : ∀ c, 0 < c → c < n → (c - 1) / 2 = i → c ≠ j → OrdL lt l j c) : DownI lt (swp l i j) n j i0 := by
  have g := swp_get (l := l) (i := i) (k := j) (by omega) (by omega)
  have gi : (swp l i j)[i]? = l[j]? := by rw [g, if_neg (by omega), if_pos rfl]
  have gj : (swp l i j)[j]? = l[i]? := by rw [g, if_pos rfl]
  have ge : ∀ c, c ≠ j → c ≠ i → (swp l i j)[c]? = l[c]? := fun c h1 h2 => by rw [g, if_neg h1, if_neg h2]
  have xy : OrdL lt l j i := fun a b ha hb => by
    rw [hy] at ha; rw [hx] at hb
    cases ha; cases hb
    exact hT.asym hlt
  refine ⟨fun c c0 cn cp _ => ?_, fun c c0 cn cp _ => ?_⟩
  · by_cases e1 : c = j
    · subst e1
      rw [hp]
      exact xy.congr gi gj
    · by_cases e2 : (c - 1) / 2 = i
      · rw [e2]
        exact (hs c c0 cn e2 e1).congr gi (ge c e1 (by omega))
      · by_cases e3 : c = i
        · subst e3
          exact (h.2 j j0 hj hp c0).congr (ge _ (by omega) (by omega)) gi
        · exact (h.1 c c0 cn e2 (fun e => absurd e e3)).congr (ge _ cp e2) (ge _ e1 e3)
  · rw [hp]
    exact (h.1 c c0 cn (by omega) (by omega)).congr (by rw [gi, cp]) (ge _ (by omega) (by omega))
theorem down_end {l : List α} {n i i0 : Nat} (h : DownI lt l n i i0) (he : ∀ c, 0 < c → c < n → (c - 1) / 2 = i → OrdL lt l i c) (hi : i ≠ i0 ∨ i0 = 0) : HeapL lt l n := fun c c0 cn => by
  by_cases e : (c - 1) / 2 = i
  · rw [e]
    exact he c c0 cn e
  · exact h.1 c c0 cn e (fun e => by omega)
theorem down_stay {l : List α} {n i : Nat} (h : DownI lt l n i i) (he : ∀ c, 0 < c → c < n → (c - 1) / 2 = i → OrdL lt l i c) : UpI lt l n i :=
  ⟨fun c c0 cn ci => by
    by_cases e : (c - 1) / 2 = i
    · rw [e]
      exact he c c0 cn e
    · exact h.1 c c0 cn e (fun e => absurd e ci), h.2⟩
theorem heap_down (hT : TotLt lt) {l l' : List α} {n i : Nat} (h : HeapL lt l n) (hn : n ≤ l.length) (e : ∀ j, j < n → j ≠ i → l'[j]? = l[j]?) : DownI lt l' n i i :=
  ⟨fun c c0 cn cp ci => (h c c0 cn).congr (e _ (by omega) cp) (e _ cn (fun e => ci e rfl)), fun c c0 cn cp i0 => by
    have h1 := h c c0 cn
    rw [cp] at h1
    exact (OrdL.nle hT (by omega) (h i i0 (by omega)) h1).congr (e _ (by omega) (by omega)) (e _ cn (by omega))⟩
theorem heap_push {l l' : List α} {n : Nat} (h : HeapL lt l n) (e : ∀ j, j < n → l'[j]? = l[j]?) : UpI lt l' (n + 1) n :=
  ⟨fun c c0 cn ci => (h c c0 (by omega)).congr (e _ (by omega)) (e _ (by omega)), fun c c0 cn cp i0 => by omega⟩
theorem HeapL.less {l : List α} {n m : Nat} (h : HeapL lt l n) (hm : m ≤ n) : HeapL lt l m := fun c c0 cm => h c c0 (by omega)
theorem HeapL.congr {l l' : List α} {n : Nat} (h : HeapL lt l n) (e : ∀ j, j < n → l'[j]? = l[j]?) : HeapL lt l' n := fun c c0 cn => (h c c0 cn).congr (e _ (by omega)) (e _ cn)
theorem HeapL.min (hT : TotLt lt) {l : List α} {n : Nat} (h : HeapL lt l n) (hn : n ≤ l.length) : ∀ c, c < n → OrdL lt l 0 c := by
  intro c
  induction c using Nat.strongRecOn with
  | ind c ih =>
    intro cn
    by_cases c0 : c = 0
    · subst c0
      intro a b ha hb
      rw [ha] at hb
      cases hb
      exact hT.irr a
    · exact OrdL.nle hT (by omega) (ih _ (by omega) (by omega)) (h c (by omega) cn)
end

/-! ### where each name stands -/
section
variable {β : Type}
def Where (l : List (ByteArray × β)) (g : ByteArray → Option Nat) : Prop := ∀ k i, g k = some i ↔ (l[i]?).map (·.1) = some k
variable {l : List (ByteArray × β)} {g : ByteArray → Option Nat}
theorem Where.get (h : Where l g) {k : ByteArray} {i : Nat} (e : g k = some i) : ∃ a, l[i]? = some (k, a) := by
  have := (h k i).1 e
  cases hl : l[i]? with
  | none => rw [hl] at this; cases this
  | some x =>
    rw [hl] at this
    obtain ⟨a, b⟩ := x
    cases this
    exact ⟨b, rfl⟩
theorem Where.of (h : Where l g) {i : Nat} {x : ByteArray × β} (e : l[i]? = some x) : g x.1 = some i := (h _ _).2 (by rw [e]; rfl)
theorem Where.inj (h : Where l g) {i j : Nat} {x y : ByteArray × β} (hi : l[i]? = some x) (hj : l[j]? = some y) (e : x.1 = y.1) : i = j := by
  have h1 := h.of hi
  have h2 := h.of hj
  rw [e, h2] at h1
  cases h1
  rfl
theorem Where.uniq (h : Where l g) {x y : ByteArray × β} (hx : x ∈ l) (hy : y ∈ l) (e : x.1 = y.1) : x = y := by
  obtain ⟨i, hi⟩ := List.mem_iff_getElem?.1 hx
  obtain ⟨j, hj⟩ := List.mem_iff_getElem?.1 hy
  have := h.inj hi hj e
  subst this
  rw [hi] at hj
  exact Option.some.inj hj
theorem Where.absent (h : Where l g) {k : ByteArray} (e : g k = none) : ∀ x ∈ l, x.1 ≠ k := by
  intro x hx ek
  obtain ⟨i, hi⟩ := List.mem_iff_getElem?.1 hx
  have := h.of hi
  rw [ek, e] at this
  cases this
theorem Where.swp (h : Where l g) {i k : Nat} {x y : ByteArray × β} (hi : l[i]? = some x) (hk : l[k]? = some y) : Where (swp l i k) fun n => if n = x.1 then some k else if n = y.1 then some i else g n := by
  have li : i < l.length := (List.getElem?_eq_some_iff.1 hi).1
  have lk : k < l.length := (List.getElem?_eq_some_iff.1 hk).1
  intro n j
  rw [swp_get li lk]
  dsimp only
  by_cases e1 : n = x.1
  · rw [if_pos e1]
    subst e1
    constructor
    · intro e
      cases e
      rw [if_pos rfl, hi]; rfl
    · intro e
      by_cases j1 : j = k
      · rw [j1]
      · rw [if_neg j1] at e
        by_cases j2 : j = i
        · rw [if_pos j2, hk] at e
          have := h.inj hk hi (Option.some.inj e)
          omega
        · rw [if_neg j2] at e
          have := (h _ _).2 e
          rw [h.of hi] at this
          cases this
          omega
  · rw [if_neg e1]
    by_cases e2 : n = y.1
    · rw [if_pos e2]
      subst e2
      constructor
      · intro e
        cases e
        by_cases j1 : i = k
        · subst j1
          rw [hi] at hk
          cases hk
          exact absurd rfl e1
        · rw [if_neg j1, if_pos rfl, hk]; rfl
      · intro e
        by_cases j1 : j = k
        · rw [if_pos j1, hi] at e
          exact absurd (Option.some.inj e).symm e1
        · rw [if_neg j1] at e
          by_cases j2 : j = i
          · rw [j2]
          · rw [if_neg j2] at e
            have := (h _ _).2 e
            rw [h.of hk] at this
            cases this
            omega
    · rw [if_neg e2, h n j]
      by_cases j1 : j = k
      · subst j1
        rw [if_pos rfl, hi, hk]
        constructor
        · intro e; exact absurd (Option.some.inj e).symm e2
        · intro e; exact absurd (Option.some.inj e).symm e1
      · rw [if_neg j1]
        by_cases j2 : j = i
        · subst j2
          rw [if_pos rfl, hi, hk]
          constructor
          · intro e; exact absurd (Option.some.inj e).symm e1
          · intro e; exact absurd (Option.some.inj e).symm e2
        · rw [if_neg j2]
theorem Where.push (h : Where l g) {x : ByteArray × β} (hx : g x.1 = none) : Where (l ++ [x]) fun n => if n = x.1 then some l.length else g n := by
  intro n j
  rw [List.getElem?_append]
  dsimp only
  by_cases e1 : n = x.1
  · rw [if_pos e1]
    subst e1
    constructor
    · intro e
      cases e
      rw [if_neg (Nat.lt_irrefl _), Nat.sub_self]; rfl
    · intro e
      by_cases hj : j < l.length
      · rw [if_pos hj] at e
        have := (h _ _).2 e
        rw [hx] at this
        cases this
      · rw [if_neg hj] at e
        by_cases hj2 : j = l.length
        · rw [hj2]
        · have : (([x] : List (ByteArray × β)))[j - l.length]? = none := by
            rw [List.getElem?_eq_none_iff]; simp; omega
          rw [this] at e
          cases e
  · rw [if_neg e1, h n j]
    by_cases hj : j < l.length
    · rw [if_pos hj]
    · rw [if_neg hj, List.getElem?_eq_none (by omega)]
      constructor
      · intro e; cases e
      · intro e
        by_cases hj2 : j = l.length
        · rw [hj2, Nat.sub_self] at e
          exact absurd (Option.some.inj e).symm e1
        · have : (([x] : List (ByteArray × β)))[j - l.length]? = none := by
            rw [List.getElem?_eq_none_iff]; simp; omega
          rw [this] at e
          cases e
theorem Where.pop (h : Where l g) {m : Nat} (hm : l.length = m + 1) {x : ByteArray × β} (hx : l[m]? = some x) : Where (l.take m) fun n => if n = x.1 then none else g n := by
  intro n j
  rw [List.getElem?_take]
  dsimp only
  by_cases e1 : n = x.1
  · rw [if_pos e1]
    subst e1
    constructor
    · intro e; cases e
    · intro e
      by_cases hj : j < m
      · rw [if_pos hj] at e
        have := (h _ _).2 e
        rw [h.of hx] at this
        cases this
        omega
      · rw [if_neg hj] at e
        cases e
  · rw [if_neg e1, h n j]
    by_cases hj : j < m
    · rw [if_pos hj]
    · rw [if_neg hj]
      constructor
      · intro e
        by_cases hj2 : j = m
        · subst hj2
          rw [hx] at e
          exact absurd (Option.some.inj e).symm e1
        · rw [List.getElem?_eq_none (by omega)] at e
          cases e
      · intro e; cases e
theorem Where.set (h : Where l g) {i : Nat} {k : ByteArray} {a b : β} (hi : l[i]? = some (k, a)) : Where (l.set i (k, b)) g := by
  have li : i < l.length := (List.getElem?_eq_some_iff.1 hi).1
  intro n j
  rw [h n j, List.getElem?_set]
  by_cases e : i = j
  · subst e
    rw [if_pos rfl, if_pos li, hi]; rfl
  · rw [if_neg e]
theorem take_mem {m : Nat} (hm : l.length = m + 1) (h : Where l g) {x : ByteArray × β} (hx : l[m]? = some x) (y : ByteArray × β) : y ∈ l.take m ↔ y ∈ l ∧ y.1 ≠ x.1 := by
  constructor
  · intro hy
    have hy2 := List.mem_of_mem_take hy
    obtain ⟨j, hj⟩ := List.mem_iff_getElem?.1 hy
    rw [List.getElem?_take] at hj
    split at hj
    · rename_i hlt
      refine ⟨hy2, fun e => ?_⟩
      have := h.inj hj hx e
      omega
    · cases hj
  · rintro ⟨hy, hne⟩
    obtain ⟨j, hj⟩ := List.mem_iff_getElem?.1 hy
    have lj : j < l.length := (List.getElem?_eq_some_iff.1 hj).1
    refine List.mem_iff_getElem?.2 ⟨j, ?_⟩
    rw [List.getElem?_take, if_pos, hj]
    by_cases e : j = m
    · subst e
      rw [hj] at hx
      cases hx
      exact absurd rfl hne
    · omega
end
end Go.AE
