/- The evaluator: what the plan of a drawn region says, apart from the model. -/
import Derived.Test.YthacgilphddekaaGreatDoorAeFrame
namespace Go.AE
open Go

/-- Operation 'j' stands ahead of operation 'i'. -/
noncomputable def Anc (an : List Nat) (i j : Nat) : Prop := ∃ m, nth an i = some m ∧ m.testBit j = true

theorem ancStep_bit (acc : List Nat) : ∀ (l : List Edge) (s j : Nat), (ancStep acc l s).testBit j = true ↔ s.testBit j = true ∨ ∃ e ∈ l, Region.binds .any e = true ∧ (e.on = j ∨ Anc acc e.on j)
  | [], s, j => by simp [ancStep]
  | e :: l, s, j => by
    unfold ancStep
    rw [ancStep_bit acc l]
    have key : ((s ||| (2 ^ e.on ||| (match nth acc e.on with | some m => m | none => 0))).testBit j = true) ↔ s.testBit j = true ∨ e.on = j ∨ Anc acc e.on j := by
      rw [Nat.testBit_or, Nat.testBit_or, Nat.testBit_two_pow]
      unfold Anc
      cases nth acc e.on with
      | none => simp
      | some m => simp
    cases hb : Region.binds .any e with
    | false => simp [hb]
    | true =>
      rw [cond_true]
      refine (or_congr key Iff.rfl).trans ?_
      simp only [List.mem_cons, exists_eq_or_imp, hb, true_and]
      constructor
      · rintro ((h | h) | h)
        · exact .inl h
        · exact .inr (.inl h)
        · exact .inr (.inr h)
      · rintro (h | h | h)
        · exact .inl (.inl h)
        · exact .inl (.inr h)
        · exact .inr h

theorem ancs_spec : ∀ (l : List Oper) (acc : List Nat), ∃ r, ancs l acc = acc ++ r ∧ r.length = l.length ∧ ∀ k o, l[k]? = some o → (ancs l acc)[acc.length + k]? = some (ancStep ((ancs l acc).take (acc.length + k)) o.after.toList 0)
  | [], acc => ⟨[], by simp [ancs], rfl, by simp⟩
  | o :: l, acc => by
    obtain ⟨r, h1, h2, h3⟩ := ancs_spec l (acc ++ [ancStep acc o.after.toList 0])
    refine ⟨ancStep acc o.after.toList 0 :: r, by simp [ancs, h1], by simp [h2], fun k x hk => ?_⟩
    cases k with
    | zero =>
      simp at hk; subst hk
      simp [ancs, h1]
    | succ k =>
      have := h3 k x (by simpa using hk)
      simp only [List.length_append, List.length_singleton] at this
      simp only [ancs]
      rw [show acc.length + (k + 1) = acc.length + 1 + k by omega]
      exact this

theorem ancs_at (l : List Oper) {i : Nat} {o : Oper} (h : l[i]? = some o) : ∃ m, nth (ancs l []) i = some m ∧ ∀ j, m.testBit j = true → ∃ e ∈ o.after.toList, Region.binds .any e = true ∧ (e.on = j ∨ (e.on < i ∧ Anc (ancs l []) e.on j)) := by
  obtain ⟨r, h1, h2, h3⟩ := ancs_spec l []
  have := h3 i o h
  simp only [List.length_nil, Nat.zero_add] at this
  refine ⟨_, by rw [nth_eq]; exact this, fun j hj => ?_⟩
  rw [ancStep_bit] at hj
  rcases hj with hj | ⟨e, he, hb, hj⟩
  · simp at hj
  · refine ⟨e, he, hb, hj.imp id ?_⟩
    rintro ⟨m, hm, hmj⟩
    rw [nth_eq] at hm
    have hlt : e.on < i := by
      rcases Nat.lt_or_ge e.on i with h | h
      · exact h
      · rw [List.getElem?_eq_none (by simp; omega)] at hm; cases hm
    rw [List.getElem?_take_of_lt hlt] at hm
    exact ⟨hlt, m, by rw [nth_eq]; exact hm, hmj⟩

theorem ancs_direct (l : List Oper) {i : Nat} {o : Oper} (h : l[i]? = some o) {e : Edge} (he : e ∈ o.after.toList) (hb : Region.binds .any e = true) : Anc (ancs l []) i e.on := by
  obtain ⟨r, h1, h2, h3⟩ := ancs_spec l []
  have := h3 i o h
  simp only [List.length_nil, Nat.zero_add] at this
  refine ⟨_, by rw [nth_eq]; exact this, ?_⟩
  rw [ancStep_bit]
  exact .inr ⟨e, he, hb, .inl rfl⟩

theorem edgesOK_spec {j : Nat} : ∀ {l : List Edge}, edgesOK j l = true → ∀ e ∈ l, Region.binds .any e = true → e.on < j
  | [], _, e, he, _ => by simp at he
  | x :: l, h, e, he, hb => by
    unfold edgesOK at h
    rw [Bool.and_eq_true] at h
    rcases List.mem_cons.1 he with rfl | he
    · rcases Bool.or_eq_true_iff.1 h.1 with h' | h'
      · rw [hb] at h'; cases h'
      · exact Nat.le_of_ble_eq_true h'
    · exact edgesOK_spec h.2 e he hb

theorem anc_of_match {an : List Nat} {i j : Nat} (h : (match nth an i with | some m => m.testBit j | none => false) = true) : Anc an i j := by
  unfold Anc
  cases hn : nth an i with
  | none => rw [hn] at h; cases h
  | some m => rw [hn] at h; exact ⟨m, rfl, h⟩

theorem slotOK_spec {an : List Nat} {j t : Nat} : ∀ {l : List Oper} {k : Nat}, slotOK an j t k l = true → ∀ i o, l[i]? = some o → o.dst = some t → (k + i = j ∨ (k + i < j ∧ Anc an j (k + i)) ∨ (j < k + i ∧ Anc an (k + i) j))
  | [], _, _, i, o, hi, _ => by simp at hi
  | x :: l, k, h, i, o, hi, hd => by
    unfold slotOK at h
    rw [Bool.and_eq_true] at h
    cases i with
    | zero =>
      simp at hi; subst hi
      have h1 := h.1
      rw [hd] at h1
      simp only [Nat.beq_refl, cond_true, Nat.add_zero] at h1 ⊢
      rcases Bool.or_eq_true_iff.1 h1 with h2 | h2
      · exact .inl (Nat.eq_of_beq_eq_true h2)
      · cases hlt : Nat.blt k j with
        | true => rw [hlt, cond_true] at h2; exact .inr (.inl ⟨Nat.le_of_ble_eq_true hlt, anc_of_match h2⟩)
        | false =>
          rw [hlt, cond_false] at h2
          by_cases e : k = j
          · exact .inl e
          · refine .inr (.inr ⟨?_, anc_of_match h2⟩)
            have : ¬ k < j := fun hh => by rw [show Nat.blt k j = true from Nat.ble_eq_true_of_le hh] at hlt; cases hlt
            omega
    | succ i =>
      have := slotOK_spec h.2 i o (by simpa using hi) hd
      rw [show k + (i + 1) = k + 1 + i by omega]
      exact this

theorem slotsOK_spec {an : List Nat} {l : List Oper} {j : Nat} : ∀ {ts : List Nat}, slotsOK an l j ts = true → ∀ t ∈ ts, slotOK an j t 0 l = true
  | [], _, t, ht => by simp at ht
  | x :: ts, h, t, ht => by
    unfold slotsOK at h
    rw [Bool.and_eq_true] at h
    rcases List.mem_cons.1 ht with rfl | ht
    · exact h.1
    · exact slotsOK_spec h.2 t ht

theorem regOK_spec {ops : Array Oper} {an : List Nat} {all : List Oper} : ∀ {l : List Oper} {j : Nat}, regOK ops an all j l = true → ∀ k o, l[k]? = some o → edgesOK (j + k) o.after.toList = true ∧ ∀ t ∈ looks ops o ++ o.dst.toList, slotOK an (j + k) t 0 all = true
  | [], _, _, k, o, hk => by simp at hk
  | x :: l, j, h, k, o, hk => by
    unfold regOK at h
    rw [Bool.and_eq_true, Bool.and_eq_true] at h
    cases k with
    | zero => simp at hk; subst hk; exact ⟨h.1, slotsOK_spec h.2.1⟩
    | succ k =>
      have := regOK_spec h.2.2 k o (by simpa using hk)
      rw [show j + (k + 1) = j + 1 + k by omega]
      exact this

theorem takenAt_spec {mask f : Nat} : ∀ {l : List Nat} {k : Nat}, takenAt mask f k l = true ↔ ∃ j m, l[j]? = some m ∧ mask.testBit (k + j) = true ∧ m.testBit f = true
  | [], k => by simp [takenAt]
  | x :: l, k => by
    unfold takenAt
    rw [Bool.or_eq_true_iff, Bool.and_eq_true, takenAt_spec (l := l)]
    constructor
    · rintro (⟨h1, h2⟩ | ⟨j, m, h1, h2, h3⟩)
      · exact ⟨0, x, by simp, by simpa using h1, h2⟩
      · exact ⟨j + 1, m, by simpa using h1, by rw [show k + (j + 1) = k + 1 + j by omega]; exact h2, h3⟩
    · rintro ⟨j, m, h1, h2, h3⟩
      cases j with
      | zero => simp at h1; subst h1; exact .inl ⟨by simpa using h2, h3⟩
      | succ j => exact .inr ⟨j, m, by simpa using h1, by rw [show k + (j + 1) = k + 1 + j by omega] at h2; exact h2, h3⟩

theorem takenAt_anc {an : List Nat} {mask f : Nat} : takenAt mask f 0 an = true ↔ ∃ j, mask.testBit j = true ∧ Anc an j f := by
  rw [takenAt_spec]
  constructor
  · rintro ⟨j, m, h1, h2, h3⟩; exact ⟨j, by simpa using h2, m, by rw [nth_eq]; exact h1, h3⟩
  · rintro ⟨j, h2, m, h1, h3⟩; exact ⟨j, m, by rw [← nth_eq]; exact h1, by simpa using h2, h3⟩

theorem behind_bit {i : Nat} : ∀ {l : List Nat} {k j : Nat}, (behind i k l).testBit j = true → ∃ x m, l[x]? = some m ∧ k + x = j ∧ m.testBit i = true
  | [], k, j, h => by simp [behind] at h
  | m :: l, k, j, h => by
    unfold behind at h
    have rec' : (behind i (k + 1) l).testBit j = true → ∃ x m', (m :: l)[x]? = some m' ∧ k + x = j ∧ m'.testBit i = true := fun h' => by
      obtain ⟨x, m', h1, h2, h3⟩ := behind_bit h'
      exact ⟨x + 1, m', by simpa using h1, by omega, h3⟩
    cases hb : m.testBit i with
    | true =>
      rw [hb, cond_true, Nat.testBit_or, Nat.testBit_two_pow, Bool.or_eq_true_iff] at h
      rcases h with h | h
      · exact ⟨0, m, by simp, by simpa using h, hb⟩
      · exact rec' h
    | false => rw [hb, cond_false] at h; exact rec' h

theorem behind_anc {an : List Nat} {i j : Nat} (h : (behind i 0 an).testBit j = true) : Anc an j i := by
  obtain ⟨x, m, h1, h2, h3⟩ := behind_bit h
  have : x = j := by omega
  subst this
  exact ⟨m, by rw [nth_eq]; exact h1, h3⟩

/-! ### new blocks -/
noncomputable def flGet : List Fl → Nat → Option AObj
  | [], _ => none
  | x :: l, f => if x.f = f then some x.ob else flGet l f

theorem addFl_get (base : Nat) (g : Nat → Bool) (A : ASt) : ∀ (l : List Fl) (b : Nat), (addFl base g l A).get b = if base ≤ b ∧ g (b - base) = true then (match flGet l (b - base) with | some o => some o | none => A.get b) else A.get b
  | [], b => by simp [addFl, flGet]
  | x :: l, b => by
    unfold addFl flGet
    cases hg : g x.f with
    | true =>
      rw [cond_true, ASt.get_set, addFl_get base g A l b]
      by_cases e : b = base + x.f
      · subst e
        rw [if_pos rfl]
        simp [hg]
      · rw [if_neg e]
        by_cases hb : base ≤ b ∧ g (b - base) = true
        · rw [if_pos hb, if_pos hb, if_neg (by omega)]
        · rw [if_neg hb, if_neg hb]
    | false =>
      rw [cond_false, addFl_get base g A l b]
      by_cases hb : base ≤ b ∧ g (b - base) = true
      · rw [if_pos hb, if_pos hb, if_neg]
        intro e
        rw [e, hb.2] at hg; cases hg
      · rw [if_neg hb, if_neg hb]

theorem addFl_next (base : Nat) (g : Nat → Bool) (A : ASt) : ∀ (l : List Fl), (addFl base g l A).next = A.next
  | [] => rfl
  | x :: l => by
    unfold addFl
    cases g x.f with
    | true => simp [addFl_next base g A l]
    | false => simp [addFl_next base g A l]

/-! ### two values are one -/
theorem fnEq_eq {f g : Fn} (h : fnEq f g = true) : f = g := by
  unfold fnEq at h
  split at h
  · rw [Nat.eq_of_beq_eq_true h]
  · rw [Nat.eq_of_beq_eq_true h]
  · cases h

theorem flatEq_eq {a b : Value} (h : flatEq a b = true) : a = b := by
  unfold flatEq at h
  split at h <;> (try simp only [Bool.and_eq_true] at h)
  · rename_i x y; simp at h; rw [h]
  · rename_i k x j y
    obtain ⟨h1, h2⟩ := h
    have : x = y := by simpa using h2
    rw [kind_eq h1, this]
  · rename_i x y
    rw [bytesEq_eq] at h
    have h' : x.data.toList = y.data.toList := by simpa using h
    rw [show x = y from ByteArray.ext (Array.ext' h')]
  · rfl
  · rename_i x y z u
    rw [Nat.eq_of_beq_eq_true h.1, Nat.eq_of_beq_eq_true h.2]
  · rename_i x y z u
    rw [Nat.eq_of_beq_eq_true h.1, Nat.eq_of_beq_eq_true h.2]
  · rename_i x y z u x' y' z' u'
    rw [Nat.eq_of_beq_eq_true h.1.1, Nat.eq_of_beq_eq_true h.1.2, Nat.eq_of_beq_eq_true h.2.1, Nat.eq_of_beq_eq_true h.2.2]
  · rename_i x y s z u x' y' s' z' u'
    rw [Nat.eq_of_beq_eq_true h.1.1, Nat.eq_of_beq_eq_true h.1.2, Nat.eq_of_beq_eq_true h.2.1, Nat.eq_of_beq_eq_true h.2.2.1, Nat.eq_of_beq_eq_true h.2.2.2]
  · rfl
  · rw [Nat.eq_of_beq_eq_true h]
  · rfl
  · rfl
  · rename_i f a b g c d
    simp only [Array.isEmpty_iff] at h
    rw [fnEq_eq h.1.1, h.1.2.1, h.1.2.2, h.2.1, h.2.2]
  · rfl
  · rw [Nat.eq_of_beq_eq_true h]
  · cases h

theorem flatsEq_eq : ∀ {a b : List Value}, flatsEq a b = true → a = b
  | [], [], _ => rfl
  | [], _ :: _, h => by simp [flatsEq] at h
  | _ :: _, [], h => by simp [flatsEq] at h
  | a :: l, b :: r, h => by
    unfold flatsEq at h
    rw [Bool.and_eq_true] at h
    rw [flatEq_eq h.1, flatsEq_eq h.2]

theorem lEq_eq {α : Type} {q : α → α → Bool} (hq : ∀ a b, q a b = true → a = b) : ∀ {l r : List α}, lEq q l r = true → l = r
  | [], [], _ => rfl
  | [], _ :: _, h => by cases h
  | _ :: _, [], h => by cases h
  | a :: l, b :: r, h => by
    simp only [lEq, Bool.and_eq_true] at h
    rw [hq a b h.1, lEq_eq hq h.2]

theorem vStep_eq {q : Value → Value → Bool} (hq : ∀ a b, q a b = true → a = b) (a b : Value) (h : vStep q a b = true) : a = b := by
  unfold vStep at h
  split at h
  · rename_i x y
    rw [Array.ext' (lEq_eq hq h)]
  · rename_i x y
    rw [Array.ext' (lEq_eq hq h)]
  · rename_i t x u y
    rw [Bool.and_eq_true] at h
    rw [Nat.eq_of_beq_eq_true h.1, hq _ _ h.2]
  · simp only [Bool.and_eq_true] at h
    rw [fnEq_eq h.1, Array.ext' (lEq_eq hq h.2.1), Array.ext' (lEq_eq hq h.2.2)]
  · exact flatEq_eq h

theorem vEq_eq : ∀ (n : Nat) (a b : Value), vEq n a b = true → a = b
  | 0, _, _, h => flatEq_eq h
  | n + 1, a, b, h => vStep_eq (vEq_eq n) a b h

theorem valEq_eq {a b : Value} (h : valEq a b = true) : a = b := vEq_eq 4 a b h

end Go.AE
