/- The evaluator: maps of any keys to any values; loops over them. Printed from AeMapU and AeMapL by mkmapv.py. -/
import Derived.Test.YtgcffmhpjphefaaGreatDoorP05
set_option linter.unusedSimpArgs false
set_option linter.unusedVariables false
set_option linter.unusedSectionVars false
namespace Go.AE
open Go
set_option linter.unusedSectionVars false

structure MapEnc (κ α : Type) [DecidableEq κ] where
  ek : κ → Value
  ev : α → Value
  same : ∀ a b, sameKey (ek a) (ek b) = some (decide (a = b))
section
variable {κ α : Type} [DecidableEq κ] {Γ : MapEnc κ α}
abbrev VE (κ α : Type) := κ × α × Nat
noncomputable def ve (Γ : MapEnc κ α) (x : VE κ α) : MapEntry := { key := Γ.ek x.1, val := Γ.ev x.2.1, born := x.2.2 }
noncomputable def vEnts (Γ : MapEnc κ α) (l : List (VE κ α)) : List MapEntry := l.map (ve Γ)

structure VOK (l : List (VE κ α)) (ck : Nat) : Prop where
  keys : (l.map (·.1)).Nodup
  born : (l.map (·.2.2)).Nodup
  lt : ∀ x ∈ l, x.2.2 < ck

noncomputable def vget (l : List (VE κ α)) (k : κ) : Option α :=
  match l with
  | [] => none
  | x :: l => if k = x.1 then some x.2.1 else vget l k

theorem vget_some {l : List (VE κ α)} {k : κ} {v : α} (h : vget l k = some v) : ∃ b, (k, v, b) ∈ l := by
  induction l with
  | nil => cases h
  | cons x l ih =>
    simp only [vget] at h
    split at h
    · rename_i e; cases h; exact ⟨x.2.2, by rw [e]; simp⟩
    · obtain ⟨b, hb⟩ := ih h; exact ⟨b, by simp [hb]⟩

theorem vget_mem {l : List (VE κ α)} (hn : (l.map (·.1)).Nodup) {x : (VE κ α)} (h : x ∈ l) : vget l x.1 = some x.2.1 := by
  induction l with
  | nil => cases h
  | cons y l ih =>
    simp only [List.map_cons, List.nodup_cons] at hn
    simp only [vget]
    rcases List.mem_cons.1 h with rfl | h
    · rw [if_pos rfl]
    · rw [if_neg, ih hn.2 h]
      intro e
      exact hn.1 (List.mem_map.2 ⟨x, h, e⟩)

theorem vget_none {l : List (VE κ α)} {k : κ} : vget l k = none ↔ ∀ x ∈ l, x.1 ≠ k := by
  induction l with
  | nil => simp [vget]
  | cons y l ih =>
    simp only [vget]
    by_cases e : k = y.1
    · simp [e]
    · simp [e, ih, Ne.symm e]

noncomputable def vpos (k : κ) : List (VE κ α) → Nat → Option (Nat × α)
  | [], _ => none
  | x :: l, i => if k = x.1 then some (i, x.2.1) else vpos k l (i + 1)

theorem findE_v (k : κ) : ∀ (l : List (VE κ α)) (i : Nat), findE (Γ.ek k) (vEnts Γ l) i = some ((vpos k l i).map fun p => (p.1, Γ.ev p.2))
  | [], i => rfl
  | x :: l, i => by
    have ih := findE_v k l (i + 1)
    simp only [vEnts, List.map_cons, findE, ve, Γ.same, vpos]
    by_cases e : k = x.1
    · simp [e]
    · simp only [e, decide_false, if_false]
      exact ih

theorem vpos_get (k : κ) : ∀ (l : List (VE κ α)) (i : Nat), (vpos k l i).map (·.2) = vget l k
  | [], i => rfl
  | x :: l, i => by
    simp only [vpos, vget]
    by_cases e : k = x.1
    · simp [e]
    · simp only [e, if_false]; exact vpos_get k l (i + 1)

noncomputable def vput (k : κ) (v : α) (ck : Nat) : List (VE κ α) → List (VE κ α)
  | [] => [(k, v, ck)]
  | x :: l => if k = x.1 then (k, v, x.2.2) :: l else x :: vput k v ck l
noncomputable def vck (l : List (VE κ α)) (k : κ) (ck : Nat) : Nat := if (vget l k).isSome then ck else ck + 1
noncomputable def vdel (k : κ) : List (VE κ α) → List (VE κ α)
  | [] => []
  | x :: l => if k = x.1 then l else x :: vdel k l

theorem vget_uput {k : κ} {v : α} {ck : Nat} {l : List (VE κ α)} (j : κ) : vget (vput k v ck l) j = if j = k then some v else vget l j := by
  induction l with
  | nil => simp [vput, vget]
  | cons x l ih =>
    simp only [vput]
    by_cases e : k = x.1
    · rw [if_pos e]
      simp only [vget]
      by_cases e2 : j = k
      · simp [e2]
      · simp [e2, ← e]
    · rw [if_neg e]
      simp only [vget, ih]
      by_cases e2 : j = k
      · subst e2; simp [e]
      · simp [e2]

theorem vput_keys {k : κ} {v : α} {ck : Nat} : ∀ {l : List (VE κ α)}, (vput k v ck l).map (·.1) = if (vget l k).isSome then l.map (·.1) else l.map (·.1) ++ [k]
  | [] => rfl
  | x :: l => by
    simp only [vput, vget]
    by_cases e : k = x.1
    · simp [e]
    · simp only [e, if_false, List.map_cons, vput_keys (l := l)]
      split <;> simp

theorem vput_born {k : κ} {v : α} {ck : Nat} : ∀ {l : List (VE κ α)}, (vput k v ck l).map (·.2.2) = if (vget l k).isSome then l.map (·.2.2) else l.map (·.2.2) ++ [ck]
  | [] => rfl
  | x :: l => by
    simp only [vput, vget]
    by_cases e : k = x.1
    · simp [e]
    · simp only [e, if_false, List.map_cons, vput_born (l := l)]
      split <;> simp

theorem vput_ok {k : κ} {v : α} {ck : Nat} {l : List (VE κ α)} (h : VOK l ck) : VOK (vput k v ck l) (vck l k ck) := by
  refine ⟨?_, ?_, ?_⟩
  · rw [vput_keys]
    cases hg : vget l k with
    | some u => simpa using h.keys
    | none =>
      simp only [Option.isSome_none, Bool.false_eq_true, if_false]
      rw [List.nodup_append]
      refine ⟨h.keys, by simp, fun a ha b hb => ?_⟩
      simp at hb; subst hb
      obtain ⟨x, hx, rfl⟩ := List.mem_map.1 ha
      exact vget_none.1 hg x hx
  · rw [vput_born]
    cases hg : vget l k with
    | some u => simpa using h.born
    | none =>
      simp only [Option.isSome_none, Bool.false_eq_true, if_false]
      rw [List.nodup_append]
      refine ⟨h.born, by simp, fun a ha b hb => ?_⟩
      simp at hb; subst hb
      obtain ⟨x, hx, rfl⟩ := List.mem_map.1 ha
      have := h.lt x hx
      omega
  · intro x hx
    have hm : x.2.2 ∈ (vput k v ck l).map (·.2.2) := List.mem_map.2 ⟨x, hx, rfl⟩
    rw [vput_born] at hm
    unfold vck
    cases hg : vget l k with
    | some u =>
      rw [hg] at hm
      simp only [Option.isSome_some, if_true] at hm ⊢
      obtain ⟨y, hy, e⟩ := List.mem_map.1 hm
      have := h.lt y hy
      omega
    | none =>
      rw [hg] at hm
      simp only [Option.isSome_none, Bool.false_eq_true, if_false] at hm ⊢
      rcases List.mem_append.1 hm with hm | hm
      · obtain ⟨y, hy, e⟩ := List.mem_map.1 hm
        have := h.lt y hy
        omega
      · simp at hm; omega

theorem vdel_sub {k : κ} : ∀ {l : List (VE κ α)}, (vdel k l).Sublist l
  | [] => .slnil
  | x :: l => by
    simp only [vdel]
    split
    · exact List.sublist_cons_self _ _
    · exact vdel_sub.cons_cons _

theorem vdel_ok {k : κ} {l : List (VE κ α)} {ck : Nat} (h : VOK l ck) : VOK (vdel k l) ck :=
  ⟨h.keys.sublist (vdel_sub.map _), h.born.sublist (vdel_sub.map _), fun x hx => h.lt x (vdel_sub.subset hx)⟩

theorem vget_udel {k : κ} {l : List (VE κ α)} (hn : (l.map (·.1)).Nodup) (j : κ) : vget (vdel k l) j = if j = k then none else vget l j := by
  induction l with
  | nil => simp [vdel, vget]
  | cons x l ih =>
    simp only [List.map_cons, List.nodup_cons] at hn
    simp only [vdel]
    by_cases e : k = x.1
    · rw [if_pos e]
      by_cases e2 : j = k
      · rw [if_pos e2, vget_none]
        intro y hy e3
        exact hn.1 (List.mem_map.2 ⟨y, hy, by rw [e3, e2, e]⟩)
      · rw [if_neg e2]
        simp only [vget]
        rw [if_neg (by rw [← e]; exact e2)]
    · rw [if_neg e]
      simp only [vget, ih hn.2]
      by_cases e2 : j = k
      · subst e2; simp [e]
      · simp [e2]

theorem setVal_v {k : κ} {v : α} {ck : Nat} : ∀ {l : List (VE κ α)} {i j : Nat} {u : α}, vpos k l i = some (j, u) → i ≤ j ∧ setVal (vEnts Γ l) (j - i) (Γ.ek k) (Γ.ev v) = vEnts Γ (vput k v ck l)
  | [], i, j, u, h => by cases h
  | x :: l, i, j, u, h => by
    simp only [vpos] at h
    by_cases e : k = x.1
    · rw [if_pos e] at h
      cases h
      refine ⟨Nat.le_refl _, ?_⟩
      simp only [Nat.sub_self, vEnts, List.map_cons, setVal, vput, if_pos e, ve]
    · rw [if_neg e] at h
      obtain ⟨h1, h2⟩ := setVal_v (ck := ck) (v := v) h
      refine ⟨by omega, ?_⟩
      rw [show j - i = (j - (i + 1)) + 1 by omega]
      simp only [vEnts, List.map_cons, setVal, vput, if_neg e]
      rw [← vEnts, h2]
      rfl

theorem eraseAt_v {k : κ} : ∀ {l : List (VE κ α)} {i j : Nat} {u : α}, vpos k l i = some (j, u) → i ≤ j ∧ eraseAt (vEnts Γ l) (j - i) = vEnts Γ (vdel k l)
  | [], i, j, u, h => by cases h
  | x :: l, i, j, u, h => by
    simp only [vpos] at h
    by_cases e : k = x.1
    · rw [if_pos e] at h
      cases h
      refine ⟨Nat.le_refl _, ?_⟩
      simp only [Nat.sub_self, vEnts, List.map_cons, eraseAt, vdel, if_pos e]
    · rw [if_neg e] at h
      obtain ⟨h1, h2⟩ := eraseAt_v h
      refine ⟨by omega, ?_⟩
      rw [show j - i = (j - (i + 1)) + 1 by omega]
      simp only [vEnts, List.map_cons, eraseAt, vdel, if_neg e]
      rw [← vEnts, h2]
      rfl

theorem vput_new {k : κ} {v : α} {ck : Nat} : ∀ {l : List (VE κ α)}, vget l k = none → vput k v ck l = l ++ [(k, v, ck)]
  | [], _ => rfl
  | x :: l, h => by
    simp only [vget] at h
    by_cases e : k = x.1
    · rw [if_pos e] at h; cases h
    · rw [if_neg e] at h
      simp only [vput, if_neg e, vput_new h, List.cons_append]

section
variable {E : Env} {A : ASt} {t kt et m ck : Nat} {l : List (VE κ α)} {i ki ei : TIn}

theorem lookup_v (hi : E.ti t = some i) (hd : i.desc = .map kt et) (hk : E.ti kt = some ki) (hkd : ∀ k, plainKey ki.desc (Γ.ek k) = true) (he : E.ti et = some ei) {z : Value} (hz : ei.zero = some z) (hzc : closed z = true) (hm : A.get m = some (.map (vEnts Γ l) ck)) (k : κ) (ok : Bool) :
    aLookup E t (.map (some m)) (Γ.ek k) ok A = some (if ok then .tuple #[((vget l k).map Γ.ev).getD z, .bool (vget l k).isSome] else ((vget l k).map Γ.ev).getD z) := by
  have hp : plainKey ki.desc (Γ.ek k) = true := hkd k
  simp only [aLookup, hi, hd, hk, he, hp, cond_true, hm, findE_v]
  have := vpos_get k l 0
  cases hu : vpos k l 0 with
  | none => rw [hu] at this; simp only [Option.map_none] at this ⊢; rw [← this, hz]; simp only [hzc, cond_true]; rfl
  | some p => rw [hu] at this; simp only [Option.map_some] at this ⊢; rw [← this]; rfl

theorem mapUpdate_v (hi : E.ti t = some i) (hd : i.desc = .map kt et) (hk : E.ti kt = some ki) (hkd : ∀ k, plainKey ki.desc (Γ.ek k) = true) (hm : A.get m = some (.map (vEnts Γ l) ck)) (k : κ) (v : α) :
    aMapUpdate E t (.map (some m)) (Γ.ek k) (Γ.ev v) A = some (A.set m (.map (vEnts Γ (vput k v ck l)) (vck l k ck))) := by
  have hp : plainKey ki.desc (Γ.ek k) = true := hkd k
  simp only [aMapUpdate, hi, hd, hk, hp, cond_true, hm, findE_v]
  have := vpos_get k l 0
  cases hu : vpos k l 0 with
  | none =>
    rw [hu] at this
    simp only [Option.map_none] at this ⊢
    have hg : vget l k = none := this.symm
    rw [vput_new hg]
    unfold vck
    rw [hg]
    simp [vEnts, ve]
  | some p =>
    rw [hu] at this
    simp only [Option.map_some] at this ⊢
    have hs := (setVal_v (Γ := Γ) (ck := ck) (v := v) hu).2
    simp only [Nat.sub_zero] at hs
    unfold vck
    rw [← this, hs]
    rfl

theorem delete_v (hi : E.ti t = some i) (hd : i.desc = .map kt et) (hk : E.ti kt = some ki) (hkd : ∀ k, plainKey ki.desc (Γ.ek k) = true) (hm : A.get m = some (.map (vEnts Γ l) ck)) (k : κ) :
    aDelete E t (.map (some m)) (Γ.ek k) A = .val undef (if (vget l k).isSome then A.set m (.map (vEnts Γ (vdel k l)) ck) else A) := by
  have hp : plainKey ki.desc (Γ.ek k) = true := hkd k
  simp only [aDelete, hi, hd, hk, hp, cond_true, hm, findE_v]
  have := vpos_get k l 0
  cases hu : vpos k l 0 with
  | none => rw [hu] at this; simp only [Option.map_none] at this ⊢; rw [← this]; rfl
  | some p =>
    rw [hu] at this
    simp only [Option.map_some] at this ⊢
    have hs := (eraseAt_v (Γ := Γ) hu).2
    simp only [Nat.sub_zero] at hs
    rw [← this, hs]
    rfl

end

theorem VOK.mem_born {l : List (VE κ α)} {ck : Nat} (hok : VOK l ck) {x y : (VE κ α)} (hx : x ∈ l) (hy : y ∈ l) (e : x.2.2 = y.2.2) : x = y := by
  have hp := hok.born
  clear hok
  exact keys_one (f := fun x : (VE κ α) => x.2.2) hp hx hy e

theorem nextV_v {l done : List (VE κ α)} {ck m r : Nat} {A : ASt} {K : Value → ASt → Prop} (hok : VOK l ck) (hsub : ∀ x ∈ done, x ∈ l) (hr : A.get r = some (.miter (some m) ck (done.map (·.2.2)) ck)) (hm : A.get m = some (.map (vEnts Γ l) ck))
    (h1 : ∀ x ∈ l, x ∉ done → K (.tuple #[.bool true, Γ.ek x.1, Γ.ev x.2.1]) (A.set r (.miter (some m) ck ((done ++ [x]).map (·.2.2)) ck)))
    (h2 : (∀ x ∈ l, x ∈ done) → K (.tuple #[.bool false]) A) : nextV (some (.pointer (some ⟨r, 0, none⟩))) false A K := by
  have hold : (done.map (·.2.2)).isEmpty = true ∨ (vEnts Γ l).all (fun e => decide (e.born ≥ ck)) = false := by
    cases done with
    | nil => exact .inl rfl
    | cons y d =>
      right
      rw [List.all_eq_false]
      refine ⟨ve Γ y, List.mem_map.2 ⟨y, hsub y (by simp), rfl⟩, ?_⟩
      have := hok.lt y (hsub y (by simp))
      simp [ve]; omega
  have hb : ((done.map (·.2.2)).isEmpty || !((vEnts Γ l).all fun e => decide (e.born ≥ ck))) = true := by
    rcases hold with h | h <;> simp [h]
  have hmem : ∀ e, e ∈ entriesLeft (done.map (·.2.2)) (vEnts Γ l) → ∃ x ∈ l, x ∉ done ∧ e = ve Γ x := by
    intro e he
    simp only [entriesLeft, List.mem_filter, vEnts, List.mem_map] at he
    obtain ⟨⟨x, hx, rfl⟩, hn⟩ := he
    refine ⟨x, hx, fun hd => ?_, rfl⟩
    have : (done.map (·.2.2)).contains (ve Γ x).born = true := List.contains_iff_mem.2 (List.mem_map.2 ⟨x, hd, rfl⟩)
    rw [this] at hn
    cases hn
  have hyoung : ∀ e, e ∈ entriesLeft (done.map (·.2.2)) (vEnts Γ l) → e.born < ck := by
    intro e he
    obtain ⟨x, hx, _, rfl⟩ := hmem e he
    exact hok.lt x hx
  have hK : ∀ e, e ∈ entriesLeft (done.map (·.2.2)) (vEnts Γ l) → K (.tuple #[.bool true, e.key, e.val]) (A.set r (.miter (some m) ck (done.map (·.2.2) ++ [e.born]) ck)) := by
    intro e he
    obtain ⟨x, hx, hn, rfl⟩ := hmem e he
    have := h1 x hx hn
    rw [List.map_append] at this
    exact this
  simp only [nextV, aNext, hr, hm, Nat.beq_refl, Bool.and_self, cond_true]
  cases hL : entriesLeft (done.map (·.2.2)) (vEnts Γ l) with
  | nil =>
    have hall : ∀ x ∈ l, x ∈ done := by
      intro x hx
      by_cases hd : x ∈ done
      · exact hd
      · exfalso
        have : ve Γ x ∈ entriesLeft (done.map (·.2.2)) (vEnts Γ l) := by
          simp only [entriesLeft, List.mem_filter, vEnts, List.mem_map]
          refine ⟨⟨x, hx, rfl⟩, ?_⟩
          have : (done.map (·.2.2)).contains (ve Γ x).born = false := by
            rw [Bool.eq_false_iff]
            intro hc
            obtain ⟨y, hy, e⟩ := List.mem_map.1 (List.contains_iff_mem.1 hc)
            have := hok.mem_born (hsub y hy) hx e
            exact hd (this ▸ hy)
          rw [this]; rfl
        rw [hL] at this
        cases this
    have hb2 : ((done.map (·.2.2)).isEmpty || ((vEnts Γ l).isEmpty || !((vEnts Γ l).all fun e => decide (e.born ≥ ck)))) = true := by
      rcases hold with h | h <;> simp [h]
    rw [hb2, cond_true]
    exact h2 hall
  | cons e rest =>
    rw [hL] at hyoung hK
    cases rest with
    | nil =>
      have h3 : decide (e.born < ck) = true := decide_eq_true (hyoung e (by simp))
      simp only [h3, hb, Bool.and_self, cond_true, Nd.all]
      exact hK e (by simp)
    | cons e2 rest =>
      have h3 : ((e :: e2 :: rest).all fun e => decide (e.born < ck)) = true := List.all_eq_true.2 fun x hx => decide_eq_true (hyoung x hx)
      simp only [h3, hb, Bool.and_self, cond_true, Nd.all]
      intro i hi
      have hi' : nth (e :: e2 :: rest) i = some ((e :: e2 :: rest)[i]'hi) := by rw [nth_eq]; exact List.getElem?_eq_getElem _
      rw [hi']
      exact hK _ (List.getElem_mem hi)

theorem findBorn_v {l : List (VE κ α)} (hn : (l.map (·.2.2)).Nodup) {x : (VE κ α)} (hx : x ∈ l) : findBorn x.2.2 (vEnts Γ l) = some (ve Γ x) := by
  induction l with
  | nil => cases hx
  | cons y l ih =>
    simp only [List.map_cons, List.nodup_cons] at hn
    simp only [vEnts, List.map_cons, findBorn]
    rcases List.mem_cons.1 hx with rfl | hx
    · have : Nat.beq (ve Γ x).born x.2.2 = true := Nat.beq_refl _
      rw [this, cond_true]
    · have : Nat.beq (ve Γ y).born x.2.2 = false := by
        rw [Bool.eq_false_iff]
        intro h
        exact hn.1 (List.mem_map.2 ⟨x, hx, (Nat.eq_of_beq_eq_true h).symm⟩)
      rw [this, cond_false]
      exact ih hn.2 hx

theorem entry_v {l done : List (VE κ α)} {ck m r : Nat} {A : ASt} {x : (VE κ α)} (hok : VOK l ck) (hx : x ∈ l) (hr : A.get r = some (.miter (some m) ck ((done ++ [x]).map (·.2.2)) ck)) (hm : A.get m = some (.map (vEnts Γ l) ck)) :
    aEntry (.pointer (some ⟨r, 0, none⟩)) A = some (.tuple #[Γ.ek x.1, Γ.ev x.2.1]) := by
  simp only [aEntry, hr, hm, List.map_append, List.map_cons, List.map_nil, lastOf_snoc, Nat.beq_refl, cond_true, findBorn_v hok.born hx]
  rfl

structure InVMap (Γ : MapEnc κ α) (it : Tmp) (r m ck : Nat) (l done : List (VE κ α)) (T : Tmps) (A : ASt) : Prop where
  it : tget T it = .pointer (some ⟨r, 0, none⟩)
  iter : A.get r = some (.miter (some m) ck (done.map (·.2.2)) ck)
  map : A.get m = some (.map (vEnts Γ l) ck)
  sub : ∀ x ∈ done, x ∈ l
  nodup : done.Nodup

theorem vnodup_le {l : List (VE κ α)} : ∀ {d : List (VE κ α)}, d.Nodup → (∀ x ∈ d, x ∈ l) → d.length ≤ l.length := by
  induction l with
  | nil =>
    intro d _ hs
    cases d with
    | nil => simp
    | cons x d => exact absurd (hs x (by simp)) (by simp)
  | cons y l ih =>
    intro d hd hs
    by_cases hy : y ∈ d
    · obtain ⟨s, t, rfl⟩ := List.append_of_mem hy
      have hd' : (s ++ t).Nodup ∧ y ∉ s ++ t := by
        have h1 : (s ++ y :: t).Perm (y :: (s ++ t)) := List.perm_middle
        have h2 := (h1.nodup_iff).1 hd
        simp only [List.nodup_cons] at h2
        exact ⟨h2.2, h2.1⟩
      have h1 := ih hd'.1 (fun x hx => by
        rcases List.mem_cons.1 (hs x (by rcases List.mem_append.1 hx with h | h <;> simp [h])) with e | e
        · exact absurd (e ▸ hx) hd'.2
        · exact e)
      simp only [List.length_append, List.length_cons] at h1 ⊢; omega
    · have h1 := ih (d := d) hd (fun x hx => by
        rcases List.mem_cons.1 (hs x hx) with e | e
        · exact absurd (e ▸ hx) hy
        · exact e)
      simp only [List.length_cons]; omega

theorem CodeW.mapLoopV {Z : Road} {P : Program} {n : Nat} {ro : Option Nat} {b : Code} {Q : Out → Prop} {it : Tmp} {r m ck : Nat} {l : List (VE κ α)} (J : List (VE κ α) → Tmps → ASt → Prop)
    (hb : ∀ done T A, InVMap Γ it r m ck l done T A → J done T A → CodeW Z P n ro b T A (Onw (fun T' A' => ∃ x, x ∈ l ∧ x ∉ done ∧ InVMap Γ it r m ck l (done ++ [x]) T' A' ∧ J (done ++ [x]) T' A') Q))
    {T : Tmps} {A : ASt} (h0 : InVMap Γ it r m ck l [] T A) (hJ : J [] T A) : CodeW Z P n ro (.loop b) T A Q := by
  refine CodeW.loopR (fun k T A => ∃ done, k = l.length - done.length ∧ InVMap Γ it r m ck l done T A ∧ J done T A) ?_ ⟨[], rfl, h0, hJ⟩
  rintro k T A ⟨done, rfl, hi, hj⟩
  refine (hb done T A hi hj).mono fun o ho => ?_
  cases o with
  | res v A => exact ho
  | fr rr =>
    obtain ⟨ex, T', A'⟩ := rr
    cases ex with
    | normal =>
      obtain ⟨x, h1, h2, h3, h4⟩ := ho
      refine ⟨_, ?_, done ++ [x], rfl, h3, h4⟩
      have h5 := vnodup_le h3.nodup h3.sub
      simp only [List.length_append, List.length_cons, List.length_nil] at h5 ⊢
      omega
    | exit i => exact ho
    | ret => exact ho

theorem InVMap.step {it : Tmp} {r m ck : Nat} {l done : List (VE κ α)} {T T' : Tmps} {A A' : ASt} (h : InVMap Γ it r m ck l done T A) {x : (VE κ α)} (hx : x ∈ l) (hn : x ∉ done) (ht : tget T' it = tget T it) (hr : A'.get r = some (.miter (some m) ck ((done ++ [x]).map (·.2.2)) ck)) (hm : A'.get m = A.get m) : InVMap Γ it r m ck l (done ++ [x]) T' A' :=
  ⟨ht.trans h.it, hr, hm.trans h.map, fun y hy => by
    rcases List.mem_append.1 hy with h1 | h1
    · exact h.sub y h1
    · rw [List.mem_singleton.1 h1]; exact hx, by
    rw [List.nodup_append]
    refine ⟨h.nodup, by simp, fun a ha b hb e => ?_⟩
    rw [List.mem_singleton.1 hb] at e
    exact hn (e ▸ ha)⟩

theorem vget_all {l done : List (VE κ α)} {ck : Nat} (hok : VOK l ck) (hsub : ∀ x ∈ done, x ∈ l) (hall : ∀ x ∈ l, x ∈ done) (hd : done.Nodup) : (done.map (·.1)).Nodup ∧ ∀ k, vget done k = vget l k := by
  have hk : (done.map (·.1)).Nodup := by
    rw [List.Nodup, List.pairwise_map]
    refine List.Pairwise.imp_of_mem (fun {a b} ha hb hne e => hne ?_) hd
    have h1 := vget_mem hok.keys (hsub a ha)
    have h2 := vget_mem hok.keys (hsub b hb)
    exact keys_one (f := fun x : (VE κ α) => x.1) hok.keys (hsub a ha) (hsub b hb) e
  refine ⟨hk, fun k => ?_⟩
  cases h : vget l k with
  | none =>
    rw [vget_none] at h ⊢
    exact fun x hx => h x (hsub x hx)
  | some v =>
    obtain ⟨b, hb⟩ := vget_some h
    exact vget_mem hk (hall _ hb)

theorem vget_snoc {l : List (VE κ α)} {x : (VE κ α)} (k : κ) : vget (l ++ [x]) k = (vget l k).or (if k = x.1 then some x.2.1 else none) := by
  induction l with
  | nil => simp [vget]
  | cons y l ih =>
    simp only [List.cons_append, vget]
    by_cases e : k = y.1
    · simp [e]
    · simp only [e, if_false]; exact ih

def encS {α : Type} (f : α → Value) : MapEnc ByteArray α := ⟨.string, f, fun a b => by simp only [sameKey, bytesEq_iff]⟩
end
end Go.AE

/- Maps: an entry that is there is turned in place (m[k] among several that are assigned together). -/
namespace Go.AE
open Go
set_option maxRecDepth 10000

section
variable {κ α : Type} [DecidableEq κ] {Γ : MapEnc κ α}
theorem vpos_nth {k : κ} : ∀ {l : List (VE κ α)} {i j : Nat} {v : α}, vpos k l i = some (j, v) → i ≤ j ∧ ∃ b, l[j - i]? = some (k, v, b)
  | [], i, j, v, h => by simp [vpos] at h
  | x :: l, i, j, v, h => by
    unfold vpos at h
    split at h
    · rename_i e
      cases h
      refine ⟨Nat.le_refl _, x.2.2, ?_⟩
      rw [Nat.sub_self, e]; rfl
    · obtain ⟨h1, b, h2⟩ := vpos_nth h
      refine ⟨by omega, b, ?_⟩
      have e : j - i = j - (i + 1) + 1 := by omega
      rw [e, List.getElem?_cons_succ]
      exact h2
theorem nth_vEnts {l : List (VE κ α)} {j : Nat} {x : VE κ α} (h : l[j]? = some x) : nth (vEnts Γ l) j = some (ve Γ x) := by
  rw [nth_eq]
  unfold vEnts
  rw [List.getElem?_map, h]
  rfl
theorem setBorn_v {k : κ} {v u : α} {ck b : Nat} : ∀ {l : List (VE κ α)}, (l.map (·.1)).Nodup → (l.map (·.2.2)).Nodup → (k, u, b) ∈ l → setBorn b (Γ.ev v) (vEnts Γ l) = some (vEnts Γ (vput k v ck l))
  | [], _, _, h => by cases h
  | x :: l, hk, hb, h => by
    simp only [List.map_cons, List.nodup_cons] at hk hb
    show setBorn b (Γ.ev v) (ve Γ x :: vEnts Γ l) = _
    unfold setBorn vput
    rcases List.mem_cons.1 h with e | e
    · subst e
      have e1 : Nat.beq (ve Γ (k, u, b)).born b = true := by rw [nbeq]; simp [ve]
      rw [e1, cond_true]
      simp [vEnts, ve]
    · have n1 : k ≠ x.1 := fun e2 => hk.1 (e2 ▸ List.mem_map.2 ⟨_, e, rfl⟩)
      have n2 : x.2.2 ≠ b := fun e2 => hb.1 (e2 ▸ List.mem_map.2 ⟨_, e, rfl⟩)
      have e1 : Nat.beq (ve Γ x).born b = false := by rw [nbeq]; exact decide_eq_false n2
      rw [e1, cond_false, setBorn_v (ck := ck) (v := v) hk.2 hb.2 e, if_neg n1]
      simp [vEnts]
variable {E : Env} {A : ASt} {t kt et : TypeId} {i ki ei : TIn} {m ck : Nat} {l : List (VE κ α)}
theorem mapEntry_v (hok : VOK l ck) (hi : E.ti t = some i) (hd : i.desc = .map kt et) (hk : E.ti kt = some ki) (hkd : ∀ k, plainKey ki.desc (Γ.ek k) = true) (he : E.ti et = some ei) (hm : A.get m = some (.map (vEnts Γ l) ck)) {k : κ} {u : α} (hu : vget l k = some u) :
    ∃ b : Nat, aMapEntry E t (.map (some m)) (Γ.ek k) A = .val (.tuple #[Γ.ev u, .int .i64 (b : Int)]) A ∧ ∀ (B : ASt) (v : α), B.get m = some (.map (vEnts Γ l) ck) → aEntryStore (.map (some m)) (.int .i64 (b : Int)) (Γ.ev v) B = some (B.set m (.map (vEnts Γ (vput k v ck l)) ck)) := by
  have hp : plainKey ki.desc (Γ.ek k) = true := hkd k
  have h1 := vpos_get k l 0
  cases hv : vpos k l 0 with
  | none => rw [hv, hu] at h1; cases h1
  | some p =>
    obtain ⟨j, w⟩ := p
    rw [hv, hu] at h1
    cases h1
    obtain ⟨_, b, hb⟩ := vpos_nth hv
    rw [Nat.sub_zero] at hb
    refine ⟨b, ?_, fun B v hB => ?_⟩
    · simp only [aMapEntry, hi, hd, hk, he, hp, cond_true, hm, findE_v, hv, Option.map_some, nth_vEnts (Γ := Γ) hb]
      rfl
    · have hs := setBorn_v (Γ := Γ) (v := v) (ck := ck) hok.keys hok.born (List.mem_of_getElem? hb)
      show aEntryStore (.map (some m)) (.int .i64 (Int.ofNat b)) (Γ.ev v) B = _
      simp only [aEntryStore, hB, hs]
end
section
variable {E : Env} {T : Tmps} {A : ASt} {C : Tgt → List Value → ASt → (Value → ASt → Prop) → Prop} {K : Value → ASt → Prop}
theorem oneW_mapEntry {t : TypeId} {m k : Operand} : oneW E C (.mapEntry t m k) T A K = arW C K (aOp E (.mapEntry t m k) T A) := oneW_op rfl
theorem oneW_entryStore {t : TypeId} {m s x : Operand} : oneW E C (.entryStore t m s x) T A K = arW C K (aOp E (.entryStore t m s x) T A) := oneW_op rfl
theorem aOp_mapEntry {t : TypeId} {m k : Operand} : aOp E (.mapEntry t m k) T A = (match ev T m, ev T k with
    | some a, some b => (aMapEntry E t a b A).plain
    | _, _ => .bad "mapEntry") := by rw [aOp_def]; rfl
theorem aOp_entryStore {t : TypeId} {m s x : Operand} : aOp E (.entryStore t m s x) T A = (match ev T m, ev T s, ev T x with
    | some a, some b, some c => match aEntryStore a b c A with
      | some A' => .val undef A'
      | none => .bad "entryStore"
    | _, _, _ => .bad "entryStore") := by rw [aOp_def]; rfl
theorem fresh_mapEntry {t : TypeId} {m k : Operand} {E : Env} : freshOp E (.mapEntry t m k) = false := by simp only [freshOp]
theorem quiet_mapEntry {t : TypeId} {m k : Operand} {E : Env} : quietOp E (.mapEntry t m k) = false := by simp only [quietOp]
theorem fresh_entryStore {t : TypeId} {m s x : Operand} {E : Env} : freshOp E (.entryStore t m s x) = false := by simp only [freshOp]
theorem quiet_entryStore {t : TypeId} {m s x : Operand} {E : Env} : quietOp E (.entryStore t m s x) = false := by simp only [quietOp]
end
end Go.AE

/- A set of one contract, for a drawn region that calls one function with known arguments. -/
namespace Go.AE
open Go
variable {Z : Road} {P : Program}
def RO (f : FuncId) (ar : List Value) (Pr : ASt → Prop) (Sp : ASt → Value → ASt → Prop) : Tgt → List Value → ASt → (Value → ASt → Prop) → Prop := fun tg l A S => Pr A ∧ tg = .fn f ∧ l = ar ∧ S = Sp A
theorem RO_ok {f : FuncId} {ar : List Value} {Pr : ASt → Prop} {Sp : ASt → Value → ASt → Prop} (h : ∀ A, Pr A → CallW Z P f ar A (Sp A)) (t args A S) (hr : RO f ar Pr Sp t args A S) : CallT Z P t args A S := by
  obtain ⟨hp, rfl, rfl, rfl⟩ := hr
  exact h A hp
theorem conRO {f : FuncId} {ar : List Value} {Pr : ASt → Prop} {Sp : ASt → Value → ASt → Prop} {A : ASt} {K : Value → ASt → Prop} (hp : Pr A) (h : ∀ r A', Sp A r A' → K r A') : conC (RO f ar Pr Sp) (.fn f) ar A K := by
  refine ⟨⟨_, hp, rfl, rfl, rfl⟩, ?_⟩
  rintro S ⟨_, _, _, rfl⟩ r A' hr
  exact h r A' hr
end Go.AE

/- Two sets of contracts, as one. -/
namespace Go.AE
open Go
variable {Z : Road} {P : Program}
def RU (R1 R2 : Tgt → List Value → ASt → (Value → ASt → Prop) → Prop) : Tgt → List Value → ASt → (Value → ASt → Prop) → Prop := fun t l A S => R1 t l A S ∨ R2 t l A S
theorem RU_ok {R1 R2 : Tgt → List Value → ASt → (Value → ASt → Prop) → Prop} (h1 : ∀ t args A S, R1 t args A S → CallT Z P t args A S) (h2 : ∀ t args A S, R2 t args A S → CallT Z P t args A S) (t args A S) (h : RU R1 R2 t args A S) : CallT Z P t args A S := by
  rcases h with h | h
  · exact h1 t args A S h
  · exact h2 t args A S h
variable {f g : FuncId} {ar br : List Value} {Pr Qr : ASt → Prop} {Sp Sq : ASt → Value → ASt → Prop} {A : ASt} {K : Value → ASt → Prop}
theorem conRU1 (hp : Pr A) (hne : f ≠ g) (h : ∀ r A', Sp A r A' → K r A') : conC (RU (RO f ar Pr Sp) (RO g br Qr Sq)) (.fn f) ar A K := by
  refine ⟨⟨_, .inl ⟨hp, rfl, rfl, rfl⟩⟩, ?_⟩
  rintro S (⟨_, _, _, rfl⟩ | ⟨_, h2, _⟩) r A' hr
  · exact h r A' hr
  · cases h2; exact absurd rfl hne
theorem conRU2 (hp : Qr A) (hne : f ≠ g) (h : ∀ r A', Sq A r A' → K r A') : conC (RU (RO f ar Pr Sp) (RO g br Qr Sq)) (.fn g) br A K := by
  refine ⟨⟨_, .inr ⟨hp, rfl, rfl, rfl⟩⟩, ?_⟩
  rintro S (⟨_, h2, _⟩ | ⟨_, _, _, rfl⟩) r A' hr
  · cases h2; exact absurd rfl hne
  · exact h r A' hr
end Go.AE

/- The evaluator: ranges over functions, with values that are not known. -/
namespace Go.AE
open Go

section
variable {Z : Road} {E : Env} {P : Program}

theorem c_range {n : Nat} {ro : Option Nat} {Q : Out → Prop} {T : Tmps} {A : ASt} {g : Operand} {ps : Array Tmp} {as b : Code} : codeW Z E P n ro (.rangeFunc g ps as b) Q T A = CodeW Z P n ro (.rangeFunc g ps as b) T A Q := by rw [codeW] <;> intros <;> contradiction

theorem CallT.round {l : Nat} {args : List Value} {A : ASt} {K : Value → ASt → Prop} {n : Nat} {T T' : Tmps} {ps : Array Tmp} {as b : Code} {st : LoopState} {j : Option Code} (hg : A.get l = some (.loop n T ps as b st j)) (hT' : putAll n ps.toList args T = some T')
    (h : CodeW Z P n (some l) as T' A fun o => ∃ T1 A1 n1 T0 ps1 as1 b1 j1, o = .fr ⟨.normal, T1, A1⟩ ∧ A1.get l = some (.loop n1 T0 ps1 as1 b1 .ready j1) ∧
      CodeW Z P n (some l) b T1 (A1.set l (.loop n1 T0 ps1 as1 b1 .busy j1)) fun o2 => ∃ ex T2 A2, o2 = .fr ⟨ex, T2, A2⟩ ∧ (endR l ex A2).all fun o3 => ∃ v A3, o3 = .res v A3 ∧ K v A3) :
    CallT Z P (.round l) args A K := by
  intro ρ w args' hR ha L hL
  obtain ⟨r, h1, ⟨h2, h3, h4, h5, h6⟩, h7, h8, _⟩ := loop_set (Z.rep hR) hg hL
  obtain ⟨k1, k2, k3⟩ := putAll_sound hT' ha h7 h8
  have hs : args'.size = r.params.size := by rw [h2]; simpa using k1.symm
  have hfold : ((r.params.zip args').foldl (fun tmps (t, a) => tmps.setIfInBounds t a) r.tmps) = ((ps.toList.zip args'.toList).foldl (fun tmps (t, a) => tmps.setIfInBounds t a) r.tmps) := by
    rw [h2, ← Array.foldl_toList, Array.toList_zip]
  refine ⟨_, _, _, _, run_yield h1 hs, ?_⟩
  rw [hfold, h3, h4]
  refine roundIn_of_wpIn (F := Fence.wide) trivial ?_
  have hw := h ρ w { tmps := (ps.toList.zip args'.toList).foldl (fun tmps (t, a) => tmps.setIfInBounds t a) r.tmps, defers := [] } w.heap.size (some L.B) hR ⟨L, hL, rfl⟩ ⟨k3⟩ k2 (defs_nil w)
  refine wpIn_mono (F := Fence.wide.inRound L.B) hw ?_
  rintro e a1 w1 ⟨ex, T1, A1, hq, hex, ρ1, ht1, hst1, hn1, hd1⟩
  obtain ⟨T1', A1', n1, T0, ps1, as1, b1, j1, ho, hg1, hbody⟩ := hq
  cases ho
  cases e <;> first | exact hex.elim | skip
  have hL1 := hst1.ext _ _ hL
  obtain ⟨r1, g1, ⟨g2, g3, g4, g5, g6⟩, g7, g8, g9⟩ := loop_set hst1.rep hg1 hL1
  have hst : r1.state = .ready := g5
  have hstep1 : Step ρ1 A1 w1 ρ1 (A1.set l (.loop n1 T0 ps1 as1 b1 .busy j1)) (w1.putObj L.B (.loop { r1 with state := .busy })) := by
    have := g9 .busy j1
    rw [← g6] at this
    exact g6 ▸ this
  refine ⟨_, run_beginRound g1 hst, ?_⟩
  have hZ2 := Z.step (Z.step hR hst1) hstep1
  have hw2 := hbody ρ1 _ a1 w.heap.size (some L.B) hZ2 ⟨L, hL1, rfl⟩ ht1 hn1 (hd1.step hst1.rep hstep1)
  refine wpIn_mono (F := Fence.wide.inRound L.B) hw2 ?_
  rintro e a2 w2 ⟨ex, T2, A2, ⟨ex', T2', A2', ho2, hend2⟩, hex2, ρ2, ht2, hst2, hn2, hd2⟩
  cases ho2
  have hall := (hst1.trans hstep1).trans hst2
  obtain ⟨v, w3, A3, z1, ⟨v', A3', ho3, hK⟩, z3, z4⟩ := endR_sound (P := P) (Q := fun o3 => ∃ v A3, o3 = .res v A3 ∧ K v A3) hst2.rep (hst2.ext _ _ hL1) hend2
  cases ho3
  have hend : ∃ v w', (Instr.endRound L.B (exCode ex)).run P w2 = .ok v w' ∧ ∃ u A' v' ρ', K u A' ∧ Ending.returned v = .returned v' ∧ VRel ρ' u v' ∧ Step ρ A w ρ' A' w' :=
    ⟨v, w3, z1, v, A3, v, ρ2, hK, rfl, z3, hall.trans z4⟩
  cases ex with
  | normal => cases e <;> first | exact hex2.elim | exact hend
  | ret => cases e <;> first | exact hex2.elim | exact hend
  | exit i =>
    cases e <;> first | exact hex2.elim | skip
    have : i = _ := hex2
    subst this
    exact hend

noncomputable def oneIh (t : Tgt) (args : List Value) (A : ASt) (S : Value → ASt → Prop) : Job → Nd Out
  | .call t' args' A' => open Classical in if t' = t ∧ args' = args ∧ A' = A then .pick (fun r => S r.1 r.2) fun r => .ret (.res r.1 r.2) else .fail "no contract"
  | _ => .fail "no contract"
theorem oneIh_job {t : Tgt} {args : List Value} {A : ASt} {S : Value → ASt → Prop} (h : CallT Z P t args A S) {fuel : Nat} : JobSound Z P fuel (oneIh t args A S) := by
  refine ⟨fun n ro c T A Q hq => hq.elim, ?_, fun n ro b T A Q hq => hq.elim⟩
  intro t' args' A' Q hq ρ w args'' hR ha
  unfold callBy oneIh at hq
  simp only [] at hq
  split at hq
  · rename_i he
    obtain ⟨rfl, rfl, rfl⟩ := he
    have hq : ∀ r : Value × ASt, S r.1 r.2 → Q (r.1, r.2) := fun r hr => hq r hr
    have := CallT.mono h (K' := fun v A' => Q (v, A')) fun v A' hv => hq (v, A') hv
    exact this ρ w args'' hR ha
  · exact hq.elim

theorem CodeW.rangeFunc (hE : EnvOK E P) (hZr : RoadRo Z E) {n : Nat} {ro : Option Nat} {g : Operand} {ps : Array Tmp} {as b : Code} {T : Tmps} {A A2 : ASt} {Q : Out → Prop} {fn : Fn} {first captured : Array Value} {f : FuncId} {args : List Value}
    (hg : ev T g = some (.func fn first captured)) (hok : roOK ro A = true) (hinv : aInvoke E fn (first.toList ++ [.func (.yield A.next) #[] #[]]) captured.toList (A.new (.loop n T ps as b .ready none)) = .enter (.fn f) args A2)
    (h : CallT Z P (.fn f) args A2 fun _ A3 => ∃ n' T' ps' as' b' st', A3.get A.next = some (.loop n' T' ps' as' b' st' none) ∧ isBusy st' = false ∧ Q (.fr ⟨.normal, T, A3.set A.next (.loop n' T' ps' as' b' .exhausted none)⟩)) :
    CodeW Z P n ro (.rangeFunc g ps as b) T A Q := by
  have hs := range_step hE hZr (oneIh_job h (fuel := 0)) n ro g ps as b T A
  intro ρ w a N rr hR hro ht hn hd
  refine hs Q ?_ ρ w a N rr hR hro ht hn hd
  unfold rangeJob
  simp only [fN_eq, ASt.newN_eq, hg, hok, cond_true, hinv, callBy, oneIh]
  rw [if_pos ⟨trivial, trivial, trivial⟩]
  intro r hr
  obtain ⟨n', T', ps', as', b', st', h1, h2, h3⟩ := hr
  show Nd.all Q (match r.2.get A.next with
      | some (.loop n' T' ps' as' b' st j) => bif isBusy st then Nd.fail "range: busy" else
        (match j with
         | none => Nd.ret (.fr ⟨.normal, T, r.2.set A.next (.loop n' T' ps' as' b' .exhausted j)⟩)
         | some c => oneIh (.fn f) args A2 (fun _ A3 => ∃ n' T' ps' as' b' st', A3.get A.next = some (.loop n' T' ps' as' b' st' none) ∧ isBusy st' = false ∧ Q (.fr ⟨.normal, T, A3.set A.next (.loop n' T' ps' as' b' .exhausted none)⟩)) (.code n ro c T (r.2.set A.next (.loop n' T' ps' as' b' .exhausted j))))
      | _ => Nd.fail "range: record")
  rw [h1]
  simp only [h2, cond_false]
  exact h3
theorem CodeW.rangeFn (hE : EnvOK E P) (hZr : RoadRo Z E) {n : Nat} {ro : Option Nat} {g : Operand} {ps : Array Tmp} {as b : Code} {T : Tmps} {A : ASt} {Q : Out → Prop} {first captured : Array Value} {f : FuncId}
    (hg : ev T g = some (.func (.func f) first captured)) (hok : roOK ro A = true) (hent : ∀ args A, aEnter E f args A = .enter (.fn f) args A)
    (h : CallT Z P (.fn f) ((first.toList ++ [.func (.yield A.next) #[] #[]]) ++ captured.toList) (A.new (.loop n T ps as b .ready none)) fun _ A3 => ∃ n' T' ps' as' b' st', A3.get A.next = some (.loop n' T' ps' as' b' st' none) ∧ isBusy st' = false ∧ Q (.fr ⟨.normal, T, A3.set A.next (.loop n' T' ps' as' b' .exhausted none)⟩)) :
    CodeW Z P n ro (.rangeFunc g ps as b) T A Q := CodeW.rangeFunc hE hZr hg hok (by rw [aInvoke_func, hent]) h
end
end Go.AE

/- The evaluator: a start with rows that are read alone, whose cells may point to such rows. -/
namespace Go.AE
open Go Go.RowKit
def LieV (s : Spans) (W : World) : Prop := ∀ x ∈ s, ∀ (i : Nat) (v : Value), x.2[i]? = some v → ∃ v', W.cell? ⟨x.1.B, x.1.o + i, none⟩ = some v' ∧ VRel (roRen s) v v'
theorem roRen_le {s : Spans} {W w : World} {ρ : Ren} {A : ASt} (hs : Step (roRen s) (startAt s.length) W ρ A w) : (roRen s).le ρ := by
  intro b L hb
  have hlt : b < s.length := by
    by_cases h : b < s.length
    · exact h
    · unfold roRen at hb
      rw [List.getElem?_eq_none (by omega)] at hb
      cases hb
  rw [hs.keep b hlt]
  exact hb
theorem roV_road {E : Env} {s : Spans} {W : World} (h : LieV s W) : RoadRo (roadRo s W) (withRo E s) := by
  intro ρ A w hs b c hb
  have hs : Step (roRen s) (startAt s.length) W ρ A w := hs
  have hb : (s[b]?).map (·.2) = some c := hb
  obtain ⟨x, hx, rfl⟩ := Option.map_eq_some_iff.1 hb
  have hlt : b < s.length := (List.getElem?_eq_some_iff.1 hx).1
  refine ⟨x.1, ?_, fun i v hv => ?_⟩
  · rw [hs.keep b hlt]
    unfold roRen
    rw [hx]; rfl
  · obtain ⟨v', h1, h2⟩ := h x (List.mem_of_getElem? hx) i v hv
    exact ⟨v', cell_below hs.below' h1, h2.mono (roRen_le hs)⟩
theorem roadSV {E : Env} {s : Spans} {W : World} (h : LieV s W) : RoadS (roadRo s W) E s := ⟨roV_road h, fun ρ A w hs => by
  have hs : Step (roRen s) (startAt s.length) W ρ A w := hs
  exact hs.next⟩
end Go.AE
