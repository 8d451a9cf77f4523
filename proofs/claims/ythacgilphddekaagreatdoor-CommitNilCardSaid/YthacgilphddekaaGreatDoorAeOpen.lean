/- The evaluator: arguments that are handed on unopened; calls that are not gone through. -/
import Derived.Test.YthacgilphddekaaGreatDoorAeTop
import Derived.Deep.Slices
namespace Go.AE
open Go Go.RowKit

theorem LR.uncons {α β : Type} {R : α → β → Prop} {a : α} {l : List α} {r : List β} (h : LR R (a :: l) r) : ∃ b r', r = b :: r' ∧ R a b ∧ LR R l r' := by
  cases h with
  | cons h1 h2 => exact ⟨_, _, rfl, h1, h2⟩

theorem LR.unnil {α β : Type} {R : α → β → Prop} {r : List β} (h : LR R ([] : List α) r) : r = [] := by
  cases h
  rfl

/-! ### the leaves of a type -/
inductive Leaf where
  | int (k : IntKind)
  | str
  | bool
  | slice (e : TypeId)

noncomputable def leafOf : TypeDesc → Option Leaf
  | .int k => some (.int k)
  | .string => some .str
  | .bool => some .bool
  | .slice e => some (.slice e)
  | _ => none

/-- As many as the type has cells. -/
noncomputable def wellCut (P : Program) (rec : TypeId → Option (List Leaf)) (t : TypeId) : Option (List Leaf) :=
  match rec t with
  | some a => cond (Nat.beq a.length (P.cellsOf t)) (some a) none
  | none => none

noncomputable def leavesF (rec : TypeId → Option (List Leaf)) : List Field → Nat → Option (List Leaf)
  | [], _ => some []
  | f :: l, off => cond (Nat.beq f.offset off) (match rec f.type with
    | some a => match leavesF rec l (off + a.length) with
      | some b => some (a ++ b)
      | none => none
    | none => none) none

noncomputable def leavesA (a : List Leaf) : Nat → List Leaf
  | 0 => []
  | n + 1 => a ++ leavesA a n

noncomputable def leaves (P : Program) : Nat → TypeId → Option (List Leaf)
  | 0, _ => none
  | n + 1, t => match P.underlying t with
    | some (.struct fs) => leavesF (wellCut P (leaves P n)) fs.toList 0
    | some (.array m e) => match wellCut P (leaves P n) e with
      | some a => some (leavesA a m)
      | none => none
    | some d => match leafOf d with
      | some x => some [x]
      | none => none
    | none => none

section
variable {H : Type} (enc : TypeId × Value → H) (P : Program) (W : World) (base : Nat) (held : Bool)

/-- What a leaf's cell holds. -/
noncomputable def LeafOK : Leaf → Value → Prop
  | .int k, v => ∃ n, v = .int k n
  | .str, v => ∃ s : ByteArray, v = .string s ∧ s.size ≤ maxLen
  | .bool, v => ∃ b, v = .bool b
  | .slice e, v => v = .slice none 0 0 ∨ ∃ (a : Addr) (len cap : Nat), v = .slice (some a) len cap ∧ len ≤ maxLen ∧
      ∀ i, i < len → ∃ cs n x, W.cells? base (a.add (i * P.cellsOf e)) (P.cellsOf e) = some cs ∧ DataW.trod enc P W base (fun _ => true) held n e cs = some x

theorem LeafOK.raw {l : Leaf} {v : Value} (h : LeafOK enc P W base held l v) : (∃ b, v = .bool b) ∨ rawOK v = true := by
  cases l with
  | int k => obtain ⟨n, rfl⟩ := h; exact .inr rfl
  | str => obtain ⟨s, rfl, _⟩ := h; exact .inr rfl
  | bool => exact .inl h
  | slice e => rcases h with rfl | ⟨a, len, cap, rfl, _⟩ <;> exact .inr rfl

theorem wellCut_some {rec : TypeId → Option (List Leaf)} {t : TypeId} {a : List Leaf} (h : wellCut P rec t = some a) : rec t = some a ∧ a.length = P.cellsOf t := by
  unfold wellCut at h
  split at h
  · rename_i b hb
    cases hc : Nat.beq b.length (P.cellsOf t) with
    | false => rw [hc] at h; cases h
    | true => rw [hc, cond_true] at h; cases h; exact ⟨hb, Nat.eq_of_beq_eq_true hc⟩
  · cases h

theorem slice_raw {e : TypeId} {v : Value} {enc : TypeId × Value → H} {P : Program} {W : World} {base : Nat} {held : Bool} (h : LeafOK enc P W base held (.slice e) v) : rawOK v = true := by
  rcases h with rfl | ⟨a, len, cap, rfl, _⟩ <;> rfl

theorem slice_form {e : TypeId} {v : Value} {enc : TypeId × Value → H} {P : Program} {W : World} {base : Nat} {held : Bool} (h : LeafOK enc P W base held (.slice e) v) : ∃ a l c, v = .slice a l c := by
  rcases h with rfl | ⟨a, len, cap, rfl, _⟩
  · exact ⟨_, _, _, rfl⟩
  · exact ⟨_, _, _, rfl⟩

theorem leavesF_sound {rec : TypeId → Option (List Leaf)} {n : Nat} {xs : List (DataW H × List MemPlace)} {cs : List Value}
    (hrec : ∀ t ls, rec t = some ls → ls.length = P.cellsOf t ∧ ∀ cs x, DataW.trod enc P W base (fun _ => true) held n t cs = some x → LR (LeafOK enc P W base held) ls cs) :
    ∀ (fs : List Field) (off k : Nat) (ls : List Leaf), leavesF rec fs off = some ls → (∀ (i : Nat) (f : Field), fs[i]? = some f → DataW.trod enc P W base (fun _ => true) held n f.type ((cs.drop f.offset).take (P.cellsOf f.type)) = xs[k + i]?) →
      (∀ i, i < fs.length → k + i < xs.length) → cs.length = off + ls.length → LR (LeafOK enc P W base held) ls (cs.drop off)
  | [], off, k, ls, h, _, _, hl => by
    simp only [leavesF, Option.some.injEq] at h
    subst h
    rw [List.drop_of_length_le (by simp at hl; omega)]
    exact .nil
  | f :: fs, off, k, ls, h, hx, hlen, hl => by
    simp only [leavesF] at h
    cases ho : Nat.beq f.offset off with
    | false => rw [ho] at h; cases h
    | true =>
      rw [ho, cond_true] at h
      have ho := Nat.eq_of_beq_eq_true ho
      split at h
      · rename_i a ha
        split at h
        · rename_i b hb
          cases h
          obtain ⟨hc, hr⟩ := hrec _ _ ha
          have hk : k < xs.length := by have := hlen 0 (by simp); omega
          have h0 := hx 0 f rfl
          rw [Nat.add_zero, List.getElem?_eq_getElem hk, ho] at h0
          have h1 := hr _ _ h0
          have h2 := leavesF_sound hrec fs (off + a.length) (k + 1) b hb (fun i g hg => by
            have := hx (i + 1) g (by simpa using hg)
            rw [this]
            congr 1
            omega) (fun i hi => by have := hlen (i + 1) (by simpa using hi); omega) (by rw [hl]; simp; omega)
          have e : cs.drop off = (cs.drop off).take (P.cellsOf f.type) ++ cs.drop (off + a.length) := by
            rw [hc, ← List.drop_drop, List.take_append_drop]
          rw [e]
          exact h1.append h2
        · cases h
      · cases h

theorem trod_array {m : Nat} {e t : TypeId} {fuel : Nat} {cs : List Value} {x : DataW H × List MemPlace} (ht : P.underlying t = some (.array m e)) (h : DataW.trod enc P W base (fun _ => true) held fuel t cs = some x) :
    ∃ n, fuel = n + 1 ∧ cs.length = P.cellsOf t ∧ ∀ i, i < m → ∃ y, DataW.trod enc P W base (fun _ => true) held n e ((cs.drop (i * P.cellsOf e)).take (P.cellsOf e)) = some y := by
  cases fuel with
  | zero => simp [DataW.trod] at h
  | succ n =>
    unfold DataW.trod at h
    rw [ht] at h
    split at h <;> simp_all
    obtain ⟨_, xs, hp, hd⟩ := h
    intro i hi
    have hget := mapM_some_get hp i i (by simp [hi])
    have hlen := mapM_some_length hp
    simp at hlen
    exact ⟨_, _, hget.trans (List.getElem?_eq_getElem (by omega))⟩

theorem leavesA_length (a : List Leaf) : ∀ n, (leavesA a n).length = n * a.length
  | 0 => by simp [leavesA]
  | n + 1 => by simp [leavesA, leavesA_length a n, Nat.succ_mul]; omega

theorem leavesA_sound {m : Nat} {cs : List Value} {a : List Leaf} {sz : Nat} (hsz : a.length = sz) (h : ∀ i, i < m → LR (LeafOK enc P W base held) a ((cs.drop (i * sz)).take sz)) :
    ∀ k, k ≤ m → cs.length = m * sz → LR (LeafOK enc P W base held) (leavesA a k) (cs.drop ((m - k) * sz))
  | 0, _, hl => by
    rw [List.drop_of_length_le (by simp [hl])]
    exact .nil
  | k + 1, hk, hl => by
    have h1 := h (m - (k + 1)) (by omega)
    have h2 := leavesA_sound hsz h k (by omega) hl
    have e : cs.drop ((m - (k + 1)) * sz) = (cs.drop ((m - (k + 1)) * sz)).take sz ++ cs.drop ((m - k) * sz) := by
      have e2 : (m - k) * sz = (m - (k + 1)) * sz + sz := by
        rw [show m - k = (m - (k + 1)) + 1 by omega, Nat.succ_mul]
      rw [e2, ← List.drop_drop, List.take_append_drop]
    rw [e]
    exact h1.append h2

theorem leaves_sound : ∀ (n : Nat) (t : TypeId) (ls : List Leaf), leaves P n t = some ls → ls.length = P.cellsOf t → ∀ fuel cs x, DataW.trod enc P W base (fun _ => true) held fuel t cs = some x → LR (LeafOK enc P W base held) ls cs
  | 0, _, _, h, _, _, _, _, _ => by cases h
  | n + 1, t, ls, h, hcells, fuel, cs, x, hx => by
    simp only [leaves] at h
    split at h
    · rename_i fs hd
      obtain ⟨xs, m, rfl, _, hl, hxl, hf⟩ := DataW.trod_struct hd hx
      have := leavesF_sound enc P W base held (n := m) (xs := xs) (cs := cs) (fun t' ls' h' => ⟨(wellCut_some P h').2, fun cs' x' hx' => leaves_sound n t' _ (wellCut_some P h').1 (wellCut_some P h').2 m cs' x' hx'⟩) fs.toList 0 0 ls h
        (fun i f hi => by rw [Nat.zero_add]; exact hf i f (by simpa using hi)) (fun i hi => by rw [hxl]; simpa using hi) (by rw [hl, ← hcells]; simp)
      simpa using this
    · rename_i m e hd
      split at h
      · rename_i a ha
        cases h
        obtain ⟨ha, hb⟩ := wellCut_some P ha
        obtain ⟨k, rfl, hl, hall⟩ := trod_array enc P W base held hd hx
        have := leavesA_sound enc P W base held (m := m) (cs := cs) hb (fun i hi => by
          obtain ⟨y, hy⟩ := hall i hi
          exact leaves_sound n e a ha hb _ _ _ hy) m (Nat.le_refl _) (by rw [hl, ← hcells, leavesA_length, hb])
        simpa using this
      · cases h
    · rename_i d hd hns hna
      split at h
      · rename_i l hl
        cases h
        cases d <;> simp only [leafOf] at hl <;> try (cases hl; done)
        all_goals cases hl
        · obtain ⟨b, rfl, _⟩ := DataW.trod_bool hna hx; exact .cons ⟨b, rfl⟩ .nil
        · obtain ⟨k, rfl, _⟩ := DataW.trod_int hna hx; exact .cons ⟨k, rfl⟩ .nil
        · obtain ⟨s, rfl, _, hs⟩ := DataW.trod_string hna hx; exact .cons ⟨s, rfl, hs⟩ .nil
        · rcases Go.Deep.open_slice hna hx with ⟨rfl, _⟩ | ⟨a, len, cap, m, n', D, Pl, rfl, hb, hl, hcap, hm, _, hi⟩
          · exact .cons (.inl rfl) .nil
          · simp only [if_true] at hm
            refine .cons (.inr ⟨a, len, cap, rfl, by omega, fun i hlt => ?_⟩) .nil
            obtain ⟨cs, hc, ht⟩ := hi i (by omega)
            exact ⟨cs, _, _, hc, ht⟩
      · cases h
    · cases h
end

/-! ### calls that are not gone through -/
/-- Values that tell what they stand for. -/
noncomputable def told1 : Value → Bool
  | .chan (some _) => true
  | v => flat v
noncomputable def tolds : List Value → Bool
  | [] => true
  | v :: l => told1 v && tolds l
noncomputable def toldV : Value → Bool
  | .agg c => tolds c.toList
  | v => told1 v
noncomputable def toldVs : List Value → Bool
  | [] => true
  | v :: l => toldV v && toldVs l

theorem told1_det {ρ : Ren} {v x y : Value} (h : told1 v = true) (hx : VRel ρ v x) (hy : VRel ρ v y) : x = y := by
  cases v with
  | chan a =>
    cases a with
    | none => rw [flat_eq (ρ := ρ) rfl hx, flat_eq (ρ := ρ) rfl hy]
    | some k =>
      generalize hv : Value.chan (some k) = v at hx hy
      cases hx <;> cases hv
      rename_i L hr hL
      generalize hv : Value.chan (some k) = v at hy
      cases hy <;> cases hv
      rename_i L' hr' hL'
      rw [hL] at hL'
      cases hL'
      rfl
  | _ => rw [flat_eq (by simpa [told1] using h) hx, flat_eq (by simpa [told1] using h) hy]

theorem tolds_det {ρ : Ren} : ∀ {l x y : List Value}, tolds l = true → VsRel ρ l x → VsRel ρ l y → x = y
  | [], _, _, _, .nil, .nil => rfl
  | v :: l, _, _, h, .cons h1 h2, .cons k1 k2 => by
    simp only [tolds, Bool.and_eq_true] at h
    rw [told1_det h.1 h1 k1, tolds_det h.2 h2 k2]

theorem toldV_det {ρ : Ren} {v x y : Value} (h : toldV v = true) (hx : VRel ρ v x) (hy : VRel ρ v y) : x = y := by
  cases v with
  | agg c =>
    cases hx with
    | agg h1 h2 =>
      cases hy with
      | agg k1 k2 =>
        have := tolds_det (ρ := ρ) (show tolds c.toList = true from h) (VsRel.of_array h1 h2) (VsRel.of_array k1 k2)
        rw [Array.ext' this]
  | _ => exact told1_det (by simpa [toldV] using h) hx hy

theorem toldVs_det {ρ : Ren} : ∀ {l x y : List Value}, toldVs l = true → VsRel ρ l x → VsRel ρ l y → x = y
  | [], _, _, _, .nil, .nil => rfl
  | v :: l, _, _, h, .cons h1 h2, .cons k1 k2 => by
    simp only [toldVs, Bool.and_eq_true] at h
    rw [toldV_det h.1 h1 k1, toldVs_det h.2 h2 k2]

noncomputable def argsEq : List Value → List Value → Bool
  | [], [] => true
  | a :: l, b :: r => valEq a b && argsEq l r
  | _, _ => false

theorem argsEq_eq : ∀ {a b : List Value}, argsEq a b = true → a = b
  | [], [], _ => rfl
  | [], _ :: _, h => by cases h
  | _ :: _, [], h => by cases h
  | a :: l, b :: r, h => by
    simp only [argsEq, Bool.and_eq_true] at h
    rw [valEq_eq h.1, argsEq_eq h.2]

/-- A call with these arguments is not gone through: it answers true or false. -/
noncomputable def hookB (F : FuncId) (vargs : List Value) : HookTab := fun f args A => cond (Nat.beq f F && argsEq args vargs) (some (.ask 2 fun i => .ret (.bool (Nat.beq i 0), A))) none

noncomputable def SomeBool (e : Ending) : Prop := e = .returned (.bool true) ∨ e = .returned (.bool false)

theorem hookB_ok {P : Program} {tab : ExtTab} {raws : List Value} {W : World} {F : FuncId} {vargs : List Value} {actual : Array Value} (ht : toldVs vargs = true) (h0 : VsRel (rawRen raws) vargs actual.toList)
    (hc : ∀ w, Below W.heap.size W w → Calls P F actual w fun e w' => SomeBool e ∧ Below w.heap.size w w') : HookOK (roadRaw raws W) (envOf P tab (hookB F vargs)) P := by
  intro f args A r h Q hQ ρ w args' hreach hargs
  have h' : hookB F vargs f args A = some r := h
  unfold hookB at h'
  cases hf : (Nat.beq f F && argsEq args vargs) with
  | false => rw [hf] at h'; cases h'
  | true =>
    rw [hf, cond_true] at h'
    cases h'
    rw [Bool.and_eq_true] at hf
    have hF := Nat.eq_of_beq_eq_true hf.1
    have hA := argsEq_eq hf.2
    subst hF hA
    have he : args' = actual := Array.ext' (toldVs_det ht hargs (h0.mono hreach.ext))
    subst he
    refine (hc w hreach.below).mono ?_
    rintro e w' ⟨hb | hb, hbel⟩
    · exact ⟨.bool true, A, .bool true, ρ, hQ 0 (by omega), hb, .bool _, Step.of_below hreach.rep hbel⟩
    · exact ⟨.bool false, A, .bool false, ρ, hQ 1 (by omega), hb, .bool _, Step.of_below hreach.rep hbel⟩

/-- A call with these arguments is not gone through: it answers this. -/
noncomputable def hookV (F : FuncId) (vargs : List Value) (r : Value) : HookTab := fun f args A => cond (Nat.beq f F && argsEq args vargs) (some (.ret (r, A))) none

theorem hookV_ok {P : Program} {tab : ExtTab} {raws : List Value} {W : World} {F : FuncId} {vargs : List Value} {r : Value} {actual : Array Value} (ht : toldVs vargs = true) (hr : closed r = true) (h0 : VsRel (rawRen raws) vargs actual.toList)
    (hc : ∀ w, Below W.heap.size W w → Calls P F actual w fun e w' => e = .returned r ∧ Below w.heap.size w w') : HookOK (roadRaw raws W) (envOf P tab (hookV F vargs r)) P := by
  intro f args A r1 h Q hQ ρ w args' hreach hargs
  have h' : hookV F vargs r f args A = some r1 := h
  unfold hookV at h'
  cases hf : (Nat.beq f F && argsEq args vargs) with
  | false => rw [hf] at h'; cases h'
  | true =>
    rw [hf, cond_true] at h'
    cases h'
    rw [Bool.and_eq_true] at hf
    have hF := Nat.eq_of_beq_eq_true hf.1
    have hA := argsEq_eq hf.2
    subst hF hA
    have he : args' = actual := Array.ext' (toldVs_det ht hargs (h0.mono hreach.ext))
    subst he
    exact (hc w hreach.below).mono fun e w' ⟨he, hb⟩ => ⟨r, A, r, ρ, hQ, he, .refl_closed hr, Step.of_below hreach.rep hb⟩

/-- A call without arguments that answers true, whenever it is made. -/
noncomputable def hookA (F : FuncId) : HookTab := fun f args A => cond (Nat.beq f F) (match args with
  | [] => some (.ret (.bool true, A))
  | _ => none) none

theorem hookA_ok {Z : Road} {P : Program} {tab : ExtTab} {F : FuncId} (h : ∀ w, Calls P F #[] w fun e w' => e = .returned (.bool true) ∧ Below w.heap.size w w') : HookOK Z (envOf P tab (hookA F)) P := by
  intro f args A r hk Q hQ ρ w args' hreach hargs
  have h' : hookA F f args A = some r := hk
  unfold hookA at h'
  cases hf : Nat.beq f F with
  | false => rw [hf] at h'; cases h'
  | true =>
    rw [hf, cond_true] at h'
    have hF := Nat.eq_of_beq_eq_true hf
    subst hF
    split at h'
    · cases h'
      obtain ⟨l⟩ := args'
      cases hargs
      exact (h w).mono fun e w' ⟨he, hb⟩ => ⟨.bool true, A, .bool true, ρ, hQ, he, .bool _, Step.of_below (Z.rep hreach) hb⟩
    · cases h'

noncomputable def orHook (a b : HookTab) : HookTab := fun f args A => match a f args A with
  | some r => some r
  | none => b f args A

theorem orHook_ok {Z : Road} {P : Program} {tab : ExtTab} {a b : HookTab} (ha : HookOK Z (envOf P tab a) P) (hb : HookOK Z (envOf P tab b) P) : HookOK Z (envOf P tab (orHook a b)) P := by
  intro f args A r hk
  have h' : orHook a b f args A = some r := hk
  unfold orHook at h'
  split at h'
  · rename_i r hr
    cases h'
    exact ha f args A _ hr
  · exact hb f args A r h'

/-- What the leaves of arguments are handed on as. -/
theorem raw_cell {raws : List Value} {k : Nat} {v : Value} (h : raws[k]? = some v) (hr : rawOK v = true) : VRel (rawRen raws) (.chan (some k)) v := raw_rel h hr

end Go.AE
