/- The evaluator: a run in parts, from a state that is written out to the next one. -/
import Derived.Test.YthacgilphddekaaGreatDoorAeFast
namespace Go.AE
open Go

/-! ### short words for states -/
namespace L
abbrev t : Value := .bool true
abbrev f : Value := .bool false
abbrev i (k : IntKind) (n : Nat) : Value := .int k (Int.ofNat n)
abbrev j (k : IntKind) (n : Nat) : Value := .int k (Int.negSucc n)
abbrev s (l : List Nat) : Value := .string ⟨(l.map UInt8.ofNat).toArray⟩
abbrev p (b o : Nat) : Value := .pointer (some ⟨b, o, none⟩)
abbrev pn : Value := .pointer none
abbrev sl (b o l c : Nat) : Value := .slice (some ⟨b, o, none⟩) l c
noncomputable abbrev su (b o l : Nat) : Value := .slice (some ⟨b, o, none⟩) l unk
abbrev sn (l c : Nat) : Value := .slice none l c
abbrev m (b : Nat) : Value := .map (some b)
abbrev mn : Value := .map none
abbrev c (b : Nat) : Value := .chan (some b)
abbrev cn : Value := .chan none
abbrev fu (g : Nat) (a b : List Value) : Value := .func (.func g) a.toArray b.toArray
abbrev fn : Value := .nilFunc
abbrev it (u : Nat) (v : Value) : Value := .iface u v
abbrev fi : Value := .nilIface
abbrev a (l : List Value) : Value := .agg l.toArray
abbrev u (l : List Value) : Value := .tuple l.toArray
abbrev r (l : List Value) (sz : Nat) : AObj := .row l sz false
abbrev rt (l : List Value) (sz : Nat) : AObj := .row l sz true
abbrev rb (l : List Nat) (sz : Nat) : AObj := .row (l.map fun n => .int .u8 (Int.ofNat n)) sz false
abbrev rbt (l : List Nat) (sz : Nat) : AObj := .row (l.map fun n => .int .u8 (Int.ofNat n)) sz true
abbrev mp (l : List (Value × Value × Nat)) (ck : Nat) : AObj := .map (l.map fun x => { key := x.1, val := x.2.1, born := x.2.2 }) ck
end L

noncomputable def trOf {α : Type} (l : List (Nat × α)) : Tr α := List.rec (motive := fun _ => Tr α) .e (fun x _ ih => ih.put x.1 (some x.2)) l

theorem trOf_get {α : Type} {l : List (Nat × α)} {k : Nat} {x : α} (h : (trOf l).get k = some x) : (k, x) ∈ l := by
  induction l with
  | nil => cases h
  | cons y l ih =>
    have e : trOf (y :: l) = (trOf l).put y.1 (some y.2) := rfl
    rw [e, Tr.get_put] at h
    by_cases hk : k = y.1
    · rw [if_pos hk] at h
      cases h
      subst hk
      exact List.mem_cons_self
    · rw [if_neg hk] at h
      exact List.mem_cons_of_mem _ (ih h)

noncomputable def stOf (l : List (Nat × AObj)) (nx : Nat) : ASt := { heap := trOf l, next := nx }

/-! ### are two states one? -/
noncomputable def bEq : Bool → Bool → Bool
  | true, true => true
  | false, false => true
  | _, _ => false
theorem bEq_eq {a b : Bool} (h : bEq a b = true) : a = b := by cases a <;> cases b <;> first | rfl | cases h

noncomputable def entEq (a b : MapEntry) : Bool := flatEq a.key b.key && (vEq 4 a.val b.val && Nat.beq a.born b.born)
theorem entEq_eq (a b : MapEntry) (h : entEq a b = true) : a = b := by
  unfold entEq at h
  simp only [Bool.and_eq_true] at h
  cases a; cases b
  simp only [MapEntry.mk.injEq]
  exact ⟨flatEq_eq h.1, vEq_eq _ _ _ h.2.1, Nat.eq_of_beq_eq_true h.2.2⟩

noncomputable def objEq : AObj → AObj → Bool
  | .row c sz tl, .row c' sz' tl' => lEq (vEq 4) c c' && (Nat.beq sz sz' && bEq tl tl')
  | .map es ck, .map es' ck' => lEq entEq es es' && Nat.beq ck ck'
  | _, _ => false
theorem objEq_eq {a b : AObj} (h : objEq a b = true) : a = b := by
  unfold objEq at h
  split at h
  · simp only [Bool.and_eq_true] at h
    rw [lEq_eq (vEq_eq 4) h.1, Nat.eq_of_beq_eq_true h.2.1, bEq_eq h.2.2]
  · simp only [Bool.and_eq_true] at h
    rw [lEq_eq entEq_eq h.1, Nat.eq_of_beq_eq_true h.2]
  · cases h

noncomputable def heapOK (A : ASt) : List (Nat × AObj) → Bool
  | [] => true
  | x :: l => (match A.get x.1 with
    | some o => objEq x.2 o
    | none => false) && heapOK A l

theorem heapOK_spec {A : ASt} : ∀ {l : List (Nat × AObj)}, heapOK A l = true → ∀ x ∈ l, A.get x.1 = some x.2
  | [], _, _, hx => by cases hx
  | y :: l, h, x, hx => by
    simp only [heapOK, Bool.and_eq_true] at h
    rcases List.mem_cons.1 hx with rfl | hx
    · have h1 := h.1
      split at h1
      · rename_i o ho
        rw [ho, objEq_eq h1]
      · cases h1
    · exact heapOK_spec h.2 x hx

noncomputable def keysLt (n : Nat) : List (Nat × Value) → Bool
  | [] => true
  | x :: l => Nat.blt x.1 n && keysLt n l
theorem keysLt_spec {n : Nat} : ∀ {l : List (Nat × Value)}, keysLt n l = true → ∀ x ∈ l, x.1 < n
  | [], _, _, hx => by cases hx
  | y :: l, h, x, hx => by
    simp only [keysLt, Bool.and_eq_true] at h
    rcases List.mem_cons.1 hx with rfl | hx
    · exact Nat.le_of_ble_eq_true h.1
    · exact keysLt_spec h.2 x hx

/-- A part ends in the state that is written out. -/
noncomputable def okSt (n : Nat) (tl : List (Nat × Value)) (l : List (Nat × AObj)) (nx : Nat) : Out → Bool
  | .fr ⟨.normal, T', A'⟩ => (allTo (fun t => vEq 4 (tget T' t) (tget (trOf tl) t)) n && keysLt n tl) && (heapOK A' l && Nat.beq A'.next nx)
  | _ => false

/-- The last part returns true. -/
noncomputable def okEnd (E : Env) (rs : List ResultVar) : Out → Bool
  | .fr ⟨.normal, T', A'⟩ => (match resultsV E T' A' rs with
    | some [.bool true] => true
    | _ => false)
  | .fr ⟨.ret, T', A'⟩ => (match resultsV E T' A' rs with
    | some [.bool true] => true
    | _ => false)
  | _ => false

noncomputable def allOut (q : Out → Bool) : Nd Out → Bool
  | .ret o => q o
  | .ask n k => allTo (fun i => allOut q (k i)) n
  | .fail _ => false
  | .pick _ _ => false
theorem allOut_spec {q : Out → Bool} : ∀ {m : Nd Out}, allOut q m = true → m.all fun o => q o = true
  | .ret o, h => h
  | .ask n k, h => fun i hi => allOut_spec (allTo_spec (show allTo (fun i => allOut q (k i)) n = true from h) i hi)
  | .fail _, h => by cases h
  | .pick _ _, h => by cases h

/-! ### code, statement by statement -/
/-- The statements of a sequence. -/
def spine : Nat → Code → List Code
  | k + 1, .seq a b => a :: spine k b
  | _, c => [c]

noncomputable def wpSp (P : Program) (Q : Exit → Act → World → Prop) : List Code → Act → World → Prop
  | [], a, w => Q .normal a w
  | c :: l, a, w => c.wpIn Fence.wide 0 P (Exit.then (wpSp P Q l) Q) a w

theorem then_normal {Q : Exit → Act → World → Prop} {e : Exit} {a : Act} {w : World} (h : Exit.then (fun a w => Q .normal a w) Q e a w) : Q e a w := by
  cases e <;> exact h

theorem wpIn_spine {P : Program} {Q : Exit → Act → World → Prop} : ∀ (k : Nat) (c : Code) (a : Act) (w : World), wpSp P Q (spine k c) a w → c.wpIn Fence.wide 0 P Q a w
  | 0, c, a, w, h => by
    simp only [spine, wpSp] at h
    exact wpIn_mono h fun e a w h => then_normal h
  | k + 1, c, a, w, h => by
    cases c with
    | seq x y =>
      simp only [spine, wpSp] at h
      refine wpIn_seq (wpIn_mono h fun e a w h => ?_)
      cases e with
      | normal => exact wpIn_spine k y a w h
      | _ => exact h
    | _ =>
      simp only [spine, wpSp] at h
      exact wpIn_mono h fun e a w h => then_normal h

/-- Statements, one behind the other. -/
noncomputable def runL (E : Env) (fuel n : Nat) (cs : List Code) : Tmps → ASt → Nd Out :=
  List.rec (motive := fun _ => Tmps → ASt → Nd Out) (fun T A => .ret (.fr ⟨.normal, T, A⟩)) (fun c _ ih T A => (runF E fuel (.code n none c T A)).bind fun
    | .fr ⟨.normal, T', A'⟩ => ih T' A'
    | o => .ret o) cs

/-- Where a run stands: the state that is written out. -/
def At (n : Nat) (tl : List (Nat × Value)) (l : List (Nat × AObj)) (nx : Nat) (w₀ : World) (a : Act) (w : World) : Prop :=
  ∃ ρ, TRel ρ (trOf tl) a ∧ Step (rawRen []) (startAt 0) w₀ ρ (stOf l nx) w ∧ a.tmps.size = n ∧ Defs w₀.heap.size w a.defers

section
variable {P : Program} {tab : ExtTab} {hk : HookTab} {w₀ : World}

theorem runL_sound (ht : ExtOK P tab) (hm : P.follows .mixedOrders = true) (hH : HookOK (roadRaw [] w₀) (envOf P tab hk) P) {fuel n : Nat} {rest : List Code} {Qx : Exit → Act → World → Prop} {Q : Out → Prop}
    (hfin : ∀ o ex T' A' a' w' e ρ, o = .fr ⟨ex, T', A'⟩ → Q o → exRel ex e → TRel ρ T' a' → Step (rawRen []) (startAt 0) w₀ ρ A' w' → a'.tmps.size = n → Defs w₀.heap.size w' a'.defers → Exit.then (wpSp P Qx rest) Qx e a' w') :
    ∀ (cs : List Code) (T : Tmps) (A : ASt) (a : Act) (w : World) (ρ : Ren), (runL (envOf P tab hk) fuel n cs T A).all Q → TRel ρ T a → Step (rawRen []) (startAt 0) w₀ ρ A w → a.tmps.size = n → Defs w₀.heap.size w a.defers → wpSp P Qx (cs ++ rest) a w
  | [], T, A, a, w, ρ, h, ht', hs, hn, hd => hfin _ .normal T A a w .normal ρ rfl h trivial ht' hs hn hd
  | c :: cs, T, A, a, w, ρ, h, ht', hs, hn, hd => by
    have hE := envOf_ok (hk := hk) ht
    have hJ := (run_sound (Z := roadRaw [] w₀) hE ro_none hH (draw_sound hE ro_none hm) fuel).code
    have h' : (run (envOf P tab hk) fuel (.code n none c T A)).all (fun o => (match o with
        | .fr ⟨.normal, T', A'⟩ => runL (envOf P tab hk) fuel n cs T' A'
        | o => .ret o).all Q) := by
      rw [run_F]
      exact Nd.all_bind _ h
    refine wpIn_mono (F := Fence.wide) (hJ n none c T A _ h' ρ w a w₀.heap.size none hs trivial ht' hn hd) ?_
    rintro e a' w' ⟨ex, T', A', hq, hex, ρ', h1, h2, h3, h4⟩
    cases ex with
    | normal =>
      cases e <;> first | exact hex.elim | skip
      exact runL_sound ht hm hH hfin cs T' A' a' w' ρ' hq h1 (hs.trans h2) h3 h4
    | exit i =>
      have := hfin _ (.exit i) T' A' a' w' e ρ' rfl hq hex h1 (hs.trans h2) h3 h4
      cases e <;> first | exact hex.elim | exact this
    | ret =>
      have := hfin _ .ret T' A' a' w' e ρ' rfl hq hex h1 (hs.trans h2) h3 h4
      cases e <;> first | exact hex.elim | exact this

/-- ONE PART. -/
theorem chunk_sound (ht : ExtOK P tab) (hm : P.follows .mixedOrders = true) (hH : HookOK (roadRaw [] w₀) (envOf P tab hk) P) {fuel n : Nat} {cs rest : List Code} {tl tl2 : List (Nat × Value)} {l l2 : List (Nat × AObj)} {nx nx2 : Nat}
    (h : allOut (okSt n tl2 l2 nx2) (runL (envOf P tab hk) fuel n cs (trOf tl) (stOf l nx)) = true) {Qx : Exit → Act → World → Prop}
    (hnext : ∀ a w, At n tl2 l2 nx2 w₀ a w → wpSp P Qx rest a w) {a : Act} {w : World} (hat : At n tl l nx w₀ a w) : wpSp P Qx (cs ++ rest) a w := by
  obtain ⟨ρ, h1, h2, h3, h4⟩ := hat
  refine runL_sound ht hm hH (Q := fun o => okSt n tl2 l2 nx2 o = true) ?_ cs _ _ a w ρ (allOut_spec h) h1 h2 h3 h4
  intro o ex T' A' a' w' e ρ' ho hq hex k1 k2 k3 k4
  subst ho
  cases ex with
  | exit i => cases hq
  | ret => cases hq
  | normal =>
    cases e <;> first | exact hex.elim | skip
    simp only [okSt, Bool.and_eq_true] at hq
    obtain ⟨⟨q1, q2⟩, q3, q4⟩ := hq
    have hget := heapOK_spec q3
    refine hnext a' w' ⟨ρ', ⟨fun t => ?_⟩, k2.sub (fun b o hb => ?_) (Nat.eq_of_beq_eq_true q4).symm, k3, k4⟩
    · by_cases htn : t < n
      · rw [← vEq_eq _ _ _ (allTo_spec q1 t htn)]
        exact k1.at_ t
      · have e1 : (trOf tl2).get t = none := by
          cases hg : (trOf tl2).get t with
          | none => rfl
          | some x => exact absurd (keysLt_spec q2 _ (trOf_get hg)) htn
        have e2 : tget (trOf tl2) t = undef := by unfold tget; rw [e1]
        have e3 : a'.tmps.getD t undef = undef := by
          rw [Array.getD_eq_getD_getElem?, Array.getElem?_eq_none (by omega)]
          rfl
        rw [e2, e3]
        exact VRel.undef
    · exact hget (b, o) (trOf_get hb)

/-- THE LAST PART. -/
theorem last_sound (ht : ExtOK P tab) (hm : P.follows .mixedOrders = true) (hH : HookOK (roadRaw [] w₀) (envOf P tab hk) P) {fuel n : Nat} {fn : Func} {cs : List Code} {tl : List (Nat × Value)} {l : List (Nat × AObj)} {nx : Nat}
    (h : allOut (okEnd (envOf P tab hk) fn.results.toList) (runL (envOf P tab hk) fuel n cs (trOf tl) (stOf l nx)) = true) {a : Act} {w : World} (hat : At n tl l nx w₀ a w) :
    wpSp P (bodyPostM Fence.wide 0 P fn fun e w' => e = .returned (.bool true) ∧ Go.RowKit.Below w₀.heap.size w₀ w') cs a w := by
  have hE := envOf_ok (hk := hk) ht
  obtain ⟨ρ, h1, h2, h3, h4⟩ := hat
  have key := runL_sound (rest := []) (Qx := bodyPostM Fence.wide 0 P fn fun e w' => e = .returned (.bool true) ∧ Go.RowKit.Below w₀.heap.size w₀ w') ht hm hH (Q := fun o => okEnd (envOf P tab hk) fn.results.toList o = true) ?_ cs _ _ a w ρ (allOut_spec h) h1 h2 h3 h4
  · rwa [List.append_nil] at key
  intro o ex T' A' a' w' e ρ' ho hq hex k1 k2 k3 k4
  subst ho
  have fin : (match resultsV (envOf P tab hk) T' A' fn.results.toList with
      | some [.bool true] => true
      | _ => false) = true → LeavesInM Fence.wide 0 P fn a'.tmps (fun e w' => e = .returned (.bool true) ∧ Go.RowKit.Below w₀.heap.size w₀ w') a'.defers .returning w' := by
    intro hq
    split at hq
    · rename_i hr
      obtain ⟨_, rs, d1, d2, d3⟩ := k4
      rw [d1]
      refine leaves_marks (fun w2 hst2 => ?_) rs w' k2 d2 d3
      obtain ⟨v', r1, r2⟩ := results_run hE hst2.rep (ro_none (Z := roadRaw [] w₀) _ _ _ hst2) k1 hr
      refine ⟨v', r1, ?_, hst2.below⟩
      cases r2
      rfl
    · cases hq
  cases ex with
  | exit i => cases hq
  | normal => cases e <;> first | exact hex.elim | exact fin hq
  | ret => cases e <;> first | exact hex.elim | exact fin hq

/-- A FUNCTION WITHOUT ARGUMENTS, IN PARTS. -/
theorem calls_parts {f : FuncId} {fn : Func} {c : Code} {k : Nat} (hf : P.funcs[f]? = some fn) (hb : fn.body = some c) {R : Ending → World → Prop}
    (h : ∀ a, At fn.ntmps [] [] 0 w₀ a w₀ → wpSp P (bodyPostM Fence.wide 0 P fn R) (spine k c) a w₀) : Calls P f #[] w₀ R := by
  refine (callsIn_wide (n := 0)).1 (callsIn_of_wp_marks hf hb trivial (wpIn_spine k c _ _ (h _ ?_)))
  refine ⟨rawRen [], ⟨fun t => ?_⟩, Step.refl (rep_start [] w₀), by simp, defs_nil w₀⟩
  have e1 : tget (trOf []) t = undef := rfl
  rw [e1]
  have e2 : (#[] ++ Array.replicate (fn.ntmps - (#[] : Array Value).size) undef).getD t undef = undef := by
    simp only [Array.getD_eq_getD_getElem?, Array.empty_append]
    rw [Array.getElem?_replicate]
    split <;> rfl
  rw [e2]
  exact VRel.undef
end

end Go.AE
