/- The evaluator: how virtual values, blocks and states stand to those of the model. -/
import Derived.Test.YthacgilphddekaaGreatDoorAeRun
import Derived.Laws.Sem
import Derived.Laws.World
import Derived.Laws.Cells
import Derived.Below
namespace Go.AE
open Go

/-! ### tries -/
theorem toPosF_eq (f : Nat) : ∀ k, k < f → toPosF f k = (if k = 0 then .one else if k % 2 = 1 then .b1 (toPosF (f - 1) (k / 2)) else .b0 (toPosF (f - 1) (k / 2 - 1))) := by
  cases f with
  | zero => intro k h; omega
  | succ f =>
    intro k _
    have e : toPosF (f + 1) k = Bool.rec (motive := fun _ => Ps) (Bool.rec (motive := fun _ => Ps) (.b0 (toPosF f (k / 2 - 1))) (.b1 (toPosF f (k / 2))) (Nat.beq (k % 2) 1)) .one (Nat.beq k 0) := rfl
    rw [e]
    cases hk : Nat.beq k 0 with
    | true => have := Nat.eq_of_beq_eq_true hk; simp [this]
    | false =>
      have h0 : k ≠ 0 := Nat.ne_of_beq_eq_false hk
      cases hm : Nat.beq (k % 2) 1 with
      | true => have := Nat.eq_of_beq_eq_true hm; simp [h0, this]
      | false => have := Nat.ne_of_beq_eq_false hm; simp [h0, this]

/-- What a way says. -/
def ofPs : Ps → Nat
  | .one => 0
  | .b0 p => 2 * ofPs p + 2
  | .b1 p => 2 * ofPs p + 1

theorem ofPs_toPosF : ∀ (f k : Nat), k < f → ofPs (toPosF f k) = k
  | 0, k, h => by omega
  | f + 1, k, h => by
    rw [toPosF_eq _ _ h]
    by_cases h0 : k = 0
    · rw [if_pos h0]; exact h0.symm
    · rw [if_neg h0]
      by_cases h1 : k % 2 = 1
      · rw [if_pos h1]
        simp only [ofPs, Nat.add_sub_cancel]
        rw [ofPs_toPosF f (k / 2) (by omega)]
        omega
      · rw [if_neg h1]
        simp only [ofPs, Nat.add_sub_cancel]
        rw [ofPs_toPosF f (k / 2 - 1) (by omega)]
        omega

theorem toPos_inj {a b : Nat} (h : toPos a = toPos b) : a = b := by
  have h1 := ofPs_toPosF (a + 1) a (by omega)
  have h2 := ofPs_toPosF (b + 1) b (by omega)
  unfold toPos at h
  rw [← h1, ← h2, h]

theorem getP_putP {α : Type} (p : Ps) (x : Option α) : ∀ (t : Tr α) (q : Ps), (q = p → getP (putP p x t fun t => t) q = x) ∧ (q ≠ p → getP (putP p x t fun t => t) q = getP t q) := by
  induction p with
  | one => intro t q; cases t <;> cases q <;> simp [putP, getP]
  | b0 p ih =>
    intro t q
    cases t with
    | e =>
      have : (putP (.b0 p) x .e fun t => t) = .n .e none (putP p x .e fun t => t) := putP_eq p x (Tr α) .e fun t' => .n .e none t'
      rw [this]
      cases q with
      | one => simp [getP]
      | b0 q =>
        have h := ih .e q
        simp only [Ps.b0.injEq, ne_eq]
        exact h
      | b1 q => simp [getP]
    | n l v r =>
      have : (putP (.b0 p) x (.n l v r) fun t => t) = .n l v (putP p x r fun t => t) := putP_eq p x (Tr α) r fun t' => .n l v t'
      rw [this]
      cases q with
      | one => simp [getP]
      | b0 q =>
        have h := ih r q
        simp only [Ps.b0.injEq, ne_eq]
        exact h
      | b1 q => simp [getP]
  | b1 p ih =>
    intro t q
    cases t with
    | e =>
      have : (putP (.b1 p) x .e fun t => t) = .n (putP p x .e fun t => t) none .e := putP_eq p x (Tr α) .e fun t' => .n t' none .e
      rw [this]
      cases q with
      | one => simp [getP]
      | b1 q =>
        have h := ih .e q
        simp only [Ps.b1.injEq, ne_eq]
        exact h
      | b0 q => simp [getP]
    | n l v r =>
      have : (putP (.b1 p) x (.n l v r) fun t => t) = .n (putP p x l fun t => t) v r := putP_eq p x (Tr α) l fun t' => .n t' v r
      rw [this]
      cases q with
      | one => simp [getP]
      | b1 q =>
        have h := ih l q
        simp only [Ps.b1.injEq, ne_eq]
        exact h
      | b0 q => simp [getP]

theorem Tr.get_put {α : Type} (t : Tr α) (k : Nat) (x : Option α) (j : Nat) : (t.put k x).get j = if j = k then x else t.get j := by
  unfold Tr.get Tr.put
  by_cases e : j = k
  · rw [e, if_pos rfl]
    exact (getP_putP _ _ _ _).1 rfl
  · rw [if_neg e]
    exact (getP_putP _ _ _ _).2 fun h => e (toPos_inj h)

@[simp] theorem Tr.get_e {α : Type} (j : Nat) : (Tr.e : Tr α).get j = none := rfl

theorem ASt.get_set (A : ASt) (b : Nat) (o : AObj) (j : Nat) : (A.set b o).get j = if j = b then some o else A.get j := Tr.get_put _ _ _ _
theorem ASt.get_new (A : ASt) (o : AObj) (j : Nat) : (A.new o).get j = if j = A.next then some o else A.get j := Tr.get_put _ _ _ _
@[simp] theorem ASt.next_set (A : ASt) (b : Nat) (o : AObj) : (A.set b o).next = A.next := rfl
@[simp] theorem ASt.newN_eq (A : ASt) (o : AObj) : A.newN A.next o = A.new o := rfl
theorem ASt.get_newAt (A : ASt) (id : Nat) (o : AObj) (j : Nat) : (A.newAt id o).get j = if j = id then some o else A.get j := Tr.get_put _ _ _ _
@[simp] theorem ASt.next_newAt (A : ASt) (id : Nat) (o : AObj) : (A.newAt id o).next = max A.next (id + 1) := rfl
@[simp] theorem ASt.next_new (A : ASt) (o : AObj) : (A.new o).next = A.next + 1 := rfl

/-! ### lists, pair by pair -/
inductive LR {α β : Type} (R : α → β → Prop) : List α → List β → Prop
  | nil : LR R [] []
  | cons {a b l r} : R a b → LR R l r → LR R (a :: l) (b :: r)

theorem LR.length {α β : Type} {R : α → β → Prop} {l : List α} {r : List β} (h : LR R l r) : l.length = r.length := by
  induction h with
  | nil => rfl
  | cons _ _ ih => simp [ih]

theorem LR.get {α β : Type} {R : α → β → Prop} {l : List α} {r : List β} (h : LR R l r) : ∀ (i : Nat) (a : α), l[i]? = some a → ∃ b, r[i]? = some b ∧ R a b := by
  induction h with
  | nil => intro i a h; simp at h
  | cons hab _ ih =>
    intro i a h
    cases i with
    | zero => simp at h; subst h; exact ⟨_, by simp, hab⟩
    | succ i => simp at h; obtain ⟨b, hb, hr⟩ := ih i a h; exact ⟨b, by simpa using hb, hr⟩

theorem LR.of_get {α β : Type} {R : α → β → Prop} : ∀ {l : List α} {r : List β}, l.length = r.length → (∀ (i : Nat) (a : α) (b : β), l[i]? = some a → r[i]? = some b → R a b) → LR R l r
  | [], [], _, _ => .nil
  | [], _ :: _, h, _ => by simp at h
  | _ :: _, [], h, _ => by simp at h
  | a :: l, b :: r, h, hg => .cons (hg 0 a b (by simp) (by simp)) (LR.of_get (by simpa using h) fun i x y hx hy => hg (i + 1) x y (by simpa using hx) (by simpa using hy))

theorem LR.mono {α β : Type} {R R' : α → β → Prop} (hr : ∀ a b, R a b → R' a b) {l : List α} {r : List β} (h : LR R l r) : LR R' l r := by
  induction h with
  | nil => exact .nil
  | cons hab _ ih => exact .cons (hr _ _ hab) ih

theorem LR.append {α β : Type} {R : α → β → Prop} {l l' : List α} {r r' : List β} (h : LR R l r) (h' : LR R l' r') : LR R (l ++ l') (r ++ r') := by
  induction h with
  | nil => exact h'
  | cons hab _ ih => exact .cons hab ih

theorem LR.take {α β : Type} {R : α → β → Prop} {l : List α} {r : List β} (h : LR R l r) : ∀ n, LR R (l.take n) (r.take n) := by
  induction h with
  | nil => intro n; simp; exact .nil
  | cons hab _ ih => intro n; cases n with
    | zero => exact .nil
    | succ n => exact .cons hab (ih n)

theorem LR.drop {α β : Type} {R : α → β → Prop} {l : List α} {r : List β} (h : LR R l r) : ∀ n, LR R (l.drop n) (r.drop n) := by
  induction h with
  | nil => intro n; simp; exact .nil
  | @cons _ _ l r hab hlr ih => intro n; cases n with
    | zero => exact .cons hab hlr
    | succ n => exact ih n

theorem nth_eq {α : Type} : ∀ (l : List α) (i : Nat), nth l i = l[i]?
  | [], _ => by simp [nth]
  | _ :: _, 0 => by simp [nth]
  | _ :: l, i + 1 => by simp [nth, nth_eq l i]

theorem cut_some {α : Type} {l r : List α} {i n : Nat} (h : cut l i n = some r) : r = (l.drop i).take n ∧ r.length = n ∧ (n = 0 ∨ i + n ≤ l.length) := by
  unfold cut at h
  simp only [] at h
  cases hb : Nat.beq ((l.drop i).take n).length n with
  | false => rw [hb] at h; cases h
  | true =>
    rw [hb] at h
    have := Nat.eq_of_beq_eq_true hb
    cases h
    refine ⟨rfl, this, ?_⟩
    simp at this
    omega

theorem over_some {α : Type} {l r vs : List α} {i : Nat} (h : over l i vs = some r) : r = l.take i ++ (vs ++ l.drop (i + vs.length)) ∧ i + vs.length ≤ l.length := by
  unfold over at h
  cases hb : Nat.ble (i + vs.length) l.length with
  | false => rw [hb] at h; cases h
  | true => rw [hb] at h; cases h; exact ⟨rfl, Nat.le_of_ble_eq_true hb⟩

/-! ### where a virtual block lies -/
structure Loc where
  B : Nat
  o : Nat
  R : Nat
  sz : Nat
  /-- of a value that is handed on unopened: itself -/
  raw : Value

abbrev Ren := Nat → Option Loc

def Ren.le (r r' : Ren) : Prop := ∀ b L, r b = some L → r' b = some L
theorem Ren.le.refl (r : Ren) : r.le r := fun _ _ h => h
theorem Ren.le.trans {a b c : Ren} (h : a.le b) (k : b.le c) : a.le c := fun x L hx => k x L (h x L hx)

/-- What may be handed on unopened. -/
def rawOK : Value → Bool
  | .agg _ | .tuple _ | .bool _ => false
  | _ => true

theorem rawOK_one {v : Value} (h : rawOK v = true) : v.oneCell' = true := by
  cases v <;> first | rfl | (simp [rawOK] at h; done)

/-- A virtual value and the model's. -/
inductive VRel (ρ : Ren) : Value → Value → Prop
  | bool (b) : VRel ρ (.bool b) (.bool b)
  | int (k n) : VRel ρ (.int k n) (.int k n)
  | float (k n) : VRel ρ (.float k n) (.float k n)
  | complex (k a b) : VRel ρ (.complex k a b) (.complex k a b)
  | string (s) : VRel ρ (.string s) (.string s)
  | nilPtr : VRel ρ (.pointer none) (.pointer none)
  | ptr {b off L} : ρ b = some L → VRel ρ (.pointer (some ⟨b, off, none⟩)) (.pointer (some ⟨L.B, L.o + off, none⟩))
  | nilSlice (l c) : VRel ρ (.slice none l c) (.slice none l c)
  | slice {b off L} (len) {cap} : ρ b = some L → cap ≠ unk → VRel ρ (.slice (some ⟨b, off, none⟩) len cap) (.slice (some ⟨L.B, L.o + off, none⟩) len cap)
  | sliceU {b off L} (len) {u cap} : ρ b = some L → u = unk → (L.o + off) + cap * L.sz = L.R → VRel ρ (.slice (some ⟨b, off, none⟩) len u) (.slice (some ⟨L.B, L.o + off, none⟩) len cap)
  | sliceZ (x c) : VRel ρ zslice (.slice (some x) 0 c)
  | nilMap : VRel ρ (.map none) (.map none)
  | map {r L} : ρ r = some L → VRel ρ (.map (some r)) (.map (some L.B))
  | nilChan : VRel ρ (.chan none) (.chan none)
  | raw {k L} : ρ k = some L → rawOK L.raw = true → VRel ρ (.chan (some k)) L.raw
  | yield {l L} : ρ l = some L → VRel ρ (.func (.yield l) #[] #[]) (.func (.yield L.B) #[] #[])
  | func (fn) {f f' c c' : Array Value} : notYield fn = true → f.size = f'.size → (∀ (i : Nat) (v v' : Value), f[i]? = some v → f'[i]? = some v' → VRel ρ v v') →
      c.size = c'.size → (∀ (i : Nat) (v v' : Value), c[i]? = some v → c'[i]? = some v' → VRel ρ v v') → VRel ρ (.func fn f c) (.func fn f' c')
  | nilFunc : VRel ρ .nilFunc .nilFunc
  | iface (t) {v v'} : VRel ρ v v' → VRel ρ (.iface t v) (.iface t v')
  | nilIface : VRel ρ .nilIface .nilIface
  | agg {c c' : Array Value} : c.size = c'.size → (∀ (i : Nat) (v v' : Value), c[i]? = some v → c'[i]? = some v' → VRel ρ v v') → VRel ρ (.agg c) (.agg c')
  | tuple {c c' : Array Value} : c.size = c'.size → (∀ (i : Nat) (v v' : Value), c[i]? = some v → c'[i]? = some v' → VRel ρ v v') → VRel ρ (.tuple c) (.tuple c')

theorem VRel.mono {ρ ρ' : Ren} (h : ρ.le ρ') {v v' : Value} (hv : VRel ρ v v') : VRel ρ' v v' := by
  induction hv with
  | bool b => exact .bool b
  | int k n => exact .int k n
  | float k n => exact .float k n
  | complex k a b => exact .complex k a b
  | string s => exact .string s
  | nilPtr => exact .nilPtr
  | ptr hb => exact .ptr (h _ _ hb)
  | nilSlice l c => exact .nilSlice l c
  | slice len hb hc => exact .slice len (h _ _ hb) hc
  | sliceU len hb hu hc => exact .sliceU len (h _ _ hb) hu hc
  | sliceZ x c => exact .sliceZ x c
  | nilMap => exact .nilMap
  | map hb => exact .map (h _ _ hb)
  | nilChan => exact .nilChan
  | raw hb hc => exact .raw (h _ _ hb) hc
  | yield hb => exact .yield (h _ _ hb)
  | func fn h0 h1 _ h3 _ ih1 ih2 => exact .func fn h0 h1 ih1 h3 ih2
  | nilFunc => exact .nilFunc
  | iface t _ ih => exact .iface t ih
  | nilIface => exact .nilIface
  | agg h1 _ ih => exact .agg h1 ih
  | tuple h1 _ ih => exact .tuple h1 ih

abbrev VsRel (ρ : Ren) : List Value → List Value → Prop := LR (VRel ρ)
theorem VsRel.mono {ρ ρ' : Ren} (h : ρ.le ρ') {l r : List Value} (hv : VsRel ρ l r) : VsRel ρ' l r := LR.mono (fun _ _ => VRel.mono h) hv

theorem VsRel.of_array {ρ : Ren} {c c' : Array Value} (h : c.size = c'.size) (hg : ∀ (i : Nat) (v v' : Value), c[i]? = some v → c'[i]? = some v' → VRel ρ v v') : VsRel ρ c.toList c'.toList :=
  LR.of_get (by simpa using h) fun i a b ha hb => hg i a b (by simpa using ha) (by simpa using hb)

theorem VRel.agg_of {ρ : Ren} {l r : List Value} (h : VsRel ρ l r) : VRel ρ (.agg l.toArray) (.agg r.toArray) :=
  .agg (by simpa using h.length) fun i v v' hv hv' => by
    obtain ⟨b, hb, hr⟩ := h.get i v (by simpa using hv)
    simp at hv'; rw [hb] at hv'; cases hv'; exact hr

theorem VRel.tuple_of {ρ : Ren} {l r : List Value} (h : VsRel ρ l r) : VRel ρ (.tuple l.toArray) (.tuple r.toArray) :=
  .tuple (by simpa using h.length) fun i v v' hv hv' => by
    obtain ⟨b, hb, hr⟩ := h.get i v (by simpa using hv)
    simp at hv'; rw [hb] at hv'; cases hv'; exact hr

theorem VRel.func_of {ρ : Ren} (fn : Fn) (h0 : notYield fn = true) {l r c d : List Value} (h : VsRel ρ l r) (k : VsRel ρ c d) : VRel ρ (.func fn l.toArray c.toArray) (.func fn r.toArray d.toArray) :=
  .func fn h0 (by simpa using h.length) (fun i v v' hv hv' => by
    obtain ⟨b, hb, hr⟩ := h.get i v (by simpa using hv)
    simp at hv'; rw [hb] at hv'; cases hv'; exact hr) (by simpa using k.length) fun i v v' hv hv' => by
    obtain ⟨b, hb, hr⟩ := k.get i v (by simpa using hv)
    simp at hv'; rw [hb] at hv'; cases hv'; exact hr

/-- A value without block numbers stands for itself. -/
theorem VRel.refl_flat {ρ : Ren} {v : Value} (h : flat v = true) : VRel ρ v v := by
  cases v with
  | bool b => exact .bool b
  | int k n => exact .int k n
  | float k n => exact .float k n
  | complex k a b => exact .complex k a b
  | string s => exact .string s
  | pointer a => cases a with
    | none => exact .nilPtr
    | some a => simp [flat] at h
  | slice a l c => cases a with
    | none => exact .nilSlice l c
    | some a => simp [flat] at h
  | map r => cases r with
    | none => exact .nilMap
    | some a => simp [flat] at h
  | chan r => cases r with
    | none => exact .nilChan
    | some a => simp [flat] at h
  | func fn f c =>
    simp [flat] at h
    obtain ⟨h0, h1, h2⟩ := h
    subst h1 h2
    exact .func fn h0 rfl (by simp) rfl (by simp)
  | nilFunc => exact .nilFunc
  | nilIface => exact .nilIface
  | iface t x =>
    refine .iface t ?_
    cases x with
    | bool b => exact .bool b
    | int k n => exact .int k n
    | float k n => exact .float k n
    | complex k a b => exact .complex k a b
    | string s => exact .string s
    | pointer a => cases a with
      | none => exact .nilPtr
      | some a => simp [flat] at h
    | slice a l c => cases a with
      | none => exact .nilSlice l c
      | some a => simp [flat] at h
    | map r => cases r with
      | none => exact .nilMap
      | some a => simp [flat] at h
    | chan r => cases r with
      | none => exact .nilChan
      | some a => simp [flat] at h
    | nilFunc => exact .nilFunc
    | nilIface => exact .nilIface
    | _ => simp [flat] at h
  | agg c => simp [flat] at h
  | tuple c => simp [flat] at h

theorem VsRel.refl_flats {ρ : Ren} : ∀ {l : List Value}, flats l = true → VsRel ρ l l
  | [], _ => .nil
  | v :: l, h => by
    simp [flats] at h
    exact .cons (.refl_flat h.1) (VsRel.refl_flats h.2)

theorem VRel.refl_closed {ρ : Ren} {v : Value} (h : closed v = true) : VRel ρ v v := by
  cases v with
  | agg c => simp [closed] at h; have := VRel.agg_of (VsRel.refl_flats (ρ := ρ) h); simpa using this
  | tuple c => simp [closed] at h; have := VRel.tuple_of (VsRel.refl_flats (ρ := ρ) h); simpa using this
  | _ => exact .refl_flat (by simpa [closed] using h)

theorem VsRel.cells {ρ : Ren} {v v' : Value} (h : VRel ρ v v') : VsRel ρ v.cells.toList v'.cells.toList := by
  cases h with
  | agg h1 h2 => exact VsRel.of_array h1 h2
  | @raw k L hb hc =>
    have : L.raw.cells = #[L.raw] := by
      revert hc
      cases L.raw <;> intro hc <;> first | rfl | (simp [rawOK] at hc)
    rw [this]
    exact .cons (.raw hb hc) .nil
  | _ => first | exact .cons (by constructor <;> assumption) .nil | exact .cons (by constructor) .nil

theorem VsRel.cells_closed {ρ : Ren} {v : Value} (h : closed v = true) : VsRel ρ v.cells.toList v.cells.toList := VsRel.cells (.refl_closed h)

theorem VRel.undef {ρ : Ren} : VRel ρ undef undef := .tuple rfl (by simp)

/-! ### blocks -/
structure EntRel (ρ : Ren) (a b : MapEntry) : Prop where
  key : b.key = a.key
  flat : flat a.key = true
  val : VRel ρ a.val b.val
  born : b.born = a.born

def optLoc (ρ : Ren) : Option Nat → Option Nat → Prop
  | none, none => True
  | some r, some B => ∃ L, ρ r = some L ∧ B = L.B
  | _, _ => False

/-- The cells that a block owns: from .. up to. -/
def AObj.hi (o : AObj) (L : Loc) : Nat :=
  match o with
  | .row c _ tail => if tail then L.R else L.o + c.length
  | _ => L.o + 1

def ORel (ρ : Ren) (o : AObj) (L : Loc) (w : World) : Prop :=
  match o with
  | .row c sz tail => ∃ cells el lo hi, w.heap[L.B]? = some (.cells cells el (lo, hi)) ∧ cells.size = L.R ∧ L.sz = sz ∧ L.o + c.length ≤ L.R ∧
      (∀ i v, c[i]? = some v → ∃ v', cells[L.o + i]? = some v' ∧ VRel ρ v v') ∧
      (∀ j, L.o ≤ j → j < (AObj.row c sz tail).hi L → ¬ (lo ≤ j ∧ j < hi))
  | .map es clock => ∃ es', w.heap[L.B]? = some (.map es' clock) ∧ LR (EntRel ρ) es es'.toList ∧ L.o = 0
  | .miter m since seen stepped => ∃ m', w.heap[L.B]? = some (.mapIter m' since seen.toArray stepped) ∧ optLoc ρ m m' ∧ L.o = 0
  | .siter s pos => w.heap[L.B]? = some (.stringIter s pos) ∧ L.o = 0
  | .loop n T ps as b st j => ∃ r : Loop, w.heap[L.B]? = some (.loop r) ∧ (r.params = ps ∧ r.assign = as ∧ r.body = b ∧ r.state = st ∧ r.pending = j) ∧ r.tmps.size = n ∧ (∀ t, VRel ρ (tget T t) (r.tmps.getD t undef)) ∧ L.o = 0

def Owned (ρ : Ren) (A : ASt) (B j : Nat) : Prop := ∃ b o L, A.get b = some o ∧ ρ b = some L ∧ L.B = B ∧ L.o ≤ j ∧ j < o.hi L

structure Rep (ρ : Ren) (A : ASt) (w : World) : Prop where
  obj : ∀ b o, A.get b = some o → ∃ L, ρ b = some L ∧ ORel ρ o L w
  apart : ∀ b b' o o' L L', b ≠ b' → A.get b = some o → A.get b' = some o' → ρ b = some L → ρ b' = some L' → L.B = L'.B → ∀ j, L.o ≤ j → j < o.hi L → L'.o ≤ j → j < o'.hi L' → False
  fresh : ∀ b, A.next ≤ b → ρ b = none

theorem Rep.get_lt {ρ : Ren} {A : ASt} {w : World} (h : Rep ρ A w) {b : Nat} {o : AObj} (hb : A.get b = some o) : b < A.next := by
  obtain ⟨L, hL, _⟩ := h.obj b o hb
  rcases Nat.lt_or_ge b A.next with h' | h'
  · exact h'
  · rw [h.fresh b h'] at hL; cases hL

theorem ORel.block {ρ : Ren} {o : AObj} {L : Loc} {w : World} (h : ORel ρ o L w) : L.B < w.heap.size := by
  have : ∃ x, w.heap[L.B]? = some x := by
    cases o with
    | row c sz tail => obtain ⟨_, _, _, _, h, _⟩ := h; exact ⟨_, h⟩
    | map es clock => obtain ⟨_, h, _⟩ := h; exact ⟨_, h⟩
    | miter m s se st => obtain ⟨_, h, _⟩ := h; exact ⟨_, h⟩
    | siter s pos => exact ⟨_, h.1⟩
    | loop n T ps as b st j => obtain ⟨r, h, _⟩ := h; exact ⟨_, h⟩
  obtain ⟨x, hx⟩ := this
  exact (Array.getElem?_eq_some_iff.1 hx).1

/-- What one stretch of the run does: what is not owned stays as it was. -/
structure Step0 (ρ : Ren) (A : ASt) (w : World) (ρ' : Ren) (A' : ASt) (w' : World) : Prop where
  rep : Rep ρ' A' w'
  ext : ρ.le ρ'
  next : A.next ≤ A'.next
  size : w.heap.size ≤ w'.heap.size
  os : w'.os = w.os
  tape : w'.tape = w.tape
  output : w'.output = w.output
  cells : ∀ B cells el fr, w.heap[B]? = some (.cells cells el fr) → ∃ cells', w'.heap[B]? = some (.cells cells' el fr) ∧ cells'.size = cells.size ∧ ∀ j, ¬ Owned ρ A B j → cells'[j]? = cells[j]?
  objs : ∀ B o, w.heap[B]? = some o → (∀ c e f, o ≠ .cells c e f) → ¬ Owned ρ A B 0 → w'.heap[B]? = some o
  owns : ∀ B j, B < w.heap.size → Owned ρ' A' B j → Owned ρ A B j

/-- The same, and numbers below the next are not given anew. -/
structure Step (ρ : Ren) (A : ASt) (w : World) (ρ' : Ren) (A' : ASt) (w' : World) : Prop extends Step0 ρ A w ρ' A' w' where
  keep : ∀ b, b < A.next → ρ' b = ρ b
  dom : ∀ b, b < A.next → A.get b = none → A'.get b = none

theorem Step0.refl {ρ : Ren} {A : ASt} {w : World} (h : Rep ρ A w) : Step0 ρ A w ρ A w :=
  ⟨h, .refl _, Nat.le_refl _, Nat.le_refl _, rfl, rfl, rfl, fun _ c _ _ h => ⟨c, h, rfl, fun _ _ => rfl⟩, fun _ _ h _ _ => h, fun _ _ _ h => h⟩

theorem Step.refl {ρ : Ren} {A : ASt} {w : World} (h : Rep ρ A w) : Step ρ A w ρ A w := ⟨.refl h, fun _ _ => rfl, fun _ _ h => h⟩

theorem Step0.trans {ρ ρ₁ ρ₂ : Ren} {A A₁ A₂ : ASt} {w w₁ w₂ : World} (h : Step0 ρ A w ρ₁ A₁ w₁) (k : Step0 ρ₁ A₁ w₁ ρ₂ A₂ w₂) : Step0 ρ A w ρ₂ A₂ w₂ := by
  have hlt : ∀ {B : Nat} {o : Obj}, w.heap[B]? = some o → B < w.heap.size := fun h => (Array.getElem?_eq_some_iff.1 h).1
  refine ⟨k.rep, h.ext.trans k.ext, Nat.le_trans h.next k.next, Nat.le_trans h.size k.size, k.os.trans h.os, k.tape.trans h.tape, k.output.trans h.output, ?_, ?_, ?_⟩
  · intro B cells el fr hB
    obtain ⟨c₁, hc₁, hs₁, hj₁⟩ := h.cells B cells el fr hB
    obtain ⟨c₂, hc₂, hs₂, hj₂⟩ := k.cells B c₁ el fr hc₁
    refine ⟨c₂, hc₂, hs₂.trans hs₁, fun j hj => ?_⟩
    rw [hj₂ j (fun ho => hj (h.owns B j (hlt hB) ho)), hj₁ j hj]
  · intro B o hB hne hno
    exact k.objs B o (h.objs B o hB hne hno) hne (fun ho => hno (h.owns B 0 (hlt hB) ho))
  · intro B j hB ho
    exact h.owns B j hB (k.owns B j (Nat.lt_of_lt_of_le hB h.size) ho)

theorem Step.trans {ρ ρ₁ ρ₂ : Ren} {A A₁ A₂ : ASt} {w w₁ w₂ : World} (h : Step ρ A w ρ₁ A₁ w₁) (k : Step ρ₁ A₁ w₁ ρ₂ A₂ w₂) : Step ρ A w ρ₂ A₂ w₂ :=
  ⟨h.toStep0.trans k.toStep0, fun b hb => (k.keep b (Nat.lt_of_lt_of_le hb h.next)).trans (h.keep b hb), fun b hb hn => k.dom b (Nat.lt_of_lt_of_le hb h.next) (h.dom b hb hn)⟩

/-- A draw alone. -/
theorem Rep.of_heap {ρ : Ren} {A : ASt} {w w' : World} (h : Rep ρ A w) (hw : w'.heap = w.heap) : Rep ρ A w' := by
  refine ⟨fun b o hb => ?_, h.apart, h.fresh⟩
  obtain ⟨L, hL, ho⟩ := h.obj b o hb
  exact ⟨L, hL, by cases o <;> simpa only [ORel, hw] using ho⟩

theorem Step.drew {ρ : Ren} {A : ASt} {w : World} (h : Rep ρ A w) : Step ρ A w ρ A { w with drawn := w.drawn + 1 } :=
  ⟨⟨h.of_heap rfl, .refl _, Nat.le_refl _, Nat.le_refl _, rfl, rfl, rfl, fun _ c _ _ h => ⟨c, h, rfl, fun _ _ => rfl⟩, fun _ _ h _ _ => h, fun _ _ _ h => h⟩, fun _ _ => rfl, fun _ _ h => h⟩

theorem ORel.mono {ρ ρ' : Ren} (h : ρ.le ρ') {o : AObj} {L : Loc} {w : World} (ho : ORel ρ o L w) : ORel ρ' o L w := by
  cases o with
  | row c sz tail =>
    obtain ⟨cells, el, lo, hi, h1, h2, h3, h4, h5, h6⟩ := ho
    exact ⟨cells, el, lo, hi, h1, h2, h3, h4, fun i v hv => let ⟨v', a, b⟩ := h5 i v hv; ⟨v', a, b.mono h⟩, h6⟩
  | map es clock =>
    obtain ⟨es', h1, h2, h3⟩ := ho
    exact ⟨es', h1, LR.mono (fun _ _ e => ⟨e.key, e.flat, e.val.mono h, e.born⟩) h2, h3⟩
  | miter m since seen stepped =>
    obtain ⟨m', h1, h2, h3⟩ := ho
    refine ⟨m', h1, ?_, h3⟩
    cases m <;> cases m' <;> simp only [optLoc] at h2 ⊢
    obtain ⟨L, hL, e⟩ := h2
    exact ⟨L, h _ _ hL, e⟩
  | siter s pos => exact ho
  | loop n T ps as b st j =>
    obtain ⟨r, h1, h2, h3, h4, h5⟩ := ho
    exact ⟨r, h1, h2, h3, fun t => (h4 t).mono h, h5⟩

def upd (ρ : Ren) (b : Nat) (L : Loc) : Ren := fun x => if x = b then some L else ρ x

theorem upd_le {ρ : Ren} {b : Nat} {L : Loc} (h : ρ b = none) : ρ.le (upd ρ b L) := by
  intro x M hx
  unfold upd
  by_cases e : x = b
  · subst e; rw [h] at hx; cases hx
  · simp [e, hx]
@[simp] theorem upd_same {ρ : Ren} {b : Nat} {L : Loc} : upd ρ b L b = some L := by simp [upd]

/-- An object that lies in a world lies in a greater one. -/
theorem ORel.of_block {ρ : Ren} {o : AObj} {L : Loc} {w w' : World} (h : w'.heap[L.B]? = w.heap[L.B]?) (ho : ORel ρ o L w) : ORel ρ o L w' := by
  cases o <;> simpa only [ORel, h] using ho

/-- A NEW BLOCK, at whatever free number. -/
theorem Step0.newAt {ρ : Ren} {A : ASt} {w : World} (h : Rep ρ A w) (id : Nat) (hfr : ρ id = none) (o : AObj) (ob : Obj) (L : Loc) (hB : L.B = w.heap.size) (ho : ORel (upd ρ id L) o L (w.alloc ob)) :
    Step0 ρ A w (upd ρ id L) (A.newAt id o) (w.alloc ob) := by
  have hle : ρ.le (upd ρ id L) := upd_le hfr
  have hold : ∀ B, B < w.heap.size → (w.alloc ob).heap[B]? = w.heap[B]? := fun B hB => Go.RowKit.Below.heap_alloc w ob B hB
  refine ⟨⟨?_, ?_, ?_⟩, hle, by simp; omega, by simp, rfl, rfl, rfl, ?_, ?_, ?_⟩
  · intro b x hb
    rw [ASt.get_newAt] at hb
    by_cases e : b = id
    · simp [e] at hb; subst hb; subst b; exact ⟨L, by simp, ho⟩
    · simp [e] at hb
      obtain ⟨M, hM, hx⟩ := h.obj b x hb
      exact ⟨M, hle _ _ hM, (hx.mono hle).of_block (hold _ hx.block)⟩
  · intro b b' x x' M M' hne hb hb' hM hM' hBB
    rw [ASt.get_newAt] at hb hb'
    by_cases e : b = id
    · subst b
      simp at hM; subst hM
      have e' : b' ≠ id := fun e => hne e.symm
      simp [e'] at hb'
      obtain ⟨N, hN, hx⟩ := h.obj b' x' hb'
      have := hle _ _ hN; rw [this] at hM'; cases hM'
      have := hx.block; omega
    · simp [e] at hb
      obtain ⟨N, hN, hx⟩ := h.obj b x hb
      have := hle _ _ hN; rw [this] at hM; cases hM
      by_cases e' : b' = id
      · subst b'
        simp at hM'; subst hM'
        have := hx.block; omega
      · simp [e'] at hb'
        obtain ⟨N', hN', hx'⟩ := h.obj b' x' hb'
        have := hle _ _ hN'; rw [this] at hM'; cases hM'
        exact h.apart b b' x x' _ _ hne hb hb' hN hN' hBB
  · intro b hb
    simp at hb
    unfold upd
    rw [if_neg (by omega)]
    exact h.fresh b (by omega)
  · intro B cells el fr hB'
    have hlt := (Array.getElem?_eq_some_iff.1 hB').1
    exact ⟨cells, by rw [hold B hlt]; exact hB', rfl, fun _ _ => rfl⟩
  · intro B x hB' _ _
    have hlt := (Array.getElem?_eq_some_iff.1 hB').1
    rw [hold B hlt]; exact hB'
  · rintro B j hB' ⟨b, x, M, hb, hM, hMB, h1, h2⟩
    rw [ASt.get_newAt] at hb
    by_cases e : b = id
    · subst b; simp at hM; subst hM; omega
    · simp [e] at hb
      obtain ⟨N, hN, hx⟩ := h.obj b x hb
      have := hle _ _ hN; rw [this] at hM; cases hM
      exact ⟨b, x, _, hb, hN, hMB, h1, h2⟩

/-- A BLOCK THAT IS OWNED IS WRITTEN, within what it owns. -/
theorem Step.set {ρ : Ren} {A : ASt} {w w' : World} (h : Rep ρ A w) {b : Nat} {o o' : AObj} {L : Loc} (hb : A.get b = some o) (hL : ρ b = some L)
    (ho : ORel ρ o' L w') (hhi : o'.hi L ≤ o.hi L)
    (hw : w'.os = w.os ∧ w'.tape = w.tape ∧ w'.output = w.output ∧ w'.heap.size = w.heap.size)
    (hother : ∀ B, B ≠ L.B → w'.heap[B]? = w.heap[B]?)
    (hsame : (∃ x y, w.heap[L.B]? = some x ∧ (∀ c e f, x ≠ .cells c e f) ∧ w'.heap[L.B]? = some y ∧ L.o = 0 ∧ 0 < o.hi L) ∨
      (∃ cells cells' el fr, w.heap[L.B]? = some (.cells cells el fr) ∧ w'.heap[L.B]? = some (.cells cells' el fr) ∧ cells'.size = cells.size ∧
        ∀ j, ¬ (L.o ≤ j ∧ j < o.hi L) → cells'[j]? = cells[j]?)) :
    Step ρ A w ρ (A.set b o') w' := by
  have hin : ∀ j, L.o ≤ j → j < o.hi L → Owned ρ A L.B j := fun j h1 h2 => ⟨b, o, L, hb, hL, rfl, h1, h2⟩
  refine ⟨⟨⟨?_, ?_, ?_⟩, .refl _, Nat.le_refl _, by omega, hw.1, hw.2.1, hw.2.2.1, ?_, ?_, ?_⟩, fun _ _ => rfl, fun d hd hn => ?_⟩
  · intro c x hc
    rw [ASt.get_set] at hc
    by_cases e : c = b
    · simp [e] at hc; subst hc e; exact ⟨L, hL, ho⟩
    · simp [e] at hc
      obtain ⟨M, hM, hx⟩ := h.obj c x hc
      refine ⟨M, hM, ?_⟩
      by_cases eB : M.B = L.B
      · -- the same row: what c owns lies apart
        have hap := h.apart c b x o M L e hc hb hM hL eB
        rcases hsame with ⟨x', y, hx', hne, hy, hL0, hhi'⟩ | ⟨cells, cells', el, fr, h1, h2, h3, h4⟩
        · cases x with
          | row c' sz tail => obtain ⟨_, _, _, _, hh, _⟩ := hx; rw [eB, hx'] at hh; cases hh; exact absurd rfl (hne _ _ _)
          | map es clock =>
            obtain ⟨es', hh, _, h0⟩ := hx
            exact absurd (hap 0 (by omega) (by simp [AObj.hi]) (by omega) hhi') id
          | miter m s se st =>
            obtain ⟨es', hh, _, h0⟩ := hx
            exact absurd (hap 0 (by omega) (by simp [AObj.hi]) (by omega) hhi') id
          | siter s pos =>
            obtain ⟨hh, h0⟩ := hx
            exact absurd (hap 0 (by omega) (by simp [AObj.hi]) (by omega) hhi') id
          | loop n T ps as b st j =>
            obtain ⟨r, hh, _, _, _, h0⟩ := hx
            exact absurd (hap 0 (by omega) (by simp [AObj.hi]) (by omega) hhi') id
        · cases x with
          | row c' sz tail =>
            obtain ⟨cl, el', lo, hi, hh, hs, hz, hlen, hcells, hfz⟩ := hx
            rw [eB, h1] at hh; cases hh
            refine ⟨cells', el, lo, hi, by rw [eB]; exact h2, by omega, hz, hlen, fun i v hv => ?_, hfz⟩
            obtain ⟨v', hv', hr⟩ := hcells i v hv
            refine ⟨v', ?_, hr⟩
            rw [h4 (M.o + i) (fun hc => hap (M.o + i) (by omega) ?_ hc.1 hc.2)]
            · exact hv'
            · have hi' : i < c'.length := (List.getElem?_eq_some_iff.1 hv).1
              simp only [AObj.hi]
              split <;> omega
          | map es clock => obtain ⟨_, hh, _⟩ := hx; rw [eB, h1] at hh; cases hh
          | miter m s se st => obtain ⟨_, hh, _⟩ := hx; rw [eB, h1] at hh; cases hh
          | siter s pos => have hh := hx.1; rw [eB, h1] at hh; cases hh
          | loop n T ps as b st j => obtain ⟨_, hh, _⟩ := hx; rw [eB, h1] at hh; cases hh
      · exact hx.of_block (hother _ eB)
  · intro c c' x x' M M' hne hc hc' hM hM' hBB j h1 h2 h3 h4
    rw [ASt.get_set] at hc hc'
    by_cases e : c = b
    · subst e
      simp at hc; subst hc
      have e' : c' ≠ c := fun e => hne e.symm
      simp [e'] at hc'
      rw [hL] at hM; cases hM
      exact h.apart c c' o x' L M' hne hb hc' hL hM' hBB j h1 (by omega) h3 h4
    · simp [e] at hc
      by_cases e' : c' = b
      · subst e'
        simp at hc'; subst hc'
        rw [hL] at hM'; cases hM'
        exact h.apart c c' x o M L hne hc hb hM hL hBB j h1 h2 h3 (by omega)
      · simp [e'] at hc'
        exact h.apart c c' x x' M M' hne hc hc' hM hM' hBB j h1 h2 h3 h4
  · exact h.fresh
  · intro B cells el fr hB
    by_cases e : B = L.B
    · subst e
      rcases hsame with ⟨x', y, hx', hne, hy, hL0, hhi'⟩ | ⟨cl, cells', el', fr', h1, h2, h3, h4⟩
      · rw [hB] at hx'; cases hx'; exact absurd rfl (hne _ _ _)
      · rw [hB] at h1; cases h1
        exact ⟨cells', h2, h3, fun j hj => h4 j fun hc => hj (hin j hc.1 hc.2)⟩
    · exact ⟨cells, by rw [hother B e]; exact hB, rfl, fun _ _ => rfl⟩
  · intro B x hB hne hno
    by_cases e : B = L.B
    · subst e
      rcases hsame with ⟨x', y, hx', hne', hy, hL0, hhi'⟩ | ⟨cl, cells', el', fr', h1, h2, h3, h4⟩
      · exact absurd (hin 0 (by omega) hhi') hno
      · rw [hB] at h1; cases h1; exact absurd rfl (hne _ _ _)
    · rw [hother B e]; exact hB
  · rintro B j hB ⟨c, x, M, hc, hM, hMB, h1, h2⟩
    rw [ASt.get_set] at hc
    by_cases e : c = b
    · subst e; simp at hc; subst hc; rw [hL] at hM; cases hM
      exact ⟨c, o, L, hb, hL, hMB, h1, by omega⟩
    · simp [e] at hc
      exact ⟨c, x, M, hc, hM, hMB, h1, h2⟩
  · rw [ASt.get_set]
    by_cases e : d = b
    · subst e; rw [hb] at hn; cases hn
    · rw [if_neg e]; exact hn

theorem Rep.congr {ρ : Ren} {A A' : ASt} {w : World} (h : Rep ρ A w) (hg : ∀ b, A'.get b = A.get b) (hn : A'.next = A.next) : Rep ρ A' w :=
  ⟨fun b o hb => h.obj b o (by rw [← hg]; exact hb), fun b b' o o' L L' hne hb hb' => h.apart b b' o o' L L' hne (by rw [← hg]; exact hb) (by rw [← hg]; exact hb'), fun b hb => h.fresh b (by rw [← hn]; exact hb)⟩

theorem Step0.congr {ρ ρ' : Ren} {A A' A'' : ASt} {w w' : World} (h : Step0 ρ A w ρ' A' w') (hg : ∀ b, A''.get b = A'.get b) (hn : A''.next = A'.next) : Step0 ρ A w ρ' A'' w' :=
  ⟨h.rep.congr hg hn, h.ext, by rw [hn]; exact h.next, h.size, h.os, h.tape, h.output, h.cells, h.objs, fun B j hB ⟨b, o, L, hb, r⟩ => h.owns B j hB ⟨b, o, L, by rw [← hg]; exact hb, r⟩⟩

theorem Step.congr {ρ ρ' : Ren} {A A' A'' : ASt} {w w' : World} (h : Step ρ A w ρ' A' w') (hg : ∀ b, A''.get b = A'.get b) (hn : A''.next = A'.next) : Step ρ A w ρ' A'' w' :=
  ⟨h.toStep0.congr hg hn, h.keep, fun b hb hd => by rw [hg]; exact h.dom b hb hd⟩

/-- A new block at the next number is a step. -/
theorem Step0.atNext {ρ : Ren} {A : ASt} {w w' : World} {L : Loc} {o : AObj} (h : Step0 ρ A w (upd ρ A.next L) (A.newAt A.next o) w') : Step ρ A w (upd ρ A.next L) (A.new o) w' :=
  ⟨h.congr (fun _ => rfl) (by simp), fun b hb => by unfold upd; rw [if_neg (by omega)], fun b hb hn => by rw [ASt.get_new, if_neg (by omega)]; exact hn⟩

theorem Step.new {ρ : Ren} {A : ASt} {w : World} (h : Rep ρ A w) (o : AObj) (ob : Obj) (L : Loc) (hB : L.B = w.heap.size) (ho : ORel (upd ρ A.next L) o L (w.alloc ob)) :
    Step ρ A w (upd ρ A.next L) (A.new o) (w.alloc ob) := (Step0.newAt h A.next (h.fresh _ (Nat.le_refl _)) o ob L hB ho).atNext

end Go.AE
