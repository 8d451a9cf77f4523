/- The wheel's advance. -/
import Derived.Test.YtgcffmhpjphefaaGreatDoorP07
import Derived.Shelf.SlSortCmp.NoneTotal
set_option linter.unusedSimpArgs false
set_option linter.unusedVariables false
set_option linter.unusedSectionVars false
namespace Go.Proofs.YtgcffmhpjphefaaGreatDoor
open Go Go.AE

variable {Z : Go.AE.Road}
set_option maxRecDepth 10000

theorem box22 {k : IntKind} {x : Int} : aBox E0 22 (.int k x) = some (.row [.int k x] 1 false, ptrTo) := by
  simp only [aBox, ti22, t22_size]; rfl
theorem alloc59 : aAlloc E0 97 = some (.row [.map none] 1 false, ptrTo) := by
  simp only [aAlloc, ti97, t97_zero, t97_size]; rfl
theorem store59 {A : ASt} {b m : Nat} {x : Value} (h : A.get b = some (.row [x] 1 false)) : aStore E0 97 (.pointer (some ⟨b, 0, none⟩)) (.map (some m)) A = some (A.set b (.row [.map (some m)] 1 false)) :=
  aStore_row h ti97 (by rw [t97_size]; rfl) rfl rfl
theorem storeNow {A : ASt} {W now nw all : Nat} {ms : List Nat} (h : A.get W = some (.row (wrow now all ms) 67 false)) : aStore E0 22 (.pointer (some ⟨W, 0, none⟩)) (.int .u64 (nw : Int)) A = some (A.set W (.row (wrow nw all ms) 67 false)) :=
  aStore_row h ti22 (by rw [t22_size]; rfl) rfl rfl

def R27 : Tgt → List Value → ASt → (Value → ASt → Prop) → Prop := fun t args A S => ∃ x : Nat, x < 18446744073709551616 ∧ t = .fn 61 ∧ args = [.int .u64 (x : Int)] ∧ S = fun v A' => v = .int .i64 ((Lib.bitLen x : Nat) : Int) ∧ A' = A
theorem R27_ok (t args A S) (h : R27 t args A S) : CallT Z Tryz.prog t args A S := by
  obtain ⟨x, hx, rfl, rfl, rfl⟩ := h
  exact len64 x hx A
theorem con27 {x : Nat} (hx : x < 18446744073709551616) {A : ASt} {K : Value → ASt → Prop} (h : K (.int .i64 ((Lib.bitLen x : Nat) : Int)) A) : conC R27 (.fn 61) [.int .u64 (x : Int)] A K := by
  refine ⟨⟨_, x, hx, rfl, rfl, rfl⟩, ?_⟩
  rintro S ⟨y, hy, _, ha, rfl⟩ v A' ⟨rfl, rfl⟩
  simp only [List.cons.injEq, Value.int.injEq, Int.natCast_inj, and_true, true_and] at ha
  subst ha
  exact h

def tcells : List (ByteArray × Nat) → List Value
  | [] => []
  | t :: l => .string t.1 :: .int .u64 (t.2 : Nat) :: tcells l
noncomputable def blt (x y : ByteArray) : Bool := bytesLt x.data.toList y.data.toList
def tlt (x y : ByteArray × Nat) : Prop := x.2 < y.2 ∨ (x.2 = y.2 ∧ blt x.1 y.1 = true)
structure Lists (D : TM) (ts : List (ByteArray × Nat)) : Prop where
  mem : ∀ k a, (k, a) ∈ ts ↔ D k = some a
  ord : ts.Pairwise tlt
def SliceAt (A : ASt) (lo : Nat) (v : Value) (ts : List (ByteArray × Nat)) : Prop :=
  (ts = [] ∧ v = .slice none 0 0) ∨ ∃ b cap rest tl, v = .slice (some ⟨b, 0, none⟩) ts.length cap ∧ A.get b = some (.row (tcells ts ++ rest) 2 tl) ∧ lo ≤ b ∧ b < A.next ∧ cap = unk ∧ rest = [] ∧ tl = true
def Srt (D : TM) (A : ASt) (v : Value) (A' : ASt) : Prop := ∃ ts, Lists D ts ∧ SliceAt A' A.next v ts ∧ Fr [] A A'

structure Adv (A0 A : ASt) (W all now : Nat) (ms : List Nat) (M : TM) (nw p3 p5 p6 d lf : Nat) (D : Nat → Bool) : Prop where
  row : A.get W = some (.row (wrow now all ms) 67 false)
  allm : Holds A all M
  slot : ∀ i m, ms[i]? = some m → Holds A m (if D i then (fun _ => none) else M.at_ now i)
  due : Holds A d (fun k => (M k).filter fun a => D (plc now a) && decide (a ≤ nw))
  lft : Holds A lf (fun k => (M k).filter fun a => D (plc now a) && !decide (a ≤ nw))
  h3 : A.get p3 = some (.row [.int .u64 (nw : Int)] 1 false)
  h5 : A.get p5 = some (.row [.map (some d)] 1 false)
  h6 : A.get p6 = some (.row [.map (some lf)] 1 false)
  nodup : (W :: all :: d :: lf :: ms).Nodup
  below : ∀ b ∈ W :: all :: d :: lf :: p3 :: p5 :: p6 :: ms, b < A.next
  new : ∀ b ∈ [d, lf, p3, p5, p6], A0.next ≤ b
  fr : Fr (W :: all :: ms) A0 A

theorem over_at {M : TM} {now i : Nat} {D p : Nat → Bool} : TM.over (fun k => (M k).filter fun a => D (plc now a) && p a) (M.at_ now i) p = fun k => (M k).filter fun a => (D (plc now a) || decide (plc now a = i)) && p a := by
  funext k
  unfold TM.over TM.at_
  cases hk : M k with
  | none => simp [hk]
  | some a =>
    by_cases hp : plc now a = i
    · by_cases hpa : p a = true <;> simp [Option.filter, hk, hp, hpa]
    · simp [Option.filter, hk, hp]

theorem Adv.step {A0 A : ASt} {W all now : Nat} {ms : List Nat} {M : TM} {nw p3 p5 p6 d lf : Nat} {D : Nat → Bool} (h : Adv A0 A W all now ms M nw p3 p5 p6 d lf D) {i m : Nat} (hm : ms[i]? = some m) (hD : D i = false) :
    CallW Z Tryz.prog 62 [.map (some m), .pointer (some ⟨p3, 0, none⟩), .pointer (some ⟨p5, 0, none⟩), .pointer (some ⟨p6, 0, none⟩)] A (fun _ A' => Adv A0 A' W all now ms M nw p3 p5 p6 d lf (fun j => D j || decide (j = i))) := by
  have hmem := List.mem_of_getElem? hm
  have hn := h.nodup
  simp only [List.nodup_cons, List.mem_cons, not_or] at hn
  obtain ⟨⟨w1, w2, w3, w4⟩, ⟨a1, a2, a3⟩, ⟨d1, d2⟩, l1, hms⟩ := hn
  have nd : m ≠ d := fun e => d2 (e ▸ hmem)
  have nl : m ≠ lf := fun e => l1 (e ▸ hmem)
  have hsl := h.slot i m hm
  simp only [hD, Bool.false_eq_true, if_false] at hsl
  refine (empty_spec h.h3 h.h5 h.h6 hsl h.due h.lft nd nl d1 (fun b hb => h.below b (by simp at hb ⊢; rcases hb with rfl | rfl | rfl | rfl | rfl | rfl <;> simp [hmem]))).mono ?_
  rintro _ A' ⟨g1, g2, g3, f⟩
  have keep : ∀ b, b < A.next → b ≠ m → b ≠ d → b ≠ lf → A'.get b = A.get b := fun b hb e1 e2 e3 => f.get b hb (by simp [e1, e2, e3])
  have bel : ∀ b ∈ W :: all :: d :: lf :: p3 :: p5 :: p6 :: ms, b < A'.next := fun b hb => Nat.lt_of_lt_of_le (h.below b hb) f.next
  have ne : ∀ {p : Nat} {c : List Value} {sz : Nat} {tl : Bool}, A.get p = some (.row c sz tl) → ∀ {q : Nat} {T : TM}, Holds A q T → p ≠ q := by
    rintro p c sz tl hp q T ⟨_, _, hq, _⟩ rfl
    rw [hp] at hq
    cases hq
  have krow : ∀ {p : Nat} {c : List Value} {sz : Nat} {tl : Bool}, p < A.next → A.get p = some (.row c sz tl) → A'.get p = some (.row c sz tl) := fun hp hr => by
    rw [keep _ hp (ne hr hsl) (ne hr h.due) (ne hr h.lft)]; exact hr
  refine ⟨krow (h.below W (by simp)) h.row, h.allm.congr (keep all (h.below all (by simp)) (fun e => a3 (e ▸ hmem)) a1 a2), fun j m' hj => ?_, g2.ext fun k => ?_, g3.ext fun k => ?_, krow (h.below p3 (by simp)) h.h3, krow (h.below p5 (by simp)) h.h5, krow (h.below p6 (by simp)) h.h6, h.nodup, bel, h.new, ?_⟩
  · have hj' := List.mem_of_getElem? hj
    by_cases e : j = i
    · subst e
      rw [hm] at hj; cases hj
      simp only [decide_true, Bool.or_true, if_true]
      exact g1
    · have em : m' ≠ m := fun em => e (by
        subst em
        obtain ⟨x1, x2⟩ := List.getElem?_eq_some_iff.1 hj
        obtain ⟨y1, y2⟩ := List.getElem?_eq_some_iff.1 hm
        rcases Nat.lt_trichotomy j i with hlt | he | hlt
        · exact absurd (x2.trans y2.symm) (List.pairwise_iff_getElem.1 hms j i x1 y1 hlt)
        · exact he
        · exact absurd (y2.trans x2.symm) (List.pairwise_iff_getElem.1 hms i j y1 x1 hlt))
      simp only [e, decide_false, Bool.or_false]
      exact (h.slot j m' hj).congr (keep m' (h.below m' (by simp [hj'])) em (fun e => d2 (e ▸ hj')) (fun e => l1 (e ▸ hj')))
  · rw [over_at]
  · rw [over_at (p := fun a => !decide (a ≤ nw))]
  · refine ⟨Nat.le_trans h.fr.next f.next, fun b hb hno => ?_⟩
    rw [f.get b (Nat.lt_of_lt_of_le hb h.fr.next) ?_, h.fr.get b hb hno]
    have n1 := h.new d (by simp)
    have n2 := h.new lf (by simp)
    simp only [List.mem_cons, List.not_mem_nil, or_false, not_or]
    exact ⟨fun e => hno (by simp [e, hmem]), by omega, by omega⟩

theorem CodeW.label' {n : Nat} {ro : Option Nat} {l : Nat} {T : Tmps} {A : ASt} {Q : Out → Prop} (h : Q (.fr ⟨.normal, T, A⟩)) : CodeW Z Tryz.prog n ro (.label l) T A Q :=
  fun ρ w a N rr hR hro ht hn hd => wpIn_label ⟨.normal, T, A, h, trivial, ρ, ht, .refl (Z.rep hR), hn, hd⟩

structure AdvT (T : Tmps) (W p3 p5 p6 ps : Nat) : Prop where
  t0 : tget T 0 = .pointer (some ⟨W, 0, none⟩)
  t3 : tget T 3 = .pointer (some ⟨p3, 0, none⟩)
  t5 : tget T 5 = .pointer (some ⟨p5, 0, none⟩)
  t6 : tget T 6 = .pointer (some ⟨p6, 0, none⟩)
  t7 : tget T 7 = .int .i64 (ps : Int)
  t8 : tget T 8 = .func (.func 62) #[] #[.pointer (some ⟨p3, 0, none⟩), .pointer (some ⟨p5, 0, none⟩), .pointer (some ⟨p6, 0, none⟩)]
theorem AdvT.congr {T T' : Tmps} {W p3 p5 p6 ps : Nat} (h : AdvT T W p3 p5 p6 ps) (e : ∀ t ∈ [0, 3, 5, 6, 7, 8], tget T' t = tget T t) : AdvT T' W p3 p5 p6 ps :=
  ⟨(e 0 (by simp)).trans h.t0, (e 3 (by simp)).trans h.t3, (e 5 (by simp)).trans h.t5, (e 6 (by simp)).trans h.t6, (e 7 (by simp)).trans h.t7, (e 8 (by simp)).trans h.t8⟩
theorem Adv.congrD {A0 A : ASt} {W all now : Nat} {ms : List Nat} {M : TM} {nw p3 p5 p6 d lf : Nat} {D D' : Nat → Bool} (h : Adv A0 A W all now ms M nw p3 p5 p6 d lf D) (e : ∀ i, i < 65 → D i = D' i) (hl : ms.length = 65) : Adv A0 A W all now ms M nw p3 p5 p6 d lf D' := by
  have e1 : ∀ a, D (plc now a) = D' (plc now a) := fun a => e _ plc_lt
  refine ⟨h.row, h.allm, fun i m hm => ?_, ?_, ?_, h.h3, h.h5, h.h6, h.nodup, h.below, h.new, h.fr⟩
  · have := (List.getElem?_eq_some_iff.1 hm).1
    rw [← e i (by omega)]
    exact h.slot i m hm
  · have := h.due
    simpa only [e1] using this
  · have := h.lft
    simpa only [e1] using this
theorem Adv.congrA {A0 A A' : ASt} {W all now : Nat} {ms : List Nat} {M : TM} {nw p3 p5 p6 d lf : Nat} {D : Nat → Bool} (h : Adv A0 A W all now ms M nw p3 p5 p6 d lf D) (e : ∀ b, A'.get b = A.get b) (hn : A.next ≤ A'.next) : Adv A0 A' W all now ms M nw p3 p5 p6 d lf D :=
  ⟨(e W).trans h.row, h.allm.congr (e all), fun i m hm => (h.slot i m hm).congr (e m), h.due.congr (e d), h.lft.congr (e lf), (e p3).trans h.h3, (e p5).trans h.h5, (e p6).trans h.h6, h.nodup, fun b hb => Nat.lt_of_lt_of_le (h.below b hb) hn, h.new, ⟨Nat.le_trans h.fr.next hn, fun b hb hno => (e b).trans (h.fr.get b hb hno)⟩⟩
noncomputable def dels (M : TM) (done : List UE) : TM := fun k => if (uget done k).isSome then none else M k
theorem dels_snoc {M : TM} {done : List UE} {x : UE} : dels M (done ++ [x]) = (dels M done).del x.1 := by
  funext k
  unfold dels TM.del
  rw [uget_snoc]
  by_cases e : k = x.1
  · simp [e]
  · simp [e]
theorem Holds.delete {A : ASt} {m : Nat} {M : TM} (h : Holds A m M) (k : ByteArray) : ∃ A', aDelete E0 97 (.map (some m)) (.string k) A = .val undef A' ∧ Holds A' m (M.del k) ∧ Fr [m] A A' := by
  obtain ⟨l, ck, hl, hok, hg⟩ := h
  have := deleteT hl k
  by_cases hs : (uget l k).isSome = true
  · rw [if_pos hs] at this
    refine ⟨_, this, ⟨_, _, by rw [ASt.get_set, if_pos rfl], udel_ok hok, fun j => ?_⟩, Nat.le_refl _, fun b _ hn => by rw [ASt.get_set, if_neg (by simpa using hn)]⟩
    rw [uget_udel hok.keys, hg]; rfl
  · rw [if_neg hs] at this
    refine ⟨_, this, ⟨l, ck, hl, hok, fun j => ?_⟩, .refl _ _⟩
    have hn : M k = none := by rw [← hg]; simpa using hs
    rw [hg]
    unfold TM.del
    by_cases e : j = k <;> simp [e, hn]
theorem Holds.update {A : ASt} {m : Nat} {M : TM} (h : Holds A m M) (k : ByteArray) (a : Nat) : ∃ A', aMapUpdate E0 97 (.map (some m)) (.string k) (.int .u64 (a : Int)) A = some A' ∧ Holds A' m (M.put k a) ∧ Fr [m] A A' := by
  obtain ⟨l, ck, hl, hok, hg⟩ := h
  refine ⟨_, updateT hl k a, ⟨_, _, by rw [ASt.get_set, if_pos rfl], uput_ok hok, fun j => ?_⟩, Nat.le_refl _, fun b _ hn => by rw [ASt.get_set, if_neg (by simpa using hn)]⟩
  rw [uget_uput, hg]; rfl
theorem Holds.block {A : ASt} {m : Nat} {M : TM} (h : Holds A m M) {c : List Value} {sz : Nat} {tl : Bool} {p : Nat} (hp : A.get p = some (.row c sz tl)) : p ≠ m := by
  rintro rfl
  obtain ⟨l, ck, hl, _⟩ := h
  rw [hp] at hl
  cases hl

theorem wrap_succ {n : Nat} (h : n < 1000000) : IntKind.i64.wrap ((n : Int) + 1) = ((n + 1 : Nat) : Int) := by rw [IntKind.wrap_i64]; omega

theorem pas_int {b : Nat} (h : b ≤ 64) : IntKind.i64.wrap ((IntKind.i64.wrap (IntKind.i64.wrap ((b : Int) + 4) - 1)).tdiv 4) = (((b + 3) / 4 : Nat) : Int) := by
  have : ∀ b : Fin 65, IntKind.i64.wrap ((IntKind.i64.wrap (IntKind.i64.wrap (((b.1 : Nat) : Int) + 4) - 1)).tdiv 4) = (((b.1 + 3) / 4 : Nat) : Int) := by decide +kernel
  exact this ⟨b, by omega⟩

theorem adv_walk {A : ASt} {W all now nw : Nat} {ms : List Nat} {M : TM} (h : WheelAt A W all ms now M) (hnw : nw < 18446744073709551616)
    (hs : ∀ {A : ASt} {d : Nat} {D : TM}, Holds A d D → (∀ k a, D k = some a → M k = some a) → d < A.next → CallW Z Tryz.prog 63 [.map (some d)] A (Srt D A)) :
    CallW Z Tryz.prog 35 [.pointer (some ⟨W, 0, none⟩), .int .u64 (nw : Int)] A (fun v A' => if nw < now then v = .slice none 0 0 ∧ WheelAt A' W all ms now M ∧ Fr (W :: all :: ms) A A' else ∃ ts, Lists (fun k => (M k).filter fun a => decide (a ≤ nw)) ts ∧ SliceAt A' A.next v ts ∧ WheelAt A' W all ms nw (fun k => (M k).filter fun a => decide (nw < a)) ∧ Fr (W :: all :: ms) A A') := by
  refine CallW.of_code E0_ok E0_ro fn35 rfl (n := 95) rfl (rs := [.tmp 4]) rfl (by simp) (codeW_ok E0_ok E0_ro ?_)
  have hW := h.row
  simp only [wrow_now, wrow_all, eqnil25, z_0, flat, Option.isNone, aFieldAddr, aField, aBuiltin, cond_true, cond_false, cond_dec, if_true, if_false, List.length_cons, List.length_nil, forall_const, implies_true, List.append_nil, List.cons_append, List.nil_append, eq_self, Nat.reduceEqDiff, Nat.reduceAdd, Nat.reduceMul, Nat.reduceSub, Nat.reduceLT, Nat.reduceLeDiff, Nat.reduceBEq, reduceIte, reduceCtorEq, box22, ptrTo]
  refine CodeW.quiet E0_ok E0_ro mixed (by kernel_rfl) (by kernel_rfl) ?_
  have hWb := h.below W (by simp)
  have hne : W ≠ A.next := by omega
  have hx : nw ^^^ now < 18446744073709551616 := Nat.xor_lt_two_pow (n := 64) (by omega) (by have := h.nowlt; omega)
  simp only [wrow_now, wrow_all, eqnil25, z_0, flat, Option.isNone, aFieldAddr, aField, aBuiltin, cond_true, cond_false, cond_dec, if_true, if_false, List.length_cons, List.length_nil, forall_const, implies_true, List.append_nil, List.cons_append, List.nil_append, eq_self, Nat.reduceEqDiff, Nat.reduceAdd, Nat.reduceMul, Nat.reduceSub, Nat.reduceLT, Nat.reduceLeDiff, Nat.reduceBEq, reduceIte, reduceCtorEq, quietW_nil, quietW_arr, quietW_cons, aStill, freshOp, quietOp, E0_ron, get_empty, get_next, ofVal_none, valEq_int, valEq_str, valEq_bool, valEq_map, valEq_ptr, valEq_slice, valEq_nilSlice, valEq_mapNil, List.length_cons, List.length_nil, if_neg hne, hW]
  refine brW_dec (fun hlt => ?_) (fun hlt => ?_)
  · have hlt' : nw < now := by omega
    simp only [wrow_now, wrow_all, eqnil25, z_0, flat, Option.isNone, aFieldAddr, aField, aBuiltin, cond_true, cond_false, cond_dec, if_true, if_false, List.length_cons, List.length_nil, forall_const, implies_true, List.append_nil, List.cons_append, List.nil_append, eq_self, Nat.reduceEqDiff, Nat.reduceAdd, Nat.reduceMul, Nat.reduceSub, Nat.reduceLT, Nat.reduceLeDiff, Nat.reduceBEq, reduceIte, reduceCtorEq, hlt']
    refine ⟨h.congr ?_ fun b hb => ?_, ?_, fun b hb hn => ?_⟩
    · simp only [ASt.next_new]; omega
    · have := h.below b hb
      simp only [get_next, ASt.get_new]; rw [if_neg (by omega)]
    · simp only [ASt.next_new]; omega
    · simp only [get_next, ASt.get_new]; rw [if_neg (by omega)]
  · have hge : ¬ nw < now := by omega
    generalize hBd : ASt.mk (ASt.heap (A.new _)) _ = B
    have hBg : ∀ b, B.get b = if b = A.next then some (.row [.int .u64 (nw : Int)] 1 false) else A.get b := fun b => by rw [← hBd, get_next, ASt.get_new]
    have hBn : A.next < B.next := by rw [← hBd]; show A.next < A.next + 1 + _; omega
    clear hBd
    simp only [wrow_now, wrow_all, eqnil25, z_0, flat, Option.isNone, aFieldAddr, aField, aBuiltin, cond_true, cond_false, cond_dec, if_true, if_false, List.length_cons, List.length_nil, forall_const, implies_true, List.append_nil, List.cons_append, List.nil_append, eq_self, Nat.reduceEqDiff, Nat.reduceAdd, Nat.reduceMul, Nat.reduceSub, Nat.reduceLT, Nat.reduceLeDiff, Nat.reduceBEq, reduceIte, reduceCtorEq, alloc59, ptrTo]
    rw [store59 (x := .map none) (by rw [ASt.get_new, if_pos (by rw [ASt.next_new])])]
    simp only [wrow_now, wrow_all, eqnil25, z_0, flat, Option.isNone, aFieldAddr, aField, aBuiltin, cond_true, cond_false, cond_dec, if_true, if_false, List.length_cons, List.length_nil, forall_const, implies_true, List.append_nil, List.cons_append, List.nil_append, eq_self, Nat.reduceEqDiff, Nat.reduceAdd, Nat.reduceMul, Nat.reduceSub, Nat.reduceLT, Nat.reduceLeDiff, Nat.reduceBEq, reduceIte, reduceCtorEq, alloc59, ptrTo]
    rw [store59 (x := .map none) (by rw [ASt.get_new, if_pos (by rw [ASt.next_new, ASt.next_set, ASt.next_new, ASt.next_new])])]
    simp only [wrow_now, wrow_all, eqnil25, z_0, flat, Option.isNone, aFieldAddr, aField, aBuiltin, cond_true, cond_false, cond_dec, if_true, if_false, List.length_cons, List.length_nil, forall_const, implies_true, List.append_nil, List.cons_append, List.nil_append, eq_self, Nat.reduceEqDiff, Nat.reduceAdd, Nat.reduceMul, Nat.reduceSub, Nat.reduceLT, Nat.reduceLeDiff, Nat.reduceBEq, reduceIte, reduceCtorEq, alloc59, ptrTo]
    generalize hCd : ASt.set _ (B.next + 1 + 1 + 1) _ = C
    have hCg : ∀ b, C.get b = if b = B.next + 1 + 1 + 1 then some (.row [.map (some (B.next + 1 + 1))] 1 false) else if b = B.next + 1 + 1 then some (.map [] 0) else if b = B.next + 1 then some (.row [.map (some B.next)] 1 false) else if b = B.next then some (.map [] 0) else B.get b := fun b => by
      rw [← hCd]
      simp only [ASt.get_set, ASt.get_new, ASt.next_new, ASt.next_set]
      by_cases e1 : b = B.next + 1 + 1 + 1
      · simp [e1]
      · by_cases e2 : b = B.next + 1 + 1
        · simp [e2]
        · by_cases e3 : b = B.next + 1
          · simp [e3]
          · simp [e1, e2, e3]
    have hCn : C.next = B.next + 4 := by rw [← hCd]; simp only [ASt.next_set, ASt.next_new]
    clear hCd
    refine CodeW.seqd E0_ok E0_ro mixed R27_ok [0, 1, 2, 3, 4, 5, 6, 7, 8, 9, 10] [] (by simp only [reorder, reoGo, strip, List.map_cons, List.map_nil, opAt, remap, nth, Option.map, σ, place', nbeq, List.length_cons, List.length_nil, Nat.reduceAdd, Nat.reduceLT, Nat.reduceEqDiff, if_true, if_false, reduceIte]; rfl) (by decide +kernel) (by kernel_rfl) (by kernel_rfl) (by kernel_rfl) ?_
    have c3 : C.get A.next = some (.row [.int .u64 (nw : Int)] 1 false) := by
      rw [hCg, if_neg (by omega), if_neg (by omega), if_neg (by omega), if_neg (by omega), hBg, if_pos rfl]
    have cW : C.get W = some (.row (wrow now all ms) 67 false) := by
      rw [hCg, if_neg (by omega), if_neg (by omega), if_neg (by omega), if_neg (by omega), hBg, if_neg (by omega)]; exact hW
    simp only [wrow_now, wrow_all, eqnil25, z_0, flat, Option.isNone, aFieldAddr, aField, aBuiltin, cond_true, cond_false, cond_dec, if_true, if_false, List.length_cons, List.length_nil, forall_const, implies_true, List.append_nil, List.cons_append, List.nil_append, eq_self, Nat.reduceEqDiff, Nat.reduceAdd, Nat.reduceMul, Nat.reduceSub, Nat.reduceLT, Nat.reduceLeDiff, Nat.reduceBEq, reduceIte, reduceCtorEq, q_0, q_1, q_2, f_0, pendW, hasN, reorder, E0_ron, exists_eq', List.length_cons, List.length_nil, c3, cW, b_xor64 hnw h.nowlt]
    refine con27 hx ?_
    have hb : Lib.bitLen (nw ^^^ now) ≤ 64 := Lib.bitLen_le _ _ (by omega) hx
    simp only [wrow_now, wrow_all, eqnil25, z_0, flat, Option.isNone, aFieldAddr, aField, aBuiltin, cond_true, cond_false, cond_dec, if_true, if_false, List.length_cons, List.length_nil, forall_const, implies_true, List.append_nil, List.cons_append, List.nil_append, eq_self, Nat.reduceEqDiff, Nat.reduceAdd, Nat.reduceMul, Nat.reduceSub, Nat.reduceLT, Nat.reduceLeDiff, Nat.reduceBEq, reduceIte, reduceCtorEq, q_0, q_1, q_2, f_0, pendW, hasN, reorder, E0_ron, exists_eq', List.length_cons, List.length_nil, b_quo (show (4 : Int) ≠ 0 by decide)]
    have hpas : IntKind.i64.wrap ((IntKind.i64.wrap (IntKind.i64.wrap (((Lib.bitLen (nw ^^^ now) : Nat) : Int) + 4) - 1)).tdiv 4) = (((Lib.bitLen (nw ^^^ now) + 3) / 4 : Nat) : Int) := pas_int hb
    simp only [hpas]
    have hp : (Lib.bitLen (nw ^^^ now) + 3) / 4 ≤ 16 := by omega
    generalize hpd : (Lib.bitLen (nw ^^^ now) + 3) / 4 = ps at hp
    refine CodeW.label' ?_
    simp only [wrow_now, wrow_all, eqnil25, z_0, flat, Option.isNone, aFieldAddr, aField, aBuiltin, cond_true, cond_false, cond_dec, if_true, if_false, List.length_cons, List.length_nil, forall_const, implies_true, List.append_nil, List.cons_append, List.nil_append, eq_self, Nat.reduceEqDiff, Nat.reduceAdd, Nat.reduceMul, Nat.reduceSub, Nat.reduceLT, Nat.reduceLeDiff, Nat.reduceBEq, reduceIte, reduceCtorEq]
    have hadv0 : Adv A C W all now ms M nw A.next (B.next + 1) (B.next + 1 + 1 + 1) B.next (B.next + 1 + 1) (fun i => decide (i < 16 * 0)) := by
      have keep : ∀ b, b < A.next → C.get b = A.get b := fun b hb => by
        rw [hCg, if_neg (by omega), if_neg (by omega), if_neg (by omega), if_neg (by omega), hBg, if_neg (by omega)]
      have hbl := h.below
      refine ⟨cW, h.allm.congr (keep _ (hbl all (by simp))), fun i m hm => ?_, ?_, ?_, c3, ?_, ?_, ?_, ?_, ?_, ?_⟩
      · simp only [Nat.mul_zero, Nat.not_lt_zero, decide_false, Bool.false_eq_true, if_false]
        exact (h.slot i m hm).congr (keep _ (hbl m (by simp [List.mem_of_getElem? hm])))
      · refine ⟨[], 0, by rw [hCg, if_neg (by omega), if_neg (by omega), if_neg (by omega), if_pos rfl]; rfl, ⟨.nil, .nil, by simp⟩, fun k => ?_⟩
        cases hk : M k <;> simp [uget, Option.filter, hk]
      · refine ⟨[], 0, by rw [hCg, if_neg (by omega), if_pos rfl]; rfl, ⟨.nil, .nil, by simp⟩, fun k => ?_⟩
        cases hk : M k <;> simp [uget, Option.filter, hk]
      · rw [hCg, if_neg (by omega), if_neg (by omega), if_pos rfl]
      · rw [hCg, if_pos rfl]
      · have hn := h.nodup
        simp only [List.nodup_cons, List.mem_cons, not_or] at hn ⊢
        have b1 := hbl W (by simp)
        have b2 := hbl all (by simp)
        have b3 : ∀ m ∈ ms, m < A.next := fun m hm => hbl m (by simp [hm])
        refine ⟨⟨hn.1.1, by omega, by omega, hn.1.2⟩, ⟨by omega, by omega, hn.2.1⟩, ⟨by omega, fun hm => ?_⟩, fun hm => ?_, hn.2.2⟩
        · have := b3 _ hm; omega
        · have := b3 _ hm; omega
      · intro b hb
        simp only [List.mem_cons] at hb
        rw [hCn]
        rcases hb with rfl | rfl | rfl | rfl | rfl | rfl | rfl | hb
        · omega
        · have := hbl b (by simp); omega
        · omega
        · omega
        · omega
        · omega
        · omega
        · have := hbl b (by simp [hb]); omega
      · intro b hb
        simp only [List.mem_cons, List.not_mem_nil, or_false] at hb
        rcases hb with rfl | rfl | rfl | rfl | rfl <;> omega
      · exact ⟨by omega, fun b hb _ => keep b hb⟩
    generalize B.next + 1 + 1 + 1 = p6 at hadv0 ⊢
    generalize B.next + 1 + 1 = lf at hadv0 ⊢
    generalize B.next + 1 = p5 at hadv0 ⊢
    generalize B.next = d at hadv0 ⊢
    generalize A.next = p3 at hadv0 ⊢
    refine CodeW.mono (Q := fun o => ∃ T' A', o = .fr ⟨.exit 0, T', A'⟩ ∧ AdvT T' W p3 p5 p6 ps ∧ Adv A A' W all now ms M nw p3 p5 p6 d lf (fun i => decide (i < 16 * min 4 ps))) ?_ ?_
    · refine CodeW.loopR (k := 4) (fun k T A' => ∃ L, k = 4 - L ∧ L ≤ 4 ∧ L ≤ ps ∧ tget T 37 = .int .i64 (L : Int) ∧ AdvT T W p3 p5 p6 ps ∧ Adv A A' W all now ms M nw p3 p5 p6 d lf (fun i => decide (i < 16 * L))) ?_ ⟨0, rfl, by omega, by omega, ?_, ?_, ?_⟩
      · rintro k T1 A1 ⟨L, rfl, h4, hL, t37, ht, ha⟩
        refine codeW_ok E0_ok E0_ro ?_
        simp only [wrow_now, wrow_all, eqnil25, z_0, flat, Option.isNone, aFieldAddr, aField, aBuiltin, cond_true, cond_false, cond_dec, if_true, if_false, List.length_cons, List.length_nil, forall_const, implies_true, List.append_nil, List.cons_append, List.nil_append, eq_self, Nat.reduceEqDiff, Nat.reduceAdd, Nat.reduceMul, Nat.reduceSub, Nat.reduceLT, Nat.reduceLeDiff, Nat.reduceBEq, reduceIte, reduceCtorEq, t37]
        refine brW_dec (fun hl4 => ?_) (fun hl4 => ?_)
        · have hl4' : L < 4 := by omega
          simp only [wrow_now, wrow_all, eqnil25, z_0, flat, Option.isNone, aFieldAddr, aField, aBuiltin, cond_true, cond_false, cond_dec, if_true, if_false, List.length_cons, List.length_nil, forall_const, implies_true, List.append_nil, List.cons_append, List.nil_append, eq_self, Nat.reduceEqDiff, Nat.reduceAdd, Nat.reduceMul, Nat.reduceSub, Nat.reduceLT, Nat.reduceLeDiff, Nat.reduceBEq, reduceIte, reduceCtorEq, t37]
          refine CodeW.mono (Q := fun o => (∃ T' A', o = .fr ⟨.exit 2, T', A'⟩ ∧ L < ps ∧ tget T' 37 = .int .i64 (L : Int) ∧ AdvT T' W p3 p5 p6 ps ∧ Adv A A' W all now ms M nw p3 p5 p6 d lf (fun i => decide (i < 16 * L + 16))) ∨ (∃ T' A', o = .fr ⟨.exit 0, T', A'⟩ ∧ L = ps ∧ AdvT T' W p3 p5 p6 ps ∧ Adv A A' W all now ms M nw p3 p5 p6 d lf (fun i => decide (i < 16 * L)))) ?_ ?_
          · refine CodeW.loopR (k := 16) (fun k T A' => ∃ j, k = 16 - j ∧ j ≤ 16 ∧ (0 < j → L < ps) ∧ tget T 40 = .int .i64 (j : Int) ∧ tget T 9 = .int .i64 (L : Int) ∧ tget T 37 = .int .i64 (L : Int) ∧ AdvT T W p3 p5 p6 ps ∧ Adv A A' W all now ms M nw p3 p5 p6 d lf (fun i => decide (i < 16 * L + j))) ?_ ⟨0, rfl, by omega, by omega, ?_, ?_, ?_, ?_, ?_⟩
            · rintro k T2 A2 ⟨j, rfl, hj, hjl, u40, u9, u37, ut, ua⟩
              refine codeW_ok E0_ok E0_ro ?_
              simp only [wrow_now, wrow_all, eqnil25, z_0, flat, Option.isNone, aFieldAddr, aField, aBuiltin, cond_true, cond_false, cond_dec, if_true, if_false, List.length_cons, List.length_nil, forall_const, implies_true, List.append_nil, List.cons_append, List.nil_append, eq_self, Nat.reduceEqDiff, Nat.reduceAdd, Nat.reduceMul, Nat.reduceSub, Nat.reduceLT, Nat.reduceLeDiff, Nat.reduceBEq, reduceIte, reduceCtorEq, u40]
              refine brW_dec (fun hj6 => ?_) (fun hj6 => ?_)
              · have hj6' : j < 16 := by omega
                have t0 := ut.t0
                have t7 := ut.t7
                have t8 := ut.t8
                simp only [wrow_now, wrow_all, eqnil25, z_0, flat, Option.isNone, aFieldAddr, aField, aBuiltin, cond_true, cond_false, cond_dec, if_true, if_false, List.length_cons, List.length_nil, forall_const, implies_true, List.append_nil, List.cons_append, List.nil_append, eq_self, Nat.reduceEqDiff, Nat.reduceAdd, Nat.reduceMul, Nat.reduceSub, Nat.reduceLT, Nat.reduceLeDiff, Nat.reduceBEq, reduceIte, reduceCtorEq, u40, u9, u37, t7]
                refine brW_dec (fun hge => ?_) (fun hge => ?_)
                · have e0 : j = 0 := by omega
                  subst e0
                  simp only [wrow_now, wrow_all, eqnil25, z_0, flat, Option.isNone, aFieldAddr, aField, aBuiltin, cond_true, cond_false, cond_dec, if_true, if_false, List.length_cons, List.length_nil, forall_const, implies_true, List.append_nil, List.cons_append, List.nil_append, eq_self, Nat.reduceEqDiff, Nat.reduceAdd, Nat.reduceMul, Nat.reduceSub, Nat.reduceLT, Nat.reduceLeDiff, Nat.reduceBEq, reduceIte, reduceCtorEq]
                  exact .inr ⟨_, _, rfl, by omega, (ut.congr (by intro t ht'; simp only [List.mem_cons, List.not_mem_nil, or_false] at ht'; rcases ht' with rfl | rfl | rfl | rfl | rfl | rfl <;> simp only [tget_put, Nat.reduceEqDiff, if_false, reduceIte])), ua.congrD (fun i hi => by simp) h.len⟩
                · have hLp : L < ps := by omega
                  have uW := ua.row
                  have hix : 16 * L + j < ms.length := by rw [h.len]; omega
                  have hm : ms[16 * L + j]? = some ms[16 * L + j] := List.getElem?_eq_getElem _
                  have hsl : nth (wrow now all ms) (2 + L * 16 + j) = some (.map (some ms[16 * L + j])) := by
                    have := wrow_slot (now := now) (all := all) (ms := ms) (k := 16 * L + j) hix
                    rw [← this]; congr 1; omega
                  have ei1 : ∀ o, aIndexAddr E0 99 (.pointer (some ⟨W, o, none⟩)) (.int .i64 (L : Int)) = some (.pointer (some ⟨W, o + L * 16, none⟩)) := fun o => by
                    have := indexAddr_arr (A := A2) ti99 t99_desc ti98 (kd := .i64) (k := L) (b := W) (off := o) hl4'
                    rwa [t98_size] at this
                  have ei2 : ∀ o, aIndexAddr E0 98 (.pointer (some ⟨W, o, none⟩)) (.int .i64 (j : Int)) = some (.pointer (some ⟨W, o + j, none⟩)) := fun o => by
                    have := indexAddr_arr (A := A2) ti98 t98_desc ti97 (kd := .i64) (k := j) (b := W) (off := o) hj6'
                    rwa [t97_size, Nat.mul_one] at this
                  have t0 := ut.t0
                  have t8 := ut.t8
                  simp only [wrow_now, wrow_all, eqnil25, z_0, flat, Option.isNone, aFieldAddr, aField, aBuiltin, cond_true, cond_false, cond_dec, if_true, if_false, List.length_cons, List.length_nil, forall_const, implies_true, List.append_nil, List.cons_append, List.nil_append, eq_self, Nat.reduceEqDiff, Nat.reduceAdd, Nat.reduceMul, Nat.reduceSub, Nat.reduceLT, Nat.reduceLeDiff, Nat.reduceBEq, reduceIte, reduceCtorEq, u9, t0, t8, uW, ei1, ei2, hsl, aInvoke_func]
                  refine CallT.mono (ua.step hm (by simp)) ?_
                  rintro _ A3 ua3
                  simp only [wrow_now, wrow_all, eqnil25, z_0, flat, Option.isNone, aFieldAddr, aField, aBuiltin, cond_true, cond_false, cond_dec, if_true, if_false, List.length_cons, List.length_nil, forall_const, implies_true, List.append_nil, List.cons_append, List.nil_append, eq_self, Nat.reduceEqDiff, Nat.reduceAdd, Nat.reduceMul, Nat.reduceSub, Nat.reduceLT, Nat.reduceLeDiff, Nat.reduceBEq, reduceIte, reduceCtorEq, u40, wrap_succ (show j < 1000000 by omega)]
                  exact ⟨16 - (j + 1), by omega, j + 1, rfl, by omega, fun _ => hLp, rfl, u9, u37, (ut.congr (by intro t ht'; simp only [List.mem_cons, List.not_mem_nil, or_false] at ht'; rcases ht' with rfl | rfl | rfl | rfl | rfl | rfl <;> simp only [tget_put, Nat.reduceEqDiff, if_false, reduceIte])), ua3.congrD (fun i hi => by rw [Bool.eq_iff_iff]; simp only [Bool.or_eq_true, decide_eq_true_eq]; omega) h.len⟩
              · have e16 : j = 16 := by omega
                subst e16
                simp only [wrow_now, wrow_all, eqnil25, z_0, flat, Option.isNone, aFieldAddr, aField, aBuiltin, cond_true, cond_false, cond_dec, if_true, if_false, List.length_cons, List.length_nil, forall_const, implies_true, List.append_nil, List.cons_append, List.nil_append, eq_self, Nat.reduceEqDiff, Nat.reduceAdd, Nat.reduceMul, Nat.reduceSub, Nat.reduceLT, Nat.reduceLeDiff, Nat.reduceBEq, reduceIte, reduceCtorEq]
                exact .inl ⟨_, _, rfl, hjl (by omega), by simp only [tget_put, Nat.reduceEqDiff, if_false, if_true, reduceIte]; exact u37, (ut.congr (by intro t ht'; simp only [List.mem_cons, List.not_mem_nil, or_false] at ht'; rcases ht' with rfl | rfl | rfl | rfl | rfl | rfl <;> simp only [tget_put, Nat.reduceEqDiff, if_false, reduceIte])), ua⟩
            · simp only [tget_put, Nat.reduceEqDiff, if_false, if_true, reduceIte]; rfl
            · simp only [tget_put, Nat.reduceEqDiff, if_false, if_true, reduceIte]
            · simp only [tget_put, Nat.reduceEqDiff, if_false, if_true, reduceIte]; exact t37
            · exact (ht.congr (by intro t ht'; simp only [List.mem_cons, List.not_mem_nil, or_false] at ht'; rcases ht' with rfl | rfl | rfl | rfl | rfl | rfl <;> simp only [tget_put, Nat.reduceEqDiff, if_false, reduceIte]))
            · exact ha
          · rintro o (⟨T', A', rfl, hlt, u37, ut, ua⟩ | ⟨T', A', rfl, hlt, ut, ua⟩)
            · simp only [wrow_now, wrow_all, eqnil25, z_0, flat, Option.isNone, aFieldAddr, aField, aBuiltin, cond_true, cond_false, cond_dec, if_true, if_false, List.length_cons, List.length_nil, forall_const, implies_true, List.append_nil, List.cons_append, List.nil_append, eq_self, Nat.reduceEqDiff, Nat.reduceAdd, Nat.reduceMul, Nat.reduceSub, Nat.reduceLT, Nat.reduceLeDiff, Nat.reduceBEq, reduceIte, reduceCtorEq, u37, wrap_succ (show L < 1000000 by omega)]
              exact ⟨4 - (L + 1), by omega, L + 1, rfl, by omega, by omega, rfl, (ut.congr (by intro t ht'; simp only [List.mem_cons, List.not_mem_nil, or_false] at ht'; rcases ht' with rfl | rfl | rfl | rfl | rfl | rfl <;> simp only [tget_put, Nat.reduceEqDiff, if_false, reduceIte])), ua.congrD (fun i hi => by rw [Bool.eq_iff_iff]; simp only [decide_eq_true_eq]; omega) h.len⟩
            · simp only [wrow_now, wrow_all, eqnil25, z_0, flat, Option.isNone, aFieldAddr, aField, aBuiltin, cond_true, cond_false, cond_dec, if_true, if_false, List.length_cons, List.length_nil, forall_const, implies_true, List.append_nil, List.cons_append, List.nil_append, eq_self, Nat.reduceEqDiff, Nat.reduceAdd, Nat.reduceMul, Nat.reduceSub, Nat.reduceLT, Nat.reduceLeDiff, Nat.reduceBEq, reduceIte, reduceCtorEq]
              exact ⟨_, _, rfl, ut, ua.congrD (fun i hi => by rw [Bool.eq_iff_iff]; simp only [decide_eq_true_eq]; omega) h.len⟩
        · have e4 : L = 4 := by omega
          subst e4
          simp only [wrow_now, wrow_all, eqnil25, z_0, flat, Option.isNone, aFieldAddr, aField, aBuiltin, cond_true, cond_false, cond_dec, if_true, if_false, List.length_cons, List.length_nil, forall_const, implies_true, List.append_nil, List.cons_append, List.nil_append, eq_self, Nat.reduceEqDiff, Nat.reduceAdd, Nat.reduceMul, Nat.reduceSub, Nat.reduceLT, Nat.reduceLeDiff, Nat.reduceBEq, reduceIte, reduceCtorEq]
          exact ⟨_, _, rfl, (ht.congr (by intro t ht'; simp only [List.mem_cons, List.not_mem_nil, or_false] at ht'; rcases ht' with rfl | rfl | rfl | rfl | rfl | rfl <;> simp only [tget_put, Nat.reduceEqDiff, if_false, reduceIte])), ha.congrD (fun i hi => by rw [Bool.eq_iff_iff]; simp only [decide_eq_true_eq]; omega) h.len⟩
      · simp only [tget_put, Nat.reduceEqDiff, if_false, if_true, reduceIte]; rfl
      · constructor <;> simp only [tget_put, Nat.reduceEqDiff, if_false, if_true, reduceIte] <;> rfl
      · exact hadv0.congrA (fun b => rfl) (Nat.le_add_right _ _)
    · rintro o ⟨T', A1, rfl, ht, ha⟩
      have t0 := ht.t0
      have t7 := ht.t7
      have t8 := ht.t8
      simp only [wrow_now, wrow_all, eqnil25, z_0, flat, Option.isNone, aFieldAddr, aField, aBuiltin, cond_true, cond_false, cond_dec, if_true, if_false, List.length_cons, List.length_nil, forall_const, implies_true, List.append_nil, List.cons_append, List.nil_append, eq_self, Nat.reduceEqDiff, Nat.reduceAdd, Nat.reduceMul, Nat.reduceSub, Nat.reduceLT, Nat.reduceLeDiff, Nat.reduceBEq, reduceIte, reduceCtorEq, t7]
      refine brW_join (fun T' A' => AdvT T' W p3 p5 p6 ps ∧ Adv A A' W all now ms M nw p3 p5 p6 d lf (fun i => decide (i < 16 * ps))) (fun h5 => ?_) (fun h5 => ?_) ?_
      · have h5' : 4 < ps := by have := of_decide_eq_true h5; omega
        have e4 : min 4 ps = 4 := by omega
        rw [e4] at ha
        have aW := ha.row
        have hix : 64 < ms.length := by rw [h.len]; omega
        have hm : ms[64]? = some ms[64] := List.getElem?_eq_getElem _
        have hsl : nth (wrow now all ms) 66 = some (.map (some ms[64])) := wrow_slot hix
        simp only [wrow_now, wrow_all, eqnil25, z_0, flat, Option.isNone, aFieldAddr, aField, aBuiltin, cond_true, cond_false, cond_dec, if_true, if_false, List.length_cons, List.length_nil, forall_const, implies_true, List.append_nil, List.cons_append, List.nil_append, eq_self, Nat.reduceEqDiff, Nat.reduceAdd, Nat.reduceMul, Nat.reduceSub, Nat.reduceLT, Nat.reduceLeDiff, Nat.reduceBEq, reduceIte, reduceCtorEq, t0, t8, aW, hsl, aInvoke_func]
        refine CallT.mono (ha.step hm (by simp)) ?_
        rintro _ A3 ha3
        simp only [wrow_now, wrow_all, eqnil25, z_0, flat, Option.isNone, aFieldAddr, aField, aBuiltin, cond_true, cond_false, cond_dec, if_true, if_false, List.length_cons, List.length_nil, forall_const, implies_true, List.append_nil, List.cons_append, List.nil_append, eq_self, Nat.reduceEqDiff, Nat.reduceAdd, Nat.reduceMul, Nat.reduceSub, Nat.reduceLT, Nat.reduceLeDiff, Nat.reduceBEq, reduceIte, reduceCtorEq]
        exact ⟨_, _, rfl, (ht.congr (by intro t ht'; simp only [List.mem_cons, List.not_mem_nil, or_false] at ht'; rcases ht' with rfl | rfl | rfl | rfl | rfl | rfl <;> simp only [tget_put, Nat.reduceEqDiff, if_false, reduceIte])), ha3.congrD (fun i hi => by rw [Bool.eq_iff_iff]; simp only [Bool.or_eq_true, decide_eq_true_eq]; omega) h.len⟩
      · have h5' : ps ≤ 4 := by have := of_decide_eq_false h5; omega
        exact codeW_skip ⟨_, _, rfl, (ht.congr (by intro t ht'; simp only [List.mem_cons, List.not_mem_nil, or_false] at ht'; rcases ht' with rfl | rfl | rfl | rfl | rfl | rfl <;> simp only [tget_put, Nat.reduceEqDiff, if_false, reduceIte])), ha.congrD (fun i hi => by rw [Bool.eq_iff_iff]; simp only [decide_eq_true_eq]; omega) h.len⟩
      · clear ha ht t0 t7 t8
        rintro T2 A2 ⟨ht, ha⟩
        have t0 := ht.t0
        have t3 := ht.t3
        have t5 := ht.t5
        have t6 := ht.t6
        have aW := ha.row
        have a3 := ha.h3
        have a5 := ha.h5
        have hst := storeNow (nw := nw) aW
        have hn5 := ha.new p5 (by simp)
        have hnd := ha.new d (by simp)
        have hnl := ha.new lf (by simp)
        have hbW : W < A.next := h.below W (by simp)
        obtain ⟨ed, ckd, hed, hokd, hgd⟩ := ha.due
        have hed' : (A2.set W (.row (wrow nw all ms) 67 false)).get d = some (.map (uEnts ed) ckd) := by rw [ASt.get_set, if_neg (by omega)]; exact hed
        have a5' : (A2.set W (.row (wrow nw all ms) 67 false)).get p5 = some (.row [.map (some d)] 1 false) := by rw [ASt.get_set, if_neg (by omega)]; exact a5
        simp only [wrow_now, wrow_all, eqnil25, z_0, flat, Option.isNone, aFieldAddr, aField, aBuiltin, cond_true, cond_false, cond_dec, if_true, if_false, List.length_cons, List.length_nil, forall_const, implies_true, List.append_nil, List.cons_append, List.nil_append, eq_self, Nat.reduceEqDiff, Nat.reduceAdd, Nat.reduceMul, Nat.reduceSub, Nat.reduceLT, Nat.reduceLeDiff, Nat.reduceBEq, reduceIte, reduceCtorEq, t0, t3, t5, t6, a3, a5', hst, rangeT hed']
        have hXg : ∀ b, (A2.set W (.row (wrow nw all ms) 67 false)).get b = if b = W then some (.row (wrow nw all ms) 67 false) else A2.get b := fun b => by rw [ASt.get_set]
        have hXn : (A2.set W (.row (wrow nw all ms) 67 false)).next = A2.next := rfl
        generalize A2.set W (.row (wrow nw all ms) 67 false) = X at hXg hXn hed' a5' ⊢
        have hall := ha.allm
        have hbX : ∀ b ∈ W :: all :: d :: lf :: p3 :: p5 :: p6 :: ms, b < X.next := fun b hb => by rw [hXn]; exact ha.below b hb
        have hnod := ha.nodup
        simp only [List.nodup_cons, List.mem_cons, not_or] at hnod
        obtain ⟨⟨w1, w2, w3, w4⟩, ⟨al1, al2, al3⟩, ⟨d1, d2⟩, l1, hms⟩ := hnod
        have hXall : Holds X all M := hall.congr (by rw [hXg, if_neg (Ne.symm w1)])
        have XW : X.get W = some (.row (wrow nw all ms) 67 false) := by rw [hXg, if_pos rfl]
        have Xb : ∀ b ∈ W :: all :: d :: lf :: p3 :: p5 :: p6 :: ms, b ≠ X.next := fun b hb => by have := hbX b hb; omega
        refine CodeW.mono (Q := fun o => ∃ T' A' done, o = .fr ⟨.exit 4, T', A'⟩ ∧ InMap 71 X.next d ckd ed done T' A' ∧ (∀ x ∈ ed, x ∈ done) ∧ tget T' 0 = .pointer (some ⟨W, 0, none⟩) ∧ tget T' 5 = .pointer (some ⟨p5, 0, none⟩) ∧ tget T' 6 = .pointer (some ⟨p6, 0, none⟩) ∧ Holds A' all (dels M done) ∧ Fr [all] X A' ∧ X.next < A'.next) ?_ ?_
        · refine CodeW.mapLoop (it := 71) (r := X.next) (m := d) (ck := ckd) (l := ed) (J := fun done T A' => tget T 0 = .pointer (some ⟨W, 0, none⟩) ∧ tget T 5 = .pointer (some ⟨p5, 0, none⟩) ∧ tget T 6 = .pointer (some ⟨p6, 0, none⟩) ∧ Holds A' all (dels M done) ∧ Fr [all] X A' ∧ X.next < A'.next) ?_ ?_ ?_
          · rintro done T3 A3 hi ⟨u0, u5, u6, hd3, f3, nx3⟩
            refine codeW_ok E0_ok E0_ro ?_
            have hit := hi.it
            simp only [wrow_now, wrow_all, eqnil25, z_0, flat, Option.isNone, aFieldAddr, aField, aBuiltin, cond_true, cond_false, cond_dec, if_true, if_false, List.length_cons, List.length_nil, forall_const, implies_true, List.append_nil, List.cons_append, List.nil_append, eq_self, Nat.reduceEqDiff, Nat.reduceAdd, Nat.reduceMul, Nat.reduceSub, Nat.reduceLT, Nat.reduceLeDiff, Nat.reduceBEq, reduceIte, reduceCtorEq, hit]
            refine nextV_u hokd hi.sub hi.iter hi.map (fun x hx hn => ?_) (fun hfin => ?_)
            · have hent := entry_u (A := A3.set X.next (.miter (some d) ckd ((done ++ [x]).map (·.2.2)) ckd)) (r := X.next) (m := d) hokd hx (by rw [ASt.get_set, if_pos rfl]) (by rw [ASt.get_set, if_neg (Xb d (by simp))]; exact hi.map)
              have hB : ∀ b, (A3.set X.next (.miter (some d) ckd ((done ++ [x]).map (·.2.2)) ckd)).get b = if b = X.next then some (.miter (some d) ckd ((done ++ [x]).map (·.2.2)) ckd) else A3.get b := fun b => by rw [ASt.get_set]
              have hBn : (A3.set X.next (.miter (some d) ckd ((done ++ [x]).map (·.2.2)) ckd)).next = A3.next := rfl
              generalize A3.set X.next (.miter (some d) ckd ((done ++ [x]).map (·.2.2)) ckd) = B3 at hent hB hBn ⊢
              have BW : B3.get W = some (.row (wrow nw all ms) 67 false) := by
                rw [hB, if_neg (Xb W (by simp)), f3.get W (hbX W (by simp)) (by simpa using w1)]; exact XW
              obtain ⟨B4, hdel, h4, f4⟩ := (hd3.congr (show B3.get all = A3.get all by rw [hB, if_neg (Xb all (by simp))])).delete x.1
              have b3X : X.next < B3.next := by
                rw [hBn]; exact nx3
              simp only [wrow_now, wrow_all, eqnil25, z_0, flat, Option.isNone, aFieldAddr, aField, aBuiltin, cond_true, cond_false, cond_dec, if_true, if_false, List.length_cons, List.length_nil, forall_const, implies_true, List.append_nil, List.cons_append, List.nil_append, eq_self, Nat.reduceEqDiff, Nat.reduceAdd, Nat.reduceMul, Nat.reduceSub, Nat.reduceLT, Nat.reduceLeDiff, Nat.reduceBEq, reduceIte, reduceCtorEq, hit, hent, u0, BW, hdel]
              refine ⟨x, hx, hn, hi.step hx hn (by simp only [tget_put, Nat.reduceEqDiff, if_false, reduceIte]) ?_ ?_, u5, u6, ?_, ⟨?_, ?_⟩, ?_⟩
              · rw [f4.get _ b3X (by simpa using Ne.symm (Xb all (by simp))), hB, if_pos rfl]
              · rw [f4.get d (by have := hbX d (by simp); omega) (by simpa using Ne.symm al1), hB, if_neg (Xb d (by simp))]
              · rw [dels_snoc]; exact h4
              · have := f3.next; have := f4.next; omega
              · intro b hb hn
                rw [f4.get b (by omega) hn, hB, if_neg (by omega)]; exact f3.get b hb hn
              · have := f4.next; omega
            · simp only [wrow_now, wrow_all, eqnil25, z_0, flat, Option.isNone, aFieldAddr, aField, aBuiltin, cond_true, cond_false, cond_dec, if_true, if_false, List.length_cons, List.length_nil, forall_const, implies_true, List.append_nil, List.cons_append, List.nil_append, eq_self, Nat.reduceEqDiff, Nat.reduceAdd, Nat.reduceMul, Nat.reduceSub, Nat.reduceLT, Nat.reduceLeDiff, Nat.reduceBEq, reduceIte, reduceCtorEq]
              refine ⟨_, _, done, rfl, ⟨?_, hi.iter, hi.map, hi.sub, hi.nodup⟩, hfin, ?_, ?_, ?_, hd3, f3, nx3⟩
              · simp only [tget_put, Nat.reduceEqDiff, if_false, reduceIte]; exact hit
              · simp only [tget_put, Nat.reduceEqDiff, if_false, reduceIte]; exact u0
              · simp only [tget_put, Nat.reduceEqDiff, if_false, reduceIte]; exact u5
              · simp only [tget_put, Nat.reduceEqDiff, if_false, reduceIte]; exact u6
          · refine ⟨by simp only [tget_put, Nat.reduceEqDiff, if_false, if_true, reduceIte]; rw [hXn], by rw [ASt.get_new, if_pos rfl]; rfl, by rw [ASt.get_new, if_neg (Xb d (by simp))]; exact hed', by simp, .nil⟩
          · refine ⟨?_, ?_, ?_, hXall.congr (by rw [ASt.get_new, if_neg (Xb all (by simp))]), ⟨Nat.le_succ _, fun b hb hn => by rw [ASt.get_new, if_neg (by omega)]⟩, Nat.lt_succ_self _⟩
            · simp only [tget_put, Nat.reduceEqDiff, if_false, reduceIte]; exact t0
            · simp only [tget_put, Nat.reduceEqDiff, if_false, reduceIte]; exact t5
            · simp only [tget_put, Nat.reduceEqDiff, if_false, reduceIte]; exact t6
        · rintro o ⟨T3, Y, done, rfl, hiD, hfin, u0, u5, u6, hYall, fY, nxY⟩
          obtain ⟨_, hug⟩ := uget_all hokd hiD.sub hfin hiD.nodup
          have keepY : ∀ b ∈ W :: all :: d :: lf :: p3 :: p5 :: p6 :: ms, b ≠ W → b ≠ all → Y.get b = A2.get b := fun b hb n1 n2 => by
            rw [fY.get b (hbX b hb) (by simpa using n2), hXg, if_neg n1]
          have YW : Y.get W = some (.row (wrow nw all ms) 67 false) := by rw [fY.get W (hbX W (by simp)) (by simpa using w1)]; exact XW
          have p5W : p5 ≠ W := by omega
          have p6W : p6 ≠ W := by have := ha.new p6 (by simp); omega
          have p5a : p5 ≠ all := hall.block a5
          have p6a : p6 ≠ all := hall.block ha.h6
          have Y5 : Y.get p5 = some (.row [.map (some d)] 1 false) := (keepY p5 (by simp) p5W p5a).trans a5
          have Y6 : Y.get p6 = some (.row [.map (some lf)] 1 false) := (keepY p6 (by simp) p6W p6a).trans ha.h6
          have hbY : ∀ b ∈ W :: all :: d :: lf :: p3 :: p5 :: p6 :: ms, b < Y.next := fun b hb => by have := hbX b hb; have := fY.next; omega
          have Yb : ∀ b ∈ W :: all :: d :: lf :: p3 :: p5 :: p6 :: ms, b ≠ Y.next := fun b hb => by have := hbY b hb; omega
          have hYl : Holds Y lf (fun k => (M k).filter fun a => decide (plc now a < 16 * ps) && !decide (a ≤ nw)) := ha.lft.congr (keepY lf (by simp) (Ne.symm w3) (Ne.symm al2))
          have hYd : Holds Y d (fun k => (M k).filter fun a => decide (plc now a < 16 * ps) && decide (a ≤ nw)) := ha.due.congr (keepY d (by simp) (Ne.symm w2) (Ne.symm al1))
          have hYs : ∀ i m, ms[i]? = some m → Holds Y m (if i < 16 * ps then (fun _ => none) else M.at_ now i) := fun i m hm => by
            have hmem := List.mem_of_getElem? hm
            have := ha.slot i m hm
            simp only [decide_eq_true_eq] at this
            exact this.congr (keepY m (by simp [hmem]) (fun e => w4 (e ▸ hmem)) (fun e => al3 (e ▸ hmem)))
          obtain ⟨el, ckl, hel, hokl, hgl⟩ := hYl
          simp only [wrow_now, wrow_all, eqnil25, z_0, flat, Option.isNone, aFieldAddr, aField, aBuiltin, cond_true, cond_false, cond_dec, if_true, if_false, List.length_cons, List.length_nil, forall_const, implies_true, List.append_nil, List.cons_append, List.nil_append, eq_self, Nat.reduceEqDiff, Nat.reduceAdd, Nat.reduceMul, Nat.reduceSub, Nat.reduceLT, Nat.reduceLeDiff, Nat.reduceBEq, reduceIte, reduceCtorEq, u0, u5, u6, Y5, Y6, rangeT hel]
          have injm : ∀ {i j m : Nat}, ms[i]? = some m → ms[j]? = some m → i = j := fun {i j m} hi hj => by
            obtain ⟨x1, x2⟩ := List.getElem?_eq_some_iff.1 hi
            obtain ⟨y1, y2⟩ := List.getElem?_eq_some_iff.1 hj
            rcases Nat.lt_trichotomy i j with hlt | he | hlt
            · exact absurd (x2.trans y2.symm) (List.pairwise_iff_getElem.1 hms i j x1 y1 hlt)
            · exact he
            · exact absurd (y2.trans x2.symm) (List.pairwise_iff_getElem.1 hms j i y1 x1 hlt)
          have hlv : ∀ x ∈ el, x.2.1 < 18446744073709551616 := fun x hx => by
            have h1 := uget_mem hokl.keys hx
            rw [hgl] at h1
            obtain ⟨h2, _⟩ := Option.filter_eq_some_iff.1 h1
            exact h.lt _ _ h2
          refine CodeW.mono (Q := fun o => ∃ T' A' done, o = .fr ⟨.exit 6, T', A'⟩ ∧ (∀ x ∈ done, x ∈ el) ∧ (∀ x ∈ el, x ∈ done) ∧ done.Nodup ∧ tget T' 5 = .pointer (some ⟨p5, 0, none⟩) ∧ (∀ i m, ms[i]? = some m → Holds A' m (puts (if i < 16 * ps then (fun _ => none) else M.at_ now i) done fun a => decide (plc nw a = i))) ∧ Fr ms Y A') ?_ ?_
          · refine CodeW.mapLoop (it := 82) (r := Y.next) (m := lf) (ck := ckl) (l := el) (J := fun done T A' => tget T 0 = .pointer (some ⟨W, 0, none⟩) ∧ tget T 5 = .pointer (some ⟨p5, 0, none⟩) ∧ (∀ i m, ms[i]? = some m → Holds A' m (puts (if i < 16 * ps then (fun _ => none) else M.at_ now i) done fun a => decide (plc nw a = i))) ∧ Fr ms Y A' ∧ Y.next < A'.next) ?_ ?_ ?_
            · rintro done T4 A4 hi ⟨v0, v5, hs4, f4, nx4⟩
              refine codeW_ok E0_ok E0_ro ?_
              have hit := hi.it
              simp only [wrow_now, wrow_all, eqnil25, z_0, flat, Option.isNone, aFieldAddr, aField, aBuiltin, cond_true, cond_false, cond_dec, if_true, if_false, List.length_cons, List.length_nil, forall_const, implies_true, List.append_nil, List.cons_append, List.nil_append, eq_self, Nat.reduceEqDiff, Nat.reduceAdd, Nat.reduceMul, Nat.reduceSub, Nat.reduceLT, Nat.reduceLeDiff, Nat.reduceBEq, reduceIte, reduceCtorEq, hit]
              refine nextV_u hokl hi.sub hi.iter hi.map (fun x hx hn => ?_) (fun hfin => ?_)
              · have hkey := fresh_key hokl hi.sub hx hn
                have hent := entry_u (A := A4.set Y.next (.miter (some lf) ckl ((done ++ [x]).map (·.2.2)) ckl)) (r := Y.next) (m := lf) hokl hx (by rw [ASt.get_set, if_pos rfl]) (by rw [ASt.get_set, if_neg (Yb lf (by simp))]; exact hi.map)
                have hB : ∀ b, (A4.set Y.next (.miter (some lf) ckl ((done ++ [x]).map (·.2.2)) ckl)).get b = if b = Y.next then some (.miter (some lf) ckl ((done ++ [x]).map (·.2.2)) ckl) else A4.get b := fun b => by rw [ASt.get_set]
                have hBn : (A4.set Y.next (.miter (some lf) ckl ((done ++ [x]).map (·.2.2)) ckl)).next = A4.next := rfl
                generalize A4.set Y.next (.miter (some lf) ckl ((done ++ [x]).map (·.2.2)) ckl) = B3 at hent hB hBn ⊢
                have BW : B3.get W = some (.row (wrow nw all ms) 67 false) := by
                  rw [hB, if_neg (Yb W (by simp)), f4.get W (hbY W (by simp)) w4]; exact YW
                simp only [wrow_now, wrow_all, eqnil25, z_0, flat, Option.isNone, aFieldAddr, aField, aBuiltin, cond_true, cond_false, cond_dec, if_true, if_false, List.length_cons, List.length_nil, forall_const, implies_true, List.append_nil, List.cons_append, List.nil_append, eq_self, Nat.reduceEqDiff, Nat.reduceAdd, Nat.reduceMul, Nat.reduceSub, Nat.reduceLT, Nat.reduceLeDiff, Nat.reduceBEq, reduceIte, reduceCtorEq, hit, hent, v0]
                refine CallT.mono (place_walk BW h.len hnw (hlv x hx)) ?_
                rintro _ _ ⟨rfl, kx, rfl⟩
                have hpl : plc nw x.2.1 < ms.length := by rw [h.len]; exact plc_lt
                have hm : ms[plc nw x.2.1]? = some (ms[plc nw x.2.1]'hpl) := List.getElem?_eq_getElem _
                generalize ms[plc nw x.2.1]'hpl = m at hm
                have hmem := List.mem_of_getElem? hm
                have hmY : m ≠ Y.next := Yb m (by simp [hmem])
                obtain ⟨B4, hup, h4, g4⟩ := ((hs4 _ m hm).congr (show ASt.get { heap := B3.heap, next := B3.next + kx } m = A4.get m by rw [get_next, hB, if_neg hmY])).update x.1 x.2.1
                simp only [wrow_now, wrow_all, eqnil25, z_0, flat, Option.isNone, aFieldAddr, aField, aBuiltin, cond_true, cond_false, cond_dec, if_true, if_false, List.length_cons, List.length_nil, forall_const, implies_true, List.append_nil, List.cons_append, List.nil_append, eq_self, Nat.reduceEqDiff, Nat.reduceAdd, Nat.reduceMul, Nat.reduceSub, Nat.reduceLT, Nat.reduceLeDiff, Nat.reduceBEq, reduceIte, reduceCtorEq, hup]
                have gB : ∀ b, b < B3.next → b ≠ m → B4.get b = B3.get b := fun b hb hn => by
                  rw [g4.get b (by show b < B3.next + kx; omega) (by simpa using hn), get_next]
                have n4 : A4.next ≤ B4.next := by have := g4.next; have : B3.next + kx ≤ B4.next := this; omega
                refine ⟨x, hx, hn, hi.step hx hn (by simp only [tget_put, Nat.reduceEqDiff, if_false, reduceIte]) ?_ ?_, ?_, ?_, ?_, ⟨?_, ?_⟩, ?_⟩
                · rw [gB _ (by omega) (Ne.symm hmY), hB, if_pos rfl]
                · rw [gB lf (by have := hbY lf (by simp); omega) (fun e => l1 (e ▸ hmem)), hB, if_neg (Yb lf (by simp))]
                · exact v0
                · exact v5
                · intro i m' hm'
                  have hmem' := List.mem_of_getElem? hm'
                  rw [puts_snoc hkey]
                  by_cases e : plc nw x.2.1 = i
                  · subst e
                    rw [hm] at hm'; cases hm'
                    simp only [decide_true, if_true]
                    exact h4
                  · have em : m' ≠ m := fun em => e (injm hm (em ▸ hm'))
                    simp only [e, decide_false, Bool.false_eq_true, if_false]
                    refine (hs4 i m' hm').congr ?_
                    rw [gB m' (by have := hbY m' (by simp [hmem']); omega) em, hB, if_neg (Yb m' (by simp [hmem']))]
                · have := f4.next; omega
                · intro b hb hn
                  rw [gB b (by omega) (fun e => hn (e ▸ hmem)), hB, if_neg (by omega)]; exact f4.get b hb hn
                · omega
              · simp only [wrow_now, wrow_all, eqnil25, z_0, flat, Option.isNone, aFieldAddr, aField, aBuiltin, cond_true, cond_false, cond_dec, if_true, if_false, List.length_cons, List.length_nil, forall_const, implies_true, List.append_nil, List.cons_append, List.nil_append, eq_self, Nat.reduceEqDiff, Nat.reduceAdd, Nat.reduceMul, Nat.reduceSub, Nat.reduceLT, Nat.reduceLeDiff, Nat.reduceBEq, reduceIte, reduceCtorEq]
                refine ⟨_, _, done, rfl, hi.sub, hfin, hi.nodup, ?_, hs4, f4⟩
                simp only [tget_put, Nat.reduceEqDiff, if_false, reduceIte]; exact v5
            · refine ⟨by simp only [tget_put, Nat.reduceEqDiff, if_false, if_true, reduceIte], by rw [ASt.get_new, if_pos rfl]; rfl, by rw [ASt.get_new, if_neg (Yb lf (by simp))]; exact hel, by simp, .nil⟩
            · refine ⟨?_, ?_, fun i m hm => ?_, ⟨Nat.le_succ _, fun b hb hn => by rw [ASt.get_new, if_neg (by omega)]⟩, Nat.lt_succ_self _⟩
              · simp only [tget_put, Nat.reduceEqDiff, if_false, reduceIte]; exact u0
              · simp only [tget_put, Nat.reduceEqDiff, if_false, reduceIte]; exact u5
              · rw [puts_nil]
                exact (hYs i m hm).congr (by rw [ASt.get_new, if_neg (Yb m (by simp [List.mem_of_getElem? hm]))])
          · rintro o ⟨T4, V, dl, rfl, hsub, hfin, hnodl, v5, hV, fV⟩
            obtain ⟨_, hugl⟩ := uget_all hokl hsub hfin hnodl
            have V5 : V.get p5 = some (.row [.map (some d)] 1 false) := by
              rw [fV.get p5 (hbY p5 (by simp)) (fun hm => ?_)]
              · exact Y5
              · obtain ⟨i, hi⟩ := List.getElem?_of_mem hm
                exact (hYs i _ hi).block Y5 rfl
            have hVd : Holds V d (fun k => (M k).filter fun a => decide (plc now a < 16 * ps) && decide (a ≤ nw)) := hYd.congr (fV.get d (hbY d (by simp)) d2)
            have hdV : d < V.next := by have := fV.next; have := hbY d (by simp); omega
            simp only [wrow_now, wrow_all, eqnil25, z_0, flat, Option.isNone, aFieldAddr, aField, aBuiltin, cond_true, cond_false, cond_dec, if_true, if_false, List.length_cons, List.length_nil, forall_const, implies_true, List.append_nil, List.cons_append, List.nil_append, eq_self, Nat.reduceEqDiff, Nat.reduceAdd, Nat.reduceMul, Nat.reduceSub, Nat.reduceLT, Nat.reduceLeDiff, Nat.reduceBEq, reduceIte, reduceCtorEq, v5, V5]
            refine CallT.mono (hs hVd (fun k a hk => (Option.filter_eq_some_iff.1 hk).1) hdV) ?_
            rintro v U ⟨ts, hts, hsl, fU⟩
            simp only [wrow_now, wrow_all, eqnil25, z_0, flat, Option.isNone, aFieldAddr, aField, aBuiltin, cond_true, cond_false, cond_dec, if_true, if_false, List.length_cons, List.length_nil, forall_const, implies_true, List.append_nil, List.cons_append, List.nil_append, eq_self, Nat.reduceEqDiff, Nat.reduceAdd, Nat.reduceMul, Nat.reduceSub, Nat.reduceLT, Nat.reduceLeDiff, Nat.reduceBEq, reduceIte, reduceCtorEq]
            rw [if_neg hge]
            have far : ∀ {k a}, M k = some a → ¬ plc now a < 16 * ps → nw < a ∧ plc nw a = plc now a := fun {k a} hk hD => by
              rw [← hpd] at hD
              exact plc_far h.nowlt hnw (h.lt k a hk) (h.gt k a hk) hD
            have hp3 : p3 ≤ V.next := by
              have := ha.below p3 (by simp); have := fY.next; have := fV.next; omega
            have fAX : Fr [W] A2 X := ⟨by omega, fun b _ hn => by rw [hXg, if_neg (by simpa using hn)]⟩
            have fAll : Fr (W :: all :: ms) A U := ha.fr.trans ((fAX.sub (by simp)).trans ((fY.sub (by simp)).trans ((fV.sub (fun b hb => by simp [hb])).trans (fU.sub (by simp)))))
            have keepU : ∀ b, b < V.next → U.get b = V.get b := fun b hb => fU.get b hb (by simp)
            have hbV : ∀ b ∈ W :: all :: d :: lf :: p3 :: p5 :: p6 :: ms, b < V.next := fun b hb => by have := hbY b hb; have := fV.next; omega
            refine ⟨ts, ⟨fun k a => (hts.mem k a).trans ?_, hts.ord⟩, ?_, ⟨?_, h.len, hnw, h.nodup, fun b hb => Nat.lt_of_lt_of_le (hbV b (by simp only [List.mem_cons] at hb ⊢; rcases hb with h | h | h <;> simp [h])) fU.next, ?_, ?_, ?_, ?_⟩, fAll⟩
            · cases hk : M k with
              | none => simp [hk]
              | some b =>
                by_cases hD : plc now b < 16 * ps
                · simp [Option.filter, hk, hD]
                · have := (far hk hD).1
                  have e1 : ¬ b ≤ nw := by omega
                  simp [Option.filter, hk, e1]
            · rcases hsl with ⟨e1, e2⟩ | ⟨b, cap, rest, tl, e1, e2, e3, e4⟩
              · exact .inl ⟨e1, e2⟩
              · exact .inr ⟨b, cap, rest, tl, e1, e2, by omega, e4⟩
            · rw [keepU W (hbV W (by simp)), fV.get W (hbY W (by simp)) w4]; exact YW
            · refine (hYall.congr ((keepU all (hbV all (by simp))).trans (fV.get all (hbY all (by simp)) al3))).ext fun k => ?_
              unfold dels
              rw [hug, hgd]
              cases hk : M k with
              | none => simp [hk]
              | some b =>
                by_cases hD : plc now b < 16 * ps
                · by_cases hle : b ≤ nw
                  · have e1 : ¬ nw < b := by omega
                    simp [Option.filter, hk, hD, hle, e1]
                  · have e1 : nw < b := by omega
                    simp [Option.filter, hk, hD, hle, e1]
                · have := (far hk hD).1
                  simp [Option.filter, hk, hD, this]
            · intro i m hm
              have hmem := List.mem_of_getElem? hm
              refine ((hV i m hm).congr (keepU m (hbV m (by simp [hmem])))).ext fun k => ?_
              unfold puts TM.at_
              rw [hugl, hgl]
              cases hk : M k with
              | none => by_cases hi : i < 16 * ps <;> simp [hi, hk]
              | some b =>
                by_cases hD : plc now b < 16 * ps
                · by_cases hle : b ≤ nw
                  · have e1 : ¬ nw < b := by omega
                    by_cases hi : i < 16 * ps
                    · simp [Option.filter, hk, hD, hle, e1, hi]
                    · have e2 : plc now b ≠ i := by omega
                      simp [Option.filter, hk, hD, hle, e1, hi, e2]
                  · have e1 : nw < b := by omega
                    by_cases hpi : plc nw b = i
                    · simp [Option.filter, hk, hD, hle, e1, hpi]
                    · by_cases hi : i < 16 * ps
                      · simp [Option.filter, hk, hD, hle, e1, hi, hpi]
                      · have e2 : plc now b ≠ i := by omega
                        simp [Option.filter, hk, hD, hle, e1, hi, e2, hpi]
                · obtain ⟨e1, e2⟩ := far hk hD
                  by_cases hi : i < 16 * ps
                  · have e3 : plc now b ≠ i := by omega
                    simp [Option.filter, hk, hD, e1, hi, e2, e3]
                  · simp [Option.filter, hk, hD, e1, hi, e2]
            · intro k a hk
              obtain ⟨h2, _⟩ := Option.filter_eq_some_iff.1 hk
              exact h.lt k a h2
            · intro k a hk
              obtain ⟨_, h2⟩ := Option.filter_eq_some_iff.1 hk
              exact of_decide_eq_true h2
end Go.Proofs.YtgcffmhpjphefaaGreatDoor

/- The wheel's New, and later. -/
namespace Go.Proofs.YtgcffmhpjphefaaGreatDoor
open Go Go.AE

variable {Z : Go.AE.Road}
set_option maxRecDepth 10000

def nrow (now all far : Nat) (l : List Nat) : List Value := .int .u64 (now : Int) :: .map (some all) :: (l.map (fun i => Value.map (some i)) ++ (List.replicate (64 - l.length) (.map none) ++ [.map (some far)]))

theorem build63 {n : Int} {a f : Nat} : aBuild E0 101 [(0, .int .u64 n), (1, .map (some a)), (3, .map (some f))] = some (.agg (.int .u64 n :: .map (some a) :: (List.replicate 64 (.map none) ++ [.map (some f)])).toArray) := by kernel_rfl
theorem box63 {cs : Array Value} : aBox E0 101 (.agg cs) = some (.row cs.toList 67 false, ptrTo) := by
  simp only [aBox, ti101, t101_size]; rfl
theorem over_set {l : List Value} {i : Nat} {v : Value} (h : i < l.length) : over l i [v] = some (l.set i v) := by
  unfold over
  rw [show Nat.ble (i + [v].length) l.length = true from Nat.ble_eq_true_of_le (by simp; omega), cond_true]
  rw [List.set_eq_take_append_cons_drop, if_pos h]
  rfl
theorem nrow_set {now all far : Nat} {l : List Nat} {m : Nat} (h : l.length < 64) : (nrow now all far l).set (2 + l.length) (.map (some m)) = nrow now all far (l ++ [m]) := by
  unfold nrow
  rw [show 2 + l.length = (l.length + 1) + 1 by omega, List.set_cons_succ, List.set_cons_succ, List.set_append_right _ _ (by simp)]
  have e : 64 - l.length = (63 - l.length) + 1 := by omega
  have e2 : 64 - (l ++ [m]).length = 63 - l.length := by simp only [List.length_append, List.length_cons, List.length_nil]; omega
  rw [e2, e, List.replicate_succ]
  simp
theorem storeSlot {A : ASt} {W now all far m off : Nat} {l : List Nat} (h : A.get W = some (.row (nrow now all far l) 67 false)) (hl : l.length < 64) (ho : off = 2 + l.length) : aStore E0 97 (.pointer (some ⟨W, off, none⟩)) (.map (some m)) A = some (A.set W (.row (nrow now all far (l ++ [m])) 67 false)) := by
  subst ho
  rw [← nrow_set hl]
  exact aStore_row h ti97 (by rw [t97_size]; rfl) rfl (over_set (by simp [nrow]; omega))

structure Mk (A0 A : ASt) (W all far now : Nat) (l : List Nat) : Prop where
  row : A.get W = some (.row (nrow now all far l) 67 false)
  maps : ∀ m ∈ all :: far :: l, A.get m = some (.map [] 0)
  nodup : (W :: all :: far :: l).Nodup
  below : ∀ b ∈ W :: all :: far :: l, b < A.next
  new : ∀ b ∈ W :: all :: far :: l, A0.next ≤ b
  fr : Fr [] A0 A

theorem new_walk2 {A : ASt} {now : Nat} (hnow : now < 18446744073709551616) : CallW Z Tryz.prog 30 [.int .u64 (now : Int)] A (fun v A' => ∃ W all ms, v = .pointer (some ⟨W, 0, none⟩) ∧ WheelAt A' W all ms now (fun _ => none) ∧ Fr [] A A' ∧ ∀ b ∈ W :: all :: ms, A.next ≤ b) := by
  refine CallW.of_code E0_ok E0_ro fn30 rfl (n := 28) rfl (rs := [.tmp 2]) rfl (by simp) (codeW_ok E0_ok E0_ro ?_)
  simp only [wrow_now, wrow_all, eqnil25, z_0, flat, Option.isNone, aFieldAddr, aField, aBuiltin, cond_true, cond_false, cond_dec, if_true, if_false, List.length_cons, List.length_nil, forall_const, implies_true, List.append_nil, List.cons_append, List.nil_append, eq_self, Nat.reduceEqDiff, Nat.reduceAdd, Nat.reduceMul, Nat.reduceSub, Nat.reduceLT, Nat.reduceLeDiff, Nat.reduceBEq, reduceIte, reduceCtorEq, build63, box63, ptrTo]
  generalize hCd : ASt.new (ASt.new (ASt.new A _) _) _ = C
  have hCg : ∀ b, C.get b = if b = A.next + 1 + 1 then some (.row (nrow now A.next (A.next + 1) []) 67 false) else if b = A.next + 1 then some (.map [] 0) else if b = A.next then some (.map [] 0) else A.get b := fun b => by
    rw [← hCd]
    simp only [ASt.get_new, ASt.next_new]
    rfl
  have hCn : C.next = A.next + 3 := by rw [← hCd]; simp only [ASt.next_new]
  clear hCd
  have hmk : Mk A C (A.next + 1 + 1) A.next (A.next + 1) now [] := by
    refine ⟨by rw [hCg, if_pos rfl], fun m hm => ?_, by simp; omega, fun b hb => ?_, fun b hb => ?_, by omega, fun b hb _ => ?_⟩
    · simp only [List.mem_cons, List.not_mem_nil, or_false] at hm
      rcases hm with rfl | rfl
      · rw [hCg, if_neg (by omega), if_neg (by omega), if_pos rfl]
      · rw [hCg, if_neg (by omega), if_pos rfl]
    · simp only [List.mem_cons, List.not_mem_nil, or_false] at hb
      omega
    · simp only [List.mem_cons, List.not_mem_nil, or_false] at hb
      omega
    · rw [hCg, if_neg (by omega), if_neg (by omega), if_neg (by omega)]
  generalize A.next + 1 + 1 = W at hmk ⊢
  generalize A.next + 1 = far at hmk ⊢
  generalize hall : A.next = all at hmk ⊢
  refine CodeW.mono (Q := fun o => ∃ T' A' l, o = .fr ⟨.exit 0, T', A'⟩ ∧ tget T' 3 = .pointer (some ⟨W, 0, none⟩) ∧ Mk A A' W all far now l ∧ l.length = 64) ?_ ?_
  · refine CodeW.loopR (k := 4) (fun k T A' => ∃ L l, k = 4 - L ∧ L ≤ 4 ∧ tget T 11 = .int .i64 (L : Int) ∧ tget T 3 = .pointer (some ⟨W, 0, none⟩) ∧ Mk A A' W all far now l ∧ l.length = 16 * L) ?_ ⟨0, [], rfl, by omega, ?_, ?_, hmk, rfl⟩
    · rintro k T1 A1 ⟨L, l, rfl, h4, t11, t3, hm, hl⟩
      refine codeW_ok E0_ok E0_ro ?_
      simp only [wrow_now, wrow_all, eqnil25, z_0, flat, Option.isNone, aFieldAddr, aField, aBuiltin, cond_true, cond_false, cond_dec, if_true, if_false, List.length_cons, List.length_nil, forall_const, implies_true, List.append_nil, List.cons_append, List.nil_append, eq_self, Nat.reduceEqDiff, Nat.reduceAdd, Nat.reduceMul, Nat.reduceSub, Nat.reduceLT, Nat.reduceLeDiff, Nat.reduceBEq, reduceIte, reduceCtorEq, t11]
      refine brW_dec (fun hl4 => ?_) (fun hl4 => ?_)
      · have hl4' : L < 4 := by omega
        simp only [wrow_now, wrow_all, eqnil25, z_0, flat, Option.isNone, aFieldAddr, aField, aBuiltin, cond_true, cond_false, cond_dec, if_true, if_false, List.length_cons, List.length_nil, forall_const, implies_true, List.append_nil, List.cons_append, List.nil_append, eq_self, Nat.reduceEqDiff, Nat.reduceAdd, Nat.reduceMul, Nat.reduceSub, Nat.reduceLT, Nat.reduceLeDiff, Nat.reduceBEq, reduceIte, reduceCtorEq, t11]
        refine CodeW.mono (Q := fun o => ∃ T' A' l, o = .fr ⟨.exit 2, T', A'⟩ ∧ tget T' 11 = .int .i64 (L : Int) ∧ tget T' 3 = .pointer (some ⟨W, 0, none⟩) ∧ Mk A A' W all far now l ∧ l.length = 16 * L + 16) ?_ ?_
        · refine CodeW.loopR (k := 16) (fun k T A' => ∃ j l, k = 16 - j ∧ j ≤ 16 ∧ tget T 14 = .int .i64 (j : Int) ∧ tget T 4 = .int .i64 (L : Int) ∧ tget T 11 = .int .i64 (L : Int) ∧ tget T 3 = .pointer (some ⟨W, 0, none⟩) ∧ Mk A A' W all far now l ∧ l.length = 16 * L + j) ?_ ⟨0, l, rfl, by omega, ?_, ?_, ?_, ?_, hm, hl⟩
          · rintro k T2 A2 ⟨j, l2, rfl, hj, u14, u4, u11, u3, hm2, hl2⟩
            refine codeW_ok E0_ok E0_ro ?_
            simp only [wrow_now, wrow_all, eqnil25, z_0, flat, Option.isNone, aFieldAddr, aField, aBuiltin, cond_true, cond_false, cond_dec, if_true, if_false, List.length_cons, List.length_nil, forall_const, implies_true, List.append_nil, List.cons_append, List.nil_append, eq_self, Nat.reduceEqDiff, Nat.reduceAdd, Nat.reduceMul, Nat.reduceSub, Nat.reduceLT, Nat.reduceLeDiff, Nat.reduceBEq, reduceIte, reduceCtorEq, u14]
            refine brW_dec (fun hj6 => ?_) (fun hj6 => ?_)
            · have hj6' : j < 16 := by omega
              have ei1 : ∀ o, aIndexAddr E0 99 (.pointer (some ⟨W, o, none⟩)) (.int .i64 (L : Int)) = some (.pointer (some ⟨W, o + L * 16, none⟩)) := fun o => by
                have := indexAddr_arr (A := A2) ti99 t99_desc ti98 (kd := .i64) (k := L) (b := W) (off := o) hl4'
                rwa [t98_size] at this
              have ei2 : ∀ o, aIndexAddr E0 98 (.pointer (some ⟨W, o, none⟩)) (.int .i64 (j : Int)) = some (.pointer (some ⟨W, o + j, none⟩)) := fun o => by
                have := indexAddr_arr (A := A2) ti98 t98_desc ti97 (kd := .i64) (k := j) (b := W) (off := o) hj6'
                rwa [t97_size, Nat.mul_one] at this
              have hWb : W < A2.next := hm2.below W (by simp)
              have hrow : (A2.new (.map [] 0)).get W = some (.row (nrow now all far l2) 67 false) := by rw [ASt.get_new, if_neg (by omega)]; exact hm2.row
              have hst := storeSlot (m := A2.next) (off := 2 + L * 16 + j) hrow (by omega) (by omega)
              simp only [wrow_now, wrow_all, eqnil25, z_0, flat, Option.isNone, aFieldAddr, aField, aBuiltin, cond_true, cond_false, cond_dec, if_true, if_false, List.length_cons, List.length_nil, forall_const, implies_true, List.append_nil, List.cons_append, List.nil_append, eq_self, Nat.reduceEqDiff, Nat.reduceAdd, Nat.reduceMul, Nat.reduceSub, Nat.reduceLT, Nat.reduceLeDiff, Nat.reduceBEq, reduceIte, reduceCtorEq, u14, u4, u3, ei1, ei2, hst, wrap_succ (show j < 1000000 by omega)]
              have hne : ∀ b ∈ W :: all :: far :: l2, b ≠ A2.next := fun b hb => by have := hm2.below b hb; omega
              have hnd := hm2.nodup
              refine ⟨16 - (j + 1), by omega, j + 1, l2 ++ [A2.next], rfl, by omega, rfl, u11, ⟨by rw [ASt.get_set, if_pos rfl], fun m hmm => ?_, ?_, fun b hb => ?_, fun b hb => ?_, ?_, fun b hb hn => ?_⟩, by simp; omega⟩
              · simp only [List.nodup_cons, List.mem_cons, not_or] at hnd
                simp only [List.mem_cons, List.mem_append, List.not_mem_nil, or_false] at hmm
                have hmW : m ≠ W := by
                  rcases hmm with rfl | rfl | hmm | rfl
                  · exact Ne.symm hnd.1.1
                  · exact Ne.symm hnd.1.2.1
                  · exact fun e => hnd.1.2.2 (e ▸ hmm)
                  · omega
                rw [ASt.get_set, if_neg hmW, ASt.get_new]
                by_cases e : m = A2.next
                · rw [if_pos e]
                · rw [if_neg e]
                  exact hm2.maps m (by simp; rcases hmm with h | h | h | h <;> simp_all)
              · rw [show W :: all :: far :: (l2 ++ [A2.next]) = (W :: all :: far :: l2) ++ [A2.next] by simp, List.nodup_append]
                refine ⟨hnd, by simp, fun a ha b hb e => ?_⟩
                rw [List.mem_singleton.1 hb] at e
                exact hne a ha e
              · show b < A2.next + 1
                rw [show W :: all :: far :: (l2 ++ [A2.next]) = (W :: all :: far :: l2) ++ [A2.next] by simp, List.mem_append] at hb
                rcases hb with hb | hb
                · have := hm2.below b hb; omega
                · rw [List.mem_singleton.1 hb]; omega
              · rw [show W :: all :: far :: (l2 ++ [A2.next]) = (W :: all :: far :: l2) ++ [A2.next] by simp, List.mem_append] at hb
                rcases hb with hb | hb
                · exact hm2.new b hb
                · rw [List.mem_singleton.1 hb]; exact hm2.fr.next
              · show A.next ≤ A2.next + 1
                have := hm2.fr.next; omega
              · have h1 := hm2.new W (by simp)
                have h2 := hm2.fr.next
                rw [ASt.get_set, if_neg (by omega), ASt.get_new, if_neg (by omega)]
                exact hm2.fr.get b hb hn
            · have e16 : j = 16 := by omega
              subst e16
              simp only [wrow_now, wrow_all, eqnil25, z_0, flat, Option.isNone, aFieldAddr, aField, aBuiltin, cond_true, cond_false, cond_dec, if_true, if_false, List.length_cons, List.length_nil, forall_const, implies_true, List.append_nil, List.cons_append, List.nil_append, eq_self, Nat.reduceEqDiff, Nat.reduceAdd, Nat.reduceMul, Nat.reduceSub, Nat.reduceLT, Nat.reduceLeDiff, Nat.reduceBEq, reduceIte, reduceCtorEq]
              refine ⟨_, _, l2, rfl, ?_, ?_, hm2, hl2⟩
              · simp only [tget_put, Nat.reduceEqDiff, if_false, reduceIte]; exact u11
              · simp only [tget_put, Nat.reduceEqDiff, if_false, reduceIte]; exact u3
          · simp only [tget_put, Nat.reduceEqDiff, if_false, if_true, reduceIte]; rfl
          · simp only [tget_put, Nat.reduceEqDiff, if_false, if_true, reduceIte]
          · simp only [tget_put, Nat.reduceEqDiff, if_false, if_true, reduceIte]; exact t11
          · simp only [tget_put, Nat.reduceEqDiff, if_false, if_true, reduceIte]; exact t3
        · rintro o ⟨T', A', l', rfl, u11, u3, hm', hl'⟩
          simp only [wrow_now, wrow_all, eqnil25, z_0, flat, Option.isNone, aFieldAddr, aField, aBuiltin, cond_true, cond_false, cond_dec, if_true, if_false, List.length_cons, List.length_nil, forall_const, implies_true, List.append_nil, List.cons_append, List.nil_append, eq_self, Nat.reduceEqDiff, Nat.reduceAdd, Nat.reduceMul, Nat.reduceSub, Nat.reduceLT, Nat.reduceLeDiff, Nat.reduceBEq, reduceIte, reduceCtorEq, u11, wrap_succ (show L < 1000000 by omega)]
          exact ⟨4 - (L + 1), by omega, L + 1, l', rfl, by omega, rfl, u3, hm', by omega⟩
      · have e4 : L = 4 := by omega
        subst e4
        simp only [wrow_now, wrow_all, eqnil25, z_0, flat, Option.isNone, aFieldAddr, aField, aBuiltin, cond_true, cond_false, cond_dec, if_true, if_false, List.length_cons, List.length_nil, forall_const, implies_true, List.append_nil, List.cons_append, List.nil_append, eq_self, Nat.reduceEqDiff, Nat.reduceAdd, Nat.reduceMul, Nat.reduceSub, Nat.reduceLT, Nat.reduceLeDiff, Nat.reduceBEq, reduceIte, reduceCtorEq]
        refine ⟨_, _, l, rfl, ?_, hm, hl⟩
        simp only [tget_put, Nat.reduceEqDiff, if_false, if_true, reduceIte]; exact t3
    · simp only [tget_put, Nat.reduceEqDiff, if_false, if_true, reduceIte]; rfl
    · simp only [tget_put, Nat.reduceEqDiff, if_false, if_true, reduceIte]
  · rintro o ⟨T', A', l, rfl, u3, hm, hl⟩
    simp only [wrow_now, wrow_all, eqnil25, z_0, flat, Option.isNone, aFieldAddr, aField, aBuiltin, cond_true, cond_false, cond_dec, if_true, if_false, List.length_cons, List.length_nil, forall_const, implies_true, List.append_nil, List.cons_append, List.nil_append, eq_self, Nat.reduceEqDiff, Nat.reduceAdd, Nat.reduceMul, Nat.reduceSub, Nat.reduceLT, Nat.reduceLeDiff, Nat.reduceBEq, reduceIte, reduceCtorEq, u3]
    have hnr : nrow now all far l = wrow now all (l ++ [far]) := by
      unfold nrow wrow
      rw [hl]
      simp
    have hnd := hm.nodup
    refine ⟨W, all, l ++ [far], rfl, ⟨by rw [← hnr]; exact hm.row, by simp [hl], hnow, ?_, fun b hb => hm.below b ?_, ⟨[], 0, hm.maps all (by simp), ⟨.nil, .nil, by simp⟩, fun _ => rfl⟩, fun i m hi => ⟨[], 0, hm.maps m ?_, ⟨.nil, .nil, by simp⟩, fun _ => rfl⟩, by simp, by simp⟩, hm.fr, ?_⟩
    · have hp : (W :: all :: (l ++ [far])).Perm (W :: all :: far :: l) := ((List.perm_append_comm (l₁ := l) (l₂ := [far])).cons all).cons W
      exact hp.nodup_iff.2 hnd
    · simp only [List.mem_cons, List.mem_append, List.not_mem_nil, or_false] at hb ⊢
      rcases hb with h | h | h | h <;> simp [h]
    · have hmem := List.mem_of_getElem? hi
      simp only [List.mem_cons, List.mem_append, List.not_mem_nil, or_false] at hmem ⊢
      rcases hmem with h | h <;> simp [h]
    · intro b hb
      rw [← hall]
      refine hm.new b ?_
      simp only [List.mem_cons, List.mem_append, List.not_mem_nil, or_false] at hb ⊢
      rcases hb with h | h | h | h <;> simp [h]
end Go.Proofs.YtgcffmhpjphefaaGreatDoor

/- The order of timers. -/
namespace Go.Proofs.YtgcffmhpjphefaaGreatDoor
open Go Go.AE

variable {Z : Go.AE.Road}
set_option maxRecDepth 10000

theorem s_lss {t : TypeId} {xo yo : Operand} {a b : ByteArray} : aBin2 E0 .lss t xo yo (.string a) (.string b) = some (.bool (blt a b)) := rfl
theorem s_gtr {t : TypeId} {xo yo : Operand} {a b : ByteArray} : aBin2 E0 .gtr t xo yo (.string a) (.string b) = some (.bool (blt b a)) := rfl
theorem s_neq {t : TypeId} {xo yo : Operand} {a b : ByteArray} : aBin2 E0 .neq t xo yo (.string a) (.string b) = some (.bool (!decide (a = b))) := by
  show some (Value.bool (!bytesEq a.data.toList b.data.toList)) = _
  rw [bytesEq_iff]
def cmpU (x y : Nat) : Int := if x < y then -1 else if y < x then 1 else 0
noncomputable def cmpS (a b : ByteArray) : Int := if blt a b = true then -1 else if blt b a = true then 1 else 0
noncomputable def cmpT (x y : ByteArray × Nat) : Int := if cmpU x.2 y.2 ≠ 0 then cmpU x.2 y.2 else cmpS x.1 y.1

theorem nan_u {A : ASt} {x : Int} : CallW Z Tryz.prog 125 [.int .u64 x] A (fun v A' => v = .bool false ∧ A' = A) := by
  refine CallW.of_code E0_ok E0_ro fn125 rfl (n := 6) rfl (rs := [.tmp 2]) rfl (by simp) (codeW_ok E0_ok E0_ro ?_)
  simp only [wrow_now, wrow_all, eqnil25, z_0, flat, Option.isNone, aFieldAddr, aField, aBuiltin, cond_true, cond_false, cond_dec, if_true, if_false, List.length_cons, List.length_nil, forall_const, implies_true, List.append_nil, List.cons_append, List.nil_append, eq_self, Nat.reduceEqDiff, Nat.reduceAdd, Nat.reduceMul, Nat.reduceSub, Nat.reduceLT, Nat.reduceLeDiff, Nat.reduceBEq, reduceIte, reduceCtorEq, fn125, ne_eq, not_true_eq_false]
theorem nan_s {A : ASt} {x : ByteArray} : CallW Z Tryz.prog 126 [.string x] A (fun v A' => v = .bool false ∧ A' = A) := by
  refine CallW.of_code E0_ok E0_ro fn126 rfl (n := 6) rfl (rs := [.tmp 2]) rfl (by simp) (codeW_ok E0_ok E0_ro ?_)
  simp only [wrow_now, wrow_all, eqnil25, z_0, flat, Option.isNone, aFieldAddr, aField, aBuiltin, cond_true, cond_false, cond_dec, if_true, if_false, List.length_cons, List.length_nil, forall_const, implies_true, List.append_nil, List.cons_append, List.nil_append, eq_self, Nat.reduceEqDiff, Nat.reduceAdd, Nat.reduceMul, Nat.reduceSub, Nat.reduceLT, Nat.reduceLeDiff, Nat.reduceBEq, reduceIte, reduceCtorEq, fn126, s_neq]

theorem cmp_u {A : ASt} {x y : Nat} : CallW Z Tryz.prog 100 [.int .u64 (x : Int), .int .u64 (y : Int)] A (fun v A' => v = .int .i64 (cmpU x y) ∧ A' = A) := by
  refine CallW.of_code E0_ok E0_ro fn100 rfl (n := 20) rfl (rs := [.tmp 4]) rfl (by simp) (codeW_ok E0_ok E0_ro ?_)
  simp only [wrow_now, wrow_all, eqnil25, z_0, flat, Option.isNone, aFieldAddr, aField, aBuiltin, cond_true, cond_false, cond_dec, if_true, if_false, List.length_cons, List.length_nil, forall_const, implies_true, List.append_nil, List.cons_append, List.nil_append, eq_self, Nat.reduceEqDiff, Nat.reduceAdd, Nat.reduceMul, Nat.reduceSub, Nat.reduceLT, Nat.reduceLeDiff, Nat.reduceBEq, reduceIte, reduceCtorEq, fn125]
  refine CallT.mono nan_u ?_
  rintro _ _ ⟨rfl, rfl⟩
  simp only [wrow_now, wrow_all, eqnil25, z_0, flat, Option.isNone, aFieldAddr, aField, aBuiltin, cond_true, cond_false, cond_dec, if_true, if_false, List.length_cons, List.length_nil, forall_const, implies_true, List.append_nil, List.cons_append, List.nil_append, eq_self, Nat.reduceEqDiff, Nat.reduceAdd, Nat.reduceMul, Nat.reduceSub, Nat.reduceLT, Nat.reduceLeDiff, Nat.reduceBEq, reduceIte, reduceCtorEq, fn125]
  refine CallT.mono nan_u ?_
  rintro _ _ ⟨rfl, rfl⟩
  simp only [wrow_now, wrow_all, eqnil25, z_0, flat, Option.isNone, aFieldAddr, aField, aBuiltin, cond_true, cond_false, cond_dec, if_true, if_false, List.length_cons, List.length_nil, forall_const, implies_true, List.append_nil, List.cons_append, List.nil_append, eq_self, Nat.reduceEqDiff, Nat.reduceAdd, Nat.reduceMul, Nat.reduceSub, Nat.reduceLT, Nat.reduceLeDiff, Nat.reduceBEq, reduceIte, reduceCtorEq]
  unfold cmpU
  refine brW_dec (fun h => ?_) (fun h => ?_)
  · have h' : x < y := by omega
    simp only [wrow_now, wrow_all, eqnil25, z_0, flat, Option.isNone, aFieldAddr, aField, aBuiltin, cond_true, cond_false, cond_dec, if_true, if_false, List.length_cons, List.length_nil, forall_const, implies_true, List.append_nil, List.cons_append, List.nil_append, eq_self, Nat.reduceEqDiff, Nat.reduceAdd, Nat.reduceMul, Nat.reduceSub, Nat.reduceLT, Nat.reduceLeDiff, Nat.reduceBEq, reduceIte, reduceCtorEq, h']
  · have h' : ¬ x < y := by omega
    rw [if_neg h']
    simp only [wrow_now, wrow_all, eqnil25, z_0, flat, Option.isNone, aFieldAddr, aField, aBuiltin, cond_true, cond_false, cond_dec, if_true, if_false, List.length_cons, List.length_nil, forall_const, implies_true, List.append_nil, List.cons_append, List.nil_append, eq_self, Nat.reduceEqDiff, Nat.reduceAdd, Nat.reduceMul, Nat.reduceSub, Nat.reduceLT, Nat.reduceLeDiff, Nat.reduceBEq, reduceIte, reduceCtorEq]
    refine brW_dec (fun h2 => ?_) (fun h2 => ?_)
    · have h2' : y < x := by omega
      simp only [wrow_now, wrow_all, eqnil25, z_0, flat, Option.isNone, aFieldAddr, aField, aBuiltin, cond_true, cond_false, cond_dec, if_true, if_false, List.length_cons, List.length_nil, forall_const, implies_true, List.append_nil, List.cons_append, List.nil_append, eq_self, Nat.reduceEqDiff, Nat.reduceAdd, Nat.reduceMul, Nat.reduceSub, Nat.reduceLT, Nat.reduceLeDiff, Nat.reduceBEq, reduceIte, reduceCtorEq, h2']
    · have h2' : ¬ y < x := by omega
      simp only [wrow_now, wrow_all, eqnil25, z_0, flat, Option.isNone, aFieldAddr, aField, aBuiltin, cond_true, cond_false, cond_dec, if_true, if_false, List.length_cons, List.length_nil, forall_const, implies_true, List.append_nil, List.cons_append, List.nil_append, eq_self, Nat.reduceEqDiff, Nat.reduceAdd, Nat.reduceMul, Nat.reduceSub, Nat.reduceLT, Nat.reduceLeDiff, Nat.reduceBEq, reduceIte, reduceCtorEq, h2']

theorem cmp_s {A : ASt} {x y : ByteArray} : CallW Z Tryz.prog 101 [.string x, .string y] A (fun v A' => v = .int .i64 (cmpS x y) ∧ A' = A) := by
  refine CallW.of_code E0_ok E0_ro fn101 rfl (n := 20) rfl (rs := [.tmp 4]) rfl (by simp) (codeW_ok E0_ok E0_ro ?_)
  simp only [wrow_now, wrow_all, eqnil25, z_0, flat, Option.isNone, aFieldAddr, aField, aBuiltin, cond_true, cond_false, cond_dec, if_true, if_false, List.length_cons, List.length_nil, forall_const, implies_true, List.append_nil, List.cons_append, List.nil_append, eq_self, Nat.reduceEqDiff, Nat.reduceAdd, Nat.reduceMul, Nat.reduceSub, Nat.reduceLT, Nat.reduceLeDiff, Nat.reduceBEq, reduceIte, reduceCtorEq, fn126]
  refine CallT.mono nan_s ?_
  rintro _ _ ⟨rfl, rfl⟩
  simp only [wrow_now, wrow_all, eqnil25, z_0, flat, Option.isNone, aFieldAddr, aField, aBuiltin, cond_true, cond_false, cond_dec, if_true, if_false, List.length_cons, List.length_nil, forall_const, implies_true, List.append_nil, List.cons_append, List.nil_append, eq_self, Nat.reduceEqDiff, Nat.reduceAdd, Nat.reduceMul, Nat.reduceSub, Nat.reduceLT, Nat.reduceLeDiff, Nat.reduceBEq, reduceIte, reduceCtorEq, fn126]
  refine CallT.mono nan_s ?_
  rintro _ _ ⟨rfl, rfl⟩
  simp only [wrow_now, wrow_all, eqnil25, z_0, flat, Option.isNone, aFieldAddr, aField, aBuiltin, cond_true, cond_false, cond_dec, if_true, if_false, List.length_cons, List.length_nil, forall_const, implies_true, List.append_nil, List.cons_append, List.nil_append, eq_self, Nat.reduceEqDiff, Nat.reduceAdd, Nat.reduceMul, Nat.reduceSub, Nat.reduceLT, Nat.reduceLeDiff, Nat.reduceBEq, reduceIte, reduceCtorEq, s_lss]
  unfold cmpS
  cases h : blt x y with
  | true => simp only [wrow_now, wrow_all, eqnil25, z_0, flat, Option.isNone, aFieldAddr, aField, aBuiltin, cond_true, cond_false, cond_dec, if_true, if_false, List.length_cons, List.length_nil, forall_const, implies_true, List.append_nil, List.cons_append, List.nil_append, eq_self, Nat.reduceEqDiff, Nat.reduceAdd, Nat.reduceMul, Nat.reduceSub, Nat.reduceLT, Nat.reduceLeDiff, Nat.reduceBEq, reduceIte, reduceCtorEq, h]
  | false =>
    simp only [wrow_now, wrow_all, eqnil25, z_0, flat, Option.isNone, aFieldAddr, aField, aBuiltin, cond_true, cond_false, cond_dec, if_true, if_false, List.length_cons, List.length_nil, forall_const, implies_true, List.append_nil, List.cons_append, List.nil_append, eq_self, Nat.reduceEqDiff, Nat.reduceAdd, Nat.reduceMul, Nat.reduceSub, Nat.reduceLT, Nat.reduceLeDiff, Nat.reduceBEq, reduceIte, reduceCtorEq, h, s_gtr]
    cases h2 : blt y x with
    | true => simp only [wrow_now, wrow_all, eqnil25, z_0, flat, Option.isNone, aFieldAddr, aField, aBuiltin, cond_true, cond_false, cond_dec, if_true, if_false, List.length_cons, List.length_nil, forall_const, implies_true, List.append_nil, List.cons_append, List.nil_append, eq_self, Nat.reduceEqDiff, Nat.reduceAdd, Nat.reduceMul, Nat.reduceSub, Nat.reduceLT, Nat.reduceLeDiff, Nat.reduceBEq, reduceIte, reduceCtorEq, h2]
    | false => simp only [wrow_now, wrow_all, eqnil25, z_0, flat, Option.isNone, aFieldAddr, aField, aBuiltin, cond_true, cond_false, cond_dec, if_true, if_false, List.length_cons, List.length_nil, forall_const, implies_true, List.append_nil, List.cons_append, List.nil_append, eq_self, Nat.reduceEqDiff, Nat.reduceAdd, Nat.reduceMul, Nat.reduceSub, Nat.reduceLT, Nat.reduceLeDiff, Nat.reduceBEq, reduceIte, reduceCtorEq, h2]

theorem len_sl {A : ASt} {t e : TypeId} {i : TIn} (h : E0.ti t = some i) (hd : i.desc = .slice e) {b : Option Addr} {n c : Nat} : aLen E0 t (.slice b n c) A = some (.int .i64 (n : Int)) := by
  simp only [aLen, h, hd]; rfl
theorem len100 {A : ASt} {b : Option Addr} {n c : Nat} : aLen E0 178 (.slice b n c) A = some (.int .i64 (n : Int)) := len_sl ti178 t178_desc
theorem ix100 {b len cap k off : Nat} (hk : k < len) : aIndexAddr E0 178 (.slice (some ⟨b, off, none⟩) len cap) (.int .i64 (k : Int)) = some (.pointer (some ⟨b, off + k, none⟩)) := by
  have := indexAddr_sl (A := { heap := .e, next := 0 }) ti178 t178_desc ti3 (kd := .i64) (k := k) (b := b) (off := off) (len := len) (cap := cap) hk
  rwa [t3_size, Nat.mul_one] at this

theorem or_spec {A : ASt} {B : Nat} {x y : Int} {sz : Nat} {tl : Bool} (hB : A.get B = some (.row [.int .i64 x, .int .i64 y] sz tl)) : CallW Z Tryz.prog 99 [.slice (some ⟨B, 0, none⟩) 2 2] A (fun v A' => v = .int .i64 (if x ≠ 0 then x else y) ∧ A' = A) := by
  refine CallW.of_code E0_ok E0_ro fn99 rfl (n := 18) rfl (rs := [.tmp 2]) rfl (by simp) (codeW_ok E0_ok E0_ro ?_)
  simp only [wrow_now, wrow_all, eqnil25, z_0, flat, Option.isNone, aFieldAddr, aField, aBuiltin, cond_true, cond_false, cond_dec, if_true, if_false, List.length_cons, List.length_nil, forall_const, implies_true, List.append_nil, List.cons_append, List.nil_append, eq_self, Nat.reduceEqDiff, Nat.reduceAdd, Nat.reduceMul, Nat.reduceSub, Nat.reduceLT, Nat.reduceLeDiff, Nat.reduceBEq, reduceIte, reduceCtorEq, len100]
  refine CodeW.mono (Q := fun o => (∃ T' A', o = .fr ⟨.exit 0, T', A'⟩ ∧ tget T' 3 = .int .i64 0 ∧ x = 0 ∧ y = 0 ∧ A' = A) ∨ (∃ T' A', o = .fr ⟨.ret, T', A'⟩ ∧ tget T' 2 = .int .i64 (if x ≠ 0 then x else y) ∧ A' = A)) ?_ ?_
  · refine CodeW.loopR (k := 2) (fun k T A' => ∃ j, k = 2 - j ∧ j ≤ 2 ∧ tget T 8 = .int .i64 (j : Int) ∧ tget T 7 = .int .i64 (2 : Nat) ∧ tget T 6 = .slice (some ⟨B, 0, none⟩) 2 2 ∧ tget T 3 = .int .i64 0 ∧ (0 < j → x = 0) ∧ (1 < j → y = 0) ∧ A' = A) ?_ ⟨0, rfl, by omega, ?_, ?_, ?_, ?_, by omega, by omega, rfl⟩
    · rintro k T A' ⟨j, rfl, hj, u8, u7, u6, u3, hx, hy, rfl⟩
      refine codeW_ok E0_ok E0_ro ?_
      simp only [wrow_now, wrow_all, eqnil25, z_0, flat, Option.isNone, aFieldAddr, aField, aBuiltin, cond_true, cond_false, cond_dec, if_true, if_false, List.length_cons, List.length_nil, forall_const, implies_true, List.append_nil, List.cons_append, List.nil_append, eq_self, Nat.reduceEqDiff, Nat.reduceAdd, Nat.reduceMul, Nat.reduceSub, Nat.reduceLT, Nat.reduceLeDiff, Nat.reduceBEq, reduceIte, reduceCtorEq, u8, u7]
      refine brW_dec (fun hlt => ?_) (fun hlt => ?_)
      · have hj2 : j < 2 := by omega
        have hn : ∃ z, nth [Value.int .i64 x, Value.int .i64 y] (0 + j) = some (.int .i64 z) ∧ z = if j = 0 then x else y := by
          rcases Nat.lt_or_ge j 1 with h | h
          · have : j = 0 := by omega
            subst this; exact ⟨x, rfl, rfl⟩
          · have : j = 1 := by omega
            subst this; exact ⟨y, rfl, rfl⟩
        obtain ⟨z, hz, hze⟩ := hn
        rw [Nat.zero_add] at hz
        simp only [wrow_now, wrow_all, eqnil25, z_0, flat, Option.isNone, aFieldAddr, aField, aBuiltin, cond_true, cond_false, cond_dec, if_true, if_false, List.length_cons, List.length_nil, forall_const, implies_true, List.append_nil, List.cons_append, List.nil_append, eq_self, Nat.reduceEqDiff, Nat.reduceAdd, Nat.reduceMul, Nat.reduceSub, Nat.reduceLT, Nat.reduceLeDiff, Nat.reduceBEq, reduceIte, reduceCtorEq, u8, u6, u3, ix100 hj2, hB, hz]
        refine brW_b (fun hne => ?_) (fun hne => ?_)
        · have hne : z ≠ 0 := by simpa using hne
          simp only [wrow_now, wrow_all, eqnil25, z_0, flat, Option.isNone, aFieldAddr, aField, aBuiltin, cond_true, cond_false, cond_dec, if_true, if_false, List.length_cons, List.length_nil, forall_const, implies_true, List.append_nil, List.cons_append, List.nil_append, eq_self, Nat.reduceEqDiff, Nat.reduceAdd, Nat.reduceMul, Nat.reduceSub, Nat.reduceLT, Nat.reduceLeDiff, Nat.reduceBEq, reduceIte, reduceCtorEq]
          refine .inr ⟨_, _, rfl, ?_, rfl⟩
          simp only [tget_put, Nat.reduceEqDiff, if_false, if_true, reduceIte]
          have key : z = if x ≠ 0 then x else y := by
            rcases Nat.lt_or_ge j 1 with h | h
            · have : j = 0 := by omega
              subst this
              simp only [if_true] at hze
              subst hze
              rw [if_pos hne]
            · have hx0 : x = 0 := hx (by omega)
              have hj0 : ¬ j = 0 := by omega
              rw [hze, if_neg hj0, hx0]
              rfl
          rw [key]
        · simp only [wrow_now, wrow_all, eqnil25, z_0, flat, Option.isNone, aFieldAddr, aField, aBuiltin, cond_true, cond_false, cond_dec, if_true, if_false, List.length_cons, List.length_nil, forall_const, implies_true, List.append_nil, List.cons_append, List.nil_append, eq_self, Nat.reduceEqDiff, Nat.reduceAdd, Nat.reduceMul, Nat.reduceSub, Nat.reduceLT, Nat.reduceLeDiff, Nat.reduceBEq, reduceIte, reduceCtorEq, u8, wrap_succ (show j < 1000000 by omega)]
          have hz0 : z = 0 := by simpa using hne
          refine ⟨2 - (j + 1), by omega, j + 1, rfl, by omega, rfl, u7, u6, u3, fun _ => ?_, fun h => ?_⟩
          · rcases Nat.lt_or_ge j 1 with h | h
            · have : j = 0 := by omega
              subst this
              simp only [if_true] at hze
              rw [← hze]; exact hz0
            · exact hx (by omega)
          · have : j = 1 := by omega
            subst this
            have hj : ¬ (1 : Nat) = 0 := by omega
            rw [if_neg hj] at hze
            rw [← hze, hz0]
      · have e2 : j = 2 := by omega
        subst e2
        simp only [wrow_now, wrow_all, eqnil25, z_0, flat, Option.isNone, aFieldAddr, aField, aBuiltin, cond_true, cond_false, cond_dec, if_true, if_false, List.length_cons, List.length_nil, forall_const, implies_true, List.append_nil, List.cons_append, List.nil_append, eq_self, Nat.reduceEqDiff, Nat.reduceAdd, Nat.reduceMul, Nat.reduceSub, Nat.reduceLT, Nat.reduceLeDiff, Nat.reduceBEq, reduceIte, reduceCtorEq]
        refine .inl ⟨_, _, rfl, ?_, hx (by omega), hy (by omega), rfl⟩
        simp only [tget_put, Nat.reduceEqDiff, if_false, if_true, reduceIte]; exact u3
    · simp only [tget_put, Nat.reduceEqDiff, if_false, if_true, reduceIte]; rfl
    · simp only [tget_put, Nat.reduceEqDiff, if_false, if_true, reduceIte]
    · simp only [tget_put, Nat.reduceEqDiff, if_false, if_true, reduceIte]
    · simp only [tget_put, Nat.reduceEqDiff, if_false, if_true, reduceIte]
  · rintro o (⟨T', A', rfl, u3, hx, hy, rfl⟩ | ⟨T', A', rfl, u2, rfl⟩)
    · simp only [wrow_now, wrow_all, eqnil25, z_0, flat, Option.isNone, aFieldAddr, aField, aBuiltin, cond_true, cond_false, cond_dec, if_true, if_false, List.length_cons, List.length_nil, forall_const, implies_true, List.append_nil, List.cons_append, List.nil_append, eq_self, Nat.reduceEqDiff, Nat.reduceAdd, Nat.reduceMul, Nat.reduceSub, Nat.reduceLT, Nat.reduceLeDiff, Nat.reduceBEq, reduceIte, reduceCtorEq, u3]
      rw [hx, hy]; rfl
    · simp only [wrow_now, wrow_all, eqnil25, z_0, flat, Option.isNone, aFieldAddr, aField, aBuiltin, cond_true, cond_false, cond_dec, if_true, if_false, List.length_cons, List.length_nil, forall_const, implies_true, List.append_nil, List.cons_append, List.nil_append, eq_self, Nat.reduceEqDiff, Nat.reduceAdd, Nat.reduceMul, Nat.reduceSub, Nat.reduceLT, Nat.reduceLeDiff, Nat.reduceBEq, reduceIte, reduceCtorEq, u2]

def R39 : Tgt → List Value → ASt → (Value → ASt → Prop) → Prop := fun t args A S =>
  (∃ x y : Nat, t = .fn 100 ∧ args = [.int .u64 (x : Int), .int .u64 (y : Int)] ∧ S = fun v A' => v = .int .i64 (cmpU x y) ∧ A' = A) ∨
  (∃ x y : ByteArray, t = .fn 101 ∧ args = [.string x, .string y] ∧ S = fun v A' => v = .int .i64 (cmpS x y) ∧ A' = A) ∨
  (∃ (B : Nat) (x y : Int) (sz : Nat) (tl : Bool), A.get B = some (.row [.int .i64 x, .int .i64 y] sz tl) ∧ t = .fn 99 ∧ args = [.slice (some ⟨B, 0, none⟩) 2 2] ∧ S = fun v A' => v = .int .i64 (if x ≠ 0 then x else y) ∧ A' = A)
theorem R39_ok (t args A S) (h : R39 t args A S) : CallT Z Tryz.prog t args A S := by
  rcases h with ⟨x, y, rfl, rfl, rfl⟩ | ⟨x, y, rfl, rfl, rfl⟩ | ⟨B, x, y, sz, tl, hB, rfl, rfl, rfl⟩
  · exact cmp_u
  · exact cmp_s
  · exact or_spec hB
theorem con48 {x y : Nat} {A : ASt} {K : Value → ASt → Prop} (h : K (.int .i64 (cmpU x y)) A) : conC R39 (.fn 100) [.int .u64 (x : Int), .int .u64 (y : Int)] A K := by
  refine ⟨⟨_, .inl ⟨x, y, rfl, rfl, rfl⟩⟩, ?_⟩
  rintro S (⟨x', y', _, ha, rfl⟩ | ⟨_, _, ht, _⟩ | ⟨_, _, _, _, _, _, ht, _⟩) v A' hv
  · obtain ⟨rfl, rfl⟩ := hv
    simp only [List.cons.injEq, Value.int.injEq, Int.natCast_inj, and_true, true_and] at ha
    obtain ⟨rfl, rfl⟩ := ha
    exact h
  · cases ht
  · cases ht
theorem con49 {x y : ByteArray} {A : ASt} {K : Value → ASt → Prop} (h : K (.int .i64 (cmpS x y)) A) : conC R39 (.fn 101) [.string x, .string y] A K := by
  refine ⟨⟨_, .inr (.inl ⟨x, y, rfl, rfl, rfl⟩)⟩, ?_⟩
  rintro S (⟨_, _, ht, _⟩ | ⟨x', y', _, ha, rfl⟩ | ⟨_, _, _, _, _, _, ht, _⟩) v A' hv
  · cases ht
  · obtain ⟨rfl, rfl⟩ := hv
    cases ha
    exact h
  · cases ht
theorem con47 {B : Nat} {x y : Int} {sz : Nat} {tl : Bool} {A : ASt} {K : Value → ASt → Prop} (hB : A.get B = some (.row [.int .i64 x, .int .i64 y] sz tl)) (h : K (.int .i64 (if x ≠ 0 then x else y)) A) : conC R39 (.fn 99) [.slice (some ⟨B, 0, none⟩) 2 2] A K := by
  refine ⟨⟨_, .inr (.inr ⟨B, x, y, sz, tl, hB, rfl, rfl, rfl⟩)⟩, ?_⟩
  rintro S (⟨_, _, ht, _⟩ | ⟨_, _, ht, _⟩ | ⟨B', x', y', sz', tl', hB', _, ha, rfl⟩) v A' hv
  · cases ht
  · cases ht
  · obtain ⟨rfl, rfl⟩ := hv
    simp only [List.cons.injEq, Value.slice.injEq, Option.some.injEq, Addr.mk.injEq, and_true] at ha
    subst ha
    rw [hB] at hB'
    cases hB'
    exact h

theorem box33 {x y : Value} : aBox E0 77 (.agg #[x, y]) = some (.row [x, y] 2 false, ptrTo) := by
  simp only [aBox, ti77, t77_size]; rfl

theorem bs100 {x y : Int} : aBuildSlice E0 178 2 [(0, .int .i64 x), (1, .int .i64 y)] = some (.row [.int .i64 x, .int .i64 y] 1 false, fun id => .slice (some ⟨id, 0, none⟩) 2 2) := by
  simp only [aBuildSlice, ti178, t178_desc, ti3, t3_zero, t3_size]; rfl
theorem compare_spec {A : ASt} {x y : ByteArray × Nat} : CallW Z Tryz.prog 86 [.agg #[.string x.1, .int .u64 (x.2 : Nat)], .agg #[.string y.1, .int .u64 (y.2 : Nat)]] A (fun v A' => v = .int .i64 (cmpT x y)) := by
  refine CallW.of_code E0_ok E0_ro fn86 rfl (n := 17) rfl (rs := [.tmp 4]) rfl (by simp) (codeW_ok E0_ok E0_ro ?_)
  simp only [wrow_now, wrow_all, eqnil25, z_0, flat, Option.isNone, aFieldAddr, aField, aBuiltin, cond_true, cond_false, cond_dec, if_true, if_false, List.length_cons, List.length_nil, forall_const, implies_true, List.append_nil, List.cons_append, List.nil_append, eq_self, Nat.reduceEqDiff, Nat.reduceAdd, Nat.reduceMul, Nat.reduceSub, Nat.reduceLT, Nat.reduceLeDiff, Nat.reduceBEq, reduceIte, reduceCtorEq, box33, ptrTo]
  refine CodeW.seqd E0_ok E0_ro mixed R39_ok [0, 1, 2, 3, 5, 6, 7, 8, 4, 9, 10, 11, 12] [4, 5, 6, 7] (by simp only [reorder, reoGo, strip, List.map_cons, List.map_nil, opAt, remap, nth, Option.map, σ, place', nbeq, List.length_cons, List.length_nil, Nat.reduceAdd, Nat.reduceLT, Nat.reduceEqDiff, if_true, if_false, reduceIte]; rfl) (by decide +kernel) (by kernel_rfl) (by kernel_rfl) (by kernel_rfl) ?_
  generalize hCd : ASt.new (ASt.new A _) _ = C
  have c1 : C.get A.next = some (.row [.string x.1, .int .u64 (x.2 : Nat)] 2 false) := by
    rw [← hCd, ASt.get_new, if_neg (by rw [ASt.next_new]; omega), ASt.get_new, if_pos rfl]
  have c2 : C.get (A.next + 1) = some (.row [.string y.1, .int .u64 (y.2 : Nat)] 2 false) := by
    rw [← hCd, ASt.get_new, if_pos (by rw [ASt.next_new])]
  have hCn : A.next + 2 = C.next := by rw [← hCd]; simp only [ASt.next_new]
  clear hCd
  simp only [wrow_now, wrow_all, eqnil25, z_0, flat, Option.isNone, aFieldAddr, aField, aBuiltin, cond_true, cond_false, cond_dec, if_true, if_false, List.length_cons, List.length_nil, forall_const, implies_true, List.append_nil, List.cons_append, List.nil_append, eq_self, Nat.reduceEqDiff, Nat.reduceAdd, Nat.reduceMul, Nat.reduceSub, Nat.reduceLT, Nat.reduceLeDiff, Nat.reduceBEq, reduceIte, reduceCtorEq, q_0, q_1, q_2, f_0, pendW, hasN, reorder, E0_ron, exists_eq', List.length_cons, List.length_nil, c1, c2, fn99, fn100, fn101]
  refine con48 ?_
  simp only [wrow_now, wrow_all, eqnil25, z_0, flat, Option.isNone, aFieldAddr, aField, aBuiltin, cond_true, cond_false, cond_dec, if_true, if_false, List.length_cons, List.length_nil, forall_const, implies_true, List.append_nil, List.cons_append, List.nil_append, eq_self, Nat.reduceEqDiff, Nat.reduceAdd, Nat.reduceMul, Nat.reduceSub, Nat.reduceLT, Nat.reduceLeDiff, Nat.reduceBEq, reduceIte, reduceCtorEq, q_0, q_1, q_2, f_0, pendW, hasN, reorder, E0_ron, exists_eq', List.length_cons, List.length_nil, c1, c2, fn99, fn100, fn101]
  refine con49 ?_
  simp only [wrow_now, wrow_all, eqnil25, z_0, flat, Option.isNone, aFieldAddr, aField, aBuiltin, cond_true, cond_false, cond_dec, if_true, if_false, List.length_cons, List.length_nil, forall_const, implies_true, List.append_nil, List.cons_append, List.nil_append, eq_self, Nat.reduceEqDiff, Nat.reduceAdd, Nat.reduceMul, Nat.reduceSub, Nat.reduceLT, Nat.reduceLeDiff, Nat.reduceBEq, reduceIte, reduceCtorEq, q_0, q_1, q_2, f_0, pendW, hasN, reorder, E0_ron, exists_eq', List.length_cons, List.length_nil, c1, c2, fn99, fn100, fn101, bs100]
  have n1 : A.next + 2 = C.next := hCn
  generalize hDd : ASt.set _ _ (.row [.int .i64 (cmpU x.2 y.2), .int .i64 (cmpS x.1 y.1)] 1 false) = D
  have d0 : ∀ b, b ≠ C.next + 10 → D.get b = C.get b := fun b hb => by rw [← hDd, ASt.get_set, if_neg hb]; rfl
  have d1 := (d0 A.next (by omega)).trans c1
  have d2 := (d0 (A.next + 1) (by omega)).trans c2
  have d3 : D.get (C.next + 10) = some (.row [.int .i64 (cmpU x.2 y.2), .int .i64 (cmpS x.1 y.1)] 1 false) := by rw [← hDd, ASt.get_set, if_pos rfl]
  clear hDd
  refine con47 d3 ?_
  simp only [wrow_now, wrow_all, eqnil25, z_0, flat, Option.isNone, aFieldAddr, aField, aBuiltin, cond_true, cond_false, cond_dec, if_true, if_false, List.length_cons, List.length_nil, forall_const, implies_true, List.append_nil, List.cons_append, List.nil_append, eq_self, Nat.reduceEqDiff, Nat.reduceAdd, Nat.reduceMul, Nat.reduceSub, Nat.reduceLT, Nat.reduceLeDiff, Nat.reduceBEq, reduceIte, reduceCtorEq, q_0, q_1, q_2, f_0, pendW, hasN, reorder, E0_ron, exists_eq', List.length_cons, List.length_nil, d1, d2]
  unfold cmpT
  rfl
end Go.Proofs.YtgcffmhpjphefaaGreatDoor

/- The sort of timers. -/
namespace Go.Proofs.YtgcffmhpjphefaaGreatDoor
open Go Go.AE Go.Sort

set_option maxRecDepth 10000

theorem grow_of_below {W w' : World} (hb : Go.RowKit.Below W.heap.size W w') (hd : W.drawn ≤ w'.drawn) : ∃ q os', w' = grow (W.drewN q) os' := by
  refine ⟨w'.drawn - W.drawn, w'.heap.extract W.heap.size w'.heap.size, ?_⟩
  obtain ⟨heap, tape, drawn, os, output⟩ := w'
  have h1 := hb.os
  have h2 := hb.tape
  have h3 := hb.output
  have h4 := hb.size
  have h5 := hb.block
  simp only at h1 h2 h3 h4 h5 hd
  subst h1 h2 h3
  unfold grow World.drewN
  have eh : heap = W.heap ++ heap.extract W.heap.size heap.size := by
    apply Array.ext_getElem?
    intro i
    rw [Array.getElem?_append]
    split
    · rename_i hi
      exact h5 i hi
    · rename_i hi
      rw [Array.getElem?_extract]
      by_cases hlt : i < heap.size
      · rw [if_pos (by omega)]
        congr 1; omega
      · rw [if_neg (by omega)]
        simp; omega
  have ed : drawn = W.drawn + (drawn - W.drawn) := by omega
  simp only [World.mk.injEq, and_true, true_and]
  exact ⟨eh, ed⟩

theorem cmp_calls (x y : ByteArray × Nat) (W : World) : Calls Tryz.prog 86 #[.agg #[.string x.1, .int .u64 (x.2 : Nat)], .agg #[.string y.1, .int .u64 (y.2 : Nat)]] W fun e w' => e = .returned (.int .i64 (cmpT x y)) ∧ ∃ q os', w' = grow (W.drewN q) os' := by
  have ha : VsRel (rawRen []) [.agg #[.string x.1, .int .u64 (x.2 : Nat)], .agg #[.string y.1, .int .u64 (y.2 : Nat)]] (#[Value.agg #[.string x.1, .int .u64 (x.2 : Nat)], .agg #[.string y.1, .int .u64 (y.2 : Nat)]] : Array Value).toList :=
    .cons (.refl_closed rfl) (.cons (.refl_closed rfl) .nil)
  refine (compare_spec (Z := roadRaw [] W) (A := startAt 0) (x := x) (y := y) (rawRen []) W _ (Step.refl (rep_start [] W)) ha).mono ?_
  rintro e w' ⟨v, A', v', ρ', rfl, rfl, hv, hst⟩
  cases hv
  exact ⟨rfl, grow_of_below (Step.below (n := 0) hst) hst.drawn⟩

/-! ### the order -/
theorem bl_irr : ∀ l : List UInt8, bytesLt l l = false
  | [] => rfl
  | a :: l => by simp only [bytesLt, Nat.beq_refl, cond_true]; exact bl_irr l
theorem bl_trans : ∀ {a b c : List UInt8}, bytesLt a b = true → bytesLt b c = true → bytesLt a c = true
  | [], [], _, h, _ => by cases h
  | [], _ :: _, [], _, h => by cases h
  | [], _ :: _, _ :: _, _, _ => rfl
  | _ :: _, [], _, h, _ => by cases h
  | _ :: _, _ :: _, [], _, h => by cases h
  | x :: a, y :: b, z :: c, h1, h2 => by
    simp only [bytesLt] at h1 h2 ⊢
    by_cases e1 : x.toNat = y.toNat
    · rw [e1] at h1 ⊢
      simp only [Nat.beq_refl, cond_true] at h1
      by_cases e2 : y.toNat = z.toNat
      · rw [e2] at h2 ⊢
        simp only [Nat.beq_refl, cond_true] at h2 ⊢
        exact bl_trans h1 h2
      · have hb : Nat.beq y.toNat z.toNat = false := by rw [nbeq]; simp [e2]
        simp only [hb, cond_false] at h2 ⊢
        exact h2
    · have hb : Nat.beq x.toNat y.toNat = false := by rw [nbeq]; simp [e1]
      simp only [hb, cond_false, nblt, decide_eq_true_eq] at h1
      by_cases e2 : y.toNat = z.toNat
      · have hb2 : Nat.beq x.toNat z.toNat = false := by rw [nbeq]; simp; omega
        simp only [hb2, cond_false, nblt, decide_eq_true_eq]
        omega
      · have hb3 : Nat.beq y.toNat z.toNat = false := by rw [nbeq]; simp [e2]
        simp only [hb3, cond_false, nblt, decide_eq_true_eq] at h2
        have hb2 : Nat.beq x.toNat z.toNat = false := by rw [nbeq]; simp; omega
        simp only [hb2, cond_false, nblt, decide_eq_true_eq]
        omega
theorem bl_tri : ∀ {a b : List UInt8}, bytesLt a b = false → bytesLt b a = false → a = b
  | [], [], _, _ => rfl
  | [], _ :: _, h, _ => by cases h
  | _ :: _, [], _, h => by cases h
  | x :: a, y :: b, h1, h2 => by
    simp only [bytesLt] at h1 h2
    by_cases e1 : x.toNat = y.toNat
    · have exy : x = y := UInt8.toNat_inj.1 e1
      subst exy
      simp only [Nat.beq_refl, cond_true] at h1 h2
      rw [bl_tri h1 h2]
    · have hb : Nat.beq x.toNat y.toNat = false := by rw [nbeq]; simp [e1]
      have hb2 : Nat.beq y.toNat x.toNat = false := by rw [nbeq]; simp; omega
      simp only [hb, hb2, cond_false, nblt, decide_eq_false_iff_not] at h1 h2
      omega

theorem blt_irr (x : ByteArray) : blt x x = false := bl_irr _
theorem blt_trans {x y z : ByteArray} (h : blt x y = true) (k : blt y z = true) : blt x z = true := bl_trans h k
theorem blt_tri {x y : ByteArray} (h : blt x y = false) (k : blt y x = false) : x = y := ByteArray.ext (Array.ext' (bl_tri h k))
theorem blt_asym {x y : ByteArray} (h : blt x y = true) : blt y x = false := by
  cases hk : blt y x with
  | false => rfl
  | true => have := blt_trans h hk; rw [blt_irr] at this; cases this

theorem ltT (x y : ByteArray × Nat) : ltOf cmpT x y = true ↔ tlt x y := by
  unfold ltOf tlt cmpT cmpU cmpS
  rw [decide_eq_true_eq]
  rcases Nat.lt_trichotomy x.2 y.2 with h | h | h
  · simp [h]
  · have h1 : ¬ x.2 < y.2 := by omega
    have h2 : ¬ y.2 < x.2 := by omega
    rw [if_neg h1, if_neg h2, if_neg (by simp)]
    cases hb : blt x.1 y.1 with
    | true => simp [h]
    | false => cases hc : blt y.1 x.1 <;> simp [h]
  · have h1 : ¬ x.2 < y.2 := by omega
    have h3 : ¬ x.2 = y.2 := by omega
    simp [h, h1, h3]
theorem tlt_irr (x : ByteArray × Nat) : ¬ tlt x x := by
  rintro (h | ⟨_, h⟩)
  · omega
  · rw [blt_irr] at h; cases h
theorem tlt_trans {x y z : ByteArray × Nat} (h : tlt x y) (k : tlt y z) : tlt x z := by
  rcases h with h | ⟨h1, h2⟩ <;> rcases k with k | ⟨k1, k2⟩
  · exact .inl (by omega)
  · exact .inl (by omega)
  · exact .inl (by omega)
  · exact .inr ⟨by omega, blt_trans h2 k2⟩
theorem tlt_tri {x y : ByteArray × Nat} (h : ¬ tlt x y) (k : ¬ tlt y x) : x = y := by
  unfold tlt at h k
  have e : x.2 = y.2 := by omega
  have h1 : blt x.1 y.1 = false := by
    cases hb : blt x.1 y.1 with
    | false => rfl
    | true => exact absurd (.inr ⟨e, hb⟩) h
  have h2 : blt y.1 x.1 = false := by
    cases hb : blt y.1 x.1 with
    | false => rfl
    | true => exact absurd (.inr ⟨e.symm, hb⟩) k
  exact Prod.ext (blt_tri h1 h2) e

theorem ltF (x y : ByteArray × Nat) : ltOf cmpT x y = false ↔ ¬ tlt x y := by
  rw [← ltT, Bool.not_eq_true]
theorem swoT : SWO (ltOf cmpT) where
  irrefl x := (ltF x x).2 (tlt_irr x)
  trans x y z h1 h2 := (ltT x z).2 (tlt_trans ((ltT x y).1 h1) ((ltT y z).1 h2))
  ntrans x y z h1 h2 := by
    rw [ltF] at h1 h2 ⊢
    intro h
    by_cases k : tlt y x
    · exact h2 (tlt_trans k h)
    · have := tlt_tri h1 k
      subst this
      exact h2 h
theorem totT (x y : ByteArray × Nat) (h : ltOf cmpT x y = false) (k : ltOf cmpT y x = false) : x = y := tlt_tri ((ltF x y).1 h) ((ltF y x).1 k)
end Go.Proofs.YtgcffmhpjphefaaGreatDoor

/- A queue in general: its entries in a row, and where each name stands. -/
namespace Go.Proofs.YtgcffmhpjphefaaGreatDoor
open Go Go.AE
set_option maxRecDepth 10000
set_option maxHeartbeats 8000000
variable {Z : Go.AE.Road}

theorem tlt_tot : TotLt tlt := ⟨tlt_irr, tlt_trans, tlt_tri⟩
theorem tcells_lenQ : ∀ ts : List (ByteArray × Nat), (tcells ts).length = ts.length * 2
  | [] => rfl
  | x :: l => by simp only [tcells, List.length_cons, tcells_lenQ l]; omega
theorem tcells_appQ : ∀ (l m : List (ByteArray × Nat)), tcells (l ++ m) = tcells l ++ tcells m
  | [], _ => rfl
  | x :: l, m => by simp only [List.cons_append, tcells, tcells_appQ l m]
theorem tcells_dropQ : ∀ {l : List (ByteArray × Nat)} {i : Nat} {x : ByteArray × Nat}, l[i]? = some x → ∃ r, (tcells l).drop (i * 2) = .string x.1 :: .int .u64 (x.2 : Nat) :: r
  | [], i, x, h => by simp at h
  | y :: l, 0, x, h => by
    simp only [List.getElem?_cons_zero, Option.some.injEq] at h
    subst h
    exact ⟨tcells l, rfl⟩
  | y :: l, i + 1, x, h => by
    obtain ⟨r, hr⟩ := tcells_dropQ (l := l) (i := i) (x := x) (by simpa using h)
    refine ⟨r, ?_⟩
    have e : (i + 1) * 2 = i * 2 + 1 + 1 := by omega
    rw [e]
    exact hr
theorem tcells_setQ : ∀ {l : List (ByteArray × Nat)} {i : Nat} {t : ByteArray × Nat}, i < l.length → tcells (l.set i t) = (tcells l).take (i * 2) ++ [.string t.1, .int .u64 (t.2 : Nat)] ++ (tcells l).drop (i * 2 + 2)
  | [], i, t, h => by simp at h
  | y :: l, 0, t, h => by simp [tcells]
  | y :: l, i + 1, t, h => by
    have ih := tcells_setQ (l := l) (i := i) (t := t) (by simpa using h)
    have e : (i + 1) * 2 = i * 2 + 1 + 1 := by omega
    rw [e, List.set_cons_succ]
    show _ :: _ :: tcells (l.set i t) = _
    rw [ih]
    simp [tcells, List.take_succ_cons]

section
variable {l : List (ByteArray × Nat)} {rest : List Value} {i : Nat} {x : ByteArray × Nat}
theorem qlt (h : l[i]? = some x) : i < l.length := (List.getElem?_eq_some_iff.1 h).1
theorem qdrop2 (h : l[i]? = some x) : ∃ r, (tcells l ++ rest).drop (i * 2) = .string x.1 :: .int .u64 (x.2 : Nat) :: r := by
  obtain ⟨r, hr⟩ := tcells_dropQ h
  have := qlt h
  rw [List.drop_append_of_le_length (by rw [tcells_lenQ]; omega), hr]
  exact ⟨r ++ rest, rfl⟩
theorem qcut (h : l[i]? = some x) : cut (tcells l ++ rest) (i * 2) 2 = some [.string x.1, .int .u64 (x.2 : Nat)] := by
  obtain ⟨r, hr⟩ := qdrop2 (rest := rest) h
  unfold cut
  rw [hr]
  rfl
theorem qnth0 (h : l[i]? = some x) : nth (tcells l ++ rest) (i * 2) = some (.string x.1) := by
  obtain ⟨r, hr⟩ := qdrop2 (rest := rest) h
  rw [nth_eq]
  have : ((tcells l ++ rest).drop (i * 2))[0]? = some (.string x.1) := by rw [hr]; rfl
  rwa [List.getElem?_drop, Nat.add_zero] at this
theorem qover {t : ByteArray × Nat} (h : i < l.length) : over (tcells l ++ rest) (i * 2) [.string t.1, .int .u64 (t.2 : Nat)] = some (tcells (l.set i t) ++ rest) := by
  unfold over
  have e : Nat.ble (i * 2 + [Value.string t.1, Value.int .u64 (t.2 : Nat)].length) (tcells l ++ rest).length = true := Nat.ble_eq_true_of_le (by rw [List.length_append, tcells_lenQ]; simp; omega)
  rw [e, cond_true, tcells_setQ h, List.take_append_of_le_length (by rw [tcells_lenQ]; omega)]
  have : (tcells l ++ rest).drop (i * 2 + [Value.string t.1, Value.int .u64 (t.2 : Nat)].length) = (tcells l).drop (i * 2 + 2) ++ rest := by
    rw [List.drop_append_of_le_length (by rw [tcells_lenQ]; simp; omega)]
    rfl
  rw [this]
  simp [List.append_assoc]
theorem qover1 {k : ByteArray} {a b : Nat} (h : l[i]? = some (k, a)) : over (tcells l ++ rest) (i * 2 + 1) [.int .u64 (b : Nat)] = some (tcells (l.set i (k, b)) ++ rest) := by
  have hi := qlt h
  rw [← qover (rest := rest) (t := (k, b)) hi]
  obtain ⟨r, hr⟩ := qdrop2 (rest := rest) h
  have hlen : (tcells l ++ rest).length = l.length * 2 + rest.length := by rw [List.length_append, tcells_lenQ]
  unfold over
  have e1 : Nat.ble (i * 2 + 1 + [Value.int .u64 (b : Nat)].length) (tcells l ++ rest).length = true := Nat.ble_eq_true_of_le (by rw [hlen]; simp; omega)
  have e2 : Nat.ble (i * 2 + [Value.string k, Value.int .u64 (b : Nat)].length) (tcells l ++ rest).length = true := Nat.ble_eq_true_of_le (by rw [hlen]; simp; omega)
  rw [e1, e2, cond_true, cond_true]
  have h0 : (tcells l ++ rest)[i * 2]? = some (.string k) := by
    have := qnth0 (rest := rest) h
    rwa [nth_eq] at this
  have hlt : i * 2 < (tcells l ++ rest).length := by rw [hlen]; omega
  have : (tcells l ++ rest).take (i * 2 + 1) = (tcells l ++ rest).take (i * 2) ++ [.string k] := by
    rw [List.take_add_one, h0]; rfl
  rw [this]
  simp
end

def QS (A : ASt) (v : Value) (l : List (ByteArray × Nat)) : Prop :=
  (l = [] ∧ v = .slice none 0 0) ∨ ∃ b rest, v = .slice (some ⟨b, 0, none⟩) l.length unk ∧ A.get b = some (.row (tcells l ++ rest) 2 true) ∧ b < A.next ∧ rest.length % 2 = 0
abbrev encQ : MapEnc ByteArray Nat := encS (fun i => .int .i64 (i : Int))
def WAt (A : ASt) (w : Nat) (l : List (ByteArray × Nat)) : Prop := ∃ es ck, A.get w = some (.map (vEnts encQ es) ck) ∧ VOK es ck ∧ Where l (vget es)
structure EAt (A : ASt) (e w : Nat) (v : Value) (l : List (ByteArray × Nat)) : Prop where
  he : A.get e = some (.row [v, .map (some w)] 2 false)
  hs : QS A v l
  hw : WAt A w l
  lt : e < A.next ∧ w < A.next
  few : l.length ≤ 2000
section
variable {A B : ASt} {e w : Nat} {v : Value} {l : List (ByteArray × Nat)}
theorem QS.fr {own : List Nat} (h : QS A v l) (hf : Fr own A B) (ho : ∀ b ∈ slB v, b ∉ own) : QS B v l := by
  rcases h with h | ⟨b, rest, rfl, hb, h1, h2⟩
  · exact .inl h
  · exact .inr ⟨b, rest, rfl, (hf.get b h1 (ho b (by simp [slB]))).trans hb, Nat.lt_of_lt_of_le h1 hf.next, h2⟩
theorem QS.cells1 (h : QS A v l) : v.cells = #[v] := by
  rcases h with ⟨_, rfl⟩ | ⟨b, rest, rfl, _⟩ <;> rfl
theorem QS.single (h : QS A v l) : single v = true := by
  rcases h with ⟨_, rfl⟩ | ⟨b, rest, rfl, _⟩ <;> rfl
theorem QS.ve (h : QS A v l) : valEq v v = true := by
  rcases h with ⟨_, rfl⟩ | ⟨b, rest, rfl, _⟩
  · exact valEq_nilSlice
  · exact valEq_slice
theorem QS.len (h : QS A v l) (B : ASt) : aLen E0 71 v B = some (.int .i64 (l.length : Int)) := by
  rcases h with ⟨rfl, rfl⟩ | ⟨b, rest, rfl, _⟩
  · simp only [aLen, w_qu]; rfl
  · simp only [aLen, w_qu]; rfl
theorem QS.at (h : QS A v l) {i : Nat} {x : ByteArray × Nat} (hi : l[i]? = some x) : ∃ b rest, v = .slice (some ⟨b, 0, none⟩) l.length unk ∧ A.get b = some (.row (tcells l ++ rest) 2 true) ∧ b < A.next ∧ rest.length % 2 = 0 := by
  rcases h with ⟨rfl, _⟩ | h
  · simp at hi
  · exact h
theorem QS.low (h : QS A v l) : ∀ b ∈ slB v, b < A.next := by
  rcases h with ⟨_, rfl⟩ | ⟨b, rest, rfl, hb, h1, h2⟩
  · intro b hb; cases hb
  · intro c hc
    simp only [slB, List.mem_singleton] at hc
    subst hc
    exact h1
theorem qix {b i n c : Nat} (h : i < n) : aIndexAddr E0 71 (.slice (some ⟨b, 0, none⟩) n c) (.int .i64 (i : Int)) = some (.pointer (some ⟨b, i * 2, none⟩)) := by
  have := indexAddr_sl (A := { heap := .e, next := 0 }) ti71 t71_desc ti74 (kd := .i64) (k := i) (b := b) (off := 0) (len := n) (cap := c) h
  rwa [t74_size, Nat.zero_add] at this
theorem WAt.fr {own : List Nat} (h : WAt A w l) (hl : w < A.next) (hf : Fr own A B) (ho : w ∉ own) : WAt B w l := by
  obtain ⟨es, ck, h1, h2⟩ := h
  exact ⟨es, ck, (hf.get w hl ho).trans h1, h2⟩
theorem EAt.new (h : EAt A e w v l) : e ≠ w ∧ e ∉ slB v ∧ w ∉ slB v := by
  obtain ⟨es, ck, hw, _⟩ := h.hw
  have he := h.he
  refine ⟨fun e1 => ?_, ?_⟩
  · rw [e1, hw] at he; cases he
  · rcases h.hs with ⟨_, rfl⟩ | ⟨b, rest, rfl, hb, _⟩
    · exact ⟨by simp [slB], by simp [slB]⟩
    · refine ⟨?_, ?_⟩
      · intro hm
        simp only [slB, List.mem_singleton] at hm
        subst hm
        rw [he] at hb
        simp at hb
      · intro hm
        simp only [slB, List.mem_singleton] at hm
        subst hm
        rw [hw] at hb; cases hb
theorem EAt.fr {own : List Nat} (h : EAt A e w v l) (hf : Fr own A B) (h1 : e ∉ own) (h2 : w ∉ own) (h3 : ∀ b ∈ slB v, b ∉ own) : EAt B e w v l :=
  ⟨(hf.get e h.lt.1 h1).trans h.he, h.hs.fr hf h3, h.hw.fr h.lt.2 hf h2, ⟨Nat.lt_of_lt_of_le h.lt.1 hf.next, Nat.lt_of_lt_of_le h.lt.2 hf.next⟩, h.few⟩
theorem EAt.fr0 (h : EAt A e w v l) (hf : Fr [] A B) : EAt B e w v l := h.fr hf (by simp) (by simp) (by simp)
end

theorem box74 {x y : Value} : aBox E0 74 (.agg #[x, y]) = some (.row [x, y] 2 false, ptrTo) := by
  simp only [aBox, ti74, t74_size]; rfl
theorem ecompare_spec {A : ASt} {x y : ByteArray × Nat} : CallW Z Tryz.prog 159 [.agg #[.string x.1, .int .u64 (x.2 : Nat)], .agg #[.string y.1, .int .u64 (y.2 : Nat)]] A (fun v A' => v = .int .i64 (cmpT x y) ∧ Fr [] A A') := by
  refine CallW.of_code E0_ok E0_ro fn159 rfl (n := 17) rfl (rs := [.tmp 4]) rfl (by simp) (codeW_ok E0_ok E0_ro ?_)
  simp only [z_0, flat, Option.isNone, aFieldAddr, aField, aBuiltin, cond_true, cond_false, cond_dec, if_true, if_false, List.length_cons, List.length_nil, forall_const, implies_true, List.append_nil, List.cons_append, List.nil_append, eq_self, Nat.reduceEqDiff, Nat.reduceAdd, Nat.reduceMul, Nat.reduceSub, Nat.reduceLT, Nat.reduceLeDiff, Nat.reduceBEq, reduceIte, reduceCtorEq, box74, ptrTo]
  refine CodeW.seqd E0_ok E0_ro mixed R39_ok [0, 1, 2, 3, 5, 6, 7, 8, 4, 9, 10, 11, 12] [4, 5, 6, 7] (by simp only [reorder, reoGo, strip, List.map_cons, List.map_nil, opAt, remap, nth, Option.map, σ, place', nbeq, List.length_cons, List.length_nil, Nat.reduceAdd, Nat.reduceLT, Nat.reduceEqDiff, if_true, if_false, reduceIte]; rfl) (by decide +kernel) (by kernel_rfl) (by kernel_rfl) (by kernel_rfl) ?_
  generalize hCd : ASt.new (ASt.new A _) _ = C
  have c1 : C.get A.next = some (.row [.string x.1, .int .u64 (x.2 : Nat)] 2 false) := by
    rw [← hCd, ASt.get_new, if_neg (by rw [ASt.next_new]; omega), ASt.get_new, if_pos rfl]
  have c2 : C.get (A.next + 1) = some (.row [.string y.1, .int .u64 (y.2 : Nat)] 2 false) := by
    rw [← hCd, ASt.get_new, if_pos (by rw [ASt.next_new])]
  have hCn : A.next + 2 = C.next := by rw [← hCd]; simp only [ASt.next_new]
  have fC : Fr [] A C := ⟨by omega, fun b hb _ => by rw [← hCd, ASt.get_new, if_neg (by rw [ASt.next_new]; omega), ASt.get_new, if_neg (by omega)]⟩
  clear hCd
  simp only [z_0, flat, Option.isNone, aFieldAddr, aField, aBuiltin, cond_true, cond_false, cond_dec, if_true, if_false, List.length_cons, List.length_nil, forall_const, implies_true, List.append_nil, List.cons_append, List.nil_append, eq_self, Nat.reduceEqDiff, Nat.reduceAdd, Nat.reduceMul, Nat.reduceSub, Nat.reduceLT, Nat.reduceLeDiff, Nat.reduceBEq, reduceIte, reduceCtorEq, q_0, q_1, q_2, f_0, pendW, hasN, reorder, E0_ron, exists_eq', List.length_cons, List.length_nil, c1, c2, fn99, fn100, fn101]
  refine con48 ?_
  simp only [z_0, flat, Option.isNone, aFieldAddr, aField, aBuiltin, cond_true, cond_false, cond_dec, if_true, if_false, List.length_cons, List.length_nil, forall_const, implies_true, List.append_nil, List.cons_append, List.nil_append, eq_self, Nat.reduceEqDiff, Nat.reduceAdd, Nat.reduceMul, Nat.reduceSub, Nat.reduceLT, Nat.reduceLeDiff, Nat.reduceBEq, reduceIte, reduceCtorEq, q_0, q_1, q_2, f_0, pendW, hasN, reorder, E0_ron, exists_eq', List.length_cons, List.length_nil, c1, c2, fn99, fn100, fn101]
  refine con49 ?_
  simp only [z_0, flat, Option.isNone, aFieldAddr, aField, aBuiltin, cond_true, cond_false, cond_dec, if_true, if_false, List.length_cons, List.length_nil, forall_const, implies_true, List.append_nil, List.cons_append, List.nil_append, eq_self, Nat.reduceEqDiff, Nat.reduceAdd, Nat.reduceMul, Nat.reduceSub, Nat.reduceLT, Nat.reduceLeDiff, Nat.reduceBEq, reduceIte, reduceCtorEq, q_0, q_1, q_2, f_0, pendW, hasN, reorder, E0_ron, exists_eq', List.length_cons, List.length_nil, c1, c2, fn99, fn100, fn101, bs100]
  have n1 : A.next + 2 = C.next := hCn
  generalize hDd : ASt.set _ _ (.row [.int .i64 (cmpU x.2 y.2), .int .i64 (cmpS x.1 y.1)] 1 false) = D
  have d0 : ∀ b, b ≠ C.next + 10 → D.get b = C.get b := fun b hb => by rw [← hDd, ASt.get_set, if_neg hb]; rfl
  have d1 := (d0 A.next (by omega)).trans c1
  have d2 := (d0 (A.next + 1) (by omega)).trans c2
  have d3 : D.get (C.next + 10) = some (.row [.int .i64 (cmpU x.2 y.2), .int .i64 (cmpS x.1 y.1)] 1 false) := by rw [← hDd, ASt.get_set, if_pos rfl]
  have fD : Fr [] C D := ⟨by rw [← hDd, ASt.next_set]; exact Nat.le_add_right _ _, fun b hb _ => d0 b (by omega)⟩
  clear hDd
  refine con47 d3 ?_
  simp only [z_0, flat, Option.isNone, aFieldAddr, aField, aBuiltin, cond_true, cond_false, cond_dec, if_true, if_false, List.length_cons, List.length_nil, forall_const, implies_true, List.append_nil, List.cons_append, List.nil_append, eq_self, Nat.reduceEqDiff, Nat.reduceAdd, Nat.reduceMul, Nat.reduceSub, Nat.reduceLT, Nat.reduceLeDiff, Nat.reduceBEq, reduceIte, reduceCtorEq, q_0, q_1, q_2, f_0, pendW, hasN, reorder, E0_ron, exists_eq', List.length_cons, List.length_nil, d1, d2]
  unfold cmpT
  exact ⟨rfl, fC.trans fD⟩
end Go.Proofs.YtgcffmhpjphefaaGreatDoor

/- A queue in general: what heap asks of it. -/
namespace Go.Proofs.YtgcffmhpjphefaaGreatDoor
open Go Go.AE Go.Sort
set_option maxRecDepth 10000
set_option maxHeartbeats 8000000
variable {Z : Go.AE.Road}

theorem cmpT_lt {x y : ByteArray × Nat} : cmpT x y < 0 ↔ tlt x y := by
  have := ltT x y
  unfold ltOf at this
  rwa [decide_eq_true_eq] at this
theorem qless_spec {A : ASt} {e w i k : Nat} {v : Value} {l : List (ByteArray × Nat)} {x y : ByteArray × Nat} (h : EAt A e w v l) (hi : l[i]? = some x) (hk : l[k]? = some y) :
    CallW Z Tryz.prog 160 [.pointer (some ⟨e, 0, none⟩), .int .i64 (i : Int), .int .i64 (k : Int)] A (fun r A' => (∃ b, r = .bool b ∧ (b = true ↔ tlt x y)) ∧ Fr [] A A') := by
  refine CallW.of_code E0_ok E0_ro fn160 rfl (n := 23) rfl (rs := [.tmp 6]) rfl (by simp) (codeW_ok E0_ok E0_ro ?_)
  have h1 := h.he
  have hve := h.hs.ve
  obtain ⟨b, rest, rfl, hb, hlb, _⟩ := h.hs.at hi
  have hRC := RO_ok (Z := Z) (P := Tryz.prog) (f := 159) (ar := [.agg #[.string x.1, .int .u64 (x.2 : Nat)], .agg #[.string y.1, .int .u64 (y.2 : Nat)]]) (Pr := fun _ => True) (Sp := fun A v A' => v = .int .i64 (cmpT x y) ∧ Fr [] A A') (fun A _ => ecompare_spec)
  simp only [z_0, flat, Option.isNone, aFieldAddr, aField, aBuiltin, cond_true, cond_false, cond_dec, if_true, if_false, List.length_cons, List.length_nil, forall_const, implies_true, List.append_nil, List.cons_append, List.nil_append, eq_self, Nat.reduceEqDiff, Nat.reduceAdd, Nat.reduceMul, Nat.reduceSub, Nat.reduceLT, Nat.reduceLeDiff, Nat.reduceBEq, reduceIte, reduceCtorEq]
  refine CodeW.seqf E0_ok E0_ro mixed hRC [0, 1, 2, 3, 4, 5, 6, 7, 8, 9, 10, 11, 12, 13, 14, 15, 16] [] (fanOf _ _ _) (by simp only [reorder, reoGo, strip, List.map_cons, List.map_nil, opAt, remap, nth, Option.map, σ, place', nbeq, List.length_cons, List.length_nil, Nat.reduceAdd, Nat.reduceLT, Nat.reduceEqDiff, if_true, if_false, reduceIte]; rfl) (by decide +kernel) (by kernel_rfl) (by kernel_rfl) (by kernel_rfl) rfl ?_
  simp only [z_0, flat, Option.isNone, aFieldAddr, aField, aBuiltin, cond_true, cond_false, cond_dec, if_true, if_false, List.length_cons, List.length_nil, forall_const, implies_true, List.append_nil, List.cons_append, List.nil_append, eq_self, Nat.reduceEqDiff, Nat.reduceAdd, Nat.reduceMul, Nat.reduceSub, Nat.reduceLT, Nat.reduceLeDiff, Nat.reduceBEq, reduceIte, reduceCtorEq, q_0, q_1, q_2, f_0, pendW, hasN, reorder, E0_ron, exists_eq', List.length_cons, List.length_nil, h1, hve, qix (qlt hi), qix (qlt hk), hb, qcut hi, qcut hk, va71, get_next]
  refine conRO (by trivial) ?_
  rintro _ B ⟨rfl, fB⟩
  simp only [z_0, flat, Option.isNone, aFieldAddr, aField, aBuiltin, cond_true, cond_false, cond_dec, if_true, if_false, List.length_cons, List.length_nil, forall_const, implies_true, List.append_nil, List.cons_append, List.nil_append, eq_self, Nat.reduceEqDiff, Nat.reduceAdd, Nat.reduceMul, Nat.reduceSub, Nat.reduceLT, Nat.reduceLeDiff, Nat.reduceBEq, reduceIte, reduceCtorEq, q_0, q_1, q_2, f_0, pendW, hasN, reorder, E0_ron, exists_eq', List.length_cons, List.length_nil]
  exact ⟨⟨_, rfl, by rw [decide_eq_true_eq]; exact cmpT_lt⟩, (Fr.bump (n := A.next + 17) (by omega)).trans fB⟩
theorem qst {A : ASt} {b i : Nat} {l : List (ByteArray × Nat)} {rest : List Value} {t : ByteArray × Nat} (hb : A.get b = some (.row (tcells l ++ rest) 2 true)) (hi : i < l.length) : aStore E0 74 (.pointer (some ⟨b, i * 2, none⟩)) (.agg #[.string t.1, .int .u64 (t.2 : Nat)]) A = some (A.set b (.row (tcells (l.set i t) ++ rest) 2 true)) := by
  have := qover (rest := rest) (t := t) hi
  simp only [aStore, hb, ti74, t74_size, Value.cells, this]
  rfl
theorem qme {A : ASt} {w ck : Nat} {es : List (VE ByteArray Nat)} (hok : VOK es ck) (hm : A.get w = some (.map (vEnts encQ es) ck)) {k : ByteArray} {u : Nat} (hu : vget es k = some u) :
    ∃ b : Nat, aMapEntry E0 91 (.map (some w)) (.string k) A = .val (.tuple #[.int .i64 (u : Int), .int .i64 (b : Int)]) A ∧ ∀ (B : ASt) (v : Nat), B.get w = some (.map (vEnts encQ es) ck) → aEntryStore (.map (some w)) (.int .i64 (b : Int)) (.int .i64 (v : Int)) B = some (B.set w (.map (vEnts encQ (vput k v ck es)) ck)) :=
  mapEntry_v (Γ := encQ) hok ti91 t91_desc ti9 (fun k => by rw [t9_desc]; rfl) ti3 hm hu
theorem whereExt {β : Type} {l : List (ByteArray × β)} {g g' : ByteArray → Option Nat} (h : Where l g) (e : ∀ k, g' k = g k) : Where l g' := fun k i => by rw [e]; exact h k i
theorem qswap_spec {A : ASt} {e w i k : Nat} {v : Value} {l : List (ByteArray × Nat)} {x y : ByteArray × Nat} (h : EAt A e w v l) (hi : l[i]? = some x) (hk : l[k]? = some y) :
    CallW Z Tryz.prog 163 [.pointer (some ⟨e, 0, none⟩), .int .i64 (i : Int), .int .i64 (k : Int)] A (fun _ A' => EAt A' e w v (swp l i k) ∧ Fr (w :: slB v) A A') := by
  refine CallW.of_code E0_ok E0_ro fn163 rfl (n := 62) rfl (rs := []) rfl (by simp) (codeW_ok E0_ok E0_ro ?_)
  have h1 := h.he
  have hve := h.hs.ve
  have hnew := h.new
  obtain ⟨b, rest, rfl, hb, hlb, hr⟩ := h.hs.at hi
  have heb : e ≠ b := fun e1 => hnew.2.1 (by simp [slB, e1])
  have hwb : w ≠ b := fun e1 => hnew.2.2 (by simp [slB, e1])
  have li := qlt hi
  have lk := qlt hk
  simp only [z_0, flat, Option.isNone, aFieldAddr, aField, aBuiltin, cond_true, cond_false, cond_dec, if_true, if_false, List.length_cons, List.length_nil, forall_const, implies_true, List.append_nil, List.cons_append, List.nil_append, eq_self, Nat.reduceEqDiff, Nat.reduceAdd, Nat.reduceMul, Nat.reduceSub, Nat.reduceLT, Nat.reduceLeDiff, Nat.reduceBEq, reduceIte, reduceCtorEq]
  refine CodeW.seqf E0_ok E0_ro mixed noCon_ok [0,1,2,3,4,5,6,7,8,9,10,11,12,13,14,15,16,17,18,19,20,21,22,23,24,25,26,27] [9] [[],[],[],[],[],[],[],[],[],[],[],[],[],[],[],[],[],[],[],[],[],[],[],[],[],[],[],[]] (by simp only [reorder, reoGo, strip, List.map_cons, List.map_nil, opAt, remap, nth, Option.map, σ, place', nbeq, List.length_cons, List.length_nil, Nat.reduceAdd, Nat.reduceLT, Nat.reduceEqDiff, if_true, if_false, reduceIte]; rfl) (by decide +kernel) (by kernel_rfl) (by kernel_rfl) (by kernel_rfl) (by kernel_rfl) ?_
  have hst1 := qst (A := { heap := A.heap, next := A.next + 28 }) (t := y) (rest := rest) (l := l) (i := i) (b := b) (by rw [get_next]; exact hb) li
  have hst2 := qst (A := ASt.set { heap := A.heap, next := A.next + 28 } b (.row (tcells (l.set i y) ++ rest) 2 true)) (t := x) (rest := rest) (l := l.set i y) (i := k) (b := b) (by rw [ASt.get_set, if_pos rfl]) (by rw [List.length_set]; exact lk)
  have hsw : (l.set i y).set k x = swp l i k := (swp_eq hi hk).symm
  rw [hsw] at hst2
  simp only [z_0, flat, Option.isNone, aFieldAddr, aField, aBuiltin, cond_true, cond_false, cond_dec, if_true, if_false, List.length_cons, List.length_nil, forall_const, implies_true, List.append_nil, List.cons_append, List.nil_append, eq_self, Nat.reduceEqDiff, Nat.reduceAdd, Nat.reduceMul, Nat.reduceSub, Nat.reduceLT, Nat.reduceLeDiff, Nat.reduceBEq, reduceIte, reduceCtorEq, q_0, q_1, q_2, f_0, pendW, hasN, reorder, E0_ron, exists_eq', List.length_cons, List.length_nil, h1, hve, qix li, qix lk, hb, qcut hi, qcut hk, va71, hst1, hst2, get_next]
  generalize hDd : ASt.set (ASt.set _ b _) b _ = D
  have gD : ∀ c, D.get c = if c = b then some (.row (tcells (swp l i k) ++ rest) 2 true) else A.get c := fun c => by
    rw [← hDd, ASt.get_set]
    by_cases e1 : c = b
    · rw [if_pos e1, if_pos e1]
    · rw [if_neg e1, if_neg e1, ASt.get_set, if_neg e1, get_next]
  have nD : D.next = A.next + 28 := by rw [← hDd, ASt.next_set, ASt.next_set]
  clear hDd hst1 hst2
  have d1 : D.get e = some (.row [.slice (some ⟨b, 0, none⟩) l.length unk, .map (some w)] 2 false) := by rw [gD, if_neg heb]; exact h1
  have d2 : D.get b = some (.row (tcells (swp l i k) ++ rest) 2 true) := by rw [gD, if_pos rfl]
  obtain ⟨es, ck, hw, hok, hwr⟩ := h.hw
  have d3 : D.get w = some (.map (vEnts encQ es) ck) := by rw [gD, if_neg hwb]; exact hw
  have hi' : (swp l i k)[i]? = some y := by
    rw [swp_get li lk]
    by_cases e1 : i = k
    · subst e1
      rw [if_pos rfl, hi]
      rw [hi] at hk; exact hk
    · rw [if_neg e1, if_pos rfl, hk]
  have hk' : (swp l i k)[k]? = some x := by rw [swp_get li lk, if_pos rfl, hi]
  have li' := qlt hi'
  have lk' := qlt hk'
  rw [swp_len] at li' lk'
  obtain ⟨b1, hm1, hs1⟩ := qme (A := { heap := D.heap, next := D.next + 32 }) hok (by rw [get_next]; exact d3) (hwr.of hk)
  have hs1' := hs1 { heap := D.heap, next := D.next + 32 } i (by rw [get_next]; exact d3)
  have hok2 := vput_ok (k := y.1) (v := i) hok
  have hck : vck es y.1 ck = ck := by unfold vck; rw [hwr.of hk]; rfl
  rw [hck] at hok2
  have hx2 : ∃ u, vget (vput y.1 i ck es) x.1 = some u := by
    rw [vget_uput]
    by_cases e1 : x.1 = y.1
    · rw [if_pos e1]; exact ⟨_, rfl⟩
    · rw [if_neg e1]; exact ⟨_, hwr.of hi⟩
  obtain ⟨u2, hu2⟩ := hx2
  obtain ⟨b2, hm2, hs2⟩ := qme (A := ASt.set { heap := D.heap, next := D.next + 32 } w (.map (vEnts encQ (vput y.1 i ck es)) ck)) (w := w) hok2 (by rw [ASt.get_set, if_pos rfl]) hu2
  have hs2' := hs2 _ k (show (ASt.set { heap := D.heap, next := D.next + 32 } w (.map (vEnts encQ (vput y.1 i ck es)) ck)).get w = _ by rw [ASt.get_set, if_pos rfl])
  refine CodeW.seqf E0_ok E0_ro mixed noCon_ok [0,1,2,3,4,5,6,7,8,9,10,11,12,13,14,15,16,17,18,19,20,21,22,23,24,25,26,27,28,29,30,31] [24,25] [[],[],[],[],[],[],[],[],[],[],[],[],[],[],[],[],[],[],[],[],[],[],[],[],[],[],[],[],[],[],[],[]] (by simp only [reorder, reoGo, strip, List.map_cons, List.map_nil, opAt, remap, nth, Option.map, σ, place', nbeq, List.length_cons, List.length_nil, Nat.reduceAdd, Nat.reduceLT, Nat.reduceEqDiff, if_true, if_false, reduceIte]; rfl) (by decide +kernel) (by kernel_rfl) (by kernel_rfl) (by kernel_rfl) (by kernel_rfl) ?_
  simp only [z_0, flat, Option.isNone, aFieldAddr, aField, aBuiltin, cond_true, cond_false, cond_dec, if_true, if_false, List.length_cons, List.length_nil, forall_const, implies_true, List.append_nil, List.cons_append, List.nil_append, eq_self, Nat.reduceEqDiff, Nat.reduceAdd, Nat.reduceMul, Nat.reduceSub, Nat.reduceLT, Nat.reduceLeDiff, Nat.reduceBEq, reduceIte, reduceCtorEq, q_0, q_1, q_2, f_0, pendW, hasN, reorder, E0_ron, exists_eq', List.length_cons, List.length_nil, fresh_mapEntry, quiet_mapEntry, fresh_entryStore, quiet_entryStore, oneW_mapEntry, oneW_entryStore, aOp_mapEntry, aOp_entryStore, d1, hve, qix li', qix lk', d2, qnth0 hi', qnth0 hk', hm1, hs1', hm2, hs2', get_next]
  generalize hFd : ASt.set (ASt.set _ w _) w _ = F
  have gF : ∀ c, F.get c = if c = w then some (.map (vEnts encQ (vput x.1 k ck (vput y.1 i ck es))) ck) else D.get c := fun c => by
    rw [← hFd, ASt.get_set]
    by_cases e1 : c = w
    · rw [if_pos e1, if_pos e1]
    · rw [if_neg e1, if_neg e1, ASt.get_set, if_neg e1, get_next]
  have nF : F.next = D.next + 32 := by rw [← hFd, ASt.next_set, ASt.next_set]
  clear hFd hs2' hm2 hs1' hm1 hs1 hs2
  have hck2 : vck (vput y.1 i ck es) x.1 ck = ck := by unfold vck; rw [hu2]; rfl
  have hok3 := vput_ok (k := x.1) (v := k) hok2
  rw [hck2] at hok3
  refine ⟨⟨?_, .inr ⟨b, rest, by rw [swp_len], ?_, by omega, hr⟩, ⟨_, ck, by rw [gF, if_pos rfl], hok3, whereExt (hwr.swp hi hk) fun n => ?_⟩, ⟨by have := h.lt; omega, by have := h.lt; omega⟩, by rw [swp_len]; exact h.few⟩, ⟨by omega, fun c hc hn => ?_⟩⟩
  · rw [gF, if_neg hnew.1]; exact d1
  · rw [gF, if_neg (Ne.symm hwb)]; exact d2
  · rw [vget_uput, vget_uput]
  · simp only [slB, List.mem_cons, List.not_mem_nil, or_false, not_or] at hn
    rw [gF, if_neg hn.1, gD, if_neg hn.2]
theorem elen_spec {A : ASt} {e w : Nat} {v : Value} {l : List (ByteArray × Nat)} (h : EAt A e w v l) : CallW Z Tryz.prog 97 [.pointer (some ⟨e, 0, none⟩)] A (fun r A' => r = .int .i64 (l.length : Int) ∧ A = A') := by
  refine CallW.of_code E0_ok E0_ro fn97 rfl (n := 8) rfl (rs := [.tmp 2]) rfl (by simp) (codeW_ok E0_ok E0_ro ?_)
  have h1 := h.he
  have h2 := h.hs.len
  simp only [z_0, flat, Option.isNone, aFieldAddr, aField, aBuiltin, cond_true, cond_false, cond_dec, if_true, if_false, List.length_cons, List.length_nil, forall_const, implies_true, List.append_nil, List.cons_append, List.nil_append, eq_self, Nat.reduceEqDiff, Nat.reduceAdd, Nat.reduceMul, Nat.reduceSub, Nat.reduceLT, Nat.reduceLeDiff, Nat.reduceBEq, reduceIte, reduceCtorEq, h1, h2]
end Go.Proofs.YtgcffmhpjphefaaGreatDoor
