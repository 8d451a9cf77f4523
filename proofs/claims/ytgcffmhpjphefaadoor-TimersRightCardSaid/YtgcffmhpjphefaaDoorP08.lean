/- The wheel's advance. -/
import Derived.Test.YtgcffmhpjphefaaDoorP07
set_option linter.unusedSimpArgs false
set_option linter.unusedVariables false
set_option linter.unusedSectionVars false
namespace Go.Proofs.YtgcffmhpjphefaaDoor
open Go Go.AE

variable {Z : Go.AE.Road}
set_option maxRecDepth 10000

theorem box22 {k : IntKind} {x : Int} : aBox E0 22 (.int k x) = some (.row [.int k x] 1 false, ptrTo) := by
  simp only [aBox, ti22, t22_size]; rfl
theorem alloc59 : aAlloc E0 82 = some (.row [.map none] 1 false, ptrTo) := by
  simp only [aAlloc, ti82, t82_zero, t82_size]; rfl
theorem store59 {A : ASt} {b m : Nat} {x : Value} (h : A.get b = some (.row [x] 1 false)) : aStore E0 82 (.pointer (some ⟨b, 0, none⟩)) (.map (some m)) A = some (A.set b (.row [.map (some m)] 1 false)) :=
  aStore_row h ti82 (by rw [t82_size]; rfl) rfl rfl
theorem storeNow {A : ASt} {W now nw all : Nat} {ms : List Nat} (h : A.get W = some (.row (wrow now all ms) 67 false)) : aStore E0 22 (.pointer (some ⟨W, 0, none⟩)) (.int .u64 (nw : Int)) A = some (A.set W (.row (wrow nw all ms) 67 false)) :=
  aStore_row h ti22 (by rw [t22_size]; rfl) rfl rfl

/-- The contract of Len64. -/
def R27 : Tgt → List Value → ASt → (Value → ASt → Prop) → Prop := fun t args A S => ∃ x : Nat, x < 18446744073709551616 ∧ t = .fn 43 ∧ args = [.int .u64 (x : Int)] ∧ S = fun v A' => v = .int .i64 ((Lib.bitLen x : Nat) : Int) ∧ A' = A
theorem R27_ok (t args A S) (h : R27 t args A S) : CallT Z Tryd.prog t args A S := by
  obtain ⟨x, hx, rfl, rfl, rfl⟩ := h
  exact len64 x hx A
theorem con27 {x : Nat} (hx : x < 18446744073709551616) {A : ASt} {K : Value → ASt → Prop} (h : K (.int .i64 ((Lib.bitLen x : Nat) : Int)) A) : conC R27 (.fn 43) [.int .u64 (x : Int)] A K := by
  refine ⟨⟨_, x, hx, rfl, rfl, rfl⟩, ?_⟩
  rintro S ⟨y, hy, _, ha, rfl⟩ v A' ⟨rfl, rfl⟩
  simp only [List.cons.injEq, Value.int.injEq, Int.natCast_inj, and_true, true_and] at ha
  subst ha
  exact h

/-- Timers in a row. -/
def tcells : List (ByteArray × Nat) → List Value
  | [] => []
  | t :: l => .string t.1 :: .int .u64 (t.2 : Nat) :: tcells l
/-- In order of deadlines, then names. -/
noncomputable def blt (x y : ByteArray) : Bool := bytesLt x.data.toList y.data.toList
def tlt (x y : ByteArray × Nat) : Prop := x.2 < y.2 ∨ (x.2 = y.2 ∧ blt x.1 y.1 = true)
/-- These are a set's timers, in order. -/
structure Lists (D : TM) (ts : List (ByteArray × Nat)) : Prop where
  mem : ∀ k a, (k, a) ∈ ts ↔ D k = some a
  ord : ts.Pairwise tlt
def SliceAt (A : ASt) (lo : Nat) (v : Value) (ts : List (ByteArray × Nat)) : Prop :=
  (ts = [] ∧ v = .slice none 0 0) ∨ ∃ b cap rest tl, v = .slice (some ⟨b, 0, none⟩) ts.length cap ∧ A.get b = some (.row (tcells ts ++ rest) 2 tl) ∧ lo ≤ b ∧ b < A.next ∧ cap = unk ∧ rest = [] ∧ tl = true
def Srt (D : TM) (A : ASt) (v : Value) (A' : ASt) : Prop := ∃ ts, Lists D ts ∧ SliceAt A' A.next v ts ∧ Fr [] A A'

/-- In the midst of an advance: the places that 'D' names are emptied. -/
structure Adv (A0 A : ASt) (W all now : Nat) (ms : List Nat) (M : TM) (nw p3 p5 p6 d lf : Nat) (D : Nat → Bool) : Prop where
  row : A.get W = some (.row (wrow now all ms) 67 false)
  allm : Holds A all M
  slot : ∀ i m, ms[i]? = some m → Holds A m (if D i then (fun _ => none) else M.at_ now i)
  due : Holds A d (fun k => (M k).filter fun a => D (plc now a) && decide (a ≤ nw))
  lft : Holds A lf (fun k => (M k).filter fun a => D (plc now a) && !decide (a ≤ nw))
  h3 : A.get p3 = some (.row [.int .u64 (nw : Int)] 1 false)
  h5 : A.get p5 = some (.row [.map (some d)] 1 false)
  h6 : A.get p6 = some (.row [.map (some lf)] 1 false)
  nodup : (W :: all :: d :: lf :: ms).Nodup
  below : ∀ b ∈ W :: all :: d :: lf :: p3 :: p5 :: p6 :: ms, b < A.next
  new : ∀ b ∈ [d, lf, p3, p5, p6], A0.next ≤ b
  fr : Fr (W :: all :: ms) A0 A

theorem over_at {M : TM} {now i : Nat} {D p : Nat → Bool} : TM.over (fun k => (M k).filter fun a => D (plc now a) && p a) (M.at_ now i) p = fun k => (M k).filter fun a => (D (plc now a) || decide (plc now a = i)) && p a := by
  funext k
  unfold TM.over TM.at_
  cases hk : M k with
  | none => simp [hk]
  | some a =>
    by_cases hp : plc now a = i
    · by_cases hpa : p a = true <;> simp [Option.filter, hk, hp, hpa]
    · simp [Option.filter, hk, hp]

theorem Adv.step {A0 A : ASt} {W all now : Nat} {ms : List Nat} {M : TM} {nw p3 p5 p6 d lf : Nat} {D : Nat → Bool} (h : Adv A0 A W all now ms M nw p3 p5 p6 d lf D) {i m : Nat} (hm : ms[i]? = some m) (hD : D i = false) :
    CallW Z Tryd.prog 44 [.map (some m), .pointer (some ⟨p3, 0, none⟩), .pointer (some ⟨p5, 0, none⟩), .pointer (some ⟨p6, 0, none⟩)] A (fun _ A' => Adv A0 A' W all now ms M nw p3 p5 p6 d lf (fun j => D j || decide (j = i))) := by
  have hmem := List.mem_of_getElem? hm
  have hn := h.nodup
  simp only [List.nodup_cons, List.mem_cons, not_or] at hn
  obtain ⟨⟨w1, w2, w3, w4⟩, ⟨a1, a2, a3⟩, ⟨d1, d2⟩, l1, hms⟩ := hn
  have nd : m ≠ d := fun e => d2 (e ▸ hmem)
  have nl : m ≠ lf := fun e => l1 (e ▸ hmem)
  have hsl := h.slot i m hm
  simp only [hD, Bool.false_eq_true, if_false] at hsl
  refine (empty_spec h.h3 h.h5 h.h6 hsl h.due h.lft nd nl d1 (fun b hb => h.below b (by simp at hb ⊢; rcases hb with rfl | rfl | rfl | rfl | rfl | rfl <;> simp [hmem]))).mono ?_
  rintro _ A' ⟨g1, g2, g3, f⟩
  have keep : ∀ b, b < A.next → b ≠ m → b ≠ d → b ≠ lf → A'.get b = A.get b := fun b hb e1 e2 e3 => f.get b hb (by simp [e1, e2, e3])
  have bel : ∀ b ∈ W :: all :: d :: lf :: p3 :: p5 :: p6 :: ms, b < A'.next := fun b hb => Nat.lt_of_lt_of_le (h.below b hb) f.next
  have ne : ∀ {p : Nat} {c : List Value} {sz : Nat} {tl : Bool}, A.get p = some (.row c sz tl) → ∀ {q : Nat} {T : TM}, Holds A q T → p ≠ q := by
    rintro p c sz tl hp q T ⟨_, _, hq, _⟩ rfl
    rw [hp] at hq
    cases hq
  have krow : ∀ {p : Nat} {c : List Value} {sz : Nat} {tl : Bool}, p < A.next → A.get p = some (.row c sz tl) → A'.get p = some (.row c sz tl) := fun hp hr => by
    rw [keep _ hp (ne hr hsl) (ne hr h.due) (ne hr h.lft)]; exact hr
  refine ⟨krow (h.below W (by simp)) h.row, h.allm.congr (keep all (h.below all (by simp)) (fun e => a3 (e ▸ hmem)) a1 a2), fun j m' hj => ?_, g2.ext fun k => ?_, g3.ext fun k => ?_, krow (h.below p3 (by simp)) h.h3, krow (h.below p5 (by simp)) h.h5, krow (h.below p6 (by simp)) h.h6, h.nodup, bel, h.new, ?_⟩
  · have hj' := List.mem_of_getElem? hj
    by_cases e : j = i
    · subst e
      rw [hm] at hj; cases hj
      simp only [decide_true, Bool.or_true, if_true]
      exact g1
    · have em : m' ≠ m := fun em => e (by
        subst em
        obtain ⟨x1, x2⟩ := List.getElem?_eq_some_iff.1 hj
        obtain ⟨y1, y2⟩ := List.getElem?_eq_some_iff.1 hm
        rcases Nat.lt_trichotomy j i with hlt | he | hlt
        · exact absurd (x2.trans y2.symm) (List.pairwise_iff_getElem.1 hms j i x1 y1 hlt)
        · exact he
        · exact absurd (y2.trans x2.symm) (List.pairwise_iff_getElem.1 hms i j y1 x1 hlt))
      simp only [e, decide_false, Bool.or_false]
      exact (h.slot j m' hj).congr (keep m' (h.below m' (by simp [hj'])) em (fun e => d2 (e ▸ hj')) (fun e => l1 (e ▸ hj')))
  · rw [over_at]
  · rw [over_at (p := fun a => !decide (a ≤ nw))]
  · refine ⟨Nat.le_trans h.fr.next f.next, fun b hb hno => ?_⟩
    rw [f.get b (Nat.lt_of_lt_of_le hb h.fr.next) ?_, h.fr.get b hb hno]
    have n1 := h.new d (by simp)
    have n2 := h.new lf (by simp)
    simp only [List.mem_cons, List.not_mem_nil, or_false, not_or]
    exact ⟨fun e => hno (by simp [e, hmem]), by omega, by omega⟩

theorem CodeW.label' {n : Nat} {ro : Option Nat} {l : Nat} {T : Tmps} {A : ASt} {Q : Out → Prop} (h : Q (.fr ⟨.normal, T, A⟩)) : CodeW Z Tryd.prog n ro (.label l) T A Q :=
  fun ρ w a N rr hR hro ht hn hd => wpIn_label ⟨.normal, T, A, h, trivial, ρ, ht, .refl (Z.rep hR), hn, hd⟩

structure AdvT (T : Tmps) (W p3 p5 p6 ps : Nat) : Prop where
  t0 : tget T 0 = .pointer (some ⟨W, 0, none⟩)
  t3 : tget T 3 = .pointer (some ⟨p3, 0, none⟩)
  t5 : tget T 5 = .pointer (some ⟨p5, 0, none⟩)
  t6 : tget T 6 = .pointer (some ⟨p6, 0, none⟩)
  t7 : tget T 7 = .int .i64 (ps : Int)
  t8 : tget T 8 = .func (.func 44) #[] #[.pointer (some ⟨p3, 0, none⟩), .pointer (some ⟨p5, 0, none⟩), .pointer (some ⟨p6, 0, none⟩)]
theorem AdvT.congr {T T' : Tmps} {W p3 p5 p6 ps : Nat} (h : AdvT T W p3 p5 p6 ps) (e : ∀ t ∈ [0, 3, 5, 6, 7, 8], tget T' t = tget T t) : AdvT T' W p3 p5 p6 ps :=
  ⟨(e 0 (by simp)).trans h.t0, (e 3 (by simp)).trans h.t3, (e 5 (by simp)).trans h.t5, (e 6 (by simp)).trans h.t6, (e 7 (by simp)).trans h.t7, (e 8 (by simp)).trans h.t8⟩
theorem Adv.congrD {A0 A : ASt} {W all now : Nat} {ms : List Nat} {M : TM} {nw p3 p5 p6 d lf : Nat} {D D' : Nat → Bool} (h : Adv A0 A W all now ms M nw p3 p5 p6 d lf D) (e : ∀ i, i < 65 → D i = D' i) (hl : ms.length = 65) : Adv A0 A W all now ms M nw p3 p5 p6 d lf D' := by
  have e1 : ∀ a, D (plc now a) = D' (plc now a) := fun a => e _ plc_lt
  refine ⟨h.row, h.allm, fun i m hm => ?_, ?_, ?_, h.h3, h.h5, h.h6, h.nodup, h.below, h.new, h.fr⟩
  · have := (List.getElem?_eq_some_iff.1 hm).1
    rw [← e i (by omega)]
    exact h.slot i m hm
  · have := h.due
    simpa only [e1] using this
  · have := h.lft
    simpa only [e1] using this
theorem Adv.congrA {A0 A A' : ASt} {W all now : Nat} {ms : List Nat} {M : TM} {nw p3 p5 p6 d lf : Nat} {D : Nat → Bool} (h : Adv A0 A W all now ms M nw p3 p5 p6 d lf D) (e : ∀ b, A'.get b = A.get b) (hn : A.next ≤ A'.next) : Adv A0 A' W all now ms M nw p3 p5 p6 d lf D :=
  ⟨(e W).trans h.row, h.allm.congr (e all), fun i m hm => (h.slot i m hm).congr (e m), h.due.congr (e d), h.lft.congr (e lf), (e p3).trans h.h3, (e p5).trans h.h5, (e p6).trans h.h6, h.nodup, fun b hb => Nat.lt_of_lt_of_le (h.below b hb) hn, h.new, ⟨Nat.le_trans h.fr.next hn, fun b hb hno => (e b).trans (h.fr.get b hb hno)⟩⟩
noncomputable def dels (M : TM) (done : List UE) : TM := fun k => if (uget done k).isSome then none else M k
theorem dels_snoc {M : TM} {done : List UE} {x : UE} : dels M (done ++ [x]) = (dels M done).del x.1 := by
  funext k
  unfold dels TM.del
  rw [uget_snoc]
  by_cases e : k = x.1
  · simp [e]
  · simp [e]
theorem Holds.delete {A : ASt} {m : Nat} {M : TM} (h : Holds A m M) (k : ByteArray) : ∃ A', aDelete E0 82 (.map (some m)) (.string k) A = .val undef A' ∧ Holds A' m (M.del k) ∧ Fr [m] A A' := by
  obtain ⟨l, ck, hl, hok, hg⟩ := h
  have := deleteT hl k
  by_cases hs : (uget l k).isSome = true
  · rw [if_pos hs] at this
    refine ⟨_, this, ⟨_, _, by rw [ASt.get_set, if_pos rfl], udel_ok hok, fun j => ?_⟩, Nat.le_refl _, fun b _ hn => by rw [ASt.get_set, if_neg (by simpa using hn)]⟩
    rw [uget_udel hok.keys, hg]; rfl
  · rw [if_neg hs] at this
    refine ⟨_, this, ⟨l, ck, hl, hok, fun j => ?_⟩, .refl _ _⟩
    have hn : M k = none := by rw [← hg]; simpa using hs
    rw [hg]
    unfold TM.del
    by_cases e : j = k <;> simp [e, hn]
theorem Holds.update {A : ASt} {m : Nat} {M : TM} (h : Holds A m M) (k : ByteArray) (a : Nat) : ∃ A', aMapUpdate E0 82 (.map (some m)) (.string k) (.int .u64 (a : Int)) A = some A' ∧ Holds A' m (M.put k a) ∧ Fr [m] A A' := by
  obtain ⟨l, ck, hl, hok, hg⟩ := h
  refine ⟨_, updateT hl k a, ⟨_, _, by rw [ASt.get_set, if_pos rfl], uput_ok hok, fun j => ?_⟩, Nat.le_refl _, fun b _ hn => by rw [ASt.get_set, if_neg (by simpa using hn)]⟩
  rw [uget_uput, hg]; rfl
theorem Holds.block {A : ASt} {m : Nat} {M : TM} (h : Holds A m M) {c : List Value} {sz : Nat} {tl : Bool} {p : Nat} (hp : A.get p = some (.row c sz tl)) : p ≠ m := by
  rintro rfl
  obtain ⟨l, ck, hl, _⟩ := h
  rw [hp] at hl
  cases hl

theorem wrap_succ {n : Nat} (h : n < 1000000) : IntKind.i64.wrap ((n : Int) + 1) = ((n + 1 : Nat) : Int) := by rw [IntKind.wrap_i64]; omega

theorem pas_int {b : Nat} (h : b ≤ 64) : IntKind.i64.wrap ((IntKind.i64.wrap (IntKind.i64.wrap ((b : Int) + 4) - 1)).tdiv 4) = (((b + 3) / 4 : Nat) : Int) := by
  have : ∀ b : Fin 65, IntKind.i64.wrap ((IntKind.i64.wrap (IntKind.i64.wrap (((b.1 : Nat) : Int) + 4) - 1)).tdiv 4) = (((b.1 + 3) / 4 : Nat) : Int) := by decide +kernel
  exact this ⟨b, by omega⟩

theorem adv_walk {A : ASt} {W all now nw : Nat} {ms : List Nat} {M : TM} (h : WheelAt A W all ms now M) (hnw : nw < 18446744073709551616)
    (hs : ∀ {A : ASt} {d : Nat} {D : TM}, Holds A d D → (∀ k a, D k = some a → M k = some a) → d < A.next → CallW Z Tryd.prog 45 [.map (some d)] A (Srt D A)) :
    CallW Z Tryd.prog 28 [.pointer (some ⟨W, 0, none⟩), .int .u64 (nw : Int)] A (fun v A' => if nw < now then v = .slice none 0 0 ∧ WheelAt A' W all ms now M ∧ Fr (W :: all :: ms) A A' else ∃ ts, Lists (fun k => (M k).filter fun a => decide (a ≤ nw)) ts ∧ SliceAt A' A.next v ts ∧ WheelAt A' W all ms nw (fun k => (M k).filter fun a => decide (nw < a)) ∧ Fr (W :: all :: ms) A A') := by
  refine CallW.of_code E0_ok E0_ro fn28 rfl (n := 95) rfl (rs := [.tmp 4]) rfl (by simp) (codeW_ok E0_ok E0_ro ?_)
  have hW := h.row
  simp only [wrow_now, wrow_all, eqnil25, oneW_next, s_0, s_1, s_2, s_3, s_4, g_0, w_0, w_wh, Hands, handsV, resultsV, oneOrTuple, argsT, ev, evs, evPairs, evOpt, closed, flat, nth, aCall, aEnter, notYield, aNilCheck, partV, isAggD, aFieldAddr, aField, aExtract, Option.isNone, aBuiltin, aUn, cond_true, cond_false, cond_dec, if_true, if_false, List.length_cons, List.length_nil, forall_const, implies_true, List.append_nil, List.cons_append, List.nil_append, eq_self, Nat.reduceEqDiff, Nat.reduceAdd, Nat.reduceMul, Nat.reduceSub, Nat.reduceLT, Nat.reduceLeDiff, Nat.reduceBEq, reduceIte, reduceCtorEq, box22, ptrTo]
  refine CodeW.quiet E0_ok E0_ro mixed (by kernel_rfl) (by kernel_rfl) ?_
  have hWb := h.below W (by simp)
  have hne : W ≠ A.next := by omega
  have hx : nw ^^^ now < 18446744073709551616 := Nat.xor_lt_two_pow (n := 64) (by omega) (by have := h.nowlt; omega)
  simp only [wrow_now, wrow_all, eqnil25, oneW_next, s_0, s_1, s_2, s_3, s_4, g_0, w_0, w_wh, Hands, handsV, resultsV, oneOrTuple, argsT, ev, evs, evPairs, evOpt, closed, flat, nth, aCall, aEnter, notYield, aNilCheck, partV, isAggD, aFieldAddr, aField, aExtract, Option.isNone, aBuiltin, aUn, cond_true, cond_false, cond_dec, if_true, if_false, List.length_cons, List.length_nil, forall_const, implies_true, List.append_nil, List.cons_append, List.nil_append, eq_self, Nat.reduceEqDiff, Nat.reduceAdd, Nat.reduceMul, Nat.reduceSub, Nat.reduceLT, Nat.reduceLeDiff, Nat.reduceBEq, reduceIte, reduceCtorEq, quietW_nil, quietW_arr, quietW_cons, aStill, freshOp, quietOp, E0_ron, get_empty, get_next, ofVal_none, valEq_int, valEq_str, valEq_bool, valEq_map, valEq_ptr, valEq_slice, valEq_nilSlice, valEq_mapNil, List.length_cons, List.length_nil, if_neg hne, hW]
  refine brW_dec (fun hlt => ?_) (fun hlt => ?_)
  · have hlt' : nw < now := by omega
    simp only [wrow_now, wrow_all, eqnil25, oneW_next, s_0, s_1, s_2, s_3, s_4, g_0, w_0, w_wh, Hands, handsV, resultsV, oneOrTuple, argsT, ev, evs, evPairs, evOpt, closed, flat, nth, aCall, aEnter, notYield, aNilCheck, partV, isAggD, aFieldAddr, aField, aExtract, Option.isNone, aBuiltin, aUn, cond_true, cond_false, cond_dec, if_true, if_false, List.length_cons, List.length_nil, forall_const, implies_true, List.append_nil, List.cons_append, List.nil_append, eq_self, Nat.reduceEqDiff, Nat.reduceAdd, Nat.reduceMul, Nat.reduceSub, Nat.reduceLT, Nat.reduceLeDiff, Nat.reduceBEq, reduceIte, reduceCtorEq, hlt']
    refine ⟨h.congr ?_ fun b hb => ?_, ?_, fun b hb hn => ?_⟩
    · simp only [ASt.next_new]; omega
    · have := h.below b hb
      simp only [get_next, ASt.get_new]; rw [if_neg (by omega)]
    · simp only [ASt.next_new]; omega
    · simp only [get_next, ASt.get_new]; rw [if_neg (by omega)]
  · have hge : ¬ nw < now := by omega
    generalize hBd : ASt.mk (ASt.heap (A.new _)) _ = B
    have hBg : ∀ b, B.get b = if b = A.next then some (.row [.int .u64 (nw : Int)] 1 false) else A.get b := fun b => by rw [← hBd, get_next, ASt.get_new]
    have hBn : A.next < B.next := by rw [← hBd]; show A.next < A.next + 1 + _; omega
    clear hBd
    simp only [wrow_now, wrow_all, eqnil25, oneW_next, s_0, s_1, s_2, s_3, s_4, g_0, w_0, w_wh, Hands, handsV, resultsV, oneOrTuple, argsT, ev, evs, evPairs, evOpt, closed, flat, nth, aCall, aEnter, notYield, aNilCheck, partV, isAggD, aFieldAddr, aField, aExtract, Option.isNone, aBuiltin, aUn, cond_true, cond_false, cond_dec, if_true, if_false, List.length_cons, List.length_nil, forall_const, implies_true, List.append_nil, List.cons_append, List.nil_append, eq_self, Nat.reduceEqDiff, Nat.reduceAdd, Nat.reduceMul, Nat.reduceSub, Nat.reduceLT, Nat.reduceLeDiff, Nat.reduceBEq, reduceIte, reduceCtorEq, alloc59, ptrTo]
    rw [store59 (x := .map none) (by rw [ASt.get_new, if_pos (by rw [ASt.next_new])])]
    simp only [wrow_now, wrow_all, eqnil25, oneW_next, s_0, s_1, s_2, s_3, s_4, g_0, w_0, w_wh, Hands, handsV, resultsV, oneOrTuple, argsT, ev, evs, evPairs, evOpt, closed, flat, nth, aCall, aEnter, notYield, aNilCheck, partV, isAggD, aFieldAddr, aField, aExtract, Option.isNone, aBuiltin, aUn, cond_true, cond_false, cond_dec, if_true, if_false, List.length_cons, List.length_nil, forall_const, implies_true, List.append_nil, List.cons_append, List.nil_append, eq_self, Nat.reduceEqDiff, Nat.reduceAdd, Nat.reduceMul, Nat.reduceSub, Nat.reduceLT, Nat.reduceLeDiff, Nat.reduceBEq, reduceIte, reduceCtorEq, alloc59, ptrTo]
    rw [store59 (x := .map none) (by rw [ASt.get_new, if_pos (by rw [ASt.next_new, ASt.next_set, ASt.next_new, ASt.next_new])])]
    simp only [wrow_now, wrow_all, eqnil25, oneW_next, s_0, s_1, s_2, s_3, s_4, g_0, w_0, w_wh, Hands, handsV, resultsV, oneOrTuple, argsT, ev, evs, evPairs, evOpt, closed, flat, nth, aCall, aEnter, notYield, aNilCheck, partV, isAggD, aFieldAddr, aField, aExtract, Option.isNone, aBuiltin, aUn, cond_true, cond_false, cond_dec, if_true, if_false, List.length_cons, List.length_nil, forall_const, implies_true, List.append_nil, List.cons_append, List.nil_append, eq_self, Nat.reduceEqDiff, Nat.reduceAdd, Nat.reduceMul, Nat.reduceSub, Nat.reduceLT, Nat.reduceLeDiff, Nat.reduceBEq, reduceIte, reduceCtorEq, alloc59, ptrTo]
    generalize hCd : ASt.set _ (B.next + 1 + 1 + 1) _ = C
    have hCg : ∀ b, C.get b = if b = B.next + 1 + 1 + 1 then some (.row [.map (some (B.next + 1 + 1))] 1 false) else if b = B.next + 1 + 1 then some (.map [] 0) else if b = B.next + 1 then some (.row [.map (some B.next)] 1 false) else if b = B.next then some (.map [] 0) else B.get b := fun b => by
      rw [← hCd]
      simp only [ASt.get_set, ASt.get_new, ASt.next_new, ASt.next_set]
      by_cases e1 : b = B.next + 1 + 1 + 1
      · simp [e1]
      · by_cases e2 : b = B.next + 1 + 1
        · simp [e2]
        · by_cases e3 : b = B.next + 1
          · simp [e3]
          · simp [e1, e2, e3]
    have hCn : C.next = B.next + 4 := by rw [← hCd]; simp only [ASt.next_set, ASt.next_new]
    clear hCd
    refine CodeW.seqd E0_ok E0_ro mixed R27_ok [0, 1, 2, 3, 4, 5, 6, 7, 8, 9, 10] [] (by simp only [reorder, reoGo, strip, List.map_cons, List.map_nil, opAt, remap, nth, Option.map, σ, place', nbeq, List.length_cons, List.length_nil, Nat.reduceAdd, Nat.reduceLT, Nat.reduceEqDiff, if_true, if_false, reduceIte]; rfl) (by decide +kernel) (by kernel_rfl) (by kernel_rfl) (by kernel_rfl) ?_
    have c3 : C.get A.next = some (.row [.int .u64 (nw : Int)] 1 false) := by
      rw [hCg, if_neg (by omega), if_neg (by omega), if_neg (by omega), if_neg (by omega), hBg, if_pos rfl]
    have cW : C.get W = some (.row (wrow now all ms) 67 false) := by
      rw [hCg, if_neg (by omega), if_neg (by omega), if_neg (by omega), if_neg (by omega), hBg, if_neg (by omega)]; exact hW
    simp only [wrow_now, wrow_all, eqnil25, oneW_next, s_0, s_1, s_2, s_3, s_4, g_0, w_0, w_wh, Hands, handsV, resultsV, oneOrTuple, argsT, ev, evs, evPairs, evOpt, closed, flat, nth, aCall, aEnter, notYield, aNilCheck, partV, isAggD, aFieldAddr, aField, aExtract, Option.isNone, aBuiltin, aUn, cond_true, cond_false, cond_dec, if_true, if_false, List.length_cons, List.length_nil, forall_const, implies_true, List.append_nil, List.cons_append, List.nil_append, eq_self, Nat.reduceEqDiff, Nat.reduceAdd, Nat.reduceMul, Nat.reduceSub, Nat.reduceLT, Nat.reduceLeDiff, Nat.reduceBEq, reduceIte, reduceCtorEq, q_0, q_1, q_2, f_0, pendW, hasN, reorder, E0_ron, exists_eq', List.length_cons, List.length_nil, c3, cW, b_xor64 hnw h.nowlt]
    refine con27 hx ?_
    have hb : Lib.bitLen (nw ^^^ now) ≤ 64 := Lib.bitLen_le _ _ (by omega) hx
    simp only [wrow_now, wrow_all, eqnil25, oneW_next, s_0, s_1, s_2, s_3, s_4, g_0, w_0, w_wh, Hands, handsV, resultsV, oneOrTuple, argsT, ev, evs, evPairs, evOpt, closed, flat, nth, aCall, aEnter, notYield, aNilCheck, partV, isAggD, aFieldAddr, aField, aExtract, Option.isNone, aBuiltin, aUn, cond_true, cond_false, cond_dec, if_true, if_false, List.length_cons, List.length_nil, forall_const, implies_true, List.append_nil, List.cons_append, List.nil_append, eq_self, Nat.reduceEqDiff, Nat.reduceAdd, Nat.reduceMul, Nat.reduceSub, Nat.reduceLT, Nat.reduceLeDiff, Nat.reduceBEq, reduceIte, reduceCtorEq, q_0, q_1, q_2, f_0, pendW, hasN, reorder, E0_ron, exists_eq', List.length_cons, List.length_nil, b_quo (show (4 : Int) ≠ 0 by decide)]
    have hpas : IntKind.i64.wrap ((IntKind.i64.wrap (IntKind.i64.wrap (((Lib.bitLen (nw ^^^ now) : Nat) : Int) + 4) - 1)).tdiv 4) = (((Lib.bitLen (nw ^^^ now) + 3) / 4 : Nat) : Int) := pas_int hb
    simp only [hpas]
    have hp : (Lib.bitLen (nw ^^^ now) + 3) / 4 ≤ 16 := by omega
    generalize hpd : (Lib.bitLen (nw ^^^ now) + 3) / 4 = ps at hp
    refine CodeW.label' ?_
    simp only [wrow_now, wrow_all, eqnil25, oneW_next, s_0, s_1, s_2, s_3, s_4, g_0, w_0, w_wh, Hands, handsV, resultsV, oneOrTuple, argsT, ev, evs, evPairs, evOpt, closed, flat, nth, aCall, aEnter, notYield, aNilCheck, partV, isAggD, aFieldAddr, aField, aExtract, Option.isNone, aBuiltin, aUn, cond_true, cond_false, cond_dec, if_true, if_false, List.length_cons, List.length_nil, forall_const, implies_true, List.append_nil, List.cons_append, List.nil_append, eq_self, Nat.reduceEqDiff, Nat.reduceAdd, Nat.reduceMul, Nat.reduceSub, Nat.reduceLT, Nat.reduceLeDiff, Nat.reduceBEq, reduceIte, reduceCtorEq]
    have hadv0 : Adv A C W all now ms M nw A.next (B.next + 1) (B.next + 1 + 1 + 1) B.next (B.next + 1 + 1) (fun i => decide (i < 16 * 0)) := by
      have keep : ∀ b, b < A.next → C.get b = A.get b := fun b hb => by
        rw [hCg, if_neg (by omega), if_neg (by omega), if_neg (by omega), if_neg (by omega), hBg, if_neg (by omega)]
      have hbl := h.below
      refine ⟨cW, h.allm.congr (keep _ (hbl all (by simp))), fun i m hm => ?_, ?_, ?_, c3, ?_, ?_, ?_, ?_, ?_, ?_⟩
      · simp only [Nat.mul_zero, Nat.not_lt_zero, decide_false, Bool.false_eq_true, if_false]
        exact (h.slot i m hm).congr (keep _ (hbl m (by simp [List.mem_of_getElem? hm])))
      · refine ⟨[], 0, by rw [hCg, if_neg (by omega), if_neg (by omega), if_neg (by omega), if_pos rfl]; rfl, ⟨.nil, .nil, by simp⟩, fun k => ?_⟩
        cases hk : M k <;> simp [uget, Option.filter, hk]
      · refine ⟨[], 0, by rw [hCg, if_neg (by omega), if_pos rfl]; rfl, ⟨.nil, .nil, by simp⟩, fun k => ?_⟩
        cases hk : M k <;> simp [uget, Option.filter, hk]
      · rw [hCg, if_neg (by omega), if_neg (by omega), if_pos rfl]
      · rw [hCg, if_pos rfl]
      · have hn := h.nodup
        simp only [List.nodup_cons, List.mem_cons, not_or] at hn ⊢
        have b1 := hbl W (by simp)
        have b2 := hbl all (by simp)
        have b3 : ∀ m ∈ ms, m < A.next := fun m hm => hbl m (by simp [hm])
        refine ⟨⟨hn.1.1, by omega, by omega, hn.1.2⟩, ⟨by omega, by omega, hn.2.1⟩, ⟨by omega, fun hm => ?_⟩, fun hm => ?_, hn.2.2⟩
        · have := b3 _ hm; omega
        · have := b3 _ hm; omega
      · intro b hb
        simp only [List.mem_cons] at hb
        rw [hCn]
        rcases hb with rfl | rfl | rfl | rfl | rfl | rfl | rfl | hb
        · omega
        · have := hbl b (by simp); omega
        · omega
        · omega
        · omega
        · omega
        · omega
        · have := hbl b (by simp [hb]); omega
      · intro b hb
        simp only [List.mem_cons, List.not_mem_nil, or_false] at hb
        rcases hb with rfl | rfl | rfl | rfl | rfl <;> omega
      · exact ⟨by omega, fun b hb _ => keep b hb⟩
    generalize B.next + 1 + 1 + 1 = p6 at hadv0 ⊢
    generalize B.next + 1 + 1 = lf at hadv0 ⊢
    generalize B.next + 1 = p5 at hadv0 ⊢
    generalize B.next = d at hadv0 ⊢
    generalize A.next = p3 at hadv0 ⊢
    refine CodeW.mono (Q := fun o => ∃ T' A', o = .fr ⟨.exit 0, T', A'⟩ ∧ AdvT T' W p3 p5 p6 ps ∧ Adv A A' W all now ms M nw p3 p5 p6 d lf (fun i => decide (i < 16 * min 4 ps))) ?_ ?_
    · refine CodeW.loopR (k := 4) (fun k T A' => ∃ L, k = 4 - L ∧ L ≤ 4 ∧ L ≤ ps ∧ tget T 37 = .int .i64 (L : Int) ∧ AdvT T W p3 p5 p6 ps ∧ Adv A A' W all now ms M nw p3 p5 p6 d lf (fun i => decide (i < 16 * L))) ?_ ⟨0, rfl, by omega, by omega, ?_, ?_, ?_⟩
      · rintro k T1 A1 ⟨L, rfl, h4, hL, t37, ht, ha⟩
        refine codeW_ok E0_ok E0_ro ?_
        simp only [wrow_now, wrow_all, eqnil25, oneW_next, s_0, s_1, s_2, s_3, s_4, g_0, w_0, w_wh, Hands, handsV, resultsV, oneOrTuple, argsT, ev, evs, evPairs, evOpt, closed, flat, nth, aCall, aEnter, notYield, aNilCheck, partV, isAggD, aFieldAddr, aField, aExtract, Option.isNone, aBuiltin, aUn, cond_true, cond_false, cond_dec, if_true, if_false, List.length_cons, List.length_nil, forall_const, implies_true, List.append_nil, List.cons_append, List.nil_append, eq_self, Nat.reduceEqDiff, Nat.reduceAdd, Nat.reduceMul, Nat.reduceSub, Nat.reduceLT, Nat.reduceLeDiff, Nat.reduceBEq, reduceIte, reduceCtorEq, t37]
        refine brW_dec (fun hl4 => ?_) (fun hl4 => ?_)
        · have hl4' : L < 4 := by omega
          simp only [wrow_now, wrow_all, eqnil25, oneW_next, s_0, s_1, s_2, s_3, s_4, g_0, w_0, w_wh, Hands, handsV, resultsV, oneOrTuple, argsT, ev, evs, evPairs, evOpt, closed, flat, nth, aCall, aEnter, notYield, aNilCheck, partV, isAggD, aFieldAddr, aField, aExtract, Option.isNone, aBuiltin, aUn, cond_true, cond_false, cond_dec, if_true, if_false, List.length_cons, List.length_nil, forall_const, implies_true, List.append_nil, List.cons_append, List.nil_append, eq_self, Nat.reduceEqDiff, Nat.reduceAdd, Nat.reduceMul, Nat.reduceSub, Nat.reduceLT, Nat.reduceLeDiff, Nat.reduceBEq, reduceIte, reduceCtorEq, t37]
          refine CodeW.mono (Q := fun o => (∃ T' A', o = .fr ⟨.exit 2, T', A'⟩ ∧ L < ps ∧ tget T' 37 = .int .i64 (L : Int) ∧ AdvT T' W p3 p5 p6 ps ∧ Adv A A' W all now ms M nw p3 p5 p6 d lf (fun i => decide (i < 16 * L + 16))) ∨ (∃ T' A', o = .fr ⟨.exit 0, T', A'⟩ ∧ L = ps ∧ AdvT T' W p3 p5 p6 ps ∧ Adv A A' W all now ms M nw p3 p5 p6 d lf (fun i => decide (i < 16 * L)))) ?_ ?_
          · refine CodeW.loopR (k := 16) (fun k T A' => ∃ j, k = 16 - j ∧ j ≤ 16 ∧ (0 < j → L < ps) ∧ tget T 40 = .int .i64 (j : Int) ∧ tget T 9 = .int .i64 (L : Int) ∧ tget T 37 = .int .i64 (L : Int) ∧ AdvT T W p3 p5 p6 ps ∧ Adv A A' W all now ms M nw p3 p5 p6 d lf (fun i => decide (i < 16 * L + j))) ?_ ⟨0, rfl, by omega, by omega, ?_, ?_, ?_, ?_, ?_⟩
            · rintro k T2 A2 ⟨j, rfl, hj, hjl, u40, u9, u37, ut, ua⟩
              refine codeW_ok E0_ok E0_ro ?_
              simp only [wrow_now, wrow_all, eqnil25, oneW_next, s_0, s_1, s_2, s_3, s_4, g_0, w_0, w_wh, Hands, handsV, resultsV, oneOrTuple, argsT, ev, evs, evPairs, evOpt, closed, flat, nth, aCall, aEnter, notYield, aNilCheck, partV, isAggD, aFieldAddr, aField, aExtract, Option.isNone, aBuiltin, aUn, cond_true, cond_false, cond_dec, if_true, if_false, List.length_cons, List.length_nil, forall_const, implies_true, List.append_nil, List.cons_append, List.nil_append, eq_self, Nat.reduceEqDiff, Nat.reduceAdd, Nat.reduceMul, Nat.reduceSub, Nat.reduceLT, Nat.reduceLeDiff, Nat.reduceBEq, reduceIte, reduceCtorEq, u40]
              refine brW_dec (fun hj6 => ?_) (fun hj6 => ?_)
              · have hj6' : j < 16 := by omega
                have t0 := ut.t0
                have t7 := ut.t7
                have t8 := ut.t8
                simp only [wrow_now, wrow_all, eqnil25, oneW_next, s_0, s_1, s_2, s_3, s_4, g_0, w_0, w_wh, Hands, handsV, resultsV, oneOrTuple, argsT, ev, evs, evPairs, evOpt, closed, flat, nth, aCall, aEnter, notYield, aNilCheck, partV, isAggD, aFieldAddr, aField, aExtract, Option.isNone, aBuiltin, aUn, cond_true, cond_false, cond_dec, if_true, if_false, List.length_cons, List.length_nil, forall_const, implies_true, List.append_nil, List.cons_append, List.nil_append, eq_self, Nat.reduceEqDiff, Nat.reduceAdd, Nat.reduceMul, Nat.reduceSub, Nat.reduceLT, Nat.reduceLeDiff, Nat.reduceBEq, reduceIte, reduceCtorEq, u40, u9, u37, t7]
                refine brW_dec (fun hge => ?_) (fun hge => ?_)
                · have e0 : j = 0 := by omega
                  subst e0
                  simp only [wrow_now, wrow_all, eqnil25, oneW_next, s_0, s_1, s_2, s_3, s_4, g_0, w_0, w_wh, Hands, handsV, resultsV, oneOrTuple, argsT, ev, evs, evPairs, evOpt, closed, flat, nth, aCall, aEnter, notYield, aNilCheck, partV, isAggD, aFieldAddr, aField, aExtract, Option.isNone, aBuiltin, aUn, cond_true, cond_false, cond_dec, if_true, if_false, List.length_cons, List.length_nil, forall_const, implies_true, List.append_nil, List.cons_append, List.nil_append, eq_self, Nat.reduceEqDiff, Nat.reduceAdd, Nat.reduceMul, Nat.reduceSub, Nat.reduceLT, Nat.reduceLeDiff, Nat.reduceBEq, reduceIte, reduceCtorEq]
                  exact .inr ⟨_, _, rfl, by omega, (ut.congr (by intro t ht'; simp only [List.mem_cons, List.not_mem_nil, or_false] at ht'; rcases ht' with rfl | rfl | rfl | rfl | rfl | rfl <;> simp only [tget_put, Nat.reduceEqDiff, if_false, reduceIte])), ua.congrD (fun i hi => by simp) h.len⟩
                · have hLp : L < ps := by omega
                  have uW := ua.row
                  have hix : 16 * L + j < ms.length := by rw [h.len]; omega
                  have hm : ms[16 * L + j]? = some ms[16 * L + j] := List.getElem?_eq_getElem _
                  have hsl : nth (wrow now all ms) (2 + L * 16 + j) = some (.map (some ms[16 * L + j])) := by
                    have := wrow_slot (now := now) (all := all) (ms := ms) (k := 16 * L + j) hix
                    rw [← this]; congr 1; omega
                  have ei1 : ∀ o, aIndexAddr E0 84 (.pointer (some ⟨W, o, none⟩)) (.int .i64 (L : Int)) = some (.pointer (some ⟨W, o + L * 16, none⟩)) := fun o => by
                    have := indexAddr_arr (A := A2) ti84 t84_desc ti83 (kd := .i64) (k := L) (b := W) (off := o) hl4'
                    rwa [t83_size] at this
                  have ei2 : ∀ o, aIndexAddr E0 83 (.pointer (some ⟨W, o, none⟩)) (.int .i64 (j : Int)) = some (.pointer (some ⟨W, o + j, none⟩)) := fun o => by
                    have := indexAddr_arr (A := A2) ti83 t83_desc ti82 (kd := .i64) (k := j) (b := W) (off := o) hj6'
                    rwa [t82_size, Nat.mul_one] at this
                  have t0 := ut.t0
                  have t8 := ut.t8
                  simp only [wrow_now, wrow_all, eqnil25, oneW_next, s_0, s_1, s_2, s_3, s_4, g_0, w_0, w_wh, Hands, handsV, resultsV, oneOrTuple, argsT, ev, evs, evPairs, evOpt, closed, flat, nth, aCall, aEnter, notYield, aNilCheck, partV, isAggD, aFieldAddr, aField, aExtract, Option.isNone, aBuiltin, aUn, cond_true, cond_false, cond_dec, if_true, if_false, List.length_cons, List.length_nil, forall_const, implies_true, List.append_nil, List.cons_append, List.nil_append, eq_self, Nat.reduceEqDiff, Nat.reduceAdd, Nat.reduceMul, Nat.reduceSub, Nat.reduceLT, Nat.reduceLeDiff, Nat.reduceBEq, reduceIte, reduceCtorEq, u9, t0, t8, uW, ei1, ei2, hsl, aInvoke_func]
                  refine CallT.mono (ua.step hm (by simp)) ?_
                  rintro _ A3 ua3
                  simp only [wrow_now, wrow_all, eqnil25, oneW_next, s_0, s_1, s_2, s_3, s_4, g_0, w_0, w_wh, Hands, handsV, resultsV, oneOrTuple, argsT, ev, evs, evPairs, evOpt, closed, flat, nth, aCall, aEnter, notYield, aNilCheck, partV, isAggD, aFieldAddr, aField, aExtract, Option.isNone, aBuiltin, aUn, cond_true, cond_false, cond_dec, if_true, if_false, List.length_cons, List.length_nil, forall_const, implies_true, List.append_nil, List.cons_append, List.nil_append, eq_self, Nat.reduceEqDiff, Nat.reduceAdd, Nat.reduceMul, Nat.reduceSub, Nat.reduceLT, Nat.reduceLeDiff, Nat.reduceBEq, reduceIte, reduceCtorEq, u40, wrap_succ (show j < 1000000 by omega)]
                  exact ⟨16 - (j + 1), by omega, j + 1, rfl, by omega, fun _ => hLp, rfl, u9, u37, (ut.congr (by intro t ht'; simp only [List.mem_cons, List.not_mem_nil, or_false] at ht'; rcases ht' with rfl | rfl | rfl | rfl | rfl | rfl <;> simp only [tget_put, Nat.reduceEqDiff, if_false, reduceIte])), ua3.congrD (fun i hi => by rw [Bool.eq_iff_iff]; simp only [Bool.or_eq_true, decide_eq_true_eq]; omega) h.len⟩
              · have e16 : j = 16 := by omega
                subst e16
                simp only [wrow_now, wrow_all, eqnil25, oneW_next, s_0, s_1, s_2, s_3, s_4, g_0, w_0, w_wh, Hands, handsV, resultsV, oneOrTuple, argsT, ev, evs, evPairs, evOpt, closed, flat, nth, aCall, aEnter, notYield, aNilCheck, partV, isAggD, aFieldAddr, aField, aExtract, Option.isNone, aBuiltin, aUn, cond_true, cond_false, cond_dec, if_true, if_false, List.length_cons, List.length_nil, forall_const, implies_true, List.append_nil, List.cons_append, List.nil_append, eq_self, Nat.reduceEqDiff, Nat.reduceAdd, Nat.reduceMul, Nat.reduceSub, Nat.reduceLT, Nat.reduceLeDiff, Nat.reduceBEq, reduceIte, reduceCtorEq]
                exact .inl ⟨_, _, rfl, hjl (by omega), by simp only [tget_put, Nat.reduceEqDiff, if_false, if_true, reduceIte]; exact u37, (ut.congr (by intro t ht'; simp only [List.mem_cons, List.not_mem_nil, or_false] at ht'; rcases ht' with rfl | rfl | rfl | rfl | rfl | rfl <;> simp only [tget_put, Nat.reduceEqDiff, if_false, reduceIte])), ua⟩
            · simp only [tget_put, Nat.reduceEqDiff, if_false, if_true, reduceIte]; rfl
            · simp only [tget_put, Nat.reduceEqDiff, if_false, if_true, reduceIte]
            · simp only [tget_put, Nat.reduceEqDiff, if_false, if_true, reduceIte]; exact t37
            · exact (ht.congr (by intro t ht'; simp only [List.mem_cons, List.not_mem_nil, or_false] at ht'; rcases ht' with rfl | rfl | rfl | rfl | rfl | rfl <;> simp only [tget_put, Nat.reduceEqDiff, if_false, reduceIte]))
            · exact ha
          · rintro o (⟨T', A', rfl, hlt, u37, ut, ua⟩ | ⟨T', A', rfl, hlt, ut, ua⟩)
            · simp only [wrow_now, wrow_all, eqnil25, oneW_next, s_0, s_1, s_2, s_3, s_4, g_0, w_0, w_wh, Hands, handsV, resultsV, oneOrTuple, argsT, ev, evs, evPairs, evOpt, closed, flat, nth, aCall, aEnter, notYield, aNilCheck, partV, isAggD, aFieldAddr, aField, aExtract, Option.isNone, aBuiltin, aUn, cond_true, cond_false, cond_dec, if_true, if_false, List.length_cons, List.length_nil, forall_const, implies_true, List.append_nil, List.cons_append, List.nil_append, eq_self, Nat.reduceEqDiff, Nat.reduceAdd, Nat.reduceMul, Nat.reduceSub, Nat.reduceLT, Nat.reduceLeDiff, Nat.reduceBEq, reduceIte, reduceCtorEq, u37, wrap_succ (show L < 1000000 by omega)]
              exact ⟨4 - (L + 1), by omega, L + 1, rfl, by omega, by omega, rfl, (ut.congr (by intro t ht'; simp only [List.mem_cons, List.not_mem_nil, or_false] at ht'; rcases ht' with rfl | rfl | rfl | rfl | rfl | rfl <;> simp only [tget_put, Nat.reduceEqDiff, if_false, reduceIte])), ua.congrD (fun i hi => by rw [Bool.eq_iff_iff]; simp only [decide_eq_true_eq]; omega) h.len⟩
            · simp only [wrow_now, wrow_all, eqnil25, oneW_next, s_0, s_1, s_2, s_3, s_4, g_0, w_0, w_wh, Hands, handsV, resultsV, oneOrTuple, argsT, ev, evs, evPairs, evOpt, closed, flat, nth, aCall, aEnter, notYield, aNilCheck, partV, isAggD, aFieldAddr, aField, aExtract, Option.isNone, aBuiltin, aUn, cond_true, cond_false, cond_dec, if_true, if_false, List.length_cons, List.length_nil, forall_const, implies_true, List.append_nil, List.cons_append, List.nil_append, eq_self, Nat.reduceEqDiff, Nat.reduceAdd, Nat.reduceMul, Nat.reduceSub, Nat.reduceLT, Nat.reduceLeDiff, Nat.reduceBEq, reduceIte, reduceCtorEq]
              exact ⟨_, _, rfl, ut, ua.congrD (fun i hi => by rw [Bool.eq_iff_iff]; simp only [decide_eq_true_eq]; omega) h.len⟩
        · have e4 : L = 4 := by omega
          subst e4
          simp only [wrow_now, wrow_all, eqnil25, oneW_next, s_0, s_1, s_2, s_3, s_4, g_0, w_0, w_wh, Hands, handsV, resultsV, oneOrTuple, argsT, ev, evs, evPairs, evOpt, closed, flat, nth, aCall, aEnter, notYield, aNilCheck, partV, isAggD, aFieldAddr, aField, aExtract, Option.isNone, aBuiltin, aUn, cond_true, cond_false, cond_dec, if_true, if_false, List.length_cons, List.length_nil, forall_const, implies_true, List.append_nil, List.cons_append, List.nil_append, eq_self, Nat.reduceEqDiff, Nat.reduceAdd, Nat.reduceMul, Nat.reduceSub, Nat.reduceLT, Nat.reduceLeDiff, Nat.reduceBEq, reduceIte, reduceCtorEq]
          exact ⟨_, _, rfl, (ht.congr (by intro t ht'; simp only [List.mem_cons, List.not_mem_nil, or_false] at ht'; rcases ht' with rfl | rfl | rfl | rfl | rfl | rfl <;> simp only [tget_put, Nat.reduceEqDiff, if_false, reduceIte])), ha.congrD (fun i hi => by rw [Bool.eq_iff_iff]; simp only [decide_eq_true_eq]; omega) h.len⟩
      · simp only [tget_put, Nat.reduceEqDiff, if_false, if_true, reduceIte]; rfl
      · constructor <;> simp only [tget_put, Nat.reduceEqDiff, if_false, if_true, reduceIte] <;> rfl
      · exact hadv0.congrA (fun b => rfl) (Nat.le_add_right _ _)
    · rintro o ⟨T', A1, rfl, ht, ha⟩
      have t0 := ht.t0
      have t7 := ht.t7
      have t8 := ht.t8
      simp only [wrow_now, wrow_all, eqnil25, oneW_next, s_0, s_1, s_2, s_3, s_4, g_0, w_0, w_wh, Hands, handsV, resultsV, oneOrTuple, argsT, ev, evs, evPairs, evOpt, closed, flat, nth, aCall, aEnter, notYield, aNilCheck, partV, isAggD, aFieldAddr, aField, aExtract, Option.isNone, aBuiltin, aUn, cond_true, cond_false, cond_dec, if_true, if_false, List.length_cons, List.length_nil, forall_const, implies_true, List.append_nil, List.cons_append, List.nil_append, eq_self, Nat.reduceEqDiff, Nat.reduceAdd, Nat.reduceMul, Nat.reduceSub, Nat.reduceLT, Nat.reduceLeDiff, Nat.reduceBEq, reduceIte, reduceCtorEq, t7]
      refine brW_join (fun T' A' => AdvT T' W p3 p5 p6 ps ∧ Adv A A' W all now ms M nw p3 p5 p6 d lf (fun i => decide (i < 16 * ps))) (fun h5 => ?_) (fun h5 => ?_) ?_
      · have h5' : 4 < ps := by have := of_decide_eq_true h5; omega
        have e4 : min 4 ps = 4 := by omega
        rw [e4] at ha
        have aW := ha.row
        have hix : 64 < ms.length := by rw [h.len]; omega
        have hm : ms[64]? = some ms[64] := List.getElem?_eq_getElem _
        have hsl : nth (wrow now all ms) 66 = some (.map (some ms[64])) := wrow_slot hix
        simp only [wrow_now, wrow_all, eqnil25, oneW_next, s_0, s_1, s_2, s_3, s_4, g_0, w_0, w_wh, Hands, handsV, resultsV, oneOrTuple, argsT, ev, evs, evPairs, evOpt, closed, flat, nth, aCall, aEnter, notYield, aNilCheck, partV, isAggD, aFieldAddr, aField, aExtract, Option.isNone, aBuiltin, aUn, cond_true, cond_false, cond_dec, if_true, if_false, List.length_cons, List.length_nil, forall_const, implies_true, List.append_nil, List.cons_append, List.nil_append, eq_self, Nat.reduceEqDiff, Nat.reduceAdd, Nat.reduceMul, Nat.reduceSub, Nat.reduceLT, Nat.reduceLeDiff, Nat.reduceBEq, reduceIte, reduceCtorEq, t0, t8, aW, hsl, aInvoke_func]
        refine CallT.mono (ha.step hm (by simp)) ?_
        rintro _ A3 ha3
        simp only [wrow_now, wrow_all, eqnil25, oneW_next, s_0, s_1, s_2, s_3, s_4, g_0, w_0, w_wh, Hands, handsV, resultsV, oneOrTuple, argsT, ev, evs, evPairs, evOpt, closed, flat, nth, aCall, aEnter, notYield, aNilCheck, partV, isAggD, aFieldAddr, aField, aExtract, Option.isNone, aBuiltin, aUn, cond_true, cond_false, cond_dec, if_true, if_false, List.length_cons, List.length_nil, forall_const, implies_true, List.append_nil, List.cons_append, List.nil_append, eq_self, Nat.reduceEqDiff, Nat.reduceAdd, Nat.reduceMul, Nat.reduceSub, Nat.reduceLT, Nat.reduceLeDiff, Nat.reduceBEq, reduceIte, reduceCtorEq]
        exact ⟨_, _, rfl, (ht.congr (by intro t ht'; simp only [List.mem_cons, List.not_mem_nil, or_false] at ht'; rcases ht' with rfl | rfl | rfl | rfl | rfl | rfl <;> simp only [tget_put, Nat.reduceEqDiff, if_false, reduceIte])), ha3.congrD (fun i hi => by rw [Bool.eq_iff_iff]; simp only [Bool.or_eq_true, decide_eq_true_eq]; omega) h.len⟩
      · have h5' : ps ≤ 4 := by have := of_decide_eq_false h5; omega
        exact codeW_skip ⟨_, _, rfl, (ht.congr (by intro t ht'; simp only [List.mem_cons, List.not_mem_nil, or_false] at ht'; rcases ht' with rfl | rfl | rfl | rfl | rfl | rfl <;> simp only [tget_put, Nat.reduceEqDiff, if_false, reduceIte])), ha.congrD (fun i hi => by rw [Bool.eq_iff_iff]; simp only [decide_eq_true_eq]; omega) h.len⟩
      · clear ha ht t0 t7 t8
        rintro T2 A2 ⟨ht, ha⟩
        have t0 := ht.t0
        have t3 := ht.t3
        have t5 := ht.t5
        have t6 := ht.t6
        have aW := ha.row
        have a3 := ha.h3
        have a5 := ha.h5
        have hst := storeNow (nw := nw) aW
        have hn5 := ha.new p5 (by simp)
        have hnd := ha.new d (by simp)
        have hnl := ha.new lf (by simp)
        have hbW : W < A.next := h.below W (by simp)
        obtain ⟨ed, ckd, hed, hokd, hgd⟩ := ha.due
        have hed' : (A2.set W (.row (wrow nw all ms) 67 false)).get d = some (.map (uEnts ed) ckd) := by rw [ASt.get_set, if_neg (by omega)]; exact hed
        have a5' : (A2.set W (.row (wrow nw all ms) 67 false)).get p5 = some (.row [.map (some d)] 1 false) := by rw [ASt.get_set, if_neg (by omega)]; exact a5
        simp only [wrow_now, wrow_all, eqnil25, oneW_next, s_0, s_1, s_2, s_3, s_4, g_0, w_0, w_wh, Hands, handsV, resultsV, oneOrTuple, argsT, ev, evs, evPairs, evOpt, closed, flat, nth, aCall, aEnter, notYield, aNilCheck, partV, isAggD, aFieldAddr, aField, aExtract, Option.isNone, aBuiltin, aUn, cond_true, cond_false, cond_dec, if_true, if_false, List.length_cons, List.length_nil, forall_const, implies_true, List.append_nil, List.cons_append, List.nil_append, eq_self, Nat.reduceEqDiff, Nat.reduceAdd, Nat.reduceMul, Nat.reduceSub, Nat.reduceLT, Nat.reduceLeDiff, Nat.reduceBEq, reduceIte, reduceCtorEq, t0, t3, t5, t6, a3, a5', hst, rangeT hed']
        have hXg : ∀ b, (A2.set W (.row (wrow nw all ms) 67 false)).get b = if b = W then some (.row (wrow nw all ms) 67 false) else A2.get b := fun b => by rw [ASt.get_set]
        have hXn : (A2.set W (.row (wrow nw all ms) 67 false)).next = A2.next := rfl
        generalize A2.set W (.row (wrow nw all ms) 67 false) = X at hXg hXn hed' a5' ⊢
        have hall := ha.allm
        have hbX : ∀ b ∈ W :: all :: d :: lf :: p3 :: p5 :: p6 :: ms, b < X.next := fun b hb => by rw [hXn]; exact ha.below b hb
        have hnod := ha.nodup
        simp only [List.nodup_cons, List.mem_cons, not_or] at hnod
        obtain ⟨⟨w1, w2, w3, w4⟩, ⟨al1, al2, al3⟩, ⟨d1, d2⟩, l1, hms⟩ := hnod
        have hXall : Holds X all M := hall.congr (by rw [hXg, if_neg (Ne.symm w1)])
        have XW : X.get W = some (.row (wrow nw all ms) 67 false) := by rw [hXg, if_pos rfl]
        have Xb : ∀ b ∈ W :: all :: d :: lf :: p3 :: p5 :: p6 :: ms, b ≠ X.next := fun b hb => by have := hbX b hb; omega
        refine CodeW.mono (Q := fun o => ∃ T' A' done, o = .fr ⟨.exit 4, T', A'⟩ ∧ InMap 71 X.next d ckd ed done T' A' ∧ (∀ x ∈ ed, x ∈ done) ∧ tget T' 0 = .pointer (some ⟨W, 0, none⟩) ∧ tget T' 5 = .pointer (some ⟨p5, 0, none⟩) ∧ tget T' 6 = .pointer (some ⟨p6, 0, none⟩) ∧ Holds A' all (dels M done) ∧ Fr [all] X A' ∧ X.next < A'.next) ?_ ?_
        · refine CodeW.mapLoop (it := 71) (r := X.next) (m := d) (ck := ckd) (l := ed) (J := fun done T A' => tget T 0 = .pointer (some ⟨W, 0, none⟩) ∧ tget T 5 = .pointer (some ⟨p5, 0, none⟩) ∧ tget T 6 = .pointer (some ⟨p6, 0, none⟩) ∧ Holds A' all (dels M done) ∧ Fr [all] X A' ∧ X.next < A'.next) ?_ ?_ ?_
          · rintro done T3 A3 hi ⟨u0, u5, u6, hd3, f3, nx3⟩
            refine codeW_ok E0_ok E0_ro ?_
            have hit := hi.it
            simp only [wrow_now, wrow_all, eqnil25, oneW_next, s_0, s_1, s_2, s_3, s_4, g_0, w_0, w_wh, Hands, handsV, resultsV, oneOrTuple, argsT, ev, evs, evPairs, evOpt, closed, flat, nth, aCall, aEnter, notYield, aNilCheck, partV, isAggD, aFieldAddr, aField, aExtract, Option.isNone, aBuiltin, aUn, cond_true, cond_false, cond_dec, if_true, if_false, List.length_cons, List.length_nil, forall_const, implies_true, List.append_nil, List.cons_append, List.nil_append, eq_self, Nat.reduceEqDiff, Nat.reduceAdd, Nat.reduceMul, Nat.reduceSub, Nat.reduceLT, Nat.reduceLeDiff, Nat.reduceBEq, reduceIte, reduceCtorEq, hit]
            refine nextV_u hokd hi.sub hi.iter hi.map (fun x hx hn => ?_) (fun hfin => ?_)
            · have hent := entry_u (A := A3.set X.next (.miter (some d) ckd ((done ++ [x]).map (·.2.2)) ckd)) (r := X.next) (m := d) hokd hx (by rw [ASt.get_set, if_pos rfl]) (by rw [ASt.get_set, if_neg (Xb d (by simp))]; exact hi.map)
              have hB : ∀ b, (A3.set X.next (.miter (some d) ckd ((done ++ [x]).map (·.2.2)) ckd)).get b = if b = X.next then some (.miter (some d) ckd ((done ++ [x]).map (·.2.2)) ckd) else A3.get b := fun b => by rw [ASt.get_set]
              have hBn : (A3.set X.next (.miter (some d) ckd ((done ++ [x]).map (·.2.2)) ckd)).next = A3.next := rfl
              generalize A3.set X.next (.miter (some d) ckd ((done ++ [x]).map (·.2.2)) ckd) = B3 at hent hB hBn ⊢
              have BW : B3.get W = some (.row (wrow nw all ms) 67 false) := by
                rw [hB, if_neg (Xb W (by simp)), f3.get W (hbX W (by simp)) (by simpa using w1)]; exact XW
              obtain ⟨B4, hdel, h4, f4⟩ := (hd3.congr (show B3.get all = A3.get all by rw [hB, if_neg (Xb all (by simp))])).delete x.1
              have b3X : X.next < B3.next := by
                rw [hBn]; exact nx3
              simp only [wrow_now, wrow_all, eqnil25, oneW_next, s_0, s_1, s_2, s_3, s_4, g_0, w_0, w_wh, Hands, handsV, resultsV, oneOrTuple, argsT, ev, evs, evPairs, evOpt, closed, flat, nth, aCall, aEnter, notYield, aNilCheck, partV, isAggD, aFieldAddr, aField, aExtract, Option.isNone, aBuiltin, aUn, cond_true, cond_false, cond_dec, if_true, if_false, List.length_cons, List.length_nil, forall_const, implies_true, List.append_nil, List.cons_append, List.nil_append, eq_self, Nat.reduceEqDiff, Nat.reduceAdd, Nat.reduceMul, Nat.reduceSub, Nat.reduceLT, Nat.reduceLeDiff, Nat.reduceBEq, reduceIte, reduceCtorEq, hit, hent, u0, BW, hdel]
              refine ⟨x, hx, hn, hi.step hx hn (by simp only [tget_put, Nat.reduceEqDiff, if_false, reduceIte]) ?_ ?_, u5, u6, ?_, ⟨?_, ?_⟩, ?_⟩
              · rw [f4.get _ b3X (by simpa using Ne.symm (Xb all (by simp))), hB, if_pos rfl]
              · rw [f4.get d (by have := hbX d (by simp); omega) (by simpa using Ne.symm al1), hB, if_neg (Xb d (by simp))]
              · rw [dels_snoc]; exact h4
              · have := f3.next; have := f4.next; omega
              · intro b hb hn
                rw [f4.get b (by omega) hn, hB, if_neg (by omega)]; exact f3.get b hb hn
              · have := f4.next; omega
            · simp only [wrow_now, wrow_all, eqnil25, oneW_next, s_0, s_1, s_2, s_3, s_4, g_0, w_0, w_wh, Hands, handsV, resultsV, oneOrTuple, argsT, ev, evs, evPairs, evOpt, closed, flat, nth, aCall, aEnter, notYield, aNilCheck, partV, isAggD, aFieldAddr, aField, aExtract, Option.isNone, aBuiltin, aUn, cond_true, cond_false, cond_dec, if_true, if_false, List.length_cons, List.length_nil, forall_const, implies_true, List.append_nil, List.cons_append, List.nil_append, eq_self, Nat.reduceEqDiff, Nat.reduceAdd, Nat.reduceMul, Nat.reduceSub, Nat.reduceLT, Nat.reduceLeDiff, Nat.reduceBEq, reduceIte, reduceCtorEq]
              refine ⟨_, _, done, rfl, ⟨?_, hi.iter, hi.map, hi.sub, hi.nodup⟩, hfin, ?_, ?_, ?_, hd3, f3, nx3⟩
              · simp only [tget_put, Nat.reduceEqDiff, if_false, reduceIte]; exact hit
              · simp only [tget_put, Nat.reduceEqDiff, if_false, reduceIte]; exact u0
              · simp only [tget_put, Nat.reduceEqDiff, if_false, reduceIte]; exact u5
              · simp only [tget_put, Nat.reduceEqDiff, if_false, reduceIte]; exact u6
          · refine ⟨by simp only [tget_put, Nat.reduceEqDiff, if_false, if_true, reduceIte]; rw [hXn], by rw [ASt.get_new, if_pos rfl]; rfl, by rw [ASt.get_new, if_neg (Xb d (by simp))]; exact hed', by simp, .nil⟩
          · refine ⟨?_, ?_, ?_, hXall.congr (by rw [ASt.get_new, if_neg (Xb all (by simp))]), ⟨Nat.le_succ _, fun b hb hn => by rw [ASt.get_new, if_neg (by omega)]⟩, Nat.lt_succ_self _⟩
            · simp only [tget_put, Nat.reduceEqDiff, if_false, reduceIte]; exact t0
            · simp only [tget_put, Nat.reduceEqDiff, if_false, reduceIte]; exact t5
            · simp only [tget_put, Nat.reduceEqDiff, if_false, reduceIte]; exact t6
        · rintro o ⟨T3, Y, done, rfl, hiD, hfin, u0, u5, u6, hYall, fY, nxY⟩
          obtain ⟨_, hug⟩ := uget_all hokd hiD.sub hfin hiD.nodup
          have keepY : ∀ b ∈ W :: all :: d :: lf :: p3 :: p5 :: p6 :: ms, b ≠ W → b ≠ all → Y.get b = A2.get b := fun b hb n1 n2 => by
            rw [fY.get b (hbX b hb) (by simpa using n2), hXg, if_neg n1]
          have YW : Y.get W = some (.row (wrow nw all ms) 67 false) := by rw [fY.get W (hbX W (by simp)) (by simpa using w1)]; exact XW
          have p5W : p5 ≠ W := by omega
          have p6W : p6 ≠ W := by have := ha.new p6 (by simp); omega
          have p5a : p5 ≠ all := hall.block a5
          have p6a : p6 ≠ all := hall.block ha.h6
          have Y5 : Y.get p5 = some (.row [.map (some d)] 1 false) := (keepY p5 (by simp) p5W p5a).trans a5
          have Y6 : Y.get p6 = some (.row [.map (some lf)] 1 false) := (keepY p6 (by simp) p6W p6a).trans ha.h6
          have hbY : ∀ b ∈ W :: all :: d :: lf :: p3 :: p5 :: p6 :: ms, b < Y.next := fun b hb => by have := hbX b hb; have := fY.next; omega
          have Yb : ∀ b ∈ W :: all :: d :: lf :: p3 :: p5 :: p6 :: ms, b ≠ Y.next := fun b hb => by have := hbY b hb; omega
          have hYl : Holds Y lf (fun k => (M k).filter fun a => decide (plc now a < 16 * ps) && !decide (a ≤ nw)) := ha.lft.congr (keepY lf (by simp) (Ne.symm w3) (Ne.symm al2))
          have hYd : Holds Y d (fun k => (M k).filter fun a => decide (plc now a < 16 * ps) && decide (a ≤ nw)) := ha.due.congr (keepY d (by simp) (Ne.symm w2) (Ne.symm al1))
          have hYs : ∀ i m, ms[i]? = some m → Holds Y m (if i < 16 * ps then (fun _ => none) else M.at_ now i) := fun i m hm => by
            have hmem := List.mem_of_getElem? hm
            have := ha.slot i m hm
            simp only [decide_eq_true_eq] at this
            exact this.congr (keepY m (by simp [hmem]) (fun e => w4 (e ▸ hmem)) (fun e => al3 (e ▸ hmem)))
          obtain ⟨el, ckl, hel, hokl, hgl⟩ := hYl
          simp only [wrow_now, wrow_all, eqnil25, oneW_next, s_0, s_1, s_2, s_3, s_4, g_0, w_0, w_wh, Hands, handsV, resultsV, oneOrTuple, argsT, ev, evs, evPairs, evOpt, closed, flat, nth, aCall, aEnter, notYield, aNilCheck, partV, isAggD, aFieldAddr, aField, aExtract, Option.isNone, aBuiltin, aUn, cond_true, cond_false, cond_dec, if_true, if_false, List.length_cons, List.length_nil, forall_const, implies_true, List.append_nil, List.cons_append, List.nil_append, eq_self, Nat.reduceEqDiff, Nat.reduceAdd, Nat.reduceMul, Nat.reduceSub, Nat.reduceLT, Nat.reduceLeDiff, Nat.reduceBEq, reduceIte, reduceCtorEq, u0, u5, u6, Y5, Y6, rangeT hel]
          have injm : ∀ {i j m : Nat}, ms[i]? = some m → ms[j]? = some m → i = j := fun {i j m} hi hj => by
            obtain ⟨x1, x2⟩ := List.getElem?_eq_some_iff.1 hi
            obtain ⟨y1, y2⟩ := List.getElem?_eq_some_iff.1 hj
            rcases Nat.lt_trichotomy i j with hlt | he | hlt
            · exact absurd (x2.trans y2.symm) (List.pairwise_iff_getElem.1 hms i j x1 y1 hlt)
            · exact he
            · exact absurd (y2.trans x2.symm) (List.pairwise_iff_getElem.1 hms j i y1 x1 hlt)
          have hlv : ∀ x ∈ el, x.2.1 < 18446744073709551616 := fun x hx => by
            have h1 := uget_mem hokl.keys hx
            rw [hgl] at h1
            obtain ⟨h2, _⟩ := Option.filter_eq_some_iff.1 h1
            exact h.lt _ _ h2
          refine CodeW.mono (Q := fun o => ∃ T' A' done, o = .fr ⟨.exit 6, T', A'⟩ ∧ (∀ x ∈ done, x ∈ el) ∧ (∀ x ∈ el, x ∈ done) ∧ done.Nodup ∧ tget T' 5 = .pointer (some ⟨p5, 0, none⟩) ∧ (∀ i m, ms[i]? = some m → Holds A' m (puts (if i < 16 * ps then (fun _ => none) else M.at_ now i) done fun a => decide (plc nw a = i))) ∧ Fr ms Y A') ?_ ?_
          · refine CodeW.mapLoop (it := 82) (r := Y.next) (m := lf) (ck := ckl) (l := el) (J := fun done T A' => tget T 0 = .pointer (some ⟨W, 0, none⟩) ∧ tget T 5 = .pointer (some ⟨p5, 0, none⟩) ∧ (∀ i m, ms[i]? = some m → Holds A' m (puts (if i < 16 * ps then (fun _ => none) else M.at_ now i) done fun a => decide (plc nw a = i))) ∧ Fr ms Y A' ∧ Y.next < A'.next) ?_ ?_ ?_
            · rintro done T4 A4 hi ⟨v0, v5, hs4, f4, nx4⟩
              refine codeW_ok E0_ok E0_ro ?_
              have hit := hi.it
              simp only [wrow_now, wrow_all, eqnil25, oneW_next, s_0, s_1, s_2, s_3, s_4, g_0, w_0, w_wh, Hands, handsV, resultsV, oneOrTuple, argsT, ev, evs, evPairs, evOpt, closed, flat, nth, aCall, aEnter, notYield, aNilCheck, partV, isAggD, aFieldAddr, aField, aExtract, Option.isNone, aBuiltin, aUn, cond_true, cond_false, cond_dec, if_true, if_false, List.length_cons, List.length_nil, forall_const, implies_true, List.append_nil, List.cons_append, List.nil_append, eq_self, Nat.reduceEqDiff, Nat.reduceAdd, Nat.reduceMul, Nat.reduceSub, Nat.reduceLT, Nat.reduceLeDiff, Nat.reduceBEq, reduceIte, reduceCtorEq, hit]
              refine nextV_u hokl hi.sub hi.iter hi.map (fun x hx hn => ?_) (fun hfin => ?_)
              · have hkey := fresh_key hokl hi.sub hx hn
                have hent := entry_u (A := A4.set Y.next (.miter (some lf) ckl ((done ++ [x]).map (·.2.2)) ckl)) (r := Y.next) (m := lf) hokl hx (by rw [ASt.get_set, if_pos rfl]) (by rw [ASt.get_set, if_neg (Yb lf (by simp))]; exact hi.map)
                have hB : ∀ b, (A4.set Y.next (.miter (some lf) ckl ((done ++ [x]).map (·.2.2)) ckl)).get b = if b = Y.next then some (.miter (some lf) ckl ((done ++ [x]).map (·.2.2)) ckl) else A4.get b := fun b => by rw [ASt.get_set]
                have hBn : (A4.set Y.next (.miter (some lf) ckl ((done ++ [x]).map (·.2.2)) ckl)).next = A4.next := rfl
                generalize A4.set Y.next (.miter (some lf) ckl ((done ++ [x]).map (·.2.2)) ckl) = B3 at hent hB hBn ⊢
                have BW : B3.get W = some (.row (wrow nw all ms) 67 false) := by
                  rw [hB, if_neg (Yb W (by simp)), f4.get W (hbY W (by simp)) w4]; exact YW
                simp only [wrow_now, wrow_all, eqnil25, oneW_next, s_0, s_1, s_2, s_3, s_4, g_0, w_0, w_wh, Hands, handsV, resultsV, oneOrTuple, argsT, ev, evs, evPairs, evOpt, closed, flat, nth, aCall, aEnter, notYield, aNilCheck, partV, isAggD, aFieldAddr, aField, aExtract, Option.isNone, aBuiltin, aUn, cond_true, cond_false, cond_dec, if_true, if_false, List.length_cons, List.length_nil, forall_const, implies_true, List.append_nil, List.cons_append, List.nil_append, eq_self, Nat.reduceEqDiff, Nat.reduceAdd, Nat.reduceMul, Nat.reduceSub, Nat.reduceLT, Nat.reduceLeDiff, Nat.reduceBEq, reduceIte, reduceCtorEq, hit, hent, v0]
                refine CallT.mono (place_walk BW h.len hnw (hlv x hx)) ?_
                rintro _ _ ⟨rfl, kx, rfl⟩
                have hpl : plc nw x.2.1 < ms.length := by rw [h.len]; exact plc_lt
                have hm : ms[plc nw x.2.1]? = some (ms[plc nw x.2.1]'hpl) := List.getElem?_eq_getElem _
                generalize ms[plc nw x.2.1]'hpl = m at hm
                have hmem := List.mem_of_getElem? hm
                have hmY : m ≠ Y.next := Yb m (by simp [hmem])
                obtain ⟨B4, hup, h4, g4⟩ := ((hs4 _ m hm).congr (show ASt.get { heap := B3.heap, next := B3.next + kx } m = A4.get m by rw [get_next, hB, if_neg hmY])).update x.1 x.2.1
                simp only [wrow_now, wrow_all, eqnil25, oneW_next, s_0, s_1, s_2, s_3, s_4, g_0, w_0, w_wh, Hands, handsV, resultsV, oneOrTuple, argsT, ev, evs, evPairs, evOpt, closed, flat, nth, aCall, aEnter, notYield, aNilCheck, partV, isAggD, aFieldAddr, aField, aExtract, Option.isNone, aBuiltin, aUn, cond_true, cond_false, cond_dec, if_true, if_false, List.length_cons, List.length_nil, forall_const, implies_true, List.append_nil, List.cons_append, List.nil_append, eq_self, Nat.reduceEqDiff, Nat.reduceAdd, Nat.reduceMul, Nat.reduceSub, Nat.reduceLT, Nat.reduceLeDiff, Nat.reduceBEq, reduceIte, reduceCtorEq, hup]
                have gB : ∀ b, b < B3.next → b ≠ m → B4.get b = B3.get b := fun b hb hn => by
                  rw [g4.get b (by show b < B3.next + kx; omega) (by simpa using hn), get_next]
                have n4 : A4.next ≤ B4.next := by have := g4.next; have : B3.next + kx ≤ B4.next := this; omega
                refine ⟨x, hx, hn, hi.step hx hn (by simp only [tget_put, Nat.reduceEqDiff, if_false, reduceIte]) ?_ ?_, ?_, ?_, ?_, ⟨?_, ?_⟩, ?_⟩
                · rw [gB _ (by omega) (Ne.symm hmY), hB, if_pos rfl]
                · rw [gB lf (by have := hbY lf (by simp); omega) (fun e => l1 (e ▸ hmem)), hB, if_neg (Yb lf (by simp))]
                · exact v0
                · exact v5
                · intro i m' hm'
                  have hmem' := List.mem_of_getElem? hm'
                  rw [puts_snoc hkey]
                  by_cases e : plc nw x.2.1 = i
                  · subst e
                    rw [hm] at hm'; cases hm'
                    simp only [decide_true, if_true]
                    exact h4
                  · have em : m' ≠ m := fun em => e (injm hm (em ▸ hm'))
                    simp only [e, decide_false, Bool.false_eq_true, if_false]
                    refine (hs4 i m' hm').congr ?_
                    rw [gB m' (by have := hbY m' (by simp [hmem']); omega) em, hB, if_neg (Yb m' (by simp [hmem']))]
                · have := f4.next; omega
                · intro b hb hn
                  rw [gB b (by omega) (fun e => hn (e ▸ hmem)), hB, if_neg (by omega)]; exact f4.get b hb hn
                · omega
              · simp only [wrow_now, wrow_all, eqnil25, oneW_next, s_0, s_1, s_2, s_3, s_4, g_0, w_0, w_wh, Hands, handsV, resultsV, oneOrTuple, argsT, ev, evs, evPairs, evOpt, closed, flat, nth, aCall, aEnter, notYield, aNilCheck, partV, isAggD, aFieldAddr, aField, aExtract, Option.isNone, aBuiltin, aUn, cond_true, cond_false, cond_dec, if_true, if_false, List.length_cons, List.length_nil, forall_const, implies_true, List.append_nil, List.cons_append, List.nil_append, eq_self, Nat.reduceEqDiff, Nat.reduceAdd, Nat.reduceMul, Nat.reduceSub, Nat.reduceLT, Nat.reduceLeDiff, Nat.reduceBEq, reduceIte, reduceCtorEq]
                refine ⟨_, _, done, rfl, hi.sub, hfin, hi.nodup, ?_, hs4, f4⟩
                simp only [tget_put, Nat.reduceEqDiff, if_false, reduceIte]; exact v5
            · refine ⟨by simp only [tget_put, Nat.reduceEqDiff, if_false, if_true, reduceIte], by rw [ASt.get_new, if_pos rfl]; rfl, by rw [ASt.get_new, if_neg (Yb lf (by simp))]; exact hel, by simp, .nil⟩
            · refine ⟨?_, ?_, fun i m hm => ?_, ⟨Nat.le_succ _, fun b hb hn => by rw [ASt.get_new, if_neg (by omega)]⟩, Nat.lt_succ_self _⟩
              · simp only [tget_put, Nat.reduceEqDiff, if_false, reduceIte]; exact u0
              · simp only [tget_put, Nat.reduceEqDiff, if_false, reduceIte]; exact u5
              · rw [puts_nil]
                exact (hYs i m hm).congr (by rw [ASt.get_new, if_neg (Yb m (by simp [List.mem_of_getElem? hm]))])
          · rintro o ⟨T4, V, dl, rfl, hsub, hfin, hnodl, v5, hV, fV⟩
            obtain ⟨_, hugl⟩ := uget_all hokl hsub hfin hnodl
            have V5 : V.get p5 = some (.row [.map (some d)] 1 false) := by
              rw [fV.get p5 (hbY p5 (by simp)) (fun hm => ?_)]
              · exact Y5
              · obtain ⟨i, hi⟩ := List.getElem?_of_mem hm
                exact (hYs i _ hi).block Y5 rfl
            have hVd : Holds V d (fun k => (M k).filter fun a => decide (plc now a < 16 * ps) && decide (a ≤ nw)) := hYd.congr (fV.get d (hbY d (by simp)) d2)
            have hdV : d < V.next := by have := fV.next; have := hbY d (by simp); omega
            simp only [wrow_now, wrow_all, eqnil25, oneW_next, s_0, s_1, s_2, s_3, s_4, g_0, w_0, w_wh, Hands, handsV, resultsV, oneOrTuple, argsT, ev, evs, evPairs, evOpt, closed, flat, nth, aCall, aEnter, notYield, aNilCheck, partV, isAggD, aFieldAddr, aField, aExtract, Option.isNone, aBuiltin, aUn, cond_true, cond_false, cond_dec, if_true, if_false, List.length_cons, List.length_nil, forall_const, implies_true, List.append_nil, List.cons_append, List.nil_append, eq_self, Nat.reduceEqDiff, Nat.reduceAdd, Nat.reduceMul, Nat.reduceSub, Nat.reduceLT, Nat.reduceLeDiff, Nat.reduceBEq, reduceIte, reduceCtorEq, v5, V5]
            refine CallT.mono (hs hVd (fun k a hk => (Option.filter_eq_some_iff.1 hk).1) hdV) ?_
            rintro v U ⟨ts, hts, hsl, fU⟩
            simp only [wrow_now, wrow_all, eqnil25, oneW_next, s_0, s_1, s_2, s_3, s_4, g_0, w_0, w_wh, Hands, handsV, resultsV, oneOrTuple, argsT, ev, evs, evPairs, evOpt, closed, flat, nth, aCall, aEnter, notYield, aNilCheck, partV, isAggD, aFieldAddr, aField, aExtract, Option.isNone, aBuiltin, aUn, cond_true, cond_false, cond_dec, if_true, if_false, List.length_cons, List.length_nil, forall_const, implies_true, List.append_nil, List.cons_append, List.nil_append, eq_self, Nat.reduceEqDiff, Nat.reduceAdd, Nat.reduceMul, Nat.reduceSub, Nat.reduceLT, Nat.reduceLeDiff, Nat.reduceBEq, reduceIte, reduceCtorEq]
            rw [if_neg hge]
            have far : ∀ {k a}, M k = some a → ¬ plc now a < 16 * ps → nw < a ∧ plc nw a = plc now a := fun {k a} hk hD => by
              rw [← hpd] at hD
              exact plc_far h.nowlt hnw (h.lt k a hk) (h.gt k a hk) hD
            have hp3 : p3 ≤ V.next := by
              have := ha.below p3 (by simp); have := fY.next; have := fV.next; omega
            have fAX : Fr [W] A2 X := ⟨by omega, fun b _ hn => by rw [hXg, if_neg (by simpa using hn)]⟩
            have fAll : Fr (W :: all :: ms) A U := ha.fr.trans ((fAX.sub (by simp)).trans ((fY.sub (by simp)).trans ((fV.sub (fun b hb => by simp [hb])).trans (fU.sub (by simp)))))
            have keepU : ∀ b, b < V.next → U.get b = V.get b := fun b hb => fU.get b hb (by simp)
            have hbV : ∀ b ∈ W :: all :: d :: lf :: p3 :: p5 :: p6 :: ms, b < V.next := fun b hb => by have := hbY b hb; have := fV.next; omega
            refine ⟨ts, ⟨fun k a => (hts.mem k a).trans ?_, hts.ord⟩, ?_, ⟨?_, h.len, hnw, h.nodup, fun b hb => Nat.lt_of_lt_of_le (hbV b (by simp only [List.mem_cons] at hb ⊢; rcases hb with h | h | h <;> simp [h])) fU.next, ?_, ?_, ?_, ?_⟩, fAll⟩
            · cases hk : M k with
              | none => simp [hk]
              | some b =>
                by_cases hD : plc now b < 16 * ps
                · simp [Option.filter, hk, hD]
                · have := (far hk hD).1
                  have e1 : ¬ b ≤ nw := by omega
                  simp [Option.filter, hk, e1]
            · rcases hsl with ⟨e1, e2⟩ | ⟨b, cap, rest, tl, e1, e2, e3, e4⟩
              · exact .inl ⟨e1, e2⟩
              · exact .inr ⟨b, cap, rest, tl, e1, e2, by omega, e4⟩
            · rw [keepU W (hbV W (by simp)), fV.get W (hbY W (by simp)) w4]; exact YW
            · refine (hYall.congr ((keepU all (hbV all (by simp))).trans (fV.get all (hbY all (by simp)) al3))).ext fun k => ?_
              unfold dels
              rw [hug, hgd]
              cases hk : M k with
              | none => simp [hk]
              | some b =>
                by_cases hD : plc now b < 16 * ps
                · by_cases hle : b ≤ nw
                  · have e1 : ¬ nw < b := by omega
                    simp [Option.filter, hk, hD, hle, e1]
                  · have e1 : nw < b := by omega
                    simp [Option.filter, hk, hD, hle, e1]
                · have := (far hk hD).1
                  simp [Option.filter, hk, hD, this]
            · intro i m hm
              have hmem := List.mem_of_getElem? hm
              refine ((hV i m hm).congr (keepU m (hbV m (by simp [hmem])))).ext fun k => ?_
              unfold puts TM.at_
              rw [hugl, hgl]
              cases hk : M k with
              | none => by_cases hi : i < 16 * ps <;> simp [hi, hk]
              | some b =>
                by_cases hD : plc now b < 16 * ps
                · by_cases hle : b ≤ nw
                  · have e1 : ¬ nw < b := by omega
                    by_cases hi : i < 16 * ps
                    · simp [Option.filter, hk, hD, hle, e1, hi]
                    · have e2 : plc now b ≠ i := by omega
                      simp [Option.filter, hk, hD, hle, e1, hi, e2]
                  · have e1 : nw < b := by omega
                    by_cases hpi : plc nw b = i
                    · simp [Option.filter, hk, hD, hle, e1, hpi]
                    · by_cases hi : i < 16 * ps
                      · simp [Option.filter, hk, hD, hle, e1, hi, hpi]
                      · have e2 : plc now b ≠ i := by omega
                        simp [Option.filter, hk, hD, hle, e1, hi, e2, hpi]
                · obtain ⟨e1, e2⟩ := far hk hD
                  by_cases hi : i < 16 * ps
                  · have e3 : plc now b ≠ i := by omega
                    simp [Option.filter, hk, hD, e1, hi, e2, e3]
                  · simp [Option.filter, hk, hD, e1, hi, e2]
            · intro k a hk
              obtain ⟨h2, _⟩ := Option.filter_eq_some_iff.1 hk
              exact h.lt k a h2
            · intro k a hk
              obtain ⟨_, h2⟩ := Option.filter_eq_some_iff.1 hk
              exact of_decide_eq_true h2
end Go.Proofs.YtgcffmhpjphefaaDoor

/- The wheel's New, and later. -/
namespace Go.Proofs.YtgcffmhpjphefaaDoor
open Go Go.AE

variable {Z : Go.AE.Road}
set_option maxRecDepth 10000

/-- A new wheel's cells, so far. -/
def nrow (now all far : Nat) (l : List Nat) : List Value := .int .u64 (now : Int) :: .map (some all) :: (l.map (fun i => Value.map (some i)) ++ (List.replicate (64 - l.length) (.map none) ++ [.map (some far)]))

theorem build63 {n : Int} {a f : Nat} : aBuild E0 86 [(0, .int .u64 n), (1, .map (some a)), (3, .map (some f))] = some (.agg (.int .u64 n :: .map (some a) :: (List.replicate 64 (.map none) ++ [.map (some f)])).toArray) := by kernel_rfl
theorem box63 {cs : Array Value} : aBox E0 86 (.agg cs) = some (.row cs.toList 67 false, ptrTo) := by
  simp only [aBox, ti86, t86_size]; rfl
theorem over_set {l : List Value} {i : Nat} {v : Value} (h : i < l.length) : over l i [v] = some (l.set i v) := by
  unfold over
  rw [show Nat.ble (i + [v].length) l.length = true from Nat.ble_eq_true_of_le (by simp; omega), cond_true]
  rw [List.set_eq_take_append_cons_drop, if_pos h]
  rfl
theorem nrow_set {now all far : Nat} {l : List Nat} {m : Nat} (h : l.length < 64) : (nrow now all far l).set (2 + l.length) (.map (some m)) = nrow now all far (l ++ [m]) := by
  unfold nrow
  rw [show 2 + l.length = (l.length + 1) + 1 by omega, List.set_cons_succ, List.set_cons_succ, List.set_append_right _ _ (by simp)]
  have e : 64 - l.length = (63 - l.length) + 1 := by omega
  have e2 : 64 - (l ++ [m]).length = 63 - l.length := by simp only [List.length_append, List.length_cons, List.length_nil]; omega
  rw [e2, e, List.replicate_succ]
  simp
theorem storeSlot {A : ASt} {W now all far m off : Nat} {l : List Nat} (h : A.get W = some (.row (nrow now all far l) 67 false)) (hl : l.length < 64) (ho : off = 2 + l.length) : aStore E0 82 (.pointer (some ⟨W, off, none⟩)) (.map (some m)) A = some (A.set W (.row (nrow now all far (l ++ [m])) 67 false)) := by
  subst ho
  rw [← nrow_set hl]
  exact aStore_row h ti82 (by rw [t82_size]; rfl) rfl (over_set (by simp [nrow]; omega))

/-- A new wheel in the making. -/
structure Mk (A0 A : ASt) (W all far now : Nat) (l : List Nat) : Prop where
  row : A.get W = some (.row (nrow now all far l) 67 false)
  maps : ∀ m ∈ all :: far :: l, A.get m = some (.map [] 0)
  nodup : (W :: all :: far :: l).Nodup
  below : ∀ b ∈ W :: all :: far :: l, b < A.next
  new : ∀ b ∈ W :: all :: far :: l, A0.next ≤ b
  fr : Fr [] A0 A

theorem new_walk2 {A : ASt} {now : Nat} (hnow : now < 18446744073709551616) : CallW Z Tryd.prog 22 [.int .u64 (now : Int)] A (fun v A' => ∃ W all ms, v = .pointer (some ⟨W, 0, none⟩) ∧ WheelAt A' W all ms now (fun _ => none) ∧ Fr [] A A' ∧ ∀ b ∈ W :: all :: ms, A.next ≤ b) := by
  refine CallW.of_code E0_ok E0_ro fn22 rfl (n := 28) rfl (rs := [.tmp 2]) rfl (by simp) (codeW_ok E0_ok E0_ro ?_)
  simp only [wrow_now, wrow_all, eqnil25, oneW_next, s_0, s_1, s_2, s_3, s_4, g_0, w_0, w_wh, Hands, handsV, resultsV, oneOrTuple, argsT, ev, evs, evPairs, evOpt, closed, flat, nth, aCall, aEnter, notYield, aNilCheck, partV, isAggD, aFieldAddr, aField, aExtract, Option.isNone, aBuiltin, aUn, cond_true, cond_false, cond_dec, if_true, if_false, List.length_cons, List.length_nil, forall_const, implies_true, List.append_nil, List.cons_append, List.nil_append, eq_self, Nat.reduceEqDiff, Nat.reduceAdd, Nat.reduceMul, Nat.reduceSub, Nat.reduceLT, Nat.reduceLeDiff, Nat.reduceBEq, reduceIte, reduceCtorEq, build63, box63, ptrTo]
  generalize hCd : ASt.new (ASt.new (ASt.new A _) _) _ = C
  have hCg : ∀ b, C.get b = if b = A.next + 1 + 1 then some (.row (nrow now A.next (A.next + 1) []) 67 false) else if b = A.next + 1 then some (.map [] 0) else if b = A.next then some (.map [] 0) else A.get b := fun b => by
    rw [← hCd]
    simp only [ASt.get_new, ASt.next_new]
    rfl
  have hCn : C.next = A.next + 3 := by rw [← hCd]; simp only [ASt.next_new]
  clear hCd
  have hmk : Mk A C (A.next + 1 + 1) A.next (A.next + 1) now [] := by
    refine ⟨by rw [hCg, if_pos rfl], fun m hm => ?_, by simp; omega, fun b hb => ?_, fun b hb => ?_, by omega, fun b hb _ => ?_⟩
    · simp only [List.mem_cons, List.not_mem_nil, or_false] at hm
      rcases hm with rfl | rfl
      · rw [hCg, if_neg (by omega), if_neg (by omega), if_pos rfl]
      · rw [hCg, if_neg (by omega), if_pos rfl]
    · simp only [List.mem_cons, List.not_mem_nil, or_false] at hb
      omega
    · simp only [List.mem_cons, List.not_mem_nil, or_false] at hb
      omega
    · rw [hCg, if_neg (by omega), if_neg (by omega), if_neg (by omega)]
  generalize A.next + 1 + 1 = W at hmk ⊢
  generalize A.next + 1 = far at hmk ⊢
  generalize hall : A.next = all at hmk ⊢
  refine CodeW.mono (Q := fun o => ∃ T' A' l, o = .fr ⟨.exit 0, T', A'⟩ ∧ tget T' 3 = .pointer (some ⟨W, 0, none⟩) ∧ Mk A A' W all far now l ∧ l.length = 64) ?_ ?_
  · refine CodeW.loopR (k := 4) (fun k T A' => ∃ L l, k = 4 - L ∧ L ≤ 4 ∧ tget T 11 = .int .i64 (L : Int) ∧ tget T 3 = .pointer (some ⟨W, 0, none⟩) ∧ Mk A A' W all far now l ∧ l.length = 16 * L) ?_ ⟨0, [], rfl, by omega, ?_, ?_, hmk, rfl⟩
    · rintro k T1 A1 ⟨L, l, rfl, h4, t11, t3, hm, hl⟩
      refine codeW_ok E0_ok E0_ro ?_
      simp only [wrow_now, wrow_all, eqnil25, oneW_next, s_0, s_1, s_2, s_3, s_4, g_0, w_0, w_wh, Hands, handsV, resultsV, oneOrTuple, argsT, ev, evs, evPairs, evOpt, closed, flat, nth, aCall, aEnter, notYield, aNilCheck, partV, isAggD, aFieldAddr, aField, aExtract, Option.isNone, aBuiltin, aUn, cond_true, cond_false, cond_dec, if_true, if_false, List.length_cons, List.length_nil, forall_const, implies_true, List.append_nil, List.cons_append, List.nil_append, eq_self, Nat.reduceEqDiff, Nat.reduceAdd, Nat.reduceMul, Nat.reduceSub, Nat.reduceLT, Nat.reduceLeDiff, Nat.reduceBEq, reduceIte, reduceCtorEq, t11]
      refine brW_dec (fun hl4 => ?_) (fun hl4 => ?_)
      · have hl4' : L < 4 := by omega
        simp only [wrow_now, wrow_all, eqnil25, oneW_next, s_0, s_1, s_2, s_3, s_4, g_0, w_0, w_wh, Hands, handsV, resultsV, oneOrTuple, argsT, ev, evs, evPairs, evOpt, closed, flat, nth, aCall, aEnter, notYield, aNilCheck, partV, isAggD, aFieldAddr, aField, aExtract, Option.isNone, aBuiltin, aUn, cond_true, cond_false, cond_dec, if_true, if_false, List.length_cons, List.length_nil, forall_const, implies_true, List.append_nil, List.cons_append, List.nil_append, eq_self, Nat.reduceEqDiff, Nat.reduceAdd, Nat.reduceMul, Nat.reduceSub, Nat.reduceLT, Nat.reduceLeDiff, Nat.reduceBEq, reduceIte, reduceCtorEq, t11]
        refine CodeW.mono (Q := fun o => ∃ T' A' l, o = .fr ⟨.exit 2, T', A'⟩ ∧ tget T' 11 = .int .i64 (L : Int) ∧ tget T' 3 = .pointer (some ⟨W, 0, none⟩) ∧ Mk A A' W all far now l ∧ l.length = 16 * L + 16) ?_ ?_
        · refine CodeW.loopR (k := 16) (fun k T A' => ∃ j l, k = 16 - j ∧ j ≤ 16 ∧ tget T 14 = .int .i64 (j : Int) ∧ tget T 4 = .int .i64 (L : Int) ∧ tget T 11 = .int .i64 (L : Int) ∧ tget T 3 = .pointer (some ⟨W, 0, none⟩) ∧ Mk A A' W all far now l ∧ l.length = 16 * L + j) ?_ ⟨0, l, rfl, by omega, ?_, ?_, ?_, ?_, hm, hl⟩
          · rintro k T2 A2 ⟨j, l2, rfl, hj, u14, u4, u11, u3, hm2, hl2⟩
            refine codeW_ok E0_ok E0_ro ?_
            simp only [wrow_now, wrow_all, eqnil25, oneW_next, s_0, s_1, s_2, s_3, s_4, g_0, w_0, w_wh, Hands, handsV, resultsV, oneOrTuple, argsT, ev, evs, evPairs, evOpt, closed, flat, nth, aCall, aEnter, notYield, aNilCheck, partV, isAggD, aFieldAddr, aField, aExtract, Option.isNone, aBuiltin, aUn, cond_true, cond_false, cond_dec, if_true, if_false, List.length_cons, List.length_nil, forall_const, implies_true, List.append_nil, List.cons_append, List.nil_append, eq_self, Nat.reduceEqDiff, Nat.reduceAdd, Nat.reduceMul, Nat.reduceSub, Nat.reduceLT, Nat.reduceLeDiff, Nat.reduceBEq, reduceIte, reduceCtorEq, u14]
            refine brW_dec (fun hj6 => ?_) (fun hj6 => ?_)
            · have hj6' : j < 16 := by omega
              have ei1 : ∀ o, aIndexAddr E0 84 (.pointer (some ⟨W, o, none⟩)) (.int .i64 (L : Int)) = some (.pointer (some ⟨W, o + L * 16, none⟩)) := fun o => by
                have := indexAddr_arr (A := A2) ti84 t84_desc ti83 (kd := .i64) (k := L) (b := W) (off := o) hl4'
                rwa [t83_size] at this
              have ei2 : ∀ o, aIndexAddr E0 83 (.pointer (some ⟨W, o, none⟩)) (.int .i64 (j : Int)) = some (.pointer (some ⟨W, o + j, none⟩)) := fun o => by
                have := indexAddr_arr (A := A2) ti83 t83_desc ti82 (kd := .i64) (k := j) (b := W) (off := o) hj6'
                rwa [t82_size, Nat.mul_one] at this
              have hWb : W < A2.next := hm2.below W (by simp)
              have hrow : (A2.new (.map [] 0)).get W = some (.row (nrow now all far l2) 67 false) := by rw [ASt.get_new, if_neg (by omega)]; exact hm2.row
              have hst := storeSlot (m := A2.next) (off := 2 + L * 16 + j) hrow (by omega) (by omega)
              simp only [wrow_now, wrow_all, eqnil25, oneW_next, s_0, s_1, s_2, s_3, s_4, g_0, w_0, w_wh, Hands, handsV, resultsV, oneOrTuple, argsT, ev, evs, evPairs, evOpt, closed, flat, nth, aCall, aEnter, notYield, aNilCheck, partV, isAggD, aFieldAddr, aField, aExtract, Option.isNone, aBuiltin, aUn, cond_true, cond_false, cond_dec, if_true, if_false, List.length_cons, List.length_nil, forall_const, implies_true, List.append_nil, List.cons_append, List.nil_append, eq_self, Nat.reduceEqDiff, Nat.reduceAdd, Nat.reduceMul, Nat.reduceSub, Nat.reduceLT, Nat.reduceLeDiff, Nat.reduceBEq, reduceIte, reduceCtorEq, u14, u4, u3, ei1, ei2, hst, wrap_succ (show j < 1000000 by omega)]
              have hne : ∀ b ∈ W :: all :: far :: l2, b ≠ A2.next := fun b hb => by have := hm2.below b hb; omega
              have hnd := hm2.nodup
              refine ⟨16 - (j + 1), by omega, j + 1, l2 ++ [A2.next], rfl, by omega, rfl, u11, ⟨by rw [ASt.get_set, if_pos rfl], fun m hmm => ?_, ?_, fun b hb => ?_, fun b hb => ?_, ?_, fun b hb hn => ?_⟩, by simp; omega⟩
              · simp only [List.nodup_cons, List.mem_cons, not_or] at hnd
                simp only [List.mem_cons, List.mem_append, List.not_mem_nil, or_false] at hmm
                have hmW : m ≠ W := by
                  rcases hmm with rfl | rfl | hmm | rfl
                  · exact Ne.symm hnd.1.1
                  · exact Ne.symm hnd.1.2.1
                  · exact fun e => hnd.1.2.2 (e ▸ hmm)
                  · omega
                rw [ASt.get_set, if_neg hmW, ASt.get_new]
                by_cases e : m = A2.next
                · rw [if_pos e]
                · rw [if_neg e]
                  exact hm2.maps m (by simp; rcases hmm with h | h | h | h <;> simp_all)
              · rw [show W :: all :: far :: (l2 ++ [A2.next]) = (W :: all :: far :: l2) ++ [A2.next] by simp, List.nodup_append]
                refine ⟨hnd, by simp, fun a ha b hb e => ?_⟩
                rw [List.mem_singleton.1 hb] at e
                exact hne a ha e
              · show b < A2.next + 1
                rw [show W :: all :: far :: (l2 ++ [A2.next]) = (W :: all :: far :: l2) ++ [A2.next] by simp, List.mem_append] at hb
                rcases hb with hb | hb
                · have := hm2.below b hb; omega
                · rw [List.mem_singleton.1 hb]; omega
              · rw [show W :: all :: far :: (l2 ++ [A2.next]) = (W :: all :: far :: l2) ++ [A2.next] by simp, List.mem_append] at hb
                rcases hb with hb | hb
                · exact hm2.new b hb
                · rw [List.mem_singleton.1 hb]; exact hm2.fr.next
              · show A.next ≤ A2.next + 1
                have := hm2.fr.next; omega
              · have h1 := hm2.new W (by simp)
                have h2 := hm2.fr.next
                rw [ASt.get_set, if_neg (by omega), ASt.get_new, if_neg (by omega)]
                exact hm2.fr.get b hb hn
            · have e16 : j = 16 := by omega
              subst e16
              simp only [wrow_now, wrow_all, eqnil25, oneW_next, s_0, s_1, s_2, s_3, s_4, g_0, w_0, w_wh, Hands, handsV, resultsV, oneOrTuple, argsT, ev, evs, evPairs, evOpt, closed, flat, nth, aCall, aEnter, notYield, aNilCheck, partV, isAggD, aFieldAddr, aField, aExtract, Option.isNone, aBuiltin, aUn, cond_true, cond_false, cond_dec, if_true, if_false, List.length_cons, List.length_nil, forall_const, implies_true, List.append_nil, List.cons_append, List.nil_append, eq_self, Nat.reduceEqDiff, Nat.reduceAdd, Nat.reduceMul, Nat.reduceSub, Nat.reduceLT, Nat.reduceLeDiff, Nat.reduceBEq, reduceIte, reduceCtorEq]
              refine ⟨_, _, l2, rfl, ?_, ?_, hm2, hl2⟩
              · simp only [tget_put, Nat.reduceEqDiff, if_false, reduceIte]; exact u11
              · simp only [tget_put, Nat.reduceEqDiff, if_false, reduceIte]; exact u3
          · simp only [tget_put, Nat.reduceEqDiff, if_false, if_true, reduceIte]; rfl
          · simp only [tget_put, Nat.reduceEqDiff, if_false, if_true, reduceIte]
          · simp only [tget_put, Nat.reduceEqDiff, if_false, if_true, reduceIte]; exact t11
          · simp only [tget_put, Nat.reduceEqDiff, if_false, if_true, reduceIte]; exact t3
        · rintro o ⟨T', A', l', rfl, u11, u3, hm', hl'⟩
          simp only [wrow_now, wrow_all, eqnil25, oneW_next, s_0, s_1, s_2, s_3, s_4, g_0, w_0, w_wh, Hands, handsV, resultsV, oneOrTuple, argsT, ev, evs, evPairs, evOpt, closed, flat, nth, aCall, aEnter, notYield, aNilCheck, partV, isAggD, aFieldAddr, aField, aExtract, Option.isNone, aBuiltin, aUn, cond_true, cond_false, cond_dec, if_true, if_false, List.length_cons, List.length_nil, forall_const, implies_true, List.append_nil, List.cons_append, List.nil_append, eq_self, Nat.reduceEqDiff, Nat.reduceAdd, Nat.reduceMul, Nat.reduceSub, Nat.reduceLT, Nat.reduceLeDiff, Nat.reduceBEq, reduceIte, reduceCtorEq, u11, wrap_succ (show L < 1000000 by omega)]
          exact ⟨4 - (L + 1), by omega, L + 1, l', rfl, by omega, rfl, u3, hm', by omega⟩
      · have e4 : L = 4 := by omega
        subst e4
        simp only [wrow_now, wrow_all, eqnil25, oneW_next, s_0, s_1, s_2, s_3, s_4, g_0, w_0, w_wh, Hands, handsV, resultsV, oneOrTuple, argsT, ev, evs, evPairs, evOpt, closed, flat, nth, aCall, aEnter, notYield, aNilCheck, partV, isAggD, aFieldAddr, aField, aExtract, Option.isNone, aBuiltin, aUn, cond_true, cond_false, cond_dec, if_true, if_false, List.length_cons, List.length_nil, forall_const, implies_true, List.append_nil, List.cons_append, List.nil_append, eq_self, Nat.reduceEqDiff, Nat.reduceAdd, Nat.reduceMul, Nat.reduceSub, Nat.reduceLT, Nat.reduceLeDiff, Nat.reduceBEq, reduceIte, reduceCtorEq]
        refine ⟨_, _, l, rfl, ?_, hm, hl⟩
        simp only [tget_put, Nat.reduceEqDiff, if_false, if_true, reduceIte]; exact t3
    · simp only [tget_put, Nat.reduceEqDiff, if_false, if_true, reduceIte]; rfl
    · simp only [tget_put, Nat.reduceEqDiff, if_false, if_true, reduceIte]
  · rintro o ⟨T', A', l, rfl, u3, hm, hl⟩
    simp only [wrow_now, wrow_all, eqnil25, oneW_next, s_0, s_1, s_2, s_3, s_4, g_0, w_0, w_wh, Hands, handsV, resultsV, oneOrTuple, argsT, ev, evs, evPairs, evOpt, closed, flat, nth, aCall, aEnter, notYield, aNilCheck, partV, isAggD, aFieldAddr, aField, aExtract, Option.isNone, aBuiltin, aUn, cond_true, cond_false, cond_dec, if_true, if_false, List.length_cons, List.length_nil, forall_const, implies_true, List.append_nil, List.cons_append, List.nil_append, eq_self, Nat.reduceEqDiff, Nat.reduceAdd, Nat.reduceMul, Nat.reduceSub, Nat.reduceLT, Nat.reduceLeDiff, Nat.reduceBEq, reduceIte, reduceCtorEq, u3]
    have hnr : nrow now all far l = wrow now all (l ++ [far]) := by
      unfold nrow wrow
      rw [hl]
      simp
    have hnd := hm.nodup
    refine ⟨W, all, l ++ [far], rfl, ⟨by rw [← hnr]; exact hm.row, by simp [hl], hnow, ?_, fun b hb => hm.below b ?_, ⟨[], 0, hm.maps all (by simp), ⟨.nil, .nil, by simp⟩, fun _ => rfl⟩, fun i m hi => ⟨[], 0, hm.maps m ?_, ⟨.nil, .nil, by simp⟩, fun _ => rfl⟩, by simp, by simp⟩, hm.fr, ?_⟩
    · have hp : (W :: all :: (l ++ [far])).Perm (W :: all :: far :: l) := ((List.perm_append_comm (l₁ := l) (l₂ := [far])).cons all).cons W
      exact hp.nodup_iff.2 hnd
    · simp only [List.mem_cons, List.mem_append, List.not_mem_nil, or_false] at hb ⊢
      rcases hb with h | h | h | h <;> simp [h]
    · have hmem := List.mem_of_getElem? hi
      simp only [List.mem_cons, List.mem_append, List.not_mem_nil, or_false] at hmem ⊢
      rcases hmem with h | h <;> simp [h]
    · intro b hb
      rw [← hall]
      refine hm.new b ?_
      simp only [List.mem_cons, List.mem_append, List.not_mem_nil, or_false] at hb ⊢
      rcases hb with h | h | h | h <;> simp [h]
theorem new_walk {A : ASt} {now : Nat} (hnow : now < 18446744073709551616) : CallW Z Tryd.prog 22 [.int .u64 (now : Int)] A (fun v A' => ∃ W all ms, v = .pointer (some ⟨W, 0, none⟩) ∧ WheelAt A' W all ms now (fun _ => none) ∧ Fr [] A A' ∧ A.next ≤ W) :=
  CallW.mono (new_walk2 hnow) fun v A' ⟨W, all, ms, h1, h2, h3, h4⟩ => ⟨W, all, ms, h1, h2, h3, h4 W (by simp)⟩

end Go.Proofs.YtgcffmhpjphefaaDoor

/- A table of timers with nothing in it: what is right, what is laid there, and what is got. -/
namespace Go.Proofs.YtgcffmhpjphefaaDoor
open Go Go.AE
set_option maxRecDepth 10000
set_option maxHeartbeats 8000000
variable {Z : Go.AE.Road} {s : Spans}

/-- A timer that is right. -/
def TimD.right (t : TimD) : Prop := (t.steps.length ≤ 4 ∧ ∀ y ∈ t.steps, y.good) ∧ 1 ≤ t.name.size ∧ t.name.size ≤ 16 ∧ 1 ≤ t.ver ∧ t.ver ≤ 1099511627776 ∧ t.at_ ≤ 4611686018427387904 ∧ t.every ≤ 4611686018427387904
def StepsIn (l : List StepD) : Prop := l.length ≤ 1000 ∧ ∀ y ∈ l, -9223372036854775808 ≤ y.n ∧ y.n < 9223372036854775808
theorem tright_spec (hro : RoadS Z E0 s) (ht : TabZ Z) {A : ASt} {S : Nat → Prop} {t : TimD} {dv : Value} (h : Steps (withRo E0 s) A S dv t.steps) (hs : StepsIn t.steps) :
    CallW Z Tryd.prog 11 [tval t dv] A (fun r A' => (∃ b, r = .bool b ∧ (b = true ↔ t.right)) ∧ Fr [] A A') := by
  refine CallW.of_code (withRo_ok E0_ok) hro.ro (f := 11) (fn := Tryd.f11) fn11 rfl (n := 44) rfl (rs := [.tmp 2]) rfl (by simp) (codeW_ok (withRo_ok E0_ok) hro.ro ?_)
  simp only [w_w, oneW_next, s_0, s_1, s_2, s_3, s_4, g_0, w_0, w_wh, w_st, w_qu, w_tb, Hands, handsV, resultsV, oneOrTuple, argsT, ev, evs, evPairs, evOpt, closed, flat, nth, aCall, aEnter, notYield, aNilCheck, partV, isAggD, aFieldAddr, aField, aExtract, Option.isNone, aBuiltin, aUn, cond_true, cond_false, cond_dec, if_true, if_false, List.length_cons, List.length_nil, forall_const, implies_true, List.append_nil, List.cons_append, List.nil_append, eq_self, Nat.reduceEqDiff, Nat.reduceAdd, Nat.reduceMul, Nat.reduceSub, Nat.reduceLT, Nat.reduceLeDiff, Nat.reduceBEq, reduceIte, reduceCtorEq, tval, box25, ptrTo]
  generalize hCd : ASt.new A _ = C
  have c1 : C.get A.next = some (.row [.string t.name, .int .i64 t.ver, .int .u64 (t.at_ : Int), .int .u64 (t.every : Int), dv] 5 false) := by rw [← hCd, ASt.get_new, if_pos rfl]
  have fC : Fr [] A C := ⟨by rw [← hCd, ASt.next_new]; omega, fun b hb _ => by rw [← hCd, ASt.get_new, if_neg (by omega)]⟩
  have hpn : A.next < C.next := by rw [← hCd, ASt.next_new]; omega
  generalize A.next = p at c1 hpn
  clear hCd
  simp only [w_w, oneW_next, s_0, s_1, s_2, s_3, s_4, g_0, w_0, w_wh, w_st, w_qu, w_tb, Hands, handsV, resultsV, oneOrTuple, argsT, ev, evs, evPairs, evOpt, closed, flat, nth, aCall, aEnter, notYield, aNilCheck, partV, isAggD, aFieldAddr, aField, aExtract, Option.isNone, aBuiltin, aUn, cond_true, cond_false, cond_dec, if_true, if_false, List.length_cons, List.length_nil, forall_const, implies_true, List.append_nil, List.cons_append, List.nil_append, eq_self, Nat.reduceEqDiff, Nat.reduceAdd, Nat.reduceMul, Nat.reduceSub, Nat.reduceLT, Nat.reduceLeDiff, Nat.reduceBEq, reduceIte, reduceCtorEq, c1]
  refine CallT.mono (CallT.of_call (encode_spec hro ht (h.fr fC (by simp)) hs.2 hs.1)) ?_
  rintro _ D ⟨⟨o, e, rfl, he⟩, fD⟩
  have c1 := (fD.get p hpn (by simp)).trans c1
  have hfin : ∀ b, (b = true ↔ t.right) → (∃ b', Value.bool b = .bool b' ∧ (b' = true ↔ t.right)) ∧ Fr [] A D := fun b hb => ⟨⟨b, rfl, hb⟩, fC.trans fD⟩
  by_cases h0 : ¬ (e = 0)
  · have f0 := eq_false h0
    simp only [w_w, oneW_next, s_0, s_1, s_2, s_3, s_4, g_0, w_0, w_wh, w_st, w_qu, w_tb, Hands, handsV, resultsV, oneOrTuple, argsT, ev, evs, evPairs, evOpt, closed, flat, nth, aCall, aEnter, notYield, aNilCheck, partV, isAggD, aFieldAddr, aField, aExtract, Option.isNone, aBuiltin, aUn, cond_true, cond_false, cond_dec, if_true, if_false, List.length_cons, List.length_nil, forall_const, implies_true, List.append_nil, List.cons_append, List.nil_append, eq_self, Nat.reduceEqDiff, Nat.reduceAdd, Nat.reduceMul, Nat.reduceSub, Nat.reduceLT, Nat.reduceLeDiff, Nat.reduceBEq, reduceIte, reduceCtorEq, c1, lenS, b_sneq, undef, f0]
    exact hfin false (by constructor <;> intro x; cases x; unfold TimD.right at x; exact absurd (he.2 x.1) h0)
  replace h0 := Classical.not_not.1 h0
  have f0 := eq_true h0
  by_cases h1 : t.name.size = 0
  · have f1 : (t.name ≠ { data := #[] }) = False := eq_false (by simpa using empty_iff.2 h1)
    simp only [w_w, oneW_next, s_0, s_1, s_2, s_3, s_4, g_0, w_0, w_wh, w_st, w_qu, w_tb, Hands, handsV, resultsV, oneOrTuple, argsT, ev, evs, evPairs, evOpt, closed, flat, nth, aCall, aEnter, notYield, aNilCheck, partV, isAggD, aFieldAddr, aField, aExtract, Option.isNone, aBuiltin, aUn, cond_true, cond_false, cond_dec, if_true, if_false, List.length_cons, List.length_nil, forall_const, implies_true, List.append_nil, List.cons_append, List.nil_append, eq_self, Nat.reduceEqDiff, Nat.reduceAdd, Nat.reduceMul, Nat.reduceSub, Nat.reduceLT, Nat.reduceLeDiff, Nat.reduceBEq, reduceIte, reduceCtorEq, c1, lenS, b_sneq, undef, f0, f1]
    exact hfin false (by constructor <;> intro x; cases x; unfold TimD.right at x; omega)
  have f1 : (t.name ≠ { data := #[] }) = True := eq_true fun x => h1 (empty_iff.1 x)
  by_cases h2 : ¬ (((t.name.size : Nat) : Int) ≤ 16)
  · have f2 := eq_false h2
    simp only [w_w, oneW_next, s_0, s_1, s_2, s_3, s_4, g_0, w_0, w_wh, w_st, w_qu, w_tb, Hands, handsV, resultsV, oneOrTuple, argsT, ev, evs, evPairs, evOpt, closed, flat, nth, aCall, aEnter, notYield, aNilCheck, partV, isAggD, aFieldAddr, aField, aExtract, Option.isNone, aBuiltin, aUn, cond_true, cond_false, cond_dec, if_true, if_false, List.length_cons, List.length_nil, forall_const, implies_true, List.append_nil, List.cons_append, List.nil_append, eq_self, Nat.reduceEqDiff, Nat.reduceAdd, Nat.reduceMul, Nat.reduceSub, Nat.reduceLT, Nat.reduceLeDiff, Nat.reduceBEq, reduceIte, reduceCtorEq, c1, lenS, b_sneq, undef, f0, f1, f2]
    exact hfin false (by constructor <;> intro x; cases x; unfold TimD.right at x; omega)
  replace h2 := Classical.not_not.1 h2
  have f2 := eq_true h2
  by_cases h3 : ¬ (t.ver ≥ 1)
  · have f3 := eq_false h3
    simp only [w_w, oneW_next, s_0, s_1, s_2, s_3, s_4, g_0, w_0, w_wh, w_st, w_qu, w_tb, Hands, handsV, resultsV, oneOrTuple, argsT, ev, evs, evPairs, evOpt, closed, flat, nth, aCall, aEnter, notYield, aNilCheck, partV, isAggD, aFieldAddr, aField, aExtract, Option.isNone, aBuiltin, aUn, cond_true, cond_false, cond_dec, if_true, if_false, List.length_cons, List.length_nil, forall_const, implies_true, List.append_nil, List.cons_append, List.nil_append, eq_self, Nat.reduceEqDiff, Nat.reduceAdd, Nat.reduceMul, Nat.reduceSub, Nat.reduceLT, Nat.reduceLeDiff, Nat.reduceBEq, reduceIte, reduceCtorEq, c1, lenS, b_sneq, undef, f0, f1, f2, f3]
    exact hfin false (by constructor <;> intro x; cases x; unfold TimD.right at x; omega)
  replace h3 := Classical.not_not.1 h3
  have f3 := eq_true h3
  by_cases h4 : ¬ (t.ver ≤ 1099511627776)
  · have f4 := eq_false h4
    simp only [w_w, oneW_next, s_0, s_1, s_2, s_3, s_4, g_0, w_0, w_wh, w_st, w_qu, w_tb, Hands, handsV, resultsV, oneOrTuple, argsT, ev, evs, evPairs, evOpt, closed, flat, nth, aCall, aEnter, notYield, aNilCheck, partV, isAggD, aFieldAddr, aField, aExtract, Option.isNone, aBuiltin, aUn, cond_true, cond_false, cond_dec, if_true, if_false, List.length_cons, List.length_nil, forall_const, implies_true, List.append_nil, List.cons_append, List.nil_append, eq_self, Nat.reduceEqDiff, Nat.reduceAdd, Nat.reduceMul, Nat.reduceSub, Nat.reduceLT, Nat.reduceLeDiff, Nat.reduceBEq, reduceIte, reduceCtorEq, c1, lenS, b_sneq, undef, f0, f1, f2, f3, f4]
    exact hfin false (by constructor <;> intro x; cases x; unfold TimD.right at x; omega)
  replace h4 := Classical.not_not.1 h4
  have f4 := eq_true h4
  by_cases h5 : ¬ (((t.at_ : Nat) : Int) ≤ 4611686018427387904)
  · have f5 := eq_false h5
    simp only [w_w, oneW_next, s_0, s_1, s_2, s_3, s_4, g_0, w_0, w_wh, w_st, w_qu, w_tb, Hands, handsV, resultsV, oneOrTuple, argsT, ev, evs, evPairs, evOpt, closed, flat, nth, aCall, aEnter, notYield, aNilCheck, partV, isAggD, aFieldAddr, aField, aExtract, Option.isNone, aBuiltin, aUn, cond_true, cond_false, cond_dec, if_true, if_false, List.length_cons, List.length_nil, forall_const, implies_true, List.append_nil, List.cons_append, List.nil_append, eq_self, Nat.reduceEqDiff, Nat.reduceAdd, Nat.reduceMul, Nat.reduceSub, Nat.reduceLT, Nat.reduceLeDiff, Nat.reduceBEq, reduceIte, reduceCtorEq, c1, lenS, b_sneq, undef, f0, f1, f2, f3, f4, f5]
    exact hfin false (by constructor <;> intro x; cases x; unfold TimD.right at x; omega)
  replace h5 := Classical.not_not.1 h5
  have f5 := eq_true h5
  by_cases h6 : ¬ (((t.every : Nat) : Int) ≤ 4611686018427387904)
  · have f6 := eq_false h6
    simp only [w_w, oneW_next, s_0, s_1, s_2, s_3, s_4, g_0, w_0, w_wh, w_st, w_qu, w_tb, Hands, handsV, resultsV, oneOrTuple, argsT, ev, evs, evPairs, evOpt, closed, flat, nth, aCall, aEnter, notYield, aNilCheck, partV, isAggD, aFieldAddr, aField, aExtract, Option.isNone, aBuiltin, aUn, cond_true, cond_false, cond_dec, if_true, if_false, List.length_cons, List.length_nil, forall_const, implies_true, List.append_nil, List.cons_append, List.nil_append, eq_self, Nat.reduceEqDiff, Nat.reduceAdd, Nat.reduceMul, Nat.reduceSub, Nat.reduceLT, Nat.reduceLeDiff, Nat.reduceBEq, reduceIte, reduceCtorEq, c1, lenS, b_sneq, undef, f0, f1, f2, f3, f4, f5, f6]
    exact hfin false (by constructor <;> intro x; cases x; unfold TimD.right at x; omega)
  replace h6 := Classical.not_not.1 h6
  have f6 := eq_true h6
  simp only [w_w, oneW_next, s_0, s_1, s_2, s_3, s_4, g_0, w_0, w_wh, w_st, w_qu, w_tb, Hands, handsV, resultsV, oneOrTuple, argsT, ev, evs, evPairs, evOpt, closed, flat, nth, aCall, aEnter, notYield, aNilCheck, partV, isAggD, aFieldAddr, aField, aExtract, Option.isNone, aBuiltin, aUn, cond_true, cond_false, cond_dec, if_true, if_false, List.length_cons, List.length_nil, forall_const, implies_true, List.append_nil, List.cons_append, List.nil_append, eq_self, Nat.reduceEqDiff, Nat.reduceAdd, Nat.reduceMul, Nat.reduceSub, Nat.reduceLT, Nat.reduceLeDiff, Nat.reduceBEq, reduceIte, reduceCtorEq, c1, lenS, b_sneq, undef, f0, f1, f2, f3, f4, f5, f6]
  exact hfin true ⟨fun _ => ⟨he.1 h0, by omega, by omega, by omega, by omega, by omega, by omega⟩, fun _ => rfl⟩
end Go.Proofs.YtgcffmhpjphefaaDoor

/- A table of timers with nothing in it. -/
namespace Go.Proofs.YtgcffmhpjphefaaDoor
open Go Go.AE
set_option maxRecDepth 10000
set_option maxHeartbeats 8000000
variable {Z : Go.AE.Road} {s : Spans}

abbrev TM0 : TM := fun _ => none
theorem TM0.del {k : ByteArray} : TM.del TM0 k = TM0 := by
  funext j
  unfold TM.del
  split <;> rfl
/-- A table with nothing in it. -/
structure T0 (A : ASt) (x m q e w W all : Nat) (ms : List Nat) (now : Nat) : Prop where
  hx : A.get x = some (.row [.map (some m), .pointer (some ⟨q, 0, none⟩), .pointer (some ⟨W, 0, none⟩)] 3 false)
  hm : A.get m = some (.map [] 0)
  hq : Q0 A q e w
  hW : WheelAt A W all ms now TM0
  lt : x < A.next ∧ m < A.next
  ne : x ≠ m ∧ x ≠ e ∧ x ≠ w ∧ m ≠ q ∧ m ≠ e ∧ m ≠ w
  nW : x ∉ W :: all :: ms ∧ m ∉ W :: all :: ms ∧ q ∉ W :: all :: ms ∧ e ∉ W :: all :: ms ∧ w ∉ W :: all :: ms
theorem bld58 {m : Nat} {q W : Option Addr} : aBuild E0 58 [(0, .map (some m)), (1, .pointer q), (2, .pointer W)] = some (.agg #[.map (some m), .pointer q, .pointer W]) := by kernel_rfl
theorem box58 {a b c : Value} : aBox E0 58 (.agg #[a, b, c]) = some (.row [a, b, c] 3 false, ptrTo) := by
  simp only [aBox, w_tb, Value.cells]
theorem tnew_spec {A : ASt} {now : Nat} (hn : now < 18446744073709551616) : CallW Z Tryd.prog 10 [.int .u64 (now : Int)] A (fun r A' => ∃ x m q e w W all ms, r = .pointer (some ⟨x, 0, none⟩) ∧ T0 A' x m q e w W all ms now ∧ Fr [] A A' ∧ ∀ b ∈ [x, m, q, e, w, W, all] ++ ms, A.next ≤ b) := by
  refine CallW.of_code E0_ok E0_ro fn10 rfl (n := 9) rfl (rs := [.tmp 2]) rfl (by simp) (codeW_ok E0_ok E0_ro ?_)
  simp only [oneW_next, s_0, s_1, s_2, s_3, s_4, g_0, w_0, w_wh, w_st, w_qu, w_tb, Hands, handsV, resultsV, oneOrTuple, argsT, ev, evs, evPairs, evOpt, closed, flat, nth, aCall, aEnter, notYield, aNilCheck, partV, isAggD, aFieldAddr, aField, aExtract, Option.isNone, aBuiltin, aUn, cond_true, cond_false, cond_dec, if_true, if_false, List.length_cons, List.length_nil, forall_const, implies_true, List.append_nil, List.cons_append, List.nil_append, eq_self, Nat.reduceEqDiff, Nat.reduceAdd, Nat.reduceMul, Nat.reduceSub, Nat.reduceLT, Nat.reduceLeDiff, Nat.reduceBEq, reduceIte, reduceCtorEq]
  have hf0 : Fr [] A (A.new (.map [] 0)) := .new
  have hg0 : (A.new (.map [] 0)).get A.next = some (.map [] 0) := by rw [ASt.get_new, if_pos rfl]
  have hn0 : (A.new (.map [] 0)).next = A.next + 1 := ASt.next_new ..
  generalize A.new (.map [] 0) = B at hf0 hg0 hn0
  refine CallT.mono (CallT.of_call qnew_spec) ?_
  rintro _ C ⟨q, e, w, rfl, hq, lq, le, lw, fC⟩
  simp only [oneW_next, s_0, s_1, s_2, s_3, s_4, g_0, w_0, w_wh, w_st, w_qu, w_tb, Hands, handsV, resultsV, oneOrTuple, argsT, ev, evs, evPairs, evOpt, closed, flat, nth, aCall, aEnter, notYield, aNilCheck, partV, isAggD, aFieldAddr, aField, aExtract, Option.isNone, aBuiltin, aUn, cond_true, cond_false, cond_dec, if_true, if_false, List.length_cons, List.length_nil, forall_const, implies_true, List.append_nil, List.cons_append, List.nil_append, eq_self, Nat.reduceEqDiff, Nat.reduceAdd, Nat.reduceMul, Nat.reduceSub, Nat.reduceLT, Nat.reduceLeDiff, Nat.reduceBEq, reduceIte, reduceCtorEq]
  refine CallT.mono (CallT.of_call (new_walk2 hn)) ?_
  rintro _ D ⟨W, all, ms, rfl, hW, fD, lW⟩
  simp only [oneW_next, s_0, s_1, s_2, s_3, s_4, g_0, w_0, w_wh, w_st, w_qu, w_tb, Hands, handsV, resultsV, oneOrTuple, argsT, ev, evs, evPairs, evOpt, closed, flat, nth, aCall, aEnter, notYield, aNilCheck, partV, isAggD, aFieldAddr, aField, aExtract, Option.isNone, aBuiltin, aUn, cond_true, cond_false, cond_dec, if_true, if_false, List.length_cons, List.length_nil, forall_const, implies_true, List.append_nil, List.cons_append, List.nil_append, eq_self, Nat.reduceEqDiff, Nat.reduceAdd, Nat.reduceMul, Nat.reduceSub, Nat.reduceLT, Nat.reduceLeDiff, Nat.reduceBEq, reduceIte, reduceCtorEq, bld58, box58, ptrTo]
  generalize hEd : ASt.new D _ = F
  have hF : F.get D.next = some (.row [.map (some A.next), .pointer (some ⟨q, 0, none⟩), .pointer (some ⟨W, 0, none⟩)] 3 false) := by rw [← hEd, ASt.get_new, if_pos rfl]
  have fF : Fr [] D F := ⟨by rw [← hEd, ASt.next_new]; omega, fun b hb _ => by rw [← hEd, ASt.get_new, if_neg (by omega)]⟩
  have nF : F.next = D.next + 1 := by rw [← hEd, ASt.next_new]
  clear hEd
  have nC := fC.next
  have nD := fD.next
  have hlt := hq.lt
  have hWb : ∀ b ∈ W :: all :: ms, C.next ≤ b ∧ b < D.next := fun b hb => ⟨lW b hb, hW.below b hb⟩
  have nin : ∀ b, b < C.next ∨ D.next ≤ b → b ∉ W :: all :: ms := fun b hb hm => by have := hWb b hm; omega
  refine ⟨D.next, A.next, q, e, w, W, all, ms, rfl, ⟨hF, ?_, (hq.fr fD (by simp) (by simp) (by simp)).fr fF (by simp) (by simp) (by simp), hW.congr fF.next fun b hb => fF.get b (hW.below b hb) (by simp), ⟨by omega, by omega⟩, ⟨by omega, by omega, by omega, by omega, by omega, by omega⟩, ⟨nin _ (.inr (Nat.le_refl _)), nin _ (.inl (by omega)), nin _ (.inl (by omega)), nin _ (.inl (by omega)), nin _ (.inl (by omega))⟩⟩, ?_, ?_⟩
  · rw [fF.get _ (by omega) (by simp), fD.get _ (by omega) (by simp), fC.get _ (by omega) (by simp)]
    exact hg0
  · exact hf0.trans (fC.trans (fD.trans fF))
  · intro b hb
    simp only [List.cons_append, List.nil_append, List.mem_cons] at hb
    rcases hb with rfl | rfl | rfl | rfl | rfl | hb
    · omega
    · omega
    · omega
    · omega
    · omega
    · have := hWb b (by simpa using hb)
      omega
end Go.Proofs.YtgcffmhpjphefaaDoor

/- A table of timers with nothing in it: what is dropped there. -/
namespace Go.Proofs.YtgcffmhpjphefaaDoor
open Go Go.AE
set_option maxRecDepth 10000
set_option maxHeartbeats 8000000
variable {Z : Go.AE.Road} {s : Spans}

abbrev zTim : Value := .agg #[.string ByteArray.empty, .int .i64 0, .int .u64 0, .int .u64 0, .slice none 0 0]
theorem lookM0 {A : ASt} {m : Nat} {k : ByteArray} (h : A.get m = some (.map [] 0)) : aLookup E0 52 (.map (some m)) (.string k) true A = some (.tuple #[zTim, .bool false]) := by
  simp only [aLookup, w_tb, w_0, h]
  rfl
theorem delM0 {A : ASt} {m : Nat} {k : ByteArray} (h : A.get m = some (.map [] 0)) : aDelete E0 52 (.map (some m)) (.string k) A = .val undef A := by
  simp only [aDelete, w_tb, w_0, h]
  rfl
theorem eqnilT {xo yo : Operand} {x : Option Addr} : aBin2 E0 .eql 37 xo yo (.pointer x) (.pointer none) = some (.bool x.isNone) := b_ptr_nil ti37 t37_desc
abbrev fnV (f : Nat) (b : Nat) : Value := .func (.func f) #[.pointer (some ⟨b, 0, none⟩)] #[]
theorem bs92 {a b : Nat} : aBuildSlice E0 92 2 [(0, fnV 37 a), (1, fnV 38 b)] = some (.row [fnV 37 a, fnV 38 b] 1 false, fun id => .slice (some ⟨id, 0, none⟩) 2 2) := by
  simp only [aBuildSlice, w_tb]; rfl
theorem T0.fr {A B : ASt} {x m q e w W all now : Nat} {ms : List Nat} (h : T0 A x m q e w W all ms now) (hf : Fr [] A B) : T0 B x m q e w W all ms now :=
  ⟨(hf.get x h.lt.1 (by simp)).trans h.hx, (hf.get m h.lt.2 (by simp)).trans h.hm, h.hq.fr hf (by simp) (by simp) (by simp), h.hW.congr hf.next fun b hb => hf.get b (h.hW.below b hb) (by simp), ⟨Nat.lt_of_lt_of_le h.lt.1 hf.next, Nat.lt_of_lt_of_le h.lt.2 hf.next⟩, h.ne, h.nW⟩
theorem T0.frW {A B : ASt} {x m q e w W all now : Nat} {ms : List Nat} (h : T0 A x m q e w W all ms now) (hf : Fr (W :: all :: ms) A B) (hW : WheelAt B W all ms now TM0) : T0 B x m q e w W all ms now :=
  ⟨(hf.get x h.lt.1 h.nW.1).trans h.hx, (hf.get m h.lt.2 h.nW.2.1).trans h.hm, h.hq.fr hf h.nW.2.2.1 h.nW.2.2.2.1 h.nW.2.2.2.2, hW, ⟨Nat.lt_of_lt_of_le h.lt.1 hf.next, Nat.lt_of_lt_of_le h.lt.2 hf.next⟩, h.ne, h.nW⟩

theorem tdrop_spec {A : ASt} {x m q e w W all now : Nat} {ms : List Nat} {k : ByteArray} (h : T0 A x m q e w W all ms now) :
    CallW Z Tryd.prog 24 [.pointer (some ⟨x, 0, none⟩), .string k] A (fun _ A' => T0 A' x m q e w W all ms now ∧ Fr (W :: all :: ms) A A') := by
  refine CallW.of_code E0_ok E0_ro fn24 rfl (n := 46) rfl (rs := [.tmp 4]) rfl (by simp) (codeW_ok E0_ok E0_ro ?_)
  have h1 := h.hx
  simp only [oneW_next, s_0, s_1, s_2, s_3, s_4, g_0, w_0, w_wh, w_st, w_qu, w_tb, Hands, handsV, resultsV, oneOrTuple, argsT, ev, evs, evPairs, evOpt, closed, flat, nth, aCall, aEnter, notYield, aNilCheck, partV, isAggD, aFieldAddr, aField, aExtract, Option.isNone, aBuiltin, aUn, cond_true, cond_false, cond_dec, if_true, if_false, List.length_cons, List.length_nil, forall_const, implies_true, List.append_nil, List.cons_append, List.nil_append, eq_self, Nat.reduceEqDiff, Nat.reduceAdd, Nat.reduceMul, Nat.reduceSub, Nat.reduceLT, Nat.reduceLeDiff, Nat.reduceBEq, reduceIte, reduceCtorEq, eqnilT, h1, lookM0 h.hm, al25, ptrTo]
  have hst := st25 (A := A.new (.row [.string ByteArray.empty, .int .i64 0, .int .u64 0, .int .u64 0, .slice none 0 0] 5 false)) (b := A.next) (a0 := .string ByteArray.empty) (a1 := .int .i64 0) (a2 := .int .u64 0) (a3 := .int .u64 0) (a4 := .slice none 0 0) (by rw [ASt.get_new, if_pos rfl]) rfl
  rw [hst]
  generalize hCd : (A.new (.row [.string ByteArray.empty, .int .i64 0, .int .u64 0, .int .u64 0, .slice none 0 0] 5 false)).set A.next _ = C
  have fC : Fr [] A C := ⟨by rw [← hCd, ASt.next_set, ASt.next_new]; omega, fun b hb _ => by rw [← hCd, ASt.get_set, if_neg (by omega), ASt.get_new, if_neg (by omega)]⟩
  clear hCd hst
  have hC := h.fr fC
  have h2 := hC.hx
  simp only [oneW_next, s_0, s_1, s_2, s_3, s_4, g_0, w_0, w_wh, w_st, w_qu, w_tb, Hands, handsV, resultsV, oneOrTuple, argsT, ev, evs, evPairs, evOpt, closed, flat, nth, aCall, aEnter, notYield, aNilCheck, partV, isAggD, aFieldAddr, aField, aExtract, Option.isNone, aBuiltin, aUn, cond_true, cond_false, cond_dec, if_true, if_false, List.length_cons, List.length_nil, forall_const, implies_true, List.append_nil, List.cons_append, List.nil_append, eq_self, Nat.reduceEqDiff, Nat.reduceAdd, Nat.reduceMul, Nat.reduceSub, Nat.reduceLT, Nat.reduceLeDiff, Nat.reduceBEq, reduceIte, reduceCtorEq, h2, delM0 hC.hm]
  refine CodeW.seqf E0_ok E0_ro mixed noCon_ok [0,1,2,3,4,5,6,7,8,9,12,10,11] [] [[],[],[],[],[],[],[],[],[],[],[],[],[11]] (by simp only [reorder, reoGo, strip, List.map_cons, List.map_nil, opAt, remap, nth, Option.map, σ, place', nbeq, List.length_cons, List.length_nil, Nat.reduceAdd, Nat.reduceLT, Nat.reduceEqDiff, if_true, if_false, reduceIte]; rfl) (by decide +kernel) (by kernel_rfl) (by kernel_rfl) (by kernel_rfl) (by kernel_rfl) ?_
  have len92 : ∀ B, aLen E0 92 (.slice (some ⟨C.next + 11, 0, none⟩) 2 2) B = some (.int .i64 2) := fun B => by simp only [aLen, w_tb]; rfl
  simp only [oneW_next, s_0, s_1, s_2, s_3, s_4, g_0, w_0, w_wh, w_st, w_qu, w_tb, Hands, handsV, resultsV, oneOrTuple, argsT, ev, evs, evPairs, evOpt, closed, flat, nth, aCall, aEnter, notYield, aNilCheck, partV, isAggD, aFieldAddr, aField, aExtract, Option.isNone, aBuiltin, aUn, cond_true, cond_false, cond_dec, if_true, if_false, List.length_cons, List.length_nil, forall_const, implies_true, List.append_nil, List.cons_append, List.nil_append, eq_self, Nat.reduceEqDiff, Nat.reduceAdd, Nat.reduceMul, Nat.reduceSub, Nat.reduceLT, Nat.reduceLeDiff, Nat.reduceBEq, reduceIte, reduceCtorEq, q_0, q_1, q_2, f_0, pendW, hasN, reorder, E0_ron, exists_eq', List.length_cons, List.length_nil, Bool.false_and, Bool.and_false, h2, bs92, len92, get_next]
  generalize hDd : ASt.set _ (C.next + 11) _ = D
  have fD : Fr [] C D := ⟨by rw [← hDd, ASt.next_set]; exact Nat.le_add_right _ _, fun b hb _ => by rw [← hDd, ASt.get_set, if_neg (by omega), get_next]⟩
  have gD : D.get (C.next + 11) = some (.row [fnV 37 W, fnV 38 q] 1 false) := by rw [← hDd, ASt.get_set, if_pos rfl]
  have nD : C.next + 11 < D.next := by rw [← hDd, ASt.next_set]; show C.next + 11 < C.next + 13; omega
  have hbn : C.next + 11 ∉ W :: all :: ms := fun hm => absurd (hC.hW.below _ hm) (by omega)
  generalize C.next + 11 = b at gD nD hbn
  clear hDd len92
  have hD := hC.fr fD
  have ix0 : aIndexAddr E0 92 (.slice (some ⟨b, 0, none⟩) 2 2) (.int .i64 0) = some (.pointer (some ⟨b, 0, none⟩)) := indexAddr_sl (A := A) ti92 t92_desc ti62 (kd := .i64) (k := 0) (b := b) (off := 0) (len := 2) (cap := 2) (by omega)
  have ix1 : aIndexAddr E0 92 (.slice (some ⟨b, 0, none⟩) 2 2) (.int .i64 1) = some (.pointer (some ⟨b, 1, none⟩)) := indexAddr_sl (A := A) ti92 t92_desc ti62 (kd := .i64) (k := 1) (b := b) (off := 0) (len := 2) (cap := 2) (by omega)
  refine CodeW.mono (Q := fun o => ∃ T' A', o = .fr ⟨.exit 0, T', A'⟩ ∧ tget T' 6 = .bool false ∧ T0 A' x m q e w W all ms now ∧ Fr (W :: all :: ms) A A') ?_ ?_
  · refine CodeW.loopR (k := 2) (fun n T A' => ∃ i, n = 2 - i ∧ i ≤ 2 ∧ tget T 37 = .int .i64 ((i : Nat) : Int) ∧ tget T 36 = .int .i64 2 ∧ tget T 35 = .slice (some ⟨b, 0, none⟩) 2 2 ∧ tget T 1 = .string k ∧ tget T 6 = .bool false ∧ T0 A' x m q e w W all ms now ∧ Fr (W :: all :: ms) A A' ∧ A'.get b = some (.row [fnV 37 W, fnV 38 q] 1 false) ∧ b < A'.next) ?_ ⟨0, rfl, by omega, ?_, ?_, ?_, ?_, ?_, hD, (fC.trans fD).nil, gD, nD⟩
    · rintro n T A1 ⟨i, rfl, hi, u37, u36, u35, u1, u6, h3, f3, g3, n3⟩
      refine codeW_ok E0_ok E0_ro ?_
      by_cases i0 : i = 0
      · subst i0
        have d1 : (((0 : Nat) : Int) < 2) = True := eq_true (by omega)
        have u37 : tget T 37 = .int .i64 0 := u37
        have d2 : ((0 : Int) < 2) = True := eq_true (by omega)
        have w1 : IntKind.i64.wrap (0 + 1) = 1 := by kernel_rfl
        simp only [oneW_next, s_0, s_1, s_2, s_3, s_4, g_0, w_0, w_wh, w_st, w_qu, w_tb, Hands, handsV, resultsV, oneOrTuple, argsT, ev, evs, evPairs, evOpt, closed, flat, nth, aCall, aEnter, notYield, aNilCheck, partV, isAggD, aFieldAddr, aField, aExtract, Option.isNone, aBuiltin, aUn, cond_true, cond_false, cond_dec, if_true, if_false, List.length_cons, List.length_nil, forall_const, implies_true, List.append_nil, List.cons_append, List.nil_append, eq_self, Nat.reduceEqDiff, Nat.reduceAdd, Nat.reduceMul, Nat.reduceSub, Nat.reduceLT, Nat.reduceLeDiff, Nat.reduceBEq, reduceIte, reduceCtorEq, u37, u36, u35, u1, d2, ix0, g3, fnV]
        refine CallT.mono (CallT.of_call (drop_spec h3.hW k)) ?_
        rintro _ B ⟨rfl, hWB, fB⟩
        rw [TM0.del] at hWB
        simp only [oneW_next, s_0, s_1, s_2, s_3, s_4, g_0, w_0, w_wh, w_st, w_qu, w_tb, Hands, handsV, resultsV, oneOrTuple, argsT, ev, evs, evPairs, evOpt, closed, flat, nth, aCall, aEnter, notYield, aNilCheck, partV, isAggD, aFieldAddr, aField, aExtract, Option.isNone, aBuiltin, aUn, cond_true, cond_false, cond_dec, if_true, if_false, List.length_cons, List.length_nil, forall_const, implies_true, List.append_nil, List.cons_append, List.nil_append, eq_self, Nat.reduceEqDiff, Nat.reduceAdd, Nat.reduceMul, Nat.reduceSub, Nat.reduceLT, Nat.reduceLeDiff, Nat.reduceBEq, reduceIte, reduceCtorEq, u37, w1]
        exact ⟨1, by omega, 1, rfl, by omega, rfl, u36, u35, u1, u6, h3.frW fB hWB, f3.trans fB, (fB.get b n3 hbn).trans g3, Nat.lt_of_lt_of_le n3 fB.next⟩
      by_cases i1 : i = 1
      · subst i1
        have u37 : tget T 37 = .int .i64 1 := u37
        have d2 : ((1 : Int) < 2) = True := eq_true (by omega)
        have w1 : IntKind.i64.wrap (1 + 1) = 2 := by kernel_rfl
        simp only [oneW_next, s_0, s_1, s_2, s_3, s_4, g_0, w_0, w_wh, w_st, w_qu, w_tb, Hands, handsV, resultsV, oneOrTuple, argsT, ev, evs, evPairs, evOpt, closed, flat, nth, aCall, aEnter, notYield, aNilCheck, partV, isAggD, aFieldAddr, aField, aExtract, Option.isNone, aBuiltin, aUn, cond_true, cond_false, cond_dec, if_true, if_false, List.length_cons, List.length_nil, forall_const, implies_true, List.append_nil, List.cons_append, List.nil_append, eq_self, Nat.reduceEqDiff, Nat.reduceAdd, Nat.reduceMul, Nat.reduceSub, Nat.reduceLT, Nat.reduceLeDiff, Nat.reduceBEq, reduceIte, reduceCtorEq, u37, u36, u35, u1, d2, ix1, g3, fnV]
        refine CallT.mono (CallT.of_call (qdrop_spec h3.hq)) ?_
        rintro _ _ ⟨rfl, rfl⟩
        simp only [oneW_next, s_0, s_1, s_2, s_3, s_4, g_0, w_0, w_wh, w_st, w_qu, w_tb, Hands, handsV, resultsV, oneOrTuple, argsT, ev, evs, evPairs, evOpt, closed, flat, nth, aCall, aEnter, notYield, aNilCheck, partV, isAggD, aFieldAddr, aField, aExtract, Option.isNone, aBuiltin, aUn, cond_true, cond_false, cond_dec, if_true, if_false, List.length_cons, List.length_nil, forall_const, implies_true, List.append_nil, List.cons_append, List.nil_append, eq_self, Nat.reduceEqDiff, Nat.reduceAdd, Nat.reduceMul, Nat.reduceSub, Nat.reduceLT, Nat.reduceLeDiff, Nat.reduceBEq, reduceIte, reduceCtorEq, u37, w1]
        exact ⟨0, by omega, 2, rfl, by omega, rfl, u36, u35, u1, u6, h3, f3, g3, n3⟩
      have : i = 2 := by omega
      subst this
      have u37 : tget T 37 = .int .i64 2 := u37
      have d2 : ((2 : Int) < 2) = False := eq_false (by omega)
      simp only [oneW_next, s_0, s_1, s_2, s_3, s_4, g_0, w_0, w_wh, w_st, w_qu, w_tb, Hands, handsV, resultsV, oneOrTuple, argsT, ev, evs, evPairs, evOpt, closed, flat, nth, aCall, aEnter, notYield, aNilCheck, partV, isAggD, aFieldAddr, aField, aExtract, Option.isNone, aBuiltin, aUn, cond_true, cond_false, cond_dec, if_true, if_false, List.length_cons, List.length_nil, forall_const, implies_true, List.append_nil, List.cons_append, List.nil_append, eq_self, Nat.reduceEqDiff, Nat.reduceAdd, Nat.reduceMul, Nat.reduceSub, Nat.reduceLT, Nat.reduceLeDiff, Nat.reduceBEq, reduceIte, reduceCtorEq, u37, u36, d2]
      exact ⟨_, _, rfl, by simp only [tget_put, Nat.reduceEqDiff, if_false, if_true, reduceIte, u6], h3, f3⟩
    all_goals simp only [tget_put, Nat.reduceEqDiff, if_false, if_true, reduceIte]
    all_goals rfl
  · rintro o ⟨T', A', rfl, u6, h3, f3⟩
    simp only [oneW_next, s_0, s_1, s_2, s_3, s_4, g_0, w_0, w_wh, w_st, w_qu, w_tb, Hands, handsV, resultsV, oneOrTuple, argsT, ev, evs, evPairs, evOpt, closed, flat, nth, aCall, aEnter, notYield, aNilCheck, partV, isAggD, aFieldAddr, aField, aExtract, Option.isNone, aBuiltin, aUn, cond_true, cond_false, cond_dec, if_true, if_false, List.length_cons, List.length_nil, forall_const, implies_true, List.append_nil, List.cons_append, List.nil_append, eq_self, Nat.reduceEqDiff, Nat.reduceAdd, Nat.reduceMul, Nat.reduceSub, Nat.reduceLT, Nat.reduceLeDiff, Nat.reduceBEq, reduceIte, reduceCtorEq, u6]
    exact ⟨h3, f3⟩
end Go.Proofs.YtgcffmhpjphefaaDoor

/- A table of timers with nothing in it: what is laid there, and got. -/
namespace Go.Proofs.YtgcffmhpjphefaaDoor
open Go Go.AE
set_option maxRecDepth 10000
set_option maxHeartbeats 8000000
variable {Z : Go.AE.Road} {s : Spans}

/-- One contract. -/
def ROne (f : FuncId) (ar : List Value) (P : ASt → Prop) (Sp : ASt → Value → ASt → Prop) : Tgt → List Value → ASt → (Value → ASt → Prop) → Prop := fun tg l A S => P A ∧ tg = .fn f ∧ l = ar ∧ S = Sp A
theorem ROne_ok {f : FuncId} {ar : List Value} {P : ASt → Prop} {Sp : ASt → Value → ASt → Prop} (h : ∀ A, P A → CallW Z Tryd.prog f ar A (Sp A)) (t args A S) (hr : ROne f ar P Sp t args A S) : CallT Z Tryd.prog t args A S := by
  obtain ⟨hp, rfl, rfl, rfl⟩ := hr
  exact h A hp
theorem conOne {f : FuncId} {ar : List Value} {P : ASt → Prop} {Sp : ASt → Value → ASt → Prop} {A : ASt} {K : Value → ASt → Prop} (hp : P A) (h : ∀ r A', Sp A r A' → K r A') : conC (ROne f ar P Sp) (.fn f) ar A K := by
  refine ⟨⟨_, hp, rfl, rfl, rfl⟩, ?_⟩
  rintro S ⟨_, _, _, rfl⟩ r A' hr
  exact h r A' hr
theorem updM {A : ASt} {m : Nat} {k : ByteArray} {v : Value} (h : A.get m = some (.map [] 0)) : aMapUpdate E0 52 (.map (some m)) (.string k) v A = some (A.set m (.map [{ key := .string k, val := v, born := 0 }] 1)) := by
  simp only [aMapUpdate, w_tb, w_0, h]
  rfl
theorem lookM1 {A : ASt} {m : Nat} {k : ByteArray} {v : Value} (h : A.get m = some (.map [{ key := .string k, val := v, born := 0 }] 1)) : aLookup E0 52 (.map (some m)) (.string k) true A = some (.tuple #[v, .bool true]) := by
  have e : findE (.string k) [{ key := .string k, val := v, born := 0 }] 0 = some (some (0, v)) := by
    simp [findE, sameKey, bytesEq_iff]
  simp only [aLookup, w_tb, w_0, h, e]
  rfl

theorem val25 {E : Env} {A : ASt} {S : Nat → Prop} {t : TimD} {dv : Value} (h : Steps E A S dv t.steps) : valEq (.agg #[.string t.name, .int .i64 t.ver, .int .u64 (t.at_ : Int), .int .u64 (t.every : Int), dv]) (.agg #[.string t.name, .int .i64 t.ver, .int .u64 (t.at_ : Int), .int .u64 (t.every : Int), dv]) = true := by
  rcases h with ⟨_, rfl⟩ | ⟨b, o, cap, _, rfl, _⟩
  · simp [valEq, vEq, vStep, flatEq, lEq, bytesEq_iff]
  · simp [valEq, vEq, vStep, flatEq, lEq, bytesEq_iff]
theorem box25' {t : TimD} {dv : Value} : aBox E0 25 (tval t dv) = some (.row (tcell t dv) 5 false, ptrTo) := box25
def TOne (s : Spans) (A : ASt) (x m q W : Nat) (t : TimD) : Prop := A.get x = some (.row [.map (some m), .pointer (some ⟨q, 0, none⟩), .pointer (some ⟨W, 0, none⟩)] 3 false) ∧ ∃ dv' S', A.get m = some (.map [{ key := .string t.name, val := tval t dv', born := 0 }] 1) ∧ Steps (withRo E0 s) A S' dv' t.steps
theorem tset_spec (hro : RoadS Z E0 s) (ht : TabZ Z) {A : ASt} {S : Nat → Prop} {x m q e w W all now : Nat} {ms : List Nat} {t : TimD} {dv : Value} (h : T0 A x m q e w W all ms now) (hd : Steps (withRo E0 s) A S dv t.steps) (hs : StepsIn t.steps) (hat : t.at_ < 18446744073709551616) (hS : ∀ b, S b → b < A.next → b ∉ x :: m :: e :: w :: W :: all :: ms) (rx : (withRo E0 s).ro x = none) :
    CallW Z Tryd.prog 12 [.pointer (some ⟨x, 0, none⟩), tval t dv] A (fun r A' => (t.right ∧ r = .int .i64 0 ∧ TOne s A' x m q W t ∨ ¬ t.right ∧ r = .int .i64 101 ∧ T0 A' x m q e w W all ms now) ∧ Fr (m :: e :: w :: W :: all :: ms) A A') := by
  refine CallW.assume hro fun hnr => ?_
  refine CallW.of_code (withRo_ok E0_ok) hro.ro (f := 12) (fn := Tryd.f12) fn12 rfl (n := 43) rfl (rs := [.tmp 4]) rfl (by simp) (codeW_ok (withRo_ok E0_ok) hro.ro ?_)
  have hsd := hd.single
  have vd := hd.ve
  simp only [w_w, oneW_next, s_0, s_1, s_2, s_3, s_4, g_0, w_0, w_wh, w_st, w_qu, w_tb, Hands, handsV, resultsV, oneOrTuple, argsT, ev, evs, evPairs, evOpt, closed, flat, nth, aCall, aEnter, notYield, aNilCheck, partV, isAggD, aFieldAddr, aField, aExtract, Option.isNone, aBuiltin, aUn, cond_true, cond_false, cond_dec, if_true, if_false, List.length_cons, List.length_nil, forall_const, implies_true, List.append_nil, List.cons_append, List.nil_append, eq_self, Nat.reduceEqDiff, Nat.reduceAdd, Nat.reduceMul, Nat.reduceSub, Nat.reduceLT, Nat.reduceLeDiff, Nat.reduceBEq, reduceIte, reduceCtorEq, box25', ptrTo, eqnilT]
  generalize hCd : ASt.new A _ = C
  have c1 : C.get A.next = some (.row (tcell t dv) 5 false) := by rw [← hCd, ASt.get_new, if_pos rfl]
  have fC : Fr [] A C := ⟨by rw [← hCd, ASt.next_new]; omega, fun b hb _ => by rw [← hCd, ASt.get_new, if_neg (by omega)]⟩
  have nC : C.next = A.next + 1 := by rw [← hCd, ASt.next_new]
  have hcut : cut (tcell t dv) 0 5 = some (tcell t dv) := rfl
  have hag : Value.agg (tcell t dv).toArray = tval t dv := rfl
  have rp : (withRo E0 s).ro A.next = none := hnr _ (Nat.le_refl _)
  have hpm : ∀ b ∈ m :: e :: w :: W :: all :: ms, b < A.next := by
    intro b hb
    simp only [List.mem_cons] at hb
    rcases hb with rfl | rfl | rfl | hb
    · exact h.lt.2
    · exact h.hq.lt.2.1
    · exact h.hq.lt.2.2
    · exact h.hW.below b (by simpa using hb)
  have hpA : A.next < C.next := by omega
  have hApp : A.next ≤ A.next := Nat.le_refl _
  generalize hpd : A.next = p at c1 rp hpA
  clear hCd
  simp only [w_w, oneW_next, s_0, s_1, s_2, s_3, s_4, g_0, w_0, w_wh, w_st, w_qu, w_tb, Hands, handsV, resultsV, oneOrTuple, argsT, ev, evs, evPairs, evOpt, closed, flat, nth, aCall, aEnter, notYield, aNilCheck, partV, isAggD, aFieldAddr, aField, aExtract, Option.isNone, aBuiltin, aUn, cond_true, cond_false, cond_dec, if_true, if_false, List.length_cons, List.length_nil, forall_const, implies_true, List.append_nil, List.cons_append, List.nil_append, eq_self, Nat.reduceEqDiff, Nat.reduceAdd, Nat.reduceMul, Nat.reduceSub, Nat.reduceLT, Nat.reduceLeDiff, Nat.reduceBEq, reduceIte, reduceCtorEq, c1, hcut, hag]
  refine CallT.mono (CallT.of_call (tright_spec hro ht (hd.fr fC (by simp)) hs)) ?_
  rintro _ D ⟨⟨b, rfl, hb⟩, fD⟩
  have c2 := (fD.get p hpA (by simp)).trans c1
  have hTD := (h.fr fC).fr fD
  cases b with
  | false =>
    simp only [w_w, oneW_next, s_0, s_1, s_2, s_3, s_4, g_0, w_0, w_wh, w_st, w_qu, w_tb, Hands, handsV, resultsV, oneOrTuple, argsT, ev, evs, evPairs, evOpt, closed, flat, nth, aCall, aEnter, notYield, aNilCheck, partV, isAggD, aFieldAddr, aField, aExtract, Option.isNone, aBuiltin, aUn, cond_true, cond_false, cond_dec, if_true, if_false, List.length_cons, List.length_nil, forall_const, implies_true, List.append_nil, List.cons_append, List.nil_append, eq_self, Nat.reduceEqDiff, Nat.reduceAdd, Nat.reduceMul, Nat.reduceSub, Nat.reduceLT, Nat.reduceLeDiff, Nat.reduceBEq, reduceIte, reduceCtorEq, un_not, Bool.not_false]
    exact ⟨.inr ⟨fun hr => by simpa using hb.2 hr, hTD⟩, (fC.trans fD).nil⟩
  | true =>
    have hright := hb.1 rfl
    simp only [w_w, oneW_next, s_0, s_1, s_2, s_3, s_4, g_0, w_0, w_wh, w_st, w_qu, w_tb, Hands, handsV, resultsV, oneOrTuple, argsT, ev, evs, evPairs, evOpt, closed, flat, nth, aCall, aEnter, notYield, aNilCheck, partV, isAggD, aFieldAddr, aField, aExtract, Option.isNone, aBuiltin, aUn, cond_true, cond_false, cond_dec, if_true, if_false, List.length_cons, List.length_nil, forall_const, implies_true, List.append_nil, List.cons_append, List.nil_append, eq_self, Nat.reduceEqDiff, Nat.reduceAdd, Nat.reduceMul, Nat.reduceSub, Nat.reduceLT, Nat.reduceLeDiff, Nat.reduceBEq, reduceIte, reduceCtorEq, un_not, Bool.not_true, c2, tcell]
    refine CallT.mono (CallT.of_call (tdrop_spec hTD)) ?_
    rintro _ F ⟨hTF, fF⟩
    have hpn : p ∉ m :: e :: w :: W :: all :: ms := fun hm => absurd (hpm p hm) (by omega)
    have hpW : p ∉ W :: all :: ms := fun hm => hpn (by simp only [List.mem_cons] at hm ⊢; exact .inr (.inr (.inr hm)))
    have nD := fD.next
    have nF := fF.next
    have c3 := (fF.get p (by omega) hpW).trans c2
    have hx3 := hTF.hx
    have hxp : x < p := by have := h.lt.1; omega
    have hdF := ((hd.fr fC (by simp)).fr fD (by simp)).fr fF (fun b h1 h2 hm => by
      by_cases hb2 : b < A.next
      · exact hS b h1 hb2 (by simp only [List.mem_cons] at hm ⊢; exact .inr (.inr (.inr (.inr hm))))
      · exact absurd (hpm b (by simp only [List.mem_cons] at hm ⊢; exact .inr (.inr (.inr hm)))) hb2)
    have hRC := ROne_ok (Z := Z) (f := 18) (ar := [tval t dv]) (P := fun A => Steps (withRo E0 s) A S dv t.steps) (Sp := fun A r A' => ∃ dv', r = tval t dv' ∧ Steps (withRo E0 s) A' (fun b => A.next ≤ b) dv' t.steps ∧ Fr [] A A') (fun A hp => copied_spec hro hp hs.1)
    have vm : valEq (.map (some m)) (.map (some m)) = true := valEq_map
    simp only [w_w, oneW_next, s_0, s_1, s_2, s_3, s_4, g_0, w_0, w_wh, w_st, w_qu, w_tb, Hands, handsV, resultsV, oneOrTuple, argsT, ev, evs, evPairs, evOpt, closed, flat, nth, aCall, aEnter, notYield, aNilCheck, partV, isAggD, aFieldAddr, aField, aExtract, Option.isNone, aBuiltin, aUn, cond_true, cond_false, cond_dec, if_true, if_false, List.length_cons, List.length_nil, forall_const, implies_true, List.append_nil, List.cons_append, List.nil_append, eq_self, Nat.reduceEqDiff, Nat.reduceAdd, Nat.reduceMul, Nat.reduceSub, Nat.reduceLT, Nat.reduceLeDiff, Nat.reduceBEq, reduceIte, reduceCtorEq]
    refine CodeW.seqf (withRo_ok E0_ok) hro.ro mixed hRC [0,1,2,3,4,5,6,7,8] [0,1,2,3,4,5] (fanOf _ _ _) (by simp only [reorder, reoGo, strip, List.map_cons, List.map_nil, opAt, remap, nth, Option.map, σ, place', nbeq, List.length_cons, List.length_nil, Nat.reduceAdd, Nat.reduceLT, Nat.reduceEqDiff, if_true, if_false, reduceIte]; rfl) (by decide +kernel) (by kernel_rfl) (by kernel_rfl) (by kernel_rfl) rfl ?_
    have vt : valEq (.agg #[.string t.name, .int .i64 t.ver, .int .u64 (t.at_ : Int), .int .u64 (t.every : Int), dv]) (.agg #[.string t.name, .int .i64 t.ver, .int .u64 (t.at_ : Int), .int .u64 (t.every : Int), dv]) = true := val25 hd
    simp only [w_w, oneW_next, s_0, s_1, s_2, s_3, s_4, g_0, w_0, w_wh, w_st, w_qu, w_tb, Hands, handsV, resultsV, oneOrTuple, argsT, ev, evs, evPairs, evOpt, closed, flat, nth, aCall, aEnter, notYield, aNilCheck, partV, isAggD, aFieldAddr, aField, aExtract, Option.isNone, aBuiltin, aUn, cond_true, cond_false, cond_dec, if_true, if_false, List.length_cons, List.length_nil, forall_const, implies_true, List.append_nil, List.cons_append, List.nil_append, eq_self, Nat.reduceEqDiff, Nat.reduceAdd, Nat.reduceMul, Nat.reduceSub, Nat.reduceLT, Nat.reduceLeDiff, Nat.reduceBEq, reduceIte, reduceCtorEq, q_0, q_1, q_2, f_0, pendW, hasN, reorder, E0_ron, exists_eq', List.length_cons, List.length_nil, hx3, c3, rp, rx, vm, vt, valEq_str, tcell, cut5, get_next]
    refine conOne (hdF.fr (Fr.bump (own := []) (by omega)) (by simp)) ?_
    rintro r G ⟨dv', rfl, hdG, fG⟩
    have fFG : Fr [] F G := (Fr.bump (n := F.next + 9) (by omega)).trans fG
    have hTG := hTF.fr fFG
    have c4 := (fFG.get p (by omega) (by simp)).trans c3
    have hx4 := hTG.hx
    have exm : (x = m) = False := eq_false h.ne.1
    have epm : (p = m) = False := eq_false fun e => hpn (by simp [e])
    simp only [w_w, oneW_next, s_0, s_1, s_2, s_3, s_4, g_0, w_0, w_wh, w_st, w_qu, w_tb, Hands, handsV, resultsV, oneOrTuple, argsT, ev, evs, evPairs, evOpt, closed, flat, nth, aCall, aEnter, notYield, aNilCheck, partV, isAggD, aFieldAddr, aField, aExtract, Option.isNone, aBuiltin, aUn, cond_true, cond_false, cond_dec, if_true, if_false, List.length_cons, List.length_nil, forall_const, implies_true, List.append_nil, List.cons_append, List.nil_append, eq_self, Nat.reduceEqDiff, Nat.reduceAdd, Nat.reduceMul, Nat.reduceSub, Nat.reduceLT, Nat.reduceLeDiff, Nat.reduceBEq, reduceIte, reduceCtorEq, q_0, q_1, q_2, f_0, pendW, hasN, reorder, E0_ron, exists_eq', List.length_cons, List.length_nil, hx4, c4, rp, rx, vm, vt, valEq_str, tcell, cut5, updM hTG.hm, exm, epm]
    have mW := h.nW.2.1
    generalize hHd : G.set m _ = H
    have fH : Fr [m] G H := ⟨by rw [← hHd, ASt.next_set]; exact Nat.le_refl _, fun b hb hn => by rw [← hHd, ASt.get_set, if_neg (by simpa using hn)]⟩
    have gm : H.get m = some (.map [{ key := .string t.name, val := tval t dv', born := 0 }] 1) := by rw [← hHd, ASt.get_set, if_pos rfl]
    clear hHd
    have nG := fFG.next
    have nH := fH.next
    have hxH := (fH.get x hTG.lt.1 (by simpa using h.ne.1)).trans hTG.hx
    have cH := (fH.get p (by omega) (by simpa using fun e : p = m => hpn (by simp [e]))).trans c4
    have hqH := hTG.hq.fr fH (by simpa using h.ne.2.2.2.1.symm) (by simpa using h.ne.2.2.2.2.1.symm) (by simpa using h.ne.2.2.2.2.2.symm)
    have hWH := hTG.hW.congr nH fun b hb => fH.get b (hTG.hW.below b hb) (by simp only [List.mem_singleton]; exact fun e => mW (e ▸ hb))
    have hdH := hdG.fr fH (fun b h1 _ hm => by simp only [List.mem_singleton] at hm; subst hm; have := hTF.lt.2; have h1 : F.next + 9 ≤ b := h1; omega)
    have hnm : ∀ b, F.next + 9 ≤ b → b ∉ m :: e :: w :: W :: all :: ms := fun b hb hm => absurd (hpm b hm) (by omega)
    have hRP := ROne_ok (Z := Z) (f := 25) (ar := [.pointer (some ⟨W, 0, none⟩), .string t.name, .int .u64 (t.at_ : Int)]) (P := fun A => WheelAt A W all ms now TM0) (Sp := fun A v A' => v = .bool (decide (now < t.at_)) ∧ WheelAt A' W all ms now (if now < t.at_ then TM0.put t.name t.at_ else TM0) ∧ Fr (W :: all :: ms) A A') (fun A hp => put_spec hp t.name hat)
    refine CodeW.seqf (withRo_ok E0_ok) hro.ro mixed hRP [0,1,2,3,4,5,6,7,8,9] [] (fanOf _ _ _) (by simp only [reorder, reoGo, strip, List.map_cons, List.map_nil, opAt, remap, nth, Option.map, σ, place', nbeq, List.length_cons, List.length_nil, Nat.reduceAdd, Nat.reduceLT, Nat.reduceEqDiff, if_true, if_false, reduceIte]; rfl) (by decide +kernel) (by kernel_rfl) (by kernel_rfl) (by kernel_rfl) rfl ?_
    simp only [w_w, oneW_next, s_0, s_1, s_2, s_3, s_4, g_0, w_0, w_wh, w_st, w_qu, w_tb, Hands, handsV, resultsV, oneOrTuple, argsT, ev, evs, evPairs, evOpt, closed, flat, nth, aCall, aEnter, notYield, aNilCheck, partV, isAggD, aFieldAddr, aField, aExtract, Option.isNone, aBuiltin, aUn, cond_true, cond_false, cond_dec, if_true, if_false, List.length_cons, List.length_nil, forall_const, implies_true, List.append_nil, List.cons_append, List.nil_append, eq_self, Nat.reduceEqDiff, Nat.reduceAdd, Nat.reduceMul, Nat.reduceSub, Nat.reduceLT, Nat.reduceLeDiff, Nat.reduceBEq, reduceIte, reduceCtorEq, q_0, q_1, q_2, f_0, pendW, hasN, reorder, E0_ron, exists_eq', List.length_cons, List.length_nil, hxH, cH, rp, rx, tcell, cut5, get_next]
    refine conOne (hWH.congr (Nat.le_add_right _ _) (fun _ _ => get_next)) ?_
    rintro _ J ⟨rfl, hWJ, fJ⟩
    have fHJ : Fr (W :: all :: ms) H J := (Fr.bump (n := H.next + 10) (by omega)).trans fJ
    have nJ := fHJ.next
    have hxJ := (fHJ.get x (by have := hTG.lt.1; omega) h.nW.1).trans hxH
    have gmJ := (fHJ.get m (by have := hTG.lt.2; omega) mW).trans gm
    have cJ := (fHJ.get p (by omega) hpW).trans cH
    have hqJ := hqH.fr fHJ h.nW.2.2.1 h.nW.2.2.2.1 h.nW.2.2.2.2
    have hdJ := hdH.fr fHJ (fun b h1 _ hm => hnm b h1 (by simp only [List.mem_cons] at hm ⊢; exact .inr (.inr (.inr hm))))
    have hWsub : ∀ b ∈ W :: all :: ms, b ∈ m :: e :: w :: W :: all :: ms := fun b hb => by simp only [List.mem_cons] at hb ⊢; exact .inr (.inr (.inr hb))
    have fAJ : Fr (m :: e :: w :: W :: all :: ms) A J := fC.nil.trans (fD.nil.trans ((fF.sub hWsub).trans (fFG.nil.trans ((fH.sub (by simp)).trans (fHJ.sub hWsub)))))
    by_cases hlt : now < t.at_
    · have dl := eq_true hlt
      simp only [w_w, oneW_next, s_0, s_1, s_2, s_3, s_4, g_0, w_0, w_wh, w_st, w_qu, w_tb, Hands, handsV, resultsV, oneOrTuple, argsT, ev, evs, evPairs, evOpt, closed, flat, nth, aCall, aEnter, notYield, aNilCheck, partV, isAggD, aFieldAddr, aField, aExtract, Option.isNone, aBuiltin, aUn, cond_true, cond_false, cond_dec, if_true, if_false, List.length_cons, List.length_nil, forall_const, implies_true, List.append_nil, List.cons_append, List.nil_append, eq_self, Nat.reduceEqDiff, Nat.reduceAdd, Nat.reduceMul, Nat.reduceSub, Nat.reduceLT, Nat.reduceLeDiff, Nat.reduceBEq, reduceIte, reduceCtorEq, q_0, q_1, q_2, f_0, pendW, hasN, reorder, E0_ron, exists_eq', List.length_cons, List.length_nil, dl, decide_true, un_not, Bool.not_true]
      exact ⟨.inl ⟨hright, hxJ, _, _, gmJ, hdJ⟩, fAJ⟩
    · have dl := eq_false hlt
      simp only [w_w, oneW_next, s_0, s_1, s_2, s_3, s_4, g_0, w_0, w_wh, w_st, w_qu, w_tb, Hands, handsV, resultsV, oneOrTuple, argsT, ev, evs, evPairs, evOpt, closed, flat, nth, aCall, aEnter, notYield, aNilCheck, partV, isAggD, aFieldAddr, aField, aExtract, Option.isNone, aBuiltin, aUn, cond_true, cond_false, cond_dec, if_true, if_false, List.length_cons, List.length_nil, forall_const, implies_true, List.append_nil, List.cons_append, List.nil_append, eq_self, Nat.reduceEqDiff, Nat.reduceAdd, Nat.reduceMul, Nat.reduceSub, Nat.reduceLT, Nat.reduceLeDiff, Nat.reduceBEq, reduceIte, reduceCtorEq, q_0, q_1, q_2, f_0, pendW, hasN, reorder, E0_ron, exists_eq', List.length_cons, List.length_nil, dl, decide_false, un_not, Bool.not_false]
      have hRQ := ROne_ok (Z := Z) (f := 26) (ar := [.pointer (some ⟨q, 0, none⟩), .string t.name, .int .u64 (t.at_ : Int)]) (P := fun A => Q0 A q e w) (Sp := fun A _ A' => Fr [e, w] A A') (fun A hp => qput_spec hp)
      refine CodeW.seqf (withRo_ok E0_ok) hro.ro mixed hRQ [0,1,2,3,4,5,6,7,8] [] (fanOf _ _ _) (by simp only [reorder, reoGo, strip, List.map_cons, List.map_nil, opAt, remap, nth, Option.map, σ, place', nbeq, List.length_cons, List.length_nil, Nat.reduceAdd, Nat.reduceLT, Nat.reduceEqDiff, if_true, if_false, reduceIte]; rfl) (by decide +kernel) (by kernel_rfl) (by kernel_rfl) (by kernel_rfl) rfl ?_
      simp only [w_w, oneW_next, s_0, s_1, s_2, s_3, s_4, g_0, w_0, w_wh, w_st, w_qu, w_tb, Hands, handsV, resultsV, oneOrTuple, argsT, ev, evs, evPairs, evOpt, closed, flat, nth, aCall, aEnter, notYield, aNilCheck, partV, isAggD, aFieldAddr, aField, aExtract, Option.isNone, aBuiltin, aUn, cond_true, cond_false, cond_dec, if_true, if_false, List.length_cons, List.length_nil, forall_const, implies_true, List.append_nil, List.cons_append, List.nil_append, eq_self, Nat.reduceEqDiff, Nat.reduceAdd, Nat.reduceMul, Nat.reduceSub, Nat.reduceLT, Nat.reduceLeDiff, Nat.reduceBEq, reduceIte, reduceCtorEq, q_0, q_1, q_2, f_0, pendW, hasN, reorder, E0_ron, exists_eq', List.length_cons, List.length_nil, hxJ, cJ, rp, rx, tcell, cut5, get_next]
      refine conOne (hqJ.fr (Fr.bump (n := J.next + 9) (own := []) (by omega)) (by simp) (by simp) (by simp)) ?_
      intro _ L fL
      have fJL : Fr [e, w] J L := (Fr.bump (n := J.next + 9) (by omega)).trans fL
      have hlx := hTG.lt
      simp only [w_w, oneW_next, s_0, s_1, s_2, s_3, s_4, g_0, w_0, w_wh, w_st, w_qu, w_tb, Hands, handsV, resultsV, oneOrTuple, argsT, ev, evs, evPairs, evOpt, closed, flat, nth, aCall, aEnter, notYield, aNilCheck, partV, isAggD, aFieldAddr, aField, aExtract, Option.isNone, aBuiltin, aUn, cond_true, cond_false, cond_dec, if_true, if_false, List.length_cons, List.length_nil, forall_const, implies_true, List.append_nil, List.cons_append, List.nil_append, eq_self, Nat.reduceEqDiff, Nat.reduceAdd, Nat.reduceMul, Nat.reduceSub, Nat.reduceLT, Nat.reduceLeDiff, Nat.reduceBEq, reduceIte, reduceCtorEq, q_0, q_1, q_2, f_0, pendW, hasN, reorder, E0_ron, exists_eq', List.length_cons, List.length_nil]
      refine ⟨.inl ⟨hright, (fJL.get x (by omega) (by simp only [List.mem_cons, List.not_mem_nil, or_false, not_or]; exact ⟨h.ne.2.1, h.ne.2.2.1⟩)).trans hxJ, dv', _, (fJL.get m (by omega) (by simp only [List.mem_cons, List.not_mem_nil, or_false, not_or]; exact ⟨h.ne.2.2.2.2.1, h.ne.2.2.2.2.2⟩)).trans gmJ, hdJ.fr fJL (fun b h1 _ hm => hnm b h1 (by simp only [List.mem_cons, List.not_mem_nil, or_false] at hm ⊢; rcases hm with rfl | rfl <;> simp))⟩, fAJ.trans (fJL.sub (fun b hb => by simp only [List.mem_cons, List.not_mem_nil, or_false] at hb ⊢; rcases hb with rfl | rfl <;> simp))⟩
end Go.Proofs.YtgcffmhpjphefaaDoor

/- What is got of a table. -/
namespace Go.Proofs.YtgcffmhpjphefaaDoor
open Go Go.AE
set_option maxRecDepth 10000
set_option maxHeartbeats 8000000
variable {Z : Go.AE.Road} {s : Spans}

theorem tget_gen (hro : RoadS Z E0 s) {A : ASt} {S : Nat → Prop} {x m q W : Nat} {u : TimD} {du : Value} {bo : Bool} {k : ByteArray} {c : AObj} (hx : A.get x = some (.row [.map (some m), .pointer (some ⟨q, 0, none⟩), .pointer (some ⟨W, 0, none⟩)] 3 false)) (hc : A.get m = some c) (hlt : x < A.next ∧ m < A.next) (hl : ∀ B : ASt, B.get m = some c → aLookup E0 52 (.map (some m)) (.string k) true B = some (.tuple #[tval u du, .bool bo])) (hd : Steps (withRo E0 s) A S du u.steps) (hs : u.steps.length ≤ 1000) :
    CallW Z Tryd.prog 13 [.pointer (some ⟨x, 0, none⟩), .string k] A (fun r A' => ∃ du', r = .tuple #[tval u du', .bool bo] ∧ Steps (withRo E0 s) A' (fun b => A.next ≤ b) du' u.steps ∧ Fr [] A A') := by
  refine CallW.of_code (withRo_ok E0_ok) hro.ro (f := 13) (fn := Tryd.f13) fn13 rfl (n := 23) rfl (rs := [.cell 4 25, .tmp 5]) rfl (by simp) (codeW_ok (withRo_ok E0_ok) hro.ro ?_)
  have hsd := hd.single
  have exn : (x = A.next) = False := eq_false (by omega)
  have hmB : (A.new (.row [.string ByteArray.empty, .int .i64 0, .int .u64 0, .int .u64 0, .slice none 0 0] 5 false)).get m = some c := by rw [ASt.get_new, if_neg (by omega)]; exact hc
  simp only [w_w, oneW_next, s_0, s_1, s_2, s_3, s_4, g_0, w_0, w_wh, w_st, w_qu, w_tb, Hands, handsV, resultsV, oneOrTuple, argsT, ev, evs, evPairs, evOpt, closed, flat, nth, aCall, aEnter, notYield, aNilCheck, partV, isAggD, aFieldAddr, aField, aExtract, Option.isNone, aBuiltin, aUn, cond_true, cond_false, cond_dec, if_true, if_false, List.length_cons, List.length_nil, forall_const, implies_true, List.append_nil, List.cons_append, List.nil_append, eq_self, Nat.reduceEqDiff, Nat.reduceAdd, Nat.reduceMul, Nat.reduceSub, Nat.reduceLT, Nat.reduceLeDiff, Nat.reduceBEq, reduceIte, reduceCtorEq, al25, ptrTo, eqnilT, exn, hx, hl _ hmB]
  obtain ⟨c4, c6z, nBz, fBz⟩ := two_new (A := A) (x := .row [.string ByteArray.empty, .int .i64 0, .int .u64 0, .int .u64 0, .slice none 0 0] 5 false) (y := .row [.string ByteArray.empty, .int .i64 0, .int .u64 0, .int .u64 0, .slice none 0 0] 5 false) rfl
  generalize (A.new (.row [.string ByteArray.empty, .int .i64 0, .int .u64 0, .int .u64 0, .slice none 0 0] 5 false)).new (.row [.string ByteArray.empty, .int .i64 0, .int .u64 0, .int .u64 0, .slice none 0 0] 5 false) = B at c4 c6z nBz fBz ⊢
  have hst := st25 (A := B) (b := A.next + 1) (a0 := .string u.name) (a1 := .int .i64 u.ver) (a2 := .int .u64 (u.at_ : Int)) (a3 := .int .u64 (u.every : Int)) (a4 := du) c6z (tim_sg hsd)
  have hst : aStore E0 25 (.pointer (some ⟨A.next + 1, 0, none⟩)) (tval u du) B = some (B.set (A.next + 1) (.row [.string u.name, .int .i64 u.ver, .int .u64 (u.at_ : Int), .int .u64 (u.every : Int), du] 5 false)) := hst
  rw [hst]
  generalize hCd : B.set (A.next + 1) _ = C
  have c6 : C.get (A.next + 1) = some (.row [.string u.name, .int .i64 u.ver, .int .u64 (u.at_ : Int), .int .u64 (u.every : Int), du] 5 false) := by rw [← hCd, ASt.get_set, if_pos rfl]
  have fBC : Fr [A.next + 1] B C := ⟨by rw [← hCd, ASt.next_set]; exact Nat.le_refl _, fun b hb hn => by rw [← hCd, ASt.get_set, if_neg (by simpa using hn)]⟩
  have nC : C.next = A.next + 2 := by rw [← hCd, ASt.next_set]; exact nBz
  have fC : Fr [] A C := ⟨by omega, fun b hb _ => by rw [fBC.get b (by omega) (by simp only [List.mem_singleton]; omega)]; exact fBz.get b hb (by simp)⟩
  have c4C := (fBC.get A.next (by omega) (by simp only [List.mem_singleton]; omega)).trans c4
  clear hCd hst
  simp only [w_w, oneW_next, s_0, s_1, s_2, s_3, s_4, g_0, w_0, w_wh, w_st, w_qu, w_tb, Hands, handsV, resultsV, oneOrTuple, argsT, ev, evs, evPairs, evOpt, closed, flat, nth, aCall, aEnter, notYield, aNilCheck, partV, isAggD, aFieldAddr, aField, aExtract, Option.isNone, aBuiltin, aUn, cond_true, cond_false, cond_dec, if_true, if_false, List.length_cons, List.length_nil, forall_const, implies_true, List.append_nil, List.cons_append, List.nil_append, eq_self, Nat.reduceEqDiff, Nat.reduceAdd, Nat.reduceMul, Nat.reduceSub, Nat.reduceLT, Nat.reduceLeDiff, Nat.reduceBEq, reduceIte, reduceCtorEq, c6, cut5]
  refine CallT.mono (CallT.of_call (copied_spec (t := u) hro (hd.fr fC (by simp)) hs)) ?_
  rintro _ D ⟨dv', rfl, hdD, fD⟩
  have c4D := (fD.get A.next (by omega) (by simp)).trans c4C
  have hst2 := st25 (a0 := .string u.name) (a1 := .int .i64 u.ver) (a2 := .int .u64 (u.at_ : Int)) (a3 := .int .u64 (u.every : Int)) (a4 := dv') c4D (tim_sg hdD.single)
  have hst2 : aStore E0 25 (.pointer (some ⟨A.next, 0, none⟩)) (tval u dv') D = some (D.set A.next (.row [.string u.name, .int .i64 u.ver, .int .u64 (u.at_ : Int), .int .u64 (u.every : Int), dv'] 5 false)) := hst2
  simp only [w_w, oneW_next, s_0, s_1, s_2, s_3, s_4, g_0, w_0, w_wh, w_st, w_qu, w_tb, Hands, handsV, resultsV, oneOrTuple, argsT, ev, evs, evPairs, evOpt, closed, flat, nth, aCall, aEnter, notYield, aNilCheck, partV, isAggD, aFieldAddr, aField, aExtract, Option.isNone, aBuiltin, aUn, cond_true, cond_false, cond_dec, if_true, if_false, List.length_cons, List.length_nil, forall_const, implies_true, List.append_nil, List.cons_append, List.nil_append, eq_self, Nat.reduceEqDiff, Nat.reduceAdd, Nat.reduceMul, Nat.reduceSub, Nat.reduceLT, Nat.reduceLeDiff, Nat.reduceBEq, reduceIte, reduceCtorEq, hst2, cut5]
  have fF : Fr [A.next] D (D.set A.next (.row [.string u.name, .int .i64 u.ver, .int .u64 (u.at_ : Int), .int .u64 (u.every : Int), dv'] 5 false)) := ⟨by rw [ASt.next_set]; exact Nat.le_refl _, fun b hb hn => by rw [ASt.get_set, if_neg (by simpa using hn)]⟩
  have nD := fD.next
  refine ⟨dv', rfl, (hdD.fr fF (fun b h1 _ hm => by simp only [List.mem_singleton] at hm; omega)).imp (fun b h1 _ => by omega), ⟨by rw [ASt.next_set]; omega, fun b hb _ => ?_⟩⟩
  rw [ASt.get_set, if_neg (by omega), fD.get b (by omega) (by simp), fC.get b hb (by simp)]
end Go.Proofs.YtgcffmhpjphefaaDoor

/- Two timers, of which one has no steps: they are the same, or not. -/
namespace Go.Proofs.YtgcffmhpjphefaaDoor
open Go Go.AE
set_option maxRecDepth 10000
set_option maxHeartbeats 8000000
variable {Z : Go.AE.Road} {s : Spans}

theorem same_len (hro : RoadS Z E0 s) {A : ASt} {S1 S2 : Nat → Prop} {v1 v2 : Value} {l m : List StepD} (h1 : Steps (withRo E0 s) A S1 v1 l) (h2 : Steps (withRo E0 s) A S2 v2 m) (hne : l.length ≠ m.length) :
    CallW Z Tryd.prog 20 [v1, v2] A (fun r A' => r = .bool false ∧ A' = A) := by
  refine CallW.of_code (withRo_ok E0_ok) hro.ro (f := 20) (fn := Tryd.f20) fn20 rfl (n := 26) rfl (rs := [.tmp 4]) rfl (by simp) (codeW_ok (withRo_ok E0_ok) hro.ro ?_)
  have l1 := h1.len (wti.trans ti23) t23_desc
  have l2 := h2.len (wti.trans ti23) t23_desc
  simp only [wlen, List.length_map] at l1 l2
  have d : ((l.length : Int) ≠ (m.length : Int)) = True := eq_true (by omega)
  simp only [w_w, oneW_next, s_0, s_1, s_2, s_3, s_4, g_0, w_0, w_wh, w_st, w_qu, w_tb, w_a, Hands, handsV, resultsV, oneOrTuple, argsT, ev, evs, evPairs, evOpt, closed, flat, nth, aCall, aEnter, notYield, aNilCheck, partV, isAggD, aFieldAddr, aField, aExtract, Option.isNone, aBuiltin, aUn, cond_true, cond_false, cond_dec, if_true, if_false, List.length_cons, List.length_nil, forall_const, implies_true, List.append_nil, List.cons_append, List.nil_append, eq_self, Nat.reduceEqDiff, Nat.reduceAdd, Nat.reduceMul, Nat.reduceSub, Nat.reduceLT, Nat.reduceLeDiff, Nat.reduceBEq, reduceIte, reduceCtorEq, l1, l2, d]
theorem same_zero (hro : RoadS Z E0 s) {A : ASt} {S1 S2 : Nat → Prop} {u t : TimD} {v1 v2 : Value} (h1 : Steps (withRo E0 s) A S1 v1 u.steps) (hu : u.steps = []) (h2 : Steps (withRo E0 s) A S2 v2 t.steps) (hl : t.steps.length ≤ 1000) :
    CallW Z Tryd.prog 9 [tval u v1, tval t v2] A (fun r A' => (∃ b, r = .bool b) ∧ Fr [] A A') := by
  refine CallW.of_code (withRo_ok E0_ok) hro.ro (f := 9) (fn := Tryd.f9) fn9 rfl (n := 40) rfl (rs := [.tmp 4]) rfl (by simp) (codeW_ok (withRo_ok E0_ok) hro.ro ?_)
  simp only [w_w, oneW_next, s_0, s_1, s_2, s_3, s_4, g_0, w_0, w_wh, w_st, w_qu, w_tb, w_a, Hands, handsV, resultsV, oneOrTuple, argsT, ev, evs, evPairs, evOpt, closed, flat, nth, aCall, aEnter, notYield, aNilCheck, partV, isAggD, aFieldAddr, aField, aExtract, Option.isNone, aBuiltin, aUn, cond_true, cond_false, cond_dec, if_true, if_false, List.length_cons, List.length_nil, forall_const, implies_true, List.append_nil, List.cons_append, List.nil_append, eq_self, Nat.reduceEqDiff, Nat.reduceAdd, Nat.reduceMul, Nat.reduceSub, Nat.reduceLT, Nat.reduceLeDiff, Nat.reduceBEq, reduceIte, reduceCtorEq, tval, box25, ptrTo]
  generalize hC : ASt.new (ASt.new A _) _ = C
  obtain ⟨c1, c2, hn, hf⟩ := two_new hC
  clear hC
  have hc : CallW Z Tryd.prog 20 [v1, v2] C (fun r A' => (∃ b, r = .bool b) ∧ Fr [] C A') := by
    by_cases he : t.steps = []
    · refine CallW.mono (same_steps (l := []) hro (by have := h1.fr hf (by simp); rw [hu] at this; exact this) (by have := h2.fr hf (by simp); rw [he] at this; exact this) (by simp)) ?_
      rintro r A' ⟨rfl, h⟩
      exact ⟨⟨_, rfl⟩, h⟩
    · refine CallW.mono (same_len hro (h1.fr hf (by simp)) (h2.fr hf (by simp)) (by rw [hu]; simpa using fun e : 0 = t.steps.length => he (List.eq_nil_of_length_eq_zero e.symm))) ?_
      rintro r A' ⟨rfl, rfl⟩
      exact ⟨⟨_, rfl⟩, .refl _ _⟩
  refine CallT.mono (CallT.of_call hc) ?_
  rintro _ D ⟨⟨b, rfl⟩, hf2⟩
  have d1 := (hf2.get _ (by omega) (by simp)).trans c1
  have d2 := (hf2.get _ (by omega) (by simp)).trans c2
  by_cases h0 : ¬ (u.name = t.name)
  · have f0 := eq_false h0
    simp only [w_w, oneW_next, s_0, s_1, s_2, s_3, s_4, g_0, w_0, w_wh, w_st, w_qu, w_tb, w_a, Hands, handsV, resultsV, oneOrTuple, argsT, ev, evs, evPairs, evOpt, closed, flat, nth, aCall, aEnter, notYield, aNilCheck, partV, isAggD, aFieldAddr, aField, aExtract, Option.isNone, aBuiltin, aUn, cond_true, cond_false, cond_dec, if_true, if_false, List.length_cons, List.length_nil, forall_const, implies_true, List.append_nil, List.cons_append, List.nil_append, eq_self, Nat.reduceEqDiff, Nat.reduceAdd, Nat.reduceMul, Nat.reduceSub, Nat.reduceLT, Nat.reduceLeDiff, Nat.reduceBEq, reduceIte, reduceCtorEq, d1, d2, b_seql, undef, f0]
    exact ⟨⟨_, rfl⟩, hf.trans hf2⟩
  have f0 := eq_true (Classical.not_not.1 h0)
  by_cases h1 : ¬ (u.ver = t.ver)
  · have f1 := eq_false h1
    simp only [w_w, oneW_next, s_0, s_1, s_2, s_3, s_4, g_0, w_0, w_wh, w_st, w_qu, w_tb, w_a, Hands, handsV, resultsV, oneOrTuple, argsT, ev, evs, evPairs, evOpt, closed, flat, nth, aCall, aEnter, notYield, aNilCheck, partV, isAggD, aFieldAddr, aField, aExtract, Option.isNone, aBuiltin, aUn, cond_true, cond_false, cond_dec, if_true, if_false, List.length_cons, List.length_nil, forall_const, implies_true, List.append_nil, List.cons_append, List.nil_append, eq_self, Nat.reduceEqDiff, Nat.reduceAdd, Nat.reduceMul, Nat.reduceSub, Nat.reduceLT, Nat.reduceLeDiff, Nat.reduceBEq, reduceIte, reduceCtorEq, d1, d2, b_seql, undef, f0, f1]
    exact ⟨⟨_, rfl⟩, hf.trans hf2⟩
  have f1 := eq_true (Classical.not_not.1 h1)
  by_cases h2 : ¬ (((u.at_ : Nat) : Int) = ((t.at_ : Nat) : Int))
  · have f2 := eq_false h2
    simp only [w_w, oneW_next, s_0, s_1, s_2, s_3, s_4, g_0, w_0, w_wh, w_st, w_qu, w_tb, w_a, Hands, handsV, resultsV, oneOrTuple, argsT, ev, evs, evPairs, evOpt, closed, flat, nth, aCall, aEnter, notYield, aNilCheck, partV, isAggD, aFieldAddr, aField, aExtract, Option.isNone, aBuiltin, aUn, cond_true, cond_false, cond_dec, if_true, if_false, List.length_cons, List.length_nil, forall_const, implies_true, List.append_nil, List.cons_append, List.nil_append, eq_self, Nat.reduceEqDiff, Nat.reduceAdd, Nat.reduceMul, Nat.reduceSub, Nat.reduceLT, Nat.reduceLeDiff, Nat.reduceBEq, reduceIte, reduceCtorEq, d1, d2, b_seql, undef, f0, f1, f2]
    exact ⟨⟨_, rfl⟩, hf.trans hf2⟩
  have f2 := eq_true (Classical.not_not.1 h2)
  by_cases h3 : ¬ (((u.every : Nat) : Int) = ((t.every : Nat) : Int))
  · have f3 := eq_false h3
    simp only [w_w, oneW_next, s_0, s_1, s_2, s_3, s_4, g_0, w_0, w_wh, w_st, w_qu, w_tb, w_a, Hands, handsV, resultsV, oneOrTuple, argsT, ev, evs, evPairs, evOpt, closed, flat, nth, aCall, aEnter, notYield, aNilCheck, partV, isAggD, aFieldAddr, aField, aExtract, Option.isNone, aBuiltin, aUn, cond_true, cond_false, cond_dec, if_true, if_false, List.length_cons, List.length_nil, forall_const, implies_true, List.append_nil, List.cons_append, List.nil_append, eq_self, Nat.reduceEqDiff, Nat.reduceAdd, Nat.reduceMul, Nat.reduceSub, Nat.reduceLT, Nat.reduceLeDiff, Nat.reduceBEq, reduceIte, reduceCtorEq, d1, d2, b_seql, undef, f0, f1, f2, f3]
    exact ⟨⟨_, rfl⟩, hf.trans hf2⟩
  have f3 := eq_true (Classical.not_not.1 h3)
  simp only [w_w, oneW_next, s_0, s_1, s_2, s_3, s_4, g_0, w_0, w_wh, w_st, w_qu, w_tb, w_a, Hands, handsV, resultsV, oneOrTuple, argsT, ev, evs, evPairs, evOpt, closed, flat, nth, aCall, aEnter, notYield, aNilCheck, partV, isAggD, aFieldAddr, aField, aExtract, Option.isNone, aBuiltin, aUn, cond_true, cond_false, cond_dec, if_true, if_false, List.length_cons, List.length_nil, forall_const, implies_true, List.append_nil, List.cons_append, List.nil_append, eq_self, Nat.reduceEqDiff, Nat.reduceAdd, Nat.reduceMul, Nat.reduceSub, Nat.reduceLT, Nat.reduceLeDiff, Nat.reduceBEq, reduceIte, reduceCtorEq, d1, d2, b_seql, undef, f0, f1, f2, f3]
  exact ⟨⟨_, rfl⟩, hf.trans hf2⟩
end Go.Proofs.YtgcffmhpjphefaaDoor

/- The live question, wherever it is asked. -/
namespace Go.Proofs.YtgcffmhpjphefaaDoor
open Go Go.AE

variable {Z : Go.AE.Road}

theorem alive_run0 : ends isTrueV (run E0 20000 (.call (.fn 6) [] (startAt 0))) = true := by kernel_rfl
theorem alive_run : ∃ fuel, ends isTrueV (run E0 fuel (.call (.fn 6) [] (startAt 0))) = true := ⟨20000, alive_run0⟩

theorem alive_calls (w : World) : Calls Tryd.prog 6 #[] w fun e w' => e = .returned (.bool true) ∧ Go.RowKit.Below w.heap.size w w' ∧ w.drawn ≤ w'.drawn := by
  obtain ⟨fuel, hrun⟩ := alive_run
  have hall : (callBy (run E0 fuel) (.fn 6) [] (startAt 0)).all (fun r => isTrueV r.1 = true) := by
    have := ends_all hrun
    unfold callBy
    revert this
    generalize run E0 fuel (.call (.fn 6) [] (startAt 0)) = m
    intro this
    induction m with
    | ret o =>
      obtain ⟨v, A, rfl, hq⟩ := this
      exact hq
    | ask n k ih => exact fun i hi => ih i (this i hi)
    | fail s => exact this.elim
    | pick p k ih => exact fun r hr => ih r (this r hr)
  have h := CallW.of_run (Z := roadRaw [] w) (f := 6) (args := []) (A := startAt 0) (Q := fun v _ => isTrueV v = true) E0_ok E0_ro hook_none mixed hall
  refine (h (rawRen []) w #[] (Step.refl (rep_start [] w)) .nil).mono ?_
  rintro e w' ⟨v, A', v', ρ', hq, rfl, hv, hst⟩
  refine ⟨?_, Step.below (n := 0) hst, hst.drawn⟩
  cases hv <;> first | (simp [isTrueV] at hq; done) | skip
  rename_i b
  cases b with
  | true => rfl
  | false => cases hq

theorem alive_spec {A : ASt} : CallW Z Tryd.prog 6 [] A (fun v A' => v = .bool true ∧ A' = A) := by
  intro ρ w args' hR ha
  obtain ⟨l⟩ := args'
  cases ha
  refine (alive_calls w).mono ?_
  rintro e w' ⟨rfl, hb, hd⟩
  exact ⟨.bool true, A, .bool true, ρ, ⟨rfl, rfl⟩, rfl, .bool _, Step.of_below (Z.rep hR) hb hd⟩
end Go.Proofs.YtgcffmhpjphefaaDoor
