/- The wheel's advance. -/
import Derived.Test.YtpmpclieclcbdaaP06
set_option linter.unusedSimpArgs false
set_option linter.unusedVariables false
set_option linter.unusedSectionVars false
namespace Go.Proofs.Ytpmpclieclcbdaa
open Go Go.AE

variable {Z : Go.AE.Road}
set_option maxRecDepth 10000

theorem box22 {k : IntKind} {x : Int} : aBox E0 22 (.int k x) = some (.row [.int k x] 1 false, ptrTo) := by
  simp only [aBox, ti22, t22_size]; rfl
theorem alloc59 : aAlloc E0 59 = some (.row [.map none] 1 false, ptrTo) := by
  simp only [aAlloc, ti59, t59_zero, t59_size]; rfl
theorem store59 {A : ASt} {b m : Nat} {x : Value} (h : A.get b = some (.row [x] 1 false)) : aStore E0 59 (.pointer (some ⟨b, 0, none⟩)) (.map (some m)) A = some (A.set b (.row [.map (some m)] 1 false)) :=
  aStore_row h ti59 (by rw [t59_size]; rfl) rfl rfl
theorem storeNow {A : ASt} {W now nw all : Nat} {ms : List Nat} (h : A.get W = some (.row (wrow now all ms) 67 false)) : aStore E0 22 (.pointer (some ⟨W, 0, none⟩)) (.int .u64 (nw : Int)) A = some (A.set W (.row (wrow nw all ms) 67 false)) :=
  aStore_row h ti22 (by rw [t22_size]; rfl) rfl rfl

/-- The contract of Len64. -/
def R27 : Tgt → List Value → ASt → (Value → ASt → Prop) → Prop := fun t args A S => ∃ x : Nat, x < 18446744073709551616 ∧ t = .fn 27 ∧ args = [.int .u64 (x : Int)] ∧ S = fun v A' => v = .int .i64 ((Lib.bitLen x : Nat) : Int) ∧ A' = A
theorem R27_ok (t args A S) (h : R27 t args A S) : CallT Z Try.prog t args A S := by
  obtain ⟨x, hx, rfl, rfl, rfl⟩ := h
  exact len64 x hx A
theorem con27 {x : Nat} (hx : x < 18446744073709551616) {A : ASt} {K : Value → ASt → Prop} (h : K (.int .i64 ((Lib.bitLen x : Nat) : Int)) A) : conC R27 (.fn 27) [.int .u64 (x : Int)] A K := by
  refine ⟨⟨_, x, hx, rfl, rfl, rfl⟩, ?_⟩
  rintro S ⟨y, hy, _, ha, rfl⟩ v A' ⟨rfl, rfl⟩
  simp only [List.cons.injEq, Value.int.injEq, Int.natCast_inj, and_true, true_and] at ha
  subst ha
  exact h

/-- Timers in a row. -/
def tcells : List (ByteArray × Nat) → List Value
  | [] => []
  | t :: l => .string t.1 :: .int .u64 (t.2 : Nat) :: tcells l
/-- In order of deadlines, then names. -/
noncomputable def blt (x y : ByteArray) : Bool := bytesLt x.data.toList y.data.toList
def tlt (x y : ByteArray × Nat) : Prop := x.2 < y.2 ∨ (x.2 = y.2 ∧ blt x.1 y.1 = true)
/-- These are a set's timers, in order. -/
structure Lists (D : TM) (ts : List (ByteArray × Nat)) : Prop where
  mem : ∀ k a, (k, a) ∈ ts ↔ D k = some a
  ord : ts.Pairwise tlt
def SliceAt (A : ASt) (lo : Nat) (v : Value) (ts : List (ByteArray × Nat)) : Prop :=
  (ts = [] ∧ v = .slice none 0 0) ∨ ∃ b cap rest tl, v = .slice (some ⟨b, 0, none⟩) ts.length cap ∧ A.get b = some (.row (tcells ts ++ rest) 2 tl) ∧ lo ≤ b ∧ b < A.next ∧ cap = unk ∧ rest = [] ∧ tl = true
def Srt (D : TM) (A : ASt) (v : Value) (A' : ASt) : Prop := ∃ ts, Lists D ts ∧ SliceAt A' A.next v ts ∧ Fr [] A A'

/-- In the midst of an advance: the places that 'D' names are emptied. -/
structure Adv (A0 A : ASt) (W all now : Nat) (ms : List Nat) (M : TM) (nw p3 p5 p6 d lf : Nat) (D : Nat → Bool) : Prop where
  row : A.get W = some (.row (wrow now all ms) 67 false)
  allm : Holds A all M
  slot : ∀ i m, ms[i]? = some m → Holds A m (if D i then (fun _ => none) else M.at_ now i)
  due : Holds A d (fun k => (M k).filter fun a => D (plc now a) && decide (a ≤ nw))
  lft : Holds A lf (fun k => (M k).filter fun a => D (plc now a) && !decide (a ≤ nw))
  h3 : A.get p3 = some (.row [.int .u64 (nw : Int)] 1 false)
  h5 : A.get p5 = some (.row [.map (some d)] 1 false)
  h6 : A.get p6 = some (.row [.map (some lf)] 1 false)
  nodup : (W :: all :: d :: lf :: ms).Nodup
  below : ∀ b ∈ W :: all :: d :: lf :: p3 :: p5 :: p6 :: ms, b < A.next
  new : ∀ b ∈ [d, lf, p3, p5, p6], A0.next ≤ b
  fr : Fr (W :: all :: ms) A0 A

theorem over_at {M : TM} {now i : Nat} {D p : Nat → Bool} : TM.over (fun k => (M k).filter fun a => D (plc now a) && p a) (M.at_ now i) p = fun k => (M k).filter fun a => (D (plc now a) || decide (plc now a = i)) && p a := by
  funext k
  unfold TM.over TM.at_
  cases hk : M k with
  | none => simp [hk]
  | some a =>
    by_cases hp : plc now a = i
    · by_cases hpa : p a = true <;> simp [Option.filter, hk, hp, hpa]
    · simp [Option.filter, hk, hp]

theorem Adv.step {A0 A : ASt} {W all now : Nat} {ms : List Nat} {M : TM} {nw p3 p5 p6 d lf : Nat} {D : Nat → Bool} (h : Adv A0 A W all now ms M nw p3 p5 p6 d lf D) {i m : Nat} (hm : ms[i]? = some m) (hD : D i = false) :
    CallW Z Try.prog 28 [.map (some m), .pointer (some ⟨p3, 0, none⟩), .pointer (some ⟨p5, 0, none⟩), .pointer (some ⟨p6, 0, none⟩)] A (fun _ A' => Adv A0 A' W all now ms M nw p3 p5 p6 d lf (fun j => D j || decide (j = i))) := by
  have hmem := List.mem_of_getElem? hm
  have hn := h.nodup
  simp only [List.nodup_cons, List.mem_cons, not_or] at hn
  obtain ⟨⟨w1, w2, w3, w4⟩, ⟨a1, a2, a3⟩, ⟨d1, d2⟩, l1, hms⟩ := hn
  have nd : m ≠ d := fun e => d2 (e ▸ hmem)
  have nl : m ≠ lf := fun e => l1 (e ▸ hmem)
  have hsl := h.slot i m hm
  simp only [hD, Bool.false_eq_true, if_false] at hsl
  refine (empty_spec h.h3 h.h5 h.h6 hsl h.due h.lft nd nl d1 (fun b hb => h.below b (by simp at hb ⊢; rcases hb with rfl | rfl | rfl | rfl | rfl | rfl <;> simp [hmem]))).mono ?_
  rintro _ A' ⟨g1, g2, g3, f⟩
  have keep : ∀ b, b < A.next → b ≠ m → b ≠ d → b ≠ lf → A'.get b = A.get b := fun b hb e1 e2 e3 => f.get b hb (by simp [e1, e2, e3])
  have bel : ∀ b ∈ W :: all :: d :: lf :: p3 :: p5 :: p6 :: ms, b < A'.next := fun b hb => Nat.lt_of_lt_of_le (h.below b hb) f.next
  have ne : ∀ {p : Nat} {c : List Value} {sz : Nat} {tl : Bool}, A.get p = some (.row c sz tl) → ∀ {q : Nat} {T : TM}, Holds A q T → p ≠ q := by
    rintro p c sz tl hp q T ⟨_, _, hq, _⟩ rfl
    rw [hp] at hq
    cases hq
  have krow : ∀ {p : Nat} {c : List Value} {sz : Nat} {tl : Bool}, p < A.next → A.get p = some (.row c sz tl) → A'.get p = some (.row c sz tl) := fun hp hr => by
    rw [keep _ hp (ne hr hsl) (ne hr h.due) (ne hr h.lft)]; exact hr
  refine ⟨krow (h.below W (by simp)) h.row, h.allm.congr (keep all (h.below all (by simp)) (fun e => a3 (e ▸ hmem)) a1 a2), fun j m' hj => ?_, g2.ext fun k => ?_, g3.ext fun k => ?_, krow (h.below p3 (by simp)) h.h3, krow (h.below p5 (by simp)) h.h5, krow (h.below p6 (by simp)) h.h6, h.nodup, bel, h.new, ?_⟩
  · have hj' := List.mem_of_getElem? hj
    by_cases e : j = i
    · subst e
      rw [hm] at hj; cases hj
      simp only [decide_true, Bool.or_true, if_true]
      exact g1
    · have em : m' ≠ m := fun em => e (by
        subst em
        obtain ⟨x1, x2⟩ := List.getElem?_eq_some_iff.1 hj
        obtain ⟨y1, y2⟩ := List.getElem?_eq_some_iff.1 hm
        rcases Nat.lt_trichotomy j i with hlt | he | hlt
        · exact absurd (x2.trans y2.symm) (List.pairwise_iff_getElem.1 hms j i x1 y1 hlt)
        · exact he
        · exact absurd (y2.trans x2.symm) (List.pairwise_iff_getElem.1 hms i j y1 x1 hlt))
      simp only [e, decide_false, Bool.or_false]
      exact (h.slot j m' hj).congr (keep m' (h.below m' (by simp [hj'])) em (fun e => d2 (e ▸ hj')) (fun e => l1 (e ▸ hj')))
  · rw [over_at]
  · rw [over_at (p := fun a => !decide (a ≤ nw))]
  · refine ⟨Nat.le_trans h.fr.next f.next, fun b hb hno => ?_⟩
    rw [f.get b (Nat.lt_of_lt_of_le hb h.fr.next) ?_, h.fr.get b hb hno]
    have n1 := h.new d (by simp)
    have n2 := h.new lf (by simp)
    simp only [List.mem_cons, List.not_mem_nil, or_false, not_or]
    exact ⟨fun e => hno (by simp [e, hmem]), by omega, by omega⟩

theorem CodeW.label' {n : Nat} {ro : Option Nat} {l : Nat} {T : Tmps} {A : ASt} {Q : Out → Prop} (h : Q (.fr ⟨.normal, T, A⟩)) : CodeW Z Try.prog n ro (.label l) T A Q :=
  fun ρ w a N rr hR hro ht hn hd => wpIn_label ⟨.normal, T, A, h, trivial, ρ, ht, .refl (Z.rep hR), hn, hd⟩

structure AdvT (T : Tmps) (W p3 p5 p6 ps : Nat) : Prop where
  t0 : tget T 0 = .pointer (some ⟨W, 0, none⟩)
  t3 : tget T 3 = .pointer (some ⟨p3, 0, none⟩)
  t5 : tget T 5 = .pointer (some ⟨p5, 0, none⟩)
  t6 : tget T 6 = .pointer (some ⟨p6, 0, none⟩)
  t7 : tget T 7 = .int .i64 (ps : Int)
  t8 : tget T 8 = .func (.func 28) #[] #[.pointer (some ⟨p3, 0, none⟩), .pointer (some ⟨p5, 0, none⟩), .pointer (some ⟨p6, 0, none⟩)]
theorem AdvT.congr {T T' : Tmps} {W p3 p5 p6 ps : Nat} (h : AdvT T W p3 p5 p6 ps) (e : ∀ t ∈ [0, 3, 5, 6, 7, 8], tget T' t = tget T t) : AdvT T' W p3 p5 p6 ps :=
  ⟨(e 0 (by simp)).trans h.t0, (e 3 (by simp)).trans h.t3, (e 5 (by simp)).trans h.t5, (e 6 (by simp)).trans h.t6, (e 7 (by simp)).trans h.t7, (e 8 (by simp)).trans h.t8⟩
theorem Adv.congrD {A0 A : ASt} {W all now : Nat} {ms : List Nat} {M : TM} {nw p3 p5 p6 d lf : Nat} {D D' : Nat → Bool} (h : Adv A0 A W all now ms M nw p3 p5 p6 d lf D) (e : ∀ i, i < 65 → D i = D' i) (hl : ms.length = 65) : Adv A0 A W all now ms M nw p3 p5 p6 d lf D' := by
  have e1 : ∀ a, D (plc now a) = D' (plc now a) := fun a => e _ plc_lt
  refine ⟨h.row, h.allm, fun i m hm => ?_, ?_, ?_, h.h3, h.h5, h.h6, h.nodup, h.below, h.new, h.fr⟩
  · have := (List.getElem?_eq_some_iff.1 hm).1
    rw [← e i (by omega)]
    exact h.slot i m hm
  · have := h.due
    simpa only [e1] using this
  · have := h.lft
    simpa only [e1] using this
theorem Adv.congrA {A0 A A' : ASt} {W all now : Nat} {ms : List Nat} {M : TM} {nw p3 p5 p6 d lf : Nat} {D : Nat → Bool} (h : Adv A0 A W all now ms M nw p3 p5 p6 d lf D) (e : ∀ b, A'.get b = A.get b) (hn : A.next ≤ A'.next) : Adv A0 A' W all now ms M nw p3 p5 p6 d lf D :=
  ⟨(e W).trans h.row, h.allm.congr (e all), fun i m hm => (h.slot i m hm).congr (e m), h.due.congr (e d), h.lft.congr (e lf), (e p3).trans h.h3, (e p5).trans h.h5, (e p6).trans h.h6, h.nodup, fun b hb => Nat.lt_of_lt_of_le (h.below b hb) hn, h.new, ⟨Nat.le_trans h.fr.next hn, fun b hb hno => (e b).trans (h.fr.get b hb hno)⟩⟩
noncomputable def dels (M : TM) (done : List UE) : TM := fun k => if (uget done k).isSome then none else M k
theorem dels_snoc {M : TM} {done : List UE} {x : UE} : dels M (done ++ [x]) = (dels M done).del x.1 := by
  funext k
  unfold dels TM.del
  rw [uget_snoc]
  by_cases e : k = x.1
  · simp [e]
  · simp [e]
theorem Holds.delete {A : ASt} {m : Nat} {M : TM} (h : Holds A m M) (k : ByteArray) : ∃ A', aDelete E0 59 (.map (some m)) (.string k) A = .val undef A' ∧ Holds A' m (M.del k) ∧ Fr [m] A A' := by
  obtain ⟨l, ck, hl, hok, hg⟩ := h
  have := deleteT hl k
  by_cases hs : (uget l k).isSome = true
  · rw [if_pos hs] at this
    refine ⟨_, this, ⟨_, _, by rw [ASt.get_set, if_pos rfl], udel_ok hok, fun j => ?_⟩, Nat.le_refl _, fun b _ hn => by rw [ASt.get_set, if_neg (by simpa using hn)]⟩
    rw [uget_udel hok.keys, hg]; rfl
  · rw [if_neg hs] at this
    refine ⟨_, this, ⟨l, ck, hl, hok, fun j => ?_⟩, .refl _ _⟩
    have hn : M k = none := by rw [← hg]; simpa using hs
    rw [hg]
    unfold TM.del
    by_cases e : j = k <;> simp [e, hn]
theorem Holds.update {A : ASt} {m : Nat} {M : TM} (h : Holds A m M) (k : ByteArray) (a : Nat) : ∃ A', aMapUpdate E0 59 (.map (some m)) (.string k) (.int .u64 (a : Int)) A = some A' ∧ Holds A' m (M.put k a) ∧ Fr [m] A A' := by
  obtain ⟨l, ck, hl, hok, hg⟩ := h
  refine ⟨_, updateT hl k a, ⟨_, _, by rw [ASt.get_set, if_pos rfl], uput_ok hok, fun j => ?_⟩, Nat.le_refl _, fun b _ hn => by rw [ASt.get_set, if_neg (by simpa using hn)]⟩
  rw [uget_uput, hg]; rfl
theorem Holds.block {A : ASt} {m : Nat} {M : TM} (h : Holds A m M) {c : List Value} {sz : Nat} {tl : Bool} {p : Nat} (hp : A.get p = some (.row c sz tl)) : p ≠ m := by
  rintro rfl
  obtain ⟨l, ck, hl, _⟩ := h
  rw [hp] at hl
  cases hl

theorem wrap_succ {n : Nat} (h : n < 1000000) : IntKind.i64.wrap ((n : Int) + 1) = ((n + 1 : Nat) : Int) := by rw [IntKind.wrap_i64]; omega

theorem pas_int {b : Nat} (h : b ≤ 64) : IntKind.i64.wrap ((IntKind.i64.wrap (IntKind.i64.wrap ((b : Int) + 4) - 1)).tdiv 4) = (((b + 3) / 4 : Nat) : Int) := by
  have : ∀ b : Fin 65, IntKind.i64.wrap ((IntKind.i64.wrap (IntKind.i64.wrap (((b.1 : Nat) : Int) + 4) - 1)).tdiv 4) = (((b.1 + 3) / 4 : Nat) : Int) := by decide +kernel
  exact this ⟨b, by omega⟩

theorem adv_walk {A : ASt} {W all now nw : Nat} {ms : List Nat} {M : TM} (h : WheelAt A W all ms now M) (hnw : nw < 18446744073709551616)
    (hs : ∀ {A : ASt} {d : Nat} {D : TM}, Holds A d D → (∀ k a, D k = some a → M k = some a) → d < A.next → CallW Z Try.prog 29 [.map (some d)] A (Srt D A)) :
    CallW Z Try.prog 13 [.pointer (some ⟨W, 0, none⟩), .int .u64 (nw : Int)] A (fun v A' => if nw < now then v = .slice none 0 0 ∧ WheelAt A' W all ms now M ∧ Fr (W :: all :: ms) A A' else ∃ ts, Lists (fun k => (M k).filter fun a => decide (a ≤ nw)) ts ∧ SliceAt A' A.next v ts ∧ WheelAt A' W all ms nw (fun k => (M k).filter fun a => decide (nw < a)) ∧ Fr (W :: all :: ms) A A') := by
  refine CallW.of_code E0_ok E0_ro fn13 rfl (n := 95) rfl (rs := [.tmp 4]) rfl (by simp) (codeW_ok E0_ok E0_ro ?_)
  have hW := h.row
  simp only [oneW_next, tg_eq, tgN_eq, brW_true, brW_false, c_skip, c_ret, c_exit, c_seq, c_cond, condW_b, c_block, c_scope, c_region, c_drawn, c_loop, onw_n, onw_r, onw_e, outb_e, outb_o, outb_n, outb_r, putW_some, putW_none, opsW_arr, opsW_nil, opsW_cons, wanted_none, wanted_some, guardB_some, oneW_next, oneW_move, oneW_assign, oneW_pick, oneW_build, oneW_load, oneW_store, oneW_nilCheck, oneW_binOp, oneW_unOp, oneW_makeFunc, oneW_slice, oneW_fieldAddr, oneW_field, oneW_indexAddr, oneW_index, oneW_lookup, oneW_mapUpdate, oneW_range, oneW_entry, oneW_extract, oneW_call, oneW_alloc, oneW_box, oneW_makeMap, oneW_buildSlice, oneW_convert, Hands, handsV, resultsV, oneOrTuple, argsT, arW_val, ofVal_some, plain_val, cond_true, cond_false,
    aOp_move, aOp_assign, aOp_pick, aOp_build, aOp_load, aOp_store, aOp_nilCheck, aOp_binOp, aOp_unOp, aOp_makeFunc, aOp_slice, aOp_fieldAddr, aOp_field, aOp_indexAddr, aOp_index, aOp_lookup, aOp_mapUpdate, aOp_range, aOp_entry, aOp_extract, aOp_call, aOp_alloc, aOp_box, aOp_makeMap, aOp_buildSlice, aInvoke_func,
    nbeq, nble, nblt, cond_dec, decide_true, decide_false, decide_eq_true_eq, Bool.false_eq_true, Bool.and_true, Bool.true_and, Bool.not_true, Bool.not_false, bq_t, bq_f, ev, evs, evPairs, evOpt, closed, flat, tget_put, Nat.reduceEqDiff, Nat.reduceAdd, Nat.reduceMul, Nat.reduceSub, Nat.reduceLT, Nat.reduceLeDiff, Nat.reduceBEq, reduceIte, if_true, if_false, reduceCtorEq, nth, aCall, aEnter, notYield, aNilCheck, aLoad, partV, isAggD, aFieldAddr, aField, aExtract, b_add, b_sub, b_mul, b_xor, b_eql, b_neq, b_lss, b_leq, b_gtr, b_geq, b_shr, Option.isNone, aBuiltin,
    List.length_cons, List.length_nil, true_implies, false_implies, and_true, true_and, implies_true, forall_const, List.append_nil, List.cons_append, List.nil_append, ASt.get_set, ASt.get_new, ASt.next_set, ASt.next_new, Nat.zero_add, Nat.add_zero, eq_self, ctor_self, ti63, t63_desc, t63_size, ti25, t25_desc, ti22, t22_desc, t22_size, ti59, t59_desc, t59_size, ti60, t60_desc, t60_size, ti61, t61_desc, t61_size, ti3, t3_desc, t3_size, ti40, t40_desc, t40_size, ti33, t33_desc, t33_size, ti9, t9_desc, t9_size, wrow_now, wrow_all, eqnil25, fn17, fn26, fn27, fn28, fn29, fn38, fn39, fn12, fn14, fn15, box22, ptrTo]
  refine CodeW.quiet E0_ok E0_ro mixed (by kernel_rfl) (by kernel_rfl) ?_
  have hWb := h.below W (by simp)
  have hne : W ≠ A.next := by omega
  have hx : nw ^^^ now < 18446744073709551616 := Nat.xor_lt_two_pow (n := 64) (by omega) (by have := h.nowlt; omega)
  simp only [oneW_next, tg_eq, tgN_eq, brW_true, brW_false, c_skip, c_ret, c_exit, c_seq, c_cond, condW_b, c_block, c_scope, c_region, c_drawn, c_loop, onw_n, onw_r, onw_e, outb_e, outb_o, outb_n, outb_r, putW_some, putW_none, opsW_arr, opsW_nil, opsW_cons, wanted_none, wanted_some, guardB_some, oneW_next, oneW_move, oneW_assign, oneW_pick, oneW_build, oneW_load, oneW_store, oneW_nilCheck, oneW_binOp, oneW_unOp, oneW_makeFunc, oneW_slice, oneW_fieldAddr, oneW_field, oneW_indexAddr, oneW_index, oneW_lookup, oneW_mapUpdate, oneW_range, oneW_entry, oneW_extract, oneW_call, oneW_alloc, oneW_box, oneW_makeMap, oneW_buildSlice, oneW_convert, Hands, handsV, resultsV, oneOrTuple, argsT, arW_val, ofVal_some, plain_val, cond_true, cond_false,
    aOp_move, aOp_assign, aOp_pick, aOp_build, aOp_load, aOp_store, aOp_nilCheck, aOp_binOp, aOp_unOp, aOp_makeFunc, aOp_slice, aOp_fieldAddr, aOp_field, aOp_indexAddr, aOp_index, aOp_lookup, aOp_mapUpdate, aOp_range, aOp_entry, aOp_extract, aOp_call, aOp_alloc, aOp_box, aOp_makeMap, aOp_buildSlice, aInvoke_func,
    nbeq, nble, nblt, cond_dec, decide_true, decide_false, decide_eq_true_eq, Bool.false_eq_true, Bool.and_true, Bool.true_and, Bool.not_true, Bool.not_false, bq_t, bq_f, ev, evs, evPairs, evOpt, closed, flat, tget_put, Nat.reduceEqDiff, Nat.reduceAdd, Nat.reduceMul, Nat.reduceSub, Nat.reduceLT, Nat.reduceLeDiff, Nat.reduceBEq, reduceIte, if_true, if_false, reduceCtorEq, nth, aCall, aEnter, notYield, aNilCheck, aLoad, partV, isAggD, aFieldAddr, aField, aExtract, b_add, b_sub, b_mul, b_xor, b_eql, b_neq, b_lss, b_leq, b_gtr, b_geq, b_shr, Option.isNone, aBuiltin,
    List.length_cons, List.length_nil, true_implies, false_implies, and_true, true_and, implies_true, forall_const, List.append_nil, List.cons_append, List.nil_append, ASt.get_set, ASt.get_new, ASt.next_set, ASt.next_new, Nat.zero_add, Nat.add_zero, eq_self, ctor_self, ti63, t63_desc, t63_size, ti25, t25_desc, ti22, t22_desc, t22_size, ti59, t59_desc, t59_size, ti60, t60_desc, t60_size, ti61, t61_desc, t61_size, ti3, t3_desc, t3_size, ti40, t40_desc, t40_size, ti33, t33_desc, t33_size, ti9, t9_desc, t9_size, wrow_now, wrow_all, eqnil25, fn17, fn26, fn27, fn28, fn29, fn38, fn39, fn12, fn14, fn15, quietW_nil, quietW_arr, quietW_cons, aStill, freshOp, quietOp, E0_ron, get_empty, get_next, ofVal_none, valEq_int, valEq_str, valEq_bool, valEq_map, valEq_ptr, valEq_slice, valEq_nilSlice, valEq_mapNil, List.length_cons, List.length_nil, if_neg hne, hW]
  refine brW_dec (fun hlt => ?_) (fun hlt => ?_)
  · have hlt' : nw < now := by omega
    simp only [oneW_next, tg_eq, tgN_eq, brW_true, brW_false, c_skip, c_ret, c_exit, c_seq, c_cond, condW_b, c_block, c_scope, c_region, c_drawn, c_loop, onw_n, onw_r, onw_e, outb_e, outb_o, outb_n, outb_r, putW_some, putW_none, opsW_arr, opsW_nil, opsW_cons, wanted_none, wanted_some, guardB_some, oneW_next, oneW_move, oneW_assign, oneW_pick, oneW_build, oneW_load, oneW_store, oneW_nilCheck, oneW_binOp, oneW_unOp, oneW_makeFunc, oneW_slice, oneW_fieldAddr, oneW_field, oneW_indexAddr, oneW_index, oneW_lookup, oneW_mapUpdate, oneW_range, oneW_entry, oneW_extract, oneW_call, oneW_alloc, oneW_box, oneW_makeMap, oneW_buildSlice, oneW_convert, Hands, handsV, resultsV, oneOrTuple, argsT, arW_val, ofVal_some, plain_val, cond_true, cond_false,
    aOp_move, aOp_assign, aOp_pick, aOp_build, aOp_load, aOp_store, aOp_nilCheck, aOp_binOp, aOp_unOp, aOp_makeFunc, aOp_slice, aOp_fieldAddr, aOp_field, aOp_indexAddr, aOp_index, aOp_lookup, aOp_mapUpdate, aOp_range, aOp_entry, aOp_extract, aOp_call, aOp_alloc, aOp_box, aOp_makeMap, aOp_buildSlice, aInvoke_func,
    nbeq, nble, nblt, cond_dec, decide_true, decide_false, decide_eq_true_eq, Bool.false_eq_true, Bool.and_true, Bool.true_and, Bool.not_true, Bool.not_false, bq_t, bq_f, ev, evs, evPairs, evOpt, closed, flat, tget_put, Nat.reduceEqDiff, Nat.reduceAdd, Nat.reduceMul, Nat.reduceSub, Nat.reduceLT, Nat.reduceLeDiff, Nat.reduceBEq, reduceIte, if_true, if_false, reduceCtorEq, nth, aCall, aEnter, notYield, aNilCheck, aLoad, partV, isAggD, aFieldAddr, aField, aExtract, b_add, b_sub, b_mul, b_xor, b_eql, b_neq, b_lss, b_leq, b_gtr, b_geq, b_shr, Option.isNone, aBuiltin,
    List.length_cons, List.length_nil, true_implies, false_implies, and_true, true_and, implies_true, forall_const, List.append_nil, List.cons_append, List.nil_append, ASt.get_set, ASt.get_new, ASt.next_set, ASt.next_new, Nat.zero_add, Nat.add_zero, eq_self, ctor_self, ti63, t63_desc, t63_size, ti25, t25_desc, ti22, t22_desc, t22_size, ti59, t59_desc, t59_size, ti60, t60_desc, t60_size, ti61, t61_desc, t61_size, ti3, t3_desc, t3_size, ti40, t40_desc, t40_size, ti33, t33_desc, t33_size, ti9, t9_desc, t9_size, wrow_now, wrow_all, eqnil25, fn17, fn26, fn27, fn28, fn29, fn38, fn39, fn12, fn14, fn15, hlt']
    refine ⟨h.congr ?_ fun b hb => ?_, ?_, fun b hb hn => ?_⟩
    · simp only [ASt.next_new]; omega
    · have := h.below b hb
      simp only [get_next, ASt.get_new]; rw [if_neg (by omega)]
    · simp only [ASt.next_new]; omega
    · simp only [get_next, ASt.get_new]; rw [if_neg (by omega)]
  · have hge : ¬ nw < now := by omega
    generalize hBd : ASt.mk (ASt.heap (A.new _)) _ = B
    have hBg : ∀ b, B.get b = if b = A.next then some (.row [.int .u64 (nw : Int)] 1 false) else A.get b := fun b => by rw [← hBd, get_next, ASt.get_new]
    have hBn : A.next < B.next := by rw [← hBd]; show A.next < A.next + 1 + _; omega
    clear hBd
    simp only [oneW_next, tg_eq, tgN_eq, brW_true, brW_false, c_skip, c_ret, c_exit, c_seq, c_cond, condW_b, c_block, c_scope, c_region, c_drawn, c_loop, onw_n, onw_r, onw_e, outb_e, outb_o, outb_n, outb_r, putW_some, putW_none, opsW_arr, opsW_nil, opsW_cons, wanted_none, wanted_some, guardB_some, oneW_next, oneW_move, oneW_assign, oneW_pick, oneW_build, oneW_load, oneW_store, oneW_nilCheck, oneW_binOp, oneW_unOp, oneW_makeFunc, oneW_slice, oneW_fieldAddr, oneW_field, oneW_indexAddr, oneW_index, oneW_lookup, oneW_mapUpdate, oneW_range, oneW_entry, oneW_extract, oneW_call, oneW_alloc, oneW_box, oneW_makeMap, oneW_buildSlice, oneW_convert, Hands, handsV, resultsV, oneOrTuple, argsT, arW_val, ofVal_some, plain_val, cond_true, cond_false,
    aOp_move, aOp_assign, aOp_pick, aOp_build, aOp_load, aOp_store, aOp_nilCheck, aOp_binOp, aOp_unOp, aOp_makeFunc, aOp_slice, aOp_fieldAddr, aOp_field, aOp_indexAddr, aOp_index, aOp_lookup, aOp_mapUpdate, aOp_range, aOp_entry, aOp_extract, aOp_call, aOp_alloc, aOp_box, aOp_makeMap, aOp_buildSlice, aInvoke_func,
    nbeq, nble, nblt, cond_dec, decide_true, decide_false, decide_eq_true_eq, Bool.false_eq_true, Bool.and_true, Bool.true_and, Bool.not_true, Bool.not_false, bq_t, bq_f, ev, evs, evPairs, evOpt, closed, flat, tget_put, Nat.reduceEqDiff, Nat.reduceAdd, Nat.reduceMul, Nat.reduceSub, Nat.reduceLT, Nat.reduceLeDiff, Nat.reduceBEq, reduceIte, if_true, if_false, reduceCtorEq, nth, aCall, aEnter, notYield, aNilCheck, aLoad, partV, isAggD, aFieldAddr, aField, aExtract, b_add, b_sub, b_mul, b_xor, b_eql, b_neq, b_lss, b_leq, b_gtr, b_geq, b_shr, Option.isNone, aBuiltin,
    List.length_cons, List.length_nil, true_implies, false_implies, and_true, true_and, implies_true, forall_const, List.append_nil, List.cons_append, List.nil_append, ASt.get_set, ASt.get_new, ASt.next_set, ASt.next_new, Nat.zero_add, Nat.add_zero, eq_self, ctor_self, ti63, t63_desc, t63_size, ti25, t25_desc, ti22, t22_desc, t22_size, ti59, t59_desc, t59_size, ti60, t60_desc, t60_size, ti61, t61_desc, t61_size, ti3, t3_desc, t3_size, ti40, t40_desc, t40_size, ti33, t33_desc, t33_size, ti9, t9_desc, t9_size, wrow_now, wrow_all, eqnil25, fn17, fn26, fn27, fn28, fn29, fn38, fn39, fn12, fn14, fn15, alloc59, ptrTo]
    rw [store59 (x := .map none) (by rw [ASt.get_new, if_pos (by rw [ASt.next_new])])]
    simp only [oneW_next, tg_eq, tgN_eq, brW_true, brW_false, c_skip, c_ret, c_exit, c_seq, c_cond, condW_b, c_block, c_scope, c_region, c_drawn, c_loop, onw_n, onw_r, onw_e, outb_e, outb_o, outb_n, outb_r, putW_some, putW_none, opsW_arr, opsW_nil, opsW_cons, wanted_none, wanted_some, guardB_some, oneW_next, oneW_move, oneW_assign, oneW_pick, oneW_build, oneW_load, oneW_store, oneW_nilCheck, oneW_binOp, oneW_unOp, oneW_makeFunc, oneW_slice, oneW_fieldAddr, oneW_field, oneW_indexAddr, oneW_index, oneW_lookup, oneW_mapUpdate, oneW_range, oneW_entry, oneW_extract, oneW_call, oneW_alloc, oneW_box, oneW_makeMap, oneW_buildSlice, oneW_convert, Hands, handsV, resultsV, oneOrTuple, argsT, arW_val, ofVal_some, plain_val, cond_true, cond_false,
    aOp_move, aOp_assign, aOp_pick, aOp_build, aOp_load, aOp_store, aOp_nilCheck, aOp_binOp, aOp_unOp, aOp_makeFunc, aOp_slice, aOp_fieldAddr, aOp_field, aOp_indexAddr, aOp_index, aOp_lookup, aOp_mapUpdate, aOp_range, aOp_entry, aOp_extract, aOp_call, aOp_alloc, aOp_box, aOp_makeMap, aOp_buildSlice, aInvoke_func,
    nbeq, nble, nblt, cond_dec, decide_true, decide_false, decide_eq_true_eq, Bool.false_eq_true, Bool.and_true, Bool.true_and, Bool.not_true, Bool.not_false, bq_t, bq_f, ev, evs, evPairs, evOpt, closed, flat, tget_put, Nat.reduceEqDiff, Nat.reduceAdd, Nat.reduceMul, Nat.reduceSub, Nat.reduceLT, Nat.reduceLeDiff, Nat.reduceBEq, reduceIte, if_true, if_false, reduceCtorEq, nth, aCall, aEnter, notYield, aNilCheck, aLoad, partV, isAggD, aFieldAddr, aField, aExtract, b_add, b_sub, b_mul, b_xor, b_eql, b_neq, b_lss, b_leq, b_gtr, b_geq, b_shr, Option.isNone, aBuiltin,
    List.length_cons, List.length_nil, true_implies, false_implies, and_true, true_and, implies_true, forall_const, List.append_nil, List.cons_append, List.nil_append, ASt.get_set, ASt.get_new, ASt.next_set, ASt.next_new, Nat.zero_add, Nat.add_zero, eq_self, ctor_self, ti63, t63_desc, t63_size, ti25, t25_desc, ti22, t22_desc, t22_size, ti59, t59_desc, t59_size, ti60, t60_desc, t60_size, ti61, t61_desc, t61_size, ti3, t3_desc, t3_size, ti40, t40_desc, t40_size, ti33, t33_desc, t33_size, ti9, t9_desc, t9_size, wrow_now, wrow_all, eqnil25, fn17, fn26, fn27, fn28, fn29, fn38, fn39, fn12, fn14, fn15, alloc59, ptrTo]
    rw [store59 (x := .map none) (by rw [ASt.get_new, if_pos (by rw [ASt.next_new, ASt.next_set, ASt.next_new, ASt.next_new])])]
    simp only [oneW_next, tg_eq, tgN_eq, brW_true, brW_false, c_skip, c_ret, c_exit, c_seq, c_cond, condW_b, c_block, c_scope, c_region, c_drawn, c_loop, onw_n, onw_r, onw_e, outb_e, outb_o, outb_n, outb_r, putW_some, putW_none, opsW_arr, opsW_nil, opsW_cons, wanted_none, wanted_some, guardB_some, oneW_next, oneW_move, oneW_assign, oneW_pick, oneW_build, oneW_load, oneW_store, oneW_nilCheck, oneW_binOp, oneW_unOp, oneW_makeFunc, oneW_slice, oneW_fieldAddr, oneW_field, oneW_indexAddr, oneW_index, oneW_lookup, oneW_mapUpdate, oneW_range, oneW_entry, oneW_extract, oneW_call, oneW_alloc, oneW_box, oneW_makeMap, oneW_buildSlice, oneW_convert, Hands, handsV, resultsV, oneOrTuple, argsT, arW_val, ofVal_some, plain_val, cond_true, cond_false,
    aOp_move, aOp_assign, aOp_pick, aOp_build, aOp_load, aOp_store, aOp_nilCheck, aOp_binOp, aOp_unOp, aOp_makeFunc, aOp_slice, aOp_fieldAddr, aOp_field, aOp_indexAddr, aOp_index, aOp_lookup, aOp_mapUpdate, aOp_range, aOp_entry, aOp_extract, aOp_call, aOp_alloc, aOp_box, aOp_makeMap, aOp_buildSlice, aInvoke_func,
    nbeq, nble, nblt, cond_dec, decide_true, decide_false, decide_eq_true_eq, Bool.false_eq_true, Bool.and_true, Bool.true_and, Bool.not_true, Bool.not_false, bq_t, bq_f, ev, evs, evPairs, evOpt, closed, flat, tget_put, Nat.reduceEqDiff, Nat.reduceAdd, Nat.reduceMul, Nat.reduceSub, Nat.reduceLT, Nat.reduceLeDiff, Nat.reduceBEq, reduceIte, if_true, if_false, reduceCtorEq, nth, aCall, aEnter, notYield, aNilCheck, aLoad, partV, isAggD, aFieldAddr, aField, aExtract, b_add, b_sub, b_mul, b_xor, b_eql, b_neq, b_lss, b_leq, b_gtr, b_geq, b_shr, Option.isNone, aBuiltin,
    List.length_cons, List.length_nil, true_implies, false_implies, and_true, true_and, implies_true, forall_const, List.append_nil, List.cons_append, List.nil_append, ASt.get_set, ASt.get_new, ASt.next_set, ASt.next_new, Nat.zero_add, Nat.add_zero, eq_self, ctor_self, ti63, t63_desc, t63_size, ti25, t25_desc, ti22, t22_desc, t22_size, ti59, t59_desc, t59_size, ti60, t60_desc, t60_size, ti61, t61_desc, t61_size, ti3, t3_desc, t3_size, ti40, t40_desc, t40_size, ti33, t33_desc, t33_size, ti9, t9_desc, t9_size, wrow_now, wrow_all, eqnil25, fn17, fn26, fn27, fn28, fn29, fn38, fn39, fn12, fn14, fn15, alloc59, ptrTo]
    generalize hCd : ASt.set _ (B.next + 1 + 1 + 1) _ = C
    have hCg : ∀ b, C.get b = if b = B.next + 1 + 1 + 1 then some (.row [.map (some (B.next + 1 + 1))] 1 false) else if b = B.next + 1 + 1 then some (.map [] 0) else if b = B.next + 1 then some (.row [.map (some B.next)] 1 false) else if b = B.next then some (.map [] 0) else B.get b := fun b => by
      rw [← hCd]
      simp only [ASt.get_set, ASt.get_new, ASt.next_new, ASt.next_set]
      by_cases e1 : b = B.next + 1 + 1 + 1
      · simp [e1]
      · by_cases e2 : b = B.next + 1 + 1
        · simp [e2]
        · by_cases e3 : b = B.next + 1
          · simp [e3]
          · simp [e1, e2, e3]
    have hCn : C.next = B.next + 4 := by rw [← hCd]; simp only [ASt.next_set, ASt.next_new]
    clear hCd
    refine CodeW.seqd E0_ok E0_ro mixed R27_ok [0, 1, 2, 3, 4, 5, 6, 7, 8, 9, 10] [] (by simp only [reorder, reoGo, strip, List.map_cons, List.map_nil, opAt, remap, nth, Option.map, σ, place', nbeq, List.length_cons, List.length_nil, Nat.reduceAdd, Nat.reduceLT, Nat.reduceEqDiff, if_true, if_false, reduceIte]; rfl) (by decide +kernel) (by kernel_rfl) (by kernel_rfl) (by kernel_rfl) ?_
    have c3 : C.get A.next = some (.row [.int .u64 (nw : Int)] 1 false) := by
      rw [hCg, if_neg (by omega), if_neg (by omega), if_neg (by omega), if_neg (by omega), hBg, if_pos rfl]
    have cW : C.get W = some (.row (wrow now all ms) 67 false) := by
      rw [hCg, if_neg (by omega), if_neg (by omega), if_neg (by omega), if_neg (by omega), hBg, if_neg (by omega)]; exact hW
    simp only [oneW_next, tg_eq, tgN_eq, brW_true, brW_false, c_skip, c_ret, c_exit, c_seq, c_cond, condW_b, c_block, c_scope, c_region, c_drawn, c_loop, onw_n, onw_r, onw_e, outb_e, outb_o, outb_n, outb_r, putW_some, putW_none, opsW_arr, opsW_nil, opsW_cons, wanted_none, wanted_some, guardB_some, oneW_next, oneW_move, oneW_assign, oneW_pick, oneW_build, oneW_load, oneW_store, oneW_nilCheck, oneW_binOp, oneW_unOp, oneW_makeFunc, oneW_slice, oneW_fieldAddr, oneW_field, oneW_indexAddr, oneW_index, oneW_lookup, oneW_mapUpdate, oneW_range, oneW_entry, oneW_extract, oneW_call, oneW_alloc, oneW_box, oneW_makeMap, oneW_buildSlice, oneW_convert, Hands, handsV, resultsV, oneOrTuple, argsT, arW_val, ofVal_some, plain_val, cond_true, cond_false,
    aOp_move, aOp_assign, aOp_pick, aOp_build, aOp_load, aOp_store, aOp_nilCheck, aOp_binOp, aOp_unOp, aOp_makeFunc, aOp_slice, aOp_fieldAddr, aOp_field, aOp_indexAddr, aOp_index, aOp_lookup, aOp_mapUpdate, aOp_range, aOp_entry, aOp_extract, aOp_call, aOp_alloc, aOp_box, aOp_makeMap, aOp_buildSlice, aInvoke_func,
    nbeq, nble, nblt, cond_dec, decide_true, decide_false, decide_eq_true_eq, Bool.false_eq_true, Bool.and_true, Bool.true_and, Bool.not_true, Bool.not_false, bq_t, bq_f, ev, evs, evPairs, evOpt, closed, flat, tget_put, Nat.reduceEqDiff, Nat.reduceAdd, Nat.reduceMul, Nat.reduceSub, Nat.reduceLT, Nat.reduceLeDiff, Nat.reduceBEq, reduceIte, if_true, if_false, reduceCtorEq, nth, aCall, aEnter, notYield, aNilCheck, aLoad, partV, isAggD, aFieldAddr, aField, aExtract, b_add, b_sub, b_mul, b_xor, b_eql, b_neq, b_lss, b_leq, b_gtr, b_geq, b_shr, Option.isNone, aBuiltin,
    List.length_cons, List.length_nil, true_implies, false_implies, and_true, true_and, implies_true, forall_const, List.append_nil, List.cons_append, List.nil_append, ASt.get_set, ASt.get_new, ASt.next_set, ASt.next_new, Nat.zero_add, Nat.add_zero, eq_self, ctor_self, ti63, t63_desc, t63_size, ti25, t25_desc, ti22, t22_desc, t22_size, ti59, t59_desc, t59_size, ti60, t60_desc, t60_size, ti61, t61_desc, t61_size, ti3, t3_desc, t3_size, ti40, t40_desc, t40_size, ti33, t33_desc, t33_size, ti9, t9_desc, t9_size, wrow_now, wrow_all, eqnil25, fn17, fn26, fn27, fn28, fn29, fn38, fn39, fn12, fn14, fn15, seqW_nil, seqW_cons, pendIf_t, pendIf_f, pendW, AR.val.injEq, exists_eq', and_self, fresh_move, quiet_move, fresh_assign, quiet_assign, fresh_pick, quiet_pick, fresh_build, quiet_build, fresh_load, quiet_load, fresh_store, quiet_store, fresh_nilCheck, quiet_nilCheck, fresh_binOp, quiet_binOp, fresh_unOp, quiet_unOp, fresh_makeFunc, quiet_makeFunc, fresh_slice, quiet_slice, fresh_fieldAddr, quiet_fieldAddr, fresh_field, quiet_field, fresh_indexAddr, quiet_indexAddr, fresh_index, quiet_index, fresh_lookup, quiet_lookup, fresh_mapUpdate, quiet_mapUpdate, fresh_range, quiet_range, fresh_entry, quiet_entry, fresh_extract, quiet_extract, fresh_call, quiet_call, fresh_alloc, quiet_alloc, fresh_box, quiet_box, fresh_makeMap, quiet_makeMap, fresh_buildSlice, quiet_buildSlice, quietC_value, quietC_len, quietC_cap, quietC_append, quietC_delete, fr_buildSlice, stillW_val, stillW_bad, readW_val, freshW_some, hasN, Bool.true_or, Bool.false_or, Bool.or_true, Bool.or_false, reorder, E0_ron, get_empty, get_next, ofVal_none, valEq_int, valEq_str, valEq_bool, valEq_map, valEq_ptr, valEq_slice, valEq_nilSlice, valEq_mapNil, List.length_cons, List.length_nil, c3, cW, b_xor64 hnw h.nowlt]
    refine con27 hx ?_
    have hb : Lib.bitLen (nw ^^^ now) ≤ 64 := Lib.bitLen_le _ _ (by omega) hx
    simp only [oneW_next, tg_eq, tgN_eq, brW_true, brW_false, c_skip, c_ret, c_exit, c_seq, c_cond, condW_b, c_block, c_scope, c_region, c_drawn, c_loop, onw_n, onw_r, onw_e, outb_e, outb_o, outb_n, outb_r, putW_some, putW_none, opsW_arr, opsW_nil, opsW_cons, wanted_none, wanted_some, guardB_some, oneW_next, oneW_move, oneW_assign, oneW_pick, oneW_build, oneW_load, oneW_store, oneW_nilCheck, oneW_binOp, oneW_unOp, oneW_makeFunc, oneW_slice, oneW_fieldAddr, oneW_field, oneW_indexAddr, oneW_index, oneW_lookup, oneW_mapUpdate, oneW_range, oneW_entry, oneW_extract, oneW_call, oneW_alloc, oneW_box, oneW_makeMap, oneW_buildSlice, oneW_convert, Hands, handsV, resultsV, oneOrTuple, argsT, arW_val, ofVal_some, plain_val, cond_true, cond_false,
    aOp_move, aOp_assign, aOp_pick, aOp_build, aOp_load, aOp_store, aOp_nilCheck, aOp_binOp, aOp_unOp, aOp_makeFunc, aOp_slice, aOp_fieldAddr, aOp_field, aOp_indexAddr, aOp_index, aOp_lookup, aOp_mapUpdate, aOp_range, aOp_entry, aOp_extract, aOp_call, aOp_alloc, aOp_box, aOp_makeMap, aOp_buildSlice, aInvoke_func,
    nbeq, nble, nblt, cond_dec, decide_true, decide_false, decide_eq_true_eq, Bool.false_eq_true, Bool.and_true, Bool.true_and, Bool.not_true, Bool.not_false, bq_t, bq_f, ev, evs, evPairs, evOpt, closed, flat, tget_put, Nat.reduceEqDiff, Nat.reduceAdd, Nat.reduceMul, Nat.reduceSub, Nat.reduceLT, Nat.reduceLeDiff, Nat.reduceBEq, reduceIte, if_true, if_false, reduceCtorEq, nth, aCall, aEnter, notYield, aNilCheck, aLoad, partV, isAggD, aFieldAddr, aField, aExtract, b_add, b_sub, b_mul, b_xor, b_eql, b_neq, b_lss, b_leq, b_gtr, b_geq, b_shr, Option.isNone, aBuiltin,
    List.length_cons, List.length_nil, true_implies, false_implies, and_true, true_and, implies_true, forall_const, List.append_nil, List.cons_append, List.nil_append, ASt.get_set, ASt.get_new, ASt.next_set, ASt.next_new, Nat.zero_add, Nat.add_zero, eq_self, ctor_self, ti63, t63_desc, t63_size, ti25, t25_desc, ti22, t22_desc, t22_size, ti59, t59_desc, t59_size, ti60, t60_desc, t60_size, ti61, t61_desc, t61_size, ti3, t3_desc, t3_size, ti40, t40_desc, t40_size, ti33, t33_desc, t33_size, ti9, t9_desc, t9_size, wrow_now, wrow_all, eqnil25, fn17, fn26, fn27, fn28, fn29, fn38, fn39, fn12, fn14, fn15, seqW_nil, seqW_cons, pendIf_t, pendIf_f, pendW, AR.val.injEq, exists_eq', and_self, fresh_move, quiet_move, fresh_assign, quiet_assign, fresh_pick, quiet_pick, fresh_build, quiet_build, fresh_load, quiet_load, fresh_store, quiet_store, fresh_nilCheck, quiet_nilCheck, fresh_binOp, quiet_binOp, fresh_unOp, quiet_unOp, fresh_makeFunc, quiet_makeFunc, fresh_slice, quiet_slice, fresh_fieldAddr, quiet_fieldAddr, fresh_field, quiet_field, fresh_indexAddr, quiet_indexAddr, fresh_index, quiet_index, fresh_lookup, quiet_lookup, fresh_mapUpdate, quiet_mapUpdate, fresh_range, quiet_range, fresh_entry, quiet_entry, fresh_extract, quiet_extract, fresh_call, quiet_call, fresh_alloc, quiet_alloc, fresh_box, quiet_box, fresh_makeMap, quiet_makeMap, fresh_buildSlice, quiet_buildSlice, quietC_value, quietC_len, quietC_cap, quietC_append, quietC_delete, fr_buildSlice, stillW_val, stillW_bad, readW_val, freshW_some, hasN, Bool.true_or, Bool.false_or, Bool.or_true, Bool.or_false, reorder, E0_ron, get_empty, get_next, ofVal_none, valEq_int, valEq_str, valEq_bool, valEq_map, valEq_ptr, valEq_slice, valEq_nilSlice, valEq_mapNil, List.length_cons, List.length_nil, b_quo (show (4 : Int) ≠ 0 by decide)]
    have hpas : IntKind.i64.wrap ((IntKind.i64.wrap (IntKind.i64.wrap (((Lib.bitLen (nw ^^^ now) : Nat) : Int) + 4) - 1)).tdiv 4) = (((Lib.bitLen (nw ^^^ now) + 3) / 4 : Nat) : Int) := pas_int hb
    simp only [hpas]
    have hp : (Lib.bitLen (nw ^^^ now) + 3) / 4 ≤ 16 := by omega
    generalize hpd : (Lib.bitLen (nw ^^^ now) + 3) / 4 = ps at hp
    refine CodeW.label' ?_
    simp only [oneW_next, tg_eq, tgN_eq, brW_true, brW_false, c_skip, c_ret, c_exit, c_seq, c_cond, condW_b, c_block, c_scope, c_region, c_drawn, c_loop, onw_n, onw_r, onw_e, outb_e, outb_o, outb_n, outb_r, putW_some, putW_none, opsW_arr, opsW_nil, opsW_cons, wanted_none, wanted_some, guardB_some, oneW_next, oneW_move, oneW_assign, oneW_pick, oneW_build, oneW_load, oneW_store, oneW_nilCheck, oneW_binOp, oneW_unOp, oneW_makeFunc, oneW_slice, oneW_fieldAddr, oneW_field, oneW_indexAddr, oneW_index, oneW_lookup, oneW_mapUpdate, oneW_range, oneW_entry, oneW_extract, oneW_call, oneW_alloc, oneW_box, oneW_makeMap, oneW_buildSlice, oneW_convert, Hands, handsV, resultsV, oneOrTuple, argsT, arW_val, ofVal_some, plain_val, cond_true, cond_false,
    aOp_move, aOp_assign, aOp_pick, aOp_build, aOp_load, aOp_store, aOp_nilCheck, aOp_binOp, aOp_unOp, aOp_makeFunc, aOp_slice, aOp_fieldAddr, aOp_field, aOp_indexAddr, aOp_index, aOp_lookup, aOp_mapUpdate, aOp_range, aOp_entry, aOp_extract, aOp_call, aOp_alloc, aOp_box, aOp_makeMap, aOp_buildSlice, aInvoke_func,
    nbeq, nble, nblt, cond_dec, decide_true, decide_false, decide_eq_true_eq, Bool.false_eq_true, Bool.and_true, Bool.true_and, Bool.not_true, Bool.not_false, bq_t, bq_f, ev, evs, evPairs, evOpt, closed, flat, tget_put, Nat.reduceEqDiff, Nat.reduceAdd, Nat.reduceMul, Nat.reduceSub, Nat.reduceLT, Nat.reduceLeDiff, Nat.reduceBEq, reduceIte, if_true, if_false, reduceCtorEq, nth, aCall, aEnter, notYield, aNilCheck, aLoad, partV, isAggD, aFieldAddr, aField, aExtract, b_add, b_sub, b_mul, b_xor, b_eql, b_neq, b_lss, b_leq, b_gtr, b_geq, b_shr, Option.isNone, aBuiltin,
    List.length_cons, List.length_nil, true_implies, false_implies, and_true, true_and, implies_true, forall_const, List.append_nil, List.cons_append, List.nil_append, ASt.get_set, ASt.get_new, ASt.next_set, ASt.next_new, Nat.zero_add, Nat.add_zero, eq_self, ctor_self, ti63, t63_desc, t63_size, ti25, t25_desc, ti22, t22_desc, t22_size, ti59, t59_desc, t59_size, ti60, t60_desc, t60_size, ti61, t61_desc, t61_size, ti3, t3_desc, t3_size, ti40, t40_desc, t40_size, ti33, t33_desc, t33_size, ti9, t9_desc, t9_size, wrow_now, wrow_all, eqnil25, fn17, fn26, fn27, fn28, fn29, fn38, fn39, fn12, fn14, fn15]
    have hadv0 : Adv A C W all now ms M nw A.next (B.next + 1) (B.next + 1 + 1 + 1) B.next (B.next + 1 + 1) (fun i => decide (i < 16 * 0)) := by
      have keep : ∀ b, b < A.next → C.get b = A.get b := fun b hb => by
        rw [hCg, if_neg (by omega), if_neg (by omega), if_neg (by omega), if_neg (by omega), hBg, if_neg (by omega)]
      have hbl := h.below
      refine ⟨cW, h.allm.congr (keep _ (hbl all (by simp))), fun i m hm => ?_, ?_, ?_, c3, ?_, ?_, ?_, ?_, ?_, ?_⟩
      · simp only [Nat.mul_zero, Nat.not_lt_zero, decide_false, Bool.false_eq_true, if_false]
        exact (h.slot i m hm).congr (keep _ (hbl m (by simp [List.mem_of_getElem? hm])))
      · refine ⟨[], 0, by rw [hCg, if_neg (by omega), if_neg (by omega), if_neg (by omega), if_pos rfl]; rfl, ⟨.nil, .nil, by simp⟩, fun k => ?_⟩
        cases hk : M k <;> simp [uget, Option.filter, hk]
      · refine ⟨[], 0, by rw [hCg, if_neg (by omega), if_pos rfl]; rfl, ⟨.nil, .nil, by simp⟩, fun k => ?_⟩
        cases hk : M k <;> simp [uget, Option.filter, hk]
      · rw [hCg, if_neg (by omega), if_neg (by omega), if_pos rfl]
      · rw [hCg, if_pos rfl]
      · have hn := h.nodup
        simp only [List.nodup_cons, List.mem_cons, not_or] at hn ⊢
        have b1 := hbl W (by simp)
        have b2 := hbl all (by simp)
        have b3 : ∀ m ∈ ms, m < A.next := fun m hm => hbl m (by simp [hm])
        refine ⟨⟨hn.1.1, by omega, by omega, hn.1.2⟩, ⟨by omega, by omega, hn.2.1⟩, ⟨by omega, fun hm => ?_⟩, fun hm => ?_, hn.2.2⟩
        · have := b3 _ hm; omega
        · have := b3 _ hm; omega
      · intro b hb
        simp only [List.mem_cons] at hb
        rw [hCn]
        rcases hb with rfl | rfl | rfl | rfl | rfl | rfl | rfl | hb
        · omega
        · have := hbl b (by simp); omega
        · omega
        · omega
        · omega
        · omega
        · omega
        · have := hbl b (by simp [hb]); omega
      · intro b hb
        simp only [List.mem_cons, List.not_mem_nil, or_false] at hb
        rcases hb with rfl | rfl | rfl | rfl | rfl <;> omega
      · exact ⟨by omega, fun b hb _ => keep b hb⟩
    generalize B.next + 1 + 1 + 1 = p6 at hadv0 ⊢
    generalize B.next + 1 + 1 = lf at hadv0 ⊢
    generalize B.next + 1 = p5 at hadv0 ⊢
    generalize B.next = d at hadv0 ⊢
    generalize A.next = p3 at hadv0 ⊢
    refine CodeW.mono (Q := fun o => ∃ T' A', o = .fr ⟨.exit 0, T', A'⟩ ∧ AdvT T' W p3 p5 p6 ps ∧ Adv A A' W all now ms M nw p3 p5 p6 d lf (fun i => decide (i < 16 * min 4 ps))) ?_ ?_
    · refine CodeW.loopR (k := 4) (fun k T A' => ∃ L, k = 4 - L ∧ L ≤ 4 ∧ L ≤ ps ∧ tget T 37 = .int .i64 (L : Int) ∧ AdvT T W p3 p5 p6 ps ∧ Adv A A' W all now ms M nw p3 p5 p6 d lf (fun i => decide (i < 16 * L))) ?_ ⟨0, rfl, by omega, by omega, ?_, ?_, ?_⟩
      · rintro k T1 A1 ⟨L, rfl, h4, hL, t37, ht, ha⟩
        refine codeW_ok E0_ok E0_ro ?_
        simp only [oneW_next, tg_eq, tgN_eq, brW_true, brW_false, c_skip, c_ret, c_exit, c_seq, c_cond, condW_b, c_block, c_scope, c_region, c_drawn, c_loop, onw_n, onw_r, onw_e, outb_e, outb_o, outb_n, outb_r, putW_some, putW_none, opsW_arr, opsW_nil, opsW_cons, wanted_none, wanted_some, guardB_some, oneW_next, oneW_move, oneW_assign, oneW_pick, oneW_build, oneW_load, oneW_store, oneW_nilCheck, oneW_binOp, oneW_unOp, oneW_makeFunc, oneW_slice, oneW_fieldAddr, oneW_field, oneW_indexAddr, oneW_index, oneW_lookup, oneW_mapUpdate, oneW_range, oneW_entry, oneW_extract, oneW_call, oneW_alloc, oneW_box, oneW_makeMap, oneW_buildSlice, oneW_convert, Hands, handsV, resultsV, oneOrTuple, argsT, arW_val, ofVal_some, plain_val, cond_true, cond_false,
    aOp_move, aOp_assign, aOp_pick, aOp_build, aOp_load, aOp_store, aOp_nilCheck, aOp_binOp, aOp_unOp, aOp_makeFunc, aOp_slice, aOp_fieldAddr, aOp_field, aOp_indexAddr, aOp_index, aOp_lookup, aOp_mapUpdate, aOp_range, aOp_entry, aOp_extract, aOp_call, aOp_alloc, aOp_box, aOp_makeMap, aOp_buildSlice, aInvoke_func,
    nbeq, nble, nblt, cond_dec, decide_true, decide_false, decide_eq_true_eq, Bool.false_eq_true, Bool.and_true, Bool.true_and, Bool.not_true, Bool.not_false, bq_t, bq_f, ev, evs, evPairs, evOpt, closed, flat, tget_put, Nat.reduceEqDiff, Nat.reduceAdd, Nat.reduceMul, Nat.reduceSub, Nat.reduceLT, Nat.reduceLeDiff, Nat.reduceBEq, reduceIte, if_true, if_false, reduceCtorEq, nth, aCall, aEnter, notYield, aNilCheck, aLoad, partV, isAggD, aFieldAddr, aField, aExtract, b_add, b_sub, b_mul, b_xor, b_eql, b_neq, b_lss, b_leq, b_gtr, b_geq, b_shr, Option.isNone, aBuiltin,
    List.length_cons, List.length_nil, true_implies, false_implies, and_true, true_and, implies_true, forall_const, List.append_nil, List.cons_append, List.nil_append, ASt.get_set, ASt.get_new, ASt.next_set, ASt.next_new, Nat.zero_add, Nat.add_zero, eq_self, ctor_self, ti63, t63_desc, t63_size, ti25, t25_desc, ti22, t22_desc, t22_size, ti59, t59_desc, t59_size, ti60, t60_desc, t60_size, ti61, t61_desc, t61_size, ti3, t3_desc, t3_size, ti40, t40_desc, t40_size, ti33, t33_desc, t33_size, ti9, t9_desc, t9_size, wrow_now, wrow_all, eqnil25, fn17, fn26, fn27, fn28, fn29, fn38, fn39, fn12, fn14, fn15, t37]
        refine brW_dec (fun hl4 => ?_) (fun hl4 => ?_)
        · have hl4' : L < 4 := by omega
          simp only [oneW_next, tg_eq, tgN_eq, brW_true, brW_false, c_skip, c_ret, c_exit, c_seq, c_cond, condW_b, c_block, c_scope, c_region, c_drawn, c_loop, onw_n, onw_r, onw_e, outb_e, outb_o, outb_n, outb_r, putW_some, putW_none, opsW_arr, opsW_nil, opsW_cons, wanted_none, wanted_some, guardB_some, oneW_next, oneW_move, oneW_assign, oneW_pick, oneW_build, oneW_load, oneW_store, oneW_nilCheck, oneW_binOp, oneW_unOp, oneW_makeFunc, oneW_slice, oneW_fieldAddr, oneW_field, oneW_indexAddr, oneW_index, oneW_lookup, oneW_mapUpdate, oneW_range, oneW_entry, oneW_extract, oneW_call, oneW_alloc, oneW_box, oneW_makeMap, oneW_buildSlice, oneW_convert, Hands, handsV, resultsV, oneOrTuple, argsT, arW_val, ofVal_some, plain_val, cond_true, cond_false,
    aOp_move, aOp_assign, aOp_pick, aOp_build, aOp_load, aOp_store, aOp_nilCheck, aOp_binOp, aOp_unOp, aOp_makeFunc, aOp_slice, aOp_fieldAddr, aOp_field, aOp_indexAddr, aOp_index, aOp_lookup, aOp_mapUpdate, aOp_range, aOp_entry, aOp_extract, aOp_call, aOp_alloc, aOp_box, aOp_makeMap, aOp_buildSlice, aInvoke_func,
    nbeq, nble, nblt, cond_dec, decide_true, decide_false, decide_eq_true_eq, Bool.false_eq_true, Bool.and_true, Bool.true_and, Bool.not_true, Bool.not_false, bq_t, bq_f, ev, evs, evPairs, evOpt, closed, flat, tget_put, Nat.reduceEqDiff, Nat.reduceAdd, Nat.reduceMul, Nat.reduceSub, Nat.reduceLT, Nat.reduceLeDiff, Nat.reduceBEq, reduceIte, if_true, if_false, reduceCtorEq, nth, aCall, aEnter, notYield, aNilCheck, aLoad, partV, isAggD, aFieldAddr, aField, aExtract, b_add, b_sub, b_mul, b_xor, b_eql, b_neq, b_lss, b_leq, b_gtr, b_geq, b_shr, Option.isNone, aBuiltin,
    List.length_cons, List.length_nil, true_implies, false_implies, and_true, true_and, implies_true, forall_const, List.append_nil, List.cons_append, List.nil_append, ASt.get_set, ASt.get_new, ASt.next_set, ASt.next_new, Nat.zero_add, Nat.add_zero, eq_self, ctor_self, ti63, t63_desc, t63_size, ti25, t25_desc, ti22, t22_desc, t22_size, ti59, t59_desc, t59_size, ti60, t60_desc, t60_size, ti61, t61_desc, t61_size, ti3, t3_desc, t3_size, ti40, t40_desc, t40_size, ti33, t33_desc, t33_size, ti9, t9_desc, t9_size, wrow_now, wrow_all, eqnil25, fn17, fn26, fn27, fn28, fn29, fn38, fn39, fn12, fn14, fn15, t37]
          refine CodeW.mono (Q := fun o => (∃ T' A', o = .fr ⟨.exit 2, T', A'⟩ ∧ L < ps ∧ tget T' 37 = .int .i64 (L : Int) ∧ AdvT T' W p3 p5 p6 ps ∧ Adv A A' W all now ms M nw p3 p5 p6 d lf (fun i => decide (i < 16 * L + 16))) ∨ (∃ T' A', o = .fr ⟨.exit 0, T', A'⟩ ∧ L = ps ∧ AdvT T' W p3 p5 p6 ps ∧ Adv A A' W all now ms M nw p3 p5 p6 d lf (fun i => decide (i < 16 * L)))) ?_ ?_
          · refine CodeW.loopR (k := 16) (fun k T A' => ∃ j, k = 16 - j ∧ j ≤ 16 ∧ (0 < j → L < ps) ∧ tget T 40 = .int .i64 (j : Int) ∧ tget T 9 = .int .i64 (L : Int) ∧ tget T 37 = .int .i64 (L : Int) ∧ AdvT T W p3 p5 p6 ps ∧ Adv A A' W all now ms M nw p3 p5 p6 d lf (fun i => decide (i < 16 * L + j))) ?_ ⟨0, rfl, by omega, by omega, ?_, ?_, ?_, ?_, ?_⟩
            · rintro k T2 A2 ⟨j, rfl, hj, hjl, u40, u9, u37, ut, ua⟩
              refine codeW_ok E0_ok E0_ro ?_
              simp only [oneW_next, tg_eq, tgN_eq, brW_true, brW_false, c_skip, c_ret, c_exit, c_seq, c_cond, condW_b, c_block, c_scope, c_region, c_drawn, c_loop, onw_n, onw_r, onw_e, outb_e, outb_o, outb_n, outb_r, putW_some, putW_none, opsW_arr, opsW_nil, opsW_cons, wanted_none, wanted_some, guardB_some, oneW_next, oneW_move, oneW_assign, oneW_pick, oneW_build, oneW_load, oneW_store, oneW_nilCheck, oneW_binOp, oneW_unOp, oneW_makeFunc, oneW_slice, oneW_fieldAddr, oneW_field, oneW_indexAddr, oneW_index, oneW_lookup, oneW_mapUpdate, oneW_range, oneW_entry, oneW_extract, oneW_call, oneW_alloc, oneW_box, oneW_makeMap, oneW_buildSlice, oneW_convert, Hands, handsV, resultsV, oneOrTuple, argsT, arW_val, ofVal_some, plain_val, cond_true, cond_false,
    aOp_move, aOp_assign, aOp_pick, aOp_build, aOp_load, aOp_store, aOp_nilCheck, aOp_binOp, aOp_unOp, aOp_makeFunc, aOp_slice, aOp_fieldAddr, aOp_field, aOp_indexAddr, aOp_index, aOp_lookup, aOp_mapUpdate, aOp_range, aOp_entry, aOp_extract, aOp_call, aOp_alloc, aOp_box, aOp_makeMap, aOp_buildSlice, aInvoke_func,
    nbeq, nble, nblt, cond_dec, decide_true, decide_false, decide_eq_true_eq, Bool.false_eq_true, Bool.and_true, Bool.true_and, Bool.not_true, Bool.not_false, bq_t, bq_f, ev, evs, evPairs, evOpt, closed, flat, tget_put, Nat.reduceEqDiff, Nat.reduceAdd, Nat.reduceMul, Nat.reduceSub, Nat.reduceLT, Nat.reduceLeDiff, Nat.reduceBEq, reduceIte, if_true, if_false, reduceCtorEq, nth, aCall, aEnter, notYield, aNilCheck, aLoad, partV, isAggD, aFieldAddr, aField, aExtract, b_add, b_sub, b_mul, b_xor, b_eql, b_neq, b_lss, b_leq, b_gtr, b_geq, b_shr, Option.isNone, aBuiltin,
    List.length_cons, List.length_nil, true_implies, false_implies, and_true, true_and, implies_true, forall_const, List.append_nil, List.cons_append, List.nil_append, ASt.get_set, ASt.get_new, ASt.next_set, ASt.next_new, Nat.zero_add, Nat.add_zero, eq_self, ctor_self, ti63, t63_desc, t63_size, ti25, t25_desc, ti22, t22_desc, t22_size, ti59, t59_desc, t59_size, ti60, t60_desc, t60_size, ti61, t61_desc, t61_size, ti3, t3_desc, t3_size, ti40, t40_desc, t40_size, ti33, t33_desc, t33_size, ti9, t9_desc, t9_size, wrow_now, wrow_all, eqnil25, fn17, fn26, fn27, fn28, fn29, fn38, fn39, fn12, fn14, fn15, u40]
              refine brW_dec (fun hj6 => ?_) (fun hj6 => ?_)
              · have hj6' : j < 16 := by omega
                have t0 := ut.t0
                have t7 := ut.t7
                have t8 := ut.t8
                simp only [oneW_next, tg_eq, tgN_eq, brW_true, brW_false, c_skip, c_ret, c_exit, c_seq, c_cond, condW_b, c_block, c_scope, c_region, c_drawn, c_loop, onw_n, onw_r, onw_e, outb_e, outb_o, outb_n, outb_r, putW_some, putW_none, opsW_arr, opsW_nil, opsW_cons, wanted_none, wanted_some, guardB_some, oneW_next, oneW_move, oneW_assign, oneW_pick, oneW_build, oneW_load, oneW_store, oneW_nilCheck, oneW_binOp, oneW_unOp, oneW_makeFunc, oneW_slice, oneW_fieldAddr, oneW_field, oneW_indexAddr, oneW_index, oneW_lookup, oneW_mapUpdate, oneW_range, oneW_entry, oneW_extract, oneW_call, oneW_alloc, oneW_box, oneW_makeMap, oneW_buildSlice, oneW_convert, Hands, handsV, resultsV, oneOrTuple, argsT, arW_val, ofVal_some, plain_val, cond_true, cond_false,
    aOp_move, aOp_assign, aOp_pick, aOp_build, aOp_load, aOp_store, aOp_nilCheck, aOp_binOp, aOp_unOp, aOp_makeFunc, aOp_slice, aOp_fieldAddr, aOp_field, aOp_indexAddr, aOp_index, aOp_lookup, aOp_mapUpdate, aOp_range, aOp_entry, aOp_extract, aOp_call, aOp_alloc, aOp_box, aOp_makeMap, aOp_buildSlice, aInvoke_func,
    nbeq, nble, nblt, cond_dec, decide_true, decide_false, decide_eq_true_eq, Bool.false_eq_true, Bool.and_true, Bool.true_and, Bool.not_true, Bool.not_false, bq_t, bq_f, ev, evs, evPairs, evOpt, closed, flat, tget_put, Nat.reduceEqDiff, Nat.reduceAdd, Nat.reduceMul, Nat.reduceSub, Nat.reduceLT, Nat.reduceLeDiff, Nat.reduceBEq, reduceIte, if_true, if_false, reduceCtorEq, nth, aCall, aEnter, notYield, aNilCheck, aLoad, partV, isAggD, aFieldAddr, aField, aExtract, b_add, b_sub, b_mul, b_xor, b_eql, b_neq, b_lss, b_leq, b_gtr, b_geq, b_shr, Option.isNone, aBuiltin,
    List.length_cons, List.length_nil, true_implies, false_implies, and_true, true_and, implies_true, forall_const, List.append_nil, List.cons_append, List.nil_append, ASt.get_set, ASt.get_new, ASt.next_set, ASt.next_new, Nat.zero_add, Nat.add_zero, eq_self, ctor_self, ti63, t63_desc, t63_size, ti25, t25_desc, ti22, t22_desc, t22_size, ti59, t59_desc, t59_size, ti60, t60_desc, t60_size, ti61, t61_desc, t61_size, ti3, t3_desc, t3_size, ti40, t40_desc, t40_size, ti33, t33_desc, t33_size, ti9, t9_desc, t9_size, wrow_now, wrow_all, eqnil25, fn17, fn26, fn27, fn28, fn29, fn38, fn39, fn12, fn14, fn15, u40, u9, u37, t7]
                refine brW_dec (fun hge => ?_) (fun hge => ?_)
                · have e0 : j = 0 := by omega
                  subst e0
                  simp only [oneW_next, tg_eq, tgN_eq, brW_true, brW_false, c_skip, c_ret, c_exit, c_seq, c_cond, condW_b, c_block, c_scope, c_region, c_drawn, c_loop, onw_n, onw_r, onw_e, outb_e, outb_o, outb_n, outb_r, putW_some, putW_none, opsW_arr, opsW_nil, opsW_cons, wanted_none, wanted_some, guardB_some, oneW_next, oneW_move, oneW_assign, oneW_pick, oneW_build, oneW_load, oneW_store, oneW_nilCheck, oneW_binOp, oneW_unOp, oneW_makeFunc, oneW_slice, oneW_fieldAddr, oneW_field, oneW_indexAddr, oneW_index, oneW_lookup, oneW_mapUpdate, oneW_range, oneW_entry, oneW_extract, oneW_call, oneW_alloc, oneW_box, oneW_makeMap, oneW_buildSlice, oneW_convert, Hands, handsV, resultsV, oneOrTuple, argsT, arW_val, ofVal_some, plain_val, cond_true, cond_false,
    aOp_move, aOp_assign, aOp_pick, aOp_build, aOp_load, aOp_store, aOp_nilCheck, aOp_binOp, aOp_unOp, aOp_makeFunc, aOp_slice, aOp_fieldAddr, aOp_field, aOp_indexAddr, aOp_index, aOp_lookup, aOp_mapUpdate, aOp_range, aOp_entry, aOp_extract, aOp_call, aOp_alloc, aOp_box, aOp_makeMap, aOp_buildSlice, aInvoke_func,
    nbeq, nble, nblt, cond_dec, decide_true, decide_false, decide_eq_true_eq, Bool.false_eq_true, Bool.and_true, Bool.true_and, Bool.not_true, Bool.not_false, bq_t, bq_f, ev, evs, evPairs, evOpt, closed, flat, tget_put, Nat.reduceEqDiff, Nat.reduceAdd, Nat.reduceMul, Nat.reduceSub, Nat.reduceLT, Nat.reduceLeDiff, Nat.reduceBEq, reduceIte, if_true, if_false, reduceCtorEq, nth, aCall, aEnter, notYield, aNilCheck, aLoad, partV, isAggD, aFieldAddr, aField, aExtract, b_add, b_sub, b_mul, b_xor, b_eql, b_neq, b_lss, b_leq, b_gtr, b_geq, b_shr, Option.isNone, aBuiltin,
    List.length_cons, List.length_nil, true_implies, false_implies, and_true, true_and, implies_true, forall_const, List.append_nil, List.cons_append, List.nil_append, ASt.get_set, ASt.get_new, ASt.next_set, ASt.next_new, Nat.zero_add, Nat.add_zero, eq_self, ctor_self, ti63, t63_desc, t63_size, ti25, t25_desc, ti22, t22_desc, t22_size, ti59, t59_desc, t59_size, ti60, t60_desc, t60_size, ti61, t61_desc, t61_size, ti3, t3_desc, t3_size, ti40, t40_desc, t40_size, ti33, t33_desc, t33_size, ti9, t9_desc, t9_size, wrow_now, wrow_all, eqnil25, fn17, fn26, fn27, fn28, fn29, fn38, fn39, fn12, fn14, fn15]
                  exact .inr ⟨_, _, rfl, by omega, (ut.congr (by intro t ht'; simp only [List.mem_cons, List.not_mem_nil, or_false] at ht'; rcases ht' with rfl | rfl | rfl | rfl | rfl | rfl <;> simp only [tget_put, Nat.reduceEqDiff, if_false, reduceIte])), ua.congrD (fun i hi => by simp) h.len⟩
                · have hLp : L < ps := by omega
                  have uW := ua.row
                  have hix : 16 * L + j < ms.length := by rw [h.len]; omega
                  have hm : ms[16 * L + j]? = some ms[16 * L + j] := List.getElem?_eq_getElem _
                  have hsl : nth (wrow now all ms) (2 + L * 16 + j) = some (.map (some ms[16 * L + j])) := by
                    have := wrow_slot (now := now) (all := all) (ms := ms) (k := 16 * L + j) hix
                    rw [← this]; congr 1; omega
                  have ei1 : ∀ o, aIndexAddr E0 61 (.pointer (some ⟨W, o, none⟩)) (.int .i64 (L : Int)) = some (.pointer (some ⟨W, o + L * 16, none⟩)) := fun o => by
                    have := indexAddr_arr (A := A2) ti61 t61_desc ti60 (kd := .i64) (k := L) (b := W) (off := o) hl4'
                    rwa [t60_size] at this
                  have ei2 : ∀ o, aIndexAddr E0 60 (.pointer (some ⟨W, o, none⟩)) (.int .i64 (j : Int)) = some (.pointer (some ⟨W, o + j, none⟩)) := fun o => by
                    have := indexAddr_arr (A := A2) ti60 t60_desc ti59 (kd := .i64) (k := j) (b := W) (off := o) hj6'
                    rwa [t59_size, Nat.mul_one] at this
                  have t0 := ut.t0
                  have t8 := ut.t8
                  simp only [oneW_next, tg_eq, tgN_eq, brW_true, brW_false, c_skip, c_ret, c_exit, c_seq, c_cond, condW_b, c_block, c_scope, c_region, c_drawn, c_loop, onw_n, onw_r, onw_e, outb_e, outb_o, outb_n, outb_r, putW_some, putW_none, opsW_arr, opsW_nil, opsW_cons, wanted_none, wanted_some, guardB_some, oneW_next, oneW_move, oneW_assign, oneW_pick, oneW_build, oneW_load, oneW_store, oneW_nilCheck, oneW_binOp, oneW_unOp, oneW_makeFunc, oneW_slice, oneW_fieldAddr, oneW_field, oneW_indexAddr, oneW_index, oneW_lookup, oneW_mapUpdate, oneW_range, oneW_entry, oneW_extract, oneW_call, oneW_alloc, oneW_box, oneW_makeMap, oneW_buildSlice, oneW_convert, Hands, handsV, resultsV, oneOrTuple, argsT, arW_val, ofVal_some, plain_val, cond_true, cond_false,
    aOp_move, aOp_assign, aOp_pick, aOp_build, aOp_load, aOp_store, aOp_nilCheck, aOp_binOp, aOp_unOp, aOp_makeFunc, aOp_slice, aOp_fieldAddr, aOp_field, aOp_indexAddr, aOp_index, aOp_lookup, aOp_mapUpdate, aOp_range, aOp_entry, aOp_extract, aOp_call, aOp_alloc, aOp_box, aOp_makeMap, aOp_buildSlice, aInvoke_func,
    nbeq, nble, nblt, cond_dec, decide_true, decide_false, decide_eq_true_eq, Bool.false_eq_true, Bool.and_true, Bool.true_and, Bool.not_true, Bool.not_false, bq_t, bq_f, ev, evs, evPairs, evOpt, closed, flat, tget_put, Nat.reduceEqDiff, Nat.reduceAdd, Nat.reduceMul, Nat.reduceSub, Nat.reduceLT, Nat.reduceLeDiff, Nat.reduceBEq, reduceIte, if_true, if_false, reduceCtorEq, nth, aCall, aEnter, notYield, aNilCheck, aLoad, partV, isAggD, aFieldAddr, aField, aExtract, b_add, b_sub, b_mul, b_xor, b_eql, b_neq, b_lss, b_leq, b_gtr, b_geq, b_shr, Option.isNone, aBuiltin,
    List.length_cons, List.length_nil, true_implies, false_implies, and_true, true_and, implies_true, forall_const, List.append_nil, List.cons_append, List.nil_append, ASt.get_set, ASt.get_new, ASt.next_set, ASt.next_new, Nat.zero_add, Nat.add_zero, eq_self, ctor_self, ti63, t63_desc, t63_size, ti25, t25_desc, ti22, t22_desc, t22_size, ti59, t59_desc, t59_size, ti60, t60_desc, t60_size, ti61, t61_desc, t61_size, ti3, t3_desc, t3_size, ti40, t40_desc, t40_size, ti33, t33_desc, t33_size, ti9, t9_desc, t9_size, wrow_now, wrow_all, eqnil25, fn17, fn26, fn27, fn28, fn29, fn38, fn39, fn12, fn14, fn15, u9, t0, t8, uW, ei1, ei2, hsl, aInvoke_func]
                  refine CallT.mono (ua.step hm (by simp)) ?_
                  rintro _ A3 ua3
                  simp only [oneW_next, tg_eq, tgN_eq, brW_true, brW_false, c_skip, c_ret, c_exit, c_seq, c_cond, condW_b, c_block, c_scope, c_region, c_drawn, c_loop, onw_n, onw_r, onw_e, outb_e, outb_o, outb_n, outb_r, putW_some, putW_none, opsW_arr, opsW_nil, opsW_cons, wanted_none, wanted_some, guardB_some, oneW_next, oneW_move, oneW_assign, oneW_pick, oneW_build, oneW_load, oneW_store, oneW_nilCheck, oneW_binOp, oneW_unOp, oneW_makeFunc, oneW_slice, oneW_fieldAddr, oneW_field, oneW_indexAddr, oneW_index, oneW_lookup, oneW_mapUpdate, oneW_range, oneW_entry, oneW_extract, oneW_call, oneW_alloc, oneW_box, oneW_makeMap, oneW_buildSlice, oneW_convert, Hands, handsV, resultsV, oneOrTuple, argsT, arW_val, ofVal_some, plain_val, cond_true, cond_false,
    aOp_move, aOp_assign, aOp_pick, aOp_build, aOp_load, aOp_store, aOp_nilCheck, aOp_binOp, aOp_unOp, aOp_makeFunc, aOp_slice, aOp_fieldAddr, aOp_field, aOp_indexAddr, aOp_index, aOp_lookup, aOp_mapUpdate, aOp_range, aOp_entry, aOp_extract, aOp_call, aOp_alloc, aOp_box, aOp_makeMap, aOp_buildSlice, aInvoke_func,
    nbeq, nble, nblt, cond_dec, decide_true, decide_false, decide_eq_true_eq, Bool.false_eq_true, Bool.and_true, Bool.true_and, Bool.not_true, Bool.not_false, bq_t, bq_f, ev, evs, evPairs, evOpt, closed, flat, tget_put, Nat.reduceEqDiff, Nat.reduceAdd, Nat.reduceMul, Nat.reduceSub, Nat.reduceLT, Nat.reduceLeDiff, Nat.reduceBEq, reduceIte, if_true, if_false, reduceCtorEq, nth, aCall, aEnter, notYield, aNilCheck, aLoad, partV, isAggD, aFieldAddr, aField, aExtract, b_add, b_sub, b_mul, b_xor, b_eql, b_neq, b_lss, b_leq, b_gtr, b_geq, b_shr, Option.isNone, aBuiltin,
    List.length_cons, List.length_nil, true_implies, false_implies, and_true, true_and, implies_true, forall_const, List.append_nil, List.cons_append, List.nil_append, ASt.get_set, ASt.get_new, ASt.next_set, ASt.next_new, Nat.zero_add, Nat.add_zero, eq_self, ctor_self, ti63, t63_desc, t63_size, ti25, t25_desc, ti22, t22_desc, t22_size, ti59, t59_desc, t59_size, ti60, t60_desc, t60_size, ti61, t61_desc, t61_size, ti3, t3_desc, t3_size, ti40, t40_desc, t40_size, ti33, t33_desc, t33_size, ti9, t9_desc, t9_size, wrow_now, wrow_all, eqnil25, fn17, fn26, fn27, fn28, fn29, fn38, fn39, fn12, fn14, fn15, u40, wrap_succ (show j < 1000000 by omega)]
                  exact ⟨16 - (j + 1), by omega, j + 1, rfl, by omega, fun _ => hLp, rfl, u9, u37, (ut.congr (by intro t ht'; simp only [List.mem_cons, List.not_mem_nil, or_false] at ht'; rcases ht' with rfl | rfl | rfl | rfl | rfl | rfl <;> simp only [tget_put, Nat.reduceEqDiff, if_false, reduceIte])), ua3.congrD (fun i hi => by rw [Bool.eq_iff_iff]; simp only [Bool.or_eq_true, decide_eq_true_eq]; omega) h.len⟩
              · have e16 : j = 16 := by omega
                subst e16
                simp only [oneW_next, tg_eq, tgN_eq, brW_true, brW_false, c_skip, c_ret, c_exit, c_seq, c_cond, condW_b, c_block, c_scope, c_region, c_drawn, c_loop, onw_n, onw_r, onw_e, outb_e, outb_o, outb_n, outb_r, putW_some, putW_none, opsW_arr, opsW_nil, opsW_cons, wanted_none, wanted_some, guardB_some, oneW_next, oneW_move, oneW_assign, oneW_pick, oneW_build, oneW_load, oneW_store, oneW_nilCheck, oneW_binOp, oneW_unOp, oneW_makeFunc, oneW_slice, oneW_fieldAddr, oneW_field, oneW_indexAddr, oneW_index, oneW_lookup, oneW_mapUpdate, oneW_range, oneW_entry, oneW_extract, oneW_call, oneW_alloc, oneW_box, oneW_makeMap, oneW_buildSlice, oneW_convert, Hands, handsV, resultsV, oneOrTuple, argsT, arW_val, ofVal_some, plain_val, cond_true, cond_false,
    aOp_move, aOp_assign, aOp_pick, aOp_build, aOp_load, aOp_store, aOp_nilCheck, aOp_binOp, aOp_unOp, aOp_makeFunc, aOp_slice, aOp_fieldAddr, aOp_field, aOp_indexAddr, aOp_index, aOp_lookup, aOp_mapUpdate, aOp_range, aOp_entry, aOp_extract, aOp_call, aOp_alloc, aOp_box, aOp_makeMap, aOp_buildSlice, aInvoke_func,
    nbeq, nble, nblt, cond_dec, decide_true, decide_false, decide_eq_true_eq, Bool.false_eq_true, Bool.and_true, Bool.true_and, Bool.not_true, Bool.not_false, bq_t, bq_f, ev, evs, evPairs, evOpt, closed, flat, tget_put, Nat.reduceEqDiff, Nat.reduceAdd, Nat.reduceMul, Nat.reduceSub, Nat.reduceLT, Nat.reduceLeDiff, Nat.reduceBEq, reduceIte, if_true, if_false, reduceCtorEq, nth, aCall, aEnter, notYield, aNilCheck, aLoad, partV, isAggD, aFieldAddr, aField, aExtract, b_add, b_sub, b_mul, b_xor, b_eql, b_neq, b_lss, b_leq, b_gtr, b_geq, b_shr, Option.isNone, aBuiltin,
    List.length_cons, List.length_nil, true_implies, false_implies, and_true, true_and, implies_true, forall_const, List.append_nil, List.cons_append, List.nil_append, ASt.get_set, ASt.get_new, ASt.next_set, ASt.next_new, Nat.zero_add, Nat.add_zero, eq_self, ctor_self, ti63, t63_desc, t63_size, ti25, t25_desc, ti22, t22_desc, t22_size, ti59, t59_desc, t59_size, ti60, t60_desc, t60_size, ti61, t61_desc, t61_size, ti3, t3_desc, t3_size, ti40, t40_desc, t40_size, ti33, t33_desc, t33_size, ti9, t9_desc, t9_size, wrow_now, wrow_all, eqnil25, fn17, fn26, fn27, fn28, fn29, fn38, fn39, fn12, fn14, fn15]
                exact .inl ⟨_, _, rfl, hjl (by omega), by simp only [tget_put, Nat.reduceEqDiff, if_false, if_true, reduceIte]; exact u37, (ut.congr (by intro t ht'; simp only [List.mem_cons, List.not_mem_nil, or_false] at ht'; rcases ht' with rfl | rfl | rfl | rfl | rfl | rfl <;> simp only [tget_put, Nat.reduceEqDiff, if_false, reduceIte])), ua⟩
            · simp only [tget_put, Nat.reduceEqDiff, if_false, if_true, reduceIte]; rfl
            · simp only [tget_put, Nat.reduceEqDiff, if_false, if_true, reduceIte]
            · simp only [tget_put, Nat.reduceEqDiff, if_false, if_true, reduceIte]; exact t37
            · exact (ht.congr (by intro t ht'; simp only [List.mem_cons, List.not_mem_nil, or_false] at ht'; rcases ht' with rfl | rfl | rfl | rfl | rfl | rfl <;> simp only [tget_put, Nat.reduceEqDiff, if_false, reduceIte]))
            · exact ha
          · rintro o (⟨T', A', rfl, hlt, u37, ut, ua⟩ | ⟨T', A', rfl, hlt, ut, ua⟩)
            · simp only [oneW_next, tg_eq, tgN_eq, brW_true, brW_false, c_skip, c_ret, c_exit, c_seq, c_cond, condW_b, c_block, c_scope, c_region, c_drawn, c_loop, onw_n, onw_r, onw_e, outb_e, outb_o, outb_n, outb_r, putW_some, putW_none, opsW_arr, opsW_nil, opsW_cons, wanted_none, wanted_some, guardB_some, oneW_next, oneW_move, oneW_assign, oneW_pick, oneW_build, oneW_load, oneW_store, oneW_nilCheck, oneW_binOp, oneW_unOp, oneW_makeFunc, oneW_slice, oneW_fieldAddr, oneW_field, oneW_indexAddr, oneW_index, oneW_lookup, oneW_mapUpdate, oneW_range, oneW_entry, oneW_extract, oneW_call, oneW_alloc, oneW_box, oneW_makeMap, oneW_buildSlice, oneW_convert, Hands, handsV, resultsV, oneOrTuple, argsT, arW_val, ofVal_some, plain_val, cond_true, cond_false,
    aOp_move, aOp_assign, aOp_pick, aOp_build, aOp_load, aOp_store, aOp_nilCheck, aOp_binOp, aOp_unOp, aOp_makeFunc, aOp_slice, aOp_fieldAddr, aOp_field, aOp_indexAddr, aOp_index, aOp_lookup, aOp_mapUpdate, aOp_range, aOp_entry, aOp_extract, aOp_call, aOp_alloc, aOp_box, aOp_makeMap, aOp_buildSlice, aInvoke_func,
    nbeq, nble, nblt, cond_dec, decide_true, decide_false, decide_eq_true_eq, Bool.false_eq_true, Bool.and_true, Bool.true_and, Bool.not_true, Bool.not_false, bq_t, bq_f, ev, evs, evPairs, evOpt, closed, flat, tget_put, Nat.reduceEqDiff, Nat.reduceAdd, Nat.reduceMul, Nat.reduceSub, Nat.reduceLT, Nat.reduceLeDiff, Nat.reduceBEq, reduceIte, if_true, if_false, reduceCtorEq, nth, aCall, aEnter, notYield, aNilCheck, aLoad, partV, isAggD, aFieldAddr, aField, aExtract, b_add, b_sub, b_mul, b_xor, b_eql, b_neq, b_lss, b_leq, b_gtr, b_geq, b_shr, Option.isNone, aBuiltin,
    List.length_cons, List.length_nil, true_implies, false_implies, and_true, true_and, implies_true, forall_const, List.append_nil, List.cons_append, List.nil_append, ASt.get_set, ASt.get_new, ASt.next_set, ASt.next_new, Nat.zero_add, Nat.add_zero, eq_self, ctor_self, ti63, t63_desc, t63_size, ti25, t25_desc, ti22, t22_desc, t22_size, ti59, t59_desc, t59_size, ti60, t60_desc, t60_size, ti61, t61_desc, t61_size, ti3, t3_desc, t3_size, ti40, t40_desc, t40_size, ti33, t33_desc, t33_size, ti9, t9_desc, t9_size, wrow_now, wrow_all, eqnil25, fn17, fn26, fn27, fn28, fn29, fn38, fn39, fn12, fn14, fn15, u37, wrap_succ (show L < 1000000 by omega)]
              exact ⟨4 - (L + 1), by omega, L + 1, rfl, by omega, by omega, rfl, (ut.congr (by intro t ht'; simp only [List.mem_cons, List.not_mem_nil, or_false] at ht'; rcases ht' with rfl | rfl | rfl | rfl | rfl | rfl <;> simp only [tget_put, Nat.reduceEqDiff, if_false, reduceIte])), ua.congrD (fun i hi => by rw [Bool.eq_iff_iff]; simp only [decide_eq_true_eq]; omega) h.len⟩
            · simp only [oneW_next, tg_eq, tgN_eq, brW_true, brW_false, c_skip, c_ret, c_exit, c_seq, c_cond, condW_b, c_block, c_scope, c_region, c_drawn, c_loop, onw_n, onw_r, onw_e, outb_e, outb_o, outb_n, outb_r, putW_some, putW_none, opsW_arr, opsW_nil, opsW_cons, wanted_none, wanted_some, guardB_some, oneW_next, oneW_move, oneW_assign, oneW_pick, oneW_build, oneW_load, oneW_store, oneW_nilCheck, oneW_binOp, oneW_unOp, oneW_makeFunc, oneW_slice, oneW_fieldAddr, oneW_field, oneW_indexAddr, oneW_index, oneW_lookup, oneW_mapUpdate, oneW_range, oneW_entry, oneW_extract, oneW_call, oneW_alloc, oneW_box, oneW_makeMap, oneW_buildSlice, oneW_convert, Hands, handsV, resultsV, oneOrTuple, argsT, arW_val, ofVal_some, plain_val, cond_true, cond_false,
    aOp_move, aOp_assign, aOp_pick, aOp_build, aOp_load, aOp_store, aOp_nilCheck, aOp_binOp, aOp_unOp, aOp_makeFunc, aOp_slice, aOp_fieldAddr, aOp_field, aOp_indexAddr, aOp_index, aOp_lookup, aOp_mapUpdate, aOp_range, aOp_entry, aOp_extract, aOp_call, aOp_alloc, aOp_box, aOp_makeMap, aOp_buildSlice, aInvoke_func,
    nbeq, nble, nblt, cond_dec, decide_true, decide_false, decide_eq_true_eq, Bool.false_eq_true, Bool.and_true, Bool.true_and, Bool.not_true, Bool.not_false, bq_t, bq_f, ev, evs, evPairs, evOpt, closed, flat, tget_put, Nat.reduceEqDiff, Nat.reduceAdd, Nat.reduceMul, Nat.reduceSub, Nat.reduceLT, Nat.reduceLeDiff, Nat.reduceBEq, reduceIte, if_true, if_false, reduceCtorEq, nth, aCall, aEnter, notYield, aNilCheck, aLoad, partV, isAggD, aFieldAddr, aField, aExtract, b_add, b_sub, b_mul, b_xor, b_eql, b_neq, b_lss, b_leq, b_gtr, b_geq, b_shr, Option.isNone, aBuiltin,
    List.length_cons, List.length_nil, true_implies, false_implies, and_true, true_and, implies_true, forall_const, List.append_nil, List.cons_append, List.nil_append, ASt.get_set, ASt.get_new, ASt.next_set, ASt.next_new, Nat.zero_add, Nat.add_zero, eq_self, ctor_self, ti63, t63_desc, t63_size, ti25, t25_desc, ti22, t22_desc, t22_size, ti59, t59_desc, t59_size, ti60, t60_desc, t60_size, ti61, t61_desc, t61_size, ti3, t3_desc, t3_size, ti40, t40_desc, t40_size, ti33, t33_desc, t33_size, ti9, t9_desc, t9_size, wrow_now, wrow_all, eqnil25, fn17, fn26, fn27, fn28, fn29, fn38, fn39, fn12, fn14, fn15]
              exact ⟨_, _, rfl, ut, ua.congrD (fun i hi => by rw [Bool.eq_iff_iff]; simp only [decide_eq_true_eq]; omega) h.len⟩
        · have e4 : L = 4 := by omega
          subst e4
          simp only [oneW_next, tg_eq, tgN_eq, brW_true, brW_false, c_skip, c_ret, c_exit, c_seq, c_cond, condW_b, c_block, c_scope, c_region, c_drawn, c_loop, onw_n, onw_r, onw_e, outb_e, outb_o, outb_n, outb_r, putW_some, putW_none, opsW_arr, opsW_nil, opsW_cons, wanted_none, wanted_some, guardB_some, oneW_next, oneW_move, oneW_assign, oneW_pick, oneW_build, oneW_load, oneW_store, oneW_nilCheck, oneW_binOp, oneW_unOp, oneW_makeFunc, oneW_slice, oneW_fieldAddr, oneW_field, oneW_indexAddr, oneW_index, oneW_lookup, oneW_mapUpdate, oneW_range, oneW_entry, oneW_extract, oneW_call, oneW_alloc, oneW_box, oneW_makeMap, oneW_buildSlice, oneW_convert, Hands, handsV, resultsV, oneOrTuple, argsT, arW_val, ofVal_some, plain_val, cond_true, cond_false,
    aOp_move, aOp_assign, aOp_pick, aOp_build, aOp_load, aOp_store, aOp_nilCheck, aOp_binOp, aOp_unOp, aOp_makeFunc, aOp_slice, aOp_fieldAddr, aOp_field, aOp_indexAddr, aOp_index, aOp_lookup, aOp_mapUpdate, aOp_range, aOp_entry, aOp_extract, aOp_call, aOp_alloc, aOp_box, aOp_makeMap, aOp_buildSlice, aInvoke_func,
    nbeq, nble, nblt, cond_dec, decide_true, decide_false, decide_eq_true_eq, Bool.false_eq_true, Bool.and_true, Bool.true_and, Bool.not_true, Bool.not_false, bq_t, bq_f, ev, evs, evPairs, evOpt, closed, flat, tget_put, Nat.reduceEqDiff, Nat.reduceAdd, Nat.reduceMul, Nat.reduceSub, Nat.reduceLT, Nat.reduceLeDiff, Nat.reduceBEq, reduceIte, if_true, if_false, reduceCtorEq, nth, aCall, aEnter, notYield, aNilCheck, aLoad, partV, isAggD, aFieldAddr, aField, aExtract, b_add, b_sub, b_mul, b_xor, b_eql, b_neq, b_lss, b_leq, b_gtr, b_geq, b_shr, Option.isNone, aBuiltin,
    List.length_cons, List.length_nil, true_implies, false_implies, and_true, true_and, implies_true, forall_const, List.append_nil, List.cons_append, List.nil_append, ASt.get_set, ASt.get_new, ASt.next_set, ASt.next_new, Nat.zero_add, Nat.add_zero, eq_self, ctor_self, ti63, t63_desc, t63_size, ti25, t25_desc, ti22, t22_desc, t22_size, ti59, t59_desc, t59_size, ti60, t60_desc, t60_size, ti61, t61_desc, t61_size, ti3, t3_desc, t3_size, ti40, t40_desc, t40_size, ti33, t33_desc, t33_size, ti9, t9_desc, t9_size, wrow_now, wrow_all, eqnil25, fn17, fn26, fn27, fn28, fn29, fn38, fn39, fn12, fn14, fn15]
          exact ⟨_, _, rfl, (ht.congr (by intro t ht'; simp only [List.mem_cons, List.not_mem_nil, or_false] at ht'; rcases ht' with rfl | rfl | rfl | rfl | rfl | rfl <;> simp only [tget_put, Nat.reduceEqDiff, if_false, reduceIte])), ha.congrD (fun i hi => by rw [Bool.eq_iff_iff]; simp only [decide_eq_true_eq]; omega) h.len⟩
      · simp only [tget_put, Nat.reduceEqDiff, if_false, if_true, reduceIte]; rfl
      · constructor <;> simp only [tget_put, Nat.reduceEqDiff, if_false, if_true, reduceIte] <;> rfl
      · exact hadv0.congrA (fun b => rfl) (Nat.le_add_right _ _)
    · rintro o ⟨T', A1, rfl, ht, ha⟩
      have t0 := ht.t0
      have t7 := ht.t7
      have t8 := ht.t8
      simp only [oneW_next, tg_eq, tgN_eq, brW_true, brW_false, c_skip, c_ret, c_exit, c_seq, c_cond, condW_b, c_block, c_scope, c_region, c_drawn, c_loop, onw_n, onw_r, onw_e, outb_e, outb_o, outb_n, outb_r, putW_some, putW_none, opsW_arr, opsW_nil, opsW_cons, wanted_none, wanted_some, guardB_some, oneW_next, oneW_move, oneW_assign, oneW_pick, oneW_build, oneW_load, oneW_store, oneW_nilCheck, oneW_binOp, oneW_unOp, oneW_makeFunc, oneW_slice, oneW_fieldAddr, oneW_field, oneW_indexAddr, oneW_index, oneW_lookup, oneW_mapUpdate, oneW_range, oneW_entry, oneW_extract, oneW_call, oneW_alloc, oneW_box, oneW_makeMap, oneW_buildSlice, oneW_convert, Hands, handsV, resultsV, oneOrTuple, argsT, arW_val, ofVal_some, plain_val, cond_true, cond_false,
    aOp_move, aOp_assign, aOp_pick, aOp_build, aOp_load, aOp_store, aOp_nilCheck, aOp_binOp, aOp_unOp, aOp_makeFunc, aOp_slice, aOp_fieldAddr, aOp_field, aOp_indexAddr, aOp_index, aOp_lookup, aOp_mapUpdate, aOp_range, aOp_entry, aOp_extract, aOp_call, aOp_alloc, aOp_box, aOp_makeMap, aOp_buildSlice, aInvoke_func,
    nbeq, nble, nblt, cond_dec, decide_true, decide_false, decide_eq_true_eq, Bool.false_eq_true, Bool.and_true, Bool.true_and, Bool.not_true, Bool.not_false, bq_t, bq_f, ev, evs, evPairs, evOpt, closed, flat, tget_put, Nat.reduceEqDiff, Nat.reduceAdd, Nat.reduceMul, Nat.reduceSub, Nat.reduceLT, Nat.reduceLeDiff, Nat.reduceBEq, reduceIte, if_true, if_false, reduceCtorEq, nth, aCall, aEnter, notYield, aNilCheck, aLoad, partV, isAggD, aFieldAddr, aField, aExtract, b_add, b_sub, b_mul, b_xor, b_eql, b_neq, b_lss, b_leq, b_gtr, b_geq, b_shr, Option.isNone, aBuiltin,
    List.length_cons, List.length_nil, true_implies, false_implies, and_true, true_and, implies_true, forall_const, List.append_nil, List.cons_append, List.nil_append, ASt.get_set, ASt.get_new, ASt.next_set, ASt.next_new, Nat.zero_add, Nat.add_zero, eq_self, ctor_self, ti63, t63_desc, t63_size, ti25, t25_desc, ti22, t22_desc, t22_size, ti59, t59_desc, t59_size, ti60, t60_desc, t60_size, ti61, t61_desc, t61_size, ti3, t3_desc, t3_size, ti40, t40_desc, t40_size, ti33, t33_desc, t33_size, ti9, t9_desc, t9_size, wrow_now, wrow_all, eqnil25, fn17, fn26, fn27, fn28, fn29, fn38, fn39, fn12, fn14, fn15, t7]
      refine brW_join (fun T' A' => AdvT T' W p3 p5 p6 ps ∧ Adv A A' W all now ms M nw p3 p5 p6 d lf (fun i => decide (i < 16 * ps))) (fun h5 => ?_) (fun h5 => ?_) ?_
      · have h5' : 4 < ps := by have := of_decide_eq_true h5; omega
        have e4 : min 4 ps = 4 := by omega
        rw [e4] at ha
        have aW := ha.row
        have hix : 64 < ms.length := by rw [h.len]; omega
        have hm : ms[64]? = some ms[64] := List.getElem?_eq_getElem _
        have hsl : nth (wrow now all ms) 66 = some (.map (some ms[64])) := wrow_slot hix
        simp only [oneW_next, tg_eq, tgN_eq, brW_true, brW_false, c_skip, c_ret, c_exit, c_seq, c_cond, condW_b, c_block, c_scope, c_region, c_drawn, c_loop, onw_n, onw_r, onw_e, outb_e, outb_o, outb_n, outb_r, putW_some, putW_none, opsW_arr, opsW_nil, opsW_cons, wanted_none, wanted_some, guardB_some, oneW_next, oneW_move, oneW_assign, oneW_pick, oneW_build, oneW_load, oneW_store, oneW_nilCheck, oneW_binOp, oneW_unOp, oneW_makeFunc, oneW_slice, oneW_fieldAddr, oneW_field, oneW_indexAddr, oneW_index, oneW_lookup, oneW_mapUpdate, oneW_range, oneW_entry, oneW_extract, oneW_call, oneW_alloc, oneW_box, oneW_makeMap, oneW_buildSlice, oneW_convert, Hands, handsV, resultsV, oneOrTuple, argsT, arW_val, ofVal_some, plain_val, cond_true, cond_false,
    aOp_move, aOp_assign, aOp_pick, aOp_build, aOp_load, aOp_store, aOp_nilCheck, aOp_binOp, aOp_unOp, aOp_makeFunc, aOp_slice, aOp_fieldAddr, aOp_field, aOp_indexAddr, aOp_index, aOp_lookup, aOp_mapUpdate, aOp_range, aOp_entry, aOp_extract, aOp_call, aOp_alloc, aOp_box, aOp_makeMap, aOp_buildSlice, aInvoke_func,
    nbeq, nble, nblt, cond_dec, decide_true, decide_false, decide_eq_true_eq, Bool.false_eq_true, Bool.and_true, Bool.true_and, Bool.not_true, Bool.not_false, bq_t, bq_f, ev, evs, evPairs, evOpt, closed, flat, tget_put, Nat.reduceEqDiff, Nat.reduceAdd, Nat.reduceMul, Nat.reduceSub, Nat.reduceLT, Nat.reduceLeDiff, Nat.reduceBEq, reduceIte, if_true, if_false, reduceCtorEq, nth, aCall, aEnter, notYield, aNilCheck, aLoad, partV, isAggD, aFieldAddr, aField, aExtract, b_add, b_sub, b_mul, b_xor, b_eql, b_neq, b_lss, b_leq, b_gtr, b_geq, b_shr, Option.isNone, aBuiltin,
    List.length_cons, List.length_nil, true_implies, false_implies, and_true, true_and, implies_true, forall_const, List.append_nil, List.cons_append, List.nil_append, ASt.get_set, ASt.get_new, ASt.next_set, ASt.next_new, Nat.zero_add, Nat.add_zero, eq_self, ctor_self, ti63, t63_desc, t63_size, ti25, t25_desc, ti22, t22_desc, t22_size, ti59, t59_desc, t59_size, ti60, t60_desc, t60_size, ti61, t61_desc, t61_size, ti3, t3_desc, t3_size, ti40, t40_desc, t40_size, ti33, t33_desc, t33_size, ti9, t9_desc, t9_size, wrow_now, wrow_all, eqnil25, fn17, fn26, fn27, fn28, fn29, fn38, fn39, fn12, fn14, fn15, t0, t8, aW, hsl, aInvoke_func]
        refine CallT.mono (ha.step hm (by simp)) ?_
        rintro _ A3 ha3
        simp only [oneW_next, tg_eq, tgN_eq, brW_true, brW_false, c_skip, c_ret, c_exit, c_seq, c_cond, condW_b, c_block, c_scope, c_region, c_drawn, c_loop, onw_n, onw_r, onw_e, outb_e, outb_o, outb_n, outb_r, putW_some, putW_none, opsW_arr, opsW_nil, opsW_cons, wanted_none, wanted_some, guardB_some, oneW_next, oneW_move, oneW_assign, oneW_pick, oneW_build, oneW_load, oneW_store, oneW_nilCheck, oneW_binOp, oneW_unOp, oneW_makeFunc, oneW_slice, oneW_fieldAddr, oneW_field, oneW_indexAddr, oneW_index, oneW_lookup, oneW_mapUpdate, oneW_range, oneW_entry, oneW_extract, oneW_call, oneW_alloc, oneW_box, oneW_makeMap, oneW_buildSlice, oneW_convert, Hands, handsV, resultsV, oneOrTuple, argsT, arW_val, ofVal_some, plain_val, cond_true, cond_false,
    aOp_move, aOp_assign, aOp_pick, aOp_build, aOp_load, aOp_store, aOp_nilCheck, aOp_binOp, aOp_unOp, aOp_makeFunc, aOp_slice, aOp_fieldAddr, aOp_field, aOp_indexAddr, aOp_index, aOp_lookup, aOp_mapUpdate, aOp_range, aOp_entry, aOp_extract, aOp_call, aOp_alloc, aOp_box, aOp_makeMap, aOp_buildSlice, aInvoke_func,
    nbeq, nble, nblt, cond_dec, decide_true, decide_false, decide_eq_true_eq, Bool.false_eq_true, Bool.and_true, Bool.true_and, Bool.not_true, Bool.not_false, bq_t, bq_f, ev, evs, evPairs, evOpt, closed, flat, tget_put, Nat.reduceEqDiff, Nat.reduceAdd, Nat.reduceMul, Nat.reduceSub, Nat.reduceLT, Nat.reduceLeDiff, Nat.reduceBEq, reduceIte, if_true, if_false, reduceCtorEq, nth, aCall, aEnter, notYield, aNilCheck, aLoad, partV, isAggD, aFieldAddr, aField, aExtract, b_add, b_sub, b_mul, b_xor, b_eql, b_neq, b_lss, b_leq, b_gtr, b_geq, b_shr, Option.isNone, aBuiltin,
    List.length_cons, List.length_nil, true_implies, false_implies, and_true, true_and, implies_true, forall_const, List.append_nil, List.cons_append, List.nil_append, ASt.get_set, ASt.get_new, ASt.next_set, ASt.next_new, Nat.zero_add, Nat.add_zero, eq_self, ctor_self, ti63, t63_desc, t63_size, ti25, t25_desc, ti22, t22_desc, t22_size, ti59, t59_desc, t59_size, ti60, t60_desc, t60_size, ti61, t61_desc, t61_size, ti3, t3_desc, t3_size, ti40, t40_desc, t40_size, ti33, t33_desc, t33_size, ti9, t9_desc, t9_size, wrow_now, wrow_all, eqnil25, fn17, fn26, fn27, fn28, fn29, fn38, fn39, fn12, fn14, fn15]
        exact ⟨_, _, rfl, (ht.congr (by intro t ht'; simp only [List.mem_cons, List.not_mem_nil, or_false] at ht'; rcases ht' with rfl | rfl | rfl | rfl | rfl | rfl <;> simp only [tget_put, Nat.reduceEqDiff, if_false, reduceIte])), ha3.congrD (fun i hi => by rw [Bool.eq_iff_iff]; simp only [Bool.or_eq_true, decide_eq_true_eq]; omega) h.len⟩
      · have h5' : ps ≤ 4 := by have := of_decide_eq_false h5; omega
        exact codeW_skip ⟨_, _, rfl, (ht.congr (by intro t ht'; simp only [List.mem_cons, List.not_mem_nil, or_false] at ht'; rcases ht' with rfl | rfl | rfl | rfl | rfl | rfl <;> simp only [tget_put, Nat.reduceEqDiff, if_false, reduceIte])), ha.congrD (fun i hi => by rw [Bool.eq_iff_iff]; simp only [decide_eq_true_eq]; omega) h.len⟩
      · clear ha ht t0 t7 t8
        rintro T2 A2 ⟨ht, ha⟩
        have t0 := ht.t0
        have t3 := ht.t3
        have t5 := ht.t5
        have t6 := ht.t6
        have aW := ha.row
        have a3 := ha.h3
        have a5 := ha.h5
        have hst := storeNow (nw := nw) aW
        have hn5 := ha.new p5 (by simp)
        have hnd := ha.new d (by simp)
        have hnl := ha.new lf (by simp)
        have hbW : W < A.next := h.below W (by simp)
        obtain ⟨ed, ckd, hed, hokd, hgd⟩ := ha.due
        have hed' : (A2.set W (.row (wrow nw all ms) 67 false)).get d = some (.map (uEnts ed) ckd) := by rw [ASt.get_set, if_neg (by omega)]; exact hed
        have a5' : (A2.set W (.row (wrow nw all ms) 67 false)).get p5 = some (.row [.map (some d)] 1 false) := by rw [ASt.get_set, if_neg (by omega)]; exact a5
        simp only [oneW_next, tg_eq, tgN_eq, brW_true, brW_false, c_skip, c_ret, c_exit, c_seq, c_cond, condW_b, c_block, c_scope, c_region, c_drawn, c_loop, onw_n, onw_r, onw_e, outb_e, outb_o, outb_n, outb_r, putW_some, putW_none, opsW_arr, opsW_nil, opsW_cons, wanted_none, wanted_some, guardB_some, oneW_next, oneW_move, oneW_assign, oneW_pick, oneW_build, oneW_load, oneW_store, oneW_nilCheck, oneW_binOp, oneW_unOp, oneW_makeFunc, oneW_slice, oneW_fieldAddr, oneW_field, oneW_indexAddr, oneW_index, oneW_lookup, oneW_mapUpdate, oneW_range, oneW_entry, oneW_extract, oneW_call, oneW_alloc, oneW_box, oneW_makeMap, oneW_buildSlice, oneW_convert, Hands, handsV, resultsV, oneOrTuple, argsT, arW_val, ofVal_some, plain_val, cond_true, cond_false,
    aOp_move, aOp_assign, aOp_pick, aOp_build, aOp_load, aOp_store, aOp_nilCheck, aOp_binOp, aOp_unOp, aOp_makeFunc, aOp_slice, aOp_fieldAddr, aOp_field, aOp_indexAddr, aOp_index, aOp_lookup, aOp_mapUpdate, aOp_range, aOp_entry, aOp_extract, aOp_call, aOp_alloc, aOp_box, aOp_makeMap, aOp_buildSlice, aInvoke_func,
    nbeq, nble, nblt, cond_dec, decide_true, decide_false, decide_eq_true_eq, Bool.false_eq_true, Bool.and_true, Bool.true_and, Bool.not_true, Bool.not_false, bq_t, bq_f, ev, evs, evPairs, evOpt, closed, flat, tget_put, Nat.reduceEqDiff, Nat.reduceAdd, Nat.reduceMul, Nat.reduceSub, Nat.reduceLT, Nat.reduceLeDiff, Nat.reduceBEq, reduceIte, if_true, if_false, reduceCtorEq, nth, aCall, aEnter, notYield, aNilCheck, aLoad, partV, isAggD, aFieldAddr, aField, aExtract, b_add, b_sub, b_mul, b_xor, b_eql, b_neq, b_lss, b_leq, b_gtr, b_geq, b_shr, Option.isNone, aBuiltin,
    List.length_cons, List.length_nil, true_implies, false_implies, and_true, true_and, implies_true, forall_const, List.append_nil, List.cons_append, List.nil_append, ASt.get_set, ASt.get_new, ASt.next_set, ASt.next_new, Nat.zero_add, Nat.add_zero, eq_self, ctor_self, ti63, t63_desc, t63_size, ti25, t25_desc, ti22, t22_desc, t22_size, ti59, t59_desc, t59_size, ti60, t60_desc, t60_size, ti61, t61_desc, t61_size, ti3, t3_desc, t3_size, ti40, t40_desc, t40_size, ti33, t33_desc, t33_size, ti9, t9_desc, t9_size, wrow_now, wrow_all, eqnil25, fn17, fn26, fn27, fn28, fn29, fn38, fn39, fn12, fn14, fn15, t0, t3, t5, t6, a3, a5', hst, rangeT hed']
        have hXg : ∀ b, (A2.set W (.row (wrow nw all ms) 67 false)).get b = if b = W then some (.row (wrow nw all ms) 67 false) else A2.get b := fun b => by rw [ASt.get_set]
        have hXn : (A2.set W (.row (wrow nw all ms) 67 false)).next = A2.next := rfl
        generalize A2.set W (.row (wrow nw all ms) 67 false) = X at hXg hXn hed' a5' ⊢
        have hall := ha.allm
        have hbX : ∀ b ∈ W :: all :: d :: lf :: p3 :: p5 :: p6 :: ms, b < X.next := fun b hb => by rw [hXn]; exact ha.below b hb
        have hnod := ha.nodup
        simp only [List.nodup_cons, List.mem_cons, not_or] at hnod
        obtain ⟨⟨w1, w2, w3, w4⟩, ⟨al1, al2, al3⟩, ⟨d1, d2⟩, l1, hms⟩ := hnod
        have hXall : Holds X all M := hall.congr (by rw [hXg, if_neg (Ne.symm w1)])
        have XW : X.get W = some (.row (wrow nw all ms) 67 false) := by rw [hXg, if_pos rfl]
        have Xb : ∀ b ∈ W :: all :: d :: lf :: p3 :: p5 :: p6 :: ms, b ≠ X.next := fun b hb => by have := hbX b hb; omega
        refine CodeW.mono (Q := fun o => ∃ T' A' done, o = .fr ⟨.exit 4, T', A'⟩ ∧ InMap 71 X.next d ckd ed done T' A' ∧ (∀ x ∈ ed, x ∈ done) ∧ tget T' 0 = .pointer (some ⟨W, 0, none⟩) ∧ tget T' 5 = .pointer (some ⟨p5, 0, none⟩) ∧ tget T' 6 = .pointer (some ⟨p6, 0, none⟩) ∧ Holds A' all (dels M done) ∧ Fr [all] X A' ∧ X.next < A'.next) ?_ ?_
        · refine CodeW.mapLoop (it := 71) (r := X.next) (m := d) (ck := ckd) (l := ed) (J := fun done T A' => tget T 0 = .pointer (some ⟨W, 0, none⟩) ∧ tget T 5 = .pointer (some ⟨p5, 0, none⟩) ∧ tget T 6 = .pointer (some ⟨p6, 0, none⟩) ∧ Holds A' all (dels M done) ∧ Fr [all] X A' ∧ X.next < A'.next) ?_ ?_ ?_
          · rintro done T3 A3 hi ⟨u0, u5, u6, hd3, f3, nx3⟩
            refine codeW_ok E0_ok E0_ro ?_
            have hit := hi.it
            simp only [oneW_next, tg_eq, tgN_eq, brW_true, brW_false, c_skip, c_ret, c_exit, c_seq, c_cond, condW_b, c_block, c_scope, c_region, c_drawn, c_loop, onw_n, onw_r, onw_e, outb_e, outb_o, outb_n, outb_r, putW_some, putW_none, opsW_arr, opsW_nil, opsW_cons, wanted_none, wanted_some, guardB_some, oneW_next, oneW_move, oneW_assign, oneW_pick, oneW_build, oneW_load, oneW_store, oneW_nilCheck, oneW_binOp, oneW_unOp, oneW_makeFunc, oneW_slice, oneW_fieldAddr, oneW_field, oneW_indexAddr, oneW_index, oneW_lookup, oneW_mapUpdate, oneW_range, oneW_entry, oneW_extract, oneW_call, oneW_alloc, oneW_box, oneW_makeMap, oneW_buildSlice, oneW_convert, Hands, handsV, resultsV, oneOrTuple, argsT, arW_val, ofVal_some, plain_val, cond_true, cond_false,
    aOp_move, aOp_assign, aOp_pick, aOp_build, aOp_load, aOp_store, aOp_nilCheck, aOp_binOp, aOp_unOp, aOp_makeFunc, aOp_slice, aOp_fieldAddr, aOp_field, aOp_indexAddr, aOp_index, aOp_lookup, aOp_mapUpdate, aOp_range, aOp_entry, aOp_extract, aOp_call, aOp_alloc, aOp_box, aOp_makeMap, aOp_buildSlice, aInvoke_func,
    nbeq, nble, nblt, cond_dec, decide_true, decide_false, decide_eq_true_eq, Bool.false_eq_true, Bool.and_true, Bool.true_and, Bool.not_true, Bool.not_false, bq_t, bq_f, ev, evs, evPairs, evOpt, closed, flat, tget_put, Nat.reduceEqDiff, Nat.reduceAdd, Nat.reduceMul, Nat.reduceSub, Nat.reduceLT, Nat.reduceLeDiff, Nat.reduceBEq, reduceIte, if_true, if_false, reduceCtorEq, nth, aCall, aEnter, notYield, aNilCheck, aLoad, partV, isAggD, aFieldAddr, aField, aExtract, b_add, b_sub, b_mul, b_xor, b_eql, b_neq, b_lss, b_leq, b_gtr, b_geq, b_shr, Option.isNone, aBuiltin,
    List.length_cons, List.length_nil, true_implies, false_implies, and_true, true_and, implies_true, forall_const, List.append_nil, List.cons_append, List.nil_append, ASt.get_set, ASt.get_new, ASt.next_set, ASt.next_new, Nat.zero_add, Nat.add_zero, eq_self, ctor_self, ti63, t63_desc, t63_size, ti25, t25_desc, ti22, t22_desc, t22_size, ti59, t59_desc, t59_size, ti60, t60_desc, t60_size, ti61, t61_desc, t61_size, ti3, t3_desc, t3_size, ti40, t40_desc, t40_size, ti33, t33_desc, t33_size, ti9, t9_desc, t9_size, wrow_now, wrow_all, eqnil25, fn17, fn26, fn27, fn28, fn29, fn38, fn39, fn12, fn14, fn15, hit]
            refine nextV_u hokd hi.sub hi.iter hi.map (fun x hx hn => ?_) (fun hfin => ?_)
            · have hent := entry_u (A := A3.set X.next (.miter (some d) ckd ((done ++ [x]).map (·.2.2)) ckd)) (r := X.next) (m := d) hokd hx (by rw [ASt.get_set, if_pos rfl]) (by rw [ASt.get_set, if_neg (Xb d (by simp))]; exact hi.map)
              have hB : ∀ b, (A3.set X.next (.miter (some d) ckd ((done ++ [x]).map (·.2.2)) ckd)).get b = if b = X.next then some (.miter (some d) ckd ((done ++ [x]).map (·.2.2)) ckd) else A3.get b := fun b => by rw [ASt.get_set]
              have hBn : (A3.set X.next (.miter (some d) ckd ((done ++ [x]).map (·.2.2)) ckd)).next = A3.next := rfl
              generalize A3.set X.next (.miter (some d) ckd ((done ++ [x]).map (·.2.2)) ckd) = B3 at hent hB hBn ⊢
              have BW : B3.get W = some (.row (wrow nw all ms) 67 false) := by
                rw [hB, if_neg (Xb W (by simp)), f3.get W (hbX W (by simp)) (by simpa using w1)]; exact XW
              obtain ⟨B4, hdel, h4, f4⟩ := (hd3.congr (show B3.get all = A3.get all by rw [hB, if_neg (Xb all (by simp))])).delete x.1
              have b3X : X.next < B3.next := by
                rw [hBn]; exact nx3
              simp only [oneW_next, tg_eq, tgN_eq, brW_true, brW_false, c_skip, c_ret, c_exit, c_seq, c_cond, condW_b, c_block, c_scope, c_region, c_drawn, c_loop, onw_n, onw_r, onw_e, outb_e, outb_o, outb_n, outb_r, putW_some, putW_none, opsW_arr, opsW_nil, opsW_cons, wanted_none, wanted_some, guardB_some, oneW_next, oneW_move, oneW_assign, oneW_pick, oneW_build, oneW_load, oneW_store, oneW_nilCheck, oneW_binOp, oneW_unOp, oneW_makeFunc, oneW_slice, oneW_fieldAddr, oneW_field, oneW_indexAddr, oneW_index, oneW_lookup, oneW_mapUpdate, oneW_range, oneW_entry, oneW_extract, oneW_call, oneW_alloc, oneW_box, oneW_makeMap, oneW_buildSlice, oneW_convert, Hands, handsV, resultsV, oneOrTuple, argsT, arW_val, ofVal_some, plain_val, cond_true, cond_false,
    aOp_move, aOp_assign, aOp_pick, aOp_build, aOp_load, aOp_store, aOp_nilCheck, aOp_binOp, aOp_unOp, aOp_makeFunc, aOp_slice, aOp_fieldAddr, aOp_field, aOp_indexAddr, aOp_index, aOp_lookup, aOp_mapUpdate, aOp_range, aOp_entry, aOp_extract, aOp_call, aOp_alloc, aOp_box, aOp_makeMap, aOp_buildSlice, aInvoke_func,
    nbeq, nble, nblt, cond_dec, decide_true, decide_false, decide_eq_true_eq, Bool.false_eq_true, Bool.and_true, Bool.true_and, Bool.not_true, Bool.not_false, bq_t, bq_f, ev, evs, evPairs, evOpt, closed, flat, tget_put, Nat.reduceEqDiff, Nat.reduceAdd, Nat.reduceMul, Nat.reduceSub, Nat.reduceLT, Nat.reduceLeDiff, Nat.reduceBEq, reduceIte, if_true, if_false, reduceCtorEq, nth, aCall, aEnter, notYield, aNilCheck, aLoad, partV, isAggD, aFieldAddr, aField, aExtract, b_add, b_sub, b_mul, b_xor, b_eql, b_neq, b_lss, b_leq, b_gtr, b_geq, b_shr, Option.isNone, aBuiltin,
    List.length_cons, List.length_nil, true_implies, false_implies, and_true, true_and, implies_true, forall_const, List.append_nil, List.cons_append, List.nil_append, ASt.get_set, ASt.get_new, ASt.next_set, ASt.next_new, Nat.zero_add, Nat.add_zero, eq_self, ctor_self, ti63, t63_desc, t63_size, ti25, t25_desc, ti22, t22_desc, t22_size, ti59, t59_desc, t59_size, ti60, t60_desc, t60_size, ti61, t61_desc, t61_size, ti3, t3_desc, t3_size, ti40, t40_desc, t40_size, ti33, t33_desc, t33_size, ti9, t9_desc, t9_size, wrow_now, wrow_all, eqnil25, fn17, fn26, fn27, fn28, fn29, fn38, fn39, fn12, fn14, fn15, hit, hent, u0, BW, hdel]
              refine ⟨x, hx, hn, hi.step hx hn (by simp only [tget_put, Nat.reduceEqDiff, if_false, reduceIte]) ?_ ?_, u5, u6, ?_, ⟨?_, ?_⟩, ?_⟩
              · rw [f4.get _ b3X (by simpa using Ne.symm (Xb all (by simp))), hB, if_pos rfl]
              · rw [f4.get d (by have := hbX d (by simp); omega) (by simpa using Ne.symm al1), hB, if_neg (Xb d (by simp))]
              · rw [dels_snoc]; exact h4
              · have := f3.next; have := f4.next; omega
              · intro b hb hn
                rw [f4.get b (by omega) hn, hB, if_neg (by omega)]; exact f3.get b hb hn
              · have := f4.next; omega
            · simp only [oneW_next, tg_eq, tgN_eq, brW_true, brW_false, c_skip, c_ret, c_exit, c_seq, c_cond, condW_b, c_block, c_scope, c_region, c_drawn, c_loop, onw_n, onw_r, onw_e, outb_e, outb_o, outb_n, outb_r, putW_some, putW_none, opsW_arr, opsW_nil, opsW_cons, wanted_none, wanted_some, guardB_some, oneW_next, oneW_move, oneW_assign, oneW_pick, oneW_build, oneW_load, oneW_store, oneW_nilCheck, oneW_binOp, oneW_unOp, oneW_makeFunc, oneW_slice, oneW_fieldAddr, oneW_field, oneW_indexAddr, oneW_index, oneW_lookup, oneW_mapUpdate, oneW_range, oneW_entry, oneW_extract, oneW_call, oneW_alloc, oneW_box, oneW_makeMap, oneW_buildSlice, oneW_convert, Hands, handsV, resultsV, oneOrTuple, argsT, arW_val, ofVal_some, plain_val, cond_true, cond_false,
    aOp_move, aOp_assign, aOp_pick, aOp_build, aOp_load, aOp_store, aOp_nilCheck, aOp_binOp, aOp_unOp, aOp_makeFunc, aOp_slice, aOp_fieldAddr, aOp_field, aOp_indexAddr, aOp_index, aOp_lookup, aOp_mapUpdate, aOp_range, aOp_entry, aOp_extract, aOp_call, aOp_alloc, aOp_box, aOp_makeMap, aOp_buildSlice, aInvoke_func,
    nbeq, nble, nblt, cond_dec, decide_true, decide_false, decide_eq_true_eq, Bool.false_eq_true, Bool.and_true, Bool.true_and, Bool.not_true, Bool.not_false, bq_t, bq_f, ev, evs, evPairs, evOpt, closed, flat, tget_put, Nat.reduceEqDiff, Nat.reduceAdd, Nat.reduceMul, Nat.reduceSub, Nat.reduceLT, Nat.reduceLeDiff, Nat.reduceBEq, reduceIte, if_true, if_false, reduceCtorEq, nth, aCall, aEnter, notYield, aNilCheck, aLoad, partV, isAggD, aFieldAddr, aField, aExtract, b_add, b_sub, b_mul, b_xor, b_eql, b_neq, b_lss, b_leq, b_gtr, b_geq, b_shr, Option.isNone, aBuiltin,
    List.length_cons, List.length_nil, true_implies, false_implies, and_true, true_and, implies_true, forall_const, List.append_nil, List.cons_append, List.nil_append, ASt.get_set, ASt.get_new, ASt.next_set, ASt.next_new, Nat.zero_add, Nat.add_zero, eq_self, ctor_self, ti63, t63_desc, t63_size, ti25, t25_desc, ti22, t22_desc, t22_size, ti59, t59_desc, t59_size, ti60, t60_desc, t60_size, ti61, t61_desc, t61_size, ti3, t3_desc, t3_size, ti40, t40_desc, t40_size, ti33, t33_desc, t33_size, ti9, t9_desc, t9_size, wrow_now, wrow_all, eqnil25, fn17, fn26, fn27, fn28, fn29, fn38, fn39, fn12, fn14, fn15]
              refine ⟨_, _, done, rfl, ⟨?_, hi.iter, hi.map, hi.sub, hi.nodup⟩, hfin, ?_, ?_, ?_, hd3, f3, nx3⟩
              · simp only [tget_put, Nat.reduceEqDiff, if_false, reduceIte]; exact hit
              · simp only [tget_put, Nat.reduceEqDiff, if_false, reduceIte]; exact u0
              · simp only [tget_put, Nat.reduceEqDiff, if_false, reduceIte]; exact u5
              · simp only [tget_put, Nat.reduceEqDiff, if_false, reduceIte]; exact u6
          · refine ⟨by simp only [tget_put, Nat.reduceEqDiff, if_false, if_true, reduceIte]; rw [hXn], by rw [ASt.get_new, if_pos rfl]; rfl, by rw [ASt.get_new, if_neg (Xb d (by simp))]; exact hed', by simp, .nil⟩
          · refine ⟨?_, ?_, ?_, hXall.congr (by rw [ASt.get_new, if_neg (Xb all (by simp))]), ⟨Nat.le_succ _, fun b hb hn => by rw [ASt.get_new, if_neg (by omega)]⟩, Nat.lt_succ_self _⟩
            · simp only [tget_put, Nat.reduceEqDiff, if_false, reduceIte]; exact t0
            · simp only [tget_put, Nat.reduceEqDiff, if_false, reduceIte]; exact t5
            · simp only [tget_put, Nat.reduceEqDiff, if_false, reduceIte]; exact t6
        · rintro o ⟨T3, Y, done, rfl, hiD, hfin, u0, u5, u6, hYall, fY, nxY⟩
          obtain ⟨_, hug⟩ := uget_all hokd hiD.sub hfin hiD.nodup
          have keepY : ∀ b ∈ W :: all :: d :: lf :: p3 :: p5 :: p6 :: ms, b ≠ W → b ≠ all → Y.get b = A2.get b := fun b hb n1 n2 => by
            rw [fY.get b (hbX b hb) (by simpa using n2), hXg, if_neg n1]
          have YW : Y.get W = some (.row (wrow nw all ms) 67 false) := by rw [fY.get W (hbX W (by simp)) (by simpa using w1)]; exact XW
          have p5W : p5 ≠ W := by omega
          have p6W : p6 ≠ W := by have := ha.new p6 (by simp); omega
          have p5a : p5 ≠ all := hall.block a5
          have p6a : p6 ≠ all := hall.block ha.h6
          have Y5 : Y.get p5 = some (.row [.map (some d)] 1 false) := (keepY p5 (by simp) p5W p5a).trans a5
          have Y6 : Y.get p6 = some (.row [.map (some lf)] 1 false) := (keepY p6 (by simp) p6W p6a).trans ha.h6
          have hbY : ∀ b ∈ W :: all :: d :: lf :: p3 :: p5 :: p6 :: ms, b < Y.next := fun b hb => by have := hbX b hb; have := fY.next; omega
          have Yb : ∀ b ∈ W :: all :: d :: lf :: p3 :: p5 :: p6 :: ms, b ≠ Y.next := fun b hb => by have := hbY b hb; omega
          have hYl : Holds Y lf (fun k => (M k).filter fun a => decide (plc now a < 16 * ps) && !decide (a ≤ nw)) := ha.lft.congr (keepY lf (by simp) (Ne.symm w3) (Ne.symm al2))
          have hYd : Holds Y d (fun k => (M k).filter fun a => decide (plc now a < 16 * ps) && decide (a ≤ nw)) := ha.due.congr (keepY d (by simp) (Ne.symm w2) (Ne.symm al1))
          have hYs : ∀ i m, ms[i]? = some m → Holds Y m (if i < 16 * ps then (fun _ => none) else M.at_ now i) := fun i m hm => by
            have hmem := List.mem_of_getElem? hm
            have := ha.slot i m hm
            simp only [decide_eq_true_eq] at this
            exact this.congr (keepY m (by simp [hmem]) (fun e => w4 (e ▸ hmem)) (fun e => al3 (e ▸ hmem)))
          obtain ⟨el, ckl, hel, hokl, hgl⟩ := hYl
          simp only [oneW_next, tg_eq, tgN_eq, brW_true, brW_false, c_skip, c_ret, c_exit, c_seq, c_cond, condW_b, c_block, c_scope, c_region, c_drawn, c_loop, onw_n, onw_r, onw_e, outb_e, outb_o, outb_n, outb_r, putW_some, putW_none, opsW_arr, opsW_nil, opsW_cons, wanted_none, wanted_some, guardB_some, oneW_next, oneW_move, oneW_assign, oneW_pick, oneW_build, oneW_load, oneW_store, oneW_nilCheck, oneW_binOp, oneW_unOp, oneW_makeFunc, oneW_slice, oneW_fieldAddr, oneW_field, oneW_indexAddr, oneW_index, oneW_lookup, oneW_mapUpdate, oneW_range, oneW_entry, oneW_extract, oneW_call, oneW_alloc, oneW_box, oneW_makeMap, oneW_buildSlice, oneW_convert, Hands, handsV, resultsV, oneOrTuple, argsT, arW_val, ofVal_some, plain_val, cond_true, cond_false,
    aOp_move, aOp_assign, aOp_pick, aOp_build, aOp_load, aOp_store, aOp_nilCheck, aOp_binOp, aOp_unOp, aOp_makeFunc, aOp_slice, aOp_fieldAddr, aOp_field, aOp_indexAddr, aOp_index, aOp_lookup, aOp_mapUpdate, aOp_range, aOp_entry, aOp_extract, aOp_call, aOp_alloc, aOp_box, aOp_makeMap, aOp_buildSlice, aInvoke_func,
    nbeq, nble, nblt, cond_dec, decide_true, decide_false, decide_eq_true_eq, Bool.false_eq_true, Bool.and_true, Bool.true_and, Bool.not_true, Bool.not_false, bq_t, bq_f, ev, evs, evPairs, evOpt, closed, flat, tget_put, Nat.reduceEqDiff, Nat.reduceAdd, Nat.reduceMul, Nat.reduceSub, Nat.reduceLT, Nat.reduceLeDiff, Nat.reduceBEq, reduceIte, if_true, if_false, reduceCtorEq, nth, aCall, aEnter, notYield, aNilCheck, aLoad, partV, isAggD, aFieldAddr, aField, aExtract, b_add, b_sub, b_mul, b_xor, b_eql, b_neq, b_lss, b_leq, b_gtr, b_geq, b_shr, Option.isNone, aBuiltin,
    List.length_cons, List.length_nil, true_implies, false_implies, and_true, true_and, implies_true, forall_const, List.append_nil, List.cons_append, List.nil_append, ASt.get_set, ASt.get_new, ASt.next_set, ASt.next_new, Nat.zero_add, Nat.add_zero, eq_self, ctor_self, ti63, t63_desc, t63_size, ti25, t25_desc, ti22, t22_desc, t22_size, ti59, t59_desc, t59_size, ti60, t60_desc, t60_size, ti61, t61_desc, t61_size, ti3, t3_desc, t3_size, ti40, t40_desc, t40_size, ti33, t33_desc, t33_size, ti9, t9_desc, t9_size, wrow_now, wrow_all, eqnil25, fn17, fn26, fn27, fn28, fn29, fn38, fn39, fn12, fn14, fn15, u0, u5, u6, Y5, Y6, rangeT hel]
          have injm : ∀ {i j m : Nat}, ms[i]? = some m → ms[j]? = some m → i = j := fun {i j m} hi hj => by
            obtain ⟨x1, x2⟩ := List.getElem?_eq_some_iff.1 hi
            obtain ⟨y1, y2⟩ := List.getElem?_eq_some_iff.1 hj
            rcases Nat.lt_trichotomy i j with hlt | he | hlt
            · exact absurd (x2.trans y2.symm) (List.pairwise_iff_getElem.1 hms i j x1 y1 hlt)
            · exact he
            · exact absurd (y2.trans x2.symm) (List.pairwise_iff_getElem.1 hms j i y1 x1 hlt)
          have hlv : ∀ x ∈ el, x.2.1 < 18446744073709551616 := fun x hx => by
            have h1 := uget_mem hokl.keys hx
            rw [hgl] at h1
            obtain ⟨h2, _⟩ := Option.filter_eq_some_iff.1 h1
            exact h.lt _ _ h2
          refine CodeW.mono (Q := fun o => ∃ T' A' done, o = .fr ⟨.exit 6, T', A'⟩ ∧ (∀ x ∈ done, x ∈ el) ∧ (∀ x ∈ el, x ∈ done) ∧ done.Nodup ∧ tget T' 5 = .pointer (some ⟨p5, 0, none⟩) ∧ (∀ i m, ms[i]? = some m → Holds A' m (puts (if i < 16 * ps then (fun _ => none) else M.at_ now i) done fun a => decide (plc nw a = i))) ∧ Fr ms Y A') ?_ ?_
          · refine CodeW.mapLoop (it := 82) (r := Y.next) (m := lf) (ck := ckl) (l := el) (J := fun done T A' => tget T 0 = .pointer (some ⟨W, 0, none⟩) ∧ tget T 5 = .pointer (some ⟨p5, 0, none⟩) ∧ (∀ i m, ms[i]? = some m → Holds A' m (puts (if i < 16 * ps then (fun _ => none) else M.at_ now i) done fun a => decide (plc nw a = i))) ∧ Fr ms Y A' ∧ Y.next < A'.next) ?_ ?_ ?_
            · rintro done T4 A4 hi ⟨v0, v5, hs4, f4, nx4⟩
              refine codeW_ok E0_ok E0_ro ?_
              have hit := hi.it
              simp only [oneW_next, tg_eq, tgN_eq, brW_true, brW_false, c_skip, c_ret, c_exit, c_seq, c_cond, condW_b, c_block, c_scope, c_region, c_drawn, c_loop, onw_n, onw_r, onw_e, outb_e, outb_o, outb_n, outb_r, putW_some, putW_none, opsW_arr, opsW_nil, opsW_cons, wanted_none, wanted_some, guardB_some, oneW_next, oneW_move, oneW_assign, oneW_pick, oneW_build, oneW_load, oneW_store, oneW_nilCheck, oneW_binOp, oneW_unOp, oneW_makeFunc, oneW_slice, oneW_fieldAddr, oneW_field, oneW_indexAddr, oneW_index, oneW_lookup, oneW_mapUpdate, oneW_range, oneW_entry, oneW_extract, oneW_call, oneW_alloc, oneW_box, oneW_makeMap, oneW_buildSlice, oneW_convert, Hands, handsV, resultsV, oneOrTuple, argsT, arW_val, ofVal_some, plain_val, cond_true, cond_false,
    aOp_move, aOp_assign, aOp_pick, aOp_build, aOp_load, aOp_store, aOp_nilCheck, aOp_binOp, aOp_unOp, aOp_makeFunc, aOp_slice, aOp_fieldAddr, aOp_field, aOp_indexAddr, aOp_index, aOp_lookup, aOp_mapUpdate, aOp_range, aOp_entry, aOp_extract, aOp_call, aOp_alloc, aOp_box, aOp_makeMap, aOp_buildSlice, aInvoke_func,
    nbeq, nble, nblt, cond_dec, decide_true, decide_false, decide_eq_true_eq, Bool.false_eq_true, Bool.and_true, Bool.true_and, Bool.not_true, Bool.not_false, bq_t, bq_f, ev, evs, evPairs, evOpt, closed, flat, tget_put, Nat.reduceEqDiff, Nat.reduceAdd, Nat.reduceMul, Nat.reduceSub, Nat.reduceLT, Nat.reduceLeDiff, Nat.reduceBEq, reduceIte, if_true, if_false, reduceCtorEq, nth, aCall, aEnter, notYield, aNilCheck, aLoad, partV, isAggD, aFieldAddr, aField, aExtract, b_add, b_sub, b_mul, b_xor, b_eql, b_neq, b_lss, b_leq, b_gtr, b_geq, b_shr, Option.isNone, aBuiltin,
    List.length_cons, List.length_nil, true_implies, false_implies, and_true, true_and, implies_true, forall_const, List.append_nil, List.cons_append, List.nil_append, ASt.get_set, ASt.get_new, ASt.next_set, ASt.next_new, Nat.zero_add, Nat.add_zero, eq_self, ctor_self, ti63, t63_desc, t63_size, ti25, t25_desc, ti22, t22_desc, t22_size, ti59, t59_desc, t59_size, ti60, t60_desc, t60_size, ti61, t61_desc, t61_size, ti3, t3_desc, t3_size, ti40, t40_desc, t40_size, ti33, t33_desc, t33_size, ti9, t9_desc, t9_size, wrow_now, wrow_all, eqnil25, fn17, fn26, fn27, fn28, fn29, fn38, fn39, fn12, fn14, fn15, hit]
              refine nextV_u hokl hi.sub hi.iter hi.map (fun x hx hn => ?_) (fun hfin => ?_)
              · have hkey := fresh_key hokl hi.sub hx hn
                have hent := entry_u (A := A4.set Y.next (.miter (some lf) ckl ((done ++ [x]).map (·.2.2)) ckl)) (r := Y.next) (m := lf) hokl hx (by rw [ASt.get_set, if_pos rfl]) (by rw [ASt.get_set, if_neg (Yb lf (by simp))]; exact hi.map)
                have hB : ∀ b, (A4.set Y.next (.miter (some lf) ckl ((done ++ [x]).map (·.2.2)) ckl)).get b = if b = Y.next then some (.miter (some lf) ckl ((done ++ [x]).map (·.2.2)) ckl) else A4.get b := fun b => by rw [ASt.get_set]
                have hBn : (A4.set Y.next (.miter (some lf) ckl ((done ++ [x]).map (·.2.2)) ckl)).next = A4.next := rfl
                generalize A4.set Y.next (.miter (some lf) ckl ((done ++ [x]).map (·.2.2)) ckl) = B3 at hent hB hBn ⊢
                have BW : B3.get W = some (.row (wrow nw all ms) 67 false) := by
                  rw [hB, if_neg (Yb W (by simp)), f4.get W (hbY W (by simp)) w4]; exact YW
                simp only [oneW_next, tg_eq, tgN_eq, brW_true, brW_false, c_skip, c_ret, c_exit, c_seq, c_cond, condW_b, c_block, c_scope, c_region, c_drawn, c_loop, onw_n, onw_r, onw_e, outb_e, outb_o, outb_n, outb_r, putW_some, putW_none, opsW_arr, opsW_nil, opsW_cons, wanted_none, wanted_some, guardB_some, oneW_next, oneW_move, oneW_assign, oneW_pick, oneW_build, oneW_load, oneW_store, oneW_nilCheck, oneW_binOp, oneW_unOp, oneW_makeFunc, oneW_slice, oneW_fieldAddr, oneW_field, oneW_indexAddr, oneW_index, oneW_lookup, oneW_mapUpdate, oneW_range, oneW_entry, oneW_extract, oneW_call, oneW_alloc, oneW_box, oneW_makeMap, oneW_buildSlice, oneW_convert, Hands, handsV, resultsV, oneOrTuple, argsT, arW_val, ofVal_some, plain_val, cond_true, cond_false,
    aOp_move, aOp_assign, aOp_pick, aOp_build, aOp_load, aOp_store, aOp_nilCheck, aOp_binOp, aOp_unOp, aOp_makeFunc, aOp_slice, aOp_fieldAddr, aOp_field, aOp_indexAddr, aOp_index, aOp_lookup, aOp_mapUpdate, aOp_range, aOp_entry, aOp_extract, aOp_call, aOp_alloc, aOp_box, aOp_makeMap, aOp_buildSlice, aInvoke_func,
    nbeq, nble, nblt, cond_dec, decide_true, decide_false, decide_eq_true_eq, Bool.false_eq_true, Bool.and_true, Bool.true_and, Bool.not_true, Bool.not_false, bq_t, bq_f, ev, evs, evPairs, evOpt, closed, flat, tget_put, Nat.reduceEqDiff, Nat.reduceAdd, Nat.reduceMul, Nat.reduceSub, Nat.reduceLT, Nat.reduceLeDiff, Nat.reduceBEq, reduceIte, if_true, if_false, reduceCtorEq, nth, aCall, aEnter, notYield, aNilCheck, aLoad, partV, isAggD, aFieldAddr, aField, aExtract, b_add, b_sub, b_mul, b_xor, b_eql, b_neq, b_lss, b_leq, b_gtr, b_geq, b_shr, Option.isNone, aBuiltin,
    List.length_cons, List.length_nil, true_implies, false_implies, and_true, true_and, implies_true, forall_const, List.append_nil, List.cons_append, List.nil_append, ASt.get_set, ASt.get_new, ASt.next_set, ASt.next_new, Nat.zero_add, Nat.add_zero, eq_self, ctor_self, ti63, t63_desc, t63_size, ti25, t25_desc, ti22, t22_desc, t22_size, ti59, t59_desc, t59_size, ti60, t60_desc, t60_size, ti61, t61_desc, t61_size, ti3, t3_desc, t3_size, ti40, t40_desc, t40_size, ti33, t33_desc, t33_size, ti9, t9_desc, t9_size, wrow_now, wrow_all, eqnil25, fn17, fn26, fn27, fn28, fn29, fn38, fn39, fn12, fn14, fn15, hit, hent, v0]
                refine CallT.mono (place_walk BW h.len hnw (hlv x hx)) ?_
                rintro _ _ ⟨rfl, kx, rfl⟩
                have hpl : plc nw x.2.1 < ms.length := by rw [h.len]; exact plc_lt
                have hm : ms[plc nw x.2.1]? = some (ms[plc nw x.2.1]'hpl) := List.getElem?_eq_getElem _
                generalize ms[plc nw x.2.1]'hpl = m at hm
                have hmem := List.mem_of_getElem? hm
                have hmY : m ≠ Y.next := Yb m (by simp [hmem])
                obtain ⟨B4, hup, h4, g4⟩ := ((hs4 _ m hm).congr (show ASt.get { heap := B3.heap, next := B3.next + kx } m = A4.get m by rw [get_next, hB, if_neg hmY])).update x.1 x.2.1
                simp only [oneW_next, tg_eq, tgN_eq, brW_true, brW_false, c_skip, c_ret, c_exit, c_seq, c_cond, condW_b, c_block, c_scope, c_region, c_drawn, c_loop, onw_n, onw_r, onw_e, outb_e, outb_o, outb_n, outb_r, putW_some, putW_none, opsW_arr, opsW_nil, opsW_cons, wanted_none, wanted_some, guardB_some, oneW_next, oneW_move, oneW_assign, oneW_pick, oneW_build, oneW_load, oneW_store, oneW_nilCheck, oneW_binOp, oneW_unOp, oneW_makeFunc, oneW_slice, oneW_fieldAddr, oneW_field, oneW_indexAddr, oneW_index, oneW_lookup, oneW_mapUpdate, oneW_range, oneW_entry, oneW_extract, oneW_call, oneW_alloc, oneW_box, oneW_makeMap, oneW_buildSlice, oneW_convert, Hands, handsV, resultsV, oneOrTuple, argsT, arW_val, ofVal_some, plain_val, cond_true, cond_false,
    aOp_move, aOp_assign, aOp_pick, aOp_build, aOp_load, aOp_store, aOp_nilCheck, aOp_binOp, aOp_unOp, aOp_makeFunc, aOp_slice, aOp_fieldAddr, aOp_field, aOp_indexAddr, aOp_index, aOp_lookup, aOp_mapUpdate, aOp_range, aOp_entry, aOp_extract, aOp_call, aOp_alloc, aOp_box, aOp_makeMap, aOp_buildSlice, aInvoke_func,
    nbeq, nble, nblt, cond_dec, decide_true, decide_false, decide_eq_true_eq, Bool.false_eq_true, Bool.and_true, Bool.true_and, Bool.not_true, Bool.not_false, bq_t, bq_f, ev, evs, evPairs, evOpt, closed, flat, tget_put, Nat.reduceEqDiff, Nat.reduceAdd, Nat.reduceMul, Nat.reduceSub, Nat.reduceLT, Nat.reduceLeDiff, Nat.reduceBEq, reduceIte, if_true, if_false, reduceCtorEq, nth, aCall, aEnter, notYield, aNilCheck, aLoad, partV, isAggD, aFieldAddr, aField, aExtract, b_add, b_sub, b_mul, b_xor, b_eql, b_neq, b_lss, b_leq, b_gtr, b_geq, b_shr, Option.isNone, aBuiltin,
    List.length_cons, List.length_nil, true_implies, false_implies, and_true, true_and, implies_true, forall_const, List.append_nil, List.cons_append, List.nil_append, ASt.get_set, ASt.get_new, ASt.next_set, ASt.next_new, Nat.zero_add, Nat.add_zero, eq_self, ctor_self, ti63, t63_desc, t63_size, ti25, t25_desc, ti22, t22_desc, t22_size, ti59, t59_desc, t59_size, ti60, t60_desc, t60_size, ti61, t61_desc, t61_size, ti3, t3_desc, t3_size, ti40, t40_desc, t40_size, ti33, t33_desc, t33_size, ti9, t9_desc, t9_size, wrow_now, wrow_all, eqnil25, fn17, fn26, fn27, fn28, fn29, fn38, fn39, fn12, fn14, fn15, hup]
                have gB : ∀ b, b < B3.next → b ≠ m → B4.get b = B3.get b := fun b hb hn => by
                  rw [g4.get b (by show b < B3.next + kx; omega) (by simpa using hn), get_next]
                have n4 : A4.next ≤ B4.next := by have := g4.next; have : B3.next + kx ≤ B4.next := this; omega
                refine ⟨x, hx, hn, hi.step hx hn (by simp only [tget_put, Nat.reduceEqDiff, if_false, reduceIte]) ?_ ?_, ?_, ?_, ?_, ⟨?_, ?_⟩, ?_⟩
                · rw [gB _ (by omega) (Ne.symm hmY), hB, if_pos rfl]
                · rw [gB lf (by have := hbY lf (by simp); omega) (fun e => l1 (e ▸ hmem)), hB, if_neg (Yb lf (by simp))]
                · exact v0
                · exact v5
                · intro i m' hm'
                  have hmem' := List.mem_of_getElem? hm'
                  rw [puts_snoc hkey]
                  by_cases e : plc nw x.2.1 = i
                  · subst e
                    rw [hm] at hm'; cases hm'
                    simp only [decide_true, if_true]
                    exact h4
                  · have em : m' ≠ m := fun em => e (injm hm (em ▸ hm'))
                    simp only [e, decide_false, Bool.false_eq_true, if_false]
                    refine (hs4 i m' hm').congr ?_
                    rw [gB m' (by have := hbY m' (by simp [hmem']); omega) em, hB, if_neg (Yb m' (by simp [hmem']))]
                · have := f4.next; omega
                · intro b hb hn
                  rw [gB b (by omega) (fun e => hn (e ▸ hmem)), hB, if_neg (by omega)]; exact f4.get b hb hn
                · omega
              · simp only [oneW_next, tg_eq, tgN_eq, brW_true, brW_false, c_skip, c_ret, c_exit, c_seq, c_cond, condW_b, c_block, c_scope, c_region, c_drawn, c_loop, onw_n, onw_r, onw_e, outb_e, outb_o, outb_n, outb_r, putW_some, putW_none, opsW_arr, opsW_nil, opsW_cons, wanted_none, wanted_some, guardB_some, oneW_next, oneW_move, oneW_assign, oneW_pick, oneW_build, oneW_load, oneW_store, oneW_nilCheck, oneW_binOp, oneW_unOp, oneW_makeFunc, oneW_slice, oneW_fieldAddr, oneW_field, oneW_indexAddr, oneW_index, oneW_lookup, oneW_mapUpdate, oneW_range, oneW_entry, oneW_extract, oneW_call, oneW_alloc, oneW_box, oneW_makeMap, oneW_buildSlice, oneW_convert, Hands, handsV, resultsV, oneOrTuple, argsT, arW_val, ofVal_some, plain_val, cond_true, cond_false,
    aOp_move, aOp_assign, aOp_pick, aOp_build, aOp_load, aOp_store, aOp_nilCheck, aOp_binOp, aOp_unOp, aOp_makeFunc, aOp_slice, aOp_fieldAddr, aOp_field, aOp_indexAddr, aOp_index, aOp_lookup, aOp_mapUpdate, aOp_range, aOp_entry, aOp_extract, aOp_call, aOp_alloc, aOp_box, aOp_makeMap, aOp_buildSlice, aInvoke_func,
    nbeq, nble, nblt, cond_dec, decide_true, decide_false, decide_eq_true_eq, Bool.false_eq_true, Bool.and_true, Bool.true_and, Bool.not_true, Bool.not_false, bq_t, bq_f, ev, evs, evPairs, evOpt, closed, flat, tget_put, Nat.reduceEqDiff, Nat.reduceAdd, Nat.reduceMul, Nat.reduceSub, Nat.reduceLT, Nat.reduceLeDiff, Nat.reduceBEq, reduceIte, if_true, if_false, reduceCtorEq, nth, aCall, aEnter, notYield, aNilCheck, aLoad, partV, isAggD, aFieldAddr, aField, aExtract, b_add, b_sub, b_mul, b_xor, b_eql, b_neq, b_lss, b_leq, b_gtr, b_geq, b_shr, Option.isNone, aBuiltin,
    List.length_cons, List.length_nil, true_implies, false_implies, and_true, true_and, implies_true, forall_const, List.append_nil, List.cons_append, List.nil_append, ASt.get_set, ASt.get_new, ASt.next_set, ASt.next_new, Nat.zero_add, Nat.add_zero, eq_self, ctor_self, ti63, t63_desc, t63_size, ti25, t25_desc, ti22, t22_desc, t22_size, ti59, t59_desc, t59_size, ti60, t60_desc, t60_size, ti61, t61_desc, t61_size, ti3, t3_desc, t3_size, ti40, t40_desc, t40_size, ti33, t33_desc, t33_size, ti9, t9_desc, t9_size, wrow_now, wrow_all, eqnil25, fn17, fn26, fn27, fn28, fn29, fn38, fn39, fn12, fn14, fn15]
                refine ⟨_, _, done, rfl, hi.sub, hfin, hi.nodup, ?_, hs4, f4⟩
                simp only [tget_put, Nat.reduceEqDiff, if_false, reduceIte]; exact v5
            · refine ⟨by simp only [tget_put, Nat.reduceEqDiff, if_false, if_true, reduceIte], by rw [ASt.get_new, if_pos rfl]; rfl, by rw [ASt.get_new, if_neg (Yb lf (by simp))]; exact hel, by simp, .nil⟩
            · refine ⟨?_, ?_, fun i m hm => ?_, ⟨Nat.le_succ _, fun b hb hn => by rw [ASt.get_new, if_neg (by omega)]⟩, Nat.lt_succ_self _⟩
              · simp only [tget_put, Nat.reduceEqDiff, if_false, reduceIte]; exact u0
              · simp only [tget_put, Nat.reduceEqDiff, if_false, reduceIte]; exact u5
              · rw [puts_nil]
                exact (hYs i m hm).congr (by rw [ASt.get_new, if_neg (Yb m (by simp [List.mem_of_getElem? hm]))])
          · rintro o ⟨T4, V, dl, rfl, hsub, hfin, hnodl, v5, hV, fV⟩
            obtain ⟨_, hugl⟩ := uget_all hokl hsub hfin hnodl
            have V5 : V.get p5 = some (.row [.map (some d)] 1 false) := by
              rw [fV.get p5 (hbY p5 (by simp)) (fun hm => ?_)]
              · exact Y5
              · obtain ⟨i, hi⟩ := List.getElem?_of_mem hm
                exact (hYs i _ hi).block Y5 rfl
            have hVd : Holds V d (fun k => (M k).filter fun a => decide (plc now a < 16 * ps) && decide (a ≤ nw)) := hYd.congr (fV.get d (hbY d (by simp)) d2)
            have hdV : d < V.next := by have := fV.next; have := hbY d (by simp); omega
            simp only [oneW_next, tg_eq, tgN_eq, brW_true, brW_false, c_skip, c_ret, c_exit, c_seq, c_cond, condW_b, c_block, c_scope, c_region, c_drawn, c_loop, onw_n, onw_r, onw_e, outb_e, outb_o, outb_n, outb_r, putW_some, putW_none, opsW_arr, opsW_nil, opsW_cons, wanted_none, wanted_some, guardB_some, oneW_next, oneW_move, oneW_assign, oneW_pick, oneW_build, oneW_load, oneW_store, oneW_nilCheck, oneW_binOp, oneW_unOp, oneW_makeFunc, oneW_slice, oneW_fieldAddr, oneW_field, oneW_indexAddr, oneW_index, oneW_lookup, oneW_mapUpdate, oneW_range, oneW_entry, oneW_extract, oneW_call, oneW_alloc, oneW_box, oneW_makeMap, oneW_buildSlice, oneW_convert, Hands, handsV, resultsV, oneOrTuple, argsT, arW_val, ofVal_some, plain_val, cond_true, cond_false,
    aOp_move, aOp_assign, aOp_pick, aOp_build, aOp_load, aOp_store, aOp_nilCheck, aOp_binOp, aOp_unOp, aOp_makeFunc, aOp_slice, aOp_fieldAddr, aOp_field, aOp_indexAddr, aOp_index, aOp_lookup, aOp_mapUpdate, aOp_range, aOp_entry, aOp_extract, aOp_call, aOp_alloc, aOp_box, aOp_makeMap, aOp_buildSlice, aInvoke_func,
    nbeq, nble, nblt, cond_dec, decide_true, decide_false, decide_eq_true_eq, Bool.false_eq_true, Bool.and_true, Bool.true_and, Bool.not_true, Bool.not_false, bq_t, bq_f, ev, evs, evPairs, evOpt, closed, flat, tget_put, Nat.reduceEqDiff, Nat.reduceAdd, Nat.reduceMul, Nat.reduceSub, Nat.reduceLT, Nat.reduceLeDiff, Nat.reduceBEq, reduceIte, if_true, if_false, reduceCtorEq, nth, aCall, aEnter, notYield, aNilCheck, aLoad, partV, isAggD, aFieldAddr, aField, aExtract, b_add, b_sub, b_mul, b_xor, b_eql, b_neq, b_lss, b_leq, b_gtr, b_geq, b_shr, Option.isNone, aBuiltin,
    List.length_cons, List.length_nil, true_implies, false_implies, and_true, true_and, implies_true, forall_const, List.append_nil, List.cons_append, List.nil_append, ASt.get_set, ASt.get_new, ASt.next_set, ASt.next_new, Nat.zero_add, Nat.add_zero, eq_self, ctor_self, ti63, t63_desc, t63_size, ti25, t25_desc, ti22, t22_desc, t22_size, ti59, t59_desc, t59_size, ti60, t60_desc, t60_size, ti61, t61_desc, t61_size, ti3, t3_desc, t3_size, ti40, t40_desc, t40_size, ti33, t33_desc, t33_size, ti9, t9_desc, t9_size, wrow_now, wrow_all, eqnil25, fn17, fn26, fn27, fn28, fn29, fn38, fn39, fn12, fn14, fn15, v5, V5]
            refine CallT.mono (hs hVd (fun k a hk => (Option.filter_eq_some_iff.1 hk).1) hdV) ?_
            rintro v U ⟨ts, hts, hsl, fU⟩
            simp only [oneW_next, tg_eq, tgN_eq, brW_true, brW_false, c_skip, c_ret, c_exit, c_seq, c_cond, condW_b, c_block, c_scope, c_region, c_drawn, c_loop, onw_n, onw_r, onw_e, outb_e, outb_o, outb_n, outb_r, putW_some, putW_none, opsW_arr, opsW_nil, opsW_cons, wanted_none, wanted_some, guardB_some, oneW_next, oneW_move, oneW_assign, oneW_pick, oneW_build, oneW_load, oneW_store, oneW_nilCheck, oneW_binOp, oneW_unOp, oneW_makeFunc, oneW_slice, oneW_fieldAddr, oneW_field, oneW_indexAddr, oneW_index, oneW_lookup, oneW_mapUpdate, oneW_range, oneW_entry, oneW_extract, oneW_call, oneW_alloc, oneW_box, oneW_makeMap, oneW_buildSlice, oneW_convert, Hands, handsV, resultsV, oneOrTuple, argsT, arW_val, ofVal_some, plain_val, cond_true, cond_false,
    aOp_move, aOp_assign, aOp_pick, aOp_build, aOp_load, aOp_store, aOp_nilCheck, aOp_binOp, aOp_unOp, aOp_makeFunc, aOp_slice, aOp_fieldAddr, aOp_field, aOp_indexAddr, aOp_index, aOp_lookup, aOp_mapUpdate, aOp_range, aOp_entry, aOp_extract, aOp_call, aOp_alloc, aOp_box, aOp_makeMap, aOp_buildSlice, aInvoke_func,
    nbeq, nble, nblt, cond_dec, decide_true, decide_false, decide_eq_true_eq, Bool.false_eq_true, Bool.and_true, Bool.true_and, Bool.not_true, Bool.not_false, bq_t, bq_f, ev, evs, evPairs, evOpt, closed, flat, tget_put, Nat.reduceEqDiff, Nat.reduceAdd, Nat.reduceMul, Nat.reduceSub, Nat.reduceLT, Nat.reduceLeDiff, Nat.reduceBEq, reduceIte, if_true, if_false, reduceCtorEq, nth, aCall, aEnter, notYield, aNilCheck, aLoad, partV, isAggD, aFieldAddr, aField, aExtract, b_add, b_sub, b_mul, b_xor, b_eql, b_neq, b_lss, b_leq, b_gtr, b_geq, b_shr, Option.isNone, aBuiltin,
    List.length_cons, List.length_nil, true_implies, false_implies, and_true, true_and, implies_true, forall_const, List.append_nil, List.cons_append, List.nil_append, ASt.get_set, ASt.get_new, ASt.next_set, ASt.next_new, Nat.zero_add, Nat.add_zero, eq_self, ctor_self, ti63, t63_desc, t63_size, ti25, t25_desc, ti22, t22_desc, t22_size, ti59, t59_desc, t59_size, ti60, t60_desc, t60_size, ti61, t61_desc, t61_size, ti3, t3_desc, t3_size, ti40, t40_desc, t40_size, ti33, t33_desc, t33_size, ti9, t9_desc, t9_size, wrow_now, wrow_all, eqnil25, fn17, fn26, fn27, fn28, fn29, fn38, fn39, fn12, fn14, fn15]
            rw [if_neg hge]
            have far : ∀ {k a}, M k = some a → ¬ plc now a < 16 * ps → nw < a ∧ plc nw a = plc now a := fun {k a} hk hD => by
              rw [← hpd] at hD
              exact plc_far h.nowlt hnw (h.lt k a hk) (h.gt k a hk) hD
            have hp3 : p3 ≤ V.next := by
              have := ha.below p3 (by simp); have := fY.next; have := fV.next; omega
            have fAX : Fr [W] A2 X := ⟨by omega, fun b _ hn => by rw [hXg, if_neg (by simpa using hn)]⟩
            have fAll : Fr (W :: all :: ms) A U := ha.fr.trans ((fAX.sub (by simp)).trans ((fY.sub (by simp)).trans ((fV.sub (fun b hb => by simp [hb])).trans (fU.sub (by simp)))))
            have keepU : ∀ b, b < V.next → U.get b = V.get b := fun b hb => fU.get b hb (by simp)
            have hbV : ∀ b ∈ W :: all :: d :: lf :: p3 :: p5 :: p6 :: ms, b < V.next := fun b hb => by have := hbY b hb; have := fV.next; omega
            refine ⟨ts, ⟨fun k a => (hts.mem k a).trans ?_, hts.ord⟩, ?_, ⟨?_, h.len, hnw, h.nodup, fun b hb => Nat.lt_of_lt_of_le (hbV b (by simp only [List.mem_cons] at hb ⊢; rcases hb with h | h | h <;> simp [h])) fU.next, ?_, ?_, ?_, ?_⟩, fAll⟩
            · cases hk : M k with
              | none => simp [hk]
              | some b =>
                by_cases hD : plc now b < 16 * ps
                · simp [Option.filter, hk, hD]
                · have := (far hk hD).1
                  have e1 : ¬ b ≤ nw := by omega
                  simp [Option.filter, hk, e1]
            · rcases hsl with ⟨e1, e2⟩ | ⟨b, cap, rest, tl, e1, e2, e3, e4⟩
              · exact .inl ⟨e1, e2⟩
              · exact .inr ⟨b, cap, rest, tl, e1, e2, by omega, e4⟩
            · rw [keepU W (hbV W (by simp)), fV.get W (hbY W (by simp)) w4]; exact YW
            · refine (hYall.congr ((keepU all (hbV all (by simp))).trans (fV.get all (hbY all (by simp)) al3))).ext fun k => ?_
              unfold dels
              rw [hug, hgd]
              cases hk : M k with
              | none => simp [hk]
              | some b =>
                by_cases hD : plc now b < 16 * ps
                · by_cases hle : b ≤ nw
                  · have e1 : ¬ nw < b := by omega
                    simp [Option.filter, hk, hD, hle, e1]
                  · have e1 : nw < b := by omega
                    simp [Option.filter, hk, hD, hle, e1]
                · have := (far hk hD).1
                  simp [Option.filter, hk, hD, this]
            · intro i m hm
              have hmem := List.mem_of_getElem? hm
              refine ((hV i m hm).congr (keepU m (hbV m (by simp [hmem])))).ext fun k => ?_
              unfold puts TM.at_
              rw [hugl, hgl]
              cases hk : M k with
              | none => by_cases hi : i < 16 * ps <;> simp [hi, hk]
              | some b =>
                by_cases hD : plc now b < 16 * ps
                · by_cases hle : b ≤ nw
                  · have e1 : ¬ nw < b := by omega
                    by_cases hi : i < 16 * ps
                    · simp [Option.filter, hk, hD, hle, e1, hi]
                    · have e2 : plc now b ≠ i := by omega
                      simp [Option.filter, hk, hD, hle, e1, hi, e2]
                  · have e1 : nw < b := by omega
                    by_cases hpi : plc nw b = i
                    · simp [Option.filter, hk, hD, hle, e1, hpi]
                    · by_cases hi : i < 16 * ps
                      · simp [Option.filter, hk, hD, hle, e1, hi, hpi]
                      · have e2 : plc now b ≠ i := by omega
                        simp [Option.filter, hk, hD, hle, e1, hi, e2, hpi]
                · obtain ⟨e1, e2⟩ := far hk hD
                  by_cases hi : i < 16 * ps
                  · have e3 : plc now b ≠ i := by omega
                    simp [Option.filter, hk, hD, e1, hi, e2, e3]
                  · simp [Option.filter, hk, hD, e1, hi, e2]
            · intro k a hk
              obtain ⟨h2, _⟩ := Option.filter_eq_some_iff.1 hk
              exact h.lt k a h2
            · intro k a hk
              obtain ⟨_, h2⟩ := Option.filter_eq_some_iff.1 hk
              exact of_decide_eq_true h2
end Go.Proofs.Ytpmpclieclcbdaa
