/- One list of timers behind another; an act's deadline of its own; equal timers. -/
import Derived.Test.YtpmpclieclcbdaaP07
set_option linter.unusedSimpArgs false
set_option linter.unusedVariables false
set_option linter.unusedSectionVars false
namespace Go.Proofs.Ytpmpclieclcbdaa
open Go Go.AE Go.Sort

variable {Z : Go.AE.Road}
set_option maxRecDepth 100000

theorem singles_tc : ∀ ts : List (ByteArray × Nat), singles (tcells ts) = true
  | [] => rfl
  | _ :: l => singles_tc l
theorem cut_all {l : List Value} {n : Nat} (h : l.length = n) : cut l 0 n = some l := by
  unfold cut
  simp only [List.drop_zero]
  rw [List.take_of_length_le (by omega)]
  show cond (Nat.beq l.length n) (some l) none = _
  rw [h, Nat.beq_refl]; rfl
theorem src_nil {A : ASt} {n l c : Nat} : srcCells E0 2 (.slice none l c) n A = some [] := rfl
theorem src_sl {A : ASt} {b n l c : Nat} {ts : List (ByteArray × Nat)} (hb : A.get b = some (.row (tcells ts) 2 true)) (hn : ts.length = n) : srcCells E0 2 (.slice (some ⟨b, 0, none⟩) l c) n A = some (tcells ts) := by
  simp only [srcCells, hb]
  exact cut_all (by rw [tcells_len]; omega)
theorem tcells_append : ∀ {a b : List (ByteArray × Nat)}, tcells (a ++ b) = tcells a ++ tcells b
  | [], b => rfl
  | t :: l, b => by
    show _ :: _ :: tcells (l ++ b) = _
    rw [tcells_append]; rfl
/-- The call of append, once its source is read. -/
theorem app30 {A : ASt} {v x : Value} {base : Option Addr} {len cap n : Nat} {new : List Value} (hv : v = .slice base len cap) (hx : lenV x = some n) (hs : srcCells E0 2 x n A = some new) (hl : new.length = n * 2) (hg : singles new = true) (hb : (len + n) * 25 < 1000000000) :
    aAppend E0 30 30 v x A = appendTo 2 base len cap n new A := by
  subst hv
  have h1 : Nat.blt ((len + n) * (24 + 1)) 1000000000 = true := Nat.ble_eq_true_of_le hb
  have h2 : Nat.beq new.length (n * 2) = true := by rw [hl, Nat.beq_refl]
  simp only [aAppend, ti30, t30_desc, ti33, hx, t33_zero, t33_size, t33_bytes, hs, isl, h1, h2, hg, z33a, z33b]
  rfl
theorem SliceAt.app {A : ASt} {lo : Nat} {v1 v2 : Value} {ts1 ts2 : List (ByteArray × Nat)} (h1 : SliceAt A lo v1 ts1) (h2 : SliceAt A lo v2 ts2) (hl : ts1.length + ts2.length ≤ 1000000) (hlo : lo ≤ A.next) :
    ∃ v' A', aAppend E0 30 30 v1 v2 A = .val v' A' ∧ SliceAt A' lo v' (ts1 ++ ts2) ∧ A.next ≤ A'.next ∧ ∀ b, b < lo → A'.get b = A.get b := by
  obtain ⟨n2, new, hx, hs, hnl, hg, hn2, hnew⟩ : ∃ n2 new, lenV v2 = some n2 ∧ srcCells E0 2 v2 n2 A = some new ∧ new.length = n2 * 2 ∧ singles new = true ∧ n2 = ts2.length ∧ new = tcells ts2 := by
    rcases h2 with ⟨rfl, rfl⟩ | ⟨b, cap, rest, tl, rfl, hb, _, _, rfl, rfl, rfl⟩
    · exact ⟨0, [], rfl, rfl, rfl, rfl, rfl, rfl⟩
    · rw [List.append_nil] at hb
      exact ⟨_, _, rfl, src_sl hb rfl, by rw [tcells_len]; omega, singles_tc _, rfl, rfl⟩
  rcases h1 with ⟨rfl, rfl⟩ | ⟨b, cap, rest, tl, rfl, hb, h1, h1', rfl, rfl, rfl⟩
  · rw [app30 rfl hx hs hnl hg (by simp at hl; omega)]
    show ∃ v' A', cond (Nat.beq n2 0) (AR.val (.slice none 0 0) A) (grown A new 2 n2) = .val v' A' ∧ _
    by_cases h0 : n2 = 0
    · subst h0
      have : ts2 = [] := List.eq_nil_of_length_eq_zero hn2.symm
      exact ⟨_, _, rfl, .inl ⟨by simp [this], rfl⟩, Nat.le_refl _, fun _ _ => rfl⟩
    · have hb0 : Nat.beq n2 0 = false := by rw [nbeq]; simp [h0]
      rw [hb0, cond_false, grown_eq]
      refine ⟨_, _, rfl, .inr ⟨A.next, unk, [], true, by simp [hn2], by rw [ASt.get_new, if_pos rfl, hnew]; simp, hlo, by rw [ASt.next_new]; omega, rfl, rfl, rfl⟩, by rw [ASt.next_new]; omega, fun b hb => by rw [ASt.get_new, if_neg (by omega)]⟩
  · rw [List.append_nil] at hb
    have hc : (tcells ts1).length = 2 * ts1.length := tcells_len ts1
    rw [app30 rfl hx hs hnl hg (by omega)]
    have g2 : Nat.ble (0 + ts1.length * 2) (tcells ts1).length = true := Nat.ble_eq_true_of_le (by omega)
    have g4 : Nat.beq (0 + ts1.length * 2) (tcells ts1).length = true := by rw [nbeq]; simp; omega
    by_cases h0 : n2 = 0
    · have ht2 : ts2 = [] := List.eq_nil_of_length_eq_zero (by omega)
      have g3 : Nat.ble (0 + (ts1.length + n2) * 2) (tcells ts1).length = true := Nat.ble_eq_true_of_le (by omega)
      have hnew0 : new = [] := by rw [hnew, ht2]; rfl
      have hov : over (tcells ts1) (0 + ts1.length * 2) new = some (tcells ts1) := by
        rw [hnew0]
        unfold over
        have : Nat.ble (0 + ts1.length * 2 + ([] : List Value).length) (tcells ts1).length = true := Nat.ble_eq_true_of_le (by simp; omega)
        rw [this, cond_true]
        simp
      simp only [appendTo, hb, g2, g3, Nat.beq_refl, Bool.and_self, cond_true, hov]
      refine ⟨_, _, rfl, .inr ⟨b, unk, [], true, by rw [ht2, List.append_nil, h0]; rfl, by rw [ASt.get_set, if_pos rfl, ht2, List.append_nil, List.append_nil], h1, by rw [ASt.next_set]; exact h1', rfl, rfl, rfl⟩, by rw [ASt.next_set]; omega, fun b' hb' => by rw [ASt.get_set, if_neg (by omega)]⟩
    · have g3 : Nat.ble (0 + (ts1.length + n2) * 2) (tcells ts1).length = false := by rw [nble]; simp; omega
      simp only [appendTo, hb, g2, g3, g4, grown_eq, Nat.beq_refl, Bool.and_self, cond_true, cond_false, List.take_zero, List.drop_zero]
      refine ⟨_, _, rfl, .inr ⟨A.next, unk, [], true, by rw [List.length_append, hn2]; rfl, ?_, hlo, by rw [ASt.next_new, ASt.next_set]; omega, rfl, rfl, rfl⟩, by rw [ASt.next_new, ASt.next_set]; omega, fun b' hb' => ?_⟩
      · rw [ASt.get_new, ASt.next_set, if_pos rfl, hnew, tcells_append, List.append_nil]
      · rw [ASt.get_new, ASt.next_set, if_neg (by omega), ASt.get_set, if_neg (by omega)]

/-- The cells of one timer. -/
theorem tcells_cut : ∀ {ts : List (ByteArray × Nat)} {rest : List Value} {i : Nat} {t : ByteArray × Nat}, ts[i]? = some t → cut (tcells ts ++ rest) (i * 2) 2 = some [.string t.1, .int .u64 (t.2 : Nat)]
  | [], rest, i, t, h => by simp at h
  | y :: l, rest, 0, t, h => by
    simp at h; subst h
    rfl
  | y :: l, rest, i + 1, t, h => by
    have ih := tcells_cut (ts := l) (rest := rest) (i := i) (t := t) (by simpa using h)
    have e : (i + 1) * 2 = i * 2 + 1 + 1 := by omega
    rw [e]
    simpa only [tcells, cut, List.cons_append, List.drop_succ_cons] using ih
theorem pb {α β : Type} {P : Program} {f : α → Sem β} : ∀ {m : Sem α} {a : α}, pureRun P m = some a → pureRun P (m >>= f) = pureRun P (f a) := by
  intro m
  induction m with
  | pure x => intro a h; cases h; rfl
  | program k ih => intro a h; exact ih P h
  | mark x k ih => intro a h; exact ih h
  | _ => intro a h; cases h
theorem beqB {k : ByteArray} : (k == k) = true := by
  first | exact beq_self_eq_true k | (cases k; simp [BEq.beq]; done) | (show (k.data == k.data) = true; exact beq_self_eq_true _) | (cases k; exact beq_self_eq_true _) | (obtain ⟨d⟩ := k; unfold BEq.beq ByteArray.instBEq; simp [ByteArray.instBEq.beq])
theorem es33 {k : ByteArray} {d : Nat} : pureRun Try.prog (Op.equalIn (d + 1) 9 (.string k) (.string k)) = some true := by
  unfold Op.equalIn
  rw [pb (a := .string) (by kernel_rfl)]
  show some (k == k) = some true
  rw [beqB]
theorem ei33 {a : Int} {d : Nat} : pureRun Try.prog (Op.equalIn (d + 1) 22 (.int .u64 a) (.int .u64 a)) = some true := by
  unfold Op.equalIn
  rw [pb (a := .int .u64) (by kernel_rfl)]
  show some (a == a) = some true
  simp
theorem eq33 {k : ByteArray} {a : Nat} : pureRun Try.prog (Op.equal 33 (.agg #[.string k, .int .u64 (a : Int)]) (.agg #[.string k, .int .u64 (a : Int)])) = some true := by
  show pureRun Try.prog (Op.equalIn (9999 + 1) 33 (.agg #[.string k, .int .u64 (a : Int)]) (.agg #[.string k, .int .u64 (a : Int)])) = some true
  unfold Op.equalIn
  rw [pb (a := .struct #[{ name := "Name", type := 9, offset := 0, embedded := false, tag := "", pkgPath := "", byteOffset := 0 }, { name := "At", type := 22, offset := 1, embedded := false, tag := "", pkgPath := "", byteOffset := 16 }]) (by kernel_rfl)]
  dsimp only
  rw [pb (m := program) (a := Try.prog) rfl]
  have h0 : Try.prog.stoodInHeld 33 = false := by kernel_rfl
  rw [h0]
  simp only [Bool.false_eq_true, if_false]
  have hp0 : pureRun Try.prog (part 9 #[Value.string k, Value.int IntKind.u64 ↑a] 0) = some (.string k) := by kernel_rfl
  have hp1 : pureRun Try.prog (part 22 #[Value.string k, Value.int IntKind.u64 ↑a] 1) = some (.int .u64 (a : Int)) := by kernel_rfl
  simp only [List.forIn_toArray, List.forIn_cons, List.forIn_nil, bind_assoc, pure_bind]
  have n1 : ("Name" = "_") = False := by simp
  have n2 : ("At" = "_") = False := by simp
  simp only [ne_eq, n1, n2, not_false_eq_true, if_true, bind_assoc]
  rw [pb hp0, pb hp0, pb (m := Op.equalIn 9999 9 (.string k) (.string k)) (es33 (d := 9998))]
  simp only [Bool.not_true, Bool.false_eq_true, if_false, pure_bind, bind_assoc]
  rw [pb hp1, pb hp1, pb (m := Op.equalIn 9999 22 (.int .u64 (a : Int)) (.int .u64 (a : Int))) (ei33 (d := 9998))]
  simp only [Bool.not_true, Bool.false_eq_true, if_false, pure_bind, bind_assoc]
  rfl
theorem neq33 {xo yo : Operand} {k : ByteArray} {a : Nat} : aBin2 E0 .neq 33 xo yo (.agg #[.string k, .int .u64 (a : Int)]) (.agg #[.string k, .int .u64 (a : Int)]) = some (.bool false) := by
  have e1 : E0.bin .neq 33 xo yo (.agg #[.string k, .int .u64 (a : Int)]) (.agg #[.string k, .int .u64 (a : Int)]) = some (.bool false) := by
    show pureRun Try.prog (do eqGuard .neq 33 xo yo (.agg #[.string k, .int .u64 (a : Int)]) (.agg #[.string k, .int .u64 (a : Int)]); binOp .neq 33 (.agg #[.string k, .int .u64 (a : Int)]) (.agg #[.string k, .int .u64 (a : Int)])) = _
    rw [pb (a := ()) (by kernel_rfl)]
    show pureRun Try.prog (do pure (Value.bool (!(← Op.equal 33 (.agg #[.string k, .int .u64 (a : Int)]) (.agg #[.string k, .int .u64 (a : Int)]))))) = _
    rw [pb eq33]
    rfl
  have e2 : closed (.agg #[.string k, .int .u64 (a : Int)]) = true := rfl
  have e3 : aBin E0 .neq 33 xo yo (.agg #[.string k, .int .u64 (a : Int)]) (.agg #[.string k, .int .u64 (a : Int)]) = none := by
    simp [aBin, eqV, ti33, t33_desc]
  simp only [aBin2, e3, e1, e2, Bool.and_self, cond_true]
  rfl
/-- Two lists of one set are the same. -/
theorem Lists.uniq {D : TM} {a b : List (ByteArray × Nat)} (h : Lists D a) (k : Lists D b) : a = b := by
  refine List.Perm.eq_of_pairwise (le := tlt) ?_ h.ord k.ord ?_
  · intro x y _ _ h1 h2
    exact absurd (tlt_trans h1 h2) (tlt_irr x)
  · have na : a.Nodup := h.ord.imp fun {x y} hxy e => by subst e; exact tlt_irr _ hxy
    have nb : b.Nodup := k.ord.imp fun {x y} hxy e => by subst e; exact tlt_irr _ hxy
    refine (List.perm_ext_iff_of_nodup na nb).2 fun x => ?_
    rw [show x = (x.1, x.2) from rfl, h.mem, k.mem]
/-- What is told in two leaps is what is told in one. -/
theorem Lists.two {M : TM} {mid end_ : Nat} (hle : mid ≤ end_) {a b : List (ByteArray × Nat)} (h : Lists (fun k => (M k).filter fun x => decide (x ≤ mid)) a) (k : Lists (fun k => ((M k).filter fun x => decide (mid < x)).filter fun x => decide (x ≤ end_)) b) :
    Lists (fun k => (M k).filter fun x => decide (x ≤ end_)) (a ++ b) := by
  have ha : ∀ t ∈ a, M t.1 = some t.2 ∧ t.2 ≤ mid := fun t ht => by
    obtain ⟨h1, h2⟩ := Option.filter_eq_some_iff.1 ((h.mem t.1 t.2).1 ht)
    exact ⟨h1, by simpa using h2⟩
  have hb : ∀ t ∈ b, M t.1 = some t.2 ∧ mid < t.2 ∧ t.2 ≤ end_ := fun t ht => by
    obtain ⟨h1, h2⟩ := Option.filter_eq_some_iff.1 ((k.mem t.1 t.2).1 ht)
    obtain ⟨h3, h4⟩ := Option.filter_eq_some_iff.1 h1
    exact ⟨h3, by simpa using h4, by simpa using h2⟩
  refine ⟨fun n x => ?_, ?_⟩
  · rw [List.mem_append, h.mem, k.mem]
    constructor
    · rintro (h1 | h1)
      · obtain ⟨h2, h3⟩ := Option.filter_eq_some_iff.1 h1
        simp only [decide_eq_true_eq] at h3
        exact Option.filter_eq_some_iff.2 ⟨h2, by simp; omega⟩
      · obtain ⟨h2, h3⟩ := Option.filter_eq_some_iff.1 h1
        exact Option.filter_eq_some_iff.2 ⟨(Option.filter_eq_some_iff.1 h2).1, h3⟩
    · intro h1
      obtain ⟨h2, h3⟩ := Option.filter_eq_some_iff.1 h1
      simp only [decide_eq_true_eq] at h3
      by_cases hm : x ≤ mid
      · exact .inl (Option.filter_eq_some_iff.2 ⟨h2, by simpa using hm⟩)
      · exact .inr (Option.filter_eq_some_iff.2 ⟨Option.filter_eq_some_iff.2 ⟨h2, by simp; omega⟩, by simpa using h3⟩)
  · refine List.pairwise_append.2 ⟨h.ord, k.ord, fun x hx y hy => .inl ?_⟩
    have := (ha x hx).2
    have := (hb y hy).2.1
    omega

theorem tick_at {A : ASt} {W a b : Nat} {k : Int} {name : ByteArray} (hk : k ≠ 2 ∧ k ≠ 5 ∧ k ≠ 6) :
    CallW Z Try.prog 16 [actV k name a b, .pointer (some ⟨W, 0, none⟩)] A (fun v A' => v = .int .u64 (a : Int) ∧ Fr [] A A') := by
  refine CallW.of_code E0_ok E0_ro fn16 rfl (n := 34) rfl (rs := [.tmp 4]) rfl (by simp) (codeW_ok E0_ok E0_ro ?_)
  unfold actV
  have d1 : (k = 2) = False := eq_false hk.1
  have d2 : (k = 5) = False := eq_false hk.2.1
  have d3 : (k = 6) = False := eq_false hk.2.2
  simp only [oneW_next, s_0, s_1, s_2, s_3, s_4, Hands, handsV, resultsV, oneOrTuple, argsT, ev, evs, evPairs, evOpt, closed, flat, nth, aCall, aEnter, notYield, aNilCheck, aLoad, partV, isAggD, aFieldAddr, aField, aExtract, Option.isNone, aBuiltin, cond_true, cond_false, cond_dec, if_true, if_false, List.length_cons, List.length_nil, forall_const, implies_true, List.append_nil, List.cons_append, List.nil_append, eq_self, Nat.reduceEqDiff, Nat.reduceAdd, Nat.reduceMul, Nat.reduceSub, Nat.reduceLT, Nat.reduceLeDiff, Nat.reduceBEq, reduceIte, reduceCtorEq, ti63, t63_desc, t63_size, ti25, t25_desc, ti22, t22_desc, t22_size, ti59, t59_desc, t59_size, ti60, t60_desc, t60_size, ti61, t61_desc, t61_size, ti3, t3_desc, t3_size, ti40, t40_desc, t40_size, ti33, t33_desc, t33_size, ti9, t9_desc, t9_size, wrow_now, wrow_all, eqnil25, fn17, fn26, fn27, fn28, fn29, fn38, fn39, fn12, fn14, fn15, box40, ptrTo]
  generalize hCd : ASt.new A _ = C
  have c1 : C.get A.next = some (.row [.int .i64 k, .string name, .int .u64 (a : Int), .int .u64 (b : Int)] 4 false) := by rw [← hCd, ASt.get_new, if_pos rfl]
  have hC : ∀ c, c < A.next → C.get c = A.get c := fun c hc => by rw [← hCd, ASt.get_new, if_neg (by omega)]
  have hCn : C.next = A.next + 1 := by rw [← hCd]; simp only [ASt.next_new]
  clear hCd
  simp only [oneW_next, s_0, s_1, s_2, s_3, s_4, Hands, handsV, resultsV, oneOrTuple, argsT, ev, evs, evPairs, evOpt, closed, flat, nth, aCall, aEnter, notYield, aNilCheck, aLoad, partV, isAggD, aFieldAddr, aField, aExtract, Option.isNone, aBuiltin, cond_true, cond_false, cond_dec, if_true, if_false, List.length_cons, List.length_nil, forall_const, implies_true, List.append_nil, List.cons_append, List.nil_append, eq_self, Nat.reduceEqDiff, Nat.reduceAdd, Nat.reduceMul, Nat.reduceSub, Nat.reduceLT, Nat.reduceLeDiff, Nat.reduceBEq, reduceIte, reduceCtorEq, ti63, t63_desc, t63_size, ti25, t25_desc, ti22, t22_desc, t22_size, ti59, t59_desc, t59_size, ti60, t60_desc, t60_size, ti61, t61_desc, t61_size, ti3, t3_desc, t3_size, ti40, t40_desc, t40_size, ti33, t33_desc, t33_size, ti9, t9_desc, t9_size, wrow_now, wrow_all, eqnil25, fn17, fn26, fn27, fn28, fn29, fn38, fn39, fn12, fn14, fn15, c1, d1, d2, d3]
  exact ⟨by omega, fun c hc _ => hC c hc⟩
end Go.Proofs.Ytpmpclieclcbdaa

/- The law 'WheelDue': names and deadlines, in plain terms. -/
namespace Go.Proofs.Ytpmpclieclcbdaa
open Go Go.AE Go.Sort

/-- The name of the timer with this number. -/
def nm (i : Nat) : ByteArray := ⟨#[UInt8.ofNat (65 + i)]⟩
theorem nm_byte {i : Nat} (h : i < 190) : (UInt8.ofNat (65 + i)).toNat = 65 + i := by
  rw [UInt8.toNat_ofNat']
  omega
theorem nm_inj {i j : Nat} (hi : i < 190) (hj : j < 190) (h : nm i = nm j) : i = j := by
  have h2 : UInt8.ofNat (65 + i) = UInt8.ofNat (65 + j) := by
    have := congrArg (fun b => b.data.toList) h
    simpa [nm] using this
  have := congrArg UInt8.toNat h2
  rw [nm_byte hi, nm_byte hj] at this
  omega

/-- These deadlines, by the timer's number; 0: none. -/
def Mt (M : TM) (ats : List Nat) : Prop := ∀ k a, M k = some a ↔ ∃ j, ats[j]? = some a ∧ a ≠ 0 ∧ k = nm j
theorem Mt.nil : Mt (fun _ => none) [] := fun k a => by simp
theorem get_snoc {α : Type} {l : List α} {x a : α} {j : Nat} (h : (l ++ [x])[j]? = some a) : l[j]? = some a ∨ (j = l.length ∧ a = x) := by
  by_cases hj : j < l.length
  · rw [List.getElem?_append_left hj] at h; exact .inl h
  · rw [List.getElem?_append_right (by omega)] at h
    have : j - l.length = 0 := by
      by_cases hz : j - l.length = 0
      · exact hz
      · rw [List.getElem?_eq_none (by simp; omega)] at h; cases h
    rw [this] at h
    exact .inr ⟨by omega, by simpa using h.symm⟩
theorem lt_of_get {α : Type} {l : List α} {x : α} {j : Nat} (h : l[j]? = some x) : j < l.length := by
  by_cases hj : j < l.length
  · exact hj
  · rw [List.getElem?_eq_none (by omega)] at h; cases h
theorem Mt.put {M : TM} {ats : List Nat} {t : Nat} (h : Mt M ats) (hl : ats.length < 190) (ht : t ≠ 0) : Mt (M.put (nm ats.length) t) (ats ++ [t]) := by
  intro k a
  unfold TM.put
  constructor
  · intro hk
    by_cases e : k = nm ats.length
    · rw [if_pos e] at hk
      cases hk
      exact ⟨ats.length, by simp, ht, e⟩
    · rw [if_neg e] at hk
      obtain ⟨j, h1, h2, h3⟩ := (h k a).1 hk
      exact ⟨j, by rw [List.getElem?_append_left (lt_of_get h1)]; exact h1, h2, h3⟩
  · rintro ⟨j, h1, h2, h3⟩
    rcases get_snoc h1 with h1 | ⟨rfl, rfl⟩
    · have hj := lt_of_get h1
      rw [if_neg fun e => by
        have := nm_inj (by omega) (by omega) (h3.symm.trans e)
        omega]
      exact (h k a).2 ⟨j, h1, h2, h3⟩
    · rw [if_pos h3]
theorem Mt.skip {M : TM} {ats : List Nat} (h : Mt M ats) : Mt M (ats ++ [0]) := by
  intro k a
  constructor
  · intro hk
    obtain ⟨j, h1, h2, h3⟩ := (h k a).1 hk
    exact ⟨j, by rw [List.getElem?_append_left (lt_of_get h1)]; exact h1, h2, h3⟩
  · rintro ⟨j, h1, h2, h3⟩
    rcases get_snoc h1 with h1 | ⟨rfl, rfl⟩
    · exact (h k a).2 ⟨j, h1, h2, h3⟩
    · exact absurd rfl h2

theorem Mt.few {M : TM} {ats : List Nat} (h : Mt M ats) (hl : ats.length ≤ 190) : Few M := by
  refine ⟨(List.range ats.length).map nm, by simp; omega, fun k hk => ?_⟩
  obtain ⟨a, ha⟩ := Option.isSome_iff_exists.1 hk
  obtain ⟨j, h1, _, h3⟩ := (h k a).1 ha
  exact List.mem_map.2 ⟨j, List.mem_range.2 (lt_of_get h1), h3.symm⟩

/-- How many of the first so many are above 0. -/
def above (n : Nat) (ats : List Nat) : Nat := ((ats.take n).filter fun a => decide (0 < a)).length
theorem above_zero {ats : List Nat} : above 0 ats = 0 := by simp [above]
theorem above_succ {n a : Nat} {ats : List Nat} (h : ats[n]? = some a) : above (n + 1) ats = above n ats + if 0 < a then 1 else 0 := by
  unfold above
  rw [List.take_add_one, h]
  by_cases ha : 0 < a
  · simp [ha]
  · simp [ha]
theorem above_le {n : Nat} {ats : List Nat} : above n ats ≤ n := by
  unfold above
  exact Nat.le_trans (List.length_filter_le _ _) (by rw [List.length_take]; omega)
theorem above_range {ats : List Nat} : ∀ {n : Nat}, n ≤ ats.length → ((List.range n).filter fun j => decide (0 < ats[j]?.getD 0)).length = above n ats
  | 0, _ => by simp [above]
  | n + 1, h => by
    have hg : ats[n]? = some ats[n] := List.getElem?_eq_getElem _
    rw [above_succ hg, ← above_range (n := n) (by omega), List.range_succ, List.filter_append, List.length_append]
    congr 1
    by_cases ha : 0 < ats[n]
    · simp [hg, ha]
    · simp [hg, ha]
theorem Mt.cnt {M : TM} {ats : List Nat} (h : Mt M ats) (hl : ats.length ≤ 190) : Cnt M (above ats.length ats) := by
  refine ⟨((List.range ats.length).filter fun j => decide (0 < ats[j]?.getD 0)).map nm, ?_, fun k => ?_, by rw [List.length_map, above_range (Nat.le_refl _)]⟩
  · unfold List.Nodup
    rw [List.pairwise_map]
    refine List.Pairwise.imp_of_mem ?_ ((List.nodup_range (n := ats.length)).filter _)
    intro i j hi hj hne e
    have hi' := List.mem_range.1 (List.mem_filter.1 hi).1
    have hj' := List.mem_range.1 (List.mem_filter.1 hj).1
    exact hne (nm_inj (by omega) (by omega) e)
  · constructor
    · intro hk
      obtain ⟨j, hj, rfl⟩ := List.mem_map.1 hk
      obtain ⟨h1, h2⟩ := List.mem_filter.1 hj
      have hg : ats[j]? = some (ats[j]'(List.mem_range.1 h1)) := List.getElem?_eq_getElem _
      rw [hg] at h2
      simp only [Option.getD_some, decide_eq_true_eq] at h2
      rw [(h (nm j) _).2 ⟨j, hg, by omega, rfl⟩]; rfl
    · intro hk
      obtain ⟨a, ha⟩ := Option.isSome_iff_exists.1 hk
      obtain ⟨j, h1, h2, rfl⟩ := (h k a).1 ha
      refine List.mem_map.2 ⟨j, List.mem_filter.2 ⟨List.mem_range.2 (lt_of_get h1), ?_⟩, rfl⟩
      rw [h1]
      simp only [Option.getD_some, decide_eq_true_eq]
      omega

/-- What is left behind an advance. -/
def clr (nw : Nat) (ats : List Nat) : List Nat := ats.map fun a => if a ≤ nw then 0 else a
theorem clr_get {nw j : Nat} {ats : List Nat} : (clr nw ats)[j]? = ats[j]?.map fun a => if a ≤ nw then 0 else a := by unfold clr; rw [List.getElem?_map]
theorem Mt.adv {M : TM} {ats : List Nat} (nw : Nat) (h : Mt M ats) : Mt (fun k => (M k).filter fun a => decide (nw < a)) (clr nw ats) := by
  intro k a
  constructor
  · intro hk
    obtain ⟨h1, h2⟩ := Option.filter_eq_some_iff.1 hk
    simp only [decide_eq_true_eq] at h2
    obtain ⟨j, g1, g2, g3⟩ := (h k a).1 h1
    refine ⟨j, by rw [clr_get, g1]; simp; omega, g2, g3⟩
  · rintro ⟨j, h1, h2, h3⟩
    rw [clr_get] at h1
    obtain ⟨b, hb, e⟩ := Option.map_eq_some_iff.1 h1
    have hba : ¬ b ≤ nw := fun hle => by rw [if_pos hle] at e; exact h2 e.symm
    rw [if_neg hba] at e
    subst e
    exact Option.filter_eq_some_iff.2 ⟨(h k b).2 ⟨j, hb, h2, h3⟩, by simp; omega⟩

/-- In the midst of the telling: those of these names are told. -/
def Told (ats : List Nat) (l : List ByteArray) (ats' : List Nat) : Prop := ats'.length = ats.length ∧ ∀ (j a : Nat), ats[j]? = some a → (nm j ∈ l → ats'[j]? = some 0) ∧ (nm j ∉ l → ats'[j]? = some a)
theorem Told.nil (ats : List Nat) : Told ats [] ats := ⟨rfl, fun j a h => ⟨fun hm => absurd hm (by simp), fun _ => h⟩⟩
theorem Told.snoc {ats ats' : List Nat} {l : List ByteArray} {n : Nat} (h : Told ats l ats') (hn : n < ats.length) (hl : ats.length ≤ 190) : Told ats (l ++ [nm n]) (ats'.set n 0) := by
  have hlen := h.1
  refine ⟨by rw [List.length_set]; exact hlen, fun j a hj => ?_⟩
  have hjl := lt_of_get hj
  by_cases e : n = j
  · subst e
    rw [List.getElem?_set_self (by rw [hlen]; exact hn)]
    exact ⟨fun _ => rfl, fun hm => absurd (by simp) hm⟩
  · rw [List.getElem?_set_ne e]
    have hne : nm j ≠ nm n := fun he => e (nm_inj (by omega) (by omega) he).symm
    obtain ⟨h1, h2⟩ := h.2 j a hj
    refine ⟨fun hm => h1 ?_, fun hm => h2 fun hl' => hm (by simp [hl'])⟩
    simpa [hne] using hm
theorem Told.all {M : TM} {ats ats' : List Nat} {ts : List (ByteArray × Nat)} {nw : Nat} (hm : Mt M ats) (hl : ats.length ≤ 190) (hts : Lists (fun k => (M k).filter fun a => decide (a ≤ nw)) ts) (h : Told ats (ts.map (·.1)) ats') : ats' = clr nw ats := by
  apply List.ext_getElem?
  intro j
  rw [clr_get]
  have hlen := h.1
  cases hj : ats[j]? with
  | none =>
    have : ats.length ≤ j := by
      by_cases hlt : j < ats.length
      · rw [List.getElem?_eq_getElem hlt] at hj; cases hj
      · omega
    rw [List.getElem?_eq_none (by omega)]; rfl
  | some a =>
    obtain ⟨k1, k2⟩ := h.2 j a hj
    simp only [Option.map_some]
    have hjl := lt_of_get hj
    by_cases hin : nm j ∈ ts.map (·.1)
    · rw [k1 hin]
      obtain ⟨y, hy, e⟩ := List.mem_map.1 hin
      have hD := (hts.mem y.1 y.2).1 hy
      obtain ⟨h1, h2⟩ := Option.filter_eq_some_iff.1 hD
      simp only [decide_eq_true_eq] at h2
      obtain ⟨i, g1, g2, g3⟩ := (hm _ _).1 h1
      have hij : j = i := nm_inj (by omega) (by have := lt_of_get g1; omega) (e.symm.trans g3)
      subst hij
      rw [hj] at g1
      cases g1
      rw [if_pos h2]
    · rw [k2 hin]
      congr 1
      by_cases hle : a ≤ nw
      · rw [if_pos hle]
        by_cases h0 : a = 0
        · exact h0
        · exact absurd (List.mem_map.2 ⟨(nm j, a), (hts.mem _ _).2 (Option.filter_eq_some_iff.2 ⟨(hm _ _).2 ⟨j, hj, h0, rfl⟩, by simpa using hle⟩), rfl⟩) hin
      · rw [if_neg hle]
end Go.Proofs.Ytpmpclieclcbdaa

/- Numbers in a slice; a name from a number, and back. -/
namespace Go.Proofs.Ytpmpclieclcbdaa
open Go Go.AE Go.Sort

variable {Z : Go.AE.Road}
set_option maxRecDepth 10000

def ucells (l : List Nat) : List Value := l.map fun (x : Nat) => .int .u64 (x : Int)
theorem ucells_len {l : List Nat} : (ucells l).length = l.length := by simp [ucells]
theorem nth_map {α β : Type} {f : α → β} : ∀ {l : List α} {i : Nat} {x : α}, l[i]? = some x → nth (l.map f) i = some (f x)
  | [], i, x, h => by simp at h
  | a :: l, 0, x, h => by simp at h; subst h; rfl
  | a :: l, i + 1, x, h => nth_map (l := l) (i := i) (x := x) (by simpa using h)
theorem ucells_nth {l : List Nat} {i x : Nat} (h : l[i]? = some x) : nth (ucells l) i = some (.int .u64 (x : Int)) := nth_map (f := fun (x : Nat) => Value.int .u64 (x : Int)) h

theorem len23 {A : ASt} {b : Option Addr} {n c : Nat} : aLen E0 23 (.slice b n c) A = some (.int .i64 (n : Int)) := len_sl ti23 t23_desc
theorem ix23 {b len cap k off : Nat} {kd : IntKind} (hk : k < len) : aIndexAddr E0 23 (.slice (some ⟨b, off, none⟩) len cap) (.int kd (k : Int)) = some (.pointer (some ⟨b, off + k, none⟩)) := by
  have := indexAddr_sl (A := { heap := .e, next := 0 }) ti23 t23_desc ti22 (kd := kd) (k := k) (b := b) (off := off) (len := len) (cap := cap) hk
  rwa [t22_size, Nat.mul_one] at this

/-- A slice of these numbers, in a block of its own. -/
def SliceU (A : ASt) (lo : Nat) (v : Value) (l : List Nat) : Prop :=
  (l = [] ∧ v = .slice none 0 0) ∨ ∃ b, v = .slice (some ⟨b, 0, none⟩) l.length unk ∧ A.get b = some (.row (ucells l) 1 true) ∧ lo ≤ b ∧ b < A.next
theorem SliceU.len {A A' : ASt} {lo : Nat} {v : Value} {l : List Nat} (h : SliceU A lo v l) : aLen E0 23 v A' = some (.int .i64 (l.length : Int)) := by
  rcases h with ⟨rfl, rfl⟩ | ⟨b, rfl, _⟩
  · exact len23
  · exact len23
theorem SliceU.ix {A : ASt} {lo : Nat} {v : Value} {l : List Nat} (h : SliceU A lo v l) {i : Nat} (hi : i < l.length) : ∃ b, v = .slice (some ⟨b, 0, none⟩) l.length unk ∧ aIndexAddr E0 23 v (.int .i64 (i : Int)) = some (.pointer (some ⟨b, i, none⟩)) ∧ A.get b = some (.row (ucells l) 1 true) ∧ lo ≤ b ∧ b < A.next := by
  rcases h with ⟨rfl, rfl⟩ | ⟨b, rfl, hb, h1, h2⟩
  · simp at hi
  · exact ⟨b, rfl, by have := ix23 (b := b) (cap := unk) (off := 0) (kd := .i64) hi; rwa [Nat.zero_add] at this, hb, h1, h2⟩
theorem SliceU.fr {A A' : ASt} {lo : Nat} {own : List Nat} {v : Value} {l : List Nat} (h : SliceU A lo v l) (hf : Fr own A A') (ho : ∀ b ∈ own, b < lo) : SliceU A' lo v l := by
  rcases h with ⟨rfl, rfl⟩ | ⟨b, rfl, hb, h1, h2⟩
  · exact .inl ⟨rfl, rfl⟩
  · exact .inr ⟨b, rfl, by rw [hf.get b h2 fun hm => by have := ho b hm; omega]; exact hb, h1, Nat.lt_of_lt_of_le h2 hf.next⟩
theorem ucells_over {l : List Nat} {n x : Nat} (hn : n < l.length) : over (ucells l) n [.int .u64 (x : Int)] = some (ucells (l.set n x)) := by
  unfold over
  have h1 : Nat.ble (n + [Value.int .u64 (x : Int)].length) (ucells l).length = true := Nat.ble_eq_true_of_le (by rw [ucells_len]; exact hn)
  rw [h1]
  show some _ = some _
  congr 1
  unfold ucells
  rw [List.map_set, List.set_eq_take_append_cons_drop, if_pos (by rw [List.length_map]; exact hn)]
  rfl
theorem SliceU.store {A : ASt} {lo b n x : Nat} {l : List Nat} (hb : A.get b = some (.row (ucells l) 1 true)) (hn : n < l.length) : aStore E0 22 (.pointer (some ⟨b, n, none⟩)) (.int .u64 (x : Int)) A = some (A.set b (.row (ucells (l.set n x)) 1 true)) := by
  simp only [aStore, hb, ti22, t22_size, Value.cells, ucells_over hn]
  rfl

theorem t22_bytes : t22.bytes = 8 := by kernel_rfl
theorem bs23 {x : Int} : aBuildSlice E0 23 1 [(0, .int .u64 x)] = some (.row [.int .u64 x] 1 false, fun id => .slice (some ⟨id, 0, none⟩) 1 1) := by
  simp only [aBuildSlice, ti23, t23_desc, ti22, t22_zero, t22_size]; rfl
theorem bs29 {x : Int} : aBuildSlice E0 29 1 [(0, .int .u8 x)] = some (.row [.int .u8 x] 1 false, fun id => .slice (some ⟨id, 0, none⟩) 1 1) := by
  simp only [aBuildSlice, ti29, t29_desc, ti5, t5_zero, t5_size]; rfl
theorem z22a : closed (.int .u64 0) = true := rfl
theorem z22b : Nat.beq (Value.int .u64 0).cells.toList.length 1 = true := rfl
theorem sg1 {a : Int} : singles [.int .u64 a] = true := rfl
theorem cut1 {x : Value} : (bif (List.take (1 * 1) (List.drop 0 [x])).length.beq (1 * 1) then some (List.take (1 * 1) (List.drop 0 [x])) else none) = some [x] := rfl
theorem isl22 : isIntD (.slice 22) = false := rfl
theorem app23_nil {A : ASt} {x : Nat} {a : Int} {tl : Bool} (hx : A.get x = some (.row [.int .u64 a] 1 tl)) :
    aAppend E0 23 23 (.slice none 0 0) (.slice (some ⟨x, 0, none⟩) 1 1) A = .val (.slice (some ⟨A.next, 0, none⟩) 1 unk) (A.new (.row [.int .u64 a] 1 true)) := by
  simp only [aAppend, ti23, t23_desc, ti22, lenV, t22_zero, t22_size, t22_bytes, srcCells, hx, cut, cut1, z22a, z22b, sg1, isl22]
  show appendTo 1 none 0 0 1 [.int .u64 a] A = _
  simp only [appendTo, grown_eq]
  rfl
theorem app23_row {A : ASt} {x b len : Nat} {c : List Value} {a : Int} {tl : Bool} (hx : A.get x = some (.row [.int .u64 a] 1 tl)) (hb : A.get b = some (.row c 1 true)) (hc : c.length = len) (hl : len ≤ 1000000) :
    aAppend E0 23 23 (.slice (some ⟨b, 0, none⟩) len unk) (.slice (some ⟨x, 0, none⟩) 1 1) A = .val (.slice (some ⟨A.next, 0, none⟩) (len + 1) unk) ((A.set b (.row [] 1 false)).new (.row (c ++ [.int .u64 a]) 1 true)) := by
  have h1 : Nat.blt ((len + 1) * (8 + 1)) 1000000000 = true := Nat.ble_eq_true_of_le (by omega)
  have h2 : Nat.ble (0 + len * 1) c.length = true := Nat.ble_eq_true_of_le (by omega)
  have h3 : Nat.ble (0 + (len + 1) * 1) c.length = false := by rw [nble]; simp; omega
  have h4 : Nat.beq (0 + len * 1) c.length = true := by rw [nbeq]; simp; omega
  simp only [aAppend, ti23, t23_desc, ti22, lenV, t22_zero, t22_size, t22_bytes, srcCells, hx, cut, cut1, z22a, z22b, sg1, isl22, h1]
  show appendTo 1 (some ⟨b, 0, none⟩) len unk 1 [.int .u64 a] A = _
  simp only [appendTo, hb, h2, h3, h4, grown_eq, Nat.beq_refl, Bool.and_self, cond_true, cond_false, List.take_zero, List.drop_zero]
  rfl
/-- One more at a slice's end. -/
theorem SliceU.app {A : ASt} {lo x : Nat} {v : Value} {l : List Nat} {a : Nat} {tl : Bool} (h : SliceU A lo v l) (hx : A.get x = some (.row [.int .u64 (a : Int)] 1 tl)) (hl : l.length ≤ 1000000) (hlo : lo ≤ A.next) :
    ∃ v' A', aAppend E0 23 23 v (.slice (some ⟨x, 0, none⟩) 1 1) A = .val v' A' ∧ SliceU A' lo v' (l ++ [a]) ∧ A.next ≤ A'.next ∧ ∀ b, b < lo → A'.get b = A.get b := by
  rcases h with ⟨rfl, rfl⟩ | ⟨b, rfl, hb, h1, h2⟩
  · refine ⟨_, _, app23_nil hx, .inr ⟨A.next, rfl, by rw [ASt.get_new, if_pos rfl]; rfl, hlo, by rw [ASt.next_new]; omega⟩, by rw [ASt.next_new]; omega, fun b hb => by rw [ASt.get_new, if_neg (by omega)]⟩
  · refine ⟨_, _, app23_row hx hb ucells_len hl, .inr ⟨A.next, by rw [List.length_append]; rfl, ?_, hlo, by rw [ASt.next_new, ASt.next_set]; omega⟩, by rw [ASt.next_new, ASt.next_set]; omega, fun b' hb' => ?_⟩
    · rw [ASt.get_new, ASt.next_set, if_pos rfl]
      simp [ucells]
    · rw [ASt.get_new, ASt.next_set, if_neg (by omega), ASt.get_set, if_neg (by omega)]

/-! ### bytes -/
theorem fc35 {s : Spans} {x : Operand} : freshOp (withRo E0 s) (.convert 3 5 x) = false := by kernel_rfl
theorem fc53 {s : Spans} {x : Operand} : freshOp (withRo E0 s) (.convert 5 3 x) = false := by kernel_rfl
theorem fc29 {s : Spans} {x : Operand} : freshOp (withRo E0 s) (.convert 29 9 x) = false := by kernel_rfl
theorem qc35 {s : Spans} {x : Operand} : quietOp (withRo E0 s) (.convert 3 5 x) = true := by kernel_rfl
theorem qc53 {s : Spans} {x : Operand} : quietOp (withRo E0 s) (.convert 5 3 x) = true := by kernel_rfl
theorem qc29 {s : Spans} {x : Operand} : quietOp (withRo E0 s) (.convert 29 9 x) = true := by kernel_rfl
theorem wcv {s : Spans} {a b : TypeId} {x : Value} {A : ASt} : aConvert (withRo E0 s) a b x A = aConvert E0 a b x A := congrArg (fun x => x) rfl
theorem wbs {s : Spans} {t : TypeId} {n : Nat} {l : List (Nat × Value)} : aBuildSlice (withRo E0 s) t n l = aBuildSlice E0 t n l := congrArg (fun x => x) rfl
theorem wst {s : Spans} {t : TypeId} {p v : Value} {A : ASt} : aStore (withRo E0 s) t p v A = aStore E0 t p v A := congrArg (fun x => x) rfl
theorem widx {s : Spans} {t : TypeId} {v x : Value} : aIndex (withRo E0 s) t v x = aIndex E0 t v x := congrArg (fun x => x) rfl
theorem cv35 {n : Int} {A : ASt} : aConvert E0 3 5 (.int .i64 n) A = some (.int .u8 (IntKind.u8.wrap n)) := conv_int ti3 ti5 t5_desc
theorem cv53 {n : Int} {A : ASt} : aConvert E0 5 3 (.int .u8 n) A = some (.int .i64 (IntKind.i64.wrap n)) := conv_int ti5 ti3 t3_desc
theorem wrap8 {i : Nat} (h : i < 190) : IntKind.u8.wrap (IntKind.i64.wrap (65 + (i : Int))) = ((65 + i : Nat) : Int) := by
  have : IntKind.i64.wrap (65 + (i : Int)) = ((65 + i : Nat) : Int) := by rw [IntKind.wrap_i64]; omega
  rw [this]
  show ((65 + i : Nat) : Int) % 256 = _
  omega
theorem cv29 {i b : Nat} {A : ASt} (hi : i < 190) (hb : A.get b = some (.row [.int .u8 ((65 + i : Nat) : Int)] 1 false)) : aConvert E0 29 9 (.slice (some ⟨b, 0, none⟩) 1 1) A = some (.string (nm i)) := by
  refine conv_bytes ti29 ti9 t9_desc t29_desc ti5 t5_desc hb (r := [.int .u8 ((65 + i : Nat) : Int)]) rfl (bs := [UInt8.ofNat (65 + i)]) ?_
  rfl
theorem cv29e {b : Nat} : aConvert E0 29 9 (.slice (some ⟨b, 0, none⟩) 1 1) { heap := .e, next := 0 } = none := by
  simp only [aConvert, ti29, ti9, t9_desc, t29_desc, ti5, t5_desc, get_empty]
theorem ix9 {i : Nat} (hi : i < 190) : aIndex E0 9 (.string (nm i)) (.int .i64 0) = some (.int .u8 ((65 + i : Nat) : Int)) := by
  have := idx_string (E := E0) ti9 t9_desc (kd := .i64) (s := nm i) (k := 0) (b := UInt8.ofNat (65 + i)) rfl
  rw [nm_byte hi] at this
  exact this
end Go.Proofs.Ytpmpclieclcbdaa

/- Scripts, names, two wheels. -/
namespace Go.Proofs.Ytpmpclieclcbdaa
open Go Go.AE Go.Sort

variable {Z : Go.AE.Road}
set_option maxRecDepth 10000
set_option maxHeartbeats 8000000

theorem t40_zero : t40.zero = some (.agg #[.int .i64 0, .string ByteArray.empty, .int .u64 0, .int .u64 0]) := by kernel_rfl
theorem alloc40 : aAlloc E0 40 = some (.row [.int .i64 0, .string ByteArray.empty, .int .u64 0, .int .u64 0] 4 false, ptrTo) := by
  simp only [aAlloc, ti40, t40_zero, t40_size]; rfl
theorem cut4 {a b c d : Value} : cut [a, b, c, d] 0 4 = some [a, b, c, d] := congrArg (fun x => x) rfl
theorem walloc {s : Spans} {t : TypeId} : aAlloc (withRo E0 s) t = aAlloc E0 t := congrArg (fun x => x) rfl
theorem store40 {A : ASt} {b : Nat} {c0 c1 c2 c3 : Value} {tl : Bool} {k : Int} {n : ByteArray} {a c : Nat} (hb : A.get b = some (.row [c0, c1, c2, c3] 4 tl)) : aStore E0 40 (.pointer (some ⟨b, 0, none⟩)) (.agg #[.int .i64 k, .string n, .int .u64 (a : Int), .int .u64 (c : Int)]) A = some (A.set b (.row [.int .i64 k, .string n, .int .u64 (a : Int), .int .u64 (c : Int)] 4 tl)) := by
  simp only [aStore, hb, ti40, t40_size, Value.cells]
  rfl
theorem putW_abs {n : Nat} {T : Tmps} {d : Tmp} {v : Value} {K : Tmps → Prop} (P : Tmps → Prop) (hd : d < n) (hP : P (T.put d (some v))) (h : ∀ T', P T' → K T') : putW n T (some d) v K := ⟨hd, h _ hP⟩
theorem box38 {k a : Value} : aBox E0 38 (.agg #[k, a]) = some (.row [k, a] 2 false, ptrTo) := by
  simp only [aBox, ti38, t38_size]; rfl
theorem wix38 {b k off : Nat} (hk : k < 2) : aIndexAddr E0 38 (.pointer (some ⟨b, off, none⟩)) (.int .i64 (k : Int)) = some (.pointer (some ⟨b, off + k, none⟩)) := by
  have := indexAddr_arr (A := { heap := .e, next := 0 }) ti38 t38_desc ti22 (kd := .i64) (k := k) (b := b) (off := off) hk
  rw [t22_size, Nat.mul_one] at this
  exact this
theorem lat_lt {n b : Nat} (hn : n < 18446744073709551616) : lat n b < 18446744073709551616 := by
  unfold lat
  split <;> omega
theorem lat_ge {n b : Nat} (hn : n < 18446744073709551616) : n ≤ lat n b := by
  unfold lat
  split <;> omega

/-- At most so many names. -/
def Upto (M : TM) (n : Nat) : Prop := ∃ l : List ByteArray, l.length ≤ n ∧ ∀ k, (M k).isSome = true → k ∈ l
theorem Upto.mono {M : TM} {n m : Nat} (h : Upto M n) (hn : n ≤ m) : Upto M m := let ⟨l, h1, h2⟩ := h; ⟨l, Nat.le_trans h1 hn, h2⟩
theorem Upto.few {M : TM} {n : Nat} (h : Upto M n) (hn : n ≤ 1000) : Few M := let ⟨l, h1, h2⟩ := h; ⟨l, Nat.le_trans h1 hn, h2⟩
theorem Upto.del {M : TM} {n : Nat} (h : Upto M n) (k : ByteArray) : Upto (M.del k) n := by
  obtain ⟨l, h1, h2⟩ := h
  refine ⟨l, h1, fun j hj => h2 j ?_⟩
  unfold TM.del at hj
  split at hj
  · cases hj
  · exact hj
theorem Upto.put {M : TM} {n : Nat} (h : Upto M n) (k : ByteArray) (a : Nat) : Upto (M.put k a) (n + 1) := by
  obtain ⟨l, h1, h2⟩ := h
  refine ⟨k :: l, by simp; omega, fun j hj => ?_⟩
  unfold TM.put at hj
  by_cases e : j = k
  · simp [e]
  · rw [if_neg e] at hj
    simp [h2 j hj]
theorem Upto.filter {M : TM} {n : Nat} (h : Upto M n) (p : Nat → Bool) : Upto (fun k => (M k).filter p) n := by
  obtain ⟨l, h1, h2⟩ := h
  refine ⟨l, h1, fun j hj => h2 j ?_⟩
  have hj : ((M j).filter p).isSome = true := hj
  cases hm : M j with
  | none => rw [hm] at hj; cases hj
  | some a => rfl

theorem cnt_upto {M : TM} {n k : Nat} (h : Cnt M n) (hu : Upto M k) : n ≤ k := by
  obtain ⟨l, h1, h2, h3⟩ := h
  obtain ⟨r, g1, g2⟩ := hu
  have := nodup_leG h1 fun x hx => g2 x ((h2 x).1 hx)
  omega
theorem WheelAt.nn {A : ASt} {W all now : Nat} {ms : List Nat} {M : TM} (h : WheelAt A W all ms now M) {b : Nat} (hb : A.get b = none) : b ∉ W :: all :: ms := by
  intro hm
  simp only [List.mem_cons] at hm
  rcases hm with e | e | e
  · have := h.row
    rw [← e, hb] at this
    cases this
  · obtain ⟨l, ck, hl, _⟩ := h.allm
    rw [← e, hb] at hl
    cases hl
  · obtain ⟨j, hj⟩ := List.getElem?_of_mem e
    obtain ⟨l, ck, hl, _⟩ := h.slot j b hj
    rw [hb] at hl
    cases hl

/-- Two wheels, side by side. -/
structure Duo (A : ASt) (W1 a1 : Nat) (m1 : List Nat) (W2 a2 : Nat) (m2 : List Nat) (n1 n2 : Nat) (M1 M2 : TM) : Prop where
  w1 : WheelAt A W1 a1 m1 n1 M1
  w2 : WheelAt A W2 a2 m2 n2 M2
  dis : ∀ b ∈ W1 :: a1 :: m1, b ∉ W2 :: a2 :: m2
section
variable {A A' : ASt} {W1 a1 W2 a2 n1 n2 : Nat} {m1 m2 : List Nat} {M1 M2 : TM}
theorem Duo.left {n' : Nat} {M' : TM} (h : Duo A W1 a1 m1 W2 a2 m2 n1 n2 M1 M2) (f : Fr (W1 :: a1 :: m1) A A') (hw : WheelAt A' W1 a1 m1 n' M') : Duo A' W1 a1 m1 W2 a2 m2 n' n2 M' M2 :=
  ⟨hw, h.w2.congr f.next (fun b hb => f.get b (h.w2.below b hb) fun hm => h.dis b hm hb), h.dis⟩
theorem Duo.right {n' : Nat} {M' : TM} (h : Duo A W1 a1 m1 W2 a2 m2 n1 n2 M1 M2) (f : Fr (W2 :: a2 :: m2) A A') (hw : WheelAt A' W2 a2 m2 n' M') : Duo A' W1 a1 m1 W2 a2 m2 n1 n' M1 M' :=
  ⟨h.w1.congr f.next (fun b hb => f.get b (h.w1.below b hb) fun hm => h.dis b hb hm), hw, h.dis⟩
theorem Duo.still (h : Duo A W1 a1 m1 W2 a2 m2 n1 n2 M1 M2) (hn : A.next ≤ A'.next) (hg : ∀ b, b < A.next → A'.get b = A.get b) : Duo A' W1 a1 m1 W2 a2 m2 n1 n2 M1 M2 :=
  ⟨h.w1.congr hn (fun b hb => hg b (h.w1.below b hb)), h.w2.congr hn (fun b hb => hg b (h.w2.below b hb)), h.dis⟩
theorem Duo.fr (h : Duo A W1 a1 m1 W2 a2 m2 n1 n2 M1 M2) (f : Fr [] A A') : Duo A' W1 a1 m1 W2 a2 m2 n1 n2 M1 M2 := h.still f.next fun b hb => f.get b hb (by simp)
end
theorem SliceAt.fr {A A' : ASt} {lo : Nat} {own : List Nat} {v : Value} {ts : List (ByteArray × Nat)} (h : SliceAt A lo v ts) (hf : Fr own A A') (ho : ∀ b ∈ own, b < lo) : SliceAt A' lo v ts := by
  rcases h with h | ⟨b, cap, rest, tl, rfl, hb, h1, h2, h3⟩
  · exact .inl h
  · exact .inr ⟨b, cap, rest, tl, rfl, by rw [hf.get b h2 fun hm => by have := ho b hm; omega]; exact hb, h1, Nat.lt_of_lt_of_le h2 hf.next, h3⟩
theorem SliceAt.low {A : ASt} {lo lo' : Nat} {v : Value} {ts : List (ByteArray × Nat)} (h : SliceAt A lo v ts) (hl : lo' ≤ lo) : SliceAt A lo' v ts := by
  rcases h with h | ⟨b, cap, rest, tl, e, hb, h1, h2⟩
  · exact .inl h
  · exact .inr ⟨b, cap, rest, tl, e, hb, Nat.le_trans hl h1, h2⟩
theorem SliceAt.ix2 {A : ASt} {lo : Nat} {v : Value} {ts : List (ByteArray × Nat)} (h : SliceAt A lo v ts) (hne : 0 < ts.length) : ∃ b rest tl, (∀ i : Nat, i < ts.length → aIndexAddr E0 30 v (.int .i64 (i : Int)) = some (.pointer (some ⟨b, i * 2, none⟩))) ∧ A.get b = some (.row (tcells ts ++ rest) 2 tl) ∧ lo ≤ b := by
  rcases h with ⟨rfl, rfl⟩ | ⟨b, cap, rest, tl, rfl, hb, h1, _⟩
  · simp at hne
  · exact ⟨b, rest, tl, fun i hi => by have := ix30 (b := b) (cap := cap) (off := 0) hi; rwa [Nat.zero_add] at this, hb, h1⟩
theorem vq33 {k : ByteArray} {a : Nat} : valEq (.agg #[.string k, .int .u64 (a : Int)]) (.agg #[.string k, .int .u64 (a : Int)]) = true := by
  unfold valEq vEq
  show (vStep (vStep (vStep flatEq)) (.string k) (.string k) && (vStep (vStep (vStep flatEq)) (.int .u64 (a : Int)) (.int .u64 (a : Int)) && true)) = true
  simp [vStep, flatEq, bytesEq_iff]
theorem SliceAt.ve {A : ASt} {lo : Nat} {v : Value} {ts : List (ByteArray × Nat)} (h : SliceAt A lo v ts) : valEq v v = true := by
  rcases h with ⟨_, rfl⟩ | ⟨b, cap, _, _, rfl, _⟩
  · exact valEq_nilSlice
  · exact valEq_slice
theorem ro_none {s : Spans} {b : Nat} (h : s.length ≤ b) : (withRo E0 s).ro b = none := by
  show roTab s b = none
  unfold roTab
  rw [List.getElem?_eq_none h]; rfl

end Go.Proofs.Ytpmpclieclcbdaa

/- The document's list of timers: what is read of it. -/
namespace Go.Proofs.Ytpmpclieclcbdaa
open Go Go.AE Go.Sort

variable {Z : Go.AE.Road}
set_option maxRecDepth 10000
set_option maxHeartbeats 4000000

theorem len45 {A : ASt} {b : Option Addr} {n c : Nat} : aLen E0 45 (.slice b n c) A = some (.int .i64 (n : Int)) := len_sl ti45 t45_desc
theorem ix45 {b len cap k off : Nat} {kd : IntKind} (hk : k < len) : aIndexAddr E0 45 (.slice (some ⟨b, off, none⟩) len cap) (.int kd (k : Int)) = some (.pointer (some ⟨b, off + k * 2, none⟩)) := by
  have := indexAddr_sl (A := { heap := .e, next := 0 }) ti45 t45_desc ti53 (kd := kd) (k := k) (b := b) (off := off) (len := len) (cap := cap) hk
  rwa [t53_size] at this

/-- A slice that holds these timers, wherever it lies. -/
def Reads (A : ASt) (v : Value) (l : List (ByteArray × Nat)) : Prop :=
  (l = [] ∧ ((∃ n, v = .slice none 0 n) ∨ v = zslice)) ∨ ∃ b o cap c sz tl, v = .slice (some ⟨b, o, none⟩) l.length cap ∧ A.get b = some (.row c sz tl) ∧ b < A.next ∧ ∀ (i : Nat) (t : ByteArray × Nat), l[i]? = some t → nth c (o + i * 2) = some (.string t.1) ∧ nth c (o + i * 2 + 1) = some (.int .u64 (t.2 : Nat))
theorem Reads.len {A A' : ASt} {v : Value} {l : List (ByteArray × Nat)} (h : Reads A v l) : aLen E0 45 v A' = some (.int .i64 (l.length : Int)) := by
  rcases h with ⟨rfl, ⟨n, rfl⟩ | rfl⟩ | ⟨b, o, cap, c, sz, tl, rfl, _⟩
  · exact len45
  · exact len45
  · exact len45
theorem Reads.ix {A : ASt} {v : Value} {l : List (ByteArray × Nat)} (h : Reads A v l) {i : Nat} {t : ByteArray × Nat} (ht : l[i]? = some t) : ∃ b p c sz tl, aIndexAddr E0 45 v (.int .i64 (i : Int)) = some (.pointer (some ⟨b, p, none⟩)) ∧ A.get b = some (.row c sz tl) ∧ b < A.next ∧ nth c p = some (.string t.1) ∧ nth c (p + 1) = some (.int .u64 (t.2 : Nat)) := by
  have hi : i < l.length := lt_of_get ht
  rcases h with ⟨rfl, _⟩ | ⟨b, o, cap, c, sz, tl, rfl, hb, hn, hx⟩
  · simp at hi
  · obtain ⟨g1, g2⟩ := hx i t ht
    exact ⟨b, o + i * 2, c, sz, tl, ix45 hi, hb, hn, g1, g2⟩
theorem Reads.fr {A A' : ASt} {own : List Nat} {v : Value} {l : List (ByteArray × Nat)} (h : Reads A v l) (hf : Fr own A A') (ho : ∀ b o n c, v = .slice (some ⟨b, o, none⟩) n c → b ∉ own) : Reads A' v l := by
  rcases h with h | ⟨b, o, cap, c, sz, tl, rfl, hb, hn, hx⟩
  · exact .inl h
  · exact .inr ⟨b, o, cap, c, sz, tl, rfl, by rw [hf.get b hn (ho b o _ _ rfl)]; exact hb, Nat.lt_of_lt_of_le hn hf.next, hx⟩

/-- Is the name there? -/
theorem find_spec {A : ASt} {v : Value} {l : List (ByteArray × Nat)} {k : ByteArray} (h : Reads A v l) (hl : l.length ≤ 1000) :
    CallW Z Try.prog 31 [v, .string k] A (fun r A' => A' = A ∧ ∃ n : Int, r = .int .i64 n ∧ (n ≥ 0 ↔ k ∈ l.map (·.1))) := by
  refine CallW.of_code E0_ok E0_ro fn31 rfl (n := 20) rfl (rs := [.tmp 4]) rfl (by simp) (codeW_ok E0_ok E0_ro ?_)
  have hlv : ∀ A', aLen E0 45 v A' = some (.int .i64 (l.length : Int)) := fun _ => h.len
  simp only [oneW_next, s_0, s_1, s_2, s_3, s_4, Hands, handsV, resultsV, oneOrTuple, argsT, ev, evs, evPairs, evOpt, closed, flat, nth, aCall, aEnter, notYield, aNilCheck, aLoad, partV, isAggD, aFieldAddr, aField, aExtract, Option.isNone, aBuiltin, cond_true, cond_false, cond_dec, if_true, if_false, List.length_cons, List.length_nil, forall_const, implies_true, List.append_nil, List.cons_append, List.nil_append, eq_self, Nat.reduceEqDiff, Nat.reduceAdd, Nat.reduceMul, Nat.reduceSub, Nat.reduceLT, Nat.reduceLeDiff, Nat.reduceBEq, reduceIte, reduceCtorEq, ti63, t63_desc, t63_size, ti25, t25_desc, ti22, t22_desc, t22_size, ti59, t59_desc, t59_size, ti60, t60_desc, t60_size, ti61, t61_desc, t61_size, ti3, t3_desc, t3_size, ti40, t40_desc, t40_size, ti33, t33_desc, t33_size, ti9, t9_desc, t9_size, wrow_now, wrow_all, eqnil25, fn17, fn26, fn27, fn28, fn29, fn38, fn39, fn12, fn14, fn15]
  refine CodeW.mono (Q := fun o => (∃ T', o = .fr ⟨.exit 0, T', A⟩ ∧ k ∉ l.map (·.1)) ∨ ∃ T' i, o = .fr ⟨.ret, T', A⟩ ∧ tget T' 4 = .int .i64 ((i : Nat) : Int) ∧ k ∈ l.map (·.1)) ?_ ?_
  · refine CodeW.loopR (k := l.length) (fun n T A' => ∃ i, n = l.length - i ∧ i ≤ l.length ∧ tget T 5 = .int .i64 ((i : Nat) : Int) ∧ tget T 0 = v ∧ tget T 1 = .string k ∧ k ∉ (l.take i).map (·.1) ∧ A' = A) ?_ ⟨0, rfl, by omega, ?_, ?_, ?_, by simp, rfl⟩
    · rintro n T A1 ⟨i, rfl, hi, u5, u0, u1, hno, rfl⟩
      refine codeW_ok E0_ok E0_ro ?_
      by_cases e1 : i < l.length
      · have d1 : ((i : Int) < (l.length : Int)) = True := eq_true (by omega)
        have hx : l[i]? = some l[i] := List.getElem?_eq_getElem _
        generalize l[i] = t at hx
        obtain ⟨b, p, c, sz, tl, hix, hb, _, gn, ga⟩ := h.ix hx
        simp only [oneW_next, s_0, s_1, s_2, s_3, s_4, Hands, handsV, resultsV, oneOrTuple, argsT, ev, evs, evPairs, evOpt, closed, flat, nth, aCall, aEnter, notYield, aNilCheck, aLoad, partV, isAggD, aFieldAddr, aField, aExtract, Option.isNone, aBuiltin, cond_true, cond_false, cond_dec, if_true, if_false, List.length_cons, List.length_nil, forall_const, implies_true, List.append_nil, List.cons_append, List.nil_append, eq_self, Nat.reduceEqDiff, Nat.reduceAdd, Nat.reduceMul, Nat.reduceSub, Nat.reduceLT, Nat.reduceLeDiff, Nat.reduceBEq, reduceIte, reduceCtorEq, ti63, t63_desc, t63_size, ti25, t25_desc, ti22, t22_desc, t22_size, ti59, t59_desc, t59_size, ti60, t60_desc, t60_size, ti61, t61_desc, t61_size, ti3, t3_desc, t3_size, ti40, t40_desc, t40_size, ti33, t33_desc, t33_size, ti9, t9_desc, t9_size, wrow_now, wrow_all, eqnil25, fn17, fn26, fn27, fn28, fn29, fn38, fn39, fn12, fn14, fn15, u5, u0, u1, hlv, d1, hix, hb, gn, s_eql, ti53, t53_desc]
        refine brW_dec (fun he => ?_) (fun he => ?_)
        · simp only [oneW_next, s_0, s_1, s_2, s_3, s_4, Hands, handsV, resultsV, oneOrTuple, argsT, ev, evs, evPairs, evOpt, closed, flat, nth, aCall, aEnter, notYield, aNilCheck, aLoad, partV, isAggD, aFieldAddr, aField, aExtract, Option.isNone, aBuiltin, cond_true, cond_false, cond_dec, if_true, if_false, List.length_cons, List.length_nil, forall_const, implies_true, List.append_nil, List.cons_append, List.nil_append, eq_self, Nat.reduceEqDiff, Nat.reduceAdd, Nat.reduceMul, Nat.reduceSub, Nat.reduceLT, Nat.reduceLeDiff, Nat.reduceBEq, reduceIte, reduceCtorEq, ti63, t63_desc, t63_size, ti25, t25_desc, ti22, t22_desc, t22_size, ti59, t59_desc, t59_size, ti60, t60_desc, t60_size, ti61, t61_desc, t61_size, ti3, t3_desc, t3_size, ti40, t40_desc, t40_size, ti33, t33_desc, t33_size, ti9, t9_desc, t9_size, wrow_now, wrow_all, eqnil25, fn17, fn26, fn27, fn28, fn29, fn38, fn39, fn12, fn14, fn15, u5]
          exact .inr ⟨_, i, rfl, by simp only [tget_put, Nat.reduceEqDiff, if_false, if_true, reduceIte, and_self], List.mem_map.2 ⟨t, List.mem_of_getElem? hx, he⟩⟩
        · simp only [oneW_next, s_0, s_1, s_2, s_3, s_4, Hands, handsV, resultsV, oneOrTuple, argsT, ev, evs, evPairs, evOpt, closed, flat, nth, aCall, aEnter, notYield, aNilCheck, aLoad, partV, isAggD, aFieldAddr, aField, aExtract, Option.isNone, aBuiltin, cond_true, cond_false, cond_dec, if_true, if_false, List.length_cons, List.length_nil, forall_const, implies_true, List.append_nil, List.cons_append, List.nil_append, eq_self, Nat.reduceEqDiff, Nat.reduceAdd, Nat.reduceMul, Nat.reduceSub, Nat.reduceLT, Nat.reduceLeDiff, Nat.reduceBEq, reduceIte, reduceCtorEq, ti63, t63_desc, t63_size, ti25, t25_desc, ti22, t22_desc, t22_size, ti59, t59_desc, t59_size, ti60, t60_desc, t60_size, ti61, t61_desc, t61_size, ti3, t3_desc, t3_size, ti40, t40_desc, t40_size, ti33, t33_desc, t33_size, ti9, t9_desc, t9_size, wrow_now, wrow_all, eqnil25, fn17, fn26, fn27, fn28, fn29, fn38, fn39, fn12, fn14, fn15, u5, wrap_succ (show i < 1000000 by omega)]
          refine ⟨l.length - (i + 1), by omega, i + 1, rfl, by omega, rfl, u0, u1, ?_⟩
          rw [List.take_add_one, hx]
          simp only [Option.toList, List.map_append, List.map_cons, List.map_nil, List.mem_append, List.mem_cons, List.not_mem_nil, or_false, not_or]
          exact ⟨hno, fun e => he e.symm⟩
      · have d1 : ((i : Int) < (l.length : Int)) = False := eq_false (by omega)
        simp only [oneW_next, s_0, s_1, s_2, s_3, s_4, Hands, handsV, resultsV, oneOrTuple, argsT, ev, evs, evPairs, evOpt, closed, flat, nth, aCall, aEnter, notYield, aNilCheck, aLoad, partV, isAggD, aFieldAddr, aField, aExtract, Option.isNone, aBuiltin, cond_true, cond_false, cond_dec, if_true, if_false, List.length_cons, List.length_nil, forall_const, implies_true, List.append_nil, List.cons_append, List.nil_append, eq_self, Nat.reduceEqDiff, Nat.reduceAdd, Nat.reduceMul, Nat.reduceSub, Nat.reduceLT, Nat.reduceLeDiff, Nat.reduceBEq, reduceIte, reduceCtorEq, ti63, t63_desc, t63_size, ti25, t25_desc, ti22, t22_desc, t22_size, ti59, t59_desc, t59_size, ti60, t60_desc, t60_size, ti61, t61_desc, t61_size, ti3, t3_desc, t3_size, ti40, t40_desc, t40_size, ti33, t33_desc, t33_size, ti9, t9_desc, t9_size, wrow_now, wrow_all, eqnil25, fn17, fn26, fn27, fn28, fn29, fn38, fn39, fn12, fn14, fn15, u5, u0, hlv, d1]
        rw [List.take_of_length_le (by omega)] at hno
        exact .inl ⟨_, rfl, hno⟩
    all_goals simp only [tget_put, Nat.reduceEqDiff, if_false, if_true, reduceIte, and_self]
    all_goals rfl
  · rintro o (⟨T', rfl, hno⟩ | ⟨T', i, rfl, u4, hin⟩)
    · simp only [oneW_next, s_0, s_1, s_2, s_3, s_4, Hands, handsV, resultsV, oneOrTuple, argsT, ev, evs, evPairs, evOpt, closed, flat, nth, aCall, aEnter, notYield, aNilCheck, aLoad, partV, isAggD, aFieldAddr, aField, aExtract, Option.isNone, aBuiltin, cond_true, cond_false, cond_dec, if_true, if_false, List.length_cons, List.length_nil, forall_const, implies_true, List.append_nil, List.cons_append, List.nil_append, eq_self, Nat.reduceEqDiff, Nat.reduceAdd, Nat.reduceMul, Nat.reduceSub, Nat.reduceLT, Nat.reduceLeDiff, Nat.reduceBEq, reduceIte, reduceCtorEq, ti63, t63_desc, t63_size, ti25, t25_desc, ti22, t22_desc, t22_size, ti59, t59_desc, t59_size, ti60, t60_desc, t60_size, ti61, t61_desc, t61_size, ti3, t3_desc, t3_size, ti40, t40_desc, t40_size, ti33, t33_desc, t33_size, ti9, t9_desc, t9_size, wrow_now, wrow_all, eqnil25, fn17, fn26, fn27, fn28, fn29, fn38, fn39, fn12, fn14, fn15]
      exact ⟨-1, rfl, ⟨fun h => absurd h (by omega), fun h => absurd h hno⟩⟩
    · simp only [oneW_next, s_0, s_1, s_2, s_3, s_4, Hands, handsV, resultsV, oneOrTuple, argsT, ev, evs, evPairs, evOpt, closed, flat, nth, aCall, aEnter, notYield, aNilCheck, aLoad, partV, isAggD, aFieldAddr, aField, aExtract, Option.isNone, aBuiltin, cond_true, cond_false, cond_dec, if_true, if_false, List.length_cons, List.length_nil, forall_const, implies_true, List.append_nil, List.cons_append, List.nil_append, eq_self, Nat.reduceEqDiff, Nat.reduceAdd, Nat.reduceMul, Nat.reduceSub, Nat.reduceLT, Nat.reduceLeDiff, Nat.reduceBEq, reduceIte, reduceCtorEq, ti63, t63_desc, t63_size, ti25, t25_desc, ti22, t22_desc, t22_size, ti59, t59_desc, t59_size, ti60, t60_desc, t60_size, ti61, t61_desc, t61_size, ti3, t3_desc, t3_size, ti40, t40_desc, t40_size, ti33, t33_desc, t33_size, ti9, t9_desc, t9_size, wrow_now, wrow_all, eqnil25, fn17, fn26, fn27, fn28, fn29, fn38, fn39, fn12, fn14, fn15, u4]
      exact ⟨i, rfl, ⟨fun _ => hin, fun _ => by omega⟩⟩

/-- How many are due, of a list in order: as many as the first so many that are all due, and the next one is not. -/
theorem due_ref {A : ASt} {v : Value} {l : List (ByteArray × Nat)} {now : Nat} (h : Reads A v l) (hl : l.length ≤ 1000) :
    CallW Z Try.prog 33 [v, .int .u64 (now : Int)] A (fun r A' => A' = A ∧ ∃ n : Nat, r = .int .i64 (n : Int) ∧ n ≤ l.length ∧ (∀ (i : Nat) (t : ByteArray × Nat), i < n → l[i]? = some t → t.2 ≤ now) ∧ ∀ t : ByteArray × Nat, l[n]? = some t → now < t.2) := by
  refine CallW.of_code E0_ok E0_ro fn33 rfl (n := 22) rfl (rs := [.tmp 4]) rfl (by simp) (codeW_ok E0_ok E0_ro ?_)
  have hlv : ∀ A', aLen E0 45 v A' = some (.int .i64 (l.length : Int)) := fun _ => h.len
  simp only [oneW_next, s_0, s_1, s_2, s_3, s_4, Hands, handsV, resultsV, oneOrTuple, argsT, ev, evs, evPairs, evOpt, closed, flat, nth, aCall, aEnter, notYield, aNilCheck, aLoad, partV, isAggD, aFieldAddr, aField, aExtract, Option.isNone, aBuiltin, cond_true, cond_false, cond_dec, if_true, if_false, List.length_cons, List.length_nil, forall_const, implies_true, List.append_nil, List.cons_append, List.nil_append, eq_self, Nat.reduceEqDiff, Nat.reduceAdd, Nat.reduceMul, Nat.reduceSub, Nat.reduceLT, Nat.reduceLeDiff, Nat.reduceBEq, reduceIte, reduceCtorEq, ti63, t63_desc, t63_size, ti25, t25_desc, ti22, t22_desc, t22_size, ti59, t59_desc, t59_size, ti60, t60_desc, t60_size, ti61, t61_desc, t61_size, ti3, t3_desc, t3_size, ti40, t40_desc, t40_size, ti33, t33_desc, t33_size, ti9, t9_desc, t9_size, wrow_now, wrow_all, eqnil25, fn17, fn26, fn27, fn28, fn29, fn38, fn39, fn12, fn14, fn15]
  refine CodeW.mono (Q := fun o => ∃ T' n, o = .fr ⟨.exit 0, T', A⟩ ∧ tget T' 5 = .int .i64 ((n : Nat) : Int) ∧ n ≤ l.length ∧ (∀ (i : Nat) (t : ByteArray × Nat), i < n → l[i]? = some t → t.2 ≤ now) ∧ ∀ t : ByteArray × Nat, l[n]? = some t → now < t.2) ?_ ?_
  · refine CodeW.loopR (k := l.length) (fun n T A' => ∃ i, n = l.length - i ∧ i ≤ l.length ∧ tget T 5 = .int .i64 ((i : Nat) : Int) ∧ tget T 0 = v ∧ tget T 1 = .int .u64 (now : Int) ∧ (∀ (j : Nat) (t : ByteArray × Nat), j < i → l[j]? = some t → t.2 ≤ now) ∧ A' = A) ?_ ⟨0, rfl, by omega, ?_, ?_, ?_, fun j t hj => absurd hj (by omega), rfl⟩
    · rintro n T A1 ⟨i, rfl, hi, u5, u0, u1, hall, rfl⟩
      refine codeW_ok E0_ok E0_ro ?_
      by_cases e1 : i < l.length
      · have d1 : ((i : Int) < (l.length : Int)) = True := eq_true (by omega)
        have hx : l[i]? = some l[i] := List.getElem?_eq_getElem _
        generalize l[i] = t at hx
        obtain ⟨b, p, c, sz, tl, hix, hb, _, gn, ga⟩ := h.ix hx
        by_cases hle : t.2 ≤ now
        · have d2 : (((t.2 : Nat) : Int) ≤ (now : Int)) = True := eq_true (by omega)
          simp only [oneW_next, s_0, s_1, s_2, s_3, s_4, Hands, handsV, resultsV, oneOrTuple, argsT, ev, evs, evPairs, evOpt, closed, flat, nth, aCall, aEnter, notYield, aNilCheck, aLoad, partV, isAggD, aFieldAddr, aField, aExtract, Option.isNone, aBuiltin, cond_true, cond_false, cond_dec, if_true, if_false, List.length_cons, List.length_nil, forall_const, implies_true, List.append_nil, List.cons_append, List.nil_append, eq_self, Nat.reduceEqDiff, Nat.reduceAdd, Nat.reduceMul, Nat.reduceSub, Nat.reduceLT, Nat.reduceLeDiff, Nat.reduceBEq, reduceIte, reduceCtorEq, ti63, t63_desc, t63_size, ti25, t25_desc, ti22, t22_desc, t22_size, ti59, t59_desc, t59_size, ti60, t60_desc, t60_size, ti61, t61_desc, t61_size, ti3, t3_desc, t3_size, ti40, t40_desc, t40_size, ti33, t33_desc, t33_size, ti9, t9_desc, t9_size, wrow_now, wrow_all, eqnil25, fn17, fn26, fn27, fn28, fn29, fn38, fn39, fn12, fn14, fn15, u5, u0, u1, hlv, d1, d2, hix, hb, ga, ti53, t53_desc, wrap_succ (show i < 1000000 by omega)]
          refine ⟨l.length - (i + 1), by omega, i + 1, rfl, by omega, rfl, fun j y hj hy => ?_⟩
          by_cases hji : j = i
          · subst hji
            rw [hx] at hy
            cases hy
            exact hle
          · exact hall j y (by omega) hy
        · have d2 : (((t.2 : Nat) : Int) ≤ (now : Int)) = False := eq_false (by omega)
          simp only [oneW_next, s_0, s_1, s_2, s_3, s_4, Hands, handsV, resultsV, oneOrTuple, argsT, ev, evs, evPairs, evOpt, closed, flat, nth, aCall, aEnter, notYield, aNilCheck, aLoad, partV, isAggD, aFieldAddr, aField, aExtract, Option.isNone, aBuiltin, cond_true, cond_false, cond_dec, if_true, if_false, List.length_cons, List.length_nil, forall_const, implies_true, List.append_nil, List.cons_append, List.nil_append, eq_self, Nat.reduceEqDiff, Nat.reduceAdd, Nat.reduceMul, Nat.reduceSub, Nat.reduceLT, Nat.reduceLeDiff, Nat.reduceBEq, reduceIte, reduceCtorEq, ti63, t63_desc, t63_size, ti25, t25_desc, ti22, t22_desc, t22_size, ti59, t59_desc, t59_size, ti60, t60_desc, t60_size, ti61, t61_desc, t61_size, ti3, t3_desc, t3_size, ti40, t40_desc, t40_size, ti33, t33_desc, t33_size, ti9, t9_desc, t9_size, wrow_now, wrow_all, eqnil25, fn17, fn26, fn27, fn28, fn29, fn38, fn39, fn12, fn14, fn15, u5, u0, u1, hlv, d1, d2, hix, hb, ga, ti53, t53_desc]
          refine ⟨_, i, rfl, by simp only [tget_put, Nat.reduceEqDiff, if_false, if_true, reduceIte, u5], hi, hall, fun y hy => ?_⟩
          rw [hx] at hy
          cases hy
          omega
      · have d1 : ((i : Int) < (l.length : Int)) = False := eq_false (by omega)
        simp only [oneW_next, s_0, s_1, s_2, s_3, s_4, Hands, handsV, resultsV, oneOrTuple, argsT, ev, evs, evPairs, evOpt, closed, flat, nth, aCall, aEnter, notYield, aNilCheck, aLoad, partV, isAggD, aFieldAddr, aField, aExtract, Option.isNone, aBuiltin, cond_true, cond_false, cond_dec, if_true, if_false, List.length_cons, List.length_nil, forall_const, implies_true, List.append_nil, List.cons_append, List.nil_append, eq_self, Nat.reduceEqDiff, Nat.reduceAdd, Nat.reduceMul, Nat.reduceSub, Nat.reduceLT, Nat.reduceLeDiff, Nat.reduceBEq, reduceIte, reduceCtorEq, ti63, t63_desc, t63_size, ti25, t25_desc, ti22, t22_desc, t22_size, ti59, t59_desc, t59_size, ti60, t60_desc, t60_size, ti61, t61_desc, t61_size, ti3, t3_desc, t3_size, ti40, t40_desc, t40_size, ti33, t33_desc, t33_size, ti9, t9_desc, t9_size, wrow_now, wrow_all, eqnil25, fn17, fn26, fn27, fn28, fn29, fn38, fn39, fn12, fn14, fn15, u5, u0, hlv, d1]
        refine ⟨_, i, rfl, by simp only [tget_put, Nat.reduceEqDiff, if_false, if_true, reduceIte, u5], hi, hall, fun y hy => ?_⟩
        rw [List.getElem?_eq_none (by omega)] at hy
        cases hy
    all_goals simp only [tget_put, Nat.reduceEqDiff, if_false, if_true, reduceIte, and_self]
    all_goals rfl
  · rintro o ⟨T', n, rfl, u5, h1, h2, h3⟩
    simp only [oneW_next, s_0, s_1, s_2, s_3, s_4, Hands, handsV, resultsV, oneOrTuple, argsT, ev, evs, evPairs, evOpt, closed, flat, nth, aCall, aEnter, notYield, aNilCheck, aLoad, partV, isAggD, aFieldAddr, aField, aExtract, Option.isNone, aBuiltin, cond_true, cond_false, cond_dec, if_true, if_false, List.length_cons, List.length_nil, forall_const, implies_true, List.append_nil, List.cons_append, List.nil_append, eq_self, Nat.reduceEqDiff, Nat.reduceAdd, Nat.reduceMul, Nat.reduceSub, Nat.reduceLT, Nat.reduceLeDiff, Nat.reduceBEq, reduceIte, reduceCtorEq, ti63, t63_desc, t63_size, ti25, t25_desc, ti22, t22_desc, t22_size, ti59, t59_desc, t59_size, ti60, t60_desc, t60_size, ti61, t61_desc, t61_size, ti3, t3_desc, t3_size, ti40, t40_desc, t40_size, ti33, t33_desc, t33_size, ti9, t9_desc, t9_size, wrow_now, wrow_all, eqnil25, fn17, fn26, fn27, fn28, fn29, fn38, fn39, fn12, fn14, fn15, u5]
    exact ⟨n, rfl, h1, h2, h3⟩
end Go.Proofs.Ytpmpclieclcbdaa

/- The document's list of timers: without a name. -/
namespace Go.Proofs.Ytpmpclieclcbdaa
open Go Go.AE Go.Sort

variable {Z : Go.AE.Road}
set_option maxRecDepth 10000
set_option maxHeartbeats 4000000

theorem t53_zero : t53.zero = some (.agg #[.string ByteArray.empty, .int .u64 0]) := by kernel_rfl
theorem t53_bytes : t53.bytes = 24 := by kernel_rfl
theorem isl53 : isIntD (.slice 53) = false := rfl
theorem bs45 {n : ByteArray} {a : Int} : aBuildSlice E0 45 1 [(0, .agg #[.string n, .int .u64 a])] = some (.row [.string n, .int .u64 a] 2 false, fun id => .slice (some ⟨id, 0, none⟩) 1 1) := by
  simp only [aBuildSlice, ti45, t45_desc, ti53, t53_zero, t53_size]; rfl
theorem app45_nil {A : ASt} {x : Nat} {n : ByteArray} {a : Int} {tl : Bool} (hx : A.get x = some (.row [.string n, .int .u64 a] 2 tl)) :
    aAppend E0 45 45 (.slice none 0 0) (.slice (some ⟨x, 0, none⟩) 1 1) A = .val (.slice (some ⟨A.next, 0, none⟩) 1 unk) (A.new (.row [.string n, .int .u64 a] 2 true)) := by
  simp only [aAppend, ti45, t45_desc, ti53, lenV, t53_zero, t53_size, t53_bytes, srcCells, hx, cut, cut2, z33a, z33b, sg2, isl53]
  show appendTo 2 none 0 0 1 [.string n, .int .u64 a] A = _
  simp only [appendTo, grown_eq]
  rfl
theorem app45_row {A : ASt} {x b len : Nat} {c : List Value} {n : ByteArray} {a : Int} {tl : Bool} (hx : A.get x = some (.row [.string n, .int .u64 a] 2 tl)) (hb : A.get b = some (.row c 2 true)) (hc : c.length = 2 * len) (hl : len ≤ 1000000) :
    aAppend E0 45 45 (.slice (some ⟨b, 0, none⟩) len unk) (.slice (some ⟨x, 0, none⟩) 1 1) A = .val (.slice (some ⟨A.next, 0, none⟩) (len + 1) unk) ((A.set b (.row [] 2 false)).new (.row (c ++ [.string n, .int .u64 a]) 2 true)) := by
  have h1 : Nat.blt ((len + 1) * (24 + 1)) 1000000000 = true := Nat.ble_eq_true_of_le (by omega)
  have h2 : Nat.ble (0 + len * 2) c.length = true := Nat.ble_eq_true_of_le (by omega)
  have h3 : Nat.ble (0 + (len + 1) * 2) c.length = false := by rw [nble]; simp; omega
  have h4 : Nat.beq (0 + len * 2) c.length = true := by rw [nbeq]; simp; omega
  simp only [aAppend, ti45, t45_desc, ti53, lenV, t53_zero, t53_size, t53_bytes, srcCells, hx, cut, cut2, z33a, z33b, sg2, isl53, h1]
  show appendTo 2 (some ⟨b, 0, none⟩) len unk 1 [.string n, .int .u64 a] A = _
  simp only [appendTo, hb, h2, h3, h4, grown_eq, Nat.beq_refl, Bool.and_self, cond_true, cond_false, List.take_zero, List.drop_zero]
  rfl
/-- One timer more at a list's end. -/
theorem SliceAt.app45 {A : ASt} {lo x : Nat} {v : Value} {l : List (ByteArray × Nat)} {t : ByteArray × Nat} {tl : Bool} (h : SliceAt A lo v l) (hx : A.get x = some (.row [.string t.1, .int .u64 (t.2 : Int)] 2 tl)) (hl : l.length ≤ 1000000) (hlo : lo ≤ A.next) :
    ∃ v' A', aAppend E0 45 45 v (.slice (some ⟨x, 0, none⟩) 1 1) A = .val v' A' ∧ SliceAt A' lo v' (l ++ [t]) ∧ A.next ≤ A'.next ∧ ∀ b, b < lo → A'.get b = A.get b := by
  rcases h with ⟨rfl, rfl⟩ | ⟨b, cap, rest, tl', rfl, hb, h1, h2, rfl, rfl, rfl⟩
  · refine ⟨_, _, app45_nil hx, .inr ⟨A.next, unk, [], true, rfl, by rw [ASt.get_new, if_pos rfl]; rfl, hlo, by rw [ASt.next_new]; omega, rfl, rfl, rfl⟩, by rw [ASt.next_new]; omega, fun b hb => by rw [ASt.get_new, if_neg (by omega)]⟩
  · rw [List.append_nil] at hb
    refine ⟨_, _, app45_row hx hb (tcells_len l) hl, .inr ⟨A.next, unk, [], true, by rw [List.length_append]; rfl, ?_, hlo, by rw [ASt.next_new, ASt.next_set]; omega, rfl, rfl, rfl⟩, by rw [ASt.next_new, ASt.next_set]; omega, fun b' hb' => ?_⟩
    · rw [ASt.get_new, ASt.next_set, if_pos rfl, tcells_append]
      simp [tcells]
    · rw [ASt.get_new, ASt.next_set, if_neg (by omega), ASt.get_set, if_neg (by omega)]
theorem SliceAt.reads {A : ASt} {lo : Nat} {v : Value} {l : List (ByteArray × Nat)} (h : SliceAt A lo v l) : Reads A v l := by
  rcases h with ⟨rfl, rfl⟩ | ⟨b, cap, rest, tl, rfl, hb, _, h2, _⟩
  · exact .inl ⟨rfl, .inl ⟨0, rfl⟩⟩
  · refine .inr ⟨b, 0, cap, _, _, _, rfl, hb, h2, fun i t ht => ?_⟩
    have := tcells_nth (rest := rest) ht
    rwa [Nat.zero_add]
theorem s_neqd {t : TypeId} {xo yo : Operand} {a b : ByteArray} : aBin2 E0 .neq t xo yo (.string a) (.string b) = some (.bool (decide (a ≠ b))) := by
  rw [s_neq]; simp
theorem cutP {c : List Value} {p : Nat} {x y : Value} (h1 : nth c p = some x) (h2 : nth c (p + 1) = some y) : cut c p 2 = some [x, y] := by
  induction c generalizing p with
  | nil => cases h1
  | cons z c ih =>
    cases p with
    | zero =>
      cases h1
      cases c with
      | nil => cases h2
      | cons w c => cases h2; rfl
    | succ p =>
      have := ih (p := p) h1 h2
      simpa only [cut, List.drop_succ_cons] using this

/-- Without a name. -/
theorem drop_ref {A : ASt} {v : Value} {l : List (ByteArray × Nat)} {k : ByteArray} (h : Reads A v l) (hl : l.length ≤ 1000) :
    CallW Z Try.prog 32 [v, .string k] A (fun r A' => ∃ l', SliceAt A' A.next r l' ∧ Fr [] A A' ∧ l'.length ≤ l.length ∧ l'.Sublist l ∧ ∀ t : ByteArray × Nat, t ∈ l' ↔ t ∈ l ∧ t.1 ≠ k) := by
  refine CallW.of_code E0_ok E0_ro fn32 rfl (n := 28) rfl (rs := [.tmp 4]) rfl (by simp) (codeW_ok E0_ok E0_ro ?_)
  have hlv : ∀ A', aLen E0 45 v A' = some (.int .i64 (l.length : Int)) := fun _ => h.len
  simp only [oneW_next, s_0, s_1, s_2, s_3, s_4, Hands, handsV, resultsV, oneOrTuple, argsT, ev, evs, evPairs, evOpt, closed, flat, nth, aCall, aEnter, notYield, aNilCheck, aLoad, partV, isAggD, aFieldAddr, aField, aExtract, Option.isNone, aBuiltin, cond_true, cond_false, cond_dec, if_true, if_false, List.length_cons, List.length_nil, forall_const, implies_true, List.append_nil, List.cons_append, List.nil_append, eq_self, Nat.reduceEqDiff, Nat.reduceAdd, Nat.reduceMul, Nat.reduceSub, Nat.reduceLT, Nat.reduceLeDiff, Nat.reduceBEq, reduceIte, reduceCtorEq, ti63, t63_desc, t63_size, ti25, t25_desc, ti22, t22_desc, t22_size, ti59, t59_desc, t59_size, ti60, t60_desc, t60_size, ti61, t61_desc, t61_size, ti3, t3_desc, t3_size, ti40, t40_desc, t40_size, ti33, t33_desc, t33_size, ti9, t9_desc, t9_size, wrow_now, wrow_all, eqnil25, fn17, fn26, fn27, fn28, fn29, fn38, fn39, fn12, fn14, fn15]
  refine CodeW.mono (Q := fun o => ∃ T' A' l', o = .fr ⟨.exit 0, T', A'⟩ ∧ (∃ r, tget T' 5 = r ∧ SliceAt A' A.next r l') ∧ Fr [] A A' ∧ l'.length ≤ l.length ∧ l'.Sublist l ∧ ∀ t : ByteArray × Nat, t ∈ l' ↔ t ∈ l ∧ t.1 ≠ k) ?_ ?_
  · refine CodeW.loopR (k := l.length) (fun n T A' => ∃ i l' r, n = l.length - i ∧ i ≤ l.length ∧ tget T 6 = .int .i64 ((i : Nat) : Int) ∧ tget T 0 = v ∧ tget T 1 = .string k ∧ tget T 5 = r ∧ SliceAt A' A.next r l' ∧ Fr [] A A' ∧ l'.length ≤ i ∧ l'.Sublist (l.take i) ∧ (∀ t : ByteArray × Nat, t ∈ l' ↔ t ∈ l.take i ∧ t.1 ≠ k)) ?_ ⟨0, [], .slice none 0 0, rfl, by omega, ?_, ?_, ?_, ?_, .inl ⟨rfl, rfl⟩, .refl _ _, by simp, by simp, by simp⟩
    · rintro n T A1 ⟨i, l', r, rfl, hi, u6, u0, u1, u5, hs, hf, hle, hsub, hmem⟩
      refine codeW_ok E0_ok E0_ro ?_
      by_cases e1 : i < l.length
      · have d1 : ((i : Int) < (l.length : Int)) = True := eq_true (by omega)
        have hx : l[i]? = some l[i] := List.getElem?_eq_getElem _
        generalize l[i] = t at hx
        have h1 : Reads A1 v l := h.fr hf (by simp)
        obtain ⟨b, p, c, sz, tl, hix, hb, hbn, gn, ga⟩ := h1.ix hx
        have hcp := cutP gn ga
        have htk : l.take (i + 1) = l.take i ++ [t] := by rw [List.take_add_one, hx]; rfl
        simp only [oneW_next, s_0, s_1, s_2, s_3, s_4, Hands, handsV, resultsV, oneOrTuple, argsT, ev, evs, evPairs, evOpt, closed, flat, nth, aCall, aEnter, notYield, aNilCheck, aLoad, partV, isAggD, aFieldAddr, aField, aExtract, Option.isNone, aBuiltin, cond_true, cond_false, cond_dec, if_true, if_false, List.length_cons, List.length_nil, forall_const, implies_true, List.append_nil, List.cons_append, List.nil_append, eq_self, Nat.reduceEqDiff, Nat.reduceAdd, Nat.reduceMul, Nat.reduceSub, Nat.reduceLT, Nat.reduceLeDiff, Nat.reduceBEq, reduceIte, reduceCtorEq, ti63, t63_desc, t63_size, ti25, t25_desc, ti22, t22_desc, t22_size, ti59, t59_desc, t59_size, ti60, t60_desc, t60_size, ti61, t61_desc, t61_size, ti3, t3_desc, t3_size, ti40, t40_desc, t40_size, ti33, t33_desc, t33_size, ti9, t9_desc, t9_size, wrow_now, wrow_all, eqnil25, fn17, fn26, fn27, fn28, fn29, fn38, fn39, fn12, fn14, fn15, u6, u0, u1, hlv, d1, hix, hb, gn, s_neqd, ti53, t53_desc]
        refine brW_dec (fun he => ?_) (fun he => ?_)
        · have hN : Fr [] A1 (A1.new (.row [.string t.1, .int .u64 (t.2 : Int)] 2 false)) := ⟨by rw [ASt.next_new]; omega, fun b hb _ => by rw [ASt.get_new, if_neg (by omega)]⟩
          have hfn := hf.next
          obtain ⟨r', A2, happ, hs2, hn2, hg2⟩ := (hs.fr hN (by simp)).app45 (x := A1.next) (t := t) (tl := false) (by rw [ASt.get_new, if_pos rfl]) (by omega) (by rw [ASt.next_new]; omega)
          rw [ASt.next_new] at hn2
          simp only [oneW_next, s_0, s_1, s_2, s_3, s_4, Hands, handsV, resultsV, oneOrTuple, argsT, ev, evs, evPairs, evOpt, closed, flat, nth, aCall, aEnter, notYield, aNilCheck, aLoad, partV, isAggD, aFieldAddr, aField, aExtract, Option.isNone, aBuiltin, cond_true, cond_false, cond_dec, if_true, if_false, List.length_cons, List.length_nil, forall_const, implies_true, List.append_nil, List.cons_append, List.nil_append, eq_self, Nat.reduceEqDiff, Nat.reduceAdd, Nat.reduceMul, Nat.reduceSub, Nat.reduceLT, Nat.reduceLeDiff, Nat.reduceBEq, reduceIte, reduceCtorEq, ti63, t63_desc, t63_size, ti25, t25_desc, ti22, t22_desc, t22_size, ti59, t59_desc, t59_size, ti60, t60_desc, t60_size, ti61, t61_desc, t61_size, ti3, t3_desc, t3_size, ti40, t40_desc, t40_size, ti33, t33_desc, t33_size, ti9, t9_desc, t9_size, wrow_now, wrow_all, eqnil25, fn17, fn26, fn27, fn28, fn29, fn38, fn39, fn12, fn14, fn15, u6, u0, u5, hix, hb, hcp, ti53, t53_desc, t53_size, bs45, happ, wrap_succ (show i < 1000000 by omega)]
          refine ⟨l.length - (i + 1), by omega, i + 1, l' ++ [t], r', rfl, by omega, rfl, u1, rfl, hs2, ⟨by omega, fun b hb _ => by rw [hg2 b hb, ASt.get_new, if_neg (by omega)]; exact hf.get b hb (by simp)⟩, by rw [List.length_append]; simp; omega, by rw [htk]; exact hsub.append (List.Sublist.refl _), fun y => ?_⟩
          rw [htk, List.mem_append, List.mem_append, hmem]
          constructor
          · rintro (⟨g1, g2⟩ | g)
            · exact ⟨.inl g1, g2⟩
            · rw [List.mem_singleton.1 g]; exact ⟨.inr (by simp), he⟩
          · rintro ⟨g1 | g1, g2⟩
            · exact .inl ⟨g1, g2⟩
            · exact .inr g1
        · simp only [oneW_next, s_0, s_1, s_2, s_3, s_4, Hands, handsV, resultsV, oneOrTuple, argsT, ev, evs, evPairs, evOpt, closed, flat, nth, aCall, aEnter, notYield, aNilCheck, aLoad, partV, isAggD, aFieldAddr, aField, aExtract, Option.isNone, aBuiltin, cond_true, cond_false, cond_dec, if_true, if_false, List.length_cons, List.length_nil, forall_const, implies_true, List.append_nil, List.cons_append, List.nil_append, eq_self, Nat.reduceEqDiff, Nat.reduceAdd, Nat.reduceMul, Nat.reduceSub, Nat.reduceLT, Nat.reduceLeDiff, Nat.reduceBEq, reduceIte, reduceCtorEq, ti63, t63_desc, t63_size, ti25, t25_desc, ti22, t22_desc, t22_size, ti59, t59_desc, t59_size, ti60, t60_desc, t60_size, ti61, t61_desc, t61_size, ti3, t3_desc, t3_size, ti40, t40_desc, t40_size, ti33, t33_desc, t33_size, ti9, t9_desc, t9_size, wrow_now, wrow_all, eqnil25, fn17, fn26, fn27, fn28, fn29, fn38, fn39, fn12, fn14, fn15, u6, wrap_succ (show i < 1000000 by omega)]
          refine ⟨l.length - (i + 1), by omega, i + 1, l', r, rfl, by omega, rfl, u0, u1, u5, hs, hf, by omega, by rw [htk]; exact hsub.trans (List.sublist_append_left _ _), fun y => ?_⟩
          rw [htk, List.mem_append, hmem]
          constructor
          · rintro ⟨g1, g2⟩; exact ⟨.inl g1, g2⟩
          · rintro ⟨g1 | g1, g2⟩
            · exact ⟨g1, g2⟩
            · rw [List.mem_singleton.1 g1] at g2; exact absurd g2 he
      · have d1 : ((i : Int) < (l.length : Int)) = False := eq_false (by omega)
        simp only [oneW_next, s_0, s_1, s_2, s_3, s_4, Hands, handsV, resultsV, oneOrTuple, argsT, ev, evs, evPairs, evOpt, closed, flat, nth, aCall, aEnter, notYield, aNilCheck, aLoad, partV, isAggD, aFieldAddr, aField, aExtract, Option.isNone, aBuiltin, cond_true, cond_false, cond_dec, if_true, if_false, List.length_cons, List.length_nil, forall_const, implies_true, List.append_nil, List.cons_append, List.nil_append, eq_self, Nat.reduceEqDiff, Nat.reduceAdd, Nat.reduceMul, Nat.reduceSub, Nat.reduceLT, Nat.reduceLeDiff, Nat.reduceBEq, reduceIte, reduceCtorEq, ti63, t63_desc, t63_size, ti25, t25_desc, ti22, t22_desc, t22_size, ti59, t59_desc, t59_size, ti60, t60_desc, t60_size, ti61, t61_desc, t61_size, ti3, t3_desc, t3_size, ti40, t40_desc, t40_size, ti33, t33_desc, t33_size, ti9, t9_desc, t9_size, wrow_now, wrow_all, eqnil25, fn17, fn26, fn27, fn28, fn29, fn38, fn39, fn12, fn14, fn15, u6, u0, hlv, d1]
        rw [List.take_of_length_le (by omega)] at hsub hmem
        exact ⟨_, _, l', rfl, ⟨r, by simp only [tget_put, Nat.reduceEqDiff, if_false, if_true, reduceIte, u5], hs⟩, hf, by omega, hsub, hmem⟩
    all_goals simp only [tget_put, Nat.reduceEqDiff, if_false, if_true, reduceIte, and_self]
    all_goals rfl
  · rintro o ⟨T', A', l', rfl, ⟨r, u5, hs⟩, h1, h2, h3, h4⟩
    simp only [oneW_next, s_0, s_1, s_2, s_3, s_4, Hands, handsV, resultsV, oneOrTuple, argsT, ev, evs, evPairs, evOpt, closed, flat, nth, aCall, aEnter, notYield, aNilCheck, aLoad, partV, isAggD, aFieldAddr, aField, aExtract, Option.isNone, aBuiltin, cond_true, cond_false, cond_dec, if_true, if_false, List.length_cons, List.length_nil, forall_const, implies_true, List.append_nil, List.cons_append, List.nil_append, eq_self, Nat.reduceEqDiff, Nat.reduceAdd, Nat.reduceMul, Nat.reduceSub, Nat.reduceLT, Nat.reduceLeDiff, Nat.reduceBEq, reduceIte, reduceCtorEq, ti63, t63_desc, t63_size, ti25, t25_desc, ti22, t22_desc, t22_size, ti59, t59_desc, t59_size, ti60, t60_desc, t60_size, ti61, t61_desc, t61_size, ti3, t3_desc, t3_size, ti40, t40_desc, t40_size, ti33, t33_desc, t33_size, ti9, t9_desc, t9_size, wrow_now, wrow_all, eqnil25, fn17, fn26, fn27, fn28, fn29, fn38, fn39, fn12, fn14, fn15, u5]
    exact ⟨l', hs, h1, h2, h3, h4⟩
end Go.Proofs.Ytpmpclieclcbdaa

/- The document's list of timers: which stands ahead; with a name. -/
namespace Go.Proofs.Ytpmpclieclcbdaa
open Go Go.AE Go.Sort

variable {Z : Go.AE.Road}
set_option maxRecDepth 10000
set_option maxHeartbeats 4000000

theorem box53 {x y : Value} : aBox E0 53 (.agg #[x, y]) = some (.row [x, y] 2 false, ptrTo) := by
  simp only [aBox, ti53, t53_size]; rfl
/-- Does a timer stand ahead of another one? -/
theorem ahead_ref {A : ASt} {x y : ByteArray × Nat} : CallW Z Try.prog 40 [.agg #[.string x.1, .int .u64 (x.2 : Nat)], .agg #[.string y.1, .int .u64 (y.2 : Nat)]] A (fun r A' => (∃ b, r = .bool b ∧ (b = true ↔ tlt x y)) ∧ Fr [] A A') := by
  refine CallW.of_code E0_ok E0_ro fn40 rfl (n := 24) rfl (rs := [.tmp 4]) rfl (by simp) (codeW_ok E0_ok E0_ro ?_)
  simp only [oneW_next, s_0, s_1, s_2, s_3, s_4, Hands, handsV, resultsV, oneOrTuple, argsT, ev, evs, evPairs, evOpt, closed, flat, nth, aCall, aEnter, notYield, aNilCheck, aLoad, partV, isAggD, aFieldAddr, aField, aExtract, Option.isNone, aBuiltin, cond_true, cond_false, cond_dec, if_true, if_false, List.length_cons, List.length_nil, forall_const, implies_true, List.append_nil, List.cons_append, List.nil_append, eq_self, Nat.reduceEqDiff, Nat.reduceAdd, Nat.reduceMul, Nat.reduceSub, Nat.reduceLT, Nat.reduceLeDiff, Nat.reduceBEq, reduceIte, reduceCtorEq, ti63, t63_desc, t63_size, ti25, t25_desc, ti22, t22_desc, t22_size, ti59, t59_desc, t59_size, ti60, t60_desc, t60_size, ti61, t61_desc, t61_size, ti3, t3_desc, t3_size, ti40, t40_desc, t40_size, ti33, t33_desc, t33_size, ti9, t9_desc, t9_size, wrow_now, wrow_all, eqnil25, fn17, fn26, fn27, fn28, fn29, fn38, fn39, fn12, fn14, fn15, box53, ptrTo]
  generalize hCd : ASt.new (ASt.new A _) _ = C
  have c1 : C.get A.next = some (.row [.string x.1, .int .u64 (x.2 : Int)] 2 false) := by rw [← hCd, ASt.get_new, if_neg (by rw [ASt.next_new]; omega), ASt.get_new, if_pos rfl]
  have c2 : C.get (A.next + 1) = some (.row [.string y.1, .int .u64 (y.2 : Int)] 2 false) := by rw [← hCd, ASt.get_new, ASt.next_new, if_pos rfl]
  have hf : Fr [] A C := ⟨by rw [← hCd, ASt.next_new, ASt.next_new]; omega, fun b hb _ => by rw [← hCd, ASt.get_new, if_neg (by rw [ASt.next_new]; omega), ASt.get_new, if_neg (by omega)]⟩
  clear hCd
  by_cases h1 : x.2 < y.2
  · have d1 : (((x.2 : Nat) : Int) < ((y.2 : Nat) : Int)) = True := eq_true (by omega)
    simp only [oneW_next, s_0, s_1, s_2, s_3, s_4, Hands, handsV, resultsV, oneOrTuple, argsT, ev, evs, evPairs, evOpt, closed, flat, nth, aCall, aEnter, notYield, aNilCheck, aLoad, partV, isAggD, aFieldAddr, aField, aExtract, Option.isNone, aBuiltin, cond_true, cond_false, cond_dec, if_true, if_false, List.length_cons, List.length_nil, forall_const, implies_true, List.append_nil, List.cons_append, List.nil_append, eq_self, Nat.reduceEqDiff, Nat.reduceAdd, Nat.reduceMul, Nat.reduceSub, Nat.reduceLT, Nat.reduceLeDiff, Nat.reduceBEq, reduceIte, reduceCtorEq, ti63, t63_desc, t63_size, ti25, t25_desc, ti22, t22_desc, t22_size, ti59, t59_desc, t59_size, ti60, t60_desc, t60_size, ti61, t61_desc, t61_size, ti3, t3_desc, t3_size, ti40, t40_desc, t40_size, ti33, t33_desc, t33_size, ti9, t9_desc, t9_size, wrow_now, wrow_all, eqnil25, fn17, fn26, fn27, fn28, fn29, fn38, fn39, fn12, fn14, fn15, ti53, t53_desc, t53_size, c1, c2, d1, undef]
    exact ⟨⟨true, rfl, ⟨fun _ => .inl h1, fun _ => rfl⟩⟩, hf⟩
  · have d1 : (((x.2 : Nat) : Int) < ((y.2 : Nat) : Int)) = False := eq_false (by omega)
    by_cases h2 : x.2 = y.2
    · have d2 : (((x.2 : Nat) : Int) = ((y.2 : Nat) : Int)) = True := eq_true (by omega)
      simp only [oneW_next, s_0, s_1, s_2, s_3, s_4, Hands, handsV, resultsV, oneOrTuple, argsT, ev, evs, evPairs, evOpt, closed, flat, nth, aCall, aEnter, notYield, aNilCheck, aLoad, partV, isAggD, aFieldAddr, aField, aExtract, Option.isNone, aBuiltin, cond_true, cond_false, cond_dec, if_true, if_false, List.length_cons, List.length_nil, forall_const, implies_true, List.append_nil, List.cons_append, List.nil_append, eq_self, Nat.reduceEqDiff, Nat.reduceAdd, Nat.reduceMul, Nat.reduceSub, Nat.reduceLT, Nat.reduceLeDiff, Nat.reduceBEq, reduceIte, reduceCtorEq, ti63, t63_desc, t63_size, ti25, t25_desc, ti22, t22_desc, t22_size, ti59, t59_desc, t59_size, ti60, t60_desc, t60_size, ti61, t61_desc, t61_size, ti3, t3_desc, t3_size, ti40, t40_desc, t40_size, ti33, t33_desc, t33_size, ti9, t9_desc, t9_size, wrow_now, wrow_all, eqnil25, fn17, fn26, fn27, fn28, fn29, fn38, fn39, fn12, fn14, fn15, ti53, t53_desc, t53_size, c1, c2, d1, d2, s_lss, undef]
      refine ⟨⟨_, rfl, ⟨fun h => .inr ⟨h2, h⟩, fun h => ?_⟩⟩, hf⟩
      rcases h with h | h
      · omega
      · exact h.2
    · have d2 : (((x.2 : Nat) : Int) = ((y.2 : Nat) : Int)) = False := eq_false (by omega)
      simp only [oneW_next, s_0, s_1, s_2, s_3, s_4, Hands, handsV, resultsV, oneOrTuple, argsT, ev, evs, evPairs, evOpt, closed, flat, nth, aCall, aEnter, notYield, aNilCheck, aLoad, partV, isAggD, aFieldAddr, aField, aExtract, Option.isNone, aBuiltin, cond_true, cond_false, cond_dec, if_true, if_false, List.length_cons, List.length_nil, forall_const, implies_true, List.append_nil, List.cons_append, List.nil_append, eq_self, Nat.reduceEqDiff, Nat.reduceAdd, Nat.reduceMul, Nat.reduceSub, Nat.reduceLT, Nat.reduceLeDiff, Nat.reduceBEq, reduceIte, reduceCtorEq, ti63, t63_desc, t63_size, ti25, t25_desc, ti22, t22_desc, t22_size, ti59, t59_desc, t59_size, ti60, t60_desc, t60_size, ti61, t61_desc, t61_size, ti3, t3_desc, t3_size, ti40, t40_desc, t40_size, ti33, t33_desc, t33_size, ti9, t9_desc, t9_size, wrow_now, wrow_all, eqnil25, fn17, fn26, fn27, fn28, fn29, fn38, fn39, fn12, fn14, fn15, ti53, t53_desc, t53_size, c1, c2, d1, d2, undef]
      refine ⟨⟨false, rfl, ⟨fun h => (Bool.false_ne_true h).elim, fun h => ?_⟩⟩, hf⟩
      rcases h with h | h
      · omega
      · exact absurd h.1 h2
end Go.Proofs.Ytpmpclieclcbdaa

/- The document's list of timers: contracts in drawn regions. -/
namespace Go.Proofs.Ytpmpclieclcbdaa
open Go Go.AE Go.Sort

variable {Z : Go.AE.Road}
set_option maxRecDepth 10000
set_option maxHeartbeats 4000000

theorem Reads.uniq {A : ASt} {v : Value} {l l' : List (ByteArray × Nat)} (h : Reads A v l) (h' : Reads A v l') : l = l' := by
  have hlen : l.length = l'.length := by
    have h1 := h.len (A' := A)
    have h2 := h'.len (A' := A)
    rw [h1] at h2
    simp only [Option.some.injEq, Value.int.injEq, true_and, Int.natCast_inj] at h2
    exact h2
  apply List.ext_getElem? 
  intro i
  by_cases hi : i < l.length
  · have e1 : l[i]? = some l[i] := List.getElem?_eq_getElem _
    have e2 : l'[i]? = some (l'[i]'(by omega)) := List.getElem?_eq_getElem _
    obtain ⟨b, p, c, sz, tl, q1, q2, _, q3, q4⟩ := h.ix e1
    obtain ⟨b', p', c', sz', tl', r1, r2, _, r3, r4⟩ := h'.ix e2
    rw [q1] at r1
    simp only [Option.some.injEq, Value.pointer.injEq, Addr.mk.injEq, and_true] at r1
    obtain ⟨rfl, rfl⟩ := r1
    rw [q2] at r2
    simp only [Option.some.injEq, AObj.row.injEq] at r2
    obtain ⟨rfl, _, _⟩ := r2
    rw [q3] at r3
    rw [q4] at r4
    simp only [Option.some.injEq, Value.string.injEq, Value.int.injEq, true_and, Int.natCast_inj] at r3 r4
    rw [e1, e2, Prod.ext r3 r4]
  · rw [List.getElem?_eq_none (by omega), List.getElem?_eq_none (by omega)]

/-- What Drop answers. -/
def Dropped (A : ASt) (l : List (ByteArray × Nat)) (k : ByteArray) (r : Value) (A' : ASt) : Prop := ∃ l', SliceAt A' A.next r l' ∧ Fr [] A A' ∧ l'.length ≤ l.length ∧ l'.Sublist l ∧ ∀ t : ByteArray × Nat, t ∈ l' ↔ t ∈ l ∧ t.1 ≠ k
def R30 : Tgt → List Value → ASt → (Value → ASt → Prop) → Prop := fun t args A S =>
  (∃ (v : Value) (k : ByteArray) (l : List (ByteArray × Nat)), Reads A v l ∧ l.length ≤ 1000 ∧ t = .fn 32 ∧ args = [v, .string k] ∧ S = Dropped A l k) ∨
  (∃ x y : ByteArray × Nat, t = .fn 40 ∧ args = [.agg #[.string x.1, .int .u64 (x.2 : Nat)], .agg #[.string y.1, .int .u64 (y.2 : Nat)]] ∧ S = fun r A' => (∃ b, r = .bool b ∧ (b = true ↔ tlt x y)) ∧ Fr [] A A')
theorem R30_ok (t args A S) (h : R30 t args A S) : CallT Z Try.prog t args A S := by
  rcases h with ⟨v, k, l, h1, h2, rfl, rfl, rfl⟩ | ⟨x, y, rfl, rfl, rfl⟩
  · exact drop_ref h1 h2
  · exact ahead_ref
theorem con32 {A : ASt} {v : Value} {k : ByteArray} {l : List (ByteArray × Nat)} (h1 : Reads A v l) (h2 : l.length ≤ 1000) {K : Value → ASt → Prop} (h : ∀ r A', Dropped A l k r A' → K r A') : conC R30 (.fn 32) [v, .string k] A K := by
  refine ⟨⟨_, .inl ⟨v, k, l, h1, h2, rfl, rfl, rfl⟩⟩, ?_⟩
  rintro S (⟨v', k', l', g1, _, _, ha, rfl⟩ | ⟨_, _, ht, _⟩) r A' hv
  · simp only [List.cons.injEq, Value.string.injEq, and_true] at ha
    obtain ⟨rfl, rfl⟩ := ha
    rw [← h1.uniq g1] at hv
    exact h r A' hv
  · cases ht
theorem con40 {A : ASt} {x y : ByteArray × Nat} {K : Value → ASt → Prop} (h : ∀ b A', (b = true ↔ tlt x y) → Fr [] A A' → K (.bool b) A') : conC R30 (.fn 40) [.agg #[.string x.1, .int .u64 (x.2 : Nat)], .agg #[.string y.1, .int .u64 (y.2 : Nat)]] A K := by
  refine ⟨⟨_, .inr ⟨x, y, rfl, rfl, rfl⟩⟩, ?_⟩
  rintro S (⟨_, _, _, _, _, ht, _⟩ | ⟨x', y', _, ha, rfl⟩) r A' hv
  · cases ht
  · obtain ⟨⟨b, rfl, hb⟩, hf⟩ := hv
    simp only [List.cons.injEq, Value.agg.injEq, Array.mk.injEq, Value.string.injEq, Value.int.injEq, Int.natCast_inj, and_true, true_and] at ha
    obtain ⟨⟨a1, a2⟩, a3, a4⟩ := ha
    have ex : x = x' := Prod.ext a1 a2
    have ey : y = y' := Prod.ext a3 a4
    subst ex ey
    exact h b A' hb hf
end Go.Proofs.Ytpmpclieclcbdaa

/- The document's list of timers: with a name. -/
namespace Go.Proofs.Ytpmpclieclcbdaa
open Go Go.AE Go.Sort

variable {Z : Go.AE.Road}
set_option maxRecDepth 10000
set_option maxHeartbeats 4000000

theorem tcells_set : ∀ {l : List (ByteArray × Nat)} {i : Nat} {t : ByteArray × Nat}, i < l.length → over (tcells l) (i * 2) [.string t.1, .int .u64 (t.2 : Int)] = some (tcells (l.set i t))
  | [], i, t, h => by simp at h
  | y :: l, 0, t, h => by
    unfold over
    have : Nat.ble (0 * 2 + [Value.string t.1, Value.int .u64 (t.2 : Int)].length) (tcells (y :: l)).length = true := Nat.ble_eq_true_of_le (by simp [tcells])
    rw [this]
    simp [tcells]
  | y :: l, i + 1, t, h => by
    have ih := tcells_set (l := l) (i := i) (t := t) (by simpa using h)
    unfold over at ih ⊢
    have hlen := tcells_len l
    have hl : i < l.length := by simpa using h
    have h1 : Nat.ble (i * 2 + [Value.string t.1, Value.int .u64 (t.2 : Int)].length) (tcells l).length = true := Nat.ble_eq_true_of_le (by rw [hlen]; simp; omega)
    have h2 : Nat.ble ((i + 1) * 2 + [Value.string t.1, Value.int .u64 (t.2 : Int)].length) (tcells (y :: l)).length = true := Nat.ble_eq_true_of_le (by rw [tcells_len]; simp; omega)
    rw [h1] at ih
    rw [h2]
    simp only [cond_true, Option.some.injEq] at ih ⊢
    rw [List.set_cons_succ]
    show _ = .string y.1 :: .int .u64 (y.2 : Int) :: tcells (l.set i t)
    rw [← ih]
    have e : (i + 1) * 2 = i * 2 + 1 + 1 := by omega
    rw [e]
    simp [tcells, List.take_succ_cons]
theorem store53 {A : ASt} {b i : Nat} {l : List (ByteArray × Nat)} {t : ByteArray × Nat} {tl : Bool} (hb : A.get b = some (.row (tcells l) 2 tl)) (hi : i < l.length) : aStore E0 53 (.pointer (some ⟨b, i * 2, none⟩)) (.agg #[.string t.1, .int .u64 (t.2 : Int)]) A = some (A.set b (.row (tcells (l.set i t)) 2 tl)) := by
  have := tcells_set (t := t) hi
  simp only [aStore, hb, ti53, t53_size, Value.cells, this]
  rfl
end Go.Proofs.Ytpmpclieclcbdaa

/- The document's list of timers: with a name. -/
namespace Go.Proofs.Ytpmpclieclcbdaa
open Go Go.AE Go.Sort

variable {Z : Go.AE.Road}
set_option maxRecDepth 10000
set_option maxHeartbeats 4000000

/-- A list with one more at a place. -/
def ins (l : List (ByteArray × Nat)) (x : ByteArray × Nat) (j : Nat) : List (ByteArray × Nat) := l.take j ++ x :: l.drop j
theorem ins_len {l : List (ByteArray × Nat)} {x : ByteArray × Nat} {j : Nat} (h : j ≤ l.length) : (ins l x j).length = l.length + 1 := by
  unfold ins
  rw [List.length_append, List.length_take, List.length_cons, List.length_drop]
  omega
theorem ins_at {l : List (ByteArray × Nat)} {x : ByteArray × Nat} {j : Nat} (h : j ≤ l.length) : (ins l x j)[j]? = some x := by
  unfold ins
  rw [List.getElem?_append_right (by rw [List.length_take]; omega), List.length_take, Nat.min_eq_left h, Nat.sub_self]
  rfl
theorem ins_pred {l : List (ByteArray × Nat)} {x y : ByteArray × Nat} {j : Nat} (h : l[j]? = some y) : (ins l x (j + 1))[j]? = some y := by
  have hj := lt_of_get h
  unfold ins
  rw [List.getElem?_append_left (by rw [List.length_take]; omega), List.getElem?_take_of_lt (by omega)]
  exact h
theorem ins_swap {l : List (ByteArray × Nat)} {x y : ByteArray × Nat} {j : Nat} (h : l[j]? = some y) : ((ins l x (j + 1)).set (j + 1) y).set j x = ins l x j := by
  have hj := lt_of_get h
  have ey : l[j] = y := by
    rw [List.getElem?_eq_getElem hj] at h
    exact Option.some.inj h
  apply List.ext_getElem?
  intro i
  rw [List.getElem?_set, List.getElem?_set]
  have h1 := ins_len (l := l) (x := x) (j := j + 1) (by omega)
  rw [List.length_set, h1]
  unfold ins
  by_cases e1 : j = i
  · subst e1
    rw [if_pos rfl, if_pos (by omega), List.getElem?_append_right (by rw [List.length_take]; omega), List.length_take, Nat.min_eq_left (by omega), Nat.sub_self]
    rfl
  · rw [if_neg e1]
    by_cases e2 : j + 1 = i
    · subst e2
      rw [if_pos rfl, if_pos (by omega), List.getElem?_append_right (by rw [List.length_take]; omega), List.length_take, Nat.min_eq_left (by omega), show j + 1 - j = 0 + 1 by omega, List.getElem?_cons_succ, List.getElem?_drop, Nat.add_zero, h]
    · rw [if_neg e2]
      by_cases e3 : i < j
      · rw [List.getElem?_append_left (by rw [List.length_take]; omega), List.getElem?_append_left (by rw [List.length_take]; omega), List.getElem?_take_of_lt (by omega), List.getElem?_take_of_lt (by omega)]
      · rw [List.getElem?_append_right (by rw [List.length_take]; omega), List.getElem?_append_right (by rw [List.length_take]; omega), List.length_take, List.length_take, Nat.min_eq_left (by omega), Nat.min_eq_left (by omega)]
        obtain ⟨q, rfl⟩ : ∃ q, i = j + 2 + q := ⟨i - (j + 2), by omega⟩
        rw [show j + 2 + q - (j + 1) = q + 1 by omega, show j + 2 + q - j = q + 1 + 1 by omega, List.getElem?_cons_succ, List.getElem?_cons_succ, List.getElem?_drop, List.getElem?_drop]
        congr 1; omega
theorem ins_sorted {l : List (ByteArray × Nat)} {x : ByteArray × Nat} {j : Nat} (h : l.Pairwise tlt) (hj : j ≤ l.length) (hhi : ∀ t ∈ l.drop j, tlt x t) (hlo : ∀ t ∈ l.take j, tlt t x) : (ins l x j).Pairwise tlt := by
  unfold ins
  have h2 := h
  rw [← List.take_append_drop j l, List.pairwise_append] at h2
  rw [List.pairwise_append, List.pairwise_cons]
  refine ⟨h2.1, ⟨hhi, h2.2.1⟩, fun t ht u hu => ?_⟩
  rcases List.mem_cons.1 hu with rfl | hu
  · exact hlo t ht
  · exact h2.2.2 t ht u hu
theorem ins_mem {l : List (ByteArray × Nat)} {x t : ByteArray × Nat} {j : Nat} : t ∈ ins l x j ↔ t ∈ l ∨ t = x := by
  unfold ins
  have : t ∈ l ↔ t ∈ l.take j ∨ t ∈ l.drop j := by
    conv => lhs; rw [← List.take_append_drop j l]
    exact List.mem_append
  rw [List.mem_append, List.mem_cons, this]
  constructor
  · rintro (h | h | h)
    · exact .inl (.inl h)
    · exact .inr h
    · exact .inl (.inr h)
  · rintro ((h | h) | h)
    · exact .inl h
    · exact .inr (.inr h)
    · exact .inr (.inl h)

/-- With a name. -/
theorem put_ref {A : ASt} {v : Value} {l : List (ByteArray × Nat)} {k : ByteArray} {a : Nat} (h : Reads A v l) (hl : l.length ≤ 900) (ho : l.Pairwise tlt) :
    CallW Z Try.prog 30 [v, .agg #[.string k, .int .u64 (a : Int)]] A (fun r A' => ∃ l2, SliceAt A' A.next r l2 ∧ Fr [] A A' ∧ l2.Pairwise tlt ∧ l2.length ≤ l.length + 1 ∧ ∀ t : ByteArray × Nat, t ∈ l2 ↔ (t ∈ l ∧ t.1 ≠ k) ∨ t = (k, a)) := by
  refine CallW.of_code E0_ok E0_ro fn30 rfl (n := 53) rfl (rs := [.tmp 4]) rfl (by simp) (codeW_ok E0_ok E0_ro ?_)
  simp only [oneW_next, s_0, s_1, s_2, s_3, s_4, Hands, handsV, resultsV, oneOrTuple, argsT, ev, evs, evPairs, evOpt, closed, flat, nth, aCall, aEnter, notYield, aNilCheck, aLoad, partV, isAggD, aFieldAddr, aField, aExtract, Option.isNone, aBuiltin, cond_true, cond_false, cond_dec, if_true, if_false, List.length_cons, List.length_nil, forall_const, implies_true, List.append_nil, List.cons_append, List.nil_append, eq_self, Nat.reduceEqDiff, Nat.reduceAdd, Nat.reduceMul, Nat.reduceSub, Nat.reduceLT, Nat.reduceLeDiff, Nat.reduceBEq, reduceIte, reduceCtorEq, ti63, t63_desc, t63_size, ti25, t25_desc, ti22, t22_desc, t22_size, ti59, t59_desc, t59_size, ti60, t60_desc, t60_size, ti61, t61_desc, t61_size, ti3, t3_desc, t3_size, ti40, t40_desc, t40_size, ti33, t33_desc, t33_size, ti9, t9_desc, t9_size, wrow_now, wrow_all, eqnil25, fn17, fn26, fn27, fn28, fn29, fn38, fn39, fn12, fn14, fn15, box53, ptrTo]
  have hg1 : (A.new (.row [.string k, .int .u64 (a : Int)] 2 false)).get A.next = some (.row [.string k, .int .u64 (a : Int)] 2 false) := by rw [ASt.get_new, if_pos rfl]
  have hf1 : Fr [] A (A.new (.row [.string k, .int .u64 (a : Int)] 2 false)) := ⟨by rw [ASt.next_new]; omega, fun b hb _ => by rw [ASt.get_new, if_neg (by omega)]⟩
  have hn1 : (A.new (.row [.string k, .int .u64 (a : Int)] 2 false)).next = A.next + 1 := by rw [ASt.next_new]
  generalize A.new (.row [.string k, .int .u64 (a : Int)] 2 false) = B at hg1 hf1 hn1 ⊢
  have hcp : cut [Value.string k, Value.int .u64 (a : Int)] 0 2 = some [.string k, .int .u64 (a : Int)] := rfl
  refine CodeW.seqf E0_ok E0_ro mixed R30_ok [0, 1, 2, 4, 5, 3, 6, 7] [3] [[], [], [], [], [], [], [4], [4]] (by simp only [reorder, reoGo, strip, List.map_cons, List.map_nil, opAt, remap, nth, Option.map, σ, place', nbeq, List.length_cons, List.length_nil, Nat.reduceAdd, Nat.reduceLT, Nat.reduceEqDiff, if_true, if_false, reduceIte]; rfl) (by decide +kernel) (by kernel_rfl) (by kernel_rfl) (by kernel_rfl) (by kernel_rfl) ?_
  have valA : valEq (.agg #[.string k, .int .u64 (a : Int)]) (.agg #[.string k, .int .u64 (a : Int)]) = true := by simp [valEq, vEq, vStep, flatEq, lEq, bytesEq_iff]
  simp only [oneW_next, s_0, s_1, s_2, s_3, s_4, Hands, handsV, resultsV, oneOrTuple, argsT, ev, evs, evPairs, evOpt, closed, flat, nth, aCall, aEnter, notYield, aNilCheck, aLoad, partV, isAggD, aFieldAddr, aField, aExtract, Option.isNone, aBuiltin, cond_true, cond_false, cond_dec, if_true, if_false, List.length_cons, List.length_nil, forall_const, implies_true, List.append_nil, List.cons_append, List.nil_append, eq_self, Nat.reduceEqDiff, Nat.reduceAdd, Nat.reduceMul, Nat.reduceSub, Nat.reduceLT, Nat.reduceLeDiff, Nat.reduceBEq, reduceIte, reduceCtorEq, ti63, t63_desc, t63_size, ti25, t25_desc, ti22, t22_desc, t22_size, ti59, t59_desc, t59_size, ti60, t60_desc, t60_size, ti61, t61_desc, t61_size, ti3, t3_desc, t3_size, ti40, t40_desc, t40_size, ti33, t33_desc, t33_size, ti9, t9_desc, t9_size, wrow_now, wrow_all, eqnil25, fn17, fn26, fn27, fn28, fn29, fn38, fn39, fn12, fn14, fn15, q_0, q_1, q_2, f_0, pendW, hasN, reorder, E0_ron, exists_eq', List.length_cons, List.length_nil, hg1, ti53, t53_desc, t53_size, hcp, bs45, valA]
  have hfB : Fr [] B { heap := B.heap, next := B.next + 8 } := ⟨by show B.next ≤ B.next + 8; omega, fun b _ _ => get_next⟩
  refine con32 ((h.fr hf1 (by simp)).fr hfB (by simp)) (by omega) ?_
  rintro r C ⟨l', hs, hf2, hle, hsub, hmem⟩
  have hgC : C.get A.next = some (.row [.string k, .int .u64 (a : Int)] 2 false) := by
    rw [hf2.get A.next (by show A.next < B.next + 8; omega) (by simp), get_next]; exact hg1
  have hCn : B.next + 8 ≤ C.next := hf2.next
  have hfC : Fr [B.next + 4] C (C.set (B.next + 4) (.row [.string k, .int .u64 (a : Int)] 2 false)) := ⟨by rw [ASt.next_set]; omega, fun b hb hn => by rw [ASt.get_set, if_neg (by simpa using hn)]⟩
  obtain ⟨r', D, happ, hs2, hn2, hg2⟩ := (hs.fr hfC (by simp)).app45 (x := B.next + 4) (t := (k, a)) (tl := false) (by rw [ASt.get_set, if_pos rfl]) (by omega) (by rw [ASt.next_set]; exact hCn)
  have hgD : D.get A.next = some (.row [.string k, .int .u64 (a : Int)] 2 false) := by
    rw [hg2 A.next (by show A.next < B.next + 8; omega), ASt.get_set, if_neg (by omega)]; exact hgC
  have hfD : Fr [] A D := by
    refine ⟨?_, fun b hb _ => ?_⟩
    · rw [ASt.next_set] at hn2
      have := hf1.next
      omega
    · rw [hg2 b (by show b < B.next + 8; omega), ASt.get_set, if_neg (by omega), hf2.get b (by show b < B.next + 8; omega) (by simp), get_next]
      exact hf1.get b hb (by simp)
  rcases hs2 with ⟨h0, _⟩ | ⟨b, cap, rest, tl, rfl, hb, hb1, hb2, rfl, rfl, rfl⟩
  · simp at h0
  rw [List.append_nil] at hb
  have hlen2 : (l' ++ [(k, a)]).length = l'.length + 1 := by simp
  rw [hlen2] at happ
  have hb1 : B.next + 8 ≤ b := hb1
  have wr1 : IntKind.i64.wrap (((l'.length + 1 : Nat) : Int) - 1) = ((l'.length : Nat) : Int) := by rw [IntKind.wrap_i64]; omega
  simp only [oneW_next, s_0, s_1, s_2, s_3, s_4, Hands, handsV, resultsV, oneOrTuple, argsT, ev, evs, evPairs, evOpt, closed, flat, nth, aCall, aEnter, notYield, aNilCheck, aLoad, partV, isAggD, aFieldAddr, aField, aExtract, Option.isNone, aBuiltin, cond_true, cond_false, cond_dec, if_true, if_false, List.length_cons, List.length_nil, forall_const, implies_true, List.append_nil, List.cons_append, List.nil_append, eq_self, Nat.reduceEqDiff, Nat.reduceAdd, Nat.reduceMul, Nat.reduceSub, Nat.reduceLT, Nat.reduceLeDiff, Nat.reduceBEq, reduceIte, reduceCtorEq, ti63, t63_desc, t63_size, ti25, t25_desc, ti22, t22_desc, t22_size, ti59, t59_desc, t59_size, ti60, t60_desc, t60_size, ti61, t61_desc, t61_size, ti3, t3_desc, t3_size, ti40, t40_desc, t40_size, ti33, t33_desc, t33_size, ti9, t9_desc, t9_size, wrow_now, wrow_all, eqnil25, fn17, fn26, fn27, fn28, fn29, fn38, fn39, fn12, fn14, fn15, q_0, q_1, q_2, f_0, pendW, hasN, reorder, E0_ron, exists_eq', List.length_cons, List.length_nil, Bool.false_and, Bool.and_false, hgC, hgD, ti53, t53_desc, t53_size, hcp, happ, len45, wr1]
  have hx : ∀ t ∈ l', t.1 ≠ k := fun t ht => ((hmem t).1 ht).2
  have hso : l'.Pairwise tlt := ho.sublist hsub
  refine CodeW.mono (Q := fun o => ∃ T' A' j, o = .fr ⟨.exit 0, T', A'⟩ ∧ tget T' 5 = .slice (some ⟨b, 0, none⟩) (l'.length + 1) unk ∧ j ≤ l'.length ∧ A'.get b = some (.row (tcells (ins l' (k, a) j)) 2 true) ∧ (∀ t ∈ l'.drop j, tlt (k, a) t) ∧ (∀ t ∈ l'.take j, tlt t (k, a)) ∧ b < A'.next ∧ Fr [] A A') ?_ ?_
  · refine CodeW.loopR (k := l'.length) (fun n T A' => n ≤ l'.length ∧ tget T 6 = .int .i64 ((n : Nat) : Int) ∧ tget T 5 = .slice (some ⟨b, 0, none⟩) (l'.length + 1) unk ∧ A'.get b = some (.row (tcells (ins l' (k, a) n)) 2 true) ∧ (∀ t ∈ l'.drop n, tlt (k, a) t) ∧ b < A'.next ∧ Fr [] A A') ?_ ⟨Nat.le_refl _, ?_, ?_, ?_, ?_, hb2, hfD⟩
    · rintro j T A1 ⟨hj, u6, u5, hg, hhi, hbn, hf⟩
      refine codeW_ok E0_ok E0_ro ?_
      have hil := ins_len (x := (k, a)) hj
      by_cases e0 : j = 0
      · subst e0
        have d0 : ((((0 : Nat) : Int)) > 0) = False := eq_false (by omega)
        simp only [oneW_next, s_0, s_1, s_2, s_3, s_4, Hands, handsV, resultsV, oneOrTuple, argsT, ev, evs, evPairs, evOpt, closed, flat, nth, aCall, aEnter, notYield, aNilCheck, aLoad, partV, isAggD, aFieldAddr, aField, aExtract, Option.isNone, aBuiltin, cond_true, cond_false, cond_dec, if_true, if_false, List.length_cons, List.length_nil, forall_const, implies_true, List.append_nil, List.cons_append, List.nil_append, eq_self, Nat.reduceEqDiff, Nat.reduceAdd, Nat.reduceMul, Nat.reduceSub, Nat.reduceLT, Nat.reduceLeDiff, Nat.reduceBEq, reduceIte, reduceCtorEq, ti63, t63_desc, t63_size, ti25, t25_desc, ti22, t22_desc, t22_size, ti59, t59_desc, t59_size, ti60, t60_desc, t60_size, ti61, t61_desc, t61_size, ti3, t3_desc, t3_size, ti40, t40_desc, t40_size, ti33, t33_desc, t33_size, ti9, t9_desc, t9_size, wrow_now, wrow_all, eqnil25, fn17, fn26, fn27, fn28, fn29, fn38, fn39, fn12, fn14, fn15, u6, d0]
        exact ⟨_, _, 0, rfl, by simp only [tget_put, Nat.reduceEqDiff, if_false, if_true, reduceIte, u5], by omega, hg, hhi, by simp, hbn, hf⟩
      · obtain ⟨q, rfl⟩ : ∃ q, j = q + 1 := ⟨j - 1, by omega⟩
        have d0 : (((q + 1 : Nat) : Int) > 0) = True := eq_true (by omega)
        have wq : IntKind.i64.wrap (((q + 1 : Nat) : Int) - 1) = ((q : Nat) : Int) := by rw [IntKind.wrap_i64]; omega
        have hq : l'[q]? = some l'[q] := List.getElem?_eq_getElem _
        generalize hy : l'[q] = y at hq
        have i1 := ins_at (x := (k, a)) hj
        have i0 := ins_pred (x := (k, a)) hq
        have ix1 : aIndexAddr E0 45 (.slice (some ⟨b, 0, none⟩) (l'.length + 1) unk) (.int .i64 ((q + 1 : Nat) : Int)) = some (.pointer (some ⟨b, 0 + (q + 1) * 2, none⟩)) := ix45 (by omega)
        have ix0 : aIndexAddr E0 45 (.slice (some ⟨b, 0, none⟩) (l'.length + 1) unk) (.int .i64 ((q : Nat) : Int)) = some (.pointer (some ⟨b, 0 + q * 2, none⟩)) := ix45 (by omega)
        have n1 := tcells_nth (rest := []) i1
        have n0 := tcells_nth (rest := []) i0
        rw [List.append_nil] at n1 n0
        have cp1 := cutP n1.1 n1.2
        have cp0 := cutP n0.1 n0.2
        simp only [Nat.zero_add] at ix1 ix0
        simp only [oneW_next, s_0, s_1, s_2, s_3, s_4, Hands, handsV, resultsV, oneOrTuple, argsT, ev, evs, evPairs, evOpt, closed, flat, nth, aCall, aEnter, notYield, aNilCheck, aLoad, partV, isAggD, aFieldAddr, aField, aExtract, Option.isNone, aBuiltin, cond_true, cond_false, cond_dec, if_true, if_false, List.length_cons, List.length_nil, forall_const, implies_true, List.append_nil, List.cons_append, List.nil_append, eq_self, Nat.reduceEqDiff, Nat.reduceAdd, Nat.reduceMul, Nat.reduceSub, Nat.reduceLT, Nat.reduceLeDiff, Nat.reduceBEq, reduceIte, reduceCtorEq, ti63, t63_desc, t63_size, ti25, t25_desc, ti22, t22_desc, t22_size, ti59, t59_desc, t59_size, ti60, t60_desc, t60_size, ti61, t61_desc, t61_size, ti3, t3_desc, t3_size, ti40, t40_desc, t40_size, ti33, t33_desc, t33_size, ti9, t9_desc, t9_size, wrow_now, wrow_all, eqnil25, fn17, fn26, fn27, fn28, fn29, fn38, fn39, fn12, fn14, fn15, u6, d0]
        have vA : ∀ t : ByteArray × Nat, valEq (.agg #[.string t.1, .int .u64 (t.2 : Int)]) (.agg #[.string t.1, .int .u64 (t.2 : Int)]) = true := fun t => by simp [valEq, vEq, vStep, flatEq, lEq, bytesEq_iff]
        have vA1 := vA (k, a)
        have vA2 := vA y
        refine CodeW.seqf E0_ok E0_ro mixed R30_ok [0, 1, 2, 3, 4, 5, 6, 7, 8, 9, 10] [] (fanOf _ _ _) (by simp only [reorder, reoGo, strip, List.map_cons, List.map_nil, opAt, remap, nth, Option.map, σ, place', nbeq, List.length_cons, List.length_nil, Nat.reduceAdd, Nat.reduceLT, Nat.reduceEqDiff, if_true, if_false, reduceIte]; rfl) (by decide +kernel) (by kernel_rfl) (by kernel_rfl) (by kernel_rfl) rfl ?_
        simp only [oneW_next, s_0, s_1, s_2, s_3, s_4, Hands, handsV, resultsV, oneOrTuple, argsT, ev, evs, evPairs, evOpt, closed, flat, nth, aCall, aEnter, notYield, aNilCheck, aLoad, partV, isAggD, aFieldAddr, aField, aExtract, Option.isNone, aBuiltin, cond_true, cond_false, cond_dec, if_true, if_false, List.length_cons, List.length_nil, forall_const, implies_true, List.append_nil, List.cons_append, List.nil_append, eq_self, Nat.reduceEqDiff, Nat.reduceAdd, Nat.reduceMul, Nat.reduceSub, Nat.reduceLT, Nat.reduceLeDiff, Nat.reduceBEq, reduceIte, reduceCtorEq, ti63, t63_desc, t63_size, ti25, t25_desc, ti22, t22_desc, t22_size, ti59, t59_desc, t59_size, ti60, t60_desc, t60_size, ti61, t61_desc, t61_size, ti3, t3_desc, t3_size, ti40, t40_desc, t40_size, ti33, t33_desc, t33_size, ti9, t9_desc, t9_size, wrow_now, wrow_all, eqnil25, fn17, fn26, fn27, fn28, fn29, fn38, fn39, fn12, fn14, fn15, q_0, q_1, q_2, f_0, pendW, hasN, reorder, E0_ron, exists_eq', List.length_cons, List.length_nil, u6, u5, wq, ix1, ix0, hg, ti53, t53_desc, t53_size, cp1, cp0, vA1, vA2]
        refine con40 (x := (k, a)) (y := y) ?_
        intro bb A2 hbb hf2
        have hbA : b < ({ heap := A1.heap, next := A1.next + 11 } : ASt).next := by show b < A1.next + 11; omega
        have hg2' : A2.get b = some (.row (tcells (ins l' (k, a) (q + 1))) 2 true) := by rw [hf2.get b hbA (by simp), get_next]; exact hg
        have hfA : Fr [] A A2 := (hf.trans ⟨by show A1.next ≤ A1.next + 11; omega, fun b _ _ => get_next⟩).trans hf2
        have hbn2 : b < A2.next := Nat.lt_of_lt_of_le hbA hf2.next
        have hAn : A.next ≤ b := by omega
        cases bb with
        | false =>
          simp only [oneW_next, s_0, s_1, s_2, s_3, s_4, Hands, handsV, resultsV, oneOrTuple, argsT, ev, evs, evPairs, evOpt, closed, flat, nth, aCall, aEnter, notYield, aNilCheck, aLoad, partV, isAggD, aFieldAddr, aField, aExtract, Option.isNone, aBuiltin, cond_true, cond_false, cond_dec, if_true, if_false, List.length_cons, List.length_nil, forall_const, implies_true, List.append_nil, List.cons_append, List.nil_append, eq_self, Nat.reduceEqDiff, Nat.reduceAdd, Nat.reduceMul, Nat.reduceSub, Nat.reduceLT, Nat.reduceLeDiff, Nat.reduceBEq, reduceIte, reduceCtorEq, ti63, t63_desc, t63_size, ti25, t25_desc, ti22, t22_desc, t22_size, ti59, t59_desc, t59_size, ti60, t60_desc, t60_size, ti61, t61_desc, t61_size, ti3, t3_desc, t3_size, ti40, t40_desc, t40_size, ti33, t33_desc, t33_size, ti9, t9_desc, t9_size, wrow_now, wrow_all, eqnil25, fn17, fn26, fn27, fn28, fn29, fn38, fn39, fn12, fn14, fn15, q_0, q_1, q_2, f_0, pendW, hasN, reorder, E0_ron, exists_eq', List.length_cons, List.length_nil, u6, u5, aUn]
          refine ⟨_, _, q + 1, rfl, by simp only [tget_put, Nat.reduceEqDiff, if_false, if_true, reduceIte, u5], hj, hg2', hhi, fun t ht => ?_, hbn2, hfA⟩
          have hty : tlt y (k, a) := by
            have hno : ¬ tlt (k, a) y := fun h => Bool.false_ne_true (hbb.2 h)
            refine Classical.byContradiction fun h => ?_
            exact hx y (List.mem_of_getElem? hq) (congrArg Prod.fst (tlt_tri hno h)).symm
          rw [List.take_add_one, hq] at ht
          rcases List.mem_append.1 ht with ht | ht
          · have : tlt t y := by
              obtain ⟨i, hi⟩ := List.getElem?_of_mem ht
              have hil := lt_of_get hi
              rw [List.length_take] at hil
              rw [List.getElem?_take_of_lt (by omega)] at hi
              exact (List.pairwise_iff_getElem.1 hso i q (by omega) (by omega) (by omega)) |> fun h => by
                rw [List.getElem?_eq_getElem (by omega)] at hi
                rw [← Option.some.inj hi, ← hy]; exact h
            exact tlt_trans this hty
          · simp only [Option.toList, List.mem_singleton] at ht
            rw [ht]; exact hty
        | true =>
          have hlt := hbb.1 rfl
          simp only [oneW_next, s_0, s_1, s_2, s_3, s_4, Hands, handsV, resultsV, oneOrTuple, argsT, ev, evs, evPairs, evOpt, closed, flat, nth, aCall, aEnter, notYield, aNilCheck, aLoad, partV, isAggD, aFieldAddr, aField, aExtract, Option.isNone, aBuiltin, cond_true, cond_false, cond_dec, if_true, if_false, List.length_cons, List.length_nil, forall_const, implies_true, List.append_nil, List.cons_append, List.nil_append, eq_self, Nat.reduceEqDiff, Nat.reduceAdd, Nat.reduceMul, Nat.reduceSub, Nat.reduceLT, Nat.reduceLeDiff, Nat.reduceBEq, reduceIte, reduceCtorEq, ti63, t63_desc, t63_size, ti25, t25_desc, ti22, t22_desc, t22_size, ti59, t59_desc, t59_size, ti60, t60_desc, t60_size, ti61, t61_desc, t61_size, ti3, t3_desc, t3_size, ti40, t40_desc, t40_size, ti33, t33_desc, t33_size, ti9, t9_desc, t9_size, wrow_now, wrow_all, eqnil25, fn17, fn26, fn27, fn28, fn29, fn38, fn39, fn12, fn14, fn15, q_0, q_1, q_2, f_0, pendW, hasN, reorder, E0_ron, exists_eq', List.length_cons, List.length_nil, u6, u5, aUn]
          have al : aAlloc E0 53 = some (.row [.string ByteArray.empty, .int .u64 0] 2 false, ptrTo) := by
            simp only [aAlloc, ti53, t53_zero, t53_size]; rfl
          have s0 : aStore E0 53 (.pointer (some ⟨A2.next, 0, none⟩)) (.agg #[.string k, .int .u64 (a : Int)]) (A2.new (.row [.string ByteArray.empty, .int .u64 0] 2 false)) = some ((A2.new (.row [.string ByteArray.empty, .int .u64 0] 2 false)).set A2.next (.row [.string k, .int .u64 (a : Int)] 2 false)) := by
            have hgn : (A2.new (.row [.string ByteArray.empty, .int .u64 0] 2 false)).get A2.next = some (.row [.string ByteArray.empty, .int .u64 0] 2 false) := by rw [ASt.get_new, if_pos rfl]
            simp only [aStore, hgn, ti53, t53_size, Value.cells]; rfl
          generalize hX : (A2.new (.row [.string ByteArray.empty, .int .u64 0] 2 false)).set A2.next (.row [.string k, .int .u64 (a : Int)] 2 false) = X at s0
          have xb : X.get b = some (.row (tcells (ins l' (k, a) (q + 1))) 2 true) := by rw [← hX, ASt.get_set, if_neg (by omega), ASt.get_new, if_neg (by omega)]; exact hg2'
          have xn : X.get A2.next = some (.row [.string k, .int .u64 (a : Int)] 2 false) := by rw [← hX, ASt.get_set, if_pos rfl]
          have xx : X.next = A2.next + 1 := by rw [← hX, ASt.next_set, ASt.next_new]
          have hfX : Fr [] A X := by rw [← hX]; exact hfA.trans ⟨by rw [ASt.next_set, ASt.next_new]; omega, fun b hb _ => by rw [ASt.get_set, if_neg (by omega), ASt.get_new, if_neg (by omega)]⟩
          clear hX
          have st1 := store53 (t := y) xb (i := q + 1) (by omega)
          have st2 := store53 (A := X.set b (.row (tcells ((ins l' (k, a) (q + 1)).set (q + 1) y)) 2 true)) (b := b) (i := q) (t := (k, a)) (tl := true) (l := (ins l' (k, a) (q + 1)).set (q + 1) y) (by rw [ASt.get_set, if_pos rfl]) (by rw [List.length_set]; omega)
          have yn : (X.set b (.row (tcells ((ins l' (k, a) (q + 1)).set (q + 1) y)) 2 true)).get A2.next = X.get A2.next := by rw [ASt.get_set, if_neg (by omega)]
          have yn := yn.trans xn
          rw [ins_swap hq] at st2
          have hck : cut [Value.string k, Value.int .u64 (a : Int)] 0 2 = some [.string k, .int .u64 (a : Int)] := rfl
          simp only [oneW_next, s_0, s_1, s_2, s_3, s_4, Hands, handsV, resultsV, oneOrTuple, argsT, ev, evs, evPairs, evOpt, closed, flat, nth, aCall, aEnter, notYield, aNilCheck, aLoad, partV, isAggD, aFieldAddr, aField, aExtract, Option.isNone, aBuiltin, cond_true, cond_false, cond_dec, if_true, if_false, List.length_cons, List.length_nil, forall_const, implies_true, List.append_nil, List.cons_append, List.nil_append, eq_self, Nat.reduceEqDiff, Nat.reduceAdd, Nat.reduceMul, Nat.reduceSub, Nat.reduceLT, Nat.reduceLeDiff, Nat.reduceBEq, reduceIte, reduceCtorEq, ti63, t63_desc, t63_size, ti25, t25_desc, ti22, t22_desc, t22_size, ti59, t59_desc, t59_size, ti60, t60_desc, t60_size, ti61, t61_desc, t61_size, ti3, t3_desc, t3_size, ti40, t40_desc, t40_size, ti33, t33_desc, t33_size, ti9, t9_desc, t9_size, wrow_now, wrow_all, eqnil25, fn17, fn26, fn27, fn28, fn29, fn38, fn39, fn12, fn14, fn15, q_0, q_1, q_2, f_0, pendW, hasN, reorder, E0_ron, exists_eq', List.length_cons, List.length_nil, u6, u5, aUn, wq, ix1, ix0, hg2', ti53, t53_desc, t53_size, cp1, cp0, al, ptrTo, s0, xb, xn, st1, yn, st2, hck]
          refine ⟨q, by omega, by omega, rfl, rfl, fun t ht => ?_, by first | omega | (rw [ASt.next_set, ASt.next_set, xx]; omega), ?_⟩
          · rw [List.drop_eq_getElem_cons (show q < l'.length by omega)] at ht
            rcases List.mem_cons.1 ht with ht | ht
            · rw [ht, hy]; exact hlt
            · exact hhi t ht
          · refine ⟨by rw [ASt.next_set, ASt.next_set]; exact hfX.next, fun c hc hn => ?_⟩
            rw [ASt.get_set, if_neg (by omega), ASt.get_set, if_neg (by omega)]
            exact hfX.get c hc hn
    · simp only [tget_put, Nat.reduceEqDiff, if_false, if_true, reduceIte]
    · simp only [tget_put, Nat.reduceEqDiff, if_false, if_true, reduceIte]
    · rw [hb]; unfold ins; rw [List.take_length, List.drop_length]
    · simp
  · rintro o ⟨T', A', j, rfl, u5, hj, hg, hhi, hlo, hbn, hf⟩
    simp only [oneW_next, s_0, s_1, s_2, s_3, s_4, Hands, handsV, resultsV, oneOrTuple, argsT, ev, evs, evPairs, evOpt, closed, flat, nth, aCall, aEnter, notYield, aNilCheck, aLoad, partV, isAggD, aFieldAddr, aField, aExtract, Option.isNone, aBuiltin, cond_true, cond_false, cond_dec, if_true, if_false, List.length_cons, List.length_nil, forall_const, implies_true, List.append_nil, List.cons_append, List.nil_append, eq_self, Nat.reduceEqDiff, Nat.reduceAdd, Nat.reduceMul, Nat.reduceSub, Nat.reduceLT, Nat.reduceLeDiff, Nat.reduceBEq, reduceIte, reduceCtorEq, ti63, t63_desc, t63_size, ti25, t25_desc, ti22, t22_desc, t22_size, ti59, t59_desc, t59_size, ti60, t60_desc, t60_size, ti61, t61_desc, t61_size, ti3, t3_desc, t3_size, ti40, t40_desc, t40_size, ti33, t33_desc, t33_size, ti9, t9_desc, t9_size, wrow_now, wrow_all, eqnil25, fn17, fn26, fn27, fn28, fn29, fn38, fn39, fn12, fn14, fn15, u5]
    refine ⟨ins l' (k, a) j, .inr ⟨b, unk, [], true, by rw [ins_len hj], by rw [List.append_nil]; exact hg, by omega, hbn, rfl, rfl, rfl⟩, hf, ins_sorted hso hj hhi hlo, by rw [ins_len hj]; omega, fun t => ?_⟩
    rw [ins_mem, hmem]
end Go.Proofs.Ytpmpclieclcbdaa

/- The wheel's timers against the document's. -/
namespace Go.Proofs.Ytpmpclieclcbdaa
open Go Go.AE Go.Sort

variable {Z : Go.AE.Road}
set_option maxRecDepth 10000
set_option maxHeartbeats 4000000

theorem Reads.ve {A : ASt} {v : Value} {l : List (ByteArray × Nat)} (h : Reads A v l) : valEq v v = true := by
  rcases h with ⟨_, ⟨n, rfl⟩ | rfl⟩ | ⟨b, o, cap, _, _, _, rfl, _⟩
  · exact valEq_nilSlice
  · simp [valEq, vEq, vStep, flatEq]
  · exact valEq_slice
/-- Two lists that are the same are told to be. -/
theorem same_spec {A : ASt} {lo : Nat} {v v' : Value} {l : List (ByteArray × Nat)} (h : SliceAt A lo v l) (h' : Reads A v' l) (hl : l.length ≤ 1000) : CallW Z Try.prog 20 [v, v'] A (fun r A' => r = .bool true ∧ Fr [] A A') := by
  refine CallW.of_code E0_ok E0_ro fn20 rfl (n := 41) rfl (rs := [.tmp 4]) rfl (by simp) (codeW_ok E0_ok E0_ro ?_)
  have hlv : ∀ A', aLen E0 30 v A' = some (.int .i64 (l.length : Int)) := fun _ => h.len
  have hlv' : ∀ A', aLen E0 45 v' A' = some (.int .i64 (l.length : Int)) := fun _ => h'.len
  have fne : ∀ q : Int, (q ≠ q) = False := fun q => eq_false (by simp)
  have sne : ∀ (q : ByteArray), aBin2 E0 .neq 9 (Operand.tmp 21) (Operand.tmp 26) (.string q) (.string q) = some (.bool false) := fun q => by rw [s_neq]; simp
  simp only [oneW_next, s_0, s_1, s_2, s_3, s_4, Hands, handsV, resultsV, oneOrTuple, argsT, ev, evs, evPairs, evOpt, closed, flat, nth, aCall, aEnter, notYield, aNilCheck, aLoad, partV, isAggD, aFieldAddr, aField, aExtract, Option.isNone, aBuiltin, cond_true, cond_false, cond_dec, if_true, if_false, List.length_cons, List.length_nil, forall_const, implies_true, List.append_nil, List.cons_append, List.nil_append, eq_self, Nat.reduceEqDiff, Nat.reduceAdd, Nat.reduceMul, Nat.reduceSub, Nat.reduceLT, Nat.reduceLeDiff, Nat.reduceBEq, reduceIte, reduceCtorEq, ti63, t63_desc, t63_size, ti25, t25_desc, ti22, t22_desc, t22_size, ti59, t59_desc, t59_size, ti60, t60_desc, t60_size, ti61, t61_desc, t61_size, ti3, t3_desc, t3_size, ti40, t40_desc, t40_size, ti33, t33_desc, t33_size, ti9, t9_desc, t9_size, wrow_now, wrow_all, eqnil25, fn17, fn26, fn27, fn28, fn29, fn38, fn39, fn12, fn14, fn15, hlv, hlv', fne]
  refine CodeW.mono (Q := fun o => ∃ T' A', o = .fr ⟨.exit 0, T', A'⟩ ∧ Fr [] A A') ?_ ?_
  · refine CodeW.loopR (k := l.length) (fun n T A' => ∃ i, n = l.length - i ∧ i ≤ l.length ∧ tget T 5 = .int .i64 ((i : Nat) : Int) ∧ tget T 0 = v ∧ tget T 1 = v' ∧ Fr [] A A') ?_ ⟨0, rfl, by omega, ?_, ?_, ?_, .refl _ _⟩
    · rintro n T A1 ⟨i, rfl, hi, u5, u0, u1, hf⟩
      refine codeW_ok E0_ok E0_ro ?_
      by_cases e1 : i < l.length
      · have d1 : ((i : Int) < (l.length : Int)) = True := eq_true (by omega)
        have hx : l[i]? = some l[i] := List.getElem?_eq_getElem _
        generalize l[i] = t at hx
        simp only [oneW_next, s_0, s_1, s_2, s_3, s_4, Hands, handsV, resultsV, oneOrTuple, argsT, ev, evs, evPairs, evOpt, closed, flat, nth, aCall, aEnter, notYield, aNilCheck, aLoad, partV, isAggD, aFieldAddr, aField, aExtract, Option.isNone, aBuiltin, cond_true, cond_false, cond_dec, if_true, if_false, List.length_cons, List.length_nil, forall_const, implies_true, List.append_nil, List.cons_append, List.nil_append, eq_self, Nat.reduceEqDiff, Nat.reduceAdd, Nat.reduceMul, Nat.reduceSub, Nat.reduceLT, Nat.reduceLeDiff, Nat.reduceBEq, reduceIte, reduceCtorEq, ti63, t63_desc, t63_size, ti25, t25_desc, ti22, t22_desc, t22_size, ti59, t59_desc, t59_size, ti60, t60_desc, t60_size, ti61, t61_desc, t61_size, ti3, t3_desc, t3_size, ti40, t40_desc, t40_size, ti33, t33_desc, t33_size, ti9, t9_desc, t9_size, wrow_now, wrow_all, eqnil25, fn17, fn26, fn27, fn28, fn29, fn38, fn39, fn12, fn14, fn15, u5, u0, hlv, d1]
        have hs := h.fr hf (by simp)
        have hr := h'.fr hf (by simp)
        obtain ⟨bp, r1, tl1, hix1, hbp, _⟩ := hs.ix2 (by omega)
        have hi1 := hix1 i e1
        obtain ⟨gn, ga⟩ := tcells_nth (rest := r1) hx
        obtain ⟨b, p, c, sz, tl, hi2, hb, _, gn', ga'⟩ := hr.ix hx
        have v1 := h.ve
        have v2 := h'.ve
        refine CodeW.quiet E0_ok E0_ro mixed (by kernel_rfl) (by kernel_rfl) ?_
        simp only [oneW_next, s_0, s_1, s_2, s_3, s_4, Hands, handsV, resultsV, oneOrTuple, argsT, ev, evs, evPairs, evOpt, closed, flat, nth, aCall, aEnter, notYield, aNilCheck, aLoad, partV, isAggD, aFieldAddr, aField, aExtract, Option.isNone, aBuiltin, cond_true, cond_false, cond_dec, if_true, if_false, List.length_cons, List.length_nil, forall_const, implies_true, List.append_nil, List.cons_append, List.nil_append, eq_self, Nat.reduceEqDiff, Nat.reduceAdd, Nat.reduceMul, Nat.reduceSub, Nat.reduceLT, Nat.reduceLeDiff, Nat.reduceBEq, reduceIte, reduceCtorEq, ti63, t63_desc, t63_size, ti25, t25_desc, ti22, t22_desc, t22_size, ti59, t59_desc, t59_size, ti60, t60_desc, t60_size, ti61, t61_desc, t61_size, ti3, t3_desc, t3_size, ti40, t40_desc, t40_size, ti33, t33_desc, t33_size, ti9, t9_desc, t9_size, wrow_now, wrow_all, eqnil25, fn17, fn26, fn27, fn28, fn29, fn38, fn39, fn12, fn14, fn15, quietW_nil, quietW_arr, quietW_cons, aStill, freshOp, quietOp, E0_ron, get_empty, get_next, ofVal_none, valEq_int, valEq_str, valEq_bool, valEq_map, valEq_ptr, valEq_slice, valEq_nilSlice, valEq_mapNil, List.length_cons, List.length_nil, u5, u0, u1, hi1, hi2, hbp, hb, gn, ga, gn', ga', v1, v2, sne, fne, ti53, t53_desc, ti33, t33_desc, wrap_succ (show i < 1000000 by omega)]
        exact ⟨l.length - (i + 1), by omega, i + 1, rfl, by omega, rfl, ⟨by show A.next ≤ A1.next + 24; have := hf.next; omega, fun b hb hn => hf.get b hb hn⟩⟩
      · have d1 : ((i : Int) < (l.length : Int)) = False := eq_false (by omega)
        simp only [oneW_next, s_0, s_1, s_2, s_3, s_4, Hands, handsV, resultsV, oneOrTuple, argsT, ev, evs, evPairs, evOpt, closed, flat, nth, aCall, aEnter, notYield, aNilCheck, aLoad, partV, isAggD, aFieldAddr, aField, aExtract, Option.isNone, aBuiltin, cond_true, cond_false, cond_dec, if_true, if_false, List.length_cons, List.length_nil, forall_const, implies_true, List.append_nil, List.cons_append, List.nil_append, eq_self, Nat.reduceEqDiff, Nat.reduceAdd, Nat.reduceMul, Nat.reduceSub, Nat.reduceLT, Nat.reduceLeDiff, Nat.reduceBEq, reduceIte, reduceCtorEq, ti63, t63_desc, t63_size, ti25, t25_desc, ti22, t22_desc, t22_size, ti59, t59_desc, t59_size, ti60, t60_desc, t60_size, ti61, t61_desc, t61_size, ti3, t3_desc, t3_size, ti40, t40_desc, t40_size, ti33, t33_desc, t33_size, ti9, t9_desc, t9_size, wrow_now, wrow_all, eqnil25, fn17, fn26, fn27, fn28, fn29, fn38, fn39, fn12, fn14, fn15, u5, u0, hlv, d1]
        exact ⟨_, _, rfl, hf⟩
    all_goals simp only [tget_put, Nat.reduceEqDiff, if_false, if_true, reduceIte, and_self]
    all_goals rfl
  · rintro o ⟨T', A', rfl, hf⟩
    simp only [oneW_next, s_0, s_1, s_2, s_3, s_4, Hands, handsV, resultsV, oneOrTuple, argsT, ev, evs, evPairs, evOpt, closed, flat, nth, aCall, aEnter, notYield, aNilCheck, aLoad, partV, isAggD, aFieldAddr, aField, aExtract, Option.isNone, aBuiltin, cond_true, cond_false, cond_dec, if_true, if_false, List.length_cons, List.length_nil, forall_const, implies_true, List.append_nil, List.cons_append, List.nil_append, eq_self, Nat.reduceEqDiff, Nat.reduceAdd, Nat.reduceMul, Nat.reduceSub, Nat.reduceLT, Nat.reduceLeDiff, Nat.reduceBEq, reduceIte, reduceCtorEq, ti63, t63_desc, t63_size, ti25, t25_desc, ti22, t22_desc, t22_size, ti59, t59_desc, t59_size, ti60, t60_desc, t60_size, ti61, t61_desc, t61_size, ti3, t3_desc, t3_size, ti40, t40_desc, t40_size, ti33, t33_desc, t33_size, ti9, t9_desc, t9_size, wrow_now, wrow_all, eqnil25, fn17, fn26, fn27, fn28, fn29, fn38, fn39, fn12, fn14, fn15]
    exact hf
end Go.Proofs.Ytpmpclieclcbdaa

/- The document's level and figure. -/
namespace Go.Proofs.Ytpmpclieclcbdaa
open Go Go.AE Go.Sort

variable {Z : Go.AE.Road}
set_option maxRecDepth 10000
set_option maxHeartbeats 4000000

theorem quo16 {xo yo : Operand} {x : Nat} (h : x < 18446744073709551616) : aBin2 E0 .quo 22 xo yo (.int .u64 (x : Int)) (.int .u64 16) = some (.int .u64 ((x / 16 : Nat) : Int)) := by
  rw [b_quo (by omega)]
  have e : (x : Int).tdiv 16 = ((x / 16 : Nat) : Int) := rfl
  rw [e, IntKind.wrap_u64]
  congr 2
  omega
theorem rem16 {xo yo : Operand} {x : Nat} : aBin2 E0 .rem 22 xo yo (.int .u64 (x : Int)) (.int .u64 16) = some (.int .u64 ((x % 16 : Nat) : Int)) := b_rem_nat (b := 16) (by decide)
/-- The greatest of the first so many places at which the figures differ, or -1. -/
def LevelN (a b n : Nat) (r : Int) : Prop := (r = -1 ∧ ∀ i, i < n → a / 16 ^ i % 16 = b / 16 ^ i % 16) ∨ ∃ k : Nat, r = (k : Int) ∧ k < n ∧ a / 16 ^ k % 16 ≠ b / 16 ^ k % 16 ∧ ∀ i, k < i → i < n → a / 16 ^ i % 16 = b / 16 ^ i % 16
theorem LevelN.same {a b n : Nat} {r : Int} (h : LevelN a b n r) (e : a / 16 ^ n % 16 = b / 16 ^ n % 16) : LevelN a b (n + 1) r := by
  rcases h with ⟨h1, h2⟩ | ⟨k, h1, h2, h3, h4⟩
  · refine .inl ⟨h1, fun i hi => ?_⟩
    by_cases hn : i = n
    · rw [hn]; exact e
    · exact h2 i (by omega)
  · refine .inr ⟨k, h1, by omega, h3, fun i hk hi => ?_⟩
    by_cases hn : i = n
    · rw [hn]; exact e
    · exact h4 i hk (by omega)
theorem LevelN.new {a b n : Nat} (e : a / 16 ^ n % 16 ≠ b / 16 ^ n % 16) : LevelN a b (n + 1) (n : Int) := .inr ⟨n, rfl, by omega, e, fun i h1 h2 => by omega⟩
theorem div16_lt {x n : Nat} (h : x < 18446744073709551616) : x / 16 ^ n < 18446744073709551616 := Nat.lt_of_le_of_lt (Nat.div_le_self _ _) h
theorem div16_succ {x n : Nat} : x / 16 ^ n / 16 = x / 16 ^ (n + 1) := by rw [Nat.div_div_eq_div_mul, Nat.pow_succ]

theorem level_spec {A : ASt} {a b : Nat} (ha : a < 18446744073709551616) (hb : b < 18446744073709551616) : CallW Z Try.prog 43 [.int .u64 (a : Int), .int .u64 (b : Int)] A (fun r A' => A' = A ∧ ∃ n, r = .int .i64 n ∧ LevelN a b 16 n) := by
  refine CallW.of_code E0_ok E0_ro fn43 rfl (n := 22) rfl (rs := [.tmp 4]) rfl (by simp) (codeW_ok E0_ok E0_ro ?_)
  simp only [oneW_next, s_0, s_1, s_2, s_3, s_4, Hands, handsV, resultsV, oneOrTuple, argsT, ev, evs, evPairs, evOpt, closed, flat, nth, aCall, aEnter, notYield, aNilCheck, aLoad, partV, isAggD, aFieldAddr, aField, aExtract, Option.isNone, aBuiltin, cond_true, cond_false, cond_dec, if_true, if_false, List.length_cons, List.length_nil, forall_const, implies_true, List.append_nil, List.cons_append, List.nil_append, eq_self, Nat.reduceEqDiff, Nat.reduceAdd, Nat.reduceMul, Nat.reduceSub, Nat.reduceLT, Nat.reduceLeDiff, Nat.reduceBEq, reduceIte, reduceCtorEq, ti63, t63_desc, t63_size, ti25, t25_desc, ti22, t22_desc, t22_size, ti59, t59_desc, t59_size, ti60, t60_desc, t60_size, ti61, t61_desc, t61_size, ti3, t3_desc, t3_size, ti40, t40_desc, t40_size, ti33, t33_desc, t33_size, ti9, t9_desc, t9_size, wrow_now, wrow_all, eqnil25, fn17, fn26, fn27, fn28, fn29, fn38, fn39, fn12, fn14, fn15]
  refine CodeW.mono (Q := fun o => ∃ T' n, o = .fr ⟨.exit 0, T', A⟩ ∧ tget T' 5 = .int .i64 n ∧ LevelN a b 16 n) ?_ ?_
  · refine CodeW.loopR (k := 16) (fun k T A' => ∃ i n, k = 16 - i ∧ i ≤ 16 ∧ tget T 6 = .int .i64 ((i : Nat) : Int) ∧ tget T 0 = .int .u64 ((a / 16 ^ i : Nat) : Int) ∧ tget T 1 = .int .u64 ((b / 16 ^ i : Nat) : Int) ∧ tget T 5 = .int .i64 n ∧ LevelN a b i n ∧ A' = A) ?_ ⟨0, -1, rfl, by omega, ?_, ?_, ?_, ?_, .inl ⟨rfl, by omega⟩, rfl⟩
    · rintro k T A1 ⟨i, n, rfl, hi, u6, u0, u1, u5, hL, rfl⟩
      refine codeW_ok E0_ok E0_ro ?_
      by_cases e1 : i < 16
      · have d1 : ((i : Int) < 16) = True := eq_true (by omega)
        have q1 := fun xo yo => quo16 (xo := xo) (yo := yo) (div16_lt (n := i) ha)
        have q2 := fun xo yo => quo16 (xo := xo) (yo := yo) (div16_lt (n := i) hb)
        by_cases e2 : a / 16 ^ i % 16 = b / 16 ^ i % 16
        · have d2 : (((a / 16 ^ i % 16 : Nat) : Int) ≠ ((b / 16 ^ i % 16 : Nat) : Int)) = False := eq_false (by rw [e2]; simp)
          simp only [oneW_next, s_0, s_1, s_2, s_3, s_4, Hands, handsV, resultsV, oneOrTuple, argsT, ev, evs, evPairs, evOpt, closed, flat, nth, aCall, aEnter, notYield, aNilCheck, aLoad, partV, isAggD, aFieldAddr, aField, aExtract, Option.isNone, aBuiltin, cond_true, cond_false, cond_dec, if_true, if_false, List.length_cons, List.length_nil, forall_const, implies_true, List.append_nil, List.cons_append, List.nil_append, eq_self, Nat.reduceEqDiff, Nat.reduceAdd, Nat.reduceMul, Nat.reduceSub, Nat.reduceLT, Nat.reduceLeDiff, Nat.reduceBEq, reduceIte, reduceCtorEq, ti63, t63_desc, t63_size, ti25, t25_desc, ti22, t22_desc, t22_size, ti59, t59_desc, t59_size, ti60, t60_desc, t60_size, ti61, t61_desc, t61_size, ti3, t3_desc, t3_size, ti40, t40_desc, t40_size, ti33, t33_desc, t33_size, ti9, t9_desc, t9_size, wrow_now, wrow_all, eqnil25, fn17, fn26, fn27, fn28, fn29, fn38, fn39, fn12, fn14, fn15, u6, u0, u1, d1, rem16, d2, q1, q2, div16_succ, wrap_succ (show i < 1000000 by omega)]
          exact ⟨16 - (i + 1), by omega, i + 1, n, rfl, by omega, rfl, rfl, rfl, u5, hL.same e2⟩
        · have d2 : (((a / 16 ^ i % 16 : Nat) : Int) ≠ ((b / 16 ^ i % 16 : Nat) : Int)) = True := eq_true (by omega)
          simp only [oneW_next, s_0, s_1, s_2, s_3, s_4, Hands, handsV, resultsV, oneOrTuple, argsT, ev, evs, evPairs, evOpt, closed, flat, nth, aCall, aEnter, notYield, aNilCheck, aLoad, partV, isAggD, aFieldAddr, aField, aExtract, Option.isNone, aBuiltin, cond_true, cond_false, cond_dec, if_true, if_false, List.length_cons, List.length_nil, forall_const, implies_true, List.append_nil, List.cons_append, List.nil_append, eq_self, Nat.reduceEqDiff, Nat.reduceAdd, Nat.reduceMul, Nat.reduceSub, Nat.reduceLT, Nat.reduceLeDiff, Nat.reduceBEq, reduceIte, reduceCtorEq, ti63, t63_desc, t63_size, ti25, t25_desc, ti22, t22_desc, t22_size, ti59, t59_desc, t59_size, ti60, t60_desc, t60_size, ti61, t61_desc, t61_size, ti3, t3_desc, t3_size, ti40, t40_desc, t40_size, ti33, t33_desc, t33_size, ti9, t9_desc, t9_size, wrow_now, wrow_all, eqnil25, fn17, fn26, fn27, fn28, fn29, fn38, fn39, fn12, fn14, fn15, u6, u0, u1, d1, rem16, d2, q1, q2, div16_succ, wrap_succ (show i < 1000000 by omega)]
          exact ⟨16 - (i + 1), by omega, i + 1, i, rfl, by omega, rfl, rfl, rfl, rfl, .new e2⟩
      · have d1 : ((i : Int) < 16) = False := eq_false (by omega)
        have ei : i = 16 := by omega
        subst ei
        simp only [oneW_next, s_0, s_1, s_2, s_3, s_4, Hands, handsV, resultsV, oneOrTuple, argsT, ev, evs, evPairs, evOpt, closed, flat, nth, aCall, aEnter, notYield, aNilCheck, aLoad, partV, isAggD, aFieldAddr, aField, aExtract, Option.isNone, aBuiltin, cond_true, cond_false, cond_dec, if_true, if_false, List.length_cons, List.length_nil, forall_const, implies_true, List.append_nil, List.cons_append, List.nil_append, eq_self, Nat.reduceEqDiff, Nat.reduceAdd, Nat.reduceMul, Nat.reduceSub, Nat.reduceLT, Nat.reduceLeDiff, Nat.reduceBEq, reduceIte, reduceCtorEq, ti63, t63_desc, t63_size, ti25, t25_desc, ti22, t22_desc, t22_size, ti59, t59_desc, t59_size, ti60, t60_desc, t60_size, ti61, t61_desc, t61_size, ti3, t3_desc, t3_size, ti40, t40_desc, t40_size, ti33, t33_desc, t33_size, ti9, t9_desc, t9_size, wrow_now, wrow_all, eqnil25, fn17, fn26, fn27, fn28, fn29, fn38, fn39, fn12, fn14, fn15, u6, d1]
        exact ⟨_, n, rfl, by simp only [tget_put, Nat.reduceEqDiff, if_false, if_true, reduceIte, u5], hL⟩
    all_goals simp only [tget_put, Nat.reduceEqDiff, if_false, if_true, reduceIte, Nat.pow_zero, Nat.div_one]
    all_goals rfl
  · rintro o ⟨T', n, rfl, u5, hL⟩
    simp only [oneW_next, s_0, s_1, s_2, s_3, s_4, Hands, handsV, resultsV, oneOrTuple, argsT, ev, evs, evPairs, evOpt, closed, flat, nth, aCall, aEnter, notYield, aNilCheck, aLoad, partV, isAggD, aFieldAddr, aField, aExtract, Option.isNone, aBuiltin, cond_true, cond_false, cond_dec, if_true, if_false, List.length_cons, List.length_nil, forall_const, implies_true, List.append_nil, List.cons_append, List.nil_append, eq_self, Nat.reduceEqDiff, Nat.reduceAdd, Nat.reduceMul, Nat.reduceSub, Nat.reduceLT, Nat.reduceLeDiff, Nat.reduceBEq, reduceIte, reduceCtorEq, ti63, t63_desc, t63_size, ti25, t25_desc, ti22, t22_desc, t22_size, ti59, t59_desc, t59_size, ti60, t60_desc, t60_size, ti61, t61_desc, t61_size, ti3, t3_desc, t3_size, ti40, t40_desc, t40_size, ti33, t33_desc, t33_size, ti9, t9_desc, t9_size, wrow_now, wrow_all, eqnil25, fn17, fn26, fn27, fn28, fn29, fn38, fn39, fn12, fn14, fn15, u5]
    exact ⟨n, rfl, hL⟩

theorem fc22 {x : Operand} : freshOp E0 (.convert 22 3 x) = false := by kernel_rfl
theorem cv22 {n : Nat} {A : ASt} (h : n < 1000000) : aConvert E0 22 3 (.int .u64 (n : Int)) A = some (.int .i64 (n : Int)) := by
  have e : IntKind.i64.wrap (n : Int) = (n : Int) := by rw [IntKind.wrap_i64]; omega
  rw [conv_int ti22 ti3 t3_desc, e]
theorem figure_spec {A : ASt} {a k : Nat} (ha : a < 18446744073709551616) (hk : k ≤ 16) : CallW Z Try.prog 44 [.int .u64 (a : Int), .int .i64 (k : Int)] A (fun r A' => A' = A ∧ r = .int .i64 ((a / 16 ^ k % 16 : Nat) : Int)) := by
  refine CallW.of_code E0_ok E0_ro fn44 rfl (n := 16) rfl (rs := [.tmp 4]) rfl (by simp) (codeW_ok E0_ok E0_ro ?_)
  simp only [oneW_next, s_0, s_1, s_2, s_3, s_4, Hands, handsV, resultsV, oneOrTuple, argsT, ev, evs, evPairs, evOpt, closed, flat, nth, aCall, aEnter, notYield, aNilCheck, aLoad, partV, isAggD, aFieldAddr, aField, aExtract, Option.isNone, aBuiltin, cond_true, cond_false, cond_dec, if_true, if_false, List.length_cons, List.length_nil, forall_const, implies_true, List.append_nil, List.cons_append, List.nil_append, eq_self, Nat.reduceEqDiff, Nat.reduceAdd, Nat.reduceMul, Nat.reduceSub, Nat.reduceLT, Nat.reduceLeDiff, Nat.reduceBEq, reduceIte, reduceCtorEq, ti63, t63_desc, t63_size, ti25, t25_desc, ti22, t22_desc, t22_size, ti59, t59_desc, t59_size, ti60, t60_desc, t60_size, ti61, t61_desc, t61_size, ti3, t3_desc, t3_size, ti40, t40_desc, t40_size, ti33, t33_desc, t33_size, ti9, t9_desc, t9_size, wrow_now, wrow_all, eqnil25, fn17, fn26, fn27, fn28, fn29, fn38, fn39, fn12, fn14, fn15]
  refine CodeW.mono (Q := fun o => ∃ T', o = .fr ⟨.exit 0, T', A⟩ ∧ tget T' 0 = .int .u64 ((a / 16 ^ k : Nat) : Int)) ?_ ?_
  · refine CodeW.loopR (k := k) (fun n T A' => ∃ i, n = k - i ∧ i ≤ k ∧ tget T 5 = .int .i64 ((i : Nat) : Int) ∧ tget T 0 = .int .u64 ((a / 16 ^ i : Nat) : Int) ∧ tget T 1 = .int .i64 (k : Int) ∧ A' = A) ?_ ⟨0, rfl, by omega, ?_, ?_, ?_, rfl⟩
    · rintro n T A1 ⟨i, rfl, hi, u5, u0, u1, rfl⟩
      refine codeW_ok E0_ok E0_ro ?_
      by_cases e1 : i < k
      · have d1 : ((i : Int) < (k : Int)) = True := eq_true (by omega)
        have q1 := fun xo yo => quo16 (xo := xo) (yo := yo) (div16_lt (n := i) ha)
        simp only [oneW_next, s_0, s_1, s_2, s_3, s_4, Hands, handsV, resultsV, oneOrTuple, argsT, ev, evs, evPairs, evOpt, closed, flat, nth, aCall, aEnter, notYield, aNilCheck, aLoad, partV, isAggD, aFieldAddr, aField, aExtract, Option.isNone, aBuiltin, cond_true, cond_false, cond_dec, if_true, if_false, List.length_cons, List.length_nil, forall_const, implies_true, List.append_nil, List.cons_append, List.nil_append, eq_self, Nat.reduceEqDiff, Nat.reduceAdd, Nat.reduceMul, Nat.reduceSub, Nat.reduceLT, Nat.reduceLeDiff, Nat.reduceBEq, reduceIte, reduceCtorEq, ti63, t63_desc, t63_size, ti25, t25_desc, ti22, t22_desc, t22_size, ti59, t59_desc, t59_size, ti60, t60_desc, t60_size, ti61, t61_desc, t61_size, ti3, t3_desc, t3_size, ti40, t40_desc, t40_size, ti33, t33_desc, t33_size, ti9, t9_desc, t9_size, wrow_now, wrow_all, eqnil25, fn17, fn26, fn27, fn28, fn29, fn38, fn39, fn12, fn14, fn15, u5, u0, u1, d1, q1, div16_succ, wrap_succ (show i < 1000000 by omega)]
        exact ⟨k - (i + 1), by omega, i + 1, rfl, by omega, rfl, rfl⟩
      · have d1 : ((i : Int) < (k : Int)) = False := eq_false (by omega)
        have ei : i = k := by omega
        subst ei
        simp only [oneW_next, s_0, s_1, s_2, s_3, s_4, Hands, handsV, resultsV, oneOrTuple, argsT, ev, evs, evPairs, evOpt, closed, flat, nth, aCall, aEnter, notYield, aNilCheck, aLoad, partV, isAggD, aFieldAddr, aField, aExtract, Option.isNone, aBuiltin, cond_true, cond_false, cond_dec, if_true, if_false, List.length_cons, List.length_nil, forall_const, implies_true, List.append_nil, List.cons_append, List.nil_append, eq_self, Nat.reduceEqDiff, Nat.reduceAdd, Nat.reduceMul, Nat.reduceSub, Nat.reduceLT, Nat.reduceLeDiff, Nat.reduceBEq, reduceIte, reduceCtorEq, ti63, t63_desc, t63_size, ti25, t25_desc, ti22, t22_desc, t22_size, ti59, t59_desc, t59_size, ti60, t60_desc, t60_size, ti61, t61_desc, t61_size, ti3, t3_desc, t3_size, ti40, t40_desc, t40_size, ti33, t33_desc, t33_size, ti9, t9_desc, t9_size, wrow_now, wrow_all, eqnil25, fn17, fn26, fn27, fn28, fn29, fn38, fn39, fn12, fn14, fn15, u5, u1, d1]
        exact ⟨_, rfl, by simp only [tget_put, Nat.reduceEqDiff, if_false, if_true, reduceIte, u0]⟩
    all_goals simp only [tget_put, Nat.reduceEqDiff, if_false, if_true, reduceIte, Nat.pow_zero, Nat.div_one]
    all_goals rfl
  · rintro o ⟨T', rfl, u0⟩
    have hm : a / 16 ^ k % 16 < 1000000 := Nat.lt_of_lt_of_le (Nat.mod_lt _ (by omega)) (by omega)
    simp only [oneW_next, s_0, s_1, s_2, s_3, s_4, Hands, handsV, resultsV, oneOrTuple, argsT, ev, evs, evPairs, evOpt, closed, flat, nth, aCall, aEnter, notYield, aNilCheck, aLoad, partV, isAggD, aFieldAddr, aField, aExtract, Option.isNone, aBuiltin, cond_true, cond_false, cond_dec, if_true, if_false, List.length_cons, List.length_nil, forall_const, implies_true, List.append_nil, List.cons_append, List.nil_append, eq_self, Nat.reduceEqDiff, Nat.reduceAdd, Nat.reduceMul, Nat.reduceSub, Nat.reduceLT, Nat.reduceLeDiff, Nat.reduceBEq, reduceIte, reduceCtorEq, ti63, t63_desc, t63_size, ti25, t25_desc, ti22, t22_desc, t22_size, ti59, t59_desc, t59_size, ti60, t60_desc, t60_size, ti61, t61_desc, t61_size, ti3, t3_desc, t3_size, ti40, t40_desc, t40_size, ti33, t33_desc, t33_size, ti9, t9_desc, t9_size, wrow_now, wrow_all, eqnil25, fn17, fn26, fn27, fn28, fn29, fn38, fn39, fn12, fn14, fn15, u0, rem16, aOp_convert, fc22, cv22 hm]
end Go.Proofs.Ytpmpclieclcbdaa

/- The document's wheel: its clock, its list. -/
namespace Go.Proofs.Ytpmpclieclcbdaa
open Go Go.AE Go.Sort

variable {Z : Go.AE.Road}
set_option maxRecDepth 10000
set_option maxHeartbeats 4000000

/-- The block of a slice. -/
def Blk (v : Value) (b : Nat) : Prop := ∃ o n c, v = .slice (some ⟨b, o, none⟩) n c
/-- A list that ends where its row does. -/
def Tail (A : ASt) (v : Value) (l : List (ByteArray × Nat)) : Prop :=
  (l = [] ∧ (v = .slice none 0 0 ∨ v = zslice)) ∨ ∃ b all s, v = .slice (some ⟨b, s * 2, none⟩) l.length unk ∧ A.get b = some (.row (tcells all) 2 true) ∧ b < A.next ∧ l = all.drop s ∧ s + l.length = all.length
theorem Tail.reads {A : ASt} {v : Value} {l : List (ByteArray × Nat)} (h : Tail A v l) : Reads A v l := by
  rcases h with ⟨rfl, rfl | rfl⟩ | ⟨b, all, s, rfl, hb, hn, hl, hs⟩
  · exact .inl ⟨rfl, .inl ⟨0, rfl⟩⟩
  · exact .inl ⟨rfl, .inr rfl⟩
  · refine .inr ⟨b, s * 2, unk, _, _, _, rfl, hb, hn, fun i t ht => ?_⟩
    rw [hl, List.getElem?_drop] at ht
    have := tcells_nth (rest := []) ht
    rw [List.append_nil] at this
    rw [show s * 2 + i * 2 = (s + i) * 2 by omega]
    exact this
theorem Tail.fr {A A' : ASt} {own : List Nat} {v : Value} {l : List (ByteArray × Nat)} (h : Tail A v l) (hf : Fr own A A') (ho : ∀ b, Blk v b → b ∉ own) : Tail A' v l := by
  rcases h with h | ⟨b, all, s, rfl, hb, hn, hl, hs⟩
  · exact .inl h
  · exact .inr ⟨b, all, s, rfl, (hf.get b hn (ho b ⟨_, _, _, rfl⟩)).trans hb, Nat.lt_of_lt_of_le hn hf.next, hl, hs⟩
theorem SliceAt.tail {A : ASt} {lo : Nat} {v : Value} {l : List (ByteArray × Nat)} (h : SliceAt A lo v l) : Tail A v l ∧ ∀ b, Blk v b → lo ≤ b := by
  rcases h with ⟨rfl, rfl⟩ | ⟨b, cap, rest, tl, rfl, hb, h1, h2, rfl, rfl, rfl⟩
  · exact ⟨.inl ⟨rfl, .inl rfl⟩, fun b ⟨_, _, _, h⟩ => by cases h⟩
  · rw [List.append_nil] at hb
    refine ⟨.inr ⟨b, l, 0, by rw [Nat.zero_mul], hb, h2, rfl, by omega⟩, ?_⟩
    rintro b' ⟨_, _, _, h⟩
    cases h
    exact h1
theorem Tail.cells1 {A : ASt} {v : Value} {l : List (ByteArray × Nat)} (h : Tail A v l) : v.cells = #[v] ∧ single v = true := by
  rcases h with ⟨rfl, rfl | rfl⟩ | ⟨b, all, s, rfl, _⟩ <;> exact ⟨rfl, rfl⟩
theorem bo_none {d : Nat} : boundOr none d = some d := by rw [boundOr]
/-- Its first so many, and the others. -/
theorem Tail.cut {A : ASt} {v : Value} {l : List (ByteArray × Nat)} (h : Tail A v l) {n : Nat} (hn : n ≤ l.length) :
    ∃ v1 v2, aSlice E0 45 v none (some (.int .i64 (n : Int))) none A = some v1 ∧ aSlice E0 45 v (some (.int .i64 (n : Int))) none none A = some v2 ∧ Reads A v1 (l.take n) ∧ Tail A v2 (l.drop n) ∧ (∀ b, Blk v1 b → Blk v b) ∧ ∀ b, Blk v2 b → Blk v b := by
  rcases h with ⟨rfl, rfl | rfl⟩ | ⟨b, all, s, rfl, hb, hbn, hl, hs⟩
  · simp only [List.length_nil, Nat.le_zero] at hn
    subst hn
    refine ⟨.slice none 0 0, .slice none 0 0, ?_, ?_, .inl ⟨by simp, .inl ⟨0, rfl⟩⟩, .inl ⟨by simp, .inl rfl⟩, fun b h => h, fun b h => h⟩
    · simp only [aSlice, ti45, t45_desc, ti53]; rfl
    · simp only [aSlice, ti45, t45_desc, ti53]; rfl
  · simp only [List.length_nil, Nat.le_zero] at hn
    subst hn
    refine ⟨zslice, zslice, ?_, ?_, .inl ⟨by simp, .inr rfl⟩, .inl ⟨by simp, .inr rfl⟩, fun b h => h, fun b h => h⟩
    · simp only [aSlice, ti45, t45_desc, ti53]; rfl
    · simp only [aSlice, ti45, t45_desc, ti53]; rfl
  · have hlen : (tcells all).length = 2 * all.length := tcells_len all
    have hu : Nat.blt unk unk = false := by rw [nblt]; simp
    have e1 : Nat.ble (s * 2 + n * 2) (tcells all).length = true := Nat.ble_eq_true_of_le (by omega)
    have e2 : Nat.ble 0 n = true := Nat.ble_eq_true_of_le (by omega)
    have e3 : Nat.ble n l.length = true := Nat.ble_eq_true_of_le hn
    have e4 : Nat.ble (s * 2 + l.length * 2) (tcells all).length = true := Nat.ble_eq_true_of_le (by omega)
    have eb : Nat.blt 0 2 = true := rfl
    have hn1 : boundOr (some (.int .i64 (n : Int))) l.length = some n := rfl
    have hn2 : boundOr (some (.int .i64 (n : Int))) 0 = some n := rfl
    have r1 : Reads A (.slice (some ⟨b, s * 2, none⟩) n unk) (l.take n) := by
      refine .inr ⟨b, s * 2, unk, _, _, _, by rw [List.length_take, Nat.min_eq_left hn], hb, hbn, fun i t ht => ?_⟩
      have hi : i < n := by have := lt_of_get ht; rw [List.length_take] at this; omega
      rw [List.getElem?_take_of_lt hi, hl, List.getElem?_drop] at ht
      have := tcells_nth (rest := []) ht
      rw [List.append_nil] at this
      rw [show s * 2 + i * 2 = (s + i) * 2 by omega]
      exact this
    have a1 : aSlice E0 45 (.slice (some ⟨b, s * 2, none⟩) l.length unk) none (some (.int .i64 (n : Int))) none A = some (.slice (some ⟨b, s * 2, none⟩) n unk) := by
      simp only [aSlice, ti45, t45_desc, ti53, t53_size, hb, bo_none, hn1, e1, e2, eb, hu, Nat.beq_refl, Bool.and_self, Bool.true_and, cond_true, cond_false, Option.isNone, Nat.zero_mul, Nat.add_zero, Nat.sub_zero, Bool.true_or, Bool.or_true]
    have go : ∀ q : Bool, (Nat.beq n 0 || Nat.blt (s * 2 + n * 2) (tcells all).length) = q → Nat.beq n l.length = !q ∨ q = true → aSlice E0 45 (.slice (some ⟨b, s * 2, none⟩) l.length unk) (some (.int .i64 (n : Int))) none none A = cond q (some (.slice (some ⟨b, s * 2 + n * 2, none⟩) (l.length - n) unk)) (some zslice) := by
      intro q hq hq2
      simp only [aSlice, ti45, t45_desc, ti53, t53_size, hb, bo_none, hn2, e4, e3, eb, hu, hq, Nat.beq_refl, Bool.and_self, Bool.true_and, cond_true, cond_false, Option.isNone]
      cases q with
      | true => rfl
      | false =>
        rcases hq2 with h | h
        · rw [h]; rfl
        · cases h
    by_cases hz : n = 0 ∨ n < l.length
    · have hq : (Nat.beq n 0 || Nat.blt (s * 2 + n * 2) (tcells all).length) = true := by
        rw [nbeq, nblt, Bool.or_eq_true, decide_eq_true_eq, decide_eq_true_eq]
        omega
      refine ⟨_, _, a1, go true hq (.inr rfl), r1, .inr ⟨b, all, s + n, ?_, hb, hbn, ?_, ?_⟩, ?_, ?_⟩
      · rw [List.length_drop, Nat.add_mul]
      · rw [hl, List.drop_drop]
      · rw [List.length_drop]; omega
      · rintro b' ⟨_, _, _, h⟩; cases h; exact ⟨_, _, _, rfl⟩
      · rintro b' ⟨_, _, _, h⟩; cases h; exact ⟨_, _, _, rfl⟩
    · have hq : (Nat.beq n 0 || Nat.blt (s * 2 + n * 2) (tcells all).length) = false := by
        rw [nbeq, nblt, Bool.or_eq_false_iff, decide_eq_false_iff_not, decide_eq_false_iff_not]
        omega
      have hq2 : Nat.beq n l.length = !false := by rw [nbeq]; simp; omega
      refine ⟨_, _, a1, go false hq (.inl hq2), r1, .inl ⟨by rw [List.drop_of_length_le (by omega)], .inr rfl⟩, ?_, ?_⟩
      · rintro b' ⟨_, _, _, h⟩; cases h; exact ⟨_, _, _, rfl⟩
      · rintro b' ⟨_, _, _, h⟩; cases h

/-- The document's wheel. -/
structure DocAt (A : ASt) (m now : Nat) (v : Value) (L : List (ByteArray × Nat)) : Prop where
  row : A.get m = some (.row [.int .u64 (now : Int), v] 2 false)
  lt : m < A.next
  rd : Tail A v L
  off : ¬ Blk v m
theorem DocAt.fr {A A' : ASt} {own : List Nat} {m now : Nat} {v : Value} {L : List (ByteArray × Nat)} (h : DocAt A m now v L) (hf : Fr own A A') (hm : m ∉ own) (ho : ∀ b, Blk v b → b ∉ own) : DocAt A' m now v L :=
  ⟨(hf.get m h.lt hm).trans h.row, Nat.lt_of_lt_of_le h.lt hf.next, h.rd.fr hf ho, h.off⟩
theorem Lists.put {M : TM} {k : ByteArray} {a : Nat} {l l' : List (ByteArray × Nat)} (h : Lists M l) (ho : l'.Pairwise tlt) (hm : ∀ t : ByteArray × Nat, t ∈ l' ↔ (t ∈ l ∧ t.1 ≠ k) ∨ t = (k, a)) : Lists (M.put k a) l' := by
  refine ⟨fun j b => ?_, ho⟩
  rw [hm, h.mem]
  unfold TM.put
  by_cases e : j = k
  · subst e
    simp
    exact eq_comm
  · simp [e]
theorem Lists.del {M : TM} {k : ByteArray} {l l' : List (ByteArray × Nat)} (h : Lists M l) (ho : l'.Pairwise tlt) (hm : ∀ t : ByteArray × Nat, t ∈ l' ↔ t ∈ l ∧ t.1 ≠ k) : Lists (M.del k) l' := by
  refine ⟨fun j b => ?_, ho⟩
  rw [hm, h.mem]
  unfold TM.del
  by_cases e : j = k
  · subst e; simp
  · simp [e]
theorem Lists.has {M : TM} {k : ByteArray} {l : List (ByteArray × Nat)} (h : Lists M l) : k ∈ l.map (·.1) ↔ (M k).isSome = true := by
  rw [List.mem_map]
  constructor
  · rintro ⟨t, ht, rfl⟩
    rw [(h.mem t.1 t.2).1 ht]; rfl
  · intro hs
    obtain ⟨a, ha⟩ := Option.isSome_iff_exists.1 hs
    exact ⟨(k, a), (h.mem k a).2 ha, rfl⟩
theorem store47 {A : ASt} {m : Nat} {x y v : Value} {tl : Bool} (h : A.get m = some (.row [x, y] 2 tl)) (hv : v.cells = #[v] ∧ single v = true) : aStore E0 45 (.pointer (some ⟨m, 1, none⟩)) v A = some (A.set m (.row [x, v] 2 tl)) := by
  have e : v.cells.toList = [v] := by rw [hv.1]
  have e2 : singles [v] = true := by simp only [singles, hv.2, Bool.and_self]
  simp only [aStore, h, ti45, t45_size, e, e2]; rfl
theorem store47n {A : ASt} {m : Nat} {x y : Value} {n : Int} {tl : Bool} (h : A.get m = some (.row [x, y] 2 tl)) : aStore E0 22 (.pointer (some ⟨m, 0, none⟩)) (.int .u64 n) A = some (A.set m (.row [.int .u64 n, y] 2 tl)) := by
  simp only [aStore, h, ti22, t22_size]; rfl
theorem build53 {k : ByteArray} {a : Int} : aBuild E0 53 [(0, .string k), (1, .int .u64 a)] = some (.agg #[.string k, .int .u64 a]) := by kernel_rfl

theorem doc_put {A : ASt} {m now a : Nat} {v : Value} {L : List (ByteArray × Nat)} {M : TM} {k : ByteArray} (h : DocAt A m now v L) (hL : Lists M L) (hl : L.length ≤ 900) :
    CallW Z Try.prog 18 [.pointer (some ⟨m, 0, none⟩), .string k, .int .u64 (a : Int)] A (fun r A' => r = .bool (decide (now < a)) ∧ ∃ v' L', DocAt A' m now v' L' ∧ Lists (if now < a then M.put k a else M) L' ∧ L'.length ≤ L.length + 1 ∧ (∀ b, Blk v' b → Blk v b ∨ A.next ≤ b) ∧ Fr [m] A A') := by
  refine CallW.of_code E0_ok E0_ro fn18 rfl (n := 24) rfl (rs := [.tmp 6]) rfl (by simp) (codeW_ok E0_ok E0_ro ?_)
  have hr := h.row
  simp only [oneW_next, s_0, s_1, s_2, s_3, s_4, Hands, handsV, resultsV, oneOrTuple, argsT, ev, evs, evPairs, evOpt, closed, flat, nth, aCall, aEnter, notYield, aNilCheck, aLoad, partV, isAggD, aFieldAddr, aField, aExtract, Option.isNone, aBuiltin, cond_true, cond_false, cond_dec, if_true, if_false, List.length_cons, List.length_nil, forall_const, implies_true, List.append_nil, List.cons_append, List.nil_append, eq_self, Nat.reduceEqDiff, Nat.reduceAdd, Nat.reduceMul, Nat.reduceSub, Nat.reduceLT, Nat.reduceLeDiff, Nat.reduceBEq, reduceIte, reduceCtorEq, ti63, t63_desc, t63_size, ti25, t25_desc, ti22, t22_desc, t22_size, ti59, t59_desc, t59_size, ti60, t60_desc, t60_size, ti61, t61_desc, t61_size, ti3, t3_desc, t3_size, ti40, t40_desc, t40_size, ti33, t33_desc, t33_size, ti9, t9_desc, t9_size, wrow_now, wrow_all, eqnil25, fn17, fn26, fn27, fn28, fn29, fn38, fn39, fn12, fn14, fn15, ti44, t44_desc, ti47, t47_desc, t47_size, ti45, t45_desc, t45_size, ti53, t53_desc, t53_size, hr]
  refine brW_dec (fun hle => ?_) (fun hle => ?_)
  · have hn : ¬ now < a := by omega
    simp only [oneW_next, s_0, s_1, s_2, s_3, s_4, Hands, handsV, resultsV, oneOrTuple, argsT, ev, evs, evPairs, evOpt, closed, flat, nth, aCall, aEnter, notYield, aNilCheck, aLoad, partV, isAggD, aFieldAddr, aField, aExtract, Option.isNone, aBuiltin, cond_true, cond_false, cond_dec, if_true, if_false, List.length_cons, List.length_nil, forall_const, implies_true, List.append_nil, List.cons_append, List.nil_append, eq_self, Nat.reduceEqDiff, Nat.reduceAdd, Nat.reduceMul, Nat.reduceSub, Nat.reduceLT, Nat.reduceLeDiff, Nat.reduceBEq, reduceIte, reduceCtorEq, ti63, t63_desc, t63_size, ti25, t25_desc, ti22, t22_desc, t22_size, ti59, t59_desc, t59_size, ti60, t60_desc, t60_size, ti61, t61_desc, t61_size, ti3, t3_desc, t3_size, ti40, t40_desc, t40_size, ti33, t33_desc, t33_size, ti9, t9_desc, t9_size, wrow_now, wrow_all, eqnil25, fn17, fn26, fn27, fn28, fn29, fn38, fn39, fn12, fn14, fn15, hn]
    exact ⟨v, L, h, hL, by omega, fun b hb => .inl hb, .refl _ _⟩
  · have hn : now < a := by omega
    simp only [oneW_next, s_0, s_1, s_2, s_3, s_4, Hands, handsV, resultsV, oneOrTuple, argsT, ev, evs, evPairs, evOpt, closed, flat, nth, aCall, aEnter, notYield, aNilCheck, aLoad, partV, isAggD, aFieldAddr, aField, aExtract, Option.isNone, aBuiltin, cond_true, cond_false, cond_dec, if_true, if_false, List.length_cons, List.length_nil, forall_const, implies_true, List.append_nil, List.cons_append, List.nil_append, eq_self, Nat.reduceEqDiff, Nat.reduceAdd, Nat.reduceMul, Nat.reduceSub, Nat.reduceLT, Nat.reduceLeDiff, Nat.reduceBEq, reduceIte, reduceCtorEq, ti63, t63_desc, t63_size, ti25, t25_desc, ti22, t22_desc, t22_size, ti59, t59_desc, t59_size, ti60, t60_desc, t60_size, ti61, t61_desc, t61_size, ti3, t3_desc, t3_size, ti40, t40_desc, t40_size, ti33, t33_desc, t33_size, ti9, t9_desc, t9_size, wrow_now, wrow_all, eqnil25, fn17, fn26, fn27, fn28, fn29, fn38, fn39, fn12, fn14, fn15, ti44, t44_desc, ti47, t47_desc, t47_size, ti45, t45_desc, t45_size, ti53, t53_desc, t53_size, hr, build53]
    refine CallT.mono (put_ref h.rd.reads hl hL.ord) ?_
    rintro r B ⟨l2, hs, hf, ho, hle2, hm⟩
    obtain ⟨ht, hlo⟩ := hs.tail
    have hrB := (hf.get m h.lt (by simp)).trans hr
    simp only [oneW_next, s_0, s_1, s_2, s_3, s_4, Hands, handsV, resultsV, oneOrTuple, argsT, ev, evs, evPairs, evOpt, closed, flat, nth, aCall, aEnter, notYield, aNilCheck, aLoad, partV, isAggD, aFieldAddr, aField, aExtract, Option.isNone, aBuiltin, cond_true, cond_false, cond_dec, if_true, if_false, List.length_cons, List.length_nil, forall_const, implies_true, List.append_nil, List.cons_append, List.nil_append, eq_self, Nat.reduceEqDiff, Nat.reduceAdd, Nat.reduceMul, Nat.reduceSub, Nat.reduceLT, Nat.reduceLeDiff, Nat.reduceBEq, reduceIte, reduceCtorEq, ti63, t63_desc, t63_size, ti25, t25_desc, ti22, t22_desc, t22_size, ti59, t59_desc, t59_size, ti60, t60_desc, t60_size, ti61, t61_desc, t61_size, ti3, t3_desc, t3_size, ti40, t40_desc, t40_size, ti33, t33_desc, t33_size, ti9, t9_desc, t9_size, wrow_now, wrow_all, eqnil25, fn17, fn26, fn27, fn28, fn29, fn38, fn39, fn12, fn14, fn15, ti44, t44_desc, ti47, t47_desc, t47_size, ti45, t45_desc, t45_size, store47 hrB ht.cells1]
    have hfm : Fr [m] B (B.set m (.row [.int .u64 (now : Int), r] 2 false)) := ⟨by rw [ASt.next_set]; omega, fun b hb hnn => by rw [ASt.get_set, if_neg (by simpa using hnn)]⟩
    have hne : ∀ b, Blk r b → b ≠ m := fun b hb e => by have := hlo b hb; have := h.lt; omega
    refine ⟨by simp [hn], r, l2, ⟨by rw [ASt.get_set, if_pos rfl], by rw [ASt.next_set]; exact Nat.lt_of_lt_of_le h.lt hf.next, ht.fr hfm (fun b hb => by simpa using hne b hb), fun hb => hne m hb rfl⟩, by rw [if_pos hn]; exact hL.put ho hm, hle2, fun b hb => .inr (hlo b hb), (hf.sub (by simp)).trans hfm⟩
end Go.Proofs.Ytpmpclieclcbdaa
