/- A table of timers in general: those that are due. -/
import Derived.Test.YtgcffmhpjphefaaGreatDoorP10
import Derived.Test.YtgcffmhpjphefaaGreatDoorQ4
set_option linter.unusedSimpArgs false
set_option linter.unusedVariables false
set_option linter.unusedSectionVars false
namespace Go.Proofs.YtgcffmhpjphefaaGreatDoor
open Go Go.AE
set_option maxRecDepth 10000
set_option maxHeartbeats 8000000
variable {Z : Go.AE.Road} {s : Spans}

def tcellL (P : List (TimD × Value)) : List Value := (P.map fun p => tcell p.1 p.2).flatten
/-- A slice of one's own holds these timers. -/
structure TimsAt (s : Spans) (A : ASt) (lo : Nat) (r : Value) (P : List (TimD × Value)) : Prop where
  own : OwnS A lo 5 P.length r (tcellL P)
  steps : ∀ p ∈ P, Steps (withRo E0 s) A (fun b => lo ≤ b ∧ b ∉ slB r) p.2 p.1.steps
theorem TimsAt.fr {A B : ASt} {lo : Nat} {r : Value} {P : List (TimD × Value)} {own : List Nat} (h : TimsAt s A lo r P) (hf : Fr own A B) (ho : ∀ b, lo ≤ b → b < A.next → b ∉ own) : TimsAt s B lo r P :=
  ⟨h.own.fr hf (fun b hb => ho b (h.own.low b hb).1 (h.own.low b hb).2), fun p hp => (h.steps p hp).fr hf (fun b hb hl => ho b hb.1 hl)⟩
theorem bsTim {t : TimD} {dv : Value} (hs : single dv = true) : aBuildSlice E0 23 1 [(0, tval t dv)] = some (.row (tcell t dv) 5 false, fun id => .slice (some ⟨id, 0, none⟩) 1 1) := by
  have hsg : singles (tval t dv).cells.toList = true := by
    show (true && (true && (true && (true && (single dv && true))))) = true
    rw [hs]; rfl
  have z1 : closed zTim = true := by kernel_rfl
  have z2 : Nat.beq zTim.cells.toList.length 5 = true := by kernel_rfl
  simp only [aBuildSlice, w_t2, w_0, z1, z2, fillV, hsg]
  rfl
theorem appTim {A : ASt} {lo n p : Nat} {r : Value} {cs : List Value} {t : TimD} {dv : Value} {tl : Bool} (h : OwnS A lo 5 n r cs) (hp : A.get p = some (.row (tcell t dv) 5 tl)) (hs : single dv = true) (hn : n ≤ 100000) (hlo : lo ≤ A.next) :
    ∃ r' B, aAppend (withRo E0 s) 23 23 r (.slice (some ⟨p, 0, none⟩) 1 1) A = .val r' B ∧ OwnS B lo 5 (n + 1) r' (cs ++ tcell t dv) ∧ Fr (slB r) A B ∧ ∀ b ∈ slB r', b ∈ slB r ∨ A.next ≤ b := by
  have srcE : srcCells (withRo E0 s) 5 (.slice (some ⟨p, 0, none⟩) 1 1) 1 A = some (tcell t dv) := by
    simp only [srcCells, hp]
    rfl
  have hsg : singles (tcell t dv) = true := by
    show (true && (true && (true && (true && (single dv && true))))) = true
    rw [hs]; rfl
  exact h.app (E := withRo E0 s) (xt := 23) (x := .slice (some ⟨p, 0, none⟩) 1 1) (m := 1) ti23 t23_desc ti30 t30_size ti23 (by rw [t23_desc]; rfl) t30_zero (by kernel_rfl) (by kernel_rfl) (by omega) rfl srcE rfl hsg (by rw [t30_bytes]; omega) hlo
theorem tlook0 {m : Nat} {k : ByteArray} {ok : Bool} : aLookup E0 62 (.map (some m)) (.string k) ok { heap := .e, next := 0 } = none := by
  simp only [aLookup, w_tb, w_0, get_empty]
  cases plainKey TypeDesc.string (Value.string k) <;> rfl
theorem ix71 {b i n c : Nat} (h : i < n) : aIndexAddr E0 71 (.slice (some ⟨b, 0, none⟩) n c) (.int .i64 (i : Int)) = some (.pointer (some ⟨b, i * 2, none⟩)) := qix h
theorem TD.near_empty {D : TD} {now : Nat} : (fun k => (D.near now k).filter fun a => decide (now < a)) = fun _ => none := by
  funext k
  unfold TD.near
  rw [Option.filter_filter]
  cases hD : D.at_ k with
  | none => rfl
  | some a =>
    rw [Option.filter_some, if_neg]
    simp only [Bool.and_eq_true, decide_eq_true_eq]
    omega
theorem TD.near_near {D : TD} {now : Nat} : (fun k => (D.near now k).filter fun a => decide (a ≤ now)) = D.near now := by
  funext k
  unfold TD.near
  rw [Option.filter_filter]
  congr 1
  funext a
  rw [Bool.and_self]
theorem tdueC_spec (hro : RoadS Z E0 s) {A : ASt} {x m q e w : Nat} {v : Value} {W all : Nat} {ms : List Nat} {now n : Nat} {D : TD} {S : Nat → Prop} (h : TabAt s A x m q e w v W all ms now n D S) (hn : n ≤ 1000) (rx : (withRo E0 s).ro x = none) :
    CallW Z Tryz.prog 10 [.pointer (some ⟨x, 0, none⟩)] A (fun r A' => ∃ L P, Lists (D.near now) L ∧ TimsAt s A' A.next r P ∧ P.map (·.1) = L.map (fun y => (D y.1).getD zTimD) ∧ ∃ v', TabAt s A' x m q e w v' W all ms now n D S ∧ (∀ b ∈ slB v', b ∈ slB v ∨ A.next ≤ b) ∧ Fr (wrT m e w v W all ms) A A') := by
  refine CallW.assume hro fun hnr => ?_
  refine CallW.of_code (withRo_ok E0_ok) hro.ro (f := 10) (fn := Tryz.f10) fn10 rfl (n := 44) rfl (rs := [.tmp 2]) rfl (by simp) (codeW_ok (withRo_ok E0_ok) hro.ro ?_)
  have hc0 := h.core
  have h1 := hc0.hx
  have hlx := hc0.lts
  have hne := hc0.nes
  have hRC := RU_ok (RO_ok (Z := Z) (P := Tryz.prog) (f := 13) (ar := [.pointer (some ⟨x, 0, none⟩)]) (Pr := fun A => Core s A x m q e w v W all ms now D (D.near now) (D.far now) S) (Sp := fun A r A' => r = .int .u64 (now : Int) ∧ A = A') (fun A hp => tclockC_spec hp)) (RO_ok (Z := Z) (P := Tryz.prog) (f := 34) (ar := [.pointer (some ⟨q, 0, none⟩), .int .u64 (now : Int)]) (Pr := fun A => QAt A q e w v (D.near now)) (Sp := fun A r A' => ∃ v' L, QAt A' q e w v' (fun k => (D.near now k).filter fun a => decide (now < a)) ∧ QS A' r L ∧ Lists (fun k => (D.near now k).filter fun a => decide (a ≤ now)) L ∧ Fr (e :: w :: slB v) A A' ∧ (∀ b ∈ slB v', b ∈ slB v) ∧ ∀ b ∈ slB r, A.next ≤ b) (fun A hp => qdueG_spec hp (h.upto.few hn)))
  simp only [w_w, z_0, flat, Option.isNone, aFieldAddr, aField, aBuiltin, cond_true, cond_false, cond_dec, if_true, if_false, List.length_cons, List.length_nil, forall_const, implies_true, List.append_nil, List.cons_append, List.nil_append, eq_self, Nat.reduceEqDiff, Nat.reduceAdd, Nat.reduceMul, Nat.reduceSub, Nat.reduceLT, Nat.reduceLeDiff, Nat.reduceBEq, reduceIte, reduceCtorEq, eqnilT, h1]
  refine CodeW.seqf (withRo_ok E0_ok) hro.ro mixed hRC [0,1,2,3,4,5,6,7] [0,1,2,3] (fanOf _ _ _) (by simp only [reorder, reoGo, strip, List.map_cons, List.map_nil, opAt, remap, nth, Option.map, σ, place', nbeq, List.length_cons, List.length_nil, Nat.reduceAdd, Nat.reduceLT, Nat.reduceEqDiff, if_true, if_false, reduceIte]; rfl) (by decide +kernel) (by kernel_rfl) (by kernel_rfl) (by kernel_rfl) rfl ?_
  simp only [w_w, z_0, flat, Option.isNone, aFieldAddr, aField, aBuiltin, cond_true, cond_false, cond_dec, if_true, if_false, List.length_cons, List.length_nil, forall_const, implies_true, List.append_nil, List.cons_append, List.nil_append, eq_self, Nat.reduceEqDiff, Nat.reduceAdd, Nat.reduceMul, Nat.reduceSub, Nat.reduceLT, Nat.reduceLeDiff, Nat.reduceBEq, reduceIte, reduceCtorEq, q_0, q_1, q_2, f_0, pendW, hasN, reorder, E0_ron, exists_eq', List.length_cons, List.length_nil, h1, rx, valEq_ptr, get_next]
  have fA8 : Fr [] A { heap := A.heap, next := A.next + 8 } := Fr.bump (by omega)
  refine conRU1 (hc0.fr0 fA8) (by decide) ?_
  rintro _ _ ⟨rfl, rfl⟩
  simp only [w_w, z_0, flat, Option.isNone, aFieldAddr, aField, aBuiltin, cond_true, cond_false, cond_dec, if_true, if_false, List.length_cons, List.length_nil, forall_const, implies_true, List.append_nil, List.cons_append, List.nil_append, eq_self, Nat.reduceEqDiff, Nat.reduceAdd, Nat.reduceMul, Nat.reduceSub, Nat.reduceLT, Nat.reduceLeDiff, Nat.reduceBEq, reduceIte, reduceCtorEq, q_0, q_1, q_2, f_0, pendW, hasN, reorder, E0_ron, exists_eq', List.length_cons, List.length_nil, h1, rx, valEq_ptr, get_next]
  refine conRU2 (hc0.fr0 fA8).hq (by decide) ?_
  rintro lv B ⟨v1, L, hqB, hLs, hL, fB, hvb, hlb⟩
  rw [TD.near_empty] at hqB
  rw [TD.near_near] at hL
  have hcB := (hc0.fr0 fA8).queue fB hqB (fun b hb => .inl (hvb b hb))
  have nB : A.next + 8 ≤ B.next := fB.next
  have hxB := hcB.hx
  have hlbB := hLs.low
  obtain ⟨bo, cp, rfl⟩ : ∃ bo cp, lv = .slice bo L.length cp := by
    rcases hLs with ⟨rfl, rfl⟩ | ⟨b, rest, rfl, _⟩
    · exact ⟨_, _, rfl⟩
    · exact ⟨_, _, rfl⟩
  have hlen := hLs.len
  have hLat : ∀ y ∈ L, D.at_ y.1 = some y.2 := fun y hy => by
    have := (hL.mem y.1 y.2).1 hy
    unfold TD.near at this
    rw [Option.filter_eq_some_iff] at this
    exact this.1
  have hLn : L.length ≤ n := listsSmall (p := fun a => decide (a ≤ now)) hL h.upto
  have hownA : ∀ b ∈ ownT x m q e w W all ms, b < A.next := hc0.lt
  have hSA : ∀ b, S b → b < A.next := fun b hb => (hc0.nr b hb).1
  have hvA : ∀ b ∈ slB v, b < A.next := fun b hb => (hc0.ns b hb).2
  simp only [w_w, z_0, flat, Option.isNone, aFieldAddr, aField, aBuiltin, cond_true, cond_false, cond_dec, if_true, if_false, List.length_cons, List.length_nil, forall_const, implies_true, List.append_nil, List.cons_append, List.nil_append, eq_self, Nat.reduceEqDiff, Nat.reduceAdd, Nat.reduceMul, Nat.reduceSub, Nat.reduceLT, Nat.reduceLeDiff, Nat.reduceBEq, reduceIte, reduceCtorEq, q_0, q_1, q_2, f_0, pendW, hasN, reorder, E0_ron, exists_eq', List.length_cons, List.length_nil, hxB, rx, valEq_ptr, get_next, hlen]
  refine CodeW.mono (Q := fun o => ∃ T' A', o = .fr ⟨.exit 0, T', A'⟩ ∧ ∃ r v' P, tget T' 3 = r ∧ Core s A' x m q e w v' W all ms now D (D.near now) (D.far now) S ∧ TimsAt s A' A.next r P ∧ P.map (·.1) = L.map (fun y => (D y.1).getD zTimD) ∧ (∀ b ∈ slB v', b ∈ slB v ∨ A.next ≤ b) ∧ Fr (wrT m e w v W all ms) A A') ?_ ?_
  · refine CodeW.loopR (k := L.length) (fun n T A' => ∃ (i : Nat) (r v' : Value) (N' : TM) (P : List (TimD × Value)), n = L.length - i ∧ i ≤ L.length ∧ tget T 18 = .int .i64 (i : Int) ∧ tget T 17 = .int .i64 (L.length : Int) ∧ tget T 16 = .slice bo L.length cp ∧ tget T 0 = .pointer (some ⟨x, 0, none⟩) ∧ tget T 3 = r ∧ Core s A' x m q e w v' W all ms now D N' (D.far now) S ∧ (∀ k a, N' k = some a ↔ (k, a) ∈ L.take i) ∧ P.length = i ∧ OwnS A' B.next 5 P.length r (tcellL P) ∧ P.map (·.1) = (L.take i).map (fun y => (D y.1).getD zTimD) ∧ (∀ b ∈ slB v', b ∈ slB v ∨ B.next ≤ b) ∧ (∀ p ∈ P, Steps (withRo E0 s) A' (fun b => B.next ≤ b ∧ b ∉ slB r ∧ b ∉ slB v') p.2 p.1.steps) ∧ (∀ b ∈ slB r, b ∉ slB v') ∧ Fr (wrT m e w v W all ms) A A' ∧ QS A' (.slice bo L.length cp) L ∧ B.next ≤ A'.next) ?_ ?_
    · rintro k T A1 ⟨i, r, v2, N1, P, rfl, hi, u18, u17, u16, u0, u3, hc1, hN1, hPl, hO1, hPm, hv2, hP1, hrv, f1, hQ1, nA1⟩
      refine codeW_ok (withRo_ok E0_ok) hro.ro ?_
      by_cases hlt : i < L.length
      · have d1 : ((i : Int) < (L.length : Int)) = True := eq_true (by omega)
        obtain ⟨y, hy⟩ : ∃ y, L[i]? = some y := ⟨_, List.getElem?_eq_getElem hlt⟩
        obtain ⟨b, rest, etv, hb, hlb2, _⟩ := hQ1.at hy
        cases etv
        have hbB : A.next + 8 ≤ b ∧ b < B.next := ⟨hlb b (by simp [slB]), hlbB b (by simp [slB])⟩
        have nf1 := f1.next
        obtain ⟨C, hst, fC, gC, nC⟩ := newstore (A := A1) (k := y.1) (a := y.2)
        have hc2 := hc1.fr0 fC
        have h2 := hc2.hx
        have rp : (withRo E0 s).ro A1.next = none := hnr _ (by omega)
        simp only [w_w, z_0, flat, Option.isNone, aFieldAddr, aField, aBuiltin, cond_true, cond_false, cond_dec, if_true, if_false, List.length_cons, List.length_nil, forall_const, implies_true, List.append_nil, List.cons_append, List.nil_append, eq_self, Nat.reduceEqDiff, Nat.reduceAdd, Nat.reduceMul, Nat.reduceSub, Nat.reduceLT, Nat.reduceLeDiff, Nat.reduceBEq, reduceIte, reduceCtorEq, u18, u17, u16, u0, u3, d1, decide_true, ix71 hlt, hb, qcut hy, al74, ptrTo]
        rw [hst]
        clear hst
        -- the timer that is looked up
        obtain ⟨l, ck, hg, hok, hD, hS⟩ := hc2.hm
        obtain ⟨t, ht⟩ : ∃ t, D y.1 = some t := by
          have := hLat y (List.mem_of_getElem? hy)
          unfold TD.at_ at this
          cases hD2 : D y.1 with
          | none => rw [hD2] at this; cases this
          | some t => exact ⟨t, rfl⟩
        obtain ⟨dv, hdv⟩ : ∃ dv, vget l y.1 = some (t, dv) := by
          have := hD y.1
          rw [ht] at this
          cases hv3 : vget l y.1 with
          | none => rw [hv3] at this; cases this
          | some p =>
            rw [hv3] at this
            cases this
            exact ⟨p.2, rfl⟩
        have hSt := hS y.1 t dv hdv
        have hlk : aLookup E0 62 (.map (some m)) (.string y.1) false { heap := C.heap, next := C.next + 12 } = some (tval t dv) := by
          have := tlook (A := { heap := C.heap, next := C.next + 12 }) (by rw [get_next]; exact hg) y.1 false
          rw [hdv] at this
          exact this
        have hRC := RO_ok (Z := Z) (P := Tryz.prog) (f := 31) (ar := [tval t dv]) (Pr := fun A => Steps (withRo E0 s) A S dv t.steps) (Sp := fun A r A' => ∃ dv', r = tval t dv' ∧ Steps (withRo E0 s) A' (fun b => A.next ≤ b) dv' t.steps ∧ Fr [] A A') (fun A hp => copied_spec hro hp (h.ok y.1 t ht).1.steps)
        have vt : valEq (tval t dv) (tval t dv) = true := val25 hSt
        have vm : valEq (.map (some m)) (.map (some m)) = true := valEq_map
        have vr := hO1.ve
        simp only [w_w, z_0, flat, Option.isNone, aFieldAddr, aField, aBuiltin, cond_true, cond_false, cond_dec, if_true, if_false, List.length_cons, List.length_nil, forall_const, implies_true, List.append_nil, List.cons_append, List.nil_append, eq_self, Nat.reduceEqDiff, Nat.reduceAdd, Nat.reduceMul, Nat.reduceSub, Nat.reduceLT, Nat.reduceLeDiff, Nat.reduceBEq, reduceIte, reduceCtorEq]
        refine CodeW.seqf (withRo_ok E0_ok) hro.ro mixed hRC [0,1,2,3,4,5,6,7,8,9,10,11] [0] [[],[],[],[],[],[],[],[],[],[],[9],[9]] (by simp only [reorder, reoGo, strip, List.map_cons, List.map_nil, opAt, remap, nth, Option.map, σ, place', nbeq, List.length_cons, List.length_nil, Nat.reduceAdd, Nat.reduceLT, Nat.reduceEqDiff, if_true, if_false, reduceIte]; rfl) (by decide +kernel) (by kernel_rfl) (by kernel_rfl) (by kernel_rfl) (by kernel_rfl) ?_
        simp only [w_w, z_0, flat, Option.isNone, aFieldAddr, aField, aBuiltin, cond_true, cond_false, cond_dec, if_true, if_false, List.length_cons, List.length_nil, forall_const, implies_true, List.append_nil, List.cons_append, List.nil_append, eq_self, Nat.reduceEqDiff, Nat.reduceAdd, Nat.reduceMul, Nat.reduceSub, Nat.reduceLT, Nat.reduceLeDiff, Nat.reduceBEq, reduceIte, reduceCtorEq, q_0, q_1, q_2, f_0, pendW, hasN, reorder, E0_ron, exists_eq', List.length_cons, List.length_nil, u0, u3, h2, gC, rx, rp, vm, vt, vr, valEq_str, valEq_ptr, hlk, tlook0, get_next]
        have fC12 : Fr [] C { heap := C.heap, next := C.next + 12 } := Fr.bump (by omega)
        refine conRO (hSt.fr fC12 (by simp)) ?_
        rintro _ G ⟨dv', rfl, hdG, fG⟩
        have fCG := fC12.trans fG
        have nG : C.next + 12 ≤ G.next := fG.next
        have fGp : Fr [C.next + 9] G (G.set (C.next + 9) (.row (tcell t dv') 5 false)) := ⟨by rw [ASt.next_set]; exact Nat.le_refl _, fun c hc hn => by rw [ASt.get_set, if_neg (by simpa using hn)]⟩
        have fAG : Fr [] A1 (G.set (C.next + 9) (.row (tcell t dv') 5 false)) := ⟨by rw [ASt.next_set]; omega, fun c hc _ => by rw [fGp.get c (by omega) (by simp; omega), fCG.get c (by omega) (by simp), fC.get c hc (by simp)]⟩
        have nGp : (G.set (C.next + 9) (.row (tcell t dv') 5 false)).next = G.next := ASt.next_set ..
        have hO := hO1.fr fAG (by simp)
        obtain ⟨r2, H, ha, hOH, fH, hr2⟩ := appTim (s := s) (p := C.next + 9) (t := t) (dv := dv') (tl := false) hO (by rw [ASt.get_set, if_pos rfl]) hdG.single (by omega) (by omega)
        have hbs := bsTim (t := t) hdG.single
        have nH := fH.next
        rw [nGp] at nH
        have hrl : ∀ c ∈ slB r, B.next ≤ c ∧ c < A1.next := hO1.low
        have hrown : ∀ c, c < B.next → c ∉ slB r := fun c hc hm => by have := (hrl c hm).1; omega
        have fA1H : ∀ c, c < A1.next → c ∉ slB r → H.get c = A1.get c := fun c h3 h4 => by rw [fH.get c (by omega) h4, fAG.get c h3 (by simp)]
        have hFr1 : Fr (slB r) A1 H := ⟨by omega, fA1H⟩
        have hcH := hc1.fr hFr1 (fun c hc _ => ⟨fun hm => by have := hownA c hm; have := (hrl c hc).1; omega, hrv c hc, fun hm => by have := hSA c hm; have := (hrl c hc).1; omega⟩)
        have hxH := hcH.hx
        have gH : H.get A1.next = some (.row [.string y.1, .int .u64 ((y.2 : Nat) : Int)] 2 false) := by
          rw [fH.get A1.next (by omega) (fun hm => by have := (hrl _ hm).2; omega), fGp.get A1.next (by omega) (by simp; omega), fCG.get A1.next (by omega) (by simp)]
          exact gC
        simp only [w_w, z_0, flat, Option.isNone, aFieldAddr, aField, aBuiltin, cond_true, cond_false, cond_dec, if_true, if_false, List.length_cons, List.length_nil, forall_const, implies_true, List.append_nil, List.cons_append, List.nil_append, eq_self, Nat.reduceEqDiff, Nat.reduceAdd, Nat.reduceMul, Nat.reduceSub, Nat.reduceLT, Nat.reduceLeDiff, Nat.reduceBEq, reduceIte, reduceCtorEq, q_0, q_1, q_2, f_0, pendW, hasN, reorder, E0_ron, exists_eq', List.length_cons, List.length_nil, Bool.false_and, Bool.and_false, u0, u3, hbs, ha, vr, get_next]
        have hFew : Few N1 := by
          obtain ⟨ls, hl1, hl2⟩ := h.upto
          refine ⟨ls, by omega, fun k hk => hl2 k ?_⟩
          obtain ⟨a, ha⟩ := Option.isSome_iff_exists.1 hk
          have := hLat (k, a) (List.mem_of_mem_take ((hN1 k a).1 ha))
          unfold TD.at_ at this
          cases hD : D k with
          | none => simp only [hD] at this; cases this
          | some t => rfl
        have hRQ := RO_ok (Z := Z) (P := Tryz.prog) (f := 33) (ar := [.pointer (some ⟨q, 0, none⟩), .string y.1, .int .u64 (y.2 : Int)]) (Pr := fun A => QAt A q e w v2 N1) (Sp := fun A _ A' => ∃ v', QAt A' q e w v' (N1.put y.1 y.2) ∧ Fr (e :: w :: slB v2) A A' ∧ ∀ b ∈ slB v', b ∈ slB v2 ∨ A.next ≤ b) (fun A hp => qputG_spec hp hFew)
        refine CodeW.seqf (withRo_ok E0_ok) hro.ro mixed hRQ [0, 1, 2, 3, 4, 5, 6, 7, 8] [] (fanOf _ _ _) (by simp only [reorder, reoGo, strip, List.map_cons, List.map_nil, opAt, remap, nth, Option.map, σ, place', nbeq, List.length_cons, List.length_nil, Nat.reduceAdd, Nat.reduceLT, Nat.reduceEqDiff, if_true, if_false, reduceIte]; rfl) (by decide +kernel) (by kernel_rfl) (by kernel_rfl) (by kernel_rfl) rfl ?_
        simp only [w_w, z_0, flat, Option.isNone, aFieldAddr, aField, aBuiltin, cond_true, cond_false, cond_dec, if_true, if_false, List.length_cons, List.length_nil, forall_const, implies_true, List.append_nil, List.cons_append, List.nil_append, eq_self, Nat.reduceEqDiff, Nat.reduceAdd, Nat.reduceMul, Nat.reduceSub, Nat.reduceLT, Nat.reduceLeDiff, Nat.reduceBEq, reduceIte, reduceCtorEq, q_0, q_1, q_2, f_0, pendW, hasN, reorder, E0_ron, exists_eq', List.length_cons, List.length_nil, u0, hxH, gH, rx, rp, valEq_str, valEq_ptr, get_next]
        have fH9 : Fr [] H { heap := H.heap, next := H.next + 9 } := Fr.bump (by omega)
        have hbH := hcH.fr0 fH9
        refine conRO hbH.hq ?_
        rintro _ J ⟨v3, hqJ, fJ, hv3⟩
        have hcJ := hbH.queue fJ hqJ hv3
        have nJ : H.next + 9 ≤ J.next := fJ.next
        have w1 : IntKind.i64.wrap ((i : Int) + 1) = ((i + 1 : Nat) : Int) := by rw [IntKind.wrap_i64]; omega
        simp only [w_w, z_0, flat, Option.isNone, aFieldAddr, aField, aBuiltin, cond_true, cond_false, cond_dec, if_true, if_false, List.length_cons, List.length_nil, forall_const, implies_true, List.append_nil, List.cons_append, List.nil_append, eq_self, Nat.reduceEqDiff, Nat.reduceAdd, Nat.reduceMul, Nat.reduceSub, Nat.reduceLT, Nat.reduceLeDiff, Nat.reduceBEq, reduceIte, reduceCtorEq, q_0, q_1, q_2, f_0, pendW, hasN, reorder, E0_ron, exists_eq', List.length_cons, List.length_nil, u0, u3, u16, u17, u18, w1]
        have hvn : ∀ c ∈ slB v2, c < A1.next := fun c hc => (hc1.ns c hc).2
        have hr2' : ∀ c ∈ slB r2, c ∈ slB r ∨ G.next ≤ c := fun c hc => by
          rcases hr2 c hc with h3 | h3
          · exact .inl h3
          · rw [nGp] at h3; exact .inr h3
        have hr2B : ∀ c ∈ slB r2, B.next ≤ c := fun c hc => (hOH.low c hc).1
        have hr2H : ∀ c ∈ slB r2, c < H.next := fun c hc => (hOH.low c hc).2
        have hr2v : ∀ c ∈ slB r2, c ∉ slB v2 := fun c hc hm => by
          rcases hr2' c hc with h3 | h3
          · exact hrv c h3 hm
          · have := hvn c hm; omega
        have fHJ : Fr (e :: w :: slB v2) H J := fH9.nil.trans fJ
        have hbig : ∀ c, B.next ≤ c → c ∉ slB v2 → c ∉ e :: w :: slB v2 := fun c h3 h4 hm => by
          simp only [List.mem_cons] at hm
          rcases hm with rfl | rfl | hm
          · omega
          · omega
          · exact h4 hm
        have hv3' : ∀ c ∈ slB v3, c ∈ slB v2 ∨ H.next + 9 ≤ c := hv3
        have nJ2 : H.next ≤ J.next := by omega
        refine ⟨L.length - (i + 1), by omega, i + 1, r2, v3, N1.put y.1 y.2, P ++ [(t, dv')], rfl, by omega, rfl, rfl, hcJ, fun k a => ?_, by rw [List.length_append, hPl]; rfl, ?_, ?_, fun c hc => ?_, fun p hp => ?_, fun c hc hm => ?_, ⟨by omega, fun c h3 h4 => ?_⟩, ?_, by omega⟩
        · rw [take_snoc hy, List.mem_append, List.mem_singleton]
          have hy2 : D.at_ y.1 = some y.2 := hLat _ (List.mem_of_getElem? hy)
          unfold TM.put
          by_cases e1 : k = y.1
          · rw [if_pos e1]
            constructor
            · intro h3
              cases h3
              exact .inr (by rw [e1])
            · rintro (h3 | h3)
              · have := hLat (k, a) (List.mem_of_mem_take h3)
                simp only [e1, hy2] at this
                exact this
              · rw [← h3]
          · rw [if_neg e1, hN1]
            constructor
            · exact .inl
            · rintro (h3 | h3)
              · exact h3
              · exact absurd (by rw [← h3]) e1
        · have : tcellL (P ++ [(t, dv')]) = tcellL P ++ tcell t dv' := by
            unfold tcellL
            rw [List.map_append, List.flatten_append]
            simp
          rw [this, List.length_append]
          exact hOH.fr fHJ (fun c hc => hbig c (hr2B c hc) (hr2v c hc))
        · rw [take_snoc hy, List.map_append, List.map_append, hPm]
          show _ ++ [t] = _ ++ [(D y.1).getD zTimD]
          rw [ht]; rfl
        · rcases hv3' c hc with h3 | h3
          · exact hv2 c h3
          · exact .inr (by omega)
        · rcases List.mem_append.1 hp with hp | hp
          · have h3 := (hP1 p hp).imp (S' := fun b => (B.next ≤ b ∧ b ∉ slB r ∧ b ∉ slB v2) ∧ b < A1.next) (fun b h4 h5 => ⟨h4, h5⟩)
            have h6 := (h3.fr hFr1 (fun b h4 _ => h4.1.2.1)).fr fHJ (fun b h4 _ => hbig b h4.1.1 h4.1.2.2)
            refine h6.imp (fun b h4 _ => ⟨h4.1.1, fun hm => ?_, fun hm => ?_⟩)
            · rcases hr2' b hm with h5 | h5
              · exact h4.1.2.1 h5
              · have := h4.2; omega
            · rcases hv3' b hm with h5 | h5
              · exact h4.1.2.2 h5
              · have := h4.2; omega
          · simp only [List.mem_singleton] at hp
            subst hp
            have hdG' : Steps (withRo E0 s) G (fun b => C.next + 12 ≤ b ∧ b < G.next) dv' t.steps := hdG.imp (fun b h4 h5 => ⟨h4, h5⟩)
            have h6 := ((hdG'.fr fGp (fun b h4 _ hm => by simp only [List.mem_singleton] at hm; omega)).fr fH (fun b h4 _ hm => by have := (hrl b hm).2; omega)).fr fHJ (fun b h4 _ => hbig b (by omega) (fun hm => by have := hvn b hm; omega))
            refine h6.imp (fun b h4 _ => ⟨by omega, fun hm => ?_, fun hm => ?_⟩)
            · rcases hr2' b hm with h5 | h5
              · have := (hrl b h5).2; omega
              · omega
            · rcases hv3' b hm with h5 | h5
              · have := hvn b h5; omega
              · omega
        · rcases hv3' c hm with h3 | h3
          · exact hr2v c hc h3
          · have := hr2H c hc; omega
        · rw [fHJ.get c (by omega) (fun hm => ?_), fA1H c (by omega) (fun hm => by have := (hrl c hm).1; omega), f1.get c h3 h4]
          simp only [List.mem_cons] at hm
          rcases hm with h5 | h5 | h5
          · exact h4 (by simp [h5])
          · exact h4 (by simp [h5])
          · rcases hv2 c h5 with h6 | h6
            · exact h4 (by simp [h6])
            · omega
        · refine ((hQ1.fr hFr1 (fun c hc hm => ?_)).fr fHJ (fun c hc hm => ?_))
          · simp only [slB, List.mem_singleton] at hc
            subst hc
            have := (hrl _ hm).1; omega
          · simp only [slB, List.mem_singleton] at hc
            subst hc
            simp only [List.mem_cons] at hm
            rcases hm with h5 | h5 | h5
            · omega
            · omega
            · rcases hv2 _ h5 with h6 | h6
              · have := hvA _ h6; omega
              · omega
      · have e1 : i = L.length := by omega
        subst e1
        have d1 : ((L.length : Int) < (L.length : Int)) = False := eq_false (by omega)
        simp only [w_w, z_0, flat, Option.isNone, aFieldAddr, aField, aBuiltin, cond_true, cond_false, cond_dec, if_true, if_false, List.length_cons, List.length_nil, forall_const, implies_true, List.append_nil, List.cons_append, List.nil_append, eq_self, Nat.reduceEqDiff, Nat.reduceAdd, Nat.reduceMul, Nat.reduceSub, Nat.reduceLT, Nat.reduceLeDiff, Nat.reduceBEq, reduceIte, reduceCtorEq, u18, u17, d1, decide_false]
        have eN : N1 = D.near now := by
          funext k
          apply Option.ext
          intro a
          rw [hN1, List.take_length, hL.mem]
        rw [eN] at hc1
        rw [List.take_length] at hPm
        exact ⟨_, _, rfl, r, v2, P, by simp only [tget_put, Nat.reduceEqDiff, if_false, if_true, reduceIte, u3], hc1, ⟨hO1.lower (by omega), fun p hp => (hP1 p hp).imp (fun b h3 _ => ⟨by omega, h3.2.1⟩)⟩, hPm, fun b hb => by
          rcases hv2 b hb with h3 | h3
          · exact .inl h3
          · exact .inr (by omega), f1⟩
    · refine ⟨0, .slice none 0 0, v1, fun _ => none, [], rfl, Nat.zero_le _, ?_, ?_, ?_, ?_, ?_, hcB, fun k a => by simp, rfl, .inl ⟨rfl, rfl, rfl⟩, rfl, fun b hb => .inl (hvb b hb), fun p hp => (by cases hp), fun b hb => (by cases hb), (fA8.nil.trans fB).sub (fun b hb => ?_), hLs, Nat.le_refl _⟩
      all_goals first | rfl | (unfold argsT; rfl) | skip
      simp only [wrT, List.mem_cons, List.mem_append] at hb ⊢
      rcases hb with h3 | h3 | h3
      · exact .inr (.inl h3)
      · exact .inr (.inr (.inl h3))
      · exact .inr (.inr (.inr (.inl h3)))
  · rintro o ⟨T', A', rfl, r, v', P, u3, hc1, hT, hP, hv1, f1⟩
    simp only [w_w, z_0, flat, Option.isNone, aFieldAddr, aField, aBuiltin, cond_true, cond_false, cond_dec, if_true, if_false, List.length_cons, List.length_nil, forall_const, implies_true, List.append_nil, List.cons_append, List.nil_append, eq_self, Nat.reduceEqDiff, Nat.reduceAdd, Nat.reduceMul, Nat.reduceSub, Nat.reduceLT, Nat.reduceLeDiff, Nat.reduceBEq, reduceIte, reduceCtorEq, u3]
    exact ⟨L, P, hL, hT, hP, v', ⟨hc1, h.ok, h.upto⟩, hv1, f1⟩
end Go.Proofs.YtgcffmhpjphefaaGreatDoor

/- A table of timers in general: the names of all, gathered through a range over a function. -/
namespace Go.Proofs.YtgcffmhpjphefaaGreatDoor
open Go Go.AE
set_option maxRecDepth 10000
set_option maxHeartbeats 8000000
variable {Z : Go.AE.Road} {s : Spans}

/-- The rounds of slices.AppendSeq. -/
def asS : Code := Code.region 2 #[{ dst := some 5, op := Op.assign (Operand.tmp 7), type := 9, pos := "iter.go:51", after := #[], guard := none }] false
def bS : Code := Code.block 1 (Code.region 3 #[{ dst := some 8, op := Op.load 34 (Operand.tmp 2), type := 34, pos := "iter.go:52", after := #[], guard := none }, { dst := some 9, op := Op.move (Operand.tmp 5), type := 9, pos := "iter.go:52", after := #[], guard := none }, { dst := some 10, op := Op.buildSlice 34 1 #[(0, Operand.tmp 9)], type := 34, pos := "iter.go:52", after := #[{ on := 1, ground := Ground.data }], guard := none }, { dst := some 11, op := Op.call { callee := Callee.builtin Builtin.append, args := #[Operand.tmp 8, Operand.tmp 10], argTypes := #[34, 34] }, type := 34, pos := "iter.go:52", after := #[{ on := 0, ground := Ground.data }, { on := 2, ground := Ground.data }], guard := none }, { dst := none, op := Op.store 34 (Operand.tmp 2) (Operand.tmp 11), type := 0, pos := "iter.go:52", after := #[{ on := 3, ground := Ground.data }, { on := 3, ground := Ground.chain }, { on := 0, ground := Ground.phase }, { on := 1, ground := Ground.phase }, { on := 2, ground := Ground.phase }, { on := 3, ground := Ground.phase }], guard := none }] false)
theorem st34 {A : ASt} {b : Nat} {u v : Value} {tl : Bool} (hb : A.get b = some (.row [u] 1 tl)) (hv : v.cells = #[v] ∧ Go.AE.single v = true) : aStore E0 34 (.pointer (some ⟨b, 0, none⟩)) v A = some (A.set b (.row [v] 1 tl)) := by
  have e1 : v.cells.toList = [v] := by rw [hv.1]
  have h4 : singles [v] = true := by simp only [singles, hv.2, Bool.and_self]
  simp only [aStore, hb, w_so, e1, h4]; rfl
theorem roundS_spec {A : ASt} {l P2 lo n : Nat} {T0 : Tmps} {v : Value} {cs : List Value} {k : ByteArray} (hl : A.get l = some (.loop 13 T0 #[7] asS bS .ready none)) (hp : A.get P2 = some (.row [v] 1 false)) (ht : tget T0 2 = .pointer (some ⟨P2, 0, none⟩)) (hs : OwnS A lo 1 n v cs) (hne : l ≠ P2) (hll : l < lo) (hPl : P2 < lo) (hlo : lo ≤ A.next) (hlen : n ≤ 1000) :
    CallT Z Tryz.prog (.round l) [.string k] A (fun r A' => r = .bool true ∧ A'.get l = some (.loop 13 T0 #[7] asS bS .ready none) ∧ (∃ v', A'.get P2 = some (.row [v'] 1 false) ∧ OwnS A' lo 1 (n + 1) v' (cs ++ [.string k])) ∧ A.next ≤ A'.next ∧ ∀ b, b < lo → b ≠ l → b ≠ P2 → A'.get b = A.get b) := by
  refine CallT.round hl (T' := T0.put 7 (some (.string k))) rfl ?_
  unfold asS
  refine codeW_ok E0_ok E0_ro ?_
  simp only [z_0, flat, Option.isNone, aFieldAddr, aField, aBuiltin, cond_true, cond_false, cond_dec, if_true, if_false, List.length_cons, List.length_nil, forall_const, implies_true, List.append_nil, List.cons_append, List.nil_append, eq_self, Nat.reduceEqDiff, Nat.reduceAdd, Nat.reduceMul, Nat.reduceSub, Nat.reduceLT, Nat.reduceLeDiff, Nat.reduceBEq, reduceIte, reduceCtorEq]
  refine ⟨_, _, _, _, _, _, _, _, rfl, hl, ?_⟩
  have hset : Fr [l] A (A.set l (.loop 13 T0 #[7] asS bS .busy none)) := ⟨by rw [ASt.next_set]; exact Nat.le_refl _, fun b hb hn => by rw [ASt.get_set, if_neg (by simpa using hn)]⟩
  have hl1 : (A.set l (.loop 13 T0 #[7] asS bS .busy none)).get l = some (.loop 13 T0 #[7] asS bS .busy none) := by rw [ASt.get_set, if_pos rfl]
  have hAn : (A.set l (.loop 13 T0 #[7] asS bS .busy none)).next = A.next := rfl
  generalize A.set l (.loop 13 T0 #[7] asS bS .busy none) = B at hset hl1 hAn ⊢
  have hlow := hs.low
  have hPn : P2 < A.next := by omega
  have hP1 := (hset.get P2 hPn (by simpa using Ne.symm hne)).trans hp
  have hs1 := hs.fr hset (fun b hb hm => by simp only [List.mem_singleton] at hm; have := (hlow b hb).1; omega)
  have fN : Fr [] B (B.new (.row [.string k] 1 false)) := .new
  obtain ⟨v', C, happ, hs2, fC, hv'⟩ := app34 (p := B.next) (k := k) (tl := false) (hs1.fr fN (by simp)) (by rw [ASt.get_new, if_pos rfl]) (by omega) (by rw [ASt.next_new]; omega)
  have nN : (B.new (.row [.string k] 1 false)).next = B.next + 1 := ASt.next_new ..
  have nC := fC.next
  have hnv : ∀ b, b < lo → b ∉ slB v := fun b hb hm => by have := (hlow b hm).1; omega
  have hCP := ((fC.get P2 (by omega) (hnv _ hPl)).trans (fN.get P2 (by omega) (by simp))).trans hP1
  have hst := st34 hCP ⟨hs2.cells1, hs2.single⟩
  have hve := hs.ve
  unfold bS
  refine codeW_ok E0_ok E0_ro ?_
  simp only [z_0, flat, Option.isNone, aFieldAddr, aField, aBuiltin, cond_true, cond_false, cond_dec, if_true, if_false, List.length_cons, List.length_nil, forall_const, implies_true, List.append_nil, List.cons_append, List.nil_append, eq_self, Nat.reduceEqDiff, Nat.reduceAdd, Nat.reduceMul, Nat.reduceSub, Nat.reduceLT, Nat.reduceLeDiff, Nat.reduceBEq, reduceIte, reduceCtorEq, ht, hP1, bs34, happ, hst]
  refine ⟨_, _, _, rfl, ?_⟩
  have hgl : (C.set P2 (.row [v'] 1 false)).get l = some (.loop 13 T0 #[7] asS bS .busy none) := by rw [ASt.get_set, if_neg hne, fC.get l (by omega) (hnv _ hll), fN.get l (by omega) (by simp)]; exact hl1
  unfold endR
  rw [hgl]
  have fE : Fr [P2, l] C ((C.set P2 (.row [v'] 1 false)).set l (.loop 13 T0 #[7] asS bS .ready none)) := ⟨by rw [ASt.next_set, ASt.next_set]; exact Nat.le_refl _, fun b hb hn => by
    simp only [List.mem_cons, List.not_mem_nil, or_false, not_or] at hn
    rw [ASt.get_set, if_neg hn.2, ASt.get_set, if_neg hn.1]⟩
  refine ⟨_, _, rfl, rfl, by rw [ASt.get_set, if_pos rfl]; rfl, ⟨v', by rw [ASt.get_set, if_neg (Ne.symm hne), ASt.get_set, if_pos rfl], hs2.fr fE (fun b hb hm => ?_)⟩, ?_, fun b hb h1 h2 => ?_⟩
  · have := (hs2.low b hb).1
    simp only [List.mem_cons, List.not_mem_nil, or_false] at hm
    omega
  · rw [ASt.next_set, ASt.next_set]; omega
  · rw [ASt.get_set, if_neg h1, ASt.get_set, if_neg h2, fC.get b (by omega) (hnv b hb), fN.get b (by omega) (by simp), hset.get b (by omega) (by simpa using h1)]
theorem invS_yield {l : Nat} {args : List Value} {A : ASt} : aInvoke E0 (.yield l) args [] A = .enter (.round l) args A := congrArg (fun x => x) rfl
theorem rangeM {A : ASt} {m ck : Nat} {es : List MapEntry} (hm : A.get m = some (.map es ck)) : aRange E0 62 (.map (some m)) A = .val (.pointer (some ⟨A.next, 0, none⟩)) (A.new (.miter (some m) ck [] ck)) := range_u ti62 t62_desc hm
abbrev VT := VE ByteArray (TimD × Value)
def kstr (l : List VT) : List Value := l.map fun x => .string x.1
theorem iterS_spec {A : ASt} {c m l P2 : Nat} {T0 : Tmps} {es : List VT} {ck : Nat} (hc : A.get c = some (.row [.map (some m)] 1 false)) (hm : A.get m = some (.map (vEnts encTV es) ck)) (hok : VOK es ck) (hlen : es.length ≤ 1000)
    (hl : A.get l = some (.loop 13 T0 #[7] asS bS .ready none)) (hp : A.get P2 = some (.row [.slice none 0 0] 1 false)) (ht : tget T0 2 = .pointer (some ⟨P2, 0, none⟩)) (hne : l ≠ P2) (hml : m ≠ l) (hmP : m ≠ P2) (hll : l < A.next) (hPl : P2 < A.next) (hcl : c < A.next) (hmn : m < A.next) :
    CallW Z Tryz.prog 66 [.func (.yield l) #[] #[], .pointer (some ⟨c, 0, none⟩)] A (fun _ A' => ∃ (done : List VT) (v : Value), (∀ x ∈ done, x ∈ es) ∧ (∀ x ∈ es, x ∈ done) ∧ done.Nodup ∧ A'.get l = some (.loop 13 T0 #[7] asS bS .ready none) ∧ A'.get P2 = some (.row [v] 1 false) ∧ OwnS A' (A.next + 1) 1 done.length v (kstr done) ∧ A.next ≤ A'.next ∧ ∀ b, b < A.next → b ≠ l → b ≠ P2 → A'.get b = A.get b) := by
  refine CallW.of_code E0_ok E0_ro fn66 rfl (n := 14) rfl (rs := []) rfl (by simp) (codeW_ok E0_ok E0_ro ?_)
  simp only [z_0, flat, Option.isNone, aFieldAddr, aField, aBuiltin, cond_true, cond_false, cond_dec, if_true, if_false, List.length_cons, List.length_nil, forall_const, implies_true, List.append_nil, List.cons_append, List.nil_append, eq_self, Nat.reduceEqDiff, Nat.reduceAdd, Nat.reduceMul, Nat.reduceSub, Nat.reduceLT, Nat.reduceLeDiff, Nat.reduceBEq, reduceIte, reduceCtorEq, hc, rangeM hm]
  have hAr : ∀ b, b < A.next → (A.new (.miter (some m) ck [] ck)).get b = A.get b := fun b hb => by rw [ASt.get_new, if_neg (by omega)]
  refine CodeW.mono (Q := fun o => ∃ (T' : Tmps) (A' : ASt) (done : List VT) (v : Value), o = .fr ⟨.exit 0, T', A'⟩ ∧ (∀ x ∈ done, x ∈ es) ∧ (∀ x ∈ es, x ∈ done) ∧ done.Nodup ∧ A'.get l = some (.loop 13 T0 #[7] asS bS .ready none) ∧ A'.get P2 = some (.row [v] 1 false) ∧ OwnS A' (A.next + 1) 1 done.length v (kstr done) ∧ A.next + 1 ≤ A'.next ∧ ∀ b, b < A.next → b ≠ l → b ≠ P2 → A'.get b = A.get b) ?_ ?_
  · refine CodeW.mapLoopV (Γ := encTV) (it := 5) (r := A.next) (m := m) (ck := ck) (l := es) (J := fun done T A' => tget T 0 = .func (.yield l) #[] #[] ∧ ∃ v, A'.get l = some (.loop 13 T0 #[7] asS bS .ready none) ∧ A'.get P2 = some (.row [v] 1 false) ∧ OwnS A' (A.next + 1) 1 done.length v (kstr done) ∧ A.next + 1 ≤ A'.next ∧ ∀ b, b < A.next → b ≠ l → b ≠ P2 → A'.get b = A.get b) ?_ ?_ ?_
    · rintro done T A1 hi ⟨u0, v, h1, h2, h3, h4, h5⟩
      refine codeW_ok E0_ok E0_ro ?_
      have hit := hi.it
      simp only [z_0, flat, Option.isNone, aFieldAddr, aField, aBuiltin, cond_true, cond_false, cond_dec, if_true, if_false, List.length_cons, List.length_nil, forall_const, implies_true, List.append_nil, List.cons_append, List.nil_append, eq_self, Nat.reduceEqDiff, Nat.reduceAdd, Nat.reduceMul, Nat.reduceSub, Nat.reduceLT, Nat.reduceLeDiff, Nat.reduceBEq, reduceIte, reduceCtorEq, hit]
      refine nextV_v hok hi.sub hi.iter hi.map (fun x hx hn => ?_) (fun hfin => ?_)
      · have hent := entry_v (A := A1.set A.next (.miter (some m) ck ((done ++ [x]).map (·.2.2)) ck)) (r := A.next) (m := m) hok hx (by rw [ASt.get_set, if_pos rfl]) (by rw [ASt.get_set, if_neg (by omega)]; exact hi.map)
        have fB : Fr [A.next] A1 (A1.set A.next (.miter (some m) ck ((done ++ [x]).map (·.2.2)) ck)) := ⟨by rw [ASt.next_set]; exact Nat.le_refl _, fun b hb hn => by rw [ASt.get_set, if_neg (by simpa using hn)]⟩
        have hB : ∀ b, (A1.set A.next (.miter (some m) ck ((done ++ [x]).map (·.2.2)) ck)).get b = if b = A.next then some (.miter (some m) ck ((done ++ [x]).map (·.2.2)) ck) else A1.get b := fun b => by rw [ASt.get_set]
        have hBn : (A1.set A.next (.miter (some m) ck ((done ++ [x]).map (·.2.2)) ck)).next = A1.next := rfl
        generalize A1.set A.next (.miter (some m) ck ((done ++ [x]).map (·.2.2)) ck) = B at hent hB hBn fB ⊢
        have hdl : done.length ≤ 1000 := Nat.le_trans (vnodup_le hi.nodup hi.sub) hlen
        have hBl : B.get l = some (.loop 13 T0 #[7] asS bS .ready none) := by rw [hB, if_neg (by omega)]; exact h1
        have hBP : B.get P2 = some (.row [v] 1 false) := by rw [hB, if_neg (by omega)]; exact h2
        have hBs := h3.fr fB (fun b hb hm => by simp only [List.mem_singleton] at hm; have := (h3.low b hb).1; omega)
        simp only [z_0, flat, Option.isNone, aFieldAddr, aField, aBuiltin, cond_true, cond_false, cond_dec, if_true, if_false, List.length_cons, List.length_nil, forall_const, implies_true, List.append_nil, List.cons_append, List.nil_append, eq_self, Nat.reduceEqDiff, Nat.reduceAdd, Nat.reduceMul, Nat.reduceSub, Nat.reduceLT, Nat.reduceLeDiff, Nat.reduceBEq, reduceIte, reduceCtorEq, hit, hent, u0, invS_yield]
        refine CallT.mono (roundS_spec hBl hBP ht hBs hne (by omega) (by omega) (by omega) hdl) ?_
        rintro _ C ⟨rfl, k1, ⟨v', k2, k3⟩, k4, k5⟩
        simp only [z_0, flat, Option.isNone, aFieldAddr, aField, aBuiltin, cond_true, cond_false, cond_dec, if_true, if_false, List.length_cons, List.length_nil, forall_const, implies_true, List.append_nil, List.cons_append, List.nil_append, eq_self, Nat.reduceEqDiff, Nat.reduceAdd, Nat.reduceMul, Nat.reduceSub, Nat.reduceLT, Nat.reduceLeDiff, Nat.reduceBEq, reduceIte, reduceCtorEq, un_not]
        refine ⟨x, hx, hn, hi.step hx hn (by simp only [tget_put, Nat.reduceEqDiff, if_false, reduceIte]) ?_ ?_, ?_, v', k1, k2, ?_, by omega, fun b hb hb1 hb2 => ?_⟩
        · rw [k5 _ (by omega) (by omega) (by omega), hB, if_pos rfl]
        · rw [k5 _ (by omega) hml hmP, hB, if_neg (by omega)]
        · first | exact u0 | (simp only [tget_put, Nat.reduceEqDiff, if_false, reduceIte]; exact u0) | rfl
        · unfold kstr; rw [List.map_append, List.length_append]; exact k3
        · rw [k5 b (by omega) hb1 hb2, hB, if_neg (by omega)]; exact h5 b hb hb1 hb2
      · simp only [z_0, flat, Option.isNone, aFieldAddr, aField, aBuiltin, cond_true, cond_false, cond_dec, if_true, if_false, List.length_cons, List.length_nil, forall_const, implies_true, List.append_nil, List.cons_append, List.nil_append, eq_self, Nat.reduceEqDiff, Nat.reduceAdd, Nat.reduceMul, Nat.reduceSub, Nat.reduceLT, Nat.reduceLeDiff, Nat.reduceBEq, reduceIte, reduceCtorEq]
        exact ⟨_, _, done, v, rfl, hi.sub, hfin, hi.nodup, h1, h2, h3, h4, h5⟩
    · refine ⟨by simp only [tget_put, Nat.reduceEqDiff, if_false, if_true, reduceIte], by rw [ASt.get_new, if_pos rfl]; rfl, by rw [hAr _ hmn]; exact hm, by simp, .nil⟩
    · refine ⟨by simp only [tget_put, Nat.reduceEqDiff, if_false, if_true, reduceIte], .slice none 0 0, by rw [hAr _ hll]; exact hl, by rw [hAr _ hPl]; exact hp, .inl ⟨rfl, rfl, rfl⟩, by rw [ASt.next_new]; omega, fun b hb _ _ => hAr b hb⟩
  · rintro o ⟨T', A', done, v, rfl, k1, k2, knd, k3, k4, k5, k6, k7⟩
    simp only [z_0, flat, Option.isNone, aFieldAddr, aField, aBuiltin, cond_true, cond_false, cond_dec, if_true, if_false, List.length_cons, List.length_nil, forall_const, implies_true, List.append_nil, List.cons_append, List.nil_append, eq_self, Nat.reduceEqDiff, Nat.reduceAdd, Nat.reduceMul, Nat.reduceSub, Nat.reduceLT, Nat.reduceLeDiff, Nat.reduceBEq, reduceIte, reduceCtorEq]
    exact ⟨done, v, k1, k2, knd, k3, k4, k5, by omega, k7⟩
theorem boxS34 {v : Value} (h : v = .slice none 0 0) : aBox E0 34 v = some (.row [v] 1 false, ptrTo) := by
  subst h
  simp only [aBox, w_so]; rfl
theorem box62 {m : Nat} : aBox E0 62 (.map (some m)) = some (.row [.map (some m)] 1 false, ptrTo) := by
  simp only [aBox, w_tb]; rfl
/-- The names that were gathered. -/
def GatheredS (es : List VT) (A : ASt) (v : Value) (A' : ASt) : Prop := ∃ (done : List VT) (lo : Nat), (∀ x ∈ done, x ∈ es) ∧ (∀ x ∈ es, x ∈ done) ∧ done.Nodup ∧ OwnS A' lo 1 done.length v (kstr done) ∧ A.next ≤ lo ∧ Fr [] A A'
theorem appendS_spec {A : ASt} {c m : Nat} {es : List VT} {ck : Nat} (hc : A.get c = some (.row [.map (some m)] 1 false)) (hm : A.get m = some (.map (vEnts encTV es) ck)) (hok : VOK es ck) (hlen : es.length ≤ 1000) (hcl : c < A.next) (hmn : m < A.next) :
    CallW Z Tryz.prog 87 [.slice none 0 0, .func (.func 66) #[] #[.pointer (some ⟨c, 0, none⟩)]] A (GatheredS es A) := by
  refine CallW.of_code E0_ok E0_ro fn87 rfl (n := 13) rfl (rs := [.tmp 4]) rfl (by simp) (codeW_ok E0_ok E0_ro ?_)
  simp only [z_0, flat, Option.isNone, aFieldAddr, aField, aBuiltin, cond_true, cond_false, cond_dec, if_true, if_false, List.length_cons, List.length_nil, forall_const, implies_true, List.append_nil, List.cons_append, List.nil_append, eq_self, Nat.reduceEqDiff, Nat.reduceAdd, Nat.reduceMul, Nat.reduceSub, Nat.reduceLT, Nat.reduceLeDiff, Nat.reduceBEq, reduceIte, reduceCtorEq, boxS34, ptrTo, c_range]
  have hB : ∀ b, b < A.next → (A.new (.row [.slice none 0 0] 1 false)).get b = A.get b := fun b hb => by rw [ASt.get_new, if_neg (by omega)]
  have hBP : (A.new (.row [.slice none 0 0] 1 false)).get A.next = some (.row [.slice none 0 0] 1 false) := by rw [ASt.get_new, if_pos rfl]
  have hBn : (A.new (.row [.slice none 0 0] 1 false)).next = A.next + 1 := by rw [ASt.next_new]
  generalize A.new (.row [.slice none 0 0] 1 false) = B at hB hBP hBn ⊢
  generalize hT : Tr.put _ 6 _ = T
  have t6 : tget T 6 = .func (.func 66) #[] #[.pointer (some ⟨c, 0, none⟩)] := by rw [← hT]; simp only [tget_put, Nat.reduceEqDiff, if_false, if_true, reduceIte]
  have t2 : tget T 2 = .pointer (some ⟨A.next, 0, none⟩) := by rw [← hT]; simp only [tget_put, Nat.reduceEqDiff, if_false, if_true, reduceIte]
  clear hT
  have hC : ∀ b, b < B.next → (B.new (.loop 13 T #[7] asS bS .ready none)).get b = B.get b := fun b hb => by rw [ASt.get_new, if_neg (by omega)]
  have hCl : (B.new (.loop 13 T #[7] asS bS .ready none)).get B.next = some (.loop 13 T #[7] asS bS .ready none) := by rw [ASt.get_new, if_pos rfl]
  have hCn : (B.new (.loop 13 T #[7] asS bS .ready none)).next = B.next + 1 := by rw [ASt.next_new]
  have hit := iterS_spec (Z := Z) (A := B.new (.loop 13 T #[7] asS bS .ready none)) (c := c) (m := m) (l := B.next) (P2 := A.next) (T0 := T) (es := es) (ck := ck) (by rw [hC _ (by omega), hB _ hcl]; exact hc) (by rw [hC _ (by omega), hB _ hmn]; exact hm) hok hlen hCl (by rw [hC _ (by omega)]; exact hBP) t2 (by omega) (by omega) (by omega) (by omega) (by omega) (by omega) (by omega)
  refine CodeW.rangeFn E0_ok E0_ro (f := 66) (first := #[]) (captured := #[.pointer (some ⟨c, 0, none⟩)]) (by simp only [ev, t6]) rfl (by intro args A; simp only [aEnter, fn66]) ?_
  refine CallT.mono (CallT.of_call hit) ?_
  rintro r D ⟨done, v, h1, h2, hnd, h3, h4, h5, h6, h7⟩
  refine ⟨_, _, _, _, _, _, h3, rfl, ?_⟩
  have h4' : (D.set B.next (.loop 13 T #[7] asS bS .exhausted none)).get A.next = some (.row [v] 1 false) := by rw [ASt.get_set, if_neg (by omega)]; exact h4
  have fD : Fr [B.next] D (D.set B.next (.loop 13 T #[7] asS bS .exhausted none)) := ⟨by rw [ASt.next_set]; exact Nat.le_refl _, fun b hb hn => by rw [ASt.get_set, if_neg (by simpa using hn)]⟩
  have h5' := h5.fr fD (fun b hb hm => by simp only [List.mem_singleton] at hm; have := (h5.low b hb).1; omega)
  have hfr : Fr [] A (D.set B.next (.loop 13 T #[7] asS bS .exhausted none)) := ⟨by rw [ASt.next_set]; omega, fun b hb _ => by rw [ASt.get_set, if_neg (by omega), h7 b (by omega) (by omega) (by omega), hC _ (by omega), hB _ hb]⟩
  have hve := h5.ve
  generalize D.set B.next (.loop 13 T #[7] asS bS .exhausted none) = F at h4' h5' hfr ⊢
  simp only [z_0, flat, Option.isNone, aFieldAddr, aField, aBuiltin, cond_true, cond_false, cond_dec, if_true, if_false, List.length_cons, List.length_nil, forall_const, implies_true, List.append_nil, List.cons_append, List.nil_append, eq_self, Nat.reduceEqDiff, Nat.reduceAdd, Nat.reduceMul, Nat.reduceSub, Nat.reduceLT, Nat.reduceLeDiff, Nat.reduceBEq, reduceIte, reduceCtorEq, t2, h4']
  exact ⟨done, _, h1, h2, hnd, h5', by omega, hfr⟩
theorem collectS_spec {A : ASt} {c m : Nat} {es : List VT} {ck : Nat} (hc : A.get c = some (.row [.map (some m)] 1 false)) (hm : A.get m = some (.map (vEnts encTV es) ck)) (hok : VOK es ck) (hlen : es.length ≤ 1000) (hcl : c < A.next) (hmn : m < A.next) :
    CallW Z Tryz.prog 64 [.func (.func 66) #[] #[.pointer (some ⟨c, 0, none⟩)]] A (GatheredS es A) := by
  refine CallW.of_code E0_ok E0_ro fn64 rfl (n := 5) rfl (rs := [.tmp 2]) rfl (by simp) (codeW_ok E0_ok E0_ro ?_)
  simp only [z_0, flat, Option.isNone, aFieldAddr, aField, aBuiltin, cond_true, cond_false, cond_dec, if_true, if_false, List.length_cons, List.length_nil, forall_const, implies_true, List.append_nil, List.cons_append, List.nil_append, eq_self, Nat.reduceEqDiff, Nat.reduceAdd, Nat.reduceMul, Nat.reduceSub, Nat.reduceLT, Nat.reduceLeDiff, Nat.reduceBEq, reduceIte, reduceCtorEq]
  refine CallT.mono (CallT.of_call (appendS_spec hc hm hok hlen hcl hmn)) ?_
  intro v A' h
  simp only [z_0, flat, Option.isNone, aFieldAddr, aField, aBuiltin, cond_true, cond_false, cond_dec, if_true, if_false, List.length_cons, List.length_nil, forall_const, implies_true, List.append_nil, List.cons_append, List.nil_append, eq_self, Nat.reduceEqDiff, Nat.reduceAdd, Nat.reduceMul, Nat.reduceSub, Nat.reduceLT, Nat.reduceLeDiff, Nat.reduceBEq, reduceIte, reduceCtorEq]
  exact h
theorem keys_spec {A : ASt} {m : Nat} : CallW Z Tryz.prog 37 [.map (some m)] A (fun v A' => v = .func (.func 66) #[] #[.pointer (some ⟨A.next, 0, none⟩)] ∧ A' = A.new (.row [.map (some m)] 1 false)) := by
  refine CallW.of_code E0_ok E0_ro fn37 rfl (n := 4) rfl (rs := [.tmp 2]) rfl (by simp) (codeW_ok E0_ok E0_ro ?_)
  simp only [z_0, flat, Option.isNone, aFieldAddr, aField, aBuiltin, cond_true, cond_false, cond_dec, if_true, if_false, List.length_cons, List.length_nil, forall_const, implies_true, List.append_nil, List.cons_append, List.nil_append, eq_self, Nat.reduceEqDiff, Nat.reduceAdd, Nat.reduceMul, Nat.reduceSub, Nat.reduceLT, Nat.reduceLeDiff, Nat.reduceBEq, reduceIte, reduceCtorEq, box62, ptrTo]
end Go.Proofs.YtgcffmhpjphefaaGreatDoor

/- A table of timers in general: the sort of names. -/
namespace Go.Proofs.YtgcffmhpjphefaaGreatDoor
open Go Go.AE Go.Sort
set_option maxRecDepth 10000
variable {Z : Go.AE.Road}

theorem bytesLt_iff : ∀ (a b : List UInt8), bytesLt a b = true ↔ a < b
  | _, [] => by
    constructor
    · intro h
      unfold bytesLt at h
      cases h
    · intro h
      exact absurd h (List.not_lt_nil _)
  | [], b :: l => by
    constructor
    · intro _; exact List.nil_lt_cons b l
    · intro _; rfl
  | a :: l, b :: r => by
    unfold bytesLt
    rw [List.cons_lt_cons_iff]
    by_cases e : a.toNat = b.toNat
    · have eab : a = b := UInt8.toNat_inj.1 e
      rw [e, Nat.beq_refl, cond_true, bytesLt_iff l r]
      subst eab
      constructor
      · intro h; exact .inr ⟨rfl, h⟩
      · rintro (h | h)
        · exact absurd h (UInt8.lt_irrefl _)
        · exact h.2
    · have hb : Nat.beq a.toNat b.toNat = false := by rw [nbeq]; simp [e]
      rw [hb, cond_false, nblt, decide_eq_true_eq]
      constructor
      · intro h; exact .inl (UInt8.lt_iff_toNat_lt.2 h)
      · rintro (h | h)
        · exact UInt8.lt_iff_toNat_lt.1 h
        · exact absurd (congrArg UInt8.toNat h.1) e
def strC (l : List ByteArray) : List Value := l.map Value.string
theorem sortS_spec {A : ASt} {b cap sz : Nat} {tl : Bool} {ts : List ByteArray} {rest : List Value} (hb : A.get b = some (.row (strC ts ++ rest) sz tl)) (hne : ts ≠ []) (hlen : ts.length < 4611686018427387904) :
    CallW Z Tryz.prog 65 [.slice (some ⟨b, 0, none⟩) ts.length cap] A (fun v A' => ∃ ts', A' = A.set b (.row (strC ts' ++ rest) sz tl) ∧ ts'.Perm ts ∧ ts'.Pairwise fun x y => blt y x = false) := by
  intro ρ w args' hR ha
  have hrep := Z.rep hR
  obtain ⟨L, hL, cells, el, lo, hi, e1, e2, e3, e4, e5, e6⟩ := hrep.obj b _ hb
  obtain ⟨l⟩ := args'
  obtain ⟨cap', rfl⟩ : ∃ cap', l = [.slice (some ⟨L.B, L.o + 0, none⟩) ts.length cap'] := by
    have ha : VsRel ρ _ l := ha
    cases ha with
    | cons h1 h2 =>
      cases h2
      generalize hs : Value.slice (some ⟨b, 0, none⟩) ts.length cap = s at h1
      cases h1 <;> first | cases hs | skip
      · rename_i L' hL' _
        rw [hL] at hL'
        cases hL'
        exact ⟨_, rfl⟩
      · rename_i L' hL' _ _
        rw [hL] at hL'
        cases hL'
        exact ⟨_, rfl⟩
  have hsl : ∀ l : List ByteArray, (strC l).length = l.length := fun l => by unfold strC; rw [List.length_map]
  have hn2 := hsl ts
  have hin : ∀ j, j < ts.length → L.o + j < cells.size := fun j hj => by
    simp only [List.length_append] at e4; omega
  have henc : ∀ x : ByteArray, encStr x.data.toList = .string x := fun x => by
    show Value.string ⟨x.data.toList.toArray⟩ = .string x
    simp
  have hcell : ∀ j x, ts[j]? = some x → cells[L.o + j]? = some (.string x) := fun j x hx => by
    have hj : j < ts.length := (List.getElem?_eq_some_iff.1 hx).1
    obtain ⟨v', h1, h2⟩ := e5 j (.string x) (by rw [List.getElem?_append_left (by omega)]; unfold strC; rw [List.getElem?_map, hx]; rfl)
    rw [h1]
    congr 1
    exact flat_eq rfl h2
  let ss := ts.map fun x => x.data.toList
  have hss : ss.length = ts.length := List.length_map ..
  have hH : _root_.Go.Sort.Holds encStr w L.B (L.o + 0) ss.toArray := by
    intro j hj
    have hj2 : j < ts.length := by simpa [ss] using hj
    have e : ss.toArray[j]! = ts[j].data.toList := by simp [ss, hj2]
    refine ⟨?_, ?_⟩
    · rw [e, henc]
      simp only [World.cell?, e1, Nat.add_zero]
      simpa using hcell j _ (List.getElem?_eq_getElem hj2)
    · simp only [World.frozen?, e1, Nat.add_zero]
      have := e6 (L.o + j) (by omega) (by
        simp only [AObj.hi, List.length_append]
        have := hin j hj2
        split <;> omega)
      simpa using this
  have hblk : L.B < w.heap.size := (Array.getElem?_eq_some_iff.1 e1).1
  have hcon := Any.slices_Sort_string Tryz.sortS L.B (L.o + 0) cap' ss w hH hblk (by rw [hss]; exact hlen)
  have h38 : Tryz.sortS_ren.f 190 = 65 := rfl
  rw [h38, hss] at hcon
  refine hcon.mono ?_
  rintro e w' ⟨rfl, n, os, rfl⟩
  have hperm : (ss.mergeSort fun x y => decide (x ≤ y)).Perm ss := List.mergeSort_perm _ _
  have hsorted : (ss.mergeSort fun x y => decide (x ≤ y)).Pairwise fun x y => decide (x ≤ y) = true := List.pairwise_mergeSort (fun a b c h1 h2 => by
    simp only [decide_eq_true_eq] at h1 h2 ⊢
    exact List.le_trans h1 h2) (fun a b => by
    simp only [Bool.or_eq_true, decide_eq_true_eq]
    exact List.le_total a b) ss
  generalize (ss.mergeSort fun x y => decide (x ≤ y)) = zs at hperm hsorted ⊢
  let ts' : List ByteArray := zs.map fun z => ⟨z.toArray⟩
  have hlz : zs.length = ts.length := by rw [hperm.length_eq, hss]
  have hlts : ts'.length = ts.length := by rw [List.length_map, hlz]
  have hp' : ts'.Perm ts := by
    have h1 : (ts'.Perm (ss.map fun z => (⟨z.toArray⟩ : ByteArray))) := hperm.map _
    have h2 : (ss.map fun z => (⟨z.toArray⟩ : ByteArray)) = ts := by
      show (ts.map fun x => x.data.toList).map (fun z => (⟨z.toArray⟩ : ByteArray)) = ts
      rw [List.map_map]
      conv => rhs; rw [← List.map_id ts]
      refine List.map_congr_left fun x _ => ?_
      simp
    rwa [h2] at h1
  have hs' : ts'.Pairwise fun x y => blt y x = false := by
    rw [List.pairwise_map]
    refine hsorted.imp ?_
    intro x y h
    rw [decide_eq_true_eq] at h
    unfold blt
    cases hb2 : bytesLt (List.toArray y).toList (List.toArray x).toList with
    | false => rfl
    | true =>
      have := (bytesLt_iff _ _).1 hb2
      simp only at this
      exact absurd this (by simpa using h)
  have hgz : ∀ i x, ts'[i]? = some x → encStr zs.toArray[i]! = .string x := fun i x hx => by
    rw [List.getElem?_map] at hx
    cases hz : zs[i]? with
    | none => rw [hz] at hx; cases hx
    | some z =>
      rw [hz] at hx
      cases hx
      have hi : i < zs.length := (List.getElem?_eq_some_iff.1 hz).1
      have : zs.toArray[i]! = z := by
        simp [hi]
        exact (List.getElem?_eq_some_iff.1 hz).2
      rw [this]
  refine ⟨.tuple #[], _, .tuple #[], ρ, ⟨ts', rfl, hp', hs'⟩, rfl, .refl_closed rfl, ?_⟩
  have hn2' := hsl ts'
  have st1 : Step ρ A w ρ A (Sort.ahead w n) := Step.of_below hrep ⟨rfl, rfl, rfl, Nat.le_refl _, fun _ _ => rfl⟩ (Nat.le_add_right _ _)
  have hcells' : (putRow encStr (Sort.ahead w n) L.B (L.o + 0) zs.toArray).heap[L.B]? = some (.cells (putCells encStr (L.o + 0) zs.toArray cells) el (lo, hi)) := by
    simp only [putRow, mapBlock, Sort.ahead, Array.getElem?_modify, if_true, e1, Option.map_some, onCells]
  have hother : ∀ B, B ≠ L.B → (putRow encStr (Sort.ahead w n) L.B (L.o + 0) zs.toArray).heap[B]? = (Sort.ahead w n).heap[B]? := fun B hB => by
    simp only [putRow, mapBlock, Sort.ahead, Array.getElem?_modify, if_neg (Ne.symm hB)]
  have hput : ∀ j, (putCells encStr (L.o + 0) zs.toArray cells)[j]? = if L.o ≤ j ∧ j < L.o + ts.length then (if j < cells.size then some (encStr zs.toArray[j - L.o]!) else none) else cells[j]? := fun j => by
    simp only [putCells, Array.getElem?_mapIdx, Nat.add_zero, List.size_toArray, hlz]
    by_cases hj : j < cells.size
    · have e : cells[j]? = some cells[j] := by simp [hj]
      simp only [e, Option.map_some]
      by_cases hc : L.o ≤ j ∧ j < L.o + ts.length
      · rw [if_pos hc, if_pos hc, if_pos hj]
      · rw [if_neg hc, if_neg hc]
    · have e : cells[j]? = none := by simp; omega
      simp [e, hj]
  have hsize : (putCells encStr (L.o + 0) zs.toArray cells).size = cells.size := by simp [putCells]
  generalize putCells encStr (L.o + 0) zs.toArray cells = cells' at hcells' hput hsize
  have hlen' : (strC ts' ++ rest).length = (strC ts ++ rest).length := by simp only [List.length_append]; omega
  have hrow : ORel ρ (.row (strC ts' ++ rest) sz tl) L (putRow encStr (Sort.ahead w n) L.B (L.o + 0) zs.toArray) := by
    refine ⟨cells', el, lo, hi, hcells', by rw [hsize]; exact e2, e3, by rw [hlen']; exact e4, fun i v hv => ?_, fun j h1 h2 => e6 j h1 ?_⟩
    · by_cases hi : i < ts.length
      · have hti : ts'[i]? = some ts'[i] := List.getElem?_eq_getElem (by omega)
        rw [List.getElem?_append_left (by omega)] at hv
        unfold strC at hv
        rw [List.getElem?_map, hti] at hv
        cases hv
        refine ⟨_, ?_, .refl_flat (v := .string ts'[i]) rfl⟩
        rw [hput, if_pos ⟨by omega, by omega⟩, if_pos (hin i hi), Nat.add_sub_cancel_left, hgz i _ hti]
      · rw [List.getElem?_append_right (by omega)] at hv
        obtain ⟨v', h1, h2⟩ := e5 i v (by rw [List.getElem?_append_right (by omega)]; rw [← hv]; congr 1; omega)
        exact ⟨v', by rw [hput, if_neg (by omega)]; exact h1, h2⟩
    · simp only [AObj.hi] at h2 ⊢
      rw [hlen'] at h2
      exact h2
  have st2 : Step ρ A (Sort.ahead w n) ρ (A.set b (.row (strC ts' ++ rest) sz tl)) (putRow encStr (Sort.ahead w n) L.B (L.o + 0) zs.toArray) :=
    Step.set st1.rep hb hL hrow (by simp only [AObj.hi, hlen']; exact Nat.le_refl _) ⟨rfl, rfl, rfl, by simp [putRow, mapBlock], Nat.le_refl _⟩ hother (.inr ⟨cells, cells', el, (lo, hi), e1, hcells', hsize, fun j hj => by
      rw [hput, if_neg]
      intro hc
      refine hj ⟨hc.1, ?_⟩
      simp only [AObj.hi, List.length_append]
      have := hin (j - L.o) (by omega)
      split <;> omega⟩)
  have st3 : Step ρ (A.set b (.row (strC ts' ++ rest) sz tl)) (putRow encStr (Sort.ahead w n) L.B (L.o + 0) zs.toArray) ρ (A.set b (.row (strC ts' ++ rest) sz tl)) (grow (putRow encStr (Sort.ahead w n) L.B (L.o + 0) zs.toArray) os) :=
    Step.of_below st2.rep ⟨rfl, rfl, rfl, by simp [grow], fun k hk => by simp only [grow]; rw [Array.getElem?_append_left hk]⟩ (Nat.le_refl _)
  exact (st1.trans st2).trans st3
theorem sortS_none {A : ASt} {p : Option Addr} {cap : Nat} : CallW Z Tryz.prog 65 [.slice p 0 cap] A (fun v A' => A' = A) := by
  intro ρ w args' hR ha
  obtain ⟨p', cap', rfl⟩ : ∃ p' cap', args' = #[.slice p' 0 cap'] := by
    obtain ⟨l⟩ := args'
    have ha : VsRel ρ _ l := ha
    cases ha with
    | cons h1 h2 =>
      cases h2
      cases h1 <;> exact ⟨_, _, rfl⟩
  have hcon := Any.slices_Sort_string_none Tryz.sortS p' cap' w
  have h38 : Tryz.sortS_ren.f 190 = 65 := rfl
  rw [h38] at hcon
  refine hcon.mono ?_
  rintro e w' ⟨rfl, rfl⟩
  exact ⟨.tuple #[], A, .tuple #[], ρ, rfl, rfl, .refl_closed rfl, .refl (Z.rep hR)⟩
end Go.Proofs.YtgcffmhpjphefaaGreatDoor

/- A table of timers in general: all of them, by their names. -/
namespace Go.Proofs.YtgcffmhpjphefaaGreatDoor
open Go Go.AE
set_option maxRecDepth 10000
set_option maxHeartbeats 8000000
variable {Z : Go.AE.Road} {s : Spans}

/-- The names of a map, in order. -/
def NamesOf (es : List VT) (ns : List ByteArray) : Prop := (ns.Pairwise fun x y => blt x y = true) ∧ ∀ k, k ∈ ns ↔ ∃ x ∈ es, x.1 = k
theorem sortedS_spec {A : ASt} {c m : Nat} {es : List VT} {ck : Nat} (hc : A.get c = some (.row [.map (some m)] 1 false)) (hm : A.get m = some (.map (vEnts encTV es) ck)) (hok : VOK es ck) (hlen : es.length ≤ 1000) (hcl : c < A.next) (hmn : m < A.next) :
    CallW Z Tryz.prog 36 [.func (.func 66) #[] #[.pointer (some ⟨c, 0, none⟩)]] A (fun v A' => ∃ ns, NamesOf es ns ∧ OwnS A' A.next 1 ns.length v (strC ns) ∧ Fr [] A A') := by
  refine CallW.of_code E0_ok E0_ro fn36 rfl (n := 9) rfl (rs := [.tmp 2]) rfl (by simp) (codeW_ok E0_ok E0_ro ?_)
  simp only [z_0, flat, Option.isNone, aFieldAddr, aField, aBuiltin, cond_true, cond_false, cond_dec, if_true, if_false, List.length_cons, List.length_nil, forall_const, implies_true, List.append_nil, List.cons_append, List.nil_append, eq_self, Nat.reduceEqDiff, Nat.reduceAdd, Nat.reduceMul, Nat.reduceSub, Nat.reduceLT, Nat.reduceLeDiff, Nat.reduceBEq, reduceIte, reduceCtorEq]
  refine CallT.mono (CallT.of_call (collectS_spec hc hm hok hlen hcl hmn)) ?_
  rintro v B ⟨done, lo, h1, h2, hnd, hO, hlo, fB⟩
  have hkn := (vget_all hok h1 h2 hnd).1
  have hks : kstr done = strC (done.map (·.1)) := by
    unfold kstr strC
    rw [List.map_map]; rfl
  have hO0 := hO
  rw [hks] at hO
  have hdl : done.length = (done.map (·.1)).length := by rw [List.length_map]
  rw [hdl] at hO
  generalize hkd : done.map (·.1) = ks at hO hkn
  have hmem : ∀ k, k ∈ ks ↔ ∃ x ∈ es, x.1 = k := fun k => by
    rw [← hkd, List.mem_map]
    constructor
    · rintro ⟨x, hx, e⟩; exact ⟨x, h1 x hx, e⟩
    · rintro ⟨x, hx, e⟩; exact ⟨x, h2 x hx, e⟩
  have hdone1 : done.length ≤ 1000 := Nat.le_trans (vnodup_le hnd h1) hlen
  have hks1 : ks.length ≤ 1000 := by rw [← hkd, List.length_map]; exact hdone1
  have hve := hO.ve
  -- what the sort leaves
  have fin : ∀ (C : ASt) (ns : List ByteArray), ns.Perm ks → (ns.Pairwise fun x y => blt y x = false) → NamesOf es ns := fun C ns hp hs => by
    refine ⟨?_, fun k => by rw [hp.mem_iff]; exact hmem k⟩
    have hn : ns.Nodup := (hp.nodup_iff).2 hkn
    refine (List.Pairwise.and hs hn).imp ?_
    rintro a b ⟨h3, h4⟩
    cases hb : blt a b with
    | true => rfl
    | false => exact absurd (blt_tri hb h3) h4
  have hO' := hO.lower hlo
  rcases hO with ⟨h3, h4, rfl⟩ | ⟨b, cap, tl, rfl, hb, hlb, hbn, hcl2, hcap⟩
  · have hk0 : ks = [] := List.eq_nil_of_length_eq_zero h3
    subst hk0
    simp only [z_0, flat, Option.isNone, aFieldAddr, aField, aBuiltin, cond_true, cond_false, cond_dec, if_true, if_false, List.length_cons, List.length_nil, forall_const, implies_true, List.append_nil, List.cons_append, List.nil_append, eq_self, Nat.reduceEqDiff, Nat.reduceAdd, Nat.reduceMul, Nat.reduceSub, Nat.reduceLT, Nat.reduceLeDiff, Nat.reduceBEq, reduceIte, reduceCtorEq]
    refine CallT.mono (CallT.of_call sortS_none) ?_
    rintro _ _ rfl
    simp only [z_0, flat, Option.isNone, aFieldAddr, aField, aBuiltin, cond_true, cond_false, cond_dec, if_true, if_false, List.length_cons, List.length_nil, forall_const, implies_true, List.append_nil, List.cons_append, List.nil_append, eq_self, Nat.reduceEqDiff, Nat.reduceAdd, Nat.reduceMul, Nat.reduceSub, Nat.reduceLT, Nat.reduceLeDiff, Nat.reduceBEq, reduceIte, reduceCtorEq]
    exact ⟨[], fin A [] .rfl .nil, .inl ⟨rfl, rfl, rfl⟩, fB⟩
  · by_cases hk0 : ks = []
    · subst hk0
      simp only [z_0, flat, Option.isNone, aFieldAddr, aField, aBuiltin, cond_true, cond_false, cond_dec, if_true, if_false, List.length_cons, List.length_nil, forall_const, implies_true, List.append_nil, List.cons_append, List.nil_append, eq_self, Nat.reduceEqDiff, Nat.reduceAdd, Nat.reduceMul, Nat.reduceSub, Nat.reduceLT, Nat.reduceLeDiff, Nat.reduceBEq, reduceIte, reduceCtorEq]
      refine CallT.mono (CallT.of_call sortS_none) ?_
      rintro _ _ rfl
      simp only [z_0, flat, Option.isNone, aFieldAddr, aField, aBuiltin, cond_true, cond_false, cond_dec, if_true, if_false, List.length_cons, List.length_nil, forall_const, implies_true, List.append_nil, List.cons_append, List.nil_append, eq_self, Nat.reduceEqDiff, Nat.reduceAdd, Nat.reduceMul, Nat.reduceSub, Nat.reduceLT, Nat.reduceLeDiff, Nat.reduceBEq, reduceIte, reduceCtorEq]
      exact ⟨[], fin A [] .rfl .nil, hO', fB⟩
    · simp only [z_0, flat, Option.isNone, aFieldAddr, aField, aBuiltin, cond_true, cond_false, cond_dec, if_true, if_false, List.length_cons, List.length_nil, forall_const, implies_true, List.append_nil, List.cons_append, List.nil_append, eq_self, Nat.reduceEqDiff, Nat.reduceAdd, Nat.reduceMul, Nat.reduceSub, Nat.reduceLT, Nat.reduceLeDiff, Nat.reduceBEq, reduceIte, reduceCtorEq]
      refine CallT.mono (CallT.of_call (sortS_spec (rest := []) (by rw [List.append_nil]; exact hb) hk0 (by omega))) ?_
      rintro _ _ ⟨ns, rfl, hp, hs⟩
      simp only [z_0, flat, Option.isNone, aFieldAddr, aField, aBuiltin, cond_true, cond_false, cond_dec, if_true, if_false, List.length_cons, List.length_nil, forall_const, implies_true, List.append_nil, List.cons_append, List.nil_append, eq_self, Nat.reduceEqDiff, Nat.reduceAdd, Nat.reduceMul, Nat.reduceSub, Nat.reduceLT, Nat.reduceLeDiff, Nat.reduceBEq, reduceIte, reduceCtorEq]
      have hle : ns.length = ks.length := hp.length_eq
      refine ⟨ns, fin A ns hp hs, .inr ⟨b, cap, tl, by rw [hle], by rw [ASt.get_set, if_pos rfl], by omega, by rw [ASt.next_set]; exact hbn, by unfold strC; rw [List.length_map]; omega, by rw [hle]; exact hcap⟩, ⟨by rw [ASt.next_set]; exact fB.next, fun b' hb' _ => by rw [ASt.get_set, if_neg (by omega), fB.get b' hb' (by simp)]⟩⟩
/-- All timers, by their names. -/
structure AllOf (D : TD) (l : List TimD) : Prop where
  ord : (l.map (·.name)).Pairwise fun x y => blt x y = true
  mem : ∀ t, t ∈ l ↔ D t.name = some t
theorem ix34 {b i n c : Nat} (h : i < n) : aIndexAddr E0 34 (.slice (some ⟨b, 0, none⟩) n c) (.int .i64 (i : Int)) = some (.pointer (some ⟨b, i, none⟩)) := by
  have := indexAddr_sl (A := { heap := .e, next := 0 }) ti34 t34_desc ti9 (kd := .i64) (k := i) (b := b) (off := 0) (len := n) (cap := c) h
  rwa [t9_size, Nat.zero_add, Nat.mul_one] at this
theorem strC_nth {ns : List ByteArray} {i : Nat} {k : ByteArray} (h : ns[i]? = some k) : nth (strC ns) i = some (.string k) := by
  rw [nth_eq]
  unfold strC
  rw [List.getElem?_map, h]
  rfl
theorem tallC_spec (hro : RoadS Z E0 s) {A : ASt} {x m q e w : Nat} {v : Value} {W all : Nat} {ms : List Nat} {now n : Nat} {D : TD} {S : Nat → Prop} (h : TabAt s A x m q e w v W all ms now n D S) (hn : n ≤ 1000) :
    CallW Z Tryz.prog 12 [.pointer (some ⟨x, 0, none⟩)] A (fun r A' => ∃ P, TimsAt s A' A.next r P ∧ AllOf D (P.map (·.1)) ∧ Fr [] A A') := by
  refine CallW.assume hro fun hnr => ?_
  refine CallW.of_code (withRo_ok E0_ok) hro.ro (f := 12) (fn := Tryz.f12) fn12 rfl (n := 31) rfl (rs := [.tmp 2]) rfl (by simp) (codeW_ok (withRo_ok E0_ok) hro.ro ?_)
  have hc0 := h.core
  have h1 := hc0.hx
  have hlx := hc0.lts
  obtain ⟨es, ck, hg, hok, hD, hS⟩ := hc0.hm
  have hes : es.length ≤ 1000 := by
    obtain ⟨ls, hl1, hl2⟩ := h.upto
    have := nodup_leG hok.keys (l := ls) (fun k hk => by
      obtain ⟨y, hy, rfl⟩ := List.mem_map.1 hk
      refine hl2 _ ?_
      rw [← hD, vget_mem hok.keys hy]
      rfl)
    rw [List.length_map] at this
    omega
  simp only [w_w, z_0, flat, Option.isNone, aFieldAddr, aField, aBuiltin, cond_true, cond_false, cond_dec, if_true, if_false, List.length_cons, List.length_nil, forall_const, implies_true, List.append_nil, List.cons_append, List.nil_append, eq_self, Nat.reduceEqDiff, Nat.reduceAdd, Nat.reduceMul, Nat.reduceSub, Nat.reduceLT, Nat.reduceLeDiff, Nat.reduceBEq, reduceIte, reduceCtorEq, eqnilT, h1]
  refine CallT.mono (CallT.of_call keys_spec) ?_
  rintro _ _ ⟨rfl, rfl⟩
  have fB : Fr [] A (A.new (.row [.map (some m)] 1 false)) := .new
  have gB : (A.new (.row [.map (some m)] 1 false)).get A.next = some (.row [.map (some m)] 1 false) := by rw [ASt.get_new, if_pos rfl]
  have nB : (A.new (.row [.map (some m)] 1 false)).next = A.next + 1 := ASt.next_new ..
  generalize A.new (.row [.map (some m)] 1 false) = B at fB gB nB ⊢
  simp only [w_w, z_0, flat, Option.isNone, aFieldAddr, aField, aBuiltin, cond_true, cond_false, cond_dec, if_true, if_false, List.length_cons, List.length_nil, forall_const, implies_true, List.append_nil, List.cons_append, List.nil_append, eq_self, Nat.reduceEqDiff, Nat.reduceAdd, Nat.reduceMul, Nat.reduceSub, Nat.reduceLT, Nat.reduceLeDiff, Nat.reduceBEq, reduceIte, reduceCtorEq]
  refine CallT.mono (CallT.of_call (sortedS_spec gB ((fB.get m (by omega) (by simp)).trans hg) hok hes (by omega) (by omega))) ?_
  rintro lv C ⟨ns, hns, hO, fC⟩
  have fAC := fB.trans fC
  have nC := fC.next
  obtain ⟨bo, cp, rfl⟩ : ∃ bo cp, lv = .slice bo ns.length cp := by
    rcases hO with ⟨h3, _, rfl⟩ | ⟨b, cap, tl, rfl, _⟩
    · exact ⟨none, 0, by rw [h3]⟩
    · exact ⟨_, _, rfl⟩
  have hlen := fun B2 => hO.len (E := E0) ti34 t34_desc B2
  have hDn : ∀ k ∈ ns, ∃ t dv, vget es k = some (t, dv) ∧ D k = some t := fun k hk => by
    obtain ⟨y, hy, rfl⟩ := (hns.2 k).1 hk
    have h3 := vget_mem hok.keys hy
    exact ⟨y.2.1.1, y.2.1.2, h3, by rw [← hD, h3]; rfl⟩
  have hnl : ns.length ≤ 1000 := by
    have hnn : ns.Nodup := hns.1.imp (fun {a b} hab e1 => by subst e1; rw [blt_irr] at hab; cases hab)
    have := nodup_leG hnn (l := es.map (·.1)) (fun k hk => by
      obtain ⟨y, hy, e1⟩ := (hns.2 k).1 hk
      exact List.mem_map.2 ⟨y, hy, e1⟩)
    rw [List.length_map] at this
    omega
  simp only [w_w, z_0, flat, Option.isNone, aFieldAddr, aField, aBuiltin, cond_true, cond_false, cond_dec, if_true, if_false, List.length_cons, List.length_nil, forall_const, implies_true, List.append_nil, List.cons_append, List.nil_append, eq_self, Nat.reduceEqDiff, Nat.reduceAdd, Nat.reduceMul, Nat.reduceSub, Nat.reduceLT, Nat.reduceLeDiff, Nat.reduceBEq, reduceIte, reduceCtorEq, hlen]
  refine CodeW.mono (Q := fun o => ∃ T' A', o = .fr ⟨.exit 0, T', A'⟩ ∧ ∃ r P, tget T' 3 = r ∧ TimsAt s A' A.next r P ∧ P.map (·.1) = ns.map (fun k => (D k).getD zTimD) ∧ Fr [] A A') ?_ ?_
  · refine CodeW.loopR (k := ns.length) (fun n T A' => ∃ (i : Nat) (r : Value) (P : List (TimD × Value)), n = ns.length - i ∧ i ≤ ns.length ∧ tget T 15 = .int .i64 (i : Int) ∧ tget T 14 = .int .i64 (ns.length : Int) ∧ tget T 13 = .slice bo ns.length cp ∧ tget T 0 = .pointer (some ⟨x, 0, none⟩) ∧ tget T 3 = r ∧ P.length = i ∧ TimsAt s A' C.next r P ∧ P.map (·.1) = (ns.take i).map (fun k => (D k).getD zTimD) ∧ Fr [] C A') ?_ ?_
    · rintro k0 T A1 ⟨i, r, P, rfl, hi, u15, u14, u13, u0, u3, hPl, hT1, hPm, f1⟩
      refine codeW_ok (withRo_ok E0_ok) hro.ro ?_
      by_cases hlt : i < ns.length
      · have d1 : ((i : Int) < (ns.length : Int)) = True := eq_true (by omega)
        obtain ⟨k, hk⟩ : ∃ k, ns[i]? = some k := ⟨_, List.getElem?_eq_getElem hlt⟩
        obtain ⟨t, dv, hvg, hDk⟩ := hDn k (List.mem_of_getElem? hk)
        obtain ⟨b, cap, tl, etv, hb, hlb, hbn, _, _⟩ : ∃ b cap tl, (.slice bo ns.length cp : Value) = .slice (some ⟨b, 0, none⟩) ns.length cap ∧ C.get b = some (.row (strC ns) 1 tl) ∧ B.next ≤ b ∧ b < C.next ∧ (strC ns).length = ns.length * 1 ∧ True := by
          rcases hO with ⟨h3, _⟩ | ⟨b, cap, tl, h3, h4, h5, h6, h7, _⟩
          · omega
          · exact ⟨b, cap, tl, h3, h4, h5, h6, h7, trivial⟩
        cases etv
        have hbA := (f1.get b hbn (by simp)).trans hb
        have nf1 := f1.next
        have fAA1 := fAC.trans f1
        have hcA := hc0.fr0 fAA1
        have hxA := hcA.hx
        have hgA := (fAA1.get m (by omega) (by simp)).trans hg
        have hlk : aLookup E0 62 (.map (some m)) (.string k) false A1 = some (tval t dv) := by
          have := tlook hgA k false
          rw [hvg] at this
          exact this
        simp only [w_w, z_0, flat, Option.isNone, aFieldAddr, aField, aBuiltin, cond_true, cond_false, cond_dec, if_true, if_false, List.length_cons, List.length_nil, forall_const, implies_true, List.append_nil, List.cons_append, List.nil_append, eq_self, Nat.reduceEqDiff, Nat.reduceAdd, Nat.reduceMul, Nat.reduceSub, Nat.reduceLT, Nat.reduceLeDiff, Nat.reduceBEq, reduceIte, reduceCtorEq, u15, u14, u13, u0, u3, d1, decide_true, ix34 hlt, hbA, strC_nth hk, hxA, hlk]
        refine CallT.mono (CallT.of_call (copied_spec (t := t) hro ((hS k t dv hvg).fr fAA1 (by simp)) (h.ok k t hDk).1.steps)) ?_
        rintro _ G ⟨dv', rfl, hdG, fG⟩
        have nG := fG.next
        have fN : Fr [] G (G.new (.row (tcell t dv') 5 false)) := .new
        have nN : (G.new (.row (tcell t dv') 5 false)).next = G.next + 1 := ASt.next_new ..
        have hOG := (hT1.own.fr fG (by simp)).fr fN (by simp)
        obtain ⟨r2, H, ha, hOH, fH, hr2⟩ := appTim (s := s) (p := G.next) (t := t) (dv := dv') (tl := false) hOG (by rw [ASt.get_new, if_pos rfl]) hdG.single (by omega) (by omega)
        have hbs := bsTim (t := t) hdG.single
        have nH := fH.next
        have w1 : IntKind.i64.wrap ((i : Int) + 1) = ((i + 1 : Nat) : Int) := by rw [IntKind.wrap_i64]; omega
        simp only [w_w, z_0, flat, Option.isNone, aFieldAddr, aField, aBuiltin, cond_true, cond_false, cond_dec, if_true, if_false, List.length_cons, List.length_nil, forall_const, implies_true, List.append_nil, List.cons_append, List.nil_append, eq_self, Nat.reduceEqDiff, Nat.reduceAdd, Nat.reduceMul, Nat.reduceSub, Nat.reduceLT, Nat.reduceLeDiff, Nat.reduceBEq, reduceIte, reduceCtorEq, u15, u14, u13, u0, u3, hbs, ha, ptrTo, w1]
        have hrl : ∀ c ∈ slB r, C.next ≤ c ∧ c < A1.next := hT1.own.low
        refine ⟨ns.length - (i + 1), by omega, i + 1, r2, P ++ [(t, dv')], rfl, by omega, rfl, rfl, by rw [List.length_append, hPl]; rfl, ⟨?_, fun p hp => ?_⟩, ?_, ⟨by omega, fun c h3 _ => ?_⟩⟩
        · have : tcellL (P ++ [(t, dv')]) = tcellL P ++ tcell t dv' := by
            unfold tcellL
            rw [List.map_append, List.flatten_append]
            simp
          rw [this, List.length_append]
          exact hOH
        · rcases List.mem_append.1 hp with hp | hp
          · have h3 := (hT1.steps p hp).imp (S' := fun b => (C.next ≤ b ∧ b ∉ slB r) ∧ b < A1.next) (fun b h4 h5 => ⟨h4, h5⟩)
            have h6 := ((h3.fr fG (by simp)).fr fN (by simp)).fr fH (fun b h4 _ => h4.1.2)
            refine h6.imp (fun b h4 _ => ⟨h4.1.1, fun hm => ?_⟩)
            rcases hr2 b hm with h5 | h5
            · exact h4.1.2 h5
            · have := h4.2; omega
          · simp only [List.mem_singleton] at hp
            subst hp
            have hdG' : Steps (withRo E0 s) G (fun b => A1.next ≤ b ∧ b < G.next) dv' t.steps := hdG.imp (fun b h4 h5 => ⟨h4, h5⟩)
            have h6 := (hdG'.fr fN (by simp)).fr fH (fun b h4 _ hm => by have := (hrl b hm).2; omega)
            refine h6.imp (fun b h4 _ => ⟨by omega, fun hm => ?_⟩)
            rcases hr2 b hm with h5 | h5
            · have := (hrl b h5).2; omega
            · omega
        · rw [take_snoc hk, List.map_append, List.map_append, hPm]
          show _ ++ [t] = _ ++ [(D k).getD zTimD]
          rw [hDk]; rfl
        · rw [fH.get c (by omega) (fun hm => by have := (hrl c hm).1; omega), fN.get c (by omega) (by simp), fG.get c (by omega) (by simp), f1.get c h3 (by simp)]
      · have e1 : i = ns.length := by omega
        subst e1
        have d1 : ((ns.length : Int) < (ns.length : Int)) = False := eq_false (by omega)
        simp only [w_w, z_0, flat, Option.isNone, aFieldAddr, aField, aBuiltin, cond_true, cond_false, cond_dec, if_true, if_false, List.length_cons, List.length_nil, forall_const, implies_true, List.append_nil, List.cons_append, List.nil_append, eq_self, Nat.reduceEqDiff, Nat.reduceAdd, Nat.reduceMul, Nat.reduceSub, Nat.reduceLT, Nat.reduceLeDiff, Nat.reduceBEq, reduceIte, reduceCtorEq, u15, u14, d1, decide_false]
        rw [List.take_length] at hPm
        exact ⟨_, _, rfl, r, P, by simp only [tget_put, Nat.reduceEqDiff, if_false, if_true, reduceIte, u3], ⟨hT1.own.lower (by omega), fun p hp => (hT1.steps p hp).imp (fun b h3 _ => ⟨by omega, h3.2⟩)⟩, hPm, fAC.trans f1⟩
    · refine ⟨0, .slice none 0 0, [], rfl, Nat.zero_le _, ?_, ?_, ?_, ?_, ?_, rfl, ⟨.inl ⟨rfl, rfl, rfl⟩, fun p hp => (by cases hp)⟩, rfl, .refl _ _⟩
      all_goals first | rfl | (unfold argsT; rfl)
  · rintro o ⟨T', A', rfl, r, P, u3, hT, hP, f1⟩
    simp only [w_w, z_0, flat, Option.isNone, aFieldAddr, aField, aBuiltin, cond_true, cond_false, cond_dec, if_true, if_false, List.length_cons, List.length_nil, forall_const, implies_true, List.append_nil, List.cons_append, List.nil_append, eq_self, Nat.reduceEqDiff, Nat.reduceAdd, Nat.reduceMul, Nat.reduceSub, Nat.reduceLT, Nat.reduceLeDiff, Nat.reduceBEq, reduceIte, reduceCtorEq, u3]
    refine ⟨P, hT, ⟨?_, fun t => ?_⟩, f1⟩
    · rw [hP, List.map_map]
      have : ns.map ((fun t : TimD => t.name) ∘ fun k => (D k).getD zTimD) = ns := by
        conv => rhs; rw [← List.map_id ns]
        refine List.map_congr_left fun k hk => ?_
        obtain ⟨t, dv, _, hDk⟩ := hDn k hk
        show ((D k).getD zTimD).name = k
        rw [hDk]
        exact (h.ok k t hDk).2
      rw [this]
      exact hns.1
    · rw [hP, List.mem_map]
      constructor
      · rintro ⟨k, hk, rfl⟩
        obtain ⟨t, dv, _, hDk⟩ := hDn k hk
        rw [hDk]
        show D t.name = some t
        rw [(h.ok k t hDk).2]
        exact hDk
      · intro ht
        refine ⟨t.name, ?_, by rw [ht]; rfl⟩
        rw [hns.2]
        have h3 := hD t.name
        rw [ht] at h3
        cases hv : vget es t.name with
        | none => rw [hv] at h3; cases h3
        | some p =>
          obtain ⟨bn, hb⟩ := vget_some hv
          exact ⟨_, hb, rfl⟩
end Go.Proofs.YtgcffmhpjphefaaGreatDoor

/- A table of timers in general: a new one, and a copy. -/
namespace Go.Proofs.YtgcffmhpjphefaaGreatDoor
open Go Go.AE
set_option maxRecDepth 10000
set_option maxHeartbeats 8000000
variable {Z : Go.AE.Road} {s : Spans}

theorem T0.tabAt {A : ASt} {x m q e w W all now : Nat} {ms : List Nat} (h : T0 A x m q e w W all ms now) : TabAt s A x m q e w (.slice none 0 0) W all ms now 0 (fun _ => none) (fun _ => False) := by
  have hw : WAt A w [] := ⟨[], 0, h.hq.hw, ⟨.nil, .nil, fun x hx => (by cases hx)⟩, fun k i => by
    constructor
    · intro h; cases h
    · intro h; simp at h⟩
  have hE : EAt A e w (.slice none 0 0) [] := ⟨h.hq.he, .inl ⟨rfl, rfl⟩, hw, ⟨h.hq.lt.2.1, h.hq.lt.2.2⟩, by simp⟩
  have hQ : QAt A q e w (.slice none 0 0) (fun _ => none) := ⟨[], ⟨h.hq.hq, hE, fun c _ hc => absurd hc (by simp), h.hq.lt.1⟩, fun k a => by simp⟩
  have en : TD.near (fun _ => none) now = fun _ => none := rfl
  have ef : TD.far (fun _ => none) now = fun _ => none := rfl
  have hne := h.ne
  have hnW := h.nW
  have hqn := h.hq.ne
  have hWn := h.hW.nodup
  refine ⟨⟨h.hx, ⟨[], 0, h.hm, ⟨.nil, .nil, fun x hx => (by cases hx)⟩, fun k => rfl, fun k t dv hk => (by cases hk)⟩, by rw [en]; exact hQ, by rw [ef]; exact h.hW, ?_, ?_, fun b hb => (by cases hb), fun b hb => hb.elim⟩, fun k t hk => (by cases hk), ⟨[], by simp, fun k hk => by cases hk⟩⟩
  · have hxq : x ≠ q := fun e1 => by
      have h1 := h.hx
      rw [e1, h.hq.hq] at h1
      simp at h1
    simp only [ownT, List.nodup_cons, List.mem_cons, not_or] at hnW hWn ⊢
    exact ⟨⟨hne.1, hxq, hne.2.1, hne.2.2.1, hnW.1⟩, ⟨hne.2.2.2.1, hne.2.2.2.2.1, hne.2.2.2.2.2, hnW.2.1⟩, ⟨hqn.2.2, hqn.2.1, hnW.2.2.1⟩, ⟨hqn.1, hnW.2.2.2.1⟩, hnW.2.2.2.2, hWn⟩
  · intro b hb
    simp only [ownT, List.mem_cons] at hb
    rcases hb with rfl | rfl | rfl | rfl | rfl | hb
    · exact h.lt.1
    · exact h.lt.2
    · exact h.hq.lt.1
    · exact h.hq.lt.2.1
    · exact h.hq.lt.2.2
    · exact h.hW.below b (by simpa using hb)
theorem tnewC_spec {A : ASt} {now : Nat} (hn : now < 18446744073709551616) : CallW Z Tryz.prog 7 [.int .u64 (now : Int)] A (fun r A' => ∃ x m q e w W all ms, r = .pointer (some ⟨x, 0, none⟩) ∧ TabAt s A' x m q e w (.slice none 0 0) W all ms now 0 (fun _ => none) (fun _ => False) ∧ Fr [] A A' ∧ ∀ b ∈ ownT x m q e w W all ms, A.next ≤ b) := by
  refine CallW.mono (tnew_spec hn) ?_
  rintro _ A' ⟨x, m, q, e, w, W, all, ms, rfl, hT, fA, hl⟩
  refine ⟨x, m, q, e, w, W, all, ms, rfl, hT.tabAt, fA, fun b hb => hl b ?_⟩
  simp only [ownT, List.mem_cons, List.cons_append, List.nil_append] at hb ⊢
  exact hb
theorem TabAt.now {A : ASt} {x m q e w : Nat} {v : Value} {W all : Nat} {ms : List Nat} {now n : Nat} {D : TD} {S : Nat → Prop} (h : TabAt s A x m q e w v W all ms now n D S) : now < 18446744073709551616 := h.core.hW.nowlt
abbrev VT2 := VE ByteArray (TimD × Value)
/-- The timers of some of a map's entries. -/
noncomputable def dOf (l : List VT2) : TD := fun k => (vget l k).map (·.1)
end Go.Proofs.YtgcffmhpjphefaaGreatDoor

/- The live question, wherever it is asked. -/
namespace Go.Proofs.YtgcffmhpjphefaaGreatDoor
open Go Go.AE

variable {Z : Go.AE.Road}

theorem alive_run0 : ends isTrueV (run E0 20000 (.call (.fn 15) [] (startAt 0))) = true := by kernel_rfl
theorem alive_run : ∃ fuel, ends isTrueV (run E0 fuel (.call (.fn 15) [] (startAt 0))) = true := ⟨20000, alive_run0⟩

theorem alive_calls (w : World) : Calls Tryz.prog 15 #[] w fun e w' => e = .returned (.bool true) ∧ Go.RowKit.Below w.heap.size w w' ∧ w.drawn ≤ w'.drawn := by
  obtain ⟨fuel, hrun⟩ := alive_run
  have hall : (callBy (run E0 fuel) (.fn 15) [] (startAt 0)).all (fun r => isTrueV r.1 = true) := by
    have := ends_all hrun
    unfold callBy
    revert this
    generalize run E0 fuel (.call (.fn 15) [] (startAt 0)) = m
    intro this
    induction m with
    | ret o =>
      obtain ⟨v, A, rfl, hq⟩ := this
      exact hq
    | ask n k ih => exact fun i hi => ih i (this i hi)
    | fail s => exact this.elim
    | pick p k ih => exact fun r hr => ih r (this r hr)
  have h := CallW.of_run (Z := roadRaw [] w) (f := 15) (args := []) (A := startAt 0) (Q := fun v _ => isTrueV v = true) E0_ok E0_ro hook_none mixed hall
  refine (h (rawRen []) w #[] (Step.refl (rep_start [] w)) .nil).mono ?_
  rintro e w' ⟨v, A', v', ρ', hq, rfl, hv, hst⟩
  refine ⟨?_, Step.below (n := 0) hst, hst.drawn⟩
  cases hv <;> first | (simp [isTrueV] at hq; done) | skip
  rename_i b
  cases b with
  | true => rfl
  | false => cases hq

theorem alive_spec {A : ASt} : CallW Z Tryz.prog 15 [] A (fun v A' => v = .bool true ∧ A' = A) := by
  intro ρ w args' hR ha
  obtain ⟨l⟩ := args'
  cases ha
  refine (alive_calls w).mono ?_
  rintro e w' ⟨rfl, hb, hd⟩
  exact ⟨.bool true, A, .bool true, ρ, ⟨rfl, rfl⟩, rfl, .bool _, Step.of_below (Z.rep hR) hb hd⟩
end Go.Proofs.YtgcffmhpjphefaaGreatDoor

/- The law 'TimersDue' in plain Lean: how many there are. -/
namespace Go.Proofs.YtgcffmhpjphefaaGreatDoor
open Go Go.AE
theorem same_length {α : Type} {l m : List α} (hl : l.Nodup) (hm : m.Nodup) (h : ∀ x, x ∈ l ↔ x ∈ m) : l.length = m.length :=
  Nat.le_antisymm (nodup_leG hl fun x hx => (h x).1 hx) (nodup_leG hm fun x hx => (h x).2 hx)
theorem Lists.nodup {M : TM} {L : List (ByteArray × Nat)} (h : Lists M L) : L.Nodup := h.ord.imp (fun {a b} hab e => by subst e; exact tlt_irr _ hab)
/-- Those that are due among all. -/
theorem due_count {D : TD} {c : Nat} {L : List (ByteArray × Nat)} {l : List TimD} (hL : Lists (D.near c) L) (hA : AllOf D l) (hn : ∀ k t, D k = some t → t.name = k) : L.length = (l.filter fun t => decide (t.at_ ≤ c)).length := by
  have hnd : ((l.filter fun t => decide (t.at_ ≤ c)).map fun t => (t.name, t.at_)).Nodup := by
    rw [List.nodup_iff_pairwise_ne, List.pairwise_map]
    have h1 := hA.ord
    rw [List.pairwise_map] at h1
    refine (h1.filter _).imp ?_
    intro a b hab e
    have : a.name = b.name := congrArg (·.1) e
    rw [this, blt_irr] at hab
    cases hab
  have := same_length hL.nodup hnd (fun x => by
    obtain ⟨k, a⟩ := x
    rw [hL.mem, List.mem_map]
    unfold TD.near TD.at_
    rw [Option.filter_eq_some_iff, decide_eq_true_eq]
    constructor
    · rintro ⟨h1, h2⟩
      cases hD : D k with
      | none => rw [hD] at h1; cases h1
      | some t =>
        rw [hD] at h1
        have h1 : some t.at_ = some a := h1
        cases h1
        have hk := hn k t hD
        refine ⟨t, ?_, by rw [hk]⟩
        rw [List.mem_filter, decide_eq_true_eq, hA.mem, hk]
        exact ⟨hD, h2⟩
    · rintro ⟨t, ht, e⟩
      cases e
      rw [List.mem_filter, decide_eq_true_eq, hA.mem] at ht
      rw [ht.1]
      exact ⟨rfl, ht.2⟩)
  rw [this, List.length_map]
/-- What was due, and what became so. -/
theorem due_sum {D : TD} {c nw : Nat} {L1 L2 L3 : List (ByteArray × Nat)} (h1 : Lists (D.near c) L1) (h2 : Lists (fun k => (D.at_ k).filter fun a => decide (c < a) && decide (a ≤ nw)) L2) (h3 : Lists (D.near (max c nw)) L3) : L1.length + L2.length = L3.length := by
  have hnd : (L1 ++ L2).Nodup := by
    rw [List.nodup_append]
    refine ⟨h1.nodup, h2.nodup, fun x hx y hy e => ?_⟩
    subst e
    have a1 := (h1.mem x.1 x.2).1 hx
    have a2 := (h2.mem x.1 x.2).1 hy
    unfold TD.near at a1
    rw [Option.filter_eq_some_iff] at a1 a2
    simp only [Bool.and_eq_true, decide_eq_true_eq] at a1 a2
    omega
  have := same_length hnd h3.nodup (fun x => by
    obtain ⟨k, a⟩ := x
    rw [List.mem_append, h1.mem, h2.mem, h3.mem]
    unfold TD.near
    rw [Option.filter_eq_some_iff, Option.filter_eq_some_iff, Option.filter_eq_some_iff]
    simp only [Bool.and_eq_true, decide_eq_true_eq]
    constructor
    · rintro (⟨h4, h5⟩ | ⟨h4, h5⟩)
      · exact ⟨h4, by omega⟩
      · exact ⟨h4, by omega⟩
    · rintro ⟨h4, h5⟩
      by_cases h6 : a ≤ c
      · exact .inl ⟨h4, h6⟩
      · exact .inr ⟨h4, by omega, by omega⟩)
  rw [List.length_append] at this
  exact this
theorem became_none {D : TD} {c nw : Nat} {L2 : List (ByteArray × Nat)} (h2 : Lists (fun k => (D.at_ k).filter fun a => decide (c < a) && decide (a ≤ nw)) L2) (h : nw < c) : L2 = [] := by
  cases L2 with
  | nil => rfl
  | cons x l =>
    have a2 := (h2.mem x.1 x.2).1 (by simp)
    rw [Option.filter_eq_some_iff] at a2
    simp only [Bool.and_eq_true, decide_eq_true_eq] at a2
    omega
/-- One that is due, by its place. -/
theorem due_at {D : TD} {c i : Nat} {L : List (ByteArray × Nat)} {P : List (TimD × Value)} {p : TimD × Value} (hL : Lists (D.near c) L) (hP : P.map (·.1) = L.map fun y => (D y.1).getD zTimD) (hn : ∀ k t, D k = some t → t.name = k) (hp : P[i]? = some p) : L[i]? = some (p.1.name, p.1.at_) ∧ p.1.at_ ≤ c := by
  have h1 : (P.map (·.1))[i]? = some p.1 := by rw [List.getElem?_map, hp]; rfl
  rw [hP, List.getElem?_map] at h1
  cases hy : L[i]? with
  | none => rw [hy] at h1; cases h1
  | some y =>
    rw [hy] at h1
    have h1 : some ((D y.1).getD zTimD) = some p.1 := h1
    have h2 := (hL.mem y.1 y.2).1 (List.mem_of_getElem? hy)
    unfold TD.near TD.at_ at h2
    rw [Option.filter_eq_some_iff, decide_eq_true_eq] at h2
    cases hD : D y.1 with
    | none => rw [hD] at h2; cases h2.1
    | some t =>
      rw [hD] at h1 h2
      have h4 : t = p.1 := Option.some.inj (show some t = some p.1 from h1)
      have h3 : t.at_ = y.2 := Option.some.inj (show some t.at_ = some y.2 from h2.1)
      rw [← h4, hn y.1 t hD, h3]
      exact ⟨rfl, h2.2⟩
theorem due_ord {D : TD} {c i : Nat} {L : List (ByteArray × Nat)} {P : List (TimD × Value)} {p q : TimD × Value} (hL : Lists (D.near c) L) (hP : P.map (·.1) = L.map fun y => (D y.1).getD zTimD) (hn : ∀ k t, D k = some t → t.name = k) (hp : P[i]? = some p) (hq : P[i + 1]? = some q) : p.1.at_ < q.1.at_ ∨ p.1.at_ = q.1.at_ ∧ blt p.1.name q.1.name = true := by
  have h1 := (due_at hL hP hn hp).1
  have h2 := (due_at hL hP hn hq).1
  obtain ⟨l1, e1⟩ := List.getElem?_eq_some_iff.1 h1
  obtain ⟨l2, e2⟩ := List.getElem?_eq_some_iff.1 h2
  have := List.pairwise_iff_getElem.1 hL.ord i (i + 1) l1 l2 (by omega)
  rw [e1, e2] at this
  exact this
theorem UptoD.le {D : TD} {n m : Nat} (h : UptoD D n) (hm : n ≤ m) : UptoD D m := by
  obtain ⟨l, h1, h2⟩ := h
  exact ⟨l, by omega, h2⟩
end Go.Proofs.YtgcffmhpjphefaaGreatDoor

/- The law 'TimersDue', walked. -/
namespace Go.Proofs.YtgcffmhpjphefaaGreatDoor
open Go Go.AE
set_option maxRecDepth 10000
set_option maxHeartbeats 16000000
variable {Z : Go.AE.Road} {s : Spans}

theorem neqnilT {xo yo : Operand} {x : Option Addr} : aBin2 E0 .neq 25 xo yo (.pointer x) (.pointer none) = some (.bool (!x.isNone)) := b_ptr_nil' ti25 t25_desc
def StepD.ranged (y : StepD) : Prop := -9223372036854775808 ≤ y.n ∧ y.n < 9223372036854775808
/-- What is asked of the timers that are handed in. -/
structure Handed (s : Spans) (A : ASt) (S : Nat → Prop) (v : Value) (P : List (TimD × Value)) : Prop where
  sl : SlAt (withRo E0 s) A S 5 v (P.map fun p => tcell p.1 p.2)
  st : ∀ p ∈ P, Steps (withRo E0 s) A S p.2 p.1.steps ∧ (∀ y ∈ p.1.steps, y.ranged) ∧ p.1.at_ < 18446744073709551616
theorem Handed.fr {A B : ASt} {S : Nat → Prop} {v : Value} {P : List (TimD × Value)} {own : List Nat} (h : Handed s A S v P) (hf : Fr own A B) (ho : ∀ b, S b → b < A.next → b ∉ own) : Handed s B S v P :=
  ⟨h.sl.fr hf ho, fun p hp => ⟨(h.st p hp).1.fr hf ho, (h.st p hp).2⟩⟩
theorem tcell_len {P : List (TimD × Value)} : ∀ x ∈ P.map (fun p => tcell p.1 p.2), x.length = 5 := by
  intro x hx
  obtain ⟨y, _, rfl⟩ := List.mem_map.1 hx
  rfl
theorem TimsAt.sl {A : ASt} {lo : Nat} {r : Value} {P : List (TimD × Value)} (h : TimsAt s A lo r P) (hnr : ∀ b, lo ≤ b → (withRo E0 s).ro b = none) : SlAt (withRo E0 s) A (fun b => lo ≤ b) 5 r (P.map fun p => tcell p.1 p.2) := by
  have h1 := h.own
  have : P.length = (P.map fun p => tcell p.1 p.2).length := by rw [List.length_map]
  rw [this] at h1
  exact OwnS.slAt h1 hnr tcell_len
theorem timIx {A : ASt} {S : Nat → Prop} {v : Value} {P : List (TimD × Value)} (h : SlAt (withRo E0 s) A S 5 v (P.map fun p => tcell p.1 p.2)) {i : Nat} {p : TimD × Value} (hp : P[i]? = some p) :
    ∃ b o c, (∀ kd, aIndexAddr E0 23 v (.int kd (i : Int)) = some (.pointer (some ⟨b, o, none⟩))) ∧ cellsG (withRo E0 s) b (A.get b) = some c ∧ cut c o 5 = some (tcell p.1 p.2) ∧ nth c o = some (.string p.1.name) ∧ nth c (o + 2) = some (.int .u64 (p.1.at_ : Int)) ∧ S b := by
  obtain ⟨b, o, c, h1, h2, h3, h4, h5, h6⟩ := h.ix (wti.trans ti23) t23_desc (wti.trans ti30) t30_size (i := i) (x := tcell p.1 p.2) (by rw [List.getElem?_map, hp]; rfl)
  simp only [wix] at h1
  exact ⟨b, o, c, h1, h2.g, h5, h6 0 _ rfl, h6 2 _ rfl, h3⟩
theorem timLen {A : ASt} {S : Nat → Prop} {v : Value} {P : List (TimD × Value)} (h : SlAt (withRo E0 s) A S 5 v (P.map fun p => tcell p.1 p.2)) (B : ASt) : aLen E0 23 v B = some (.int .i64 (P.length : Int)) := by
  have := h.len (wti.trans ti23) t23_desc B
  simp only [wlen, List.length_map] at this
  exact this
theorem box24 {a b : Nat} : aBox E0 24 (.agg #[.int .u64 (a : Int), .int .u64 (b : Int)]) = some (.row [.int .u64 (a : Int), .int .u64 (b : Int)] 2 false, ptrTo) := by
  simp only [aBox, w_0]; rfl
theorem idx24 {b k : Nat} (hk : k < 2) : aIndexAddr E0 24 (.pointer (some ⟨b, 0, none⟩)) (.int .i64 (k : Int)) = some (.pointer (some ⟨b, k, none⟩)) := by
  have e1 : Nat.blt k 2 = true := by rw [nblt]; simpa using hk
  show aIndexAddr E0 24 (.pointer (some ⟨b, 0, none⟩)) (.int .i64 (Int.ofNat k)) = _
  simp only [aIndexAddr, w_0, e1, cond_true, Nat.mul_one, Nat.zero_add]
theorem TimsAt.form {A : ASt} {lo : Nat} {r : Value} {P : List (TimD × Value)} (h : TimsAt s A lo r P) : ∃ b c, r = .slice b P.length c := by
  rcases h.own with ⟨h0, _, rfl⟩ | ⟨b, cap, tl, rfl, _⟩
  · exact ⟨none, 0, by rw [h0]⟩
  · exact ⟨_, _, rfl⟩
theorem timLenO {A : ASt} {lo : Nat} {b : Option Addr} {c : Nat} {P : List (TimD × Value)} (h : TimsAt s A lo (.slice b P.length c) P) (B : ASt) : aLen E0 23 (.slice b P.length c) B = some (.int .i64 (P.length : Int)) := h.own.len (E := E0) ti23 t23_desc B
theorem NamesAt.form {A : ASt} {lo : Nat} {r : Value} {L : List (ByteArray × Nat)} (h : NamesAt A lo r L) : ∃ b c, r = .slice b L.length c := by
  rcases h with ⟨h0, _, rfl⟩ | ⟨b, cap, tl, rfl, _⟩
  · exact ⟨none, 0, by rw [h0]⟩
  · exact ⟨_, _, rfl⟩
theorem namesLen {A : ASt} {lo : Nat} {b : Option Addr} {c : Nat} {L : List (ByteArray × Nat)} (h : NamesAt A lo (.slice b L.length c) L) (B : ASt) : aLen E0 34 (.slice b L.length c) B = some (.int .i64 (L.length : Int)) := OwnS.len (E := E0) h ti34 t34_desc B
theorem names_ne {A : ASt} {lo n : Nat} {r v : Value} {cs : List Value} {l : List (ByteArray × Nat)} (h : OwnS A lo 1 n r cs) (hq : QS A v l) : ∀ b ∈ slB r, b ∉ slB v := fun b hb hm => by
  rcases h with ⟨_, _, rfl⟩ | ⟨b1, cap, tl, rfl, h1, _⟩
  · cases hb
  · rcases hq with ⟨_, rfl⟩ | ⟨b2, rest, rfl, h2, _⟩
    · cases hm
    · simp only [slB, List.mem_singleton] at hb hm
      subst hb
      subst hm
      rw [h1] at h2
      simp at h2
theorem strs_nth {l : List (ByteArray × Nat)} {i : Nat} {y : ByteArray × Nat} (h : l[i]? = some y) : nth (strs l) i = some (.string y.1) := by
  rw [nth_eq]
  unfold strs
  rw [List.getElem?_map, h]
  rfl
theorem newTim {A : ASt} {t : TimD} {dv : Value} (hs : single dv = true) : ∃ C, aStore E0 30 (.pointer (some ⟨A.next, 0, none⟩)) (tval t dv) (A.new (.row [.string ByteArray.empty, .int .i64 0, .int .u64 0, .int .u64 0, .slice none 0 0] 5 false)) = some C ∧ Fr [] A C ∧ C.get A.next = some (.row [.string t.name, .int .i64 t.ver, .int .u64 (t.at_ : Int), .int .u64 (t.every : Int), dv] 5 false) ∧ C.next = A.next + 1 := by
  have hst := st25 (A := A.new (.row [.string ByteArray.empty, .int .i64 0, .int .u64 0, .int .u64 0, .slice none 0 0] 5 false)) (b := A.next) (a0 := .string t.name) (a1 := .int .i64 t.ver) (a2 := .int .u64 (t.at_ : Int)) (a3 := .int .u64 (t.every : Int)) (a4 := dv) (by rw [ASt.get_new, if_pos rfl]) (tim_sg hs)
  refine ⟨_, hst, ⟨by rw [ASt.next_set, ASt.next_new]; omega, fun b hb _ => by rw [ASt.get_set, if_neg (by omega), ASt.get_new, if_neg (by omega)]⟩, by rw [ASt.get_set, if_pos rfl], by rw [ASt.next_set, ASt.next_new]⟩
theorem wrLow {m e w : Nat} {v : Value} {x q W all L0 : Nat} {ms : List Nat} (h1 : ∀ b ∈ ownT x m q e w W all ms, L0 ≤ b) (h2 : ∀ b ∈ slB v, L0 ≤ b) : ∀ b ∈ wrT m e w v W all ms, L0 ≤ b := fun b hb => by
  simp only [wrT, List.mem_cons, List.mem_append] at hb
  rcases hb with hb | hb | hb | hb | hb
  · exact h1 b (by simp [hb])
  · exact h1 b (by simp [hb])
  · exact h1 b (by simp [hb])
  · exact h2 b hb
  · exact h1 b (by simp only [ownT, List.mem_cons]; simp [hb])
theorem due_walk (hro : RoadS Z E0 s) (ht : TabZ Z) {A : ASt} {S0 : Nat → Prop} {lv : Value} {P0 : List (TimD × Value)} {now a b : Nat} (hl : Handed s A S0 lv P0) (hS0 : ∀ b, S0 b → b < A.next) (hnow : now < 18446744073709551616) (ha : a < 18446744073709551616) (hb : b < 18446744073709551616) :
    CallW Z Tryz.prog 3 [.int .u64 (now : Int), lv, .agg #[.int .u64 (a : Int), .int .u64 (b : Int)]] A (fun v _ => v = .bool true) := by
  refine CallW.assume hro fun hnr => ?_
  refine CallW.of_code (withRo_ok E0_ok) hro.ro (f := 3) (fn := Tryz.f3) fn3 rfl (n := 194) rfl (rs := [.tmp 6]) rfl (by simp) (codeW_ok (withRo_ok E0_ok) hro.ro ?_)
  obtain ⟨lb, lc, rfl⟩ := hl.sl.form
  rw [List.length_map] at hl
  simp only [List.length_map, w_w, z_0, flat, Option.isNone, aFieldAddr, aField, aBuiltin, cond_true, cond_false, cond_dec, if_true, if_false, List.length_cons, List.length_nil, forall_const, implies_true, List.append_nil, List.cons_append, List.nil_append, eq_self, Nat.reduceEqDiff, Nat.reduceAdd, Nat.reduceMul, Nat.reduceSub, Nat.reduceLT, Nat.reduceLeDiff, Nat.reduceBEq, reduceIte, reduceCtorEq, box24, ptrTo]
  have fB : Fr [] A (A.new (.row [.int .u64 (a : Int), .int .u64 (b : Int)] 2 false)) := .new
  have gB : (A.new (.row [.int .u64 (a : Int), .int .u64 (b : Int)] 2 false)).get A.next = some (.row [.int .u64 (a : Int), .int .u64 (b : Int)] 2 false) := by rw [ASt.get_new, if_pos rfl]
  have nB : (A.new (.row [.int .u64 (a : Int), .int .u64 (b : Int)] 2 false)).next = A.next + 1 := ASt.next_new ..
  generalize A.new (.row [.int .u64 (a : Int), .int .u64 (b : Int)] 2 false) = B at fB gB nB ⊢
  refine CallT.mono (CallT.of_call (tnewC_spec (s := s) hnow)) ?_
  rintro _ C ⟨x, m, q, e, w, W, all, ms, rfl, hT, fC, hown⟩
  have hlB := hl.fr fB (by simp)
  have hlC := hlB.fr fC (by simp)
  have gC := (fC.get A.next (by omega) (by simp)).trans gB
  have nC := fC.next
  have llen := timLen hlC.sl
  have rx : (withRo E0 s).ro x = none := hnr x (by have := hown x (by simp); omega)
  simp only [w_w, z_0, flat, Option.isNone, aFieldAddr, aField, aBuiltin, cond_true, cond_false, cond_dec, if_true, if_false, List.length_cons, List.length_nil, forall_const, implies_true, List.append_nil, List.cons_append, List.nil_append, eq_self, Nat.reduceEqDiff, Nat.reduceAdd, Nat.reduceMul, Nat.reduceSub, Nat.reduceLT, Nat.reduceLeDiff, Nat.reduceBEq, reduceIte, reduceCtorEq, eqnilT, neqnilT, llen, undef]
  by_cases h40 : 40 < P0.length
  · have d1 : ((40 : Int) < (P0.length : Int)) = True := eq_true (by omega)
    simp only [w_w, z_0, flat, Option.isNone, aFieldAddr, aField, aBuiltin, cond_true, cond_false, cond_dec, if_true, if_false, List.length_cons, List.length_nil, forall_const, implies_true, List.append_nil, List.cons_append, List.nil_append, eq_self, Nat.reduceEqDiff, Nat.reduceAdd, Nat.reduceMul, Nat.reduceSub, Nat.reduceLT, Nat.reduceLeDiff, Nat.reduceBEq, reduceIte, reduceCtorEq, d1, decide_true, neqnilT, Bool.not_false]
  · have d1 : ((40 : Int) < (P0.length : Int)) = False := eq_false (by omega)
    simp only [w_w, z_0, flat, Option.isNone, aFieldAddr, aField, aBuiltin, cond_true, cond_false, cond_dec, if_true, if_false, List.length_cons, List.length_nil, forall_const, implies_true, List.append_nil, List.cons_append, List.nil_append, eq_self, Nat.reduceEqDiff, Nat.reduceAdd, Nat.reduceMul, Nat.reduceSub, Nat.reduceLT, Nat.reduceLeDiff, Nat.reduceBEq, reduceIte, reduceCtorEq, d1, decide_false]
    have hS0B : ∀ b, S0 b → b < B.next := fun b h => by have := hS0 b h; omega
    refine CodeW.mono (Q := fun o => ∃ T' A', o = .fr ⟨.exit 0, T', A'⟩ ∧ tget T' 0 = .int .u64 (now : Int) ∧ tget T' 5 = .pointer (some ⟨A.next, 0, none⟩) ∧ tget T' 7 = .pointer (some ⟨x, 0, none⟩) ∧ ∃ v D S, TabAt s A' x m q e w v W all ms now 40 D S ∧ (∀ b ∈ slB v, B.next ≤ b) ∧ A'.get A.next = some (.row [.int .u64 (a : Int), .int .u64 (b : Int)] 2 false) ∧ C.next ≤ A'.next) ?_ ?_
    · refine CodeW.loopR (k := P0.length) (fun n T A' => ∃ (i : Nat) (v : Value) (D : TD) (S : Nat → Prop), n = P0.length - i ∧ i ≤ P0.length ∧ tget T 0 = .int .u64 (now : Int) ∧ tget T 1 = .slice lb P0.length lc ∧ tget T 5 = .pointer (some ⟨A.next, 0, none⟩) ∧ tget T 7 = .pointer (some ⟨x, 0, none⟩) ∧ tget T 8 = .int .i64 (i : Int) ∧ TabAt s A' x m q e w v W all ms now i D S ∧ (∀ b ∈ slB v, B.next ≤ b) ∧ A'.get A.next = some (.row [.int .u64 (a : Int), .int .u64 (b : Int)] 2 false) ∧ C.next ≤ A'.next ∧ Handed s A' S0 (.slice lb P0.length lc) P0) ?_ ?_
      · rintro k T A1 ⟨i, v, D, S, rfl, hi, u0, u1, u5, u7, u8, hT1, hv1, g1, n1, hl1⟩
        refine codeW_ok (withRo_ok E0_ok) hro.ro ?_
        have llen1 := timLen hl1.sl
        have hwr := wrLow hown hv1
        have w1 : IntKind.i64.wrap ((i : Int) + 1) = ((i + 1 : Nat) : Int) := by rw [IntKind.wrap_i64]; omega
        by_cases hlt : i < P0.length
        · have d2 : ((i : Int) < (P0.length : Int)) = True := eq_true (by omega)
          obtain ⟨p, hp⟩ : ∃ p, P0[i]? = some p := ⟨_, List.getElem?_eq_getElem hlt⟩
          obtain ⟨b1, o1, c1, hx1, hc1, hcut, _, _⟩ := timIx hl1.sl hp
          have hpm := hl1.st p (List.mem_of_getElem? hp)
          have hag : Value.agg (tcell p.1 p.2).toArray = tval p.1 p.2 := rfl
          simp only [w_w, z_0, flat, Option.isNone, aFieldAddr, aField, aBuiltin, cond_true, cond_false, cond_dec, if_true, if_false, List.length_cons, List.length_nil, forall_const, implies_true, List.append_nil, List.cons_append, List.nil_append, eq_self, Nat.reduceEqDiff, Nat.reduceAdd, Nat.reduceMul, Nat.reduceSub, Nat.reduceLT, Nat.reduceLeDiff, Nat.reduceBEq, reduceIte, reduceCtorEq, u0, u1, u5, u7, u8, llen1, d2, decide_true, hx1, hc1, hcut, hag]
          refine CallT.mono (CallT.of_call (fits_spec (t := p.1) hro hpm.1)) ?_
          rintro _ F ⟨⟨bf, rfl, hbf⟩, fF⟩
          have hTF : TabAt s F x m q e w v W all ms now i D S := ⟨hT1.core.fr0 fF, hT1.ok, hT1.upto⟩
          have hlF := hl1.fr fF (by simp)
          have gF := (fF.get A.next (by omega) (by simp)).trans g1
          have nF := fF.next
          cases bf with
          | false =>
            simp only [w_w, z_0, flat, Option.isNone, aFieldAddr, aField, aBuiltin, cond_true, cond_false, cond_dec, if_true, if_false, List.length_cons, List.length_nil, forall_const, implies_true, List.append_nil, List.cons_append, List.nil_append, eq_self, Nat.reduceEqDiff, Nat.reduceAdd, Nat.reduceMul, Nat.reduceSub, Nat.reduceLT, Nat.reduceLeDiff, Nat.reduceBEq, reduceIte, reduceCtorEq, u0, u1, u5, u7, u8, w1]
            exact ⟨P0.length - (i + 1), by omega, i + 1, v, D, S, rfl, by omega, rfl, ⟨hTF.core, hTF.ok, hTF.upto.le (by omega)⟩, hv1, gF, by omega, hlF⟩
          | true =>
            have hfit := hbf rfl
            obtain ⟨b2, o2, c2, hx2, hc2, hcut2, _, _⟩ := timIx hlF.sl hp
            have hpm2 := hlF.st p (List.mem_of_getElem? hp)
            simp only [w_w, z_0, flat, Option.isNone, aFieldAddr, aField, aBuiltin, cond_true, cond_false, cond_dec, if_true, if_false, List.length_cons, List.length_nil, forall_const, implies_true, List.append_nil, List.cons_append, List.nil_append, eq_self, Nat.reduceEqDiff, Nat.reduceAdd, Nat.reduceMul, Nat.reduceSub, Nat.reduceLT, Nat.reduceLeDiff, Nat.reduceBEq, reduceIte, reduceCtorEq, u0, u1, u5, u7, u8, hx2, hc2, hcut2, hag]
            refine CallT.mono (CallT.of_call (tsetC_spec (t := p.1) hro ht hTF (by omega) hpm2.1 ⟨by omega, hpm2.2.1⟩ hpm2.2.2 (fun b h1 _ hm => by have := hwr b hm; have := hS0B b h1; omega) rx)) ?_
            rintro r G ⟨hres, fG⟩
            have nG := fG.next
            have hlG := hlF.fr fG (fun b h1 _ hm => by have := hwr b hm; have := hS0B b h1; omega)
            have gG := (fG.get A.next (by omega) (fun hm => by have := hwr _ hm; omega)).trans gF
            rcases hres with ⟨_, rfl, v3, S3, hTG, hv3, _⟩ | ⟨_, rfl, hTG⟩
            · simp only [w_w, z_0, flat, Option.isNone, aFieldAddr, aField, aBuiltin, cond_true, cond_false, cond_dec, if_true, if_false, List.length_cons, List.length_nil, forall_const, implies_true, List.append_nil, List.cons_append, List.nil_append, eq_self, Nat.reduceEqDiff, Nat.reduceAdd, Nat.reduceMul, Nat.reduceSub, Nat.reduceLT, Nat.reduceLeDiff, Nat.reduceBEq, reduceIte, reduceCtorEq, u0, u1, u5, u7, u8, w1]
              exact ⟨P0.length - (i + 1), by omega, i + 1, v3, _, S3, rfl, by omega, rfl, hTG, fun b hb => by
                rcases hv3 b hb with h3 | h3
                · exact hv1 b h3
                · omega, gG, by omega, hlG⟩
            · simp only [w_w, z_0, flat, Option.isNone, aFieldAddr, aField, aBuiltin, cond_true, cond_false, cond_dec, if_true, if_false, List.length_cons, List.length_nil, forall_const, implies_true, List.append_nil, List.cons_append, List.nil_append, eq_self, Nat.reduceEqDiff, Nat.reduceAdd, Nat.reduceMul, Nat.reduceSub, Nat.reduceLT, Nat.reduceLeDiff, Nat.reduceBEq, reduceIte, reduceCtorEq, u0, u1, u5, u7, u8, w1]
              exact ⟨P0.length - (i + 1), by omega, i + 1, v, D, S, rfl, by omega, rfl, ⟨hTG.core, hTG.ok, hTG.upto.le (by omega)⟩, hv1, gG, by omega, hlG⟩
        · have d2 : ((i : Int) < (P0.length : Int)) = False := eq_false (by omega)
          simp only [w_w, z_0, flat, Option.isNone, aFieldAddr, aField, aBuiltin, cond_true, cond_false, cond_dec, if_true, if_false, List.length_cons, List.length_nil, forall_const, implies_true, List.append_nil, List.cons_append, List.nil_append, eq_self, Nat.reduceEqDiff, Nat.reduceAdd, Nat.reduceMul, Nat.reduceSub, Nat.reduceLT, Nat.reduceLeDiff, Nat.reduceBEq, reduceIte, reduceCtorEq, u0, u1, u5, u7, u8, llen1, d2, decide_false]
          exact ⟨_, _, rfl, by simp only [tget_put, Nat.reduceEqDiff, if_false, if_true, reduceIte, u0], by simp only [tget_put, Nat.reduceEqDiff, if_false, if_true, reduceIte, u5], by simp only [tget_put, Nat.reduceEqDiff, if_false, if_true, reduceIte, u7], v, D, S, ⟨hT1.core, hT1.ok, hT1.upto.le (by omega)⟩, hv1, g1, n1⟩
      · refine ⟨0, .slice none 0 0, fun _ => none, fun _ => False, rfl, Nat.zero_le _, ?_, ?_, ?_, ?_, ?_, hT, fun b hb => (by cases hb), gC, Nat.le_refl _, hlC⟩
        all_goals first | rfl | (unfold argsT; rfl)
    · rintro o ⟨T', A1, rfl, u0, u5, u7, v, D, S, hT1, hv1, g1, n1⟩
      simp only [w_w, z_0, flat, Option.isNone, aFieldAddr, aField, aBuiltin, cond_true, cond_false, cond_dec, if_true, if_false, List.length_cons, List.length_nil, forall_const, implies_true, List.append_nil, List.cons_append, List.nil_append, eq_self, Nat.reduceEqDiff, Nat.reduceAdd, Nat.reduceMul, Nat.reduceSub, Nat.reduceLT, Nat.reduceLeDiff, Nat.reduceBEq, reduceIte, reduceCtorEq, u0, u5, u7]
      refine CodeW.mono (Q := fun o => ∃ T' A', o = .fr ⟨.exit 2, T', A'⟩) ?_ ?_
      · refine CodeW.loopR (k := 2) (fun n T A' => ∃ (k c : Nat) (v : Value) (S : Nat → Prop), n = 2 - k ∧ k ≤ 2 ∧ c < 18446744073709551616 ∧ tget T 5 = .pointer (some ⟨A.next, 0, none⟩) ∧ tget T 7 = .pointer (some ⟨x, 0, none⟩) ∧ tget T 10 = .int .u64 ((c : Nat) : Int) ∧ tget T 11 = .int .i64 ((k : Nat) : Int) ∧ TabAt s A' x m q e w v W all ms c 40 D S ∧ (∀ b ∈ slB v, B.next ≤ b) ∧ A'.get A.next = some (.row [.int .u64 (a : Int), .int .u64 (b : Int)] 2 false) ∧ C.next ≤ A'.next) ?_ ⟨0, now, v, S, rfl, by omega, hnow, ?_, ?_, ?_, ?_, hT1, hv1, g1, n1⟩
        · rintro n0 T A2 ⟨k, c, v1, S1, rfl, hk, hc, u5, u7, u10, u11, hT2, hv2, g2, n2⟩
          refine codeW_ok (withRo_ok E0_ok) hro.ro ?_
          by_cases hlt : k < 2
          · have d2 : ((k : Int) < 2) = True := eq_true (by omega)
            obtain ⟨nw, hnw, hix, hnth⟩ : ∃ nw : Nat, nw < 18446744073709551616 ∧ aIndexAddr E0 24 (.pointer (some ⟨A.next, 0, none⟩)) (.int .i64 (k : Int)) = some (.pointer (some ⟨A.next, k, none⟩)) ∧ nth [Value.int .u64 (a : Int), Value.int .u64 (b : Int)] k = some (.int .u64 (nw : Int)) := by
              rcases Nat.lt_or_ge k 1 with h1 | h1
              · have : k = 0 := by omega
                subst this
                exact ⟨a, ha, idx24 (by omega), rfl⟩
              · have : k = 1 := by omega
                subst this
                exact ⟨b, hb, idx24 (by omega), rfl⟩
            have w1 : IntKind.i64.wrap ((k : Int) + 1) = ((k + 1 : Nat) : Int) := by rw [IntKind.wrap_i64]; omega
            simp only [w_w, z_0, flat, Option.isNone, aFieldAddr, aField, aBuiltin, cond_true, cond_false, cond_dec, if_true, if_false, List.length_cons, List.length_nil, forall_const, implies_true, List.append_nil, List.cons_append, List.nil_append, eq_self, Nat.reduceEqDiff, Nat.reduceAdd, Nat.reduceMul, Nat.reduceSub, Nat.reduceLT, Nat.reduceLeDiff, Nat.reduceBEq, reduceIte, reduceCtorEq, u5, u7, u10, u11, d2, decide_true]
            refine CallT.mono (CallT.of_call (tdueC_spec hro hT2 (by omega) rx)) ?_
            rintro rw1 F ⟨L1, P1, hL1, hP1, hm1, v2, hT3, hv3, fF⟩
            have hl1 : P1.length = L1.length := by have := congrArg List.length hm1; simpa using this
            obtain ⟨wb, wc, rfl⟩ := hP1.form
            have lenw := fun B2 => timLenO hP1 B2
            have hw2 := wrLow hown hv2
            have g3 := (fF.get A.next (by omega) (fun hm => by have := hw2 _ hm; omega)).trans g2
            have nF := fF.next
            have hv3' : ∀ b ∈ slB v2, B.next ≤ b := fun b hb => by
              rcases hv3 b hb with h3 | h3
              · exact hv2 b h3
              · omega
            simp only [w_w, z_0, flat, Option.isNone, aFieldAddr, aField, aBuiltin, cond_true, cond_false, cond_dec, if_true, if_false, List.length_cons, List.length_nil, forall_const, implies_true, List.append_nil, List.cons_append, List.nil_append, eq_self, Nat.reduceEqDiff, Nat.reduceAdd, Nat.reduceMul, Nat.reduceSub, Nat.reduceLT, Nat.reduceLeDiff, Nat.reduceBEq, reduceIte, reduceCtorEq, u5, u7, u10, u11, hix, g3, hnth]
            refine CallT.mono (CallT.of_call (tadvC_spec hT3 (by omega) hnw)) ?_
            rintro rb1 G ⟨L2, hL2, hN2, v3, hT4, hv4, fG⟩
            obtain ⟨nb, nc, rfl⟩ := NamesAt.form hN2
            have lenn := fun B2 => namesLen hN2 B2
            have hw3 := wrLow hown hv3'
            have g4 := (fG.get A.next (by omega) (fun hm => by have := hw3 _ hm; omega)).trans g3
            have nG := fG.next
            have hv4' : ∀ b ∈ slB v3, B.next ≤ b := fun b hb => by
              rcases hv4 b hb with h3 | h3
              · exact hv3' b h3
              · omega
            have hmx : max c nw < 18446744073709551616 := by omega
            have dge : (((c : Nat) : Int) ≤ ((nw : Nat) : Int)) = (c ≤ nw) := by rw [Int.ofNat_le]
            simp only [w_w, z_0, flat, Option.isNone, aFieldAddr, aField, aBuiltin, cond_true, cond_false, cond_dec, if_true, if_false, List.length_cons, List.length_nil, forall_const, implies_true, List.append_nil, List.cons_append, List.nil_append, eq_self, Nat.reduceEqDiff, Nat.reduceAdd, Nat.reduceMul, Nat.reduceSub, Nat.reduceLT, Nat.reduceLeDiff, Nat.reduceBEq, reduceIte, reduceCtorEq, u5, u7, u10, u11, hix, g4, hnth, dge]
            refine brW_join (K := fun T' A' => A' = G ∧ tget T' 5 = .pointer (some ⟨A.next, 0, none⟩) ∧ tget T' 7 = .pointer (some ⟨x, 0, none⟩) ∧ tget T' 10 = .int .u64 ((max c nw : Nat) : Int) ∧ tget T' 11 = .int .i64 ((k : Nat) : Int) ∧ tget T' 12 = .slice wb P1.length wc ∧ tget T' 13 = .slice nb L2.length nc) (fun hge => ?_) (fun hge => ?_) ?_
            · have hge : c ≤ nw := of_decide_eq_true hge
              simp only [w_w, z_0, flat, Option.isNone, aFieldAddr, aField, aBuiltin, cond_true, cond_false, cond_dec, if_true, if_false, List.length_cons, List.length_nil, forall_const, implies_true, List.append_nil, List.cons_append, List.nil_append, eq_self, Nat.reduceEqDiff, Nat.reduceAdd, Nat.reduceMul, Nat.reduceSub, Nat.reduceLT, Nat.reduceLeDiff, Nat.reduceBEq, reduceIte, reduceCtorEq, u5, u7, u10, u11, hix, g4, hnth]
              refine ⟨_, _, rfl, rfl, ?_⟩
              simp only [tget_put, Nat.reduceEqDiff, if_false, if_true, reduceIte, u5, u7, u10, u11, Nat.max_eq_right hge, and_self]
            · have hge : ¬ c ≤ nw := of_decide_eq_false hge
              have h0 := became_none hL2 (by omega)
              have d0 : ((0 : Int) < ((L2.length : Nat) : Int)) = False := eq_false (by rw [h0]; simp)
              simp only [w_w, z_0, flat, Option.isNone, aFieldAddr, aField, aBuiltin, cond_true, cond_false, cond_dec, if_true, if_false, List.length_cons, List.length_nil, forall_const, implies_true, List.append_nil, List.cons_append, List.nil_append, eq_self, Nat.reduceEqDiff, Nat.reduceAdd, Nat.reduceMul, Nat.reduceSub, Nat.reduceLT, Nat.reduceLeDiff, Nat.reduceBEq, reduceIte, reduceCtorEq, u5, u7, u10, u11, lenn, d0, decide_false]
              refine ⟨_, _, rfl, rfl, ?_⟩
              simp only [tget_put, Nat.reduceEqDiff, if_false, if_true, reduceIte, u5, u7, u10, u11, Nat.max_eq_left (show nw ≤ c by omega), and_self]
            rintro T2 _ ⟨rfl, w5, w7, w10, w11, w12, w13⟩
            clear u5 u7 u10 u11
            simp only [w_w, z_0, flat, Option.isNone, aFieldAddr, aField, aBuiltin, cond_true, cond_false, cond_dec, if_true, if_false, List.length_cons, List.length_nil, forall_const, implies_true, List.append_nil, List.cons_append, List.nil_append, eq_self, Nat.reduceEqDiff, Nat.reduceAdd, Nat.reduceMul, Nat.reduceSub, Nat.reduceLT, Nat.reduceLeDiff, Nat.reduceBEq, reduceIte, reduceCtorEq, w5, w7, w10, w11, w12, w13]
            refine CallT.mono (CallT.of_call (tdueC_spec hro hT4 (by omega) rx)) ?_
            rintro rd1 H ⟨L3, P3, hL3, hP3, hm3, v4, hT5, hv5, fH⟩
            obtain ⟨db, dc, rfl⟩ := hP3.form
            have lend := fun B2 => timLenO hP3 B2
            have hl3 : P3.length = L3.length := by have := congrArg List.length hm3; simpa using this
            have hw4 := wrLow hown hv4'
            have g5 := (fH.get A.next (by omega) (fun hm => by have := hw4 _ hm; omega)).trans g4
            have nH := fH.next
            have hv5' : ∀ b ∈ slB v4, B.next ≤ b := fun b hb => by
              rcases hv5 b hb with h3 | h3
              · exact hv4' b h3
              · omega
            simp only [w_w, z_0, flat, Option.isNone, aFieldAddr, aField, aBuiltin, cond_true, cond_false, cond_dec, if_true, if_false, List.length_cons, List.length_nil, forall_const, implies_true, List.append_nil, List.cons_append, List.nil_append, eq_self, Nat.reduceEqDiff, Nat.reduceAdd, Nat.reduceMul, Nat.reduceSub, Nat.reduceLT, Nat.reduceLeDiff, Nat.reduceBEq, reduceIte, reduceCtorEq, w5, w7, w10, w11, w12, w13]
            refine CallT.mono (CallT.of_call (tallC_spec hro hT5 (by omega))) ?_
            rintro ra1 J ⟨P4, hP4, hA4, fJ⟩
            obtain ⟨ab, ac, rfl⟩ := hP4.form
            have lena := fun B2 => timLenO hP4 B2
            have nJ := fJ.next
            have g6 := (fJ.get A.next (by omega) (by simp)).trans g5
            have hT6 : TabAt s J x m q e w v4 W all ms (max c nw) 40 D S1 := ⟨hT5.core.fr0 fJ, hT5.ok, hT5.upto⟩
            have hnm : ∀ k t, D k = some t → t.name = k := fun k t h => (hT6.ok k t h).2
            have hP3J := hP3.fr fJ (by simp)
            have hs3 := hP3J.sl (fun b hb => hnr b (by omega))
            have hs4 := hP4.sl (fun b hb => hnr b (by omega))
            have hcnt := due_count hL3 hA4 hnm
            have hsum := due_sum hL1 hL2 hL3
            have hup := listsSmall (p := fun a => decide (a ≤ max c nw)) hL3 hT6.upto
            have hP4l : P4.length ≤ 40 := by
              have h1 : (P4.map (·.1.name)).Nodup := by
                have := hA4.ord
                rw [List.map_map] at this
                exact this.imp (fun {a b} hab e1 => by subst e1; rw [blt_irr] at hab; cases hab)
              obtain ⟨ls, hl1, hl2⟩ := hT6.upto
              have := nodup_leG h1 (l := ls) (fun k hk => by
                obtain ⟨p, hp, rfl⟩ := List.mem_map.1 hk
                refine hl2 _ ?_
                rw [(hA4.mem p.1).1 (List.mem_map.2 ⟨p, hp, rfl⟩)]
                rfl)
              rw [List.length_map] at this
              omega
            simp only [w_w, z_0, flat, Option.isNone, aFieldAddr, aField, aBuiltin, cond_true, cond_false, cond_dec, if_true, if_false, List.length_cons, List.length_nil, forall_const, implies_true, List.append_nil, List.cons_append, List.nil_append, eq_self, Nat.reduceEqDiff, Nat.reduceAdd, Nat.reduceMul, Nat.reduceSub, Nat.reduceLT, Nat.reduceLeDiff, Nat.reduceBEq, reduceIte, reduceCtorEq, w5, w7, w10, w11, w12, w13]
            -- how many deadlines are not above the clock
            refine CodeW.mono (Q := fun o => ∃ T', o = .fr ⟨.exit 4, T', J⟩ ∧ tget T' 5 = .pointer (some ⟨A.next, 0, none⟩) ∧ tget T' 7 = .pointer (some ⟨x, 0, none⟩) ∧ tget T' 10 = .int .u64 ((max c nw : Nat) : Int) ∧ tget T' 11 = .int .i64 ((k : Nat) : Int) ∧ tget T' 12 = .slice wb P1.length wc ∧ tget T' 13 = .slice nb L2.length nc ∧ tget T' 14 = .slice db P3.length dc ∧ tget T' 15 = .slice ab P4.length ac ∧ tget T' 16 = .int .i64 ((L3.length : Nat) : Int)) ?_ ?_
            · refine CodeW.loopR (k := P4.length) (fun n T A' => ∃ i : Nat, n = P4.length - i ∧ i ≤ P4.length ∧ tget T 5 = .pointer (some ⟨A.next, 0, none⟩) ∧ tget T 7 = .pointer (some ⟨x, 0, none⟩) ∧ tget T 10 = .int .u64 ((max c nw : Nat) : Int) ∧ tget T 11 = .int .i64 ((k : Nat) : Int) ∧ tget T 12 = .slice wb P1.length wc ∧ tget T 13 = .slice nb L2.length nc ∧ tget T 14 = .slice db P3.length dc ∧ tget T 15 = .slice ab P4.length ac ∧ tget T 17 = .int .i64 (i : Int) ∧ tget T 16 = .int .i64 (((((P4.map (·.1)).take i).filter fun t => decide (t.at_ ≤ max c nw)).length : Nat) : Int) ∧ A' = J) ?_ ⟨0, rfl, by omega, ?_, ?_, ?_, ?_, ?_, ?_, ?_, ?_, ?_, ?_, rfl⟩
              · rintro n3 T3 _ ⟨i, rfl, hi, w5, w7, w10, w11, w12, w13, w14, w15, w17, w16, rfl⟩
                refine codeW_ok (withRo_ok E0_ok) hro.ro ?_
                have wi : IntKind.i64.wrap ((i : Int) + 1) = ((i + 1 : Nat) : Int) := by rw [IntKind.wrap_i64]; omega
                by_cases hlt2 : i < P4.length
                · have d3 : ((i : Int) < (P4.length : Int)) = True := eq_true (by omega)
                  obtain ⟨p, hp⟩ : ∃ p, P4[i]? = some p := ⟨_, List.getElem?_eq_getElem hlt2⟩
                  obtain ⟨b1, o1, c1, hx1, hc1, _, _, hn2, _⟩ := timIx hs4 hp
                  have hpm : (P4.map (·.1))[i]? = some p.1 := by rw [List.getElem?_map, hp]; rfl
                  have htk := take_snoc hpm
                  have dle : ((p.1.at_ : Int) ≤ ((max c nw : Nat) : Int)) = (p.1.at_ ≤ max c nw) := by rw [Int.ofNat_le]
                  have hcl : (((P4.map (·.1)).take i).filter fun t => decide (t.at_ ≤ max c nw)).length ≤ 40 := by
                    have h1 := List.length_filter_le (fun t : TimD => decide (t.at_ ≤ max c nw)) ((P4.map (·.1)).take i)
                    have h2 : ((P4.map (·.1)).take i).length ≤ P4.length := by rw [List.length_take, List.length_map]; omega
                    omega
                  have wc2 : IntKind.i64.wrap (((((P4.map (·.1)).take i).filter fun t => decide (t.at_ ≤ max c nw)).length : Int) + 1) = (((((P4.map (·.1)).take i).filter fun t => decide (t.at_ ≤ max c nw)).length + 1 : Nat) : Int) := by rw [IntKind.wrap_i64]; omega
                  by_cases hle : p.1.at_ ≤ max c nw
                  · have dl := eq_true hle
                    simp only [w_w, z_0, flat, Option.isNone, aFieldAddr, aField, aBuiltin, cond_true, cond_false, cond_dec, if_true, if_false, List.length_cons, List.length_nil, forall_const, implies_true, List.append_nil, List.cons_append, List.nil_append, eq_self, Nat.reduceEqDiff, Nat.reduceAdd, Nat.reduceMul, Nat.reduceSub, Nat.reduceLT, Nat.reduceLeDiff, Nat.reduceBEq, reduceIte, reduceCtorEq, w5, w7, w10, w11, w12, w13, w14, w15, w16, w17, lena, d3, decide_true, hx1, hc1, hn2, dle, dl, wi, wc2]
                    refine ⟨P4.length - (i + 1), by omega, i + 1, rfl, by omega, rfl, ?_⟩
                    rw [htk, List.filter_append, List.length_append]
                    simp only [List.filter_cons, List.filter_nil, decide_eq_true hle, if_true, List.length_cons, List.length_nil]
                  · have dl := eq_false hle
                    simp only [w_w, z_0, flat, Option.isNone, aFieldAddr, aField, aBuiltin, cond_true, cond_false, cond_dec, if_true, if_false, List.length_cons, List.length_nil, forall_const, implies_true, List.append_nil, List.cons_append, List.nil_append, eq_self, Nat.reduceEqDiff, Nat.reduceAdd, Nat.reduceMul, Nat.reduceSub, Nat.reduceLT, Nat.reduceLeDiff, Nat.reduceBEq, reduceIte, reduceCtorEq, w5, w7, w10, w11, w12, w13, w14, w15, w16, w17, lena, d3, decide_true, decide_false, hx1, hc1, hn2, dle, dl, wi]
                    refine ⟨P4.length - (i + 1), by omega, i + 1, rfl, by omega, rfl, ?_⟩
                    rw [htk, List.filter_append, List.length_append]
                    simp [hle]
                · have e1 : i = P4.length := by omega
                  subst e1
                  have d3 : ((P4.length : Int) < (P4.length : Int)) = False := eq_false (by omega)
                  simp only [w_w, z_0, flat, Option.isNone, aFieldAddr, aField, aBuiltin, cond_true, cond_false, cond_dec, if_true, if_false, List.length_cons, List.length_nil, forall_const, implies_true, List.append_nil, List.cons_append, List.nil_append, eq_self, Nat.reduceEqDiff, Nat.reduceAdd, Nat.reduceMul, Nat.reduceSub, Nat.reduceLT, Nat.reduceLeDiff, Nat.reduceBEq, reduceIte, reduceCtorEq, w5, w7, w10, w11, w12, w13, w14, w15, w17, lena, d3, decide_false]
                  refine ⟨_, rfl, ?_⟩
                  rw [List.take_of_length_le (by rw [List.length_map]; exact Nat.le_refl _)] at w16
                  rw [hcnt]
                  simp only [tget_put, Nat.reduceEqDiff, if_false, if_true, reduceIte, w5, w7, w10, w11, w12, w13, w14, w15, w16, and_self]
              all_goals first | rfl | (simp only [tget_put, Nat.reduceEqDiff, if_false, if_true, reduceIte, w5, w7, w10, w11, w12, w13]; done) | (simp only [tget_put, Nat.reduceEqDiff, if_false, if_true, reduceIte]; rfl)
            clear w5 w7 w10 w11 w12 w13
            rintro o ⟨T3, rfl, w5, w7, w10, w11, w12, w13, w14, w15, w16⟩
            have e3 : (((P3.length : Nat) : Int) ≠ ((L3.length : Nat) : Int)) = False := eq_false (by rw [hl3]; simp)
            have wsum : IntKind.i64.wrap (((P1.length : Nat) : Int) + ((L2.length : Nat) : Int)) = ((L3.length : Nat) : Int) := by rw [IntKind.wrap_i64]; omega
            have e4 : (((L3.length : Nat) : Int) ≠ ((L3.length : Nat) : Int)) = False := eq_false (by simp)
            have e5 : (((max c nw : Nat) : Int) ≠ ((max c nw : Nat) : Int)) = False := eq_false (by simp)
            simp only [w_w, z_0, flat, Option.isNone, aFieldAddr, aField, aBuiltin, cond_true, cond_false, cond_dec, if_true, if_false, List.length_cons, List.length_nil, forall_const, implies_true, List.append_nil, List.cons_append, List.nil_append, eq_self, Nat.reduceEqDiff, Nat.reduceAdd, Nat.reduceMul, Nat.reduceSub, Nat.reduceLT, Nat.reduceLeDiff, Nat.reduceBEq, reduceIte, reduceCtorEq, w5, w7, w10, w11, w12, w13, w14, w15, w16, lend, lenw, lenn, e3, e4, wsum, decide_false]
            refine CallT.mono (CallT.of_call (tclockC_spec hT6.core)) ?_
            rintro _ _ ⟨rfl, rfl⟩
            simp only [w_w, z_0, flat, Option.isNone, aFieldAddr, aField, aBuiltin, cond_true, cond_false, cond_dec, if_true, if_false, List.length_cons, List.length_nil, forall_const, implies_true, List.append_nil, List.cons_append, List.nil_append, eq_self, Nat.reduceEqDiff, Nat.reduceAdd, Nat.reduceMul, Nat.reduceSub, Nat.reduceLT, Nat.reduceLeDiff, Nat.reduceBEq, reduceIte, reduceCtorEq, w5, w7, w10, w11, w12, w13, w14, w15, w16, e5, decide_false]
            -- they stand in order
            refine CodeW.mono (Q := fun o => ∃ T' A', o = .fr ⟨.exit 6, T', A'⟩ ∧ Fr [] J A' ∧ tget T' 5 = .pointer (some ⟨A.next, 0, none⟩) ∧ tget T' 7 = .pointer (some ⟨x, 0, none⟩) ∧ tget T' 10 = .int .u64 ((max c nw : Nat) : Int) ∧ tget T' 11 = .int .i64 ((k : Nat) : Int) ∧ tget T' 13 = .slice nb L2.length nc) ?_ ?_
            · refine CodeW.loopR (k := L3.length) (fun n T A' => ∃ i : Nat, n = L3.length - i ∧ i ≤ L3.length ∧ tget T 5 = .pointer (some ⟨A.next, 0, none⟩) ∧ tget T 7 = .pointer (some ⟨x, 0, none⟩) ∧ tget T 10 = .int .u64 ((max c nw : Nat) : Int) ∧ tget T 11 = .int .i64 ((k : Nat) : Int) ∧ tget T 13 = .slice nb L2.length nc ∧ tget T 14 = .slice db P3.length dc ∧ tget T 16 = .int .i64 ((L3.length : Nat) : Int) ∧ tget T 18 = .int .i64 (i : Int) ∧ Fr [] J A') ?_ ⟨0, rfl, by omega, ?_, ?_, ?_, ?_, ?_, ?_, ?_, ?_, .refl _ _⟩
              · rintro n3 T4 J1 ⟨i, rfl, hi, w5, w7, w10, w11, w13, w14, w16, w18, fJ1⟩
                refine codeW_ok (withRo_ok E0_ok) hro.ro ?_
                have wi : IntKind.i64.wrap ((i : Int) + 1) = ((i + 1 : Nat) : Int) := by rw [IntKind.wrap_i64]; omega
                by_cases hlt2 : i < L3.length
                · have d3 : ((i : Int) < ((L3.length : Nat) : Int)) = True := eq_true (by omega)
                  obtain ⟨p, hp⟩ : ∃ p, P3[i]? = some p := ⟨_, List.getElem?_eq_getElem (by omega)⟩
                  obtain ⟨b1, o1, c1, hx1, hc1, _, hn0, hn2, hsb1⟩ := timIx (hs3.fr fJ1 (by simp)) hp
                  have hdue := due_at hL3 hm3 hnm hp
                  have dgt : (((max c nw : Nat) : Int) < (p.1.at_ : Int)) = False := eq_false (by have := hdue.2; omega)
                  have vd := hP3J.own.ve
                  have rb1 : (withRo E0 s).ro b1 = none := hnr b1 (by omega)
                  simp only [w_w, z_0, flat, Option.isNone, aFieldAddr, aField, aBuiltin, cond_true, cond_false, cond_dec, if_true, if_false, List.length_cons, List.length_nil, forall_const, implies_true, List.append_nil, List.cons_append, List.nil_append, eq_self, Nat.reduceEqDiff, Nat.reduceAdd, Nat.reduceMul, Nat.reduceSub, Nat.reduceLT, Nat.reduceLeDiff, Nat.reduceBEq, reduceIte, reduceCtorEq, w5, w7, w10, w11, w13, w14, w16, w18, d3, decide_true]
                  refine CodeW.quiet (withRo_ok E0_ok) hro.ro mixed (by kernel_rfl) (by kernel_rfl) ?_
                  by_cases i0 : i = 0
                  · subst i0
                    have d0 : ((0 : Int) < (0 : Int)) = False := eq_false (by omega)
                    have w18 : tget T4 18 = .int .i64 0 := w18
                    have wi : IntKind.i64.wrap (0 + 1) = 1 := by kernel_rfl
                    have hx1 : aIndexAddr E0 23 (.slice db P3.length dc) (.int .i64 0) = some (.pointer (some ⟨b1, o1, none⟩)) := hx1 .i64
                    simp only [w_w, z_0, flat, Option.isNone, aFieldAddr, aField, aBuiltin, cond_true, cond_false, cond_dec, if_true, if_false, List.length_cons, List.length_nil, forall_const, implies_true, List.append_nil, List.cons_append, List.nil_append, eq_self, Nat.reduceEqDiff, Nat.reduceAdd, Nat.reduceMul, Nat.reduceSub, Nat.reduceLT, Nat.reduceLeDiff, Nat.reduceBEq, reduceIte, reduceCtorEq, quietW_nil, quietW_arr, quietW_cons, aStill, freshOp, quietOp, E0_ron, get_empty, get_next, ofVal_none, valEq_int, valEq_str, valEq_bool, valEq_map, valEq_ptr, valEq_slice, valEq_nilSlice, valEq_mapNil, List.length_cons, List.length_nil, w5, w7, w10, w11, w13, w14, w16, w18, vd, rb1, hx1, hc1, hn2, dgt, decide_false, d0, undef, wi]
                    exact ⟨L3.length - 1, by omega, 1, rfl, by omega, rfl, fJ1.trans (Fr.bump (by omega))⟩
                  · have d0 : ((0 : Int) < (i : Int)) = True := eq_true (by omega)
                    have wm : IntKind.i64.wrap ((i : Int) - 1) = ((i - 1 : Nat) : Int) := by rw [IntKind.wrap_i64]; omega
                    obtain ⟨q', hq⟩ : ∃ q', P3[i - 1]? = some q' := ⟨_, List.getElem?_eq_getElem (by omega)⟩
                    obtain ⟨b2, o2, c2, hx2, hc2, _, hm0, hm2, hsb2⟩ := timIx (hs3.fr fJ1 (by simp)) hq
                    have rb2 : (withRo E0 s).ro b2 = none := hnr b2 (by omega)
                    have hord := due_ord (i := i - 1) hL3 hm3 hnm hq (by rw [Nat.sub_add_cancel (by omega)]; exact hp)
                    have dlt : ((p.1.at_ : Int) < (q'.1.at_ : Int)) = False := eq_false (by omega)
                    by_cases heq : p.1.at_ = q'.1.at_
                    · have deq : ((p.1.at_ : Int) = (q'.1.at_ : Int)) = True := eq_true (by omega)
                      have hbl : blt q'.1.name p.1.name = true := by
                        rcases hord with h1 | h1
                        · omega
                        · exact h1.2
                      simp only [w_w, z_0, flat, Option.isNone, aFieldAddr, aField, aBuiltin, cond_true, cond_false, cond_dec, if_true, if_false, List.length_cons, List.length_nil, forall_const, implies_true, List.append_nil, List.cons_append, List.nil_append, eq_self, Nat.reduceEqDiff, Nat.reduceAdd, Nat.reduceMul, Nat.reduceSub, Nat.reduceLT, Nat.reduceLeDiff, Nat.reduceBEq, reduceIte, reduceCtorEq, quietW_nil, quietW_arr, quietW_cons, aStill, freshOp, quietOp, E0_ron, get_empty, get_next, ofVal_none, valEq_int, valEq_str, valEq_bool, valEq_map, valEq_ptr, valEq_slice, valEq_nilSlice, valEq_mapNil, List.length_cons, List.length_nil, w5, w7, w10, w11, w13, w14, w16, w18, vd, rb1, rb2, hx1, hc1, hn0, hn2, hx2, hc2, hm0, hm2, dgt, decide_false, d0, wm, dlt, deq, s_leq, hbl, Bool.not_true, undef, wi]
                      exact ⟨L3.length - (i + 1), by omega, i + 1, rfl, by omega, rfl, fJ1.trans (Fr.bump (by omega))⟩
                    · have deq : ((p.1.at_ : Int) = (q'.1.at_ : Int)) = False := eq_false (by omega)
                      simp only [w_w, z_0, flat, Option.isNone, aFieldAddr, aField, aBuiltin, cond_true, cond_false, cond_dec, if_true, if_false, List.length_cons, List.length_nil, forall_const, implies_true, List.append_nil, List.cons_append, List.nil_append, eq_self, Nat.reduceEqDiff, Nat.reduceAdd, Nat.reduceMul, Nat.reduceSub, Nat.reduceLT, Nat.reduceLeDiff, Nat.reduceBEq, reduceIte, reduceCtorEq, quietW_nil, quietW_arr, quietW_cons, aStill, freshOp, quietOp, E0_ron, get_empty, get_next, ofVal_none, valEq_int, valEq_str, valEq_bool, valEq_map, valEq_ptr, valEq_slice, valEq_nilSlice, valEq_mapNil, List.length_cons, List.length_nil, w5, w7, w10, w11, w13, w14, w16, w18, vd, rb1, rb2, hx1, hc1, hn0, hn2, hx2, hc2, hm0, hm2, dgt, decide_false, d0, wm, dlt, deq, undef, wi]
                      exact ⟨L3.length - (i + 1), by omega, i + 1, rfl, by omega, rfl, fJ1.trans (Fr.bump (by omega))⟩
                · have e1 : i = L3.length := by omega
                  subst e1
                  have d3 : (((L3.length : Nat) : Int) < ((L3.length : Nat) : Int)) = False := eq_false (by omega)
                  simp only [w_w, z_0, flat, Option.isNone, aFieldAddr, aField, aBuiltin, cond_true, cond_false, cond_dec, if_true, if_false, List.length_cons, List.length_nil, forall_const, implies_true, List.append_nil, List.cons_append, List.nil_append, eq_self, Nat.reduceEqDiff, Nat.reduceAdd, Nat.reduceMul, Nat.reduceSub, Nat.reduceLT, Nat.reduceLeDiff, Nat.reduceBEq, reduceIte, reduceCtorEq, w5, w7, w10, w11, w13, w16, w18, d3, decide_false]
                  refine ⟨_, _, rfl, fJ1, ?_⟩
                  simp only [tget_put, Nat.reduceEqDiff, if_false, if_true, reduceIte, w5, w7, w10, w11, w13, and_self]
              all_goals first | rfl | (simp only [tget_put, Nat.reduceEqDiff, if_false, if_true, reduceIte, w5, w7, w10, w11, w13, w14, w16]; done) | (simp only [tget_put, Nat.reduceEqDiff, if_false, if_true, reduceIte]; rfl)
            clear w5 w7 w10 w11 w13 w14 w15 w12 w16
            rintro o ⟨T4, J2, rfl, fJ2, w5, w7, w10, w11, w13⟩
            simp only [w_w, z_0, flat, Option.isNone, aFieldAddr, aField, aBuiltin, cond_true, cond_false, cond_dec, if_true, if_false, List.length_cons, List.length_nil, forall_const, implies_true, List.append_nil, List.cons_append, List.nil_append, eq_self, Nat.reduceEqDiff, Nat.reduceAdd, Nat.reduceMul, Nat.reduceSub, Nat.reduceLT, Nat.reduceLeDiff, Nat.reduceBEq, reduceIte, reduceCtorEq, w5, w7, w10, w11, w13]
            -- what became due is there
            have hN2H : NamesAt H F.next (.slice nb L2.length nc) L2 := hN2.fr fH (fun b hb hm => by
              have h3 := (hN2.low b hb)
              simp only [wrT, List.mem_cons, List.mem_append] at hm
              have hlt4 := hT4.core.lts
              rcases hm with hm | hm | hm | hm | hm
              · have := hT3.core.lts; omega
              · have := hT3.core.lts; omega
              · have := hT3.core.lts; omega
              · obtain ⟨lq, hql, _⟩ := hT4.core.hq
                exact names_ne hN2 hql.ea.hs b hb hm
              · have := hT3.core.hW.below b (by simpa using hm); omega)
            have hN2J : NamesAt J2 F.next (.slice nb L2.length nc) L2 := (hN2H.fr fJ (by simp)).fr fJ2 (by simp)
            have nJ2 := fJ2.next
            refine CodeW.mono (Q := fun o => ∃ T' A', o = .fr ⟨.exit 8, T', A'⟩ ∧ Fr [] J2 A' ∧ tget T' 5 = .pointer (some ⟨A.next, 0, none⟩) ∧ tget T' 7 = .pointer (some ⟨x, 0, none⟩) ∧ tget T' 10 = .int .u64 ((max c nw : Nat) : Int) ∧ tget T' 11 = .int .i64 ((k : Nat) : Int) ∧ tget T' 13 = .slice nb L2.length nc) ?_ ?_
            · refine CodeW.loopR (k := L2.length) (fun n T A' => ∃ i : Nat, n = L2.length - i ∧ i ≤ L2.length ∧ tget T 5 = .pointer (some ⟨A.next, 0, none⟩) ∧ tget T 7 = .pointer (some ⟨x, 0, none⟩) ∧ tget T 10 = .int .u64 ((max c nw : Nat) : Int) ∧ tget T 11 = .int .i64 ((k : Nat) : Int) ∧ tget T 13 = .slice nb L2.length nc ∧ tget T 19 = .int .i64 (i : Int) ∧ Fr [] J2 A') ?_ ⟨0, rfl, by omega, ?_, ?_, ?_, ?_, ?_, ?_, .refl _ _⟩
              · rintro n3 T5 K0 ⟨i, rfl, hi, w5, w7, w10, w11, w13, w19, fK⟩
                refine codeW_ok (withRo_ok E0_ok) hro.ro ?_
                have wi : IntKind.i64.wrap ((i : Int) + 1) = ((i + 1 : Nat) : Int) := by
                  have := listsSmall hL2 hT6.upto
                  rw [IntKind.wrap_i64]; omega
                by_cases hlt2 : i < L2.length
                · have d3 : ((i : Int) < ((L2.length : Nat) : Int)) = True := eq_true (by omega)
                  obtain ⟨y, hy⟩ : ∃ y, L2[i]? = some y := ⟨_, List.getElem?_eq_getElem hlt2⟩
                  have hN2K := hN2J.fr fK (by simp)
                  obtain ⟨bn, cap, tl, en, hbn⟩ : ∃ bn cap tl, (.slice nb L2.length nc : Value) = .slice (some ⟨bn, 0, none⟩) L2.length cap ∧ K0.get bn = some (.row (strs L2) 1 tl) := by
                    rcases hN2K with ⟨h0, _⟩ | ⟨b, cap, tl, h1, h2, _⟩
                    · omega
                    · exact ⟨b, cap, tl, h1, h2⟩
                  cases en
                  have hyL := (hL2.mem y.1 y.2).1 (List.mem_of_getElem? hy)
                  rw [Option.filter_eq_some_iff] at hyL
                  simp only [Bool.and_eq_true, decide_eq_true_eq] at hyL
                  obtain ⟨t, htD⟩ : ∃ t, D y.1 = some t := by
                    have := hyL.1
                    unfold TD.at_ at this
                    cases hD2 : D y.1 with
                    | none => rw [hD2] at this; cases this
                    | some t => exact ⟨t, rfl⟩
                  have hta : t.at_ = y.2 := by
                    have := hyL.1
                    unfold TD.at_ at this
                    rw [htD] at this
                    exact Option.some.inj this
                  have hTK : TabAt s K0 x m q e w v4 W all ms (max c nw) 40 D S1 := ⟨(hT6.core.fr0 fJ2).fr0 fK, hT6.ok, hT6.upto⟩
                  simp only [w_w, z_0, flat, Option.isNone, aFieldAddr, aField, aBuiltin, cond_true, cond_false, cond_dec, if_true, if_false, List.length_cons, List.length_nil, forall_const, implies_true, List.append_nil, List.cons_append, List.nil_append, eq_self, Nat.reduceEqDiff, Nat.reduceAdd, Nat.reduceMul, Nat.reduceSub, Nat.reduceLT, Nat.reduceLeDiff, Nat.reduceBEq, reduceIte, reduceCtorEq, w5, w7, w10, w11, w13, w19, lenn, d3, decide_true, ix34 hlt2, hbn, strs_nth hy]
                  refine CallT.mono (CallT.of_call (tgetC_spec (k := y.1) hro hTK)) ?_
                  rintro _ K1 ⟨du, rfl, hdu, fK1⟩
                  rw [htD] at hdu ⊢
                  simp only [Option.getD_some] at hdu
                  obtain ⟨K2, hst, fK2, gK2, nK2⟩ := newTim (A := K1) (t := t) hdu.single
                  have dgt : (((max c nw : Nat) : Int) < (t.at_ : Int)) = False := eq_false (by omega)
                  simp only [w_w, z_0, flat, Option.isNone, aFieldAddr, aField, aBuiltin, cond_true, cond_false, cond_dec, if_true, if_false, List.length_cons, List.length_nil, forall_const, implies_true, List.append_nil, List.cons_append, List.nil_append, eq_self, Nat.reduceEqDiff, Nat.reduceAdd, Nat.reduceMul, Nat.reduceSub, Nat.reduceLT, Nat.reduceLeDiff, Nat.reduceBEq, reduceIte, reduceCtorEq, Option.getD_some, Option.isSome_some, al25, ptrTo]
                  rw [hst]
                  clear hst
                  simp only [w_w, z_0, flat, Option.isNone, aFieldAddr, aField, aBuiltin, cond_true, cond_false, cond_dec, if_true, if_false, List.length_cons, List.length_nil, forall_const, implies_true, List.append_nil, List.cons_append, List.nil_append, eq_self, Nat.reduceEqDiff, Nat.reduceAdd, Nat.reduceMul, Nat.reduceSub, Nat.reduceLT, Nat.reduceLeDiff, Nat.reduceBEq, reduceIte, reduceCtorEq, w5, w7, w10, w11, w13, w19, un_not, Bool.not_true, gK2, dgt, decide_false, wi]
                  exact ⟨L2.length - (i + 1), by omega, i + 1, rfl, by omega, rfl, fK.trans (fK1.trans fK2)⟩
                · have d3 : ((i : Int) < ((L2.length : Nat) : Int)) = False := eq_false (by omega)
                  simp only [w_w, z_0, flat, Option.isNone, aFieldAddr, aField, aBuiltin, cond_true, cond_false, cond_dec, if_true, if_false, List.length_cons, List.length_nil, forall_const, implies_true, List.append_nil, List.cons_append, List.nil_append, eq_self, Nat.reduceEqDiff, Nat.reduceAdd, Nat.reduceMul, Nat.reduceSub, Nat.reduceLT, Nat.reduceLeDiff, Nat.reduceBEq, reduceIte, reduceCtorEq, w5, w7, w10, w11, w13, w19, lenn, d3, decide_false]
                  refine ⟨_, _, rfl, fK, ?_⟩
                  simp only [tget_put, Nat.reduceEqDiff, if_false, if_true, reduceIte, w5, w7, w10, w11, w13, and_self]
              all_goals first | rfl | (simp only [tget_put, Nat.reduceEqDiff, if_false, if_true, reduceIte, w5, w7, w10, w11, w13]; done) | (simp only [tget_put, Nat.reduceEqDiff, if_false, if_true, reduceIte]; rfl)
            clear w5 w7 w10 w11 w13
            rintro o ⟨T5, K0, rfl, fK, w5, w7, w10, w11, w13⟩
            simp only [w_w, z_0, flat, Option.isNone, aFieldAddr, aField, aBuiltin, cond_true, cond_false, cond_dec, if_true, if_false, List.length_cons, List.length_nil, forall_const, implies_true, List.append_nil, List.cons_append, List.nil_append, eq_self, Nat.reduceEqDiff, Nat.reduceAdd, Nat.reduceMul, Nat.reduceSub, Nat.reduceLT, Nat.reduceLeDiff, Nat.reduceBEq, reduceIte, reduceCtorEq, w5, w7, w10, w11, w13, w1]
            have nK := fK.next
            exact ⟨2 - (k + 1), by omega, k + 1, max c nw, v4, S1, rfl, by omega, hmx, rfl, rfl, ⟨(hT6.core.fr0 fJ2).fr0 fK, hT6.ok, hT6.upto⟩, hv5', (fK.get A.next (by omega) (by simp)).trans ((fJ2.get A.next (by omega) (by simp)).trans g6), by omega⟩
          · have d2 : ((k : Int) < 2) = False := eq_false (by omega)
            simp only [w_w, z_0, flat, Option.isNone, aFieldAddr, aField, aBuiltin, cond_true, cond_false, cond_dec, if_true, if_false, List.length_cons, List.length_nil, forall_const, implies_true, List.append_nil, List.cons_append, List.nil_append, eq_self, Nat.reduceEqDiff, Nat.reduceAdd, Nat.reduceMul, Nat.reduceSub, Nat.reduceLT, Nat.reduceLeDiff, Nat.reduceBEq, reduceIte, reduceCtorEq, u5, u7, u10, u11, d2, decide_false]
            exact ⟨_, _, rfl⟩
        all_goals first | rfl | (simp only [tget_put, Nat.reduceEqDiff, if_false, if_true, reduceIte, u0, u5, u7]; done) | (simp only [tget_put, Nat.reduceEqDiff, if_false, if_true, reduceIte]; rfl)
      · rintro o ⟨T', A', rfl⟩
        simp only [w_w, z_0, flat, Option.isNone, aFieldAddr, aField, aBuiltin, cond_true, cond_false, cond_dec, if_true, if_false, List.length_cons, List.length_nil, forall_const, implies_true, List.append_nil, List.cons_append, List.nil_append, eq_self, Nat.reduceEqDiff, Nat.reduceAdd, Nat.reduceMul, Nat.reduceSub, Nat.reduceLT, Nat.reduceLeDiff, Nat.reduceBEq, reduceIte, reduceCtorEq]
        refine CallT.mono (CallT.of_call alive_spec) ?_
        rintro _ _ ⟨rfl, rfl⟩
        simp only [w_w, z_0, flat, Option.isNone, aFieldAddr, aField, aBuiltin, cond_true, cond_false, cond_dec, if_true, if_false, List.length_cons, List.length_nil, forall_const, implies_true, List.append_nil, List.cons_append, List.nil_append, eq_self, Nat.reduceEqDiff, Nat.reduceAdd, Nat.reduceMul, Nat.reduceSub, Nat.reduceLT, Nat.reduceLeDiff, Nat.reduceBEq, reduceIte, reduceCtorEq]
end Go.Proofs.YtgcffmhpjphefaaGreatDoor

/- What a law's arguments hold: a slice of timers with their steps. -/
namespace Go.Proofs.YtgcffmhpjphefaaGreatDoor
open Go Go.AE Go.ChangeShapes Go.WideShapes Go.ChangeAt Go.RowKit Go.Joins Go.Deep
set_option maxRecDepth 100000
/-- What a slice of steps is to the walk, wherever an empty one lies. -/
def StepsZ (W : World) (v : Value) (l : List StepD) : Prop := StepsAt W v l ∨ (l = [] ∧ ∃ a c, v = .slice (some a) 0 c)
def TimD.wide (t : TimD) : Prop := (∀ y ∈ t.steps, y.ok) ∧ t.at_ < 18446744073709551616 ∧ t.every < 18446744073709551616
section
variable {H : Type} {enc : TypeId × Value → H} {w : World} {base : Nat} {spare : Nat → Bool} {held : Bool}
theorem open_stepsZ {fuel : Nat} {v : Value} {x : DataW H × List MemPlace} (h : DataW.trod enc Tryz.prog w base spare held fuel 28 [v] = some x) : ∃ l, StepsZ w v l ∧ ∀ y ∈ l, y.ok := by
  rcases open_slice Tryz.underlying28 h with ⟨h0, _⟩ | ⟨a, len, cap, m, n, D, Pl, h0, _, hl, hcap, hm, _, hx⟩
  · cases h0; exact ⟨[], .inl (.inl ⟨rfl, rfl⟩), by simp⟩
  · cases h0
    by_cases h0 : len = 0
    · subst h0
      exact ⟨[], .inr ⟨rfl, a, cap, rfl⟩, by simp⟩
    · have hlm : len ≤ m := by rw [hm]; split <;> omega
      have hc : Tryz.prog.cellsOf 56 = 4 := by kernel_rfl
      obtain ⟨cs', h1, _⟩ := hx 0 (by omega)
      rw [hc] at h1
      obtain ⟨_, hlen, hcell⟩ := World.cells?_some h1
      have h2 := hcell 0 (by omega)
      obtain ⟨v0, hv0⟩ : ∃ v0, cs'[0]? = some v0 := ⟨_, List.getElem?_eq_getElem (by omega)⟩
      rw [hv0] at h2
      have hsp : a.spot = none := by simpa [Addr.add] using World.cell?_spot h2
      obtain ⟨l, h3, h4⟩ := open_steps h (fun a' len' cap' e => by cases e; exact hsp)
      exact ⟨l, .inl h3, h4⟩
/-- A timer's cells. -/
theorem open_timerZ {fuel : Nat} {cs : List Value} {x : DataW H × List MemPlace} (hlen : cs.length = 5) (hf : DataW.trod enc Tryz.prog w base spare held fuel 30 cs = some x) : ∃ (t : TimD) (dv : Value), cs = tcell t dv ∧ StepsZ w dv t.steps ∧ t.wide := by
  match cs, hlen with
  | [c0, c1, c2, c3, c4], _ =>
    obtain ⟨d, p⟩ := x
    obtain ⟨xs, n, _, _, _, hxl, hg⟩ := Go.DataW.trod_struct Tryz.underlying30 hf
    have k9 : Tryz.prog.cellsOf 9 = 1 := by kernel_rfl
    have k3 : Tryz.prog.cellsOf 3 = 1 := by kernel_rfl
    have k22 : Tryz.prog.cellsOf 22 = 1 := by kernel_rfl
    have k23 : Tryz.prog.cellsOf 28 = 1 := by kernel_rfl
    match xs, hxl with
    | [x0, x1, x2, x3, x4], _ =>
    have g0 : DataW.trod enc Tryz.prog w base spare held n 9 (([c0, c1, c2, c3, c4].drop 0).take (Tryz.prog.cellsOf 9)) = some x0 := hg 0 _ rfl
    have g1 : DataW.trod enc Tryz.prog w base spare held n 3 (([c0, c1, c2, c3, c4].drop 1).take (Tryz.prog.cellsOf 3)) = some x1 := hg 1 _ rfl
    have g2 : DataW.trod enc Tryz.prog w base spare held n 22 (([c0, c1, c2, c3, c4].drop 2).take (Tryz.prog.cellsOf 22)) = some x2 := hg 2 _ rfl
    have g3 : DataW.trod enc Tryz.prog w base spare held n 22 (([c0, c1, c2, c3, c4].drop 3).take (Tryz.prog.cellsOf 22)) = some x3 := hg 3 _ rfl
    have g4 : DataW.trod enc Tryz.prog w base spare held n 28 (([c0, c1, c2, c3, c4].drop 4).take (Tryz.prog.cellsOf 28)) = some x4 := hg 4 _ rfl
    rw [k9] at g0
    rw [k3] at g1
    rw [k22] at g2 g3
    rw [k23] at g4
    obtain ⟨s, e0, _⟩ := Go.DataW.trod_string Tryz.underlying9 g0
    obtain ⟨ver, e1, _, l1⟩ := DataW.trod_int Tryz.underlying3 g1
    obtain ⟨at_, e2, l2⟩ := trod_u64 g2
    obtain ⟨ev, e3, l3⟩ := trod_u64 g3
    cases e0; cases e1; cases e2; cases e3
    obtain ⟨steps, hst, hok⟩ := open_stepsZ g4
    exact ⟨⟨s, ver, at_, ev, steps⟩, c4, rfl, hst, hok, l2, l3⟩
instance : Inhabited TimD := ⟨zTimD⟩
/-- What a slice of timers is to the walk. -/
def TimersAt (W : World) (v : Value) (P : List (TimD × Value)) : Prop :=
  (P = [] ∧ v = .slice none 0 0) ∨ ∃ b o cap, v = .slice (some ⟨b, o, none⟩) P.length cap ∧ cap ≠ unk ∧ ∀ i p, P[i]? = some p → ∀ r c, (tcell p.1 p.2)[r]? = some c → W.cell? ⟨b, o + (i * 5 + r), none⟩ = some c
theorem open_timers {fuel : Nat} {v : Value} {x : DataW H × List MemPlace} (h : DataW.trod enc Tryz.prog w base spare held fuel 23 [v] = some x) (hs : ∀ a len cap, v = .slice (some a) len cap → a.spot = none) :
    ∃ P, TimersAt w v P ∧ ∀ p ∈ P, StepsZ w p.2 p.1.steps ∧ p.1.wide := by
  rcases open_slice Tryz.underlying23 h with ⟨h0, _⟩ | ⟨a, len, cap, m, n, D, Pl, h0, _, hl, hcap, hm, _, hx⟩
  · cases h0; exact ⟨[], .inl ⟨rfl, rfl⟩, by simp⟩
  have hc : Tryz.prog.cellsOf 30 = 5 := by kernel_rfl
  rw [hc] at hx
  have hlm : len ≤ m := by rw [hm]; split <;> omega
  have each : ∀ i, i < len → ∃ p : TimD × Value, (StepsZ w p.2 p.1.steps ∧ p.1.wide) ∧ ∀ r v, (tcell p.1 p.2)[r]? = some v → w.cell? (a.add (i * 5 + r)) = some v := by
    intro i hi
    obtain ⟨cs', h1, h2⟩ := hx i (by omega)
    obtain ⟨_, hlen, hcell⟩ := World.cells?_some h1
    obtain ⟨t, dv, rfl, h3, h4⟩ := open_timerZ hlen h2
    refine ⟨(t, dv), ⟨h3, h4⟩, fun r v hr => ?_⟩
    have hr5 : r < 5 := by
      by_cases hlt : r < 5
      · exact hlt
      · rw [List.getElem?_eq_none (by show 5 ≤ r; omega)] at hr
        cases hr
    have := hcell r hr5
    rw [add_add] at this
    rw [this]
    exact hr
  obtain ⟨f, hf⟩ := choose_ltS each
  cases h0
  have hsp := hs a len cap rfl
  obtain ⟨b, o, sp⟩ := a
  simp only at hsp
  subst hsp
  refine ⟨(List.range len).map f, .inr ⟨b, o, cap, by simp, cap_unk hcap, fun i y hy r c hr => ?_⟩, fun y hy => ?_⟩
  · rw [List.getElem?_map] at hy
    obtain ⟨j, hj, rfl⟩ := Option.map_eq_some_iff.1 hy
    have hi : i < len := by
      by_cases hlt : i < len
      · exact hlt
      · rw [List.getElem?_eq_none (by simp; omega)] at hj
        cases hj
    have : j = i := by simpa [List.getElem?_range hi] using hj.symm
    subst this
    have := (hf j hi).2 r c hr
    rwa [add_plain] at this
  · obtain ⟨i, hi, rfl⟩ := List.mem_map.1 hy
    exact (hf i (List.mem_range.1 hi)).1
end
/-- A span for steps, at its place. -/
theorem stepsZ_span {W : World} {v : Value} {l : List StepD} (h : StepsZ W v l) (k : Nat) : ∃ (x : Go.AE.Loc × List Value) (sv : Value), (∀ (i : Nat) (c : Value), x.2[i]? = some c → closed c = true ∧ W.cell? ⟨x.1.B, x.1.o + i, none⟩ = some c) ∧
    ∀ s : Spans, s[k]? = some x → VRel (roRen s) sv v ∧ ∀ A : ASt, (∀ b, b < A.next → A.get b = none) → k < A.next → Steps (withRo E0 s) A (fun b => b = k) sv l := by
  rcases h with (⟨rfl, rfl⟩ | ⟨b, o, cap, rfl, hcap, hx⟩) | ⟨rfl, a, c, rfl⟩
  · exact ⟨(⟨0, 0, 0, 0, undef⟩, []), .slice none 0 0, by simp, fun s _ => ⟨.nilSlice 0 0, fun A _ _ => .inl ⟨rfl, .inl rfl⟩⟩⟩
  · refine ⟨(⟨b, o, 0, 0, undef⟩, (l.map scell).flatten), .slice (some ⟨k, 0, none⟩) l.length cap, fun i c hc => ?_, fun s hs => ⟨?_, fun A hA hn => ?_⟩⟩
    · obtain ⟨q, y, r, h1, _, rfl, h4⟩ := scells_at hc
      exact ⟨scell_closed h4, hx q y h1 r c h4⟩
    · have hr : roRen s k = some ⟨b, o, 0, 0, undef⟩ := by unfold roRen; rw [hs]; rfl
      exact .slice (ρ := roRen s) (b := k) (off := 0) l.length hr hcap
    · have hlen := flat_len (scell_len (l := l))
      refine .inr ⟨k, 0, cap, (l.map scell).flatten, by rw [List.length_map], .inl ⟨hA _ hn, ?_⟩, rfl, hn, scell_len, ?_⟩
      · rw [ro_of]
        unfold roTab
        rw [hs]; rfl
      · unfold cut
        simp only [List.drop_zero, ← hlen, List.take_length, Nat.beq_refl, cond_true]
  · exact ⟨(⟨0, 0, 0, 0, undef⟩, []), zslice, by simp, fun s _ => ⟨.sliceZ a c, fun A _ _ => .inl ⟨rfl, .inr rfl⟩⟩⟩
theorem tcells_at : ∀ {l : List (TimD × Value)} {i : Nat} {v : Value}, ((l.map fun p => tcell p.1 p.2).flatten)[i]? = some v → ∃ q p r, l[q]? = some p ∧ r < 5 ∧ i = q * 5 + r ∧ (tcell p.1 p.2)[r]? = some v
  | [], i, v, h => by simp at h
  | y :: l, 0, v, h => ⟨0, y, 0, rfl, by omega, rfl, h⟩
  | y :: l, 1, v, h => ⟨0, y, 1, rfl, by omega, rfl, h⟩
  | y :: l, 2, v, h => ⟨0, y, 2, rfl, by omega, rfl, h⟩
  | y :: l, 3, v, h => ⟨0, y, 3, rfl, by omega, rfl, h⟩
  | y :: l, 4, v, h => ⟨0, y, 4, rfl, by omega, rfl, h⟩
  | y :: l, i + 5, v, h => by
    obtain ⟨q, z, r, h1, h2, h3, h4⟩ := tcells_at (l := l) (i := i) (v := v) h
    exact ⟨q + 1, z, r, by simpa using h1, h2, by omega, h4⟩
end Go.Proofs.YtgcffmhpjphefaaGreatDoor
