/- A table of timers in general: those that are due. -/
import Derived.Test.YtgcffmhpjphefaaGreatDoorP10
import Derived.Test.YtgcffmhpjphefaaGreatDoorQ4
import Derived.Test.YtgcffmhpjphefaaGreatDoorCards
import Derived.Test.YtgcffmhpjphefaaGreatDoorTie
import Derived.LaidMore
import Derived.LaidSub
import Derived.Lib.LaidTab
import Derived.OpenShut
import Derived.Stop.Joined
import Derived.SevenTiedAt
set_option linter.unusedSimpArgs false
set_option linter.unusedVariables false
set_option linter.unusedSectionVars false
namespace Go.Proofs.YtgcffmhpjphefaaGreatDoor
open Go Go.AE
set_option maxRecDepth 10000
set_option maxHeartbeats 8000000
variable {Z : Go.AE.Road} {s : Spans}

def tcellL (P : List (TimD × Value)) : List Value := (P.map fun p => tcell p.1 p.2).flatten
structure TimsAt (s : Spans) (A : ASt) (lo : Nat) (r : Value) (P : List (TimD × Value)) : Prop where
  own : OwnS A lo 5 P.length r (tcellL P)
  steps : ∀ p ∈ P, Steps (withRo E0 s) A (fun b => lo ≤ b ∧ b ∉ slB r) p.2 p.1.steps
theorem TimsAt.fr {A B : ASt} {lo : Nat} {r : Value} {P : List (TimD × Value)} {own : List Nat} (h : TimsAt s A lo r P) (hf : Fr own A B) (ho : ∀ b, lo ≤ b → b < A.next → b ∉ own) : TimsAt s B lo r P :=
  ⟨h.own.fr hf (fun b hb => ho b (h.own.low b hb).1 (h.own.low b hb).2), fun p hp => (h.steps p hp).fr hf (fun b hb hl => ho b hb.1 hl)⟩
theorem bsTim {t : TimD} {dv : Value} (hs : single dv = true) : aBuildSlice E0 23 1 [(0, tval t dv)] = some (.row (tcell t dv) 5 false, fun id => .slice (some ⟨id, 0, none⟩) 1 1) := by
  have hsg : singles (tval t dv).cells.toList = true := by
    show (true && (true && (true && (true && (single dv && true))))) = true
    rw [hs]; rfl
  have z1 : closed zTim = true := by kernel_rfl
  have z2 : Nat.beq zTim.cells.toList.length 5 = true := by kernel_rfl
  simp only [aBuildSlice, w_t2, w_0, z1, z2, fillV, hsg]
  rfl
theorem appTim {A : ASt} {lo n p : Nat} {r : Value} {cs : List Value} {t : TimD} {dv : Value} {tl : Bool} (h : OwnS A lo 5 n r cs) (hp : A.get p = some (.row (tcell t dv) 5 tl)) (hs : single dv = true) (hn : n ≤ 100000) (hlo : lo ≤ A.next) :
    ∃ r' B, aAppend (withRo E0 s) 23 23 r (.slice (some ⟨p, 0, none⟩) 1 1) A = .val r' B ∧ OwnS B lo 5 (n + 1) r' (cs ++ tcell t dv) ∧ Fr (slB r) A B ∧ ∀ b ∈ slB r', b ∈ slB r ∨ A.next ≤ b := by
  have srcE : srcCells (withRo E0 s) 5 (.slice (some ⟨p, 0, none⟩) 1 1) 1 A = some (tcell t dv) := by
    simp only [srcCells, hp]
    rfl
  have hsg : singles (tcell t dv) = true := by
    show (true && (true && (true && (true && (single dv && true))))) = true
    rw [hs]; rfl
  exact h.app (E := withRo E0 s) (xt := 23) (x := .slice (some ⟨p, 0, none⟩) 1 1) (m := 1) ti23 t23_desc ti30 t30_size ti23 (by rw [t23_desc]; rfl) t30_zero (by kernel_rfl) (by kernel_rfl) (by omega) rfl srcE rfl hsg (by rw [t30_bytes]; omega) hlo
theorem tlook0 {m : Nat} {k : ByteArray} {ok : Bool} : aLookup E0 62 (.map (some m)) (.string k) ok { heap := .e, next := 0 } = none := by
  simp only [aLookup, w_tb, w_0, get_empty]
  cases plainKey TypeDesc.string (Value.string k) <;> rfl
theorem ix71 {b i n c : Nat} (h : i < n) : aIndexAddr E0 71 (.slice (some ⟨b, 0, none⟩) n c) (.int .i64 (i : Int)) = some (.pointer (some ⟨b, i * 2, none⟩)) := qix h
theorem TD.near_empty {D : TD} {now : Nat} : (fun k => (D.near now k).filter fun a => decide (now < a)) = fun _ => none := by
  funext k
  unfold TD.near
  rw [Option.filter_filter]
  cases hD : D.at_ k with
  | none => rfl
  | some a =>
    rw [Option.filter_some, if_neg]
    simp only [Bool.and_eq_true, decide_eq_true_eq]
    omega
theorem TD.near_near {D : TD} {now : Nat} : (fun k => (D.near now k).filter fun a => decide (a ≤ now)) = D.near now := by
  funext k
  unfold TD.near
  rw [Option.filter_filter]
  congr 1
  funext a
  rw [Bool.and_self]
theorem tdueC_spec (hro : RoadS Z E0 s) {A : ASt} {x m q e w : Nat} {v : Value} {W all : Nat} {ms : List Nat} {now n : Nat} {D : TD} {S : Nat → Prop} (h : TabAt s A x m q e w v W all ms now n D S) (hn : n ≤ 1000) (rx : (withRo E0 s).ro x = none) :
    CallW Z Tryz.prog 10 [.pointer (some ⟨x, 0, none⟩)] A (fun r A' => ∃ L P, Lists (D.near now) L ∧ TimsAt s A' A.next r P ∧ P.map (·.1) = L.map (fun y => (D y.1).getD zTimD) ∧ ∃ v', TabAt s A' x m q e w v' W all ms now n D S ∧ (∀ b ∈ slB v', b ∈ slB v ∨ A.next ≤ b) ∧ Fr (wrT m e w v W all ms) A A' ∧ (∀ b ∈ slB r, b ∉ slB v') ∧ ∀ p ∈ P, Steps (withRo E0 s) A' (fun b => A.next ≤ b ∧ b ∉ slB v') p.2 p.1.steps) := by
  refine CallW.assume hro fun hnr => ?_
  refine CallW.of_code (withRo_ok E0_ok) hro.ro (f := 10) (fn := Tryz.f10) fn10 rfl (n := 44) rfl (rs := [.tmp 2]) rfl (by simp) (codeW_ok (withRo_ok E0_ok) hro.ro ?_)
  have hc0 := h.core
  have h1 := hc0.hx
  have hlx := hc0.lts
  have hne := hc0.nes
  have hRC := RU_ok (RO_ok (Z := Z) (P := Tryz.prog) (f := 13) (ar := [.pointer (some ⟨x, 0, none⟩)]) (Pr := fun A => Core s A x m q e w v W all ms now D (D.near now) (D.far now) S) (Sp := fun A r A' => r = .int .u64 (now : Int) ∧ A = A') (fun A hp => tclockC_spec hp)) (RO_ok (Z := Z) (P := Tryz.prog) (f := 34) (ar := [.pointer (some ⟨q, 0, none⟩), .int .u64 (now : Int)]) (Pr := fun A => QAt A q e w v (D.near now)) (Sp := fun A r A' => ∃ v' L, QAt A' q e w v' (fun k => (D.near now k).filter fun a => decide (now < a)) ∧ QS A' r L ∧ Lists (fun k => (D.near now k).filter fun a => decide (a ≤ now)) L ∧ Fr (e :: w :: slB v) A A' ∧ (∀ b ∈ slB v', b ∈ slB v) ∧ ∀ b ∈ slB r, A.next ≤ b) (fun A hp => qdueG_spec hp (h.upto.few hn)))
  simp only [w_w, z_0, flat, Option.isNone, aFieldAddr, aField, aBuiltin, cond_true, cond_false, cond_dec, if_true, if_false, List.length_cons, List.length_nil, forall_const, implies_true, List.append_nil, List.cons_append, List.nil_append, eq_self, Nat.reduceEqDiff, Nat.reduceAdd, Nat.reduceMul, Nat.reduceSub, Nat.reduceLT, Nat.reduceLeDiff, Nat.reduceBEq, reduceIte, reduceCtorEq, eqnilT, h1]
  refine CodeW.seqf (withRo_ok E0_ok) hro.ro mixed hRC [0,1,2,3,4,5,6,7] [0,1,2,3] (fanOf _ _ _) (by simp only [reorder, reoGo, strip, List.map_cons, List.map_nil, opAt, remap, nth, Option.map, σ, place', nbeq, List.length_cons, List.length_nil, Nat.reduceAdd, Nat.reduceLT, Nat.reduceEqDiff, if_true, if_false, reduceIte]; rfl) (by decide +kernel) (by kernel_rfl) (by kernel_rfl) (by kernel_rfl) rfl ?_
  simp only [w_w, z_0, flat, Option.isNone, aFieldAddr, aField, aBuiltin, cond_true, cond_false, cond_dec, if_true, if_false, List.length_cons, List.length_nil, forall_const, implies_true, List.append_nil, List.cons_append, List.nil_append, eq_self, Nat.reduceEqDiff, Nat.reduceAdd, Nat.reduceMul, Nat.reduceSub, Nat.reduceLT, Nat.reduceLeDiff, Nat.reduceBEq, reduceIte, reduceCtorEq, q_0, q_1, q_2, f_0, pendW, hasN, reorder, E0_ron, exists_eq', List.length_cons, List.length_nil, h1, rx, valEq_ptr, get_next]
  have fA8 : Fr [] A { heap := A.heap, next := A.next + 8 } := Fr.bump (by omega)
  refine conRU1 (hc0.fr0 fA8) (by decide) ?_
  rintro _ _ ⟨rfl, rfl⟩
  simp only [w_w, z_0, flat, Option.isNone, aFieldAddr, aField, aBuiltin, cond_true, cond_false, cond_dec, if_true, if_false, List.length_cons, List.length_nil, forall_const, implies_true, List.append_nil, List.cons_append, List.nil_append, eq_self, Nat.reduceEqDiff, Nat.reduceAdd, Nat.reduceMul, Nat.reduceSub, Nat.reduceLT, Nat.reduceLeDiff, Nat.reduceBEq, reduceIte, reduceCtorEq, q_0, q_1, q_2, f_0, pendW, hasN, reorder, E0_ron, exists_eq', List.length_cons, List.length_nil, h1, rx, valEq_ptr, get_next]
  refine conRU2 (hc0.fr0 fA8).hq (by decide) ?_
  rintro lv B ⟨v1, L, hqB, hLs, hL, fB, hvb, hlb⟩
  rw [TD.near_empty] at hqB
  rw [TD.near_near] at hL
  have hcB := (hc0.fr0 fA8).queue fB hqB (fun b hb => .inl (hvb b hb))
  have nB : A.next + 8 ≤ B.next := fB.next
  have hxB := hcB.hx
  have hlbB := hLs.low
  obtain ⟨bo, cp, rfl⟩ : ∃ bo cp, lv = .slice bo L.length cp := by
    rcases hLs with ⟨rfl, rfl⟩ | ⟨b, rest, rfl, _⟩
    · exact ⟨_, _, rfl⟩
    · exact ⟨_, _, rfl⟩
  have hlen := hLs.len
  have hLat : ∀ y ∈ L, D.at_ y.1 = some y.2 := fun y hy => by
    have := (hL.mem y.1 y.2).1 hy
    unfold TD.near at this
    rw [Option.filter_eq_some_iff] at this
    exact this.1
  have hLn : L.length ≤ n := listsSmall (p := fun a => decide (a ≤ now)) hL h.upto
  have hownA : ∀ b ∈ ownT x m q e w W all ms, b < A.next := hc0.lt
  have hSA : ∀ b, S b → b < A.next := fun b hb => (hc0.nr b hb).1
  have hvA : ∀ b ∈ slB v, b < A.next := fun b hb => (hc0.ns b hb).2
  simp only [w_w, z_0, flat, Option.isNone, aFieldAddr, aField, aBuiltin, cond_true, cond_false, cond_dec, if_true, if_false, List.length_cons, List.length_nil, forall_const, implies_true, List.append_nil, List.cons_append, List.nil_append, eq_self, Nat.reduceEqDiff, Nat.reduceAdd, Nat.reduceMul, Nat.reduceSub, Nat.reduceLT, Nat.reduceLeDiff, Nat.reduceBEq, reduceIte, reduceCtorEq, q_0, q_1, q_2, f_0, pendW, hasN, reorder, E0_ron, exists_eq', List.length_cons, List.length_nil, hxB, rx, valEq_ptr, get_next, hlen]
  refine CodeW.mono (Q := fun o => ∃ T' A', o = .fr ⟨.exit 0, T', A'⟩ ∧ ∃ r v' P, tget T' 3 = r ∧ Core s A' x m q e w v' W all ms now D (D.near now) (D.far now) S ∧ TimsAt s A' A.next r P ∧ P.map (·.1) = L.map (fun y => (D y.1).getD zTimD) ∧ (∀ b ∈ slB v', b ∈ slB v ∨ A.next ≤ b) ∧ Fr (wrT m e w v W all ms) A A' ∧ (∀ b ∈ slB r, b ∉ slB v') ∧ ∀ p ∈ P, Steps (withRo E0 s) A' (fun b => A.next ≤ b ∧ b ∉ slB v') p.2 p.1.steps) ?_ ?_
  · refine CodeW.loopR (k := L.length) (fun n T A' => ∃ (i : Nat) (r v' : Value) (N' : TM) (P : List (TimD × Value)), n = L.length - i ∧ i ≤ L.length ∧ tget T 18 = .int .i64 (i : Int) ∧ tget T 17 = .int .i64 (L.length : Int) ∧ tget T 16 = .slice bo L.length cp ∧ tget T 0 = .pointer (some ⟨x, 0, none⟩) ∧ tget T 3 = r ∧ Core s A' x m q e w v' W all ms now D N' (D.far now) S ∧ (∀ k a, N' k = some a ↔ (k, a) ∈ L.take i) ∧ P.length = i ∧ OwnS A' B.next 5 P.length r (tcellL P) ∧ P.map (·.1) = (L.take i).map (fun y => (D y.1).getD zTimD) ∧ (∀ b ∈ slB v', b ∈ slB v ∨ B.next ≤ b) ∧ (∀ p ∈ P, Steps (withRo E0 s) A' (fun b => B.next ≤ b ∧ b ∉ slB r ∧ b ∉ slB v') p.2 p.1.steps) ∧ (∀ b ∈ slB r, b ∉ slB v') ∧ Fr (wrT m e w v W all ms) A A' ∧ QS A' (.slice bo L.length cp) L ∧ B.next ≤ A'.next) ?_ ?_
    · rintro k T A1 ⟨i, r, v2, N1, P, rfl, hi, u18, u17, u16, u0, u3, hc1, hN1, hPl, hO1, hPm, hv2, hP1, hrv, f1, hQ1, nA1⟩
      refine codeW_ok (withRo_ok E0_ok) hro.ro ?_
      by_cases hlt : i < L.length
      · have d1 : ((i : Int) < (L.length : Int)) = True := eq_true (by omega)
        obtain ⟨y, hy⟩ : ∃ y, L[i]? = some y := ⟨_, List.getElem?_eq_getElem hlt⟩
        obtain ⟨b, rest, etv, hb, hlb2, _⟩ := hQ1.at hy
        cases etv
        have hbB : A.next + 8 ≤ b ∧ b < B.next := ⟨hlb b (by simp [slB]), hlbB b (by simp [slB])⟩
        have nf1 := f1.next
        obtain ⟨C, hst, fC, gC, nC⟩ := newstore (A := A1) (k := y.1) (a := y.2)
        have hc2 := hc1.fr0 fC
        have h2 := hc2.hx
        have rp : (withRo E0 s).ro A1.next = none := hnr _ (by omega)
        simp only [w_w, z_0, flat, Option.isNone, aFieldAddr, aField, aBuiltin, cond_true, cond_false, cond_dec, if_true, if_false, List.length_cons, List.length_nil, forall_const, implies_true, List.append_nil, List.cons_append, List.nil_append, eq_self, Nat.reduceEqDiff, Nat.reduceAdd, Nat.reduceMul, Nat.reduceSub, Nat.reduceLT, Nat.reduceLeDiff, Nat.reduceBEq, reduceIte, reduceCtorEq, u18, u17, u16, u0, u3, d1, decide_true, ix71 hlt, hb, qcut hy, al74, ptrTo]
        rw [hst]
        clear hst
        -- the timer that is looked up
        obtain ⟨l, ck, hg, hok, hD, hS⟩ := hc2.hm
        obtain ⟨t, ht⟩ : ∃ t, D y.1 = some t := by
          have := hLat y (List.mem_of_getElem? hy)
          unfold TD.at_ at this
          cases hD2 : D y.1 with
          | none => rw [hD2] at this; cases this
          | some t => exact ⟨t, rfl⟩
        obtain ⟨dv, hdv⟩ : ∃ dv, vget l y.1 = some (t, dv) := by
          have := hD y.1
          rw [ht] at this
          cases hv3 : vget l y.1 with
          | none => rw [hv3] at this; cases this
          | some p =>
            rw [hv3] at this
            cases this
            exact ⟨p.2, rfl⟩
        have hSt := hS y.1 t dv hdv
        have hlk : aLookup E0 62 (.map (some m)) (.string y.1) false { heap := C.heap, next := C.next + 12 } = some (tval t dv) := by
          have := tlook (A := { heap := C.heap, next := C.next + 12 }) (by rw [get_next]; exact hg) y.1 false
          rw [hdv] at this
          exact this
        have hRC := RO_ok (Z := Z) (P := Tryz.prog) (f := 31) (ar := [tval t dv]) (Pr := fun A => Steps (withRo E0 s) A S dv t.steps) (Sp := fun A r A' => ∃ dv', r = tval t dv' ∧ Steps (withRo E0 s) A' (fun b => A.next ≤ b) dv' t.steps ∧ Fr [] A A') (fun A hp => copied_spec hro hp (h.ok y.1 t ht).1.steps)
        have vt : valEq (tval t dv) (tval t dv) = true := val25 hSt
        have vm : valEq (.map (some m)) (.map (some m)) = true := valEq_map
        have vr := hO1.ve
        simp only [w_w, z_0, flat, Option.isNone, aFieldAddr, aField, aBuiltin, cond_true, cond_false, cond_dec, if_true, if_false, List.length_cons, List.length_nil, forall_const, implies_true, List.append_nil, List.cons_append, List.nil_append, eq_self, Nat.reduceEqDiff, Nat.reduceAdd, Nat.reduceMul, Nat.reduceSub, Nat.reduceLT, Nat.reduceLeDiff, Nat.reduceBEq, reduceIte, reduceCtorEq]
        refine CodeW.seqf (withRo_ok E0_ok) hro.ro mixed hRC [0,1,2,3,4,5,6,7,8,9,10,11] [0] [[],[],[],[],[],[],[],[],[],[],[9],[9]] (by simp only [reorder, reoGo, strip, List.map_cons, List.map_nil, opAt, remap, nth, Option.map, σ, place', nbeq, List.length_cons, List.length_nil, Nat.reduceAdd, Nat.reduceLT, Nat.reduceEqDiff, if_true, if_false, reduceIte]; rfl) (by decide +kernel) (by kernel_rfl) (by kernel_rfl) (by kernel_rfl) (by kernel_rfl) ?_
        simp only [w_w, z_0, flat, Option.isNone, aFieldAddr, aField, aBuiltin, cond_true, cond_false, cond_dec, if_true, if_false, List.length_cons, List.length_nil, forall_const, implies_true, List.append_nil, List.cons_append, List.nil_append, eq_self, Nat.reduceEqDiff, Nat.reduceAdd, Nat.reduceMul, Nat.reduceSub, Nat.reduceLT, Nat.reduceLeDiff, Nat.reduceBEq, reduceIte, reduceCtorEq, q_0, q_1, q_2, f_0, pendW, hasN, reorder, E0_ron, exists_eq', List.length_cons, List.length_nil, u0, u3, h2, gC, rx, rp, vm, vt, vr, valEq_str, valEq_ptr, hlk, tlook0, get_next]
        have fC12 : Fr [] C { heap := C.heap, next := C.next + 12 } := Fr.bump (by omega)
        refine conRO (hSt.fr fC12 (by simp)) ?_
        rintro _ G ⟨dv', rfl, hdG, fG⟩
        have fCG := fC12.trans fG
        have nG : C.next + 12 ≤ G.next := fG.next
        have fGp : Fr [C.next + 9] G (G.set (C.next + 9) (.row (tcell t dv') 5 false)) := ⟨by rw [ASt.next_set]; exact Nat.le_refl _, fun c hc hn => by rw [ASt.get_set, if_neg (by simpa using hn)]⟩
        have fAG : Fr [] A1 (G.set (C.next + 9) (.row (tcell t dv') 5 false)) := ⟨by rw [ASt.next_set]; omega, fun c hc _ => by rw [fGp.get c (by omega) (by simp; omega), fCG.get c (by omega) (by simp), fC.get c hc (by simp)]⟩
        have nGp : (G.set (C.next + 9) (.row (tcell t dv') 5 false)).next = G.next := ASt.next_set ..
        have hO := hO1.fr fAG (by simp)
        obtain ⟨r2, H, ha, hOH, fH, hr2⟩ := appTim (s := s) (p := C.next + 9) (t := t) (dv := dv') (tl := false) hO (by rw [ASt.get_set, if_pos rfl]) hdG.single (by omega) (by omega)
        have hbs := bsTim (t := t) hdG.single
        have nH := fH.next
        rw [nGp] at nH
        have hrl : ∀ c ∈ slB r, B.next ≤ c ∧ c < A1.next := hO1.low
        have hrown : ∀ c, c < B.next → c ∉ slB r := fun c hc hm => by have := (hrl c hm).1; omega
        have fA1H : ∀ c, c < A1.next → c ∉ slB r → H.get c = A1.get c := fun c h3 h4 => by rw [fH.get c (by omega) h4, fAG.get c h3 (by simp)]
        have hFr1 : Fr (slB r) A1 H := ⟨by omega, fA1H⟩
        have hcH := hc1.fr hFr1 (fun c hc _ => ⟨fun hm => by have := hownA c hm; have := (hrl c hc).1; omega, hrv c hc, fun hm => by have := hSA c hm; have := (hrl c hc).1; omega⟩)
        have hxH := hcH.hx
        have gH : H.get A1.next = some (.row [.string y.1, .int .u64 ((y.2 : Nat) : Int)] 2 false) := by
          rw [fH.get A1.next (by omega) (fun hm => by have := (hrl _ hm).2; omega), fGp.get A1.next (by omega) (by simp; omega), fCG.get A1.next (by omega) (by simp)]
          exact gC
        simp only [w_w, z_0, flat, Option.isNone, aFieldAddr, aField, aBuiltin, cond_true, cond_false, cond_dec, if_true, if_false, List.length_cons, List.length_nil, forall_const, implies_true, List.append_nil, List.cons_append, List.nil_append, eq_self, Nat.reduceEqDiff, Nat.reduceAdd, Nat.reduceMul, Nat.reduceSub, Nat.reduceLT, Nat.reduceLeDiff, Nat.reduceBEq, reduceIte, reduceCtorEq, q_0, q_1, q_2, f_0, pendW, hasN, reorder, E0_ron, exists_eq', List.length_cons, List.length_nil, Bool.false_and, Bool.and_false, u0, u3, hbs, ha, vr, get_next]
        have hFew : Few N1 := by
          obtain ⟨ls, hl1, hl2⟩ := h.upto
          refine ⟨ls, by omega, fun k hk => hl2 k ?_⟩
          obtain ⟨a, ha⟩ := Option.isSome_iff_exists.1 hk
          have := hLat (k, a) (List.mem_of_mem_take ((hN1 k a).1 ha))
          unfold TD.at_ at this
          cases hD : D k with
          | none => simp only [hD] at this; cases this
          | some t => rfl
        have hRQ := RO_ok (Z := Z) (P := Tryz.prog) (f := 33) (ar := [.pointer (some ⟨q, 0, none⟩), .string y.1, .int .u64 (y.2 : Int)]) (Pr := fun A => QAt A q e w v2 N1) (Sp := fun A _ A' => ∃ v', QAt A' q e w v' (N1.put y.1 y.2) ∧ Fr (e :: w :: slB v2) A A' ∧ ∀ b ∈ slB v', b ∈ slB v2 ∨ A.next ≤ b) (fun A hp => qputG_spec hp hFew)
        refine CodeW.seqf (withRo_ok E0_ok) hro.ro mixed hRQ [0, 1, 2, 3, 4, 5, 6, 7, 8] [] (fanOf _ _ _) (by simp only [reorder, reoGo, strip, List.map_cons, List.map_nil, opAt, remap, nth, Option.map, σ, place', nbeq, List.length_cons, List.length_nil, Nat.reduceAdd, Nat.reduceLT, Nat.reduceEqDiff, if_true, if_false, reduceIte]; rfl) (by decide +kernel) (by kernel_rfl) (by kernel_rfl) (by kernel_rfl) rfl ?_
        simp only [w_w, z_0, flat, Option.isNone, aFieldAddr, aField, aBuiltin, cond_true, cond_false, cond_dec, if_true, if_false, List.length_cons, List.length_nil, forall_const, implies_true, List.append_nil, List.cons_append, List.nil_append, eq_self, Nat.reduceEqDiff, Nat.reduceAdd, Nat.reduceMul, Nat.reduceSub, Nat.reduceLT, Nat.reduceLeDiff, Nat.reduceBEq, reduceIte, reduceCtorEq, q_0, q_1, q_2, f_0, pendW, hasN, reorder, E0_ron, exists_eq', List.length_cons, List.length_nil, u0, hxH, gH, rx, rp, valEq_str, valEq_ptr, get_next]
        have fH9 : Fr [] H { heap := H.heap, next := H.next + 9 } := Fr.bump (by omega)
        have hbH := hcH.fr0 fH9
        refine conRO hbH.hq ?_
        rintro _ J ⟨v3, hqJ, fJ, hv3⟩
        have hcJ := hbH.queue fJ hqJ hv3
        have nJ : H.next + 9 ≤ J.next := fJ.next
        have w1 : IntKind.i64.wrap ((i : Int) + 1) = ((i + 1 : Nat) : Int) := by rw [IntKind.wrap_i64]; omega
        simp only [w_w, z_0, flat, Option.isNone, aFieldAddr, aField, aBuiltin, cond_true, cond_false, cond_dec, if_true, if_false, List.length_cons, List.length_nil, forall_const, implies_true, List.append_nil, List.cons_append, List.nil_append, eq_self, Nat.reduceEqDiff, Nat.reduceAdd, Nat.reduceMul, Nat.reduceSub, Nat.reduceLT, Nat.reduceLeDiff, Nat.reduceBEq, reduceIte, reduceCtorEq, q_0, q_1, q_2, f_0, pendW, hasN, reorder, E0_ron, exists_eq', List.length_cons, List.length_nil, u0, u3, u16, u17, u18, w1]
        have hvn : ∀ c ∈ slB v2, c < A1.next := fun c hc => (hc1.ns c hc).2
        have hr2' : ∀ c ∈ slB r2, c ∈ slB r ∨ G.next ≤ c := fun c hc => by
          rcases hr2 c hc with h3 | h3
          · exact .inl h3
          · rw [nGp] at h3; exact .inr h3
        have hr2B : ∀ c ∈ slB r2, B.next ≤ c := fun c hc => (hOH.low c hc).1
        have hr2H : ∀ c ∈ slB r2, c < H.next := fun c hc => (hOH.low c hc).2
        have hr2v : ∀ c ∈ slB r2, c ∉ slB v2 := fun c hc hm => by
          rcases hr2' c hc with h3 | h3
          · exact hrv c h3 hm
          · have := hvn c hm; omega
        have fHJ : Fr (e :: w :: slB v2) H J := fH9.nil.trans fJ
        have hbig : ∀ c, B.next ≤ c → c ∉ slB v2 → c ∉ e :: w :: slB v2 := fun c h3 h4 hm => by
          simp only [List.mem_cons] at hm
          rcases hm with rfl | rfl | hm
          · omega
          · omega
          · exact h4 hm
        have hv3' : ∀ c ∈ slB v3, c ∈ slB v2 ∨ H.next + 9 ≤ c := hv3
        have nJ2 : H.next ≤ J.next := by omega
        refine ⟨L.length - (i + 1), by omega, i + 1, r2, v3, N1.put y.1 y.2, P ++ [(t, dv')], rfl, by omega, rfl, rfl, hcJ, fun k a => ?_, by rw [List.length_append, hPl]; rfl, ?_, ?_, fun c hc => ?_, fun p hp => ?_, fun c hc hm => ?_, ⟨by omega, fun c h3 h4 => ?_⟩, ?_, by omega⟩
        · rw [take_snoc hy, List.mem_append, List.mem_singleton]
          have hy2 : D.at_ y.1 = some y.2 := hLat _ (List.mem_of_getElem? hy)
          unfold TM.put
          by_cases e1 : k = y.1
          · rw [if_pos e1]
            constructor
            · intro h3
              cases h3
              exact .inr (by rw [e1])
            · rintro (h3 | h3)
              · have := hLat (k, a) (List.mem_of_mem_take h3)
                simp only [e1, hy2] at this
                exact this
              · rw [← h3]
          · rw [if_neg e1, hN1]
            constructor
            · exact .inl
            · rintro (h3 | h3)
              · exact h3
              · exact absurd (by rw [← h3]) e1
        · have : tcellL (P ++ [(t, dv')]) = tcellL P ++ tcell t dv' := by
            unfold tcellL
            rw [List.map_append, List.flatten_append]
            simp
          rw [this, List.length_append]
          exact hOH.fr fHJ (fun c hc => hbig c (hr2B c hc) (hr2v c hc))
        · rw [take_snoc hy, List.map_append, List.map_append, hPm]
          show _ ++ [t] = _ ++ [(D y.1).getD zTimD]
          rw [ht]; rfl
        · rcases hv3' c hc with h3 | h3
          · exact hv2 c h3
          · exact .inr (by omega)
        · rcases List.mem_append.1 hp with hp | hp
          · have h3 := (hP1 p hp).imp (S' := fun b => (B.next ≤ b ∧ b ∉ slB r ∧ b ∉ slB v2) ∧ b < A1.next) (fun b h4 h5 => ⟨h4, h5⟩)
            have h6 := (h3.fr hFr1 (fun b h4 _ => h4.1.2.1)).fr fHJ (fun b h4 _ => hbig b h4.1.1 h4.1.2.2)
            refine h6.imp (fun b h4 _ => ⟨h4.1.1, fun hm => ?_, fun hm => ?_⟩)
            · rcases hr2' b hm with h5 | h5
              · exact h4.1.2.1 h5
              · have := h4.2; omega
            · rcases hv3' b hm with h5 | h5
              · exact h4.1.2.2 h5
              · have := h4.2; omega
          · simp only [List.mem_singleton] at hp
            subst hp
            have hdG' : Steps (withRo E0 s) G (fun b => C.next + 12 ≤ b ∧ b < G.next) dv' t.steps := hdG.imp (fun b h4 h5 => ⟨h4, h5⟩)
            have h6 := ((hdG'.fr fGp (fun b h4 _ hm => by simp only [List.mem_singleton] at hm; omega)).fr fH (fun b h4 _ hm => by have := (hrl b hm).2; omega)).fr fHJ (fun b h4 _ => hbig b (by omega) (fun hm => by have := hvn b hm; omega))
            refine h6.imp (fun b h4 _ => ⟨by omega, fun hm => ?_, fun hm => ?_⟩)
            · rcases hr2' b hm with h5 | h5
              · have := (hrl b h5).2; omega
              · omega
            · rcases hv3' b hm with h5 | h5
              · have := hvn b h5; omega
              · omega
        · rcases hv3' c hm with h3 | h3
          · exact hr2v c hc h3
          · have := hr2H c hc; omega
        · rw [fHJ.get c (by omega) (fun hm => ?_), fA1H c (by omega) (fun hm => by have := (hrl c hm).1; omega), f1.get c h3 h4]
          simp only [List.mem_cons] at hm
          rcases hm with h5 | h5 | h5
          · exact h4 (by simp [h5])
          · exact h4 (by simp [h5])
          · rcases hv2 c h5 with h6 | h6
            · exact h4 (by simp [h6])
            · omega
        · refine ((hQ1.fr hFr1 (fun c hc hm => ?_)).fr fHJ (fun c hc hm => ?_))
          · simp only [slB, List.mem_singleton] at hc
            subst hc
            have := (hrl _ hm).1; omega
          · simp only [slB, List.mem_singleton] at hc
            subst hc
            simp only [List.mem_cons] at hm
            rcases hm with h5 | h5 | h5
            · omega
            · omega
            · rcases hv2 _ h5 with h6 | h6
              · have := hvA _ h6; omega
              · omega
      · have e1 : i = L.length := by omega
        subst e1
        have d1 : ((L.length : Int) < (L.length : Int)) = False := eq_false (by omega)
        simp only [w_w, z_0, flat, Option.isNone, aFieldAddr, aField, aBuiltin, cond_true, cond_false, cond_dec, if_true, if_false, List.length_cons, List.length_nil, forall_const, implies_true, List.append_nil, List.cons_append, List.nil_append, eq_self, Nat.reduceEqDiff, Nat.reduceAdd, Nat.reduceMul, Nat.reduceSub, Nat.reduceLT, Nat.reduceLeDiff, Nat.reduceBEq, reduceIte, reduceCtorEq, u18, u17, d1, decide_false]
        have eN : N1 = D.near now := by
          funext k
          apply Option.ext
          intro a
          rw [hN1, List.take_length, hL.mem]
        rw [eN] at hc1
        rw [List.take_length] at hPm
        exact ⟨_, _, rfl, r, v2, P, by simp only [tget_put, Nat.reduceEqDiff, if_false, if_true, reduceIte, u3], hc1, ⟨hO1.lower (by omega), fun p hp => (hP1 p hp).imp (fun b h3 _ => ⟨by omega, h3.2.1⟩)⟩, hPm, fun b hb => by
          rcases hv2 b hb with h3 | h3
          · exact .inl h3
          · exact .inr (by omega), f1, hrv, fun p hp => (hP1 p hp).imp (fun b h3 _ => ⟨by omega, h3.2.2⟩)⟩
    · refine ⟨0, .slice none 0 0, v1, fun _ => none, [], rfl, Nat.zero_le _, ?_, ?_, ?_, ?_, ?_, hcB, fun k a => by simp, rfl, .inl ⟨rfl, rfl, rfl⟩, rfl, fun b hb => .inl (hvb b hb), fun p hp => (by cases hp), fun b hb => (by cases hb), (fA8.nil.trans fB).sub (fun b hb => ?_), hLs, Nat.le_refl _⟩
      all_goals first | rfl | (unfold argsT; rfl) | skip
      simp only [wrT, List.mem_cons, List.mem_append] at hb ⊢
      rcases hb with h3 | h3 | h3
      · exact .inr (.inl h3)
      · exact .inr (.inr (.inl h3))
      · exact .inr (.inr (.inr (.inl h3)))
  · rintro o ⟨T', A', rfl, r, v', P, u3, hc1, hT, hP, hv1, f1, hoff⟩
    simp only [w_w, z_0, flat, Option.isNone, aFieldAddr, aField, aBuiltin, cond_true, cond_false, cond_dec, if_true, if_false, List.length_cons, List.length_nil, forall_const, implies_true, List.append_nil, List.cons_append, List.nil_append, eq_self, Nat.reduceEqDiff, Nat.reduceAdd, Nat.reduceMul, Nat.reduceSub, Nat.reduceLT, Nat.reduceLeDiff, Nat.reduceBEq, reduceIte, reduceCtorEq, u3]
    exact ⟨L, P, hL, hT, hP, v', ⟨hc1, h.ok, h.upto⟩, hv1, f1, hoff⟩
end Go.Proofs.YtgcffmhpjphefaaGreatDoor

/- A table of timers in general: the names of all, gathered through a range over a function. -/
namespace Go.Proofs.YtgcffmhpjphefaaGreatDoor
open Go Go.AE
set_option maxRecDepth 10000
set_option maxHeartbeats 8000000
variable {Z : Go.AE.Road} {s : Spans}

def asS : Code := Code.region 2 #[{ dst := some 5, op := Op.assign (Operand.tmp 7), type := 9, pos := "iter.go:51", after := #[], guard := none }] false
def bS : Code := Code.block 1 (Code.region 3 #[{ dst := some 8, op := Op.load 34 (Operand.tmp 2), type := 34, pos := "iter.go:52", after := #[], guard := none }, { dst := some 9, op := Op.move (Operand.tmp 5), type := 9, pos := "iter.go:52", after := #[], guard := none }, { dst := some 10, op := Op.buildSlice 34 1 #[(0, Operand.tmp 9)], type := 34, pos := "iter.go:52", after := #[{ on := 1, ground := Ground.data }], guard := none }, { dst := some 11, op := Op.call { callee := Callee.builtin Builtin.append, args := #[Operand.tmp 8, Operand.tmp 10], argTypes := #[34, 34] }, type := 34, pos := "iter.go:52", after := #[{ on := 0, ground := Ground.data }, { on := 2, ground := Ground.data }], guard := none }, { dst := none, op := Op.store 34 (Operand.tmp 2) (Operand.tmp 11), type := 0, pos := "iter.go:52", after := #[{ on := 3, ground := Ground.data }, { on := 3, ground := Ground.chain }, { on := 0, ground := Ground.phase }, { on := 1, ground := Ground.phase }, { on := 2, ground := Ground.phase }, { on := 3, ground := Ground.phase }], guard := none }] false)
theorem st34 {A : ASt} {b : Nat} {u v : Value} {tl : Bool} (hb : A.get b = some (.row [u] 1 tl)) (hv : v.cells = #[v] ∧ Go.AE.single v = true) : aStore E0 34 (.pointer (some ⟨b, 0, none⟩)) v A = some (A.set b (.row [v] 1 tl)) := by
  have e1 : v.cells.toList = [v] := by rw [hv.1]
  have h4 : singles [v] = true := by simp only [singles, hv.2, Bool.and_self]
  simp only [aStore, hb, w_so, e1, h4]; rfl
theorem roundS_spec {A : ASt} {l P2 lo n : Nat} {T0 : Tmps} {v : Value} {cs : List Value} {k : ByteArray} (hl : A.get l = some (.loop 13 T0 #[7] asS bS .ready none)) (hp : A.get P2 = some (.row [v] 1 false)) (ht : tget T0 2 = .pointer (some ⟨P2, 0, none⟩)) (hs : OwnS A lo 1 n v cs) (hne : l ≠ P2) (hll : l < lo) (hPl : P2 < lo) (hlo : lo ≤ A.next) (hlen : n ≤ 1000) :
    CallT Z Tryz.prog (.round l) [.string k] A (fun r A' => r = .bool true ∧ A'.get l = some (.loop 13 T0 #[7] asS bS .ready none) ∧ (∃ v', A'.get P2 = some (.row [v'] 1 false) ∧ OwnS A' lo 1 (n + 1) v' (cs ++ [.string k])) ∧ A.next ≤ A'.next ∧ ∀ b, b < lo → b ≠ l → b ≠ P2 → A'.get b = A.get b) := by
  refine CallT.round hl (T' := T0.put 7 (some (.string k))) rfl ?_
  unfold asS
  refine codeW_ok E0_ok E0_ro ?_
  simp only [z_0, flat, Option.isNone, aFieldAddr, aField, aBuiltin, cond_true, cond_false, cond_dec, if_true, if_false, List.length_cons, List.length_nil, forall_const, implies_true, List.append_nil, List.cons_append, List.nil_append, eq_self, Nat.reduceEqDiff, Nat.reduceAdd, Nat.reduceMul, Nat.reduceSub, Nat.reduceLT, Nat.reduceLeDiff, Nat.reduceBEq, reduceIte, reduceCtorEq]
  refine ⟨_, _, _, _, _, _, _, _, rfl, hl, ?_⟩
  have hset : Fr [l] A (A.set l (.loop 13 T0 #[7] asS bS .busy none)) := ⟨by rw [ASt.next_set]; exact Nat.le_refl _, fun b hb hn => by rw [ASt.get_set, if_neg (by simpa using hn)]⟩
  have hl1 : (A.set l (.loop 13 T0 #[7] asS bS .busy none)).get l = some (.loop 13 T0 #[7] asS bS .busy none) := by rw [ASt.get_set, if_pos rfl]
  have hAn : (A.set l (.loop 13 T0 #[7] asS bS .busy none)).next = A.next := rfl
  generalize A.set l (.loop 13 T0 #[7] asS bS .busy none) = B at hset hl1 hAn ⊢
  have hlow := hs.low
  have hPn : P2 < A.next := by omega
  have hP1 := (hset.get P2 hPn (by simpa using Ne.symm hne)).trans hp
  have hs1 := hs.fr hset (fun b hb hm => by simp only [List.mem_singleton] at hm; have := (hlow b hb).1; omega)
  have fN : Fr [] B (B.new (.row [.string k] 1 false)) := .new
  obtain ⟨v', C, happ, hs2, fC, hv'⟩ := app34 (p := B.next) (k := k) (tl := false) (hs1.fr fN (by simp)) (by rw [ASt.get_new, if_pos rfl]) (by omega) (by rw [ASt.next_new]; omega)
  have nN : (B.new (.row [.string k] 1 false)).next = B.next + 1 := ASt.next_new ..
  have nC := fC.next
  have hnv : ∀ b, b < lo → b ∉ slB v := fun b hb hm => by have := (hlow b hm).1; omega
  have hCP := ((fC.get P2 (by omega) (hnv _ hPl)).trans (fN.get P2 (by omega) (by simp))).trans hP1
  have hst := st34 hCP ⟨hs2.cells1, hs2.single⟩
  have hve := hs.ve
  unfold bS
  refine codeW_ok E0_ok E0_ro ?_
  simp only [z_0, flat, Option.isNone, aFieldAddr, aField, aBuiltin, cond_true, cond_false, cond_dec, if_true, if_false, List.length_cons, List.length_nil, forall_const, implies_true, List.append_nil, List.cons_append, List.nil_append, eq_self, Nat.reduceEqDiff, Nat.reduceAdd, Nat.reduceMul, Nat.reduceSub, Nat.reduceLT, Nat.reduceLeDiff, Nat.reduceBEq, reduceIte, reduceCtorEq, ht, hP1, bs34, happ, hst]
  refine ⟨_, _, _, rfl, ?_⟩
  have hgl : (C.set P2 (.row [v'] 1 false)).get l = some (.loop 13 T0 #[7] asS bS .busy none) := by rw [ASt.get_set, if_neg hne, fC.get l (by omega) (hnv _ hll), fN.get l (by omega) (by simp)]; exact hl1
  unfold endR
  rw [hgl]
  have fE : Fr [P2, l] C ((C.set P2 (.row [v'] 1 false)).set l (.loop 13 T0 #[7] asS bS .ready none)) := ⟨by rw [ASt.next_set, ASt.next_set]; exact Nat.le_refl _, fun b hb hn => by
    simp only [List.mem_cons, List.not_mem_nil, or_false, not_or] at hn
    rw [ASt.get_set, if_neg hn.2, ASt.get_set, if_neg hn.1]⟩
  refine ⟨_, _, rfl, rfl, by rw [ASt.get_set, if_pos rfl]; rfl, ⟨v', by rw [ASt.get_set, if_neg (Ne.symm hne), ASt.get_set, if_pos rfl], hs2.fr fE (fun b hb hm => ?_)⟩, ?_, fun b hb h1 h2 => ?_⟩
  · have := (hs2.low b hb).1
    simp only [List.mem_cons, List.not_mem_nil, or_false] at hm
    omega
  · rw [ASt.next_set, ASt.next_set]; omega
  · rw [ASt.get_set, if_neg h1, ASt.get_set, if_neg h2, fC.get b (by omega) (hnv b hb), fN.get b (by omega) (by simp), hset.get b (by omega) (by simpa using h1)]
theorem invS_yield {l : Nat} {args : List Value} {A : ASt} : aInvoke E0 (.yield l) args [] A = .enter (.round l) args A := congrArg (fun x => x) rfl
theorem rangeM {A : ASt} {m ck : Nat} {es : List MapEntry} (hm : A.get m = some (.map es ck)) : aRange E0 62 (.map (some m)) A = .val (.pointer (some ⟨A.next, 0, none⟩)) (A.new (.miter (some m) ck [] ck)) := range_u ti62 t62_desc hm
abbrev VT := VE ByteArray (TimD × Value)
def kstr (l : List VT) : List Value := l.map fun x => .string x.1
theorem iterS_spec {A : ASt} {c m l P2 : Nat} {T0 : Tmps} {es : List VT} {ck : Nat} (hc : A.get c = some (.row [.map (some m)] 1 false)) (hm : A.get m = some (.map (vEnts encTV es) ck)) (hok : VOK es ck) (hlen : es.length ≤ 1000)
    (hl : A.get l = some (.loop 13 T0 #[7] asS bS .ready none)) (hp : A.get P2 = some (.row [.slice none 0 0] 1 false)) (ht : tget T0 2 = .pointer (some ⟨P2, 0, none⟩)) (hne : l ≠ P2) (hml : m ≠ l) (hmP : m ≠ P2) (hll : l < A.next) (hPl : P2 < A.next) (hcl : c < A.next) (hmn : m < A.next) :
    CallW Z Tryz.prog 66 [.func (.yield l) #[] #[], .pointer (some ⟨c, 0, none⟩)] A (fun _ A' => ∃ (done : List VT) (v : Value), (∀ x ∈ done, x ∈ es) ∧ (∀ x ∈ es, x ∈ done) ∧ done.Nodup ∧ A'.get l = some (.loop 13 T0 #[7] asS bS .ready none) ∧ A'.get P2 = some (.row [v] 1 false) ∧ OwnS A' (A.next + 1) 1 done.length v (kstr done) ∧ A.next ≤ A'.next ∧ ∀ b, b < A.next → b ≠ l → b ≠ P2 → A'.get b = A.get b) := by
  refine CallW.of_code E0_ok E0_ro fn66 rfl (n := 14) rfl (rs := []) rfl (by simp) (codeW_ok E0_ok E0_ro ?_)
  simp only [z_0, flat, Option.isNone, aFieldAddr, aField, aBuiltin, cond_true, cond_false, cond_dec, if_true, if_false, List.length_cons, List.length_nil, forall_const, implies_true, List.append_nil, List.cons_append, List.nil_append, eq_self, Nat.reduceEqDiff, Nat.reduceAdd, Nat.reduceMul, Nat.reduceSub, Nat.reduceLT, Nat.reduceLeDiff, Nat.reduceBEq, reduceIte, reduceCtorEq, hc, rangeM hm]
  have hAr : ∀ b, b < A.next → (A.new (.miter (some m) ck [] ck)).get b = A.get b := fun b hb => by rw [ASt.get_new, if_neg (by omega)]
  refine CodeW.mono (Q := fun o => ∃ (T' : Tmps) (A' : ASt) (done : List VT) (v : Value), o = .fr ⟨.exit 0, T', A'⟩ ∧ (∀ x ∈ done, x ∈ es) ∧ (∀ x ∈ es, x ∈ done) ∧ done.Nodup ∧ A'.get l = some (.loop 13 T0 #[7] asS bS .ready none) ∧ A'.get P2 = some (.row [v] 1 false) ∧ OwnS A' (A.next + 1) 1 done.length v (kstr done) ∧ A.next + 1 ≤ A'.next ∧ ∀ b, b < A.next → b ≠ l → b ≠ P2 → A'.get b = A.get b) ?_ ?_
  · refine CodeW.mapLoopV (Γ := encTV) (it := 5) (r := A.next) (m := m) (ck := ck) (l := es) (J := fun done T A' => tget T 0 = .func (.yield l) #[] #[] ∧ ∃ v, A'.get l = some (.loop 13 T0 #[7] asS bS .ready none) ∧ A'.get P2 = some (.row [v] 1 false) ∧ OwnS A' (A.next + 1) 1 done.length v (kstr done) ∧ A.next + 1 ≤ A'.next ∧ ∀ b, b < A.next → b ≠ l → b ≠ P2 → A'.get b = A.get b) ?_ ?_ ?_
    · rintro done T A1 hi ⟨u0, v, h1, h2, h3, h4, h5⟩
      refine codeW_ok E0_ok E0_ro ?_
      have hit := hi.it
      simp only [z_0, flat, Option.isNone, aFieldAddr, aField, aBuiltin, cond_true, cond_false, cond_dec, if_true, if_false, List.length_cons, List.length_nil, forall_const, implies_true, List.append_nil, List.cons_append, List.nil_append, eq_self, Nat.reduceEqDiff, Nat.reduceAdd, Nat.reduceMul, Nat.reduceSub, Nat.reduceLT, Nat.reduceLeDiff, Nat.reduceBEq, reduceIte, reduceCtorEq, hit]
      refine nextV_v hok hi.sub hi.iter hi.map (fun x hx hn => ?_) (fun hfin => ?_)
      · have hent := entry_v (A := A1.set A.next (.miter (some m) ck ((done ++ [x]).map (·.2.2)) ck)) (r := A.next) (m := m) hok hx (by rw [ASt.get_set, if_pos rfl]) (by rw [ASt.get_set, if_neg (by omega)]; exact hi.map)
        have fB : Fr [A.next] A1 (A1.set A.next (.miter (some m) ck ((done ++ [x]).map (·.2.2)) ck)) := ⟨by rw [ASt.next_set]; exact Nat.le_refl _, fun b hb hn => by rw [ASt.get_set, if_neg (by simpa using hn)]⟩
        have hB : ∀ b, (A1.set A.next (.miter (some m) ck ((done ++ [x]).map (·.2.2)) ck)).get b = if b = A.next then some (.miter (some m) ck ((done ++ [x]).map (·.2.2)) ck) else A1.get b := fun b => by rw [ASt.get_set]
        have hBn : (A1.set A.next (.miter (some m) ck ((done ++ [x]).map (·.2.2)) ck)).next = A1.next := rfl
        generalize A1.set A.next (.miter (some m) ck ((done ++ [x]).map (·.2.2)) ck) = B at hent hB hBn fB ⊢
        have hdl : done.length ≤ 1000 := Nat.le_trans (vnodup_le hi.nodup hi.sub) hlen
        have hBl : B.get l = some (.loop 13 T0 #[7] asS bS .ready none) := by rw [hB, if_neg (by omega)]; exact h1
        have hBP : B.get P2 = some (.row [v] 1 false) := by rw [hB, if_neg (by omega)]; exact h2
        have hBs := h3.fr fB (fun b hb hm => by simp only [List.mem_singleton] at hm; have := (h3.low b hb).1; omega)
        simp only [z_0, flat, Option.isNone, aFieldAddr, aField, aBuiltin, cond_true, cond_false, cond_dec, if_true, if_false, List.length_cons, List.length_nil, forall_const, implies_true, List.append_nil, List.cons_append, List.nil_append, eq_self, Nat.reduceEqDiff, Nat.reduceAdd, Nat.reduceMul, Nat.reduceSub, Nat.reduceLT, Nat.reduceLeDiff, Nat.reduceBEq, reduceIte, reduceCtorEq, hit, hent, u0, invS_yield]
        refine CallT.mono (roundS_spec hBl hBP ht hBs hne (by omega) (by omega) (by omega) hdl) ?_
        rintro _ C ⟨rfl, k1, ⟨v', k2, k3⟩, k4, k5⟩
        simp only [z_0, flat, Option.isNone, aFieldAddr, aField, aBuiltin, cond_true, cond_false, cond_dec, if_true, if_false, List.length_cons, List.length_nil, forall_const, implies_true, List.append_nil, List.cons_append, List.nil_append, eq_self, Nat.reduceEqDiff, Nat.reduceAdd, Nat.reduceMul, Nat.reduceSub, Nat.reduceLT, Nat.reduceLeDiff, Nat.reduceBEq, reduceIte, reduceCtorEq, un_not]
        refine ⟨x, hx, hn, hi.step hx hn (by simp only [tget_put, Nat.reduceEqDiff, if_false, reduceIte]) ?_ ?_, ?_, v', k1, k2, ?_, by omega, fun b hb hb1 hb2 => ?_⟩
        · rw [k5 _ (by omega) (by omega) (by omega), hB, if_pos rfl]
        · rw [k5 _ (by omega) hml hmP, hB, if_neg (by omega)]
        · first | exact u0 | (simp only [tget_put, Nat.reduceEqDiff, if_false, reduceIte]; exact u0) | rfl
        · unfold kstr; rw [List.map_append, List.length_append]; exact k3
        · rw [k5 b (by omega) hb1 hb2, hB, if_neg (by omega)]; exact h5 b hb hb1 hb2
      · simp only [z_0, flat, Option.isNone, aFieldAddr, aField, aBuiltin, cond_true, cond_false, cond_dec, if_true, if_false, List.length_cons, List.length_nil, forall_const, implies_true, List.append_nil, List.cons_append, List.nil_append, eq_self, Nat.reduceEqDiff, Nat.reduceAdd, Nat.reduceMul, Nat.reduceSub, Nat.reduceLT, Nat.reduceLeDiff, Nat.reduceBEq, reduceIte, reduceCtorEq]
        exact ⟨_, _, done, v, rfl, hi.sub, hfin, hi.nodup, h1, h2, h3, h4, h5⟩
    · refine ⟨by simp only [tget_put, Nat.reduceEqDiff, if_false, if_true, reduceIte], by rw [ASt.get_new, if_pos rfl]; rfl, by rw [hAr _ hmn]; exact hm, by simp, .nil⟩
    · refine ⟨by simp only [tget_put, Nat.reduceEqDiff, if_false, if_true, reduceIte], .slice none 0 0, by rw [hAr _ hll]; exact hl, by rw [hAr _ hPl]; exact hp, .inl ⟨rfl, rfl, rfl⟩, by rw [ASt.next_new]; omega, fun b hb _ _ => hAr b hb⟩
  · rintro o ⟨T', A', done, v, rfl, k1, k2, knd, k3, k4, k5, k6, k7⟩
    simp only [z_0, flat, Option.isNone, aFieldAddr, aField, aBuiltin, cond_true, cond_false, cond_dec, if_true, if_false, List.length_cons, List.length_nil, forall_const, implies_true, List.append_nil, List.cons_append, List.nil_append, eq_self, Nat.reduceEqDiff, Nat.reduceAdd, Nat.reduceMul, Nat.reduceSub, Nat.reduceLT, Nat.reduceLeDiff, Nat.reduceBEq, reduceIte, reduceCtorEq]
    exact ⟨done, v, k1, k2, knd, k3, k4, k5, by omega, k7⟩
theorem boxS34 {v : Value} (h : v = .slice none 0 0) : aBox E0 34 v = some (.row [v] 1 false, ptrTo) := by
  subst h
  simp only [aBox, w_so]; rfl
theorem box62 {m : Nat} : aBox E0 62 (.map (some m)) = some (.row [.map (some m)] 1 false, ptrTo) := by
  simp only [aBox, w_tb]; rfl
def GatheredS (es : List VT) (A : ASt) (v : Value) (A' : ASt) : Prop := ∃ (done : List VT) (lo : Nat), (∀ x ∈ done, x ∈ es) ∧ (∀ x ∈ es, x ∈ done) ∧ done.Nodup ∧ OwnS A' lo 1 done.length v (kstr done) ∧ A.next ≤ lo ∧ Fr [] A A'
theorem appendS_spec {A : ASt} {c m : Nat} {es : List VT} {ck : Nat} (hc : A.get c = some (.row [.map (some m)] 1 false)) (hm : A.get m = some (.map (vEnts encTV es) ck)) (hok : VOK es ck) (hlen : es.length ≤ 1000) (hcl : c < A.next) (hmn : m < A.next) :
    CallW Z Tryz.prog 87 [.slice none 0 0, .func (.func 66) #[] #[.pointer (some ⟨c, 0, none⟩)]] A (GatheredS es A) := by
  refine CallW.of_code E0_ok E0_ro fn87 rfl (n := 13) rfl (rs := [.tmp 4]) rfl (by simp) (codeW_ok E0_ok E0_ro ?_)
  simp only [z_0, flat, Option.isNone, aFieldAddr, aField, aBuiltin, cond_true, cond_false, cond_dec, if_true, if_false, List.length_cons, List.length_nil, forall_const, implies_true, List.append_nil, List.cons_append, List.nil_append, eq_self, Nat.reduceEqDiff, Nat.reduceAdd, Nat.reduceMul, Nat.reduceSub, Nat.reduceLT, Nat.reduceLeDiff, Nat.reduceBEq, reduceIte, reduceCtorEq, boxS34, ptrTo, c_range]
  have hB : ∀ b, b < A.next → (A.new (.row [.slice none 0 0] 1 false)).get b = A.get b := fun b hb => by rw [ASt.get_new, if_neg (by omega)]
  have hBP : (A.new (.row [.slice none 0 0] 1 false)).get A.next = some (.row [.slice none 0 0] 1 false) := by rw [ASt.get_new, if_pos rfl]
  have hBn : (A.new (.row [.slice none 0 0] 1 false)).next = A.next + 1 := by rw [ASt.next_new]
  generalize A.new (.row [.slice none 0 0] 1 false) = B at hB hBP hBn ⊢
  generalize hT : Tr.put _ 6 _ = T
  have t6 : tget T 6 = .func (.func 66) #[] #[.pointer (some ⟨c, 0, none⟩)] := by rw [← hT]; simp only [tget_put, Nat.reduceEqDiff, if_false, if_true, reduceIte]
  have t2 : tget T 2 = .pointer (some ⟨A.next, 0, none⟩) := by rw [← hT]; simp only [tget_put, Nat.reduceEqDiff, if_false, if_true, reduceIte]
  clear hT
  have hC : ∀ b, b < B.next → (B.new (.loop 13 T #[7] asS bS .ready none)).get b = B.get b := fun b hb => by rw [ASt.get_new, if_neg (by omega)]
  have hCl : (B.new (.loop 13 T #[7] asS bS .ready none)).get B.next = some (.loop 13 T #[7] asS bS .ready none) := by rw [ASt.get_new, if_pos rfl]
  have hCn : (B.new (.loop 13 T #[7] asS bS .ready none)).next = B.next + 1 := by rw [ASt.next_new]
  have hit := iterS_spec (Z := Z) (A := B.new (.loop 13 T #[7] asS bS .ready none)) (c := c) (m := m) (l := B.next) (P2 := A.next) (T0 := T) (es := es) (ck := ck) (by rw [hC _ (by omega), hB _ hcl]; exact hc) (by rw [hC _ (by omega), hB _ hmn]; exact hm) hok hlen hCl (by rw [hC _ (by omega)]; exact hBP) t2 (by omega) (by omega) (by omega) (by omega) (by omega) (by omega) (by omega)
  refine CodeW.rangeFn E0_ok E0_ro (f := 66) (first := #[]) (captured := #[.pointer (some ⟨c, 0, none⟩)]) (by simp only [ev, t6]) rfl (by intro args A; simp only [aEnter, fn66]) ?_
  refine CallT.mono (CallT.of_call hit) ?_
  rintro r D ⟨done, v, h1, h2, hnd, h3, h4, h5, h6, h7⟩
  refine ⟨_, _, _, _, _, _, h3, rfl, ?_⟩
  have h4' : (D.set B.next (.loop 13 T #[7] asS bS .exhausted none)).get A.next = some (.row [v] 1 false) := by rw [ASt.get_set, if_neg (by omega)]; exact h4
  have fD : Fr [B.next] D (D.set B.next (.loop 13 T #[7] asS bS .exhausted none)) := ⟨by rw [ASt.next_set]; exact Nat.le_refl _, fun b hb hn => by rw [ASt.get_set, if_neg (by simpa using hn)]⟩
  have h5' := h5.fr fD (fun b hb hm => by simp only [List.mem_singleton] at hm; have := (h5.low b hb).1; omega)
  have hfr : Fr [] A (D.set B.next (.loop 13 T #[7] asS bS .exhausted none)) := ⟨by rw [ASt.next_set]; omega, fun b hb _ => by rw [ASt.get_set, if_neg (by omega), h7 b (by omega) (by omega) (by omega), hC _ (by omega), hB _ hb]⟩
  have hve := h5.ve
  generalize D.set B.next (.loop 13 T #[7] asS bS .exhausted none) = F at h4' h5' hfr ⊢
  simp only [z_0, flat, Option.isNone, aFieldAddr, aField, aBuiltin, cond_true, cond_false, cond_dec, if_true, if_false, List.length_cons, List.length_nil, forall_const, implies_true, List.append_nil, List.cons_append, List.nil_append, eq_self, Nat.reduceEqDiff, Nat.reduceAdd, Nat.reduceMul, Nat.reduceSub, Nat.reduceLT, Nat.reduceLeDiff, Nat.reduceBEq, reduceIte, reduceCtorEq, t2, h4']
  exact ⟨done, _, h1, h2, hnd, h5', by omega, hfr⟩
theorem collectS_spec {A : ASt} {c m : Nat} {es : List VT} {ck : Nat} (hc : A.get c = some (.row [.map (some m)] 1 false)) (hm : A.get m = some (.map (vEnts encTV es) ck)) (hok : VOK es ck) (hlen : es.length ≤ 1000) (hcl : c < A.next) (hmn : m < A.next) :
    CallW Z Tryz.prog 64 [.func (.func 66) #[] #[.pointer (some ⟨c, 0, none⟩)]] A (GatheredS es A) := by
  refine CallW.of_code E0_ok E0_ro fn64 rfl (n := 5) rfl (rs := [.tmp 2]) rfl (by simp) (codeW_ok E0_ok E0_ro ?_)
  simp only [z_0, flat, Option.isNone, aFieldAddr, aField, aBuiltin, cond_true, cond_false, cond_dec, if_true, if_false, List.length_cons, List.length_nil, forall_const, implies_true, List.append_nil, List.cons_append, List.nil_append, eq_self, Nat.reduceEqDiff, Nat.reduceAdd, Nat.reduceMul, Nat.reduceSub, Nat.reduceLT, Nat.reduceLeDiff, Nat.reduceBEq, reduceIte, reduceCtorEq]
  refine CallT.mono (CallT.of_call (appendS_spec hc hm hok hlen hcl hmn)) ?_
  intro v A' h
  simp only [z_0, flat, Option.isNone, aFieldAddr, aField, aBuiltin, cond_true, cond_false, cond_dec, if_true, if_false, List.length_cons, List.length_nil, forall_const, implies_true, List.append_nil, List.cons_append, List.nil_append, eq_self, Nat.reduceEqDiff, Nat.reduceAdd, Nat.reduceMul, Nat.reduceSub, Nat.reduceLT, Nat.reduceLeDiff, Nat.reduceBEq, reduceIte, reduceCtorEq]
  exact h
theorem keys_spec {A : ASt} {m : Nat} : CallW Z Tryz.prog 37 [.map (some m)] A (fun v A' => v = .func (.func 66) #[] #[.pointer (some ⟨A.next, 0, none⟩)] ∧ A' = A.new (.row [.map (some m)] 1 false)) := by
  refine CallW.of_code E0_ok E0_ro fn37 rfl (n := 4) rfl (rs := [.tmp 2]) rfl (by simp) (codeW_ok E0_ok E0_ro ?_)
  simp only [z_0, flat, Option.isNone, aFieldAddr, aField, aBuiltin, cond_true, cond_false, cond_dec, if_true, if_false, List.length_cons, List.length_nil, forall_const, implies_true, List.append_nil, List.cons_append, List.nil_append, eq_self, Nat.reduceEqDiff, Nat.reduceAdd, Nat.reduceMul, Nat.reduceSub, Nat.reduceLT, Nat.reduceLeDiff, Nat.reduceBEq, reduceIte, reduceCtorEq, box62, ptrTo]
end Go.Proofs.YtgcffmhpjphefaaGreatDoor

/- A table of timers in general: the sort of names. -/
namespace Go.Proofs.YtgcffmhpjphefaaGreatDoor
open Go Go.AE Go.Sort
set_option maxRecDepth 10000
variable {Z : Go.AE.Road}

theorem bytesLt_iff : ∀ (a b : List UInt8), bytesLt a b = true ↔ a < b
  | _, [] => by
    constructor
    · intro h
      unfold bytesLt at h
      cases h
    · intro h
      exact absurd h (List.not_lt_nil _)
  | [], b :: l => by
    constructor
    · intro _; exact List.nil_lt_cons b l
    · intro _; rfl
  | a :: l, b :: r => by
    unfold bytesLt
    rw [List.cons_lt_cons_iff]
    by_cases e : a.toNat = b.toNat
    · have eab : a = b := UInt8.toNat_inj.1 e
      rw [e, Nat.beq_refl, cond_true, bytesLt_iff l r]
      subst eab
      constructor
      · intro h; exact .inr ⟨rfl, h⟩
      · rintro (h | h)
        · exact absurd h (UInt8.lt_irrefl _)
        · exact h.2
    · have hb : Nat.beq a.toNat b.toNat = false := by rw [nbeq]; simp [e]
      rw [hb, cond_false, nblt, decide_eq_true_eq]
      constructor
      · intro h; exact .inl (UInt8.lt_iff_toNat_lt.2 h)
      · rintro (h | h)
        · exact UInt8.lt_iff_toNat_lt.1 h
        · exact absurd (congrArg UInt8.toNat h.1) e
def strC (l : List ByteArray) : List Value := l.map Value.string
theorem sortS_spec {A : ASt} {b cap sz : Nat} {tl : Bool} {ts : List ByteArray} {rest : List Value} (hb : A.get b = some (.row (strC ts ++ rest) sz tl)) (hne : ts ≠ []) (hlen : ts.length < 4611686018427387904) :
    CallW Z Tryz.prog 65 [.slice (some ⟨b, 0, none⟩) ts.length cap] A (fun v A' => ∃ ts', A' = A.set b (.row (strC ts' ++ rest) sz tl) ∧ ts'.Perm ts ∧ ts'.Pairwise fun x y => blt y x = false) := by
  intro ρ w args' hR ha
  have hrep := Z.rep hR
  obtain ⟨L, hL, cells, el, lo, hi, e1, e2, e3, e4, e5, e6⟩ := hrep.obj b _ hb
  obtain ⟨l⟩ := args'
  obtain ⟨cap', rfl⟩ : ∃ cap', l = [.slice (some ⟨L.B, L.o + 0, none⟩) ts.length cap'] := by
    have ha : VsRel ρ _ l := ha
    cases ha with
    | cons h1 h2 =>
      cases h2
      generalize hs : Value.slice (some ⟨b, 0, none⟩) ts.length cap = s at h1
      cases h1 <;> first | cases hs | skip
      · rename_i L' hL' _
        rw [hL] at hL'
        cases hL'
        exact ⟨_, rfl⟩
      · rename_i L' hL' _ _
        rw [hL] at hL'
        cases hL'
        exact ⟨_, rfl⟩
  have hsl : ∀ l : List ByteArray, (strC l).length = l.length := fun l => by unfold strC; rw [List.length_map]
  have hn2 := hsl ts
  have hin : ∀ j, j < ts.length → L.o + j < cells.size := fun j hj => by
    simp only [List.length_append] at e4; omega
  have henc : ∀ x : ByteArray, encStr x.data.toList = .string x := fun x => by
    show Value.string ⟨x.data.toList.toArray⟩ = .string x
    simp
  have hcell : ∀ j x, ts[j]? = some x → cells[L.o + j]? = some (.string x) := fun j x hx => by
    have hj : j < ts.length := (List.getElem?_eq_some_iff.1 hx).1
    obtain ⟨v', h1, h2⟩ := e5 j (.string x) (by rw [List.getElem?_append_left (by omega)]; unfold strC; rw [List.getElem?_map, hx]; rfl)
    rw [h1]
    congr 1
    exact flat_eq rfl h2
  let ss := ts.map fun x => x.data.toList
  have hss : ss.length = ts.length := List.length_map ..
  have hH : _root_.Go.Sort.Holds encStr w L.B (L.o + 0) ss.toArray := by
    intro j hj
    have hj2 : j < ts.length := by simpa [ss] using hj
    have e : ss.toArray[j]! = ts[j].data.toList := by simp [ss, hj2]
    refine ⟨?_, ?_⟩
    · rw [e, henc]
      simp only [World.cell?, e1, Nat.add_zero]
      simpa using hcell j _ (List.getElem?_eq_getElem hj2)
    · simp only [World.frozen?, e1, Nat.add_zero]
      have := e6 (L.o + j) (by omega) (by
        simp only [AObj.hi, List.length_append]
        have := hin j hj2
        split <;> omega)
      simpa using this
  have hblk : L.B < w.heap.size := (Array.getElem?_eq_some_iff.1 e1).1
  have hcon := Any.slices_Sort_string Tryz.sortS L.B (L.o + 0) cap' ss w hH hblk (by rw [hss]; exact hlen)
  have h38 : Tryz.sortS_ren.f 190 = 65 := rfl
  rw [h38, hss] at hcon
  refine hcon.mono ?_
  rintro e w' ⟨rfl, n, os, rfl⟩
  have hperm : (ss.mergeSort fun x y => decide (x ≤ y)).Perm ss := List.mergeSort_perm _ _
  have hsorted : (ss.mergeSort fun x y => decide (x ≤ y)).Pairwise fun x y => decide (x ≤ y) = true := List.pairwise_mergeSort (fun a b c h1 h2 => by
    simp only [decide_eq_true_eq] at h1 h2 ⊢
    exact List.le_trans h1 h2) (fun a b => by
    simp only [Bool.or_eq_true, decide_eq_true_eq]
    exact List.le_total a b) ss
  generalize (ss.mergeSort fun x y => decide (x ≤ y)) = zs at hperm hsorted ⊢
  let ts' : List ByteArray := zs.map fun z => ⟨z.toArray⟩
  have hlz : zs.length = ts.length := by rw [hperm.length_eq, hss]
  have hlts : ts'.length = ts.length := by rw [List.length_map, hlz]
  have hp' : ts'.Perm ts := by
    have h1 : (ts'.Perm (ss.map fun z => (⟨z.toArray⟩ : ByteArray))) := hperm.map _
    have h2 : (ss.map fun z => (⟨z.toArray⟩ : ByteArray)) = ts := by
      show (ts.map fun x => x.data.toList).map (fun z => (⟨z.toArray⟩ : ByteArray)) = ts
      rw [List.map_map]
      conv => rhs; rw [← List.map_id ts]
      refine List.map_congr_left fun x _ => ?_
      simp
    rwa [h2] at h1
  have hs' : ts'.Pairwise fun x y => blt y x = false := by
    rw [List.pairwise_map]
    refine hsorted.imp ?_
    intro x y h
    rw [decide_eq_true_eq] at h
    unfold blt
    cases hb2 : bytesLt (List.toArray y).toList (List.toArray x).toList with
    | false => rfl
    | true =>
      have := (bytesLt_iff _ _).1 hb2
      simp only at this
      exact absurd this (by simpa using h)
  have hgz : ∀ i x, ts'[i]? = some x → encStr zs.toArray[i]! = .string x := fun i x hx => by
    rw [List.getElem?_map] at hx
    cases hz : zs[i]? with
    | none => rw [hz] at hx; cases hx
    | some z =>
      rw [hz] at hx
      cases hx
      have hi : i < zs.length := (List.getElem?_eq_some_iff.1 hz).1
      have : zs.toArray[i]! = z := by
        simp [hi]
        exact (List.getElem?_eq_some_iff.1 hz).2
      rw [this]
  refine ⟨.tuple #[], _, .tuple #[], ρ, ⟨ts', rfl, hp', hs'⟩, rfl, .refl_closed rfl, ?_⟩
  have hn2' := hsl ts'
  have st1 : Step ρ A w ρ A (Sort.ahead w n) := Step.of_below hrep ⟨rfl, rfl, rfl, Nat.le_refl _, fun _ _ => rfl⟩ (Nat.le_add_right _ _)
  have hcells' : (putRow encStr (Sort.ahead w n) L.B (L.o + 0) zs.toArray).heap[L.B]? = some (.cells (putCells encStr (L.o + 0) zs.toArray cells) el (lo, hi)) := by
    simp only [putRow, mapBlock, Sort.ahead, Array.getElem?_modify, if_true, e1, Option.map_some, onCells]
  have hother : ∀ B, B ≠ L.B → (putRow encStr (Sort.ahead w n) L.B (L.o + 0) zs.toArray).heap[B]? = (Sort.ahead w n).heap[B]? := fun B hB => by
    simp only [putRow, mapBlock, Sort.ahead, Array.getElem?_modify, if_neg (Ne.symm hB)]
  have hput : ∀ j, (putCells encStr (L.o + 0) zs.toArray cells)[j]? = if L.o ≤ j ∧ j < L.o + ts.length then (if j < cells.size then some (encStr zs.toArray[j - L.o]!) else none) else cells[j]? := fun j => by
    simp only [putCells, Array.getElem?_mapIdx, Nat.add_zero, List.size_toArray, hlz]
    by_cases hj : j < cells.size
    · have e : cells[j]? = some cells[j] := by simp [hj]
      simp only [e, Option.map_some]
      by_cases hc : L.o ≤ j ∧ j < L.o + ts.length
      · rw [if_pos hc, if_pos hc, if_pos hj]
      · rw [if_neg hc, if_neg hc]
    · have e : cells[j]? = none := by simp; omega
      simp [e, hj]
  have hsize : (putCells encStr (L.o + 0) zs.toArray cells).size = cells.size := by simp [putCells]
  generalize putCells encStr (L.o + 0) zs.toArray cells = cells' at hcells' hput hsize
  have hlen' : (strC ts' ++ rest).length = (strC ts ++ rest).length := by simp only [List.length_append]; omega
  have hrow : ORel ρ (.row (strC ts' ++ rest) sz tl) L (putRow encStr (Sort.ahead w n) L.B (L.o + 0) zs.toArray) := by
    refine ⟨cells', el, lo, hi, hcells', by rw [hsize]; exact e2, e3, by rw [hlen']; exact e4, fun i v hv => ?_, fun j h1 h2 => e6 j h1 ?_⟩
    · by_cases hi : i < ts.length
      · have hti : ts'[i]? = some ts'[i] := List.getElem?_eq_getElem (by omega)
        rw [List.getElem?_append_left (by omega)] at hv
        unfold strC at hv
        rw [List.getElem?_map, hti] at hv
        cases hv
        refine ⟨_, ?_, .refl_flat (v := .string ts'[i]) rfl⟩
        rw [hput, if_pos ⟨by omega, by omega⟩, if_pos (hin i hi), Nat.add_sub_cancel_left, hgz i _ hti]
      · rw [List.getElem?_append_right (by omega)] at hv
        obtain ⟨v', h1, h2⟩ := e5 i v (by rw [List.getElem?_append_right (by omega)]; rw [← hv]; congr 1; omega)
        exact ⟨v', by rw [hput, if_neg (by omega)]; exact h1, h2⟩
    · simp only [AObj.hi] at h2 ⊢
      rw [hlen'] at h2
      exact h2
  have st2 : Step ρ A (Sort.ahead w n) ρ (A.set b (.row (strC ts' ++ rest) sz tl)) (putRow encStr (Sort.ahead w n) L.B (L.o + 0) zs.toArray) :=
    Step.set st1.rep hb hL hrow (by simp only [AObj.hi, hlen']; exact Nat.le_refl _) ⟨rfl, rfl, rfl, by simp [putRow, mapBlock], Nat.le_refl _⟩ hother (.inr ⟨cells, cells', el, (lo, hi), e1, hcells', hsize, fun j hj => by
      rw [hput, if_neg]
      intro hc
      refine hj ⟨hc.1, ?_⟩
      simp only [AObj.hi, List.length_append]
      have := hin (j - L.o) (by omega)
      split <;> omega⟩)
  have st3 : Step ρ (A.set b (.row (strC ts' ++ rest) sz tl)) (putRow encStr (Sort.ahead w n) L.B (L.o + 0) zs.toArray) ρ (A.set b (.row (strC ts' ++ rest) sz tl)) (grow (putRow encStr (Sort.ahead w n) L.B (L.o + 0) zs.toArray) os) :=
    Step.of_below st2.rep ⟨rfl, rfl, rfl, by simp [grow], fun k hk => by simp only [grow]; rw [Array.getElem?_append_left hk]⟩ (Nat.le_refl _)
  exact (st1.trans st2).trans st3
theorem sortS_none {A : ASt} {p : Option Addr} {cap : Nat} : CallW Z Tryz.prog 65 [.slice p 0 cap] A (fun v A' => A' = A) := by
  intro ρ w args' hR ha
  obtain ⟨p', cap', rfl⟩ : ∃ p' cap', args' = #[.slice p' 0 cap'] := by
    obtain ⟨l⟩ := args'
    have ha : VsRel ρ _ l := ha
    cases ha with
    | cons h1 h2 =>
      cases h2
      cases h1 <;> exact ⟨_, _, rfl⟩
  have hcon := Any.slices_Sort_string_none Tryz.sortS p' cap' w
  have h38 : Tryz.sortS_ren.f 190 = 65 := rfl
  rw [h38] at hcon
  refine hcon.mono ?_
  rintro e w' ⟨rfl, rfl⟩
  exact ⟨.tuple #[], A, .tuple #[], ρ, rfl, rfl, .refl_closed rfl, .refl (Z.rep hR)⟩
end Go.Proofs.YtgcffmhpjphefaaGreatDoor

/- A table of timers in general: all of them, by their names. -/
namespace Go.Proofs.YtgcffmhpjphefaaGreatDoor
open Go Go.AE
set_option maxRecDepth 10000
set_option maxHeartbeats 8000000
variable {Z : Go.AE.Road} {s : Spans}

def NamesOf (es : List VT) (ns : List ByteArray) : Prop := (ns.Pairwise fun x y => blt x y = true) ∧ ∀ k, k ∈ ns ↔ ∃ x ∈ es, x.1 = k
theorem sortedS_spec {A : ASt} {c m : Nat} {es : List VT} {ck : Nat} (hc : A.get c = some (.row [.map (some m)] 1 false)) (hm : A.get m = some (.map (vEnts encTV es) ck)) (hok : VOK es ck) (hlen : es.length ≤ 1000) (hcl : c < A.next) (hmn : m < A.next) :
    CallW Z Tryz.prog 36 [.func (.func 66) #[] #[.pointer (some ⟨c, 0, none⟩)]] A (fun v A' => ∃ ns, NamesOf es ns ∧ OwnS A' A.next 1 ns.length v (strC ns) ∧ Fr [] A A') := by
  refine CallW.of_code E0_ok E0_ro fn36 rfl (n := 9) rfl (rs := [.tmp 2]) rfl (by simp) (codeW_ok E0_ok E0_ro ?_)
  simp only [z_0, flat, Option.isNone, aFieldAddr, aField, aBuiltin, cond_true, cond_false, cond_dec, if_true, if_false, List.length_cons, List.length_nil, forall_const, implies_true, List.append_nil, List.cons_append, List.nil_append, eq_self, Nat.reduceEqDiff, Nat.reduceAdd, Nat.reduceMul, Nat.reduceSub, Nat.reduceLT, Nat.reduceLeDiff, Nat.reduceBEq, reduceIte, reduceCtorEq]
  refine CallT.mono (CallT.of_call (collectS_spec hc hm hok hlen hcl hmn)) ?_
  rintro v B ⟨done, lo, h1, h2, hnd, hO, hlo, fB⟩
  have hkn := (vget_all hok h1 h2 hnd).1
  have hks : kstr done = strC (done.map (·.1)) := by
    unfold kstr strC
    rw [List.map_map]; rfl
  have hO0 := hO
  rw [hks] at hO
  have hdl : done.length = (done.map (·.1)).length := by rw [List.length_map]
  rw [hdl] at hO
  generalize hkd : done.map (·.1) = ks at hO hkn
  have hmem : ∀ k, k ∈ ks ↔ ∃ x ∈ es, x.1 = k := fun k => by
    rw [← hkd, List.mem_map]
    constructor
    · rintro ⟨x, hx, e⟩; exact ⟨x, h1 x hx, e⟩
    · rintro ⟨x, hx, e⟩; exact ⟨x, h2 x hx, e⟩
  have hdone1 : done.length ≤ 1000 := Nat.le_trans (vnodup_le hnd h1) hlen
  have hks1 : ks.length ≤ 1000 := by rw [← hkd, List.length_map]; exact hdone1
  have hve := hO.ve
  -- what the sort leaves
  have fin : ∀ (C : ASt) (ns : List ByteArray), ns.Perm ks → (ns.Pairwise fun x y => blt y x = false) → NamesOf es ns := fun C ns hp hs => by
    refine ⟨?_, fun k => by rw [hp.mem_iff]; exact hmem k⟩
    have hn : ns.Nodup := (hp.nodup_iff).2 hkn
    refine (List.Pairwise.and hs hn).imp ?_
    rintro a b ⟨h3, h4⟩
    cases hb : blt a b with
    | true => rfl
    | false => exact absurd (blt_tri hb h3) h4
  have hO' := hO.lower hlo
  rcases hO with ⟨h3, h4, rfl⟩ | ⟨b, cap, tl, rfl, hb, hlb, hbn, hcl2, hcap⟩
  · have hk0 : ks = [] := List.eq_nil_of_length_eq_zero h3
    subst hk0
    simp only [z_0, flat, Option.isNone, aFieldAddr, aField, aBuiltin, cond_true, cond_false, cond_dec, if_true, if_false, List.length_cons, List.length_nil, forall_const, implies_true, List.append_nil, List.cons_append, List.nil_append, eq_self, Nat.reduceEqDiff, Nat.reduceAdd, Nat.reduceMul, Nat.reduceSub, Nat.reduceLT, Nat.reduceLeDiff, Nat.reduceBEq, reduceIte, reduceCtorEq]
    refine CallT.mono (CallT.of_call sortS_none) ?_
    rintro _ _ rfl
    simp only [z_0, flat, Option.isNone, aFieldAddr, aField, aBuiltin, cond_true, cond_false, cond_dec, if_true, if_false, List.length_cons, List.length_nil, forall_const, implies_true, List.append_nil, List.cons_append, List.nil_append, eq_self, Nat.reduceEqDiff, Nat.reduceAdd, Nat.reduceMul, Nat.reduceSub, Nat.reduceLT, Nat.reduceLeDiff, Nat.reduceBEq, reduceIte, reduceCtorEq]
    exact ⟨[], fin A [] .rfl .nil, .inl ⟨rfl, rfl, rfl⟩, fB⟩
  · by_cases hk0 : ks = []
    · subst hk0
      simp only [z_0, flat, Option.isNone, aFieldAddr, aField, aBuiltin, cond_true, cond_false, cond_dec, if_true, if_false, List.length_cons, List.length_nil, forall_const, implies_true, List.append_nil, List.cons_append, List.nil_append, eq_self, Nat.reduceEqDiff, Nat.reduceAdd, Nat.reduceMul, Nat.reduceSub, Nat.reduceLT, Nat.reduceLeDiff, Nat.reduceBEq, reduceIte, reduceCtorEq]
      refine CallT.mono (CallT.of_call sortS_none) ?_
      rintro _ _ rfl
      simp only [z_0, flat, Option.isNone, aFieldAddr, aField, aBuiltin, cond_true, cond_false, cond_dec, if_true, if_false, List.length_cons, List.length_nil, forall_const, implies_true, List.append_nil, List.cons_append, List.nil_append, eq_self, Nat.reduceEqDiff, Nat.reduceAdd, Nat.reduceMul, Nat.reduceSub, Nat.reduceLT, Nat.reduceLeDiff, Nat.reduceBEq, reduceIte, reduceCtorEq]
      exact ⟨[], fin A [] .rfl .nil, hO', fB⟩
    · simp only [z_0, flat, Option.isNone, aFieldAddr, aField, aBuiltin, cond_true, cond_false, cond_dec, if_true, if_false, List.length_cons, List.length_nil, forall_const, implies_true, List.append_nil, List.cons_append, List.nil_append, eq_self, Nat.reduceEqDiff, Nat.reduceAdd, Nat.reduceMul, Nat.reduceSub, Nat.reduceLT, Nat.reduceLeDiff, Nat.reduceBEq, reduceIte, reduceCtorEq]
      refine CallT.mono (CallT.of_call (sortS_spec (rest := []) (by rw [List.append_nil]; exact hb) hk0 (by omega))) ?_
      rintro _ _ ⟨ns, rfl, hp, hs⟩
      simp only [z_0, flat, Option.isNone, aFieldAddr, aField, aBuiltin, cond_true, cond_false, cond_dec, if_true, if_false, List.length_cons, List.length_nil, forall_const, implies_true, List.append_nil, List.cons_append, List.nil_append, eq_self, Nat.reduceEqDiff, Nat.reduceAdd, Nat.reduceMul, Nat.reduceSub, Nat.reduceLT, Nat.reduceLeDiff, Nat.reduceBEq, reduceIte, reduceCtorEq]
      have hle : ns.length = ks.length := hp.length_eq
      refine ⟨ns, fin A ns hp hs, .inr ⟨b, cap, tl, by rw [hle], by rw [ASt.get_set, if_pos rfl], by omega, by rw [ASt.next_set]; exact hbn, by unfold strC; rw [List.length_map]; omega, by rw [hle]; exact hcap⟩, ⟨by rw [ASt.next_set]; exact fB.next, fun b' hb' _ => by rw [ASt.get_set, if_neg (by omega), fB.get b' hb' (by simp)]⟩⟩
structure AllOf (D : TD) (l : List TimD) : Prop where
  ord : (l.map (·.name)).Pairwise fun x y => blt x y = true
  mem : ∀ t, t ∈ l ↔ D t.name = some t
theorem ix34 {b i n c : Nat} (h : i < n) : aIndexAddr E0 34 (.slice (some ⟨b, 0, none⟩) n c) (.int .i64 (i : Int)) = some (.pointer (some ⟨b, i, none⟩)) := by
  have := indexAddr_sl (A := { heap := .e, next := 0 }) ti34 t34_desc ti9 (kd := .i64) (k := i) (b := b) (off := 0) (len := n) (cap := c) h
  rwa [t9_size, Nat.zero_add, Nat.mul_one] at this
theorem strC_nth {ns : List ByteArray} {i : Nat} {k : ByteArray} (h : ns[i]? = some k) : nth (strC ns) i = some (.string k) := by
  rw [nth_eq]
  unfold strC
  rw [List.getElem?_map, h]
  rfl
theorem tallC_spec (hro : RoadS Z E0 s) {A : ASt} {x m q e w : Nat} {v : Value} {W all : Nat} {ms : List Nat} {now n : Nat} {D : TD} {S : Nat → Prop} (h : TabAt s A x m q e w v W all ms now n D S) (hn : n ≤ 1000) :
    CallW Z Tryz.prog 12 [.pointer (some ⟨x, 0, none⟩)] A (fun r A' => ∃ P, TimsAt s A' A.next r P ∧ AllOf D (P.map (·.1)) ∧ Fr [] A A') := by
  refine CallW.assume hro fun hnr => ?_
  refine CallW.of_code (withRo_ok E0_ok) hro.ro (f := 12) (fn := Tryz.f12) fn12 rfl (n := 31) rfl (rs := [.tmp 2]) rfl (by simp) (codeW_ok (withRo_ok E0_ok) hro.ro ?_)
  have hc0 := h.core
  have h1 := hc0.hx
  have hlx := hc0.lts
  obtain ⟨es, ck, hg, hok, hD, hS⟩ := hc0.hm
  have hes : es.length ≤ 1000 := by
    obtain ⟨ls, hl1, hl2⟩ := h.upto
    have := nodup_leG hok.keys (l := ls) (fun k hk => by
      obtain ⟨y, hy, rfl⟩ := List.mem_map.1 hk
      refine hl2 _ ?_
      rw [← hD, vget_mem hok.keys hy]
      rfl)
    rw [List.length_map] at this
    omega
  simp only [w_w, z_0, flat, Option.isNone, aFieldAddr, aField, aBuiltin, cond_true, cond_false, cond_dec, if_true, if_false, List.length_cons, List.length_nil, forall_const, implies_true, List.append_nil, List.cons_append, List.nil_append, eq_self, Nat.reduceEqDiff, Nat.reduceAdd, Nat.reduceMul, Nat.reduceSub, Nat.reduceLT, Nat.reduceLeDiff, Nat.reduceBEq, reduceIte, reduceCtorEq, eqnilT, h1]
  refine CallT.mono (CallT.of_call keys_spec) ?_
  rintro _ _ ⟨rfl, rfl⟩
  have fB : Fr [] A (A.new (.row [.map (some m)] 1 false)) := .new
  have gB : (A.new (.row [.map (some m)] 1 false)).get A.next = some (.row [.map (some m)] 1 false) := by rw [ASt.get_new, if_pos rfl]
  have nB : (A.new (.row [.map (some m)] 1 false)).next = A.next + 1 := ASt.next_new ..
  generalize A.new (.row [.map (some m)] 1 false) = B at fB gB nB ⊢
  simp only [w_w, z_0, flat, Option.isNone, aFieldAddr, aField, aBuiltin, cond_true, cond_false, cond_dec, if_true, if_false, List.length_cons, List.length_nil, forall_const, implies_true, List.append_nil, List.cons_append, List.nil_append, eq_self, Nat.reduceEqDiff, Nat.reduceAdd, Nat.reduceMul, Nat.reduceSub, Nat.reduceLT, Nat.reduceLeDiff, Nat.reduceBEq, reduceIte, reduceCtorEq]
  refine CallT.mono (CallT.of_call (sortedS_spec gB ((fB.get m (by omega) (by simp)).trans hg) hok hes (by omega) (by omega))) ?_
  rintro lv C ⟨ns, hns, hO, fC⟩
  have fAC := fB.trans fC
  have nC := fC.next
  obtain ⟨bo, cp, rfl⟩ : ∃ bo cp, lv = .slice bo ns.length cp := by
    rcases hO with ⟨h3, _, rfl⟩ | ⟨b, cap, tl, rfl, _⟩
    · exact ⟨none, 0, by rw [h3]⟩
    · exact ⟨_, _, rfl⟩
  have hlen := fun B2 => hO.len (E := E0) ti34 t34_desc B2
  have hDn : ∀ k ∈ ns, ∃ t dv, vget es k = some (t, dv) ∧ D k = some t := fun k hk => by
    obtain ⟨y, hy, rfl⟩ := (hns.2 k).1 hk
    have h3 := vget_mem hok.keys hy
    exact ⟨y.2.1.1, y.2.1.2, h3, by rw [← hD, h3]; rfl⟩
  have hnl : ns.length ≤ 1000 := by
    have hnn : ns.Nodup := hns.1.imp (fun {a b} hab e1 => by subst e1; rw [blt_irr] at hab; cases hab)
    have := nodup_leG hnn (l := es.map (·.1)) (fun k hk => by
      obtain ⟨y, hy, e1⟩ := (hns.2 k).1 hk
      exact List.mem_map.2 ⟨y, hy, e1⟩)
    rw [List.length_map] at this
    omega
  simp only [w_w, z_0, flat, Option.isNone, aFieldAddr, aField, aBuiltin, cond_true, cond_false, cond_dec, if_true, if_false, List.length_cons, List.length_nil, forall_const, implies_true, List.append_nil, List.cons_append, List.nil_append, eq_self, Nat.reduceEqDiff, Nat.reduceAdd, Nat.reduceMul, Nat.reduceSub, Nat.reduceLT, Nat.reduceLeDiff, Nat.reduceBEq, reduceIte, reduceCtorEq, hlen]
  refine CodeW.mono (Q := fun o => ∃ T' A', o = .fr ⟨.exit 0, T', A'⟩ ∧ ∃ r P, tget T' 3 = r ∧ TimsAt s A' A.next r P ∧ P.map (·.1) = ns.map (fun k => (D k).getD zTimD) ∧ Fr [] A A') ?_ ?_
  · refine CodeW.loopR (k := ns.length) (fun n T A' => ∃ (i : Nat) (r : Value) (P : List (TimD × Value)), n = ns.length - i ∧ i ≤ ns.length ∧ tget T 15 = .int .i64 (i : Int) ∧ tget T 14 = .int .i64 (ns.length : Int) ∧ tget T 13 = .slice bo ns.length cp ∧ tget T 0 = .pointer (some ⟨x, 0, none⟩) ∧ tget T 3 = r ∧ P.length = i ∧ TimsAt s A' C.next r P ∧ P.map (·.1) = (ns.take i).map (fun k => (D k).getD zTimD) ∧ Fr [] C A') ?_ ?_
    · rintro k0 T A1 ⟨i, r, P, rfl, hi, u15, u14, u13, u0, u3, hPl, hT1, hPm, f1⟩
      refine codeW_ok (withRo_ok E0_ok) hro.ro ?_
      by_cases hlt : i < ns.length
      · have d1 : ((i : Int) < (ns.length : Int)) = True := eq_true (by omega)
        obtain ⟨k, hk⟩ : ∃ k, ns[i]? = some k := ⟨_, List.getElem?_eq_getElem hlt⟩
        obtain ⟨t, dv, hvg, hDk⟩ := hDn k (List.mem_of_getElem? hk)
        obtain ⟨b, cap, tl, etv, hb, hlb, hbn, _, _⟩ : ∃ b cap tl, (.slice bo ns.length cp : Value) = .slice (some ⟨b, 0, none⟩) ns.length cap ∧ C.get b = some (.row (strC ns) 1 tl) ∧ B.next ≤ b ∧ b < C.next ∧ (strC ns).length = ns.length * 1 ∧ True := by
          rcases hO with ⟨h3, _⟩ | ⟨b, cap, tl, h3, h4, h5, h6, h7, _⟩
          · omega
          · exact ⟨b, cap, tl, h3, h4, h5, h6, h7, trivial⟩
        cases etv
        have hbA := (f1.get b hbn (by simp)).trans hb
        have nf1 := f1.next
        have fAA1 := fAC.trans f1
        have hcA := hc0.fr0 fAA1
        have hxA := hcA.hx
        have hgA := (fAA1.get m (by omega) (by simp)).trans hg
        have hlk : aLookup E0 62 (.map (some m)) (.string k) false A1 = some (tval t dv) := by
          have := tlook hgA k false
          rw [hvg] at this
          exact this
        simp only [w_w, z_0, flat, Option.isNone, aFieldAddr, aField, aBuiltin, cond_true, cond_false, cond_dec, if_true, if_false, List.length_cons, List.length_nil, forall_const, implies_true, List.append_nil, List.cons_append, List.nil_append, eq_self, Nat.reduceEqDiff, Nat.reduceAdd, Nat.reduceMul, Nat.reduceSub, Nat.reduceLT, Nat.reduceLeDiff, Nat.reduceBEq, reduceIte, reduceCtorEq, u15, u14, u13, u0, u3, d1, decide_true, ix34 hlt, hbA, strC_nth hk, hxA, hlk]
        refine CallT.mono (CallT.of_call (copied_spec (t := t) hro ((hS k t dv hvg).fr fAA1 (by simp)) (h.ok k t hDk).1.steps)) ?_
        rintro _ G ⟨dv', rfl, hdG, fG⟩
        have nG := fG.next
        have fN : Fr [] G (G.new (.row (tcell t dv') 5 false)) := .new
        have nN : (G.new (.row (tcell t dv') 5 false)).next = G.next + 1 := ASt.next_new ..
        have hOG := (hT1.own.fr fG (by simp)).fr fN (by simp)
        obtain ⟨r2, H, ha, hOH, fH, hr2⟩ := appTim (s := s) (p := G.next) (t := t) (dv := dv') (tl := false) hOG (by rw [ASt.get_new, if_pos rfl]) hdG.single (by omega) (by omega)
        have hbs := bsTim (t := t) hdG.single
        have nH := fH.next
        have w1 : IntKind.i64.wrap ((i : Int) + 1) = ((i + 1 : Nat) : Int) := by rw [IntKind.wrap_i64]; omega
        simp only [w_w, z_0, flat, Option.isNone, aFieldAddr, aField, aBuiltin, cond_true, cond_false, cond_dec, if_true, if_false, List.length_cons, List.length_nil, forall_const, implies_true, List.append_nil, List.cons_append, List.nil_append, eq_self, Nat.reduceEqDiff, Nat.reduceAdd, Nat.reduceMul, Nat.reduceSub, Nat.reduceLT, Nat.reduceLeDiff, Nat.reduceBEq, reduceIte, reduceCtorEq, u15, u14, u13, u0, u3, hbs, ha, ptrTo, w1]
        have hrl : ∀ c ∈ slB r, C.next ≤ c ∧ c < A1.next := hT1.own.low
        refine ⟨ns.length - (i + 1), by omega, i + 1, r2, P ++ [(t, dv')], rfl, by omega, rfl, rfl, by rw [List.length_append, hPl]; rfl, ⟨?_, fun p hp => ?_⟩, ?_, ⟨by omega, fun c h3 _ => ?_⟩⟩
        · have : tcellL (P ++ [(t, dv')]) = tcellL P ++ tcell t dv' := by
            unfold tcellL
            rw [List.map_append, List.flatten_append]
            simp
          rw [this, List.length_append]
          exact hOH
        · rcases List.mem_append.1 hp with hp | hp
          · have h3 := (hT1.steps p hp).imp (S' := fun b => (C.next ≤ b ∧ b ∉ slB r) ∧ b < A1.next) (fun b h4 h5 => ⟨h4, h5⟩)
            have h6 := ((h3.fr fG (by simp)).fr fN (by simp)).fr fH (fun b h4 _ => h4.1.2)
            refine h6.imp (fun b h4 _ => ⟨h4.1.1, fun hm => ?_⟩)
            rcases hr2 b hm with h5 | h5
            · exact h4.1.2 h5
            · have := h4.2; omega
          · simp only [List.mem_singleton] at hp
            subst hp
            have hdG' : Steps (withRo E0 s) G (fun b => A1.next ≤ b ∧ b < G.next) dv' t.steps := hdG.imp (fun b h4 h5 => ⟨h4, h5⟩)
            have h6 := (hdG'.fr fN (by simp)).fr fH (fun b h4 _ hm => by have := (hrl b hm).2; omega)
            refine h6.imp (fun b h4 _ => ⟨by omega, fun hm => ?_⟩)
            rcases hr2 b hm with h5 | h5
            · have := (hrl b h5).2; omega
            · omega
        · rw [take_snoc hk, List.map_append, List.map_append, hPm]
          show _ ++ [t] = _ ++ [(D k).getD zTimD]
          rw [hDk]; rfl
        · rw [fH.get c (by omega) (fun hm => by have := (hrl c hm).1; omega), fN.get c (by omega) (by simp), fG.get c (by omega) (by simp), f1.get c h3 (by simp)]
      · have e1 : i = ns.length := by omega
        subst e1
        have d1 : ((ns.length : Int) < (ns.length : Int)) = False := eq_false (by omega)
        simp only [w_w, z_0, flat, Option.isNone, aFieldAddr, aField, aBuiltin, cond_true, cond_false, cond_dec, if_true, if_false, List.length_cons, List.length_nil, forall_const, implies_true, List.append_nil, List.cons_append, List.nil_append, eq_self, Nat.reduceEqDiff, Nat.reduceAdd, Nat.reduceMul, Nat.reduceSub, Nat.reduceLT, Nat.reduceLeDiff, Nat.reduceBEq, reduceIte, reduceCtorEq, u15, u14, d1, decide_false]
        rw [List.take_length] at hPm
        exact ⟨_, _, rfl, r, P, by simp only [tget_put, Nat.reduceEqDiff, if_false, if_true, reduceIte, u3], ⟨hT1.own.lower (by omega), fun p hp => (hT1.steps p hp).imp (fun b h3 _ => ⟨by omega, h3.2⟩)⟩, hPm, fAC.trans f1⟩
    · refine ⟨0, .slice none 0 0, [], rfl, Nat.zero_le _, ?_, ?_, ?_, ?_, ?_, rfl, ⟨.inl ⟨rfl, rfl, rfl⟩, fun p hp => (by cases hp)⟩, rfl, .refl _ _⟩
      all_goals first | rfl | (unfold argsT; rfl)
  · rintro o ⟨T', A', rfl, r, P, u3, hT, hP, f1⟩
    simp only [w_w, z_0, flat, Option.isNone, aFieldAddr, aField, aBuiltin, cond_true, cond_false, cond_dec, if_true, if_false, List.length_cons, List.length_nil, forall_const, implies_true, List.append_nil, List.cons_append, List.nil_append, eq_self, Nat.reduceEqDiff, Nat.reduceAdd, Nat.reduceMul, Nat.reduceSub, Nat.reduceLT, Nat.reduceLeDiff, Nat.reduceBEq, reduceIte, reduceCtorEq, u3]
    refine ⟨P, hT, ⟨?_, fun t => ?_⟩, f1⟩
    · rw [hP, List.map_map]
      have : ns.map ((fun t : TimD => t.name) ∘ fun k => (D k).getD zTimD) = ns := by
        conv => rhs; rw [← List.map_id ns]
        refine List.map_congr_left fun k hk => ?_
        obtain ⟨t, dv, _, hDk⟩ := hDn k hk
        show ((D k).getD zTimD).name = k
        rw [hDk]
        exact (h.ok k t hDk).2
      rw [this]
      exact hns.1
    · rw [hP, List.mem_map]
      constructor
      · rintro ⟨k, hk, rfl⟩
        obtain ⟨t, dv, _, hDk⟩ := hDn k hk
        rw [hDk]
        show D t.name = some t
        rw [(h.ok k t hDk).2]
        exact hDk
      · intro ht
        refine ⟨t.name, ?_, by rw [ht]; rfl⟩
        rw [hns.2]
        have h3 := hD t.name
        rw [ht] at h3
        cases hv : vget es t.name with
        | none => rw [hv] at h3; cases h3
        | some p =>
          obtain ⟨bn, hb⟩ := vget_some hv
          exact ⟨_, hb, rfl⟩
end Go.Proofs.YtgcffmhpjphefaaGreatDoor

/- A table of timers in general: a new one, and a copy. -/
namespace Go.Proofs.YtgcffmhpjphefaaGreatDoor
open Go Go.AE
set_option maxRecDepth 10000
set_option maxHeartbeats 8000000
variable {Z : Go.AE.Road} {s : Spans}

theorem T0.tabAt {A : ASt} {x m q e w W all now : Nat} {ms : List Nat} (h : T0 A x m q e w W all ms now) : TabAt s A x m q e w (.slice none 0 0) W all ms now 0 (fun _ => none) (fun _ => False) := by
  have hw : WAt A w [] := ⟨[], 0, h.hq.hw, ⟨.nil, .nil, fun x hx => (by cases hx)⟩, fun k i => by
    constructor
    · intro h; cases h
    · intro h; simp at h⟩
  have hE : EAt A e w (.slice none 0 0) [] := ⟨h.hq.he, .inl ⟨rfl, rfl⟩, hw, ⟨h.hq.lt.2.1, h.hq.lt.2.2⟩, by simp⟩
  have hQ : QAt A q e w (.slice none 0 0) (fun _ => none) := ⟨[], ⟨h.hq.hq, hE, fun c _ hc => absurd hc (by simp), h.hq.lt.1⟩, fun k a => by simp⟩
  have en : TD.near (fun _ => none) now = fun _ => none := rfl
  have ef : TD.far (fun _ => none) now = fun _ => none := rfl
  have hne := h.ne
  have hnW := h.nW
  have hqn := h.hq.ne
  have hWn := h.hW.nodup
  refine ⟨⟨h.hx, ⟨[], 0, h.hm, ⟨.nil, .nil, fun x hx => (by cases hx)⟩, fun k => rfl, fun k t dv hk => (by cases hk)⟩, by rw [en]; exact hQ, by rw [ef]; exact h.hW, ?_, ?_, fun b hb => (by cases hb), fun b hb => hb.elim⟩, fun k t hk => (by cases hk), ⟨[], by simp, fun k hk => by cases hk⟩⟩
  · have hxq : x ≠ q := fun e1 => by
      have h1 := h.hx
      rw [e1, h.hq.hq] at h1
      simp at h1
    simp only [ownT, List.nodup_cons, List.mem_cons, not_or] at hnW hWn ⊢
    exact ⟨⟨hne.1, hxq, hne.2.1, hne.2.2.1, hnW.1⟩, ⟨hne.2.2.2.1, hne.2.2.2.2.1, hne.2.2.2.2.2, hnW.2.1⟩, ⟨hqn.2.2, hqn.2.1, hnW.2.2.1⟩, ⟨hqn.1, hnW.2.2.2.1⟩, hnW.2.2.2.2, hWn⟩
  · intro b hb
    simp only [ownT, List.mem_cons] at hb
    rcases hb with rfl | rfl | rfl | rfl | rfl | hb
    · exact h.lt.1
    · exact h.lt.2
    · exact h.hq.lt.1
    · exact h.hq.lt.2.1
    · exact h.hq.lt.2.2
    · exact h.hW.below b (by simpa using hb)
theorem tnewC_spec {A : ASt} {now : Nat} (hn : now < 18446744073709551616) : CallW Z Tryz.prog 7 [.int .u64 (now : Int)] A (fun r A' => ∃ x m q e w W all ms, r = .pointer (some ⟨x, 0, none⟩) ∧ TabAt s A' x m q e w (.slice none 0 0) W all ms now 0 (fun _ => none) (fun _ => False) ∧ Fr [] A A' ∧ ∀ b ∈ ownT x m q e w W all ms, A.next ≤ b) := by
  refine CallW.mono (tnew_spec hn) ?_
  rintro _ A' ⟨x, m, q, e, w, W, all, ms, rfl, hT, fA, hl⟩
  refine ⟨x, m, q, e, w, W, all, ms, rfl, hT.tabAt, fA, fun b hb => hl b ?_⟩
  simp only [ownT, List.mem_cons, List.cons_append, List.nil_append] at hb ⊢
  exact hb
theorem TabAt.now {A : ASt} {x m q e w : Nat} {v : Value} {W all : Nat} {ms : List Nat} {now n : Nat} {D : TD} {S : Nat → Prop} (h : TabAt s A x m q e w v W all ms now n D S) : now < 18446744073709551616 := h.core.hW.nowlt
abbrev VT2 := VE ByteArray (TimD × Value)
noncomputable def dOf (l : List VT2) : TD := fun k => (vget l k).map (·.1)
theorem nodup_inj {α β : Type} {f : α → β} : ∀ {l : List α}, (l.map f).Nodup → ∀ {x y : α}, x ∈ l → y ∈ l → f x = f y → x = y
  | [], _, x, _, hx, _, _ => by cases hx
  | z :: l, hn, x, y, hx, hy, e => by
    simp only [List.map_cons, List.nodup_cons, List.mem_map, not_exists, not_and] at hn
    rcases List.mem_cons.1 hx with h1 | h1 <;> rcases List.mem_cons.1 hy with h2 | h2
    · rw [h1, h2]
    · subst h1; exact absurd e.symm (hn.1 y h2)
    · subst h2; exact absurd e (hn.1 x h1)
    · exact nodup_inj hn.2 h1 h2 e
theorem tcopyC_spec (hro : RoadS Z E0 s) (ht : TabZ Z) {A : ASt} {x m q e w : Nat} {v : Value} {W all : Nat} {ms : List Nat} {now n : Nat} {D : TD} {S : Nat → Prop} (h : TabAt s A x m q e w v W all ms now n D S) (hn : n ≤ 900) (hst' : ∀ k t, D k = some t → StepsIn t.steps) :
    CallW Z Tryz.prog 16 [.pointer (some ⟨x, 0, none⟩)] A (fun r A' => ∃ x2 m2 q2 e2 w2 v2 W2 all2 ms2 S2, r = .pointer (some ⟨x2, 0, none⟩) ∧ TabAt s A' x2 m2 q2 e2 w2 v2 W2 all2 ms2 now n D S2 ∧ (∀ b ∈ ownT x2 m2 q2 e2 w2 W2 all2 ms2, A.next ≤ b) ∧ (∀ b ∈ slB v2, A.next ≤ b) ∧ (∀ b, S2 b → A.next ≤ b) ∧ Fr [] A A') := by
  refine CallW.assume hro fun hnr => ?_
  refine CallW.of_code (withRo_ok E0_ok) hro.ro (f := 16) (fn := Tryz.f16) fn16 rfl (n := 24) rfl (rs := [.tmp 2]) rfl (by simp) (codeW_ok (withRo_ok E0_ok) hro.ro ?_)
  have hc0 := h.core
  have h1 := hc0.hx
  have hlx := hc0.lts
  simp only [w_w, z_0, flat, Option.isNone, aFieldAddr, aField, aBuiltin, cond_true, cond_false, cond_dec, if_true, if_false, List.length_cons, List.length_nil, forall_const, implies_true, List.append_nil, List.cons_append, List.nil_append, eq_self, Nat.reduceEqDiff, Nat.reduceAdd, Nat.reduceMul, Nat.reduceSub, Nat.reduceLT, Nat.reduceLeDiff, Nat.reduceBEq, reduceIte, reduceCtorEq, eqnilT, h1]
  refine CallT.mono (CallT.of_call (tclockC_spec hc0)) ?_
  rintro _ _ ⟨rfl, rfl⟩
  simp only [w_w, z_0, flat, Option.isNone, aFieldAddr, aField, aBuiltin, cond_true, cond_false, cond_dec, if_true, if_false, List.length_cons, List.length_nil, forall_const, implies_true, List.append_nil, List.cons_append, List.nil_append, eq_self, Nat.reduceEqDiff, Nat.reduceAdd, Nat.reduceMul, Nat.reduceSub, Nat.reduceLT, Nat.reduceLeDiff, Nat.reduceBEq, reduceIte, reduceCtorEq]
  refine CallT.mono (CallT.of_call (tnewC_spec (s := s) h.now)) ?_
  rintro _ B ⟨x2, m2, q2, e2, w2, W2, all2, ms2, rfl, hT, fB, hl2⟩
  have hcB := hc0.fr0 fB
  have h2 := hcB.hx
  obtain ⟨es, ck, hgA, hok, hD, hS⟩ := hc0.hm
  have hg := (fB.get m hlx.2.1 (by simp)).trans hgA
  have hrg : aRange E0 62 (.map (some m)) B = .val (.pointer (some ⟨B.next, 0, none⟩)) (B.new (.miter (some m) ck [] ck)) := range_u ti62 t62_desc hg
  have hes : es.length ≤ 900 := by
    obtain ⟨ls, hl1, hl2⟩ := h.upto
    have := nodup_leG hok.keys (l := ls) (fun k hk => by
      obtain ⟨y, hy, rfl⟩ := List.mem_map.1 hk
      refine hl2 _ ?_
      rw [← hD, vget_mem hok.keys hy]
      rfl)
    rw [List.length_map] at this
    omega
  simp only [w_w, z_0, flat, Option.isNone, aFieldAddr, aField, aBuiltin, cond_true, cond_false, cond_dec, if_true, if_false, List.length_cons, List.length_nil, forall_const, implies_true, List.append_nil, List.cons_append, List.nil_append, eq_self, Nat.reduceEqDiff, Nat.reduceAdd, Nat.reduceMul, Nat.reduceSub, Nat.reduceLT, Nat.reduceLeDiff, Nat.reduceBEq, reduceIte, reduceCtorEq, h2, hrg]
  have fC : Fr [] B (B.new (.miter (some m) ck [] ck)) := .new
  have gC : (B.new (.miter (some m) ck [] ck)).get B.next = some (.miter (some m) ck [] ck) := by rw [ASt.get_new, if_pos rfl]
  have nC : (B.new (.miter (some m) ck [] ck)).next = B.next + 1 := ASt.next_new ..
  generalize B.new (.miter (some m) ck [] ck) = C at fC gC nC ⊢
  have nB := fB.next
  have hTC : TabAt s C x2 m2 q2 e2 w2 (.slice none 0 0) W2 all2 ms2 now 0 (fun _ => none) (fun _ => False) := ⟨hT.core.fr0 fC, hT.ok, hT.upto⟩
  have hown2 : ∀ b ∈ ownT x2 m2 q2 e2 w2 W2 all2 ms2, A.next ≤ b ∧ b < B.next := fun b hb => ⟨hl2 b hb, hT.core.lt b hb⟩
  have hSl : ∀ b, S b → b < A.next := fun b hb => (hc0.nr b hb).1
  have hmC : C.get m = some (.map (vEnts encTV es) ck) := (fC.get m (by omega) (by simp)).trans hg
  refine CodeW.mono (Q := fun o => ∃ T' A' done v2 S2, o = .fr ⟨.exit 0, T', A'⟩ ∧ tget T' 3 = .pointer (some ⟨x2, 0, none⟩) ∧ (∀ y ∈ done, y ∈ es) ∧ (∀ y ∈ es, y ∈ done) ∧ done.Nodup ∧ TabAt s A' x2 m2 q2 e2 w2 v2 W2 all2 ms2 now done.length (dOf done) S2 ∧ (∀ b ∈ slB v2, C.next ≤ b) ∧ (∀ b, S2 b → C.next ≤ b) ∧ Fr [] A A') ?_ ?_
  · refine CodeW.mapLoopV (Γ := encTV) (it := 15) (r := B.next) (m := m) (ck := ck) (l := es) (J := fun done T A' => tget T 3 = .pointer (some ⟨x2, 0, none⟩) ∧ ∃ v2 S2, TabAt s A' x2 m2 q2 e2 w2 v2 W2 all2 ms2 now done.length (dOf done) S2 ∧ (∀ b ∈ slB v2, C.next ≤ b) ∧ (∀ b, S2 b → C.next ≤ b) ∧ Fr [] A A' ∧ C.next ≤ A'.next) ?_ ?_ ?_
    · rintro done T A1 hi ⟨u3, v2, S2, hT1, hv2, hS2, f1, nA1⟩
      refine codeW_ok (withRo_ok E0_ok) hro.ro ?_
      have hit := hi.it
      simp only [w_w, z_0, flat, Option.isNone, aFieldAddr, aField, aBuiltin, cond_true, cond_false, cond_dec, if_true, if_false, List.length_cons, List.length_nil, forall_const, implies_true, List.append_nil, List.cons_append, List.nil_append, eq_self, Nat.reduceEqDiff, Nat.reduceAdd, Nat.reduceMul, Nat.reduceSub, Nat.reduceLT, Nat.reduceLeDiff, Nat.reduceBEq, reduceIte, reduceCtorEq, hit]
      refine nextV_v hok hi.sub hi.iter hi.map (fun y hy hn => ?_) (fun hfin => ?_)
      · have hent := entry_v (A := A1.set B.next (.miter (some m) ck ((done ++ [y]).map (·.2.2)) ck)) (r := B.next) (m := m) hok hy (by rw [ASt.get_set, if_pos rfl]) (by rw [ASt.get_set, if_neg (by omega)]; exact hi.map)
        have fD : Fr [B.next] A1 (A1.set B.next (.miter (some m) ck ((done ++ [y]).map (·.2.2)) ck)) := ⟨by rw [ASt.next_set]; exact Nat.le_refl _, fun b hb hn => by rw [ASt.get_set, if_neg (by simpa using hn)]⟩
        have gD : (A1.set B.next (.miter (some m) ck ((done ++ [y]).map (·.2.2)) ck)).get B.next = some (.miter (some m) ck ((done ++ [y]).map (·.2.2)) ck) := by rw [ASt.get_set, if_pos rfl]
        have nD : (A1.set B.next (.miter (some m) ck ((done ++ [y]).map (·.2.2)) ck)).next = A1.next := rfl
        generalize A1.set B.next (.miter (some m) ck ((done ++ [y]).map (·.2.2)) ck) = F at hent fD gD nD ⊢
        obtain ⟨yk, ⟨t, dv⟩, yb⟩ := y
        have hvg : vget es yk = some (t, dv) := vget_mem hok.keys hy
        have hDk : D yk = some t := by rw [← hD, hvg]; rfl
        obtain ⟨hright, hname⟩ := h.ok yk t hDk
        have hSt := hS yk t dv hvg
        have hTF := hT1.core.fr fD (fun b hb _ => by
          simp only [List.mem_singleton] at hb
          subst hb
          exact ⟨fun hm => by have := (hown2 _ hm).2; omega, fun hm => by have := hv2 _ hm; omega, fun hm => by have := hS2 _ hm; omega⟩)
        have hent' : aEntry (.pointer (some ⟨B.next, 0, none⟩)) F = some (.tuple #[.string yk, tval t dv]) := hent
        simp only [w_w, z_0, flat, Option.isNone, aFieldAddr, aField, aBuiltin, cond_true, cond_false, cond_dec, if_true, if_false, List.length_cons, List.length_nil, forall_const, implies_true, List.append_nil, List.cons_append, List.nil_append, eq_self, Nat.reduceEqDiff, Nat.reduceAdd, Nat.reduceMul, Nat.reduceSub, Nat.reduceLT, Nat.reduceLeDiff, Nat.reduceBEq, reduceIte, reduceCtorEq, hit, hent', al25, ptrTo, u3]
        have hsd := hSt.single
        have hst := st25 (A := F.new (.row [.string ByteArray.empty, .int .i64 0, .int .u64 0, .int .u64 0, .slice none 0 0] 5 false)) (b := F.next) (a0 := .string t.name) (a1 := .int .i64 t.ver) (a2 := .int .u64 (t.at_ : Int)) (a3 := .int .u64 (t.every : Int)) (a4 := dv) (by rw [ASt.get_new, if_pos rfl]) (tim_sg hsd)
        have hst : aStore E0 30 (.pointer (some ⟨F.next, 0, none⟩)) (tval t dv) (F.new (.row [.string ByteArray.empty, .int .i64 0, .int .u64 0, .int .u64 0, .slice none 0 0] 5 false)) = some ((F.new (.row [.string ByteArray.empty, .int .i64 0, .int .u64 0, .int .u64 0, .slice none 0 0] 5 false)).set F.next (.row [.string t.name, .int .i64 t.ver, .int .u64 (t.at_ : Int), .int .u64 (t.every : Int), dv] 5 false)) := hst
        rw [hst]
        generalize hGd : (F.new (.row [.string ByteArray.empty, .int .i64 0, .int .u64 0, .int .u64 0, .slice none 0 0] 5 false)).set F.next _ = G
        have fG : Fr [] F G := ⟨by rw [← hGd, ASt.next_set, ASt.next_new]; omega, fun b hb _ => by rw [← hGd, ASt.get_set, if_neg (by omega), ASt.get_new, if_neg (by omega)]⟩
        have gG : G.get F.next = some (.row [.string t.name, .int .i64 t.ver, .int .u64 (t.at_ : Int), .int .u64 (t.every : Int), dv] 5 false) := by rw [← hGd, ASt.get_set, if_pos rfl]
        clear hGd hst
        have nG := fG.next
        have nf1 := f1.next
        have hSA1 : Steps (withRo E0 s) A1 S dv t.steps := hSt.fr f1 (by simp)
        have hTG : TabAt s G x2 m2 q2 e2 w2 v2 W2 all2 ms2 now done.length (dOf done) S2 := ⟨hTF.fr0 fG, hT1.ok, hT1.upto⟩
        have hdl : done.length ≤ 900 := Nat.le_trans (vnodup_le hi.nodup hi.sub) hes
        have hSG : Steps (withRo E0 s) G S dv t.steps := (hSA1.fr fD (fun b h3 _ hm => by simp only [List.mem_singleton] at hm; have := hSl b h3; omega)).fr fG (by simp)
        have hwr2 : ∀ b ∈ wrT m2 e2 w2 v2 W2 all2 ms2, A.next ≤ b := fun b hb => by
          simp only [wrT, List.mem_cons, List.mem_append] at hb
          rcases hb with hb | hb | hb | hb | hb
          · exact (hown2 b (by simp [hb])).1
          · exact (hown2 b (by simp [hb])).1
          · exact (hown2 b (by simp [hb])).1
          · have := hv2 b hb; omega
          · exact (hown2 b (by simp only [ownT, List.mem_cons]; simp [hb])).1
        have hat : t.at_ < 18446744073709551616 := by have := hright.2.2.2.2.2.1; omega
        simp only [w_w, z_0, flat, Option.isNone, aFieldAddr, aField, aBuiltin, cond_true, cond_false, cond_dec, if_true, if_false, List.length_cons, List.length_nil, forall_const, implies_true, List.append_nil, List.cons_append, List.nil_append, eq_self, Nat.reduceEqDiff, Nat.reduceAdd, Nat.reduceMul, Nat.reduceSub, Nat.reduceLT, Nat.reduceLeDiff, Nat.reduceBEq, reduceIte, reduceCtorEq, u3, gG, cut5]
        refine CallT.mono (CallT.of_call (tsetC_spec (t := t) hro ht hTG (by omega) hSG (hst' yk t hDk) hat (fun b h3 _ hm => by have := hwr2 b hm; have := hSl b h3; omega) (hnr _ (hown2 x2 (by simp)).1))) ?_
        rintro r H ⟨hres, fH⟩
        rcases hres with ⟨_, rfl, v3, S3, hTH, hv3, hS3⟩ | ⟨hnr2, _⟩
        · simp only [w_w, z_0, flat, Option.isNone, aFieldAddr, aField, aBuiltin, cond_true, cond_false, cond_dec, if_true, if_false, List.length_cons, List.length_nil, forall_const, implies_true, List.append_nil, List.cons_append, List.nil_append, eq_self, Nat.reduceEqDiff, Nat.reduceAdd, Nat.reduceMul, Nat.reduceSub, Nat.reduceLT, Nat.reduceLeDiff, Nat.reduceBEq, reduceIte, reduceCtorEq, u3]
          have nH := fH.next
          have hown3 : ∀ b, b < C.next → B.next ≤ b ∨ b < A.next → b ∉ wrT m2 e2 w2 v2 W2 all2 ms2 := fun b h3 h4 hm => by
            simp only [wrT, List.mem_cons, List.mem_append] at hm
            rcases hm with hm | hm | hm | hm | hm
            · have := hown2 b (by simp [hm]); omega
            · have := hown2 b (by simp [hm]); omega
            · have := hown2 b (by simp [hm]); omega
            · have := hv2 b hm; omega
            · have := hown2 b (by simp only [ownT, List.mem_cons]; simp [hm]); omega
          have hpt : (dOf done).put t = dOf (done ++ [(yk, (t, dv), yb)]) := by
            funext k
            have hnd2 : vget done yk = none := by
              rw [vget_none]
              intro z hz e1
              have := nodup_inj hok.keys (hi.sub z hz) hy e1
              exact hn (this ▸ hz)
            unfold TD.put dOf
            rw [vget_snoc]
            by_cases e1 : k = t.name
            · have e2 : k = yk := e1.trans hname
              rw [if_pos e1, if_pos e2, e2, hnd2]
              rfl
            · have e2 : k ≠ yk := fun e3 => e1 (e3.trans hname.symm)
              rw [if_neg e1, if_neg e2, Option.or_none]
          rw [hpt] at hTH
          refine ⟨_, hy, hn, hi.step hy hn (by simp only [tget_put, Nat.reduceEqDiff, if_false, reduceIte]) ?_ ?_, v3, S3, by rw [List.length_append]; exact hTH, fun b hb => ?_, fun b hb => ?_, ⟨by omega, fun b hb _ => ?_⟩, by omega⟩
          · rw [fH.get _ (by omega) (hown3 _ (by omega) (by omega)), fG.get _ (by omega) (by simp)]
            exact gD
          · rw [fH.get _ (by omega) (hown3 _ (by omega) (by omega)), fG.get _ (by omega) (by simp), fD.get _ (by omega) (by simp; omega)]
          · rcases hv3 b hb with h3 | h3
            · exact hv2 b h3
            · omega
          · rcases hS3 b hb with h3 | h3
            · exact hS2 b h3
            · omega
          · rw [fH.get _ (by omega) (hown3 _ (by omega) (by omega)), fG.get _ (by omega) (by simp), fD.get _ (by omega) (by simp; omega), f1.get b hb (by simp)]
        · exact absurd hright hnr2
      · simp only [w_w, z_0, flat, Option.isNone, aFieldAddr, aField, aBuiltin, cond_true, cond_false, cond_dec, if_true, if_false, List.length_cons, List.length_nil, forall_const, implies_true, List.append_nil, List.cons_append, List.nil_append, eq_self, Nat.reduceEqDiff, Nat.reduceAdd, Nat.reduceMul, Nat.reduceSub, Nat.reduceLT, Nat.reduceLeDiff, Nat.reduceBEq, reduceIte, reduceCtorEq]
        exact ⟨_, _, done, v2, S2, rfl, by simp only [tget_put, Nat.reduceEqDiff, if_false, if_true, reduceIte, u3], hi.sub, hfin, hi.nodup, hT1, hv2, hS2, f1⟩
    · exact ⟨by simp only [tget_put, Nat.reduceEqDiff, if_false, if_true, reduceIte], gC, hmC, by simp, .nil⟩
    · exact ⟨by simp only [tget_put, Nat.reduceEqDiff, if_false, if_true, reduceIte], .slice none 0 0, fun _ => False, hTC, fun b hb => (by cases hb), fun b hb => hb.elim, fB.trans fC, Nat.le_refl _⟩
  · rintro o ⟨T', A', done, v2, S2, rfl, u3, hsub, hall, hnd, hT1, hv2, hS2, f1⟩
    simp only [w_w, z_0, flat, Option.isNone, aFieldAddr, aField, aBuiltin, cond_true, cond_false, cond_dec, if_true, if_false, List.length_cons, List.length_nil, forall_const, implies_true, List.append_nil, List.cons_append, List.nil_append, eq_self, Nat.reduceEqDiff, Nat.reduceAdd, Nat.reduceMul, Nat.reduceSub, Nat.reduceLT, Nat.reduceLeDiff, Nat.reduceBEq, reduceIte, reduceCtorEq, u3]
    obtain ⟨_, hva⟩ := vget_all hok hsub hall hnd
    have hDD : dOf done = D := by
      funext k
      unfold dOf
      rw [hva, hD]
    rw [hDD] at hT1
    exact ⟨x2, m2, q2, e2, w2, v2, W2, all2, ms2, S2, rfl, ⟨hT1.core, hT1.ok, h.upto⟩, hl2, fun b hb => by have := hv2 b hb; omega, fun b hb => by have := hS2 b hb; omega, f1⟩
end Go.Proofs.YtgcffmhpjphefaaGreatDoor

/- The live question, wherever it is asked. -/
namespace Go.Proofs.YtgcffmhpjphefaaGreatDoor
open Go Go.AE

variable {Z : Go.AE.Road}

theorem alive_run0 : ends isTrueV (run E0 20000 (.call (.fn 15) [] (startAt 0))) = true := by kernel_rfl
theorem alive_run : ∃ fuel, ends isTrueV (run E0 fuel (.call (.fn 15) [] (startAt 0))) = true := ⟨20000, alive_run0⟩

theorem alive_calls (w : World) : Calls Tryz.prog 15 #[] w fun e w' => e = .returned (.bool true) ∧ Go.RowKit.Below w.heap.size w w' ∧ w.drawn ≤ w'.drawn := by
  obtain ⟨fuel, hrun⟩ := alive_run
  have hall : (callBy (run E0 fuel) (.fn 15) [] (startAt 0)).all (fun r => isTrueV r.1 = true) := by
    have := ends_all hrun
    unfold callBy
    revert this
    generalize run E0 fuel (.call (.fn 15) [] (startAt 0)) = m
    intro this
    induction m with
    | ret o =>
      obtain ⟨v, A, rfl, hq⟩ := this
      exact hq
    | ask n k ih => exact fun i hi => ih i (this i hi)
    | fail s => exact this.elim
    | pick p k ih => exact fun r hr => ih r (this r hr)
  have h := CallW.of_run (Z := roadRaw [] w) (f := 15) (args := []) (A := startAt 0) (Q := fun v _ => isTrueV v = true) E0_ok E0_ro hook_none mixed hall
  refine (h (rawRen []) w #[] (Step.refl (rep_start [] w)) .nil).mono ?_
  rintro e w' ⟨v, A', v', ρ', hq, rfl, hv, hst⟩
  refine ⟨?_, Step.below (n := 0) hst, hst.drawn⟩
  cases hv <;> first | (simp [isTrueV] at hq; done) | skip
  rename_i b
  cases b with
  | true => rfl
  | false => cases hq

theorem alive_spec {A : ASt} : CallW Z Tryz.prog 15 [] A (fun v A' => v = .bool true ∧ A' = A) := by
  intro ρ w args' hR ha
  obtain ⟨l⟩ := args'
  cases ha
  refine (alive_calls w).mono ?_
  rintro e w' ⟨rfl, hb, hd⟩
  exact ⟨.bool true, A, .bool true, ρ, ⟨rfl, rfl⟩, rfl, .bool _, Step.of_below (Z.rep hR) hb hd⟩
end Go.Proofs.YtgcffmhpjphefaaGreatDoor

/- The law 'TimersDue' in plain Lean: how many there are. -/
namespace Go.Proofs.YtgcffmhpjphefaaGreatDoor
open Go Go.AE
theorem same_length {α : Type} {l m : List α} (hl : l.Nodup) (hm : m.Nodup) (h : ∀ x, x ∈ l ↔ x ∈ m) : l.length = m.length :=
  Nat.le_antisymm (nodup_leG hl fun x hx => (h x).1 hx) (nodup_leG hm fun x hx => (h x).2 hx)
theorem Lists.nodup {M : TM} {L : List (ByteArray × Nat)} (h : Lists M L) : L.Nodup := h.ord.imp (fun {a b} hab e => by subst e; exact tlt_irr _ hab)
theorem due_count {D : TD} {c : Nat} {L : List (ByteArray × Nat)} {l : List TimD} (hL : Lists (D.near c) L) (hA : AllOf D l) (hn : ∀ k t, D k = some t → t.name = k) : L.length = (l.filter fun t => decide (t.at_ ≤ c)).length := by
  have hnd : ((l.filter fun t => decide (t.at_ ≤ c)).map fun t => (t.name, t.at_)).Nodup := by
    rw [List.nodup_iff_pairwise_ne, List.pairwise_map]
    have h1 := hA.ord
    rw [List.pairwise_map] at h1
    refine (h1.filter _).imp ?_
    intro a b hab e
    have : a.name = b.name := congrArg (·.1) e
    rw [this, blt_irr] at hab
    cases hab
  have := same_length hL.nodup hnd (fun x => by
    obtain ⟨k, a⟩ := x
    rw [hL.mem, List.mem_map]
    unfold TD.near TD.at_
    rw [Option.filter_eq_some_iff, decide_eq_true_eq]
    constructor
    · rintro ⟨h1, h2⟩
      cases hD : D k with
      | none => rw [hD] at h1; cases h1
      | some t =>
        rw [hD] at h1
        have h1 : some t.at_ = some a := h1
        cases h1
        have hk := hn k t hD
        refine ⟨t, ?_, by rw [hk]⟩
        rw [List.mem_filter, decide_eq_true_eq, hA.mem, hk]
        exact ⟨hD, h2⟩
    · rintro ⟨t, ht, e⟩
      cases e
      rw [List.mem_filter, decide_eq_true_eq, hA.mem] at ht
      rw [ht.1]
      exact ⟨rfl, ht.2⟩)
  rw [this, List.length_map]
theorem UptoD.le {D : TD} {n m : Nat} (h : UptoD D n) (hm : n ≤ m) : UptoD D m := by
  obtain ⟨l, h1, h2⟩ := h
  exact ⟨l, by omega, h2⟩
end Go.Proofs.YtgcffmhpjphefaaGreatDoor

/- The law 'TimersDue', walked. -/
namespace Go.Proofs.YtgcffmhpjphefaaGreatDoor
open Go Go.AE
set_option maxRecDepth 10000
set_option maxHeartbeats 16000000
variable {Z : Go.AE.Road} {s : Spans}

theorem neqnilT {xo yo : Operand} {x : Option Addr} : aBin2 E0 .neq 25 xo yo (.pointer x) (.pointer none) = some (.bool (!x.isNone)) := b_ptr_nil' ti25 t25_desc
def StepD.ranged (y : StepD) : Prop := -9223372036854775808 ≤ y.n ∧ y.n < 9223372036854775808
structure Handed (s : Spans) (A : ASt) (S : Nat → Prop) (v : Value) (P : List (TimD × Value)) : Prop where
  sl : SlAt (withRo E0 s) A S 5 v (P.map fun p => tcell p.1 p.2)
  st : ∀ p ∈ P, Steps (withRo E0 s) A S p.2 p.1.steps ∧ (∀ y ∈ p.1.steps, y.ranged) ∧ p.1.at_ < 18446744073709551616
theorem Handed.fr {A B : ASt} {S : Nat → Prop} {v : Value} {P : List (TimD × Value)} {own : List Nat} (h : Handed s A S v P) (hf : Fr own A B) (ho : ∀ b, S b → b < A.next → b ∉ own) : Handed s B S v P :=
  ⟨h.sl.fr hf ho, fun p hp => ⟨(h.st p hp).1.fr hf ho, (h.st p hp).2⟩⟩
theorem tcell_len {P : List (TimD × Value)} : ∀ x ∈ P.map (fun p => tcell p.1 p.2), x.length = 5 := by
  intro x hx
  obtain ⟨y, _, rfl⟩ := List.mem_map.1 hx
  rfl
theorem TimsAt.sl {A : ASt} {lo : Nat} {r : Value} {P : List (TimD × Value)} (h : TimsAt s A lo r P) (hnr : ∀ b, lo ≤ b → (withRo E0 s).ro b = none) : SlAt (withRo E0 s) A (fun b => lo ≤ b) 5 r (P.map fun p => tcell p.1 p.2) := by
  have h1 := h.own
  have : P.length = (P.map fun p => tcell p.1 p.2).length := by rw [List.length_map]
  rw [this] at h1
  exact OwnS.slAt h1 hnr tcell_len
theorem timIx {A : ASt} {S : Nat → Prop} {v : Value} {P : List (TimD × Value)} (h : SlAt (withRo E0 s) A S 5 v (P.map fun p => tcell p.1 p.2)) {i : Nat} {p : TimD × Value} (hp : P[i]? = some p) :
    ∃ b o c, (∀ kd, aIndexAddr E0 23 v (.int kd (i : Int)) = some (.pointer (some ⟨b, o, none⟩))) ∧ cellsG (withRo E0 s) b (A.get b) = some c ∧ cut c o 5 = some (tcell p.1 p.2) ∧ nth c o = some (.string p.1.name) ∧ nth c (o + 2) = some (.int .u64 (p.1.at_ : Int)) ∧ S b := by
  obtain ⟨b, o, c, h1, h2, h3, h4, h5, h6⟩ := h.ix (wti.trans ti23) t23_desc (wti.trans ti30) t30_size (i := i) (x := tcell p.1 p.2) (by rw [List.getElem?_map, hp]; rfl)
  simp only [wix] at h1
  exact ⟨b, o, c, h1, h2.g, h5, h6 0 _ rfl, h6 2 _ rfl, h3⟩
theorem timLen {A : ASt} {S : Nat → Prop} {v : Value} {P : List (TimD × Value)} (h : SlAt (withRo E0 s) A S 5 v (P.map fun p => tcell p.1 p.2)) (B : ASt) : aLen E0 23 v B = some (.int .i64 (P.length : Int)) := by
  have := h.len (wti.trans ti23) t23_desc B
  simp only [wlen, List.length_map] at this
  exact this
theorem TimsAt.form {A : ASt} {lo : Nat} {r : Value} {P : List (TimD × Value)} (h : TimsAt s A lo r P) : ∃ b c, r = .slice b P.length c := by
  rcases h.own with ⟨h0, _, rfl⟩ | ⟨b, cap, tl, rfl, _⟩
  · exact ⟨none, 0, by rw [h0]⟩
  · exact ⟨_, _, rfl⟩
theorem timLenO {A : ASt} {lo : Nat} {b : Option Addr} {c : Nat} {P : List (TimD × Value)} (h : TimsAt s A lo (.slice b P.length c) P) (B : ASt) : aLen E0 23 (.slice b P.length c) B = some (.int .i64 (P.length : Int)) := h.own.len (E := E0) ti23 t23_desc B
theorem NamesAt.form {A : ASt} {lo : Nat} {r : Value} {L : List (ByteArray × Nat)} (h : NamesAt A lo r L) : ∃ b c, r = .slice b L.length c := by
  rcases h with ⟨h0, _, rfl⟩ | ⟨b, cap, tl, rfl, _⟩
  · exact ⟨none, 0, by rw [h0]⟩
  · exact ⟨_, _, rfl⟩
end Go.Proofs.YtgcffmhpjphefaaGreatDoor

/- What a law's arguments hold: a slice of timers with their steps. -/
namespace Go.Proofs.YtgcffmhpjphefaaGreatDoor
open Go Go.AE Go.ChangeShapes Go.WideShapes Go.ChangeAt Go.RowKit Go.Joins Go.Deep
set_option maxRecDepth 100000
def StepsZ (W : World) (v : Value) (l : List StepD) : Prop := StepsAt W v l ∨ (l = [] ∧ ∃ a c, v = .slice (some a) 0 c)
def TimD.wide (t : TimD) : Prop := (∀ y ∈ t.steps, y.ok) ∧ t.at_ < 18446744073709551616 ∧ t.every < 18446744073709551616
section
variable {H : Type} {enc : TypeId × Value → H} {w : World} {base : Nat} {spare : Nat → Bool} {held : Bool}
theorem open_stepsZ {fuel : Nat} {v : Value} {x : DataW H × List MemPlace} (h : DataW.trod enc Tryz.prog w base spare held fuel 28 [v] = some x) : ∃ l, StepsZ w v l ∧ ∀ y ∈ l, y.ok := by
  rcases open_slice Tryz.underlying28 h with ⟨h0, _⟩ | ⟨a, len, cap, m, n, D, Pl, h0, _, hl, hcap, hm, _, hx⟩
  · cases h0; exact ⟨[], .inl (.inl ⟨rfl, rfl⟩), by simp⟩
  · cases h0
    by_cases h0 : len = 0
    · subst h0
      exact ⟨[], .inr ⟨rfl, a, cap, rfl⟩, by simp⟩
    · have hlm : len ≤ m := by rw [hm]; split <;> omega
      have hc : Tryz.prog.cellsOf 56 = 4 := by kernel_rfl
      obtain ⟨cs', h1, _⟩ := hx 0 (by omega)
      rw [hc] at h1
      obtain ⟨_, hlen, hcell⟩ := World.cells?_some h1
      have h2 := hcell 0 (by omega)
      obtain ⟨v0, hv0⟩ : ∃ v0, cs'[0]? = some v0 := ⟨_, List.getElem?_eq_getElem (by omega)⟩
      rw [hv0] at h2
      have hsp : a.spot = none := by simpa [Addr.add] using World.cell?_spot h2
      obtain ⟨l, h3, h4⟩ := open_steps h (fun a' len' cap' e => by cases e; exact hsp)
      exact ⟨l, .inl h3, h4⟩
theorem open_timerZ {fuel : Nat} {cs : List Value} {x : DataW H × List MemPlace} (hlen : cs.length = 5) (hf : DataW.trod enc Tryz.prog w base spare held fuel 30 cs = some x) : ∃ (t : TimD) (dv : Value), cs = tcell t dv ∧ StepsZ w dv t.steps ∧ t.wide := by
  match cs, hlen with
  | [c0, c1, c2, c3, c4], _ =>
    obtain ⟨d, p⟩ := x
    obtain ⟨xs, n, _, _, _, hxl, hg⟩ := Go.DataW.trod_struct Tryz.underlying30 hf
    have k9 : Tryz.prog.cellsOf 9 = 1 := by kernel_rfl
    have k3 : Tryz.prog.cellsOf 3 = 1 := by kernel_rfl
    have k22 : Tryz.prog.cellsOf 22 = 1 := by kernel_rfl
    have k23 : Tryz.prog.cellsOf 28 = 1 := by kernel_rfl
    match xs, hxl with
    | [x0, x1, x2, x3, x4], _ =>
    have g0 : DataW.trod enc Tryz.prog w base spare held n 9 (([c0, c1, c2, c3, c4].drop 0).take (Tryz.prog.cellsOf 9)) = some x0 := hg 0 _ rfl
    have g1 : DataW.trod enc Tryz.prog w base spare held n 3 (([c0, c1, c2, c3, c4].drop 1).take (Tryz.prog.cellsOf 3)) = some x1 := hg 1 _ rfl
    have g2 : DataW.trod enc Tryz.prog w base spare held n 22 (([c0, c1, c2, c3, c4].drop 2).take (Tryz.prog.cellsOf 22)) = some x2 := hg 2 _ rfl
    have g3 : DataW.trod enc Tryz.prog w base spare held n 22 (([c0, c1, c2, c3, c4].drop 3).take (Tryz.prog.cellsOf 22)) = some x3 := hg 3 _ rfl
    have g4 : DataW.trod enc Tryz.prog w base spare held n 28 (([c0, c1, c2, c3, c4].drop 4).take (Tryz.prog.cellsOf 28)) = some x4 := hg 4 _ rfl
    rw [k9] at g0
    rw [k3] at g1
    rw [k22] at g2 g3
    rw [k23] at g4
    obtain ⟨s, e0, _⟩ := Go.DataW.trod_string Tryz.underlying9 g0
    obtain ⟨ver, e1, _, l1⟩ := DataW.trod_int Tryz.underlying3 g1
    obtain ⟨at_, e2, l2⟩ := trod_u64 g2
    obtain ⟨ev, e3, l3⟩ := trod_u64 g3
    cases e0; cases e1; cases e2; cases e3
    obtain ⟨steps, hst, hok⟩ := open_stepsZ g4
    exact ⟨⟨s, ver, at_, ev, steps⟩, c4, rfl, hst, hok, l2, l3⟩
instance : Inhabited TimD := ⟨zTimD⟩
def TimersAt (W : World) (v : Value) (P : List (TimD × Value)) : Prop :=
  (P = [] ∧ v = .slice none 0 0) ∨ ∃ b o cap, v = .slice (some ⟨b, o, none⟩) P.length cap ∧ cap ≠ unk ∧ ∀ i p, P[i]? = some p → ∀ r c, (tcell p.1 p.2)[r]? = some c → W.cell? ⟨b, o + (i * 5 + r), none⟩ = some c
theorem open_timers {fuel : Nat} {v : Value} {x : DataW H × List MemPlace} (h : DataW.trod enc Tryz.prog w base spare held fuel 23 [v] = some x) (hs : ∀ a len cap, v = .slice (some a) len cap → a.spot = none) :
    ∃ P, TimersAt w v P ∧ ∀ p ∈ P, StepsZ w p.2 p.1.steps ∧ p.1.wide := by
  rcases open_slice Tryz.underlying23 h with ⟨h0, _⟩ | ⟨a, len, cap, m, n, D, Pl, h0, _, hl, hcap, hm, _, hx⟩
  · cases h0; exact ⟨[], .inl ⟨rfl, rfl⟩, by simp⟩
  have hc : Tryz.prog.cellsOf 30 = 5 := by kernel_rfl
  rw [hc] at hx
  have hlm : len ≤ m := by rw [hm]; split <;> omega
  have each : ∀ i, i < len → ∃ p : TimD × Value, (StepsZ w p.2 p.1.steps ∧ p.1.wide) ∧ ∀ r v, (tcell p.1 p.2)[r]? = some v → w.cell? (a.add (i * 5 + r)) = some v := by
    intro i hi
    obtain ⟨cs', h1, h2⟩ := hx i (by omega)
    obtain ⟨_, hlen, hcell⟩ := World.cells?_some h1
    obtain ⟨t, dv, rfl, h3, h4⟩ := open_timerZ hlen h2
    refine ⟨(t, dv), ⟨h3, h4⟩, fun r v hr => ?_⟩
    have hr5 : r < 5 := by
      by_cases hlt : r < 5
      · exact hlt
      · rw [List.getElem?_eq_none (by show 5 ≤ r; omega)] at hr
        cases hr
    have := hcell r hr5
    rw [add_add] at this
    rw [this]
    exact hr
  obtain ⟨f, hf⟩ := choose_ltS each
  cases h0
  have hsp := hs a len cap rfl
  obtain ⟨b, o, sp⟩ := a
  simp only at hsp
  subst hsp
  refine ⟨(List.range len).map f, .inr ⟨b, o, cap, by simp, cap_unk hcap, fun i y hy r c hr => ?_⟩, fun y hy => ?_⟩
  · rw [List.getElem?_map] at hy
    obtain ⟨j, hj, rfl⟩ := Option.map_eq_some_iff.1 hy
    have hi : i < len := by
      by_cases hlt : i < len
      · exact hlt
      · rw [List.getElem?_eq_none (by simp; omega)] at hj
        cases hj
    have : j = i := by simpa [List.getElem?_range hi] using hj.symm
    subst this
    have := (hf j hi).2 r c hr
    rwa [add_plain] at this
  · obtain ⟨i, hi, rfl⟩ := List.mem_map.1 hy
    exact (hf i (List.mem_range.1 hi)).1
end
theorem stepsZ_span {W : World} {v : Value} {l : List StepD} (h : StepsZ W v l) (k : Nat) : ∃ (x : Go.AE.Loc × List Value) (sv : Value), (∀ (i : Nat) (c : Value), x.2[i]? = some c → closed c = true ∧ W.cell? ⟨x.1.B, x.1.o + i, none⟩ = some c) ∧
    ∀ s : Spans, s[k]? = some x → VRel (roRen s) sv v ∧ ∀ A : ASt, (∀ b, b < A.next → A.get b = none) → k < A.next → Steps (withRo E0 s) A (fun b => b = k) sv l := by
  rcases h with (⟨rfl, rfl⟩ | ⟨b, o, cap, rfl, hcap, hx⟩) | ⟨rfl, a, c, rfl⟩
  · exact ⟨(⟨0, 0, 0, 0, undef⟩, []), .slice none 0 0, by simp, fun s _ => ⟨.nilSlice 0 0, fun A _ _ => .inl ⟨rfl, .inl rfl⟩⟩⟩
  · refine ⟨(⟨b, o, 0, 0, undef⟩, (l.map scell).flatten), .slice (some ⟨k, 0, none⟩) l.length cap, fun i c hc => ?_, fun s hs => ⟨?_, fun A hA hn => ?_⟩⟩
    · obtain ⟨q, y, r, h1, _, rfl, h4⟩ := scells_at hc
      exact ⟨scell_closed h4, hx q y h1 r c h4⟩
    · have hr : roRen s k = some ⟨b, o, 0, 0, undef⟩ := by unfold roRen; rw [hs]; rfl
      exact .slice (ρ := roRen s) (b := k) (off := 0) l.length hr hcap
    · have hlen := flat_len (scell_len (l := l))
      refine .inr ⟨k, 0, cap, (l.map scell).flatten, by rw [List.length_map], .inl ⟨hA _ hn, ?_⟩, rfl, hn, scell_len, ?_⟩
      · rw [ro_of]
        unfold roTab
        rw [hs]; rfl
      · unfold cut
        simp only [List.drop_zero, ← hlen, List.take_length, Nat.beq_refl, cond_true]
  · exact ⟨(⟨0, 0, 0, 0, undef⟩, []), zslice, by simp, fun s _ => ⟨.sliceZ a c, fun A _ _ => .inl ⟨rfl, .inr rfl⟩⟩⟩
theorem tcells_at : ∀ {l : List (TimD × Value)} {i : Nat} {v : Value}, ((l.map fun p => tcell p.1 p.2).flatten)[i]? = some v → ∃ q p r, l[q]? = some p ∧ r < 5 ∧ i = q * 5 + r ∧ (tcell p.1 p.2)[r]? = some v
  | [], i, v, h => by simp at h
  | y :: l, 0, v, h => ⟨0, y, 0, rfl, by omega, rfl, h⟩
  | y :: l, 1, v, h => ⟨0, y, 1, rfl, by omega, rfl, h⟩
  | y :: l, 2, v, h => ⟨0, y, 2, rfl, by omega, rfl, h⟩
  | y :: l, 3, v, h => ⟨0, y, 3, rfl, by omega, rfl, h⟩
  | y :: l, 4, v, h => ⟨0, y, 4, rfl, by omega, rfl, h⟩
  | y :: l, i + 5, v, h => by
    obtain ⟨q, z, r, h1, h2, h3, h4⟩ := tcells_at (l := l) (i := i) (v := v) h
    exact ⟨q + 1, z, r, by simpa using h1, h2, by omega, h4⟩
end Go.Proofs.YtgcffmhpjphefaaGreatDoor

/- Spans for a slice of timers with their steps. -/
namespace Go.Proofs.YtgcffmhpjphefaaGreatDoor
open Go Go.AE Go.ChangeShapes Go.WideShapes Go.ChangeAt Go.RowKit Go.Joins Go.Deep
set_option maxRecDepth 100000
instance : Inhabited Go.AE.Loc := ⟨⟨0, 0, 0, 0, undef⟩⟩
def LieIn (s1 s : Spans) (W : World) : Prop := ∀ x ∈ s1, ∀ (i : Nat) (v : Value), x.2[i]? = some v → ∃ v', W.cell? ⟨x.1.B, x.1.o + i, none⟩ = some v' ∧ VRel (roRen s) v v'
theorem timers_span {W : World} {v : Value} {P : List (TimD × Value)} (h : TimersAt W v P) (hst : ∀ p ∈ P, StepsZ W p.2 p.1.steps ∧ p.1.wide) (s0 : Spans) : ∃ (s1 : Spans) (lv : Value) (P' : List (TimD × Value)), ∀ s' : Spans,
    LieIn s1 (s0 ++ (s1 ++ s')) W ∧ VRel (roRen (s0 ++ (s1 ++ s'))) lv v ∧ ∀ A : ASt, (∀ b, b < A.next → A.get b = none) → (s0 ++ (s1 ++ s')).length ≤ A.next → Handed (s0 ++ (s1 ++ s')) A (fun b => b < (s0 ++ (s1 ++ s')).length) lv P' := by
  rcases h with ⟨rfl, rfl⟩ | ⟨b, o, cap, rfl, hcap, hx⟩
  · exact ⟨[], .slice none 0 0, [], fun s' => ⟨fun x hx => (by cases hx), .nilSlice 0 0, fun A _ _ => ⟨.inl ⟨rfl, .inl rfl⟩, fun p hp => (by cases hp)⟩⟩⟩
  · have each : ∀ i, i < P.length → ∃ y : (Go.AE.Loc × List Value) × Value, (∀ (j : Nat) (c : Value), y.1.2[j]? = some c → closed c = true ∧ W.cell? ⟨y.1.1.B, y.1.1.o + j, none⟩ = some c) ∧
        ∀ p, P[i]? = some p → ∀ s : Spans, s[s0.length + i]? = some y.1 → VRel (roRen s) y.2 p.2 ∧ ∀ A : ASt, (∀ b, b < A.next → A.get b = none) → s0.length + i < A.next → Steps (withRo E0 s) A (fun b => b = s0.length + i) y.2 p.1.steps := fun i hi => by
      have hp : P[i]? = some P[i] := List.getElem?_eq_getElem hi
      obtain ⟨x, sv, h1, h2⟩ := stepsZ_span (hst _ (List.mem_of_getElem? hp)).1 (s0.length + i)
      refine ⟨(x, sv), h1, fun p hp2 s hs => ?_⟩
      rw [hp] at hp2
      cases hp2
      exact h2 s hs
    obtain ⟨f, hf⟩ := choose_ltS each
    let xs : Spans := (List.range P.length).map fun i => (f i).1
    let P' : List (TimD × Value) := P.mapIdx fun i p => (p.1, (f i).2)
    have hxs : ∀ i, i < P.length → xs[i]? = some (f i).1 := fun i hi => by
      show ((List.range P.length).map fun i => (f i).1)[i]? = _
      rw [List.getElem?_map, List.getElem?_range hi]
      rfl
    have hxl : xs.length = P.length := by simp [xs]
    have hP' : ∀ i p', P'[i]? = some p' → ∃ p, P[i]? = some p ∧ i < P.length ∧ p' = (p.1, (f i).2) := fun i p' hi => by
      have hi : (P.mapIdx fun i p => (p.1, (f i).2))[i]? = some p' := hi
      rw [List.getElem?_mapIdx] at hi
      obtain ⟨p, h1, h2⟩ := Option.map_eq_some_iff.1 hi
      exact ⟨p, h1, (List.getElem?_eq_some_iff.1 h1).1, h2.symm⟩
    have hPl : P'.length = P.length := List.length_mapIdx
    have hat : ∀ s' i, i < P.length → (s0 ++ ((xs ++ [((⟨b, o, 0, 0, undef⟩ : Go.AE.Loc), (P'.map fun p => tcell p.1 p.2).flatten)]) ++ s'))[s0.length + i]? = some (f i).1 := fun s' i hi => by
      rw [List.getElem?_append_right (by omega), Nat.add_sub_cancel_left, List.append_assoc, List.getElem?_append_left (by omega)]
      exact hxs i hi
    have hrow : ∀ s', (s0 ++ ((xs ++ [((⟨b, o, 0, 0, undef⟩ : Go.AE.Loc), (P'.map fun p => tcell p.1 p.2).flatten)]) ++ s'))[s0.length + P.length]? = some ((⟨b, o, 0, 0, undef⟩ : Go.AE.Loc), (P'.map fun p => tcell p.1 p.2).flatten) := fun s' => by
      rw [List.getElem?_append_right (by omega), Nat.add_sub_cancel_left, List.append_assoc, List.getElem?_append_right (by omega), hxl, Nat.sub_self]
      rfl
    refine ⟨xs ++ [((⟨b, o, 0, 0, undef⟩ : Go.AE.Loc), (P'.map fun p => tcell p.1 p.2).flatten)], .slice (some ⟨s0.length + P.length, 0, none⟩) P.length cap, P', fun s' => ⟨fun x hx1 i c hc => ?_, ?_, fun A hA hn => ⟨?_, fun p' hp' => ?_⟩⟩⟩
    · rcases List.mem_append.1 hx1 with h1 | h1
      · obtain ⟨j, hj, rfl⟩ := List.mem_map.1 h1
        obtain ⟨h2, h3⟩ := (hf j (List.mem_range.1 hj)).1 i c hc
        exact ⟨c, h3, .refl_closed h2⟩
      · simp only [List.mem_singleton] at h1
        subst h1
        obtain ⟨q, p', r, h2, h3, rfl, h4⟩ := tcells_at hc
        obtain ⟨p, h5, h6, rfl⟩ := hP' q p' h2
        have h7 := hx q p h5
        have h8 := ((hf q h6).2 p h5 _ (hat s' q h6)).1
        match r, h3, h4 with
        | 0, _, h4 => cases h4; exact ⟨_, h7 0 _ rfl, .refl_closed rfl⟩
        | 1, _, h4 => cases h4; exact ⟨_, h7 1 _ rfl, .refl_closed rfl⟩
        | 2, _, h4 => cases h4; exact ⟨_, h7 2 _ rfl, .refl_closed rfl⟩
        | 3, _, h4 => cases h4; exact ⟨_, h7 3 _ rfl, .refl_closed rfl⟩
        | 4, _, h4 => cases h4; exact ⟨_, h7 4 _ rfl, h8⟩
    · have hr : roRen (s0 ++ ((xs ++ [((⟨b, o, 0, 0, undef⟩ : Go.AE.Loc), (P'.map fun p => tcell p.1 p.2).flatten)]) ++ s')) (s0.length + P.length) = some ⟨b, o, 0, 0, undef⟩ := by unfold roRen; rw [hrow]; rfl
      exact .slice (b := s0.length + P.length) (off := 0) P.length hr hcap
    · have hlen := flat_len (tcell_len (P := P'))
      have hlt : s0.length + P.length < (s0 ++ ((xs ++ [((⟨b, o, 0, 0, undef⟩ : Go.AE.Loc), (P'.map fun p => tcell p.1 p.2).flatten)]) ++ s')).length := by simp only [List.length_append, List.length_cons, List.length_nil]; omega
      refine .inr ⟨s0.length + P.length, 0, cap, (P'.map fun p => tcell p.1 p.2).flatten, by rw [List.length_map, hPl], .inl ⟨hA _ (by omega), ?_⟩, hlt, by omega, tcell_len, ?_⟩
      · rw [ro_of]
        unfold roTab
        rw [hrow]; rfl
      · unfold cut
        simp only [List.drop_zero, ← hlen, List.take_length, Nat.beq_refl, cond_true]
    · obtain ⟨i, hi⟩ := List.mem_iff_getElem?.1 hp'
      obtain ⟨p, h5, h6, rfl⟩ := hP' i p' hi
      have h8 := ((hf i h6).2 p h5 _ (hat s' i h6)).2 A hA (by simp only [List.length_append, List.length_cons, List.length_nil] at hn; omega)
      have hw := (hst p (List.mem_of_getElem? h5)).2
      refine ⟨h8.imp (fun b hb _ => ?_), fun y hy => ⟨(hw.1 y hy).2.2.1, (hw.1 y hy).2.2.2⟩, hw.2.1⟩
      subst hb
      simp only [List.length_append, List.length_cons, List.length_nil]
      omega
end Go.Proofs.YtgcffmhpjphefaaGreatDoor

/- What a law's arguments hold: slices of timers, numbers, two numbers. -/
namespace Go.Proofs.YtgcffmhpjphefaaGreatDoor
open Go Go.AE Go.ChangeShapes Go.WideShapes Go.ChangeAt Go.RowKit Go.Joins Go.Deep
set_option maxRecDepth 100000
section
variable {H : Type} {enc : TypeId × Value → H} {w : World} {base : Nat} {spare : Nat → Bool} {held : Bool}
theorem slice_cells {W : World} {t e : TypeId} {v : Value} (ht : Tryz.prog.underlying t = some (.slice e)) {base : Nat} (hv : Value.okWide Tryz.prog W .any base t v) : v.cells = #[v] := by
  unfold Value.okWide Cell.okWide Cell.ok at hv
  rw [ht] at hv
  cases v <;> first | rfl | (simp at hv)
theorem spot_none {t e : TypeId} {a : Addr} {len cap : Nat} (ht : Tryz.prog.underlying t = some (.slice e)) (hv : Value.okWide Tryz.prog w .any base t (.slice (some a) len cap)) : a.spot = none := by
  unfold Value.okWide Cell.okWide Cell.ok at hv
  rw [ht] at hv
  exact hv.2.2.2.1
theorem u64_ok {v : Value} (hv : Value.okWide Tryz.prog w .any base 22 v) : ∃ n : Nat, v = .int .u64 (n : Int) ∧ n < 18446744073709551616 := by
  unfold Value.okWide Cell.okWide Cell.ok at hv
  rw [Tryz.underlying22] at hv
  cases v <;> first | (simp at hv; done) | skip
  rename_i k n
  simp only at hv
  obtain ⟨rfl, h⟩ := hv
  unfold IntKind.has at h
  have h1 : (0 : Int) ≤ n := h.1
  have h2 : n ≤ 18446744073709551615 := h.2
  exact ⟨n.toNat, by rw [Int.toNat_of_nonneg h1], by omega⟩
theorem timers_at {W : World} {v : Value} {d : DataW H} {p : List MemPlace} {base : Nat} (hv : Value.okWide Tryz.prog W .any base 23 v) (h : DataW.Trod enc Tryz.prog W 0 spare held 23 v d p) :
    ∃ P, TimersAt W v P ∧ ∀ p ∈ P, StepsZ W p.2 p.1.steps ∧ p.1.wide := by
  obtain ⟨fuel, hf⟩ := h
  have hf : DataW.trod enc Tryz.prog W 0 spare held fuel 23 v.cells.toList = some (d, p) := hf
  rw [slice_cells Tryz.underlying23 hv] at hf
  exact open_timers hf (fun a len cap e => by subst e; exact spot_none Tryz.underlying23 hv)
end
theorem tab_global : Tryz.prog.globalNamed "internal/strconv.uint64pow10" = some 0 := by kernel_rfl
theorem tab_met {W : World} {laid : List (String × DataW Unit)} (e : laid.filter (fun x => x.1 == "internal/strconv.uint64pow10") = [("internal/strconv.uint64pow10", Lib.tabData .u64 Lib.pow10Tab)]) (h : laidMetH Tryz.prog laid W) : Lib.TabIs Tryz.prog W "internal/strconv.uint64pow10" .u64 Lib.pow10Tab ∧ 0 < W.heap.size := by
  have h1 := h.filter (fun x => x.1 == "internal/strconv.uint64pow10")
  rw [e] at h1
  have h2 := (laidMetH_iff.1 h1).1
  have e2 : ([("internal/strconv.uint64pow10", (Lib.tabData .u64 Lib.pow10Tab : DataW Unit))].filter fun x => x.2.handleName?.isNone) = [("internal/strconv.uint64pow10", Lib.tabData .u64 Lib.pow10Tab)] := by kernel_rfl
  rw [e2] at h2
  have ht : (Tryz.prog.globals[0]?).map (·.type) = some 186 := by kernel_rfl
  have hT := Lib.tabIs_of_head tab_global ht Tryz.underlying186 Tryz.underlying22 (by kernel_rfl) (by kernel_rfl) h2
  refine ⟨hT, ?_⟩
  have hc := Lib.TabIs.cell hT tab_global 0 (by decide +kernel)
  unfold World.cell? at hc
  by_cases hz : 0 < W.heap.size
  · exact hz
  · have e3 : W.heap[0]? = none := Array.getElem?_eq_none (by omega)
    simp only [e3] at hc
    cases hc
end Go.Proofs.YtgcffmhpjphefaaGreatDoor

/- Tables by the blocks that they use: what each call leaves of all else. -/
namespace Go.Proofs.YtgcffmhpjphefaaGreatDoor
open Go Go.AE
set_option maxRecDepth 10000
set_option maxHeartbeats 8000000
variable {Z : Go.AE.Road} {s : Spans}

def FrU (U : Nat → Prop) (A B : ASt) : Prop := ∃ own, Fr own A B ∧ ∀ b ∈ own, U b
def Grow (A : ASt) (U U' : Nat → Prop) : Prop := ∀ b, U' b → U b ∨ A.next ≤ b
structure TabU (s : Spans) (A : ASt) (x now n : Nat) (D : TD) (U : Nat → Prop) : Prop where
  ex : ∃ m q e w v W all ms S, TabAt s A x m q e w v W all ms now n D S ∧ ∀ b, U b ↔ (b ∈ ownT x m q e w W all ms ∨ b ∈ slB v ∨ S b)
  rx : (withRo E0 s).ro x = none
  rg : ∀ k t, D k = some t → ∀ y ∈ t.steps, y.ranged
section
variable {A B C : ASt} {x now n : Nat} {D : TD} {U U2 : Nat → Prop}
theorem FrU.next (h : FrU U A B) : A.next ≤ B.next := let ⟨_, h1, _⟩ := h; h1.next
theorem FrU.get (h : FrU U A B) {b : Nat} (hb : b < A.next) (hn : ¬ U b) : B.get b = A.get b := let ⟨_, h1, h2⟩ := h; h1.get b hb fun hm => hn (h2 b hm)
theorem Fr.u (h : Fr [] A B) : FrU U A B := ⟨[], h, by simp⟩
theorem TabU.lt (h : TabU s A x now n D U) : ∀ b, U b → b < A.next := fun b hb => by
  obtain ⟨m, q, e, w, v, W, all, ms, S, hT, hU⟩ := h.ex
  rcases (hU b).1 hb with h1 | h1 | h1
  · exact hT.core.lt b h1
  · exact (hT.core.ns b h1).2
  · exact (hT.core.nr b h1).1
theorem TabU.ok (h : TabU s A x now n D U) : ∀ k t, D k = some t → t.right ∧ t.name = k := let ⟨_, _, _, _, _, _, _, _, _, hT, _⟩ := h.ex; hT.ok
theorem TabU.upto (h : TabU s A x now n D U) : UptoD D n := let ⟨_, _, _, _, _, _, _, _, _, hT, _⟩ := h.ex; hT.upto
theorem TabU.nowlt (h : TabU s A x now n D U) : now < 18446744073709551616 := let ⟨_, _, _, _, _, _, _, _, _, hT, _⟩ := h.ex; hT.core.hW.nowlt
theorem TabU.fr (h : TabU s A x now n D U) (hf : FrU U2 A B) (hd : ∀ b, U b → ¬ U2 b) : TabU s B x now n D U := by
  obtain ⟨m, q, e, w, v, W, all, ms, S, hT, hU⟩ := h.ex
  obtain ⟨own, h1, h2⟩ := hf
  exact ⟨⟨m, q, e, w, v, W, all, ms, S, ⟨hT.core.fr h1 fun b hb _ => ⟨fun hm => hd b ((hU b).2 (.inl hm)) (h2 b hb), fun hm => hd b ((hU b).2 (.inr (.inl hm))) (h2 b hb), fun hm => hd b ((hU b).2 (.inr (.inr hm))) (h2 b hb)⟩, hT.ok, hT.upto⟩, hU⟩, h.rx, h.rg⟩
theorem TabU.fr0 (h : TabU s A x now n D U) (hf : Fr [] A B) : TabU s B x now n D U := h.fr (U2 := fun _ => False) (Fr.u hf) (fun _ _ h => h)
theorem TabU.le (h : TabU s A x now n D U) {m : Nat} (hm : n ≤ m) : TabU s A x now m D U := by
  obtain ⟨m1, q, e, w, v, W, all, ms, S, hT, hU⟩ := h.ex
  exact ⟨⟨m1, q, e, w, v, W, all, ms, S, ⟨hT.core, hT.ok, hT.upto.le hm⟩, hU⟩, h.rx, h.rg⟩
structure TimsP (s : Spans) (A : ASt) (lo : Nat) (V : Nat → Prop) (r : Value) (P : List (TimD × Value)) : Prop where
  own : OwnS A lo 5 P.length r (tcellL P)
  bl : ∀ b ∈ slB r, V b
  st : ∀ p ∈ P, Steps (withRo E0 s) A V p.2 p.1.steps
theorem TimsAt.p {lo : Nat} {r : Value} {P : List (TimD × Value)} (h : TimsAt s A lo r P) : TimsP s A lo (fun b => lo ≤ b ∧ b < A.next) r P :=
  ⟨h.own, h.own.low, fun p hp => (h.steps p hp).imp fun b h1 h2 => ⟨h1.1, h2⟩⟩
theorem TimsP.fr {lo : Nat} {V : Nat → Prop} {r : Value} {P : List (TimD × Value)} (h : TimsP s A lo V r P) (hf : FrU U A B) (hd : ∀ b, U b → ¬ V b) : TimsP s B lo V r P := by
  obtain ⟨own, h1, h2⟩ := hf
  exact ⟨h.own.fr h1 (fun b hb hm => hd b (h2 b hm) (h.bl b hb)), h.bl, fun p hp => (h.st p hp).fr h1 (fun b hb _ hm => hd b (h2 b hm) hb)⟩
theorem TimsP.fr0 {lo : Nat} {V : Nat → Prop} {r : Value} {P : List (TimD × Value)} (h : TimsP s A lo V r P) (hf : Fr [] A B) : TimsP s B lo V r P := h.fr (U := fun _ => False) (Fr.u hf) (fun _ h => h.elim)
theorem TimsP.sl {lo : Nat} {V : Nat → Prop} {r : Value} {P : List (TimD × Value)} (h : TimsP s A lo V r P) (hnr : ∀ b, lo ≤ b → (withRo E0 s).ro b = none) : SlAt (withRo E0 s) A (fun b => lo ≤ b) 5 r (P.map fun p => tcell p.1 p.2) := by
  have h1 := h.own
  have : P.length = (P.map fun p => tcell p.1 p.2).length := by rw [List.length_map]
  rw [this] at h1
  exact OwnS.slAt h1 hnr tcell_len
theorem Grow.refl : Grow A U U := fun b hb => .inl hb
theorem wrU {m q e w : Nat} {v : Value} {W all : Nat} {ms : List Nat} {S : Nat → Prop} (hU : ∀ b, U b ↔ (b ∈ ownT x m q e w W all ms ∨ b ∈ slB v ∨ S b)) : ∀ b ∈ wrT m e w v W all ms, U b := fun b hb => by
  rw [hU]
  simp only [wrT, List.mem_cons, List.mem_append] at hb
  rcases hb with hb | hb | hb | hb | hb
  · exact .inl (by simp [hb])
  · exact .inl (by simp [hb])
  · exact .inl (by simp [hb])
  · exact .inr (.inl hb)
  · exact .inl (by simp only [ownT, List.mem_cons]; simp [hb])
end
abbrev useT (x m q e w : Nat) (v : Value) (W all : Nat) (ms : List Nat) (S : Nat → Prop) : Nat → Prop := fun b => b ∈ ownT x m q e w W all ms ∨ b ∈ slB v ∨ S b
theorem tU_new (hro : RoadS Z E0 s) {A : ASt} {now : Nat} (hn : now < 18446744073709551616) : CallW Z Tryz.prog 7 [.int .u64 (now : Int)] A (fun r A' => ∃ x U, r = .pointer (some ⟨x, 0, none⟩) ∧ TabU s A' x now 0 (fun _ => none) U ∧ Fr [] A A' ∧ ∀ b, U b → A.next ≤ b) := by
  refine CallW.assume hro fun hnr => ?_
  refine CallW.mono (tnewC_spec (s := s) hn) ?_
  rintro _ A' ⟨x, m, q, e, w, W, all, ms, rfl, hT, fA, hl⟩
  refine ⟨x, useT x m q e w (.slice none 0 0) W all ms (fun _ => False), rfl, ⟨⟨m, q, e, w, _, W, all, ms, _, hT, fun b => .rfl⟩, hnr x (hl x (by simp)), fun k t h => by cases h⟩, fA, fun b hb => ?_⟩
  rcases hb with h1 | h1 | h1
  · exact hl b h1
  · cases h1
  · exact h1.elim
theorem tU_set (hro : RoadS Z E0 s) (ht : TabZ Z) {A : ASt} {x now n : Nat} {D : TD} {U Sa : Nat → Prop} {t : TimD} {dv : Value} (h : TabU s A x now n D U) (hn : n ≤ 1000) (hd : Steps (withRo E0 s) A Sa dv t.steps) (hs : StepsIn t.steps) (hat : t.at_ < 18446744073709551616) (hS : ∀ b, Sa b → b < A.next → ¬ U b) :
    CallW Z Tryz.prog 9 [.pointer (some ⟨x, 0, none⟩), tval t dv] A (fun r A' => ∃ D' U', (t.right ∧ r = .int .i64 0 ∧ D' = D.put t ∨ ¬ t.right ∧ r = .int .i64 101 ∧ D' = D) ∧ TabU s A' x now (n + 1) D' U' ∧ Grow A U U' ∧ FrU U A A') := by
  obtain ⟨m, q, e, w, v, W, all, ms, S, hT, hU⟩ := h.ex
  refine CallW.mono (tsetC_spec hro ht hT hn hd hs hat (fun b h1 h2 hm => hS b h1 h2 (wrU hU b hm)) h.rx) ?_
  rintro r A' ⟨hr, fA⟩
  have hF : FrU U A A' := ⟨_, fA, wrU hU⟩
  rcases hr with ⟨h1, rfl, v', S', hT', hv', hS'⟩ | ⟨h1, rfl, hT'⟩
  · refine ⟨_, useT x m q e w v' W all ms S', .inl ⟨h1, rfl, rfl⟩, ⟨⟨m, q, e, w, v', W, all, ms, S', hT', fun b => .rfl⟩, h.rx, fun k u hk y hy => ?_⟩, fun b hb => ?_, hF⟩
    · unfold TD.put at hk
      by_cases e1 : k = t.name
      · rw [if_pos e1] at hk
        cases hk
        exact hs.2 y hy
      · rw [if_neg e1] at hk
        exact h.rg k u hk y hy
    · rw [hU]
      rcases hb with h2 | h2 | h2
      · exact .inl (.inl h2)
      · rcases hv' b h2 with h3 | h3
        · exact .inl (.inr (.inl h3))
        · exact .inr h3
      · rcases hS' b h2 with h3 | h3
        · exact .inl (.inr (.inr h3))
        · exact .inr h3
  · exact ⟨_, U, .inr ⟨h1, rfl, rfl⟩, (show TabU s A' x now n D U from ⟨⟨m, q, e, w, v, W, all, ms, S, hT', hU⟩, h.rx, h.rg⟩).le (by omega), Grow.refl, hF⟩
theorem tU_drop {A : ASt} {x now n : Nat} {D : TD} {U : Nat → Prop} {k : ByteArray} (h : TabU s A x now n D U) :
    CallW Z Tryz.prog 18 [.pointer (some ⟨x, 0, none⟩), .string k] A (fun r A' => r = .bool (D k).isSome ∧ ∃ U', TabU s A' x now n (D.del k) U' ∧ Grow A U U' ∧ FrU U A A') := by
  obtain ⟨m, q, e, w, v, W, all, ms, S, hT, hU⟩ := h.ex
  refine CallW.mono (tdropC_spec (k := k) hT.core) ?_
  rintro _ A' ⟨rfl, v', hC, fA, hv'⟩
  have e1 : (D.near now).del k = (D.del k).near now := (TD.del_filter (D := D) (p := fun a => decide (a ≤ now)) (k := k)).symm
  have e2 : (D.far now).del k = (D.del k).far now := (TD.del_filter (D := D) (p := fun a => decide (now < a)) (k := k)).symm
  rw [e1, e2] at hC
  have hsub : ∀ j t, D.del k j = some t → D j = some t := fun j t hj => by
    unfold TD.del at hj
    by_cases e3 : j = k
    · rw [if_pos e3] at hj; cases hj
    · rwa [if_neg e3] at hj
  refine ⟨rfl, useT x m q e w v' W all ms S, ⟨⟨m, q, e, w, v', W, all, ms, S, ⟨hC, fun j t hj => hT.ok j t (hsub j t hj), hT.upto.del k⟩, fun b => .rfl⟩, h.rx, fun j t hj => h.rg j t (hsub j t hj)⟩, fun b hb => ?_, ⟨_, fA, wrU hU⟩⟩
  rw [hU]
  rcases hb with h2 | h2 | h2
  · exact .inl (.inl h2)
  · rcases hv' b h2 with h3 | h3
    · exact .inl (.inr (.inl h3))
    · exact .inr h3
  · exact .inl (.inr (.inr h2))
theorem tU_adv {A : ASt} {x now n nw : Nat} {D : TD} {U : Nat → Prop} (h : TabU s A x now n D U) (hn : n ≤ 1000) (hnw : nw < 18446744073709551616) :
    CallW Z Tryz.prog 11 [.pointer (some ⟨x, 0, none⟩), .int .u64 (nw : Int)] A (fun r A' => ∃ L, Lists (fun k => (D.at_ k).filter fun a => decide (now < a) && decide (a ≤ nw)) L ∧ NamesAt A' A.next r L ∧ ∃ U', TabU s A' x (max now nw) n D U' ∧ Grow A U U' ∧ FrU U A A') := by
  obtain ⟨m, q, e, w, v, W, all, ms, S, hT, hU⟩ := h.ex
  refine CallW.mono (tadvC_spec hT hn hnw) ?_
  rintro r A' ⟨L, hL, hN, v', hT', hv', fA⟩
  refine ⟨L, hL, hN, useT x m q e w v' W all ms S, ⟨⟨m, q, e, w, v', W, all, ms, S, hT', fun b => .rfl⟩, h.rx, h.rg⟩, fun b hb => ?_, ⟨_, fA, wrU hU⟩⟩
  rw [hU]
  rcases hb with h2 | h2 | h2
  · exact .inl (.inl h2)
  · rcases hv' b h2 with h3 | h3
    · exact .inl (.inr (.inl h3))
    · exact .inr h3
  · exact .inl (.inr (.inr h2))
theorem tU_due (hro : RoadS Z E0 s) {A : ASt} {x now n : Nat} {D : TD} {U : Nat → Prop} (h : TabU s A x now n D U) (hn : n ≤ 1000) :
    CallW Z Tryz.prog 10 [.pointer (some ⟨x, 0, none⟩)] A (fun r A' => ∃ L P, Lists (D.near now) L ∧ TimsAt s A' A.next r P ∧ P.map (·.1) = L.map (fun y => (D y.1).getD zTimD) ∧ ∃ U', TabU s A' x now n D U' ∧ Grow A U U' ∧ FrU U A A' ∧ TimsP s A' A.next (fun b => A.next ≤ b ∧ b < A'.next ∧ ¬ U' b) r P) := by
  obtain ⟨m, q, e, w, v, W, all, ms, S, hT, hU⟩ := h.ex
  refine CallW.mono (tdueC_spec hro hT hn h.rx) ?_
  rintro r A' ⟨L, P, hL, hP, hm, v', hT', hv', fA, hr1, hr2⟩
  have hoff : ∀ b, A.next ≤ b → b ∉ slB v' → ¬ useT x m q e w v' W all ms S b := fun b h1 h2 h3 => by
    rcases h3 with h3 | h3 | h3
    · have := hT.core.lt b h3; omega
    · exact h2 h3
    · have := (hT.core.nr b h3).1; omega
  refine ⟨L, P, hL, hP, hm, useT x m q e w v' W all ms S, ⟨⟨m, q, e, w, v', W, all, ms, S, hT', fun b => .rfl⟩, h.rx, h.rg⟩, fun b hb => ?_, ⟨_, fA, wrU hU⟩, ⟨hP.own, fun b hb => ?_, fun p hp => (hr2 p hp).imp fun b h1 h2 => ⟨h1.1, h2, hoff b h1.1 h1.2⟩⟩⟩
  · rw [hU]
    rcases hb with h2 | h2 | h2
    · exact .inl (.inl h2)
    · rcases hv' b h2 with h3 | h3
      · exact .inl (.inr (.inl h3))
      · exact .inr h3
    · exact .inl (.inr (.inr h2))
  · have h1 := hP.own.low b hb
    exact ⟨h1.1, h1.2, hoff b h1.1 (hr1 b hb)⟩
theorem tU_all (hro : RoadS Z E0 s) {A : ASt} {x now n : Nat} {D : TD} {U : Nat → Prop} (h : TabU s A x now n D U) (hn : n ≤ 1000) :
    CallW Z Tryz.prog 12 [.pointer (some ⟨x, 0, none⟩)] A (fun r A' => ∃ P, TimsAt s A' A.next r P ∧ AllOf D (P.map (·.1)) ∧ Fr [] A A') := by
  obtain ⟨m, q, e, w, v, W, all, ms, S, hT, hU⟩ := h.ex
  exact tallC_spec hro hT hn
theorem tU_clock {A : ASt} {x now n : Nat} {D : TD} {U : Nat → Prop} (h : TabU s A x now n D U) :
    CallW Z Tryz.prog 13 [.pointer (some ⟨x, 0, none⟩)] A (fun r A' => r = .int .u64 (now : Int) ∧ A = A') := by
  obtain ⟨m, q, e, w, v, W, all, ms, S, hT, hU⟩ := h.ex
  exact tclockC_spec hT.core
theorem tU_copy (hro : RoadS Z E0 s) (ht : TabZ Z) {A : ASt} {x now n : Nat} {D : TD} {U : Nat → Prop} (h : TabU s A x now n D U) (hn : n ≤ 900) :
    CallW Z Tryz.prog 16 [.pointer (some ⟨x, 0, none⟩)] A (fun r A' => ∃ x2 U2, r = .pointer (some ⟨x2, 0, none⟩) ∧ TabU s A' x2 now n D U2 ∧ (∀ b, U2 b → A.next ≤ b) ∧ Fr [] A A') := by
  refine CallW.assume hro fun hnr => ?_
  obtain ⟨m, q, e, w, v, W, all, ms, S, hT, hU⟩ := h.ex
  refine CallW.mono (tcopyC_spec hro ht hT hn (fun k t hk => ⟨(hT.ok k t hk).1.steps, h.rg k t hk⟩)) ?_
  rintro _ A' ⟨x2, m2, q2, e2, w2, v2, W2, all2, ms2, S2, rfl, hT2, h1, h2, h3, fA⟩
  refine ⟨x2, useT x2 m2 q2 e2 w2 v2 W2 all2 ms2 S2, rfl, ⟨⟨m2, q2, e2, w2, v2, W2, all2, ms2, S2, hT2, fun b => .rfl⟩, hnr x2 (h1 x2 (by simp)), h.rg⟩, fun b hb => ?_, fA⟩
  rcases hb with h4 | h4 | h4
  · exact h1 b h4
  · exact h2 b h4
  · exact h3 b h4
end Go.Proofs.YtgcffmhpjphefaaGreatDoor

/- The law 'TimersCopies', walked. -/
namespace Go.Proofs.YtgcffmhpjphefaaGreatDoor
open Go Go.AE
set_option maxRecDepth 10000
set_option maxHeartbeats 16000000
variable {Z : Go.AE.Road} {s : Spans}

theorem uniq_sorted {α : Type} {r : α → α → Prop} (irr : ∀ x, ¬ r x x) (asym : ∀ x y, r x y → ¬ r y x) : ∀ {l m : List α}, l.Pairwise r → m.Pairwise r → (∀ x, x ∈ l ↔ x ∈ m) → l = m
  | [], [], _, _, _ => rfl
  | [], y :: m, _, _, h => absurd ((h y).2 (by simp)) (by simp)
  | x :: l, [], _, _, h => absurd ((h x).1 (by simp)) (by simp)
  | x :: l, y :: m, hl, hm, h => by
    rw [List.pairwise_cons] at hl hm
    have e : x = y := by
      rcases List.mem_cons.1 ((h x).1 (by simp)) with h1 | h1
      · exact h1
      · rcases List.mem_cons.1 ((h y).2 (by simp)) with h2 | h2
        · exact h2.symm
        · exact absurd (hm.1 x h1) (asym _ _ (hl.1 y h2))
    subst e
    have : l = m := uniq_sorted irr asym hl.2 hm.2 fun z => by
      constructor
      · intro hz
        rcases List.mem_cons.1 ((h z).1 (by simp [hz])) with h1 | h1
        · subst h1; exact absurd (hl.1 z hz) (irr z)
        · exact h1
      · intro hz
        rcases List.mem_cons.1 ((h z).2 (by simp [hz])) with h1 | h1
        · subst h1; exact absurd (hm.1 z hz) (irr z)
        · exact h1
    rw [this]
theorem lists_uniq {M : TM} {L L' : List (ByteArray × Nat)} (h : Lists M L) (h' : Lists M L') : L = L' :=
  uniq_sorted tlt_irr (fun _ _ h1 h2 => tlt_irr _ (tlt_trans h1 h2)) h.ord h'.ord fun x => by
    obtain ⟨k, a⟩ := x
    rw [h.mem, h'.mem]
theorem all_uniq {D : TD} {l l' : List TimD} (h : AllOf D l) (h' : AllOf D l') : l = l' := by
  have h1 := h.ord
  have h2 := h'.ord
  rw [List.pairwise_map] at h1 h2
  exact uniq_sorted (r := fun a b => blt a.name b.name = true) (fun x h => by rw [blt_irr] at h; cases h) (fun x y h3 h4 => by rw [blt_asym h3] at h4; cases h4) h1 h2 fun t => by rw [h.mem, h'.mem]
theorem sameAll_spec (hro : RoadS Z E0 s) {A : ASt} {S1 S2 S3 S4 : Nat → Prop} {r1 r2 : Value} {P1 P2 : List (TimD × Value)} (h1 : SlAt (withRo E0 s) A S1 5 r1 (P1.map fun p => tcell p.1 p.2)) (h2 : SlAt (withRo E0 s) A S2 5 r2 (P2.map fun p => tcell p.1 p.2))
    (g1 : ∀ p ∈ P1, Steps (withRo E0 s) A S3 p.2 p.1.steps) (g2 : ∀ p ∈ P2, Steps (withRo E0 s) A S4 p.2 p.1.steps) (he : P1.map (·.1) = P2.map (·.1)) (hl : ∀ p ∈ P1, p.1.steps.length ≤ 1000) (hn : P1.length ≤ 1000) (hr1 : ∀ b, S1 b → (withRo E0 s).ro b = none) (hr2 : ∀ b, S2 b → (withRo E0 s).ro b = none) :
    CallW Z Tryz.prog 17 [r1, r2] A (fun r A' => r = .bool true ∧ Fr [] A A') := by
  refine CallW.of_code (withRo_ok E0_ok) hro.ro (f := 17) (fn := Tryz.f17) fn17 rfl (n := 29) rfl (rs := [.tmp 4]) rfl (by simp) (codeW_ok (withRo_ok E0_ok) hro.ro ?_)
  have e : P1.length = P2.length := by have := congrArg List.length he; simpa using this
  obtain ⟨b1, c1, rfl⟩ := h1.form
  obtain ⟨b2, c2, rfl⟩ := h2.form
  rw [List.length_map] at h1 h2
  have l1 := fun B => timLen h1 B
  have l2 := fun B => timLen h2 B
  have dn : (((P1.length : Nat) : Int) ≠ ((P2.length : Nat) : Int)) = False := eq_false (by rw [e]; simp)
  simp only [w_w, z_0, flat, Option.isNone, aFieldAddr, aField, aBuiltin, cond_true, cond_false, cond_dec, if_true, if_false, List.length_cons, List.length_nil, forall_const, implies_true, List.append_nil, List.cons_append, List.nil_append, eq_self, Nat.reduceEqDiff, Nat.reduceAdd, Nat.reduceMul, Nat.reduceSub, Nat.reduceLT, Nat.reduceLeDiff, Nat.reduceBEq, reduceIte, reduceCtorEq, List.length_map, l1, l2, dn, decide_false]
  refine CodeW.mono (Q := fun o => ∃ T' A', o = .fr ⟨.exit 0, T', A'⟩ ∧ Fr [] A A') ?_ ?_
  · refine CodeW.loopR (k := P1.length) (fun n T A' => ∃ i : Nat, n = P1.length - i ∧ i ≤ P1.length ∧ tget T 5 = .int .i64 (i : Int) ∧ tget T 0 = .slice b1 P1.length c1 ∧ tget T 1 = .slice b2 P2.length c2 ∧ Fr [] A A') ?_ ⟨0, rfl, Nat.zero_le _, ?_, ?_, ?_, .refl _ _⟩
    · rintro n T A1 ⟨i, rfl, hi, u5, u0, u1, f1⟩
      refine codeW_ok (withRo_ok E0_ok) hro.ro ?_
      have wi : IntKind.i64.wrap ((i : Int) + 1) = ((i + 1 : Nat) : Int) := by rw [IntKind.wrap_i64]; omega
      by_cases hlt : i < P1.length
      · have d1 : ((i : Int) < ((P1.length : Nat) : Int)) = True := eq_true (by omega)
        obtain ⟨p, hp⟩ : ∃ p, P1[i]? = some p := ⟨_, List.getElem?_eq_getElem hlt⟩
        obtain ⟨q, hq⟩ : ∃ q, P2[i]? = some q := ⟨_, List.getElem?_eq_getElem (by omega)⟩
        have hpq : q.1 = p.1 := by
          have h3 : (P1.map (·.1))[i]? = some p.1 := by rw [List.getElem?_map, hp]; rfl
          have h4 : (P2.map (·.1))[i]? = some q.1 := by rw [List.getElem?_map, hq]; rfl
          rw [he, h4] at h3
          exact Option.some.inj h3
        obtain ⟨x1, o1, k1, hx1, hc1, hcut1, _, _, hs1⟩ := timIx (h1.fr f1 (by simp)) hp
        obtain ⟨x2, o2, k2, hx2, hc2, hcut2, _, _, hs2⟩ := timIx (h2.fr f1 (by simp)) hq
        have t1 : Value.agg (tcell p.1 p.2).toArray = tval p.1 p.2 := rfl
        have t2 : Value.agg (tcell q.1 q.2).toArray = tval p.1 q.2 := by rw [hpq]; rfl
        have s1 := (g1 p (List.mem_of_getElem? hp)).fr f1 (by simp)
        have s2 := (g2 q (List.mem_of_getElem? hq)).fr f1 (by simp)
        rw [hpq] at s2
        have v1 : valEq (tval p.1 p.2) (tval p.1 p.2) = true := val25 s1
        have v2 : valEq (tval p.1 q.2) (tval p.1 q.2) = true := val25 s2
        have q1 := hr1 x1 hs1
        have q2 := hr2 x2 hs2
        have w1 := h1.ve
        have w2 := h2.ve
        have hRC := RO_ok (Z := Z) (P := Tryz.prog) (f := 40) (ar := [tval p.1 p.2, tval p.1 q.2]) (Pr := fun A => Steps (withRo E0 s) A S3 p.2 p.1.steps ∧ Steps (withRo E0 s) A S4 q.2 p.1.steps) (Sp := fun A r A' => r = .bool true ∧ Fr [] A A') (fun A h => same_tim hro h.1 h.2 (hl p (List.mem_of_getElem? hp)))
        simp only [w_w, z_0, flat, Option.isNone, aFieldAddr, aField, aBuiltin, cond_true, cond_false, cond_dec, if_true, if_false, List.length_cons, List.length_nil, forall_const, implies_true, List.append_nil, List.cons_append, List.nil_append, eq_self, Nat.reduceEqDiff, Nat.reduceAdd, Nat.reduceMul, Nat.reduceSub, Nat.reduceLT, Nat.reduceLeDiff, Nat.reduceBEq, reduceIte, reduceCtorEq, u5, u0, u1, l1, d1, decide_true]
        refine CodeW.seqf (withRo_ok E0_ok) hro.ro mixed hRC [0, 1, 2, 3, 4, 5, 6, 7, 8, 9] [] (fanOf _ _ _) (by simp only [reorder, reoGo, strip, List.map_cons, List.map_nil, opAt, remap, nth, Option.map, σ, place', nbeq, List.length_cons, List.length_nil, Nat.reduceAdd, Nat.reduceLT, Nat.reduceEqDiff, if_true, if_false, reduceIte]; rfl) (by decide +kernel) (by kernel_rfl) (by kernel_rfl) (by kernel_rfl) rfl ?_
        simp only [w_w, z_0, flat, Option.isNone, aFieldAddr, aField, aBuiltin, cond_true, cond_false, cond_dec, if_true, if_false, List.length_cons, List.length_nil, forall_const, implies_true, List.append_nil, List.cons_append, List.nil_append, eq_self, Nat.reduceEqDiff, Nat.reduceAdd, Nat.reduceMul, Nat.reduceSub, Nat.reduceLT, Nat.reduceLeDiff, Nat.reduceBEq, reduceIte, reduceCtorEq, q_0, q_1, q_2, f_0, pendW, hasN, reorder, E0_ron, exists_eq', List.length_cons, List.length_nil, u5, u0, u1, q1, q2, w1, w2, v1, v2, hx1, hc1, hcut1, hx2, hc2, hcut2, t1, t2, get_next]
        have fb : Fr [] A1 { heap := A1.heap, next := A1.next + 10 } := Fr.bump (by omega)
        have hpre := And.intro (s1.fr fb (by simp)) (s2.fr fb (by simp))
        refine conRO hpre ?_
        rintro _ B ⟨rfl, fB0⟩
        have fB := fb.trans fB0
        simp only [w_w, z_0, flat, Option.isNone, aFieldAddr, aField, aBuiltin, cond_true, cond_false, cond_dec, if_true, if_false, List.length_cons, List.length_nil, forall_const, implies_true, List.append_nil, List.cons_append, List.nil_append, eq_self, Nat.reduceEqDiff, Nat.reduceAdd, Nat.reduceMul, Nat.reduceSub, Nat.reduceLT, Nat.reduceLeDiff, Nat.reduceBEq, reduceIte, reduceCtorEq, q_0, q_1, q_2, f_0, pendW, hasN, reorder, E0_ron, exists_eq', List.length_cons, List.length_nil, u5, u0, u1, un_not, Bool.not_true, wi]
        exact ⟨P1.length - (i + 1), by omega, i + 1, rfl, by omega, rfl, f1.trans fB⟩
      · have d1 : ((i : Int) < ((P1.length : Nat) : Int)) = False := eq_false (by omega)
        simp only [w_w, z_0, flat, Option.isNone, aFieldAddr, aField, aBuiltin, cond_true, cond_false, cond_dec, if_true, if_false, List.length_cons, List.length_nil, forall_const, implies_true, List.append_nil, List.cons_append, List.nil_append, eq_self, Nat.reduceEqDiff, Nat.reduceAdd, Nat.reduceMul, Nat.reduceSub, Nat.reduceLT, Nat.reduceLeDiff, Nat.reduceBEq, reduceIte, reduceCtorEq, u5, u0, u1, l1, d1, decide_false]
        exact ⟨_, _, rfl, f1⟩
    all_goals first | rfl | (unfold argsT; rfl)
  · rintro o ⟨T', A', rfl, f1⟩
    simp only [w_w, z_0, flat, Option.isNone, aFieldAddr, aField, aBuiltin, cond_true, cond_false, cond_dec, if_true, if_false, List.length_cons, List.length_nil, forall_const, implies_true, List.append_nil, List.cons_append, List.nil_append, eq_self, Nat.reduceEqDiff, Nat.reduceAdd, Nat.reduceMul, Nat.reduceSub, Nat.reduceLT, Nat.reduceLeDiff, Nat.reduceBEq, reduceIte, reduceCtorEq]
    exact f1
theorem due_list {D : TD} {c : Nat} {L L' : List (ByteArray × Nat)} {P P' : List (TimD × Value)} (h : Lists (D.near c) L) (h' : Lists (D.near c) L') (e : P.map (·.1) = L.map fun y => (D y.1).getD zTimD) (e' : P'.map (·.1) = L'.map fun y => (D y.1).getD zTimD) : P.map (·.1) = P'.map (·.1) := by
  rw [e, e', lists_uniq h h']
theorem all_len {D : TD} {P : List (TimD × Value)} {n : Nat} (h : AllOf D (P.map (·.1))) (hu : UptoD D n) : P.length ≤ n := by
  have h1 : (P.map (·.1.name)).Nodup := by
    have := h.ord
    rw [List.map_map] at this
    exact this.imp (fun {a b} hab e1 => by subst e1; rw [blt_irr] at hab; cases hab)
  obtain ⟨ls, hl1, hl2⟩ := hu
  have := nodup_leG h1 (l := ls) (fun k hk => by
    obtain ⟨p, hp, rfl⟩ := List.mem_map.1 hk
    refine hl2 _ ?_
    rw [(h.mem p.1).1 (List.mem_map.2 ⟨p, hp, rfl⟩)]
    rfl)
  rw [List.length_map] at this
  omega
theorem all_some {D : TD} {P : List (TimD × Value)} (h : AllOf D (P.map (·.1))) : ∀ p ∈ P, ∃ k, D k = some p.1 := fun p hp => ⟨_, (h.mem p.1).1 (List.mem_map.2 ⟨p, hp, rfl⟩)⟩
theorem due_len {D : TD} {c n : Nat} {L : List (ByteArray × Nat)} {P : List (TimD × Value)} (h : Lists (D.near c) L) (e : P.map (·.1) = L.map fun y => (D y.1).getD zTimD) (hu : UptoD D n) : P.length = L.length ∧ P.length ≤ n := by
  have h1 : P.length = L.length := by have := congrArg List.length e; simpa using this
  have := listsSmall (p := fun a => decide (a ≤ c)) h hu
  exact ⟨h1, by omega⟩
theorem due_some {D : TD} {c : Nat} {L : List (ByteArray × Nat)} {P : List (TimD × Value)} (h : Lists (D.near c) L) (e : P.map (·.1) = L.map fun y => (D y.1).getD zTimD) : ∀ p ∈ P, ∃ k, D k = some p.1 := fun p hp => by
  have h1 : p.1 ∈ P.map (·.1) := List.mem_map.2 ⟨p, hp, rfl⟩
  rw [e, List.mem_map] at h1
  obtain ⟨y, hy, e1⟩ := h1
  have h2 := (h.mem y.1 y.2).1 hy
  unfold TD.near TD.at_ at h2
  rw [Option.filter_eq_some_iff] at h2
  cases hD : D y.1 with
  | none => rw [hD] at h2; cases h2.1
  | some t =>
    rw [hD] at e1
    have e1 : t = p.1 := e1
    exact ⟨y.1, by rw [hD, e1]⟩
end Go.Proofs.YtgcffmhpjphefaaGreatDoor
