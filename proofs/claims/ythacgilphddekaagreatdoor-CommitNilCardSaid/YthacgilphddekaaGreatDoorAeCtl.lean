/- The evaluator: the operations of a region, in the order of the text; code; calls. -/
import Derived.Test.YthacgilphddekaaGreatDoorAeOp
import Derived.RangeFuncRecord
import Derived.OrdersIn
namespace Go.AE
open Go

theorem Nd.all_bind {α β : Type} {q : β → Prop} (f : α → Nd β) : ∀ {m : Nd α}, (m.bind f).all q → m.all fun a => (f a).all q
  | .ret _, h => h
  | .ask _ _, h => fun i hi => Nd.all_bind f (h i hi)
  | .fail _, h => h
  | .pick _ _, h => fun r hr => Nd.all_bind f (h r hr)

theorem Nd.all_mono {α : Type} {q q' : α → Prop} (h : ∀ a, q a → q' a) : ∀ {m : Nd α}, m.all q → m.all q'
  | .ret _, k => h _ k
  | .ask _ _, k => fun i hi => Nd.all_mono h (k i hi)
  | .fail _, k => k
  | .pick _ _, k => fun r hr => Nd.all_mono h (k r hr)

/-- Which states a run may come to: kept by each step. -/
structure Road where
  reach : Ren → ASt → World → Prop
  rep : ∀ {ρ A w}, reach ρ A w → Rep ρ A w
  step : ∀ {ρ A w ρ' A' w'}, reach ρ A w → Step ρ A w ρ' A' w' → reach ρ' A' w'
  sub : ∀ {ρ A w} {G : ASt}, reach ρ A w → (∀ b o, G.get b = some o → A.get b = some o) → G.next = A.next → reach ρ G w

/-- Whom a call leads to, and what is so behind it. -/
noncomputable def TgtSound (P : Program) (ρ : Ren) (t : Tgt) (args : Array Value) (w : World) (R : Ending → World → Prop) : Prop :=
  match t with
  | .fn f => Calls P f args w R
  | .round l => ∀ L, ρ l = some L → ∃ f tmps assign body, (Instr.yield L.B args).run P w = .ok (.round L.B f tmps assign body) w ∧ RoundIn Fence.wide 0 P L.B f tmps assign body w R

/-- On every road the rows that are read alone lie where they should. -/
def RoadRo (Z : Road) (E : Env) : Prop := ∀ ρ A w, Z.reach ρ A w → RoOK E ρ w

/-- What the evaluator says of calls is so. -/
noncomputable def CallSound (Z : Road) (P : Program) (call : Tgt → List Value → ASt → Nd (Value × ASt)) : Prop :=
  ∀ t args A Q, (call t args A).all Q → ∀ ρ w (args' : Array Value), Z.reach ρ A w → VsRel ρ args args'.toList →
    TgtSound P ρ t args' w fun e w' => ∃ v A' v' ρ', Q (v, A') ∧ e = .returned v' ∧ VRel ρ' v v' ∧ Step ρ A w ρ' A' w'

/-- The fence of a frame: all functions; of a round, or of none. -/
abbrev FR (r : Option Nat) : Fence := { Fence.wide with round := r }

theorem callsIn_FR {r : Option Nat} {n : Nat} {P : Program} {f : FuncId} {args : Array Value} {w : World} {R : Ending → World → Prop} (h : Calls P f args w R) : CallsIn (FR r) n P f args w R := (callsIn_wide (n := n)).2 h
theorem roundIn_FR {r : Option Nat} {n : Nat} {P : Program} {l : Nat} {f : FuncId} {tmps : Array Value} {assign body : Code} {w : World} {R : Ending → World → Prop} (h : RoundIn Fence.wide n P l f tmps assign body w R) : RoundIn (FR r) n P l f tmps assign body w R := h

noncomputable def RoRel (ρ : Ren) : Option Nat → Option Nat → Prop
  | none, none => True
  | some l, some B => ∃ L, ρ l = some L ∧ L.B = B
  | _, _ => False

theorem RoRel.mono {ρ ρ' : Ren} (h : ρ.le ρ') {a b : Option Nat} (k : RoRel ρ a b) : RoRel ρ' a b := by
  cases a <;> cases b <;> simp only [RoRel] at k ⊢
  obtain ⟨L, h1, h2⟩ := k
  exact ⟨L, h _ _ h1, h2⟩

/-- The mark of a block for the deferred calls of rounds. -/
noncomputable def markOf (r : Nat) : Deferred := { target := .collected r, args := #[] }

/-- The deferred calls of a frame: marks of empty blocks that are younger than the frame. -/
noncomputable def Defs (N : Nat) (w : World) (ds : List Deferred) : Prop :=
  N ≤ w.heap.size ∧ ∃ rs : List Nat, ds = rs.map markOf ∧ rs.Nodup ∧ ∀ r ∈ rs, N ≤ r ∧ w.heap[r]? = some (.deferred (some []))

theorem defs_nil (w : World) : Defs w.heap.size w [] := ⟨Nat.le_refl _, [], rfl, .nil, fun _ h => by cases h⟩

/-- Such a block is nobody's. -/
theorem Rep.not_deferred {ρ : Ren} {A : ASt} {w : World} (h : Rep ρ A w) {r : Nat} {x : Option (List Deferred)} (hr : w.heap[r]? = some (.deferred x)) {b : Nat} {o : AObj} {L : Loc} (hb : A.get b = some o) (hL : ρ b = some L) : L.B ≠ r := by
  obtain ⟨M, hM, ho⟩ := h.obj b o hb
  rw [hL] at hM; cases hM
  intro e
  cases o with
  | row c sz tail => obtain ⟨_, _, _, _, h, _⟩ := ho; rw [e, hr] at h; cases h
  | map es clock => obtain ⟨_, h, _⟩ := ho; rw [e, hr] at h; cases h
  | miter m s se st => obtain ⟨_, h, _⟩ := ho; rw [e, hr] at h; cases h
  | siter s pos => have h := ho.1; rw [e, hr] at h; cases h
  | loop n T ps as b st j => obtain ⟨_, h, _⟩ := ho; rw [e, hr] at h; cases h

theorem Rep.not_owned {ρ : Ren} {A : ASt} {w : World} (h : Rep ρ A w) {r : Nat} {x : Option (List Deferred)} (hr : w.heap[r]? = some (.deferred x)) (j : Nat) : ¬ Owned ρ A r j := by
  rintro ⟨b, o, L, hb, hL, hB, _⟩
  exact h.not_deferred hr hb hL hB

theorem Defs.step {N : Nat} {ρ ρ' : Ren} {A A' : ASt} {w w' : World} {ds : List Deferred} (hR : Rep ρ A w) (hs : Step ρ A w ρ' A' w') (h : Defs N w ds) : Defs N w' ds := by
  obtain ⟨h0, rs, h1, h2, h3⟩ := h
  exact ⟨Nat.le_trans h0 hs.size, rs, h1, h2, fun r hr => ⟨(h3 r hr).1, hs.objs r _ (h3 r hr).2 (by simp) (hR.not_owned (h3 r hr).2 0)⟩⟩

/-- A mark's block is shut. -/
theorem Step.shut {ρ₀ ρ : Ren} {A₀ A : ASt} {w₀ w : World} (h : Step ρ₀ A₀ w₀ ρ A w) {r : Nat} {x : Option (List Deferred)} (hr : w.heap[r]? = some (.deferred x)) (h0 : w₀.heap.size ≤ r) (y : Option (List Deferred)) : Step ρ₀ A₀ w₀ ρ A (w.putObj r (.deferred y)) := by
  have hrep : Rep ρ A (w.putObj r (.deferred y)) := ⟨fun b o hb => by
    obtain ⟨L, hL, ho⟩ := h.rep.obj b o hb
    exact ⟨L, hL, ho.of_block (World.putObj_heap_other (h.rep.not_deferred hr hb hL))⟩, h.rep.apart, h.rep.fresh⟩
  have hother : ∀ B, B < w₀.heap.size → (w.putObj r (.deferred y)).heap[B]? = w.heap[B]? := fun B hB => World.putObj_heap_other (by omega)
  have hlt : ∀ {B : Nat} {o : Obj}, w₀.heap[B]? = some o → B < w₀.heap.size := fun h => (Array.getElem?_eq_some_iff.1 h).1
  refine ⟨⟨hrep, h.ext, h.next, by rw [World.putObj_size]; exact h.size, h.os, h.tape, h.output, fun B c el fr hB => ?_, fun B o hB hne hno => ?_, h.owns⟩, h.keep, h.dom⟩
  · rw [hother B (hlt hB)]; exact h.cells B c el fr hB
  · rw [hother B (hlt hB)]; exact h.objs B o hB hne hno

theorem TRel.put {ρ : Ren} {T : Tmps} {a : Act} (ht : TRel ρ T a) {d : Tmp} (hd : d < a.tmps.size) {v v' : Value} (hv : VRel ρ v v') : TRel ρ (T.put d (some v)) (a.put (some d) v') := by
  refine ⟨fun t => ?_⟩
  unfold tget
  rw [Tr.get_put]
  by_cases e : t = d
  · subst e
    rw [if_pos rfl]
    simpa [Act.put, hd] using hv
  · rw [if_neg e]
    have : (a.put (some d) v').tmps.getD t undef = a.tmps.getD t undef := by
      simp [Act.put, Array.getElem?_setIfInBounds_ne (Ne.symm e)]
    rw [this]
    exact ht.at_ t

theorem putN_sound {ρ : Ren} {T T' : Tmps} {a : Act} {n : Nat} {dst : Option Tmp} {v v' : Value} (ht : TRel ρ T a) (hn : a.tmps.size = n) (h : putN n T dst v = some T') (hv : VRel ρ v v') : TRel ρ T' (a.put dst v') := by
  cases dst with
  | none => simp [putN] at h; subst h; exact ht
  | some d =>
    simp only [putN] at h
    cases hb : Nat.blt d n with
    | false => rw [hb] at h; cases h
    | true =>
      rw [hb, cond_true, Tr.putC_eq] at h; cases h
      have : d < n := Nat.le_of_ble_eq_true hb
      exact ht.put (hn ▸ this) hv

theorem size_put (a : Act) (dst : Option Tmp) (v : Value) : (a.put dst v).tmps.size = a.tmps.size := by
  cases dst <;> simp [Act.put]
theorem defers_put (a : Act) (dst : Option Tmp) (v : Value) : (a.put dst v).defers = a.defers := by
  cases dst <;> rfl

theorem wanted_sound {ρ : Ren} {ops : Array Oper} {T : Tmps} {a : Act} (ht : TRel ρ T a) (o : Oper) : Region.wanted o (yielded ops a.tmps) = wantedA ops T o := by
  unfold Region.wanted wantedA
  cases hg : o.guard with
  | none => rfl
  | some gw =>
    obtain ⟨j, want⟩ := gw
    simp only []
    unfold yielded
    rw [nth_eq, Array.getElem?_toList]
    cases hj : ops[j]? with
    | none => simp
    | some g =>
      simp only [Option.bind_some]
      cases hd : g.dst with
      | none => simp
      | some d =>
        simp only [Option.bind_some]
        have h := ht.at_ d
        rcases Nat.lt_or_ge d a.tmps.size with hlt | hge
        · have e : a.tmps.getD d undef = a.tmps[d] := by simp [hlt]
          have e2 : a.tmps[d]? = some a.tmps[d] := by simp [hlt]
          rw [e] at h
          rw [e2]
          generalize a.tmps[d] = v' at h
          generalize tget T d = v at h
          cases h <;> try simp
          rename_i k L hk hr
          revert hr
          cases L.raw <;> simp [rawOK]
        · have e : a.tmps.getD d undef = undef := by simp [Array.getElem?_eq_none hge]
          have e2 : a.tmps[d]? = none := Array.getElem?_eq_none hge
          rw [e] at h
          rw [e2]
          generalize tget T d = v at h
          generalize hu : undef = u at h
          unfold undef at hu
          cases h <;> first | (cases hu; done) | simp

/-- One operation of a region. -/
theorem oneOp_sound {Z : Road} {E : Env} {P : Program} (hE : EnvOK E P) (hZr : RoadRo Z E) {call : Tgt → List Value → ASt → Nd (Value × ASt)} (hcall : CallSound Z P call) {ρ : Ren} {A : ASt} {w : World} (hR : Z.reach ρ A w) {T : Tmps} {a : Act} (ht : TRel ρ T a) {o : Oper} {rr : Option Nat}
    {Q : Value × ASt → Prop} (h : (oneOp E call o T A).all Q) {next : Act → World → Prop} {Qx : Exit → Act → World → Prop}
    (hnext : ∀ v A' v' w' ρ', Q (v, A') → VRel ρ' v v' → Step ρ A w ρ' A' w' → next (a.put o.dst v') w') : o.wpIn (FR rr) 0 P a w next Qx := by
  refine ⟨fun _ _ => trivial, ?_⟩
  by_cases hdef : ∃ c, o.op = .defer c
  · obtain ⟨c, hc⟩ := hdef
    unfold oneOp at h
    rw [hc] at h
    exact h.elim
  rw [Oper.semAt_eq _ _ _ (fun c hc => hdef ⟨c, hc⟩)]
  unfold oneOp at h
  split at h
  · rename_i it isString hop
    split at h
    · rename_i v hv
      obtain ⟨u, A', u', w', hq, hrun, hvr, hst⟩ := next_sound (P := P) (ty := o.type) (Z.rep hR) h (ev_sound ht hv)
      have : (execOp a.eval o).run P w = .ok (.value u') w' := by simp [execOp, hop, hrun]
      rw [this, Oper.uponIn_value]
      exact hnext u A' u' w' ρ hq hvr hst
    · exact h.elim
  · have hs := op_sound hE (Z.rep hR) (hZr _ _ _ hR) ht o
    revert h hs
    generalize aOp E o.op T A = r
    intro h hs
    cases r with
    | bad why => exact h.elim
    | val v A' =>
      obtain ⟨nx, v', w', ρ', hrun, hnx, hvr, hst⟩ := hs
      rw [hrun]
      rcases hnx with rfl | ⟨rfl, rfl⟩
      · rw [Oper.uponIn_value]; exact hnext v A' v' w' ρ' h hvr hst
      · rw [Oper.uponIn_skip]; exact hnext v A' undef w' ρ' h hvr hst
    | enter t args A' =>
      cases t with
      | fn f =>
        obtain ⟨args', hrun, hargs, rfl⟩ := hs
        rw [hrun, Oper.uponIn_enter]
        refine ⟨fun h => (by cases h), callsIn_FR ((hcall (.fn f) args _ Q h ρ w args' hR hargs).mono ?_)⟩
        rintro e w' ⟨v, A2, v', ρ', hq, rfl, hvr, hst⟩
        exact hnext v A2 v' w' ρ' hq hvr hst
      | round l =>
        obtain ⟨args', L, hL, hrun, hargs, rfl⟩ := hs
        obtain ⟨f, tmps, as, b, hy, hround⟩ := hcall (.round l) args _ Q h ρ w args' hR hargs L hL
        rw [hrun, hy, Oper.uponIn_round]
        refine ⟨fun h => (by cases h), roundIn_FR (hround.mono ?_)⟩
        rintro e w' ⟨v, A2, v', ρ', hq, rfl, hvr, hst⟩
        exact hnext v A2 v' w' ρ' hq hvr hst

/-- What is known behind a stretch of code. -/
noncomputable def After (ρ : Ren) (A : ASt) (w : World) (n N : Nat) (T' : Tmps) (A' : ASt) (a' : Act) (w' : World) : Prop :=
  ∃ ρ', TRel ρ' T' a' ∧ Step ρ A w ρ' A' w' ∧ a'.tmps.size = n ∧ Defs N w' a'.defers

theorem ops_sound {Z : Road} {E : Env} {P : Program} (hE : EnvOK E P) (hZr : RoadRo Z E) {call : Tgt → List Value → ASt → Nd (Value × ASt)} (hcall : CallSound Z P call) {n N : Nat} {rr : Option Nat} {ops : Array Oper} {Qx : Exit → Act → World → Prop} {ρ₀ : Ren} {A₀ : ASt} {w₀ : World} {Q : Tmps × ASt → Prop} (hZ : Z.reach ρ₀ A₀ w₀)
    (hfin : ∀ T A a w, Q (T, A) → After ρ₀ A₀ w₀ n N T A a w → Qx .normal a w) :
    ∀ (l : List Oper) (k : Nat) (T : Tmps) (A : ASt) (a : Act) (w : World) (ρ : Ren), ops.toList.drop k = l → (opsRun E call n ops l T A).all Q → TRel ρ T a → Step ρ₀ A₀ w₀ ρ A w → a.tmps.size = n → Defs N w a.defers →
      wpOpsIn (FR rr) 0 P ops Qx (List.range' k l.length) a w
  | [], k, T, A, a, w, ρ, hl, h, ht, hs, hn, hd => by
    simp only [List.length_nil, List.range'_zero, wpOpsIn]
    exact hfin T A a w h ⟨ρ, ht, hs, hn, hd⟩
  | o :: l, k, T, A, a, w, ρ, hl, h, ht, hs, hn, hd => by
    have ho : ops[k]? = some o := by
      have : (ops.toList.drop k)[0]? = some o := by rw [hl]; rfl
      rw [List.getElem?_drop] at this
      simpa using this
    have hl' : ops.toList.drop (k + 1) = l := by
      have : (ops.toList.drop k).drop 1 = l := by rw [hl]; rfl
      rwa [List.drop_drop] at this
    simp only [List.length_cons, List.range'_succ, wpOpsIn, ho]
    rw [wanted_sound ht]
    unfold opsRun at h
    cases hw : wantedA ops T o with
    | true =>
      rw [hw, cond_true] at h
      rw [if_pos rfl]
      refine oneOp_sound hE hZr hcall (Z.step hZ hs) ht (Nd.all_bind _ h) ?_
      intro v A' v' w' ρ' hq hvr hst
      simp only [] at hq
      split at hq
      · rename_i T' hT'
        exact ops_sound hE hZr hcall hZ hfin l (k + 1) T' A' _ w' ρ' hl' hq (putN_sound (ht.mono hst.ext) hn hT' hvr) (hs.trans hst) (by rw [size_put]; exact hn) (by rw [defers_put]; exact hd.step hs.rep hst)
      · exact hq.elim
    | false =>
      rw [hw, cond_false] at h
      simp only [Bool.false_eq_true, if_false]
      refine ⟨fun _ _ => trivial, ?_⟩
      split at h
      · rename_i T' hT'
        exact ops_sound hE hZr hcall hZ hfin l (k + 1) T' A _ w ρ hl' h (putN_sound ht hn hT' VRel.undef) hs (by rw [size_put]; exact hn) (by rw [defers_put]; exact hd)
      · exact h.elim

noncomputable def exRel : AExit → Exit → Prop
  | .normal, .normal => True
  | .exit i, .exit j => i = j
  | .ret, .ret => True
  | _, _ => False

/-- What the evaluator says of a piece of code is so. -/
noncomputable def CodeSound (Z : Road) (P : Program) (n : Nat) (ro : Option Nat) (c : Code) (T : Tmps) (A : ASt) (r : Nd Out) : Prop :=
  ∀ Q, r.all Q → ∀ ρ w a N rr, Z.reach ρ A w → RoRel ρ ro rr → TRel ρ T a → a.tmps.size = n → Defs N w a.defers →
    c.wpIn (FR rr) 0 P (fun e a' w' => ∃ ex T' A', Q (.fr ⟨ex, T', A'⟩) ∧ exRel ex e ∧ After ρ A w n N T' A' a' w') a w

/-- What holds behind a piece of code that began in a state of the past. -/
noncomputable def CodePost (Q : Out → Prop) (ρ : Ren) (A : ASt) (w : World) (n N : Nat) (e : Exit) (a' : Act) (w' : World) : Prop :=
  ∃ ex T' A', Q (.fr ⟨ex, T', A'⟩) ∧ exRel ex e ∧ After ρ A w n N T' A' a' w'

/-- At most so many rounds. -/
noncomputable def roundsIn (F : Fence) (P : Program) (c : Code) (Q : Exit → Act → World → Prop) : Nat → Act → World → Prop
  | 0, _, _ => False
  | k + 1, a, w => c.wpIn F 0 P (Exit.then (roundsIn F P c Q k) Q) a w

theorem roundsIn_succ {F : Fence} {P : Program} {c : Code} {Q : Exit → Act → World → Prop} {k : Nat} {a : Act} {w : World} : roundsIn F P c Q (k + 1) a w = c.wpIn F 0 P (Exit.then (roundsIn F P c Q k) Q) a w := rfl

theorem wpIn_loop_rounds {F : Fence} {P : Program} {Q : Exit → Act → World → Prop} {a : Act} {w : World} {c : Code} (n : Nat) (h : roundsIn F P c Q n a w) : (Code.loop c).wpIn F 0 P Q a w := by
  intro b k cs hro hb hr
  have key : ∀ n a w, roundsIn F P c Q n a w →
      ∃ e a' w', Q e a' w' ∧ ArrivesIn (Machine.fenced P F) P (lone (b.atR a (.code c :: .inLoop c :: k)) cs w) b k cs e a' w' := by
    intro n
    induction n with
    | zero => intro a w h; exact h.elim
    | succ n ih =>
      intro a w h
      obtain ⟨e, a₁, w₁, hq, harr⟩ := h b (.inLoop c :: k) cs hro hb hr
      cases e with
      | normal =>
        obtain ⟨e₂, a₂, w₂, hq₂, harr₂⟩ := ih a₁ w₁ hq
        exact ⟨e₂, a₂, w₂, hq₂, .of_steps (StepsIn.trans harr (.one (fenced_calm hb hr rfl) stepR_inLoop)) harr₂⟩
      | exit id => exact ⟨_, a₁, w₁, hq, .pass (x := .inLoop c) rfl (fun _ _ => .inl (by simp)) harr⟩
      | goto l => exact ⟨_, a₁, w₁, hq, .pass (x := .inLoop c) rfl (fun _ _ => .inl (by simp)) harr⟩
      | ret => exact ⟨_, a₁, w₁, hq, .pass (x := .inLoop c) rfl (fun _ _ => .inl (by simp)) harr⟩
      | panic ch => exact ⟨_, a₁, w₁, hq, .pass (x := .inLoop c) rfl (fun _ _ => .inl (by simp)) harr⟩
      | outgrown => exact ⟨_, a₁, w₁, hq, .pass (x := .inLoop c) rfl (fun _ _ => .inl (by simp)) harr⟩
  obtain ⟨e, a', w', hq, harr⟩ := key n a w h
  exact ⟨e, a', w', hq, .of_steps (.one (fenced_calm hb hr rfl) stepR_loop) harr⟩

/-- No jump to a label leaves it. -/
noncomputable def noGoto (Q : Exit → Act → World → Prop) : Exit → Act → World → Prop
  | .goto _, _, _ => False
  | e, a, w => Q e a w

theorem stepR_scope {P : Program} {b : Frame} {a : Act} {k : List Item} {cs : List Frame} {w : World} {c : Code} : step P (lone (b.atR a (.code (.scope c) :: k)) cs w) = .next (lone (b.atR a (.code c :: .inScope c :: k)) cs w) :=
  step_lone_go (by simp [stepG, stepG.exec, Frame.atR])
theorem stepR_inScope {P : Program} {b : Frame} {a : Act} {k : List Item} {cs : List Frame} {w : World} {c : Code} : step P (lone (b.atR a (.inScope c :: k)) cs w) = .next (lone (b.atR a k) cs w) :=
  step_lone_go (by simp [stepG, stepG.exec, Frame.atR])

theorem wpIn_scope_straight {F : Fence} {P : Program} {Q : Exit → Act → World → Prop} {a : Act} {w : World} {c : Code} (h : c.wpIn F 0 P (noGoto Q) a w) : (Code.scope c).wpIn F 0 P Q a w := by
  intro b k cs hro hb hr
  have h0 : (lone (b.atR a (.code (.scope c) :: k)) cs w).fenced P F := fenced_calm hb hr rfl
  obtain ⟨e, a₁, w₁, hq, harr⟩ := h b (.inScope c :: k) cs hro hb hr
  cases e with
  | normal => exact ⟨.normal, a₁, w₁, hq, .head h0 stepR_scope (StepsIn.trans harr (.one (fenced_calm hb hr rfl) stepR_inScope))⟩
  | exit id =>
    have hx : exitTo id (.inScope c :: k) = exitTo id k := by simp [exitTo]
    exact ⟨_, a₁, w₁, hq, fun k' hk => .head h0 stepR_scope (harr.1 k' (by rw [hx]; exact hk)),
      fun hr' hk => let ⟨k₁, h1, h2⟩ := harr.2 hr' (by rw [hx]; exact hk); ⟨k₁, h1, .head h0 stepR_scope h2⟩⟩
  | goto l => exact hq.elim
  | ret => exact ⟨_, a₁, w₁, hq, .of_steps (.one h0 stepR_scope) harr⟩
  | panic ch => exact ⟨_, a₁, w₁, hq, .of_steps (.one h0 stepR_scope) harr⟩
  | outgrown => exact ⟨_, a₁, w₁, hq, .of_steps (.one h0 stepR_scope) harr⟩

structure JobSound (Z : Road) (P : Program) (fuel : Nat) (ih : Job → Nd Out) : Prop where
  code : ∀ n ro c T A, CodeSound Z P n ro c T A (ih (.code n ro c T A))
  call : CallSound Z P (callBy ih)
  loop : ∀ n ro b T A Q, (ih (.code n ro (.loop b) T A)).all Q → ∀ ρ₀ A₀ w₀ ρ w a N rr, Z.reach ρ₀ A₀ w₀ → Step ρ₀ A₀ w₀ ρ A w → RoRel ρ ro rr → TRel ρ T a → a.tmps.size = n → Defs N w a.defers → roundsIn (FR rr) P b (CodePost Q ρ₀ A₀ w₀ n N) fuel a w

/-- What the evaluator says of a region whose order is drawn is so. -/
noncomputable def DrawSound (Z : Road) (E : Env) (P : Program) : Prop :=
  ∀ call, CallSound Z P call → ∀ n id ops T A Q, (drawRun E call n ops T A).all Q → ∀ ρ w a N rr, Z.reach ρ A w → TRel ρ T a → a.tmps.size = n → Defs N w a.defers →
    (Code.region id ops true).wpIn (FR rr) 0 P (fun e a' w' => e = .normal ∧ ∃ T' A', Q (T', A') ∧ After ρ A w n N T' A' a' w') a w

theorem After.trans {ρ ρ₁ : Ren} {A A₁ A₂ : ASt} {w w₁ w₂ : World} {n N : Nat} {T : Tmps} {a : Act} (h : Step ρ A w ρ₁ A₁ w₁) (k : After ρ₁ A₁ w₁ n N T A₂ a w₂) : After ρ A w n N T A₂ a w₂ :=
  let ⟨ρ', h1, h2, h3, h4⟩ := k
  ⟨ρ', h1, h.trans h2, h3, h4⟩

noncomputable def resF (tmps : Array Value) : ResultVar → Sem Value
  | .tmp t => pure (tmps.getD t undef)
  | .cell c t => do loadVar t (← asAddr (tmps.getD c undef))

theorem results_eq (fn : Func) (tmps : Array Value) : results fn tmps = (do
    let vs ← fn.results.mapM (resF tmps)
    pure (if h : vs.size = 1 then vs[0] else .tuple vs)) := by
  have : (fun x : ResultVar => (match x with
      | .tmp t => pure (tmps.getD t undef)
      | .cell a t => do loadVar t (← asAddr (tmps.getD a undef)) : Sem Value)) = resF tmps := by
    funext x; cases x <;> rfl
  unfold results
  rw [← this]
  rfl

theorem results_sound {E : Env} {P : Program} (hE : EnvOK E P) {ρ : Ren} {A : ASt} {w : World} (hR : Rep ρ A w) (hro : RoOK E ρ w) {T : Tmps} {a : Act} (ht : TRel ρ T a) : ∀ {l : List ResultVar} {vs : List Value}, resultsV E T A l = some vs →
    ∃ vs', (l.mapM (resF a.tmps)).run P w = .ok vs' w ∧ VsRel ρ vs vs'
  | [], vs, h => by simp [resultsV] at h; subst h; exact ⟨[], rfl, .nil⟩
  | .tmp t :: l, vs, h => by
    unfold resultsV at h
    split at h
    · rename_i r hr
      cases h
      obtain ⟨vs', h1, h2⟩ := results_sound hE hR hro ht hr
      refine ⟨a.tmps.getD t undef :: vs', ?_, .cons (ht.at_ t) h2⟩
      have e : (resF a.tmps (.tmp t)).run P w = .ok (a.tmps.getD t undef) w := rfl
      rw [List.mapM_cons]
      simp only [Sem.run_bind, Sem.run_pure, Result.andThen_ok, h1, e]
    · cases h
  | .cell c t :: l, vs, h => by
    unfold resultsV at h
    split at h
    · rename_i v hv
      split at h
      · rename_i r hr
        cases h
        obtain ⟨vs', h1, h2⟩ := results_sound hE hR hro ht hr
        obtain ⟨v', _, h4, ad, h5, h6⟩ := load_sound hE hR hro (ht.at_ c) hv
        refine ⟨v' :: vs', ?_, .cons h4 h2⟩
        have e : (resF a.tmps (.cell c t)).run P w = .ok v' w := by
          simp only [resF, Sem.run_bind, h5, asAddr, Sem.run_pure, Result.andThen_ok, h6]
        rw [List.mapM_cons]
        simp only [Sem.run_bind, Sem.run_pure, Result.andThen_ok, h1, e]
      · cases h
    · cases h

theorem oneOrTuple_rel {ρ : Ren} {vs vs' : List Value} (h : VsRel ρ vs vs') : VRel ρ (oneOrTuple vs) (if hh : vs'.toArray.size = 1 then vs'.toArray[0] else .tuple vs'.toArray) := by
  cases h with
  | nil => exact VRel.tuple_of .nil
  | cons h1 h2 =>
    cases h2 with
    | nil => simpa [oneOrTuple] using h1
    | cons h2 h3 =>
      simp only [oneOrTuple]
      rw [dif_neg (by simp)]
      exact VRel.tuple_of (.cons h1 (.cons h2 h3))

theorem results_run {E : Env} {P : Program} (hE : EnvOK E P) {ρ : Ren} {A : ASt} {w : World} (hR : Rep ρ A w) (hro : RoOK E ρ w) {T : Tmps} {a : Act} (ht : TRel ρ T a) {fn : Func} {vs : List Value} (h : resultsV E T A fn.results.toList = some vs) :
    ∃ v', (results fn a.tmps).run P w = .ok v' w ∧ VRel ρ (oneOrTuple vs) v' := by
  obtain ⟨vs', h1, h2⟩ := results_sound hE hR hro ht h
  refine ⟨_, ?_, oneOrTuple_rel h2⟩
  rw [results_eq, Array.mapM_eq_mapM_toList]
  simp only [Sem.run_bind, Sem.run_map, h1, Result.andThen_ok]
  rfl

theorem argsT_get : ∀ (l : List Value) (i : Nat) (T : Tmps) (t : Nat), (argsT i l T).get t = if i ≤ t ∧ t < i + l.length then l[t - i]? else T.get t
  | [], i, T, t => by simp only [argsT, List.length_nil]; rw [if_neg (by omega)]
  | v :: l, i, T, t => by
    simp only [argsT]
    rw [argsT_get l (i + 1), Tr.get_put]
    simp only [List.length_cons]
    by_cases h : i + 1 ≤ t ∧ t < i + 1 + l.length
    · rw [if_pos h, if_pos (by omega)]
      have : t - i = (t - (i + 1)) + 1 := by omega
      rw [this]; simp
    · rw [if_neg h]
      by_cases e : t = i
      · subst e; rw [if_pos rfl, if_pos (by omega)]; simp
      · rw [if_neg e, if_neg (by omega)]

theorem enter_rel {ρ : Ren} {args : List Value} {args' : Array Value} (h : VsRel ρ args args'.toList) (m : Nat) : TRel ρ (argsT 0 args .e) { tmps := args' ++ Array.replicate m undef, defers := [] } := by
  refine ⟨fun t => ?_⟩
  have hl := h.length
  simp only [Array.length_toList] at hl
  unfold tget
  rw [argsT_get]
  by_cases ht : t < args.length
  · rw [if_pos (by omega)]
    obtain ⟨v', hv', hr⟩ := h.get t args[t] (List.getElem?_eq_getElem ht)
    have e : args[t - 0]? = some args[t] := by simp
    rw [e]
    have e2 : (args' ++ Array.replicate m undef).getD t undef = v' := by
      have : args'[t]? = some v' := by simpa using hv'
      rw [Array.getD_eq_getD_getElem?, Array.getElem?_append, if_pos (by omega), this]
      rfl
    simp only []
    rw [e2]
    exact hr
  · rw [if_neg (by omega)]
    have e2 : (args' ++ Array.replicate m undef).getD t undef = undef := by
      simp only [Array.getD_eq_getD_getElem?, Array.getElem?_append]
      rw [if_neg (by omega)]
      rcases Nat.lt_or_ge (t - args'.size) m with h1 | h1
      · simp [h1]
      · simp [show ¬ t - args'.size < m by omega]
    simp only [Tr.get_e]
    rw [e2]
    exact VRel.undef

/-- What is said of the calls that are not gone through is so. -/
noncomputable def HookOK (Z : Road) (E : Env) (P : Program) : Prop :=
  ∀ f args A r, E.hook f args A = some r → ∀ Q, r.all Q → ∀ ρ w (args' : Array Value), Z.reach ρ A w → VsRel ρ args args'.toList →
    Calls P f args' w fun e w' => ∃ v A' v' ρ', Q (v, A') ∧ e = .returned v' ∧ VRel ρ' v v' ∧ Step ρ A w ρ' A' w'

/-- Where nothing that stood has turned. -/
theorem Step.of_below {ρ : Ren} {A : ASt} {w w' : World} (h : Rep ρ A w) (hb : Go.RowKit.Below w.heap.size w w') : Step ρ A w ρ A w' := by
  have hlt : ∀ {B : Nat} {o : Obj}, w.heap[B]? = some o → B < w.heap.size := fun h => (Array.getElem?_eq_some_iff.1 h).1
  refine ⟨⟨⟨fun b o hbo => ?_, h.apart, h.fresh⟩, .refl _, Nat.le_refl _, hb.size, hb.os, hb.tape, hb.output, fun B c el fr hB => ⟨c, by rw [hb.block B (hlt hB)]; exact hB, rfl, fun _ _ => rfl⟩, fun B o hB _ _ => by rw [hb.block B (hlt hB)]; exact hB, fun _ _ _ h => h⟩, fun _ _ => rfl, fun _ _ h => h⟩
  obtain ⟨L, hL, ho⟩ := h.obj b o hbo
  exact ⟨L, hL, ho.of_block (hb.block _ ho.block)⟩

/-- A frame goes: the marks are taken. -/
theorem leaves_marks {P : Program} {fn : Func} {tmps : Array Value} {R : Ending → World → Prop} {ρ₀ ρ : Ren} {A₀ A : ASt} {w₀ : World} (hend : ∀ w', Step ρ₀ A₀ w₀ ρ A w' → LeavesIn Fence.wide 0 P fn tmps R [] .returning w') :
    ∀ (rs : List Nat) (w : World), Step ρ₀ A₀ w₀ ρ A w → rs.Nodup → (∀ r ∈ rs, w₀.heap.size ≤ r ∧ w.heap[r]? = some (.deferred (some []))) → LeavesInM Fence.wide 0 P fn tmps R (rs.map markOf) .returning w
  | [], w, hs, _, _ => hend w hs
  | r :: rs, w, hs, hnd, hall => by
    rw [List.nodup_cons] at hnd
    have h1 := hall r (by simp)
    refine ⟨by simp, .inl ⟨r, w.putObj r (.deferred none), rfl, run_takeDeferred h1.2, ?_⟩⟩
    refine leaves_marks hend rs _ (hs.shut h1.2 h1.1 _) hnd.2 fun r' hr' => ?_
    have h2 := hall r' (by simp [hr'])
    refine ⟨h2.1, ?_⟩
    rw [World.putObj_heap_other (fun e => hnd.1 (by rw [← e]; exact hr'))]
    exact h2.2

theorem call_step {Z : Road} {E : Env} {P : Program} (hE : EnvOK E P) (hZr : RoadRo Z E) (hH : HookOK Z E P) {ih : Job → Nd Out} (hcode : ∀ n ro c T A, CodeSound Z P n ro c T A (ih (.code n ro c T A))) {f : FuncId} {args : List Value} {A : ASt} {Q : Out → Prop} (h : (stepJob E ih (.call (.fn f) args A)).all Q)
    {ρ : Ren} {w : World} {args' : Array Value} (hR : Z.reach ρ A w) (ha : VsRel ρ args args'.toList) :
    Calls P f args' w fun e w' => ∃ v A' v' ρ', Q (.res v A') ∧ e = .returned v' ∧ VRel ρ' v v' ∧ Step ρ A w ρ' A' w' := by
  unfold stepJob at h
  simp only [] at h
  split at h
  · rename_i r hk
    refine (hH f args A r hk _ (Nd.all_bind _ h) ρ w args' hR ha).mono ?_
    rintro e w' ⟨v, A', v', ρ', hq, rest⟩
    exact ⟨v, A', v', ρ', hq, rest⟩
  split at h
  · rename_i fn hf
    obtain ⟨hP, _, _⟩ := hE.fn f fn hf
    split at h
    · rename_i c hb
      cases hlen : Nat.ble args.length fn.ntmps with
      | false => rw [hlen] at h; exact h.elim
      | true =>
        rw [hlen, cond_true] at h
        have hlen' := Nat.le_of_ble_eq_true hlen
        have hl := ha.length
        simp only [Array.length_toList] at hl
        refine (callsIn_wide (n := 0)).1 (callsIn_of_wp_marks hP hb trivial ?_)
        have hw := hcode fn.ntmps none c (argsT 0 args .e) A _ (Nd.all_bind _ h) ρ w { tmps := args' ++ Array.replicate (fn.ntmps - args'.size) undef, defers := [] } w.heap.size none hR trivial (enter_rel ha _) (by simp; omega) (defs_nil w)
        refine wpIn_mono (F := Fence.wide) hw ?_
        rintro e a' w' ⟨ex, T', A', hq, hex, ρ', ht, hst, hn, _, rs, hd1, hd2, hd3⟩
        have fin : ∀ (hq' : (match resultsV E T' A' fn.results.toList with
            | some l => Nd.ret (Out.res (oneOrTuple l) A')
            | none => Nd.fail "results").all Q), LeavesInM Fence.wide 0 P fn a'.tmps (fun e w' => ∃ v A' v' ρ', Q (.res v A') ∧ e = .returned v' ∧ VRel ρ' v v' ∧ Step ρ A w ρ' A' w') a'.defers .returning w' := by
          intro hq'
          split at hq'
          · rename_i vs hvs
            rw [hd1]
            refine leaves_marks (fun w2 hst2 => ?_) rs w' hst hd2 hd3
            obtain ⟨v', h1, h2⟩ := results_run hE hst2.rep (hZr _ _ _ (Z.step hR hst2)) ht hvs
            exact ⟨v', h1, _, _, v', ρ', hq', rfl, h2, hst2⟩
          · exact hq'.elim
        cases ex with
        | normal => cases e <;> first | exact hex.elim | exact fin hq
        | ret => cases e <;> first | exact hex.elim | exact fin hq
        | exit i => exact hq.elim
    · exact h.elim
  · exact h.elim


theorem putAll_sound {ρ : Ren} {n : Nat} : ∀ {ts : List Tmp} {vs vs' : List Value} {T T' : Tmps} {tmps : Array Value}, putAll n ts vs T = some T' → VsRel ρ vs vs' → tmps.size = n → (∀ t, VRel ρ (tget T t) (tmps.getD t undef)) →
    ts.length = vs'.length ∧ ((ts.zip vs').foldl (fun tmps (t, a) => tmps.setIfInBounds t a) tmps).size = n ∧ ∀ t, VRel ρ (tget T' t) (((ts.zip vs').foldl (fun tmps (t, a) => tmps.setIfInBounds t a) tmps).getD t undef)
  | [], [], _, T, T', tmps, h, .nil, hn, ht => by
    simp only [putAll, Option.some.injEq] at h
    subst h
    exact ⟨rfl, hn, ht⟩
  | t :: ts, v :: vs, _, T, T', tmps, h, .cons hv hvs, hn, ht => by
    simp only [putAll] at h
    cases hb : Nat.blt t n with
    | false => rw [hb] at h; cases h
    | true =>
      rw [hb, cond_true] at h
      have hlt : t < n := Nat.le_of_ble_eq_true hb
      rename_i v' vs'
      have := putAll_sound (tmps := tmps.setIfInBounds t v') h hvs (by simpa using hn) (fun s => by
        unfold tget
        rw [Tr.get_put]
        by_cases e : s = t
        · subst e
          rw [if_pos rfl]
          simpa [hn, hlt] using hv
        · rw [if_neg e]
          have e2 : (tmps.setIfInBounds t v').getD s undef = tmps.getD s undef := by
            simp [Array.getElem?_setIfInBounds_ne (Ne.symm e)]
          rw [e2]
          exact ht s)
      exact ⟨by simp [this.1], this.2⟩
  | [], _ :: _, _, _, _, _, h, _, _, _ => by cases h
  | _ :: _, [], _, _, _, _, h, _, _, _ => by cases h

/-- The record of a loop is written. -/
theorem loop_set {ρ : Ren} {A : ASt} {w : World} (hR : Rep ρ A w) {l : Nat} {L : Loc} {n : Nat} {T : Tmps} {ps : Array Tmp} {as b : Code} {st : LoopState} {j : Option Code} (hg : A.get l = some (.loop n T ps as b st j)) (hL : ρ l = some L) :
    ∃ r : Loop, w.heap[L.B]? = some (.loop r) ∧ (r.params = ps ∧ r.assign = as ∧ r.body = b ∧ r.state = st ∧ r.pending = j) ∧ r.tmps.size = n ∧ (∀ t, VRel ρ (tget T t) (r.tmps.getD t undef)) ∧
      ∀ st' j', Step ρ A w ρ (A.set l (.loop n T ps as b st' j')) (w.putObj L.B (.loop { r with state := st', pending := j' })) := by
  obtain ⟨L', hL', r, h1, ⟨h2, h3, h4, h5, h6⟩, h7, h8, h9⟩ := hR.obj l _ hg
  rw [hL] at hL'; cases hL'
  refine ⟨r, h1, ⟨h2, h3, h4, h5, h6⟩, h7, h8, fun st' j' => ?_⟩
  have hlt := (Array.getElem?_eq_some_iff.1 h1).1
  exact (set_obj default hR (y := .loop { r with state := st', pending := j' }) (o' := .loop n T ps as b st' j') hg hL h1 (by simp) h9 (by simp [AObj.hi, h9]) (by simp [AObj.hi, h9])
    ⟨{ r with state := st', pending := j' }, by simp [hlt], ⟨h2, h3, h4, rfl, rfl⟩, h7, h8, h9⟩).2

theorem endR_sound {P : Program} {ρ : Ren} {A : ASt} {w : World} (hR : Rep ρ A w) {l : Nat} {L : Loc} (hL : ρ l = some L) {ex : AExit} {Q : Out → Prop} (h : (endR l ex A).all Q) :
    ∃ v w' A', (Instr.endRound L.B (exCode ex)).run P w = .ok v w' ∧ Q (.res v A') ∧ VRel ρ v v ∧ Step ρ A w ρ A' w' := by
  unfold endR at h
  split at h
  · rename_i n T ps as b st j hg
    obtain ⟨r, h1, h2, h3, h4, h5⟩ := loop_set hR hg hL
    split at h
    · rename_i hx
      exact ⟨.bool true, _, _, by rw [run_endRound _ h1, hx]; rfl, h, .bool _, h5 _ _⟩
    · rename_i c hx
      exact ⟨.bool false, _, _, by rw [run_endRound _ h1, hx]; rfl, h, .bool _, h5 _ _⟩
  · exact h.elim

theorem round_step {Z : Road} {P : Program} {ih : Job → Nd Out} (hcode : ∀ n ro c T A, CodeSound Z P n ro c T A (ih (.code n ro c T A))) {l : Nat} {args : List Value} {A : ASt} {Q : Out → Prop} (h : (roundJob ih l args A).all Q)
    {ρ : Ren} {w : World} {args' : Array Value} (hR : Z.reach ρ A w) (ha : VsRel ρ args args'.toList) {L : Loc} (hL : ρ l = some L) :
    ∃ f tmps assign body, (Instr.yield L.B args').run P w = .ok (.round L.B f tmps assign body) w ∧ RoundIn Fence.wide 0 P L.B f tmps assign body w fun e w' => ∃ v A' v' ρ', Q (.res v A') ∧ e = .returned v' ∧ VRel ρ' v v' ∧ Step ρ A w ρ' A' w' := by
  unfold roundJob at h
  split at h
  · rename_i n T ps as b st j hg
    obtain ⟨r, h1, ⟨h2, h3, h4, h5, h6⟩, h7, h8, _⟩ := loop_set (Z.rep hR) hg hL
    split at h
    · rename_i T' hT'
      obtain ⟨k1, k2, k3⟩ := putAll_sound hT' ha h7 h8
      have hs : args'.size = r.params.size := by rw [h2]; simpa using k1.symm
      have hfold : ((r.params.zip args').foldl (fun tmps (t, a) => tmps.setIfInBounds t a) r.tmps) = ((ps.toList.zip args'.toList).foldl (fun tmps (t, a) => tmps.setIfInBounds t a) r.tmps) := by
        rw [h2, ← Array.foldl_toList, Array.toList_zip]
      refine ⟨_, _, _, _, run_yield h1 hs, ?_⟩
      rw [hfold, h3, h4]
      refine roundIn_of_wpIn (F := Fence.wide) trivial ?_
      have hw := hcode n (some l) as T' A _ (Nd.all_bind _ h) ρ w { tmps := (ps.toList.zip args'.toList).foldl (fun tmps (t, a) => tmps.setIfInBounds t a) r.tmps, defers := [] } w.heap.size (some L.B) hR ⟨L, hL, rfl⟩ ⟨k3⟩ k2 (defs_nil w)
      refine wpIn_mono (F := Fence.wide.inRound L.B) hw ?_
      rintro e a1 w1 ⟨ex, T1, A1, hq, hex, ρ1, ht1, hst1, hn1, hd1⟩
      cases ex with
      | exit i => exact hq.elim
      | ret => exact hq.elim
      | normal =>
        cases e <;> first | exact hex.elim | skip
        simp only [] at hq
        split at hq
        · rename_i n1 T0 ps1 as1 b1 st1 j1 hg1
          have hL1 := hst1.ext _ _ hL
          obtain ⟨r1, g1, ⟨g2, g3, g4, g5, g6⟩, g7, g8, g9⟩ := loop_set hst1.rep hg1 hL1
          cases hready : isReady st1 with
          | false => rw [hready] at hq; exact hq.elim
          | true =>
            rw [hready, cond_true] at hq
            have hst : r1.state = .ready := by
              rw [g5]
              cases st1 <;> first | rfl | (simp [isReady] at hready; done)
            have hstep1 : Step ρ1 A1 w1 ρ1 (A1.set l (.loop n1 T0 ps1 as1 b1 .busy j1)) (w1.putObj L.B (.loop { r1 with state := .busy })) := by
              have := g9 .busy j1
              rw [← g6] at this
              exact g6 ▸ this
            refine ⟨_, run_beginRound g1 hst, ?_⟩
            have hZ2 := Z.step (Z.step hR hst1) hstep1
            have hw2 := hcode n (some l) b T1 _ _ (Nd.all_bind _ hq) ρ1 _ a1 w.heap.size (some L.B) hZ2 ⟨L, hL1, rfl⟩ ht1 hn1 (hd1.step hst1.rep hstep1)
            refine wpIn_mono (F := Fence.wide.inRound L.B) hw2 ?_
            rintro e a2 w2 ⟨ex, T2, A2, hq2, hex2, ρ2, ht2, hst2, hn2, hd2⟩
            have hall := (hst1.trans hstep1).trans hst2
            obtain ⟨v, w3, A3, z1, z2, z3, z4⟩ := endR_sound (P := P) hst2.rep (hst2.ext _ _ hL1) hq2
            have hend : ∃ v w', (Instr.endRound L.B (exCode ex)).run P w2 = .ok v w' ∧ ∃ u A' v' ρ', Q (.res u A') ∧ Ending.returned v = .returned v' ∧ VRel ρ' u v' ∧ Step ρ A w ρ' A' w' :=
              ⟨v, w3, z1, v, A3, v, ρ2, z2, rfl, z3, hall.trans z4⟩
            cases ex with
            | normal => cases e <;> first | exact hex2.elim | exact hend
            | ret => cases e <;> first | exact hex2.elim | exact hend
            | exit i =>
              cases e <;> first | exact hex2.elim | skip
              have : i = _ := hex2
              subst this
              exact hend
        · exact hq.elim
    · exact h.elim
  · exact h.elim

/-- A range over a function. -/
theorem range_step {Z : Road} {E : Env} {P : Program} (hE : EnvOK E P) (hZr : RoadRo Z E) {fuel : Nat} {ih : Job → Nd Out} (hJ : JobSound Z P fuel ih) (n : Nat) (ro : Option Nat) (g : Operand) (ps : Array Tmp) (as b : Code) (T : Tmps) (A : ASt) : CodeSound Z P n ro (.rangeFunc g ps as b) T A (rangeJob E ih n ro g ps as b T A) := by
  intro Q h ρ w a N rr hZ hro ht hn hd
  have hR := Z.rep hZ
  unfold rangeJob at h
  simp only [fN_eq, ASt.newN_eq] at h
  split at h
  · rename_i fn first captured hg
    cases hok : roOK ro A with
    | false => rw [hok] at h; exact h.elim
    | true =>
      rw [hok, cond_true] at h
      split at h
      · rename_i f args A2 hinv
        -- entering: where the record lies, and the mark
        have hent : ∀ fnId, ∃ (L : Loc) (mark : List Deferred) (w₁ : World), (Instr.enterLoop fnId a.tmps ps as b rr).run P w = .ok (L.B, mark) w₁ ∧
            Step ρ A w (upd ρ A.next L) (A.new (.loop n T ps as b .ready none)) w₁ ∧ Defs N w₁ (mark ++ a.defers) := by
          intro fnId
          have mk : ∀ (w0 : World) (d : Nat), Rep ρ A w0 → Step ρ A w0 (upd ρ A.next ⟨w0.heap.size, 0, 0, 0, undef⟩) (A.new (.loop n T ps as b .ready none)) (w0.alloc (.loop { state := .ready, pending := none, fn := fnId, tmps := a.tmps, params := ps, assign := as, body := b, defers := d })) := by
            intro w0 d h0
            exact Step.new h0 _ _ _ rfl ⟨_, heap_alloc_new _ _, ⟨rfl, rfl, rfl, rfl, rfl⟩, hn, fun t => (ht.at_ t).mono (upd_le (h0.fresh _ (Nat.le_refl _))), rfl⟩
          cases rr with
          | none =>
            have hb : Go.RowKit.Below w.heap.size w (w.alloc (.deferred (some []))) := (Go.RowKit.Below.refl _ _).alloc (Nat.le_refl _) _
            have hs0 := Step.of_below hR hb
            have hs1 := mk (w.alloc (.deferred (some []))) w.heap.size hs0.rep
            refine ⟨⟨w.heap.size + 1, 0, 0, 0, undef⟩, _, _, run_enterLoop_outer fnId a.tmps ps as b, ?_, ?_⟩
            · have := hs0.trans hs1
              simpa using this
            · obtain ⟨h0, rs, h1, h2, h3⟩ := (hd.step hR hs0).step hs0.rep hs1
              obtain ⟨p0, rs', p1, p2, p3⟩ := hd
              have hrr : rs = rs' := by
                have : rs.map markOf = rs'.map markOf := by rw [← h1, p1]
                exact (List.map_inj_right (fun x y e => by unfold markOf at e; injection e with e _; injection e)).1 this
              refine ⟨h0, w.heap.size :: rs, by rw [h1]; rfl, List.nodup_cons.2 ⟨fun hm => ?_, h2⟩, fun r hr => ?_⟩
              · rw [hrr] at hm
                have := (Array.getElem?_eq_some_iff.1 (p3 _ hm).2).1
                omega
              · rcases List.mem_cons.1 hr with rfl | hr
                · refine ⟨p0, ?_⟩
                  rw [Go.RowKit.Below.heap_alloc _ _ _ (by simp)]
                  exact heap_alloc_new _ _
                · exact h3 r hr
          | some B =>
            cases ro with
            | none => exact hro.elim
            | some lv =>
              obtain ⟨Lv, hLv, rfl⟩ := hro
              unfold roOK isLoop at hok
              simp only [] at hok
              split at hok
              · rename_i n' T' ps' as' b' st' j' hg'
                obtain ⟨r, h1, _⟩ := loop_set hR hg' hLv
                have hs1 := mk w r.defers hR
                refine ⟨⟨w.heap.size, 0, 0, 0, undef⟩, [], _, ?_, hs1, hd.step hR hs1⟩
                unfold Instr.enterLoop
                simp only [Sem.run_bind, run_getLoop h1, run_newObj_alloc, Result.andThen, Sem.run_pure]
              · cases hok
        refine wpIn_rangeFunc fun fnId _ => ?_
        obtain ⟨L, mark, w₁, he, hst1, hd1⟩ := hent fnId
        have hvr := ev_sound (ht.mono hst1.ext) hg
        have hyield : VRel (upd ρ A.next L) (.func (.yield A.next) #[] #[]) (.func (.yield L.B) #[] #[]) := .yield upd_same
        -- the call
        have hcallee : ∃ (fn' : Fn) (f' c' : Array Value), a.eval g = .func fn' f' c' ∧ FnRel (upd ρ A.next L) fn fn' ∧ VsRel (upd ρ A.next L) first.toList f'.toList ∧ VsRel (upd ρ A.next L) captured.toList c'.toList := by
          generalize a.eval g = fv at hvr
          cases hvr with
          | yield hb => exact ⟨_, _, _, rfl, .yield hb, .nil, .nil⟩
          | func _ h0 h1 h2 h3 h4 => exact ⟨_, _, _, rfl, .same h0, VsRel.of_array h1 h2, VsRel.of_array h3 h4⟩
        obtain ⟨fn', f', c', hev, hfn, hf, hc⟩ := hcallee
        have hinv' := invoke_sound hE hst1.rep (hZr _ _ _ (Z.step hZ hst1)) hfn (args := first.toList ++ [.func (.yield A.next) #[] #[]]) (args' := f' ++ #[.func (.yield L.B) #[] #[]]) (by simpa using hf.append (.cons hyield .nil)) hc
        rw [hinv] at hinv'
        obtain ⟨args', hrun, hargs, rfl⟩ := hinv'
        refine ⟨L.B, mark, w₁, { target := .fn fn' c', args := f' ++ #[.func (.yield L.B) #[] #[]] }, w₁, f, args', w₁, he, ?_, fun _ _ => trivial, hrun, fun h => (by cases h), ?_⟩
        · have harg : (#[Operand.const (.func (.yield L.B) #[] #[])] : Array Operand).map a.eval = #[.func (.yield L.B) #[] #[]] := by
            simp [Act.eval]
          simp only [resolve, hev, Deferred.ofValue]
          rw [harg]
          rfl
        refine callsIn_FR ((hJ.call (.fn f) args _ _ (Nd.all_bind _ h) _ w₁ args' (Z.step hZ hst1) hargs).mono ?_)
        rintro e w₃ ⟨v, A3, v', ρ3, hq, rfl, hvr3, hst3⟩
        simp only [] at hq
        have hL3 : ρ3 A.next = some L := hst3.ext _ _ upd_same
        split at hq
        · rename_i n' T' ps' as' b' st' j' hg3
          obtain ⟨r, h1, ⟨h2, h3, h4, h5, h6⟩, h7, h8, h9⟩ := loop_set hst3.rep hg3 hL3
          cases hbusy : isBusy st' with
          | true => rw [hbusy] at hq; exact hq.elim
          | false =>
            rw [hbusy, cond_false] at hq
            have hnb : r.state ≠ .busy := by
              rw [h5]
              rintro rfl
              simp [isBusy] at hbusy
            have hstep : Step ρ3 A3 w₃ ρ3 (A3.set A.next (.loop n' T' ps' as' b' .exhausted j')) (w₃.putObj L.B (.loop { r with state := .exhausted })) := by
              have := h9 .exhausted j'
              rw [← h6] at this
              exact h6 ▸ this
            have hall := (hst1.trans hst3).trans hstep
            have hdd := (hd1.step hst1.rep hst3).step hst3.rep hstep
            refine ⟨j', w₃.putObj L.B (.loop { r with state := .exhausted }), by rw [← h6]; exact run_endLoop h1 hnb, ?_⟩
            cases j' with
            | none =>
              exact ⟨.normal, T, _, hq, trivial, ρ3, ⟨fun t => (ht.at_ t).mono hall.ext⟩, hall, hn, hdd⟩
            | some c =>
              simp only [] at hq ⊢
              refine wpIn_mono (hJ.code n ro c T _ Q hq ρ3 _ { a with defers := mark ++ a.defers } N rr (Z.step hZ hall) (hro.mono hall.ext) ⟨fun t => (ht.at_ t).mono hall.ext⟩ hn hdd) ?_
              rintro e2 a2 w2 ⟨ex2, T2, A2, hq2, hex2, haft⟩
              exact ⟨ex2, T2, A2, hq2, hex2, haft.trans hall⟩
        · exact hq.elim
      · exact h.elim
  · exact h.elim

theorem code_step {Z : Road} {E : Env} {P : Program} (hE : EnvOK E P) (hZr : RoadRo Z E) (hdraw : DrawSound Z E P) {fuel : Nat} {ih : Job → Nd Out} (hJ : JobSound Z P fuel ih) (n : Nat) (ro : Option Nat) (c : Code) (T : Tmps) (A : ASt) : CodeSound Z P n ro c T A (stepJob E ih (.code n ro c T A)) := by
  intro Q h ρ w a N rr hR hro ht hn hd
  have hcode := hJ.code
  have hcall := hJ.call
  have now : After ρ A w n N T A a w := ⟨ρ, ht, .refl (Z.rep hR), hn, hd⟩
  cases c with
  | skip => exact wpIn_skip ⟨.normal, T, A, h, trivial, now⟩
  | ret => exact wpIn_ret ⟨.ret, T, A, h, trivial, now⟩
  | exit id => exact wpIn_exit ⟨.exit id, T, A, h, rfl, now⟩
  | label l => exact wpIn_label ⟨.normal, T, A, h, trivial, now⟩
  | seq x y =>
    refine wpIn_seq (wpIn_mono (hcode n ro x T A _ (Nd.all_bind _ h) ρ w a N rr hR hro ht hn hd) ?_)
    rintro e a' w' ⟨ex, T', A', hq, hex, ρ', ht', hst, hn', hd'⟩
    cases ex with
    | normal =>
      cases e <;> first | exact hex.elim | skip
      refine wpIn_mono (hcode n ro y T' A' Q hq ρ' w' a' N rr (Z.step hR hst) (hro.mono hst.ext) ht' hn' hd') ?_
      rintro e2 a2 w2 ⟨ex2, T2, A2, hq2, hex2, haft⟩
      exact ⟨ex2, T2, A2, hq2, hex2, haft.trans hst⟩
    | exit i => cases e <;> first | exact hex.elim | exact ⟨.exit i, T', A', hq, hex, ρ', ht', hst, hn', hd'⟩
    | ret => cases e <;> first | exact hex.elim | exact ⟨.ret, T', A', hq, hex, ρ', ht', hst, hn', hd'⟩
  | cond x y z =>
    unfold stepJob at h
    simp only [] at h
    split at h
    · rename_i t hx
      have hv := ev_sound ht hx
      have hev : a.eval x = .bool t := by
        generalize a.eval x = u at hv
        cases hv; rfl
      cases t with
      | true => rw [cond_true] at h; exact wpIn_cond_true hev (hcode n ro y T A Q h ρ w a N rr hR hro ht hn hd)
      | false => rw [cond_false] at h; exact wpIn_cond_false hev (hcode n ro z T A Q h ρ w a N rr hR hro ht hn hd)
    · exact h.elim
  | block id b =>
    refine wpIn_block (wpIn_mono (hcode n ro b T A _ (Nd.all_bind _ h) ρ w a N rr hR hro ht hn hd) ?_)
    rintro e a' w' ⟨ex, T', A', hq, hex, haft⟩
    cases ex with
    | normal => cases e <;> first | exact hex.elim | exact ⟨.normal, T', A', hq, hex, haft⟩
    | exit i =>
      cases e <;> first | exact hex.elim | skip
      rename_i j
      have hij : i = j := hex
      subst hij
      simp only [Exit.inBlock]
      have hq' : Q (.fr ⟨cond (Nat.beq i id) .normal (.exit i), T', A'⟩) := hq
      by_cases e : i = id
      · subst e
        rw [if_pos rfl]
        rw [Nat.beq_refl, cond_true] at hq'
        exact ⟨.normal, T', A', hq', trivial, haft⟩
      · rw [if_neg e]
        have hb : Nat.beq i id = false := by
          cases hb : Nat.beq i id with
          | false => rfl
          | true => exact absurd (Nat.eq_of_beq_eq_true hb) e
        rw [hb, cond_false] at hq'
        exact ⟨.exit i, T', A', hq', rfl, haft⟩
    | ret => cases e <;> first | exact hex.elim | exact ⟨.ret, T', A', hq, hex, haft⟩
  | loop b =>
    refine wpIn_loop_rounds (fuel + 1) ?_
    rw [roundsIn_succ]
    refine wpIn_mono (hcode n ro b T A _ (Nd.all_bind _ h) ρ w a N rr hR hro ht hn hd) ?_
    rintro e a' w' ⟨ex, T', A', hq, hex, ρ', ht', hst, hn', hd'⟩
    cases ex with
    | normal =>
      cases e <;> first | exact hex.elim | skip
      exact hJ.loop n ro b T' A' Q hq ρ A w ρ' w' a' N rr hR hst (hro.mono hst.ext) ht' hn' hd'
    | exit i => cases e <;> first | exact hex.elim | exact ⟨.exit i, T', A', hq, hex, ρ', ht', hst, hn', hd'⟩
    | ret => cases e <;> first | exact hex.elim | exact ⟨.ret, T', A', hq, hex, ρ', ht', hst, hn', hd'⟩
  | scope b =>
    refine wpIn_scope_straight (wpIn_mono (hcode n ro b T A Q h ρ w a N rr hR hro ht hn hd) ?_)
    rintro e a' w' ⟨ex, T', A', hq, hex, haft⟩
    cases ex <;> cases e <;> first | exact hex.elim | exact ⟨_, T', A', hq, hex, haft⟩
  | region id ops draw =>
    cases draw with
    | false =>
      have hr : (List.range ops.size) = List.range' 0 ops.toList.length := by rw [List.range_eq_range']; simp
      refine wpIn_region ?_
      rw [hr]
      refine ops_sound hE hZr hcall (N := N) (rr := rr) (ρ₀ := ρ) (A₀ := A) (w₀ := w) hR ?_ ops.toList 0 T A a w ρ (by simp) (Nd.all_bind _ h) ht (.refl (Z.rep hR)) hn hd
      intro T' A' a' w' hq haft
      exact ⟨.normal, T', A', hq, trivial, haft⟩
    | true =>
      refine wpIn_mono (hdraw _ hcall n id ops T A _ (Nd.all_bind _ h) ρ w a N rr hR ht hn hd) ?_
      rintro e a' w' ⟨rfl, T', A', hq, haft⟩
      exact ⟨.normal, T', A', hq, trivial, haft⟩
  | rangeFunc g ps as b => exact range_step hE hZr hJ n ro g ps as b T A Q h ρ w a N rr hR hro ht hn hd
  | goto l => exact h.elim
  | refuse why => exact h.elim

theorem run_sound {Z : Road} {E : Env} {P : Program} (hE : EnvOK E P) (hZr : RoadRo Z E) (hH : HookOK Z E P) (hdraw : DrawSound Z E P) : ∀ fuel, JobSound Z P fuel (run E fuel)
  | 0 => ⟨fun n ro c T A Q h => h.elim, fun t args A Q h => by
      have : (callBy (run E 0) t args A).all Q := h
      exact (this : False).elim, fun n ro b T A Q h => h.elim⟩
  | fuel + 1 => by
    have ih := run_sound hE hZr hH hdraw fuel
    refine ⟨fun n ro c T A => code_step hE hZr hdraw ih n ro c T A, ?_, ?_⟩
    · intro t args A Q h ρ w args' hR ha
      have h' := Nd.all_bind _ h
      cases t with
      | fn f =>
        refine (call_step hE hZr hH ih.code h' hR ha).mono ?_
        rintro e w' ⟨v, A', v', ρ', hq, rest⟩
        exact ⟨v, A', v', ρ', hq, rest⟩
      | round l =>
        intro L hL
        obtain ⟨f, tmps, as, b, h1, h2⟩ := round_step ih.code h' hR ha hL
        exact ⟨f, tmps, as, b, h1, h2.mono fun e w' ⟨v, A', v', ρ', hq, rest⟩ => ⟨v, A', v', ρ', hq, rest⟩⟩
    · intro n ro b T A Q h ρ₀ A₀ w₀ ρ w a N rr hZ hs hro ht hn hd
      rw [roundsIn_succ]
      refine wpIn_mono (ih.code n ro b T A _ (Nd.all_bind _ h) ρ w a N rr (Z.step hZ hs) hro ht hn hd) ?_
      rintro e a' w' ⟨ex, T', A', hq, hex, ρ', ht', hst, hn', hd'⟩
      cases ex with
      | normal =>
        cases e <;> first | exact hex.elim | skip
        exact ih.loop n ro b T' A' Q hq ρ₀ A₀ w₀ ρ' w' a' N rr hZ (hs.trans hst) (hro.mono hst.ext) ht' hn' hd'
      | exit i => cases e <;> first | exact hex.elim | exact ⟨.exit i, T', A', hq, hex, ρ', ht', hs.trans hst, hn', hd'⟩
      | ret => cases e <;> first | exact hex.elim | exact ⟨.ret, T', A', hq, hex, ρ', ht', hs.trans hst, hn', hd'⟩

end Go.AE
