/- The evaluator: the operations of a region, in the order of the text; code; calls. -/
import Derived.Test.YtkbopkohgiikoaaGreatDoorAeOp
import Derived.LoopN
import Derived.Scope
namespace Go.AE
open Go

theorem Nd.all_bind {α β : Type} {q : β → Prop} (f : α → Nd β) : ∀ {m : Nd α}, (m.bind f).all q → m.all fun a => (f a).all q
  | .ret _, h => h
  | .ask _ _, h => fun i hi => Nd.all_bind f (h i hi)
  | .fail _, h => h

theorem Nd.all_mono {α : Type} {q q' : α → Prop} (h : ∀ a, q a → q' a) : ∀ {m : Nd α}, m.all q → m.all q'
  | .ret _, k => h _ k
  | .ask _ _, k => fun i hi => Nd.all_mono h (k i hi)
  | .fail _, k => k

/-- Which states a run may come to: kept by each step. -/
structure Road where
  reach : Ren → ASt → World → Prop
  rep : ∀ {ρ A w}, reach ρ A w → Rep ρ A w
  step : ∀ {ρ A w ρ' A' w'}, reach ρ A w → Step ρ A w ρ' A' w' → reach ρ' A' w'
  sub : ∀ {ρ A w} {G : ASt}, reach ρ A w → (∀ b o, G.get b = some o → A.get b = some o) → G.next = A.next → reach ρ G w

/-- What the evaluator says of calls is so. -/
def CallSound (Z : Road) (P : Program) (call : FuncId → List Value → ASt → Nd (Value × ASt)) : Prop :=
  ∀ f args A Q, (call f args A).all Q → ∀ ρ w (args' : Array Value), Z.reach ρ A w → VsRel ρ args args'.toList →
    Calls P f args' w fun e w' => ∃ v A' v' ρ', Q (v, A') ∧ e = .returned v' ∧ VRel ρ' v v' ∧ Step ρ A w ρ' A' w'

theorem TRel.put {ρ : Ren} {T : Tmps} {a : Act} (ht : TRel ρ T a) {d : Tmp} (hd : d < a.tmps.size) {v v' : Value} (hv : VRel ρ v v') : TRel ρ (T.put d (some v)) (a.put (some d) v') := by
  refine ⟨fun t => ?_⟩
  unfold tget
  rw [Tr.get_put]
  by_cases e : t = d
  · subst e
    rw [if_pos rfl]
    simpa [Act.put, hd] using hv
  · rw [if_neg e]
    have : (a.put (some d) v').tmps.getD t undef = a.tmps.getD t undef := by
      simp [Act.put, Array.getElem?_setIfInBounds_ne (Ne.symm e)]
    rw [this]
    exact ht.at_ t

theorem putN_sound {ρ : Ren} {T T' : Tmps} {a : Act} {n : Nat} {dst : Option Tmp} {v v' : Value} (ht : TRel ρ T a) (hn : a.tmps.size = n) (h : putN n T dst v = some T') (hv : VRel ρ v v') : TRel ρ T' (a.put dst v') := by
  cases dst with
  | none => simp [putN] at h; subst h; exact ht
  | some d =>
    simp only [putN] at h
    cases hb : Nat.blt d n with
    | false => rw [hb] at h; cases h
    | true =>
      rw [hb, cond_true] at h; cases h
      have : d < n := Nat.le_of_ble_eq_true hb
      exact ht.put (hn ▸ this) hv

theorem size_put (a : Act) (dst : Option Tmp) (v : Value) : (a.put dst v).tmps.size = a.tmps.size := by
  cases dst <;> simp [Act.put]
theorem defers_put (a : Act) (dst : Option Tmp) (v : Value) : (a.put dst v).defers = a.defers := by
  cases dst <;> rfl

theorem wanted_sound {ρ : Ren} {ops : Array Oper} {T : Tmps} {a : Act} (ht : TRel ρ T a) (o : Oper) : Region.wanted o (yielded ops a.tmps) = wantedA ops T o := by
  unfold Region.wanted wantedA
  cases hg : o.guard with
  | none => rfl
  | some gw =>
    obtain ⟨j, want⟩ := gw
    simp only []
    unfold yielded
    rw [nth_eq, Array.getElem?_toList]
    cases hj : ops[j]? with
    | none => simp
    | some g =>
      simp only [Option.bind_some]
      cases hd : g.dst with
      | none => simp
      | some d =>
        simp only [Option.bind_some]
        have h := ht.at_ d
        rcases Nat.lt_or_ge d a.tmps.size with hlt | hge
        · have e : a.tmps.getD d undef = a.tmps[d] := by simp [hlt]
          have e2 : a.tmps[d]? = some a.tmps[d] := by simp [hlt]
          rw [e] at h
          rw [e2]
          generalize a.tmps[d] = v' at h
          generalize tget T d = v at h
          cases h <;> try simp
          rename_i k L hk hr
          revert hr
          cases L.raw <;> simp [rawOK]
        · have e : a.tmps.getD d undef = undef := by simp [Array.getElem?_eq_none hge]
          have e2 : a.tmps[d]? = none := Array.getElem?_eq_none hge
          rw [e] at h
          rw [e2]
          generalize tget T d = v at h
          generalize hu : undef = u at h
          unfold undef at hu
          cases h <;> first | (cases hu; done) | simp

/-- One operation of a region. -/
theorem oneOp_sound {Z : Road} {E : Env} {P : Program} (hE : EnvOK E P) {call : FuncId → List Value → ASt → Nd (Value × ASt)} (hcall : CallSound Z P call) {ρ : Ren} {A : ASt} {w : World} (hR : Z.reach ρ A w) {T : Tmps} {a : Act} (ht : TRel ρ T a) {o : Oper}
    {Q : Value × ASt → Prop} (h : (oneOp E call o T A).all Q) {next : Act → World → Prop} {Qx : Exit → Act → World → Prop}
    (hnext : ∀ v A' v' w' ρ', Q (v, A') → VRel ρ' v v' → Step ρ A w ρ' A' w' → next (a.put o.dst v') w') : o.wp P a w next Qx := by
  unfold oneOp at h
  split at h
  · rename_i it isString hop
    split at h
    · rename_i v hv
      obtain ⟨u, A', u', w', hq, hrun, hvr, hst⟩ := next_sound (P := P) (ty := o.type) (Z.rep hR) h (ev_sound ht hv)
      have : (execOp a.eval o).run P w = .ok (.value u') w' := by simp [execOp, hop, hrun]
      unfold Oper.wp
      rw [this, Oper.upon_value]
      exact hnext u A' u' w' ρ hq hvr hst
    · exact h.elim
  · have hs := op_sound hE (Z.rep hR) ht o
    revert h hs
    generalize aOp E o.op T A = r
    intro h hs
    cases r with
    | bad why => exact h.elim
    | val v A' =>
      obtain ⟨nx, v', w', ρ', hrun, hnx, hvr, hst⟩ := hs
      unfold Oper.wp
      rw [hrun]
      rcases hnx with rfl | ⟨rfl, rfl⟩
      · rw [Oper.upon_value]; exact hnext v A' v' w' ρ' h hvr hst
      · rw [Oper.upon_skip]; exact hnext v A' undef w' ρ' h hvr hst
    | enter f args A' =>
      obtain ⟨args', hrun, hargs, rfl⟩ := hs
      unfold Oper.wp
      rw [hrun, Oper.upon_enter]
      refine (hcall f args _ Q h ρ w args' hR hargs).mono ?_
      rintro e w' ⟨v, A2, v', ρ', hq, rfl, hvr, hst⟩
      exact hnext v A2 v' w' ρ' hq hvr hst

/-- What is known behind a stretch of code. -/
def After (ρ : Ren) (A : ASt) (w : World) (n : Nat) (T' : Tmps) (A' : ASt) (a' : Act) (w' : World) : Prop :=
  ∃ ρ', TRel ρ' T' a' ∧ Step ρ A w ρ' A' w' ∧ a'.tmps.size = n ∧ a'.defers = []

theorem ops_sound {Z : Road} {E : Env} {P : Program} (hE : EnvOK E P) {call : FuncId → List Value → ASt → Nd (Value × ASt)} (hcall : CallSound Z P call) {n : Nat} {ops : Array Oper} {Qx : Exit → Act → World → Prop} {ρ₀ : Ren} {A₀ : ASt} {w₀ : World} {Q : Tmps × ASt → Prop} (hZ : Z.reach ρ₀ A₀ w₀)
    (hfin : ∀ T A a w, Q (T, A) → After ρ₀ A₀ w₀ n T A a w → Qx .normal a w) :
    ∀ (l : List Oper) (k : Nat) (T : Tmps) (A : ASt) (a : Act) (w : World) (ρ : Ren), ops.toList.drop k = l → (opsRun E call n ops l T A).all Q → TRel ρ T a → Step ρ₀ A₀ w₀ ρ A w → a.tmps.size = n → a.defers = [] →
      wpOps P ops Qx (List.range' k l.length) a w
  | [], k, T, A, a, w, ρ, hl, h, ht, hs, hn, hd => by
    simp only [List.length_nil, List.range'_zero, wpOps]
    exact hfin T A a w h ⟨ρ, ht, hs, hn, hd⟩
  | o :: l, k, T, A, a, w, ρ, hl, h, ht, hs, hn, hd => by
    have ho : ops[k]? = some o := by
      have : (ops.toList.drop k)[0]? = some o := by rw [hl]; rfl
      rw [List.getElem?_drop] at this
      simpa using this
    have hl' : ops.toList.drop (k + 1) = l := by
      have : (ops.toList.drop k).drop 1 = l := by rw [hl]; rfl
      rwa [List.drop_drop] at this
    simp only [List.length_cons, List.range'_succ, wpOps, ho]
    rw [wanted_sound ht]
    unfold opsRun at h
    cases hw : wantedA ops T o with
    | true =>
      rw [hw, cond_true] at h
      rw [if_pos rfl]
      refine .inl ?_
      refine oneOp_sound hE hcall (Z.step hZ hs) ht (Nd.all_bind _ h) ?_
      intro v A' v' w' ρ' hq hvr hst
      simp only [] at hq
      split at hq
      · rename_i T' hT'
        exact ops_sound hE hcall hZ hfin l (k + 1) T' A' _ w' ρ' hl' hq (putN_sound (ht.mono hst.ext) hn hT' hvr) (hs.trans hst) (by rw [size_put]; exact hn) (by rw [defers_put]; exact hd)
      · exact hq.elim
    | false =>
      rw [hw, cond_false] at h
      simp only [Bool.false_eq_true, if_false]
      split at h
      · rename_i T' hT'
        exact ops_sound hE hcall hZ hfin l (k + 1) T' A _ w ρ hl' h (putN_sound ht hn hT' VRel.undef) hs (by rw [size_put]; exact hn) (by rw [defers_put]; exact hd)
      · exact h.elim

def exRel : AExit → Exit → Prop
  | .normal, .normal => True
  | .exit i, .exit j => i = j
  | .ret, .ret => True
  | _, _ => False

/-- What the evaluator says of a piece of code is so. -/
def CodeSound (Z : Road) (P : Program) (n : Nat) (c : Code) (T : Tmps) (A : ASt) (r : Nd Out) : Prop :=
  ∀ Q, r.all Q → ∀ ρ w a, Z.reach ρ A w → TRel ρ T a → a.tmps.size = n → a.defers = [] →
    c.wp P (fun e a' w' => ∃ ex T' A', Q (.fr ⟨ex, T', A'⟩) ∧ exRel ex e ∧ After ρ A w n T' A' a' w') a w

/-- What holds behind a piece of code that began in a state of the past. -/
def CodePost (Q : Out → Prop) (ρ : Ren) (A : ASt) (w : World) (n : Nat) (e : Exit) (a' : Act) (w' : World) : Prop :=
  ∃ ex T' A', Q (.fr ⟨ex, T', A'⟩) ∧ exRel ex e ∧ After ρ A w n T' A' a' w'

structure JobSound (Z : Road) (P : Program) (fuel : Nat) (ih : Job → Nd Out) : Prop where
  code : ∀ n c T A, CodeSound Z P n c T A (ih (.code n c T A))
  call : CallSound Z P (callBy ih)
  loop : ∀ n b T A Q, (ih (.code n (.loop b) T A)).all Q → ∀ ρ₀ A₀ w₀ ρ w a, Z.reach ρ₀ A₀ w₀ → Step ρ₀ A₀ w₀ ρ A w → TRel ρ T a → a.tmps.size = n → a.defers = [] → Code.rounds P b (CodePost Q ρ₀ A₀ w₀ n) fuel a w

/-- What the evaluator says of a region whose order is drawn is so. -/
def DrawSound (Z : Road) (E : Env) (P : Program) : Prop :=
  ∀ call, CallSound Z P call → ∀ n id ops T A Q, (drawRun E call n ops T A).all Q → ∀ ρ w a, Z.reach ρ A w → TRel ρ T a → a.tmps.size = n → a.defers = [] →
    (Code.region id ops true).wp P (fun e a' w' => e = .normal ∧ ∃ T' A', Q (T', A') ∧ After ρ A w n T' A' a' w') a w

theorem After.trans {ρ ρ₁ : Ren} {A A₁ A₂ : ASt} {w w₁ w₂ : World} {n : Nat} {T : Tmps} {a : Act} (h : Step ρ A w ρ₁ A₁ w₁) (k : After ρ₁ A₁ w₁ n T A₂ a w₂) : After ρ A w n T A₂ a w₂ :=
  let ⟨ρ', h1, h2, h3, h4⟩ := k
  ⟨ρ', h1, h.trans h2, h3, h4⟩

def resF (tmps : Array Value) : ResultVar → Sem Value
  | .tmp t => pure (tmps.getD t undef)
  | .cell c t => do loadVar t (← asAddr (tmps.getD c undef))

theorem results_eq (fn : Func) (tmps : Array Value) : results fn tmps = (do
    let vs ← fn.results.mapM (resF tmps)
    pure (if h : vs.size = 1 then vs[0] else .tuple vs)) := by
  have : (fun x : ResultVar => (match x with
      | .tmp t => pure (tmps.getD t undef)
      | .cell a t => do loadVar t (← asAddr (tmps.getD a undef)) : Sem Value)) = resF tmps := by
    funext x; cases x <;> rfl
  unfold results
  rw [← this]
  rfl

theorem results_sound {E : Env} {P : Program} (hE : EnvOK E P) {ρ : Ren} {A : ASt} {w : World} (hR : Rep ρ A w) {T : Tmps} {a : Act} (ht : TRel ρ T a) : ∀ {l : List ResultVar} {vs : List Value}, resultsV E T A l = some vs →
    ∃ vs', (l.mapM (resF a.tmps)).run P w = .ok vs' w ∧ VsRel ρ vs vs'
  | [], vs, h => by simp [resultsV] at h; subst h; exact ⟨[], rfl, .nil⟩
  | .tmp t :: l, vs, h => by
    unfold resultsV at h
    split at h
    · rename_i r hr
      cases h
      obtain ⟨vs', h1, h2⟩ := results_sound hE hR ht hr
      refine ⟨a.tmps.getD t undef :: vs', ?_, .cons (ht.at_ t) h2⟩
      have e : (resF a.tmps (.tmp t)).run P w = .ok (a.tmps.getD t undef) w := rfl
      rw [List.mapM_cons]
      simp only [Sem.run_bind, Sem.run_pure, Result.andThen_ok, h1, e]
    · cases h
  | .cell c t :: l, vs, h => by
    unfold resultsV at h
    split at h
    · rename_i v hv
      split at h
      · rename_i r hr
        cases h
        obtain ⟨vs', h1, h2⟩ := results_sound hE hR ht hr
        obtain ⟨v', _, h4, ad, h5, h6⟩ := load_sound hE hR (ht.at_ c) hv
        refine ⟨v' :: vs', ?_, .cons h4 h2⟩
        have e : (resF a.tmps (.cell c t)).run P w = .ok v' w := by
          simp only [resF, Sem.run_bind, h5, asAddr, Sem.run_pure, Result.andThen_ok, h6]
        rw [List.mapM_cons]
        simp only [Sem.run_bind, Sem.run_pure, Result.andThen_ok, h1, e]
      · cases h
    · cases h

theorem oneOrTuple_rel {ρ : Ren} {vs vs' : List Value} (h : VsRel ρ vs vs') : VRel ρ (oneOrTuple vs) (if hh : vs'.toArray.size = 1 then vs'.toArray[0] else .tuple vs'.toArray) := by
  cases h with
  | nil => exact VRel.tuple_of .nil
  | cons h1 h2 =>
    cases h2 with
    | nil => simpa [oneOrTuple] using h1
    | cons h2 h3 =>
      simp only [oneOrTuple]
      rw [dif_neg (by simp)]
      exact VRel.tuple_of (.cons h1 (.cons h2 h3))

theorem results_run {E : Env} {P : Program} (hE : EnvOK E P) {ρ : Ren} {A : ASt} {w : World} (hR : Rep ρ A w) {T : Tmps} {a : Act} (ht : TRel ρ T a) {fn : Func} {vs : List Value} (h : resultsV E T A fn.results.toList = some vs) :
    ∃ v', (results fn a.tmps).run P w = .ok v' w ∧ VRel ρ (oneOrTuple vs) v' := by
  obtain ⟨vs', h1, h2⟩ := results_sound hE hR ht h
  refine ⟨_, ?_, oneOrTuple_rel h2⟩
  rw [results_eq, Array.mapM_eq_mapM_toList]
  simp only [Sem.run_bind, Sem.run_map, h1, Result.andThen_ok]
  rfl

theorem argsT_get : ∀ (l : List Value) (i : Nat) (T : Tmps) (t : Nat), (argsT i l T).get t = if i ≤ t ∧ t < i + l.length then l[t - i]? else T.get t
  | [], i, T, t => by simp only [argsT, List.length_nil]; rw [if_neg (by omega)]
  | v :: l, i, T, t => by
    simp only [argsT]
    rw [argsT_get l (i + 1), Tr.get_put]
    simp only [List.length_cons]
    by_cases h : i + 1 ≤ t ∧ t < i + 1 + l.length
    · rw [if_pos h, if_pos (by omega)]
      have : t - i = (t - (i + 1)) + 1 := by omega
      rw [this]; simp
    · rw [if_neg h]
      by_cases e : t = i
      · subst e; rw [if_pos rfl, if_pos (by omega)]; simp
      · rw [if_neg e, if_neg (by omega)]

theorem enter_rel {ρ : Ren} {args : List Value} {args' : Array Value} (h : VsRel ρ args args'.toList) (m : Nat) : TRel ρ (argsT 0 args .e) { tmps := args' ++ Array.replicate m undef, defers := [] } := by
  refine ⟨fun t => ?_⟩
  have hl := h.length
  simp only [Array.length_toList] at hl
  unfold tget
  rw [argsT_get]
  by_cases ht : t < args.length
  · rw [if_pos (by omega)]
    obtain ⟨v', hv', hr⟩ := h.get t args[t] (List.getElem?_eq_getElem ht)
    have e : args[t - 0]? = some args[t] := by simp
    rw [e]
    have e2 : (args' ++ Array.replicate m undef).getD t undef = v' := by
      have : args'[t]? = some v' := by simpa using hv'
      rw [Array.getD_eq_getD_getElem?, Array.getElem?_append, if_pos (by omega), this]
      rfl
    simp only []
    rw [e2]
    exact hr
  · rw [if_neg (by omega)]
    have e2 : (args' ++ Array.replicate m undef).getD t undef = undef := by
      simp only [Array.getD_eq_getD_getElem?, Array.getElem?_append]
      rw [if_neg (by omega)]
      rcases Nat.lt_or_ge (t - args'.size) m with h1 | h1
      · simp [h1]
      · simp [show ¬ t - args'.size < m by omega]
    simp only [Tr.get_e]
    rw [e2]
    exact VRel.undef

/-- What is said of the calls that are not gone through is so. -/
def HookOK (Z : Road) (E : Env) (P : Program) : Prop :=
  ∀ f args k ans, E.hook f args = some (k, ans) → ∀ ρ A w (args' : Array Value), Z.reach ρ A w → VsRel ρ args args'.toList →
    Calls P f args' w fun e w' => ∃ i, i < k ∧ e = .returned (ans i) ∧ flat (ans i) = true ∧ Go.RowKit.Below w.heap.size w w'

/-- Where nothing that stood has turned. -/
theorem Step.of_below {ρ : Ren} {A : ASt} {w w' : World} (h : Rep ρ A w) (hb : Go.RowKit.Below w.heap.size w w') : Step ρ A w ρ A w' := by
  have hlt : ∀ {B : Nat} {o : Obj}, w.heap[B]? = some o → B < w.heap.size := fun h => (Array.getElem?_eq_some_iff.1 h).1
  refine ⟨⟨⟨fun b o hbo => ?_, h.apart, h.fresh⟩, .refl _, Nat.le_refl _, hb.size, hb.os, hb.tape, hb.output, fun B c el fr hB => ⟨c, by rw [hb.block B (hlt hB)]; exact hB, rfl, fun _ _ => rfl⟩, fun B o hB _ _ => by rw [hb.block B (hlt hB)]; exact hB, fun _ _ _ h => h⟩, fun _ _ => rfl, fun _ _ h => h⟩
  obtain ⟨L, hL, ho⟩ := h.obj b o hbo
  exact ⟨L, hL, ho.of_block (hb.block _ ho.block)⟩

theorem call_step {Z : Road} {E : Env} {P : Program} (hE : EnvOK E P) (hH : HookOK Z E P) {ih : Job → Nd Out} (hcode : ∀ n c T A, CodeSound Z P n c T A (ih (.code n c T A))) {f : FuncId} {args : List Value} {A : ASt} {Q : Out → Prop} (h : (stepJob E ih (.call f args A)).all Q)
    {ρ : Ren} {w : World} {args' : Array Value} (hR : Z.reach ρ A w) (ha : VsRel ρ args args'.toList) :
    Calls P f args' w fun e w' => ∃ v A' v' ρ', Q (.res v A') ∧ e = .returned v' ∧ VRel ρ' v v' ∧ Step ρ A w ρ' A' w' := by
  unfold stepJob at h
  simp only [] at h
  split at h
  · rename_i k ans hk
    refine (hH f args k ans hk ρ A w args' hR ha).mono ?_
    rintro e w' ⟨i, hi, he, hfl, hb⟩
    exact ⟨ans i, A, ans i, ρ, h i hi, he, .refl_flat hfl, Step.of_below (Z.rep hR) hb⟩
  split at h
  · rename_i fn hf
    obtain ⟨hP, _, _⟩ := hE.fn f fn hf
    split at h
    · rename_i c hb
      cases hlen : Nat.ble args.length fn.ntmps with
      | false => rw [hlen] at h; exact h.elim
      | true =>
        rw [hlen, cond_true] at h
        have hlen' := Nat.le_of_ble_eq_true hlen
        have hl := ha.length
        simp only [Array.length_toList] at hl
        refine calls_of_wp hP hb ?_
        have hw := hcode fn.ntmps c (argsT 0 args .e) A _ (Nd.all_bind _ h) ρ w { tmps := args' ++ Array.replicate (fn.ntmps - args'.size) undef, defers := [] } hR (enter_rel ha _) (by simp; omega) rfl
        refine wp_mono hw ?_
        rintro e a' w' ⟨ex, T', A', hq, hex, ρ', ht, hst, hn, hd⟩
        have fin : ∀ (hq' : (match resultsV E T' A' fn.results.toList with
            | some l => Nd.ret (Out.res (oneOrTuple l) A')
            | none => Nd.fail "results").all Q), a'.defers = [] ∧ ∃ v, (results fn a'.tmps).run P w' = .ok v w' ∧ ∃ u A2 v' ρ', Q (.res u A2) ∧ Ending.returned v = .returned v' ∧ VRel ρ' u v' ∧ Step ρ A w ρ' A2 w' := by
          intro hq'
          split at hq'
          · rename_i vs hvs
            obtain ⟨v', h1, h2⟩ := results_run hE hst.rep ht hvs
            exact ⟨hd, v', h1, _, _, v', ρ', hq', rfl, h2, hst⟩
          · exact hq'.elim
        cases ex with
        | normal => cases e <;> first | exact hex.elim | exact fin hq
        | ret => cases e <;> first | exact hex.elim | exact fin hq
        | exit i => exact hq.elim
    · exact h.elim
  · exact h.elim

theorem code_step {Z : Road} {E : Env} {P : Program} (hE : EnvOK E P) (hdraw : DrawSound Z E P) {fuel : Nat} {ih : Job → Nd Out} (hJ : JobSound Z P fuel ih) (n : Nat) (c : Code) (T : Tmps) (A : ASt) : CodeSound Z P n c T A (stepJob E ih (.code n c T A)) := by
  intro Q h ρ w a hR ht hn hd
  have hcode := hJ.code
  have hcall := hJ.call
  have now : After ρ A w n T A a w := ⟨ρ, ht, .refl (Z.rep hR), hn, hd⟩
  cases c with
  | skip => exact wp_skip ⟨.normal, T, A, h, trivial, now⟩
  | ret => exact wp_ret ⟨.ret, T, A, h, trivial, now⟩
  | exit id => exact wp_exit ⟨.exit id, T, A, h, rfl, now⟩
  | label l => exact wp_label ⟨.normal, T, A, h, trivial, now⟩
  | seq x y =>
    refine wp_seq (wp_mono (hcode n x T A _ (Nd.all_bind _ h) ρ w a hR ht hn hd) ?_)
    rintro e a' w' ⟨ex, T', A', hq, hex, ρ', ht', hst, hn', hd'⟩
    cases ex with
    | normal =>
      cases e <;> first | exact hex.elim | skip
      refine wp_mono (hcode n y T' A' Q hq ρ' w' a' (Z.step hR hst) ht' hn' hd') ?_
      rintro e2 a2 w2 ⟨ex2, T2, A2, hq2, hex2, haft⟩
      exact ⟨ex2, T2, A2, hq2, hex2, haft.trans hst⟩
    | exit i => cases e <;> first | exact hex.elim | exact ⟨.exit i, T', A', hq, hex, ρ', ht', hst, hn', hd'⟩
    | ret => cases e <;> first | exact hex.elim | exact ⟨.ret, T', A', hq, hex, ρ', ht', hst, hn', hd'⟩
  | cond x y z =>
    unfold stepJob at h
    simp only [] at h
    split at h
    · rename_i t hx
      have hv := ev_sound ht hx
      have hev : a.eval x = .bool t := by
        generalize a.eval x = u at hv
        cases hv; rfl
      cases t with
      | true => rw [cond_true] at h; exact wp_cond_true hev (hcode n y T A Q h ρ w a hR ht hn hd)
      | false => rw [cond_false] at h; exact wp_cond_false hev (hcode n z T A Q h ρ w a hR ht hn hd)
    · exact h.elim
  | block id b =>
    refine wp_block (wp_mono (hcode n b T A _ (Nd.all_bind _ h) ρ w a hR ht hn hd) ?_)
    rintro e a' w' ⟨ex, T', A', hq, hex, haft⟩
    cases ex with
    | normal => cases e <;> first | exact hex.elim | exact ⟨.normal, T', A', hq, hex, haft⟩
    | exit i =>
      cases e <;> first | exact hex.elim | skip
      rename_i j
      have hij : i = j := hex
      subst hij
      simp only [Exit.inBlock]
      have hq' : Q (.fr ⟨cond (Nat.beq i id) .normal (.exit i), T', A'⟩) := hq
      by_cases e : i = id
      · subst e
        rw [if_pos rfl]
        rw [Nat.beq_refl, cond_true] at hq'
        exact ⟨.normal, T', A', hq', trivial, haft⟩
      · rw [if_neg e]
        have hb : Nat.beq i id = false := by
          cases hb : Nat.beq i id with
          | false => rfl
          | true => exact absurd (Nat.eq_of_beq_eq_true hb) e
        rw [hb, cond_false] at hq'
        exact ⟨.exit i, T', A', hq', rfl, haft⟩
    | ret => cases e <;> first | exact hex.elim | exact ⟨.ret, T', A', hq, hex, haft⟩
  | loop b =>
    refine wp_loop_rounds (fuel + 1) ?_
    rw [rounds_succ]
    refine wp_mono (hcode n b T A _ (Nd.all_bind _ h) ρ w a hR ht hn hd) ?_
    rintro e a' w' ⟨ex, T', A', hq, hex, ρ', ht', hst, hn', hd'⟩
    cases ex with
    | normal =>
      cases e <;> first | exact hex.elim | skip
      exact hJ.loop n b T' A' Q hq ρ A w ρ' w' a' hR hst ht' hn' hd'
    | exit i => cases e <;> first | exact hex.elim | exact ⟨.exit i, T', A', hq, hex, ρ', ht', hst, hn', hd'⟩
    | ret => cases e <;> first | exact hex.elim | exact ⟨.ret, T', A', hq, hex, ρ', ht', hst, hn', hd'⟩
  | scope b =>
    refine wp_scope_straight (wp_mono (hcode n b T A Q h ρ w a hR ht hn hd) ?_)
    rintro e a' w' ⟨ex, T', A', hq, hex, haft⟩
    cases ex <;> cases e <;> first | exact hex.elim | exact ⟨_, T', A', hq, hex, haft⟩
  | region id ops draw =>
    cases draw with
    | false =>
      have hr : (List.range ops.size) = List.range' 0 ops.toList.length := by rw [List.range_eq_range']; simp
      refine wp_region ?_
      rw [hr]
      refine ops_sound hE hcall (ρ₀ := ρ) (A₀ := A) (w₀ := w) hR ?_ ops.toList 0 T A a w ρ (by simp) (Nd.all_bind _ h) ht (.refl (Z.rep hR)) hn hd
      intro T' A' a' w' hq haft
      exact ⟨.normal, T', A', hq, trivial, haft⟩
    | true =>
      refine wp_mono (hdraw _ hcall n id ops T A _ (Nd.all_bind _ h) ρ w a hR ht hn hd) ?_
      rintro e a' w' ⟨rfl, T', A', hq, haft⟩
      exact ⟨.normal, T', A', hq, trivial, haft⟩
  | rangeFunc f ps as b => exact h.elim
  | goto l => exact h.elim
  | refuse why => exact h.elim

theorem run_sound {Z : Road} {E : Env} {P : Program} (hE : EnvOK E P) (hH : HookOK Z E P) (hdraw : DrawSound Z E P) : ∀ fuel, JobSound Z P fuel (run E fuel)
  | 0 => ⟨fun n c T A Q h => h.elim, fun f args A Q h => by
      have : (callBy (run E 0) f args A).all Q := h
      exact (this : False).elim, fun n b T A Q h => h.elim⟩
  | fuel + 1 => by
    have ih := run_sound hE hH hdraw fuel
    refine ⟨fun n c T A => code_step hE hdraw ih n c T A, ?_, ?_⟩
    · intro f args A Q h ρ w args' hR ha
      have h' := Nd.all_bind _ h
      refine (call_step hE hH ih.code h' hR ha).mono ?_
      rintro e w' ⟨v, A', v', ρ', hq, rest⟩
      exact ⟨v, A', v', ρ', hq, rest⟩
    · intro n b T A Q h ρ₀ A₀ w₀ ρ w a hZ hs ht hn hd
      rw [rounds_succ]
      refine wp_mono (ih.code n b T A _ (Nd.all_bind _ h) ρ w a (Z.step hZ hs) ht hn hd) ?_
      rintro e a' w' ⟨ex, T', A', hq, hex, ρ', ht', hst, hn', hd'⟩
      cases ex with
      | normal =>
        cases e <;> first | exact hex.elim | skip
        exact ih.loop n b T' A' Q hq ρ₀ A₀ w₀ ρ' w' a' hZ (hs.trans hst) ht' hn' hd'
      | exit i => cases e <;> first | exact hex.elim | exact ⟨.exit i, T', A', hq, hex, ρ', ht', hs.trans hst, hn', hd'⟩
      | ret => cases e <;> first | exact hex.elim | exact ⟨.ret, T', A', hq, hex, ρ', ht', hs.trans hst, hn', hd'⟩

end Go.AE
