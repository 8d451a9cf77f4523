/- The evaluator: what a run that ends 'true' says of the call. -/
import Derived.Test.YthacgilphddekaaGreatDoorAeDrawT
import Derived.RowKit
import Derived.Laws.Externs
import Derived.ProofKit
namespace Go.AE
open Go Go.RowKit Go.ChangeShapes Go.WideShapes

/-- A program's types, as the evaluator reads them. -/
noncomputable def tiOf (P : Program) (t : TypeId) : Option TIn :=
  match P.info? t, P.underlying t with
  | some i, some d => some { desc := d, size := i.size, bytes := i.bytes, zero := i.zero, methods := i.methods, named := none }
  | _, _ => none

/-- A program's functions that have a body. -/
noncomputable def fnOf (P : Program) (f : FuncId) : Option Func :=
  match P.funcs[f]? with
  | some g => cond (g.body.isSome && !(g.name == "runtime.NumGoroutine")) (some g) none
  | none => none

/-- Functions without a Go body, and what they do. -/
abbrev ExtTab := List (FuncId × (Array Value → Sem Value))

noncomputable def extOf (P : Program) : ExtTab → FuncId → Option (List Value → Option Value)
  | [], _ => none
  | (g, e) :: l, f => cond (Nat.beq f g) (some fun args => pureRun P (e args.toArray)) (extOf P l f)

noncomputable def ExtOK (P : Program) (tab : ExtTab) : Prop := ∀ x ∈ tab, ∃ fn, P.funcs[x.1]? = some fn ∧ (fn.name == "runtime.NumGoroutine") = false ∧ fn.body.isNone = true ∧ Extern.findNext fn = none ∧ Extern.find fn = some x.2

theorem extOK_nil (P : Program) : ExtOK P [] := fun _ h => by cases h

theorem extOK_cons {P : Program} {tab : ExtTab} {f : FuncId} {e : Array Value → Sem Value} (fn : Func) (h1 : P.funcs[f]? = some fn) (h2 : (fn.name == "runtime.NumGoroutine") = false) (h3 : fn.body.isNone = true) (h4 : Extern.findNext fn = none) (h5 : Extern.find fn = some e) (h : ExtOK P tab) : ExtOK P ((f, e) :: tab) := fun x hx => by
  rcases List.mem_cons.1 hx with rfl | hx
  · exact ⟨fn, h1, h2, h3, h4, h5⟩
  · exact h x hx

theorem pureRun_sound {α : Type} {P : Program} : ∀ {s : Sem α} {a : α}, pureRun P s = some a → ∀ w, s.run P w = .ok a w
  | .pure _, _, h, w => by cases h; rfl
  | .program k, a, h, w => pureRun_sound (s := k P) h w
  | .mark _ k, a, h, w => pureRun_sound (s := k) h w

theorem extOf_ok {P : Program} : ∀ {tab : ExtTab}, ExtOK P tab → ∀ f g, extOf P tab f = some g → ∀ args v, g args = some v → ∀ w, (callFunc f args.toArray).run P w = .ok (.value v) w
  | [], _, f, g, h, _, _, _, _ => by cases h
  | (g', e) :: l, ht, f, g, h, args, v, hv, w => by
    unfold extOf at h
    cases hb : Nat.beq f g' with
    | true =>
      rw [hb, cond_true] at h
      have hfg := Nat.eq_of_beq_eq_true hb
      subst hfg
      cases h
      obtain ⟨fn, h1, h2, h3, h4, h5⟩ := ht (f, e) (by simp)
      rw [run_callFunc_extern h1 h2 h3 h4 h5, pureRun_sound hv w]
      rfl
    | false =>
      rw [hb, cond_false] at h
      exact extOf_ok (fun x hx => ht x (by simp [hx])) f g h args v hv w

abbrev HookTab := FuncId → List Value → ASt → Option (Nd (Value × ASt))
noncomputable def noHook : HookTab := fun _ _ _ => none

noncomputable def envOf (P : Program) (tab : ExtTab) (hk : HookTab) : Env := { ti := tiOf P, fn := fnOf P, ext := extOf P tab, hook := hk, bin := fun op t xo yo x y => pureRun P (do eqGuard op t xo yo x y; binOp op t x y), ro := fun _ => none }

theorem ro_none {Z : Road} {P : Program} {tab : ExtTab} {hk : HookTab} : RoadRo Z (envOf P tab hk) := fun _ _ _ _ _ _ h => by cases h

theorem tiOf_ok {P : Program} {t : TypeId} {i : TIn} (h : tiOf P t = some i) : ∃ j, P.info? t = some j ∧ P.underlying t = some i.desc ∧ j.size = i.size ∧ j.bytes = i.bytes ∧ j.zero = i.zero ∧ j.methods = i.methods := by
  unfold tiOf at h
  split at h
  · rename_i j d hj hd
    cases h
    exact ⟨j, hj, hd, rfl, rfl, rfl, rfl⟩
  · cases h

theorem fnOf_ok {P : Program} {f : FuncId} {g : Func} (h : fnOf P f = some g) : P.funcs[f]? = some g ∧ g.body.isSome = true ∧ (g.name == "runtime.NumGoroutine") = false := by
  unfold fnOf at h
  split at h
  · rename_i g' hg
    cases hb : (g'.body.isSome && !(g'.name == "runtime.NumGoroutine")) with
    | false => rw [hb] at h; cases h
    | true =>
      rw [hb] at h; cases h
      rw [Bool.and_eq_true, Bool.not_eq_true'] at hb
      exact ⟨hg, hb.1, hb.2⟩
  · cases h

theorem envOf_ok {P : Program} {tab : ExtTab} {hk : HookTab} (ht : ExtOK P tab) : EnvOK (envOf P tab hk) P := ⟨fun _ _ h => tiOf_ok h, fun _ _ h => fnOf_ok h, fun _ _ _ _ _ _ _ h w => pureRun_sound h w, extOf_ok ht⟩

noncomputable def allTo (p : Nat → Bool) : Nat → Bool
  | 0 => true
  | k + 1 => p k && allTo p k

theorem allTo_spec {p : Nat → Bool} : ∀ {k : Nat}, allTo p k = true → ∀ i, i < k → p i = true
  | 0, _, i, hi => by omega
  | k + 1, h, i, hi => by
    unfold allTo at h
    rw [Bool.and_eq_true] at h
    by_cases e : i = k
    · rw [e]; exact h.1
    · exact allTo_spec h.2 i (by omega)

/-- Whatever is answered, the run ends with a value that 'q' likes. -/
noncomputable def ends (q : Value → Bool) : Nd Out → Bool
  | .ret (.res v _) => q v
  | .ret (.fr _) => false
  | .ask n k => allTo (fun i => ends q (k i)) n
  | .fail _ => false
  | .pick _ _ => false

theorem ends_all {q : Value → Bool} : ∀ {m : Nd Out}, ends q m = true → m.all fun o => ∃ v A, o = .res v A ∧ q v = true
  | .ret (.res v A), h => ⟨v, A, rfl, h⟩
  | .ret (.fr _), h => by cases h
  | .ask n k, h => fun i hi => ends_all (allTo_spec (show allTo (fun i => ends q (k i)) n = true from h) i hi)
  | .fail _, h => by cases h
  | .pick _ _, h => by cases h

noncomputable def isTrueV : Value → Bool
  | .bool true => true
  | _ => false

/-- Nothing is ours; some values are handed on unopened. -/
noncomputable def rawRen (raws : List Value) : Ren := fun k => match raws[k]? with
  | some v => some ⟨0, 0, 0, 0, v⟩
  | none => none
noncomputable def startAt (n : Nat) : ASt := { heap := .e, next := n }

theorem rep_start (raws : List Value) (w : World) : Rep (rawRen raws) (startAt raws.length) w := by
  refine ⟨fun b o h => ?_, fun b b' o o' L L' _ h => ?_, fun b hb => ?_⟩
  · cases h
  · cases h
  · unfold rawRen
    rw [List.getElem?_eq_none hb]

theorem raw_rel {raws : List Value} {k : Nat} {v : Value} (h : raws[k]? = some v) (hr : rawOK v = true) : VRel (rawRen raws) (.chan (some k)) v :=
  VRel.raw (ρ := rawRen raws) (L := ⟨0, 0, 0, 0, v⟩) (by unfold rawRen; rw [h]) hr

/-- Who owns nothing turns nothing. -/
theorem Step.below {ρ ρ' : Ren} {n : Nat} {A' : ASt} {w w' : World} (h : Step ρ (startAt n) w ρ' A' w') : Below w.heap.size w w' := by
  have hno : ∀ B j, ¬ Owned ρ (startAt n) B j := by
    rintro B j ⟨b, o, L, hb, _⟩
    cases hb
  refine ⟨h.os, h.tape, h.output, h.size, fun k hk => ?_⟩
  have hget : w.heap[k]? = some w.heap[k] := by simp [hk]
  cases ho : w.heap[k] with
  | cells c el fr =>
    rw [ho] at hget
    obtain ⟨c', h1, h2, h3⟩ := h.cells k c el fr hget
    rw [hget, h1]
    have : c' = c := Array.ext_getElem? fun j => h3 j (hno k j)
    rw [this]
  | _ =>
    rw [ho] at hget
    rw [hget]
    exact h.objs k _ hget (by simp) (hno k 0)

theorem Step.sub {ρ₀ ρ : Ren} {A₀ A G : ASt} {w₀ w : World} (h : Step ρ₀ A₀ w₀ ρ A w) (hs : ∀ b o, G.get b = some o → A.get b = some o) (hn : G.next = A.next) : Step ρ₀ A₀ w₀ ρ G w :=
  ⟨⟨h.rep.sub hs hn, h.ext, by rw [hn]; exact h.next, h.size, h.os, h.tape, h.output, h.cells, h.objs, fun B j hB ho => h.owns B j hB (ho.sub hs)⟩, h.keep, fun b hb hd => by
    cases hg : G.get b with
    | none => rfl
    | some o =>
      have h1 := hs b o hg
      rw [h.dom b hb hd] at h1
      cases h1⟩

/-- The road of a run from a start. -/
noncomputable def roadFrom (ρ₀ : Ren) (A₀ : ASt) (w₀ : World) : Road := { reach := fun ρ A w => Step ρ₀ A₀ w₀ ρ A w, rep := fun h => h.rep, step := fun h k => h.trans k, sub := fun h hs hn => h.sub hs hn }

noncomputable abbrev roadRaw (raws : List Value) (w : World) : Road := roadFrom (rawRen raws) (startAt raws.length) w

theorem hook_none {Z : Road} {P : Program} {tab : ExtTab} : HookOK Z (envOf P tab noHook) P := fun f args A r h => by cases h

/-- THE RUN, AND THE CALL. -/
theorem calls_of_run {P : Program} {tab : ExtTab} {hk : HookTab} (ht : ExtOK P tab) (hm : P.follows .mixedOrders = true) {raws : List Value} {w : World} (hH : HookOK (roadRaw raws w) (envOf P tab hk) P) {f : FuncId} {fuel : Nat} {args : List Value} {args' : Array Value}
    (hargs : VsRel (rawRen raws) args args'.toList) {q : Value → Bool} (h : ends q (run (envOf P tab hk) fuel (.call (.fn f) args (startAt raws.length))) = true) :
    Calls P f args' w fun e w' => ∃ v v' ρ', q v = true ∧ e = .returned v' ∧ VRel ρ' v v' ∧ Below w.heap.size w w' := by
  have hE := envOf_ok (hk := hk) ht
  have hJ := (run_sound (Z := roadRaw raws w) hE ro_none hH (draw_sound hE ro_none hm) fuel).call
  have hall : (callBy (run (envOf P tab hk) fuel) (.fn f) args (startAt raws.length)).all (fun r => q r.1 = true) := by
    have := ends_all h
    unfold callBy
    revert this
    generalize run (envOf P tab hk) fuel (.call (.fn f) args (startAt raws.length)) = m
    intro this
    induction m with
    | ret o =>
      obtain ⟨v, A, rfl, hq⟩ := this
      exact hq
    | ask n k ih => exact fun i hi => ih i (this i hi)
    | fail s => exact this.elim
    | pick p k ih => exact fun r hr => ih r (this r hr)
  refine (hJ (.fn f) args (startAt raws.length) _ hall (rawRen raws) w args' (Step.refl (rep_start raws w)) hargs).mono ?_
  rintro e w' ⟨v, A', v', ρ', hq, he, hv, hst⟩
  exact ⟨v, v', ρ', hq, he, hv, hst.below⟩

theorem calls_true {P : Program} {tab : ExtTab} {hk : HookTab} (ht : ExtOK P tab) (hm : P.follows .mixedOrders = true) {raws : List Value} {w : World} (hH : HookOK (roadRaw raws w) (envOf P tab hk) P) {f : FuncId} {fuel : Nat} {args : List Value} {args' : Array Value}
    (hargs : VsRel (rawRen raws) args args'.toList) (h : ends isTrueV (run (envOf P tab hk) fuel (.call (.fn f) args (startAt raws.length))) = true) :
    Calls P f args' w fun e w' => e = .returned (.bool true) ∧ Below w.heap.size w w' :=
  (calls_of_run ht hm hH hargs h).mono fun e w' ⟨v, v', ρ', hq, he, hv, hb⟩ => by
    refine ⟨?_, hb⟩
    cases hv <;> first | (simp [isTrueV] at hq; done) | skip
    rename_i b
    cases b
    · simp [isTrueV] at hq
    · exact he

/-! ### the row of a law -/
section
variable {H : Type} {enc : TypeId × Value → H} {P : Program}

theorem trodAll_stays (hl : laidOutB P = true) {W W' : World} (hb : Below W.heap.size W W') : ∀ {ts : List TypeId} {vs : List Value} {ds : List (DataW H)} {p : List MemPlace}, (∀ t ∈ ts, P.readableRec t = true ∧ t < P.types.size) →
    DataW.TrodAll enc P W 0 (fun _ => true) true ts vs ds p → (∀ x ∈ p, x.block < W.heap.size) → DataW.TrodAll enc P W' 0 (fun b => decide (b < W.heap.size)) true ts vs ds p
  | [], _, _, _, _, h, _ => by
    obtain ⟨rfl, rfl, rfl⟩ := trodAll_nil h
    exact h
  | t :: ts, _, _, _, ht, h, hlt => by
    obtain ⟨v, vs1, d, ds1, a, b, rfl, rfl, rfl, h1, h2⟩ := trodAll_cons h
    exact ⟨a, b, Below.trod hl (ht t (by simp)).1 (ht t (by simp)).2 h1 hb (fun x hx => hlt x (by simp [hx])), trodAll_stays hl hb (fun t' h' => ht t' (by simp [h'])) h2 (fun x hx => hlt x (by simp [hx])), rfl⟩

/-- A LAW's RESULT: true, and every argument reads as it read. -/
theorem law_post {f : Func} {s : ChangeSpec} {apart fresh : Bool} {W W' : World} {args : Array Value} {ds gs : List (DataW H)} {before : List MemPlace} {t : TypeId}
    (hl : laidOutB P = true) (hr : ∀ t ∈ f.params.toList, P.readableRec t = true ∧ t < P.types.size)
    (hW : DataW.Whole enc P f.params.toList s.vars apart W args.toList ds gs before) (hvars : s.vars = [])
    (hb : Below W.heap.size W W') (hres : f.resultTypes = #[t]) (ht : P.underlying t = some .bool) (hfn : gs = [] → s.fn H (ds ++ gs) = { results := [.lit (.bool true)], args := ds }) :
    s.post enc P f apart fresh false false W args (.bool true) W' := by
  have hW' := hW
  obtain ⟨p, q, hA, hV, hpq, hfz, hnd⟩ := hW
  have hlt : ∀ x ∈ p, x.block < W.heap.size := fun x hx => by
    have := hW'.lt x (by rw [hpq]; simp [hx])
    simpa using this
  rw [hvars] at hV
  obtain ⟨rfl, rfl⟩ := trodVars_none hV
  have hf := hfn rfl
  refine ⟨ds, [], before, [], p, [], hW', ?_, ?_, ?_, hb.frame _, fun h => by cases h⟩
  · rw [hf, hres]
    exact trodAll_mk1 (shut_bool ht true)
  · rw [hf]
    exact trodAll_stays hl hb hr hA hlt
  · rw [hf, hvars]
    rfl

end

end Go.AE
