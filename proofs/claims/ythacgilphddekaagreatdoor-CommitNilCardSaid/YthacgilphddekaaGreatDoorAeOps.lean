/- The evaluator: one operation. -/
import Derived.Test.YthacgilphddekaaGreatDoorAeApp2
namespace Go.AE
open Go

structure TRel (ρ : Ren) (T : Tmps) (a : Act) : Prop where
  at_ : ∀ t, VRel ρ (tget T t) (a.tmps.getD t undef)

theorem TRel.mono {ρ ρ' : Ren} (h : ρ.le ρ') {T : Tmps} {a : Act} (ht : TRel ρ T a) : TRel ρ' T a := ⟨fun t => (ht.at_ t).mono h⟩

theorem ev_sound {ρ : Ren} {T : Tmps} {a : Act} (ht : TRel ρ T a) {x : Operand} {v : Value} (h : ev T x = some v) : VRel ρ v (a.eval x) := by
  cases x with
  | tmp t => simp only [ev, Option.some.injEq] at h; subst h; exact ht.at_ t
  | const c =>
    simp only [ev] at h
    cases hc : closed c with
    | false => rw [hc] at h; cases h
    | true => rw [hc, cond_true] at h; cases h; exact .refl_closed hc
  | global g => simp [ev] at h
  | func f => simp only [ev, Option.some.injEq] at h; subst h; exact .func _ rfl rfl (by simp) rfl (by simp)

theorem evs_sound {ρ : Ren} {T : Tmps} {a : Act} (ht : TRel ρ T a) : ∀ {l : List Operand} {vs : List Value}, evs T l = some vs → VsRel ρ vs (l.map a.eval)
  | [], vs, h => by simp [evs] at h; subst h; exact .nil
  | x :: l, vs, h => by
    unfold evs at h
    split at h
    · rename_i v hv
      split at h
      · rename_i r hr
        cases h
        exact .cons (ev_sound ht hv) (evs_sound ht hr)
      · cases h
    · cases h

theorem evPairs_sound {ρ : Ren} {T : Tmps} {a : Act} (ht : TRel ρ T a) : ∀ {l : List (Nat × Operand)} {vs : List (Nat × Value)}, evPairs T l = some vs →
    LR (fun p q => q.1 = p.1 ∧ VRel ρ p.2 q.2) vs (l.map fun (i, x) => (i, a.eval x))
  | [], vs, h => by simp [evPairs] at h; subst h; exact .nil
  | (i, x) :: l, vs, h => by
    unfold evPairs at h
    split at h
    · rename_i v hv
      split at h
      · rename_i r hr
        cases h
        exact .cons ⟨rfl, ev_sound ht hv⟩ (evPairs_sound ht hr)
      · cases h
    · cases h

theorem evOpt_sound {ρ : Ren} {T : Tmps} {a : Act} (ht : TRel ρ T a) {x : Option Operand} {v : Option Value} (h : evOpt T x = some v) : ORl ρ v (x.map a.eval) := by
  cases x with
  | none => simp [evOpt] at h; subst h; exact .none
  | some x =>
    unfold evOpt at h
    simp only [] at h
    split at h
    · rename_i v hv; cases h; exact .some (ev_sound ht hv)
    · cases h

/-- What the model's operation comes to, as the evaluator says. -/
def ARok (P : Program) (ρ : Ren) (A : ASt) (w : World) (s : Sem Next) : AR → Prop
  | .val v A' => ∃ nx v' w' ρ', s.run P w = .ok nx w' ∧ (nx = .value v' ∨ (nx = .skip ∧ v' = undef)) ∧ VRel ρ' v v' ∧ Step ρ A w ρ' A' w'
  | .enter (.fn f) args A' => ∃ args', s.run P w = .ok (.enter f args') w ∧ VsRel ρ args args'.toList ∧ A' = A
  | .enter (.round l) args A' => ∃ args' L, ρ l = some L ∧ s.run P w = (Instr.yield L.B args').run P w ∧ VsRel ρ args args'.toList ∧ A' = A
  | .bad _ => True

theorem ARok.ofVal {P : Program} {ρ : Ren} {A : ASt} {w : World} (hR : Rep ρ A w) {s : Sem Value} {o : Option Value} {why : String}
    (h : ∀ v, o = some v → ∃ v', s.run P w = .ok v' w ∧ VRel ρ v v') : ARok P ρ A w (do pure (.value (← s))) (ofVal o A why) := by
  cases o with
  | none => trivial
  | some v =>
    obtain ⟨v', h1, h2⟩ := h v rfl
    exact ⟨.value v', v', w, ρ, by simp [h1], .inl rfl, h2, .refl hR⟩

theorem ARok.ofRun {P : Program} {ρ : Ren} {A : ASt} {w : World} {s : Sem Value} {r : AR}
    (h : ∀ v A', r = .val v A' → ∃ v' w' ρ', s.run P w = .ok v' w' ∧ VRel ρ' v v' ∧ Step ρ A w ρ' A' w') : ARok P ρ A w (do pure (.value (← s))) r.plain := by
  cases r with
  | bad why => trivial
  | enter f l A' => trivial
  | val v A' =>
    obtain ⟨v', w', ρ', h1, h2, h3⟩ := h v A' rfl
    exact ⟨.value v', v', w', ρ', by simp [h1], .inl rfl, h2, h3⟩

/-! ### calls -/
theorem callFunc_run {E : Env} {P : Program} (hE : EnvOK E P) {f : FuncId} {g : Func} (h : E.fn f = some g) (args : Array Value) (w : World) : (callFunc f args).run P w = .ok (.enter f args) w := by
  obtain ⟨h1, h2, h3⟩ := hE.fn f g h
  have hb : g.body.isNone = false := by cases hg : g.body <;> simp_all
  simp only [callFunc, Sem.run_bind, run_program, Result.andThen_ok, h1]
  rw [if_neg (by rw [h3]; exact Bool.false_ne_true), if_neg (by rw [hb]; exact Bool.false_ne_true)]
  rfl

theorem findMethod_eq (name : String) : ∀ (l : List Method), findMethod name l = l.find? (·.name == name)
  | [] => rfl
  | m :: l => by
    simp only [findMethod, List.find?_cons]
    cases h : (m.name == name) <;> simp [findMethod_eq name l]

theorem method_sound {E : Env} {P : Program} (hE : EnvOK E P) {ρ : Ren} {A : ASt} {w : World} (hR : Rep ρ A w) (hro : RoOK E ρ w) {t : TypeId} {v v' r : Value} {name : String} {f : FuncId} (h : aMethod E t v name A = some (f, r)) (hv : VRel ρ v v') (fuel : Nat) :
    ∃ r', (method (fuel + 1) t v' name).run P w = .ok (f, r') w ∧ VRel ρ r r' := by
  unfold aMethod at h
  split at h
  · cases h
  · rename_i i hi
    obtain ⟨j, hinfo, _, _, _, hm⟩ := run_info hE w hi
    split at h
    · cases h
    · rename_i m hfm
      rw [findMethod_eq] at hfm
      have hfind : j.methods.find? (·.name == name) = some m := by rw [hm, ← Array.find?_toList]; exact hfm
      cases hp : m.path.isEmpty with
      | false => rw [hp] at h; cases h
      | true =>
        rw [hp, cond_true] at h
        have hpath : m.path.toList = [] := by simpa using hp
        split at h
        · rename_i g ptr hfn
          have start : ∀ r', (receiverAt t (.val v') ptr (if m.path.isEmpty then some ((name.splitOn ".").getLastD name) else none)).run P w = .ok r' w → (method (fuel + 1) t v' name).run P w = .ok (g, r') w := by
            intro r' hr
            simp only [method, Sem.run_bind, hinfo, Result.andThen_ok, hfind, hpath, follow, Sem.run_pure, hfn]
            rw [hr]; rfl
          split at h
          · rename_i e hd
            cases h
            refine ⟨v', start v' ?_, hv⟩
            simp only [receiverAt, Sem.run_bind, run_und hE w hi, hd, Result.andThen_ok, Place.get]
            rfl
          · rename_i e hd
            split at h
            · rename_i x hx
              cases h
              obtain ⟨x', h1, h2, ad, h3, h4⟩ := load_sound hE hR hro hv hx
              subst h3
              refine ⟨x', start x' ?_, h2⟩
              have hw : ∀ nm : String, (Builtin.ssaWrapNilChk_ #[t] t #[.pointer (some ad), strVal "", strVal nm]).run P w = .ok (.pointer (some ad)) w := fun nm => rfl
              simp only [receiverAt, Sem.run_bind, run_und hE w hi, hd, Result.andThen_ok, Place.get, Sem.run_pure, hp, if_true, hw, asAddr, h4]
            · cases h
          · rename_i hnp
            cases h
            refine ⟨v', start v' ?_, hv⟩
            simp only [receiverAt, Sem.run_bind, run_und hE w hi, Result.andThen_ok, Place.get]
            cases hdd : i.desc <;> first | (exact absurd hdd (hnp _)) | rfl
          · cases h
        · cases h

theorem flat_eq {ρ : Ren} {v v' : Value} (h : flat v = true) (hv : VRel ρ v v') : v' = v := by
  cases hv with
  | ptr _ => simp [flat] at h
  | slice _ _ _ => simp [flat] at h
  | sliceU _ _ _ _ => simp [flat] at h
  | sliceZ _ _ => simp [flat, zslice] at h
  | map _ => simp [flat] at h
  | yield _ => simp [flat, notYield] at h
  | @func fn f f' c c' h0 h1 h2 h3 h4 =>
    simp [flat] at h
    obtain ⟨_, e1, e2⟩ := h
    subst e1 e2
    have i1 : f' = #[] := Array.eq_empty_of_size_eq_zero (by simpa using h1.symm)
    have i2 : c' = #[] := Array.eq_empty_of_size_eq_zero (by simpa using h3.symm)
    rw [i1, i2]
  | @iface t x x' hx =>
    have : x' = x := by
      cases hx <;> first | rfl | (simp [flat] at h; done)
    rw [this]
  | agg _ _ => simp [flat] at h
  | tuple _ _ => simp [flat] at h
  | raw _ _ => simp [flat] at h
  | _ => rfl

theorem flats_eq {ρ : Ren} : ∀ {l r : List Value}, flats l = true → VsRel ρ l r → r = l
  | [], _, _, hr => by cases hr; rfl
  | v :: l, _, h, .cons hv hr => by
    simp [flats] at h
    rw [flat_eq h.1 hv, flats_eq h.2 hr]

theorem closed_eq {ρ : Ren} {v v' : Value} (h : closed v = true) (hv : VRel ρ v v') : v' = v := by
  cases v with
  | agg c =>
    cases hv with
    | agg h1 h2 =>
      rename_i c'
      have := flats_eq (ρ := ρ) (show flats c.toList = true from h) (VsRel.of_array h1 h2)
      rw [show c' = c from by cases c; cases c'; simpa using this]
  | tuple c =>
    cases hv with
    | tuple h1 h2 =>
      rename_i c'
      have := flats_eq (ρ := ρ) (show flats c.toList = true from h) (VsRel.of_array h1 h2)
      rw [show c' = c from by cases c; cases c'; simpa using this]
  | _ => exact flat_eq (by simpa [closed] using h) hv

theorem bin2_sound {E : Env} {P : Program} (hE : EnvOK E P) {ρ : Ren} {op : BinOp} {t : TypeId} {xo yo : Operand} {x y x' y' v : Value} (h : aBin2 E op t xo yo x y = some v)
    (hx : VRel ρ x x') (hy : VRel ρ y y') (w : World) :
    ((do eqGuard op t xo yo x' y'; binOp op t x' y') : Sem Value).run P w = .ok v w ∧ flat v = true := by
  unfold aBin2 at h
  split at h
  · rename_i r hr
    cases h
    exact bin_sound hE hr hx hy w
  · cases hc : (closed x && closed y) with
    | false => rw [hc] at h; cases h
    | true =>
      rw [hc, cond_true] at h
      rw [Bool.and_eq_true] at hc
      rw [closed_eq hc.1 hx, closed_eq hc.2 hy]
      split at h
      · rename_i r hr
        cases hf : flat r with
        | false => rw [hf] at h; cases h
        | true => rw [hf] at h; cases h; exact ⟨hE.bin _ _ _ _ _ _ _ hr w, hf⟩
      · cases h

/-- A call of a function, entered or answered at once. -/
theorem enter_ok {E : Env} {P : Program} (hE : EnvOK E P) {ρ : Ren} {A : ASt} {w : World} (hR : Rep ρ A w) {f : FuncId} {args : List Value} {args' : Array Value} (h : VsRel ρ args args'.toList) {s : Sem Next}
    (hs : s.run P w = (callFunc f args').run P w) : ARok P ρ A w s (aEnter E f args A) := by
  unfold aEnter
  split
  · rename_i g hg; exact ⟨args', by rw [hs]; exact callFunc_run hE hg _ w, h, rfl⟩
  · split
    · rename_i g hg
      cases hf : flats args with
      | false => trivial
      | true =>
        rw [cond_true]
        split
        · rename_i v hv
          cases hc : closed v with
          | false => trivial
          | true =>
            rw [cond_true]
            have e : args' = args.toArray := by
              have := flats_eq hf h
              rw [← this]
            refine ⟨.value v, v, w, ρ, ?_, .inl rfl, .refl_closed hc, .refl hR⟩
            rw [hs, e]
            exact hE.ext f g hg args v hv w
        · trivial
    · trivial

theorem callMethod_run {E : Env} {P : Program} (hE : EnvOK E P) {ρ : Ren} {A : ASt} {w : World} (hR : Rep ρ A w) (hro : RoOK E ρ w) {t : TypeId} {v v' r : Value} {name : String} {f : FuncId} (h : aMethod E t v name A = some (f, r)) (hv : VRel ρ v v')
    (args : Array Value) : ∃ r', (callMethod (.iface t v') name args).run P w = (callFunc f (#[r'] ++ args)).run P w ∧ VRel ρ r r' := by
  obtain ⟨r', h1, h2⟩ := method_sound hE hR hro h hv (P.types.size + 99)
  refine ⟨r', ?_, h2⟩
  simp only [callMethod, Sem.run_bind, run_program, Result.andThen_ok]
  have : P.types.size + Made.depth = P.types.size + 99 + 1 := rfl
  rw [this, h1]
  rfl

/-- What a function value names. -/
inductive FnRel (ρ : Ren) : Fn → Fn → Prop
  | same {fn} : notYield fn = true → FnRel ρ fn fn
  | yield {l L} : ρ l = some L → FnRel ρ (.yield l) (.yield L.B)

theorem invoke_sound {E : Env} {P : Program} (hE : EnvOK E P) {ρ : Ren} {A : ASt} {w : World} (hR : Rep ρ A w) (hro : RoOK E ρ w) {fn fn' : Fn} (hfn : FnRel ρ fn fn') {args captured : List Value} {args' captured' : Array Value} (ha : VsRel ρ args args'.toList) (hc : VsRel ρ captured captured'.toList) :
    ARok P ρ A w (invoke (.fn fn' captured') args') (aInvoke E fn args captured A) := by
  cases hfn with
  | @yield l L hL =>
    unfold aInvoke
    cases he : captured.isEmpty with
    | false => trivial
    | true => exact ⟨args', L, hL, rfl, ha, rfl⟩
  | same hny =>
  have hext : ∀ (x : Value) (l : List Value), (x :: l).toArray.extract 1 (x :: l).toArray.size = l.toArray := fun x l => by apply Array.ext'; simp
  -- by the dynamic type
  have go : ∀ (u : TypeId) (y y' : Value) (name : String) (rest : List Value) (rest' : List Value) (s : Sem Next) (why : String), VRel ρ y y' → VsRel ρ rest rest' → s.run P w = (callMethod (.iface u y') name rest'.toArray).run P w →
      ARok P ρ A w s (match aMethod E u y name A with
        | some (f, r) => aEnter E f (r :: rest) A
        | none => .bad why) := by
    intro u y y' name rest rest' s why hy hrest heq
    split
    · rename_i f r hm
      obtain ⟨r', h1, h2⟩ := callMethod_run hE hR hro hm hy rest'.toArray
      exact enter_ok hE hR (args' := #[r'] ++ rest'.toArray) (by simpa using LR.cons h2 hrest) (by rw [heq, h1])
    · trivial
  unfold aInvoke
  split
  · rename_i f
    exact enter_ok hE hR (args' := args' ++ captured') (by simpa using ha.append hc) rfl
  · rename_i name
    split
    · rename_i t v rest
      cases hargs : args'.toList with
      | nil => rw [hargs] at ha; cases ha
      | cons x rest' =>
        rw [hargs] at ha
        cases ha with
        | cons hx hrest =>
          cases hx with
          | @iface _ _ v' hv =>
            have e0 : args' = (Value.iface t v' :: rest').toArray := by rw [← hargs]
            refine go t v v' name rest rest' _ _ hv hrest ?_
            subst e0
            simp only [invoke, List.getElem?_toArray, List.getElem?_cons_zero, hext]
    · trivial
  · rename_i t name
    split
    · rename_i v rest
      cases hargs : args'.toList with
      | nil => rw [hargs] at ha; cases ha
      | cons x rest' =>
        rw [hargs] at ha
        cases ha with
        | cons hx hrest =>
          have e0 : args' = (x :: rest').toArray := by rw [← hargs]
          split
          · rename_i i hi
            split
            · rename_i ms u y hd
              cases hx with
              | @iface _ _ y' hy =>
                refine go u y y' name rest rest' _ _ hy hrest ?_
                subst e0
                simp only [invoke, List.getElem?_toArray, List.getElem?_cons_zero, Sem.run_bind, run_und hE w hi, hd, Result.andThen_ok, hext]
            · trivial
            · rename_i hn1 hn2
              refine go t _ x name rest rest' _ _ hx hrest ?_
              subst e0
              simp only [invoke, List.getElem?_toArray, List.getElem?_cons_zero, Sem.run_bind, run_und hE w hi, Result.andThen_ok, hext]
          · trivial
    · trivial
  · trivial
  · cases hny

end Go.AE
