/- The evaluator: maps. -/
import Derived.Test.YthacgilphddekaaGreatDoorAeConv
namespace Go.AE
open Go

theorem bytes_beq (a b : ByteArray) : (a == b) = bytesEq a.data.toList b.data.toList := by
  have h : (a == b) = (a.data == b.data) := rfl
  rw [h, bytesEq_eq, Bool.eq_iff_iff, beq_iff_eq, beq_iff_eq]
  constructor
  · intro h; rw [h]
  · intro h; exact Array.ext' h

theorem sameKey_now {d : TypeDesc} {k x : Value} {b : Bool} (hk : plainKey d k = true) (h : sameKey k x = some b) : Instr.sameNow d k x = some b := by
  unfold sameKey at h
  split at h
  · rename_i k1 a k2 c
    cases hkk : Nat.beq k1.ctorIdx k2.ctorIdx with
    | false => rw [hkk] at h; cases h
    | true =>
      rw [hkk, cond_true] at h
      have := kind_eq hkk; subst this
      cases d <;> simp only [plainKey] at hk <;> first
        | (cases hk; done)
        | (simp only [Instr.sameNow]; rw [if_pos trivial]; exact h)
  · rename_i a c
    cases d <;> simp only [plainKey] at hk <;> first
      | (cases hk; done)
      | (simp only [Instr.sameNow]; rw [bytes_beq]; exact h)
  · rename_i a c
    cases d <;> simp only [plainKey] at hk <;> first
      | (cases hk; done)
      | (simp only [Instr.sameNow]; exact h)
  · cases h

theorem sameKey_true {k x : Value} (h : sameKey k x = some true) : x = k := by
  unfold sameKey at h
  split at h
  · rename_i k1 a k2 c
    cases hkk : Nat.beq k1.ctorIdx k2.ctorIdx with
    | false => rw [hkk] at h; cases h
    | true =>
      rw [hkk, cond_true] at h
      have := kind_eq hkk; subst this
      simp at h; subst h; rfl
  · rename_i a c
    simp only [Option.some.injEq] at h
    rw [bytesEq_eq] at h
    have h := eq_of_beq h
    have : a = c := ByteArray.ext (Array.ext' h)
    rw [this]
  · rename_i a c
    simp at h; subst h; rfl
  · cases h

theorem plain_flat {d : TypeDesc} {k : Value} (h : plainKey d k = true) : flat k = true := by
  cases k <;> first | rfl | (cases d <;> simp [plainKey] at h)

theorem findE_none {ρ : Ren} {d : TypeDesc} {k : Value} (hk : plainKey d k = true) : ∀ {es es' : List MapEntry} {i : Nat}, LR (EntRel ρ) es es' → findE k es i = some none → Instr.findNow d k es' i = some none
  | [], _, i, hr, h => by cases hr; rfl
  | e :: es, es', i, hr, h => by
    cases hr with
    | @cons _ e' _ es' he hr =>
      simp only [findE] at h
      simp only [Instr.findNow]
      cases hs : sameKey k e.key with
      | none => rw [hs] at h; cases h
      | some b =>
        rw [hs] at h
        rw [he.key, sameKey_now hk hs]
        cases b with
        | true => cases h
        | false => exact findE_none hk hr h

theorem findE_some {ρ : Ren} {d : TypeDesc} {k : Value} (hk : plainKey d k = true) : ∀ {es es' : List MapEntry} {i j : Nat} {v : Value}, LR (EntRel ρ) es es' → findE k es i = some (some (j, v)) →
    ∃ n e e', j = i + n ∧ es[n]? = some e ∧ es'[n]? = some e' ∧ e.key = k ∧ e'.key = k ∧ e.val = v ∧ VRel ρ v e'.val ∧ Instr.findNow d k es' i = some (some (j, e'.val))
  | [], _, i, j, v, hr, h => by simp [findE] at h
  | e :: es, es', i, j, v, hr, h => by
    cases hr with
    | @cons _ e' _ es' he hr =>
      simp only [findE] at h
      simp only [Instr.findNow]
      cases hs : sameKey k e.key with
      | none => rw [hs] at h; cases h
      | some b =>
        rw [hs] at h
        rw [he.key, sameKey_now hk hs]
        cases b with
        | true =>
          cases h
          have := sameKey_true hs
          exact ⟨0, e, e', rfl, rfl, rfl, this, by rw [he.key]; exact this, rfl, he.val, rfl⟩
        | false =>
          obtain ⟨n, a, a', h1, h2, h3, h4, h5, h6, h7, h8⟩ := findE_some hk hr h
          exact ⟨n + 1, a, a', by omega, by simpa using h2, by simpa using h3, h4, h5, h6, h7, h8⟩

theorem run_checkKey {E : Env} {P : Program} (hE : EnvOK E P) {kt : TypeId} {ki : TIn} {k : Value} (hi : E.ti kt = some ki) (hk : plainKey ki.desc k = true) (b : Bool) (w : World) :
    (Instr.checkKey b 10000 kt k).run P w = .ok () w := by
  have : ∀ d, (Instr.checkKey b (d + 1) kt k).run P w = .ok () w := fun d => by
    simp only [Instr.checkKey, Sem.run_bind, run_und hE w hi, Result.andThen_ok]
    cases hd : ki.desc <;> cases k <;> first | rfl | (rw [hd] at hk; simp [plainKey] at hk)
  exact this 9999

theorem run_findKey {E : Env} {P : Program} (hE : EnvOK E P) {kt : TypeId} {ki : TIn} {k : Value} {es : List MapEntry} {r : Option (Nat × Value)} (hi : E.ti kt = some ki) (h : Instr.findNow ki.desc k es 0 = some r) (w : World) :
    (Instr.findKey kt k es).run P w = .ok r w := by
  simp only [Instr.findKey, Sem.run_bind, run_und hE w hi, Result.andThen_ok, h]
  rfl

theorem map_get {ρ : Ren} {A : ASt} {w : World} (P : Program) (hR : Rep ρ A w) {r : Nat} {es : List MapEntry} {clock : Nat} (hg : A.get r = some (.map es clock)) {L : Loc} (hL : ρ r = some L) :
    ∃ es', w.heap[L.B]? = some (.map es' clock) ∧ LR (EntRel ρ) es es'.toList ∧ L.o = 0 ∧ (getObj L.B).run P w = .ok (.map es' clock) w := by
  obtain ⟨L', hL', ho⟩ := hR.obj r _ hg
  rw [hL] at hL'; cases hL'
  obtain ⟨es', h1, h2, h3⟩ := ho
  exact ⟨es', h1, h2, h3, by simp [getObj, Sem.run, h1]⟩

/-- An object of one block is replaced. -/
theorem set_obj {ρ : Ren} {A : ASt} {w : World} (P : Program) (hR : Rep ρ A w) {r : Nat} {o o' : AObj} {L : Loc} {x y : Obj} (hg : A.get r = some o) (hL : ρ r = some L) (hx : w.heap[L.B]? = some x)
    (hne : ∀ c e f, x ≠ .cells c e f) (h0 : L.o = 0) (hhi : o.hi L = 1) (hhi' : o'.hi L = 1) (ho : ORel ρ o' L { w with heap := w.heap.setIfInBounds L.B y }) :
    (setObj L.B y).run P w = .ok () { w with heap := w.heap.setIfInBounds L.B y } ∧ Step ρ A w ρ (A.set r o') { w with heap := w.heap.setIfInBounds L.B y } := by
  have hlt := (Array.getElem?_eq_some_iff.1 hx).1
  refine ⟨?_, Step.set hR hg hL ho (by rw [hhi, hhi']; exact Nat.le_refl _) ⟨rfl, rfl, rfl, by simp⟩ (fun B hB => by simp [Ne.symm hB]) (.inl ⟨x, y, hx, hne, ?_, h0, by omega⟩)⟩
  · cases x with
    | cells c e f => exact absurd rfl (hne _ _ _)
    | _ => simp only [setObj, Sem.run, hx]
  · simp [hlt]

theorem lookup_sound {E : Env} {P : Program} (hE : EnvOK E P) {ρ : Ren} {A : ASt} {w : World} (hR : Rep ρ A w) {t : TypeId} {x x' k k' v : Value} {ok : Bool}
    (h : aLookup E t x k ok A = some v) (hx : VRel ρ x x') (hk : VRel ρ k k') : ∃ v', (Instr.lookup t x' k' ok).run P w = .ok v' w ∧ VRel ρ v v' := by
  unfold aLookup at h
  split at h
  · cases h
  · rename_i i hi
    split at h
    · rename_i kt et hd
      split at h
      · rename_i ki ei hki hei
        cases hp : plainKey ki.desc k with
        | false => rw [hp] at h; cases h
        | true =>
          rw [hp, cond_true] at h
          have hkk : k' = k := by
            cases hk <;> first | rfl | (cases hd' : ki.desc <;> rw [hd'] at hp <;> simp [plainKey, zslice] at hp)
          subst hkk
          split at h
          · cases h
          · rename_i es hes
            have src : ∃ es', LR (EntRel ρ) es es' ∧ ((x' = .map none ∧ es' = []) ∨ ∃ B arr clock, x' = .map (some B) ∧ (getObj B).run P w = .ok (.map arr clock) w ∧ es' = arr.toList) := by
              split at hes
              · cases hes; cases hx; exact ⟨[], .nil, .inl ⟨rfl, rfl⟩⟩
              · split at hes
                · rename_i es0 clock hg
                  cases hes
                  cases hx with
                  | @map _ L hL =>
                    obtain ⟨es', g1, g2, g3, g4⟩ := map_get P hR hg hL
                    exact ⟨_, g2, .inr ⟨L.B, es', clock, rfl, g4, rfl⟩⟩
                · cases hes
              · cases hes
            obtain ⟨es', hr, hsrc⟩ := src
            split at h
            · rename_i j x hf
              cases h
              obtain ⟨n, e, e', h1, h2, h3, h4, h5, h6, h7, h8⟩ := findE_some hp hr hf
              have hrun := run_findKey hE hki h8 w
              refine ⟨if ok then .tuple #[e'.val, .bool true] else e'.val, ?_, ?_⟩
              · rcases hsrc with ⟨rfl, rfl⟩ | ⟨B, arr, clock, rfl, g4, rfl⟩
                · simp only [Instr.lookup, Sem.run_bind, run_und hE w hi, hd, Result.andThen_ok, Sem.run_pure, run_checkKey hE hki hp, hrun]
                · simp only [Instr.lookup, Sem.run_bind, run_und hE w hi, hd, Result.andThen_ok, g4, Sem.run_pure, run_checkKey hE hki hp, hrun]
              · cases ok with
                | false => exact h7
                | true => exact .pair h7 (.bool _)
            · rename_i hf
              have hrun := run_findKey hE hki (findE_none hp hr hf) w
              split at h
              · rename_i z hz
                cases hc : closed z with
                | false => rw [hc] at h; cases h
                | true =>
                  rw [hc, cond_true] at h; cases h
                  refine ⟨if ok then .tuple #[z, .bool false] else z, ?_, ?_⟩
                  · rcases hsrc with ⟨rfl, rfl⟩ | ⟨B, arr, clock, rfl, g4, rfl⟩
                    · simp only [Instr.lookup, Sem.run_bind, run_und hE w hi, hd, Result.andThen_ok, Sem.run_pure, run_checkKey hE hki hp, hrun, run_zero hE w hei hz]
                    · simp only [Instr.lookup, Sem.run_bind, run_und hE w hi, hd, Result.andThen_ok, g4, Sem.run_pure, run_checkKey hE hki hp, hrun, run_zero hE w hei hz]
                  · cases ok with
                    | false => exact .refl_closed hc
                    | true => exact .pair (.refl_closed hc) (.bool _)
              · cases h
            · cases h
      · cases h
    · cases h

theorem setVal_rel {ρ : Ren} {k v v' : Value} (hf : flat k = true) (hv : VRel ρ v v') : ∀ {es es' : List MapEntry} {n : Nat}, LR (EntRel ρ) es es' → LR (EntRel ρ) (setVal es n k v) (es'.modify n fun e => { e with key := k, val := v' })
  | [], _, n, hr => by cases hr; simp [setVal]; exact .nil
  | e :: es, _, 0, .cons (b := e') he hr => by
    simp only [setVal, List.modify_zero_cons]
    exact .cons ⟨rfl, hf, hv, he.born⟩ hr
  | e :: es, _, n + 1, .cons (b := e') he hr => by
    simp only [setVal, List.modify_succ_cons]
    exact .cons he (setVal_rel hf hv hr)

theorem sameBits_plain {d : TypeDesc} {k : Value} (h : plainKey d k = true) : Instr.sameBits 10000 k k = true := by
  cases k with
  | int kd n => simp [Instr.sameBits]
  | string s => simp only [Instr.sameBits]; rw [bytes_beq, bytesEq_eq]; simp
  | bool b => simp [Instr.sameBits]
  | _ => cases d <;> simp [plainKey] at h

theorem mapUpdate_sound {E : Env} {P : Program} (hE : EnvOK E P) {ρ : Ren} {A A' : ASt} {w : World} (hR : Rep ρ A w) {t : TypeId} {m m' k k' v v' : Value}
    (h : aMapUpdate E t m k v A = some A') (hm : VRel ρ m m') (hk : VRel ρ k k') (hv : VRel ρ v v') :
    ∃ w', (Instr.mapUpdate t m' k' v').run P w = .ok () w' ∧ Step ρ A w ρ A' w' := by
  unfold aMapUpdate at h
  split at h
  · rename_i i r hi
    split at h
    · rename_i kt et hd
      split at h
      · rename_i ki es clock hki hg
        cases hp : plainKey ki.desc k with
        | false => rw [hp] at h; cases h
        | true =>
          rw [hp, cond_true] at h
          have hkk : k' = k := by
            cases hk <;> first | rfl | (cases hd' : ki.desc <;> rw [hd'] at hp <;> simp [plainKey, zslice] at hp)
          subst hkk
          cases hm with
          | @map _ L hL =>
            obtain ⟨es', g1, g2, g3, g4⟩ := map_get P hR hg hL
            have hlt := (Array.getElem?_eq_some_iff.1 g1).1
            split at h
            · rename_i j x hf
              cases h
              obtain ⟨n, e, e', h1, h2, h3, h4, h5, h6, h7, h8⟩ := findE_some hp g2 hf
              have hjn : j = n := by omega
              subst hjn
              have hrun := run_findKey hE hki h8 w
              have hrel := setVal_rel (n := j) (plain_flat hp) hv g2
              have hstay : (Instr.keyThatStays (((es'[j]?).map (·.key)).getD k') k').run P w = .ok k' w := by
                have e1 : es'[j]? = some e' := by simpa using h3
                rw [e1]
                simp only [Option.map_some, Option.getD_some, h5, Instr.keyThatStays, sameBits_plain hp, if_true]
                rfl
              obtain ⟨s1, s2⟩ := set_obj P hR (y := .map (es'.modify j fun e => { e with key := k', val := v' }) clock) (o' := .map (setVal es j k' v) clock) hg hL g1 (by simp) g3 (by simp [AObj.hi, g3]) (by simp [AObj.hi, g3])
                ⟨es'.modify j fun e => { e with key := k', val := v' }, by simp [hlt], by simpa using hrel, g3⟩
              refine ⟨_, ?_, s2⟩
              simp only [Instr.mapUpdate, Sem.run_bind, run_und hE w hi, hd, Result.andThen_ok, g4, run_checkKey hE hki hp, hrun, hstay]
              exact s1
            · rename_i hf
              cases h
              have hrun := run_findKey hE hki (findE_none hp g2 hf) w
              obtain ⟨s1, s2⟩ := set_obj P hR (y := .map (es'.push { key := k', val := v', born := clock }) (clock + 1)) (o' := .map (es ++ [{ key := k', val := v, born := clock }]) (clock + 1)) hg hL g1 (by simp) g3 (by simp [AObj.hi, g3]) (by simp [AObj.hi, g3])
                ⟨es'.push { key := k', val := v', born := clock }, by simp [hlt], by simpa using g2.append (.cons (a := { key := k', val := v, born := clock }) (b := { key := k', val := v', born := clock }) ⟨rfl, plain_flat hp, hv, rfl⟩ .nil), g3⟩
              refine ⟨_, ?_, s2⟩
              simp only [Instr.mapUpdate, Sem.run_bind, run_und hE w hi, hd, Result.andThen_ok, g4, run_checkKey hE hki hp, hrun]
              exact s1
            · cases h
      · cases h
    · cases h
  · cases h

theorem eraseAt_eq {α : Type} : ∀ (l : List α) (i : Nat), eraseAt l i = l.eraseIdx i
  | [], i => by simp [eraseAt]
  | _ :: l, 0 => by simp [eraseAt]
  | _ :: l, i + 1 => by simp [eraseAt, eraseAt_eq l i]

theorem LR.eraseIdx {α β : Type} {R : α → β → Prop} {l : List α} {r : List β} (h : LR R l r) : ∀ n, LR R (l.eraseIdx n) (r.eraseIdx n) := by
  induction h with
  | nil => intro n; exact .nil
  | cons hab hl ih => intro n; cases n with
    | zero => exact hl
    | succ n => exact .cons hab (ih n)

theorem delete_sound {E : Env} {P : Program} (hE : EnvOK E P) {ρ : Ren} {A A' : ASt} {w : World} (hR : Rep ρ A w) {t : TypeId} {ts : Array TypeId} {ty : TypeId} {m m' k k' v : Value} (hts : ts[0]? = some t)
    (h : aDelete E t m k A = .val v A') (hm : VRel ρ m m') (hk : VRel ρ k k') :
    ∃ v' w', (Builtin.delete_ ts ty #[m', k']).run P w = .ok v' w' ∧ VRel ρ v v' ∧ Step ρ A w ρ A' w' := by
  unfold aDelete at h
  split at h
  · cases h
  · rename_i i hi
    split at h
    · rename_i kt et hd
      split at h
      · rename_i ki hki
        cases hp : plainKey ki.desc k with
        | false => rw [hp] at h; cases h
        | true =>
          rw [hp, cond_true] at h
          have hkk : k' = k := by
            cases hk <;> first | rfl | (cases hd' : ki.desc <;> rw [hd'] at hp <;> simp [plainKey, zslice] at hp)
          subst hkk
          split at h
          · cases h; cases hm
            refine ⟨_, w, ?_, VRel.undef, .refl hR⟩
            simp only [Builtin.delete_, hts, List.getElem?_toArray, List.getElem?_cons_zero, List.getElem?_cons_succ, Sem.run_bind, run_und hE w hi, hd, Result.andThen_ok, run_checkKey hE hki hp]
            rfl
          · rename_i r
            cases hm with
            | @map _ L hL =>
              split at h
              · rename_i es clock hg
                obtain ⟨es', g1, g2, g3, g4⟩ := map_get P hR hg hL
                have hlt := (Array.getElem?_eq_some_iff.1 g1).1
                split at h
                · rename_i j x hf
                  cases h
                  obtain ⟨n, e, e', h1, h2, h3, h4, h5, h6, h7, h8⟩ := findE_some hp g2 hf
                  have hrun := run_findKey hE hki h8 w
                  obtain ⟨s1, s2⟩ := set_obj P hR (y := .map (es'.eraseIdxIfInBounds j) clock) (o' := .map (eraseAt es j) clock) hg hL g1 (by simp) g3 (by simp [AObj.hi, g3]) (by simp [AObj.hi, g3])
                    ⟨es'.eraseIdxIfInBounds j, by simp [hlt], by rw [eraseAt_eq]; simpa using g2.eraseIdx j, g3⟩
                  refine ⟨_, _, ?_, VRel.undef, s2⟩
                  simp only [Builtin.delete_, hts, List.getElem?_toArray, List.getElem?_cons_zero, List.getElem?_cons_succ, Sem.run_bind, run_und hE w hi, hd, Result.andThen_ok, g4, run_checkKey hE hki hp, hrun, s1]
                  rfl
                · rename_i hf
                  cases h
                  have hrun := run_findKey hE hki (findE_none hp g2 hf) w
                  have hset : w.heap.setIfInBounds L.B (.map es' clock) = w.heap := by
                    apply Array.ext_getElem?
                    intro q
                    by_cases eq : L.B = q
                    · subst eq; simp [hlt]; exact ((Array.getElem?_eq_some_iff.1 g1).2).symm
                    · simp [eq]
                  have s1 : (setObj L.B (.map es' clock)).run P w = .ok () w := by
                    simp only [setObj, Sem.run, g1, hset]
                  refine ⟨_, w, ?_, VRel.undef, .refl hR⟩
                  simp only [Builtin.delete_, hts, List.getElem?_toArray, List.getElem?_cons_zero, List.getElem?_cons_succ, Sem.run_bind, run_und hE w hi, hd, Result.andThen_ok, g4, run_checkKey hE hki hp, hrun, s1]
                  rfl
                · cases h
              · cases h
          · cases h
      · cases h
    · cases h

theorem clear_sound {E : Env} {P : Program} (hE : EnvOK E P) {ρ : Ren} {A A' : ASt} {w : World} (hR : Rep ρ A w) {t : TypeId} {i : TIn} {ts : Array TypeId} {ty : TypeId} {m m' v : Value} (hts : ts[0]? = some t) (hi : E.ti t = some i)
    (h : aClear m A = .val v A') (hm : VRel ρ m m') :
    ∃ v' w', (Builtin.clear_ ts ty #[m']).run P w = .ok v' w' ∧ VRel ρ v v' ∧ Step ρ A w ρ A' w' := by
  unfold aClear at h
  split at h
  · cases h; cases hm
    refine ⟨_, w, ?_, VRel.undef, .refl hR⟩
    simp only [Builtin.clear_, hts, List.getElem?_toArray, List.getElem?_cons_zero, Sem.run_bind, run_und hE w hi, Result.andThen_ok]
    cases i.desc <;> rfl
  · rename_i r
    cases hm with
    | @map _ L hL =>
      split at h
      · rename_i es clock hg
        cases h
        obtain ⟨es', g1, g2, g3, g4⟩ := map_get P hR hg hL
        have hlt := (Array.getElem?_eq_some_iff.1 g1).1
        obtain ⟨s1, s2⟩ := set_obj P hR (y := .map #[] clock) (o' := .map [] clock) hg hL g1 (by simp) g3 (by simp [AObj.hi, g3]) (by simp [AObj.hi, g3])
          ⟨#[], by simp [hlt], .nil, g3⟩
        refine ⟨_, _, ?_, VRel.undef, s2⟩
        simp only [Builtin.clear_, hts, List.getElem?_toArray, List.getElem?_cons_zero, Sem.run_bind, run_und hE w hi, Result.andThen_ok]
        cases i.desc <;> simp only [Sem.run_bind, g4, s1, Result.andThen_ok, Sem.run_pure] <;> rfl
      · cases h
  · cases h

theorem set_same {w : World} {B : Nat} {o : Obj} (h : w.heap[B]? = some o) : { w with heap := w.heap.setIfInBounds B o } = w := by
  have : w.heap.setIfInBounds B o = w.heap := by
    apply Array.ext_getElem?
    intro q
    have hlt := (Array.getElem?_eq_some_iff.1 h).1
    by_cases eq : B = q
    · subst eq; simp [hlt]; exact ((Array.getElem?_eq_some_iff.1 h).2).symm
    · simp [eq]
  rw [this]

theorem modify_same (l : Array MapEntry) (j : Nat) (k : Value) {e : MapEntry} (h : l[j]? = some e) (hk : e.key = k) : l.modify j (fun e => { e with key := k }) = l := by
  apply Array.ext_getElem?
  intro q
  rw [Array.getElem?_modify]
  by_cases eq : j = q
  · subst eq; rw [if_pos rfl, h]; subst hk; rfl
  · rw [if_neg eq]

theorem mapEntry_sound {E : Env} {P : Program} (hE : EnvOK E P) {ρ : Ren} {A A' : ASt} {w : World} (hR : Rep ρ A w) {t : TypeId} {m m' k k' v : Value}
    (h : aMapEntry E t m k A = .val v A') (hm : VRel ρ m m') (hk : VRel ρ k k') :
    ∃ v' w', (Instr.mapEntry t m' k').run P w = .ok v' w' ∧ VRel ρ v v' ∧ Step ρ A w ρ A' w' := by
  unfold aMapEntry at h
  split at h
  · rename_i i r hi
    split at h
    · rename_i kt et hd
      split at h
      · rename_i ki ei es clock hki hei hg
        cases hp : plainKey ki.desc k with
        | false => rw [hp] at h; cases h
        | true =>
          rw [hp, cond_true] at h
          have hkk : k' = k := by
            cases hk <;> first | rfl | (cases hd' : ki.desc <;> rw [hd'] at hp <;> simp [plainKey, zslice] at hp)
          subst hkk
          cases hm with
          | @map _ L hL =>
            obtain ⟨es', g1, g2, g3, g4⟩ := map_get P hR hg hL
            have hlt := (Array.getElem?_eq_some_iff.1 g1).1
            split at h
            · rename_i j x hf
              obtain ⟨n, e, e', h1, h2, h3, h4, h5, h6, h7, h8⟩ := findE_some hp g2 hf
              have hjn : j = n := by omega
              subst hjn
              rw [nth_eq, h2] at h
              cases h
              have hrun := run_findKey hE hki h8 w
              have e1 : es'[j]? = some e' := by simpa using h3
              have hborn : e'.born = e.born := by
                obtain ⟨b, hb, hr⟩ := g2.get j e h2
                rw [h3] at hb; cases hb; exact hr.born
              have hstay : (Instr.keyThatStays ((Option.map (fun x : MapEntry => x.key) (some e')).getD k') k').run P w = .ok k' w := by
                simp only [Option.map_some, Option.getD_some, h5, Instr.keyThatStays, sameBits_plain hp, if_true]
                rfl
              have hset : (setObj L.B (.map (es'.modify j fun e => { e with key := k' }) clock)).run P w = .ok () w := by
                rw [modify_same es' j k' e1 h5]
                simp only [setObj, Sem.run, g1, set_same g1]
              refine ⟨.tuple #[e'.val, goInt e'.born], w, ?_, .pair (h6 ▸ h7) (by rw [hborn]; exact .int _ _), .refl hR⟩
              simp only [Instr.mapEntry, Sem.run_bind, run_und hE w hi, hd, Result.andThen_ok, g4, run_checkKey hE hki hp, hrun, e1, hstay, hset, Sem.run_pure]
              rfl
            · rename_i hf
              have hrun := run_findKey hE hki (findE_none hp g2 hf) w
              split at h
              · rename_i z hz
                cases hc : closed z with
                | false => rw [hc] at h; cases h
                | true =>
                  rw [hc, cond_true] at h; cases h
                  have hzr := VRel.refl_closed (ρ := ρ) hc
                  obtain ⟨s1, s2⟩ := set_obj P hR (y := .map (es'.push { key := k', val := z, born := clock }) (clock + 1)) (o' := .map (es ++ [{ key := k', val := z, born := clock }]) (clock + 1)) hg hL g1 (by simp) g3 (by simp [AObj.hi, g3]) (by simp [AObj.hi, g3])
                    ⟨es'.push { key := k', val := z, born := clock }, by simp [hlt], by simpa using g2.append (.cons (a := { key := k', val := z, born := clock }) (b := { key := k', val := z, born := clock }) ⟨rfl, plain_flat hp, hzr, rfl⟩ .nil), g3⟩
                  refine ⟨.tuple #[z, goInt clock], _, ?_, .pair hzr (.int _ _), s2⟩
                  simp only [Instr.mapEntry, Sem.run_bind, run_und hE w hi, hd, Result.andThen_ok, g4, run_checkKey hE hki hp, hrun, run_zero hE w hei hz, s1, Sem.run_pure]
              · cases h
            · cases h
      · cases h
    · cases h
  · cases h

theorem setBorn_rel {ρ : Ren} {n : Nat} {v v' : Value} (hv : VRel ρ v v') : ∀ {es es' r : List MapEntry}, LR (EntRel ρ) es es' → setBorn n v es = some r →
    ∃ j, es'.findIdx? (fun e => (e.born : Int) == (n : Int)) = some j ∧ LR (EntRel ρ) r (es'.modify j fun e => { e with val := v' })
  | [], _, r, hr, h => by simp [setBorn] at h
  | e :: es, _, r, .cons (b := b) (r := es') he hr, h => by
    unfold setBorn at h
    cases hb : Nat.beq e.born n with
    | true =>
      rw [hb, cond_true] at h; cases h
      have := Nat.eq_of_beq_eq_true hb
      refine ⟨0, by simp [List.findIdx?_cons, he.born, this], ?_⟩
      simp only [List.modify_zero_cons]
      exact .cons ⟨he.key, he.flat, hv, he.born⟩ hr
    | false =>
      rw [hb, cond_false] at h
      have hne := Nat.ne_of_beq_eq_false hb
      split at h
      · rename_i r' hr'
        cases h
        obtain ⟨j, h1, h2⟩ := setBorn_rel hv hr hr'
        have hneq : ((b.born : Int) == (n : Int)) = false := by
          rw [he.born]; simp; omega
        refine ⟨j + 1, by simp [List.findIdx?_cons, hneq, h1], ?_⟩
        simp only [List.modify_succ_cons]
        exact .cons he h2
      · cases h

theorem entryStore_sound {P : Program} {ρ : Ren} {A A' : ASt} {w : World} (hR : Rep ρ A w) (t : TypeId) {m m' s s' v v' : Value}
    (h : aEntryStore m s v A = some A') (hm : VRel ρ m m') (hs : VRel ρ s s') (hv : VRel ρ v v') :
    ∃ w', (Instr.entryStore t m' s' v').run P w = .ok () w' ∧ Step ρ A w ρ A' w' := by
  unfold aEntryStore at h
  split at h
  · rename_i r kd n
    cases hs
    cases hm with
    | @map _ L hL =>
      split at h
      · rename_i es clock hg
        split at h
        · rename_i es2 hes2
          cases h
          obtain ⟨es', g1, g2, g3, g4⟩ := map_get P hR hg hL
          have hlt := (Array.getElem?_eq_some_iff.1 g1).1
          obtain ⟨j, h1, h2⟩ := setBorn_rel hv g2 hes2
          obtain ⟨s1, s2⟩ := set_obj P hR (y := .map (es'.modify j fun e => { e with val := v' }) clock) (o' := .map es2 clock) hg hL g1 (by simp) g3 (by simp [AObj.hi, g3]) (by simp [AObj.hi, g3])
            ⟨es'.modify j fun e => { e with val := v' }, by simp [hlt], by simpa using h2, g3⟩
          refine ⟨_, ?_, s2⟩
          have hidx : es'.findIdx? (fun e => (e.born : Int) == (Int.ofNat n)) = some j := by
            have e : es' = es'.toList.toArray := by simp
            rw [e, List.findIdx?_toArray]; exact h1
          simp only [Instr.entryStore, Sem.run_bind, g4, Result.andThen_ok, asInt, asIntOf, Sem.run_pure, hidx]
          exact s1
        · cases h
      · cases h
  · cases h

end Go.AE
