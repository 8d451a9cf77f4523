/- The evaluator: every operation. -/
import Derived.Test.YthacgilphddekaaGreatDoorAeOps
namespace Go.AE
open Go

theorem clear2_sound {E : Env} {P : Program} (hE : EnvOK E P) {ρ : Ren} {A A' : ASt} {w : World} (hR : Rep ρ A w) {t : TypeId} {i : TIn} {ts : Array TypeId} {ty : TypeId} {m m' v : Value} (hts : ts[0]? = some t) (hi : E.ti t = some i)
    (h : aClear2 E i m A = .val v A') (hm : VRel ρ m m') :
    ∃ v' w', (Builtin.clear_ ts ty #[m']).run P w = .ok v' w' ∧ VRel ρ v v' ∧ Step ρ A w ρ A' w' := by
  unfold aClear2 at h
  split at h
  · cases h; cases hm
    refine ⟨_, w, ?_, VRel.undef, .refl hR⟩
    simp only [Builtin.clear_, hts, List.getElem?_toArray, List.getElem?_cons_zero, Sem.run_bind, run_und hE w hi, Result.andThen_ok]
    cases i.desc <;> rfl
  · rename_i e b off n cap hd
    cases hn : Nat.beq n 0 with
    | true =>
      have hn := Nat.eq_of_beq_eq_true hn
      subst hn
      rw [Nat.beq_refl, cond_true] at h
      cases h
      refine ⟨.tuple #[], w, ?_, VRel.undef, .refl hR⟩
      cases hm <;> (simp only [Builtin.clear_, hts, List.getElem?_toArray, List.getElem?_cons_zero, Sem.run_bind, run_und hE w hi, Result.andThen_ok, hd]; rfl)
    | false =>
      rw [hn, cond_false] at h
      have hn0 := Nat.ne_of_beq_eq_false hn
      split at h
      · rename_i j c sz tail hj hg
        split at h
        · rename_i z hz
          cases hc : (closed z && singles (reps z.cells.toList n)) with
          | false => rw [hc] at h; cases h
          | true =>
            rw [hc, cond_true] at h
            rw [Bool.and_eq_true] at hc
            split at h
            · rename_i c' hc'
              cases h
              have key : ∀ L cap', ρ b = some L → ∃ v' w', (Builtin.clear_ ts ty #[.slice (some ⟨L.B, L.o + off, none⟩) n cap']).run P w = .ok v' w' ∧ VRel ρ undef v' ∧ Step ρ A w ρ (A.set b (.row c' sz tail)) w' := by
                intro L cap' hL
                obtain ⟨w', s1, s2⟩ := store_row P hR hg hL (reps_rel (VsRel.cells_closed hc.1) n) hc.2 hc'
                refine ⟨.tuple #[], w', ?_, VRel.undef, s2⟩
                have hz' : (Builtin.zeroCells z.cells n).toList = reps z.cells.toList n := by
                  unfold Builtin.zeroCells
                  rw [reps_range z.cells n z.cells.size rfl]
                obtain ⟨k, rfl⟩ : ∃ k, n = k + 1 := ⟨n - 1, by omega⟩
                simp only [Builtin.clear_, hts, List.getElem?_toArray, List.getElem?_cons_zero, Sem.run_bind, run_und hE w hi, Result.andThen_ok, hd, run_zero hE w hj hz, hz', s1]
                rfl
              cases hm with
              | @slice _ _ L _ _ hb _ => exact key L _ hb
              | @sliceU _ _ L _ _ cap' hb _ _ => exact key L cap' hb
            · cases h
        · cases h
      · cases h
  · exact clear_sound hE hR hts hi h hm

theorem builtin_sound {E : Env} {P : Program} (hE : EnvOK E P) {ρ : Ren} {A : ASt} {w : World} (hR : Rep ρ A w) (b : Builtin) (ts : Array TypeId) (ty : TypeId) (cs : Array Bool) {args : List Value} {args' : Array Value} (ha : VsRel ρ args args'.toList) :
    ARok P ρ A w (builtin b ts ty cs args') (aBuiltin E b ts.toList args A) := by
  have t0 : ∀ t l, ts.toList = t :: l → ts[0]? = some t := fun t l h => by
    rw [← Array.getElem?_toList, h]; rfl
  have t1 : ∀ t u l, ts.toList = t :: u :: l → ts[1]? = some u := fun t u l h => by
    rw [← Array.getElem?_toList, h]; rfl
  have a1 : ∀ x, args = [x] → ∃ x', args' = #[x'] ∧ VRel ρ x x' := fun x h => by
    subst h
    cases hl : args'.toList with
    | nil => rw [hl] at ha; cases ha
    | cons y l =>
      rw [hl] at ha
      cases ha with
      | cons h1 h2 => cases h2; exact ⟨y, Array.ext' hl, h1⟩
  have a2 : ∀ x y, args = [x, y] → ∃ x' y', args' = #[x', y'] ∧ VRel ρ x x' ∧ VRel ρ y y' := fun x y h => by
    subst h
    cases hl : args'.toList with
    | nil => rw [hl] at ha; cases ha
    | cons z l =>
      rw [hl] at ha
      cases ha with
      | cons h1 h2 =>
        cases h2 with
        | cons h2 h3 => cases h3; exact ⟨z, _, Array.ext' hl, h1, h2⟩
  unfold aBuiltin
  split
  · rename_i t xt l s x hts
    obtain ⟨s', x', rfl, hs, hx⟩ := a2 _ _ rfl
    exact ARok.ofRun fun v A' h => append_sound hE hR (t0 _ _ hts) (t1 _ _ _ hts) h hs hx
  · rename_i t l x hts
    obtain ⟨x', rfl, hx⟩ := a1 _ rfl
    exact ARok.ofVal hR fun v h => ⟨v, (len_sound hE hR (t0 _ _ hts) h hx).1, (len_sound (P := P) hE hR (w := w) (ty := ty) (t0 _ _ hts) h hx).2⟩
  · rename_i t l x hts
    obtain ⟨x', rfl, hx⟩ := a1 _ rfl
    exact ARok.ofVal hR fun v h => ⟨v, (cap_sound hE (t0 _ _ hts) h hx).1, (cap_sound (P := P) hE (w := w) (ty := ty) (t0 _ _ hts) h hx).2⟩
  · rename_i t l d s hts
    obtain ⟨d', s', rfl, hd, hs⟩ := a2 _ _ rfl
    exact ARok.ofRun fun v A' h => by
      obtain ⟨v', w', h1, h2, h3⟩ := copy_sound hE hR (ty := ty) (t0 _ _ hts) h hd hs
      exact ⟨v', w', ρ, h1, h2, h3⟩
  · rename_i t l m k hts
    obtain ⟨m', k', rfl, hm, hk⟩ := a2 _ _ rfl
    exact ARok.ofRun fun v A' h => by
      obtain ⟨v', w', h1, h2, h3⟩ := delete_sound hE hR (ty := ty) (t0 _ _ hts) h hm hk
      exact ⟨v', w', ρ, h1, h2, h3⟩
  · rename_i t l x hts
    obtain ⟨x', rfl, hx⟩ := a1 _ rfl
    split
    · rename_i i hi
      exact ARok.ofRun fun v A' h => by
        obtain ⟨v', w', h1, h2, h3⟩ := clear2_sound hE hR (ty := ty) (t0 _ _ hts) hi h hx
        exact ⟨v', w', ρ, h1, h2, h3⟩
    · trivial
  · refine ARok.ofVal hR fun v h => ?_
    have := minMax_sound (P := P) (w := w) ts ty h ha
    exact ⟨v, by simpa using this.1, .refl_flat this.2⟩
  · refine ARok.ofVal hR fun v h => ?_
    have := minMax_sound (P := P) (w := w) ts ty h ha
    exact ⟨v, by simpa using this.1, .refl_flat this.2⟩
  · trivial

theorem call_sound {E : Env} {P : Program} (hE : EnvOK E P) {ρ : Ren} {A : ASt} {w : World} (hR : Rep ρ A w) (hro : RoOK E ρ w) {T : Tmps} {a : Act} (ht : TRel ρ T a) (c : Call) (ty : TypeId) :
    ARok P ρ A w (do let d ← resolve a.eval c ty; invoke d.target d.args) (aCall E T c A) := by
  unfold aCall
  split
  · trivial
  · rename_i args hargs
    have hrel := evs_sound ht hargs
    have hargs' : VsRel ρ args (c.args.map a.eval).toList := by simpa using hrel
    split
    · rename_i b hb
      have : (do let d ← resolve a.eval c ty; invoke d.target d.args : Sem Next) = builtin b c.argTypes ty (c.args.map fun | .const _ => true | _ => false) (c.args.map a.eval) := by
        simp only [resolve, hb, pure_bind]
        rfl
      rw [this]
      exact builtin_sound hE hR b c.argTypes ty _ hargs'
    · rename_i r name hb
      split
      · rename_i v hv
        have hvr := ev_sound ht hv
        have : (do let d ← resolve a.eval c ty; invoke d.target d.args : Sem Next) = invoke (.fn (.method name) #[]) (#[a.eval r] ++ c.args.map a.eval) := by
          simp only [resolve, hb, pure_bind]
        rw [this]
        exact invoke_sound hE hR hro (.same rfl) (by simpa using LR.cons hvr hargs') (by exact .nil)
      · trivial
    · rename_i f hb
      split
      · rename_i fn first captured hv
        have hvr := ev_sound ht hv
        generalize hfe : a.eval f = fv at hvr
        cases hvr with
        | @yield l L hL =>
          have : (do let d ← resolve a.eval c ty; invoke d.target d.args : Sem Next) = invoke (.fn (.yield L.B) #[]) (#[] ++ c.args.map a.eval) := by
            simp only [resolve, hb, hfe, Deferred.ofValue, pure_bind]
          rw [this]
          exact invoke_sound hE hR hro (.yield hL) (by simpa using hargs') .nil
        | @func _ _ f' _ c' s0 s1 g1 s2 g2 =>
          have : (do let d ← resolve a.eval c ty; invoke d.target d.args : Sem Next) = invoke (.fn fn c') (f' ++ c.args.map a.eval) := by
            simp only [resolve, hb, hfe, Deferred.ofValue, pure_bind]
          rw [this]
          exact invoke_sound hE hR hro (.same s0) (by simpa using (VsRel.of_array s1 g1).append hargs') (VsRel.of_array s2 g2)
      · trivial

theorem ARok.unit {P : Program} {ρ : Ren} {A A' : ASt} {w w' : World} {s : Sem Unit} (h : s.run P w = .ok () w') (hs : Step ρ A w ρ A' w') : ARok P ρ A w (do s; pure .skip) (.val undef A') :=
  ⟨.skip, undef, w', ρ, by simp [h], .inr ⟨rfl, rfl⟩, VRel.undef, hs⟩

set_option maxHeartbeats 1000000 in
theorem opR_sound {E : Env} {P : Program} (hE : EnvOK E P) {ρ : Ren} {A : ASt} {w : World} (hR : Rep ρ A w) (hro : RoOK E ρ w) {T : Tmps} {a : Act} (ht : TRel ρ T a) (o : Oper) :
    ARok P ρ A w (execOp a.eval o) (aOpR E o.op T A) := by
  have hnc := fun (x : Operand) (h : o.op = .nilCheck x) (v : Value) (hv : ev T x = some v) (u : Value) (hu : aNilCheck v = some u) => nilCheck_sound (P := P) hu (ev_sound ht hv) w a.eval o x h rfl
  have plainV : ∀ (x : Operand) (why : String), ARok P ρ A w (pure (.value (a.eval x))) (ofVal (ev T x) A why) := fun x why => by
    cases h : ev T x with
    | none => trivial
    | some v => exact ⟨.value (a.eval x), a.eval x, w, ρ, rfl, .inl rfl, ev_sound ht h, .refl hR⟩
  by_cases hn : ∃ x, o.op = .nilCheck x
  · obtain ⟨x, hop⟩ := hn
    rw [hop]
    simp only [aOpR]
    split
    · rename_i v hv
      cases hu : aNilCheck v with
      | none => trivial
      | some u =>
        obtain ⟨h1, rfl⟩ := hnc x hop v hv u hu
        exact ⟨.value (a.eval x), a.eval x, w, ρ, h1, .inl rfl, ev_sound ht hv, .refl hR⟩
    · trivial
  unfold execOp aOpR
  cases hop : o.op with
  | move x => exact plainV x _
  | assign x => exact plainV x _
  | pick c x y =>
    simp only []
    split
    · rename_i b hc
      have hcr := ev_sound ht hc
      generalize a.eval c = cv at hcr
      cases hcr
      cases b with
      | true =>
        rw [cond_true]
        cases h : ev T x with
        | none => trivial
        | some v => exact ⟨.value (a.eval x), a.eval x, w, ρ, rfl, .inl rfl, ev_sound ht h, .refl hR⟩
      | false =>
        rw [cond_false]
        cases h : ev T y with
        | none => trivial
        | some v => exact ⟨.value (a.eval y), a.eval y, w, ρ, rfl, .inl rfl, ev_sound ht h, .refl hR⟩
    · trivial
  | build t ps =>
    simp only []
    split
    · rename_i l hl
      refine ARok.ofVal hR fun v h => ?_
      have := evPairs_sound ht hl
      exact build_sound hE (parts' := ps.map fun (i, x) => (i, a.eval x)) (by simpa using this) h w
    · trivial
  | load t x =>
    simp only []
    split
    · rename_i v hv
      refine ARok.ofVal hR fun u h => ?_
      obtain ⟨v', h1, h2, _⟩ := load_sound hE hR hro (ev_sound ht hv) h
      exact ⟨v', h1, h2⟩
    · trivial
  | store t p x =>
    simp only []
    split
    · rename_i pv xv hp hx
      split
      · rename_i A' hA
        obtain ⟨w', h1, h2⟩ := store_sound hE hR (ev_sound ht hp) (ev_sound ht hx) hA
        exact ARok.unit h1 h2
      · trivial
    · trivial
  | nilCheck x => exact absurd ⟨x, hop⟩ hn
  | binOp op t x y yt =>
    simp only []
    split
    · rename_i xv yv hx hy
      refine ARok.ofVal hR fun v h => ?_
      obtain ⟨h1, h2⟩ := bin2_sound hE h (ev_sound ht hx) (ev_sound ht hy) w
      exact ⟨v, h1, .refl_flat h2⟩
    · trivial
  | unOp op t x =>
    simp only []
    split
    · rename_i v hv
      refine ARok.ofVal hR fun u h => ?_
      obtain ⟨h1, h2⟩ := un_sound h (ev_sound ht hv) w
      exact ⟨u, h1, .refl_flat h2⟩
    · trivial
  | convert s d x =>
    simp only []
    split
    · rename_i v hv
      exact ARok.ofVal hR fun u h => convert_sound hE hR h (ev_sound ht hv)
    · trivial
  | makeInterface t x =>
    simp only []
    split
    · rename_i v hv
      exact ARok.ofVal hR fun u h => makeIface_sound hE h (ev_sound ht hv) w
    · trivial
  | makeFunc fn first captured =>
    simp only []
    split
    · rename_i l r hl hr
      cases hny : notYield fn with
      | false => trivial
      | true =>
      refine ⟨.value (.func fn (first.map a.eval) (captured.map a.eval)), _, w, ρ, rfl, .inl rfl, ?_, .refl hR⟩
      have h1 := VRel.func_of fn hny (evs_sound ht hl) (evs_sound ht hr)
      have e1 : (first.toList.map a.eval).toArray = first.map a.eval := by apply Array.ext'; simp
      have e2 : (captured.toList.map a.eval).toArray = captured.map a.eval := by apply Array.ext'; simp
      rwa [e1, e2] at h1
    · trivial
  | slice t x lo hi mx =>
    simp only []
    split
    · rename_i v l h m hv hl hh hm
      exact ARok.ofVal hR fun u hu => slice_sound hE hR hu (ev_sound ht hv) (evOpt_sound ht hl) (evOpt_sound ht hh) (evOpt_sound ht hm)
    · trivial
  | fieldAddr s x f =>
    simp only []
    split
    · rename_i v hv
      exact ARok.ofVal hR fun u h => fieldAddr_sound hE h (ev_sound ht hv) w
    · trivial
  | field s x f =>
    simp only []
    split
    · rename_i v hv
      exact ARok.ofVal hR fun u h => field_sound hE h (ev_sound ht hv) w
    · trivial
  | indexAddr t x i =>
    simp only []
    split
    · rename_i v k hv hk
      exact ARok.ofVal hR fun u h => indexAddr_sound hE h (ev_sound ht hv) (ev_sound ht hk) w
    · trivial
  | index t x i =>
    simp only []
    split
    · rename_i v k hv hk
      exact ARok.ofVal hR fun u h => index_sound hE h (ev_sound ht hv) (ev_sound ht hk) w
    · trivial
  | lookup t x k ok =>
    simp only []
    split
    · rename_i v u hv hu
      exact ARok.ofVal hR fun r h => lookup_sound hE hR h (ev_sound ht hv) (ev_sound ht hu)
    · trivial
  | mapUpdate t m k x =>
    simp only []
    split
    · rename_i mv kv xv hm hk hx
      split
      · rename_i A' hA
        obtain ⟨w', h1, h2⟩ := mapUpdate_sound hE hR hA (ev_sound ht hm) (ev_sound ht hk) (ev_sound ht hx)
        exact ARok.unit h1 h2
      · trivial
    · trivial
  | insert t m k x =>
    simp only []
    split
    · rename_i mv kv xv hm hk hx
      split
      · rename_i A' hA
        obtain ⟨w', h1, h2⟩ := mapUpdate_sound hE hR hA (ev_sound ht hm) (ev_sound ht hk) (ev_sound ht hx)
        exact ARok.unit h1 h2
      · trivial
    · trivial
  | mapEntry t m k =>
    simp only []
    split
    · rename_i mv kv hm hk
      exact ARok.ofRun fun v A' h => by
        obtain ⟨v', w', h1, h2, h3⟩ := mapEntry_sound hE hR h (ev_sound ht hm) (ev_sound ht hk)
        exact ⟨v', w', ρ, h1, h2, h3⟩
    · trivial
  | entryStore t m s x =>
    simp only []
    split
    · rename_i mv sv xv hm hs hx
      split
      · rename_i A' hA
        obtain ⟨w', h1, h2⟩ := entryStore_sound (P := P) hR t hA (ev_sound ht hm) (ev_sound ht hs) (ev_sound ht hx)
        exact ARok.unit h1 h2
      · trivial
    · trivial
  | range t x =>
    simp only []
    split
    · rename_i v hv
      exact ARok.ofRun fun u A' h => range_sound hE hR h (ev_sound ht hv)
    · trivial
  | entry it =>
    simp only []
    split
    · rename_i v hv
      exact ARok.ofVal hR fun u h => entry_sound hR h (ev_sound ht hv)
    · trivial
  | typeAssert x s t ok =>
    simp only []
    split
    · rename_i v hv
      exact ARok.ofVal hR fun u h => typeAssert_sound hE h (ev_sound ht hv) w
    · trivial
  | extract x n =>
    simp only []
    split
    · rename_i v hv
      exact ARok.ofVal hR fun u h => extract_sound h (ev_sound ht hv) w
    · trivial
  | call c => exact call_sound hE hR hro ht c o.type
  | _ => trivial

set_option maxHeartbeats 2000000 in
/-- A new block, at whatever free number. -/
theorem fresh_sound {E : Env} {P : Program} (hE : EnvOK E P) {ρ : Ren} {A : ASt} {w : World} (hR : Rep ρ A w) {id : Nat} (hid : ρ id = none) {T : Tmps} {a : Act} (ht : TRel ρ T a) (o : Oper) {r : Fresh} (h : aFresh E o.op T = some r) :
    ∃ v' w' L, (execOp a.eval o).run P w = .ok (.value v') w' ∧ VRel (upd ρ id L) (r.2 id) v' ∧ Step0 ρ A w (upd ρ id L) (A.newAt id r.1) w' := by
  have fin : ∀ (s : Sem Value), FreshOK P ρ A w id s r → ∃ v' w' L, (do pure (.value (← s)) : Sem Next).run P w = .ok (.value v') w' ∧ VRel (upd ρ id L) (r.2 id) v' ∧ Step0 ρ A w (upd ρ id L) (A.newAt id r.1) w' :=
    fun s ⟨v', w', L, h1, h2, h3⟩ => ⟨v', w', L, by simp [h1], h2, h3⟩
  unfold aFresh at h
  split at h
  · rename_i t hop
    simp only [execOp, hop]
    exact fin (Instr.alloc t true (.tuple #[])) (alloc_sound hE hR hid h)
  · rename_i t x hop
    simp only [execOp, hop]
    split at h
    · rename_i v hv; exact fin (Instr.box t (a.eval x)) (box_sound hR hid (ev_sound ht hv) h)
    · cases h
  · rename_i t n ps hop
    simp only [execOp, hop]
    split at h
    · rename_i l hl
      have := evPairs_sound ht hl
      exact fin (Instr.buildSlice t n (ps.map fun (i, x) => (i, a.eval x))) (buildSlice_sound hE hR hid (by simpa using this) h)
    · cases h
  · rename_i t hop
    cases h
    simp only [execOp, hop]
    have hs := Step0.newAt hR id hid (.map [] 0) (.map #[] 0) ⟨w.heap.size, 0, 0, 0, undef⟩ rfl ⟨#[], heap_alloc_new _ _, .nil, rfl⟩
    refine ⟨.map (some w.heap.size), _, _, ?_, ?_, hs⟩
    · simp [Instr.makeMap]
    · exact VRel.map (L := ⟨w.heap.size, 0, 0, 0, undef⟩) upd_same
  · rename_i t l c hop
    simp only [execOp, hop]
    split at h
    · rename_i lv cv hl hc
      exact fin (Instr.makeSlice t (a.eval l) (a.eval c)) (makeSlice_sound hE hR hid h (ev_sound ht hl) (ev_sound ht hc))
    · cases h
  · rename_i s d x hop
    simp only [execOp, hop]
    split at h
    · rename_i v hv; exact fin (convert s d (a.eval x)) (bytesOf_sound hE hR hid h (ev_sound ht hv))
    · cases h
  · cases h

theorem op_sound {E : Env} {P : Program} (hE : EnvOK E P) {ρ : Ren} {A : ASt} {w : World} (hR : Rep ρ A w) (hro : RoOK E ρ w) {T : Tmps} {a : Act} (ht : TRel ρ T a) (o : Oper) :
    ARok P ρ A w (execOp a.eval o) (aOp E o.op T A) := by
  rw [aOp_def]
  cases freshOp E o.op with
  | false => rw [cond_false]; exact opR_sound hE hR hro ht o
  | true =>
    rw [cond_true]
    split
    · rename_i ob f h
      obtain ⟨v', w', L, h1, h2, h3⟩ := fresh_sound hE hR (hR.fresh _ (Nat.le_refl _)) ht o h
      exact ⟨.value v', v', w', _, h1, .inl rfl, h2, h3.atNext⟩
    · trivial

end Go.AE
