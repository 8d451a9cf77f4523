/- The evaluator: reading and writing rows. -/
import Derived.Test.YthacgilphddekaaGreatDoorAeRel
import Derived.Laws.IdiomCopy
import Derived.Laws.Entries
namespace Go.AE
open Go

structure EnvOK (E : Env) (P : Program) : Prop where
  ti : ∀ t i, E.ti t = some i → ∃ j, P.info? t = some j ∧ P.underlying t = some i.desc ∧ j.size = i.size ∧ j.bytes = i.bytes ∧ j.zero = i.zero ∧ j.methods = i.methods
  fn : ∀ f g, E.fn f = some g → P.funcs[f]? = some g ∧ g.body.isSome = true ∧ (g.name == "runtime.NumGoroutine") = false
  bin : ∀ op t xo yo x y v, E.bin op t xo yo x y = some v → ∀ w, ((do eqGuard op t xo yo x y; binOp op t x y) : Sem Value).run P w = .ok v w
  ext : ∀ f g, E.ext f = some g → ∀ args v, g args = some v → ∀ w, (callFunc f args.toArray).run P w = .ok (.value v) w

theorem run_und {E : Env} {P : Program} (hE : EnvOK E P) {t : TypeId} {i : TIn} (w : World) (h : E.ti t = some i) : (underlying t).run P w = .ok i.desc w := by
  obtain ⟨j, _, h2, _⟩ := hE.ti t i h
  exact run_underlying h2 w
theorem run_info {E : Env} {P : Program} (hE : EnvOK E P) {t : TypeId} {i : TIn} (w : World) (h : E.ti t = some i) : ∃ j, (typeInfo t).run P w = .ok j w ∧ j.size = i.size ∧ j.bytes = i.bytes ∧ j.zero = i.zero ∧ j.methods = i.methods := by
  obtain ⟨j, h1, _, h3, h4, h5, h6⟩ := hE.ti t i h
  exact ⟨j, by simp [typeInfo, h1], h3, h4, h5, h6⟩
theorem run_size {E : Env} {P : Program} (hE : EnvOK E P) {t : TypeId} {i : TIn} (w : World) (h : E.ti t = some i) : (sizeOf t).run P w = .ok i.size w := by
  obtain ⟨j, h1, h2, _⟩ := run_info hE w h
  simp [sizeOf, h1, h2]
theorem run_bytes {E : Env} {P : Program} (hE : EnvOK E P) {t : TypeId} {i : TIn} (w : World) (h : E.ti t = some i) : ((do pure (← typeInfo t).bytes) : Sem Nat).run P w = .ok i.bytes w := by
  obtain ⟨j, h1, _, h2, _⟩ := run_info hE w h
  simp [h1, h2]
theorem run_zero {E : Env} {P : Program} (hE : EnvOK E P) {t : TypeId} {i : TIn} (w : World) (h : E.ti t = some i) {z : Value} (hz : i.zero = some z) : (zeroValue t).run P w = .ok z w := by
  obtain ⟨j, h1, _, _, h2, _⟩ := run_info hE w h
  simp [zeroValue, h1, h2, hz]
theorem run_agg {E : Env} {P : Program} (hE : EnvOK E P) {t : TypeId} {i : TIn} (w : World) (h : E.ti t = some i) : (isAgg t).run P w = .ok (isAggD i.desc) w := by
  simp only [isAgg, Sem.run_bind, run_und hE w h, Result.andThen_ok]
  unfold isAggD
  cases i.desc <;> rfl

theorem part_sound {E : Env} {P : Program} (hE : EnvOK E P) {ρ : Ren} {t : TypeId} {cs : List Value} {cs' : Array Value} {off : Nat} {v : Value}
    (h : partV E t cs off = some v) (hr : VsRel ρ cs cs'.toList) (w : World) : ∃ v', (part t cs' off).run P w = .ok v' w ∧ VRel ρ v v' := by
  unfold partV at h
  split at h
  · rename_i i hi
    cases hag : isAggD i.desc with
    | true =>
      rw [hag, cond_true] at h
      cases hc : cut cs off i.size with
      | none => rw [hc] at h; cases h
      | some r =>
        rw [hc] at h; cases h
        obtain ⟨h1, h2, h3⟩ := cut_some hc
        refine ⟨.agg (cs'.extract off (off + i.size)), ?_, ?_⟩
        · simp [part, run_agg hE w hi, hag, run_size hE w hi]
        · subst h1
          have := VRel.agg_of ((hr.drop off).take i.size)
          have e : ((cs'.toList.drop off).take i.size).toArray = cs'.extract off (off + i.size) := by
            apply Array.ext'
            simp [List.take_drop]
          rwa [e] at this
    | false =>
      rw [hag, cond_false, nth_eq] at h
      obtain ⟨v', hv', hrel⟩ := hr.get off v h
      refine ⟨v', ?_, hrel⟩
      simp only [Array.getElem?_toList] at hv'
      simp [part, run_agg hE w hi, hag, hv']
  · cases h

/-- The cells of a row that is known. -/
theorem ORel.cell {ρ : Ren} {c : List Value} {sz : Nat} {tail : Bool} {L : Loc} {w : World} (h : ORel ρ (.row c sz tail) L w) {i : Nat} {v : Value} (hv : c[i]? = some v) :
    ∃ v', w.cell? ⟨L.B, L.o + i, none⟩ = some v' ∧ VRel ρ v v' := by
  obtain ⟨cells, el, lo, hi, h1, h2, h3, h4, h5, h6⟩ := h
  obtain ⟨v', a, b⟩ := h5 i v hv
  exact ⟨v', by simp [World.cell?, h1, a], b⟩

/-- A run of cells of a row. -/
theorem ORel.cellsFrom {ρ : Ren} {c : List Value} {sz : Nat} {tail : Bool} {L : Loc} {w : World} (h : ORel ρ (.row c sz tail) L w) {off n : Nat} {r : List Value} (hr : cut c off n = some r) :
    ∃ r', r'.length = n ∧ VsRel ρ r r' ∧ ∀ j v, r'[j]? = some v → w.cell? ⟨L.B, L.o + off + j, none⟩ = some v := by
  obtain ⟨h1, h2, h3⟩ := cut_some hr
  obtain ⟨cells, el, lo, hi, e1, e2, e3, e4, e5, e6⟩ := h
  have hget : ∀ j, j < n → (((cells.toList.drop (L.o + off)).take n)[j]? = cells[L.o + off + j]?) := fun j hj => by
    rw [List.getElem?_take_of_lt hj, List.getElem?_drop]; simp
  have hlen : ((cells.toList.drop (L.o + off)).take n).length = n := by
    rcases h3 with h3 | h3
    · subst h3; simp
    · simp; omega
  refine ⟨(cells.toList.drop (L.o + off)).take n, hlen, ?_, ?_⟩
  · refine LR.of_get (by rw [hlen, h2]) fun j a b ha hb => ?_
    have hj : j < n := by have := (List.getElem?_eq_some_iff.1 ha).1; omega
    rw [hget j hj] at hb
    have ha' : c[off + j]? = some a := by rw [h1, List.getElem?_take_of_lt hj, List.getElem?_drop] at ha; exact ha
    obtain ⟨v', hv', hrel⟩ := e5 _ _ ha'
    rw [show L.o + (off + j) = L.o + off + j by omega, hb] at hv'
    cases hv'; exact hrel
  · intro j v hv
    have hj : j < n := by have := (List.getElem?_eq_some_iff.1 hv).1; omega
    rw [hget j hj] at hv
    simp [World.cell?, e1, hv]

theorem addr_add (B o n : Nat) : (⟨B, o, none⟩ : Addr).add n = ⟨B, o + n, none⟩ := by
  unfold Addr.add
  split
  · rename_i h; simp [h]
  · rfl

theorem loadCells_row {ρ : Ren} {c : List Value} {sz : Nat} {tail : Bool} {L : Loc} {w : World} (P : Program) (h : ORel ρ (.row c sz tail) L w) {off n : Nat} {r : List Value} (hr : cut c off n = some r) :
    ∃ r', r'.length = n ∧ VsRel ρ r r' ∧ (loadCells ⟨L.B, L.o + off, none⟩ n).run P w = .ok r'.toArray w := by
  obtain ⟨r', h1, h2, h3⟩ := h.cellsFrom hr
  refine ⟨r', h1, h2, ?_⟩
  have := run_loadCells_list (P := P) w ⟨L.B, L.o + off, none⟩ r' (fun j v hv => by rw [addr_add]; exact h3 j v hv)
  rwa [h1] at this

/-- The rows that are read alone lie where they should. -/
def RoOK (E : Env) (ρ : Ren) (w : World) : Prop := ∀ b c, E.ro b = some c → ∃ L, ρ b = some L ∧ ∀ (i : Nat) (v : Value), c[i]? = some v → ∃ v', w.cell? ⟨L.B, L.o + i, none⟩ = some v' ∧ VRel ρ v v'

theorem LR.pick {α β : Type} {R : α → β → Prop} : ∀ {r : List α} {f : Nat → Option β}, (∀ (i : Nat) (v : α), r[i]? = some v → ∃ v', f i = some v' ∧ R v v') → ∃ r', LR R r r' ∧ ∀ (i : Nat) (v' : β), r'[i]? = some v' → f i = some v'
  | [], _, _ => ⟨[], .nil, fun i v h => by simp at h⟩
  | a :: r, f, h => by
    obtain ⟨b, hb, hab⟩ := h 0 a rfl
    obtain ⟨r', h1, h2⟩ := LR.pick (r := r) (f := fun i => f (i + 1)) fun i v hv => h (i + 1) v (by simpa using hv)
    refine ⟨b :: r', .cons hab h1, fun i v' hv => ?_⟩
    cases i with
    | zero => simp at hv; subst hv; exact hb
    | succ i => exact h2 i v' (by simpa using hv)

theorem load_sound {E : Env} {P : Program} (hE : EnvOK E P) {ρ : Ren} {A : ASt} {w : World} (hR : Rep ρ A w) (hro : RoOK E ρ w) {t : TypeId} {a a' v : Value} (ha : VRel ρ a a')
    (h : aLoad E t a A = some v) : ∃ v', (Instr.loadAt t a').run P w = .ok v' w ∧ VRel ρ v v' ∧ ∃ ad, a' = .pointer (some ad) ∧ (loadVar t ad).run P w = .ok v' w := by
  unfold aLoad at h
  split at h
  · rename_i b off
    cases ha with
    | @ptr _ _ L hb =>
      split at h
      · rename_i c sz tail hg
        obtain ⟨L', hL', ho⟩ := hR.obj b _ hg
        rw [hb] at hL'; cases hL'
        unfold partV at h
        split at h
        · rename_i i hi
          cases hag : isAggD i.desc with
          | true =>
            rw [hag, cond_true] at h
            cases hc : cut c off i.size with
            | none => rw [hc] at h; cases h
            | some r =>
              rw [hc] at h; cases h
              obtain ⟨r', h1, h2, h3⟩ := loadCells_row P ho hc
              have hl : (loadVar t ⟨L.B, L.o + off, none⟩).run P w = .ok (.agg r'.toArray) w := by
                simp [loadVar, run_agg hE w hi, hag, run_size hE w hi, h3]
              exact ⟨.agg r'.toArray, by simp [Instr.loadAt, Instr.sureAddr, hl], VRel.agg_of h2, _, rfl, hl⟩
          | false =>
            rw [hag, cond_false, nth_eq] at h
            obtain ⟨v', hv', hrel⟩ := ho.cell h
            have hl : (loadVar t ⟨L.B, L.o + off, none⟩).run P w = .ok v' w := by
              simp [loadVar, run_agg hE w hi, hag, hv']
            exact ⟨v', by simp [Instr.loadAt, Instr.sureAddr, hl], hrel, _, rfl, hl⟩
        · cases h
      · split at h
        · rename_i c hc0
          obtain ⟨L', hL', hcell⟩ := hro b c hc0
          rw [hb] at hL'; cases hL'
          unfold partV at h
          split at h
          · rename_i i hi
            cases hag : isAggD i.desc with
            | true =>
              rw [hag, cond_true] at h
              cases hc : cut c off i.size with
              | none => rw [hc] at h; cases h
              | some r =>
                rw [hc] at h; cases h
                obtain ⟨c1, c2, c3⟩ := cut_some hc
                obtain ⟨r', k1, k2⟩ := LR.pick (R := VRel ρ) (r := r) (f := fun j => w.cell? ⟨L.B, L.o + off + j, none⟩) fun j v hv => by
                  have hj : j < i.size := by have := (List.getElem?_eq_some_iff.1 hv).1; omega
                  rw [c1, List.getElem?_take_of_lt hj, List.getElem?_drop] at hv
                  obtain ⟨v', h1, h2⟩ := hcell _ _ hv
                  exact ⟨v', by rw [Nat.add_assoc]; exact h1, h2⟩
                have hlen : r'.length = i.size := by rw [← k1.length, c2]
                have hl : (loadVar t ⟨L.B, L.o + off, none⟩).run P w = .ok (.agg r'.toArray) w := by
                  have h3 := run_loadCells_list (P := P) w ⟨L.B, L.o + off, none⟩ r' (fun j v hv => by rw [addr_add]; exact k2 j v hv)
                  rw [hlen] at h3
                  simp [loadVar, run_agg hE w hi, hag, run_size hE w hi, h3]
                exact ⟨.agg r'.toArray, by simp [Instr.loadAt, Instr.sureAddr, hl], VRel.agg_of k1, _, rfl, hl⟩
            | false =>
              rw [hag, cond_false, nth_eq] at h
              obtain ⟨v', hv', hrel⟩ := hcell _ _ h
              have hl : (loadVar t ⟨L.B, L.o + off, none⟩).run P w = .ok v' w := by
                simp [loadVar, run_agg hE w hi, hag, hv']
              exact ⟨v', by simp [Instr.loadAt, Instr.sureAddr, hl], hrel, _, rfl, hl⟩
          · cases h
        · cases h
      · cases h
  · cases h

/-! ### writing -/
theorem single_one {ρ : Ren} {v v' : Value} (h : VRel ρ v v') (hs : single v = true) : v'.oneCell' = true := by
  cases h <;> first | rfl | (exact rawOK_one (by assumption)) | (simp [single] at hs; done)

theorem singles_one {ρ : Ren} {l r : List Value} (h : VsRel ρ l r) (hs : singles l = true) : ∀ v ∈ r, v.oneCell' = true := by
  induction h with
  | nil => intro v hv; simp at hv
  | cons hab _ ih =>
    simp [singles] at hs
    intro v hv
    rcases List.mem_cons.1 hv with rfl | hv
    · exact single_one hab hs.1
    · exact ih hs.2 v hv

theorem setCells_heap (B : Nat) : ∀ (vs : List Value) (o : Nat) (w : World) (c : Array Value) (el : TypeId) (fr : Nat × Nat), w.heap[B]? = some (.cells c el fr) →
    ∃ c', (w.setCells B o vs).heap[B]? = some (.cells c' el fr) ∧ c'.size = c.size ∧ (∀ j, c'[j]? = if o ≤ j ∧ j < o + vs.length ∧ j < c.size then vs[j - o]? else c[j]?) ∧
      (w.setCells B o vs).heap.size = w.heap.size ∧ (∀ B', B' ≠ B → (w.setCells B o vs).heap[B']? = w.heap[B']?) ∧
      (w.setCells B o vs).os = w.os ∧ (w.setCells B o vs).tape = w.tape ∧ (w.setCells B o vs).output = w.output
  | [], o, w, c, el, fr, h => ⟨c, h, rfl, fun j => by rw [if_neg (by simp; omega)], rfl, fun _ _ => rfl, rfl, rfl, rfl⟩
  | v :: vs, o, w, c, el, fr, h => by
    have hblk : (w.setCell ⟨B, o, none⟩ v).heap[B]? = some (.cells (c.setIfInBounds o v) el fr) := by
      simp only [World.setCell, Array.getElem?_modify, ↓reduceIte, h, Option.map_some]
      simp
    obtain ⟨c', h1, h2, h3, h4, h5, h6, h7, h8⟩ := setCells_heap B vs (o + 1) (w.setCell ⟨B, o, none⟩ v) (c.setIfInBounds o v) el fr hblk
    refine ⟨c', h1, by simpa using h2, ?_, by simpa [World.setCells] using h4, ?_, by simpa [World.setCells, World.setCell] using h6, by simpa [World.setCells, World.setCell] using h7, by simpa [World.setCells, World.setCell] using h8⟩
    · intro j
      rw [h3 j]
      simp only [Array.size_setIfInBounds, List.length_cons]
      by_cases e : j = o
      · subst e
        rw [if_neg (by omega)]
        by_cases hj : j < c.size
        · rw [if_pos (by omega)]; simp [hj]
        · rw [if_neg (by omega), Array.getElem?_eq_none (by simp; omega), Array.getElem?_eq_none (by omega)]
      · by_cases hin : o + 1 ≤ j ∧ j < o + 1 + vs.length ∧ j < c.size
        · rw [if_pos hin, if_pos (by omega)]
          have : j - o = (j - (o + 1)) + 1 := by omega
          rw [this]; simp
        · rw [if_neg hin, if_neg (by omega)]
          rw [Array.getElem?_setIfInBounds_ne (by omega)]
    · intro B' hB'
      have := h5 B' hB'
      rw [Go.RowKit.Below.heap_setCell w ⟨B, o, none⟩ v B' hB'] at this
      simpa [World.setCells] using this

/-- CELLS OF A ROW ARE WRITTEN, within what its block owns. -/
theorem store_row {ρ : Ren} {A : ASt} {w : World} (P : Program) (hR : Rep ρ A w) {b : Nat} {c c' : List Value} {sz : Nat} {tail : Bool} {L : Loc} (hb : A.get b = some (.row c sz tail)) (hL : ρ b = some L)
    {off : Nat} {vs vs' : List Value} (hv : VsRel ρ vs vs') (hs : singles vs = true) (ho : over c off vs = some c') :
    ∃ w', (storeCells ⟨L.B, L.o + off, none⟩ vs').run P w = .ok () w' ∧ Step ρ A w ρ (A.set b (.row c' sz tail)) w' := by
  obtain ⟨L', hL', hrow⟩ := hR.obj b _ hb
  rw [hL] at hL'; cases hL'
  obtain ⟨cells, el, lo, hi, e1, e2, e3, e4, e5, e6⟩ := hrow
  obtain ⟨hc', hlen⟩ := over_some ho
  have hvl := hv.length
  have hin : ∀ j, j < vs'.length → L.o + off + j < cells.size := fun j hj => by omega
  have hst := run_storeCells_cells (P := P) L.B (L.o + off) vs' 0 w
    (fun j hj => by simp [World.cell?, e1]; have := hin j hj; omega)
    (fun j hj => by
      simp only [World.frozen?, e1, Nat.add_zero]
      have := e6 (L.o + off + j) (by omega) (by simp only [AObj.hi]; split <;> omega)
      simpa using this)
    (singles_one hv hs)
  obtain ⟨cs, s1, s2, s3, s4, s5, s6, s7, s8⟩ := setCells_heap L.B vs' (L.o + off + 0) w cells el (lo, hi) e1
  refine ⟨_, hst, Step.set hR hb hL ?_ ?_ ⟨s6, s7, s8, s4⟩ s5 (.inr ⟨cells, cs, el, (lo, hi), e1, s1, s2, ?_⟩)⟩
  · have hcl : c'.length = c.length := by rw [hc']; simp; omega
    refine ⟨cs, el, lo, hi, s1, by omega, e3, by omega, fun j v hjv => ?_, fun j h1 h2 => e6 j h1 (by simpa only [AObj.hi, hcl] using h2)⟩
    rw [s3]
    have hj : j < c'.length := (List.getElem?_eq_some_iff.1 hjv).1
    by_cases hin' : off ≤ j ∧ j < off + vs.length
    · rw [if_pos (by omega)]
      have hvj : vs[j - off]? = some v := by
        rw [hc', List.getElem?_append_right (by simp; omega)] at hjv
        rw [List.getElem?_append_left (by simp; omega)] at hjv
        simpa [show min off c.length = off by omega] using hjv
      obtain ⟨v', hv', hrel⟩ := hv.get _ _ hvj
      exact ⟨v', by rw [show L.o + j - (L.o + off + 0) = j - off by omega]; exact hv', hrel⟩
    · rw [if_neg (by omega)]
      apply e5 j v
      rw [hc'] at hjv
      by_cases hlt : j < off
      · rw [List.getElem?_append_left (by simp; omega), List.getElem?_take_of_lt hlt] at hjv; exact hjv
      · rw [List.getElem?_append_right (by simp; omega), List.getElem?_append_right (by simp; omega), List.getElem?_drop] at hjv
        simp at hjv
        rwa [show off + vs.length + (j - min off c.length - vs.length) = j by omega] at hjv
  · have hcl : c'.length = c.length := by rw [hc']; simp; omega
    simp only [AObj.hi, hcl]; exact Nat.le_refl _
  · intro j hj
    rw [s3]
    rw [if_neg]
    intro hc
    apply hj
    refine ⟨by omega, ?_⟩
    simp only [AObj.hi]
    split <;> omega

theorem store_sound {E : Env} {P : Program} (hE : EnvOK E P) {ρ : Ren} {A A' : ASt} {w : World} (hR : Rep ρ A w) {t : TypeId} {a a' v v' : Value} (ha : VRel ρ a a') (hv : VRel ρ v v')
    (h : aStore E t a v A = some A') : ∃ w', (Instr.storeAt t a' v').run P w = .ok () w' ∧ Step ρ A w ρ A' w' := by
  unfold aStore at h
  split at h
  · rename_i b off
    cases ha with
    | @ptr _ _ L hb =>
      split at h
      · rename_i c sz tail i hg hi
        simp only [] at h
        cases hcnd : (Nat.beq v.cells.toList.length i.size && singles v.cells.toList) with
        | false => rw [hcnd] at h; cases h
        | true =>
          rw [hcnd, cond_true] at h
          rw [Bool.and_eq_true] at hcnd
          have hlen := Nat.eq_of_beq_eq_true hcnd.1
          have hvr := VsRel.cells hv
          split at h
          · rename_i c' hc'
            cases h
            obtain ⟨w', h1, h2⟩ := store_row P hR hg hb hvr hcnd.2 hc'
            refine ⟨w', ?_, h2⟩
            have hsz : v'.cells.size = i.size := by have := hvr.length; simp only [Array.length_toList] at this hlen; omega
            simp [Instr.storeAt, Instr.sureAddr, storeVar, run_size hE w hi, hsz, h1]
          · cases h
      · cases h
  · cases h

end Go.AE
