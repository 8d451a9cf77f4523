/- The evaluator: new blocks. -/
import Derived.Test.YthacgilphddekaaGreatDoorAeMem
namespace Go.AE
open Go

theorem heap_alloc_new (w : World) (o : Obj) : (w.alloc o).heap[w.heap.size]? = some o := by
  show (w.heap.push o)[w.heap.size]? = some o
  simp

/-- A new row: 'cs' is what is known of it, 'rest' lies behind. -/
theorem new_row {ρ : Ren} {A : ASt} {w : World} (hR : Rep ρ A w) (id : Nat) (hid : ρ id = none) {cs cs' rest : List Value} (hcs : VsRel ρ cs cs') (el : TypeId) (lo hi sz : Nat) (tail : Bool)
    (hfr : ∀ j, j < cs'.length + rest.length → ¬ (lo ≤ j ∧ j < hi)) :
    Step0 ρ A w (upd ρ id ⟨w.heap.size, 0, cs'.length + rest.length, sz, undef⟩) (A.newAt id (.row cs sz tail)) (w.alloc (.cells (cs' ++ rest).toArray el (lo, hi))) := by
  have hle : ρ.le (upd ρ id ⟨w.heap.size, 0, cs'.length + rest.length, sz, undef⟩) := upd_le hid
  have hl := hcs.length
  refine Step0.newAt hR id hid _ _ _ rfl ?_
  refine ⟨(cs' ++ rest).toArray, el, lo, hi, heap_alloc_new _ _, by simp, rfl, by simp; omega, fun i v hv => ?_, fun j _ hj => ?_⟩
  · obtain ⟨v', hv', hr⟩ := hcs.get i v hv
    have hi : i < cs'.length := (List.getElem?_eq_some_iff.1 hv').1
    refine ⟨v', ?_, hr.mono hle⟩
    simp [List.getElem?_append_left hi, hv']
  · apply hfr
    simp only [AObj.hi] at hj
    split at hj <;> omega

theorem new_row_whole {ρ : Ren} {A : ASt} {w : World} (hR : Rep ρ A w) (id : Nat) (hid : ρ id = none) {cs cs' : List Value} (hcs : VsRel ρ cs cs') (el : TypeId) (sz : Nat) :
    Step0 ρ A w (upd ρ id ⟨w.heap.size, 0, cs'.length, sz, undef⟩) (A.newAt id (.row cs sz false)) (w.alloc (.cells cs'.toArray el)) := by
  have := new_row hR id hid (rest := []) hcs el 0 0 sz false (fun j _ => by omega)
  simpa using this

theorem run_newRow {P : Program} (w : World) (el : TypeId) (c : Array Value) : (newRow el c).run P w = .ok ⟨w.heap.size, 0, none⟩ (w.alloc (.cells c el)) := by
  simp [newRow]

theorem cells_toList (v : Value) : v.cells.toList.toArray = v.cells := by simp

theorem ptr_new {ρ : Ren} {n B R sz : Nat} : VRel (upd ρ n ⟨B, 0, R, sz, undef⟩) (.pointer (some ⟨n, 0, none⟩)) (.pointer (some ⟨B, 0, none⟩)) := by
  have := VRel.ptr (ρ := upd ρ n ⟨B, 0, R, sz, undef⟩) (off := 0) (upd_same (ρ := ρ) (b := n) (L := ⟨B, 0, R, sz, undef⟩))
  simpa using this

/-- What a new block's operation comes to. -/
def FreshOK (P : Program) (ρ : Ren) (A : ASt) (w : World) (id : Nat) (s : Sem Value) (r : Fresh) : Prop :=
  ∃ v' w' L, s.run P w = .ok v' w' ∧ VRel (upd ρ id L) (r.2 id) v' ∧ Step0 ρ A w (upd ρ id L) (A.newAt id r.1) w'

theorem box_sound {E : Env} {P : Program} {ρ : Ren} {A : ASt} {w : World} (hR : Rep ρ A w) {id : Nat} (hid : ρ id = none) {t : TypeId} {v v' : Value} (hv : VRel ρ v v') {r : Fresh} (h : aBox E t v = some r) :
    FreshOK P ρ A w id (Instr.box t v') r := by
  unfold aBox at h
  split at h
  · rename_i i hi
    cases h
    have hs := new_row_whole hR id hid (VsRel.cells hv) t i.size
    refine ⟨_, _, _, ?_, ptr_new, hs⟩
    simp [Instr.box, newVar, run_newRow]
  · cases h

theorem alloc_sound {E : Env} {P : Program} (hE : EnvOK E P) {ρ : Ren} {A : ASt} {w : World} (hR : Rep ρ A w) {id : Nat} (hid : ρ id = none) {t : TypeId} {r : Fresh}
    (h : aAlloc E t = some r) : FreshOK P ρ A w id (Instr.alloc t true (.tuple #[])) r := by
  unfold aAlloc at h
  split at h
  · rename_i i hi
    split at h
    · rename_i z hz
      cases hc : closed z with
      | false => rw [hc] at h; cases h
      | true =>
        rw [hc, cond_true] at h
        cases h
        have hs := new_row_whole hR id hid (VsRel.cells_closed (ρ := ρ) hc) t i.size
        refine ⟨_, _, _, ?_, ptr_new, hs⟩
        simp [Instr.alloc, run_zero hE w hi hz, newVar, run_newRow]
    · cases h
  · cases h

/-! ### building -/
theorem places_sound {E : Env} {P : Program} (hE : EnvOK E P) (w : World) : ∀ (l : List Field) (ps : List (Nat × Nat)), places E l = some ps →
    (l.mapM (m := Sem) fun f => do pure (f.offset, ← sizeOf f.type)).run P w = .ok ps w
  | [], ps, h => by simp [places] at h; subst h; simp
  | f :: l, ps, h => by
    unfold places at h
    split at h
    · rename_i i hi
      split at h
      · rename_i r hr
        cases h
        have ih := places_sound hE w l r hr
        rw [List.mapM_cons]
        simp only [Sem.run_bind, run_size hE w hi, Result.andThen_ok, Sem.run_pure, ih]
      · cases h
    · cases h

theorem foldl_set (cells : Array Value) (off : Nat) (vs : List Value) : ∀ (k : Nat), off + k + vs.length ≤ cells.size →
    (((vs.zipIdx k).foldl (fun cs (c, j) => cs.setIfInBounds (off + j) c) cells).toList = cells.toList.take (off + k) ++ (vs ++ cells.toList.drop (off + k + vs.length))) := by
  induction vs generalizing cells with
  | nil => intro k _; simp
  | cons v vs ih =>
    intro k hk
    simp only [List.length_cons] at hk
    simp only [List.zipIdx_cons, List.foldl_cons]
    rw [ih (cells.setIfInBounds (off + k) v) (k + 1) (by simp; omega)]
    simp only [Array.toList_setIfInBounds, List.length_cons]
    rw [List.take_set, List.drop_set]
    rw [if_pos (by omega)]
    have h1 : (cells.toList.take (off + (k + 1))).set (off + k) v = cells.toList.take (off + k) ++ [v] := by
      apply List.ext_getElem?
      intro j
      rw [List.getElem?_set]
      by_cases e : off + k = j
      · subst e
        rw [if_pos rfl, List.getElem?_append_right (by simp; omega)]
        rw [if_pos (by simp; omega)]
        simp [show min (off + k) cells.size = off + k by omega]
      · rw [if_neg e]
        by_cases hlt : j < off + k
        · rw [List.getElem?_append_left (by simp; omega)]
          simp [hlt, show j < off + (k + 1) by omega]
        · rw [List.getElem?_eq_none (by simp; omega), List.getElem?_eq_none (by simp; omega)]
    rw [h1]
    simp [show off + (k + 1) + vs.length = off + k + (vs.length + 1) by omega]

theorem fill_sound {ρ : Ren} (place : Nat → Option (Nat × Nat)) : ∀ (parts parts' : List (Nat × Value)) (cells : List Value) (cells' : Array Value) (r : List Value),
    LR (fun a b => b.1 = a.1 ∧ VRel ρ a.2 b.2) parts parts' → VsRel ρ cells cells'.toList → fillV place cells parts = some r →
    ∃ r', Instr.fill place cells' parts' = some r' ∧ VsRel ρ r r'.toList
  | [], parts', cells, cells', r, hp, hc, h => by
    cases hp
    simp [fillV] at h; subst h
    exact ⟨cells', rfl, hc⟩
  | (i, v) :: parts, parts', cells, cells', r, hp, hc, h => by
    cases hp with
    | @cons _ p' _ parts' hpp hp =>
      obtain ⟨i', v'⟩ := p'
      obtain ⟨rfl, hv⟩ := hpp
      simp only [fillV] at h
      simp only [Instr.fill]
      cases hpl : place i' with
      | none => rw [hpl] at h; cases h
      | some os =>
        obtain ⟨off, size⟩ := os
        rw [hpl] at h
        simp only [] at h ⊢
        cases hb : Nat.beq v.cells.toList.length size with
        | false => rw [hb] at h; cases h
        | true =>
          rw [hb, cond_true] at h
          have hlen := Nat.eq_of_beq_eq_true hb
          split at h
          · rename_i c hcc
            obtain ⟨h1, h2⟩ := over_some hcc
            have hvr := VsRel.cells hv
            have hvl := hvr.length
            have hcl := hc.length
            simp only [Array.length_toList] at hlen hvl hcl h2
            rw [if_neg (by simp; omega)]
            have hfs := foldl_set cells' off v'.cells.toList 0 (by simp; omega)
            have hfold : (v'.cells.zipIdx.foldl (fun cs (c, j) => cs.setIfInBounds (off + j) c) cells') = ((v'.cells.toList.zipIdx 0).foldl (fun cs (c, j) => cs.setIfInBounds (off + j) c) cells') := by
              rw [← Array.foldl_toList, Array.toList_zipIdx]
            refine fill_sound place parts parts' c _ r hp ?_ h
            rw [hfold, hfs, h1]
            have e : v.cells.toList.length = v'.cells.toList.length := hvr.length
            rw [e]
            exact (hc.take off).append (hvr.append (hc.drop _))
          · cases h

theorem build_sound {E : Env} {P : Program} (hE : EnvOK E P) {ρ : Ren} {t : TypeId} {parts : List (Nat × Value)} {parts' : Array (Nat × Value)} {v : Value}
    (hp : LR (fun a b => b.1 = a.1 ∧ VRel ρ a.2 b.2) parts parts'.toList) (h : aBuild E t parts = some v) (w : World) :
    ∃ v', (Instr.build t parts').run P w = .ok v' w ∧ VRel ρ v v' := by
  unfold aBuild at h
  split at h
  · rename_i i hi
    split at h
    · rename_i z hz
      cases hc : closed z with
      | false => rw [hc] at h; cases h
      | true =>
        rw [hc, cond_true] at h
        have hzr : VsRel ρ z.cells.toList z.cells.toList := VsRel.cells_closed hc
        split at h
        · rename_i fields hd
          split at h
          · rename_i ps hps
            split at h
            · rename_i cs hcs
              cases h
              have hm := places_sound hE w fields.toList ps hps
              obtain ⟨r', h1, h2⟩ := fill_sound (ρ := ρ) (nth ps) parts parts'.toList z.cells.toList z.cells cs hp hzr hcs
              have hmA : (fields.mapM (m := Sem) fun f => do pure (f.offset, ← sizeOf f.type)).run P w = .ok ps.toArray w := by
                rw [Array.mapM_eq_mapM_toList]
                simp only [Sem.run_map, hm, Result.andThen_ok]
              have hpl : (fun x => ps.toArray[x]?) = nth ps := by funext k; rw [nth_eq]; simp
              refine ⟨.agg r', ?_, by simpa using VRel.agg_of h2⟩
              simp only [Instr.build, Sem.run_bind, run_zero hE w hi hz, Result.andThen_ok, run_und hE w hi, hd, hmA, hpl, h1, Sem.run_pure]
            · cases h
          · cases h
        · rename_i n elem hd
          split at h
          · rename_i j hj
            split at h
            · rename_i cs hcs
              cases h
              obtain ⟨r', h1, h2⟩ := fill_sound (ρ := ρ) (fun k => some (k * j.size, j.size)) parts parts'.toList z.cells.toList z.cells cs hp hzr hcs
              refine ⟨.agg r', ?_, by simpa using VRel.agg_of h2⟩
              simp only [Instr.build, Sem.run_bind, run_zero hE w hi hz, Result.andThen_ok, run_und hE w hi, hd, run_size hE w hj, h1, Sem.run_pure]
            · cases h
          · cases h
        · cases h
    · cases h
  · cases h

theorem reps_length {α : Type} (l : List α) : ∀ n, (reps l n).length = n * l.length
  | 0 => by simp [reps]
  | n + 1 => by simp [reps, reps_length l n, Nat.add_mul]; omega

theorem reps_get {α : Type} (l : List α) : ∀ (n k : Nat), k < n * l.length → (reps l n)[k]? = l[k % l.length]?
  | 0, k, h => by simp at h
  | n + 1, k, h => by
    simp only [reps]
    have hn : (n + 1) * l.length = n * l.length + l.length := by simp [Nat.add_mul]
    rw [hn] at h
    by_cases hk : k < l.length
    · rw [List.getElem?_append_left hk, Nat.mod_eq_of_lt hk]
    · rw [List.getElem?_append_right (by omega), reps_get l n (k - l.length) (by omega)]
      rw [Nat.mod_eq_sub_mod (a := k) (by omega)]

theorem reps_range (z : Array Value) (len size : Nat) (h : z.size = size) : ((Array.range (len * size)).map (z[· % z.size]!)) = (reps z.toList len).toArray := by
  apply Array.ext'
  apply List.ext_getElem?
  intro k
  subst h
  by_cases hk : k < len * z.size
  · simp only [Array.toList_map, Array.toList_range, List.getElem?_map]
    rw [List.getElem?_range hk, reps_get _ _ _ (by simpa using hk)]
    have hpos : 0 < z.size := by
      rcases Nat.eq_zero_or_pos z.size with e | e
      · rw [e] at hk; simp at hk
      · exact e
    have hlt : k % z.size < z.size := Nat.mod_lt _ hpos
    simp [hlt]
  · have hk' : len * z.size ≤ k := Nat.le_of_not_lt hk
    rw [List.getElem?_eq_none (by simpa using hk'), List.getElem?_eq_none (by simpa [reps_length] using hk')]

theorem reps_rel {ρ : Ren} {l r : List Value} (h : VsRel ρ l r) : ∀ n, VsRel ρ (reps l n) (reps r n)
  | 0 => .nil
  | n + 1 => h.append (reps_rel h n)

theorem slice_new {ρ : Ren} {n B R sz len cap : Nat} (h : cap ≠ unk) : VRel (upd ρ n ⟨B, 0, R, sz, undef⟩) (.slice (some ⟨n, 0, none⟩) len cap) (.slice (some ⟨B, 0, none⟩) len cap) := by
  have := VRel.slice (ρ := upd ρ n ⟨B, 0, R, sz, undef⟩) (off := 0) len (upd_same (ρ := ρ) (b := n) (L := ⟨B, 0, R, sz, undef⟩)) h
  simpa using this

theorem buildSlice_sound {E : Env} {P : Program} (hE : EnvOK E P) {ρ : Ren} {A : ASt} {w : World} (hR : Rep ρ A w) {id : Nat} (hid : ρ id = none) {t : TypeId} {len : Nat} {parts : List (Nat × Value)} {parts' : Array (Nat × Value)} {r : Fresh}
    (hp : LR (fun a b => b.1 = a.1 ∧ VRel ρ a.2 b.2) parts parts'.toList) (h : aBuildSlice E t len parts = some r) :
    FreshOK P ρ A w id (Instr.buildSlice t len parts') r := by
  unfold aBuildSlice at h
  split at h
  · rename_i i hi
    split at h
    · rename_i elem hd
      split at h
      · rename_i j hj
        split at h
        · rename_i z hz
          cases hc : (closed z && (Nat.beq z.cells.toList.length j.size && (Nat.ble (len * j.size) 16777216 && Nat.blt len 1000000000))) with
          | false => rw [hc] at h; cases h
          | true =>
            rw [hc, cond_true] at h
            simp only [Bool.and_eq_true] at hc
            obtain ⟨hcl, hsz, hbig, hlb⟩ := hc
            have hlen : len ≠ unk := by have : len < 1000000000 := Nat.le_of_ble_eq_true hlb; unfold unk; omega
            have hsz := Nat.eq_of_beq_eq_true hsz
            have hbig := Nat.le_of_ble_eq_true hbig
            split at h
            · rename_i cs hcs
              cases h
              have hzr : VsRel ρ (reps z.cells.toList len) (reps z.cells.toList len) := reps_rel (VsRel.cells_closed hcl) len
              obtain ⟨r', h1, h2⟩ := fill_sound (ρ := ρ) (fun k => some (k * j.size, j.size)) parts parts'.toList _ (reps z.cells.toList len).toArray cs hp (by simpa using hzr) hcs
              have hs := new_row_whole hR id hid h2 elem j.size
              refine ⟨_, _, _, ?_, slice_new (ρ := ρ) (n := id) hlen, hs⟩
              simp only [Instr.buildSlice, Sem.run_bind, run_und hE w hi, hd, Result.andThen_ok, run_size hE w hj]
              rw [if_neg (by omega)]
              by_cases e : len * j.size = 0
              · have e0 : reps z.cells.toList len = [] := by
                  apply List.eq_nil_of_length_eq_zero
                  rw [reps_length]; simp only [Array.length_toList] at hsz; simp; rw [hsz]; exact e
                rw [e0] at h1
                rw [if_pos e]
                have hr0 : Array.range 0 = #[] := rfl
                simp only [Sem.run_bind, Sem.run_pure, Result.andThen_ok, e, hr0]
                simp [h1, run_newRow]
              · rw [if_neg e]
                have hcells := reps_range z.cells len j.size (by simpa using hsz)
                simp only [Sem.run_bind, Sem.run_pure, Result.andThen_ok, run_zero hE w hj hz, hcells, h1, run_newRow]
            · cases h
        · cases h
      · cases h
    · cases h
  · cases h

end Go.AE
