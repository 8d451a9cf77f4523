/- The evaluator: append's soundness; copy, len, cap, min, max. -/
import Derived.Test.YthacgilphddekaaGreatDoorAeApp
namespace Go.AE
open Go

theorem Rep.drew' {ρ : Ren} {A : ASt} {w : World} (h : Rep ρ A w) : Rep ρ A { w with drawn := w.drawn + 1 } := h.of_heap rfl

/-- A grown row: what was there, what comes behind, and whatever lies behind that. -/
theorem grown_step {ρ : Ren} {A : ASt} {w : World} (hR : Rep ρ A w) {old old' new new' : List Value} (ho : VsRel ρ old old') (hn : VsRel ρ new new') (e : TypeId) (z : List Value) (sz len n cap : Nat)
    (hz : z.length = sz) (hol : old.length = len * sz) (hnl : new.length = n * sz) (hcap : len + n ≤ cap) :
    ∃ ρ', Step ρ A w ρ' (A.new (.row (old ++ new) sz true)) (w.alloc (.cells (old' ++ new' ++ reps z (cap - (len + n))).toArray e)) ∧
      VRel ρ' (.slice (some ⟨A.next, 0, none⟩) (len + n) unk) (.slice (some ⟨w.heap.size, 0, none⟩) (len + n) cap) := by
  have hs := (new_row hR A.next (hR.fresh _ (Nat.le_refl _)) (rest := reps z (cap - (len + n))) (ho.append hn) e 0 0 sz true (fun j _ => by omega)).atNext
  refine ⟨_, hs, ?_⟩
  have hol' := ho.length
  have hnl' := hn.length
  have hlen : (old' ++ new').length + (reps z (cap - (len + n))).length = cap * sz := by
    rw [List.length_append, reps_length, hz, ← hol', ← hnl', hol, hnl]
    have : cap * sz = (len + n + (cap - (len + n))) * sz := by congr 1; omega
    rw [this]
    simp only [Nat.add_mul]
  have := VRel.sliceU (ρ := upd ρ A.next ⟨w.heap.size, 0, (old' ++ new').length + (reps z (cap - (len + n))).length, sz, undef⟩) (off := 0) (len + n) (u := unk) (cap := cap) upd_same rfl (by
    show 0 + 0 + cap * sz = (old' ++ new').length + (reps z (cap - (len + n))).length
    rw [hlen]; omega)
  exact this

theorem alloc_cells (w : World) (a b c : List Value) (e : TypeId) : w.alloc (.cells (a.toArray ++ b.toArray ++ c.toArray) e) = w.alloc (.cells (a ++ b ++ c).toArray e) := by
  congr 2; simp

theorem append_sound {E : Env} {P : Program} (hE : EnvOK E P) {ρ : Ren} {A A' : ASt} {w : World} (hR : Rep ρ A w) {t xt : TypeId} {ts : Array TypeId} {ty : TypeId} {s s' x x' v : Value}
    (h0 : ts[0]? = some t) (h1 : ts[1]? = some xt) (h : aAppend E t xt s x A = .val v A') (hs : VRel ρ s s') (hx : VRel ρ x x') :
    ∃ v' w' ρ', (Builtin.append_ ts ty #[s', x']).run P w = .ok v' w' ∧ VRel ρ' v v' ∧ Step ρ A w ρ' A' w' := by
  unfold aAppend at h
  split at h
  · rename_i i xi hi hxi
    split at h
    · rename_i e hd
      split at h
      · rename_i j base len cap n hj hln
        split at h
        · rename_i z new hz hsrc
          cases hc : (!isIntD xi.desc && (Nat.blt 0 j.size && (Nat.blt ((len + n) * (j.bytes + 1)) 1000000000 && (Nat.beq new.length (n * j.size) && (singles new && (closed z && Nat.beq z.cells.toList.length j.size)))))) with
          | false => rw [hc] at h; cases h
          | true =>
            rw [hc, cond_true] at h
            simp only [Bool.and_eq_true, Bool.not_eq_true'] at hc
            obtain ⟨c1, c2, c3, c4, c5, c6, c7⟩ := hc
            have c2 : 0 < j.size := Nat.le_of_ble_eq_true c2
            have c3 : (len + n) * (j.bytes + 1) < 1000000000 := Nat.le_of_ble_eq_true c3
            have c4 := Nat.eq_of_beq_eq_true c4
            have c7 := Nat.eq_of_beq_eq_true c7
            have hlen' := fun w => lenV_sound (P := P) hln hx w
            obtain ⟨new', hnew, hnrun⟩ := src_sound (P := P) hR hsrc hx
            have hnl := hnew.length
            -- in the world behind the draw the source reads alike
            have hnrun2 : ∃ new2, VsRel ρ new new2 ∧ (Builtin.firstCells j.size n x').run P { w with drawn := w.drawn + 1 } = .ok new2.toArray { w with drawn := w.drawn + 1 } := src_sound (P := P) hR.drew' hsrc hx
            unfold appendTo at h
            split at h
            · -- nil
              cases hcc : (Nat.beq cap 0 && Nat.beq len 0) with
              | false => rw [hcc] at h; cases h
              | true =>
                rw [hcc, cond_true] at h
                rw [Bool.and_eq_true] at hcc
                have e1 := Nat.eq_of_beq_eq_true hcc.1; have e2 := Nat.eq_of_beq_eq_true hcc.2
                subst e1 e2
                cases hs
                have hrun := run_append hE (ty := ty) (base := none) (len := 0) (cap := 0) h0 h1 hi hxi hj hd c1 (hlen' w) hnrun hz c3
                cases hn0 : Nat.beq n 0 with
                | true =>
                  have := Nat.eq_of_beq_eq_true hn0
                  subst this
                  rw [hn0, cond_true] at h; cases h
                  refine ⟨.slice none 0 0, w, ρ, ?_, .nilSlice 0 0, .refl hR⟩
                  rw [hrun, if_pos (by omega)]
                  rfl
                | false =>
                  have hn0' := Nat.ne_of_beq_eq_false hn0
                  rw [hn0, cond_false] at h
                  rw [grown_eq] at h; cases h
                  obtain ⟨new2, hnew2, hnrun2⟩ := hnrun2
                  obtain ⟨ρ', g1, g2⟩ := grown_step hR.drew' (old := []) (old' := []) .nil hnew2 e z.cells.toList j.size 0 n (0 + n + (w.tape w.drawn (.appendCap (0 + n) 0 e)) % (2 ^ 63 - (0 + n))) c7 (by simp) c4 (by omega)
                  refine ⟨.slice (some ⟨w.heap.size, 0, none⟩) (0 + n) (0 + n + (w.tape w.drawn (.appendCap (0 + n) 0 e)) % (2 ^ 63 - (0 + n))), _, ρ', ?_, ?_, (Step.drew hR).trans g1⟩
                  · rw [hrun, if_neg (by omega)]
                    have hfc : (Builtin.firstCells j.size 0 (.slice none 0 0)).run P { w with drawn := w.drawn + 1 } = .ok #[] { w with drawn := w.drawn + 1 } := rfl
                    rw [hfc]
                    simp only [Result.andThen_ok, hnrun2]
                    rw [show (#[] : Array Value) = ([] : List Value).toArray from rfl, alloc_cells]
                  · rw [Nat.zero_add] at g2; rw [Nat.zero_add]; exact g2
            · rename_i b off
              split at h
              · rename_i c q tail hg
                cases hcc : (Nat.beq q j.size && Nat.ble (off + len * j.size) c.length) with
                | false => rw [hcc] at h; cases h
                | true =>
                  rw [hcc, cond_true] at h
                  rw [Bool.and_eq_true] at hcc
                  have hq := Nat.eq_of_beq_eq_true hcc.1
                  have hlc := Nat.le_of_ble_eq_true hcc.2
                  subst hq
                  -- in place
                  have inplace : ∀ L cap' c', ρ b = some L → len + n ≤ cap' → over c (off + len * j.size) new = some c' →
                      ∃ w', (Builtin.append_ ts ty #[.slice (some ⟨L.B, L.o + off, none⟩) len cap', x']).run P w = .ok (.slice (some ⟨L.B, L.o + off, none⟩) (len + n) cap') w' ∧ Step ρ A w ρ (A.set b (.row c' j.size tail)) w' := by
                    intro L cap' c' hb hfit hov
                    have hrun := run_append hE (ty := ty) (base := some ⟨L.B, L.o + off, none⟩) (len := len) (cap := cap') h0 h1 hi hxi hj hd c1 (hlen' w) hnrun hz c3
                    obtain ⟨w', s1, s2⟩ := store_row P hR hg hb hnew c5 hov
                    refine ⟨w', ?_, s2⟩
                    rw [hrun, if_pos hfit]
                    simp only [addr_add]
                    rw [Nat.add_assoc, s1]
                    rfl
                  -- a new row
                  have renew : ∀ L cap', ρ b = some L → ¬ len + n ≤ cap' → ∀ (A0 : ASt), (∀ w0, Rep ρ A w0 → Step ρ A w0 ρ A0 w0) → A0.next = A.next →
                      ∃ v' w' ρ', (Builtin.append_ ts ty #[.slice (some ⟨L.B, L.o + off, none⟩) len cap', x']).run P w = .ok v' w' ∧ VRel ρ' (.slice (some ⟨A.next, 0, none⟩) (len + n) unk) v' ∧
                        Step ρ A w ρ' (A0.new (.row ((c.drop off).take (len * j.size) ++ new) j.size true)) w' := by
                    intro L cap' hb hfit A0 hA0 hnx
                    have hrun := run_append hE (ty := ty) (base := some ⟨L.B, L.o + off, none⟩) (len := len) (cap := cap') h0 h1 hi hxi hj hd c1 (hlen' w) hnrun hz c3
                    obtain ⟨new2, hnew2, hnrun2⟩ := hnrun2
                    have hcut : cut c off (len * j.size) = some ((c.drop off).take (len * j.size)) := by
                      unfold cut
                      simp only []
                      have : ((c.drop off).take (len * j.size)).length = len * j.size := by simp; omega
                      rw [this]
                      have hbt : Nat.beq (len * j.size) (len * j.size) = true := Nat.beq_refl _
                      rw [hbt]; rfl
                    obtain ⟨L', hL', ho⟩ := hR.drew'.obj b _ hg
                    rw [hb] at hL'; cases hL'
                    obtain ⟨old', o1, o2, o3⟩ := loadCells_row P ho hcut
                    have hst := (Step.drew hR).trans (hA0 _ hR.drew')
                    obtain ⟨ρ', g1, g2⟩ := grown_step hst.rep o2 hnew2 e z.cells.toList j.size len n (len + n + (w.tape w.drawn (.appendCap (len + n) cap' e)) % (2 ^ 63 - (len + n))) c7 (by rw [o2.length, o1]) c4 (by omega)
                    refine ⟨_, _, ρ', ?_, by rw [← hnx]; exact g2, hst.trans g1⟩
                    rw [hrun, if_neg hfit]
                    have hfc : (Builtin.firstCells j.size len (.slice (some ⟨L.B, L.o + off, none⟩) len cap')).run P { w with drawn := w.drawn + 1 } = .ok old'.toArray { w with drawn := w.drawn + 1 } := o3
                    rw [hfc]
                    simp only [Result.andThen_ok, hnrun2, alloc_cells]
                  cases hu : Nat.beq cap unk with
                  | true =>
                    rw [hu, cond_true] at h
                    have hcu := Nat.eq_of_beq_eq_true hu
                    subst hcu
                    cases hs with
                    | slice _ hb hcap => exact absurd rfl hcap
                    | @sliceU _ _ L _ _ cap' hb _ hRc =>
                      obtain ⟨L', hL', ho⟩ := hR.obj b _ hg
                      rw [hb] at hL'; cases hL'
                      obtain ⟨cells, el, lo, hi', r1, r2, r3, r4, r5, r6⟩ := ho
                      have hRc' := hRc
                      rw [r3] at hRc'
                      cases hf : Nat.ble (off + (len + n) * j.size) c.length with
                      | true =>
                        rw [hf, cond_true] at h
                        have hf' := Nat.le_of_ble_eq_true hf
                        split at h
                        · rename_i c' hov
                          cases h
                          obtain ⟨w', s1, s2⟩ := inplace L cap' c' hb (add_mul_le r4 hRc' c2 (by omega)) hov
                          exact ⟨_, w', ρ, s1, .sliceU _ hb rfl hRc, s2⟩
                        · cases h
                      | false =>
                        rw [hf, cond_false] at h
                        cases ht : (tail && Nat.beq (off + len * j.size) c.length) with
                        | false => rw [ht] at h; cases h
                        | true =>
                          rw [ht, cond_true] at h
                          rw [Bool.and_eq_true] at ht
                          have htail := ht.1
                          have hend := Nat.eq_of_beq_eq_true ht.2
                          subst htail
                          rw [grown_eq] at h; cases h
                          have htk : (c.drop off).take (len * j.size) = c.drop off := List.take_of_length_le (by simp; omega)
                          by_cases hfit : len + n ≤ cap'
                          · -- it fits: written behind what is known, then parted
                            have hfitR : L.o + c.length + new.length ≤ L.R := by
                              have : (len + n) * j.size ≤ cap' * j.size := Nat.mul_le_mul_right _ hfit
                              rw [Nat.add_mul] at this
                              rw [c4]; omega
                            have hrun := run_append hE (ty := ty) (base := some ⟨L.B, L.o + off, none⟩) (len := len) (cap := cap') h0 h1 hi hxi hj hd c1 (hlen' w) hnrun hz c3
                            obtain ⟨w', s1, s2⟩ := store_tail P hR hg hb hnew c5 hfitR
                            have hpart := Step.part s2.rep (b := b) (c := c ++ new) (sz := j.size) (tail := true) (L := L) (by rw [ASt.get_set, if_pos rfl]) hb (n := off) (by simp; omega)
                            have hlt := hR.get_lt hg
                            refine ⟨.slice (some ⟨L.B, L.o + off, none⟩) (len + n) cap', w', _, ?_, ?_, (s2.trans hpart).congr ?_ ?_⟩
                            · rw [hrun, if_pos hfit]
                              simp only [addr_add]
                              rw [Nat.add_assoc, hend, s1]
                              rfl
                            · have := VRel.sliceU (ρ := upd ρ A.next ⟨L.B, L.o + off, L.R, j.size, undef⟩) (off := 0) (len + n) (u := unk) (cap := cap') upd_same rfl (by
                                show L.o + off + 0 + cap' * j.size = L.R
                                omega)
                              exact this
                            · intro d
                              simp only [ASt.get_new, ASt.get_set, ASt.next_set]
                              by_cases e1 : d = A.next
                              · rw [if_pos e1, if_pos e1, List.drop_append_of_le_length (by omega)]
                              · rw [if_neg e1, if_neg e1]
                                by_cases e2 : d = b
                                · rw [if_pos e2, if_pos e2, List.take_append_of_le_length (by omega)]
                                · rw [if_neg e2, if_neg e2, if_neg e2]
                            · rfl
                          · have := renew L cap' hb hfit (A.set b (.row (c.take off) j.size false)) (fun w0 h0 => Step.shrink h0 hg hb off) rfl
                            rw [htk] at this
                            exact this
                  | false =>
                    rw [hu, cond_false] at h
                    have hcu := Nat.ne_of_beq_eq_false hu
                    cases hs with
                    | sliceU _ hb hu' _ => exact absurd hu' hcu
                    | @slice _ _ L _ _ hb hcap =>
                      cases hf : Nat.ble (len + n) cap with
                      | true =>
                        rw [hf, cond_true] at h
                        have hf' := Nat.le_of_ble_eq_true hf
                        split at h
                        · rename_i c' hov
                          cases h
                          obtain ⟨w', s1, s2⟩ := inplace L cap c' hb hf' hov
                          exact ⟨_, w', ρ, s1, .slice _ hb hcap, s2⟩
                        · cases h
                      | false =>
                        rw [hf, cond_false] at h
                        rw [grown_eq] at h; cases h
                        have hf' : ¬ len + n ≤ cap := fun hle => by
                          have := Nat.ble_eq_true_of_le hle
                          rw [this] at hf; cases hf
                        exact renew L cap hb hf' A (fun w0 h0 => .refl h0) rfl
              · cases h
            · cases h
        · cases h
      · cases h
    · cases h
  · cases h

theorem len_sound {E : Env} {P : Program} (hE : EnvOK E P) {ρ : Ren} {A : ASt} {w : World} (hR : Rep ρ A w) {t : TypeId} {ts : Array TypeId} {ty : TypeId} {x x' v : Value}
    (h0 : ts[0]? = some t) (h : aLen E t x A = some v) (hx : VRel ρ x x') :
    (Builtin.len_ ts ty #[x']).run P w = .ok v w ∧ VRel ρ v v := by
  unfold aLen at h
  split at h
  · cases h
  · rename_i i hi
    split at h
    · rename_i s hd
      cases h; cases hx
      refine ⟨?_, .int _ _⟩
      simp only [Builtin.len_, h0, List.getElem?_toArray, List.getElem?_cons_zero, Sem.run_bind, run_und hE w hi, hd, Result.andThen_ok]
      rfl
    · rename_i n e hd
      cases h
      refine ⟨?_, .int _ _⟩
      simp only [Builtin.len_, h0, List.getElem?_toArray, List.getElem?_cons_zero, Sem.run_bind, run_und hE w hi, hd, Result.andThen_ok]
      rfl
    · rename_i arr hd
      split at h
      · rename_i j hj
        split at h
        · rename_i n e hdd
          cases h
          refine ⟨?_, .int _ _⟩
          simp only [Builtin.len_, h0, List.getElem?_toArray, List.getElem?_cons_zero, Sem.run_bind, run_und hE w hi, hd, Result.andThen_ok, run_und hE w hj, hdd]
          rfl
        · cases h
      · cases h
    · rename_i e a n c hd
      cases h
      refine ⟨?_, .int _ _⟩
      cases hx <;>
      · simp only [Builtin.len_, h0, List.getElem?_toArray, List.getElem?_cons_zero, Sem.run_bind, run_und hE w hi, hd, Result.andThen_ok]
        rfl
    · rename_i k e hd
      cases h; cases hx
      refine ⟨?_, .int _ _⟩
      simp only [Builtin.len_, h0, List.getElem?_toArray, List.getElem?_cons_zero, Sem.run_bind, run_und hE w hi, hd, Result.andThen_ok]
      rfl
    · rename_i k e r hd
      cases hx with
      | @map _ L hL =>
        split at h
        · rename_i es clock hg
          cases h
          obtain ⟨es', g1, g2, g3, g4⟩ := map_get P hR hg hL
          refine ⟨?_, .int _ _⟩
          have hl := g2.length
          simp only [Builtin.len_, h0, List.getElem?_toArray, List.getElem?_cons_zero, Sem.run_bind, run_und hE w hi, hd, Result.andThen_ok, g4]
          rw [hl]; rfl
        · cases h
    · cases h

theorem cap_sound {E : Env} {P : Program} (hE : EnvOK E P) {ρ : Ren} {w : World} {t : TypeId} {ts : Array TypeId} {ty : TypeId} {x x' v : Value}
    (h0 : ts[0]? = some t) (h : aCap E t x = some v) (hx : VRel ρ x x') :
    (Builtin.cap_ ts ty #[x']).run P w = .ok v w ∧ VRel ρ v v := by
  unfold aCap at h
  split at h
  · cases h
  · rename_i i hi
    split at h
    · rename_i n e hd
      cases h
      refine ⟨?_, .int _ _⟩
      simp only [Builtin.cap_, h0, List.getElem?_toArray, List.getElem?_cons_zero, Sem.run_bind, run_und hE w hi, hd, Result.andThen_ok]
      rfl
    · rename_i e a n c hd
      cases hc : Nat.beq c unk with
      | true => rw [hc] at h; cases h
      | false =>
        rw [hc, cond_false] at h; cases h
        have hne := Nat.ne_of_beq_eq_false hc
        refine ⟨?_, .int _ _⟩
        cases hx with
        | sliceU _ hb hu _ => exact absurd hu hne
        | sliceZ _ _ => exact absurd rfl hne
        | _ =>
          simp only [Builtin.cap_, h0, List.getElem?_toArray, List.getElem?_cons_zero, Sem.run_bind, run_und hE w hi, hd, Result.andThen_ok]
          rfl
    · cases h

theorem copy_sound {E : Env} {P : Program} (hE : EnvOK E P) {ρ : Ren} {A A' : ASt} {w : World} (hR : Rep ρ A w) {t : TypeId} {ts : Array TypeId} {ty : TypeId} {d d' s s' v : Value}
    (h0 : ts[0]? = some t) (h : aCopy E t d s A = .val v A') (hd : VRel ρ d d') (hs : VRel ρ s s') :
    ∃ v' w', (Builtin.copy_ ts ty #[d', s']).run P w = .ok v' w' ∧ VRel ρ v v' ∧ Step ρ A w ρ A' w' := by
  unfold aCopy at h
  split at h
  · cases h
  · rename_i i hi
    split at h
    · rename_i e hdd
      split at h
      · rename_i j base dl dc sl hj hsl
        have hlen := lenV_sound (P := P) hsl hs w
        simp only [] at h
        split at h
        · cases h
        · rename_i cs hcs
          obtain ⟨cs', hrel, hrun⟩ := src_sound (P := P) hR hcs hs
          have start : ∀ b c, (Builtin.copy_ ts ty #[.slice b dl c, s']).run P w = ((match b with | some a => storeCells a cs' | none => pure () : Sem Unit).run P w).andThen fun _ w' => .ok (goInt (Nat.min sl dl)) w' := by
            intro b c
            simp only [Builtin.copy_, h0, List.getElem?_toArray, List.getElem?_cons_zero, List.getElem?_cons_succ, Sem.run_bind, run_und hE w hi, hdd, Result.andThen_ok, hlen, run_size hE w hj, hrun]
            cases b with
            | none => rfl
            | some a => simp only [Sem.run_bind, Sem.run_pure]
          split at h
          · cases hn : Nat.beq (Nat.min sl dl) 0 with
            | false => rw [hn] at h; cases h
            | true =>
              rw [hn, cond_true] at h; cases h
              have hn0 := Nat.eq_of_beq_eq_true hn
              cases hd
              refine ⟨goInt (Nat.min sl dl), w, ?_, by rw [hn0]; exact .int _ _, .refl hR⟩
              rw [start]; rfl
          · rename_i b off
            split at h
            · rename_i c q tail hg
              split at h
              · rename_i c' hov
                cases hsg : singles cs with
                | false => rw [hsg] at h; cases h
                | true =>
                  rw [hsg, cond_true] at h; cases h
                  cases hd with
                  | @slice _ _ L _ _ hb _ =>
                    obtain ⟨w', s1, s2⟩ := store_row P hR hg hb hrel hsg hov
                    refine ⟨goInt (Nat.min sl dl), w', ?_, .int _ _, s2⟩
                    rw [start]; simp only [s1, Result.andThen_ok]
                  | @sliceU _ _ L _ _ _ hb _ _ =>
                    obtain ⟨w', s1, s2⟩ := store_row P hR hg hb hrel hsg hov
                    refine ⟨goInt (Nat.min sl dl), w', ?_, .int _ _, s2⟩
                    rw [start]; simp only [s1, Result.andThen_ok]
              · cases h
            · cases h
          · cases h
      · cases h
    · cases h

theorem minMax_go {P : Program} {ρ : Ren} {w : World} (isMax : Bool) (k : IntKind) : ∀ (l l' : List Value) (x : Int) (v : Value), minMax.go isMax k x l = some v → VsRel ρ l l' →
    (l'.foldlM (if isMax then Builtin.max2 else Builtin.min2) (Value.int k x)).run P w = .ok v w ∧ flat v = true
  | [], _, x, v, h, hr => by cases hr; simp [minMax.go] at h; subst h; exact ⟨rfl, rfl⟩
  | a :: l, _, x, v, h, .cons (b := b) (r := r) ha hr => by
    unfold minMax.go at h
    split at h
    · rename_i heq; cases heq
    · rename_i k2 y l2 heq
      cases heq
      cases ha
      rw [List.foldlM_cons]
      cases isMax with
      | true =>
        rw [cond_true] at h
        simp only [if_true, Sem.run_bind, Builtin.max2, Sem.run_pure, Result.andThen_ok]
        exact minMax_go true k l r _ v h hr
      | false =>
        rw [cond_false] at h
        simp only [Bool.false_eq_true, if_false, Sem.run_bind, Builtin.min2, Sem.run_pure, Result.andThen_ok]
        exact minMax_go false k l r _ v h hr
    · cases h

theorem minMax_sound {P : Program} {ρ : Ren} {w : World} {isMax : Bool} {l l' : List Value} {v : Value} (ts : Array TypeId) (ty : TypeId) (h : minMax isMax l = some v) (hr : VsRel ρ l l') :
    (if isMax then Builtin.max_ ts ty l'.toArray else Builtin.min_ ts ty l'.toArray).run P w = .ok v w ∧ flat v = true := by
  unfold minMax at h
  split at h
  · rename_i k x l2
    cases hr with
    | cons ha hr =>
      cases ha
      have := minMax_go (P := P) (w := w) isMax k _ _ x v h hr
      cases isMax with
      | true => simpa [Builtin.max_] using this
      | false => simpa [Builtin.min_] using this
  · cases h

end Go.AE
