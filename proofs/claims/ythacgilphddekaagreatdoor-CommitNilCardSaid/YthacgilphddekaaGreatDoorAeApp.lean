/- The evaluator: append, copy. -/
import Derived.Test.YthacgilphddekaaGreatDoorAeIter
namespace Go.AE
open Go

/-- A block gives up what lies behind its first 'n' cells. -/
theorem Step.shrink {ρ : Ren} {A : ASt} {w : World} (h : Rep ρ A w) {b : Nat} {c : List Value} {sz : Nat} {tail : Bool} {L : Loc} (hb : A.get b = some (.row c sz tail)) (hL : ρ b = some L) (n : Nat) :
    Step ρ A w ρ (A.set b (.row (c.take n) sz false)) w := by
  obtain ⟨L', hL', ho⟩ := h.obj b _ hb
  rw [hL] at hL'; cases hL'
  obtain ⟨cells, el, lo, hi, e1, e2, e3, e4, e5, e6⟩ := ho
  have hle : (c.take n).length ≤ c.length := by simp; omega
  refine Step.set h hb hL ⟨cells, el, lo, hi, e1, e2, e3, by omega, fun i v hv => e5 i v ?_, fun j h1 h2 => e6 j h1 ?_⟩ ?_ ⟨rfl, rfl, rfl, rfl⟩ (fun _ _ => rfl) (.inr ⟨cells, cells, el, (lo, hi), e1, e1, rfl, fun _ _ => rfl⟩)
  · rw [List.getElem?_take] at hv
    split at hv
    · exact hv
    · cases hv
  · simp only [AObj.hi] at h2 ⊢
    simp only [Bool.false_eq_true, if_false] at h2
    split <;> omega
  · simp only [AObj.hi]
    simp only [Bool.false_eq_true, if_false]
    split <;> omega

/-- A block is parted in two: the world stays. -/
theorem Step.part {ρ : Ren} {A : ASt} {w : World} (h : Rep ρ A w) {b : Nat} {c : List Value} {sz : Nat} {tail : Bool} {L : Loc} (hb : A.get b = some (.row c sz tail)) (hL : ρ b = some L) {n : Nat} (hn : n ≤ c.length) :
    Step ρ A w (upd ρ A.next ⟨L.B, L.o + n, L.R, sz, undef⟩) ((A.set b (.row (c.take n) sz false)).new (.row (c.drop n) sz tail)) w := by
  have hlt : b < A.next := h.get_lt hb
  have hs := Step.shrink h hb hL n
  obtain ⟨L', hL', ho⟩ := h.obj b _ hb
  rw [hL] at hL'; cases hL'
  obtain ⟨cells, el, lo, hi, e1, e2, e3, e4, e5, e6⟩ := ho
  have hle : ρ.le (upd ρ A.next ⟨L.B, L.o + n, L.R, sz, undef⟩) := upd_le (h.fresh _ (Nat.le_refl _))
  have hhi : ((AObj.row (c.drop n) sz tail).hi ⟨L.B, L.o + n, L.R, sz, undef⟩) = (AObj.row c sz tail).hi L := by
    simp only [AObj.hi, List.length_drop]
    split <;> omega
  have hapL : ∀ (d : Nat) (x : AObj) (M : Loc), d ≠ b → A.get d = some x → ρ d = some M → M.B = L.B → ∀ j, L.o + n ≤ j → j < (AObj.row c sz tail).hi L → M.o ≤ j → j < x.hi M → False :=
    fun d x M hd hx hM hB j h1 h2 h3 h4 => h.apart d b x _ M L hd hx hb hM hL hB j h3 h4 (by omega) h2
  have get' : ∀ d, ((A.set b (.row (c.take n) sz false)).new (.row (c.drop n) sz tail)).get d = if d = A.next then some (.row (c.drop n) sz tail) else if d = b then some (.row (c.take n) sz false) else A.get d := fun d => by
    rw [ASt.get_new, ASt.next_set, ASt.get_set]
  have hdom : ∀ d, d < A.next → A.get d = none → ((A.set b (.row (c.take n) sz false)).new (.row (c.drop n) sz tail)).get d = none := fun d hd hn => by
    rw [get', if_neg (by omega)]
    by_cases e : d = b
    · subst e; rw [hb] at hn; cases hn
    · rw [if_neg e]; exact hn
  refine ⟨⟨⟨?_, ?_, ?_⟩, hle, by simp, Nat.le_refl _, rfl, rfl, rfl, fun B cl el' fr hB => ⟨cl, hB, rfl, fun _ _ => rfl⟩, fun B x hB _ _ => hB, ?_⟩, fun d hd => by unfold upd; rw [if_neg (by omega)], hdom⟩
  · intro d x hd
    rw [get'] at hd
    by_cases e : d = A.next
    · rw [if_pos e] at hd; cases hd; subst e
      refine ⟨_, upd_same, cells, el, lo, hi, e1, e2, rfl, by simp; omega, fun i v hv => ?_, fun j h1 h2 => e6 j (by simp at h1; omega) (by rw [hhi] at h2; exact h2)⟩
      rw [List.getElem?_drop] at hv
      obtain ⟨v', hv', hr⟩ := e5 _ _ hv
      exact ⟨v', by rw [← Nat.add_assoc] at hv'; exact hv', hr.mono hle⟩
    · rw [if_neg e] at hd
      have hd2 : (A.set b (.row (c.take n) sz false)).get d = some x := by rw [ASt.get_set]; exact hd
      obtain ⟨M, hM, hx⟩ := hs.rep.obj d x hd2
      exact ⟨M, hle _ _ hM, hx.mono hle⟩
  · intro d d' x x' M M' hne hd hd' hM hM' hBB j h1 h2 h3 h4
    rw [get'] at hd hd'
    -- what stands at the new number
    have knew : ∀ (d : Nat) (x : AObj) (M : Loc), d ≠ A.next → (if d = b then some (.row (c.take n) sz false) else A.get d) = some x → upd ρ A.next ⟨L.B, L.o + n, L.R, sz, undef⟩ d = some M → M.B = L.B → ∀ j, L.o + n ≤ j → j < (AObj.row c sz tail).hi L → M.o ≤ j → j < x.hi M → False := by
      intro d x M hdn hd hM hB j h1 h2 h3 h4
      have hM2 : ρ d = some M := by simpa [upd, hdn] using hM
      by_cases e : d = b
      · subst e
        rw [if_pos rfl] at hd; cases hd
        rw [hL] at hM2; cases hM2
        simp only [AObj.hi, Bool.false_eq_true, if_false, List.length_take] at h4
        omega
      · rw [if_neg e] at hd
        exact hapL d x M e hd hM2 hB j h1 h2 h3 h4
    by_cases e : d = A.next
    · subst e
      rw [if_pos rfl] at hd; cases hd
      rw [upd_same] at hM; cases hM
      rw [if_neg (Ne.symm hne)] at hd'
      rw [hhi] at h2
      exact knew d' x' M' (Ne.symm hne) hd' hM' hBB.symm j h1 h2 h3 h4
    · rw [if_neg e] at hd
      by_cases e' : d' = A.next
      · subst e'
        rw [if_pos rfl] at hd'; cases hd'
        rw [upd_same] at hM'; cases hM'
        rw [hhi] at h4
        exact knew d x M e hd hM hBB j h3 h4 h1 h2
      · rw [if_neg e'] at hd'
        have hM2 : ρ d = some M := by simpa [upd, e] using hM
        have hM2' : ρ d' = some M' := by simpa [upd, e'] using hM'
        exact hs.rep.apart d d' x x' M M' hne (by rw [ASt.get_set]; exact hd) (by rw [ASt.get_set]; exact hd') hM2 hM2' hBB j h1 h2 h3 h4
  · intro d hd
    simp at hd
    unfold upd
    rw [if_neg (by omega)]
    exact h.fresh d (by omega)
  · rintro B j hB ⟨d, x, M, hd, hM, hMB, h1, h2⟩
    rw [get'] at hd
    by_cases e : d = A.next
    · rw [if_pos e] at hd; cases hd; subst e
      rw [upd_same] at hM; cases hM
      rw [hhi] at h2
      exact ⟨b, _, L, hb, hL, hMB, by simp at h1; omega, h2⟩
    · rw [if_neg e] at hd
      have hM2 : ρ d = some M := by simpa [upd, e] using hM
      exact hs.owns B j hB ⟨d, x, M, by rw [ASt.get_set]; exact hd, hM2, hMB, h1, h2⟩

/-- Cells are written behind what is known of a row whose rest is ours. -/
theorem store_tail {ρ : Ren} {A : ASt} {w : World} (P : Program) (hR : Rep ρ A w) {b : Nat} {c : List Value} {sz : Nat} {L : Loc} (hb : A.get b = some (.row c sz true)) (hL : ρ b = some L)
    {vs vs' : List Value} (hv : VsRel ρ vs vs') (hs : singles vs = true) (hfit : L.o + c.length + vs.length ≤ L.R) :
    ∃ w', (storeCells ⟨L.B, L.o + c.length, none⟩ vs').run P w = .ok () w' ∧ Step ρ A w ρ (A.set b (.row (c ++ vs) sz true)) w' := by
  obtain ⟨L', hL', hrow⟩ := hR.obj b _ hb
  rw [hL] at hL'; cases hL'
  obtain ⟨cells, el, lo, hi, e1, e2, e3, e4, e5, e6⟩ := hrow
  have hvl := hv.length
  have hst := run_storeCells_cells (P := P) L.B (L.o + c.length) vs' 0 w
    (fun j hj => by simp [World.cell?, e1]; omega)
    (fun j hj => by
      simp only [World.frozen?, e1, Nat.add_zero]
      have := e6 (L.o + c.length + j) (by omega) (by simp only [AObj.hi, if_true]; omega)
      simpa using this)
    (singles_one hv hs)
  obtain ⟨cs, s1, s2, s3, s4, s5, s6, s7, s8⟩ := setCells_heap L.B vs' (L.o + c.length + 0) w cells el (lo, hi) e1
  refine ⟨_, hst, Step.set hR hb hL ?_ ?_ ⟨s6, s7, s8, s4⟩ s5 (.inr ⟨cells, cs, el, (lo, hi), e1, s1, s2, ?_⟩)⟩
  · refine ⟨cs, el, lo, hi, s1, by omega, e3, by simp; omega, fun j v hjv => ?_, fun j h1 h2 => e6 j h1 (by simpa only [AObj.hi, if_true] using h2)⟩
    rw [s3]
    by_cases hlt : j < c.length
    · rw [if_neg (by omega)]
      rw [List.getElem?_append_left hlt] at hjv
      exact e5 j v hjv
    · rw [List.getElem?_append_right (by omega)] at hjv
      have hj2 : j - c.length < vs.length := (List.getElem?_eq_some_iff.1 hjv).1
      rw [if_pos (by omega)]
      obtain ⟨v', hv', hrel⟩ := hv.get _ _ hjv
      exact ⟨v', by rw [show L.o + j - (L.o + c.length + 0) = j - c.length by omega]; exact hv', hrel⟩
  · simp only [AObj.hi]; exact Nat.le_refl _
  · intro j hj
    rw [s3, if_neg]
    intro hc
    apply hj
    refine ⟨by omega, ?_⟩
    simp only [AObj.hi, if_true]
    omega

theorem growBy_le (need : Nat) : ∀ (r c : Nat), Builtin.growBy need r c ≤ max c (need + (need + 768) / 4)
  | 0, c => by simp [Builtin.growBy]; omega
  | r + 1, c => by
    simp only [Builtin.growBy]
    split
    · omega
    · have := growBy_le need r (c + (c + 768) / 4)
      omega

theorem nextcap_le {need cap : Nat} (h : cap < need) : Builtin.nextslicecap need cap ≤ 2 * need + 192 := by
  unfold Builtin.nextslicecap
  split
  · omega
  · split
    · omega
    · have := growBy_le need 4 cap
      omega

theorem nextcap_small {need cap bytes : Nat} (h : cap < need) (hb : need * (bytes + 1) < 1000000000) : ¬ (Builtin.nextslicecap need cap * bytes > 2 ^ 48) := by
  have h1 := nextcap_le h
  have h2 : Builtin.nextslicecap need cap * bytes ≤ (2 * need + 192) * bytes := Nat.mul_le_mul_right _ h1
  have h3 : (2 * need + 192) * bytes = 2 * (need * bytes) + 192 * bytes := by rw [Nat.add_mul, Nat.mul_assoc]
  have h4 : need * (bytes + 1) = need * bytes + need := by rw [Nat.mul_add, Nat.mul_one]
  have h5 : bytes ≤ need * bytes := Nat.le_mul_of_pos_left _ (by omega)
  have e : (2 : Nat) ^ 48 = 281474976710656 := by decide
  rw [e]
  omega

theorem src_sound {P : Program} {ρ : Ren} {A : ASt} {w : World} (hR : Rep ρ A w) {sz n : Nat} {x x' : Value} {new : List Value} (h : srcCells sz x n A = some new) (hx : VRel ρ x x') :
    ∃ new', VsRel ρ new new' ∧ (Builtin.firstCells sz n x').run P w = .ok new'.toArray w := by
  unfold srcCells at h
  split at h
  · cases h; cases hx; exact ⟨[], .nil, rfl⟩
  · rename_i b off len cap
    have key : ∀ L cap', ρ b = some L → ∃ new', VsRel ρ new new' ∧ (Builtin.firstCells sz n (.slice (some ⟨L.B, L.o + off, none⟩) len cap')).run P w = .ok new'.toArray w := by
      intro L cap' hb
      split at h
      · rename_i c z tail hg
        obtain ⟨L', hL', ho⟩ := hR.obj b _ hg
        rw [hb] at hL'; cases hL'
        obtain ⟨r', h1, h2, h3⟩ := loadCells_row P ho h
        exact ⟨r', h2, h3⟩
      · cases h
    cases hx with
    | @slice _ _ L _ _ hb hc => exact key L _ hb
    | @sliceU _ _ L _ _ _ hb hu hc => exact key L _ hb
  · rename_i b off sp cap
    cases hn : Nat.beq n 0 with
    | false => rw [hn] at h; cases h
    | true =>
      rw [hn, cond_true] at h
      cases h
      have hn := Nat.eq_of_beq_eq_true hn
      subst hn
      generalize hz : Value.slice (some ⟨b, off, some sp⟩) 0 cap = z at hx
      cases hx <;> cases hz
      refine ⟨[], .nil, ?_⟩
      simp only [Builtin.firstCells, loadCells, Nat.zero_mul]
      unfold loadCellsFrom
      rfl
  · rename_i s
    cases h; cases hx
    refine ⟨byteCells (s.data.toList.take n), ?_, ?_⟩
    · apply VsRel.refl_flats
      unfold byteCells
      generalize s.data.toList.take n = l
      induction l with
      | nil => rfl
      | cons a l ih => simp only [List.map_cons, flats, flat, Bool.true_and]; exact ih
    · simp only [Builtin.firstCells, Sem.run_pure]
      congr 1
      apply Array.ext'
      have := Lib.extract_data s 0 n
      simp only [Array.toList_map, byteCells]
      rw [this]
      simp
  · cases h

theorem lenV_sound {P : Program} {ρ : Ren} {x x' : Value} {n : Nat} (h : lenV x = some n) (hx : VRel ρ x x') (w : World) : (Builtin.lenOf x').run P w = .ok n w := by
  unfold lenV at h
  split at h
  · cases h
    cases hx <;> rfl
  · cases h; cases hx; rfl
  · cases h

theorem zeroCells_reps (z : Array Value) (n : Nat) : Builtin.zeroCells z n = (reps z.toList n).toArray := by
  unfold Builtin.zeroCells
  exact reps_range z n z.size rfl

/-- The concrete append, behind its sizes. -/
theorem run_append {E : Env} {P : Program} (hE : EnvOK E P) {w : World} {t xt e : TypeId} {ty : TypeId} {ts : Array TypeId} {i xi j : TIn} {base : Option Addr} {len cap n : Nat} {x : Value} {new : Array Value} {z : Value}
    (h0 : ts[0]? = some t) (h1 : ts[1]? = some xt) (hi : E.ti t = some i) (hxi : E.ti xt = some xi) (hj : E.ti e = some j) (hd : i.desc = .slice e) (hint : isIntD xi.desc = false)
    (hn : (Builtin.lenOf x).run P w = .ok n w) (hnew : (Builtin.firstCells j.size n x).run P w = .ok new w) (hz : j.zero = some z) (hb : (len + n) * (j.bytes + 1) < 1000000000) :
    (Builtin.append_ ts ty #[.slice base len cap, x]).run P w =
      if len + n ≤ cap then
        ((match base with | some a => storeCells (a.add (len * j.size)) new.toList | none => pure () : Sem Unit).run P w).andThen fun _ w' => .ok (.slice base (len + n) cap) w'
      else
        (((Builtin.firstCells j.size len (.slice base len cap)).run P { w with drawn := w.drawn + 1 }).andThen fun old w1 =>
          ((Builtin.firstCells j.size n x).run P w1).andThen fun new w2 =>
            .ok (.slice (some ⟨w2.heap.size, 0, none⟩) (len + n) (len + n + (w.tape w.drawn (.appendCap (len + n) cap e)) % (2 ^ 63 - (len + n))))
              (w2.alloc (.cells (old ++ new ++ (reps z.cells.toList ((len + n + (w.tape w.drawn (.appendCap (len + n) cap e)) % (2 ^ 63 - (len + n))) - (len + n))).toArray) e))) := by
  obtain ⟨jj, hinfo, _, hbytes, _, _⟩ := run_info hE w hj
  have hinfo' : ∀ w', (typeInfo e).run P w' = .ok jj w' := fun w' => by
    obtain ⟨jj', h1, _⟩ := run_info hE w' hj
    have : jj' = jj := by
      simp only [typeInfo, Sem.run_bind, run_program, Result.andThen_ok] at h1 hinfo
      cases hp : P.info? e with
      | none => rw [hp] at h1; simp at h1
      | some q => rw [hp] at h1 hinfo; simp at h1 hinfo; rw [← h1, ← hinfo]
    rw [h1, this]
  simp only [Builtin.append_, h0, h1, List.getElem?_toArray, List.getElem?_cons_zero, List.getElem?_cons_succ, Sem.run_bind, run_und hE w hi, hd, Result.andThen_ok, run_size hE w hj, run_und hE w hxi, Sem.run_pure]
  revert hint
  generalize xi.desc = dd
  intro hint
  cases dd <;> first
    | (simp [isIntD] at hint; done)
    | skip
  all_goals
    simp only [Bool.false_eq_true, if_false, Sem.run_bind, hn, Result.andThen_ok, Bool.not_false, if_true]
    by_cases hfit : len + n ≤ cap
    · rw [if_pos hfit, if_pos hfit]
      simp only [Sem.run_bind, hnew, Result.andThen_ok]
      cases base with
      | none => rfl
      | some a => simp only [Sem.run_bind, Sem.run_pure]
    · rw [if_neg hfit, if_neg hfit]
      have hneed : len + n ≤ (len + n) * (j.bytes + 1) := Nat.le_mul_of_pos_right _ (by omega)
      have hbig : ¬ (((len + n : Nat) : Int) > IntKind.i64.max ∧ (False ∨ jj.bytes = 0)) := by
        have : IntKind.i64.max = 9223372036854775807 := by decide
        rw [this]; omega
      have hncap : ¬ (Builtin.nextslicecap (len + n) cap * jj.bytes > 2 ^ 48) := by rw [hbytes]; exact nextcap_small (by omega) hb
      have hch : (choose (.appendCap (len + n) cap e)).run P w = .ok (len + n + (w.tape w.drawn (.appendCap (len + n) cap e)) % (2 ^ 63 - (len + n))) { w with drawn := w.drawn + 1 } := rfl
      simp only [Sem.run_bind, hinfo, Result.andThen_ok]
      rw [if_neg hbig]
      simp only [Sem.run_bind, hinfo, Result.andThen_ok]
      rw [if_neg hncap]
      simp only [Sem.run_bind, hch, Result.andThen_ok, hinfo', run_askRoom]
      cases hold : (Builtin.firstCells j.size len (.slice base len cap)).run P { w with drawn := w.drawn + 1 } with
      | halt q w1 => simp only [Result.andThen_halt]
      | ok old w1 =>
        simp only [Result.andThen_ok]
        cases hnw : (Builtin.firstCells j.size n x).run P w1 with
        | halt q w2 => simp only [Result.andThen_halt]
        | ok nw w2 =>
          simp only [Result.andThen_ok, run_zero hE w2 hj hz, run_newRow, Sem.run_pure, zeroCells_reps]

end Go.AE
