/- The evaluator: fields, indexes, slices, conversions. -/
import Derived.Test.YthacgilphddekaaGreatDoorAePure
namespace Go.AE
open Go

theorem nilCheck_sound {P : Program} {ρ : Ren} {x x' v : Value} (h : aNilCheck x = some v) (hx : VRel ρ x x') (w : World) (ev : Operand → Value) (o : Oper) (xo : Operand) (ho : o.op = .nilCheck xo) (he : ev xo = x') :
    (execOp ev o).run P w = .ok (.value x') w ∧ v = x := by
  unfold execOp
  simp only [ho, he]
  cases hx <;> simp only [aNilCheck] at h <;> first
    | (cases h; exact ⟨rfl, rfl⟩)
    | (cases h; done)
    | (rename_i fn _ _ _ _ _ _ _ _ _
       cases fn <;> first | (cases h; done) | (cases h; exact ⟨rfl, rfl⟩))

theorem makeIface_sound {E : Env} {P : Program} (hE : EnvOK E P) {ρ : Ren} {t : TypeId} {x x' v : Value} (h : aMakeIface E t x = some v) (hx : VRel ρ x x') (w : World) :
    ∃ v', (Instr.makeInterface t x').run P w = .ok v' w ∧ VRel ρ v v' := by
  unfold aMakeIface at h
  split at h
  · rename_i i hi
    split at h
    · cases h
    · rename_i hne
      cases h
      refine ⟨.iface t x', ?_, .iface t hx⟩
      simp only [Instr.makeInterface, Sem.run_bind, run_und hE w hi, Result.andThen_ok]
      rfl
  · cases h

theorem fieldAddr_sound {E : Env} {P : Program} (hE : EnvOK E P) {ρ : Ren} {t : TypeId} {x x' v : Value} {f : Nat} (h : aFieldAddr E t x f = some v) (hx : VRel ρ x x') (w : World) :
    ∃ v', (Instr.fieldAt t x' f).run P w = .ok v' w ∧ VRel ρ v v' := by
  unfold aFieldAddr at h
  split at h
  · rename_i i b off hi
    cases hx with
    | @ptr _ _ L hb =>
      split at h
      · rename_i fields hd
        split at h
        · rename_i fd hfd
          split at h
          · rename_i j hj
            cases hz : Nat.beq j.size 0 with
            | true => rw [hz] at h; cases h
            | false =>
              rw [hz, cond_false] at h; cases h
              have hne : j.size ≠ 0 := Nat.ne_of_beq_eq_false hz
              rw [nth_eq] at hfd
              have hfd' : fields[f]? = some fd := by simpa using hfd
              refine ⟨.pointer (some ⟨L.B, L.o + off + fd.offset, none⟩), ?_, ?_⟩
              · simp only [Instr.fieldAt, Sem.run_bind, run_und hE w hi, hd, Result.andThen_ok, hfd', Instr.sureAddr, Sem.run_pure, fieldPlace, run_size hE w hj, if_neg hne, addr_add]
              · have := VRel.ptr (off := off + fd.offset) hb
                rwa [← Nat.add_assoc] at this
          · cases h
        · cases h
      · cases h
  · cases h

theorem field_sound {E : Env} {P : Program} (hE : EnvOK E P) {ρ : Ren} {t : TypeId} {x x' v : Value} {f : Nat} (h : aField E t x f = some v) (hx : VRel ρ x x') (w : World) :
    ∃ v', (Instr.field t x' f).run P w = .ok v' w ∧ VRel ρ v v' := by
  unfold aField at h
  split at h
  · rename_i i cs hi
    cases hx with
    | @agg _ cs' h1 h2 =>
      split at h
      · rename_i fields hd
        split at h
        · rename_i fd hfd
          rw [nth_eq] at hfd
          have hfd' : fields[f]? = some fd := by simpa using hfd
          obtain ⟨v', hv', hr⟩ := part_sound hE h (VsRel.of_array h1 h2) w
          refine ⟨v', ?_, hr⟩
          simp only [Instr.field, Sem.run_bind, run_und hE w hi, hd, Result.andThen_ok, hfd', asAgg, Sem.run_pure, hv']
        · cases h
      · cases h
  · cases h

theorem indexAddr_sound {E : Env} {P : Program} (hE : EnvOK E P) {ρ : Ren} {t : TypeId} {x x' k k' v : Value} (h : aIndexAddr E t x k = some v) (hx : VRel ρ x x') (hk : VRel ρ k k') (w : World) :
    ∃ v', (Instr.indexAt t x' k').run P w = .ok v' w ∧ VRel ρ v v' := by
  unfold aIndexAddr at h
  split at h
  · rename_i i kd n hi
    cases hk
    split at h
    · rename_i len e b off hd
      cases hx with
      | @ptr _ _ L hb =>
        split at h
        · rename_i j hj
          cases hlt : Nat.blt n len with
          | false => rw [hlt] at h; cases h
          | true =>
            rw [hlt, cond_true] at h; cases h
            have hlt' : n < len := Nat.le_of_ble_eq_true hlt
            refine ⟨.pointer (some ⟨L.B, L.o + off + n * j.size, none⟩), ?_, ?_⟩
            · simp only [Instr.indexAt, asIntOf, Sem.run_bind, Sem.run_pure, Result.andThen_ok, run_und hE w hi, hd, Instr.sureAddr]
              rw [if_pos ⟨by simp, by simpa using hlt'⟩]
              simp only [Sem.run_bind, run_size hE w hj, Result.andThen_ok, Sem.run_pure, addr_add]
              rfl
            · have := VRel.ptr (off := off + n * j.size) hb
              rwa [← Nat.add_assoc] at this
        · cases h
    · rename_i e b off len cap hd
      have key : ∀ L, ρ b = some L → ∀ cap', ((match E.ti e with
          | some j => cond (Nat.blt n len) (some (Value.pointer (some ⟨b, off + n * j.size, none⟩))) none
          | none => none) = some v) → ∃ v', (Instr.indexAt t (.slice (some ⟨L.B, L.o + off, none⟩) len cap') (.int kd (Int.ofNat n))).run P w = .ok v' w ∧ VRel ρ v v' := by
        intro L hb cap' h
        split at h
        · rename_i j hj
          cases hlt : Nat.blt n len with
          | false => rw [hlt] at h; cases h
          | true =>
            rw [hlt, cond_true] at h; cases h
            have hlt' : n < len := Nat.le_of_ble_eq_true hlt
            refine ⟨.pointer (some ⟨L.B, L.o + off + n * j.size, none⟩), ?_, ?_⟩
            · simp only [Instr.indexAt, asIntOf, Sem.run_bind, Sem.run_pure, Result.andThen_ok, run_und hE w hi, hd]
              rw [if_pos ⟨by simp, by simpa using hlt'⟩]
              simp only [Sem.run_bind, run_size hE w hj, Result.andThen_ok, Sem.run_pure, addr_add]
              rfl
            · have := VRel.ptr (off := off + n * j.size) hb
              rwa [← Nat.add_assoc] at this
        · cases h
      cases hx with
      | @slice _ _ L _ _ hb hc => exact key L hb _ h
      | @sliceU _ _ L _ _ _ hb hu hc => exact key L hb _ h
    · cases h
  · cases h

theorem index_sound {E : Env} {P : Program} (hE : EnvOK E P) {ρ : Ren} {t : TypeId} {x x' k k' v : Value} (h : aIndex E t x k = some v) (hx : VRel ρ x x') (hk : VRel ρ k k') (w : World) :
    ∃ v', (Instr.index t x' k').run P w = .ok v' w ∧ VRel ρ v v' := by
  unfold aIndex at h
  split at h
  · rename_i i kd n hi
    cases hk
    split at h
    · rename_i len e cs hd
      cases hx with
      | @agg _ cs' h1 h2 =>
        split at h
        · rename_i j hj
          cases hlt : Nat.blt n len with
          | false => rw [hlt] at h; cases h
          | true =>
            rw [hlt, cond_true] at h
            have hlt' : n < len := Nat.le_of_ble_eq_true hlt
            obtain ⟨v', hv', hr⟩ := part_sound hE h (VsRel.of_array h1 h2) w
            refine ⟨v', ?_, hr⟩
            simp only [Instr.index, asIntOf, Sem.run_bind, Sem.run_pure, Result.andThen_ok, run_und hE w hi, hd]
            rw [if_pos ⟨by simp, by simpa using hlt'⟩]
            simp only [Sem.run_bind, run_size hE w hj, Result.andThen_ok]
            exact hv'
        · cases h
    · rename_i s hd
      cases hx
      split at h
      · rename_i b hb
        cases h
        rw [nth_eq] at hb
        refine ⟨.int .u8 b.toNat, ?_, .int _ _⟩
        simp only [Instr.index, asIntOf, Sem.run_bind, Sem.run_pure, Result.andThen_ok, run_und hE w hi, hd]
        have hlt : n < s.size := by
          have h1 := (List.getElem?_eq_some_iff.1 hb).1
          have h2 : s.data.toList.length = s.size := rfl
          omega
        have hget : s[(Int.ofNat n).toNat]? = some b := by
          have e : (Int.ofNat n).toNat = n := rfl
          rw [e]
          have : s[n]? = s.data[n]? := by
            rw [getElem?_pos s n hlt, getElem?_pos s.data n hlt]; rfl
          rw [this]; simpa using hb
        rw [if_pos (by simp), hget]
        rfl
      · cases h
    · cases h
  · cases h

theorem extract_sound {P : Program} {ρ : Ren} {x x' v : Value} {n : Nat} (h : aExtract x n = some v) (hx : VRel ρ x x') (w : World) :
    ∃ v', (Instr.extract x' n).run P w = .ok v' w ∧ VRel ρ v v' := by
  unfold aExtract at h
  split at h
  · rename_i vs
    cases hx with
    | @tuple _ vs' h1 h2 =>
      rw [nth_eq] at h
      obtain ⟨v', hv', hr⟩ := (VsRel.of_array h1 h2).get n v h
      have hv'' : vs'[n]? = some v' := by simpa using hv'
      exact ⟨v', by simp [Instr.extract, hv''], hr⟩
  · cases h

theorem VRel.pair {ρ : Ren} {a a' b b' : Value} (h : VRel ρ a a') (k : VRel ρ b b') : VRel ρ (.tuple #[a, b]) (.tuple #[a', b']) := by
  have := VRel.tuple_of (ρ := ρ) (l := [a, b]) (r := [a', b']) (.cons h (.cons k .nil))
  simpa using this

theorem typeAssert_sound {E : Env} {P : Program} (hE : EnvOK E P) {ρ : Ren} {s t : TypeId} {x x' v : Value} {ok : Bool} (h : aTypeAssert E x t ok = some v) (hx : VRel ρ x x') (w : World) :
    ∃ v', (Instr.typeAssert x' s t ok).run P w = .ok v' w ∧ VRel ρ v v' := by
  unfold aTypeAssert at h
  split at h
  · cases h
  · rename_i i hi
    split at h
    · rename_i want u y hd
      split at h
      · rename_i j hj
        cases hx with
        | @iface _ _ y' hy =>
          obtain ⟨jj, hrun, _, _, _, hm⟩ := run_info hE w hj
          split at h
          · rename_i hmm
            cases h
            have hmm' : Instr.missingMethod want jj.methods = none := by rw [hm]; exact hmm
            cases ok with
            | false =>
              refine ⟨.iface u y', ?_, .iface u hy⟩
              simp only [Instr.typeAssert, Sem.run_bind, run_und hE w hi, hd, Result.andThen_ok, hrun, hmm']
              rfl
            | true =>
              refine ⟨.tuple #[.iface u y', .bool true], ?_, .pair (.iface u hy) (.bool _)⟩
              simp only [Instr.typeAssert, Sem.run_bind, run_und hE w hi, hd, Result.andThen_ok, hrun, hmm']
              rfl
          · rename_i mm hmm
            cases ok with
            | false => cases h
            | true =>
              rw [cond_true] at h
              split at h
              · rename_i z hz
                cases hc : closed z with
                | false => rw [hc] at h; cases h
                | true =>
                  rw [hc, cond_true] at h; cases h
                  have hmm' : Instr.missingMethod want jj.methods = some mm := by rw [hm]; exact hmm
                  refine ⟨.tuple #[z, .bool false], ?_, .pair (.refl_closed hc) (.bool _)⟩
                  simp only [Instr.typeAssert, Sem.run_bind, run_und hE w hi, hd, Result.andThen_ok, hrun, hmm']
                  simp [run_zero hE w hi hz]
              · cases h
      · cases h
    · cases h
    · rename_i u y hd1
      cases hx with
      | @iface _ _ y' hy =>
        cases hut : Nat.beq u t with
        | true =>
          rw [hut, cond_true] at h
          cases h
          have := Nat.eq_of_beq_eq_true hut
          subst this
          cases ok with
          | false =>
            refine ⟨y', ?_, hy⟩
            simp only [Instr.typeAssert, Sem.run_bind, run_und hE w hi, Result.andThen_ok]
            cases hdd : i.desc <;> first | (exact absurd hdd (hd1 _)) | (simp only [hdd]; rfl) | rfl
          | true =>
            refine ⟨.tuple #[y', .bool true], ?_, .pair hy (.bool _)⟩
            simp only [Instr.typeAssert, Sem.run_bind, run_und hE w hi, Result.andThen_ok]
            cases hdd : i.desc <;> first | (exact absurd hdd (hd1 _)) | (simp only [hdd]; rfl) | rfl
        | false =>
          rw [hut, cond_false] at h
          have hne : u ≠ t := Nat.ne_of_beq_eq_false hut
          cases ok with
          | false => cases h
          | true =>
            rw [cond_true] at h
            split at h
            · rename_i z hz
              cases hc : closed z with
              | false => rw [hc] at h; cases h
              | true =>
                rw [hc, cond_true] at h; cases h
                refine ⟨.tuple #[z, .bool false], ?_, .pair (.refl_closed hc) (.bool _)⟩
                simp only [Instr.typeAssert, Sem.run_bind, run_und hE w hi, Result.andThen_ok]
                cases hdd : i.desc <;> first | (exact absurd hdd (hd1 _)) | (simp [hne, run_zero hE w hi hz])
            · cases h
    · cases h

end Go.AE
