/- The evaluator: make, conversions. -/
import Derived.Test.YthacgilphddekaaGreatDoorAeSlice
import Derived.IntWalk
namespace Go.AE
open Go

theorem wrap_small {n : Nat} (h : n ≤ 1000000000) : IntKind.i64.wrap (Int.ofNat n) = Int.ofNat n :=
  IntWalk.i64_in (Int.ofNat n) (by have e : (Int.ofNat n) = (n : Int) := rfl; rw [e]; omega)

theorem makeSlice_sound {E : Env} {P : Program} (hE : EnvOK E P) {ρ : Ren} {A : ASt} {w : World} (hR : Rep ρ A w) {id : Nat} (hid : ρ id = none) {t : TypeId} {l l' c c' : Value} {r : Fresh}
    (h : aMakeSlice E t l c = some r) (hl : VRel ρ l l') (hc : VRel ρ c c') :
    FreshOK P ρ A w id (Instr.makeSlice t l' c') r := by
  unfold aMakeSlice at h
  split at h
  · rename_i i hi
    split at h
    · rename_i e hd
      split at h
      · rename_i j k1 ln k2 cn hj
        cases hl; cases hc
        split at h
        · rename_i z hz
          cases hcc : (closed z && (Nat.beq z.cells.toList.length j.size && (Nat.ble ln cn && (Nat.ble (j.bytes * cn) 1000000000 && Nat.ble cn 1000000000)))) with
          | false => rw [hcc] at h; cases h
          | true =>
            rw [hcc, cond_true] at h; cases h
            simp only [Bool.and_eq_true] at hcc
            obtain ⟨c1, c2, c3, c4, c5⟩ := hcc
            have c2 := Nat.eq_of_beq_eq_true c2
            have c3 := Nat.le_of_ble_eq_true c3; have c4 := Nat.le_of_ble_eq_true c4; have c5 := Nat.le_of_ble_eq_true c5
            have hs := new_row_whole hR id hid (reps_rel (VsRel.cells_closed (ρ := ρ) c1) cn) e j.size
            obtain ⟨jj, hrun, h1, h2, h3, h4⟩ := run_info hE w hj
            have hw1 : IntKind.i64.wrap (Int.ofNat ln) = Int.ofNat ln := wrap_small (by omega)
            have hw2 : IntKind.i64.wrap (Int.ofNat cn) = Int.ofNat cn := wrap_small c5
            refine ⟨_, _, _, ?_, slice_new (ρ := ρ) (n := id) (by unfold unk; omega), hs⟩
            have hbig : ¬ ((j.bytes : Int) * (Int.ofNat cn) > 2 ^ 48) := by
              have e1 : (j.bytes : Int) * (Int.ofNat cn) = ((j.bytes * cn : Nat) : Int) := by simp
              have e2 : (2 ^ 48 : Int) = 281474976710656 := by decide
              rw [e1, e2]; omega
            have hneg : ¬ (Int.ofNat cn < 0) := by simp
            have hneg' : ¬ (Int.ofNat ln < 0) := by simp
            have hle : ¬ (Int.ofNat ln > Int.ofNat cn) := by simp; omega
            have hcond : (decide (Int.ofNat cn < 0) || decide ((j.bytes : Int) * (Int.ofNat cn) > 2 ^ 48) || decide (Int.ofNat ln < 0) || decide (Int.ofNat ln > Int.ofNat cn)) = false := by
              rw [decide_eq_false hneg, decide_eq_false hbig, decide_eq_false hneg', decide_eq_false hle]; rfl
            simp only [Instr.makeSlice, Sem.run_bind, run_und hE w hi, hd, Result.andThen_ok, asInt, asIntOf, Sem.run_pure, hrun, h2, hw1, hw2]
            rw [if_neg (by simpa using hcond)]
            simp only [Sem.run_bind, run_askRoom, Result.andThen_ok, run_size hE w hj]
            have htn : (Int.ofNat cn).toNat = cn := rfl
            have htl : (Int.ofNat ln).toNat = ln := rfl
            rw [htn, htl]
            by_cases en : cn * j.size = 0
            · have e0 : reps z.cells.toList cn = [] := by
                apply List.eq_nil_of_length_eq_zero
                rw [reps_length, c2]; exact en
              have hr0 : Array.range 0 = #[] := rfl
              rw [if_pos en]
              simp only [Sem.run_bind, Sem.run_pure, Result.andThen_ok, en, hr0, run_newRow, e0]
              simp
            · rw [if_neg en]
              have hcells := reps_range z.cells cn j.size (by simpa using c2)
              simp only [Sem.run_bind, Sem.run_pure, Result.andThen_ok, run_zero hE w hj hz, hcells, run_newRow]
        · cases h
      · cases h
    · cases h
  · cases h

theorem freeze_alloc (w : World) (c : Array Value) (el : TypeId) (n : Nat) : (w.alloc (.cells c el)).freeze { block := w.heap.size, off := n } 1 = w.alloc (.cells c el (n, n + 1)) := by
  unfold World.freeze World.alloc
  rw [if_neg (by omega)]
  congr 1
  apply Array.ext_getElem?
  intro i
  rw [Array.getElem?_modify]
  by_cases e : w.heap.size = i
  · subst e; simp
  · rw [if_neg e]; simp [Array.getElem?_push, Ne.symm e]

theorem cellBytes_rel {ρ : Ren} : ∀ {r r' : List Value} {bs : List UInt8}, cellBytes r = some bs → VsRel ρ r r' → ∃ ns : List Int, r' = ns.map (Value.int .u8) ∧ bs = ns.map fun n => UInt8.ofNat n.toNat
  | [], _, _, h, hr => by cases hr; simp [cellBytes] at h; subst h; exact ⟨[], rfl, rfl⟩
  | v :: r, r', bs, h, hr => by
    cases hr with
    | cons hv hr =>
      unfold cellBytes at h
      split at h
      · cases h
        rename_i heq
        cases heq
      · rename_i n l heq
        cases heq
        split at h
        · rename_i q hq
          cases h
          obtain ⟨ns, e1, e2⟩ := cellBytes_rel hq hr
          cases hv
          exact ⟨n :: ns, by simp [e1], by simp [e2]⟩
        · cases h
      · cases h

theorem foldl_push (ns : List Int) : ∀ (s : ByteArray), ns.foldl (fun r n => r.push (UInt8.ofNat n.toNat)) s = ⟨(s.data.toList ++ ns.map fun n => UInt8.ofNat n.toNat).toArray⟩ := by
  induction ns with
  | nil => intro s; simp
  | cons n ns ih =>
    intro s
    simp only [List.foldl_cons, ih, List.map_cons]
    congr 1
    simp [ByteArray.push]

theorem bytesOf_sound {E : Env} {P : Program} (hE : EnvOK E P) {ρ : Ren} {A : ASt} {w : World} (hR : Rep ρ A w) {id : Nat} (hid : ρ id = none) {s d : TypeId} {x x' : Value} {r : Fresh}
    (h : aBytesOf E s d x = some r) (hx : VRel ρ x x') : FreshOK P ρ A w id (convert s d x') r := by
  unfold aBytesOf at h
  split at h
  · rename_i i j hi hj
    have hus := run_und hE w hi
    have hud := run_und hE w hj
    split at h
    · rename_i e b hd
      cases hx
      split at h
      · rename_i u hu
        split at h
        · rename_i hud8
          cases h
          -- a fresh array of some capacity
          let w1 : World := { w with drawn := w.drawn + 1 }
          have hR1 : Rep ρ A w1 := hR.of_heap rfl
          obtain ⟨cap, hcap, hrun⟩ : ∃ cap, b.size ≤ cap ∧ (choose (.appendCap b.size 0 e)).run P w = .ok cap w1 := by
            refine ⟨b.size + (w.tape w.drawn (.appendCap b.size 0 e)) % (2 ^ 63 - b.size), by omega, ?_⟩
            simp [Question.forced, Question.cut, w1]
          have hbc : byteCells b.data.toList = (b.data.map fun x => Value.int .u8 x.toNat).toList := by simp [byteCells]
          have hrel : VsRel ρ (byteCells b.data.toList) (byteCells b.data.toList) := by
            apply VsRel.refl_flats
            unfold byteCells
            generalize b.data.toList = l
            induction l with
            | nil => rfl
            | cons a l ih => simp only [List.map_cons, flats, flat, Bool.true_and]; exact ih
          have hlen : (byteCells b.data.toList).length = b.size := by simp [byteCells]
          have hs := new_row hR1 id hid (rest := List.replicate (cap - b.size) (Value.int .u8 0)) hrel e cap (cap + 1) 1 true (fun q hq => by
            rw [hlen, List.length_replicate] at hq; omega)
          have hcells : (byteCells b.data.toList ++ List.replicate (cap - b.size) (Value.int .u8 0)).toArray = (b.data.map fun x => Value.int .u8 x.toNat) ++ Array.replicate (cap - b.size) (Value.int .u8 0) := by
            apply Array.ext'; simp [byteCells]
          refine ⟨.slice (some ⟨w.heap.size, 0, none⟩) b.size cap, _, _, ?_, ?_, (Step.drew hR).toStep0.trans hs⟩
          · simp only [convert, Sem.run_bind, hus, hud, hd, Result.andThen_ok, run_und hE w hu, hud8, Conv.stringToBytes]
            have hus' : ∀ X : Sem Value, (match i.desc, TypeDesc.slice e, Value.string b with | _, _, _ => X) = X := fun _ => rfl
            have main : (Conv.stringToBytes e b).run P w = .ok (.slice (some ⟨w.heap.size, 0, none⟩) b.size cap) (w1.alloc (.cells (byteCells b.data.toList ++ List.replicate (cap - b.size) (Value.int .u8 0)).toArray e (cap, cap + 1))) := by
              simp only [Conv.stringToBytes, Sem.run_bind, hrun, Result.andThen_ok, run_newRow, markStringish, run_shape]
              have hshape : (w1.alloc (.cells ((b.data.map fun x => Value.int .u8 x.toNat) ++ Array.replicate (cap - b.size) (Value.int .u8 0)) e)).shape? w1.heap.size = some (e, cap) := by
                unfold World.shape?
                rw [heap_alloc_new]
                have : b.data.size = b.size := rfl
                simp [this]; omega
              have hz := freeze_alloc w1 ((b.data.map fun x => Value.int .u8 x.toNat) ++ Array.replicate (cap - b.size) (Value.int .u8 0)) e cap
              simp only [hshape, run_freeze, hz, Result.andThen_ok, Sem.run_pure, hcells]
              rfl
            cases hsd : i.desc <;> simpa only [Conv.stringToBytes, hsd, Sem.run_bind, run_und hE w hu, hud8, Result.andThen_ok] using main
          · have := VRel.sliceU (ρ := upd ρ id ⟨w1.heap.size, 0, (byteCells b.data.toList).length + (List.replicate (cap - b.size) (Value.int .u8 0)).length, 1, undef⟩) (off := 0) (b.data.toList.length) (u := unk) (cap := cap) (upd_same) rfl (by
              show 0 + 0 + cap * 1 = (byteCells b.data.toList).length + (List.replicate (cap - b.size) (Value.int .u8 0)).length
              rw [hlen, List.length_replicate]; omega)
            exact this
        · cases h
      · cases h
    · cases h
  · cases h

theorem convert_sound {E : Env} {P : Program} (hE : EnvOK E P) {ρ : Ren} {A : ASt} {w : World} (hR : Rep ρ A w) {s d : TypeId} {x x' v : Value}
    (h : aConvert E s d x A = some v) (hx : VRel ρ x x') :
    ∃ v', (convert s d x').run P w = .ok v' w ∧ VRel ρ v v' := by
  unfold aConvert at h
  split at h
  · rename_i i j hi hj
    have hus := run_und hE w hi
    have hud := run_und hE w hj
    split at h
    · rename_i k _ n hd
      cases h; cases hx
      refine ⟨_, ?_, .int _ _⟩
      simp only [convert, Sem.run_bind, hus, hud, hd, Result.andThen_ok, Conv.intToInt]
      rfl
    · rename_i b hd
      cases h; cases hx
      refine ⟨_, ?_, .string _⟩
      simp only [convert, Sem.run_bind, hus, hud, hd, Result.andThen_ok]
      cases i.desc <;> rfl
    · rename_i k n hd
      cases h; cases hx
      refine ⟨_, ?_, .string _⟩
      simp only [convert, Sem.run_bind, hus, hud, hd, Result.andThen_ok, Conv.intToString]
      cases i.desc <;> rfl
    · rename_i l c hd
      cases hx
      split at h
      · rename_i e hsd
        split at h
        · rename_i u hu
          split at h
          · rename_i h8
            cases h
            refine ⟨_, ?_, .string _⟩
            simp only [convert, Sem.run_bind, hus, hud, hd, hsd, Result.andThen_ok, run_und hE w hu, h8, Conv.bytesToString]
            rfl
          · cases h
        · cases h
      · cases h
    · rename_i b off len cap hd
      split at h
      · rename_i e hsd
        split at h
        · rename_i u hu
          split at h
          · rename_i c sz tail h8 hg
            split at h
            · rename_i r hr
              split at h
              · rename_i bs hbs
                cases h
                have key : ∀ L cap', ρ b = some L → ∃ v', (convert s d (.slice (some ⟨L.B, L.o + off, none⟩) len cap')).run P w = .ok v' w ∧ VRel ρ (.string ⟨bs.toArray⟩) v' := by
                  intro L cap' hb
                  obtain ⟨L', hL', ho⟩ := hR.obj b _ hg
                  rw [hb] at hL'; cases hL'
                  obtain ⟨r', h1, h2, h3⟩ := loadCells_row P ho hr
                  obtain ⟨ns, e1, e2⟩ := cellBytes_rel hbs h2
                  rw [e1] at h3
                  have := run_bytesToString (P := P) w ⟨L.B, L.o + off, none⟩ len cap' ns h3
                  refine ⟨_, ?_, .string _⟩
                  simp only [convert, Sem.run_bind, hus, hud, hd, hsd, Result.andThen_ok, run_und hE w hu, h8]
                  rw [this, foldl_push, e2]
                  rfl
                cases hx with
                | @slice _ _ L _ _ hb hc => exact key L _ hb
                | @sliceU _ _ L _ _ _ hb hu hc => exact key L _ hb
              · cases h
            · cases h
          · cases h
        · cases h
      · cases h
    · cases h
  · cases h

end Go.AE
