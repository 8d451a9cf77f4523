/- The evaluator: ranging over maps and strings. -/
import Derived.Test.YthacgilphddekaaGreatDoorAeMaps
namespace Go.AE
open Go

theorem range_sound {E : Env} {P : Program} (hE : EnvOK E P) {ρ : Ren} {A A' : ASt} {w : World} (hR : Rep ρ A w) {t : TypeId} {x x' v : Value}
    (h : aRange E t x A = .val v A') (hx : VRel ρ x x') :
    ∃ v' w' ρ', (Instr.range t x').run P w = .ok v' w' ∧ VRel ρ' v v' ∧ Step ρ A w ρ' A' w' := by
  unfold aRange at h
  split at h
  · cases h
  · rename_i i hi
    have hle : ∀ L, ρ.le (upd ρ A.next L) := fun L => upd_le (hR.fresh _ (Nat.le_refl _))
    split at h
    · rename_i s hd
      rw [fN_eq] at h
      cases h; cases hx
      have hs := Step.new hR (.siter s 0) (.stringIter s 0) ⟨w.heap.size, 0, 0, 0, undef⟩ rfl ⟨heap_alloc_new _ _, rfl⟩
      refine ⟨_, _, _, ?_, ptr_new, hs⟩
      simp only [Instr.range, Sem.run_bind, run_und hE w hi, hd, Result.andThen_ok, Sem.run_pure, run_newObj, World.alloc_eq]
    · rename_i k e hd
      rw [fN_eq] at h
      cases h; cases hx
      have hs := Step.new hR (.miter none 0 [] 0) (.mapIter none 0 #[] 0) ⟨w.heap.size, 0, 0, 0, undef⟩ rfl ⟨none, heap_alloc_new _ _, trivial, rfl⟩
      refine ⟨_, _, _, ?_, ptr_new, hs⟩
      simp only [Instr.range, Sem.run_bind, run_und hE w hi, hd, Result.andThen_ok, Sem.run_pure, run_newObj, World.alloc_eq]
    · rename_i k e m hd
      cases hx with
      | @map _ L hL =>
        split at h
        · rename_i es clock hg
          rw [fN_eq] at h
          cases h
          obtain ⟨es', g1, g2, g3, g4⟩ := map_get P hR hg hL
          have hs := Step.new hR (.miter (some m) clock [] clock) (.mapIter (some L.B) clock #[] clock) ⟨w.heap.size, 0, 0, 0, undef⟩ rfl ⟨some L.B, heap_alloc_new _ _, ⟨L, hle _ _ _ hL, rfl⟩, rfl⟩
          refine ⟨_, _, _, ?_, ptr_new, hs⟩
          simp only [Instr.range, Sem.run_bind, run_und hE w hi, hd, Result.andThen_ok, Sem.run_pure, g4, run_newObj, World.alloc_eq]
        · cases h
    · cases h

theorem lastOf_eq : ∀ (l : List Nat), lastOf l = l.getLast?
  | [] => rfl
  | [a] => rfl
  | a :: b :: l => by simp only [lastOf]; rw [lastOf_eq (b :: l)]; simp

theorem findBorn_rel {ρ : Ren} {n : Nat} : ∀ {es es' : List MapEntry} {e : MapEntry}, LR (EntRel ρ) es es' → findBorn n es = some e → ∃ e', es'.find? (fun x => x.born == n) = some e' ∧ EntRel ρ e e'
  | [], _, e, hr, h => by simp [findBorn] at h
  | a :: es, _, e, .cons (b := b) hab hr, h => by
    unfold findBorn at h
    cases hb : Nat.beq a.born n with
    | true =>
      rw [hb, cond_true] at h; cases h
      have := Nat.eq_of_beq_eq_true hb
      exact ⟨b, by simp [hab.born, this], hab⟩
    | false =>
      rw [hb, cond_false] at h
      have hne := Nat.ne_of_beq_eq_false hb
      obtain ⟨e', h1, h2⟩ := findBorn_rel hr h
      refine ⟨e', ?_, h2⟩
      rw [List.find?_cons_of_neg]
      · exact h1
      · simp [hab.born, hne]

theorem EntRel.pair {ρ : Ren} {e e' : MapEntry} (h : EntRel ρ e e') : VRel ρ (.tuple #[e.key, e.val]) (.tuple #[e'.key, e'.val]) := by
  rw [h.key]; exact .pair (.refl_flat h.flat) h.val

theorem entry_sound {P : Program} {ρ : Ren} {A : ASt} {w : World} (hR : Rep ρ A w) {x x' v : Value} (h : aEntry x A = some v) (hx : VRel ρ x x') :
    ∃ v', (Instr.entry x').run P w = .ok v' w ∧ VRel ρ v v' := by
  unfold aEntry at h
  split at h
  · rename_i r
    cases hx with
    | @ptr _ _ L hL =>
      split at h
      · rename_i m since seen stepped hg
        obtain ⟨L', hL', ho⟩ := hR.obj r _ hg
        rw [hL] at hL'; cases hL'
        obtain ⟨m', o1, o2, o3⟩ := ho
        cases m' with
        | none => exact o2.elim
        | some B =>
          obtain ⟨Lm, hLm, rfl⟩ := o2
          split at h
          · rename_i stamp es clock hst hgm
            obtain ⟨es', g1, g2, g3, g4⟩ := map_get P hR hgm hLm
            cases hc : Nat.beq clock stepped with
            | false => rw [hc] at h; cases h
            | true =>
              rw [hc, cond_true] at h
              have hcs := Nat.eq_of_beq_eq_true hc
              subst hcs
              split at h
              · rename_i e he
                cases h
                obtain ⟨e', f1, f2⟩ := findBorn_rel g2 he
                have hback : seen.toArray.back? = some stamp := by
                  rw [lastOf_eq] at hst
                  simpa using hst
                have hobj : (getObj L.B).run P w = .ok (.mapIter (some Lm.B) since seen.toArray clock) w := by simp [getObj, Sem.run, o1]
                have hf : es'.find? (fun x => x.born == stamp) = some e' := by rw [← Array.find?_toList]; exact f1
                refine ⟨.tuple #[e'.key, e'.val], ?_, f2.pair⟩
                have h0 : L.o + 0 = 0 := by omega
                simp only [Instr.entry, h0, Sem.run_bind, hobj, Result.andThen_ok, hback, g4]
                simp [hf]
              · cases h
          · cases h
      · cases h
  · cases h

theorem LR.filter {α β : Type} {R : α → β → Prop} {p : α → Bool} {q : β → Bool} {l : List α} {r : List β} (h : LR R l r) (hpq : ∀ a b, R a b → p a = q b) : LR R (l.filter p) (r.filter q) := by
  induction h with
  | nil => exact .nil
  | @cons a b l r hab hl ih =>
    rw [List.filter_cons, List.filter_cons, hpq a b hab]
    split
    · exact .cons hab ih
    · exact ih

theorem LR.all_eq {α β : Type} {R : α → β → Prop} {p : α → Bool} {q : β → Bool} {l : List α} {r : List β} (h : LR R l r) (hpq : ∀ a b, R a b → p a = q b) : l.all p = r.all q := by
  induction h with
  | nil => rfl
  | @cons a b l r hab hl ih => simp only [List.all_cons, ih, hpq a b hab]

theorem VRel.triple {ρ : Ren} {a a' b b' c c' : Value} (h : VRel ρ a a') (k : VRel ρ b b') (l : VRel ρ c c') : VRel ρ (.tuple #[a, b, c]) (.tuple #[a', b', c']) := by
  have := VRel.tuple_of (ρ := ρ) (l := [a, b, c]) (r := [a', b', c']) (.cons h (.cons k (.cons l .nil)))
  simpa using this

theorem over_rel {ρ : Ren} : VRel ρ (.tuple #[.bool false]) (.tuple #[.bool false]) := by
  have := VRel.tuple_of (ρ := ρ) (l := [.bool false]) (r := [.bool false]) (.cons (.bool _) .nil)
  simpa using this

theorem choose_mapNext {P : Program} {w : World} {n : Nat} (h : 2 ≤ n) : (choose (.mapNext n)).run P w = .ok ((w.tape w.drawn (.mapNext n)) % n) { w with drawn := w.drawn + 1 } := by
  have hf : (Question.mapNext n).forced = false := by simp [Question.forced]; omega
  rw [run_choose, hf]; rfl

/-- The step over a map, when nothing was put in since the beginning. -/
theorem run_next_map {P : Program} {w : World} {B Bm since : Nat} {seen : Array Nat} {es' : Array MapEntry} {ty : TypeId}
    (hobj : (getObj B).run P w = .ok (.mapIter (some Bm) since seen since) w) (g4 : (getObj Bm).run P w = .ok (.map es' since) w)
    (hgone : (!seen.isEmpty && !es'.isEmpty && es'.all (fun e => decide (e.born ≥ since))) = false)
    (hyoung : ∀ e ∈ es'.filter (fun e : MapEntry => !seen.contains e.born), e.born < since) :
    (Instr.next (.pointer (some ⟨B, 0, none⟩)) false ty).run P w =
      ((choose (.mapNext ((if (es'.filter (fun e : MapEntry => !seen.contains e.born)).isEmpty then (#[none] : Array (Option MapEntry)) else #[]) ++ (es'.filter (fun e : MapEntry => !seen.contains e.born)).map some).size)).run P w).andThen fun c w1 =>
        (match ((if (es'.filter (fun e : MapEntry => !seen.contains e.born)).isEmpty then (#[none] : Array (Option MapEntry)) else #[]) ++ (es'.filter (fun e : MapEntry => !seen.contains e.born)).map some)[c]? with
          | some (some e) => do
            setObj B (.mapIter (some Bm) since (seen.push e.born) since)
            pure (.tuple #[.bool true, e.key, e.val])
          | some none => pure (.tuple #[.bool false])
          | none => stuck "Next: no such candidate" : Sem Value).run P w1 := by
  have h1 : (es'.filter (fun e : MapEntry => !seen.contains e.born)).filter (fun e => decide (e.born < since)) = es'.filter (fun e : MapEntry => !seen.contains e.born) := by
    apply Array.filter_eq_self.2
    intro e he; simpa using hyoung e he
  have h2 : (es'.filter (fun e : MapEntry => !seen.contains e.born)).filter (fun e => decide (e.born ≥ since)) = #[] := by
    apply Array.filter_eq_empty_iff.2
    intro e he; have := hyoung e he; simp; omega
  simp only [Instr.next, Sem.run_bind, hobj, Result.andThen_ok, g4]
  rw [if_neg (by simpa using hgone)]
  rw [h1, h2]
  simp only [Array.append_empty, Sem.run_bind]
  rfl

theorem next_sound {P : Program} {ρ : Ren} {A : ASt} {w : World} (hR : Rep ρ A w) {x x' : Value} {isString : Bool} {ty : TypeId} {Q : Value × ASt → Prop}
    (h : (aNext x isString A).all Q) (hx : VRel ρ x x') :
    ∃ v A' v' w', Q (v, A') ∧ (Instr.next x' isString ty).run P w = .ok v' w' ∧ VRel ρ v v' ∧ Step ρ A w ρ A' w' := by
  unfold aNext at h
  split at h
  · rename_i r
    cases hx with
    | @ptr _ _ L hL =>
      split at h
      · -- a string
        rename_i s pos hg
        obtain ⟨L', hL', ho⟩ := hR.obj r _ hg
        rw [hL] at hL'; cases hL'
        obtain ⟨o1, o3⟩ := ho
        have hlt := (Array.getElem?_eq_some_iff.1 o1).1
        have h0 : L.o + 0 = 0 := by omega
        have hobj : (getObj L.B).run P w = .ok (.stringIter s pos) w := by simp [getObj, Sem.run, o1]
        cases hc : Nat.blt pos s.size with
        | true =>
          rw [hc, cond_true] at h
          have hps : pos < s.size := Nat.le_of_ble_eq_true hc
          obtain ⟨s1, s2⟩ := set_obj P hR (y := .stringIter s (pos + (Utf8.decode s pos).2)) (o' := .siter s (pos + (Utf8.decode s pos).2)) hg hL o1 (by simp) o3 (by simp [AObj.hi, o3]) (by simp [AObj.hi, o3]) ⟨by simp [hlt], o3⟩
          refine ⟨_, _, .tuple #[.bool true, goInt pos, .int .i32 (Utf8.decode s pos).1], _, h, ?_, .triple (.bool _) (.int _ _) (.int _ _), s2⟩
          simp only [Instr.next, h0, Sem.run_bind, hobj, Result.andThen_ok, if_pos hps, s1, Sem.run_pure]
        | false =>
          rw [hc, cond_false] at h
          have hps : ¬ pos < s.size := fun hlt' => by
            have : Nat.blt pos s.size = true := Nat.ble_eq_true_of_le hlt'
            rw [this] at hc; cases hc
          refine ⟨_, _, .tuple #[.bool false], w, h, ?_, over_rel, .refl hR⟩
          simp only [Instr.next, h0, Sem.run_bind, hobj, Result.andThen_ok, if_neg hps, Sem.run_pure]
      · -- a nil map
        rename_i s1 s2 s3 hg
        obtain ⟨L', hL', ho⟩ := hR.obj r _ hg
        rw [hL] at hL'; cases hL'
        obtain ⟨m', o1, o2, o3⟩ := ho
        cases m' with
        | some B => exact o2.elim
        | none =>
          have h0 : L.o + 0 = 0 := by omega
          have hobj : (getObj L.B).run P w = .ok (.mapIter none s1 s2.toArray s3) w := by simp [getObj, Sem.run, o1]
          refine ⟨_, _, .tuple #[.bool false], w, h, ?_, over_rel, .refl hR⟩
          simp only [Instr.next, h0, Sem.run_bind, hobj, Result.andThen_ok, Sem.run_pure]
      · rename_i m since seen last hg
        obtain ⟨L', hL', ho⟩ := hR.obj r _ hg
        rw [hL] at hL'; cases hL'
        obtain ⟨m', o1, o2, o3⟩ := ho
        cases m' with
        | none => exact o2.elim
        | some B =>
          obtain ⟨Lm, hLm, rfl⟩ := o2
          have h0 : L.o + 0 = 0 := by omega
          have hltL := (Array.getElem?_eq_some_iff.1 o1).1
          split at h
          · rename_i es clock hgm
            obtain ⟨es', g1, g2, g3, g4⟩ := map_get P hR hgm hLm
            simp only [] at h
            cases hcl : (Nat.beq clock last && Nat.beq since last) with
            | false => rw [hcl] at h; exact h.elim
            | true =>
              rw [hcl, cond_true] at h
              rw [Bool.and_eq_true] at hcl
              have e1 := Nat.eq_of_beq_eq_true hcl.1
              have e2 := Nat.eq_of_beq_eq_true hcl.2
              subst e1
              subst e2
              have hobj : (getObj L.B).run P w = .ok (.mapIter (some Lm.B) since seen.toArray since) w := by simp [getObj, Sem.run, o1]
              have hleft : LR (EntRel ρ) (entriesLeft seen es) (es'.filter fun e => !seen.toArray.contains e.born).toList := by
                rw [Array.toList_filter]
                exact g2.filter fun a b hab => by simp [hab.born]
              have hall : es'.all (fun e => decide (e.born ≥ since)) = es.all (fun e => decide (e.born ≥ since)) := by
                rw [← Array.all_toList]
                exact (g2.all_eq fun a b hab => by rw [hab.born]).symm
              have hemp : es'.isEmpty = es.isEmpty := by
                have := g2.length
                cases es with
                | nil => simp only [List.length_nil, Array.length_toList] at this; have e : es' = #[] := Array.eq_empty_of_size_eq_zero this.symm; rw [e]; rfl
                | cons a l => simp only [List.length_cons, Array.length_toList] at this; simp; intro e; rw [e] at this; simp at this
              have hseen : seen.toArray.isEmpty = seen.isEmpty := by simp
              -- what is left, all of it old
              have hgone : (seen.isEmpty || (es.isEmpty || !(es.all fun e => decide (e.born ≥ since)))) = true → (!seen.toArray.isEmpty && !es'.isEmpty && es'.all (fun e => decide (e.born ≥ since))) = false := by
                intro hh
                rw [hseen, hemp, hall]
                revert hh
                cases seen.isEmpty <;> cases es.isEmpty <;> cases es.all (fun e => decide (e.born ≥ since)) <;> simp
              have hgone' : (seen.isEmpty || !(es.all fun e => decide (e.born ≥ since))) = true → (!seen.toArray.isEmpty && !es'.isEmpty && es'.all (fun e => decide (e.born ≥ since))) = false := fun hh => hgone (by
                revert hh
                cases seen.isEmpty <;> cases es.isEmpty <;> cases es.all (fun e => decide (e.born ≥ since)) <;> simp)
              -- a step to an entry, in a world whose heap is this one's
              have step : ∀ (w1 : World) (e e' : MapEntry), Rep ρ A w1 → w1.heap = w.heap → EntRel ρ e e' →
                  ∃ w2, (do setObj L.B (.mapIter (some Lm.B) since (seen.toArray.push e'.born) since); pure (Value.tuple #[.bool true, e'.key, e'.val]) : Sem Value).run P w1 = .ok (.tuple #[.bool true, e'.key, e'.val]) w2 ∧
                    VRel ρ (.tuple #[.bool true, e.key, e.val]) (.tuple #[.bool true, e'.key, e'.val]) ∧ Step ρ A w1 ρ (A.set r (.miter (some m) since (seen ++ [e.born]) since)) w2 := by
                intro w1 e e' hR1 hheap hee
                have o1' : w1.heap[L.B]? = some (.mapIter (some Lm.B) since seen.toArray since) := by rw [hheap]; exact o1
                have hlt1 : L.B < w1.heap.size := by rw [hheap]; exact hltL
                obtain ⟨s1, s2⟩ := set_obj P hR1 (y := .mapIter (some Lm.B) since (seen.toArray.push e'.born) since) (o' := .miter (some m) since (seen ++ [e.born]) since) hg hL o1' (by simp) o3 (by simp [AObj.hi, o3]) (by simp [AObj.hi, o3])
                  ⟨some Lm.B, by simp [hlt1, hee.born], ⟨Lm, hLm, rfl⟩, o3⟩
                refine ⟨_, ?_, ?_, s2⟩
                · simp only [Sem.run_bind, s1, Result.andThen_ok, Sem.run_pure]
                · rw [hee.key]; exact .triple (.bool _) (.refl_flat hee.flat) hee.val
              generalize hlf : entriesLeft seen es = left at h hleft
              generalize hlf' : (es'.filter fun e => !seen.toArray.contains e.born) = left' at hleft
              split at h
              · -- over
                cases hcc : (seen.isEmpty || (es.isEmpty || !(es.all fun e => decide (e.born ≥ since)))) with
                | false => rw [hcc] at h; exact h.elim
                | true =>
                  rw [hcc, cond_true] at h
                  have hl0 : left' = #[] := by cases hleft' : left'.toList with
                    | nil => exact Array.ext' hleft'
                    | cons a l => rw [hleft'] at hleft; cases hleft
                  subst hl0
                  have hrun := run_next_map (P := P) (w := w) (ty := ty) hobj g4 (hgone hcc) (by rw [hlf']; intro e he; simp at he)
                  refine ⟨_, _, .tuple #[.bool false], w, h, ?_, over_rel, .refl hR⟩
                  rw [h0, hrun, hlf']
                  simp [Question.forced]
              · rename_i e
                cases hcc : (decide (e.born < since) && (seen.isEmpty || !(es.all fun e => decide (e.born ≥ since)))) with
                | false => rw [hcc] at h; exact h.elim
                | true =>
                  rw [hcc, cond_true] at h
                  rw [Bool.and_eq_true] at hcc
                  obtain ⟨e', hl1, hee⟩ : ∃ e', left' = #[e'] ∧ EntRel ρ e e' := by
                    cases hleft' : left'.toList with
                    | nil => rw [hleft'] at hleft; cases hleft
                    | cons a l =>
                      rw [hleft'] at hleft
                      cases hleft with
                      | cons hab hl => cases hl; exact ⟨a, Array.ext' hleft', hab⟩
                  subst hl1
                  have hrun := run_next_map (P := P) (w := w) (ty := ty) hobj g4 (hgone' hcc.2) (by
                    rw [hlf']; intro x hx; simp at hx; subst hx; rw [hee.born]; simpa using hcc.1)
                  obtain ⟨w2, s1, s2, s3⟩ := step w e e' hR rfl hee
                  refine ⟨_, _, _, w2, h, ?_, s2, s3⟩
                  rw [h0, hrun, hlf']
                  simp only [List.isEmpty_toArray, List.isEmpty_cons, Bool.false_eq_true, if_false, List.map_toArray, List.map_cons, List.map_nil, List.append_toArray, List.nil_append, run_choose, Question.forced]
                  simp only [List.size_toArray, List.length_cons, List.length_nil]
                  rw [if_pos (by decide)]
                  simp only [Result.andThen_ok, List.getElem?_toArray, List.getElem?_cons_zero]
                  exact s1
              · rename_i hn0 hn1
                cases hcc : (left.all (fun e => decide (e.born < since)) && (seen.isEmpty || !(es.all fun e => decide (e.born ≥ since)))) with
                | false => rw [hcc] at h; exact h.elim
                | true =>
                  rw [hcc, cond_true] at h
                  rw [Bool.and_eq_true] at hcc
                  have hlen := hleft.length
                  have hlen2 : 2 ≤ left.length := by
                    match left, hn0, hn1 with
                    | [], hn0, _ => exact absurd rfl hn0
                    | [a], _, hn1 => exact absurd rfl (hn1 a)
                    | a :: b :: l, _, _ => simp
                  have hyoung : ∀ e ∈ left', e.born < since := by
                    have : left'.toList.all (fun e => decide (e.born < since)) = true := by
                      rw [← hleft.all_eq (p := fun e => decide (e.born < since)) fun a b hab => by rw [hab.born]]
                      exact hcc.1
                    intro e he
                    have := List.all_eq_true.1 this e (by simpa using he)
                    simpa using this
                  have hrun := run_next_map (P := P) (w := w) (ty := ty) hobj g4 (hgone' hcc.2) (by rw [hlf']; exact hyoung)
                  -- the tape's answer
                  have hsz : left'.size = left.length := by simpa using hlen.symm
                  have hne : left'.isEmpty = false := by
                    cases hb : left'.isEmpty with
                    | false => rfl
                    | true =>
                      have h0 : left' = #[] := by simpa using hb
                      have h1 : left'.size = 0 := by rw [h0]; rfl
                      omega
                  let w1 : World := { w with drawn := w.drawn + 1 }
                  obtain ⟨c, hclt, hch⟩ : ∃ c, c < left.length ∧ (choose (.mapNext left'.size)).run P w = .ok c w1 := by
                    refine ⟨(w.tape w.drawn (.mapNext left'.size)) % left'.size, by rw [hsz]; exact Nat.mod_lt _ (by omega), choose_mapNext (by omega)⟩
                  have hq := h c hclt
                  have hget : left[c]? = some left[c] := List.getElem?_eq_getElem hclt
                  simp only [nth_eq, hget] at hq
                  obtain ⟨e', hce, hee⟩ := hleft.get c _ hget
                  obtain ⟨w2, s1, s2, s3⟩ := step w1 left[c] e' (hR.of_heap rfl) rfl hee
                  refine ⟨_, _, _, w2, hq, ?_, s2, (Step.drew hR).trans s3⟩
                  rw [h0, hrun, hlf', hne]
                  simp only [Bool.false_eq_true, if_false, Array.empty_append, Array.size_map, hch, Result.andThen_ok]
                  have hce' : (left'.map some)[c]? = some (some e') := by
                    have : left'[c]? = some e' := by simpa using hce
                    simp [this]
                  rw [hce']
                  exact s1
          · exact h.elim
      · exact h.elim
  · exact h.elim

end Go.AE
