/- The evaluator: a step of a part of the heap is a step of the whole. -/
import Derived.Test.YthacgilphddekaaGreatDoorAeCtl
namespace Go.AE
open Go

theorem Rep.sub {ρ : Ren} {A G : ASt} {w : World} (h : Rep ρ A w) (hs : ∀ b o, G.get b = some o → A.get b = some o) (hn : G.next = A.next) : Rep ρ G w :=
  ⟨fun b o hb => h.obj b o (hs b o hb), fun b b' o o' L L' hne hb hb' => h.apart b b' o o' L L' hne (hs _ _ hb) (hs _ _ hb'), fun b hb => h.fresh b (by omega)⟩

theorem Owned.sub {ρ : Ren} {A G : ASt} {B j : Nat} (hs : ∀ b o, G.get b = some o → A.get b = some o) (h : Owned ρ G B j) : Owned ρ A B j :=
  let ⟨b, o, L, hb, r⟩ := h
  ⟨b, o, L, hs _ _ hb, r⟩

/-- What lies outside the part stays where it is. -/
theorem Step.kept {ρ ρ' : Ren} {A G G' : ASt} {w w' : World} (hR : Rep ρ A w) (hsub : ∀ b o, G.get b = some o → A.get b = some o) (hs : Step ρ G w ρ' G' w') {b : Nat} {o : AObj} {L : Loc} (hb : A.get b = some o) (hG : G.get b = none) (hL : ρ b = some L)
    (ho : ORel ρ o L w) : ORel ρ' o L w' := by
  have hno : ∀ j, L.o ≤ j → j < o.hi L → ¬ Owned ρ G L.B j := by
    rintro j h1 h2 ⟨b', o', L', hb', hL', hB, h3, h4⟩
    have hne : b ≠ b' := fun e => by subst e; rw [hG] at hb'; cases hb'
    exact hR.apart b b' o o' L L' hne hb (hsub _ _ hb') hL hL' hB.symm j h1 h2 h3 h4
  cases o with
  | row c sz tail =>
    obtain ⟨cells, el, lo, hi, e1, e2, e3, e4, e5, e6⟩ := ho
    obtain ⟨cells', f1, f2, f3⟩ := hs.cells L.B cells el (lo, hi) e1
    refine ⟨cells', el, lo, hi, f1, by omega, e3, e4, fun i v hv => ?_, e6⟩
    obtain ⟨v', hv', hr⟩ := e5 i v hv
    refine ⟨v', ?_, hr.mono hs.ext⟩
    rw [f3 (L.o + i) (hno (L.o + i) (by omega) ?_)]
    · exact hv'
    · have hi' : i < c.length := (List.getElem?_eq_some_iff.1 hv).1
      simp only [AObj.hi]
      split <;> omega
  | map es clock =>
    obtain ⟨es', e1, e2, e3⟩ := ho
    have := hs.objs L.B _ e1 (by simp) (hno 0 (by omega) (by simp [AObj.hi]))
    exact ⟨es', this, LR.mono (fun _ _ e => ⟨e.key, e.flat, e.val.mono hs.ext, e.born⟩) e2, e3⟩
  | miter m since seen stepped =>
    obtain ⟨m', e1, e2, e3⟩ := ho
    have := hs.objs L.B _ e1 (by simp) (hno 0 (by omega) (by simp [AObj.hi]))
    refine ⟨m', this, ?_, e3⟩
    cases m <;> cases m' <;> simp only [optLoc] at e2 ⊢
    obtain ⟨L2, hL2, e⟩ := e2
    exact ⟨L2, hs.ext _ _ hL2, e⟩
  | siter s pos =>
    obtain ⟨e1, e3⟩ := ho
    exact ⟨hs.objs L.B _ e1 (by simp) (hno 0 (by omega) (by simp [AObj.hi])), e3⟩
  | loop n T ps as b st j =>
    obtain ⟨r, e1, e2, e3, e4, e5⟩ := ho
    exact ⟨r, hs.objs L.B _ e1 (by simp) (hno 0 (by omega) (by simp [AObj.hi])), e2, e3, fun t => (e4 t).mono hs.ext, e5⟩

theorem Step.frame {ρ ρ' : Ren} {A A' G G' : ASt} {w w' : World} (hR : Rep ρ A w) (hsub : ∀ b o, G.get b = some o → A.get b = some o) (hnext : G.next = A.next) (hs : Step ρ G w ρ' G' w')
    (hA' : ∀ b, A'.get b = match G'.get b with
      | some o => some o
      | none => if (G.get b).isSome then none else A.get b) (hn' : A'.next = G'.next) : Step ρ A w ρ' A' w' := by
  have cases' : ∀ b o, A'.get b = some o → G'.get b = some o ∨ (G'.get b = none ∧ G.get b = none ∧ A.get b = some o) := by
    intro b o hb
    rw [hA'] at hb
    cases hg : G'.get b with
    | some x => rw [hg] at hb; left; exact hb
    | none =>
      rw [hg] at hb
      cases hg2 : G.get b with
      | some x => rw [hg2] at hb; simp at hb
      | none => rw [hg2] at hb; simp at hb; exact .inr ⟨rfl, rfl, hb⟩
  -- an owned cell of the part against a block outside
  have clash : ∀ b b' o o' L L', G'.get b = some o → ρ' b = some L → G.get b' = none → A.get b' = some o' → ρ b' = some L' → L.B = L'.B → ∀ j, L.o ≤ j → j < o.hi L → L'.o ≤ j → j < o'.hi L' → False := by
    intro b b' o o' L L' hb hL hG hb' hL' hB j h1 h2 h3 h4
    obtain ⟨L2, hL2, ho2⟩ := hR.obj b' o' hb'
    rw [hL'] at hL2; cases hL2
    have hlt : L.B < w.heap.size := by rw [hB]; exact ho2.block
    obtain ⟨c, x, M, hc, hM, hMB, g1, g2⟩ := hs.owns L.B j hlt ⟨b, o, L, hb, hL, rfl, h1, h2⟩
    have hne : c ≠ b' := fun e => by subst e; rw [hG] at hc; cases hc
    exact hR.apart c b' x o' M L' hne (hsub _ _ hc) hb' hM hL' (by omega) j g1 g2 h3 h4
  refine ⟨⟨⟨?_, ?_, ?_⟩, hs.ext, by have := hs.next; omega, hs.size, hs.os, hs.tape, hs.output, ?_, ?_, ?_⟩, fun b hb => hs.keep b (by omega), ?_⟩
  · intro b o hb
    rcases cases' b o hb with h | ⟨_, h2, h3⟩
    · exact hs.rep.obj b o h
    · obtain ⟨L, hL, ho⟩ := hR.obj b o h3
      exact ⟨L, hs.ext _ _ hL, hs.kept hR hsub h3 h2 hL ho⟩
  · intro b b' o o' L L' hne hb hb' hL hL' hB j h1 h2 h3 h4
    rcases cases' b o hb with h | ⟨_, g2, g3⟩
    · rcases cases' b' o' hb' with h' | ⟨_, g2', g3'⟩
      · exact hs.rep.apart b b' o o' L L' hne h h' hL hL' hB j h1 h2 h3 h4
      · obtain ⟨M, hM, _⟩ := hR.obj b' o' g3'
        have := hs.ext _ _ hM; rw [this] at hL'; cases hL'
        exact clash b b' o o' L _ h hL g2' g3' hM hB j h1 h2 h3 h4
    · obtain ⟨M, hM, _⟩ := hR.obj b o g3
      have := hs.ext _ _ hM; rw [this] at hL; cases hL
      rcases cases' b' o' hb' with h' | ⟨_, g2', g3'⟩
      · exact clash b' b o' o L' _ h' hL' g2 g3 hM hB.symm j h3 h4 h1 h2
      · obtain ⟨M', hM', _⟩ := hR.obj b' o' g3'
        have := hs.ext _ _ hM'; rw [this] at hL'; cases hL'
        exact hR.apart b b' o o' _ _ hne g3 g3' hM hM' hB j h1 h2 h3 h4
  · intro b hb
    exact hs.rep.fresh b (by omega)
  · intro B cells el fr hB
    obtain ⟨c', h1, h2, h3⟩ := hs.cells B cells el fr hB
    exact ⟨c', h1, h2, fun j hj => h3 j fun ho => hj (ho.sub hsub)⟩
  · intro B o hB hne hno
    exact hs.objs B o hB hne fun ho => hno (ho.sub hsub)
  · rintro B j hB ⟨b, o, L, hb, hL, hLB, h1, h2⟩
    rcases cases' b o hb with h | ⟨_, g2, g3⟩
    · exact (hs.owns B j hB ⟨b, o, L, h, hL, hLB, h1, h2⟩).sub hsub
    · obtain ⟨M, hM, _⟩ := hR.obj b o g3
      have := hs.ext _ _ hM; rw [this] at hL; cases hL
      exact ⟨b, o, _, g3, hM, hLB, h1, h2⟩
  · intro b hb hn
    have hg : G.get b = none := by
      cases hg : G.get b with
      | none => rfl
      | some o => rw [hsub _ _ hg] at hn; cases hn
    rw [hA', hs.dom b (by omega) hg, hg]
    exact hn

/-- Operations that are quiet leave the heap, and ask nothing of its next number. -/
theorem quiet_spec {E : Env} {o : Op} (hq : quietOp E o = true) (T : Tmps) (h : Tr AObj) : ∃ r : Option Value, ∃ why, ∀ n, aOp E o T { heap := h, next := n } = ofVal r { heap := h, next := n } why := by
  have bad : ∀ why, ∃ r : Option Value, ∃ why', ∀ n, (AR.bad why : AR) = ofVal r { heap := h, next := n } why' := fun why => ⟨none, why, fun n => rfl⟩
  simp only [aOp_def]
  cases o <;> simp only [quietOp] at hq <;> first
    | (cases hq; done)
    | skip
  case move x => exact ⟨ev T x, _, fun n => rfl⟩
  case assign x => exact ⟨ev T x, _, fun n => rfl⟩
  case pick c a b =>
    simp only [freshOp, cond_false, aOpR]
    cases ev T c with
    | none => exact bad _
    | some v => cases v <;> first | exact bad _ | exact ⟨_, _, fun n => rfl⟩
  case build t ps =>
    simp only [freshOp, cond_false, aOpR]
    cases evPairs T ps.toList with
    | none => exact bad _
    | some l => exact ⟨_, _, fun n => rfl⟩
  case load t a =>
    simp only [freshOp, cond_false, aOpR]
    cases ev T a with
    | none => exact bad _
    | some v => exact ⟨aLoad E t v { heap := h, next := 0 }, _, fun n => rfl⟩
  case nilCheck x =>
    simp only [freshOp, cond_false, aOpR]
    cases ev T x with
    | none => exact bad _
    | some v => exact ⟨_, _, fun n => rfl⟩
  case binOp op t x y yt =>
    simp only [freshOp, cond_false, aOpR]
    cases ev T x with
    | none => exact bad _
    | some v => cases ev T y with
      | none => exact bad _
      | some u => exact ⟨_, _, fun n => rfl⟩
  case unOp op t x =>
    simp only [freshOp, cond_false, aOpR]
    cases ev T x with
    | none => exact bad _
    | some v => exact ⟨_, _, fun n => rfl⟩
  case convert s d x =>
    have hf : freshOp E (.convert s d x) = false := by cases hh : freshOp E (.convert s d x) <;> simp_all
    rw [hf]
    simp only [cond_false, aOpR]
    cases ev T x with
    | none => exact bad _
    | some v => exact ⟨aConvert E s d v { heap := h, next := 0 }, _, fun n => rfl⟩
  case makeInterface t x =>
    simp only [freshOp, cond_false, aOpR]
    cases ev T x with
    | none => exact bad _
    | some v => exact ⟨_, _, fun n => rfl⟩
  case makeFunc fn f c =>
    simp only [freshOp, cond_false, aOpR]
    cases evs T f.toList with
    | none => exact bad _
    | some v => cases evs T c.toList with
      | none => exact bad _
      | some u => cases hny : notYield fn with
        | false => exact bad _
        | true => exact ⟨some (.func fn v.toArray u.toArray), "", fun n => rfl⟩
  case slice t x lo hi mx =>
    simp only [freshOp, cond_false, aOpR]
    cases ev T x with
    | none => exact bad _
    | some v => cases evOpt T lo with
      | none => exact bad _
      | some a => cases evOpt T hi with
        | none => exact bad _
        | some b => cases evOpt T mx with
          | none => exact bad _
          | some c => exact ⟨aSlice E t v a b c { heap := h, next := 0 }, _, fun n => rfl⟩
  case fieldAddr t x f =>
    simp only [freshOp, cond_false, aOpR]
    cases ev T x with
    | none => exact bad _
    | some v => exact ⟨_, _, fun n => rfl⟩
  case field t x f =>
    simp only [freshOp, cond_false, aOpR]
    cases ev T x with
    | none => exact bad _
    | some v => exact ⟨_, _, fun n => rfl⟩
  case indexAddr t x i =>
    simp only [freshOp, cond_false, aOpR]
    cases ev T x with
    | none => exact bad _
    | some v => cases ev T i with
      | none => exact bad _
      | some u => exact ⟨_, _, fun n => rfl⟩
  case index t x i =>
    simp only [freshOp, cond_false, aOpR]
    cases ev T x with
    | none => exact bad _
    | some v => cases ev T i with
      | none => exact bad _
      | some u => exact ⟨_, _, fun n => rfl⟩
  case lookup t x k ok =>
    simp only [freshOp, cond_false, aOpR]
    cases ev T x with
    | none => exact bad _
    | some v => cases ev T k with
      | none => exact bad _
      | some u => exact ⟨aLookup E t v u ok { heap := h, next := 0 }, _, fun n => rfl⟩
  case entry it =>
    simp only [freshOp, cond_false, aOpR]
    cases ev T it with
    | none => exact bad _
    | some v => exact ⟨aEntry v { heap := h, next := 0 }, _, fun n => rfl⟩
  case typeAssert x s t ok =>
    simp only [freshOp, cond_false, aOpR]
    cases ev T x with
    | none => exact bad _
    | some v => exact ⟨_, _, fun n => rfl⟩
  case extract t i =>
    simp only [freshOp, cond_false, aOpR]
    cases ev T t with
    | none => exact bad _
    | some v => exact ⟨_, _, fun n => rfl⟩
  case call c =>
    simp only [freshOp, cond_false, aOpR, aCall]
    cases evs T c.args.toList with
    | none => exact bad _
    | some args =>
      simp only []
      split at hq <;> first
        | (cases hq; done)
        | skip
      all_goals
        rename_i hc
        rw [hc]
        simp only []
      · rcases c.argTypes.toList with _ | ⟨t, l⟩
        · exact bad "builtin"
        · rcases args with _ | ⟨x, _ | ⟨y, r⟩⟩
          · exact bad "builtin"
          · exact ⟨aLen E t x { heap := h, next := 0 }, "len", fun n => rfl⟩
          · exact bad "builtin"
      · rcases c.argTypes.toList with _ | ⟨t, l⟩
        · exact bad "builtin"
        · rcases args with _ | ⟨x, _ | ⟨y, r⟩⟩
          · exact bad "builtin"
          · exact ⟨aCap E t x, "cap", fun n => rfl⟩
          · exact bad "builtin"
      · exact ⟨minMax false args, "min", fun n => by rcases c.argTypes.toList with _ | ⟨t, l⟩ <;> rcases args with _ | ⟨x, _ | ⟨y, r⟩⟩ <;> rfl⟩
      · exact ⟨minMax true args, "max", fun n => by rcases c.argTypes.toList with _ | ⟨t, l⟩ <;> rcases args with _ | ⟨x, _ | ⟨y, r⟩⟩ <;> rfl⟩

/-- What an operation comes to hangs on what it looks at. -/
theorem tmpsOf_mem : ∀ {l : List Operand} {t : Tmp}, Operand.tmp t ∈ l → t ∈ tmpsOf l
  | x :: l, t, h => by
    rcases List.mem_cons.1 h with e | h
    · subst e; simp [tmpsOf]
    · have := tmpsOf_mem h
      cases x <;> simp [tmpsOf, this]

theorem ev_congr {T T' : Tmps} {x : Operand} (h : ∀ t, x = .tmp t → tget T t = tget T' t) : ev T x = ev T' x := by
  cases x with
  | tmp t => simp only [ev, h t rfl]
  | _ => rfl

theorem evs_congr {T T' : Tmps} : ∀ {l : List Operand}, (∀ t, Operand.tmp t ∈ l → tget T t = tget T' t) → evs T l = evs T' l
  | [], _ => rfl
  | x :: l, h => by
    unfold evs
    rw [ev_congr (T := T) (T' := T') (x := x) fun t e => h t (by simp [e]), evs_congr (l := l) fun t ht => h t (by simp [ht])]

theorem evPairs_congr {T T' : Tmps} : ∀ {l : List (Nat × Operand)}, (∀ t, Operand.tmp t ∈ l.map (·.2) → tget T t = tget T' t) → evPairs T l = evPairs T' l
  | [], _ => rfl
  | (i, x) :: l, h => by
    unfold evPairs
    rw [ev_congr (T := T) (T' := T') (x := x) fun t e => h t (by simp [e]), evPairs_congr (l := l) fun t ht => h t (by simp at ht ⊢; exact .inr ht)]

theorem evOpt_congr {T T' : Tmps} {x : Option Operand} (h : ∀ t, x = some (.tmp t) → tget T t = tget T' t) : evOpt T x = evOpt T' x := by
  cases x with
  | none => rfl
  | some x => simp only [evOpt]; rw [ev_congr (T := T) (T' := T') (x := x) fun t e => h t (by rw [e])]

theorem aCall_congr {E : Env} {T T' : Tmps} {c : Call} {A : ASt} (h : ∀ t, Operand.tmp t ∈ c.operands.toList → tget T t = tget T' t) : aCall E T c A = aCall E T' c A := by
  unfold aCall
  have h1 : evs T c.args.toList = evs T' c.args.toList := evs_congr fun t ht => h t (by simp [Call.operands]; right; simpa using ht)
  rw [h1]
  cases evs T' c.args.toList with
  | none => rfl
  | some args =>
    simp only []
    cases hc : c.callee with
    | builtin b => rfl
    | invoke r name =>
      simp only []
      rw [ev_congr (T := T) (T' := T') (x := r) fun t e => h t (by simp [Call.operands, hc, e])]
    | value f =>
      simp only []
      rw [ev_congr (T := T) (T' := T') (x := f) fun t e => h t (by simp [Call.operands, hc, e])]

theorem aOp_congr {E : Env} {T T' : Tmps} {o : Op} {A : ASt} (h : ∀ t, Operand.tmp t ∈ o.operands.toList → tget T t = tget T' t) : aOp E o T A = aOp E o T' A ∧ aFresh E o T = aFresh E o T' := by
  have e : ∀ x : Operand, x ∈ o.operands.toList → ev T x = ev T' x := fun x hx => ev_congr fun t e => h t (e ▸ hx)
  simp only [aOp_def]
  cases o <;> simp only [Op.operands] at h e <;> simp only [aOpR, aFresh]
  case alloc => exact ⟨trivial, trivial⟩
  case move x => rw [e x (by simp)]; exact ⟨by first | rfl | trivial, by first | rfl | trivial⟩
  case assign x => rw [e x (by simp)]; exact ⟨by first | rfl | trivial, by first | rfl | trivial⟩
  case box t x => rw [e x (by simp)]; exact ⟨by first | rfl | trivial, by first | rfl | trivial⟩
  case load t x => rw [e x (by simp)]; exact ⟨by first | rfl | trivial, by first | rfl | trivial⟩
  case nilCheck x => rw [e x (by simp)]; exact ⟨by first | rfl | trivial, by first | rfl | trivial⟩
  case unOp op t x => rw [e x (by simp)]; exact ⟨by first | rfl | trivial, by first | rfl | trivial⟩
  case convert s t x => rw [e x (by simp)]; exact ⟨by first | rfl | trivial, by first | rfl | trivial⟩
  case makeInterface t x => rw [e x (by simp)]; exact ⟨by first | rfl | trivial, by first | rfl | trivial⟩
  case fieldAddr t x f => rw [e x (by simp)]; exact ⟨by first | rfl | trivial, by first | rfl | trivial⟩
  case field t x f => rw [e x (by simp)]; exact ⟨by first | rfl | trivial, by first | rfl | trivial⟩
  case range t x => rw [e x (by simp)]; exact ⟨by first | rfl | trivial, by first | rfl | trivial⟩
  case entry x => rw [e x (by simp)]; exact ⟨by first | rfl | trivial, by first | rfl | trivial⟩
  case typeAssert x s t ok => rw [e x (by simp)]; exact ⟨by first | rfl | trivial, by first | rfl | trivial⟩
  case extract x i => rw [e x (by simp)]; exact ⟨by first | rfl | trivial, by first | rfl | trivial⟩
  case pick c a b => rw [e c (by simp), e a (by simp), e b (by simp)]; exact ⟨by first | rfl | trivial, by first | rfl | trivial⟩
  case build t ps => rw [evPairs_congr (T := T) (T' := T') (l := ps.toList) fun t ht => h t (by simpa using ht)]; exact ⟨by first | rfl | trivial, by first | rfl | trivial⟩
  case buildSlice t n ps => rw [evPairs_congr (T := T) (T' := T') (l := ps.toList) fun t ht => h t (by simpa using ht)]; exact ⟨by first | rfl | trivial, by first | rfl | trivial⟩
  case store t a x => rw [e a (by simp), e x (by simp)]; exact ⟨by first | rfl | trivial, by first | rfl | trivial⟩
  case binOp op t a x ty => rw [e a (by simp), e x (by simp)]; exact ⟨by first | rfl | trivial, by first | rfl | trivial⟩
  case makeSlice t a x => rw [e a (by simp), e x (by simp)]; exact ⟨by first | rfl | trivial, by first | rfl | trivial⟩
  case indexAddr t a x => rw [e a (by simp), e x (by simp)]; exact ⟨by first | rfl | trivial, by first | rfl | trivial⟩
  case index t a x => rw [e a (by simp), e x (by simp)]; exact ⟨by first | rfl | trivial, by first | rfl | trivial⟩
  case lookup t a x ok => rw [e a (by simp), e x (by simp)]; exact ⟨by first | rfl | trivial, by first | rfl | trivial⟩
  case mapEntry t a x => rw [e a (by simp), e x (by simp)]; exact ⟨by first | rfl | trivial, by first | rfl | trivial⟩
  case makeFunc fn f c =>
    rw [evs_congr (T := T) (T' := T') (l := f.toList) fun t ht => h t (by simp; left; simpa using ht), evs_congr (T := T) (T' := T') (l := c.toList) fun t ht => h t (by simp; right; simpa using ht)]
    exact ⟨by first | rfl | trivial, by first | rfl | trivial⟩
  case makeMap t r => cases r <;> exact ⟨by first | rfl | trivial, by first | rfl | trivial⟩
  case slice t x lo hi mx =>
    rw [e x (by simp), evOpt_congr (T := T) (T' := T') (x := lo) fun t e => h t (by simp [e]), evOpt_congr (T := T) (T' := T') (x := hi) fun t e => h t (by simp [e]), evOpt_congr (T := T) (T' := T') (x := mx) fun t e => h t (by simp [e])]
    exact ⟨by first | rfl | trivial, by first | rfl | trivial⟩
  case mapUpdate t m k x => rw [e m (by simp), e k (by simp), e x (by simp)]; exact ⟨by first | rfl | trivial, by first | rfl | trivial⟩
  case insert t m k x => rw [e m (by simp), e k (by simp), e x (by simp)]; exact ⟨by first | rfl | trivial, by first | rfl | trivial⟩
  case entryStore t m k x => rw [e m (by simp), e k (by simp), e x (by simp)]; exact ⟨by first | rfl | trivial, by first | rfl | trivial⟩
  case call c => rw [aCall_congr h]; exact ⟨by first | rfl | trivial, by first | rfl | trivial⟩
  all_goals exact ⟨by first | rfl | trivial, by first | rfl | trivial⟩

/-- The same, of an operation that may be 'next' or a call. -/
theorem oneOp_congr {E : Env} {call : Tgt → List Value → ASt → Nd (Value × ASt)} {T T' : Tmps} {o : Oper} {A : ASt} (h : ∀ t, Operand.tmp t ∈ o.op.operands.toList → tget T t = tget T' t) : oneOp E call o T A = oneOp E call o T' A := by
  unfold oneOp
  split
  · rename_i it isString hop
    rw [ev_congr (T := T) (T' := T') (x := it) fun t e => h t (by rw [hop]; simp [Op.operands, e])]
  · rw [(aOp_congr (E := E) (A := A) h).1]

end Go.AE
