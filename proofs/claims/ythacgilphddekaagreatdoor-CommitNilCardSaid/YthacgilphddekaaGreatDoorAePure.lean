/- The evaluator: operations on values alone. -/
import Derived.Test.YthacgilphddekaaGreatDoorAeNew
import Derived.Laws.BytesString
import Derived.Laws.Strings
namespace Go.AE
open Go

theorem kind_eq {k k' : IntKind} (h : Nat.beq k.ctorIdx k'.ctorIdx = true) : k = k' := by
  cases k <;> cases k' <;> first | rfl | (exact absurd h (by decide))

theorem bytesEq_eq : ∀ (l r : List UInt8), bytesEq l r = (l == r)
  | [], [] => rfl
  | [], _ :: _ => rfl
  | _ :: _, [] => rfl
  | a :: l, b :: r => by
    simp only [bytesEq, bytesEq_eq l r]
    cases h : Nat.beq a.toNat b.toNat with
    | true => have : a = b := UInt8.toNat_inj.1 (Nat.eq_of_beq_eq_true h); subst this; simp
    | false =>
      have : a ≠ b := fun e => Nat.ne_of_beq_eq_false h (by rw [e])
      simp [this]

theorem bytesLt_eq : ∀ (l r : List UInt8), bytesLt l r = Op.bytesLess l r
  | [], [] => by simp [bytesLt, Op.bytesLess]
  | [], _ :: _ => by simp [bytesLt, Op.bytesLess]
  | _ :: _, [] => by simp [bytesLt, Op.bytesLess]
  | a :: l, b :: r => by
    simp only [bytesLt, Op.bytesLess, bytesLt_eq l r]
    cases h : Nat.beq a.toNat b.toNat with
    | true => have : a = b := UInt8.toNat_inj.1 (Nat.eq_of_beq_eq_true h); subst this; simp
    | false =>
      have hne : a ≠ b := fun e => Nat.ne_of_beq_eq_false h (by rw [e])
      simp only [cond_false]
      have : (a == b) = false := by simp [hne]
      rw [this]
      simp only [Bool.false_and, Bool.or_false]
      rw [Bool.eq_iff_iff]
      simp [Nat.blt, UInt8.lt_iff_toNat_lt]
      omega

theorem less_total : ∀ (l r : List UInt8), (Op.bytesLess l r || l == r) = !Op.bytesLess r l
  | [], [] => by simp [Op.bytesLess]
  | [], _ :: _ => by simp [Op.bytesLess]
  | _ :: _, [] => by simp [Op.bytesLess]
  | a :: l, b :: r => by
    have ih := less_total l r
    simp only [Op.bytesLess]
    by_cases h1 : a < b
    · have h2 : ¬ b < a := by simp [UInt8.lt_iff_toNat_lt] at *; omega
      have h3 : (b == a) = false := by simp; intro e; subst e; simp at h1
      simp [h1, h2, h3]
    · by_cases h2 : b < a
      · have h3 : (a == b) = false := by simp; intro e; subst e; exact h1 h2
        have h4 : a ≠ b := by simpa using h3
        simp [h1, h2, h4]
      · have : a = b := UInt8.toNat_inj.1 (by simp [UInt8.lt_iff_toNat_lt] at h1 h2; omega)
        subst this
        simp at h1
        simpa [UInt8.lt_iff_toNat_lt] using ih

theorem wrap_of (P : Program) (w : World) (k : IntKind) (n : Int) : (pure (Value.int k n) : Sem Value).run P w = .ok (.int k n) w := rfl

theorem intOp_sound {P : Program} {w : World} {op : BinOp} (t : TypeId) {k : IntKind} {a b : Int} {v : Value} (hns : op ≠ .shl ∧ op ≠ .shr) (h : intOp op k a b = some v) :
    (binOp op t (.int k a) (.int k b)).run P w = .ok v w ∧ flat v = true := by
  cases op <;> simp only [intOp] at h <;> first
    | (cases h; exact ⟨by simp [binOp, Op.intArith, Op.intBits, Op.intCmp], rfl⟩)
    | (cases hb : (b == 0) with
       | true => rw [hb] at h; cases h
       | false =>
         rw [hb, cond_false] at h; cases h
         have hb' : b ≠ 0 := by simpa using hb
         exact ⟨by simp [binOp, Op.intDiv, hb'], rfl⟩)
    | (exact absurd rfl hns.1)
    | (exact absurd rfl hns.2)
    | (cases h)

theorem shiftOp_sound {P : Program} {w : World} {op : BinOp} (t : TypeId) {k k' : IntKind} {a b : Int} {v : Value} (hs : op = .shl ∨ op = .shr) (h : shiftOp op k a b = some v) :
    (binOp op t (.int k a) (.int k' b)).run P w = .ok v w ∧ flat v = true := by
  unfold shiftOp at h
  split at h
  · rename_i m
    have hm : ¬ (Int.ofNat m < 0) := by simp
    rcases hs with rfl | rfl
    · simp only [] at h; cases h
      exact ⟨by simp only [binOp, Op.shift, if_neg hm]; rfl, rfl⟩
    · simp only [] at h; cases h
      exact ⟨by simp only [binOp, Op.shift, if_neg hm]; rfl, rfl⟩
  · cases h

theorem strOp_sound {P : Program} {w : World} {op : BinOp} (t : TypeId) {a b : ByteArray} {v : Value} (h : strOp op a b = some v) :
    (binOp op t (.string a) (.string b)).run P w = .ok v w ∧ flat v = true := by
  have hta : a.toList = a.data.toList := ByteArray.toList_eq a
  have htb : b.toList = b.data.toList := ByteArray.toList_eq b
  have hbin : binOp op t (.string a) (.string b) = Op.stringOp op a b := by cases op <;> rfl
  rw [hbin]
  cases op <;> simp only [strOp] at h <;> first
    | (cases h
       refine ⟨?_, rfl⟩
       simp only [Op.stringOp, hta, htb, bytesEq_eq, bytesLt_eq, less_total, Bool.not_not]
       first | rfl | (simp; done))
    | (cases hb : Nat.ble (a.data.toList.length + b.data.toList.length) 9223372036854775807 with
       | false => rw [hb] at h; cases h
       | true =>
         rw [hb, cond_true] at h; cases h
         have hle := Nat.le_of_ble_eq_true hb
         refine ⟨?_, rfl⟩
         have hsz : ¬ (((a.size + b.size : Nat) : Int) > IntKind.i64.max) := by
           have h1 : a.size = a.data.toList.length := rfl
           have h2 : b.size = b.data.toList.length := rfl
           have h3 : IntKind.i64.max = 9223372036854775807 := by decide
           rw [h1, h2, h3]; omega
         have happ : a ++ b = ⟨(a.data.toList ++ b.data.toList).toArray⟩ := by
           apply ByteArray.ext
           simp [ByteArray.data_append]
         simp only [Op.stringOp]
         rw [if_neg hsz, happ]; rfl)
    | (cases h)

theorem run_eqGuard_other {P : Program} {w : World} (op : BinOp) (t : TypeId) (xo yo : Operand) {a b : Value} (h1 : ¬ (a = .nilIface ∧ b = .nilIface)) (h2 : ¬ ((∃ c, a = .agg c) ∧ ∃ d, b = .agg d)) :
    (eqGuard op t xo yo a b).run P w = .ok () w := by
  cases op <;> first
    | rfl
    | (cases a <;> cases b <;> first | rfl | exact absurd ⟨rfl, rfl⟩ h1 | exact absurd ⟨⟨_, rfl⟩, ⟨_, rfl⟩⟩ h2)

theorem bin_sound {E : Env} {P : Program} (hE : EnvOK E P) {ρ : Ren} {op : BinOp} {t : TypeId} {xo yo : Operand} {x y x' y' v : Value} (h : aBin E op t xo yo x y = some v)
    (hx : VRel ρ x x') (hy : VRel ρ y y') (w : World) :
    ((do eqGuard op t xo yo x' y'; binOp op t x' y') : Sem Value).run P w = .ok v w ∧ flat v = true := by
  unfold aBin at h
  split at h
  · -- two ints
    rename_i k a k' b
    cases hx; cases hy
    have hg : (eqGuard op t xo yo (.int k a) (.int k' b)).run P w = .ok () w := run_eqGuard_other op t xo yo (by simp) (by simp)
    simp only [Sem.run_bind, hg, Result.andThen_ok]
    split at h
    · exact shiftOp_sound t (.inl rfl) h
    · exact shiftOp_sound t (.inr rfl) h
    · rename_i h1 h2
      cases hk : Nat.beq k.ctorIdx k'.ctorIdx with
      | false => rw [hk] at h; cases h
      | true =>
        rw [hk, cond_true] at h
        have := kind_eq hk
        subst this
        exact intOp_sound t ⟨h1, h2⟩ h
  · rename_i a b
    cases hx; cases hy
    have hg : (eqGuard op t xo yo (.string a) (.string b)).run P w = .ok () w := run_eqGuard_other op t xo yo (by simp) (by simp)
    simp only [Sem.run_bind, hg, Result.andThen_ok]
    exact strOp_sound t h
  · cases hx; cases hy
    split at h
    · rename_i i hi
      split at h
      · rename_i ms hd
        cases hc : (isConstOp xo || isConstOp yo) with
        | false => rw [hc] at h; cases h
        | true =>
          rw [hc, cond_true] at h
          have hgg : (eqGuard op t xo yo .nilIface .nilIface).run P w = .ok () w := by
            cases op <;> first
              | rfl
              | (cases xo <;> cases yo <;> first | rfl | (simp [isConstOp] at hc))
          simp only [Sem.run_bind, hgg, Result.andThen_ok]
          have heq : (Op.equal t .nilIface .nilIface).run P w = .ok true w := by
            have hd' : ∀ d, (Op.equalIn (d + 1) t .nilIface .nilIface).run P w = .ok true w := fun d => by
              simp only [Op.equalIn, Sem.run_bind, run_und hE w hi, hd, Result.andThen_ok]
              rfl
            exact hd' 9999
          split at h <;> first
            | (cases h; exact ⟨by simp [binOp, heq], rfl⟩)
            | cases h
      · cases h
    · cases h
  · rename_i h1 h2 h3
    have key : ∀ r, eqV E t x y = some r → (Op.equal t x' y').run P w = .ok r w ∧ ((eqGuard op t xo yo x' y').run P w = .ok () w) ∧ (binOp .eql t x' y' = do pure (.bool (← Op.equal t x' y'))) ∧ (binOp .neq t x' y' = do pure (.bool (!(← Op.equal t x' y')))) := by
      intro r hr
      unfold eqV at hr
      split at hr
      · cases hr
      · rename_i i hi
        split at hr <;> first
          | (cases hr; done)
          | (rename_i hd
             cases hr
             cases hx <;> cases hy <;>
             exact ⟨(fun d => by simp only [Op.equalIn, Sem.run_bind, run_und hE w hi, hd, Result.andThen_ok] <;> rfl : ∀ d, (Op.equalIn (d + 1) t _ _).run P w = _) 9999, run_eqGuard_other op t xo yo (by simp) (by simp), rfl, rfl⟩)
    split at h
    · split at h
      · rename_i r hr
        cases h
        obtain ⟨k1, k2, k3, k4⟩ := key r hr
        refine ⟨?_, rfl⟩
        simp only [Sem.run_bind, k2, Result.andThen_ok, k3, k1, Sem.run_pure]
      · cases h
    · split at h
      · rename_i r hr
        cases h
        obtain ⟨k1, k2, k3, k4⟩ := key r hr
        refine ⟨?_, rfl⟩
        simp only [Sem.run_bind, k2, Result.andThen_ok, k4, k1, Sem.run_pure]
      · cases h
    · cases h

theorem un_sound {P : Program} {ρ : Ren} {op : UnOp} {x x' v : Value} (h : aUn op x = some v) (hx : VRel ρ x x') (w : World) :
    (Op.unary op x').run P w = .ok v w ∧ flat v = true := by
  unfold aUn at h
  split at h
  · cases hx; cases h; exact ⟨by simp [Op.unary, Op.intArith], rfl⟩
  · cases hx
    simp only [intOp] at h
    cases h
    exact ⟨by simp [Op.unary, Op.intBits], rfl⟩
  · cases hx; cases h; exact ⟨by simp [Op.unary], rfl⟩
  · cases h

end Go.AE
