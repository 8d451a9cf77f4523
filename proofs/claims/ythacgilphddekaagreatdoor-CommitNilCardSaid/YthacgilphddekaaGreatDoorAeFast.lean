/- The evaluator, so written that the kernel has little to copy: each function with its case distinctions laid open. -/
import Derived.Test.YthacgilphddekaaGreatDoorAeOpen
namespace Go.AE
open Go
variable (E : Env)

noncomputable def nthF {α : Type} (l : List α) (i : Nat) : Option α :=
  List.rec (motive := fun _ => Nat → Option α) (fun _ => none) (fun a _ ih i => Nat.rec (motive := fun _ => Option α) (some a) (fun k _ => ih k) i) l i
theorem nth_F : @nth = @nthF := by
  funext α l i
  induction l generalizing i with
  | nil => rfl
  | cons a l ih => cases i with
    | zero => rfl
    | succ i => exact ih i

noncomputable def takeX {α : Type} (n : Nat) : List α → Option (List α) :=
  Nat.rec (motive := fun _ => List α → Option (List α)) (fun _ => some []) (fun _ ih l => List.rec (motive := fun _ => Option (List α)) none (fun a l _ => Option.rec (motive := fun _ => Option (List α)) none (fun r => some (a :: r)) (ih l)) l) n
noncomputable def cutF {α : Type} (l : List α) (i n : Nat) : Option (List α) :=
  Nat.rec (motive := fun _ => List α → Option (List α)) (takeX n) (fun _ ih l => List.rec (motive := fun _ => Option (List α)) (takeX n []) (fun _ l _ => ih l) l) i l
theorem takeX_eq {α : Type} : ∀ (n : Nat) (l : List α), takeX n l = cond (Nat.beq (l.take n).length n) (some (l.take n)) none
  | 0, l => by
    have : takeX 0 l = some [] := rfl
    rw [this]
    simp
  | n + 1, [] => by
    have : takeX (n + 1) ([] : List α) = none := rfl
    rw [this]
    rfl
  | n + 1, a :: l => by
    have : takeX (n + 1) (a :: l) = Option.rec (motive := fun _ => Option (List α)) none (fun r => some (a :: r)) (takeX n l) := rfl
    rw [this, takeX_eq n l]
    have e : Nat.beq ((a :: l).take (n + 1)).length (n + 1) = Nat.beq (l.take n).length n := by
      rw [List.take_succ_cons, List.length_cons]
      rfl
    rw [e]
    cases Nat.beq (l.take n).length n <;> rfl
theorem cut_F : @cut = @cutF := by
  funext α l i n
  induction i generalizing l with
  | zero =>
    have : cutF l 0 n = takeX n l := rfl
    rw [this, takeX_eq]
    rfl
  | succ i ih =>
    cases l with
    | nil =>
      have : cutF ([] : List α) (i + 1) n = takeX n [] := rfl
      rw [this, takeX_eq]
      simp [cut]
    | cons a l =>
      have : cutF (a :: l) (i + 1) n = cutF l i n := rfl
      rw [this, ← ih]
      simp [cut]

noncomputable def putX {α : Type} (vs : List α) : List α → Option (List α) :=
  List.rec (motive := fun _ => List α → Option (List α)) (fun l => some l) (fun v _ ih l => List.rec (motive := fun _ => Option (List α)) none (fun _ l _ => Option.rec (motive := fun _ => Option (List α)) none (fun r => some (v :: r)) (ih l)) l) vs
noncomputable def overF {α : Type} (l : List α) (i : Nat) (vs : List α) : Option (List α) :=
  Nat.rec (motive := fun _ => List α → Option (List α)) (putX vs) (fun _ ih l => List.rec (motive := fun _ => Option (List α)) none (fun a l _ => Option.rec (motive := fun _ => Option (List α)) none (fun r => some (a :: r)) (ih l)) l) i l
theorem putX_eq {α : Type} : ∀ (vs l : List α), putX vs l = cond (Nat.ble vs.length l.length) (some (vs ++ l.drop vs.length)) none
  | [], l => by
    have : putX ([] : List α) l = some l := rfl
    rw [this]
    cases l <;> rfl
  | v :: vs, [] => by
    have : putX (v :: vs) ([] : List α) = none := rfl
    rw [this]
    rfl
  | v :: vs, a :: l => by
    have : putX (v :: vs) (a :: l) = Option.rec (motive := fun _ => Option (List α)) none (fun r => some (v :: r)) (putX vs l) := rfl
    rw [this, putX_eq vs l]
    have e : Nat.ble (v :: vs).length (a :: l).length = Nat.ble vs.length l.length := rfl
    rw [e]
    cases Nat.ble vs.length l.length <;> simp
theorem over_F : @over = @overF := by
  funext α l i vs
  induction i generalizing l with
  | zero =>
    have : overF l 0 vs = putX vs l := rfl
    rw [this, putX_eq]
    simp [over]
  | succ i ih =>
    cases l with
    | nil =>
      have : overF ([] : List α) (i + 1) vs = none := rfl
      rw [this]
      unfold over
      have e : Nat.ble (i + 1 + vs.length) ([] : List α).length = false := by
        rw [← Bool.not_eq_true]
        intro h
        have := Nat.le_of_ble_eq_true h
        simp at this
      rw [e]
      rfl
    | cons a l =>
      have : overF (a :: l) (i + 1) vs = Option.rec (motive := fun _ => Option (List α)) none (fun r => some (a :: r)) (overF l i vs) := rfl
      rw [this, ← ih]
      unfold over
      have e : Nat.ble (i + 1 + vs.length) (a :: l).length = Nat.ble (i + vs.length) l.length := by
        rw [Bool.eq_iff_iff]
        simp
        omega
      rw [e]
      have e2 : i + 1 + vs.length = (i + vs.length) + 1 := by omega
      cases Nat.ble (i + vs.length) l.length
      · rfl
      · simp [e2]

noncomputable def natOfC : Value → Option Nat
  | .int _ (.ofNat n) => some n
  | _ => none
theorem natOf_C : @natOf = @natOfC := by
  delta natOf natOfC
  rfl
noncomputable def natOfO : { f // @natOfC = f } := by
  refine ⟨?_, ?_⟩
  rotate_left
  · delta natOfC natOfC.match_1 natOfC._sparseCasesOn_1 natOfC._sparseCasesOn_2 cond cond.match_1 Bool.casesOn and or not Bool.and.match_1
    dsimp only
    exact rfl
noncomputable def natOfF : type_of% @natOfC := by
  refine (fun (f : type_of% @natOfC) (_ : @natOfC = f) => f) ?_ ?_
  rotate_left
  · delta natOfC natOfC.match_1 natOfC._sparseCasesOn_1 natOfC._sparseCasesOn_2 cond cond.match_1 Bool.casesOn and or not Bool.and.match_1
    dsimp only
    exact rfl
theorem natOf_CF : @natOfC = @natOfF := natOfO.2.trans rfl
theorem natOf_F : @natOf = @natOfF := natOf_C.trans natOf_CF

noncomputable def boundOrC (x : Option Value) (d : Nat) : Option Nat :=
  match x with
  | none => some d
  | some v => natOfF v
theorem boundOr_C : @boundOr = @boundOrC := by
  delta boundOr boundOrC
  simp only [natOf_F]
  try rfl
noncomputable def boundOrO : { f // @boundOrC = f } := by
  refine ⟨?_, ?_⟩
  rotate_left
  · delta boundOrC boundOrC.match_1 Option.casesOn cond cond.match_1 Bool.casesOn and or not Bool.and.match_1
    dsimp only
    exact rfl
noncomputable def boundOrF : type_of% @boundOrC := by
  refine (fun (f : type_of% @boundOrC) (_ : @boundOrC = f) => f) ?_ ?_
  rotate_left
  · delta boundOrC boundOrC.match_1 Option.casesOn cond cond.match_1 Bool.casesOn and or not Bool.and.match_1
    dsimp only
    exact rfl
theorem boundOr_CF : @boundOrC = @boundOrF := boundOrO.2.trans rfl
theorem boundOr_F : @boundOr = @boundOrF := boundOr_C.trans boundOr_CF

noncomputable def tgetC (T : Tmps) (t : Nat) : Value := match T.get t with | some v => v | none => undef
theorem tget_C : @tget = @tgetC := by
  delta tget tgetC
  rfl
noncomputable def tgetO : { f // @tgetC = f } := by
  refine ⟨?_, ?_⟩
  rotate_left
  · delta tgetC tgetC.match_1 Option.casesOn cond cond.match_1 Bool.casesOn and or not Bool.and.match_1
    dsimp only
    exact rfl
noncomputable def tgetF : type_of% @tgetC := by
  refine (fun (f : type_of% @tgetC) (_ : @tgetC = f) => f) ?_ ?_
  rotate_left
  · delta tgetC tgetC.match_1 Option.casesOn cond cond.match_1 Bool.casesOn and or not Bool.and.match_1
    dsimp only
    exact rfl
theorem tget_CF : @tgetC = @tgetF := tgetO.2.trans rfl
theorem tget_F : @tget = @tgetF := tget_C.trans tget_CF

noncomputable def ofValC (o : Option Value) (A : ASt) (why : String) : AR := match o with | some v => .val v A | none => .bad why
theorem ofVal_C : @ofVal = @ofValC := by
  delta ofVal ofValC
  rfl
noncomputable def ofValO : { f // @ofValC = f } := by
  refine ⟨?_, ?_⟩
  rotate_left
  · delta ofValC tgetC.match_1 Option.casesOn cond cond.match_1 Bool.casesOn and or not Bool.and.match_1
    dsimp only
    exact rfl
noncomputable def ofValF : type_of% @ofValC := by
  refine (fun (f : type_of% @ofValC) (_ : @ofValC = f) => f) ?_ ?_
  rotate_left
  · delta ofValC tgetC.match_1 Option.casesOn cond cond.match_1 Bool.casesOn and or not Bool.and.match_1
    dsimp only
    exact rfl
theorem ofVal_CF : @ofValC = @ofValF := ofValO.2.trans rfl
theorem ofVal_F : @ofVal = @ofValF := ofVal_C.trans ofVal_CF

noncomputable def intOpC (op : BinOp) (k : IntKind) (a b : Int) : Option Value :=
  match op with
  | .add => some (.int k (k.wrap (a + b)))
  | .sub => some (.int k (k.wrap (a - b)))
  | .mul => some (.int k (k.wrap (a * b)))
  | .quo => cond (b == 0) none (some (.int k (k.wrap (a.tdiv b))))
  | .rem => cond (b == 0) none (some (.int k (a.tmod b)))
  | .and => some (.int k (k.wrap (BitVec.ofInt k.bits a &&& BitVec.ofInt k.bits b).toNat))
  | .or => some (.int k (k.wrap (BitVec.ofInt k.bits a ||| BitVec.ofInt k.bits b).toNat))
  | .xor => some (.int k (k.wrap (BitVec.ofInt k.bits a ^^^ BitVec.ofInt k.bits b).toNat))
  | .andNot => some (.int k (k.wrap (BitVec.ofInt k.bits a &&& ~~~ BitVec.ofInt k.bits b).toNat))
  | .eql => some (.bool (a == b))
  | .neq => some (.bool (a != b))
  | .lss => some (.bool (decide (a < b)))
  | .leq => some (.bool (decide (a ≤ b)))
  | .gtr => some (.bool (decide (a > b)))
  | .geq => some (.bool (decide (a ≥ b)))
  | _ => none
theorem intOp_C : @intOp = @intOpC := by
  delta intOp intOpC
  rfl
noncomputable def intOpO : { f // @intOpC = f } := by
  refine ⟨?_, ?_⟩
  rotate_left
  · delta intOpC intOpC.match_1 intOpC._sparseCasesOn_1 cond cond.match_1 Bool.casesOn and or not Bool.and.match_1
    dsimp only
    exact rfl
noncomputable def intOpF : type_of% @intOpC := by
  refine (fun (f : type_of% @intOpC) (_ : @intOpC = f) => f) ?_ ?_
  rotate_left
  · delta intOpC intOpC.match_1 intOpC._sparseCasesOn_1 cond cond.match_1 Bool.casesOn and or not Bool.and.match_1
    dsimp only
    exact rfl
theorem intOp_CF : @intOpC = @intOpF := intOpO.2.trans rfl
theorem intOp_F : @intOp = @intOpF := intOp_C.trans intOp_CF

noncomputable def shiftOpC (op : BinOp) (k : IntKind) (x y : Int) : Option Value :=
  match y with
  | .ofNat m =>
    match op with
    | .shl => some (.int k (k.wrap (x * 2 ^ (min m k.bits))))
    | .shr => some (.int k (x.fdiv (2 ^ (min m k.bits))))
    | _ => none
  | _ => none
theorem shiftOp_C : @shiftOp = @shiftOpC := by
  delta shiftOp shiftOpC
  rfl
noncomputable def shiftOpO : { f // @shiftOpC = f } := by
  refine ⟨?_, ?_⟩
  rotate_left
  · delta shiftOpC shiftOpC.match_1 natOfC._sparseCasesOn_2 shiftOpC._sparseCasesOn_1 shiftOpC.match_2 cond cond.match_1 Bool.casesOn and or not Bool.and.match_1
    dsimp only
    exact rfl
noncomputable def shiftOpF : type_of% @shiftOpC := by
  refine (fun (f : type_of% @shiftOpC) (_ : @shiftOpC = f) => f) ?_ ?_
  rotate_left
  · delta shiftOpC shiftOpC.match_1 natOfC._sparseCasesOn_2 shiftOpC._sparseCasesOn_1 shiftOpC.match_2 cond cond.match_1 Bool.casesOn and or not Bool.and.match_1
    dsimp only
    exact rfl
theorem shiftOp_CF : @shiftOpC = @shiftOpF := shiftOpO.2.trans rfl
theorem shiftOp_F : @shiftOp = @shiftOpF := shiftOp_C.trans shiftOp_CF

noncomputable def eqVC (t : TypeId) (x y : Value) : Option Bool :=
  match E.ti t with
  | none => none
  | some i =>
    match i.desc, x, y with
    | .bool, .bool a, .bool b => some (a == b)
    | .pointer _, .pointer none, .pointer b => some b.isNone
    | .pointer _, .pointer (some _), .pointer none => some false
    | .slice _, .slice none _ _, .slice b _ _ => some b.isNone
    | .slice _, .slice (some _) _ _, .slice none _ _ => some false
    | .map _ _, .map none, .map b => some b.isNone
    | .map _ _, .map (some _), .map none => some false
    | .func _ _ _, .nilFunc, .nilFunc => some true
    | .func _ _ _, .nilFunc, .func _ _ _ => some false
    | .func _ _ _, .func _ _ _, .nilFunc => some false
    | .interface _, .nilIface, .iface _ _ => some false
    | .interface _, .iface _ _, .nilIface => some false
    | _, _, _ => none
theorem eqV_C : @eqV = @eqVC := by
  delta eqV eqVC
  rfl
noncomputable def eqVO : { f // @eqVC = f } := by
  refine ⟨?_, ?_⟩
  rotate_left
  · delta eqVC eqVC.match_1 Option.casesOn eqVC._sparseCasesOn_2 eqVC._sparseCasesOn_6 eqVC._sparseCasesOn_4 eqVC.match_11 eqVC._sparseCasesOn_11 eqVC._sparseCasesOn_5 eqVC._sparseCasesOn_9 eqVC._sparseCasesOn_10 eqVC._sparseCasesOn_3 eqVC._sparseCasesOn_8 eqVC._sparseCasesOn_7 eqVC._sparseCasesOn_1 cond cond.match_1 Bool.casesOn and or not Bool.and.match_1
    dsimp only
    exact rfl
noncomputable def eqVF : type_of% @eqVC := by
  refine (fun (f : type_of% @eqVC) (_ : @eqVC = f) => f) ?_ ?_
  rotate_left
  · delta eqVC eqVC.match_1 Option.casesOn eqVC._sparseCasesOn_2 eqVC._sparseCasesOn_6 eqVC._sparseCasesOn_4 eqVC.match_11 eqVC._sparseCasesOn_11 eqVC._sparseCasesOn_5 eqVC._sparseCasesOn_9 eqVC._sparseCasesOn_10 eqVC._sparseCasesOn_3 eqVC._sparseCasesOn_8 eqVC._sparseCasesOn_7 eqVC._sparseCasesOn_1 cond cond.match_1 Bool.casesOn and or not Bool.and.match_1
    dsimp only
    exact rfl
theorem eqV_CF : @eqVC = @eqVF := eqVO.2.trans rfl
theorem eqV_F : @eqV = @eqVF := eqV_C.trans eqV_CF

noncomputable def aNilCheckC (v : Value) : Option Value :=
  match v with
  | .pointer none | .nilIface | .nilFunc | .chan (some _) => none
  | .func (.method _) _ _ => none
  | v => some v
theorem aNilCheck_C : @aNilCheck = @aNilCheckC := by
  delta aNilCheck aNilCheckC
  rfl
noncomputable def aNilCheckO : { f // @aNilCheckC = f } := by
  refine ⟨?_, ?_⟩
  rotate_left
  · delta aNilCheckC aNilCheckC._sparseCasesOn_2 eqVC._sparseCasesOn_4 aNilCheckC.match_1 aNilCheckC._sparseCasesOn_3 aNilCheckC._sparseCasesOn_1 cond cond.match_1 Bool.casesOn and or not Bool.and.match_1
    dsimp only
    exact rfl
noncomputable def aNilCheckF : type_of% @aNilCheckC := by
  refine (fun (f : type_of% @aNilCheckC) (_ : @aNilCheckC = f) => f) ?_ ?_
  rotate_left
  · delta aNilCheckC aNilCheckC._sparseCasesOn_2 eqVC._sparseCasesOn_4 aNilCheckC.match_1 aNilCheckC._sparseCasesOn_3 aNilCheckC._sparseCasesOn_1 cond cond.match_1 Bool.casesOn and or not Bool.and.match_1
    dsimp only
    exact rfl
theorem aNilCheck_CF : @aNilCheckC = @aNilCheckF := aNilCheckO.2.trans rfl
theorem aNilCheck_F : @aNilCheck = @aNilCheckF := aNilCheck_C.trans aNilCheck_CF

noncomputable def aExtractC (v : Value) (i : Nat) : Option Value :=
  match v with
  | .tuple vs => nthF vs.toList i
  | _ => none
theorem aExtract_C : @aExtract = @aExtractC := by
  delta aExtract aExtractC
  simp only [nth_F]
  try rfl
noncomputable def aExtractO : { f // @aExtractC = f } := by
  refine ⟨?_, ?_⟩
  rotate_left
  · delta aExtractC aExtractC._sparseCasesOn_1 aExtractC.match_1 cond cond.match_1 Bool.casesOn and or not Bool.and.match_1
    dsimp only
    exact rfl
noncomputable def aExtractF : type_of% @aExtractC := by
  refine (fun (f : type_of% @aExtractC) (_ : @aExtractC = f) => f) ?_ ?_
  rotate_left
  · delta aExtractC aExtractC._sparseCasesOn_1 aExtractC.match_1 cond cond.match_1 Bool.casesOn and or not Bool.and.match_1
    dsimp only
    exact rfl
theorem aExtract_CF : @aExtractC = @aExtractF := aExtractO.2.trans rfl
theorem aExtract_F : @aExtract = @aExtractF := aExtract_C.trans aExtract_CF

noncomputable def aUnC (op : UnOp) (x : Value) : Option Value :=
  match op, x with
  | .neg, .int k n => some (.int k (k.wrap (0 - n)))
  | .xor, .int k n => intOpF .xor k (if k.signed then -1 else k.max) n
  | .not, .bool b => some (.bool (!b))
  | _, _ => none
theorem aUn_C : @aUn = @aUnC := by
  delta aUn aUnC
  simp only [intOp_F]
  try rfl
noncomputable def aUnO : { f // @aUnC = f } := by
  refine ⟨?_, ?_⟩
  rotate_left
  · delta aUnC eqVC._sparseCasesOn_2 aUnC._sparseCasesOn_1 natOfC._sparseCasesOn_1 aUnC.match_1 cond cond.match_1 Bool.casesOn and or not Bool.and.match_1
    dsimp only
    exact rfl
noncomputable def aUnF : type_of% @aUnC := by
  refine (fun (f : type_of% @aUnC) (_ : @aUnC = f) => f) ?_ ?_
  rotate_left
  · delta aUnC eqVC._sparseCasesOn_2 aUnC._sparseCasesOn_1 natOfC._sparseCasesOn_1 aUnC.match_1 cond cond.match_1 Bool.casesOn and or not Bool.and.match_1
    dsimp only
    exact rfl
theorem aUn_CF : @aUnC = @aUnF := aUnO.2.trans rfl
theorem aUn_F : @aUn = @aUnF := aUn_C.trans aUn_CF

noncomputable def partVC (t : TypeId) (cs : List Value) (off : Nat) : Option Value :=
  match E.ti t with
  | some i => cond (isAggD i.desc) (match cutF cs off i.size with | some r => some (.agg r.toArray) | none => none) (nthF cs off)
  | none => none
theorem partV_C : @partV = @partVC := by
  delta partV partVC
  simp only [nth_F, cut_F]
  try rfl
noncomputable def partVO : { f // @partVC = f } := by
  refine ⟨?_, ?_⟩
  rotate_left
  · delta partVC Option.casesOn partVC.match_1 partVC.match_2 cond cond.match_1 Bool.casesOn and or not Bool.and.match_1
    dsimp only
    exact rfl
noncomputable def partVF : type_of% @partVC := by
  refine (fun (f : type_of% @partVC) (_ : @partVC = f) => f) ?_ ?_
  rotate_left
  · delta partVC Option.casesOn partVC.match_1 partVC.match_2 cond cond.match_1 Bool.casesOn and or not Bool.and.match_1
    dsimp only
    exact rfl
theorem partV_CF : @partVC = @partVF := partVO.2.trans rfl
theorem partV_F : @partV = @partVF := partV_C.trans partV_CF

noncomputable def aAllocC (t : TypeId) : Option Fresh :=
  match E.ti t with
  | some i => match i.zero with
    | some z => cond (closed z) (some (.row z.cells.toList i.size false, ptrTo)) none
    | none => none
  | none => none
theorem aAlloc_C : @aAlloc = @aAllocC := by
  delta aAlloc aAllocC
  rfl
noncomputable def aAllocO : { f // @aAllocC = f } := by
  refine ⟨?_, ?_⟩
  rotate_left
  · delta aAllocC tgetC.match_1 Option.casesOn partVC.match_2 cond cond.match_1 Bool.casesOn and or not Bool.and.match_1
    dsimp only
    exact rfl
noncomputable def aAllocF : type_of% @aAllocC := by
  refine (fun (f : type_of% @aAllocC) (_ : @aAllocC = f) => f) ?_ ?_
  rotate_left
  · delta aAllocC tgetC.match_1 Option.casesOn partVC.match_2 cond cond.match_1 Bool.casesOn and or not Bool.and.match_1
    dsimp only
    exact rfl
theorem aAlloc_CF : @aAllocC = @aAllocF := aAllocO.2.trans rfl
theorem aAlloc_F : @aAlloc = @aAllocF := aAlloc_C.trans aAlloc_CF

noncomputable def aBoxC (t : TypeId) (v : Value) : Option Fresh :=
  match E.ti t with
  | some i => some (.row v.cells.toList i.size false, ptrTo)
  | none => none
theorem aBox_C : @aBox = @aBoxC := by
  delta aBox aBoxC
  rfl
noncomputable def aBoxO : { f // @aBoxC = f } := by
  refine ⟨?_, ?_⟩
  rotate_left
  · delta aBoxC Option.casesOn partVC.match_2 cond cond.match_1 Bool.casesOn and or not Bool.and.match_1
    dsimp only
    exact rfl
noncomputable def aBoxF : type_of% @aBoxC := by
  refine (fun (f : type_of% @aBoxC) (_ : @aBoxC = f) => f) ?_ ?_
  rotate_left
  · delta aBoxC Option.casesOn partVC.match_2 cond cond.match_1 Bool.casesOn and or not Bool.and.match_1
    dsimp only
    exact rfl
theorem aBox_CF : @aBoxC = @aBoxF := aBoxO.2.trans rfl
theorem aBox_F : @aBox = @aBoxF := aBox_C.trans aBox_CF

noncomputable def wantedAC (ops : Array Oper) (T : Tmps) (o : Oper) : Bool :=
  match o.guard with
  | none => true
  | some (j, want) =>
    match nthF ops.toList j with
    | some g => match g.dst with
      | some d => match tgetF T d with
        | .bool b => b == want
        | _ => false
      | none => false
    | none => false
theorem wantedA_C : @wantedA = @wantedAC := by
  delta wantedA wantedAC
  simp only [nth_F, tget_F]
  try rfl
noncomputable def wantedAO : { f // @wantedAC = f } := by
  refine ⟨?_, ?_⟩
  rotate_left
  · delta wantedAC wantedAC.match_2 wantedAC.match_3 Option.casesOn eqVC._sparseCasesOn_2 wantedAC.match_1 Prod.casesOn wantedAC.match_4 cond cond.match_1 Bool.casesOn and or not Bool.and.match_1
    dsimp only
    exact rfl
noncomputable def wantedAF : type_of% @wantedAC := by
  refine (fun (f : type_of% @wantedAC) (_ : @wantedAC = f) => f) ?_ ?_
  rotate_left
  · delta wantedAC wantedAC.match_2 wantedAC.match_3 Option.casesOn eqVC._sparseCasesOn_2 wantedAC.match_1 Prod.casesOn wantedAC.match_4 cond cond.match_1 Bool.casesOn and or not Bool.and.match_1
    dsimp only
    exact rfl
theorem wantedA_CF : @wantedAC = @wantedAF := wantedAO.2.trans rfl
theorem wantedA_F : @wantedA = @wantedAF := wantedA_C.trans wantedA_CF

noncomputable def putNC (n : Nat) (T : Tmps) (dst : Option Tmp) (v : Value) : Option Tmps :=
  match dst with
  | some d => cond (Nat.blt d n) (T.putC d (some v) some) none
  | none => some T
theorem putN_C : @putN = @putNC := by
  delta putN putNC
  rfl
noncomputable def putNO : { f // @putNC = f } := by
  refine ⟨?_, ?_⟩
  rotate_left
  · delta putNC wantedAC.match_2 Option.casesOn cond cond.match_1 Bool.casesOn and or not Bool.and.match_1
    dsimp only
    exact rfl
noncomputable def putNF : type_of% @putNC := by
  refine (fun (f : type_of% @putNC) (_ : @putNC = f) => f) ?_ ?_
  rotate_left
  · delta putNC wantedAC.match_2 Option.casesOn cond cond.match_1 Bool.casesOn and or not Bool.and.match_1
    dsimp only
    exact rfl
theorem putN_CF : @putNC = @putNF := putNO.2.trans rfl
theorem putN_F : @putN = @putNF := putN_C.trans putN_CF

noncomputable def evC (T : Tmps) : Operand → Option Value
  | .tmp t => some (tgetF T t)
  | .const v => cond (closed v) (some v) none
  | .global _ => none
  | .func f => some (.func (.func f) #[] #[])
theorem ev_C : @ev = @evC := by
  delta ev evC
  simp only [tget_F]
  try rfl
noncomputable def evO : { f // @evC = f } := by
  refine ⟨?_, ?_⟩
  rotate_left
  · delta evC evC.match_1 Go.Operand.casesOn cond cond.match_1 Bool.casesOn and or not Bool.and.match_1
    dsimp only
    exact rfl
noncomputable def evF : type_of% @evC := by
  refine (fun (f : type_of% @evC) (_ : @evC = f) => f) ?_ ?_
  rotate_left
  · delta evC evC.match_1 Go.Operand.casesOn cond cond.match_1 Bool.casesOn and or not Bool.and.match_1
    dsimp only
    exact rfl
theorem ev_CF : @evC = @evF := evO.2.trans rfl
theorem ev_F : @ev = @evF := ev_C.trans ev_CF

noncomputable def evsF (T : Tmps) (l : List Operand) : Option (List Value) :=
  List.rec (motive := fun _ => Option (List Value)) (some []) (fun x _ ih => Option.rec (motive := fun _ => Option (List Value)) none (fun v => Option.rec (motive := fun _ => Option (List Value)) none (fun vs => some (v :: vs)) ih) (evF T x)) l
theorem evs_F : @evs = @evsF := by
  funext T l
  induction l with
  | nil => rfl
  | cons x l ih =>
    have : evsF T (x :: l) = Option.rec (motive := fun _ => Option (List Value)) none (fun v => Option.rec (motive := fun _ => Option (List Value)) none (fun vs => some (v :: vs)) (evsF T l)) (evF T x) := rfl
    rw [this, ← ih, ← ev_F]
    simp only [evs]
    cases ev T x with
    | none => rfl
    | some v => cases evs T l <;> rfl

noncomputable def evOptC (T : Tmps) : Option Operand → Option (Option Value)
  | none => some none
  | some x => match evF T x with
    | some v => some (some v)
    | none => none
theorem evOpt_C : @evOpt = @evOptC := by
  delta evOpt evOptC
  simp only [ev_F]
  try rfl
noncomputable def evOptO : { f // @evOptC = f } := by
  refine ⟨?_, ?_⟩
  rotate_left
  · delta evOptC tgetC.match_1 Option.casesOn evOptC.match_1 cond cond.match_1 Bool.casesOn and or not Bool.and.match_1
    dsimp only
    exact rfl
noncomputable def evOptF : type_of% @evOptC := by
  refine (fun (f : type_of% @evOptC) (_ : @evOptC = f) => f) ?_ ?_
  rotate_left
  · delta evOptC tgetC.match_1 Option.casesOn evOptC.match_1 cond cond.match_1 Bool.casesOn and or not Bool.and.match_1
    dsimp only
    exact rfl
theorem evOpt_CF : @evOptC = @evOptF := evOptO.2.trans rfl
theorem evOpt_F : @evOpt = @evOptF := evOpt_C.trans evOpt_CF

noncomputable def aLoadC (t : TypeId) (a : Value) (A : ASt) : Option Value :=
  match a with
  | .pointer (some ⟨b, off, none⟩) =>
    match A.get b with
    | some (.row c _ _) => partVF E t c off
    | none => match E.ro b with
      | some c => partVF E t c off
      | none => none
    | _ => none
  | _ => none
theorem aLoad_C : @aLoad = @aLoadC := by
  delta aLoad aLoadC
  simp only [partV_F]
  try rfl
noncomputable def aLoadO : { f // @aLoadC = f } := by
  refine ⟨?_, ?_⟩
  rotate_left
  · delta aLoadC aLoadC.match_2 aNilCheckC._sparseCasesOn_2 Option.casesOn aLoadC.match_1 aLoadC._sparseCasesOn_1 eqVC._sparseCasesOn_4 Go.Addr.casesOn partVC.match_1 eqVC._sparseCasesOn_3 cond cond.match_1 Bool.casesOn and or not Bool.and.match_1
    dsimp only
    exact rfl
noncomputable def aLoadF : type_of% @aLoadC := by
  refine (fun (f : type_of% @aLoadC) (_ : @aLoadC = f) => f) ?_ ?_
  rotate_left
  · delta aLoadC aLoadC.match_2 aNilCheckC._sparseCasesOn_2 Option.casesOn aLoadC.match_1 aLoadC._sparseCasesOn_1 eqVC._sparseCasesOn_4 Go.Addr.casesOn partVC.match_1 eqVC._sparseCasesOn_3 cond cond.match_1 Bool.casesOn and or not Bool.and.match_1
    dsimp only
    exact rfl
theorem aLoad_CF : @aLoadC = @aLoadF := aLoadO.2.trans rfl
theorem aLoad_F : @aLoad = @aLoadF := aLoad_C.trans aLoad_CF

noncomputable def aStoreC (t : TypeId) (a v : Value) (A : ASt) : Option ASt :=
  match a with
  | .pointer (some ⟨b, off, none⟩) =>
    match A.get b, E.ti t with
    | some (.row c sz tail), some i =>
      let vs := v.cells.toList
      cond (Nat.beq vs.length i.size && singles vs)
        (match overF c off vs with
         | some c' => some (A.set b (.row c' sz tail))
         | none => none) none
    | _, _ => none
  | _ => none
theorem aStore_C : @aStore = @aStoreC := by
  delta aStore aStoreC
  simp only [over_F]
  try rfl
noncomputable def aStoreO : { f // @aStoreC = f } := by
  refine ⟨?_, ?_⟩
  rotate_left
  · delta aStoreC aLoadC.match_2 aNilCheckC._sparseCasesOn_2 Option.casesOn aLoadC._sparseCasesOn_1 eqVC._sparseCasesOn_4 Go.Addr.casesOn aStoreC.match_1 partVC.match_1 eqVC._sparseCasesOn_3 cond cond.match_1 Bool.casesOn and or not Bool.and.match_1
    dsimp only
    exact rfl
noncomputable def aStoreF : type_of% @aStoreC := by
  refine (fun (f : type_of% @aStoreC) (_ : @aStoreC = f) => f) ?_ ?_
  rotate_left
  · delta aStoreC aLoadC.match_2 aNilCheckC._sparseCasesOn_2 Option.casesOn aLoadC._sparseCasesOn_1 eqVC._sparseCasesOn_4 Go.Addr.casesOn aStoreC.match_1 partVC.match_1 eqVC._sparseCasesOn_3 cond cond.match_1 Bool.casesOn and or not Bool.and.match_1
    dsimp only
    exact rfl
theorem aStore_CF : @aStoreC = @aStoreF := aStoreO.2.trans rfl
theorem aStore_F : @aStore = @aStoreF := aStore_C.trans aStore_CF

noncomputable def aFieldAddrC (s : TypeId) (x : Value) (f : Nat) : Option Value :=
  match E.ti s, x with
  | some i, .pointer (some ⟨b, off, none⟩) =>
    match i.desc with
    | .struct fields => match nthF fields.toList f with
      | some fd => match E.ti fd.type with
        | some j => cond (Nat.beq j.size 0) none (some (.pointer (some ⟨b, off + fd.offset, none⟩)))
        | none => none
      | none => none
    | _ => none
  | _, _ => none
theorem aFieldAddr_C : @aFieldAddr = @aFieldAddrC := by
  delta aFieldAddr aFieldAddrC
  simp only [nth_F]
  try rfl
noncomputable def aFieldAddrO : { f // @aFieldAddrC = f } := by
  refine ⟨?_, ?_⟩
  rotate_left
  · delta aFieldAddrC aFieldAddrC.match_2 aNilCheckC._sparseCasesOn_2 Option.casesOn eqVC._sparseCasesOn_4 aFieldAddrC.match_1 Go.Addr.casesOn aFieldAddrC._sparseCasesOn_2 partVC.match_2 eqVC._sparseCasesOn_3 aFieldAddrC.match_3 cond cond.match_1 Bool.casesOn and or not Bool.and.match_1
    dsimp only
    exact rfl
noncomputable def aFieldAddrF : type_of% @aFieldAddrC := by
  refine (fun (f : type_of% @aFieldAddrC) (_ : @aFieldAddrC = f) => f) ?_ ?_
  rotate_left
  · delta aFieldAddrC aFieldAddrC.match_2 aNilCheckC._sparseCasesOn_2 Option.casesOn eqVC._sparseCasesOn_4 aFieldAddrC.match_1 Go.Addr.casesOn aFieldAddrC._sparseCasesOn_2 partVC.match_2 eqVC._sparseCasesOn_3 aFieldAddrC.match_3 cond cond.match_1 Bool.casesOn and or not Bool.and.match_1
    dsimp only
    exact rfl
theorem aFieldAddr_CF : @aFieldAddrC = @aFieldAddrF := aFieldAddrO.2.trans rfl
theorem aFieldAddr_F : @aFieldAddr = @aFieldAddrF := aFieldAddr_C.trans aFieldAddr_CF

noncomputable def aFieldC (s : TypeId) (x : Value) (f : Nat) : Option Value :=
  match E.ti s, x with
  | some i, .agg cs =>
    match i.desc with
    | .struct fields => match nthF fields.toList f with
      | some fd => partVF E fd.type cs.toList fd.offset
      | none => none
    | _ => none
  | _, _ => none
theorem aField_C : @aField = @aFieldC := by
  delta aField aFieldC
  simp only [nth_F, partV_F]
  try rfl
noncomputable def aFieldO : { f // @aFieldC = f } := by
  refine ⟨?_, ?_⟩
  rotate_left
  · delta aFieldC aFieldAddrC.match_2 aFieldC.match_1 aFieldC._sparseCasesOn_1 aNilCheckC._sparseCasesOn_2 Option.casesOn aFieldAddrC.match_1 aFieldAddrC._sparseCasesOn_2 cond cond.match_1 Bool.casesOn and or not Bool.and.match_1
    dsimp only
    exact rfl
noncomputable def aFieldF : type_of% @aFieldC := by
  refine (fun (f : type_of% @aFieldC) (_ : @aFieldC = f) => f) ?_ ?_
  rotate_left
  · delta aFieldC aFieldAddrC.match_2 aFieldC.match_1 aFieldC._sparseCasesOn_1 aNilCheckC._sparseCasesOn_2 Option.casesOn aFieldAddrC.match_1 aFieldAddrC._sparseCasesOn_2 cond cond.match_1 Bool.casesOn and or not Bool.and.match_1
    dsimp only
    exact rfl
theorem aField_CF : @aFieldC = @aFieldF := aFieldO.2.trans rfl
theorem aField_F : @aField = @aFieldF := aField_C.trans aField_CF

noncomputable def aIndexAddrC (t : TypeId) (x ix : Value) : Option Value :=
  match E.ti t, ix with
  | some i, .int _ (.ofNat k) =>
    match i.desc, x with
    | .array len e, .pointer (some ⟨b, off, none⟩) => match E.ti e with
      | some j => cond (Nat.blt k len) (some (.pointer (some ⟨b, off + k * j.size, none⟩))) none
      | none => none
    | .slice e, .slice (some ⟨b, off, none⟩) len _ => match E.ti e with
      | some j => cond (Nat.blt k len) (some (.pointer (some ⟨b, off + k * j.size, none⟩))) none
      | none => none
    | _, _ => none
  | _, _ => none
theorem aIndexAddr_C : @aIndexAddr = @aIndexAddrC := by
  delta aIndexAddr aIndexAddrC
  rfl
noncomputable def aIndexAddrO : { f // @aIndexAddrC = f } := by
  refine ⟨?_, ?_⟩
  rotate_left
  · delta aIndexAddrC aIndexAddrC._sparseCasesOn_1 aIndexAddrC.match_1 aNilCheckC._sparseCasesOn_2 Option.casesOn eqVC._sparseCasesOn_4 Go.Addr.casesOn natOfC._sparseCasesOn_1 eqVC._sparseCasesOn_5 partVC.match_2 natOfC._sparseCasesOn_2 eqVC._sparseCasesOn_3 aIndexAddrC.match_2 cond cond.match_1 Bool.casesOn and or not Bool.and.match_1
    dsimp only
    exact rfl
noncomputable def aIndexAddrF : type_of% @aIndexAddrC := by
  refine (fun (f : type_of% @aIndexAddrC) (_ : @aIndexAddrC = f) => f) ?_ ?_
  rotate_left
  · delta aIndexAddrC aIndexAddrC._sparseCasesOn_1 aIndexAddrC.match_1 aNilCheckC._sparseCasesOn_2 Option.casesOn eqVC._sparseCasesOn_4 Go.Addr.casesOn natOfC._sparseCasesOn_1 eqVC._sparseCasesOn_5 partVC.match_2 natOfC._sparseCasesOn_2 eqVC._sparseCasesOn_3 aIndexAddrC.match_2 cond cond.match_1 Bool.casesOn and or not Bool.and.match_1
    dsimp only
    exact rfl
theorem aIndexAddr_CF : @aIndexAddrC = @aIndexAddrF := aIndexAddrO.2.trans rfl
theorem aIndexAddr_F : @aIndexAddr = @aIndexAddrF := aIndexAddr_C.trans aIndexAddr_CF

noncomputable def aIndexC (t : TypeId) (x ix : Value) : Option Value :=
  match E.ti t, ix with
  | some i, .int _ (.ofNat k) =>
    match i.desc, x with
    | .array len e, .agg cs => match E.ti e with
      | some j => cond (Nat.blt k len) (partVF E e cs.toList (k * j.size)) none
      | none => none
    | .string, .string s => match nthF s.data.toList k with
      | some b => some (.int .u8 b.toNat)
      | none => none
    | _, _ => none
  | _, _ => none
theorem aIndex_C : @aIndex = @aIndexC := by
  delta aIndex aIndexC
  simp only [nth_F, partV_F]
  try rfl
noncomputable def aIndexO : { f // @aIndexC = f } := by
  refine ⟨?_, ?_⟩
  rotate_left
  · delta aIndexC aIndexC._sparseCasesOn_3 aFieldC._sparseCasesOn_1 aIndexC._sparseCasesOn_2 aNilCheckC._sparseCasesOn_2 Option.casesOn aIndexC.match_1 aIndexC.match_2 natOfC._sparseCasesOn_1 partVC.match_2 natOfC._sparseCasesOn_2 aIndexAddrC.match_2 cond cond.match_1 Bool.casesOn and or not Bool.and.match_1
    dsimp only
    exact rfl
noncomputable def aIndexF : type_of% @aIndexC := by
  refine (fun (f : type_of% @aIndexC) (_ : @aIndexC = f) => f) ?_ ?_
  rotate_left
  · delta aIndexC aIndexC._sparseCasesOn_3 aFieldC._sparseCasesOn_1 aIndexC._sparseCasesOn_2 aNilCheckC._sparseCasesOn_2 Option.casesOn aIndexC.match_1 aIndexC.match_2 natOfC._sparseCasesOn_1 partVC.match_2 natOfC._sparseCasesOn_2 aIndexAddrC.match_2 cond cond.match_1 Bool.casesOn and or not Bool.and.match_1
    dsimp only
    exact rfl
theorem aIndex_CF : @aIndexC = @aIndexF := aIndexO.2.trans rfl
theorem aIndex_F : @aIndex = @aIndexF := aIndex_C.trans aIndex_CF

noncomputable def aBinC (op : BinOp) (t : TypeId) (xo yo : Operand) (x y : Value) : Option Value :=
  match x, y with
  | .int k a, .int k' b =>
    match op with
    | .shl | .shr => shiftOpF op k a b
    | _ => cond (Nat.beq k.ctorIdx k'.ctorIdx) (intOpF op k a b) none
  | .string a, .string b => strOp op a b
  | .nilIface, .nilIface =>
    match E.ti t with
    | some i => match i.desc with
      | .interface _ => cond (isConstOp xo || isConstOp yo) (match op with
        | .eql => some (.bool true)
        | .neq => some (.bool false)
        | _ => none) none
      | _ => none
    | none => none
  | _, _ =>
    match op with
    | .eql => match eqVF E t x y with | some b => some (.bool b) | none => none
    | .neq => match eqVF E t x y with | some b => some (.bool (!b)) | none => none
    | _ => none
theorem aBin_C : @aBin = @aBinC := by
  delta aBin aBinC
  simp only [intOp_F, shiftOp_F, eqV_F]
  try rfl
noncomputable def aBinO : { f // @aBinC = f } := by
  refine ⟨?_, ?_⟩
  rotate_left
  · delta aBinC shiftOpC.match_1 aBinC._sparseCasesOn_4 aIndexC._sparseCasesOn_3 aBinC.match_3 aBinC._sparseCasesOn_2 Option.casesOn aBinC.match_4 aBinC.match_1 eqVC._sparseCasesOn_11 aBinC._sparseCasesOn_1 natOfC._sparseCasesOn_1 partVC.match_2 aBinC.match_2 shiftOpC._sparseCasesOn_1 cond cond.match_1 Bool.casesOn and or not Bool.and.match_1
    dsimp only
    exact rfl
noncomputable def aBinF : type_of% @aBinC := by
  refine (fun (f : type_of% @aBinC) (_ : @aBinC = f) => f) ?_ ?_
  rotate_left
  · delta aBinC shiftOpC.match_1 aBinC._sparseCasesOn_4 aIndexC._sparseCasesOn_3 aBinC.match_3 aBinC._sparseCasesOn_2 Option.casesOn aBinC.match_4 aBinC.match_1 eqVC._sparseCasesOn_11 aBinC._sparseCasesOn_1 natOfC._sparseCasesOn_1 partVC.match_2 aBinC.match_2 shiftOpC._sparseCasesOn_1 cond cond.match_1 Bool.casesOn and or not Bool.and.match_1
    dsimp only
    exact rfl
theorem aBin_CF : @aBinC = @aBinF := aBinO.2.trans rfl
theorem aBin_F : @aBin = @aBinF := aBin_C.trans aBin_CF

noncomputable def aBin2C (op : BinOp) (t : TypeId) (xo yo : Operand) (x y : Value) : Option Value :=
  match aBinF E op t xo yo x y with
  | some r => some r
  | none => cond (closed x && closed y) (match E.bin op t xo yo x y with
    | some r => cond (flat r) (some r) none
    | none => none) none
theorem aBin2_C : @aBin2 = @aBin2C := by
  delta aBin2 aBin2C
  simp only [aBin_F]
  try rfl
noncomputable def aBin2O : { f // @aBin2C = f } := by
  refine ⟨?_, ?_⟩
  rotate_left
  · delta aBin2C tgetC.match_1 Option.casesOn cond cond.match_1 Bool.casesOn and or not Bool.and.match_1
    dsimp only
    exact rfl
noncomputable def aBin2F : type_of% @aBin2C := by
  refine (fun (f : type_of% @aBin2C) (_ : @aBin2C = f) => f) ?_ ?_
  rotate_left
  · delta aBin2C tgetC.match_1 Option.casesOn cond cond.match_1 Bool.casesOn and or not Bool.and.match_1
    dsimp only
    exact rfl
theorem aBin2_CF : @aBin2C = @aBin2F := aBin2O.2.trans rfl
theorem aBin2_F : @aBin2 = @aBin2F := aBin2_C.trans aBin2_CF

noncomputable def aLenC (t : TypeId) (x : Value) (A : ASt) : Option Value :=
  match E.ti t with
  | none => none
  | some i =>
    match i.desc, x with
    | .string, .string s => some (goInt s.data.toList.length)
    | .array n _, _ => some (goInt n)
    | .pointer arr, _ => match E.ti arr with
      | some j => match j.desc with
        | .array n _ => some (goInt n)
        | _ => none
      | none => none
    | .slice _, .slice _ n _ => some (goInt n)
    | .map _ _, .map none => some (goInt 0)
    | .map _ _, .map (some r) => match A.get r with
      | some (.map es _) => some (goInt es.length)
      | _ => none
    | _, _ => none
theorem aLen_C : @aLen = @aLenC := by
  delta aLen aLenC
  rfl
noncomputable def aLenO : { f // @aLenC = f } := by
  refine ⟨?_, ?_⟩
  rotate_left
  · delta aLenC aLenC._sparseCasesOn_1 aIndexC._sparseCasesOn_3 aLenC.match_3 aNilCheckC._sparseCasesOn_2 Option.casesOn aLenC._sparseCasesOn_3 eqVC._sparseCasesOn_6 aLenC._sparseCasesOn_2 eqVC.match_11 eqVC._sparseCasesOn_5 partVC.match_2 aLenC.match_1 aLenC.match_2 cond cond.match_1 Bool.casesOn and or not Bool.and.match_1
    dsimp only
    exact rfl
noncomputable def aLenF : type_of% @aLenC := by
  refine (fun (f : type_of% @aLenC) (_ : @aLenC = f) => f) ?_ ?_
  rotate_left
  · delta aLenC aLenC._sparseCasesOn_1 aIndexC._sparseCasesOn_3 aLenC.match_3 aNilCheckC._sparseCasesOn_2 Option.casesOn aLenC._sparseCasesOn_3 eqVC._sparseCasesOn_6 aLenC._sparseCasesOn_2 eqVC.match_11 eqVC._sparseCasesOn_5 partVC.match_2 aLenC.match_1 aLenC.match_2 cond cond.match_1 Bool.casesOn and or not Bool.and.match_1
    dsimp only
    exact rfl
theorem aLen_CF : @aLenC = @aLenF := aLenO.2.trans rfl
theorem aLen_F : @aLen = @aLenF := aLen_C.trans aLen_CF

noncomputable def aSliceC (t : TypeId) (x : Value) (lo hi mx : Option Value) (A : ASt) : Option Value :=
  match E.ti t with
  | none => none
  | some i =>
    match i.desc, x, mx with
    | .string, .string s, none =>
      let l := s.data.toList
      match boundOrF hi l.length with
      | some h => match boundOrF lo 0 with
        | some a => cond (Nat.ble a h && Nat.ble h l.length) (some (.string ⟨((l.drop a).take (h - a)).toArray⟩)) none
        | none => none
      | none => none
    | .slice e, .slice none len cap, _ =>
      match E.ti e with
      | some _ => match boundOrF mx cap with
        | some m => match boundOrF hi len with
          | some h => match boundOrF lo 0 with
            | some a => cond ((Nat.beq a 0 && (Nat.beq h 0 && (Nat.beq cap 0 && Nat.beq len 0))) && (Nat.beq m 0 && (mx.isNone || hi.isSome))) (some x) none
            | none => none
          | none => none
        | none => none
      | none => none
    | .slice e, .slice (some ⟨b, off, none⟩) len cap, _ =>
      match E.ti e, A.get b with
      | some j, some (.row c sz _) =>
        match boundOrF mx cap with
        | some m => match boundOrF hi len with
          | some h => match boundOrF lo 0 with
            | some a =>
              cond (Nat.ble a h && (Nat.ble (off + h * j.size) c.length && (Nat.beq sz j.size && Nat.blt 0 sz)))
                (cond (Nat.blt m unk)
                  (cond (Nat.ble h m && ((mx.isNone || (hi.isSome && (Nat.blt cap unk && Nat.ble m cap || Nat.beq cap unk && Nat.ble (off + m * j.size) c.length))) && (Nat.blt a m || Nat.beq a 0)))
                    (some (.slice (some ⟨b, off + a * j.size, none⟩) (h - a) (m - a))) none)
                  -- to the end of the row
                  (cond (mx.isNone && (Nat.beq cap unk && (Nat.beq a 0 || Nat.blt (off + a * j.size) c.length)))
                    (some (.slice (some ⟨b, off + a * j.size, none⟩) (h - a) unk)) (cond (mx.isNone && (Nat.beq cap unk && Nat.beq a h)) (some zslice) none))) none
            | none => none
          | none => none
        | none => none
      | _, _ => none
    | .array n e, .pointer (some ⟨b, off, none⟩), none =>
      match E.ti e with
      | some j =>
        match boundOrF hi n with
        | some h => match boundOrF lo 0 with
          | some a => cond (Nat.ble a h && (Nat.ble h n && (Nat.blt n unk && (Nat.blt a n || Nat.beq a 0)))) (some (.slice (some ⟨b, off + a * j.size, none⟩) (h - a) (n - a))) none
          | none => none
        | none => none
      | none => none
    | _, _, _ => none
theorem aSlice_C : @aSlice = @aSliceC := by
  delta aSlice aSliceC
  simp only [boundOr_F]
  try rfl
noncomputable def aSliceO : { f // @aSliceC = f } := by
  refine ⟨?_, ?_⟩
  rotate_left
  · delta aSliceC aIndexC._sparseCasesOn_3 aNilCheckC._sparseCasesOn_2 Option.casesOn aLoadC._sparseCasesOn_1 aSliceC.match_1 eqVC._sparseCasesOn_4 Go.Addr.casesOn eqVC.match_11 aSliceC.match_2 eqVC._sparseCasesOn_5 partVC.match_2 eqVC._sparseCasesOn_3 aSliceC._sparseCasesOn_3 aSliceC.match_3 cond cond.match_1 Bool.casesOn and or not Bool.and.match_1
    dsimp only
    exact rfl
noncomputable def aSliceF : type_of% @aSliceC := by
  refine (fun (f : type_of% @aSliceC) (_ : @aSliceC = f) => f) ?_ ?_
  rotate_left
  · delta aSliceC aIndexC._sparseCasesOn_3 aNilCheckC._sparseCasesOn_2 Option.casesOn aLoadC._sparseCasesOn_1 aSliceC.match_1 eqVC._sparseCasesOn_4 Go.Addr.casesOn eqVC.match_11 aSliceC.match_2 eqVC._sparseCasesOn_5 partVC.match_2 eqVC._sparseCasesOn_3 aSliceC._sparseCasesOn_3 aSliceC.match_3 cond cond.match_1 Bool.casesOn and or not Bool.and.match_1
    dsimp only
    exact rfl
theorem aSlice_CF : @aSliceC = @aSliceF := aSliceO.2.trans rfl
theorem aSlice_F : @aSlice = @aSliceF := aSlice_C.trans aSlice_CF

noncomputable def aLookupC (t : TypeId) (x k : Value) (ok : Bool) (A : ASt) : Option Value :=
  match E.ti t with
  | none => none
  | some i =>
    match i.desc with
    | .map kt et =>
      match E.ti kt, E.ti et with
      | some ki, some ei =>
        cond (plainKey ki.desc k)
          (match (match x with
              | .map none => some []
              | .map (some r) => match A.get r with
                | some (.map es _) => some es
                | _ => none
              | _ => none) with
            | none => none
            | some es =>
              match findE k es 0 with
              | some (some (_, v)) => some (if ok then .tuple #[v, .bool true] else v)
              | some none => match ei.zero with
                | some z => cond (closed z) (some (if ok then .tuple #[z, .bool false] else z)) none
                | none => none
              | none => none) none
      | _, _ => none
    | _ => none
theorem aLookup_C : @aLookup = @aLookupC := by
  delta aLookup aLookupC
  rfl
noncomputable def aLookupO : { f // @aLookupC = f } := by
  refine ⟨?_, ?_⟩
  rotate_left
  · delta aLookupC tgetC.match_1 aLookupC.match_2 aNilCheckC._sparseCasesOn_2 Option.casesOn aLookupC.match_1 aLookupC.match_4 eqVC._sparseCasesOn_6 aLenC._sparseCasesOn_2 aLookupC.match_3 eqVC.match_11 aLookupC._sparseCasesOn_2 aLookupC.match_5 Prod.casesOn aLenC.match_2 cond cond.match_1 Bool.casesOn and or not Bool.and.match_1
    dsimp only
    exact rfl
noncomputable def aLookupF : type_of% @aLookupC := by
  refine (fun (f : type_of% @aLookupC) (_ : @aLookupC = f) => f) ?_ ?_
  rotate_left
  · delta aLookupC tgetC.match_1 aLookupC.match_2 aNilCheckC._sparseCasesOn_2 Option.casesOn aLookupC.match_1 aLookupC.match_4 eqVC._sparseCasesOn_6 aLenC._sparseCasesOn_2 aLookupC.match_3 eqVC.match_11 aLookupC._sparseCasesOn_2 aLookupC.match_5 Prod.casesOn aLenC.match_2 cond cond.match_1 Bool.casesOn and or not Bool.and.match_1
    dsimp only
    exact rfl
theorem aLookup_CF : @aLookupC = @aLookupF := aLookupO.2.trans rfl
theorem aLookup_F : @aLookup = @aLookupF := aLookup_C.trans aLookup_CF

noncomputable def aMapUpdateC (t : TypeId) (m k v : Value) (A : ASt) : Option ASt :=
  match E.ti t, m with
  | some i, .map (some r) =>
    match i.desc with
    | .map kt _ =>
      match E.ti kt, A.get r with
      | some ki, some (.map es clock) =>
        cond (plainKey ki.desc k)
          (match findE k es 0 with
           | some (some (j, _)) => some (A.set r (.map (setVal es j k v) clock))
           | some none => some (A.set r (.map (es ++ [{ key := k, val := v, born := clock }]) (clock + 1)))
           | none => none) none
      | _, _ => none
    | _ => none
  | _, _ => none
theorem aMapUpdate_C : @aMapUpdate = @aMapUpdateC := by
  delta aMapUpdate aMapUpdateC
  rfl
noncomputable def aMapUpdateO : { f // @aMapUpdateC = f } := by
  refine ⟨?_, ?_⟩
  rotate_left
  · delta aMapUpdateC aMapUpdateC.match_2 aLookupC.match_2 aNilCheckC._sparseCasesOn_2 Option.casesOn aLookupC.match_4 eqVC._sparseCasesOn_6 aLenC._sparseCasesOn_2 aLookupC._sparseCasesOn_2 aMapUpdateC.match_1 Prod.casesOn cond cond.match_1 Bool.casesOn and or not Bool.and.match_1
    dsimp only
    exact rfl
noncomputable def aMapUpdateF : type_of% @aMapUpdateC := by
  refine (fun (f : type_of% @aMapUpdateC) (_ : @aMapUpdateC = f) => f) ?_ ?_
  rotate_left
  · delta aMapUpdateC aMapUpdateC.match_2 aLookupC.match_2 aNilCheckC._sparseCasesOn_2 Option.casesOn aLookupC.match_4 eqVC._sparseCasesOn_6 aLenC._sparseCasesOn_2 aLookupC._sparseCasesOn_2 aMapUpdateC.match_1 Prod.casesOn cond cond.match_1 Bool.casesOn and or not Bool.and.match_1
    dsimp only
    exact rfl
theorem aMapUpdate_CF : @aMapUpdateC = @aMapUpdateF := aMapUpdateO.2.trans rfl
theorem aMapUpdate_F : @aMapUpdate = @aMapUpdateF := aMapUpdate_C.trans aMapUpdate_CF

noncomputable def aConvertC (src dst : TypeId) (x : Value) (A : ASt) : Option Value :=
  match E.ti src, E.ti dst with
  | some i, some j =>
    match j.desc, x with
    | .int k, .int _ n => some (.int k (k.wrap n))
    | .string, .string _ => some x
    | .string, .int _ n => some (.string (Utf8.encode n))
    | .string, .slice none _ _ =>
      match i.desc with
      | .slice e => match E.ti e with
        | some u => match u.desc with
          | .int .u8 => some (.string .empty)
          | _ => none
        | none => none
      | _ => none
    | .string, .slice (some ⟨b, off, none⟩) len _ =>
      match i.desc with
      | .slice e => match E.ti e with
        | some u => match u.desc, A.get b with
          | .int .u8, some (.row c _ _) => match cutF c off len with
            | some r => match cellBytes r with
              | some bs => some (.string ⟨bs.toArray⟩)
              | none => none
            | none => none
          | _, _ => none
        | none => none
      | _ => none
    | _, _ => none
  | _, _ => none
theorem aConvert_C : @aConvert = @aConvertC := by
  delta aConvert aConvertC
  simp only [cut_F]
  try rfl
noncomputable def aConvertO : { f // @aConvertC = f } := by
  refine ⟨?_, ?_⟩
  rotate_left
  · delta aConvertC aConvertC.match_3 aConvertC.match_5 aNilCheckC._sparseCasesOn_2 Option.casesOn aLookupC.match_1 aLoadC._sparseCasesOn_1 eqVC._sparseCasesOn_4 Go.Addr.casesOn aConvertC._sparseCasesOn_2 aConvertC.match_4 natOfC._sparseCasesOn_1 partVC.match_1 aConvertC._sparseCasesOn_5 partVC.match_2 aConvertC._sparseCasesOn_3 aConvertC._sparseCasesOn_1 aConvertC.match_1 aConvertC._sparseCasesOn_6 aConvertC.match_2 cond cond.match_1 Bool.casesOn and or not Bool.and.match_1
    dsimp only
    exact rfl
noncomputable def aConvertF : type_of% @aConvertC := by
  refine (fun (f : type_of% @aConvertC) (_ : @aConvertC = f) => f) ?_ ?_
  rotate_left
  · delta aConvertC aConvertC.match_3 aConvertC.match_5 aNilCheckC._sparseCasesOn_2 Option.casesOn aLookupC.match_1 aLoadC._sparseCasesOn_1 eqVC._sparseCasesOn_4 Go.Addr.casesOn aConvertC._sparseCasesOn_2 aConvertC.match_4 natOfC._sparseCasesOn_1 partVC.match_1 aConvertC._sparseCasesOn_5 partVC.match_2 aConvertC._sparseCasesOn_3 aConvertC._sparseCasesOn_1 aConvertC.match_1 aConvertC._sparseCasesOn_6 aConvertC.match_2 cond cond.match_1 Bool.casesOn and or not Bool.and.match_1
    dsimp only
    exact rfl
theorem aConvert_CF : @aConvertC = @aConvertF := aConvertO.2.trans rfl
theorem aConvert_F : @aConvert = @aConvertF := aConvert_C.trans aConvert_CF

noncomputable def aMakeIfaceC (t : TypeId) (x : Value) : Option Value :=
  match E.ti t with
  | some i => match i.desc with
    | .interface _ => none
    | _ => some (.iface t x)
  | none => none
theorem aMakeIface_C : @aMakeIface = @aMakeIfaceC := by
  delta aMakeIface aMakeIfaceC
  rfl
noncomputable def aMakeIfaceO : { f // @aMakeIfaceC = f } := by
  refine ⟨?_, ?_⟩
  rotate_left
  · delta aMakeIfaceC aBinC._sparseCasesOn_2 Option.casesOn partVC.match_2 aBinC.match_2 cond cond.match_1 Bool.casesOn and or not Bool.and.match_1
    dsimp only
    exact rfl
noncomputable def aMakeIfaceF : type_of% @aMakeIfaceC := by
  refine (fun (f : type_of% @aMakeIfaceC) (_ : @aMakeIfaceC = f) => f) ?_ ?_
  rotate_left
  · delta aMakeIfaceC aBinC._sparseCasesOn_2 Option.casesOn partVC.match_2 aBinC.match_2 cond cond.match_1 Bool.casesOn and or not Bool.and.match_1
    dsimp only
    exact rfl
theorem aMakeIface_CF : @aMakeIfaceC = @aMakeIfaceF := aMakeIfaceO.2.trans rfl
theorem aMakeIface_F : @aMakeIface = @aMakeIfaceF := aMakeIface_C.trans aMakeIface_CF

noncomputable def aMakeSliceC (t : TypeId) (l c : Value) : Option Fresh :=
  match E.ti t with
  | some i =>
    match i.desc with
    | .slice e =>
      match E.ti e, l, c with
      | some j, .int _ (.ofNat ln), .int _ (.ofNat cn) =>
        match j.zero with
        | some z =>
          cond (closed z && (Nat.beq z.cells.toList.length j.size && (Nat.ble ln cn && (Nat.ble (j.bytes * cn) 1000000000 && Nat.ble cn 1000000000))))
            (some (.row (reps z.cells.toList cn) j.size false, fun id => .slice (some ⟨id, 0, none⟩) ln cn)) none
        | none => none
      | _, _, _ => none
    | _ => none
  | none => none
theorem aMakeSlice_C : @aMakeSlice = @aMakeSliceC := by
  delta aMakeSlice aMakeSliceC
  rfl
noncomputable def aMakeSliceO : { f // @aMakeSliceC = f } := by
  refine ⟨?_, ?_⟩
  rotate_left
  · delta aMakeSliceC aMakeSliceC.match_1 tgetC.match_1 aNilCheckC._sparseCasesOn_2 Option.casesOn natOfC._sparseCasesOn_1 partVC.match_2 natOfC._sparseCasesOn_2 aConvertC._sparseCasesOn_3 aConvertC.match_2 cond cond.match_1 Bool.casesOn and or not Bool.and.match_1
    dsimp only
    exact rfl
noncomputable def aMakeSliceF : type_of% @aMakeSliceC := by
  refine (fun (f : type_of% @aMakeSliceC) (_ : @aMakeSliceC = f) => f) ?_ ?_
  rotate_left
  · delta aMakeSliceC aMakeSliceC.match_1 tgetC.match_1 aNilCheckC._sparseCasesOn_2 Option.casesOn natOfC._sparseCasesOn_1 partVC.match_2 natOfC._sparseCasesOn_2 aConvertC._sparseCasesOn_3 aConvertC.match_2 cond cond.match_1 Bool.casesOn and or not Bool.and.match_1
    dsimp only
    exact rfl
theorem aMakeSlice_CF : @aMakeSliceC = @aMakeSliceF := aMakeSliceO.2.trans rfl
theorem aMakeSlice_F : @aMakeSlice = @aMakeSliceF := aMakeSlice_C.trans aMakeSlice_CF

noncomputable def aBytesOfC (src dst : TypeId) (x : Value) : Option Fresh :=
  match E.ti src, E.ti dst with
  | some _, some j =>
    match j.desc, x with
    | .slice e, .string s =>
      match E.ti e with
      | some u => match u.desc with
        | .int .u8 => some (.row (byteCells s.data.toList) 1 true, fun id => .slice (some ⟨id, 0, none⟩) s.data.toList.length unk)
        | _ => none
      | none => none
    | _, _ => none
  | _, _ => none
theorem aBytesOf_C : @aBytesOf = @aBytesOfC := by
  delta aBytesOf aBytesOfC
  rfl
noncomputable def aBytesOfO : { f // @aBytesOfC = f } := by
  refine ⟨?_, ?_⟩
  rotate_left
  · delta aBytesOfC aIndexC._sparseCasesOn_3 aNilCheckC._sparseCasesOn_2 Option.casesOn aLookupC.match_1 aConvertC._sparseCasesOn_2 partVC.match_2 aConvertC._sparseCasesOn_3 aConvertC._sparseCasesOn_1 aConvertC.match_1 aBytesOfC.match_1 cond cond.match_1 Bool.casesOn and or not Bool.and.match_1
    dsimp only
    exact rfl
noncomputable def aBytesOfF : type_of% @aBytesOfC := by
  refine (fun (f : type_of% @aBytesOfC) (_ : @aBytesOfC = f) => f) ?_ ?_
  rotate_left
  · delta aBytesOfC aIndexC._sparseCasesOn_3 aNilCheckC._sparseCasesOn_2 Option.casesOn aLookupC.match_1 aConvertC._sparseCasesOn_2 partVC.match_2 aConvertC._sparseCasesOn_3 aConvertC._sparseCasesOn_1 aConvertC.match_1 aBytesOfC.match_1 cond cond.match_1 Bool.casesOn and or not Bool.and.match_1
    dsimp only
    exact rfl
theorem aBytesOf_CF : @aBytesOfC = @aBytesOfF := aBytesOfO.2.trans rfl
theorem aBytesOf_F : @aBytesOf = @aBytesOfF := aBytesOf_C.trans aBytesOf_CF

noncomputable def aBuildC (t : TypeId) (parts : List (Nat × Value)) : Option Value :=
  match E.ti t with
  | some i =>
    match i.zero with
    | some z =>
      cond (closed z) (match i.desc with
        | .struct fields => match places E fields.toList with
          | some ps => match fillV (nthF ps) z.cells.toList parts with
            | some cs => some (.agg cs.toArray)
            | none => none
          | none => none
        | .array _ elem => match E.ti elem with
          | some j => match fillV (fun k => some (k * j.size, j.size)) z.cells.toList parts with
            | some cs => some (.agg cs.toArray)
            | none => none
          | none => none
        | _ => none) none
    | none => none
  | none => none
theorem aBuild_C : @aBuild = @aBuildC := by
  delta aBuild aBuildC
  simp only [nth_F]
  try rfl
noncomputable def aBuildO : { f // @aBuildC = f } := by
  refine ⟨?_, ?_⟩
  rotate_left
  · delta aBuildC tgetC.match_1 Option.casesOn aBuildC.match_2 partVC.match_1 partVC.match_2 aBuildC.match_1 aBuildC._sparseCasesOn_2 cond cond.match_1 Bool.casesOn and or not Bool.and.match_1
    dsimp only
    exact rfl
noncomputable def aBuildF : type_of% @aBuildC := by
  refine (fun (f : type_of% @aBuildC) (_ : @aBuildC = f) => f) ?_ ?_
  rotate_left
  · delta aBuildC tgetC.match_1 Option.casesOn aBuildC.match_2 partVC.match_1 partVC.match_2 aBuildC.match_1 aBuildC._sparseCasesOn_2 cond cond.match_1 Bool.casesOn and or not Bool.and.match_1
    dsimp only
    exact rfl
theorem aBuild_CF : @aBuildC = @aBuildF := aBuildO.2.trans rfl
theorem aBuild_F : @aBuild = @aBuildF := aBuild_C.trans aBuild_CF

noncomputable def aBuildSliceC (t : TypeId) (len : Nat) (parts : List (Nat × Value)) : Option Fresh :=
  match E.ti t with
  | some i =>
    match i.desc with
    | .slice elem =>
      match E.ti elem with
      | some j =>
        match j.zero with
        | some z =>
          cond (closed z && (Nat.beq z.cells.toList.length j.size && (Nat.ble (len * j.size) 16777216 && Nat.blt len 1000000000))) (match fillV (fun k => some (k * j.size, j.size)) (reps z.cells.toList len) parts with
            | some cs => some (.row cs j.size false, fun id => .slice (some ⟨id, 0, none⟩) len len)
            | none => none) none
        | none => none
      | none => none
    | _ => none
  | none => none
theorem aBuildSlice_C : @aBuildSlice = @aBuildSliceC := by
  delta aBuildSlice aBuildSliceC
  rfl
noncomputable def aBuildSliceO : { f // @aBuildSliceC = f } := by
  refine ⟨?_, ?_⟩
  rotate_left
  · delta aBuildSliceC tgetC.match_1 Option.casesOn partVC.match_1 partVC.match_2 aConvertC._sparseCasesOn_3 aConvertC.match_2 cond cond.match_1 Bool.casesOn and or not Bool.and.match_1
    dsimp only
    exact rfl
noncomputable def aBuildSliceF : type_of% @aBuildSliceC := by
  refine (fun (f : type_of% @aBuildSliceC) (_ : @aBuildSliceC = f) => f) ?_ ?_
  rotate_left
  · delta aBuildSliceC tgetC.match_1 Option.casesOn partVC.match_1 partVC.match_2 aConvertC._sparseCasesOn_3 aConvertC.match_2 cond cond.match_1 Bool.casesOn and or not Bool.and.match_1
    dsimp only
    exact rfl
theorem aBuildSlice_CF : @aBuildSliceC = @aBuildSliceF := aBuildSliceO.2.trans rfl
theorem aBuildSlice_F : @aBuildSlice = @aBuildSliceF := aBuildSlice_C.trans aBuildSlice_CF

noncomputable def aAppendC (t : TypeId) (xt : TypeId) (s x : Value) (A : ASt) : AR :=
  match E.ti t, E.ti xt with
  | some i, some xi =>
    match i.desc with
    | .slice e =>
      match E.ti e, s, lenV x with
      | some j, .slice base len cap, some n =>
        match j.zero, srcCells j.size x n A with
        | some z, some new =>
          cond (!isIntD xi.desc && (Nat.blt 0 j.size && (Nat.blt ((len + n) * (j.bytes + 1)) 1000000000 && (Nat.beq new.length (n * j.size) && (singles new && (closed z && Nat.beq z.cells.toList.length j.size))))))
            (appendTo j.size base len cap n new A) (.bad "append: sizes")
        | _, _ => .bad "append: source"
      | _, _, _ => .bad "append"
    | _ => .bad "append: type"
  | _, _ => .bad "append"
theorem aAppend_C : @aAppend = @aAppendC := by
  delta aAppend aAppendC
  rfl
noncomputable def aAppendO : { f // @aAppendC = f } := by
  refine ⟨?_, ?_⟩
  rotate_left
  · delta aAppendC aAppendC.match_2 aNilCheckC._sparseCasesOn_2 aLookupC.match_1 eqVC._sparseCasesOn_5 aConvertC._sparseCasesOn_3 aConvertC.match_2 aAppendC.match_1 cond cond.match_1 Bool.casesOn and or not Bool.and.match_1
    dsimp only
    exact rfl
noncomputable def aAppendF : type_of% @aAppendC := by
  refine (fun (f : type_of% @aAppendC) (_ : @aAppendC = f) => f) ?_ ?_
  rotate_left
  · delta aAppendC aAppendC.match_2 aNilCheckC._sparseCasesOn_2 aLookupC.match_1 eqVC._sparseCasesOn_5 aConvertC._sparseCasesOn_3 aConvertC.match_2 aAppendC.match_1 cond cond.match_1 Bool.casesOn and or not Bool.and.match_1
    dsimp only
    exact rfl
theorem aAppend_CF : @aAppendC = @aAppendF := aAppendO.2.trans rfl
theorem aAppend_F : @aAppend = @aAppendF := aAppend_C.trans aAppend_CF

noncomputable def aMethodC (t : TypeId) (v : Value) (name : String) (A : ASt) : Option (FuncId × Value) :=
  match E.ti t with
  | none => none
  | some i =>
    match findMethod name i.methods.toList with
    | none => none
    | some m =>
      cond m.path.isEmpty (match m.func with
        | some (f, ptr) =>
          match i.desc, ptr with
          | .pointer _, true => some (f, v)
          | .pointer e, false => match aLoadF E e v A with
            | some r => some (f, r)
            | none => none
          | _, false => some (f, v)
          | _, true => none
        | none => none) none
theorem aMethod_C : @aMethod = @aMethodC := by
  delta aMethod aMethodC
  simp only [aLoad_F]
  try rfl
noncomputable def aMethodO : { f // @aMethodC = f } := by
  refine ⟨?_, ?_⟩
  rotate_left
  · delta aMethodC tgetC.match_1 Option.casesOn eqVC.match_11 Bool.casesOn aMethodC.match_3 aMethodC._sparseCasesOn_1 Prod.casesOn aMethodC.match_2 aMethodC.match_1 cond cond.match_1 Bool.casesOn and or not Bool.and.match_1
    dsimp only
    exact rfl
noncomputable def aMethodF : type_of% @aMethodC := by
  refine (fun (f : type_of% @aMethodC) (_ : @aMethodC = f) => f) ?_ ?_
  rotate_left
  · delta aMethodC tgetC.match_1 Option.casesOn eqVC.match_11 Bool.casesOn aMethodC.match_3 aMethodC._sparseCasesOn_1 Prod.casesOn aMethodC.match_2 aMethodC.match_1 cond cond.match_1 Bool.casesOn and or not Bool.and.match_1
    dsimp only
    exact rfl
theorem aMethod_CF : @aMethodC = @aMethodF := aMethodO.2.trans rfl
theorem aMethod_F : @aMethod = @aMethodF := aMethod_C.trans aMethod_CF

noncomputable def aEnterC (f : FuncId) (args : List Value) (A : ASt) : AR :=
  match E.fn f with
  | some _ => .enter (.fn f) args A
  | none => match E.ext f with
    | some g => cond (flats args) (match g args with
      | some v => cond (closed v) (.val v A) (.bad "extern: value")
      | none => .bad "extern") (.bad "extern: arguments")
    | none => .bad "enter: no such function"
theorem aEnter_C : @aEnter = @aEnterC := by
  delta aEnter aEnterC
  rfl
noncomputable def aEnterO : { f // @aEnterC = f } := by
  refine ⟨?_, ?_⟩
  rotate_left
  · delta aEnterC tgetC.match_1 Option.casesOn aEnterC.match_2 aEnterC.match_1 cond cond.match_1 Bool.casesOn and or not Bool.and.match_1
    dsimp only
    exact rfl
noncomputable def aEnterF : type_of% @aEnterC := by
  refine (fun (f : type_of% @aEnterC) (_ : @aEnterC = f) => f) ?_ ?_
  rotate_left
  · delta aEnterC tgetC.match_1 Option.casesOn aEnterC.match_2 aEnterC.match_1 cond cond.match_1 Bool.casesOn and or not Bool.and.match_1
    dsimp only
    exact rfl
theorem aEnter_CF : @aEnterC = @aEnterF := aEnterO.2.trans rfl
theorem aEnter_F : @aEnter = @aEnterF := aEnter_C.trans aEnter_CF

noncomputable def aInvokeC (fn : Fn) (args captured : List Value) (A : ASt) : AR :=
  match fn with
  | .func f => aEnterF E f (args ++ captured) A
  | .method name => match args with
    | .iface t v :: rest => match aMethodF E t v name A with
      | some (f, r) => aEnterF E f (r :: rest) A
      | none => .bad "method"
    | _ => .bad "method: receiver"
  | .methodOf t name => match args with
    | v :: rest => match E.ti t with
      | some i => match i.desc, v with
        | .interface _, .iface u x => match aMethodF E u x name A with
          | some (f, r) => aEnterF E f (r :: rest) A
          | none => .bad "methodOf"
        | .interface _, _ => .bad "methodOf"
        | _, _ => match aMethodF E t v name A with
          | some (f, r) => aEnterF E f (r :: rest) A
          | none => .bad "methodOf"
      | none => .bad "methodOf"
    | _ => .bad "methodOf"
  | .via .. => .bad "via"
  | .yield l => cond captured.isEmpty (.enter (.round l) args A) (.bad "yield")
theorem aInvoke_C : @aInvoke = @aInvokeC := by
  delta aInvoke aInvokeC
  simp only [aMethod_F, aEnter_F]
  try rfl
noncomputable def aInvokeO : { f // @aInvokeC = f } := by
  refine ⟨?_, ?_⟩
  rotate_left
  · delta aInvokeC Go.Fn.casesOn aInvokeC.match_5 aInvokeC.match_1 aInvokeC.match_4 aBinC._sparseCasesOn_2 Option.casesOn eqVC._sparseCasesOn_10 partVC.match_2 aInvokeC._sparseCasesOn_2 aInvokeC.match_3 Prod.casesOn aInvokeC.match_2 cond cond.match_1 Bool.casesOn and or not Bool.and.match_1
    dsimp only
    exact rfl
noncomputable def aInvokeF : type_of% @aInvokeC := by
  refine (fun (f : type_of% @aInvokeC) (_ : @aInvokeC = f) => f) ?_ ?_
  rotate_left
  · delta aInvokeC Go.Fn.casesOn aInvokeC.match_5 aInvokeC.match_1 aInvokeC.match_4 aBinC._sparseCasesOn_2 Option.casesOn eqVC._sparseCasesOn_10 partVC.match_2 aInvokeC._sparseCasesOn_2 aInvokeC.match_3 Prod.casesOn aInvokeC.match_2 cond cond.match_1 Bool.casesOn and or not Bool.and.match_1
    dsimp only
    exact rfl
theorem aInvoke_CF : @aInvokeC = @aInvokeF := aInvokeO.2.trans rfl
theorem aInvoke_F : @aInvoke = @aInvokeF := aInvoke_C.trans aInvoke_CF

noncomputable def aBuiltinC (b : Builtin) (argTypes : List TypeId) (args : List Value) (A : ASt) : AR :=
  match b, argTypes, args with
  | .append, t :: xt :: _, [s, x] => (aAppendF E t xt s x A).plain
  | .len, t :: _, [x] => ofValF (aLenF E t x A) A "len"
  | .cap, t :: _, [x] => ofValF (aCap E t x) A "cap"
  | .copy, t :: _, [d, s] => (aCopy E t d s A).plain
  | .delete, t :: _, [m, k] => (aDelete E t m k A).plain
  | .clear, t :: _, [x] => match E.ti t with
    | some i => (aClear2 E i x A).plain
    | none => .bad "clear"
  | .min, _, l => ofValF (minMax false l) A "min"
  | .max, _, l => ofValF (minMax true l) A "max"
  | _, _, _ => .bad "builtin"
theorem aBuiltin_C : @aBuiltin = @aBuiltinC := by
  delta aBuiltin aBuiltinC
  simp only [ofVal_F, aLen_F, aAppend_F]
  try rfl
noncomputable def aBuiltinO : { f // @aBuiltinC = f } := by
  refine ⟨?_, ?_⟩
  rotate_left
  · delta aBuiltinC aBuiltinC._sparseCasesOn_2 Option.casesOn aBuiltinC._sparseCasesOn_1 aBuiltinC.match_1 partVC.match_2 aInvokeC._sparseCasesOn_2 cond cond.match_1 Bool.casesOn and or not Bool.and.match_1
    dsimp only
    exact rfl
noncomputable def aBuiltinF : type_of% @aBuiltinC := by
  refine (fun (f : type_of% @aBuiltinC) (_ : @aBuiltinC = f) => f) ?_ ?_
  rotate_left
  · delta aBuiltinC aBuiltinC._sparseCasesOn_2 Option.casesOn aBuiltinC._sparseCasesOn_1 aBuiltinC.match_1 partVC.match_2 aInvokeC._sparseCasesOn_2 cond cond.match_1 Bool.casesOn and or not Bool.and.match_1
    dsimp only
    exact rfl
theorem aBuiltin_CF : @aBuiltinC = @aBuiltinF := aBuiltinO.2.trans rfl
theorem aBuiltin_F : @aBuiltin = @aBuiltinF := aBuiltin_C.trans aBuiltin_CF

noncomputable def aCallC (T : Tmps) (c : Call) (A : ASt) : AR :=
  match evsF T c.args.toList with
  | none => .bad "call: args"
  | some args =>
    match c.callee with
    | .builtin b => aBuiltinF E b c.argTypes.toList args A
    | .invoke r name => match evF T r with
      | some v => aInvokeF E (.method name) (v :: args) [] A
      | none => .bad "invoke"
    | .value f => match evF T f with
      | some (.func fn first captured) => aInvokeF E fn (first.toList ++ args) captured.toList A
      | _ => .bad "call: function value"
theorem aCall_C : @aCall = @aCallC := by
  delta aCall aCallC
  simp only [ev_F, evs_F, aInvoke_F, aBuiltin_F]
  try rfl
noncomputable def aCallO : { f // @aCallC = f } := by
  refine ⟨?_, ?_⟩
  rotate_left
  · delta aCallC tgetC.match_1 aCallC.match_1 Go.Callee.casesOn aNilCheckC._sparseCasesOn_2 Option.casesOn aCallC.match_3 aCallC.match_2 aCallC._sparseCasesOn_1 cond cond.match_1 Bool.casesOn and or not Bool.and.match_1
    dsimp only
    exact rfl
noncomputable def aCallF : type_of% @aCallC := by
  refine (fun (f : type_of% @aCallC) (_ : @aCallC = f) => f) ?_ ?_
  rotate_left
  · delta aCallC tgetC.match_1 aCallC.match_1 Go.Callee.casesOn aNilCheckC._sparseCasesOn_2 Option.casesOn aCallC.match_3 aCallC.match_2 aCallC._sparseCasesOn_1 cond cond.match_1 Bool.casesOn and or not Bool.and.match_1
    dsimp only
    exact rfl
theorem aCall_CF : @aCallC = @aCallF := aCallO.2.trans rfl
theorem aCall_F : @aCall = @aCallF := aCall_C.trans aCall_CF

noncomputable def aFreshC (o : Op) (T : Tmps) : Option Fresh :=
  match o with
  | .alloc t => aAllocF E t
  | .box t x => match evF T x with
    | some v => aBoxF E t v
    | none => none
  | .buildSlice t n ps => match evPairs T ps.toList with
    | some l => aBuildSliceF E t n l
    | none => none
  | .makeMap _ none => some (.map [] 0, fun id => .map (some id))
  | .makeSlice t l c => match evF T l, evF T c with
    | some a, some b => aMakeSliceF E t a b
    | _, _ => none
  | .convert s d x => match evF T x with
    | some v => aBytesOfF E s d v
    | none => none
  | _ => none
theorem aFresh_C : @aFresh = @aFreshC := by
  delta aFresh aFreshC
  simp only [aAlloc_F, aBox_F, ev_F, aMakeSlice_F, aBytesOf_F, aBuildSlice_F]
  try rfl
noncomputable def aFreshO : { f // @aFreshC = f } := by
  refine ⟨?_, ?_⟩
  rotate_left
  · delta aFreshC aFreshC.match_2 tgetC.match_1 aFreshC.match_3 aNilCheckC._sparseCasesOn_2 Option.casesOn aFreshC._sparseCasesOn_3 eqVC._sparseCasesOn_4 aFreshC.match_1 cond cond.match_1 Bool.casesOn and or not Bool.and.match_1
    dsimp only
    exact rfl
noncomputable def aFreshF : type_of% @aFreshC := by
  refine (fun (f : type_of% @aFreshC) (_ : @aFreshC = f) => f) ?_ ?_
  rotate_left
  · delta aFreshC aFreshC.match_2 tgetC.match_1 aFreshC.match_3 aNilCheckC._sparseCasesOn_2 Option.casesOn aFreshC._sparseCasesOn_3 eqVC._sparseCasesOn_4 aFreshC.match_1 cond cond.match_1 Bool.casesOn and or not Bool.and.match_1
    dsimp only
    exact rfl
theorem aFresh_CF : @aFreshC = @aFreshF := aFreshO.2.trans rfl
theorem aFresh_F : @aFresh = @aFreshF := aFresh_C.trans aFresh_CF

noncomputable def opDC : Op → Env → Tmps → ASt → AR
  | .move x => fun E T A => ofValF (evF T x) A "move"
  | .assign x => fun E T A => ofValF (evF T x) A "move"
  | .pick c a b => fun E T A => match evF T c with
    | some (.bool t) => ofValF (cond t (evF T a) (evF T b)) A "pick"
    | _ => .bad "pick"
  | .build t ps => fun E T A => match evPairs T ps.toList with
    | some l => ofValF (aBuildF E t l) A "build"
    | none => .bad "build"
  | .load t a => fun E T A => match evF T a with
    | some v => ofValF (aLoadF E t v A) A "load"
    | none => .bad "load"
  | .store t a x => fun E T A => match evF T a, evF T x with
    | some p, some v => match aStoreF E t p v A with
      | some A' => .val undef A'
      | none => .bad "store"
    | _, _ => .bad "store"
  | .nilCheck x => fun E T A => match evF T x with
    | some v => ofValF (aNilCheckF v) A "nilCheck"
    | none => .bad "nilCheck"
  | .binOp op t x y _ => fun E T A => match evF T x, evF T y with
    | some a, some b => ofValF (aBin2F E op t x y a b) A "binOp"
    | _, _ => .bad "binOp"
  | .unOp op _ x => fun E T A => match evF T x with
    | some v => ofValF (aUnF op v) A "unOp"
    | none => .bad "unOp"
  | .convert s d x => fun E T A => match evF T x with
    | some v => ofValF (aConvertF E s d v A) A "convert"
    | none => .bad "convert"
  | .makeInterface t x => fun E T A => match evF T x with
    | some v => ofValF (aMakeIfaceF E t v) A "makeInterface"
    | none => .bad "makeInterface"
  | .makeFunc fn first captured => fun E T A => match evsF T first.toList, evsF T captured.toList with
    | some l, some r => cond (notYield fn) (.val (.func fn l.toArray r.toArray) A) (.bad "makeFunc")
    | _, _ => .bad "makeFunc"
  | .slice t x lo hi mx => fun E T A => match evF T x, evOptF T lo, evOptF T hi, evOptF T mx with
    | some v, some a, some b, some c => ofValF (aSliceF E t v a b c A) A "slice"
    | _, _, _, _ => .bad "slice"
  | .fieldAddr s x f => fun E T A => match evF T x with
    | some v => ofValF (aFieldAddrF E s v f) A "fieldAddr"
    | none => .bad "fieldAddr"
  | .field s x f => fun E T A => match evF T x with
    | some v => ofValF (aFieldF E s v f) A "field"
    | none => .bad "field"
  | .indexAddr t x i => fun E T A => match evF T x, evF T i with
    | some v, some k => ofValF (aIndexAddrF E t v k) A "indexAddr"
    | _, _ => .bad "indexAddr"
  | .index t x i => fun E T A => match evF T x, evF T i with
    | some v, some k => ofValF (aIndexF E t v k) A "index"
    | _, _ => .bad "index"
  | .lookup t x k ok => fun E T A => match evF T x, evF T k with
    | some v, some w => ofValF (aLookupF E t v w ok A) A "lookup"
    | _, _ => .bad "lookup"
  | .mapUpdate t m k x => fun E T A => match evF T m, evF T k, evF T x with
    | some a, some b, some c => match aMapUpdateF E t a b c A with
      | some A' => .val undef A'
      | none => .bad "mapUpdate"
    | _, _, _ => .bad "mapUpdate"
  | .insert t m k x => fun E T A => match evF T m, evF T k, evF T x with
    | some a, some b, some c => match aMapUpdateF E t a b c A with
      | some A' => .val undef A'
      | none => .bad "mapUpdate"
    | _, _, _ => .bad "mapUpdate"
  | .mapEntry t m k => fun E T A => match evF T m, evF T k with
    | some a, some b => (aMapEntry E t a b A).plain
    | _, _ => .bad "mapEntry"
  | .entryStore _ m s x => fun E T A => match evF T m, evF T s, evF T x with
    | some a, some b, some c => match aEntryStore a b c A with
      | some A' => .val undef A'
      | none => .bad "entryStore"
    | _, _, _ => .bad "entryStore"
  | .range t x => fun E T A => match evF T x with
    | some v => (aRange E t v A).plain
    | none => .bad "range"
  | .entry it => fun E T A => match evF T it with
    | some v => ofValF (aEntry v A) A "entry"
    | none => .bad "entry"
  | .typeAssert x _ t ok => fun E T A => match evF T x with
    | some v => ofValF (aTypeAssert E v t ok) A "typeAssert"
    | none => .bad "typeAssert"
  | .extract t i => fun E T A => match evF T t with
    | some v => ofValF (aExtractF v i) A "extract"
    | none => .bad "extract"
  | .call c => fun E T A => aCallF E T c A
  | _ => fun E T A => .bad "op"
theorem opD_C : @opD = @opDC := by
  delta opD opDC
  simp only [ofVal_F, aNilCheck_F, aExtract_F, aUn_F, ev_F, evs_F, evOpt_F, aLoad_F, aStore_F, aFieldAddr_F, aField_F, aIndexAddr_F, aIndex_F, aBin2_F, aSlice_F, aLookup_F, aMapUpdate_F, aConvert_F, aMakeIface_F, aBuild_F, aCall_F]
  try rfl
noncomputable def opDO : { f // @opDC = f } := by
  refine ⟨?_, ?_⟩
  rotate_left
  · delta opDC aFreshC.match_2 opDC.match_4 opDC.match_5 tgetC.match_1 opDC.match_1 aNilCheckC._sparseCasesOn_2 Option.casesOn opDC.match_3 eqVC._sparseCasesOn_2 aFreshC.match_1 opDC.match_6 opDC.match_2 opDC._sparseCasesOn_6 cond cond.match_1 Bool.casesOn and or not Bool.and.match_1
    dsimp only
    exact rfl
noncomputable def opDF : type_of% @opDC := by
  refine (fun (f : type_of% @opDC) (_ : @opDC = f) => f) ?_ ?_
  rotate_left
  · delta opDC aFreshC.match_2 opDC.match_4 opDC.match_5 tgetC.match_1 opDC.match_1 aNilCheckC._sparseCasesOn_2 Option.casesOn opDC.match_3 eqVC._sparseCasesOn_2 aFreshC.match_1 opDC.match_6 opDC.match_2 opDC._sparseCasesOn_6 cond cond.match_1 Bool.casesOn and or not Bool.and.match_1
    dsimp only
    exact rfl
theorem opD_CF : @opDC = @opDF := opDO.2.trans rfl
theorem opD_F : @opD = @opDF := opD_C.trans opD_CF

noncomputable def aOpC (o : Op) (T : Tmps) (A : ASt) : AR :=
  cond (freshD o E) (match aFreshF E o T with
    | some (ob, f) => fN A.next fun id => .val (f id) (A.newN id ob)
    | none => .bad "fresh") (opDF o E T A)
theorem aOp_C : @aOp = @aOpC := by
  delta aOp aOpC
  simp only [aFresh_F, opD_F]
  try rfl
noncomputable def aOpO : { f // @aOpC = f } := by
  refine ⟨?_, ?_⟩
  rotate_left
  · delta aOpC Option.casesOn aOpC.match_1 Prod.casesOn cond cond.match_1 Bool.casesOn and or not Bool.and.match_1
    dsimp only
    exact rfl
noncomputable def aOpF : type_of% @aOpC := by
  refine (fun (f : type_of% @aOpC) (_ : @aOpC = f) => f) ?_ ?_
  rotate_left
  · delta aOpC Option.casesOn aOpC.match_1 Prod.casesOn cond cond.match_1 Bool.casesOn and or not Bool.and.match_1
    dsimp only
    exact rfl
theorem aOp_CF : @aOpC = @aOpF := aOpO.2.trans rfl
theorem aOp_F : @aOp = @aOpF := aOp_C.trans aOp_CF

noncomputable def nextOf : Op → Option (Operand × Bool)
  | .next it b => some (it, b)
  | _ => none
noncomputable def oneOpC (call : Tgt → List Value → ASt → Nd (Value × ASt)) (o : Oper) (T : Tmps) (A : ASt) : Nd (Value × ASt) :=
  match nextOf o.op with
  | some (it, isString) => match evF T it with
    | some v => aNext v isString A
    | none => .fail "next"
  | none => match aOpF E o.op T A with
    | .val v A' => .ret (v, A')
    | .enter f args A' => call f args A'
    | .bad why => .fail why
theorem oneOp_C : @oneOp = @oneOpC := by
  funext E call o T A
  unfold oneOp oneOpC
  cases o.op <;> simp only [nextOf, ev_F, aOp_F] <;> rfl

noncomputable def oneOpO : { f // @oneOpC = f } := by
  refine ⟨?_, ?_⟩
  rotate_left
  · delta oneOpC tgetC.match_1 Option.casesOn oneOpC.match_1 oneOpC.match_2 Prod.casesOn AR.casesOn cond cond.match_1 Bool.casesOn and or not Bool.and.match_1
    dsimp only
    exact rfl
noncomputable def oneOpF : type_of% @oneOpC := by
  refine (fun (f : type_of% @oneOpC) (_ : @oneOpC = f) => f) ?_ ?_
  rotate_left
  · delta oneOpC tgetC.match_1 Option.casesOn oneOpC.match_1 oneOpC.match_2 Prod.casesOn AR.casesOn cond cond.match_1 Bool.casesOn and or not Bool.and.match_1
    dsimp only
    exact rfl
theorem oneOp_CF : @oneOpC = @oneOpF := oneOpO.2.trans rfl
theorem oneOp_F : @oneOp = @oneOpF := oneOp_C.trans oneOp_CF

noncomputable def Nd.bindF {α β : Type} (m : Nd α) (f : α → Nd β) : Nd β :=
  Nd.rec (motive := fun _ => Nd β) f (fun n _ ih => .ask n ih) (fun s => .fail s) (fun p _ ih => .pick p ih) m
theorem bind_F : @Nd.bind = @Nd.bindF := by
  funext α β m f
  induction m with
  | ret a => rfl
  | ask n k ih => exact congrArg (Nd.ask n) (funext fun i => ih i)
  | fail s => rfl
  | pick p k ih => exact congrArg (Nd.pick p) (funext fun r => ih r)
noncomputable def opsRunF (E : Env) (call : Tgt → List Value → ASt → Nd (Value × ASt)) (n : Nat) (ops : Array Oper) (l : List Oper) : Tmps → ASt → Nd (Tmps × ASt) :=
  List.rec (motive := fun _ => Tmps → ASt → Nd (Tmps × ASt)) (fun T A => .ret (T, A)) (fun o _ ih T A =>
    cond (wantedAF ops T o)
      ((oneOpF E call o T A).bindF fun r => Option.rec (motive := fun _ => Nd (Tmps × ASt)) (.fail "slot") (fun T' => ih T' r.2) (putNF n T o.dst r.1))
      (Option.rec (motive := fun _ => Nd (Tmps × ASt)) (.fail "slot") (fun T' => ih T' A) (putNF n T o.dst undef))) l
theorem opsRun_F : @opsRun = @opsRunF := by
  funext E call n ops l
  induction l with
  | nil => rfl
  | cons o l ih =>
    funext T A
    have : opsRunF E call n ops (o :: l) T A = cond (wantedAF ops T o)
      ((oneOpF E call o T A).bindF fun r => Option.rec (motive := fun _ => Nd (Tmps × ASt)) (.fail "slot") (fun T' => opsRunF E call n ops l T' r.2) (putNF n T o.dst r.1))
      (Option.rec (motive := fun _ => Nd (Tmps × ASt)) (.fail "slot") (fun T' => opsRunF E call n ops l T' A) (putNF n T o.dst undef)) := rfl
    rw [this, ← ih]
    simp only [opsRun, ← wantedA_F, ← oneOp_F, ← putN_F, ← bind_F]
    congr 1
    · congr 1
      funext r
      cases putN n T o.dst r.1 <;> rfl
    · cases putN n T o.dst undef <;> rfl

noncomputable def planStepC (call : Tgt → List Value → ASt → Nd (Value × ASt)) (n base : Nat) (ops : Array Oper) (an : List Nat) (i : Nat) (o : Oper) (s : PSt) : Option PSt :=
  match nthF an i with
  | none => none
  | some m =>
    cond (wantedAF ops s.T o)
      (cond (freshOp E o.op)
        (match aFreshF E o.op s.T with
         | some (ob, f) => match putNF n s.T o.dst (f (base + i)) with
           | some T' => some { s with T := T', fl := { f := i, ob } :: s.fl }
           | none => none
         | none => none)
        (cond (quietOp E o.op)
          (match aOpF E o.op s.T { heap := .e, next := 0 } with
           | .val v _ => match putNF n s.T o.dst v with
             | some T' => some { s with T := T' }
             | none => none
           | _ => match aOpF E o.op s.T (viewAt base an s.louds m s.fl s.H) with
             | .val v _ => match putNF n s.T o.dst v with
               | some T' => some { s with T := T', reads := { i, o := o.op, T := s.T, v } :: s.reads }
               | none => none
             | _ => none)
          (cond (Nat.beq (m &&& s.louds) s.louds)
            (match oneOpF E call o s.T (viewAt base an s.louds m s.fl s.H) with
             | .ret (v, H') => match putNF n s.T o.dst v with
               | some T' => some { T := T', H := H', fl := s.fl, louds := s.louds ||| 2 ^ i, hist := (s.louds ||| 2 ^ i, H') :: s.hist, reads := s.reads }
               | none => none
             | _ => none) none)))
      (match putNF n s.T o.dst undef with
       | some T' => some { s with T := T' }
       | none => none)
theorem planStep_C : @planStep = @planStepC := by
  delta planStep planStepC
  simp only [nth_F, wantedA_F, putN_F, aFresh_F, aOp_F, oneOp_F]
  try rfl
noncomputable def planStepO : { f // @planStepC = f } := by
  refine ⟨?_, ?_⟩
  rotate_left
  · delta planStepC planStepC.match_4 Option.casesOn planStepC.match_1 planStepC._sparseCasesOn_3 planStepC._sparseCasesOn_2 aOpC.match_1 planStepC.match_3 planStepC.match_2 Prod.casesOn cond cond.match_1 Bool.casesOn and or not Bool.and.match_1
    dsimp only
    exact rfl
noncomputable def planStepF : type_of% @planStepC := by
  refine (fun (f : type_of% @planStepC) (_ : @planStepC = f) => f) ?_ ?_
  rotate_left
  · delta planStepC planStepC.match_4 Option.casesOn planStepC.match_1 planStepC._sparseCasesOn_3 planStepC._sparseCasesOn_2 aOpC.match_1 planStepC.match_3 planStepC.match_2 Prod.casesOn cond cond.match_1 Bool.casesOn and or not Bool.and.match_1
    dsimp only
    exact rfl
theorem planStep_CF : @planStepC = @planStepF := planStepO.2.trans rfl
theorem planStep_F : @planStep = @planStepF := planStep_C.trans planStep_CF

noncomputable def planGoF (E : Env) (call : Tgt → List Value → ASt → Nd (Value × ASt)) (n base : Nat) (ops : Array Oper) (an : List Nat) (i : Nat) (l : List Oper) (s : PSt) : Option PSt :=
  List.rec (motive := fun _ => Nat → PSt → Option PSt) (fun _ s => some s) (fun o _ ih i s => Option.rec (motive := fun _ => Option PSt) none (fun s' => ih (i + 1) s') (planStepF E call n base ops an i o s)) l i s
theorem planGo_F : @planGo = @planGoF := by
  funext E call n base ops an i l
  induction l generalizing i with
  | nil => rfl
  | cons o l ih =>
    funext s
    have : planGoF E call n base ops an i (o :: l) s = Option.rec (motive := fun _ => Option PSt) none (fun s' => planGoF E call n base ops an (i + 1) l s') (planStepF E call n base ops an i o s) := rfl
    rw [this]
    simp only [planGo, ← planStep_F]
    rw [← ih (i + 1)]
    cases planStep E call n base ops an i o s <;> rfl

noncomputable def drawRunC (call : Tgt → List Value → ASt → Nd (Value × ASt)) (n : Nat) (ops : Array Oper) (T : Tmps) (A : ASt) : Nd (Tmps × ASt) :=
  cond (regOK ops (ancs ops.toList []) ops.toList 0 ops.toList)
    (fN A.next fun base => fN (base + ops.toList.length) fun nx => match planGoF E call n base ops (ancs ops.toList []) 0 ops.toList { T, H := { heap := A.heap, next := nx }, fl := [], louds := 0, hist := [(0, { heap := A.heap, next := nx })], reads := [] } with
     | some s => cond (readsOK E base (ancs ops.toList []) s s.reads) (.ret (s.T, addFl base (fun f => !takenAt s.louds f 0 (ancs ops.toList [])) s.fl s.H)) (.fail "draw: a read hangs on the order")
     | none => .fail "draw: plan") (.fail "draw: slots")
theorem drawRun_C : @drawRun = @drawRunC := by
  delta drawRun drawRunC
  simp only [planGo_F]
  try rfl
noncomputable def drawRunO : { f // @drawRunC = f } := by
  refine ⟨?_, ?_⟩
  rotate_left
  · delta drawRunC drawRunC.match_1 Option.casesOn cond cond.match_1 Bool.casesOn and or not Bool.and.match_1
    dsimp only
    exact rfl
noncomputable def drawRunF : type_of% @drawRunC := by
  refine (fun (f : type_of% @drawRunC) (_ : @drawRunC = f) => f) ?_ ?_
  rotate_left
  · delta drawRunC drawRunC.match_1 Option.casesOn cond cond.match_1 Bool.casesOn and or not Bool.and.match_1
    dsimp only
    exact rfl
theorem drawRun_CF : @drawRunC = @drawRunF := drawRunO.2.trans rfl
theorem drawRun_F : @drawRun = @drawRunF := drawRun_C.trans drawRun_CF

noncomputable def callByC (ih : Job → Nd Out) (f : Tgt) (args : List Value) (A : ASt) : Nd (Value × ASt) :=
  (ih (.call f args A)).bindF fun
    | .res v A' => .ret (v, A')
    | .fr _ => .fail "call"
theorem callBy_C : @callBy = @callByC := by
  funext ih f args A
  unfold callBy callByC
  rw [bind_F]
  rfl
noncomputable def callByO : { f // @callByC = f } := by
  refine ⟨?_, ?_⟩
  rotate_left
  · delta callByC callByC.match_1 Out.casesOn cond cond.match_1 Bool.casesOn and or not Bool.and.match_1
    dsimp only
    exact rfl
noncomputable def callByF : type_of% @callByC := by
  refine (fun (f : type_of% @callByC) (_ : @callByC = f) => f) ?_ ?_
  rotate_left
  · delta callByC callByC.match_1 Out.casesOn cond cond.match_1 Bool.casesOn and or not Bool.and.match_1
    dsimp only
    exact rfl
theorem callBy_CF : @callByC = @callByF := callByO.2.trans rfl
theorem callBy_F : @callBy = @callByF := callBy_C.trans callBy_CF
noncomputable def codeC : Code → Env → (Job → Nd Out) → Nat → Option Nat → Tmps → ASt → Nd Out
  | .skip => fun E ih n ro T A => .ret (.fr ⟨.normal, T, A⟩)
  | .ret => fun E ih n ro T A => .ret (.fr ⟨.ret, T, A⟩)
  | .exit id => fun E ih n ro T A => .ret (.fr ⟨.exit id, T, A⟩)
  | .label _ => fun E ih n ro T A => .ret (.fr ⟨.normal, T, A⟩)
  | .seq a b => fun E ih n ro T A => (ih (.code n ro a T A)).bindF fun
    | .fr ⟨.normal, T', A'⟩ => ih (.code n ro b T' A')
    | o => .ret o
  | .cond x a b => fun E ih n ro T A => match evF T x with
    | some (.bool t) => cond t (ih (.code n ro a T A)) (ih (.code n ro b T A))
    | _ => .fail "cond"
  | .block id b => fun E ih n ro T A => (ih (.code n ro b T A)).bindF fun
    | .fr ⟨.exit id', T', A'⟩ => .ret (.fr ⟨cond (Nat.beq id' id) .normal (.exit id'), T', A'⟩)
    | o => .ret o
  | .loop b => fun E ih n ro T A => (ih (.code n ro b T A)).bindF fun
    | .fr ⟨.normal, T', A'⟩ => ih (.code n ro (.loop b) T' A')
    | o => .ret o
  | .scope b => fun E ih n ro T A => ih (.code n ro b T A)
  | .region _ ops false => fun E ih n ro T A => (opsRunF E (callByF ih) n ops ops.toList T A).bindF fun r => .ret (.fr ⟨.normal, r.1, r.2⟩)
  | .region _ ops true => fun E ih n ro T A => (drawRunF E (callByF ih) n ops T A).bindF fun r => .ret (.fr ⟨.normal, r.1, r.2⟩)
  | .rangeFunc g ps as b => fun E ih n ro T A => rangeJob E ih n ro g ps as b T A
  | _ => fun E ih n ro T A => .fail "code"

noncomputable def codeO : { f // @codeC = f } := by
  refine ⟨?_, ?_⟩
  rotate_left
  · delta codeC codeC.match_1 opDC.match_1 aNilCheckC._sparseCasesOn_2 codeC._sparseCasesOn_2 eqVC._sparseCasesOn_2 codeC.match_3 codeC.match_2 Bool.casesOn AFr.casesOn codeC._sparseCasesOn_4 codeC._sparseCasesOn_1 codeC._sparseCasesOn_3 cond cond.match_1 Bool.casesOn and or not Bool.and.match_1
    dsimp only
    exact rfl
noncomputable def codeF : type_of% @codeC := by
  refine (fun (f : type_of% @codeC) (_ : @codeC = f) => f) ?_ ?_
  rotate_left
  · delta codeC codeC.match_1 opDC.match_1 aNilCheckC._sparseCasesOn_2 codeC._sparseCasesOn_2 eqVC._sparseCasesOn_2 codeC.match_3 codeC.match_2 Bool.casesOn AFr.casesOn codeC._sparseCasesOn_4 codeC._sparseCasesOn_1 codeC._sparseCasesOn_3 cond cond.match_1 Bool.casesOn and or not Bool.and.match_1
    dsimp only
    exact rfl
theorem code_CF : @codeC = @codeF := codeO.2.trans rfl
theorem code_F : @codeC = @codeF := code_CF
noncomputable def callC (E : Env) (ih : Job → Nd Out) (f : FuncId) (args : List Value) (A : ASt) : Nd Out :=
  match E.hook f args A with
    | some r => r.bindF fun x => .ret (.res x.1 x.2)
    | none =>
      match E.fn f with
      | some fn => match fn.body with
        | some c => cond (Nat.ble args.length fn.ntmps)
          ((ih (.code fn.ntmps none c (argsT 0 args .e) A)).bindF fun
            | .fr ⟨.normal, T, A'⟩ | .fr ⟨.ret, T, A'⟩ => match resultsV E T A' fn.results.toList with
              | some l => .ret (.res (oneOrTuple l) A')
              | none => .fail "results"
            | _ => .fail "exit") (.fail "arguments")
        | none => .fail "body"
      | none => .fail "function"

noncomputable def callO : { f // @callC = f } := by
  refine ⟨?_, ?_⟩
  rotate_left
  · delta callC Option.casesOn callC._sparseCasesOn_1 callC.match_1 aEnterC.match_2 callC.match_2 callC.match_3 partVC.match_1 AFr.casesOn codeC._sparseCasesOn_1 cond cond.match_1 Bool.casesOn and or not Bool.and.match_1
    dsimp only
    exact rfl
noncomputable def callF : type_of% @callC := by
  refine (fun (f : type_of% @callC) (_ : @callC = f) => f) ?_ ?_
  rotate_left
  · delta callC Option.casesOn callC._sparseCasesOn_1 callC.match_1 aEnterC.match_2 callC.match_2 callC.match_3 partVC.match_1 AFr.casesOn codeC._sparseCasesOn_1 cond cond.match_1 Bool.casesOn and or not Bool.and.match_1
    dsimp only
    exact rfl
theorem call_CF : @callC = @callF := callO.2.trans rfl
theorem call_F : @callC = @callF := call_CF
noncomputable def stepC (ih : Job → Nd Out) : Job → Nd Out
  | .code n ro c T A => codeF c E ih n ro T A
  | .call (.fn f) args A => callF E ih f args A
  | .call (.round l) args A => roundJob ih l args A
noncomputable def stepO : { f // @stepC = f } := by
  refine ⟨?_, ?_⟩
  rotate_left
  · delta stepC Tgt.casesOn stepC.match_1 Job.casesOn cond cond.match_1 Bool.casesOn and or not Bool.and.match_1
    dsimp only
    exact rfl
noncomputable def stepF : type_of% @stepC := by
  refine (fun (f : type_of% @stepC) (_ : @stepC = f) => f) ?_ ?_
  rotate_left
  · delta stepC Tgt.casesOn stepC.match_1 Job.casesOn cond cond.match_1 Bool.casesOn and or not Bool.and.match_1
    dsimp only
    exact rfl
theorem step_CF : @stepC = @stepF := stepO.2.trans rfl
theorem step_FF : @stepC = @stepF := step_CF
theorem step_C : @stepJob = @stepC := by
  funext E ih j
  cases j with
  | code n ro c T A =>
    show _ = codeF c E ih n ro T A
    rw [← code_F]
    cases c with
    | region id ops d => cases d <;> simp only [stepJob, codeC, ev_F, bind_F, opsRun_F, drawRun_F, callBy_F]
    | _ => simp only [stepJob, codeC, ev_F, bind_F, opsRun_F, drawRun_F, callBy_F] <;> rfl
  | call t args A =>
    cases t with
    | fn f =>
      show _ = callF E ih f args A
      rw [← call_F]
      unfold callC
      simp only [stepJob, bind_F]
      rfl
    | round l => rfl
theorem step_F : @stepJob = @stepF := step_C.trans step_FF

noncomputable def runF (fuel : Nat) : Job → Nd Out :=
  Nat.rec (motive := fun _ => Job → Nd Out) (fun _ => .fail "fuel") (fun _ ih j => stepF E ih j) fuel

theorem run_F (E : Env) (fuel : Nat) : run E fuel = runF E fuel := by
  induction fuel with
  | zero => rfl
  | succ n ih =>
    funext j
    show stepJob E (run E n) j = stepF E (runF E n) j
    rw [ih, step_F]

end Go.AE
