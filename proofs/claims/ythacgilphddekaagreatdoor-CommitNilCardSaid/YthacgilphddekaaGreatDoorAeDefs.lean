/- An evaluator over the model with virtual block numbers: definitions. -/
import Derived.Orders
namespace Go.AE
open Go

/-- A map from numbers, as a trie. -/
inductive Tr (α : Type) where
  | e
  | n (l : Tr α) (v : Option α) (r : Tr α)

/-- A number, as a way in a trie. -/
inductive Ps where
  | one
  | b0 (p : Ps)
  | b1 (p : Ps)

noncomputable def toPosF (f : Nat) : Nat → Ps :=
  Nat.rec (motive := fun _ => Nat → Ps) (fun _ => .one) (fun _ ih k => Bool.rec (motive := fun _ => Ps) (Bool.rec (motive := fun _ => Ps) (.b0 (ih (Nat.sub (Nat.div k 2) 1))) (.b1 (ih (Nat.div k 2))) (Nat.beq (Nat.mod k 2) 1)) .one (Nat.beq k 0)) f
noncomputable def toPos (k : Nat) : Ps := toPosF (k + 1) k

noncomputable def getP {α : Type} (t : Tr α) : Ps → Option α :=
  Tr.rec (motive := fun _ => Ps → Option α) (fun _ => none) (fun _ v _ gl gr p => Ps.rec (motive := fun _ => Option α) v (fun q _ => gr q) (fun q _ => gl q) p) t

noncomputable def putP {α β : Type} (p : Ps) (x : Option α) : Tr α → (Tr α → β) → β :=
  Ps.rec (motive := fun _ => Tr α → (Tr α → β) → β)
    (fun t c => Tr.rec (motive := fun _ => β) (c (.n .e x .e)) (fun l _ r _ _ => c (.n l x r)) t)
    (fun _ ih t c => Tr.rec (motive := fun _ => β) (ih .e fun t' => c (.n .e none t')) (fun l v r _ _ => ih r fun t' => c (.n l v t')) t)
    (fun _ ih t c => Tr.rec (motive := fun _ => β) (ih .e fun t' => c (.n t' none .e)) (fun l v r _ _ => ih l fun t' => c (.n t' v r)) t) p

noncomputable def Tr.get {α : Type} (t : Tr α) (k : Nat) : Option α := getP t (toPos k)
noncomputable def Tr.put {α : Type} (t : Tr α) (k : Nat) (x : Option α) : Tr α := putP (toPos k) x t fun t => t
/-- The same, and the trie is at hand at once. -/
noncomputable def Tr.putC {α β : Type} (t : Tr α) (k : Nat) (x : Option α) (c : Tr α → β) : β := putP (toPos k) x t c

theorem putP_eq {α : Type} (p : Ps) (x : Option α) : ∀ (β : Type) (t : Tr α) (c : Tr α → β), putP p x t c = c (putP p x t fun t => t) := by
  induction p with
  | one => intro β t c; cases t <;> rfl
  | b0 p ih =>
    intro β t c
    cases t with
    | e => exact (ih β .e fun t' => c (.n .e none t')).trans (congrArg c (ih (Tr α) .e fun t' => .n .e none t').symm)
    | n l v r => exact (ih β r fun t' => c (.n l v t')).trans (congrArg c (ih (Tr α) r fun t' => .n l v t').symm)
  | b1 p ih =>
    intro β t c
    cases t with
    | e => exact (ih β .e fun t' => c (.n t' none .e)).trans (congrArg c (ih (Tr α) .e fun t' => .n t' none .e).symm)
    | n l v r => exact (ih β l fun t' => c (.n t' v r)).trans (congrArg c (ih (Tr α) l fun t' => .n t' v r).symm)

theorem Tr.putC_eq {α β : Type} (t : Tr α) (k : Nat) (x : Option α) (c : Tr α → β) : t.putC k x c = c (t.put k x) := putP_eq _ _ _ _ _

/-- A number is at hand at once. -/
noncomputable def fN {β : Type} (m : Nat) (k : Nat → β) : β := Nat.rec (motive := fun _ => β) (k 0) (fun n _ => k (Nat.succ n)) m
theorem fN_eq {β : Type} (m : Nat) (k : Nat → β) : fN m k = k m := by cases m <;> rfl

/-- The capacity of a slice that reaches to the end of its row, however long that is. -/
noncomputable def unk : Nat := 2 ^ 70

/-- A slice of no elements that is not nil: where it lies, and its capacity, are not told. -/
noncomputable abbrev zslice : Value := .slice (some ⟨0, 0, some 0⟩) 0 unk

/-- What a virtual block holds. -/
inductive AObj where
  /-- cells, the cells of an element, and whether what lies behind them in the row is ours -/
  | row (c : List Value) (sz : Nat) (tail : Bool)
  | map (es : List MapEntry) (clock : Nat)
  | miter (m : Option Nat) (since : Nat) (seen : List Nat) (stepped : Nat)
  | siter (s : ByteArray) (pos : Nat)
  /-- the record of a range over a function: slots, their number, yield's slots, its two codes, how it stands, what is left to do -/
  | loop (n : Nat) (T : Tr Value) (ps : Array Tmp) (assign body : Code) (st : LoopState) (jump : Option Code)

structure ASt where
  heap : Tr AObj
  next : Nat

noncomputable def ASt.get (A : ASt) (b : Nat) : Option AObj := A.heap.get b
noncomputable def ASt.set (A : ASt) (b : Nat) (o : AObj) : ASt := { A with heap := A.heap.put b (some o) }
/-- A new block, at a number that is the next one. -/
noncomputable def ASt.newN (A : ASt) (id : Nat) (o : AObj) : ASt := { heap := A.heap.put id (some o), next := id + 1 }
noncomputable def ASt.new (A : ASt) (o : AObj) : ASt := { heap := A.heap.put A.next (some o), next := A.next + 1 }

noncomputable def ASt.newAt (A : ASt) (id : Nat) (o : AObj) : ASt := { heap := A.heap.put id (some o), next := Nat.max A.next (id + 1) }

/-- Outcomes that hang on answers of the tape, or of a contract. -/
inductive Nd (α : Type) where
  | ret (a : α)
  | ask (n : Nat) (k : Nat → Nd α)
  | fail (why : String)
  | pick (p : Value × ASt → Prop) (k : Value × ASt → Nd α)

def Nd.bind {α β : Type} : Nd α → (α → Nd β) → Nd β
  | .ret a, f => f a
  | .ask n k, f => .ask n fun i => (k i).bind f
  | .fail s, _ => .fail s
  | .pick p k, f => .pick p fun r => (k r).bind f

/-- Every outcome is as 'q' says. -/
def Nd.all {α : Type} (q : α → Prop) : Nd α → Prop
  | .ret a => q a
  | .ask n k => ∀ i, i < n → (k i).all q
  | .fail _ => False
  | .pick p k => ∀ r, p r → (k r).all q

structure TIn where
  desc : TypeDesc
  size : Nat
  bytes : Nat
  zero : Option Value
  methods : Array Method
  named : Option TypeDesc

structure Env where
  ti : TypeId → Option TIn
  fn : FuncId → Option Func
  /-- functions without a Go body, of values without blocks -/
  ext : FuncId → Option (List Value → Option Value)
  /-- calls that are not gone through: how many answers there may be, and which -/
  hook : FuncId → List Value → ASt → Option (Nd (Value × ASt))
  /-- operations on two values without blocks, as the model does them -/
  bin : BinOp → TypeId → Operand → Operand → Value → Value → Option Value
  /-- rows that are read alone, and are nobody's -/
  ro : Nat → Option (List Value)

noncomputable def notYield : Fn → Bool
  | .yield _ => false
  | _ => true

/-- No block number stands in it. -/
noncomputable def flat : Value → Bool
  | .bool _ | .int _ _ | .float _ _ | .complex _ _ _ | .string _ | .pointer none | .slice none _ _ | .map none | .chan none | .nilFunc | .nilIface => true
  | .func fn f c => notYield fn && (f.isEmpty && c.isEmpty)
  | .iface _ v => match v with
    | .bool _ | .int _ _ | .float _ _ | .complex _ _ _ | .string _ | .pointer none | .slice none _ _ | .map none | .chan none | .nilFunc | .nilIface => true
    | _ => false
  | _ => false
noncomputable def flats : List Value → Bool
  | [] => true
  | v :: l => flat v && flats l
noncomputable def closed : Value → Bool
  | .agg c => flats c.toList
  | .tuple c => flats c.toList
  | v => flat v

/-- May it stand in one cell? -/
noncomputable def single : Value → Bool
  | .agg _ | .tuple _ => false
  | _ => true
noncomputable def singles : List Value → Bool
  | [] => true
  | v :: l => single v && singles l

noncomputable def nth {α : Type} : List α → Nat → Option α
  | [], _ => none
  | a :: _, 0 => some a
  | _ :: l, k + 1 => nth l k

/-- 'n' elements from 'i' on, if they are there. -/
noncomputable def cut {α : Type} (l : List α) (i n : Nat) : Option (List α) :=
  let r := (l.drop i).take n
  cond (Nat.beq r.length n) (some r) none

/-- The elements from 'i' on are written over, if they are there. -/
noncomputable def over {α : Type} (l : List α) (i : Nat) (vs : List α) : Option (List α) :=
  cond (Nat.ble (i + vs.length) l.length) (some (l.take i ++ (vs ++ l.drop (i + vs.length)))) none

noncomputable def isAggD : TypeDesc → Bool
  | .struct _ | .array _ _ => true
  | _ => false

abbrev Tmps := Tr Value

noncomputable def tget (T : Tmps) (t : Nat) : Value := match T.get t with | some v => v | none => undef

noncomputable def ev (T : Tmps) : Operand → Option Value
  | .tmp t => some (tget T t)
  | .const v => cond (closed v) (some v) none
  | .global _ => none
  | .func f => some (.func (.func f) #[] #[])

noncomputable def evs (T : Tmps) : List Operand → Option (List Value)
  | [] => some []
  | x :: l => match ev T x with
    | some v => match evs T l with
      | some vs => some (v :: vs)
      | none => none
    | none => none

noncomputable def evPairs (T : Tmps) : List (Nat × Operand) → Option (List (Nat × Value))
  | [] => some []
  | (i, x) :: l => match ev T x with
    | some v => match evPairs T l with
      | some vs => some ((i, v) :: vs)
      | none => none
    | none => none

/-- Whom a call leads to: a function, or a round of a loop. -/
inductive Tgt where
  | fn (f : FuncId)
  | round (l : Nat)

/-- What an operation comes to. -/
inductive AR where
  | val (v : Value) (A : ASt)
  | enter (t : Tgt) (args : List Value) (A : ASt)
  | bad (why : String)

/-- It is no call. -/
noncomputable def AR.plain : AR → AR
  | .enter _ _ _ => .bad "plain"
  | r => r

noncomputable def ofVal (o : Option Value) (A : ASt) (why : String) : AR := match o with | some v => .val v A | none => .bad why

variable (E : Env)

noncomputable def partV (t : TypeId) (cs : List Value) (off : Nat) : Option Value :=
  match E.ti t with
  | some i => cond (isAggD i.desc) (match cut cs off i.size with | some r => some (.agg r.toArray) | none => none) (nth cs off)
  | none => none

noncomputable def aLoad (t : TypeId) (a : Value) (A : ASt) : Option Value :=
  match a with
  | .pointer (some ⟨b, off, none⟩) =>
    match A.get b with
    | some (.row c _ _) => partV E t c off
    | none => match E.ro b with
      | some c => partV E t c off
      | none => none
    | _ => none
  | _ => none

noncomputable def aStore (t : TypeId) (a v : Value) (A : ASt) : Option ASt :=
  match a with
  | .pointer (some ⟨b, off, none⟩) =>
    match A.get b, E.ti t with
    | some (.row c sz tail), some i =>
      let vs := v.cells.toList
      cond (Nat.beq vs.length i.size && singles vs)
        (match over c off vs with
         | some c' => some (A.set b (.row c' sz tail))
         | none => none) none
    | _, _ => none
  | _ => none

/-- A new row of whole cells; its value. -/
noncomputable def aNewRow (cs : List Value) (sz : Nat) (A : ASt) : Nat × ASt := (A.next, A.new (.row cs sz false))

/-- A new block, and the value that tells where it lies. -/
abbrev Fresh := AObj × (Nat → Value)

noncomputable def ptrTo (id : Nat) : Value := .pointer (some ⟨id, 0, none⟩)

noncomputable def aAlloc (t : TypeId) : Option Fresh :=
  match E.ti t with
  | some i => match i.zero with
    | some z => cond (closed z) (some (.row z.cells.toList i.size false, ptrTo)) none
    | none => none
  | none => none

noncomputable def aBox (t : TypeId) (v : Value) : Option Fresh :=
  match E.ti t with
  | some i => some (.row v.cells.toList i.size false, ptrTo)
  | none => none

/-- The places of a struct's fields: offset and size. -/
noncomputable def places : List Field → Option (List (Nat × Nat))
  | [] => some []
  | f :: l => match E.ti f.type with
    | some i => match places l with
      | some r => some ((f.offset, i.size) :: r)
      | none => none
    | none => none

noncomputable def fillV (place : Nat → Option (Nat × Nat)) (cells : List Value) : List (Nat × Value) → Option (List Value)
  | [] => some cells
  | (i, v) :: rest =>
    match place i with
    | none => none
    | some (off, size) =>
      let vs := v.cells.toList
      cond (Nat.beq vs.length size) (match over cells off vs with
        | some c => fillV place c rest
        | none => none) none

noncomputable def aBuild (t : TypeId) (parts : List (Nat × Value)) : Option Value :=
  match E.ti t with
  | some i =>
    match i.zero with
    | some z =>
      cond (closed z) (match i.desc with
        | .struct fields => match places E fields.toList with
          | some ps => match fillV (nth ps) z.cells.toList parts with
            | some cs => some (.agg cs.toArray)
            | none => none
          | none => none
        | .array _ elem => match E.ti elem with
          | some j => match fillV (fun k => some (k * j.size, j.size)) z.cells.toList parts with
            | some cs => some (.agg cs.toArray)
            | none => none
          | none => none
        | _ => none) none
    | none => none
  | none => none

noncomputable def reps {α : Type} (l : List α) : Nat → List α
  | 0 => []
  | n + 1 => l ++ reps l n

noncomputable def aBuildSlice (t : TypeId) (len : Nat) (parts : List (Nat × Value)) : Option Fresh :=
  match E.ti t with
  | some i =>
    match i.desc with
    | .slice elem =>
      match E.ti elem with
      | some j =>
        match j.zero with
        | some z =>
          cond (closed z && (Nat.beq z.cells.toList.length j.size && (Nat.ble (len * j.size) 16777216 && Nat.blt len 1000000000))) (match fillV (fun k => some (k * j.size, j.size)) (reps z.cells.toList len) parts with
            | some cs => some (.row cs j.size false, fun id => .slice (some ⟨id, 0, none⟩) len len)
            | none => none) none
        | none => none
      | none => none
    | _ => none
  | none => none

noncomputable def aNilCheck (v : Value) : Option Value :=
  match v with
  | .pointer none | .nilIface | .nilFunc | .chan (some _) => none
  | .func (.method _) _ _ => none
  | v => some v

/-- A step of the model that asks for nothing but the program: its answer. -/
noncomputable def pureRun {α : Type} (P : Program) : Sem α → Option α
  | .pure a => some a
  | .program k => pureRun P (k P)
  | .mark _ k => pureRun P k
  | _ => none

noncomputable def eqV (t : TypeId) (x y : Value) : Option Bool :=
  match E.ti t with
  | none => none
  | some i =>
    match i.desc, x, y with
    | .bool, .bool a, .bool b => some (a == b)
    | .pointer _, .pointer none, .pointer b => some b.isNone
    | .pointer _, .pointer (some _), .pointer none => some false
    | .slice _, .slice none _ _, .slice b _ _ => some b.isNone
    | .slice _, .slice (some _) _ _, .slice none _ _ => some false
    | .map _ _, .map none, .map b => some b.isNone
    | .map _ _, .map (some _), .map none => some false
    | .func _ _ _, .nilFunc, .nilFunc => some true
    | .func _ _ _, .nilFunc, .func _ _ _ => some false
    | .func _ _ _, .func _ _ _, .nilFunc => some false
    | .interface _, .nilIface, .iface _ _ => some false
    | .interface _, .iface _ _, .nilIface => some false
    | _, _, _ => none

noncomputable def intOp (op : BinOp) (k : IntKind) (a b : Int) : Option Value :=
  match op with
  | .add => some (.int k (k.wrap (a + b)))
  | .sub => some (.int k (k.wrap (a - b)))
  | .mul => some (.int k (k.wrap (a * b)))
  | .quo => cond (b == 0) none (some (.int k (k.wrap (a.tdiv b))))
  | .rem => cond (b == 0) none (some (.int k (a.tmod b)))
  | .and => some (.int k (k.wrap (BitVec.ofInt k.bits a &&& BitVec.ofInt k.bits b).toNat))
  | .or => some (.int k (k.wrap (BitVec.ofInt k.bits a ||| BitVec.ofInt k.bits b).toNat))
  | .xor => some (.int k (k.wrap (BitVec.ofInt k.bits a ^^^ BitVec.ofInt k.bits b).toNat))
  | .andNot => some (.int k (k.wrap (BitVec.ofInt k.bits a &&& ~~~ BitVec.ofInt k.bits b).toNat))
  | .eql => some (.bool (a == b))
  | .neq => some (.bool (a != b))
  | .lss => some (.bool (decide (a < b)))
  | .leq => some (.bool (decide (a ≤ b)))
  | .gtr => some (.bool (decide (a > b)))
  | .geq => some (.bool (decide (a ≥ b)))
  | _ => none

noncomputable def shiftOp (op : BinOp) (k : IntKind) (x y : Int) : Option Value :=
  match y with
  | .ofNat m =>
    match op with
    | .shl => some (.int k (k.wrap (x * 2 ^ (min m k.bits))))
    | .shr => some (.int k (x.fdiv (2 ^ (min m k.bits))))
    | _ => none
  | _ => none

noncomputable def bytesEq : List UInt8 → List UInt8 → Bool
  | [], [] => true
  | a :: l, b :: r => cond (Nat.beq a.toNat b.toNat) (bytesEq l r) false
  | _, _ => false
noncomputable def bytesLt : List UInt8 → List UInt8 → Bool
  | _, [] => false
  | [], _ :: _ => true
  | a :: l, b :: r => cond (Nat.beq a.toNat b.toNat) (bytesLt l r) (Nat.blt a.toNat b.toNat)

noncomputable def strOp (op : BinOp) (x y : ByteArray) : Option Value :=
  let l := x.data.toList
  let r := y.data.toList
  match op with
  | .add => cond (Nat.ble (l.length + r.length) 9223372036854775807) (some (.string ⟨(l ++ r).toArray⟩)) none
  | .eql => some (.bool (bytesEq l r))
  | .neq => some (.bool (!bytesEq l r))
  | .lss => some (.bool (bytesLt l r))
  | .leq => some (.bool (!bytesLt r l))
  | .gtr => some (.bool (bytesLt r l))
  | .geq => some (.bool (!bytesLt l r))
  | _ => none

noncomputable def isConstOp : Operand → Bool
  | .const _ => true
  | _ => false

noncomputable def aBin (op : BinOp) (t : TypeId) (xo yo : Operand) (x y : Value) : Option Value :=
  match x, y with
  | .int k a, .int k' b =>
    match op with
    | .shl | .shr => shiftOp op k a b
    | _ => cond (Nat.beq k.ctorIdx k'.ctorIdx) (intOp op k a b) none
  | .string a, .string b => strOp op a b
  | .nilIface, .nilIface =>
    match E.ti t with
    | some i => match i.desc with
      | .interface _ => cond (isConstOp xo || isConstOp yo) (match op with
        | .eql => some (.bool true)
        | .neq => some (.bool false)
        | _ => none) none
      | _ => none
    | none => none
  | _, _ =>
    match op with
    | .eql => match eqV E t x y with | some b => some (.bool b) | none => none
    | .neq => match eqV E t x y with | some b => some (.bool (!b)) | none => none
    | _ => none

noncomputable def aBin2 (op : BinOp) (t : TypeId) (xo yo : Operand) (x y : Value) : Option Value :=
  match aBin E op t xo yo x y with
  | some r => some r
  | none => cond (closed x && closed y) (match E.bin op t xo yo x y with
    | some r => cond (flat r) (some r) none
    | none => none) none

noncomputable def aUn (op : UnOp) (x : Value) : Option Value :=
  match op, x with
  | .neg, .int k n => some (.int k (k.wrap (0 - n)))
  | .xor, .int k n => intOp .xor k (if k.signed then -1 else k.max) n
  | .not, .bool b => some (.bool (!b))
  | _, _ => none

/-- The bytes that cells hold. -/
noncomputable def cellBytes : List Value → Option (List UInt8)
  | [] => some []
  | .int .u8 n :: l => match cellBytes l with
    | some r => some (UInt8.ofNat n.toNat :: r)
    | none => none
  | _ => none

noncomputable def byteCells (l : List UInt8) : List Value := l.map fun b => .int .u8 b.toNat

noncomputable def aBytesOf (src dst : TypeId) (x : Value) : Option Fresh :=
  match E.ti src, E.ti dst with
  | some _, some j =>
    match j.desc, x with
    | .slice e, .string s =>
      match E.ti e with
      | some u => match u.desc with
        | .int .u8 => some (.row (byteCells s.data.toList) 1 true, fun id => .slice (some ⟨id, 0, none⟩) s.data.toList.length unk)
        | _ => none
      | none => none
    | _, _ => none
  | _, _ => none

noncomputable def aConvert (src dst : TypeId) (x : Value) (A : ASt) : Option Value :=
  match E.ti src, E.ti dst with
  | some i, some j =>
    match j.desc, x with
    | .int k, .int _ n => some (.int k (k.wrap n))
    | .string, .string _ => some x
    | .string, .int _ n => some (.string (Utf8.encode n))
    | .string, .slice none _ _ =>
      match i.desc with
      | .slice e => match E.ti e with
        | some u => match u.desc with
          | .int .u8 => some (.string .empty)
          | _ => none
        | none => none
      | _ => none
    | .string, .slice (some ⟨b, off, none⟩) len _ =>
      match i.desc with
      | .slice e => match E.ti e with
        | some u => match u.desc, A.get b with
          | .int .u8, some (.row c _ _) => match cut c off len with
            | some r => match cellBytes r with
              | some bs => some (.string ⟨bs.toArray⟩)
              | none => none
            | none => none
          | _, _ => none
        | none => none
      | _ => none
    | _, _ => none
  | _, _ => none

noncomputable def aMakeIface (t : TypeId) (x : Value) : Option Value :=
  match E.ti t with
  | some i => match i.desc with
    | .interface _ => none
    | _ => some (.iface t x)
  | none => none

noncomputable def aMakeSlice (t : TypeId) (l c : Value) : Option Fresh :=
  match E.ti t with
  | some i =>
    match i.desc with
    | .slice e =>
      match E.ti e, l, c with
      | some j, .int _ (.ofNat ln), .int _ (.ofNat cn) =>
        match j.zero with
        | some z =>
          cond (closed z && (Nat.beq z.cells.toList.length j.size && (Nat.ble ln cn && (Nat.ble (j.bytes * cn) 1000000000 && Nat.ble cn 1000000000))))
            (some (.row (reps z.cells.toList cn) j.size false, fun id => .slice (some ⟨id, 0, none⟩) ln cn)) none
        | none => none
      | _, _, _ => none
    | _ => none
  | none => none

/-- An int that is at least 0. -/
noncomputable def natOf : Value → Option Nat
  | .int _ (.ofNat n) => some n
  | _ => none

/-- A bound of a slice expression, or what stands for it. -/
noncomputable def boundOr (x : Option Value) (d : Nat) : Option Nat :=
  match x with
  | none => some d
  | some v => natOf v

noncomputable def aSlice (t : TypeId) (x : Value) (lo hi mx : Option Value) (A : ASt) : Option Value :=
  match E.ti t with
  | none => none
  | some i =>
    match i.desc, x, mx with
    | .string, .string s, none =>
      let l := s.data.toList
      match boundOr hi l.length with
      | some h => match boundOr lo 0 with
        | some a => cond (Nat.ble a h && Nat.ble h l.length) (some (.string ⟨((l.drop a).take (h - a)).toArray⟩)) none
        | none => none
      | none => none
    | .slice e, .slice none len cap, _ =>
      match E.ti e with
      | some _ => match boundOr mx cap with
        | some m => match boundOr hi len with
          | some h => match boundOr lo 0 with
            | some a => cond ((Nat.beq a 0 && (Nat.beq h 0 && (Nat.beq cap 0 && Nat.beq len 0))) && (Nat.beq m 0 && (mx.isNone || hi.isSome))) (some x) none
            | none => none
          | none => none
        | none => none
      | none => none
    | .slice e, .slice (some ⟨b, off, none⟩) len cap, _ =>
      match E.ti e, A.get b with
      | some j, some (.row c sz _) =>
        match boundOr mx cap with
        | some m => match boundOr hi len with
          | some h => match boundOr lo 0 with
            | some a =>
              cond (Nat.ble a h && (Nat.ble (off + h * j.size) c.length && (Nat.beq sz j.size && Nat.blt 0 sz)))
                (cond (Nat.blt m unk)
                  (cond (Nat.ble h m && ((mx.isNone || (hi.isSome && (Nat.blt cap unk && Nat.ble m cap || Nat.beq cap unk && Nat.ble (off + m * j.size) c.length))) && (Nat.blt a m || Nat.beq a 0)))
                    (some (.slice (some ⟨b, off + a * j.size, none⟩) (h - a) (m - a))) none)
                  -- to the end of the row
                  (cond (mx.isNone && (Nat.beq cap unk && (Nat.beq a 0 || Nat.blt (off + a * j.size) c.length)))
                    (some (.slice (some ⟨b, off + a * j.size, none⟩) (h - a) unk)) (cond (mx.isNone && (Nat.beq cap unk && Nat.beq a h)) (some zslice) none))) none
            | none => none
          | none => none
        | none => none
      | _, _ => none
    | .array n e, .pointer (some ⟨b, off, none⟩), none =>
      match E.ti e with
      | some j =>
        match boundOr hi n with
        | some h => match boundOr lo 0 with
          | some a => cond (Nat.ble a h && (Nat.ble h n && (Nat.blt n unk && (Nat.blt a n || Nat.beq a 0)))) (some (.slice (some ⟨b, off + a * j.size, none⟩) (h - a) (n - a))) none
          | none => none
        | none => none
      | none => none
    | _, _, _ => none

noncomputable def aFieldAddr (s : TypeId) (x : Value) (f : Nat) : Option Value :=
  match E.ti s, x with
  | some i, .pointer (some ⟨b, off, none⟩) =>
    match i.desc with
    | .struct fields => match nth fields.toList f with
      | some fd => match E.ti fd.type with
        | some j => cond (Nat.beq j.size 0) none (some (.pointer (some ⟨b, off + fd.offset, none⟩)))
        | none => none
      | none => none
    | _ => none
  | _, _ => none

noncomputable def aField (s : TypeId) (x : Value) (f : Nat) : Option Value :=
  match E.ti s, x with
  | some i, .agg cs =>
    match i.desc with
    | .struct fields => match nth fields.toList f with
      | some fd => partV E fd.type cs.toList fd.offset
      | none => none
    | _ => none
  | _, _ => none

noncomputable def aIndexAddr (t : TypeId) (x ix : Value) : Option Value :=
  match E.ti t, ix with
  | some i, .int _ (.ofNat k) =>
    match i.desc, x with
    | .array len e, .pointer (some ⟨b, off, none⟩) => match E.ti e with
      | some j => cond (Nat.blt k len) (some (.pointer (some ⟨b, off + k * j.size, none⟩))) none
      | none => none
    | .slice e, .slice (some ⟨b, off, none⟩) len _ => match E.ti e with
      | some j => cond (Nat.blt k len) (some (.pointer (some ⟨b, off + k * j.size, none⟩))) none
      | none => none
    | _, _ => none
  | _, _ => none

noncomputable def aIndex (t : TypeId) (x ix : Value) : Option Value :=
  match E.ti t, ix with
  | some i, .int _ (.ofNat k) =>
    match i.desc, x with
    | .array len e, .agg cs => match E.ti e with
      | some j => cond (Nat.blt k len) (partV E e cs.toList (k * j.size)) none
      | none => none
    | .string, .string s => match nth s.data.toList k with
      | some b => some (.int .u8 b.toNat)
      | none => none
    | _, _ => none
  | _, _ => none

/-- A key whose comparison asks nothing. -/
noncomputable def plainKey : TypeDesc → Value → Bool
  | .int _, .int _ _ => true
  | .string, .string _ => true
  | .bool, .bool _ => true
  | _, _ => false

noncomputable def sameKey : Value → Value → Option Bool
  | .int k a, .int k' b => cond (Nat.beq k.ctorIdx k'.ctorIdx) (some (a == b)) none
  | .string a, .string b => some (bytesEq a.data.toList b.data.toList)
  | .bool a, .bool b => some (a == b)
  | _, _ => none

noncomputable def findE (k : Value) : List MapEntry → Nat → Option (Option (Nat × Value))
  | [], _ => some none
  | e :: es, i =>
    match sameKey k e.key with
    | some true => some (some (i, e.val))
    | some false => findE k es (i + 1)
    | none => none

noncomputable def aLookup (t : TypeId) (x k : Value) (ok : Bool) (A : ASt) : Option Value :=
  match E.ti t with
  | none => none
  | some i =>
    match i.desc with
    | .map kt et =>
      match E.ti kt, E.ti et with
      | some ki, some ei =>
        cond (plainKey ki.desc k)
          (match (match x with
              | .map none => some []
              | .map (some r) => match A.get r with
                | some (.map es _) => some es
                | _ => none
              | _ => none) with
            | none => none
            | some es =>
              match findE k es 0 with
              | some (some (_, v)) => some (if ok then .tuple #[v, .bool true] else v)
              | some none => match ei.zero with
                | some z => cond (closed z) (some (if ok then .tuple #[z, .bool false] else z)) none
                | none => none
              | none => none) none
      | _, _ => none
    | _ => none

noncomputable def setVal : List MapEntry → Nat → Value → Value → List MapEntry
  | [], _, _, _ => []
  | e :: es, 0, k, v => { e with key := k, val := v } :: es
  | e :: es, i + 1, k, v => e :: setVal es i k v

noncomputable def aMapUpdate (t : TypeId) (m k v : Value) (A : ASt) : Option ASt :=
  match E.ti t, m with
  | some i, .map (some r) =>
    match i.desc with
    | .map kt _ =>
      match E.ti kt, A.get r with
      | some ki, some (.map es clock) =>
        cond (plainKey ki.desc k)
          (match findE k es 0 with
           | some (some (j, _)) => some (A.set r (.map (setVal es j k v) clock))
           | some none => some (A.set r (.map (es ++ [{ key := k, val := v, born := clock }]) (clock + 1)))
           | none => none) none
      | _, _ => none
    | _ => none
  | _, _ => none

/-- An entry for 'm[k] op= v': its value and its stamp. -/
noncomputable def aMapEntry (t : TypeId) (m k : Value) (A : ASt) : AR :=
  match E.ti t, m with
  | some i, .map (some r) =>
    match i.desc with
    | .map kt et =>
      match E.ti kt, E.ti et, A.get r with
      | some ki, some ei, some (.map es clock) =>
        cond (plainKey ki.desc k)
          (match findE k es 0 with
           | some (some (j, v)) => match nth es j with
             | some e => .val (.tuple #[v, goInt e.born]) A
             | none => .bad "mapEntry"
           | some none => match ei.zero with
             | some z => cond (closed z) (.val (.tuple #[z, goInt clock]) (A.set r (.map (es ++ [{ key := k, val := z, born := clock }]) (clock + 1)))) (.bad "mapEntry: zero")
             | none => .bad "mapEntry: zero"
           | none => .bad "mapEntry: key") (.bad "mapEntry: key")
      | _, _, _ => .bad "mapEntry"
    | _ => .bad "mapEntry"
  | _, _ => .bad "mapEntry"

noncomputable def setBorn (n : Nat) (v : Value) : List MapEntry → Option (List MapEntry)
  | [] => none
  | e :: es => cond (Nat.beq e.born n) (some ({ e with val := v } :: es)) (match setBorn n v es with
    | some r => some (e :: r)
    | none => none)

noncomputable def aEntryStore (m s v : Value) (A : ASt) : Option ASt :=
  match m, s with
  | .map (some r), .int _ (.ofNat n) =>
    match A.get r with
    | some (.map es clock) => match setBorn n v es with
      | some es' => some (A.set r (.map es' clock))
      | none => none
    | _ => none
  | _, _ => none

noncomputable def aRange (t : TypeId) (x : Value) (A : ASt) : AR :=
  match E.ti t with
  | none => .bad "range"
  | some i =>
    match i.desc, x with
    | .string, .string s => fN A.next fun id => .val (.pointer (some ⟨id, 0, none⟩)) (A.newN id (.siter s 0))
    | .map _ _, .map none => fN A.next fun id => .val (.pointer (some ⟨id, 0, none⟩)) (A.newN id (.miter none 0 [] 0))
    | .map _ _, .map (some m) => match A.get m with
      | some (.map _ clock) => fN A.next fun id => .val (.pointer (some ⟨id, 0, none⟩)) (A.newN id (.miter (some m) clock [] clock))
      | _ => .bad "range: map"
    | _, _ => .bad "range"

noncomputable def entriesLeft (seen : List Nat) (es : List MapEntry) : List MapEntry := es.filter fun e => !seen.contains e.born

noncomputable def aNext (it : Value) (isString : Bool) (A : ASt) : Nd (Value × ASt) :=
  match it with
  | .pointer (some ⟨r, 0, none⟩) =>
    match A.get r, isString with
    | some (.siter s pos), true =>
      cond (Nat.blt pos s.size)
        (.ret (.tuple #[.bool true, goInt pos, .int .i32 (Utf8.decode s pos).1], A.set r (.siter s (pos + (Utf8.decode s pos).2))))
        (.ret (.tuple #[.bool false], A))
    | some (.miter none _ _ _), false => .ret (.tuple #[.bool false], A)
    | some (.miter (some m) since seen last), false =>
      match A.get m with
      | some (.map es clock) =>
        let left := entriesLeft seen es
        cond (Nat.beq clock last && Nat.beq since last)
          -- nothing was put in since: all that is left was there at the beginning
          (match left with
           | [] => cond (seen.isEmpty || (es.isEmpty || !(es.all (·.born ≥ last)))) (.ret (.tuple #[.bool false], A)) (.fail "next: gone")
           | [e] => cond (e.born < since && (seen.isEmpty || !(es.all (·.born ≥ last)))) (.ret (.tuple #[.bool true, e.key, e.val], A.set r (.miter (some m) since (seen ++ [e.born]) clock))) (.fail "next: young")
           | _ => cond (left.all (·.born < since) && (seen.isEmpty || !(es.all (·.born ≥ last))))
             (.ask left.length fun i => match nth left i with
               | some e => .ret (.tuple #[.bool true, e.key, e.val], A.set r (.miter (some m) since (seen ++ [e.born]) clock))
               | none => .fail "next: no such") (.fail "next: young"))
          (.fail "next: clock")
      | _ => .fail "next: map"
    | _, _ => .fail "next: kind"
  | _ => .fail "next: iterator"

noncomputable def lastOf : List Nat → Option Nat
  | [] => none
  | [a] => some a
  | _ :: l => lastOf l

noncomputable def findBorn (n : Nat) : List MapEntry → Option MapEntry
  | [] => none
  | e :: es => cond (Nat.beq e.born n) (some e) (findBorn n es)

noncomputable def aEntry (it : Value) (A : ASt) : Option Value :=
  match it with
  | .pointer (some ⟨r, 0, none⟩) =>
    match A.get r with
    | some (.miter (some m) _ seen stepped) =>
      match lastOf seen, A.get m with
      | some stamp, some (.map es clock) =>
        cond (Nat.beq clock stepped) (match findBorn stamp es with
          | some e => some (.tuple #[e.key, e.val])
          | none => none) none
      | _, _ => none
    | _ => none
  | _ => none

noncomputable def aExtract (v : Value) (i : Nat) : Option Value :=
  match v with
  | .tuple vs => nth vs.toList i
  | _ => none

noncomputable def aTypeAssert (x : Value) (t : TypeId) (ok : Bool) : Option Value :=
  match E.ti t with
  | none => none
  | some i =>
    match i.desc, x with
    | .interface want, .iface u _ =>
      match E.ti u with
      | some j => match Instr.missingMethod want j.methods with
        | none => some (if ok then .tuple #[x, .bool true] else x)
        | some _ => cond ok (match i.zero with
          | some z => cond (closed z) (some (.tuple #[z, .bool false])) none
          | none => none) none
      | none => none
    | .interface _, _ => none
    | _, .iface u v => cond (Nat.beq u t) (some (if ok then .tuple #[v, .bool true] else v))
        (cond ok (match i.zero with
          | some z => cond (closed z) (some (.tuple #[z, .bool false])) none
          | none => none) none)
    | _, _ => none

/-- Cells of what is appended or copied: n elements of sz cells. -/
noncomputable def srcCells (sz : Nat) (x : Value) (n : Nat) (A : ASt) : Option (List Value) :=
  match x with
  | .slice none _ _ => some []
  | .slice (some ⟨b, off, none⟩) _ _ => match A.get b with
    | some (.row c _ _) => cut c off (n * sz)
    | _ => none
  | .slice (some ⟨_, _, some _⟩) 0 _ => cond (Nat.beq n 0) (some []) none
  | .string s => some (byteCells (s.data.toList.take n))
  | _ => none

noncomputable def lenV : Value → Option Nat
  | .slice _ n _ => some n
  | .string s => some s.data.toList.length
  | _ => none

noncomputable def grown (A : ASt) (cs : List Value) (sz need : Nat) : AR :=
  fN A.next fun id => .val (.slice (some ⟨id, 0, none⟩) need unk) (A.newN id (.row cs sz true))

theorem grown_eq (A : ASt) (cs : List Value) (sz need : Nat) : grown A cs sz need = .val (.slice (some ⟨A.next, 0, none⟩) need unk) (A.new (.row cs sz true)) := fN_eq _ _

noncomputable def isIntD : TypeDesc → Bool
  | .int _ => true
  | _ => false

/-- What append does once its sizes are known: 'sz' the cells of an element, 'new' the cells that come behind. -/
noncomputable def appendTo (sz : Nat) (base : Option Addr) (len cap n : Nat) (new : List Value) (A : ASt) : AR :=
  match base with
  | none => cond (Nat.beq cap 0 && Nat.beq len 0) (cond (Nat.beq n 0) (.val (.slice none 0 0) A) (grown A new sz n)) (.bad "append: nil")
  | some ⟨b, off, none⟩ =>
    match A.get b with
    | some (.row c z tail) =>
      cond (Nat.beq z sz && Nat.ble (off + len * sz) c.length)
        (cond (Nat.beq cap unk)
          (cond (Nat.ble (off + (len + n) * sz) c.length)
            -- it fits, over cells that are there
            (match over c (off + len * sz) new with
             | some c' => .val (.slice (some ⟨b, off, none⟩) (len + n) unk) (A.set b (.row c' z tail))
             | none => .bad "append: over")
            -- at the end of what is known: it fits, or it grows
            (cond (tail && Nat.beq (off + len * sz) c.length)
              (grown (A.set b (.row (c.take off) z false)) (c.drop off ++ new) sz (len + n))
              (.bad "append: alias")))
          (cond (Nat.ble (len + n) cap)
            (match over c (off + len * sz) new with
             | some c' => .val (.slice (some ⟨b, off, none⟩) (len + n) cap) (A.set b (.row c' z tail))
             | none => .bad "append: over")
            (grown A ((c.drop off).take (len * sz) ++ new) sz (len + n))))
        (.bad "append: row")
    | _ => .bad "append: row"
  | _ => .bad "append: base"

noncomputable def aAppend (t : TypeId) (xt : TypeId) (s x : Value) (A : ASt) : AR :=
  match E.ti t, E.ti xt with
  | some i, some xi =>
    match i.desc with
    | .slice e =>
      match E.ti e, s, lenV x with
      | some j, .slice base len cap, some n =>
        match j.zero, srcCells j.size x n A with
        | some z, some new =>
          cond (!isIntD xi.desc && (Nat.blt 0 j.size && (Nat.blt ((len + n) * (j.bytes + 1)) 1000000000 && (Nat.beq new.length (n * j.size) && (singles new && (closed z && Nat.beq z.cells.toList.length j.size))))))
            (appendTo j.size base len cap n new A) (.bad "append: sizes")
        | _, _ => .bad "append: source"
      | _, _, _ => .bad "append"
    | _ => .bad "append: type"
  | _, _ => .bad "append"

noncomputable def aLen (t : TypeId) (x : Value) (A : ASt) : Option Value :=
  match E.ti t with
  | none => none
  | some i =>
    match i.desc, x with
    | .string, .string s => some (goInt s.data.toList.length)
    | .array n _, _ => some (goInt n)
    | .pointer arr, _ => match E.ti arr with
      | some j => match j.desc with
        | .array n _ => some (goInt n)
        | _ => none
      | none => none
    | .slice _, .slice _ n _ => some (goInt n)
    | .map _ _, .map none => some (goInt 0)
    | .map _ _, .map (some r) => match A.get r with
      | some (.map es _) => some (goInt es.length)
      | _ => none
    | _, _ => none

noncomputable def aCap (t : TypeId) (x : Value) : Option Value :=
  match E.ti t with
  | none => none
  | some i =>
    match i.desc, x with
    | .array n _, _ => some (goInt n)
    | .slice _, .slice _ _ c => cond (Nat.beq c unk) none (some (goInt c))
    | _, _ => none

noncomputable def aCopy (t : TypeId) (d s : Value) (A : ASt) : AR :=
  match E.ti t with
  | none => .bad "copy"
  | some i =>
    match i.desc with
    | .slice e =>
      match E.ti e, d, lenV s with
      | some j, .slice base dl _, some sl =>
        let n := Nat.min sl dl
        match srcCells j.size s n A with
        | none => .bad "copy: source"
        | some cs =>
          match base with
          | none => cond (Nat.beq n 0) (.val (goInt 0) A) (.bad "copy: nil")
          | some ⟨b, off, none⟩ =>
            match A.get b with
            | some (.row c sz tail) => match over c off cs with
              | some c' => cond (singles cs) (.val (goInt n) (A.set b (.row c' sz tail))) (.bad "copy")
              | none => .bad "copy: over"
            | _ => .bad "copy: row"
          | _ => .bad "copy"
      | _, _, _ => .bad "copy"
    | _ => .bad "copy"

noncomputable def eraseAt {α : Type} : List α → Nat → List α
  | [], _ => []
  | _ :: l, 0 => l
  | a :: l, i + 1 => a :: eraseAt l i

noncomputable def aDelete (t : TypeId) (m k : Value) (A : ASt) : AR :=
  match E.ti t with
  | none => .bad "delete"
  | some i =>
    match i.desc with
    | .map kt _ =>
      match E.ti kt with
      | some ki =>
        cond (plainKey ki.desc k)
          (match m with
           | .map none => .val undef A
           | .map (some r) => match A.get r with
             | some (.map es clock) => match findE k es 0 with
               | some (some (j, _)) => .val undef (A.set r (.map (eraseAt es j) clock))
               | some none => .val undef A
               | none => .bad "delete: key"
             | _ => .bad "delete: map"
           | _ => .bad "delete") (.bad "delete: key")
      | none => .bad "delete"
    | _ => .bad "delete"

noncomputable def aClear (x : Value) (A : ASt) : AR :=
  match x with
  | .map none => .val undef A
  | .map (some r) => match A.get r with
    | some (.map _ clock) => .val undef (A.set r (.map [] clock))
    | _ => .bad "clear"
  | _ => .bad "clear: slice"

/-- clear: of a slice its cells, of a map its entries. -/
noncomputable def aClear2 (i : TIn) (x : Value) (A : ASt) : AR :=
  match i.desc, x with
  | _, .slice none _ _ => .val undef A
  | .slice e, .slice (some ⟨b, off, none⟩) n _ =>
    cond (Nat.beq n 0) (.val undef A)
      (match E.ti e, A.get b with
       | some j, some (.row c sz tail) => match j.zero with
         | some z => cond (closed z && singles (reps z.cells.toList n)) (match over c off (reps z.cells.toList n) with
           | some c' => .val undef (A.set b (.row c' sz tail))
           | none => .bad "clear: over") (.bad "clear: zero")
         | none => .bad "clear: zero"
       | _, _ => .bad "clear: row")
  | _, x => aClear x A

noncomputable def minMax.go (isMax : Bool) (k : IntKind) (x : Int) : List Value → Option Value
  | [] => some (.int k x)
  | .int _ y :: l => minMax.go isMax k (cond isMax (if y > x then y else x) (if y < x then y else x)) l
  | _ => none

noncomputable def minMax (isMax : Bool) : List Value → Option Value
  | .int k x :: l => minMax.go isMax k x l
  | _ => none

noncomputable def aBuiltin (b : Builtin) (argTypes : List TypeId) (args : List Value) (A : ASt) : AR :=
  match b, argTypes, args with
  | .append, t :: xt :: _, [s, x] => (aAppend E t xt s x A).plain
  | .len, t :: _, [x] => ofVal (aLen E t x A) A "len"
  | .cap, t :: _, [x] => ofVal (aCap E t x) A "cap"
  | .copy, t :: _, [d, s] => (aCopy E t d s A).plain
  | .delete, t :: _, [m, k] => (aDelete E t m k A).plain
  | .clear, t :: _, [x] => match E.ti t with
    | some i => (aClear2 E i x A).plain
    | none => .bad "clear"
  | .min, _, l => ofVal (minMax false l) A "min"
  | .max, _, l => ofVal (minMax true l) A "max"
  | _, _, _ => .bad "builtin"

noncomputable def findMethod (name : String) : List Method → Option Method
  | [] => none
  | m :: l => if m.name == name then some m else findMethod name l

/-- A method of a dynamic type whose path is empty: the function and the receiver. -/
noncomputable def aMethod (t : TypeId) (v : Value) (name : String) (A : ASt) : Option (FuncId × Value) :=
  match E.ti t with
  | none => none
  | some i =>
    match findMethod name i.methods.toList with
    | none => none
    | some m =>
      cond m.path.isEmpty (match m.func with
        | some (f, ptr) =>
          match i.desc, ptr with
          | .pointer _, true => some (f, v)
          | .pointer e, false => match aLoad E e v A with
            | some r => some (f, r)
            | none => none
          | _, false => some (f, v)
          | _, true => none
        | none => none) none

noncomputable def aEnter (f : FuncId) (args : List Value) (A : ASt) : AR :=
  match E.fn f with
  | some _ => .enter (.fn f) args A
  | none => match E.ext f with
    | some g => cond (flats args) (match g args with
      | some v => cond (closed v) (.val v A) (.bad "extern: value")
      | none => .bad "extern") (.bad "extern: arguments")
    | none => .bad "enter: no such function"

noncomputable def aInvoke (fn : Fn) (args captured : List Value) (A : ASt) : AR :=
  match fn with
  | .func f => aEnter E f (args ++ captured) A
  | .method name => match args with
    | .iface t v :: rest => match aMethod E t v name A with
      | some (f, r) => aEnter E f (r :: rest) A
      | none => .bad "method"
    | _ => .bad "method: receiver"
  | .methodOf t name => match args with
    | v :: rest => match E.ti t with
      | some i => match i.desc, v with
        | .interface _, .iface u x => match aMethod E u x name A with
          | some (f, r) => aEnter E f (r :: rest) A
          | none => .bad "methodOf"
        | .interface _, _ => .bad "methodOf"
        | _, _ => match aMethod E t v name A with
          | some (f, r) => aEnter E f (r :: rest) A
          | none => .bad "methodOf"
      | none => .bad "methodOf"
    | _ => .bad "methodOf"
  | .via .. => .bad "via"
  | .yield l => cond captured.isEmpty (.enter (.round l) args A) (.bad "yield")

noncomputable def aCall (T : Tmps) (c : Call) (A : ASt) : AR :=
  match evs T c.args.toList with
  | none => .bad "call: args"
  | some args =>
    match c.callee with
    | .builtin b => aBuiltin E b c.argTypes.toList args A
    | .invoke r name => match ev T r with
      | some v => aInvoke E (.method name) (v :: args) [] A
      | none => .bad "invoke"
    | .value f => match ev T f with
      | some (.func fn first captured) => aInvoke E fn (first.toList ++ args) captured.toList A
      | _ => .bad "call: function value"

noncomputable def evOpt (T : Tmps) : Option Operand → Option (Option Value)
  | none => some none
  | some x => match ev T x with
    | some v => some (some v)
    | none => none

/-- Does an operation make one new block, out of its operands alone? -/
noncomputable def freshOp (o : Op) : Bool :=
  match o with
  | .alloc _ | .box _ _ | .buildSlice _ _ _ | .makeMap _ _ | .makeSlice _ _ _ => true
  | .convert s d _ => match E.ti s, E.ti d with
    | some i, some j => match i.desc, j.desc with
      | .string, .slice _ => true
      | _, _ => false
    | _, _ => false
  | _ => false

noncomputable def aFresh (o : Op) (T : Tmps) : Option Fresh :=
  match o with
  | .alloc t => aAlloc E t
  | .box t x => match ev T x with
    | some v => aBox E t v
    | none => none
  | .buildSlice t n ps => match evPairs T ps.toList with
    | some l => aBuildSlice E t n l
    | none => none
  | .makeMap _ none => some (.map [] 0, fun id => .map (some id))
  | .makeSlice t l c => match ev T l, ev T c with
    | some a, some b => aMakeSlice E t a b
    | _, _ => none
  | .convert s d x => match ev T x with
    | some v => aBytesOf E s d v
    | none => none
  | _ => none

/-- One operation that makes no block, or more than one; 'next' apart. -/
noncomputable def aOpR (o : Op) (T : Tmps) (A : ASt) : AR :=
  match o with
  | .move x | .assign x => ofVal (ev T x) A "move"
  | .pick c a b => match ev T c with
    | some (.bool t) => ofVal (cond t (ev T a) (ev T b)) A "pick"
    | _ => .bad "pick"
  | .build t ps => match evPairs T ps.toList with
    | some l => ofVal (aBuild E t l) A "build"
    | none => .bad "build"
  | .load t a => match ev T a with
    | some v => ofVal (aLoad E t v A) A "load"
    | none => .bad "load"
  | .store t a x => match ev T a, ev T x with
    | some p, some v => match aStore E t p v A with
      | some A' => .val undef A'
      | none => .bad "store"
    | _, _ => .bad "store"
  | .nilCheck x => match ev T x with
    | some v => ofVal (aNilCheck v) A "nilCheck"
    | none => .bad "nilCheck"
  | .binOp op t x y _ => match ev T x, ev T y with
    | some a, some b => ofVal (aBin2 E op t x y a b) A "binOp"
    | _, _ => .bad "binOp"
  | .unOp op _ x => match ev T x with
    | some v => ofVal (aUn op v) A "unOp"
    | none => .bad "unOp"
  | .convert s d x => match ev T x with
    | some v => ofVal (aConvert E s d v A) A "convert"
    | none => .bad "convert"
  | .makeInterface t x => match ev T x with
    | some v => ofVal (aMakeIface E t v) A "makeInterface"
    | none => .bad "makeInterface"
  | .makeFunc fn first captured => match evs T first.toList, evs T captured.toList with
    | some l, some r => cond (notYield fn) (.val (.func fn l.toArray r.toArray) A) (.bad "makeFunc")
    | _, _ => .bad "makeFunc"
  | .slice t x lo hi mx => match ev T x, evOpt T lo, evOpt T hi, evOpt T mx with
    | some v, some a, some b, some c => ofVal (aSlice E t v a b c A) A "slice"
    | _, _, _, _ => .bad "slice"
  | .fieldAddr s x f => match ev T x with
    | some v => ofVal (aFieldAddr E s v f) A "fieldAddr"
    | none => .bad "fieldAddr"
  | .field s x f => match ev T x with
    | some v => ofVal (aField E s v f) A "field"
    | none => .bad "field"
  | .indexAddr t x i => match ev T x, ev T i with
    | some v, some k => ofVal (aIndexAddr E t v k) A "indexAddr"
    | _, _ => .bad "indexAddr"
  | .index t x i => match ev T x, ev T i with
    | some v, some k => ofVal (aIndex E t v k) A "index"
    | _, _ => .bad "index"
  | .lookup t x k ok => match ev T x, ev T k with
    | some v, some w => ofVal (aLookup E t v w ok A) A "lookup"
    | _, _ => .bad "lookup"
  | .mapUpdate t m k x | .insert t m k x => match ev T m, ev T k, ev T x with
    | some a, some b, some c => match aMapUpdate E t a b c A with
      | some A' => .val undef A'
      | none => .bad "mapUpdate"
    | _, _, _ => .bad "mapUpdate"
  | .mapEntry t m k => match ev T m, ev T k with
    | some a, some b => (aMapEntry E t a b A).plain
    | _, _ => .bad "mapEntry"
  | .entryStore _ m s x => match ev T m, ev T s, ev T x with
    | some a, some b, some c => match aEntryStore a b c A with
      | some A' => .val undef A'
      | none => .bad "entryStore"
    | _, _, _ => .bad "entryStore"
  | .range t x => match ev T x with
    | some v => (aRange E t v A).plain
    | none => .bad "range"
  | .entry it => match ev T it with
    | some v => ofVal (aEntry v A) A "entry"
    | none => .bad "entry"
  | .typeAssert x _ t ok => match ev T x with
    | some v => ofVal (aTypeAssert E v t ok) A "typeAssert"
    | none => .bad "typeAssert"
  | .extract t i => match ev T t with
    | some v => ofVal (aExtract v i) A "extract"
    | none => .bad "extract"
  | .call c => aCall E T c A
  | _ => .bad "op"

/-- The same, so written that the kernel copies little. -/
noncomputable def opD : Op → Env → Tmps → ASt → AR
  | .move x => fun E T A => ofVal (ev T x) A "move"
  | .assign x => fun E T A => ofVal (ev T x) A "move"
  | .pick c a b => fun E T A => match ev T c with
    | some (.bool t) => ofVal (cond t (ev T a) (ev T b)) A "pick"
    | _ => .bad "pick"
  | .build t ps => fun E T A => match evPairs T ps.toList with
    | some l => ofVal (aBuild E t l) A "build"
    | none => .bad "build"
  | .load t a => fun E T A => match ev T a with
    | some v => ofVal (aLoad E t v A) A "load"
    | none => .bad "load"
  | .store t a x => fun E T A => match ev T a, ev T x with
    | some p, some v => match aStore E t p v A with
      | some A' => .val undef A'
      | none => .bad "store"
    | _, _ => .bad "store"
  | .nilCheck x => fun E T A => match ev T x with
    | some v => ofVal (aNilCheck v) A "nilCheck"
    | none => .bad "nilCheck"
  | .binOp op t x y _ => fun E T A => match ev T x, ev T y with
    | some a, some b => ofVal (aBin2 E op t x y a b) A "binOp"
    | _, _ => .bad "binOp"
  | .unOp op _ x => fun E T A => match ev T x with
    | some v => ofVal (aUn op v) A "unOp"
    | none => .bad "unOp"
  | .convert s d x => fun E T A => match ev T x with
    | some v => ofVal (aConvert E s d v A) A "convert"
    | none => .bad "convert"
  | .makeInterface t x => fun E T A => match ev T x with
    | some v => ofVal (aMakeIface E t v) A "makeInterface"
    | none => .bad "makeInterface"
  | .makeFunc fn first captured => fun E T A => match evs T first.toList, evs T captured.toList with
    | some l, some r => cond (notYield fn) (.val (.func fn l.toArray r.toArray) A) (.bad "makeFunc")
    | _, _ => .bad "makeFunc"
  | .slice t x lo hi mx => fun E T A => match ev T x, evOpt T lo, evOpt T hi, evOpt T mx with
    | some v, some a, some b, some c => ofVal (aSlice E t v a b c A) A "slice"
    | _, _, _, _ => .bad "slice"
  | .fieldAddr s x f => fun E T A => match ev T x with
    | some v => ofVal (aFieldAddr E s v f) A "fieldAddr"
    | none => .bad "fieldAddr"
  | .field s x f => fun E T A => match ev T x with
    | some v => ofVal (aField E s v f) A "field"
    | none => .bad "field"
  | .indexAddr t x i => fun E T A => match ev T x, ev T i with
    | some v, some k => ofVal (aIndexAddr E t v k) A "indexAddr"
    | _, _ => .bad "indexAddr"
  | .index t x i => fun E T A => match ev T x, ev T i with
    | some v, some k => ofVal (aIndex E t v k) A "index"
    | _, _ => .bad "index"
  | .lookup t x k ok => fun E T A => match ev T x, ev T k with
    | some v, some w => ofVal (aLookup E t v w ok A) A "lookup"
    | _, _ => .bad "lookup"
  | .mapUpdate t m k x => fun E T A => match ev T m, ev T k, ev T x with
    | some a, some b, some c => match aMapUpdate E t a b c A with
      | some A' => .val undef A'
      | none => .bad "mapUpdate"
    | _, _, _ => .bad "mapUpdate"
  | .insert t m k x => fun E T A => match ev T m, ev T k, ev T x with
    | some a, some b, some c => match aMapUpdate E t a b c A with
      | some A' => .val undef A'
      | none => .bad "mapUpdate"
    | _, _, _ => .bad "mapUpdate"
  | .mapEntry t m k => fun E T A => match ev T m, ev T k with
    | some a, some b => (aMapEntry E t a b A).plain
    | _, _ => .bad "mapEntry"
  | .entryStore _ m s x => fun E T A => match ev T m, ev T s, ev T x with
    | some a, some b, some c => match aEntryStore a b c A with
      | some A' => .val undef A'
      | none => .bad "entryStore"
    | _, _, _ => .bad "entryStore"
  | .range t x => fun E T A => match ev T x with
    | some v => (aRange E t v A).plain
    | none => .bad "range"
  | .entry it => fun E T A => match ev T it with
    | some v => ofVal (aEntry v A) A "entry"
    | none => .bad "entry"
  | .typeAssert x _ t ok => fun E T A => match ev T x with
    | some v => ofVal (aTypeAssert E v t ok) A "typeAssert"
    | none => .bad "typeAssert"
  | .extract t i => fun E T A => match ev T t with
    | some v => ofVal (aExtract v i) A "extract"
    | none => .bad "extract"
  | .call c => fun E T A => aCall E T c A
  | _ => fun E T A => .bad "op"

theorem opD_eq (E : Env) (o : Op) (T : Tmps) (A : ASt) : opD o E T A = aOpR E o T A := by cases o <;> rfl

noncomputable def freshD : Op → Env → Bool
  | .alloc _ => fun _ => true
  | .box _ _ => fun _ => true
  | .buildSlice _ _ _ => fun _ => true
  | .makeMap _ _ => fun _ => true
  | .makeSlice _ _ _ => fun _ => true
  | .convert s d x => fun E => freshOp E (.convert s d x)
  | _ => fun _ => false

theorem freshD_eq (E : Env) (o : Op) : freshD o E = freshOp E o := by cases o <;> rfl

/-- One operation; 'next' apart. -/
noncomputable def aOp (o : Op) (T : Tmps) (A : ASt) : AR :=
  cond (freshD o E) (match aFresh E o T with
    | some (ob, f) => fN A.next fun id => .val (f id) (A.newN id ob)
    | none => .bad "fresh") (opD o E T A)

theorem aOp_def (o : Op) (T : Tmps) (A : ASt) : aOp E o T A = cond (freshOp E o) (match aFresh E o T with
    | some (ob, f) => .val (f A.next) (A.new ob)
    | none => .bad "fresh") (aOpR E o T A) := by
  unfold aOp
  rw [freshD_eq, opD_eq]
  congr 1
  cases aFresh E o T with
  | none => rfl
  | some x => exact fN_eq _ _

end Go.AE
