/- The evaluator: a region whose order is drawn. -/
import Derived.Test.YthacgilphddekaaGreatDoorAeDefs
namespace Go.AE
open Go

/-- Does a guarded operation run? -/
noncomputable def wantedA (ops : Array Oper) (T : Tmps) (o : Oper) : Bool :=
  match o.guard with
  | none => true
  | some (j, want) =>
    match nth ops.toList j with
    | some g => match g.dst with
      | some d => match tget T d with
        | .bool b => b == want
        | _ => false
      | none => false
    | none => false

/-- A variable is written, if there is one, and it is a slot of the frame. -/
noncomputable def putN (n : Nat) (T : Tmps) (dst : Option Tmp) (v : Value) : Option Tmps :=
  match dst with
  | some d => cond (Nat.blt d n) (T.putC d (some v) some) none
  | none => some T

/-- Does an operation neither write nor make memory? -/
noncomputable def quietOp (E : Env) (o : Op) : Bool :=
  match o with
  | .move _ | .assign _ | .pick _ _ _ | .build _ _ | .load _ _ | .nilCheck _ | .binOp _ _ _ _ _ | .unOp _ _ _ | .makeInterface _ _ | .makeFunc _ _ _
  | .slice _ _ _ _ _ | .fieldAddr _ _ _ | .field _ _ _ | .indexAddr _ _ _ | .index _ _ _ | .lookup _ _ _ _ | .entry _ | .typeAssert _ _ _ _ | .extract _ _ => true
  | .convert _ _ _ => !freshOp E o
  | .call c => match c.callee with
    | .builtin .len | .builtin .cap | .builtin .min | .builtin .max => true
    | _ => false
  | _ => false

/-- Who stands ahead of an operation, as a number's bits. -/
noncomputable def ancStep (acc : List Nat) : List Edge → Nat → Nat
  | [], s => s
  | e :: l, s => ancStep acc l (cond (Region.binds .any e) (s ||| (2 ^ e.on ||| (match nth acc e.on with | some m => m | none => 0))) s)

noncomputable def ancs : List Oper → List Nat → List Nat
  | [], acc => acc
  | o :: l, acc => ancs l (acc ++ [ancStep acc o.after.toList 0])

noncomputable def tmpsOf : List Operand → List Tmp
  | [] => []
  | .tmp t :: l => t :: tmpsOf l
  | _ :: l => tmpsOf l

/-- All slots that an operation looks at. -/
noncomputable def looks (ops : Array Oper) (o : Oper) : List Tmp :=
  tmpsOf o.op.operands.toList ++ (match o.guard with
    | some (g, _) => match nth ops.toList g with
      | some x => match x.dst with
        | some d => [d]
        | none => []
      | none => []
    | none => [])

/-- Is slot 't' of operation 'j' written by others only ahead of it, or behind? 'i' counts the others. -/
noncomputable def slotOK (an : List Nat) (j t : Nat) : Nat → List Oper → Bool
  | _, [] => true
  | i, o :: l =>
    (match o.dst with
     | some d => cond (Nat.beq d t) (Nat.beq i j || cond (Nat.blt i j) (match nth an j with | some m => m.testBit i | none => false) (match nth an i with | some m => m.testBit j | none => false)) true
     | none => true) && slotOK an j t (i + 1) l

noncomputable def slotsOK (an : List Nat) (l : List Oper) (j : Nat) : List Nat → Bool
  | [] => true
  | t :: ts => slotOK an j t 0 l && slotsOK an l j ts

noncomputable def edgesOK (j : Nat) : List Edge → Bool
  | [] => true
  | e :: l => (!Region.binds .any e || Nat.blt e.on j) && edgesOK j l

noncomputable def regOK (ops : Array Oper) (an : List Nat) (all : List Oper) : Nat → List Oper → Bool
  | _, [] => true
  | j, o :: l => edgesOK j o.after.toList && (slotsOK an all j (looks ops o ++ o.dst.toList) && regOK ops an all (j + 1) l)

/-- A new block of the region: its operation and its content. -/
structure Fl where
  f : Nat
  ob : AObj

structure Rd where
  i : Nat
  o : Op
  T : Tmps
  v : Value

structure PSt where
  T : Tmps
  H : ASt
  fl : List Fl
  louds : Nat
  hist : List (Nat × ASt)
  reads : List Rd

/-- Blocks of the region that 'g' lets in. -/
noncomputable def addFl (base : Nat) (g : Nat → Bool) : List Fl → ASt → ASt
  | [], A => A
  | x :: l, A => cond (g x.f) ((addFl base g l A).set (base + x.f) x.ob) (addFl base g l A)

/-- Has one of the loud ones taken block 'f' into its heap? -/
noncomputable def takenAt (mask f : Nat) : Nat → List Nat → Bool
  | _, [] => false
  | j, m :: l => (mask.testBit j && m.testBit f) || takenAt mask f (j + 1) l

variable (E : Env)

/-- One operation on a heap; calls by 'call'. -/
noncomputable def oneOp (call : Tgt → List Value → ASt → Nd (Value × ASt)) (o : Oper) (T : Tmps) (A : ASt) : Nd (Value × ASt) :=
  match o.op with
  | .next it isString => match ev T it with
    | some v => aNext v isString A
    | none => .fail "next"
  | op => match aOp E op T A with
    | .val v A' => .ret (v, A')
    | .enter f args A' => call f args A'
    | .bad why => .fail why

/-- The heap that operation 'i' looks at: the loud ones' and the new blocks ahead of it. -/
noncomputable def viewAt (base : Nat) (an : List Nat) (mask m : Nat) (fl : List Fl) (H : ASt) : ASt := addFl base (fun f => !takenAt mask f 0 an && m.testBit f) fl H

noncomputable def planStep (call : Tgt → List Value → ASt → Nd (Value × ASt)) (n base : Nat) (ops : Array Oper) (an : List Nat) (i : Nat) (o : Oper) (s : PSt) : Option PSt :=
  match nth an i with
  | none => none
  | some m =>
    cond (wantedA ops s.T o)
      (cond (freshOp E o.op)
        (match aFresh E o.op s.T with
         | some (ob, f) => match putN n s.T o.dst (f (base + i)) with
           | some T' => some { s with T := T', fl := { f := i, ob } :: s.fl }
           | none => none
         | none => none)
        (cond (quietOp E o.op)
          (match aOp E o.op s.T { heap := .e, next := 0 } with
           | .val v _ => match putN n s.T o.dst v with
             | some T' => some { s with T := T' }
             | none => none
           | _ => match aOp E o.op s.T (viewAt base an s.louds m s.fl s.H) with
             | .val v _ => match putN n s.T o.dst v with
               | some T' => some { s with T := T', reads := { i, o := o.op, T := s.T, v } :: s.reads }
               | none => none
             | _ => none)
          (cond (Nat.beq (m &&& s.louds) s.louds)
            (match oneOp E call o s.T (viewAt base an s.louds m s.fl s.H) with
             | .ret (v, H') => match putN n s.T o.dst v with
               | some T' => some { T := T', H := H', fl := s.fl, louds := s.louds ||| 2 ^ i, hist := (s.louds ||| 2 ^ i, H') :: s.hist, reads := s.reads }
               | none => none
             | _ => none) none)))
      (match putN n s.T o.dst undef with
       | some T' => some { s with T := T' }
       | none => none)

noncomputable def planGo (call : Tgt → List Value → ASt → Nd (Value × ASt)) (n base : Nat) (ops : Array Oper) (an : List Nat) : Nat → List Oper → PSt → Option PSt
  | _, [], s => some s
  | i, o :: l, s => match planStep E call n base ops an i o s with
    | some s' => planGo call n base ops an (i + 1) l s'
    | none => none

/-- The operations behind operation 'i'. -/
noncomputable def behind (i : Nat) : Nat → List Nat → Nat
  | _, [] => 0
  | j, m :: l => cond (m.testBit i) (2 ^ j ||| behind i (j + 1) l) (behind i (j + 1) l)

noncomputable def fnEq : Fn → Fn → Bool
  | .func a, .func b => Nat.beq a b
  | .yield a, .yield b => Nat.beq a b
  | _, _ => false

noncomputable def flatEq : Value → Value → Bool
  | .bool a, .bool b => a == b
  | .int k a, .int j b => Nat.beq k.ctorIdx j.ctorIdx && a == b
  | .string a, .string b => bytesEq a.data.toList b.data.toList
  | .pointer none, .pointer none => true
  | .pointer (some ⟨a, b, none⟩), .pointer (some ⟨c, d, none⟩) => Nat.beq a c && Nat.beq b d
  | .slice none a b, .slice none c d => Nat.beq a c && Nat.beq b d
  | .slice (some ⟨a, b, none⟩) l c, .slice (some ⟨a', b', none⟩) l' c' => (Nat.beq a a' && Nat.beq b b') && (Nat.beq l l' && Nat.beq c c')
  | .slice (some ⟨a, b, some s⟩) l c, .slice (some ⟨a', b', some s'⟩) l' c' => (Nat.beq a a' && Nat.beq b b') && (Nat.beq s s' && (Nat.beq l l' && Nat.beq c c'))
  | .map none, .map none => true
  | .map (some a), .map (some b) => Nat.beq a b
  | .nilFunc, .nilFunc => true
  | .nilIface, .nilIface => true
  | .func f a b, .func g c d => fnEq f g && (a.isEmpty && b.isEmpty) && (c.isEmpty && d.isEmpty)
  | .chan none, .chan none => true
  | .chan (some a), .chan (some b) => Nat.beq a b
  | _, _ => false

noncomputable def flatsEq : List Value → List Value → Bool
  | [], [] => true
  | a :: l, b :: r => flatEq a b && flatsEq l r
  | _, _ => false

noncomputable def lEq {α : Type} (q : α → α → Bool) : List α → List α → Bool
  | [], [] => true
  | a :: l, b :: r => q a b && lEq q l r
  | _, _ => false

noncomputable def vStep (q : Value → Value → Bool) : Value → Value → Bool
  | .agg x, .agg y => lEq q x.toList y.toList
  | .tuple x, .tuple y => lEq q x.toList y.toList
  | .iface t x, .iface u y => Nat.beq t u && q x y
  | .func f a b, .func g c d => fnEq f g && (lEq q a.toList c.toList && lEq q b.toList d.toList)
  | a, b => flatEq a b

noncomputable def vEq : Nat → Value → Value → Bool
  | 0 => flatEq
  | n + 1 => vStep (vEq n)

/-- Are two values one? (false: not seen) -/
noncomputable def valEq (a b : Value) : Bool := vEq 4 a b

noncomputable def readAt (base : Nat) (an : List Nat) (fl : List Fl) (m beh louds : Nat) (r : Rd) : List (Nat × ASt) → Bool
  | [] => true
  | (mask, H) :: l =>
    (cond (Nat.beq ((m &&& louds) &&& mask) (m &&& louds) && Nat.beq (mask &&& beh) 0)
      (match aOp E r.o r.T (viewAt base an mask m fl H) with
       | .val v _ => valEq v r.v
       | _ => false) true) && readAt base an fl m beh louds r l

noncomputable def readsOK (base : Nat) (an : List Nat) (s : PSt) : List Rd → Bool
  | [] => true
  | r :: l => (match nth an r.i with
    | some m => readAt E base an s.fl m (behind r.i 0 an) s.louds r s.hist
    | none => false) && readsOK base an s l

/-- A region whose order is drawn: the slots and the heap behind it, whatever the order. -/
noncomputable def drawRun (call : Tgt → List Value → ASt → Nd (Value × ASt)) (n : Nat) (ops : Array Oper) (T : Tmps) (A : ASt) : Nd (Tmps × ASt) :=
  cond (regOK ops (ancs ops.toList []) ops.toList 0 ops.toList)
    (fN A.next fun base => fN (base + ops.toList.length) fun nx => match planGo E call n base ops (ancs ops.toList []) 0 ops.toList { T, H := { heap := A.heap, next := nx }, fl := [], louds := 0, hist := [(0, { heap := A.heap, next := nx })], reads := [] } with
     | some s => cond (readsOK E base (ancs ops.toList []) s s.reads) (.ret (s.T, addFl base (fun f => !takenAt s.louds f 0 (ancs ops.toList [])) s.fl s.H)) (.fail "draw: a read hangs on the order")
     | none => .fail "draw: plan") (.fail "draw: slots")

end Go.AE
