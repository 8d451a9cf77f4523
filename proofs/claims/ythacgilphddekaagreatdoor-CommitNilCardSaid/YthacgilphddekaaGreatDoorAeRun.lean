/- The evaluator: code and calls. -/
import Derived.Test.YthacgilphddekaaGreatDoorAeDraw
namespace Go.AE
open Go

inductive AExit where
  | normal
  | exit (id : Nat)
  | ret

structure AFr where
  ex : AExit
  T : Tmps
  A : ASt

inductive Job where
  | code (n : Nat) (ro : Option Nat) (c : Code) (T : Tmps) (A : ASt)
  | call (t : Tgt) (args : List Value) (A : ASt)

inductive Out where
  | fr (r : AFr)
  | res (v : Value) (A : ASt)

variable (E : Env)

/-- The operations of a region that draws no order. -/
noncomputable def opsRun (call : Tgt → List Value → ASt → Nd (Value × ASt)) (n : Nat) (ops : Array Oper) : List Oper → Tmps → ASt → Nd (Tmps × ASt)
  | [], T, A => .ret (T, A)
  | o :: l, T, A =>
    cond (wantedA ops T o)
      ((oneOp E call o T A).bind fun r => match putN n T o.dst r.1 with
        | some T' => opsRun call n ops l T' r.2
        | none => .fail "slot")
      (match putN n T o.dst undef with
        | some T' => opsRun call n ops l T' A
        | none => .fail "slot")

noncomputable def argsT : Nat → List Value → Tmps → Tmps
  | _, [], T => T
  | i, v :: l, T => argsT (i + 1) l (T.put i (some v))

noncomputable def resultsV (T : Tmps) (A : ASt) : List ResultVar → Option (List Value)
  | [] => some []
  | .tmp t :: l => match resultsV T A l with
    | some r => some (tget T t :: r)
    | none => none
  | .cell a t :: l => match aLoad E t (tget T a) A with
    | some v => match resultsV T A l with
      | some r => some (v :: r)
      | none => none
    | none => none

noncomputable def oneOrTuple : List Value → Value
  | [v] => v
  | l => .tuple l.toArray

noncomputable def callBy (ih : Job → Nd Out) (f : Tgt) (args : List Value) (A : ASt) : Nd (Value × ASt) :=
  (ih (.call f args A)).bind fun
    | .res v A' => .ret (v, A')
    | .fr _ => .fail "call"

/-- yield's arguments in its slots. -/
noncomputable def putAll (n : Nat) : List Tmp → List Value → Tmps → Option Tmps
  | [], [], T => some T
  | t :: ts, v :: vs, T => cond (Nat.blt t n) (putAll n ts vs (T.put t (some v))) none
  | _, _, _ => none

noncomputable def exCode : AExit → Option Code
  | .normal => none
  | .exit id => some (.exit id)
  | .ret => some .ret

noncomputable def isBusy : LoopState → Bool
  | .busy => true
  | _ => false
noncomputable def isReady : LoopState → Bool
  | .ready => true
  | _ => false

/-- The end of a round. -/
noncomputable def endR (l : Nat) (ex : AExit) (A : ASt) : Nd Out :=
  match A.get l with
  | some (.loop n T ps as b _ _) => match exCode ex with
    | none => .ret (.res (.bool true) (A.set l (.loop n T ps as b .ready none)))
    | some c => .ret (.res (.bool false) (A.set l (.loop n T ps as b .done (some c))))
  | _ => .fail "round: end"

/-- One round of a loop. -/
noncomputable def roundJob (ih : Job → Nd Out) (l : Nat) (args : List Value) (A : ASt) : Nd Out :=
  match A.get l with
  | some (.loop n T ps as b _ _) => match putAll n ps.toList args T with
    | some T' => (ih (.code n (some l) as T' A)).bind fun
      | .fr ⟨.normal, T1, A1⟩ => match A1.get l with
        | some (.loop n1 T0 ps1 as1 b1 st j) => cond (isReady st)
          ((ih (.code n (some l) b T1 (A1.set l (.loop n1 T0 ps1 as1 b1 .busy j)))).bind fun
            | .fr ⟨ex, _, A2⟩ => endR l ex A2
            | .res _ _ => .fail "round: body") (.fail "round: not ready")
        | _ => .fail "round: record"
      | _ => .fail "round: assign"
    | none => .fail "round: slots"
  | _ => .fail "round: no loop"

noncomputable def isLoop : Option AObj → Bool
  | some (.loop _ _ _ _ _ _ _) => true
  | _ => false
noncomputable def roOK (ro : Option Nat) (A : ASt) : Bool :=
  match ro with
  | none => true
  | some l => isLoop (A.get l)

/-- A range over a function. -/
noncomputable def rangeJob (ih : Job → Nd Out) (n : Nat) (ro : Option Nat) (g : Operand) (ps : Array Tmp) (as b : Code) (T : Tmps) (A : ASt) : Nd Out :=
  match ev T g with
  | some (.func fn first captured) =>
    cond (roOK ro A) (fN A.next fun id => match aInvoke E fn (first.toList ++ [.func (.yield id) #[] #[]]) captured.toList (A.newN id (.loop n T ps as b .ready none)) with
    | .enter (.fn f) args A2 => (callBy ih (.fn f) args A2).bind fun r =>
      match r.2.get id with
      | some (.loop n' T' ps' as' b' st j) => cond (isBusy st) (.fail "range: busy")
        (match j with
         | none => .ret (.fr ⟨.normal, T, r.2.set id (.loop n' T' ps' as' b' .exhausted j)⟩)
         | some c => ih (.code n ro c T (r.2.set id (.loop n' T' ps' as' b' .exhausted j))))
      | _ => .fail "range: record"
    | _ => .fail "range: call") (.fail "range: within no loop")
  | _ => .fail "range: operand"

noncomputable def stepJob (ih : Job → Nd Out) : Job → Nd Out
  | .call (.round l) args A => roundJob ih l args A
  | .call (.fn f) args A =>
    match E.hook f args A with
    | some r => r.bind fun x => .ret (.res x.1 x.2)
    | none =>
      match E.fn f with
      | some fn => match fn.body with
        | some c => cond (Nat.ble args.length fn.ntmps)
          ((ih (.code fn.ntmps none c (argsT 0 args .e) A)).bind fun
            | .fr ⟨.normal, T, A'⟩ | .fr ⟨.ret, T, A'⟩ => match resultsV E T A' fn.results.toList with
              | some l => .ret (.res (oneOrTuple l) A')
              | none => .fail "results"
            | _ => .fail "exit") (.fail "arguments")
        | none => .fail "body"
      | none => .fail "function"
  | .code n ro c T A =>
    match c with
    | .skip => .ret (.fr ⟨.normal, T, A⟩)
    | .ret => .ret (.fr ⟨.ret, T, A⟩)
    | .exit id => .ret (.fr ⟨.exit id, T, A⟩)
    | .label _ => .ret (.fr ⟨.normal, T, A⟩)
    | .seq a b => (ih (.code n ro a T A)).bind fun
      | .fr ⟨.normal, T', A'⟩ => ih (.code n ro b T' A')
      | o => .ret o
    | .cond x a b => match ev T x with
      | some (.bool t) => cond t (ih (.code n ro a T A)) (ih (.code n ro b T A))
      | _ => .fail "cond"
    | .block id b => (ih (.code n ro b T A)).bind fun
      | .fr ⟨.exit id', T', A'⟩ => .ret (.fr ⟨cond (Nat.beq id' id) .normal (.exit id'), T', A'⟩)
      | o => .ret o
    | .loop b => (ih (.code n ro b T A)).bind fun
      | .fr ⟨.normal, T', A'⟩ => ih (.code n ro (.loop b) T' A')
      | o => .ret o
    | .scope b => ih (.code n ro b T A)
    | .region _ ops false => (opsRun E (callBy ih) n ops ops.toList T A).bind fun r => .ret (.fr ⟨.normal, r.1, r.2⟩)
    | .region _ ops true => (drawRun E (callBy ih) n ops T A).bind fun r => .ret (.fr ⟨.normal, r.1, r.2⟩)
    | .rangeFunc g ps as b => rangeJob E ih n ro g ps as b T A
    | _ => .fail "code"

noncomputable def run (fuel : Nat) : Job → Nd Out :=
  Nat.rec (fun _ => .fail "fuel") (fun _ ih j => stepJob E ih j) fuel

end Go.AE
