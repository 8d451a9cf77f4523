/- The evaluator: code and calls. -/
import Derived.Test.YtkbopkohgiikoaaGreatDoorAeDraw
namespace Go.AE
open Go

inductive AExit where
  | normal
  | exit (id : Nat)
  | ret

structure AFr where
  ex : AExit
  T : Tmps
  A : ASt

inductive Job where
  | code (n : Nat) (c : Code) (T : Tmps) (A : ASt)
  | call (f : FuncId) (args : List Value) (A : ASt)

inductive Out where
  | fr (r : AFr)
  | res (v : Value) (A : ASt)

variable (E : Env)

/-- The operations of a region that draws no order. -/
def opsRun (call : FuncId → List Value → ASt → Nd (Value × ASt)) (n : Nat) (ops : Array Oper) : List Oper → Tmps → ASt → Nd (Tmps × ASt)
  | [], T, A => .ret (T, A)
  | o :: l, T, A =>
    cond (wantedA ops T o)
      ((oneOp E call o T A).bind fun r => match putN n T o.dst r.1 with
        | some T' => opsRun call n ops l T' r.2
        | none => .fail "slot")
      (match putN n T o.dst undef with
        | some T' => opsRun call n ops l T' A
        | none => .fail "slot")

def argsT : Nat → List Value → Tmps → Tmps
  | _, [], T => T
  | i, v :: l, T => argsT (i + 1) l (T.put i (some v))

def resultsV (T : Tmps) (A : ASt) : List ResultVar → Option (List Value)
  | [] => some []
  | .tmp t :: l => match resultsV T A l with
    | some r => some (tget T t :: r)
    | none => none
  | .cell a t :: l => match aLoad E t (tget T a) A with
    | some v => match resultsV T A l with
      | some r => some (v :: r)
      | none => none
    | none => none

def oneOrTuple : List Value → Value
  | [v] => v
  | l => .tuple l.toArray

def callBy (ih : Job → Nd Out) (f : FuncId) (args : List Value) (A : ASt) : Nd (Value × ASt) :=
  (ih (.call f args A)).bind fun
    | .res v A' => .ret (v, A')
    | .fr _ => .fail "call"

def stepJob (ih : Job → Nd Out) : Job → Nd Out
  | .call f args A =>
    match E.hook f args with
    | some (k, ans) => .ask k fun i => .ret (.res (ans i) A)
    | none =>
      match E.fn f with
      | some fn => match fn.body with
        | some c => cond (Nat.ble args.length fn.ntmps)
          ((ih (.code fn.ntmps c (argsT 0 args .e) A)).bind fun
            | .fr ⟨.normal, T, A'⟩ | .fr ⟨.ret, T, A'⟩ => match resultsV E T A' fn.results.toList with
              | some l => .ret (.res (oneOrTuple l) A')
              | none => .fail "results"
            | _ => .fail "exit") (.fail "arguments")
        | none => .fail "body"
      | none => .fail "function"
  | .code n c T A =>
    match c with
    | .skip => .ret (.fr ⟨.normal, T, A⟩)
    | .ret => .ret (.fr ⟨.ret, T, A⟩)
    | .exit id => .ret (.fr ⟨.exit id, T, A⟩)
    | .label _ => .ret (.fr ⟨.normal, T, A⟩)
    | .seq a b => (ih (.code n a T A)).bind fun
      | .fr ⟨.normal, T', A'⟩ => ih (.code n b T' A')
      | o => .ret o
    | .cond x a b => match ev T x with
      | some (.bool t) => cond t (ih (.code n a T A)) (ih (.code n b T A))
      | _ => .fail "cond"
    | .block id b => (ih (.code n b T A)).bind fun
      | .fr ⟨.exit id', T', A'⟩ => .ret (.fr ⟨cond (Nat.beq id' id) .normal (.exit id'), T', A'⟩)
      | o => .ret o
    | .loop b => (ih (.code n b T A)).bind fun
      | .fr ⟨.normal, T', A'⟩ => ih (.code n (.loop b) T' A')
      | o => .ret o
    | .scope b => ih (.code n b T A)
    | .region _ ops false => (opsRun E (callBy ih) n ops ops.toList T A).bind fun r => .ret (.fr ⟨.normal, r.1, r.2⟩)
    | .region _ ops true => (drawRun E (callBy ih) n ops T A).bind fun r => .ret (.fr ⟨.normal, r.1, r.2⟩)
    | _ => .fail "code"

def run (fuel : Nat) : Job → Nd Out :=
  Nat.rec (fun _ => .fail "fuel") (fun _ ih j => stepJob E ih j) fuel

end Go.AE
