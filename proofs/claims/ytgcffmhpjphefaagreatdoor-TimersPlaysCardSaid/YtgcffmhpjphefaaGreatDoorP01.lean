/- An evaluator over the model with virtual block numbers: definitions. -/
import Derived.Orders
import Derived.Laws.Sem
import Derived.Laws.World
import Derived.Laws.Cells
import Derived.Below
import Derived.Laws.IdiomCopy
import Derived.Laws.Entries
import Derived.Laws.BytesString
import Derived.Laws.Strings
set_option linter.unusedSimpArgs false
set_option linter.unusedVariables false
set_option linter.unusedSectionVars false
namespace Go.AE
open Go

inductive Tr (α:Type) where
 | e
 | n (l:Tr α) (v:Option α) (r:Tr α)

inductive Ps where
 | one
 | b0 (p:Ps)
 | b1 (p:Ps)

noncomputable def toPosF(f:Nat):Nat→Ps:=
 Nat.rec (motive:=fun _=>Nat→Ps) (fun _=>.one) (fun _ ih k=>Bool.rec (motive:=fun _=>Ps) (Bool.rec (motive:=fun _=>Ps) (.b0 (ih (Nat.sub (Nat.div k 2) 1))) (.b1 (ih (Nat.div k 2))) (Nat.beq (Nat.mod k 2) 1)) .one (Nat.beq k 0)) f
noncomputable def toPos(k:Nat):Ps:=toPosF (k+1) k

noncomputable def getP{α:Type}(t:Tr α):Ps→Option α:=
 Tr.rec (motive:=fun _=>Ps→Option α) (fun _=>none) (fun _ v _ gl gr p=>Ps.rec (motive:=fun _=>Option α) v (fun q _=>gr q) (fun q _=>gl q) p) t

noncomputable def putP{α β:Type}(p:Ps)(x:Option α):Tr α→(Tr α→β)→β:=
 Ps.rec (motive:=fun _=>Tr α→(Tr α→β)→β)
  (fun t c=>Tr.rec (motive:=fun _=>β) (c (.n .e x .e)) (fun l _ r _ _=>c (.n l x r)) t)
  (fun _ ih t c=>Tr.rec (motive:=fun _=>β) (ih .e fun t'=>c (.n .e none t')) (fun l v r _ _=>ih r fun t'=>c (.n l v t')) t)
  (fun _ ih t c=>Tr.rec (motive:=fun _=>β) (ih .e fun t'=>c (.n t' none .e)) (fun l v r _ _=>ih l fun t'=>c (.n t' v r)) t) p

noncomputable def Tr.get{α:Type}(t:Tr α)(k:Nat):Option α:=getP t (toPos k)
noncomputable def Tr.put{α:Type}(t:Tr α)(k:Nat)(x:Option α):Tr α:=putP (toPos k) x t fun t=>t
noncomputable def Tr.putC{α β:Type}(t:Tr α)(k:Nat)(x:Option α)(c:Tr α→β):β:=putP (toPos k) x t c

theorem putP_eq{α:Type}(p:Ps)(x:Option α):∀ (β:Type) (t:Tr α) (c:Tr α→β),putP p x t c=c (putP p x t fun t=>t):=by
 induction p with
 | one=>intro β t c;cases t<;>rfl
 | b0 p ih=>
  intro β t c
  cases t with
  | e=>exact (ih β .e fun t'=>c (.n .e none t')).trans (congrArg c (ih (Tr α) .e fun t'=>.n .e none t').symm)
  | n l v r=>exact (ih β r fun t'=>c (.n l v t')).trans (congrArg c (ih (Tr α) r fun t'=>.n l v t').symm)
 | b1 p ih=>
  intro β t c
  cases t with
  | e=>exact (ih β .e fun t'=>c (.n t' none .e)).trans (congrArg c (ih (Tr α) .e fun t'=>.n t' none .e).symm)
  | n l v r=>exact (ih β l fun t'=>c (.n t' v r)).trans (congrArg c (ih (Tr α) l fun t'=>.n t' v r).symm)

theorem Tr.putC_eq{α β:Type}(t:Tr α)(k:Nat)(x:Option α)(c:Tr α→β):t.putC k x c=c (t.put k x):=putP_eq _ _ _ _ _

noncomputable def fN{β:Type}(m:Nat)(k:Nat→β):β:=Nat.rec (motive:=fun _=>β) (k 0) (fun n _=>k (Nat.succ n)) m
theorem fN_eq{β:Type}(m:Nat)(k:Nat→β):fN m k=k m:=by cases m<;>rfl

noncomputable def unk:Nat:=2 ^ 70

noncomputable abbrev zslice:Value:=.slice (some ⟨0,0,some 0⟩) 0 unk

inductive AObj where
 /-- cells, the cells of an element, and whether what lies behind them in the row is ours -/
 | row (c:List Value) (sz:Nat) (tail:Bool)
 | map (es:List MapEntry) (clock:Nat)
 | miter (m:Option Nat) (since:Nat) (seen:List Nat) (stepped:Nat)
 | siter (s:ByteArray) (pos:Nat)
 /-- the record of a range over a function: slots, their number, yield's slots, its two codes, how it stands, what is left to do -/
 | loop (n:Nat) (T:Tr Value) (ps:Array Tmp) (assign body:Code) (st:LoopState) (jump:Option Code)

structure ASt where
 heap:Tr AObj
 next:Nat

noncomputable def ASt.get(A:ASt)(b:Nat):Option AObj:=A.heap.get b
noncomputable def ASt.set(A:ASt)(b:Nat)(o:AObj):ASt:={ A with heap:=A.heap.put b (some o) }
noncomputable def ASt.newN(A:ASt)(id:Nat)(o:AObj):ASt:={ heap:=A.heap.put id (some o),next:=id+1 }
noncomputable def ASt.new(A:ASt)(o:AObj):ASt:={ heap:=A.heap.put A.next (some o),next:=A.next+1 }

noncomputable def ASt.newAt(A:ASt)(id:Nat)(o:AObj):ASt:={ heap:=A.heap.put id (some o),next:=Nat.max A.next (id+1) }

inductive Nd (α:Type) where
 | ret (a:α)
 | ask (n:Nat) (k:Nat→Nd α)
 | fail (why:String)
 | pick (p:Value×ASt→Prop) (k:Value×ASt→Nd α)

def Nd.bind{α β:Type}:Nd α→(α→Nd β)→Nd β
 | .ret a,f=>f a
 | .ask n k,f=>.ask n fun i=>(k i).bind f
 | .fail s,_=>.fail s
 | .pick p k,f=>.pick p fun r=>(k r).bind f

def Nd.all{α:Type}(q:α→Prop):Nd α→Prop
 | .ret a=>q a
 | .ask n k=>∀ i,i<n→(k i).all q
 | .fail _=>False
 | .pick p k=>∀ r,p r→(k r).all q

structure TIn where
 desc:TypeDesc
 size:Nat
 bytes:Nat
 zero:Option Value
 methods:Array Method
 named:Option TypeDesc

structure Env where
 ti:TypeId→Option TIn
 fn:FuncId→Option Func
 /-- functions without a Go body, of values without blocks -/
 ext:FuncId→Option (List Value→Option Value)
 /-- calls that are not gone through: how many answers there may be, and which -/
 hook:FuncId→List Value→ASt→Option (Nd (Value×ASt))
 /-- operations on two values without blocks, as the model does them -/
 bin:BinOp→TypeId→Operand→Operand→Value→Value→Option Value
 /-- rows that are read alone, and are nobody's -/
 ro:Nat→Option (List Value)

noncomputable def notYield:Fn→Bool
 | .yield _=>false
 | _=>true

noncomputable def flat:Value→Bool
 | .bool _ | .int _ _ | .float _ _ | .complex _ _ _ | .string _ | .pointer none | .slice none _ _ | .map none | .chan none | .nilFunc | .nilIface=>true
 | .func fn f c=>notYield fn && (f.isEmpty && c.isEmpty)
 | .iface _ v=>match v with
  | .bool _ | .int _ _ | .float _ _ | .complex _ _ _ | .string _ | .pointer none | .slice none _ _ | .map none | .chan none | .nilFunc | .nilIface=>true
  | _=>false
 | _=>false
noncomputable def flats:List Value→Bool
 | []=>true
 | v::l=>flat v && flats l
noncomputable def closed:Value→Bool
 | .agg c=>flats c.toList
 | .tuple c=>flats c.toList
 | v=>flat v

noncomputable def single:Value→Bool
 | .agg _ | .tuple _=>false
 | _=>true
noncomputable def singles:List Value→Bool
 | []=>true
 | v::l=>single v && singles l

noncomputable def nth{α:Type}:List α→Nat→Option α
 | [],_=>none
 | a::_,0=>some a
 | _::l,k+1=>nth l k

noncomputable def cut{α:Type}(l:List α)(i n:Nat):Option (List α):=
 let r:=(l.drop i).take n
 cond (Nat.beq r.length n) (some r) none

noncomputable def over{α:Type}(l:List α)(i:Nat)(vs:List α):Option (List α):=
 cond (Nat.ble (i+vs.length) l.length) (some (l.take i++(vs++l.drop (i+vs.length)))) none

noncomputable def isAggD:TypeDesc→Bool
 | .struct _ | .array _ _=>true
 | _=>false

abbrev Tmps:=Tr Value

noncomputable def tget(T:Tmps)(t:Nat):Value:=match T.get t with | some v=>v | none=>undef

noncomputable def ev(T:Tmps):Operand→Option Value
 | .tmp t=>some (tget T t)
 | .const v=>cond (closed v) (some v) none
 | .global _=>none
 | .func f=>some (.func (.func f) #[] #[])

noncomputable def evs(T:Tmps):List Operand→Option (List Value)
 | []=>some []
 | x::l=>match ev T x with
  | some v=>match evs T l with
   | some vs=>some (v::vs)
   | none=>none
  | none=>none

noncomputable def evPairs(T:Tmps):List (Nat×Operand)→Option (List (Nat×Value))
 | []=>some []
 | (i,x)::l=>match ev T x with
  | some v=>match evPairs T l with
   | some vs=>some ((i,v)::vs)
   | none=>none
  | none=>none

inductive Tgt where
 | fn (f:FuncId)
 | round (l:Nat)

inductive AR where
 | val (v:Value) (A:ASt)
 | enter (t:Tgt) (args:List Value) (A:ASt)
 | bad (why:String)

noncomputable def AR.plain:AR→AR
 | .enter _ _ _=>.bad "plain"
 | r=>r

noncomputable def ofVal(o:Option Value)(A:ASt)(why:String):AR:=match o with | some v=>.val v A | none=>.bad why

variable (E:Env)

noncomputable def partV(t:TypeId)(cs:List Value)(off:Nat):Option Value:=
 match E.ti t with
 | some i=>cond (isAggD i.desc) (match cut cs off i.size with | some r=>some (.agg r.toArray) | none=>none) (nth cs off)
 | none=>none

noncomputable def aLoad(t:TypeId)(a:Value)(A:ASt):Option Value:=
 match a with
 | .pointer (some ⟨b,off,none⟩)=>
  match A.get b with
  | some (.row c _ _)=>partV E t c off
  | none=>match E.ro b with
   | some c=>partV E t c off
   | none=>none
  | _=>none
 | _=>none

noncomputable def aStore(t:TypeId)(a v:Value)(A:ASt):Option ASt:=
 match a with
 | .pointer (some ⟨b,off,none⟩)=>
  match A.get b,E.ti t with
  | some (.row c sz tail),some i=>
   let vs:=v.cells.toList
   cond (Nat.beq vs.length i.size && singles vs)
    (match over c off vs with
     | some c'=>some (A.set b (.row c' sz tail))
     | none=>none) none
  | _,_=>none
 | _=>none

abbrev Fresh:=AObj×(Nat→Value)

noncomputable def ptrTo(id:Nat):Value:=.pointer (some ⟨id,0,none⟩)

noncomputable def aAlloc(t:TypeId):Option Fresh:=
 match E.ti t with
 | some i=>match i.zero with
  | some z=>cond (closed z) (some (.row z.cells.toList i.size false,ptrTo)) none
  | none=>none
 | none=>none

noncomputable def aBox(t:TypeId)(v:Value):Option Fresh:=
 match E.ti t with
 | some i=>some (.row v.cells.toList i.size false,ptrTo)
 | none=>none

noncomputable def places:List Field→Option (List (Nat×Nat))
 | []=>some []
 | f::l=>match E.ti f.type with
  | some i=>match places l with
   | some r=>some ((f.offset,i.size)::r)
   | none=>none
  | none=>none

noncomputable def fillV(place:Nat→Option (Nat×Nat))(cells:List Value):List (Nat×Value)→Option (List Value)
 | []=>some cells
 | (i,v)::rest=>
  match place i with
  | none=>none
  | some (off,size)=>
   let vs:=v.cells.toList
   cond (Nat.beq vs.length size) (match over cells off vs with
    | some c=>fillV place c rest
    | none=>none) none

noncomputable def aBuild(t:TypeId)(parts:List (Nat×Value)):Option Value:=
 match E.ti t with
 | some i=>
  match i.zero with
  | some z=>
   cond (closed z) (match i.desc with
    | .struct fields=>match places E fields.toList with
     | some ps=>match fillV (nth ps) z.cells.toList parts with
      | some cs=>some (.agg cs.toArray)
      | none=>none
     | none=>none
    | .array _ elem=>match E.ti elem with
     | some j=>match fillV (fun k=>some (k*j.size,j.size)) z.cells.toList parts with
      | some cs=>some (.agg cs.toArray)
      | none=>none
     | none=>none
    | _=>none) none
  | none=>none
 | none=>none

noncomputable def reps{α:Type}(l:List α):Nat→List α
 | 0=>[]
 | n+1=>l++reps l n

noncomputable def aBuildSlice(t:TypeId)(len:Nat)(parts:List (Nat×Value)):Option Fresh:=
 match E.ti t with
 | some i=>
  match i.desc with
  | .slice elem=>
   match E.ti elem with
   | some j=>
    match j.zero with
    | some z=>
     cond (closed z && (Nat.beq z.cells.toList.length j.size && (Nat.ble (len*j.size) 16777216 && Nat.blt len 1000000000))) (match fillV (fun k=>some (k*j.size,j.size)) (reps z.cells.toList len) parts with
      | some cs=>some (.row cs j.size false,fun id=>.slice (some ⟨id,0,none⟩) len len)
      | none=>none) none
    | none=>none
   | none=>none
  | _=>none
 | none=>none

noncomputable def aNilCheck(v:Value):Option Value:=
 match v with
 | .pointer none | .nilIface | .nilFunc | .chan (some _)=>none
 | .func (.method _) _ _=>none
 | v=>some v

noncomputable def pureRun{α:Type}(P:Program):Sem α→Option α
 | .pure a=>some a
 | .program k=>pureRun P (k P)
 | .mark _ k=>pureRun P k
 | _=>none

noncomputable def eqV(t:TypeId)(x y:Value):Option Bool:=
 match E.ti t with
 | none=>none
 | some i=>
  match i.desc,x,y with
  | .bool,.bool a,.bool b=>some (a == b)
  | .pointer _,.pointer none,.pointer b=>some b.isNone
  | .pointer _,.pointer (some _),.pointer none=>some false
  | .slice _,.slice none _ _,.slice b _ _=>some b.isNone
  | .slice _,.slice (some _) _ _,.slice none _ _=>some false
  | .map _ _,.map none,.map b=>some b.isNone
  | .map _ _,.map (some _),.map none=>some false
  | .func _ _ _,.nilFunc,.nilFunc=>some true
  | .func _ _ _,.nilFunc,.func _ _ _=>some false
  | .func _ _ _,.func _ _ _,.nilFunc=>some false
  | .interface _,.nilIface,.iface _ _=>some false
  | .interface _,.iface _ _,.nilIface=>some false
  | _,_,_=>none

noncomputable def intOp(op:BinOp)(k:IntKind)(a b:Int):Option Value:=
 match op with
 | .add=>some (.int k (k.wrap (a+b)))
 | .sub=>some (.int k (k.wrap (a-b)))
 | .mul=>some (.int k (k.wrap (a*b)))
 | .quo=>cond (b == 0) none (some (.int k (k.wrap (a.tdiv b))))
 | .rem=>cond (b == 0) none (some (.int k (a.tmod b)))
 | .and=>some (.int k (k.wrap (BitVec.ofInt k.bits a &&& BitVec.ofInt k.bits b).toNat))
 | .or=>some (.int k (k.wrap (BitVec.ofInt k.bits a ||| BitVec.ofInt k.bits b).toNat))
 | .xor=>some (.int k (k.wrap (BitVec.ofInt k.bits a ^^^ BitVec.ofInt k.bits b).toNat))
 | .andNot=>some (.int k (k.wrap (BitVec.ofInt k.bits a &&& ~~~ BitVec.ofInt k.bits b).toNat))
 | .eql=>some (.bool (a == b))
 | .neq=>some (.bool (a != b))
 | .lss=>some (.bool (decide (a<b)))
 | .leq=>some (.bool (decide (a≤b)))
 | .gtr=>some (.bool (decide (a > b)))
 | .geq=>some (.bool (decide (a≥b)))
 | _=>none

noncomputable def shiftOp(op:BinOp)(k:IntKind)(x y:Int):Option Value:=
 match y with
 | .ofNat m=>
  match op with
  | .shl=>some (.int k (k.wrap (x*2 ^ (min m k.bits))))
  | .shr=>some (.int k (x.fdiv (2 ^ (min m k.bits))))
  | _=>none
 | _=>none

noncomputable def bytesEq:List UInt8→List UInt8→Bool
 | [],[]=>true
 | a::l,b::r=>cond (Nat.beq a.toNat b.toNat) (bytesEq l r) false
 | _,_=>false
noncomputable def bytesLt:List UInt8→List UInt8→Bool
 | _,[]=>false
 | [],_::_=>true
 | a::l,b::r=>cond (Nat.beq a.toNat b.toNat) (bytesLt l r) (Nat.blt a.toNat b.toNat)

noncomputable def strOp(op:BinOp)(x y:ByteArray):Option Value:=
 let l:=x.data.toList
 let r:=y.data.toList
 match op with
 | .add=>cond (Nat.ble (l.length+r.length) 9223372036854775807) (some (.string ⟨(l++r).toArray⟩)) none
 | .eql=>some (.bool (bytesEq l r))
 | .neq=>some (.bool (!bytesEq l r))
 | .lss=>some (.bool (bytesLt l r))
 | .leq=>some (.bool (!bytesLt r l))
 | .gtr=>some (.bool (bytesLt r l))
 | .geq=>some (.bool (!bytesLt l r))
 | _=>none

noncomputable def isConstOp:Operand→Bool
 | .const _=>true
 | _=>false

noncomputable def aBin(op:BinOp)(t:TypeId)(xo yo:Operand)(x y:Value):Option Value:=
 match x,y with
 | .int k a,.int k' b=>
  match op with
  | .shl | .shr=>shiftOp op k a b
  | _=>cond (Nat.beq k.ctorIdx k'.ctorIdx) (intOp op k a b) none
 | .string a,.string b=>strOp op a b
 | .nilIface,.nilIface=>
  match E.ti t with
  | some i=>match i.desc with
   | .interface _=>cond (isConstOp xo || isConstOp yo) (match op with
    | .eql=>some (.bool true)
    | .neq=>some (.bool false)
    | _=>none) none
   | _=>none
  | none=>none
 | _,_=>
  match op with
  | .eql=>match eqV E t x y with | some b=>some (.bool b) | none=>none
  | .neq=>match eqV E t x y with | some b=>some (.bool (!b)) | none=>none
  | _=>none

noncomputable def aBin2(op:BinOp)(t:TypeId)(xo yo:Operand)(x y:Value):Option Value:=
 match aBin E op t xo yo x y with
 | some r=>some r
 | none=>cond (closed x && closed y) (match E.bin op t xo yo x y with
  | some r=>cond (flat r) (some r) none
  | none=>none) none

noncomputable def aUn(op:UnOp)(x:Value):Option Value:=
 match op,x with
 | .neg,.int k n=>some (.int k (k.wrap (0-n)))
 | .xor,.int k n=>intOp .xor k (if k.signed then -1 else k.max) n
 | .not,.bool b=>some (.bool (!b))
 | _,_=>none

noncomputable def cellBytes:List Value→Option (List UInt8)
 | []=>some []
 | .int .u8 n::l=>match cellBytes l with
  | some r=>some (UInt8.ofNat n.toNat::r)
  | none=>none
 | _=>none

noncomputable def byteCells(l:List UInt8):List Value:=l.map fun b=>.int .u8 b.toNat

noncomputable def aBytesOf(src dst:TypeId)(x:Value):Option Fresh:=
 match E.ti src,E.ti dst with
 | some _,some j=>
  match j.desc,x with
  | .slice e,.string s=>
   match E.ti e with
   | some u=>match u.desc with
    | .int .u8=>some (.row (byteCells s.data.toList) 1 true,fun id=>.slice (some ⟨id,0,none⟩) s.data.toList.length unk)
    | _=>none
   | none=>none
  | _,_=>none
 | _,_=>none

noncomputable def aConvert(src dst:TypeId)(x:Value)(A:ASt):Option Value:=
 match E.ti src,E.ti dst with
 | some i,some j=>
  match j.desc,x with
  | .int k,.int _ n=>some (.int k (k.wrap n))
  | .string,.string _=>some x
  | .string,.int _ n=>some (.string (Utf8.encode n))
  | .string,.slice none _ _=>
   match i.desc with
   | .slice e=>match E.ti e with
    | some u=>match u.desc with
     | .int .u8=>some (.string .empty)
     | _=>none
    | none=>none
   | _=>none
  | .string,.slice (some ⟨b,off,none⟩) len _=>
   match i.desc with
   | .slice e=>match E.ti e with
    | some u=>match u.desc,A.get b with
     | .int .u8,some (.row c _ _)=>match cut c off len with
      | some r=>match cellBytes r with
       | some bs=>some (.string ⟨bs.toArray⟩)
       | none=>none
      | none=>none
     | _,_=>none
    | none=>none
   | _=>none
  | _,_=>none
 | _,_=>none

noncomputable def aMakeIface(t:TypeId)(x:Value):Option Value:=
 match E.ti t with
 | some i=>match i.desc with
  | .interface _=>none
  | _=>some (.iface t x)
 | none=>none

noncomputable def aMakeSlice(t:TypeId)(l c:Value):Option Fresh:=
 match E.ti t with
 | some i=>
  match i.desc with
  | .slice e=>
   match E.ti e,l,c with
   | some j,.int _ (.ofNat ln),.int _ (.ofNat cn)=>
    match j.zero with
    | some z=>
     cond (closed z && (Nat.beq z.cells.toList.length j.size && (Nat.ble ln cn && (Nat.ble (j.bytes*cn) 1000000000 && Nat.ble cn 1000000000))))
      (some (.row (reps z.cells.toList cn) j.size false,fun id=>.slice (some ⟨id,0,none⟩) ln cn)) none
    | none=>none
   | _,_,_=>none
  | _=>none
 | none=>none

noncomputable def natOf:Value→Option Nat
 | .int _ (.ofNat n)=>some n
 | _=>none

noncomputable def boundOr(x:Option Value)(d:Nat):Option Nat:=
 match x with
 | none=>some d
 | some v=>natOf v

noncomputable def aSlice(t:TypeId)(x:Value)(lo hi mx:Option Value)(A:ASt):Option Value:=
 match E.ti t with
 | none=>none
 | some i=>
  match i.desc,x,mx with
  | .string,.string s,none=>
   let l:=s.data.toList
   match boundOr hi l.length with
   | some h=>match boundOr lo 0 with
    | some a=>cond (Nat.ble a h && Nat.ble h l.length) (some (.string ⟨((l.drop a).take (h-a)).toArray⟩)) none
    | none=>none
   | none=>none
  | .slice e,.slice none len cap,_=>
   match E.ti e with
   | some _=>match boundOr mx cap with
    | some m=>match boundOr hi len with
     | some h=>match boundOr lo 0 with
      | some a=>cond ((Nat.beq a 0 && (Nat.beq h 0 && (Nat.beq cap 0 && Nat.beq len 0))) && (Nat.beq m 0 && (mx.isNone || hi.isSome))) (some x) none
      | none=>none
     | none=>none
    | none=>none
   | none=>none
  | .slice e,.slice (some ⟨b,off,none⟩) len cap,_=>
   match E.ti e,A.get b with
   | some j,some (.row c sz _)=>
    match boundOr mx cap with
    | some m=>match boundOr hi len with
     | some h=>match boundOr lo 0 with
      | some a=>
       cond (Nat.ble a h && (Nat.ble (off+h*j.size) c.length && (Nat.beq sz j.size && Nat.blt 0 sz)))
        (cond (Nat.blt m unk)
         (cond (Nat.ble h m && ((mx.isNone || (hi.isSome && (Nat.blt cap unk && Nat.ble m cap || Nat.beq cap unk && Nat.ble (off+m*j.size) c.length))) && (Nat.blt a m || Nat.beq a 0)))
          (some (.slice (some ⟨b,off+a*j.size,none⟩) (h-a) (m-a))) none)
         -- to the end of the row
         (cond (mx.isNone && (Nat.beq cap unk && (Nat.beq a 0 || Nat.blt (off+a*j.size) c.length)))
          (some (.slice (some ⟨b,off+a*j.size,none⟩) (h-a) unk)) (cond (mx.isNone && (Nat.beq cap unk && Nat.beq a h)) (some zslice) none))) none
      | none=>none
     | none=>none
    | none=>none
   -- a row that is read alone
   | some j,none=>
    match boundOr mx cap with
    | some m=>match boundOr hi len with
     | some h=>match boundOr lo 0 with
      | some a=>cond (mx.isNone && (Nat.ble a h && (Nat.ble h m && (Nat.blt m unk && (Nat.blt a m || Nat.beq a 0))))) (some (.slice (some ⟨b,off+a*j.size,none⟩) (h-a) (m-a))) none
      | none=>none
     | none=>none
    | none=>none
   | _,_=>none
  -- nothing of nothing
  | .slice e,.slice (some ⟨_,_,some _⟩) len _,none=>
   match E.ti e with
   | some _=>match boundOr hi len with
    | some h=>match boundOr lo 0 with
     | some a=>cond (Nat.beq len 0 && (Nat.beq h 0 && Nat.beq a 0)) (some zslice) none
     | none=>none
    | none=>none
   | none=>none
  | .array n e,.pointer (some ⟨b,off,none⟩),none=>
   match E.ti e with
   | some j=>
    match boundOr hi n with
    | some h=>match boundOr lo 0 with
     | some a=>cond (Nat.ble a h && (Nat.ble h n && (Nat.blt n unk && (Nat.blt a n || Nat.beq a 0)))) (some (.slice (some ⟨b,off+a*j.size,none⟩) (h-a) (n-a))) none
     | none=>none
    | none=>none
   | none=>none
  | _,_,_=>none

noncomputable def aFieldAddr(s:TypeId)(x:Value)(f:Nat):Option Value:=
 match E.ti s,x with
 | some i,.pointer (some ⟨b,off,none⟩)=>
  match i.desc with
  | .struct fields=>match nth fields.toList f with
   | some fd=>match E.ti fd.type with
    | some j=>cond (Nat.beq j.size 0) none (some (.pointer (some ⟨b,off+fd.offset,none⟩)))
    | none=>none
   | none=>none
  | _=>none
 | _,_=>none

noncomputable def aField(s:TypeId)(x:Value)(f:Nat):Option Value:=
 match E.ti s,x with
 | some i,.agg cs=>
  match i.desc with
  | .struct fields=>match nth fields.toList f with
   | some fd=>partV E fd.type cs.toList fd.offset
   | none=>none
  | _=>none
 | _,_=>none

noncomputable def aIndexAddr(t:TypeId)(x ix:Value):Option Value:=
 match E.ti t,ix with
 | some i,.int _ (.ofNat k)=>
  match i.desc,x with
  | .array len e,.pointer (some ⟨b,off,none⟩)=>match E.ti e with
   | some j=>cond (Nat.blt k len) (some (.pointer (some ⟨b,off+k*j.size,none⟩))) none
   | none=>none
  | .slice e,.slice (some ⟨b,off,none⟩) len _=>match E.ti e with
   | some j=>cond (Nat.blt k len) (some (.pointer (some ⟨b,off+k*j.size,none⟩))) none
   | none=>none
  | _,_=>none
 | _,_=>none

noncomputable def aIndex(t:TypeId)(x ix:Value):Option Value:=
 match E.ti t,ix with
 | some i,.int _ (.ofNat k)=>
  match i.desc,x with
  | .array len e,.agg cs=>match E.ti e with
   | some j=>cond (Nat.blt k len) (partV E e cs.toList (k*j.size)) none
   | none=>none
  | .string,.string s=>match nth s.data.toList k with
   | some b=>some (.int .u8 b.toNat)
   | none=>none
  | _,_=>none
 | _,_=>none

noncomputable def plainKey:TypeDesc→Value→Bool
 | .int _,.int _ _=>true
 | .string,.string _=>true
 | .bool,.bool _=>true
 | _,_=>false

noncomputable def sameKey:Value→Value→Option Bool
 | .int k a,.int k' b=>cond (Nat.beq k.ctorIdx k'.ctorIdx) (some (a == b)) none
 | .string a,.string b=>some (bytesEq a.data.toList b.data.toList)
 | .bool a,.bool b=>some (a == b)
 | _,_=>none

noncomputable def findE(k:Value):List MapEntry→Nat→Option (Option (Nat×Value))
 | [],_=>some none
 | e::es,i=>
  match sameKey k e.key with
  | some true=>some (some (i,e.val))
  | some false=>findE k es (i+1)
  | none=>none

noncomputable def aLookup(t:TypeId)(x k:Value)(ok:Bool)(A:ASt):Option Value:=
 match E.ti t with
 | none=>none
 | some i=>
  match i.desc with
  | .map kt et=>
   match E.ti kt,E.ti et with
   | some ki,some ei=>
    cond (plainKey ki.desc k)
     (match (match x with
       | .map none=>some []
       | .map (some r)=>match A.get r with
        | some (.map es _)=>some es
        | _=>none
       | _=>none) with
      | none=>none
      | some es=>
       match findE k es 0 with
       | some (some (_,v))=>some (if ok then .tuple #[v,.bool true] else v)
       | some none=>match ei.zero with
        | some z=>cond (closed z) (some (if ok then .tuple #[z,.bool false] else z)) none
        | none=>none
       | none=>none) none
   | _,_=>none
  | _=>none

noncomputable def setVal:List MapEntry→Nat→Value→Value→List MapEntry
 | [],_,_,_=>[]
 | e::es,0,k,v=>{ e with key:=k,val:=v }::es
 | e::es,i+1,k,v=>e::setVal es i k v

noncomputable def aMapUpdate(t:TypeId)(m k v:Value)(A:ASt):Option ASt:=
 match E.ti t,m with
 | some i,.map (some r)=>
  match i.desc with
  | .map kt _=>
   match E.ti kt,A.get r with
   | some ki,some (.map es clock)=>
    cond (plainKey ki.desc k)
     (match findE k es 0 with
      | some (some (j,_))=>some (A.set r (.map (setVal es j k v) clock))
      | some none=>some (A.set r (.map (es++[{ key:=k,val:=v,born:=clock }]) (clock+1)))
      | none=>none) none
   | _,_=>none
  | _=>none
 | _,_=>none

noncomputable def aMapEntry(t:TypeId)(m k:Value)(A:ASt):AR:=
 match E.ti t,m with
 | some i,.map (some r)=>
  match i.desc with
  | .map kt et=>
   match E.ti kt,E.ti et,A.get r with
   | some ki,some ei,some (.map es clock)=>
    cond (plainKey ki.desc k)
     (match findE k es 0 with
      | some (some (j,v))=>match nth es j with
        | some e=>.val (.tuple #[v,goInt e.born]) A
        | none=>.bad "mapEntry"
      | some none=>match ei.zero with
        | some z=>cond (closed z) (.val (.tuple #[z,goInt clock]) (A.set r (.map (es++[{ key:=k,val:=z,born:=clock }]) (clock+1)))) (.bad "mapEntry: zero")
        | none=>.bad "mapEntry: zero"
      | none=>.bad "mapEntry: key") (.bad "mapEntry: key")
   | _,_,_=>.bad "mapEntry"
  | _=>.bad "mapEntry"
 | _,_=>.bad "mapEntry"

noncomputable def setBorn(n:Nat)(v:Value):List MapEntry→Option (List MapEntry)
 | []=>none
 | e::es=>cond (Nat.beq e.born n) (some ({ e with val:=v }::es)) (match setBorn n v es with
  | some r=>some (e::r)
  | none=>none)

noncomputable def aEntryStore(m s v:Value)(A:ASt):Option ASt:=
 match m,s with
 | .map (some r),.int _ (.ofNat n)=>
  match A.get r with
  | some (.map es clock)=>match setBorn n v es with
   | some es'=>some (A.set r (.map es' clock))
   | none=>none
  | _=>none
 | _,_=>none

noncomputable def aRange(t:TypeId)(x:Value)(A:ASt):AR:=
 match E.ti t with
 | none=>.bad "range"
 | some i=>
  match i.desc,x with
  | .string,.string s=>fN A.next fun id=>.val (.pointer (some ⟨id,0,none⟩)) (A.newN id (.siter s 0))
  | .map _ _,.map none=>fN A.next fun id=>.val (.pointer (some ⟨id,0,none⟩)) (A.newN id (.miter none 0 [] 0))
  | .map _ _,.map (some m)=>match A.get m with
   | some (.map _ clock)=>fN A.next fun id=>.val (.pointer (some ⟨id,0,none⟩)) (A.newN id (.miter (some m) clock [] clock))
   | _=>.bad "range: map"
  | _,_=>.bad "range"

noncomputable def entriesLeft(seen:List Nat)(es:List MapEntry):List MapEntry:=es.filter fun e=>!seen.contains e.born

noncomputable def aNext(it:Value)(isString:Bool)(A:ASt):Nd (Value×ASt):=
 match it with
 | .pointer (some ⟨r,0,none⟩)=>
  match A.get r,isString with
  | some (.siter s pos),true=>
   cond (Nat.blt pos s.size)
    (.ret (.tuple #[.bool true,goInt pos,.int .i32 (Utf8.decode s pos).1],A.set r (.siter s (pos+(Utf8.decode s pos).2))))
    (.ret (.tuple #[.bool false],A))
  | some (.miter none _ _ _),false=>.ret (.tuple #[.bool false],A)
  | some (.miter (some m) since seen last),false=>
   match A.get m with
   | some (.map es clock)=>
    let left:=entriesLeft seen es
    cond (Nat.beq clock last && Nat.beq since last)
     -- nothing was put in since: all that is left was there at the beginning
     (match left with
      | []=>cond (seen.isEmpty || (es.isEmpty || !(es.all (·.born≥last)))) (.ret (.tuple #[.bool false],A)) (.fail "next: gone")
      | [e]=>cond (e.born<since && (seen.isEmpty || !(es.all (·.born≥last)))) (.ret (.tuple #[.bool true,e.key,e.val],A.set r (.miter (some m) since (seen++[e.born]) clock))) (.fail "next: young")
      | _=>cond (left.all (·.born<since) && (seen.isEmpty || !(es.all (·.born≥last))))
        (.ask left.length fun i=>match nth left i with
          | some e=>.ret (.tuple #[.bool true,e.key,e.val],A.set r (.miter (some m) since (seen++[e.born]) clock))
          | none=>.fail "next: no such") (.fail "next: young"))
     (.fail "next: clock")
   | _=>.fail "next: map"
  | _,_=>.fail "next: kind"
 | _=>.fail "next: iterator"

noncomputable def lastOf:List Nat→Option Nat
 | []=>none
 | [a]=>some a
 | _::l=>lastOf l

noncomputable def findBorn(n:Nat):List MapEntry→Option MapEntry
 | []=>none
 | e::es=>cond (Nat.beq e.born n) (some e) (findBorn n es)

noncomputable def aEntry(it:Value)(A:ASt):Option Value:=
 match it with
 | .pointer (some ⟨r,0,none⟩)=>
  match A.get r with
  | some (.miter (some m) _ seen stepped)=>
   match lastOf seen,A.get m with
   | some stamp,some (.map es clock)=>
    cond (Nat.beq clock stepped) (match findBorn stamp es with
     | some e=>some (.tuple #[e.key,e.val])
     | none=>none) none
   | _,_=>none
  | _=>none
 | _=>none

noncomputable def aExtract(v:Value)(i:Nat):Option Value:=
 match v with
 | .tuple vs=>nth vs.toList i
 | _=>none

noncomputable def aTypeAssert(x:Value)(t:TypeId)(ok:Bool):Option Value:=
 match E.ti t with
 | none=>none
 | some i=>
  match i.desc,x with
  | .interface want,.iface u _=>
   match E.ti u with
   | some j=>match Instr.missingMethod want j.methods with
    | none=>some (if ok then .tuple #[x,.bool true] else x)
    | some _=>cond ok (match i.zero with
     | some z=>cond (closed z) (some (.tuple #[z,.bool false])) none
     | none=>none) none
   | none=>none
  | .interface _,_=>none
  | _,.iface u v=>cond (Nat.beq u t) (some (if ok then .tuple #[v,.bool true] else v))
    (cond ok (match i.zero with
     | some z=>cond (closed z) (some (.tuple #[z,.bool false])) none
     | none=>none) none)
  | _,_=>none

noncomputable def srcCells(sz:Nat)(x:Value)(n:Nat)(A:ASt):Option (List Value):=
 match x with
 | .slice none _ _=>some []
 | .slice (some ⟨b,off,none⟩) _ _=>match A.get b with
  | some (.row c _ _)=>cut c off (n*sz)
  | none=>match E.ro b with
   | some c=>cut c off (n*sz)
   | none=>none
  | _=>none
 | .slice (some ⟨_,_,some _⟩) 0 _=>cond (Nat.beq n 0) (some []) none
 | .string s=>some (byteCells (s.data.toList.take n))
 | _=>none

noncomputable def lenV:Value→Option Nat
 | .slice _ n _=>some n
 | .string s=>some s.data.toList.length
 | _=>none

noncomputable def grown(A:ASt)(cs:List Value)(sz need:Nat):AR:=
 fN A.next fun id=>.val (.slice (some ⟨id,0,none⟩) need unk) (A.newN id (.row cs sz true))

theorem grown_eq(A:ASt)(cs:List Value)(sz need:Nat):grown A cs sz need=.val (.slice (some ⟨A.next,0,none⟩) need unk) (A.new (.row cs sz true)):=fN_eq _ _

noncomputable def isIntD:TypeDesc→Bool
 | .int _=>true
 | _=>false

noncomputable def appendTo(sz:Nat)(base:Option Addr)(len cap n:Nat)(new:List Value)(A:ASt):AR:=
 match base with
 | none=>cond (Nat.beq cap 0 && Nat.beq len 0) (cond (Nat.beq n 0) (.val (.slice none 0 0) A) (grown A new sz n)) (.bad "append: nil")
 | some ⟨b,off,none⟩=>
  match A.get b with
  | some (.row c z tail)=>
   cond (Nat.beq z sz && Nat.ble (off+len*sz) c.length)
    (cond (Nat.beq cap unk)
     (cond (Nat.ble (off+(len+n)*sz) c.length)
      -- it fits, over cells that are there
      (match over c (off+len*sz) new with
       | some c'=>.val (.slice (some ⟨b,off,none⟩) (len+n) unk) (A.set b (.row c' z tail))
       | none=>.bad "append: over")
      -- at the end of what is known: it fits, or it grows
      (cond (tail && Nat.beq (off+len*sz) c.length)
       (grown (A.set b (.row (c.take off) z false)) (c.drop off++new) sz (len+n))
       (.bad "append: alias")))
     (cond (Nat.ble (len+n) cap)
      (match over c (off+len*sz) new with
       | some c'=>.val (.slice (some ⟨b,off,none⟩) (len+n) cap) (A.set b (.row c' z tail))
       | none=>.bad "append: over")
      (grown A ((c.drop off).take (len*sz)++new) sz (len+n))))
    (.bad "append: row")
  | _=>.bad "append: row"
 | _=>.bad "append: base"

noncomputable def aAppend(t:TypeId)(xt:TypeId)(s x:Value)(A:ASt):AR:=
 match E.ti t,E.ti xt with
 | some i,some xi=>
  match i.desc with
  | .slice e=>
   match E.ti e,s,lenV x with
   | some j,.slice base len cap,some n=>
    match j.zero,srcCells E j.size x n A with
    | some z,some new=>
     cond (!isIntD xi.desc && (Nat.blt 0 j.size && (Nat.blt ((len+n)*(j.bytes+1)) 1000000000 && (Nat.beq new.length (n*j.size) && (singles new && (closed z && Nat.beq z.cells.toList.length j.size))))))
      (appendTo j.size base len cap n new A) (.bad "append: sizes")
    | _,_=>.bad "append: source"
   | _,_,_=>.bad "append"
  | _=>.bad "append: type"
 | _,_=>.bad "append"

noncomputable def aLen(t:TypeId)(x:Value)(A:ASt):Option Value:=
 match E.ti t with
 | none=>none
 | some i=>
  match i.desc,x with
  | .string,.string s=>some (goInt s.data.toList.length)
  | .array n _,_=>some (goInt n)
  | .pointer arr,_=>match E.ti arr with
   | some j=>match j.desc with
    | .array n _=>some (goInt n)
    | _=>none
   | none=>none
  | .slice _,.slice _ n _=>some (goInt n)
  | .map _ _,.map none=>some (goInt 0)
  | .map _ _,.map (some r)=>match A.get r with
   | some (.map es _)=>some (goInt es.length)
   | _=>none
  | _,_=>none

noncomputable def aCap(t:TypeId)(x:Value):Option Value:=
 match E.ti t with
 | none=>none
 | some i=>
  match i.desc,x with
  | .array n _,_=>some (goInt n)
  | .slice _,.slice _ _ c=>cond (Nat.beq c unk) none (some (goInt c))
  | _,_=>none

noncomputable def aCopy(t:TypeId)(d s:Value)(A:ASt):AR:=
 match E.ti t with
 | none=>.bad "copy"
 | some i=>
  match i.desc with
  | .slice e=>
   match E.ti e,d,lenV s with
   | some j,.slice base dl _,some sl=>
    let n:=Nat.min sl dl
    match srcCells E j.size s n A with
    | none=>.bad "copy: source"
    | some cs=>
     match base with
     | none=>cond (Nat.beq n 0) (.val (goInt 0) A) (.bad "copy: nil")
     | some ⟨b,off,none⟩=>
      match A.get b with
      | some (.row c sz tail)=>match over c off cs with
       | some c'=>cond (singles cs) (.val (goInt n) (A.set b (.row c' sz tail))) (.bad "copy")
       | none=>.bad "copy: over"
      | _=>.bad "copy: row"
     | _=>.bad "copy"
   | _,_,_=>.bad "copy"
  | _=>.bad "copy"

noncomputable def eraseAt{α:Type}:List α→Nat→List α
 | [],_=>[]
 | _::l,0=>l
 | a::l,i+1=>a::eraseAt l i

noncomputable def aDelete(t:TypeId)(m k:Value)(A:ASt):AR:=
 match E.ti t with
 | none=>.bad "delete"
 | some i=>
  match i.desc with
  | .map kt _=>
   match E.ti kt with
   | some ki=>
    cond (plainKey ki.desc k)
     (match m with
      | .map none=>.val undef A
      | .map (some r)=>match A.get r with
        | some (.map es clock)=>match findE k es 0 with
          | some (some (j,_))=>.val undef (A.set r (.map (eraseAt es j) clock))
          | some none=>.val undef A
          | none=>.bad "delete: key"
        | _=>.bad "delete: map"
      | _=>.bad "delete") (.bad "delete: key")
   | none=>.bad "delete"
  | _=>.bad "delete"

noncomputable def aClear(x:Value)(A:ASt):AR:=
 match x with
 | .map none=>.val undef A
 | .map (some r)=>match A.get r with
  | some (.map _ clock)=>.val undef (A.set r (.map [] clock))
  | _=>.bad "clear"
 | _=>.bad "clear: slice"

noncomputable def aClear2(i:TIn)(x:Value)(A:ASt):AR:=
 match i.desc,x with
 | _,.slice none _ _=>.val undef A
 | .slice e,.slice (some ⟨b,off,none⟩) n _=>
  cond (Nat.beq n 0) (.val undef A)
   (match E.ti e,A.get b with
    | some j,some (.row c sz tail)=>match j.zero with
      | some z=>cond (closed z && singles (reps z.cells.toList n)) (match over c off (reps z.cells.toList n) with
        | some c'=>.val undef (A.set b (.row c' sz tail))
        | none=>.bad "clear: over") (.bad "clear: zero")
      | none=>.bad "clear: zero"
    | _,_=>.bad "clear: row")
 | _,x=>aClear x A

noncomputable def minMax.go(isMax:Bool)(k:IntKind)(x:Int):List Value→Option Value
 | []=>some (.int k x)
 | .int _ y::l=>minMax.go isMax k (cond isMax (if y > x then y else x) (if y<x then y else x)) l
 | _=>none

noncomputable def minMax(isMax:Bool):List Value→Option Value
 | .int k x::l=>minMax.go isMax k x l
 | _=>none

noncomputable def aBuiltin(b:Builtin)(argTypes:List TypeId)(args:List Value)(A:ASt):AR:=
 match b,argTypes,args with
 | .append,t::xt::_,[s,x]=>(aAppend E t xt s x A).plain
 | .len,t::_,[x]=>ofVal (aLen E t x A) A "len"
 | .cap,t::_,[x]=>ofVal (aCap E t x) A "cap"
 | .copy,t::_,[d,s]=>(aCopy E t d s A).plain
 | .delete,t::_,[m,k]=>(aDelete E t m k A).plain
 | .clear,t::_,[x]=>match E.ti t with
  | some i=>(aClear2 E i x A).plain
  | none=>.bad "clear"
 | .min,_,l=>ofVal (minMax false l) A "min"
 | .max,_,l=>ofVal (minMax true l) A "max"
 | _,_,_=>.bad "builtin"

noncomputable def findMethod(name:String):List Method→Option Method
 | []=>none
 | m::l=>if m.name == name then some m else findMethod name l

noncomputable def aMethod(t:TypeId)(v:Value)(name:String)(A:ASt):Option (FuncId×Value):=
 match E.ti t with
 | none=>none
 | some i=>
  match findMethod name i.methods.toList with
  | none=>none
  | some m=>
   cond m.path.isEmpty (match m.func with
    | some (f,ptr)=>
     match i.desc,ptr with
     | .pointer _,true=>some (f,v)
     | .pointer e,false=>match aLoad E e v A with
      | some r=>some (f,r)
      | none=>none
     | _,false=>some (f,v)
     | _,true=>none
    | none=>none) none

noncomputable def aEnter(f:FuncId)(args:List Value)(A:ASt):AR:=
 match E.fn f with
 | some _=>.enter (.fn f) args A
 | none=>match E.ext f with
  | some g=>cond (flats args) (match g args with
   | some v=>cond (closed v) (.val v A) (.bad "extern: value")
   | none=>.bad "extern") (.bad "extern: arguments")
  | none=>.bad "enter: no such function"

noncomputable def aInvoke(fn:Fn)(args captured:List Value)(A:ASt):AR:=
 match fn with
 | .func f=>aEnter E f (args++captured) A
 | .method name=>match args with
  | .iface t v::rest=>match aMethod E t v name A with
   | some (f,r)=>aEnter E f (r::rest) A
   | none=>.bad "method"
  | _=>.bad "method: receiver"
 | .methodOf t name=>match args with
  | v::rest=>match E.ti t with
   | some i=>match i.desc,v with
    | .interface _,.iface u x=>match aMethod E u x name A with
     | some (f,r)=>aEnter E f (r::rest) A
     | none=>.bad "methodOf"
    | .interface _,_=>.bad "methodOf"
    | _,_=>match aMethod E t v name A with
     | some (f,r)=>aEnter E f (r::rest) A
     | none=>.bad "methodOf"
   | none=>.bad "methodOf"
  | _=>.bad "methodOf"
 | .via ..=>.bad "via"
 | .yield l=>cond captured.isEmpty (.enter (.round l) args A) (.bad "yield")

noncomputable def aCall(T:Tmps)(c:Call)(A:ASt):AR:=
 match evs T c.args.toList with
 | none=>.bad "call: args"
 | some args=>
  match c.callee with
  | .builtin b=>aBuiltin E b c.argTypes.toList args A
  | .invoke r name=>match ev T r with
   | some v=>aInvoke E (.method name) (v::args) [] A
   | none=>.bad "invoke"
  | .value f=>match ev T f with
   | some (.func fn first captured)=>aInvoke E fn (first.toList++args) captured.toList A
   | _=>.bad "call: function value"

noncomputable def evOpt(T:Tmps):Option Operand→Option (Option Value)
 | none=>some none
 | some x=>match ev T x with
  | some v=>some (some v)
  | none=>none

noncomputable def freshOp(o:Op):Bool:=
 match o with
 | .alloc _ | .box _ _ | .buildSlice _ _ _ | .makeMap _ _ | .makeSlice _ _ _=>true
 | .convert s d _=>match E.ti s,E.ti d with
  | some i,some j=>match i.desc,j.desc with
   | .string,.slice _=>true
   | _,_=>false
  | _,_=>false
 | _=>false

noncomputable def aFresh(o:Op)(T:Tmps):Option Fresh:=
 match o with
 | .alloc t=>aAlloc E t
 | .box t x=>match ev T x with
  | some v=>aBox E t v
  | none=>none
 | .buildSlice t n ps=>match evPairs T ps.toList with
  | some l=>aBuildSlice E t n l
  | none=>none
 | .makeMap _ none=>some (.map [] 0,fun id=>.map (some id))
 | .makeSlice t l c=>match ev T l,ev T c with
  | some a,some b=>aMakeSlice E t a b
  | _,_=>none
 | .convert s d x=>match ev T x with
  | some v=>aBytesOf E s d v
  | none=>none
 | _=>none

noncomputable def aOpR(o:Op)(T:Tmps)(A:ASt):AR:=
 match o with
 | .move x | .assign x=>ofVal (ev T x) A "move"
 | .pick c a b=>match ev T c with
  | some (.bool t)=>ofVal (cond t (ev T a) (ev T b)) A "pick"
  | _=>.bad "pick"
 | .build t ps=>match evPairs T ps.toList with
  | some l=>ofVal (aBuild E t l) A "build"
  | none=>.bad "build"
 | .load t a=>match ev T a with
  | some v=>ofVal (aLoad E t v A) A "load"
  | none=>.bad "load"
 | .store t a x=>match ev T a,ev T x with
  | some p,some v=>match aStore E t p v A with
   | some A'=>.val undef A'
   | none=>.bad "store"
  | _,_=>.bad "store"
 | .nilCheck x=>match ev T x with
  | some v=>ofVal (aNilCheck v) A "nilCheck"
  | none=>.bad "nilCheck"
 | .binOp op t x y _=>match ev T x,ev T y with
  | some a,some b=>ofVal (aBin2 E op t x y a b) A "binOp"
  | _,_=>.bad "binOp"
 | .unOp op _ x=>match ev T x with
  | some v=>ofVal (aUn op v) A "unOp"
  | none=>.bad "unOp"
 | .convert s d x=>match ev T x with
  | some v=>ofVal (aConvert E s d v A) A "convert"
  | none=>.bad "convert"
 | .makeInterface t x=>match ev T x with
  | some v=>ofVal (aMakeIface E t v) A "makeInterface"
  | none=>.bad "makeInterface"
 | .makeFunc fn first captured=>match evs T first.toList,evs T captured.toList with
  | some l,some r=>cond (notYield fn) (.val (.func fn l.toArray r.toArray) A) (.bad "makeFunc")
  | _,_=>.bad "makeFunc"
 | .slice t x lo hi mx=>match ev T x,evOpt T lo,evOpt T hi,evOpt T mx with
  | some v,some a,some b,some c=>ofVal (aSlice E t v a b c A) A "slice"
  | _,_,_,_=>.bad "slice"
 | .fieldAddr s x f=>match ev T x with
  | some v=>ofVal (aFieldAddr E s v f) A "fieldAddr"
  | none=>.bad "fieldAddr"
 | .field s x f=>match ev T x with
  | some v=>ofVal (aField E s v f) A "field"
  | none=>.bad "field"
 | .indexAddr t x i=>match ev T x,ev T i with
  | some v,some k=>ofVal (aIndexAddr E t v k) A "indexAddr"
  | _,_=>.bad "indexAddr"
 | .index t x i=>match ev T x,ev T i with
  | some v,some k=>ofVal (aIndex E t v k) A "index"
  | _,_=>.bad "index"
 | .lookup t x k ok=>match ev T x,ev T k with
  | some v,some w=>ofVal (aLookup E t v w ok A) A "lookup"
  | _,_=>.bad "lookup"
 | .mapUpdate t m k x | .insert t m k x=>match ev T m,ev T k,ev T x with
  | some a,some b,some c=>match aMapUpdate E t a b c A with
   | some A'=>.val undef A'
   | none=>.bad "mapUpdate"
  | _,_,_=>.bad "mapUpdate"
 | .mapEntry t m k=>match ev T m,ev T k with
  | some a,some b=>(aMapEntry E t a b A).plain
  | _,_=>.bad "mapEntry"
 | .entryStore _ m s x=>match ev T m,ev T s,ev T x with
  | some a,some b,some c=>match aEntryStore a b c A with
   | some A'=>.val undef A'
   | none=>.bad "entryStore"
  | _,_,_=>.bad "entryStore"
 | .range t x=>match ev T x with
  | some v=>(aRange E t v A).plain
  | none=>.bad "range"
 | .entry it=>match ev T it with
  | some v=>ofVal (aEntry v A) A "entry"
  | none=>.bad "entry"
 | .typeAssert x _ t ok=>match ev T x with
  | some v=>ofVal (aTypeAssert E v t ok) A "typeAssert"
  | none=>.bad "typeAssert"
 | .extract t i=>match ev T t with
  | some v=>ofVal (aExtract v i) A "extract"
  | none=>.bad "extract"
 | .call c=>aCall E T c A
 | _=>.bad "op"

noncomputable def opD:Op→Env→Tmps→ASt→AR
 | .move x=>fun E T A=>ofVal (ev T x) A "move"
 | .assign x=>fun E T A=>ofVal (ev T x) A "move"
 | .pick c a b=>fun E T A=>match ev T c with
  | some (.bool t)=>ofVal (cond t (ev T a) (ev T b)) A "pick"
  | _=>.bad "pick"
 | .build t ps=>fun E T A=>match evPairs T ps.toList with
  | some l=>ofVal (aBuild E t l) A "build"
  | none=>.bad "build"
 | .load t a=>fun E T A=>match ev T a with
  | some v=>ofVal (aLoad E t v A) A "load"
  | none=>.bad "load"
 | .store t a x=>fun E T A=>match ev T a,ev T x with
  | some p,some v=>match aStore E t p v A with
   | some A'=>.val undef A'
   | none=>.bad "store"
  | _,_=>.bad "store"
 | .nilCheck x=>fun E T A=>match ev T x with
  | some v=>ofVal (aNilCheck v) A "nilCheck"
  | none=>.bad "nilCheck"
 | .binOp op t x y _=>fun E T A=>match ev T x,ev T y with
  | some a,some b=>ofVal (aBin2 E op t x y a b) A "binOp"
  | _,_=>.bad "binOp"
 | .unOp op _ x=>fun E T A=>match ev T x with
  | some v=>ofVal (aUn op v) A "unOp"
  | none=>.bad "unOp"
 | .convert s d x=>fun E T A=>match ev T x with
  | some v=>ofVal (aConvert E s d v A) A "convert"
  | none=>.bad "convert"
 | .makeInterface t x=>fun E T A=>match ev T x with
  | some v=>ofVal (aMakeIface E t v) A "makeInterface"
  | none=>.bad "makeInterface"
 | .makeFunc fn first captured=>fun E T A=>match evs T first.toList,evs T captured.toList with
  | some l,some r=>cond (notYield fn) (.val (.func fn l.toArray r.toArray) A) (.bad "makeFunc")
  | _,_=>.bad "makeFunc"
 | .slice t x lo hi mx=>fun E T A=>match ev T x,evOpt T lo,evOpt T hi,evOpt T mx with
  | some v,some a,some b,some c=>ofVal (aSlice E t v a b c A) A "slice"
  | _,_,_,_=>.bad "slice"
 | .fieldAddr s x f=>fun E T A=>match ev T x with
  | some v=>ofVal (aFieldAddr E s v f) A "fieldAddr"
  | none=>.bad "fieldAddr"
 | .field s x f=>fun E T A=>match ev T x with
  | some v=>ofVal (aField E s v f) A "field"
  | none=>.bad "field"
 | .indexAddr t x i=>fun E T A=>match ev T x,ev T i with
  | some v,some k=>ofVal (aIndexAddr E t v k) A "indexAddr"
  | _,_=>.bad "indexAddr"
 | .index t x i=>fun E T A=>match ev T x,ev T i with
  | some v,some k=>ofVal (aIndex E t v k) A "index"
  | _,_=>.bad "index"
 | .lookup t x k ok=>fun E T A=>match ev T x,ev T k with
  | some v,some w=>ofVal (aLookup E t v w ok A) A "lookup"
  | _,_=>.bad "lookup"
 | .mapUpdate t m k x=>fun E T A=>match ev T m,ev T k,ev T x with
  | some a,some b,some c=>match aMapUpdate E t a b c A with
   | some A'=>.val undef A'
   | none=>.bad "mapUpdate"
  | _,_,_=>.bad "mapUpdate"
 | .insert t m k x=>fun E T A=>match ev T m,ev T k,ev T x with
  | some a,some b,some c=>match aMapUpdate E t a b c A with
   | some A'=>.val undef A'
   | none=>.bad "mapUpdate"
  | _,_,_=>.bad "mapUpdate"
 | .mapEntry t m k=>fun E T A=>match ev T m,ev T k with
  | some a,some b=>(aMapEntry E t a b A).plain
  | _,_=>.bad "mapEntry"
 | .entryStore _ m s x=>fun E T A=>match ev T m,ev T s,ev T x with
  | some a,some b,some c=>match aEntryStore a b c A with
   | some A'=>.val undef A'
   | none=>.bad "entryStore"
  | _,_,_=>.bad "entryStore"
 | .range t x=>fun E T A=>match ev T x with
  | some v=>(aRange E t v A).plain
  | none=>.bad "range"
 | .entry it=>fun E T A=>match ev T it with
  | some v=>ofVal (aEntry v A) A "entry"
  | none=>.bad "entry"
 | .typeAssert x _ t ok=>fun E T A=>match ev T x with
  | some v=>ofVal (aTypeAssert E v t ok) A "typeAssert"
  | none=>.bad "typeAssert"
 | .extract t i=>fun E T A=>match ev T t with
  | some v=>ofVal (aExtract v i) A "extract"
  | none=>.bad "extract"
 | .call c=>fun E T A=>aCall E T c A
 | _=>fun E T A=>.bad "op"

theorem opD_eq(E:Env)(o:Op)(T:Tmps)(A:ASt):opD o E T A=aOpR E o T A:=by cases o<;>rfl

noncomputable def freshD:Op→Env→Bool
 | .alloc _=>fun _=>true
 | .box _ _=>fun _=>true
 | .buildSlice _ _ _=>fun _=>true
 | .makeMap _ _=>fun _=>true
 | .makeSlice _ _ _=>fun _=>true
 | .convert s d x=>fun E=>freshOp E (.convert s d x)
 | _=>fun _=>false

theorem freshD_eq(E:Env)(o:Op):freshD o E=freshOp E o:=by cases o<;>rfl

noncomputable def aOp(o:Op)(T:Tmps)(A:ASt):AR:=
 cond (freshD o E) (match aFresh E o T with
  | some (ob,f)=>fN A.next fun id=>.val (f id) (A.newN id ob)
  | none=>.bad "fresh") (opD o E T A)

theorem aOp_def(o:Op)(T:Tmps)(A:ASt):aOp E o T A=cond (freshOp E o) (match aFresh E o T with
  | some (ob,f)=>.val (f A.next) (A.new ob)
  | none=>.bad "fresh") (aOpR E o T A):=by
 unfold aOp
 rw [freshD_eq,opD_eq]
 congr 1
 cases aFresh E o T with
 | none=>rfl
 | some x=>exact fN_eq _ _

end Go.AE

/- The evaluator: a region whose order is drawn. -/
namespace Go.AE
open Go

noncomputable def wantedA(ops:Array Oper)(T:Tmps)(o:Oper):Bool:=
 match o.guard with
 | none=>true
 | some (j,want)=>
  match nth ops.toList j with
  | some g=>match g.dst with
   | some d=>match tget T d with
    | .bool b=>b == want
    | _=>false
   | none=>false
  | none=>false

noncomputable def putN(n:Nat)(T:Tmps)(dst:Option Tmp)(v:Value):Option Tmps:=
 match dst with
 | some d=>cond (Nat.blt d n) (T.putC d (some v) some) none
 | none=>some T

noncomputable def quietOp(E:Env)(o:Op):Bool:=
 match o with
 | .move _ | .assign _ | .pick _ _ _ | .build _ _ | .load _ _ | .nilCheck _ | .binOp _ _ _ _ _ | .unOp _ _ _ | .makeInterface _ _ | .makeFunc _ _ _
 | .slice _ _ _ _ _ | .fieldAddr _ _ _ | .field _ _ _ | .indexAddr _ _ _ | .index _ _ _ | .lookup _ _ _ _ | .entry _ | .typeAssert _ _ _ _ | .extract _ _=>true
 | .convert _ _ _=>!freshOp E o
 | .call c=>match c.callee with
  | .builtin .len | .builtin .cap | .builtin .min | .builtin .max=>true
  | _=>false
 | _=>false

noncomputable def ancStep(acc:List Nat):List Edge→Nat→Nat
 | [],s=>s
 | e::l,s=>ancStep acc l (cond (Region.binds .any e) (s ||| (2 ^ e.on ||| (match nth acc e.on with | some m=>m | none=>0))) s)

noncomputable def ancs:List Oper→List Nat→List Nat
 | [],acc=>acc
 | o::l,acc=>ancs l (acc++[ancStep acc o.after.toList 0])

noncomputable def tmpsOf:List Operand→List Tmp
 | []=>[]
 | .tmp t::l=>t::tmpsOf l
 | _::l=>tmpsOf l

noncomputable def looks(ops:Array Oper)(o:Oper):List Tmp:=
 tmpsOf o.op.operands.toList++(match o.guard with
  | some (g,_)=>match nth ops.toList g with
   | some x=>match x.dst with
    | some d=>[d]
    | none=>[]
   | none=>[]
  | none=>[])

noncomputable def slotOK(an:List Nat)(j t:Nat):Nat→List Oper→Bool
 | _,[]=>true
 | i,o::l=>
  (match o.dst with
   | some d=>cond (Nat.beq d t) (Nat.beq i j || cond (Nat.blt i j) (match nth an j with | some m=>m.testBit i | none=>false) (match nth an i with | some m=>m.testBit j | none=>false)) true
   | none=>true) && slotOK an j t (i+1) l

noncomputable def slotsOK(an:List Nat)(l:List Oper)(j:Nat):List Nat→Bool
 | []=>true
 | t::ts=>slotOK an j t 0 l && slotsOK an l j ts

noncomputable def edgesOK(j:Nat):List Edge→Bool
 | []=>true
 | e::l=>(!Region.binds .any e || Nat.blt e.on j) && edgesOK j l

noncomputable def regOK(ops:Array Oper)(an:List Nat)(all:List Oper):Nat→List Oper→Bool
 | _,[]=>true
 | j,o::l=>edgesOK j o.after.toList && (slotsOK an all j (looks ops o++o.dst.toList) && regOK ops an all (j+1) l)

structure Fl where
 f:Nat
 ob:AObj

structure Rd where
 i:Nat
 o:Op
 T:Tmps
 v:Value

structure PSt where
 T:Tmps
 H:ASt
 fl:List Fl
 louds:Nat
 hist:List (Nat×ASt)
 reads:List Rd

noncomputable def addFl(base:Nat)(g:Nat→Bool):List Fl→ASt→ASt
 | [],A=>A
 | x::l,A=>cond (g x.f) ((addFl base g l A).set (base+x.f) x.ob) (addFl base g l A)

noncomputable def takenAt(mask f:Nat):Nat→List Nat→Bool
 | _,[]=>false
 | j,m::l=>(mask.testBit j && m.testBit f) || takenAt mask f (j+1) l

variable (E:Env)

noncomputable def oneOp(call:Tgt→List Value→ASt→Nd (Value×ASt))(o:Oper)(T:Tmps)(A:ASt):Nd (Value×ASt):=
 match o.op with
 | .next it isString=>match ev T it with
  | some v=>aNext v isString A
  | none=>.fail "next"
 | op=>match aOp E op T A with
  | .val v A'=>.ret (v,A')
  | .enter f args A'=>call f args A'
  | .bad why=>.fail why

noncomputable def viewAt(base:Nat)(an:List Nat)(mask m:Nat)(fl:List Fl)(H:ASt):ASt:=addFl base (fun f=>!takenAt mask f 0 an && m.testBit f) fl H

noncomputable def planStep(call:Tgt→List Value→ASt→Nd (Value×ASt))(n base:Nat)(ops:Array Oper)(an:List Nat)(i:Nat)(o:Oper)(s:PSt):Option PSt:=
 match nth an i with
 | none=>none
 | some m=>
  cond (wantedA ops s.T o)
   (cond (freshOp E o.op)
    (match aFresh E o.op s.T with
     | some (ob,f)=>match putN n s.T o.dst (f (base+i)) with
       | some T'=>some { s with T:=T',fl:={ f:=i,ob }::s.fl }
       | none=>none
     | none=>none)
    (cond (quietOp E o.op)
     (match aOp E o.op s.T { heap:=.e,next:=0 } with
      | .val v _=>match putN n s.T o.dst v with
        | some T'=>some { s with T:=T' }
        | none=>none
      | _=>match aOp E o.op s.T (viewAt base an s.louds m s.fl s.H) with
        | .val v _=>match putN n s.T o.dst v with
          | some T'=>some { s with T:=T',reads:={ i,o:=o.op,T:=s.T,v }::s.reads }
          | none=>none
        | _=>none)
     (cond (Nat.beq (m &&& s.louds) s.louds)
      (match oneOp E call o s.T (viewAt base an s.louds m s.fl s.H) with
       | .ret (v,H')=>match putN n s.T o.dst v with
         | some T'=>some { T:=T',H:=H',fl:=s.fl,louds:=s.louds ||| 2 ^ i,hist:=(s.louds ||| 2 ^ i,H')::s.hist,reads:=s.reads }
         | none=>none
       | _=>none) none)))
   (match putN n s.T o.dst undef with
    | some T'=>some { s with T:=T' }
    | none=>none)

noncomputable def behind(i:Nat):Nat→List Nat→Nat
 | _,[]=>0
 | j,m::l=>cond (m.testBit i) (2 ^ j ||| behind i (j+1) l) (behind i (j+1) l)

noncomputable def fnEq:Fn→Fn→Bool
 | .func a,.func b=>Nat.beq a b
 | .yield a,.yield b=>Nat.beq a b
 | _,_=>false

noncomputable def flatEq:Value→Value→Bool
 | .bool a,.bool b=>a == b
 | .int k a,.int j b=>Nat.beq k.ctorIdx j.ctorIdx && a == b
 | .string a,.string b=>bytesEq a.data.toList b.data.toList
 | .pointer none,.pointer none=>true
 | .pointer (some ⟨a,b,none⟩),.pointer (some ⟨c,d,none⟩)=>Nat.beq a c && Nat.beq b d
 | .slice none a b,.slice none c d=>Nat.beq a c && Nat.beq b d
 | .slice (some ⟨a,b,none⟩) l c,.slice (some ⟨a',b',none⟩) l' c'=>(Nat.beq a a' && Nat.beq b b') && (Nat.beq l l' && Nat.beq c c')
 | .slice (some ⟨a,b,some s⟩) l c,.slice (some ⟨a',b',some s'⟩) l' c'=>(Nat.beq a a' && Nat.beq b b') && (Nat.beq s s' && (Nat.beq l l' && Nat.beq c c'))
 | .map none,.map none=>true
 | .map (some a),.map (some b)=>Nat.beq a b
 | .nilFunc,.nilFunc=>true
 | .nilIface,.nilIface=>true
 | .func f a b,.func g c d=>fnEq f g && (a.isEmpty && b.isEmpty) && (c.isEmpty && d.isEmpty)
 | .chan none,.chan none=>true
 | .chan (some a),.chan (some b)=>Nat.beq a b
 | _,_=>false

noncomputable def lEq{α:Type}(q:α→α→Bool):List α→List α→Bool
 | [],[]=>true
 | a::l,b::r=>q a b && lEq q l r
 | _,_=>false

noncomputable def vStep(q:Value→Value→Bool):Value→Value→Bool
 | .agg x,.agg y=>lEq q x.toList y.toList
 | .tuple x,.tuple y=>lEq q x.toList y.toList
 | .iface t x,.iface u y=>Nat.beq t u && q x y
 | .func f a b,.func g c d=>fnEq f g && (lEq q a.toList c.toList && lEq q b.toList d.toList)
 | a,b=>flatEq a b

noncomputable def vEq:Nat→Value→Value→Bool
 | 0=>flatEq
 | n+1=>vStep (vEq n)

noncomputable def valEq(a b:Value):Bool:=vEq 4 a b

noncomputable def readAt(base:Nat)(an:List Nat)(fl:List Fl)(m beh louds:Nat)(r:Rd):List (Nat×ASt)→Bool
 | []=>true
 | (mask,H)::l=>
  (cond (Nat.beq ((m &&& louds) &&& mask) (m &&& louds) && Nat.beq (mask &&& beh) 0)
   (match aOp E r.o r.T (viewAt base an mask m fl H) with
    | .val v _=>valEq v r.v
    | _=>false) true) && readAt base an fl m beh louds r l

noncomputable def readsOK(base:Nat)(an:List Nat)(s:PSt):List Rd→Bool
 | []=>true
 | r::l=>(match nth an r.i with
  | some m=>readAt E base an s.fl m (behind r.i 0 an) s.louds r s.hist
  | none=>false) && readsOK base an s l

noncomputable def allBehind(i:Nat):List Nat→Bool
 | []=>true
 | m::l=>m.testBit i && allBehind i l

noncomputable def planN(call:Tgt→List Value→ASt→Nd (Value×ASt))(n base:Nat)(ops:Array Oper)(an:List Nat):Nat→List Oper→PSt→Nd PSt
 | _,[],s=>.ret s
 | i,o::l,s=>match planStep E call n base ops an i o s with
  | some s'=>planN call n base ops an (i+1) l s'
  | none=>match nth an i with
   | some m=>cond (wantedA ops s.T o && (!freshOp E o.op && (!quietOp E o.op && (Nat.beq (m &&& s.louds) s.louds && (allBehind i (an.drop (i+1)) && readsOK E base an s s.reads)))))
    ((oneOp E call o s.T (viewAt base an s.louds m s.fl s.H)).bind fun r=>match putN n s.T o.dst r.1 with
     | some T'=>planN call n base ops an (i+1) l { T:=T',H:=r.2,fl:=s.fl,louds:=s.louds ||| 2 ^ i,hist:=(s.louds ||| 2 ^ i,r.2)::s.hist,reads:=s.reads }
     | none=>.fail "draw: slot") (.fail "draw: plan")
   | none=>.fail "draw: plan"

noncomputable def drawRun(call:Tgt→List Value→ASt→Nd (Value×ASt))(n:Nat)(ops:Array Oper)(T:Tmps)(A:ASt):Nd (Tmps×ASt):=
 cond (regOK ops (ancs ops.toList []) ops.toList 0 ops.toList)
  (fN A.next fun base=>fN (base+ops.toList.length) fun nx=>(planN E call n base ops (ancs ops.toList []) 0 ops.toList { T,H:={ heap:=A.heap,next:=nx },fl:=[],louds:=0,hist:=[(0,{ heap:=A.heap,next:=nx })],reads:=[] }).bind fun s=>
   cond (readsOK E base (ancs ops.toList []) s s.reads) (.ret (s.T,addFl base (fun f=>!takenAt s.louds f 0 (ancs ops.toList [])) s.fl s.H)) (.fail "draw: a read hangs on the order")) (.fail "draw: slots")

end Go.AE

/- The evaluator: code and calls. -/
namespace Go.AE
open Go

inductive AExit where
 | normal
 | exit (id:Nat)
 | ret

structure AFr where
 ex:AExit
 T:Tmps
 A:ASt

inductive Job where
 | code (n:Nat) (ro:Option Nat) (c:Code) (T:Tmps) (A:ASt)
 | call (t:Tgt) (args:List Value) (A:ASt)

inductive Out where
 | fr (r:AFr)
 | res (v:Value) (A:ASt)

variable (E:Env)

noncomputable def opsRun(call:Tgt→List Value→ASt→Nd (Value×ASt))(n:Nat)(ops:Array Oper):List Oper→Tmps→ASt→Nd (Tmps×ASt)
 | [],T,A=>.ret (T,A)
 | o::l,T,A=>
  cond (wantedA ops T o)
   ((oneOp E call o T A).bind fun r=>match putN n T o.dst r.1 with
    | some T'=>opsRun call n ops l T' r.2
    | none=>.fail "slot")
   (match putN n T o.dst undef with
    | some T'=>opsRun call n ops l T' A
    | none=>.fail "slot")

noncomputable def argsT:Nat→List Value→Tmps→Tmps
 | _,[],T=>T
 | i,v::l,T=>argsT (i+1) l (T.put i (some v))

noncomputable def resultsV(T:Tmps)(A:ASt):List ResultVar→Option (List Value)
 | []=>some []
 | .tmp t::l=>match resultsV T A l with
  | some r=>some (tget T t::r)
  | none=>none
 | .cell a t::l=>match aLoad E t (tget T a) A with
  | some v=>match resultsV T A l with
   | some r=>some (v::r)
   | none=>none
  | none=>none

noncomputable def oneOrTuple:List Value→Value
 | [v]=>v
 | l=>.tuple l.toArray

noncomputable def callBy(ih:Job→Nd Out)(f:Tgt)(args:List Value)(A:ASt):Nd (Value×ASt):=
 (ih (.call f args A)).bind fun
  | .res v A'=>.ret (v,A')
  | .fr _=>.fail "call"

noncomputable def putAll(n:Nat):List Tmp→List Value→Tmps→Option Tmps
 | [],[],T=>some T
 | t::ts,v::vs,T=>cond (Nat.blt t n) (putAll n ts vs (T.put t (some v))) none
 | _,_,_=>none

noncomputable def exCode:AExit→Option Code
 | .normal=>none
 | .exit id=>some (.exit id)
 | .ret=>some .ret

noncomputable def isBusy:LoopState→Bool
 | .busy=>true
 | _=>false
noncomputable def isReady:LoopState→Bool
 | .ready=>true
 | _=>false

noncomputable def endR(l:Nat)(ex:AExit)(A:ASt):Nd Out:=
 match A.get l with
 | some (.loop n T ps as b _ _)=>match exCode ex with
  | none=>.ret (.res (.bool true) (A.set l (.loop n T ps as b .ready none)))
  | some c=>.ret (.res (.bool false) (A.set l (.loop n T ps as b .done (some c))))
 | _=>.fail "round: end"

noncomputable def roundJob(ih:Job→Nd Out)(l:Nat)(args:List Value)(A:ASt):Nd Out:=
 match A.get l with
 | some (.loop n T ps as b _ _)=>match putAll n ps.toList args T with
  | some T'=>(ih (.code n (some l) as T' A)).bind fun
   | .fr ⟨.normal,T1,A1⟩=>match A1.get l with
    | some (.loop n1 T0 ps1 as1 b1 st j)=>cond (isReady st)
     ((ih (.code n (some l) b T1 (A1.set l (.loop n1 T0 ps1 as1 b1 .busy j)))).bind fun
      | .fr ⟨ex,_,A2⟩=>endR l ex A2
      | .res _ _=>.fail "round: body") (.fail "round: not ready")
    | _=>.fail "round: record"
   | _=>.fail "round: assign"
  | none=>.fail "round: slots"
 | _=>.fail "round: no loop"

noncomputable def isLoop:Option AObj→Bool
 | some (.loop _ _ _ _ _ _ _)=>true
 | _=>false
noncomputable def roOK(ro:Option Nat)(A:ASt):Bool:=
 match ro with
 | none=>true
 | some l=>isLoop (A.get l)

noncomputable def rangeJob(ih:Job→Nd Out)(n:Nat)(ro:Option Nat)(g:Operand)(ps:Array Tmp)(as b:Code)(T:Tmps)(A:ASt):Nd Out:=
 match ev T g with
 | some (.func fn first captured)=>
  cond (roOK ro A) (fN A.next fun id=>match aInvoke E fn (first.toList++[.func (.yield id) #[] #[]]) captured.toList (A.newN id (.loop n T ps as b .ready none)) with
  | .enter (.fn f) args A2=>(callBy ih (.fn f) args A2).bind fun r=>
   match r.2.get id with
   | some (.loop n' T' ps' as' b' st j)=>cond (isBusy st) (.fail "range: busy")
    (match j with
     | none=>.ret (.fr ⟨.normal,T,r.2.set id (.loop n' T' ps' as' b' .exhausted j)⟩)
     | some c=>ih (.code n ro c T (r.2.set id (.loop n' T' ps' as' b' .exhausted j))))
   | _=>.fail "range: record"
  | _=>.fail "range: call") (.fail "range: within no loop")
 | _=>.fail "range: operand"

noncomputable def stepJob(ih:Job→Nd Out):Job→Nd Out
 | .call (.round l) args A=>roundJob ih l args A
 | .call (.fn f) args A=>
  match E.hook f args A with
  | some r=>r.bind fun x=>.ret (.res x.1 x.2)
  | none=>
   match E.fn f with
   | some fn=>match fn.body with
    | some c=>cond (Nat.ble args.length fn.ntmps)
     ((ih (.code fn.ntmps none c (argsT 0 args .e) A)).bind fun
      | .fr ⟨.normal,T,A'⟩ | .fr ⟨.ret,T,A'⟩=>match resultsV E T A' fn.results.toList with
       | some l=>.ret (.res (oneOrTuple l) A')
       | none=>.fail "results"
      | _=>.fail "exit") (.fail "arguments")
    | none=>.fail "body"
   | none=>.fail "function"
 | .code n ro c T A=>
  match c with
  | .skip=>.ret (.fr ⟨.normal,T,A⟩)
  | .ret=>.ret (.fr ⟨.ret,T,A⟩)
  | .exit id=>.ret (.fr ⟨.exit id,T,A⟩)
  | .label _=>.ret (.fr ⟨.normal,T,A⟩)
  | .seq a b=>(ih (.code n ro a T A)).bind fun
   | .fr ⟨.normal,T',A'⟩=>ih (.code n ro b T' A')
   | o=>.ret o
  | .cond x a b=>match ev T x with
   | some (.bool t)=>cond t (ih (.code n ro a T A)) (ih (.code n ro b T A))
   | _=>.fail "cond"
  | .block id b=>(ih (.code n ro b T A)).bind fun
   | .fr ⟨.exit id',T',A'⟩=>.ret (.fr ⟨cond (Nat.beq id' id) .normal (.exit id'),T',A'⟩)
   | o=>.ret o
  | .loop b=>(ih (.code n ro b T A)).bind fun
   | .fr ⟨.normal,T',A'⟩=>ih (.code n ro (.loop b) T' A')
   | o=>.ret o
  | .scope b=>ih (.code n ro b T A)
  | .region _ ops false=>(opsRun E (callBy ih) n ops ops.toList T A).bind fun r=>.ret (.fr ⟨.normal,r.1,r.2⟩)
  | .region _ ops true=>(drawRun E (callBy ih) n ops T A).bind fun r=>.ret (.fr ⟨.normal,r.1,r.2⟩)
  | .rangeFunc g ps as b=>rangeJob E ih n ro g ps as b T A
  | _=>.fail "code"

noncomputable def run(fuel:Nat):Job→Nd Out:=
 Nat.rec (fun _=>.fail "fuel") (fun _ ih j=>stepJob E ih j) fuel

end Go.AE

/- The evaluator: how virtual values, blocks and states stand to those of the model. -/
namespace Go.AE
open Go

/-! ### tries -/
theorem toPosF_eq(f:Nat):∀ k,k<f→toPosF f k=(if k=0 then .one else if k % 2=1 then .b1 (toPosF (f-1) (k / 2)) else .b0 (toPosF (f-1) (k / 2-1))):=by
 cases f with
 | zero=>intro k h;omega
 | succ f=>
  intro k _
  have e:toPosF (f+1) k=Bool.rec (motive:=fun _=>Ps) (Bool.rec (motive:=fun _=>Ps) (.b0 (toPosF f (k / 2-1))) (.b1 (toPosF f (k / 2))) (Nat.beq (k % 2) 1)) .one (Nat.beq k 0):=rfl
  rw [e]
  cases hk:Nat.beq k 0 with
  | true=>have:=Nat.eq_of_beq_eq_true hk;simp [this]
  | false=>
   have h0:k≠0:=Nat.ne_of_beq_eq_false hk
   cases hm:Nat.beq (k % 2) 1 with
   | true=>have:=Nat.eq_of_beq_eq_true hm;simp [h0,this]
   | false=>have:=Nat.ne_of_beq_eq_false hm;simp [h0,this]

def ofPs:Ps→Nat
 | .one=>0
 | .b0 p=>2*ofPs p+2
 | .b1 p=>2*ofPs p+1

theorem ofPs_toPosF:∀ (f k:Nat),k<f→ofPs (toPosF f k)=k
 | 0,k,h=>by omega
 | f+1,k,h=>by
  rw [toPosF_eq _ _ h]
  by_cases h0:k=0
  ·rw [if_pos h0];exact h0.symm
  ·rw [if_neg h0]
   by_cases h1:k % 2=1
   ·rw [if_pos h1]
    simp only [ofPs,Nat.add_sub_cancel]
    rw [ofPs_toPosF f (k / 2) (by omega)]
    omega
   ·rw [if_neg h1]
    simp only [ofPs,Nat.add_sub_cancel]
    rw [ofPs_toPosF f (k / 2-1) (by omega)]
    omega

theorem toPos_inj{a b:Nat}(h:toPos a=toPos b):a=b:=by
 have h1:=ofPs_toPosF (a+1) a (by omega)
 have h2:=ofPs_toPosF (b+1) b (by omega)
 unfold toPos at h
 rw [← h1,← h2,h]

theorem getP_putP{α:Type}(p:Ps)(x:Option α):∀ (t:Tr α) (q:Ps),(q=p→getP (putP p x t fun t=>t) q=x)∧(q≠p→getP (putP p x t fun t=>t) q=getP t q):=by
 induction p with
 | one=>intro t q;cases t<;>cases q<;>simp [putP,getP]
 | b0 p ih=>
  intro t q
  cases t with
  | e=>
   have:(putP (.b0 p) x .e fun t=>t)=.n .e none (putP p x .e fun t=>t):=putP_eq p x (Tr α) .e fun t'=>.n .e none t'
   rw [this]
   cases q with
   | one=>simp [getP]
   | b0 q=>
    have h:=ih .e q
    simp only [Ps.b0.injEq,ne_eq]
    exact h
   | b1 q=>simp [getP]
  | n l v r=>
   have:(putP (.b0 p) x (.n l v r) fun t=>t)=.n l v (putP p x r fun t=>t):=putP_eq p x (Tr α) r fun t'=>.n l v t'
   rw [this]
   cases q with
   | one=>simp [getP]
   | b0 q=>
    have h:=ih r q
    simp only [Ps.b0.injEq,ne_eq]
    exact h
   | b1 q=>simp [getP]
 | b1 p ih=>
  intro t q
  cases t with
  | e=>
   have:(putP (.b1 p) x .e fun t=>t)=.n (putP p x .e fun t=>t) none .e:=putP_eq p x (Tr α) .e fun t'=>.n t' none .e
   rw [this]
   cases q with
   | one=>simp [getP]
   | b1 q=>
    have h:=ih .e q
    simp only [Ps.b1.injEq,ne_eq]
    exact h
   | b0 q=>simp [getP]
  | n l v r=>
   have:(putP (.b1 p) x (.n l v r) fun t=>t)=.n (putP p x l fun t=>t) v r:=putP_eq p x (Tr α) l fun t'=>.n t' v r
   rw [this]
   cases q with
   | one=>simp [getP]
   | b1 q=>
    have h:=ih l q
    simp only [Ps.b1.injEq,ne_eq]
    exact h
   | b0 q=>simp [getP]

theorem Tr.get_put{α:Type}(t:Tr α)(k:Nat)(x:Option α)(j:Nat):(t.put k x).get j=if j=k then x else t.get j:=by
 unfold Tr.get Tr.put
 by_cases e:j=k
 ·rw [e,if_pos rfl]
  exact (getP_putP _ _ _ _).1 rfl
 ·rw [if_neg e]
  exact (getP_putP _ _ _ _).2 fun h=>e (toPos_inj h)

@[simp] theorem Tr.get_e{α:Type}(j:Nat):(Tr.e:Tr α).get j=none:=rfl

theorem ASt.get_set(A:ASt)(b:Nat)(o:AObj)(j:Nat):(A.set b o).get j=if j=b then some o else A.get j:=Tr.get_put _ _ _ _
theorem ASt.get_new(A:ASt)(o:AObj)(j:Nat):(A.new o).get j=if j=A.next then some o else A.get j:=Tr.get_put _ _ _ _
@[simp] theorem ASt.next_set(A:ASt)(b:Nat)(o:AObj):(A.set b o).next=A.next:=rfl
@[simp] theorem ASt.newN_eq(A:ASt)(o:AObj):A.newN A.next o=A.new o:=rfl
theorem ASt.get_newAt(A:ASt)(id:Nat)(o:AObj)(j:Nat):(A.newAt id o).get j=if j=id then some o else A.get j:=Tr.get_put _ _ _ _
@[simp] theorem ASt.next_newAt(A:ASt)(id:Nat)(o:AObj):(A.newAt id o).next=max A.next (id+1):=rfl
@[simp] theorem ASt.next_new(A:ASt)(o:AObj):(A.new o).next=A.next+1:=rfl

/-! ### lists, pair by pair -/
inductive LR {α β:Type} (R:α→β→Prop):List α→List β→Prop
 | nil:LR R [] []
 | cons {a b l r}:R a b→LR R l r→LR R (a::l) (b::r)

theorem LR.length{α β:Type}{R:α→β→Prop}{l:List α}{r:List β}(h:LR R l r):l.length=r.length:=by
 induction h with
 | nil=>rfl
 | cons _ _ ih=>simp [ih]

theorem LR.get{α β:Type}{R:α→β→Prop}{l:List α}{r:List β}(h:LR R l r):∀ (i:Nat) (a:α),l[i]? = some a→∃ b,r[i]? = some b∧R a b:=by
 induction h with
 | nil=>intro i a h;simp at h
 | cons hab _ ih=>
  intro i a h
  cases i with
  | zero=>simp at h;subst h;exact ⟨_,by simp,hab⟩
  | succ i=>simp at h;obtain ⟨b,hb,hr⟩:=ih i a h;exact ⟨b,by simpa using hb,hr⟩

theorem LR.of_get{α β:Type}{R:α→β→Prop}:∀ {l:List α} {r:List β},l.length=r.length→(∀ (i:Nat) (a:α) (b:β),l[i]? = some a→r[i]? = some b→R a b)→LR R l r
 | [],[],_,_=>.nil
 | [],_::_,h,_=>by simp at h
 | _::_,[],h,_=>by simp at h
 | a::l,b::r,h,hg=>.cons (hg 0 a b (by simp) (by simp)) (LR.of_get (by simpa using h) fun i x y hx hy=>hg (i+1) x y (by simpa using hx) (by simpa using hy))

theorem LR.mono{α β:Type}{R R':α→β→Prop}(hr:∀ a b,R a b→R' a b){l:List α}{r:List β}(h:LR R l r):LR R' l r:=by
 induction h with
 | nil=>exact .nil
 | cons hab _ ih=>exact .cons (hr _ _ hab) ih

theorem LR.append{α β:Type}{R:α→β→Prop}{l l':List α}{r r':List β}(h:LR R l r)(h':LR R l' r'):LR R (l++l') (r++r'):=by
 induction h with
 | nil=>exact h'
 | cons hab _ ih=>exact .cons hab ih

theorem LR.take{α β:Type}{R:α→β→Prop}{l:List α}{r:List β}(h:LR R l r):∀ n,LR R (l.take n) (r.take n):=by
 induction h with
 | nil=>intro n;simp;exact .nil
 | cons hab _ ih=>intro n;cases n with
  | zero=>exact .nil
  | succ n=>exact .cons hab (ih n)

theorem LR.drop{α β:Type}{R:α→β→Prop}{l:List α}{r:List β}(h:LR R l r):∀ n,LR R (l.drop n) (r.drop n):=by
 induction h with
 | nil=>intro n;simp;exact .nil
 | @cons _ _ l r hab hlr ih=>intro n;cases n with
  | zero=>exact .cons hab hlr
  | succ n=>exact ih n

theorem nth_eq{α:Type}:∀ (l:List α) (i:Nat),nth l i=l[i]?
 | [],_=>by simp [nth]
 | _::_,0=>by simp [nth]
 | _::l,i+1=>by simp [nth,nth_eq l i]

theorem cut_some{α:Type}{l r:List α}{i n:Nat}(h:cut l i n=some r):r=(l.drop i).take n∧r.length=n∧(n=0∨i+n≤l.length):=by
 unfold cut at h
 simp only [] at h
 cases hb:Nat.beq ((l.drop i).take n).length n with
 | false=>rw [hb] at h;cases h
 | true=>
  rw [hb] at h
  have:=Nat.eq_of_beq_eq_true hb
  cases h
  refine ⟨rfl,this,?_⟩
  simp at this
  omega

theorem over_some{α:Type}{l r vs:List α}{i:Nat}(h:over l i vs=some r):r=l.take i++(vs++l.drop (i+vs.length))∧i+vs.length≤l.length:=by
 unfold over at h
 cases hb:Nat.ble (i+vs.length) l.length with
 | false=>rw [hb] at h;cases h
 | true=>rw [hb] at h;cases h;exact ⟨rfl,Nat.le_of_ble_eq_true hb⟩

/-! ### where a virtual block lies -/
structure Loc where
 B:Nat
 o:Nat
 R:Nat
 sz:Nat
 /-- of a value that is handed on unopened: itself -/
 raw:Value

abbrev Ren:=Nat→Option Loc

def Ren.le(r r':Ren):Prop:=∀ b L,r b=some L→r' b=some L
theorem Ren.le.refl(r:Ren):r.le r:=fun _ _ h=>h
theorem Ren.le.trans{a b c:Ren}(h:a.le b)(k:b.le c):a.le c:=fun x L hx=>k x L (h x L hx)

def rawOK:Value→Bool
 | .agg _ | .tuple _ | .bool _=>false
 | _=>true

theorem rawOK_one{v:Value}(h:rawOK v=true):v.oneCell'=true:=by
 cases v<;>first | rfl | (simp [rawOK] at h;done)

inductive VRel (ρ:Ren):Value→Value→Prop
 | bool (b):VRel ρ (.bool b) (.bool b)
 | int (k n):VRel ρ (.int k n) (.int k n)
 | float (k n):VRel ρ (.float k n) (.float k n)
 | complex (k a b):VRel ρ (.complex k a b) (.complex k a b)
 | string (s):VRel ρ (.string s) (.string s)
 | nilPtr:VRel ρ (.pointer none) (.pointer none)
 | ptr {b off L}:ρ b=some L→VRel ρ (.pointer (some ⟨b,off,none⟩)) (.pointer (some ⟨L.B,L.o+off,none⟩))
 | nilSlice (l c):VRel ρ (.slice none l c) (.slice none l c)
 | slice {b off L} (len) {cap}:ρ b=some L→cap≠unk→VRel ρ (.slice (some ⟨b,off,none⟩) len cap) (.slice (some ⟨L.B,L.o+off,none⟩) len cap)
 | sliceU {b off L} (len) {u cap}:ρ b=some L→u=unk→(L.o+off)+cap*L.sz=L.R→VRel ρ (.slice (some ⟨b,off,none⟩) len u) (.slice (some ⟨L.B,L.o+off,none⟩) len cap)
 | sliceZ (x c):VRel ρ zslice (.slice (some x) 0 c)
 | nilMap:VRel ρ (.map none) (.map none)
 | map {r L}:ρ r=some L→VRel ρ (.map (some r)) (.map (some L.B))
 | nilChan:VRel ρ (.chan none) (.chan none)
 | raw {k L}:ρ k=some L→rawOK L.raw=true→VRel ρ (.chan (some k)) L.raw
 | yield {l L}:ρ l=some L→VRel ρ (.func (.yield l) #[] #[]) (.func (.yield L.B) #[] #[])
 | func (fn) {f f' c c':Array Value}:notYield fn=true→f.size=f'.size→(∀ (i:Nat) (v v':Value),f[i]? = some v→f'[i]? = some v'→VRel ρ v v')→
   c.size=c'.size→(∀ (i:Nat) (v v':Value),c[i]? = some v→c'[i]? = some v'→VRel ρ v v')→VRel ρ (.func fn f c) (.func fn f' c')
 | nilFunc:VRel ρ .nilFunc .nilFunc
 | iface (t) {v v'}:VRel ρ v v'→VRel ρ (.iface t v) (.iface t v')
 | nilIface:VRel ρ .nilIface .nilIface
 | agg {c c':Array Value}:c.size=c'.size→(∀ (i:Nat) (v v':Value),c[i]? = some v→c'[i]? = some v'→VRel ρ v v')→VRel ρ (.agg c) (.agg c')
 | tuple {c c':Array Value}:c.size=c'.size→(∀ (i:Nat) (v v':Value),c[i]? = some v→c'[i]? = some v'→VRel ρ v v')→VRel ρ (.tuple c) (.tuple c')

theorem VRel.mono{ρ ρ':Ren}(h:ρ.le ρ'){v v':Value}(hv:VRel ρ v v'):VRel ρ' v v':=by
 induction hv with
 | bool b=>exact .bool b
 | int k n=>exact .int k n
 | float k n=>exact .float k n
 | complex k a b=>exact .complex k a b
 | string s=>exact .string s
 | nilPtr=>exact .nilPtr
 | ptr hb=>exact .ptr (h _ _ hb)
 | nilSlice l c=>exact .nilSlice l c
 | slice len hb hc=>exact .slice len (h _ _ hb) hc
 | sliceU len hb hu hc=>exact .sliceU len (h _ _ hb) hu hc
 | sliceZ x c=>exact .sliceZ x c
 | nilMap=>exact .nilMap
 | map hb=>exact .map (h _ _ hb)
 | nilChan=>exact .nilChan
 | raw hb hc=>exact .raw (h _ _ hb) hc
 | yield hb=>exact .yield (h _ _ hb)
 | func fn h0 h1 _ h3 _ ih1 ih2=>exact .func fn h0 h1 ih1 h3 ih2
 | nilFunc=>exact .nilFunc
 | iface t _ ih=>exact .iface t ih
 | nilIface=>exact .nilIface
 | agg h1 _ ih=>exact .agg h1 ih
 | tuple h1 _ ih=>exact .tuple h1 ih

abbrev VsRel(ρ:Ren):List Value→List Value→Prop:=LR (VRel ρ)
theorem VsRel.mono{ρ ρ':Ren}(h:ρ.le ρ'){l r:List Value}(hv:VsRel ρ l r):VsRel ρ' l r:=LR.mono (fun _ _=>VRel.mono h) hv

theorem VsRel.of_array{ρ:Ren}{c c':Array Value}(h:c.size=c'.size)(hg:∀ (i:Nat) (v v':Value),c[i]? = some v→c'[i]? = some v'→VRel ρ v v'):VsRel ρ c.toList c'.toList:=
 LR.of_get (by simpa using h) fun i a b ha hb=>hg i a b (by simpa using ha) (by simpa using hb)

theorem VRel.agg_of{ρ:Ren}{l r:List Value}(h:VsRel ρ l r):VRel ρ (.agg l.toArray) (.agg r.toArray):=
 .agg (by simpa using h.length) fun i v v' hv hv'=>by
  obtain ⟨b,hb,hr⟩:=h.get i v (by simpa using hv)
  simp at hv';rw [hb] at hv';cases hv';exact hr

theorem VRel.tuple_of{ρ:Ren}{l r:List Value}(h:VsRel ρ l r):VRel ρ (.tuple l.toArray) (.tuple r.toArray):=
 .tuple (by simpa using h.length) fun i v v' hv hv'=>by
  obtain ⟨b,hb,hr⟩:=h.get i v (by simpa using hv)
  simp at hv';rw [hb] at hv';cases hv';exact hr

theorem VRel.func_of{ρ:Ren}(fn:Fn)(h0:notYield fn=true){l r c d:List Value}(h:VsRel ρ l r)(k:VsRel ρ c d):VRel ρ (.func fn l.toArray c.toArray) (.func fn r.toArray d.toArray):=
 .func fn h0 (by simpa using h.length) (fun i v v' hv hv'=>by
  obtain ⟨b,hb,hr⟩:=h.get i v (by simpa using hv)
  simp at hv';rw [hb] at hv';cases hv';exact hr) (by simpa using k.length) fun i v v' hv hv'=>by
  obtain ⟨b,hb,hr⟩:=k.get i v (by simpa using hv)
  simp at hv';rw [hb] at hv';cases hv';exact hr

theorem VRel.refl_flat{ρ:Ren}{v:Value}(h:flat v=true):VRel ρ v v:=by
 cases v with
 | bool b=>exact .bool b
 | int k n=>exact .int k n
 | float k n=>exact .float k n
 | complex k a b=>exact .complex k a b
 | string s=>exact .string s
 | pointer a=>cases a with
  | none=>exact .nilPtr
  | some a=>simp [flat] at h
 | slice a l c=>cases a with
  | none=>exact .nilSlice l c
  | some a=>simp [flat] at h
 | map r=>cases r with
  | none=>exact .nilMap
  | some a=>simp [flat] at h
 | chan r=>cases r with
  | none=>exact .nilChan
  | some a=>simp [flat] at h
 | func fn f c=>
  simp [flat] at h
  obtain ⟨h0,h1,h2⟩:=h
  subst h1 h2
  exact .func fn h0 rfl (by simp) rfl (by simp)
 | nilFunc=>exact .nilFunc
 | nilIface=>exact .nilIface
 | iface t x=>
  refine .iface t ?_
  cases x with
  | bool b=>exact .bool b
  | int k n=>exact .int k n
  | float k n=>exact .float k n
  | complex k a b=>exact .complex k a b
  | string s=>exact .string s
  | pointer a=>cases a with
   | none=>exact .nilPtr
   | some a=>simp [flat] at h
  | slice a l c=>cases a with
   | none=>exact .nilSlice l c
   | some a=>simp [flat] at h
  | map r=>cases r with
   | none=>exact .nilMap
   | some a=>simp [flat] at h
  | chan r=>cases r with
   | none=>exact .nilChan
   | some a=>simp [flat] at h
  | nilFunc=>exact .nilFunc
  | nilIface=>exact .nilIface
  | _=>simp [flat] at h
 | agg c=>simp [flat] at h
 | tuple c=>simp [flat] at h

theorem VsRel.refl_flats{ρ:Ren}:∀ {l:List Value},flats l=true→VsRel ρ l l
 | [],_=>.nil
 | v::l,h=>by
  simp [flats] at h
  exact .cons (.refl_flat h.1) (VsRel.refl_flats h.2)

theorem VRel.refl_closed{ρ:Ren}{v:Value}(h:closed v=true):VRel ρ v v:=by
 cases v with
 | agg c=>simp [closed] at h;have:=VRel.agg_of (VsRel.refl_flats (ρ:=ρ) h);simpa using this
 | tuple c=>simp [closed] at h;have:=VRel.tuple_of (VsRel.refl_flats (ρ:=ρ) h);simpa using this
 | _=>exact .refl_flat (by simpa [closed] using h)

theorem VsRel.cells{ρ:Ren}{v v':Value}(h:VRel ρ v v'):VsRel ρ v.cells.toList v'.cells.toList:=by
 cases h with
 | agg h1 h2=>exact VsRel.of_array h1 h2
 | @raw k L hb hc=>
  have:L.raw.cells=#[L.raw]:=by
   revert hc
   cases L.raw<;>intro hc<;>first | rfl | (simp [rawOK] at hc)
  rw [this]
  exact .cons (.raw hb hc) .nil
 | _=>first | exact .cons (by constructor<;>assumption) .nil | exact .cons (by constructor) .nil

theorem VsRel.cells_closed{ρ:Ren}{v:Value}(h:closed v=true):VsRel ρ v.cells.toList v.cells.toList:=VsRel.cells (.refl_closed h)

theorem VRel.undef{ρ:Ren}:VRel ρ undef undef:=.tuple rfl (by simp)

/-! ### blocks -/
structure EntRel(ρ:Ren)(a b:MapEntry):Prop where
 key:b.key=a.key
 flat:flat a.key=true
 val:VRel ρ a.val b.val
 born:b.born=a.born

def optLoc(ρ:Ren):Option Nat→Option Nat→Prop
 | none,none=>True
 | some r,some B=>∃ L,ρ r=some L∧B=L.B
 | _,_=>False

def AObj.hi(o:AObj)(L:Loc):Nat:=
 match o with
 | .row c _ tail=>if tail then L.R else L.o+c.length
 | _=>L.o+1

def ORel(ρ:Ren)(o:AObj)(L:Loc)(w:World):Prop:=
 match o with
 | .row c sz tail=>∃ cells el lo hi,w.heap[L.B]? = some (.cells cells el (lo,hi))∧cells.size=L.R∧L.sz=sz∧L.o+c.length≤L.R∧
   (∀ i v,c[i]? = some v→∃ v',cells[L.o+i]? = some v'∧VRel ρ v v')∧
   (∀ j,L.o≤j→j<(AObj.row c sz tail).hi L→¬ (lo≤j∧j<hi))
 | .map es clock=>∃ es',w.heap[L.B]? = some (.map es' clock)∧LR (EntRel ρ) es es'.toList∧L.o=0
 | .miter m since seen stepped=>∃ m',w.heap[L.B]? = some (.mapIter m' since seen.toArray stepped)∧optLoc ρ m m'∧L.o=0
 | .siter s pos=>w.heap[L.B]? = some (.stringIter s pos)∧L.o=0
 | .loop n T ps as b st j=>∃ r:Loop,w.heap[L.B]? = some (.loop r)∧(r.params=ps∧r.assign=as∧r.body=b∧r.state=st∧r.pending=j)∧r.tmps.size=n∧(∀ t,VRel ρ (tget T t) (r.tmps.getD t undef))∧L.o=0

def Owned(ρ:Ren)(A:ASt)(B j:Nat):Prop:=∃ b o L,A.get b=some o∧ρ b=some L∧L.B=B∧L.o≤j∧j<o.hi L

structure Rep(ρ:Ren)(A:ASt)(w:World):Prop where
 obj:∀ b o,A.get b=some o→∃ L,ρ b=some L∧ORel ρ o L w
 apart:∀ b b' o o' L L',b≠b'→A.get b=some o→A.get b'=some o'→ρ b=some L→ρ b'=some L'→L.B=L'.B→∀ j,L.o≤j→j<o.hi L→L'.o≤j→j<o'.hi L'→False
 fresh:∀ b,A.next≤b→ρ b=none

theorem Rep.get_lt{ρ:Ren}{A:ASt}{w:World}(h:Rep ρ A w){b:Nat}{o:AObj}(hb:A.get b=some o):b<A.next:=by
 obtain ⟨L,hL,_⟩:=h.obj b o hb
 rcases Nat.lt_or_ge b A.next with h' | h'
 ·exact h'
 ·rw [h.fresh b h'] at hL;cases hL

theorem ORel.block{ρ:Ren}{o:AObj}{L:Loc}{w:World}(h:ORel ρ o L w):L.B<w.heap.size:=by
 have:∃ x,w.heap[L.B]? = some x:=by
  cases o with
  | row c sz tail=>obtain ⟨_,_,_,_,h,_⟩:=h;exact ⟨_,h⟩
  | map es clock=>obtain ⟨_,h,_⟩:=h;exact ⟨_,h⟩
  | miter m s se st=>obtain ⟨_,h,_⟩:=h;exact ⟨_,h⟩
  | siter s pos=>exact ⟨_,h.1⟩
  | loop n T ps as b st j=>obtain ⟨r,h,_⟩:=h;exact ⟨_,h⟩
 obtain ⟨x,hx⟩:=this
 exact (Array.getElem?_eq_some_iff.1 hx).1

structure Step0(ρ:Ren)(A:ASt)(w:World)(ρ':Ren)(A':ASt)(w':World):Prop where
 rep:Rep ρ' A' w'
 ext:ρ.le ρ'
 next:A.next≤A'.next
 size:w.heap.size≤w'.heap.size
 os:w'.os=w.os
 tape:w'.tape=w.tape
 output:w'.output=w.output
 drawn:w.drawn≤w'.drawn
 cells:∀ B cells el fr,w.heap[B]? = some (.cells cells el fr)→∃ cells',w'.heap[B]? = some (.cells cells' el fr)∧cells'.size=cells.size∧∀ j,¬ Owned ρ A B j→cells'[j]? = cells[j]?
 objs:∀ B o,w.heap[B]? = some o→(∀ c e f,o≠.cells c e f)→¬ Owned ρ A B 0→w'.heap[B]? = some o
 owns:∀ B j,B<w.heap.size→Owned ρ' A' B j→Owned ρ A B j

structure Step(ρ:Ren)(A:ASt)(w:World)(ρ':Ren)(A':ASt)(w':World):Prop extends Step0 ρ A w ρ' A' w' where
 keep:∀ b,b<A.next→ρ' b=ρ b
 dom:∀ b,b<A.next→A.get b=none→A'.get b=none

theorem Step0.refl{ρ:Ren}{A:ASt}{w:World}(h:Rep ρ A w):Step0 ρ A w ρ A w:=
 ⟨h,.refl _,Nat.le_refl _,Nat.le_refl _,rfl,rfl,rfl,Nat.le_refl _,fun _ c _ _ h=>⟨c,h,rfl,fun _ _=>rfl⟩,fun _ _ h _ _=>h,fun _ _ _ h=>h⟩

theorem Step.refl{ρ:Ren}{A:ASt}{w:World}(h:Rep ρ A w):Step ρ A w ρ A w:=⟨.refl h,fun _ _=>rfl,fun _ _ h=>h⟩

theorem Step0.trans{ρ ρ₁ ρ₂:Ren}{A A₁ A₂:ASt}{w w₁ w₂:World}(h:Step0 ρ A w ρ₁ A₁ w₁)(k:Step0 ρ₁ A₁ w₁ ρ₂ A₂ w₂):Step0 ρ A w ρ₂ A₂ w₂:=by
 have hlt:∀ {B:Nat} {o:Obj},w.heap[B]? = some o→B<w.heap.size:=fun h=>(Array.getElem?_eq_some_iff.1 h).1
 refine ⟨k.rep,h.ext.trans k.ext,Nat.le_trans h.next k.next,Nat.le_trans h.size k.size,k.os.trans h.os,k.tape.trans h.tape,k.output.trans h.output,Nat.le_trans h.drawn k.drawn,?_,?_,?_⟩
 ·intro B cells el fr hB
  obtain ⟨c₁,hc₁,hs₁,hj₁⟩:=h.cells B cells el fr hB
  obtain ⟨c₂,hc₂,hs₂,hj₂⟩:=k.cells B c₁ el fr hc₁
  refine ⟨c₂,hc₂,hs₂.trans hs₁,fun j hj=>?_⟩
  rw [hj₂ j (fun ho=>hj (h.owns B j (hlt hB) ho)),hj₁ j hj]
 ·intro B o hB hne hno
  exact k.objs B o (h.objs B o hB hne hno) hne (fun ho=>hno (h.owns B 0 (hlt hB) ho))
 ·intro B j hB ho
  exact h.owns B j hB (k.owns B j (Nat.lt_of_lt_of_le hB h.size) ho)

theorem Step.trans{ρ ρ₁ ρ₂:Ren}{A A₁ A₂:ASt}{w w₁ w₂:World}(h:Step ρ A w ρ₁ A₁ w₁)(k:Step ρ₁ A₁ w₁ ρ₂ A₂ w₂):Step ρ A w ρ₂ A₂ w₂:=
 ⟨h.toStep0.trans k.toStep0,fun b hb=>(k.keep b (Nat.lt_of_lt_of_le hb h.next)).trans (h.keep b hb),fun b hb hn=>k.dom b (Nat.lt_of_lt_of_le hb h.next) (h.dom b hb hn)⟩

theorem Rep.of_heap{ρ:Ren}{A:ASt}{w w':World}(h:Rep ρ A w)(hw:w'.heap=w.heap):Rep ρ A w':=by
 refine ⟨fun b o hb=>?_,h.apart,h.fresh⟩
 obtain ⟨L,hL,ho⟩:=h.obj b o hb
 exact ⟨L,hL,by cases o<;>simpa only [ORel,hw] using ho⟩

theorem Step.drew{ρ:Ren}{A:ASt}{w:World}(h:Rep ρ A w):Step ρ A w ρ A { w with drawn:=w.drawn+1 }:=
 ⟨⟨h.of_heap rfl,.refl _,Nat.le_refl _,Nat.le_refl _,rfl,rfl,rfl,Nat.le_succ _,fun _ c _ _ h=>⟨c,h,rfl,fun _ _=>rfl⟩,fun _ _ h _ _=>h,fun _ _ _ h=>h⟩,fun _ _=>rfl,fun _ _ h=>h⟩

theorem ORel.mono{ρ ρ':Ren}(h:ρ.le ρ'){o:AObj}{L:Loc}{w:World}(ho:ORel ρ o L w):ORel ρ' o L w:=by
 cases o with
 | row c sz tail=>
  obtain ⟨cells,el,lo,hi,h1,h2,h3,h4,h5,h6⟩:=ho
  exact ⟨cells,el,lo,hi,h1,h2,h3,h4,fun i v hv=>let ⟨v',a,b⟩:=h5 i v hv;⟨v',a,b.mono h⟩,h6⟩
 | map es clock=>
  obtain ⟨es',h1,h2,h3⟩:=ho
  exact ⟨es',h1,LR.mono (fun _ _ e=>⟨e.key,e.flat,e.val.mono h,e.born⟩) h2,h3⟩
 | miter m since seen stepped=>
  obtain ⟨m',h1,h2,h3⟩:=ho
  refine ⟨m',h1,?_,h3⟩
  cases m<;>cases m'<;>simp only [optLoc] at h2 ⊢
  obtain ⟨L,hL,e⟩:=h2
  exact ⟨L,h _ _ hL,e⟩
 | siter s pos=>exact ho
 | loop n T ps as b st j=>
  obtain ⟨r,h1,h2,h3,h4,h5⟩:=ho
  exact ⟨r,h1,h2,h3,fun t=>(h4 t).mono h,h5⟩

def upd(ρ:Ren)(b:Nat)(L:Loc):Ren:=fun x=>if x=b then some L else ρ x

theorem upd_le{ρ:Ren}{b:Nat}{L:Loc}(h:ρ b=none):ρ.le (upd ρ b L):=by
 intro x M hx
 unfold upd
 by_cases e:x=b
 ·subst e;rw [h] at hx;cases hx
 ·simp [e,hx]
@[simp] theorem upd_same{ρ:Ren}{b:Nat}{L:Loc}:upd ρ b L b=some L:=by simp [upd]

theorem ORel.of_block{ρ:Ren}{o:AObj}{L:Loc}{w w':World}(h:w'.heap[L.B]? = w.heap[L.B]?)(ho:ORel ρ o L w):ORel ρ o L w':=by
 cases o<;>simpa only [ORel,h] using ho

theorem Step0.newAt{ρ:Ren}{A:ASt}{w:World}(h:Rep ρ A w)(id:Nat)(hfr:ρ id=none)(o:AObj)(ob:Obj)(L:Loc)(hB:L.B=w.heap.size)(ho:ORel (upd ρ id L) o L (w.alloc ob)):
  Step0 ρ A w (upd ρ id L) (A.newAt id o) (w.alloc ob):=by
 have hle:ρ.le (upd ρ id L):=upd_le hfr
 have hold:∀ B,B<w.heap.size→(w.alloc ob).heap[B]? = w.heap[B]?:=fun B hB=>Go.RowKit.Below.heap_alloc w ob B hB
 refine ⟨⟨?_,?_,?_⟩,hle,by simp;omega,by simp,rfl,rfl,rfl,Nat.le_refl _,?_,?_,?_⟩
 ·intro b x hb
  rw [ASt.get_newAt] at hb
  by_cases e:b=id
  ·simp [e] at hb;subst hb;subst b;exact ⟨L,by simp,ho⟩
  ·simp [e] at hb
   obtain ⟨M,hM,hx⟩:=h.obj b x hb
   exact ⟨M,hle _ _ hM,(hx.mono hle).of_block (hold _ hx.block)⟩
 ·intro b b' x x' M M' hne hb hb' hM hM' hBB
  rw [ASt.get_newAt] at hb hb'
  by_cases e:b=id
  ·subst b
   simp at hM;subst hM
   have e':b'≠id:=fun e=>hne e.symm
   simp [e'] at hb'
   obtain ⟨N,hN,hx⟩:=h.obj b' x' hb'
   have:=hle _ _ hN;rw [this] at hM';cases hM'
   have:=hx.block;omega
  ·simp [e] at hb
   obtain ⟨N,hN,hx⟩:=h.obj b x hb
   have:=hle _ _ hN;rw [this] at hM;cases hM
   by_cases e':b'=id
   ·subst b'
    simp at hM';subst hM'
    have:=hx.block;omega
   ·simp [e'] at hb'
    obtain ⟨N',hN',hx'⟩:=h.obj b' x' hb'
    have:=hle _ _ hN';rw [this] at hM';cases hM'
    exact h.apart b b' x x' _ _ hne hb hb' hN hN' hBB
 ·intro b hb
  simp at hb
  unfold upd
  rw [if_neg (by omega)]
  exact h.fresh b (by omega)
 ·intro B cells el fr hB'
  have hlt:=(Array.getElem?_eq_some_iff.1 hB').1
  exact ⟨cells,by rw [hold B hlt];exact hB',rfl,fun _ _=>rfl⟩
 ·intro B x hB' _ _
  have hlt:=(Array.getElem?_eq_some_iff.1 hB').1
  rw [hold B hlt];exact hB'
 ·rintro B j hB' ⟨b,x,M,hb,hM,hMB,h1,h2⟩
  rw [ASt.get_newAt] at hb
  by_cases e:b=id
  ·subst b;simp at hM;subst hM;omega
  ·simp [e] at hb
   obtain ⟨N,hN,hx⟩:=h.obj b x hb
   have:=hle _ _ hN;rw [this] at hM;cases hM
   exact ⟨b,x,_,hb,hN,hMB,h1,h2⟩

theorem Step.set{ρ:Ren}{A:ASt}{w w':World}(h:Rep ρ A w){b:Nat}{o o':AObj}{L:Loc}(hb:A.get b=some o)(hL:ρ b=some L)
  (ho:ORel ρ o' L w') (hhi:o'.hi L≤o.hi L)
  (hw:w'.os=w.os∧w'.tape=w.tape∧w'.output=w.output∧w'.heap.size=w.heap.size∧w.drawn≤w'.drawn)
  (hother:∀ B,B≠L.B→w'.heap[B]? = w.heap[B]?)
  (hsame:(∃ x y,w.heap[L.B]? = some x∧(∀ c e f,x≠.cells c e f)∧w'.heap[L.B]? = some y∧L.o=0∧0<o.hi L)∨
   (∃ cells cells' el fr,w.heap[L.B]? = some (.cells cells el fr)∧w'.heap[L.B]? = some (.cells cells' el fr)∧cells'.size=cells.size∧
    ∀ j,¬ (L.o≤j∧j<o.hi L)→cells'[j]? = cells[j]?)) :
  Step ρ A w ρ (A.set b o') w':=by
 have hin:∀ j,L.o≤j→j<o.hi L→Owned ρ A L.B j:=fun j h1 h2=>⟨b,o,L,hb,hL,rfl,h1,h2⟩
 refine ⟨⟨⟨?_,?_,?_⟩,.refl _,Nat.le_refl _,by omega,hw.1,hw.2.1,hw.2.2.1,hw.2.2.2.2,?_,?_,?_⟩,fun _ _=>rfl,fun d hd hn=>?_⟩
 ·intro c x hc
  rw [ASt.get_set] at hc
  by_cases e:c=b
  ·simp [e] at hc;subst hc e;exact ⟨L,hL,ho⟩
  ·simp [e] at hc
   obtain ⟨M,hM,hx⟩:=h.obj c x hc
   refine ⟨M,hM,?_⟩
   by_cases eB:M.B=L.B
   ·-- the same row: what c owns lies apart
    have hap:=h.apart c b x o M L e hc hb hM hL eB
    rcases hsame with ⟨x',y,hx',hne,hy,hL0,hhi'⟩ | ⟨cells,cells',el,fr,h1,h2,h3,h4⟩
    ·cases x with
     | row c' sz tail=>obtain ⟨_,_,_,_,hh,_⟩:=hx;rw [eB,hx'] at hh;cases hh;exact absurd rfl (hne _ _ _)
     | map es clock=>
      obtain ⟨es',hh,_,h0⟩:=hx
      exact absurd (hap 0 (by omega) (by simp [AObj.hi]) (by omega) hhi') id
     | miter m s se st=>
      obtain ⟨es',hh,_,h0⟩:=hx
      exact absurd (hap 0 (by omega) (by simp [AObj.hi]) (by omega) hhi') id
     | siter s pos=>
      obtain ⟨hh,h0⟩:=hx
      exact absurd (hap 0 (by omega) (by simp [AObj.hi]) (by omega) hhi') id
     | loop n T ps as b st j=>
      obtain ⟨r,hh,_,_,_,h0⟩:=hx
      exact absurd (hap 0 (by omega) (by simp [AObj.hi]) (by omega) hhi') id
    ·cases x with
     | row c' sz tail=>
      obtain ⟨cl,el',lo,hi,hh,hs,hz,hlen,hcells,hfz⟩:=hx
      rw [eB,h1] at hh;cases hh
      refine ⟨cells',el,lo,hi,by rw [eB];exact h2,by omega,hz,hlen,fun i v hv=>?_,hfz⟩
      obtain ⟨v',hv',hr⟩:=hcells i v hv
      refine ⟨v',?_,hr⟩
      rw [h4 (M.o+i) (fun hc=>hap (M.o+i) (by omega) ?_ hc.1 hc.2)]
      ·exact hv'
      ·have hi':i<c'.length:=(List.getElem?_eq_some_iff.1 hv).1
       simp only [AObj.hi]
       split<;>omega
     | map es clock=>obtain ⟨_,hh,_⟩:=hx;rw [eB,h1] at hh;cases hh
     | miter m s se st=>obtain ⟨_,hh,_⟩:=hx;rw [eB,h1] at hh;cases hh
     | siter s pos=>have hh:=hx.1;rw [eB,h1] at hh;cases hh
     | loop n T ps as b st j=>obtain ⟨_,hh,_⟩:=hx;rw [eB,h1] at hh;cases hh
   ·exact hx.of_block (hother _ eB)
 ·intro c c' x x' M M' hne hc hc' hM hM' hBB j h1 h2 h3 h4
  rw [ASt.get_set] at hc hc'
  by_cases e:c=b
  ·subst e
   simp at hc;subst hc
   have e':c'≠c:=fun e=>hne e.symm
   simp [e'] at hc'
   rw [hL] at hM;cases hM
   exact h.apart c c' o x' L M' hne hb hc' hL hM' hBB j h1 (by omega) h3 h4
  ·simp [e] at hc
   by_cases e':c'=b
   ·subst e'
    simp at hc';subst hc'
    rw [hL] at hM';cases hM'
    exact h.apart c c' x o M L hne hc hb hM hL hBB j h1 h2 h3 (by omega)
   ·simp [e'] at hc'
    exact h.apart c c' x x' M M' hne hc hc' hM hM' hBB j h1 h2 h3 h4
 ·exact h.fresh
 ·intro B cells el fr hB
  by_cases e:B=L.B
  ·subst e
   rcases hsame with ⟨x',y,hx',hne,hy,hL0,hhi'⟩ | ⟨cl,cells',el',fr',h1,h2,h3,h4⟩
   ·rw [hB] at hx';cases hx';exact absurd rfl (hne _ _ _)
   ·rw [hB] at h1;cases h1
    exact ⟨cells',h2,h3,fun j hj=>h4 j fun hc=>hj (hin j hc.1 hc.2)⟩
  ·exact ⟨cells,by rw [hother B e];exact hB,rfl,fun _ _=>rfl⟩
 ·intro B x hB hne hno
  by_cases e:B=L.B
  ·subst e
   rcases hsame with ⟨x',y,hx',hne',hy,hL0,hhi'⟩ | ⟨cl,cells',el',fr',h1,h2,h3,h4⟩
   ·exact absurd (hin 0 (by omega) hhi') hno
   ·rw [hB] at h1;cases h1;exact absurd rfl (hne _ _ _)
  ·rw [hother B e];exact hB
 ·rintro B j hB ⟨c,x,M,hc,hM,hMB,h1,h2⟩
  rw [ASt.get_set] at hc
  by_cases e:c=b
  ·subst e;simp at hc;subst hc;rw [hL] at hM;cases hM
   exact ⟨c,o,L,hb,hL,hMB,h1,by omega⟩
  ·simp [e] at hc
   exact ⟨c,x,M,hc,hM,hMB,h1,h2⟩
 ·rw [ASt.get_set]
  by_cases e:d=b
  ·subst e;rw [hb] at hn;cases hn
  ·rw [if_neg e];exact hn

theorem Rep.congr{ρ:Ren}{A A':ASt}{w:World}(h:Rep ρ A w)(hg:∀ b,A'.get b=A.get b)(hn:A'.next=A.next):Rep ρ A' w:=
 ⟨fun b o hb=>h.obj b o (by rw [← hg];exact hb),fun b b' o o' L L' hne hb hb'=>h.apart b b' o o' L L' hne (by rw [← hg];exact hb) (by rw [← hg];exact hb'),fun b hb=>h.fresh b (by rw [← hn];exact hb)⟩

theorem Step0.congr{ρ ρ':Ren}{A A' A'':ASt}{w w':World}(h:Step0 ρ A w ρ' A' w')(hg:∀ b,A''.get b=A'.get b)(hn:A''.next=A'.next):Step0 ρ A w ρ' A'' w':=
 ⟨h.rep.congr hg hn,h.ext,by rw [hn];exact h.next,h.size,h.os,h.tape,h.output,h.drawn,h.cells,h.objs,fun B j hB ⟨b,o,L,hb,r⟩=>h.owns B j hB ⟨b,o,L,by rw [← hg];exact hb,r⟩⟩

theorem Step.congr{ρ ρ':Ren}{A A' A'':ASt}{w w':World}(h:Step ρ A w ρ' A' w')(hg:∀ b,A''.get b=A'.get b)(hn:A''.next=A'.next):Step ρ A w ρ' A'' w':=
 ⟨h.toStep0.congr hg hn,h.keep,fun b hb hd=>by rw [hg];exact h.dom b hb hd⟩

theorem Step0.atNext{ρ:Ren}{A:ASt}{w w':World}{L:Loc}{o:AObj}(h:Step0 ρ A w (upd ρ A.next L) (A.newAt A.next o) w'):Step ρ A w (upd ρ A.next L) (A.new o) w':=
 ⟨h.congr (fun _=>rfl) (by simp),fun b hb=>by unfold upd;rw [if_neg (by omega)],fun b hb hn=>by rw [ASt.get_new,if_neg (by omega)];exact hn⟩

theorem Step.new{ρ:Ren}{A:ASt}{w:World}(h:Rep ρ A w)(o:AObj)(ob:Obj)(L:Loc)(hB:L.B=w.heap.size)(ho:ORel (upd ρ A.next L) o L (w.alloc ob)):
  Step ρ A w (upd ρ A.next L) (A.new o) (w.alloc ob):=(Step0.newAt h A.next (h.fresh _ (Nat.le_refl _)) o ob L hB ho).atNext

end Go.AE

/- The evaluator: reading and writing rows. -/
namespace Go.AE
open Go

structure EnvOK(E:Env)(P:Program):Prop where
 ti:∀ t i,E.ti t=some i→∃ j,P.info? t=some j∧P.underlying t=some i.desc∧j.size=i.size∧j.bytes=i.bytes∧j.zero=i.zero∧j.methods=i.methods
 fn:∀ f g,E.fn f=some g→P.funcs[f]? = some g∧g.body.isSome=true∧(g.name == "runtime.NumGoroutine")=false
 bin:∀ op t xo yo x y v,E.bin op t xo yo x y=some v→∀ w,((do eqGuard op t xo yo x y;binOp op t x y):Sem Value).run P w=.ok v w
 ext:∀ f g,E.ext f=some g→∀ args v,g args=some v→∀ w,(callFunc f args.toArray).run P w=.ok (.value v) w

theorem run_und{E:Env}{P:Program}(hE:EnvOK E P){t:TypeId}{i:TIn}(w:World)(h:E.ti t=some i):(underlying t).run P w=.ok i.desc w:=by
 obtain ⟨j,_,h2,_⟩:=hE.ti t i h
 exact run_underlying h2 w
theorem run_info{E:Env}{P:Program}(hE:EnvOK E P){t:TypeId}{i:TIn}(w:World)(h:E.ti t=some i):∃ j,(typeInfo t).run P w=.ok j w∧j.size=i.size∧j.bytes=i.bytes∧j.zero=i.zero∧j.methods=i.methods:=by
 obtain ⟨j,h1,_,h3,h4,h5,h6⟩:=hE.ti t i h
 exact ⟨j,by simp [typeInfo,h1],h3,h4,h5,h6⟩
theorem run_size{E:Env}{P:Program}(hE:EnvOK E P){t:TypeId}{i:TIn}(w:World)(h:E.ti t=some i):(sizeOf t).run P w=.ok i.size w:=by
 obtain ⟨j,h1,h2,_⟩:=run_info hE w h
 simp [sizeOf,h1,h2]
theorem run_zero{E:Env}{P:Program}(hE:EnvOK E P){t:TypeId}{i:TIn}(w:World)(h:E.ti t=some i){z:Value}(hz:i.zero=some z):(zeroValue t).run P w=.ok z w:=by
 obtain ⟨j,h1,_,_,h2,_⟩:=run_info hE w h
 simp [zeroValue,h1,h2,hz]
theorem run_agg{E:Env}{P:Program}(hE:EnvOK E P){t:TypeId}{i:TIn}(w:World)(h:E.ti t=some i):(isAgg t).run P w=.ok (isAggD i.desc) w:=by
 simp only [isAgg,Sem.run_bind,run_und hE w h,Result.andThen_ok]
 unfold isAggD
 cases i.desc<;>rfl

theorem part_sound{E:Env}{P:Program}(hE:EnvOK E P){ρ:Ren}{t:TypeId}{cs:List Value}{cs':Array Value}{off:Nat}{v:Value}
  (h:partV E t cs off=some v) (hr:VsRel ρ cs cs'.toList) (w:World):∃ v',(part t cs' off).run P w=.ok v' w∧VRel ρ v v':=by
 unfold partV at h
 split at h
 ·rename_i i hi
  cases hag:isAggD i.desc with
  | true=>
   rw [hag,cond_true] at h
   cases hc:cut cs off i.size with
   | none=>rw [hc] at h;cases h
   | some r=>
    rw [hc] at h;cases h
    obtain ⟨h1,h2,h3⟩:=cut_some hc
    refine ⟨.agg (cs'.extract off (off+i.size)),?_,?_⟩
    ·simp [part,run_agg hE w hi,hag,run_size hE w hi]
    ·subst h1
     have:=VRel.agg_of ((hr.drop off).take i.size)
     have e:((cs'.toList.drop off).take i.size).toArray=cs'.extract off (off+i.size):=by
      apply Array.ext'
      simp [List.take_drop]
     rwa [e] at this
  | false=>
   rw [hag,cond_false,nth_eq] at h
   obtain ⟨v',hv',hrel⟩:=hr.get off v h
   refine ⟨v',?_,hrel⟩
   simp only [Array.getElem?_toList] at hv'
   simp [part,run_agg hE w hi,hag,hv']
 ·cases h

theorem ORel.cell{ρ:Ren}{c:List Value}{sz:Nat}{tail:Bool}{L:Loc}{w:World}(h:ORel ρ (.row c sz tail) L w){i:Nat}{v:Value}(hv:c[i]? = some v):
  ∃ v',w.cell? ⟨L.B,L.o+i,none⟩=some v'∧VRel ρ v v':=by
 obtain ⟨cells,el,lo,hi,h1,h2,h3,h4,h5,h6⟩:=h
 obtain ⟨v',a,b⟩:=h5 i v hv
 exact ⟨v',by simp [World.cell?,h1,a],b⟩

theorem ORel.cellsFrom{ρ:Ren}{c:List Value}{sz:Nat}{tail:Bool}{L:Loc}{w:World}(h:ORel ρ (.row c sz tail) L w){off n:Nat}{r:List Value}(hr:cut c off n=some r):
  ∃ r',r'.length=n∧VsRel ρ r r'∧∀ j v,r'[j]? = some v→w.cell? ⟨L.B,L.o+off+j,none⟩=some v:=by
 obtain ⟨h1,h2,h3⟩:=cut_some hr
 obtain ⟨cells,el,lo,hi,e1,e2,e3,e4,e5,e6⟩:=h
 have hget:∀ j,j<n→(((cells.toList.drop (L.o+off)).take n)[j]? = cells[L.o+off+j]?):=fun j hj=>by
  rw [List.getElem?_take_of_lt hj,List.getElem?_drop];simp
 have hlen:((cells.toList.drop (L.o+off)).take n).length=n:=by
  rcases h3 with h3 | h3
  ·subst h3;simp
  ·simp;omega
 refine ⟨(cells.toList.drop (L.o+off)).take n,hlen,?_,?_⟩
 ·refine LR.of_get (by rw [hlen,h2]) fun j a b ha hb=>?_
  have hj:j<n:=by have:=(List.getElem?_eq_some_iff.1 ha).1;omega
  rw [hget j hj] at hb
  have ha':c[off+j]? = some a:=by rw [h1,List.getElem?_take_of_lt hj,List.getElem?_drop] at ha;exact ha
  obtain ⟨v',hv',hrel⟩:=e5 _ _ ha'
  rw [show L.o+(off+j)=L.o+off+j by omega,hb] at hv'
  cases hv';exact hrel
 ·intro j v hv
  have hj:j<n:=by have:=(List.getElem?_eq_some_iff.1 hv).1;omega
  rw [hget j hj] at hv
  simp [World.cell?,e1,hv]

theorem addr_add(B o n:Nat):(⟨B,o,none⟩:Addr).add n=⟨B,o+n,none⟩:=by
 unfold Addr.add
 split
 ·rename_i h;simp [h]
 ·rfl

theorem loadCells_row{ρ:Ren}{c:List Value}{sz:Nat}{tail:Bool}{L:Loc}{w:World}(P:Program)(h:ORel ρ (.row c sz tail) L w){off n:Nat}{r:List Value}(hr:cut c off n=some r):
  ∃ r',r'.length=n∧VsRel ρ r r'∧(loadCells ⟨L.B,L.o+off,none⟩ n).run P w=.ok r'.toArray w:=by
 obtain ⟨r',h1,h2,h3⟩:=h.cellsFrom hr
 refine ⟨r',h1,h2,?_⟩
 have:=run_loadCells_list (P:=P) w ⟨L.B,L.o+off,none⟩ r' (fun j v hv=>by rw [addr_add];exact h3 j v hv)
 rwa [h1] at this

def RoOK(E:Env)(ρ:Ren)(w:World):Prop:=∀ b c,E.ro b=some c→∃ L,ρ b=some L∧∀ (i:Nat) (v:Value),c[i]? = some v→∃ v',w.cell? ⟨L.B,L.o+i,none⟩=some v'∧VRel ρ v v'

theorem LR.pick{α β:Type}{R:α→β→Prop}:∀ {r:List α} {f:Nat→Option β},(∀ (i:Nat) (v:α),r[i]? = some v→∃ v',f i=some v'∧R v v')→∃ r',LR R r r'∧∀ (i:Nat) (v':β),r'[i]? = some v'→f i=some v'
 | [],_,_=>⟨[],.nil,fun i v h=>by simp at h⟩
 | a::r,f,h=>by
  obtain ⟨b,hb,hab⟩:=h 0 a rfl
  obtain ⟨r',h1,h2⟩:=LR.pick (r:=r) (f:=fun i=>f (i+1)) fun i v hv=>h (i+1) v (by simpa using hv)
  refine ⟨b::r',.cons hab h1,fun i v' hv=>?_⟩
  cases i with
  | zero=>simp at hv;subst hv;exact hb
  | succ i=>exact h2 i v' (by simpa using hv)

theorem load_sound{E:Env}{P:Program}(hE:EnvOK E P){ρ:Ren}{A:ASt}{w:World}(hR:Rep ρ A w)(hro:RoOK E ρ w){t:TypeId}{a a' v:Value}(ha:VRel ρ a a')
  (h:aLoad E t a A=some v):∃ v',(Instr.loadAt t a').run P w=.ok v' w∧VRel ρ v v'∧∃ ad,a'=.pointer (some ad)∧(loadVar t ad).run P w=.ok v' w:=by
 unfold aLoad at h
 split at h
 ·rename_i b off
  cases ha with
  | @ptr _ _ L hb=>
   split at h
   ·rename_i c sz tail hg
    obtain ⟨L',hL',ho⟩:=hR.obj b _ hg
    rw [hb] at hL';cases hL'
    unfold partV at h
    split at h
    ·rename_i i hi
     cases hag:isAggD i.desc with
     | true=>
      rw [hag,cond_true] at h
      cases hc:cut c off i.size with
      | none=>rw [hc] at h;cases h
      | some r=>
       rw [hc] at h;cases h
       obtain ⟨r',h1,h2,h3⟩:=loadCells_row P ho hc
       have hl:(loadVar t ⟨L.B,L.o+off,none⟩).run P w=.ok (.agg r'.toArray) w:=by
        simp [loadVar,run_agg hE w hi,hag,run_size hE w hi,h3]
       exact ⟨.agg r'.toArray,by simp [Instr.loadAt,Instr.sureAddr,hl],VRel.agg_of h2,_,rfl,hl⟩
     | false=>
      rw [hag,cond_false,nth_eq] at h
      obtain ⟨v',hv',hrel⟩:=ho.cell h
      have hl:(loadVar t ⟨L.B,L.o+off,none⟩).run P w=.ok v' w:=by
       simp [loadVar,run_agg hE w hi,hag,hv']
      exact ⟨v',by simp [Instr.loadAt,Instr.sureAddr,hl],hrel,_,rfl,hl⟩
    ·cases h
   ·split at h
    ·rename_i c hc0
     obtain ⟨L',hL',hcell⟩:=hro b c hc0
     rw [hb] at hL';cases hL'
     unfold partV at h
     split at h
     ·rename_i i hi
      cases hag:isAggD i.desc with
      | true=>
       rw [hag,cond_true] at h
       cases hc:cut c off i.size with
       | none=>rw [hc] at h;cases h
       | some r=>
        rw [hc] at h;cases h
        obtain ⟨c1,c2,c3⟩:=cut_some hc
        obtain ⟨r',k1,k2⟩:=LR.pick (R:=VRel ρ) (r:=r) (f:=fun j=>w.cell? ⟨L.B,L.o+off+j,none⟩) fun j v hv=>by
         have hj:j<i.size:=by have:=(List.getElem?_eq_some_iff.1 hv).1;omega
         rw [c1,List.getElem?_take_of_lt hj,List.getElem?_drop] at hv
         obtain ⟨v',h1,h2⟩:=hcell _ _ hv
         exact ⟨v',by rw [Nat.add_assoc];exact h1,h2⟩
        have hlen:r'.length=i.size:=by rw [← k1.length,c2]
        have hl:(loadVar t ⟨L.B,L.o+off,none⟩).run P w=.ok (.agg r'.toArray) w:=by
         have h3:=run_loadCells_list (P:=P) w ⟨L.B,L.o+off,none⟩ r' (fun j v hv=>by rw [addr_add];exact k2 j v hv)
         rw [hlen] at h3
         simp [loadVar,run_agg hE w hi,hag,run_size hE w hi,h3]
        exact ⟨.agg r'.toArray,by simp [Instr.loadAt,Instr.sureAddr,hl],VRel.agg_of k1,_,rfl,hl⟩
      | false=>
       rw [hag,cond_false,nth_eq] at h
       obtain ⟨v',hv',hrel⟩:=hcell _ _ h
       have hl:(loadVar t ⟨L.B,L.o+off,none⟩).run P w=.ok v' w:=by
        simp [loadVar,run_agg hE w hi,hag,hv']
       exact ⟨v',by simp [Instr.loadAt,Instr.sureAddr,hl],hrel,_,rfl,hl⟩
     ·cases h
    ·cases h
   ·cases h
 ·cases h

/-! ### writing -/
theorem single_one{ρ:Ren}{v v':Value}(h:VRel ρ v v')(hs:single v=true):v'.oneCell'=true:=by
 cases h<;>first | rfl | (exact rawOK_one (by assumption)) | (simp [single] at hs;done)

theorem singles_one{ρ:Ren}{l r:List Value}(h:VsRel ρ l r)(hs:singles l=true):∀ v∈r,v.oneCell'=true:=by
 induction h with
 | nil=>intro v hv;simp at hv
 | cons hab _ ih=>
  simp [singles] at hs
  intro v hv
  rcases List.mem_cons.1 hv with rfl | hv
  ·exact single_one hab hs.1
  ·exact ih hs.2 v hv

theorem setCells_heap(B:Nat):∀ (vs:List Value) (o:Nat) (w:World) (c:Array Value) (el:TypeId) (fr:Nat×Nat),w.heap[B]? = some (.cells c el fr)→
  ∃ c',(w.setCells B o vs).heap[B]? = some (.cells c' el fr)∧c'.size=c.size∧(∀ j,c'[j]? = if o≤j∧j<o+vs.length∧j<c.size then vs[j-o]? else c[j]?)∧
   (w.setCells B o vs).heap.size=w.heap.size∧(∀ B',B'≠B→(w.setCells B o vs).heap[B']? = w.heap[B']?)∧
   (w.setCells B o vs).os=w.os∧(w.setCells B o vs).tape=w.tape∧(w.setCells B o vs).output=w.output∧w.drawn≤(w.setCells B o vs).drawn
 | [],o,w,c,el,fr,h=>⟨c,h,rfl,fun j=>by rw [if_neg (by simp;omega)],rfl,fun _ _=>rfl,rfl,rfl,rfl,Nat.le_refl _⟩
 | v::vs,o,w,c,el,fr,h=>by
  have hblk:(w.setCell ⟨B,o,none⟩ v).heap[B]? = some (.cells (c.setIfInBounds o v) el fr):=by
   simp only [World.setCell,Array.getElem?_modify,↓reduceIte,h,Option.map_some]
   simp
  obtain ⟨c',h1,h2,h3,h4,h5,h6,h7,h8,h9⟩:=setCells_heap B vs (o+1) (w.setCell ⟨B,o,none⟩ v) (c.setIfInBounds o v) el fr hblk
  refine ⟨c',h1,by simpa using h2,?_,by simpa [World.setCells] using h4,?_,by simpa [World.setCells,World.setCell] using h6,by simpa [World.setCells,World.setCell] using h7,by simpa [World.setCells,World.setCell] using h8,by simpa [World.setCells,World.setCell] using h9⟩
  ·intro j
   rw [h3 j]
   simp only [Array.size_setIfInBounds,List.length_cons]
   by_cases e:j=o
   ·subst e
    rw [if_neg (by omega)]
    by_cases hj:j<c.size
    ·rw [if_pos (by omega)];simp [hj]
    ·rw [if_neg (by omega),Array.getElem?_eq_none (by simp;omega),Array.getElem?_eq_none (by omega)]
   ·by_cases hin:o+1≤j∧j<o+1+vs.length∧j<c.size
    ·rw [if_pos hin,if_pos (by omega)]
     have:j-o=(j-(o+1))+1:=by omega
     rw [this];simp
    ·rw [if_neg hin,if_neg (by omega)]
     rw [Array.getElem?_setIfInBounds_ne (by omega)]
  ·intro B' hB'
   have:=h5 B' hB'
   rw [Go.RowKit.Below.heap_setCell w ⟨B,o,none⟩ v B' hB'] at this
   simpa [World.setCells] using this

theorem store_row{ρ:Ren}{A:ASt}{w:World}(P:Program)(hR:Rep ρ A w){b:Nat}{c c':List Value}{sz:Nat}{tail:Bool}{L:Loc}(hb:A.get b=some (.row c sz tail))(hL:ρ b=some L)
  {off:Nat} {vs vs':List Value} (hv:VsRel ρ vs vs') (hs:singles vs=true) (ho:over c off vs=some c') :
  ∃ w',(storeCells ⟨L.B,L.o+off,none⟩ vs').run P w=.ok () w'∧Step ρ A w ρ (A.set b (.row c' sz tail)) w':=by
 obtain ⟨L',hL',hrow⟩:=hR.obj b _ hb
 rw [hL] at hL';cases hL'
 obtain ⟨cells,el,lo,hi,e1,e2,e3,e4,e5,e6⟩:=hrow
 obtain ⟨hc',hlen⟩:=over_some ho
 have hvl:=hv.length
 have hin:∀ j,j<vs'.length→L.o+off+j<cells.size:=fun j hj=>by omega
 have hst:=run_storeCells_cells (P:=P) L.B (L.o+off) vs' 0 w
  (fun j hj=>by simp [World.cell?,e1];have:=hin j hj;omega)
  (fun j hj=>by
   simp only [World.frozen?,e1,Nat.add_zero]
   have:=e6 (L.o+off+j) (by omega) (by simp only [AObj.hi];split<;>omega)
   simpa using this)
  (singles_one hv hs)
 obtain ⟨cs,s1,s2,s3,s4,s5,s6,s7,s8,s9⟩:=setCells_heap L.B vs' (L.o+off+0) w cells el (lo,hi) e1
 refine ⟨_,hst,Step.set hR hb hL ?_ ?_ ⟨s6,s7,s8,s4,s9⟩ s5 (.inr ⟨cells,cs,el,(lo,hi),e1,s1,s2,?_⟩)⟩
 ·have hcl:c'.length=c.length:=by rw [hc'];simp;omega
  refine ⟨cs,el,lo,hi,s1,by omega,e3,by omega,fun j v hjv=>?_,fun j h1 h2=>e6 j h1 (by simpa only [AObj.hi,hcl] using h2)⟩
  rw [s3]
  have hj:j<c'.length:=(List.getElem?_eq_some_iff.1 hjv).1
  by_cases hin':off≤j∧j<off+vs.length
  ·rw [if_pos (by omega)]
   have hvj:vs[j-off]? = some v:=by
    rw [hc',List.getElem?_append_right (by simp;omega)] at hjv
    rw [List.getElem?_append_left (by simp;omega)] at hjv
    simpa [show min off c.length=off by omega] using hjv
   obtain ⟨v',hv',hrel⟩:=hv.get _ _ hvj
   exact ⟨v',by rw [show L.o+j-(L.o+off+0)=j-off by omega];exact hv',hrel⟩
  ·rw [if_neg (by omega)]
   apply e5 j v
   rw [hc'] at hjv
   by_cases hlt:j<off
   ·rw [List.getElem?_append_left (by simp;omega),List.getElem?_take_of_lt hlt] at hjv;exact hjv
   ·rw [List.getElem?_append_right (by simp;omega),List.getElem?_append_right (by simp;omega),List.getElem?_drop] at hjv
    simp at hjv
    rwa [show off+vs.length+(j-min off c.length-vs.length)=j by omega] at hjv
 ·have hcl:c'.length=c.length:=by rw [hc'];simp;omega
  simp only [AObj.hi,hcl];exact Nat.le_refl _
 ·intro j hj
  rw [s3]
  rw [if_neg]
  intro hc
  apply hj
  refine ⟨by omega,?_⟩
  simp only [AObj.hi]
  split<;>omega

theorem store_sound{E:Env}{P:Program}(hE:EnvOK E P){ρ:Ren}{A A':ASt}{w:World}(hR:Rep ρ A w){t:TypeId}{a a' v v':Value}(ha:VRel ρ a a')(hv:VRel ρ v v')
  (h:aStore E t a v A=some A'):∃ w',(Instr.storeAt t a' v').run P w=.ok () w'∧Step ρ A w ρ A' w':=by
 unfold aStore at h
 split at h
 ·rename_i b off
  cases ha with
  | @ptr _ _ L hb=>
   split at h
   ·rename_i c sz tail i hg hi
    simp only [] at h
    cases hcnd:(Nat.beq v.cells.toList.length i.size && singles v.cells.toList) with
    | false=>rw [hcnd] at h;cases h
    | true=>
     rw [hcnd,cond_true] at h
     rw [Bool.and_eq_true] at hcnd
     have hlen:=Nat.eq_of_beq_eq_true hcnd.1
     have hvr:=VsRel.cells hv
     split at h
     ·rename_i c' hc'
      cases h
      obtain ⟨w',h1,h2⟩:=store_row P hR hg hb hvr hcnd.2 hc'
      refine ⟨w',?_,h2⟩
      have hsz:v'.cells.size=i.size:=by have:=hvr.length;simp only [Array.length_toList] at this hlen;omega
      simp [Instr.storeAt,Instr.sureAddr,storeVar,run_size hE w hi,hsz,h1]
     ·cases h
   ·cases h
 ·cases h

end Go.AE

/- The evaluator: new blocks. -/
namespace Go.AE
open Go

theorem heap_alloc_new(w:World)(o:Obj):(w.alloc o).heap[w.heap.size]? = some o:=by
 show (w.heap.push o)[w.heap.size]? = some o
 simp

theorem new_row{ρ:Ren}{A:ASt}{w:World}(hR:Rep ρ A w)(id:Nat)(hid:ρ id=none){cs cs' rest:List Value}(hcs:VsRel ρ cs cs')(el:TypeId)(lo hi sz:Nat)(tail:Bool)
  (hfr:∀ j,j<cs'.length+rest.length→¬ (lo≤j∧j<hi)) :
  Step0 ρ A w (upd ρ id ⟨w.heap.size,0,cs'.length+rest.length,sz,undef⟩) (A.newAt id (.row cs sz tail)) (w.alloc (.cells (cs'++rest).toArray el (lo,hi))):=by
 have hle:ρ.le (upd ρ id ⟨w.heap.size,0,cs'.length+rest.length,sz,undef⟩):=upd_le hid
 have hl:=hcs.length
 refine Step0.newAt hR id hid _ _ _ rfl ?_
 refine ⟨(cs'++rest).toArray,el,lo,hi,heap_alloc_new _ _,by simp,rfl,by simp;omega,fun i v hv=>?_,fun j _ hj=>?_⟩
 ·obtain ⟨v',hv',hr⟩:=hcs.get i v hv
  have hi:i<cs'.length:=(List.getElem?_eq_some_iff.1 hv').1
  refine ⟨v',?_,hr.mono hle⟩
  simp [List.getElem?_append_left hi,hv']
 ·apply hfr
  simp only [AObj.hi] at hj
  split at hj<;>omega

theorem new_row_whole{ρ:Ren}{A:ASt}{w:World}(hR:Rep ρ A w)(id:Nat)(hid:ρ id=none){cs cs':List Value}(hcs:VsRel ρ cs cs')(el:TypeId)(sz:Nat):
  Step0 ρ A w (upd ρ id ⟨w.heap.size,0,cs'.length,sz,undef⟩) (A.newAt id (.row cs sz false)) (w.alloc (.cells cs'.toArray el)):=by
 have:=new_row hR id hid (rest:=[]) hcs el 0 0 sz false (fun j _=>by omega)
 simpa using this

theorem run_newRow{P:Program}(w:World)(el:TypeId)(c:Array Value):(newRow el c).run P w=.ok ⟨w.heap.size,0,none⟩ (w.alloc (.cells c el)):=by
 simp [newRow]

theorem ptr_new{ρ:Ren}{n B R sz:Nat}:VRel (upd ρ n ⟨B,0,R,sz,undef⟩) (.pointer (some ⟨n,0,none⟩)) (.pointer (some ⟨B,0,none⟩)):=by
 have:=VRel.ptr (ρ:=upd ρ n ⟨B,0,R,sz,undef⟩) (off:=0) (upd_same (ρ:=ρ) (b:=n) (L:=⟨B,0,R,sz,undef⟩))
 simpa using this

def FreshOK(P:Program)(ρ:Ren)(A:ASt)(w:World)(id:Nat)(s:Sem Value)(r:Fresh):Prop:=
 ∃ v' w' L,s.run P w=.ok v' w'∧VRel (upd ρ id L) (r.2 id) v'∧Step0 ρ A w (upd ρ id L) (A.newAt id r.1) w'

theorem box_sound{E:Env}{P:Program}{ρ:Ren}{A:ASt}{w:World}(hR:Rep ρ A w){id:Nat}(hid:ρ id=none){t:TypeId}{v v':Value}(hv:VRel ρ v v'){r:Fresh}(h:aBox E t v=some r):
  FreshOK P ρ A w id (Instr.box t v') r:=by
 unfold aBox at h
 split at h
 ·rename_i i hi
  cases h
  have hs:=new_row_whole hR id hid (VsRel.cells hv) t i.size
  refine ⟨_,_,_,?_,ptr_new,hs⟩
  simp [Instr.box,newVar,run_newRow]
 ·cases h

theorem alloc_sound{E:Env}{P:Program}(hE:EnvOK E P){ρ:Ren}{A:ASt}{w:World}(hR:Rep ρ A w){id:Nat}(hid:ρ id=none){t:TypeId}{r:Fresh}
  (h:aAlloc E t=some r):FreshOK P ρ A w id (Instr.alloc t true (.tuple #[])) r:=by
 unfold aAlloc at h
 split at h
 ·rename_i i hi
  split at h
  ·rename_i z hz
   cases hc:closed z with
   | false=>rw [hc] at h;cases h
   | true=>
    rw [hc,cond_true] at h
    cases h
    have hs:=new_row_whole hR id hid (VsRel.cells_closed (ρ:=ρ) hc) t i.size
    refine ⟨_,_,_,?_,ptr_new,hs⟩
    simp [Instr.alloc,run_zero hE w hi hz,newVar,run_newRow]
  ·cases h
 ·cases h

/-! ### building -/
theorem places_sound{E:Env}{P:Program}(hE:EnvOK E P)(w:World):∀ (l:List Field) (ps:List (Nat×Nat)),places E l=some ps→
  (l.mapM (m:=Sem) fun f=>do pure (f.offset,← sizeOf f.type)).run P w=.ok ps w
 | [],ps,h=>by simp [places] at h;subst h;simp
 | f::l,ps,h=>by
  unfold places at h
  split at h
  ·rename_i i hi
   split at h
   ·rename_i r hr
    cases h
    have ih:=places_sound hE w l r hr
    rw [List.mapM_cons]
    simp only [Sem.run_bind,run_size hE w hi,Result.andThen_ok,Sem.run_pure,ih]
   ·cases h
  ·cases h

theorem foldl_set(cells:Array Value)(off:Nat)(vs:List Value):∀ (k:Nat),off+k+vs.length≤cells.size→
  (((vs.zipIdx k).foldl (fun cs (c,j)=>cs.setIfInBounds (off+j) c) cells).toList=cells.toList.take (off+k)++(vs++cells.toList.drop (off+k+vs.length))):=by
 induction vs generalizing cells with
 | nil=>intro k _;simp
 | cons v vs ih=>
  intro k hk
  simp only [List.length_cons] at hk
  simp only [List.zipIdx_cons,List.foldl_cons]
  rw [ih (cells.setIfInBounds (off+k) v) (k+1) (by simp;omega)]
  simp only [Array.toList_setIfInBounds,List.length_cons]
  rw [List.take_set,List.drop_set]
  rw [if_pos (by omega)]
  have h1:(cells.toList.take (off+(k+1))).set (off+k) v=cells.toList.take (off+k)++[v]:=by
   apply List.ext_getElem?
   intro j
   rw [List.getElem?_set]
   by_cases e:off+k=j
   ·subst e
    rw [if_pos rfl,List.getElem?_append_right (by simp;omega)]
    rw [if_pos (by simp;omega)]
    simp [show min (off+k) cells.size=off+k by omega]
   ·rw [if_neg e]
    by_cases hlt:j<off+k
    ·rw [List.getElem?_append_left (by simp;omega)]
     simp [hlt,show j<off+(k+1) by omega]
    ·rw [List.getElem?_eq_none (by simp;omega),List.getElem?_eq_none (by simp;omega)]
  rw [h1]
  simp [show off+(k+1)+vs.length=off+k+(vs.length+1) by omega]

theorem fill_sound{ρ:Ren}(place:Nat→Option (Nat×Nat)):∀ (parts parts':List (Nat×Value)) (cells:List Value) (cells':Array Value) (r:List Value),
  LR (fun a b=>b.1=a.1∧VRel ρ a.2 b.2) parts parts'→VsRel ρ cells cells'.toList→fillV place cells parts=some r→
  ∃ r',Instr.fill place cells' parts'=some r'∧VsRel ρ r r'.toList
 | [],parts',cells,cells',r,hp,hc,h=>by
  cases hp
  simp [fillV] at h;subst h
  exact ⟨cells',rfl,hc⟩
 | (i,v)::parts,parts',cells,cells',r,hp,hc,h=>by
  cases hp with
  | @cons _ p' _ parts' hpp hp=>
   obtain ⟨i',v'⟩:=p'
   obtain ⟨rfl,hv⟩:=hpp
   simp only [fillV] at h
   simp only [Instr.fill]
   cases hpl:place i' with
   | none=>rw [hpl] at h;cases h
   | some os=>
    obtain ⟨off,size⟩:=os
    rw [hpl] at h
    simp only [] at h ⊢
    cases hb:Nat.beq v.cells.toList.length size with
    | false=>rw [hb] at h;cases h
    | true=>
     rw [hb,cond_true] at h
     have hlen:=Nat.eq_of_beq_eq_true hb
     split at h
     ·rename_i c hcc
      obtain ⟨h1,h2⟩:=over_some hcc
      have hvr:=VsRel.cells hv
      have hvl:=hvr.length
      have hcl:=hc.length
      simp only [Array.length_toList] at hlen hvl hcl h2
      rw [if_neg (by simp;omega)]
      have hfs:=foldl_set cells' off v'.cells.toList 0 (by simp;omega)
      have hfold:(v'.cells.zipIdx.foldl (fun cs (c,j)=>cs.setIfInBounds (off+j) c) cells')=((v'.cells.toList.zipIdx 0).foldl (fun cs (c,j)=>cs.setIfInBounds (off+j) c) cells'):=by
       rw [← Array.foldl_toList,Array.toList_zipIdx]
      refine fill_sound place parts parts' c _ r hp ?_ h
      rw [hfold,hfs,h1]
      have e:v.cells.toList.length=v'.cells.toList.length:=hvr.length
      rw [e]
      exact (hc.take off).append (hvr.append (hc.drop _))
     ·cases h

theorem build_sound{E:Env}{P:Program}(hE:EnvOK E P){ρ:Ren}{t:TypeId}{parts:List (Nat×Value)}{parts':Array (Nat×Value)}{v:Value}
  (hp:LR (fun a b=>b.1=a.1∧VRel ρ a.2 b.2) parts parts'.toList) (h:aBuild E t parts=some v) (w:World) :
  ∃ v',(Instr.build t parts').run P w=.ok v' w∧VRel ρ v v':=by
 unfold aBuild at h
 split at h
 ·rename_i i hi
  split at h
  ·rename_i z hz
   cases hc:closed z with
   | false=>rw [hc] at h;cases h
   | true=>
    rw [hc,cond_true] at h
    have hzr:VsRel ρ z.cells.toList z.cells.toList:=VsRel.cells_closed hc
    split at h
    ·rename_i fields hd
     split at h
     ·rename_i ps hps
      split at h
      ·rename_i cs hcs
       cases h
       have hm:=places_sound hE w fields.toList ps hps
       obtain ⟨r',h1,h2⟩:=fill_sound (ρ:=ρ) (nth ps) parts parts'.toList z.cells.toList z.cells cs hp hzr hcs
       have hmA:(fields.mapM (m:=Sem) fun f=>do pure (f.offset,← sizeOf f.type)).run P w=.ok ps.toArray w:=by
        rw [Array.mapM_eq_mapM_toList]
        simp only [Sem.run_map,hm,Result.andThen_ok]
       have hpl:(fun x=>ps.toArray[x]?)=nth ps:=by funext k;rw [nth_eq];simp
       refine ⟨.agg r',?_,by simpa using VRel.agg_of h2⟩
       simp only [Instr.build,Sem.run_bind,run_zero hE w hi hz,Result.andThen_ok,run_und hE w hi,hd,hmA,hpl,h1,Sem.run_pure]
      ·cases h
     ·cases h
    ·rename_i n elem hd
     split at h
     ·rename_i j hj
      split at h
      ·rename_i cs hcs
       cases h
       obtain ⟨r',h1,h2⟩:=fill_sound (ρ:=ρ) (fun k=>some (k*j.size,j.size)) parts parts'.toList z.cells.toList z.cells cs hp hzr hcs
       refine ⟨.agg r',?_,by simpa using VRel.agg_of h2⟩
       simp only [Instr.build,Sem.run_bind,run_zero hE w hi hz,Result.andThen_ok,run_und hE w hi,hd,run_size hE w hj,h1,Sem.run_pure]
      ·cases h
     ·cases h
    ·cases h
  ·cases h
 ·cases h

theorem reps_length{α:Type}(l:List α):∀ n,(reps l n).length=n*l.length
 | 0=>by simp [reps]
 | n+1=>by simp [reps,reps_length l n,Nat.add_mul];omega

theorem reps_get{α:Type}(l:List α):∀ (n k:Nat),k<n*l.length→(reps l n)[k]? = l[k % l.length]?
 | 0,k,h=>by simp at h
 | n+1,k,h=>by
  simp only [reps]
  have hn:(n+1)*l.length=n*l.length+l.length:=by simp [Nat.add_mul]
  rw [hn] at h
  by_cases hk:k<l.length
  ·rw [List.getElem?_append_left hk,Nat.mod_eq_of_lt hk]
  ·rw [List.getElem?_append_right (by omega),reps_get l n (k-l.length) (by omega)]
   rw [Nat.mod_eq_sub_mod (a:=k) (by omega)]

theorem reps_range(z:Array Value)(len size:Nat)(h:z.size=size):((Array.range (len*size)).map (z[· % z.size]!))=(reps z.toList len).toArray:=by
 apply Array.ext'
 apply List.ext_getElem?
 intro k
 subst h
 by_cases hk:k<len*z.size
 ·simp only [Array.toList_map,Array.toList_range,List.getElem?_map]
  rw [List.getElem?_range hk,reps_get _ _ _ (by simpa using hk)]
  have hpos:0<z.size:=by
   rcases Nat.eq_zero_or_pos z.size with e | e
   ·rw [e] at hk;simp at hk
   ·exact e
  have hlt:k % z.size<z.size:=Nat.mod_lt _ hpos
  simp [hlt]
 ·have hk':len*z.size≤k:=Nat.le_of_not_lt hk
  rw [List.getElem?_eq_none (by simpa using hk'),List.getElem?_eq_none (by simpa [reps_length] using hk')]

theorem reps_rel{ρ:Ren}{l r:List Value}(h:VsRel ρ l r):∀ n,VsRel ρ (reps l n) (reps r n)
 | 0=>.nil
 | n+1=>h.append (reps_rel h n)

theorem slice_new{ρ:Ren}{n B R sz len cap:Nat}(h:cap≠unk):VRel (upd ρ n ⟨B,0,R,sz,undef⟩) (.slice (some ⟨n,0,none⟩) len cap) (.slice (some ⟨B,0,none⟩) len cap):=by
 have:=VRel.slice (ρ:=upd ρ n ⟨B,0,R,sz,undef⟩) (off:=0) len (upd_same (ρ:=ρ) (b:=n) (L:=⟨B,0,R,sz,undef⟩)) h
 simpa using this

theorem buildSlice_sound{E:Env}{P:Program}(hE:EnvOK E P){ρ:Ren}{A:ASt}{w:World}(hR:Rep ρ A w){id:Nat}(hid:ρ id=none){t:TypeId}{len:Nat}{parts:List (Nat×Value)}{parts':Array (Nat×Value)}{r:Fresh}
  (hp:LR (fun a b=>b.1=a.1∧VRel ρ a.2 b.2) parts parts'.toList) (h:aBuildSlice E t len parts=some r) :
  FreshOK P ρ A w id (Instr.buildSlice t len parts') r:=by
 unfold aBuildSlice at h
 split at h
 ·rename_i i hi
  split at h
  ·rename_i elem hd
   split at h
   ·rename_i j hj
    split at h
    ·rename_i z hz
     cases hc:(closed z && (Nat.beq z.cells.toList.length j.size && (Nat.ble (len*j.size) 16777216 && Nat.blt len 1000000000))) with
     | false=>rw [hc] at h;cases h
     | true=>
      rw [hc,cond_true] at h
      simp only [Bool.and_eq_true] at hc
      obtain ⟨hcl,hsz,hbig,hlb⟩:=hc
      have hlen:len≠unk:=by have:len<1000000000:=Nat.le_of_ble_eq_true hlb;unfold unk;omega
      have hsz:=Nat.eq_of_beq_eq_true hsz
      have hbig:=Nat.le_of_ble_eq_true hbig
      split at h
      ·rename_i cs hcs
       cases h
       have hzr:VsRel ρ (reps z.cells.toList len) (reps z.cells.toList len):=reps_rel (VsRel.cells_closed hcl) len
       obtain ⟨r',h1,h2⟩:=fill_sound (ρ:=ρ) (fun k=>some (k*j.size,j.size)) parts parts'.toList _ (reps z.cells.toList len).toArray cs hp (by simpa using hzr) hcs
       have hs:=new_row_whole hR id hid h2 elem j.size
       refine ⟨_,_,_,?_,slice_new (ρ:=ρ) (n:=id) hlen,hs⟩
       simp only [Instr.buildSlice,Sem.run_bind,run_und hE w hi,hd,Result.andThen_ok,run_size hE w hj]
       rw [if_neg (by omega)]
       by_cases e:len*j.size=0
       ·have e0:reps z.cells.toList len=[]:=by
         apply List.eq_nil_of_length_eq_zero
         rw [reps_length];simp only [Array.length_toList] at hsz;simp;rw [hsz];exact e
        rw [e0] at h1
        rw [if_pos e]
        have hr0:Array.range 0=#[]:=rfl
        simp only [Sem.run_bind,Sem.run_pure,Result.andThen_ok,e,hr0]
        simp [h1,run_newRow]
       ·rw [if_neg e]
        have hcells:=reps_range z.cells len j.size (by simpa using hsz)
        simp only [Sem.run_bind,Sem.run_pure,Result.andThen_ok,run_zero hE w hj hz,hcells,h1,run_newRow]
      ·cases h
    ·cases h
   ·cases h
  ·cases h
 ·cases h

end Go.AE

/- The evaluator: operations on values alone. -/
namespace Go.AE
open Go

theorem kind_eq{k k':IntKind}(h:Nat.beq k.ctorIdx k'.ctorIdx=true):k=k':=by
 cases k<;>cases k'<;>first | rfl | (exact absurd h (by decide))

theorem bytesEq_eq:∀ (l r:List UInt8),bytesEq l r=(l == r)
 | [],[]=>rfl
 | [],_::_=>rfl
 | _::_,[]=>rfl
 | a::l,b::r=>by
  simp only [bytesEq,bytesEq_eq l r]
  cases h:Nat.beq a.toNat b.toNat with
  | true=>have:a=b:=UInt8.toNat_inj.1 (Nat.eq_of_beq_eq_true h);subst this;simp
  | false=>
   have:a≠b:=fun e=>Nat.ne_of_beq_eq_false h (by rw [e])
   simp [this]

theorem bytesLt_eq:∀ (l r:List UInt8),bytesLt l r=Op.bytesLess l r
 | [],[]=>by simp [bytesLt,Op.bytesLess]
 | [],_::_=>by simp [bytesLt,Op.bytesLess]
 | _::_,[]=>by simp [bytesLt,Op.bytesLess]
 | a::l,b::r=>by
  simp only [bytesLt,Op.bytesLess,bytesLt_eq l r]
  cases h:Nat.beq a.toNat b.toNat with
  | true=>have:a=b:=UInt8.toNat_inj.1 (Nat.eq_of_beq_eq_true h);subst this;simp
  | false=>
   have hne:a≠b:=fun e=>Nat.ne_of_beq_eq_false h (by rw [e])
   simp only [cond_false]
   have:(a == b)=false:=by simp [hne]
   rw [this]
   simp only [Bool.false_and,Bool.or_false]
   rw [Bool.eq_iff_iff]
   simp [Nat.blt,UInt8.lt_iff_toNat_lt]
   omega

theorem less_total:∀ (l r:List UInt8),(Op.bytesLess l r || l == r)=!Op.bytesLess r l
 | [],[]=>by simp [Op.bytesLess]
 | [],_::_=>by simp [Op.bytesLess]
 | _::_,[]=>by simp [Op.bytesLess]
 | a::l,b::r=>by
  have ih:=less_total l r
  simp only [Op.bytesLess]
  by_cases h1:a<b
  ·have h2:¬ b<a:=by simp [UInt8.lt_iff_toNat_lt] at *;omega
   have h3:(b == a)=false:=by simp;intro e;subst e;simp at h1
   simp [h1,h2,h3]
  ·by_cases h2:b<a
   ·have h3:(a == b)=false:=by simp;intro e;subst e;exact h1 h2
    have h4:a≠b:=by simpa using h3
    simp [h1,h2,h4]
   ·have:a=b:=UInt8.toNat_inj.1 (by simp [UInt8.lt_iff_toNat_lt] at h1 h2;omega)
    subst this
    simp at h1
    simpa [UInt8.lt_iff_toNat_lt] using ih

theorem intOp_sound{P:Program}{w:World}{op:BinOp}(t:TypeId){k:IntKind}{a b:Int}{v:Value}(hns:op≠.shl∧op≠.shr)(h:intOp op k a b=some v):
  (binOp op t (.int k a) (.int k b)).run P w=.ok v w∧flat v=true:=by
 cases op<;>simp only [intOp] at h<;>first
  | (cases h;exact ⟨by simp [binOp,Op.intArith,Op.intBits,Op.intCmp],rfl⟩)
  | (cases hb:(b == 0) with
     | true=>rw [hb] at h;cases h
     | false=>
       rw [hb,cond_false] at h;cases h
       have hb':b≠0:=by simpa using hb
       exact ⟨by simp [binOp,Op.intDiv,hb'],rfl⟩)
  | (exact absurd rfl hns.1)
  | (exact absurd rfl hns.2)
  | (cases h)

theorem shiftOp_sound{P:Program}{w:World}{op:BinOp}(t:TypeId){k k':IntKind}{a b:Int}{v:Value}(hs:op=.shl∨op=.shr)(h:shiftOp op k a b=some v):
  (binOp op t (.int k a) (.int k' b)).run P w=.ok v w∧flat v=true:=by
 unfold shiftOp at h
 split at h
 ·rename_i m
  have hm:¬ (Int.ofNat m<0):=by simp
  rcases hs with rfl | rfl
  ·simp only [] at h;cases h
   exact ⟨by simp only [binOp,Op.shift,if_neg hm];rfl,rfl⟩
  ·simp only [] at h;cases h
   exact ⟨by simp only [binOp,Op.shift,if_neg hm];rfl,rfl⟩
 ·cases h

theorem strOp_sound{P:Program}{w:World}{op:BinOp}(t:TypeId){a b:ByteArray}{v:Value}(h:strOp op a b=some v):
  (binOp op t (.string a) (.string b)).run P w=.ok v w∧flat v=true:=by
 have hta:a.toList=a.data.toList:=ByteArray.toList_eq a
 have htb:b.toList=b.data.toList:=ByteArray.toList_eq b
 have hbin:binOp op t (.string a) (.string b)=Op.stringOp op a b:=by cases op<;>rfl
 rw [hbin]
 cases op<;>simp only [strOp] at h<;>first
  | (cases h
     refine ⟨?_,rfl⟩
     simp only [Op.stringOp,hta,htb,bytesEq_eq,bytesLt_eq,less_total,Bool.not_not]
     first | rfl | (simp;done))
  | (cases hb:Nat.ble (a.data.toList.length+b.data.toList.length) 9223372036854775807 with
     | false=>rw [hb] at h;cases h
     | true=>
       rw [hb,cond_true] at h;cases h
       have hle:=Nat.le_of_ble_eq_true hb
       refine ⟨?_,rfl⟩
       have hsz:¬ (((a.size+b.size:Nat):Int) > IntKind.i64.max):=by
         have h1:a.size=a.data.toList.length:=rfl
         have h2:b.size=b.data.toList.length:=rfl
         have h3:IntKind.i64.max=9223372036854775807:=by decide
         rw [h1,h2,h3];omega
       have happ:a++b=⟨(a.data.toList++b.data.toList).toArray⟩:=by
         apply ByteArray.ext
         simp [ByteArray.data_append]
       simp only [Op.stringOp]
       rw [if_neg hsz,happ];rfl)
  | (cases h)

theorem run_eqGuard_other{P:Program}{w:World}(op:BinOp)(t:TypeId)(xo yo:Operand){a b:Value}(h1:¬ (a=.nilIface∧b=.nilIface))(h2:¬ ((∃ c,a=.agg c)∧∃ d,b=.agg d)):
  (eqGuard op t xo yo a b).run P w=.ok () w:=by
 cases op<;>first
  | rfl
  | (cases a<;>cases b<;>first | rfl | exact absurd ⟨rfl,rfl⟩ h1 | exact absurd ⟨⟨_,rfl⟩,⟨_,rfl⟩⟩ h2)

theorem bin_sound{E:Env}{P:Program}(hE:EnvOK E P){ρ:Ren}{op:BinOp}{t:TypeId}{xo yo:Operand}{x y x' y' v:Value}(h:aBin E op t xo yo x y=some v)
  (hx:VRel ρ x x') (hy:VRel ρ y y') (w:World) :
  ((do eqGuard op t xo yo x' y';binOp op t x' y'):Sem Value).run P w=.ok v w∧flat v=true:=by
 unfold aBin at h
 split at h
 ·-- two ints
  rename_i k a k' b
  cases hx;cases hy
  have hg:(eqGuard op t xo yo (.int k a) (.int k' b)).run P w=.ok () w:=run_eqGuard_other op t xo yo (by simp) (by simp)
  simp only [Sem.run_bind,hg,Result.andThen_ok]
  split at h
  ·exact shiftOp_sound t (.inl rfl) h
  ·exact shiftOp_sound t (.inr rfl) h
  ·rename_i h1 h2
   cases hk:Nat.beq k.ctorIdx k'.ctorIdx with
   | false=>rw [hk] at h;cases h
   | true=>
    rw [hk,cond_true] at h
    have:=kind_eq hk
    subst this
    exact intOp_sound t ⟨h1,h2⟩ h
 ·rename_i a b
  cases hx;cases hy
  have hg:(eqGuard op t xo yo (.string a) (.string b)).run P w=.ok () w:=run_eqGuard_other op t xo yo (by simp) (by simp)
  simp only [Sem.run_bind,hg,Result.andThen_ok]
  exact strOp_sound t h
 ·cases hx;cases hy
  split at h
  ·rename_i i hi
   split at h
   ·rename_i ms hd
    cases hc:(isConstOp xo || isConstOp yo) with
    | false=>rw [hc] at h;cases h
    | true=>
     rw [hc,cond_true] at h
     have hgg:(eqGuard op t xo yo .nilIface .nilIface).run P w=.ok () w:=by
      cases op<;>first
       | rfl
       | (cases xo<;>cases yo<;>first | rfl | (simp [isConstOp] at hc))
     simp only [Sem.run_bind,hgg,Result.andThen_ok]
     have heq:(Op.equal t .nilIface .nilIface).run P w=.ok true w:=by
      have hd':∀ d,(Op.equalIn (d+1) t .nilIface .nilIface).run P w=.ok true w:=fun d=>by
       simp only [Op.equalIn,Sem.run_bind,run_und hE w hi,hd,Result.andThen_ok]
       rfl
      exact hd' 9999
     split at h<;>first
      | (cases h;exact ⟨by simp [binOp,heq],rfl⟩)
      | cases h
   ·cases h
  ·cases h
 ·rename_i h1 h2 h3
  have key:∀ r,eqV E t x y=some r→(Op.equal t x' y').run P w=.ok r w∧((eqGuard op t xo yo x' y').run P w=.ok () w)∧(binOp .eql t x' y'=do pure (.bool (← Op.equal t x' y')))∧(binOp .neq t x' y'=do pure (.bool (!(← Op.equal t x' y')))):=by
   intro r hr
   unfold eqV at hr
   split at hr
   ·cases hr
   ·rename_i i hi
    split at hr<;>first
     | (cases hr;done)
     | (rename_i hd
        cases hr
        cases hx<;>cases hy<;>
        exact ⟨(fun d=>by simp only [Op.equalIn,Sem.run_bind,run_und hE w hi,hd,Result.andThen_ok]<;>rfl:∀ d,(Op.equalIn (d+1) t _ _).run P w=_) 9999,run_eqGuard_other op t xo yo (by simp) (by simp),rfl,rfl⟩)
  split at h
  ·split at h
   ·rename_i r hr
    cases h
    obtain ⟨k1,k2,k3,k4⟩:=key r hr
    refine ⟨?_,rfl⟩
    simp only [Sem.run_bind,k2,Result.andThen_ok,k3,k1,Sem.run_pure]
   ·cases h
  ·split at h
   ·rename_i r hr
    cases h
    obtain ⟨k1,k2,k3,k4⟩:=key r hr
    refine ⟨?_,rfl⟩
    simp only [Sem.run_bind,k2,Result.andThen_ok,k4,k1,Sem.run_pure]
   ·cases h
  ·cases h

theorem un_sound{P:Program}{ρ:Ren}{op:UnOp}{x x' v:Value}(h:aUn op x=some v)(hx:VRel ρ x x')(w:World):
  (Op.unary op x').run P w=.ok v w∧flat v=true:=by
 unfold aUn at h
 split at h
 ·cases hx;cases h;exact ⟨by simp [Op.unary,Op.intArith],rfl⟩
 ·cases hx
  simp only [intOp] at h
  cases h
  exact ⟨by simp [Op.unary,Op.intBits],rfl⟩
 ·cases hx;cases h;exact ⟨by simp [Op.unary],rfl⟩
 ·cases h

end Go.AE

/- The evaluator: fields, indexes, slices, conversions. -/
namespace Go.AE
open Go

theorem nilCheck_sound{P:Program}{ρ:Ren}{x x' v:Value}(h:aNilCheck x=some v)(hx:VRel ρ x x')(w:World)(ev:Operand→Value)(o:Oper)(xo:Operand)(ho:o.op=.nilCheck xo)(he:ev xo=x'):
  (execOp ev o).run P w=.ok (.value x') w∧v=x:=by
 unfold execOp
 simp only [ho,he]
 cases hx<;>simp only [aNilCheck] at h<;>first
  | (cases h;exact ⟨rfl,rfl⟩)
  | (cases h;done)
  | (rename_i fn _ _ _ _ _ _ _ _ _
     cases fn<;>first | (cases h;done) | (cases h;exact ⟨rfl,rfl⟩))

theorem makeIface_sound{E:Env}{P:Program}(hE:EnvOK E P){ρ:Ren}{t:TypeId}{x x' v:Value}(h:aMakeIface E t x=some v)(hx:VRel ρ x x')(w:World):
  ∃ v',(Instr.makeInterface t x').run P w=.ok v' w∧VRel ρ v v':=by
 unfold aMakeIface at h
 split at h
 ·rename_i i hi
  split at h
  ·cases h
  ·rename_i hne
   cases h
   refine ⟨.iface t x',?_,.iface t hx⟩
   simp only [Instr.makeInterface,Sem.run_bind,run_und hE w hi,Result.andThen_ok]
   rfl
 ·cases h

theorem fieldAddr_sound{E:Env}{P:Program}(hE:EnvOK E P){ρ:Ren}{t:TypeId}{x x' v:Value}{f:Nat}(h:aFieldAddr E t x f=some v)(hx:VRel ρ x x')(w:World):
  ∃ v',(Instr.fieldAt t x' f).run P w=.ok v' w∧VRel ρ v v':=by
 unfold aFieldAddr at h
 split at h
 ·rename_i i b off hi
  cases hx with
  | @ptr _ _ L hb=>
   split at h
   ·rename_i fields hd
    split at h
    ·rename_i fd hfd
     split at h
     ·rename_i j hj
      cases hz:Nat.beq j.size 0 with
      | true=>rw [hz] at h;cases h
      | false=>
       rw [hz,cond_false] at h;cases h
       have hne:j.size≠0:=Nat.ne_of_beq_eq_false hz
       rw [nth_eq] at hfd
       have hfd':fields[f]? = some fd:=by simpa using hfd
       refine ⟨.pointer (some ⟨L.B,L.o+off+fd.offset,none⟩),?_,?_⟩
       ·simp only [Instr.fieldAt,Sem.run_bind,run_und hE w hi,hd,Result.andThen_ok,hfd',Instr.sureAddr,Sem.run_pure,fieldPlace,run_size hE w hj,if_neg hne,addr_add]
       ·have:=VRel.ptr (off:=off+fd.offset) hb
        rwa [← Nat.add_assoc] at this
     ·cases h
    ·cases h
   ·cases h
 ·cases h

theorem field_sound{E:Env}{P:Program}(hE:EnvOK E P){ρ:Ren}{t:TypeId}{x x' v:Value}{f:Nat}(h:aField E t x f=some v)(hx:VRel ρ x x')(w:World):
  ∃ v',(Instr.field t x' f).run P w=.ok v' w∧VRel ρ v v':=by
 unfold aField at h
 split at h
 ·rename_i i cs hi
  cases hx with
  | @agg _ cs' h1 h2=>
   split at h
   ·rename_i fields hd
    split at h
    ·rename_i fd hfd
     rw [nth_eq] at hfd
     have hfd':fields[f]? = some fd:=by simpa using hfd
     obtain ⟨v',hv',hr⟩:=part_sound hE h (VsRel.of_array h1 h2) w
     refine ⟨v',?_,hr⟩
     simp only [Instr.field,Sem.run_bind,run_und hE w hi,hd,Result.andThen_ok,hfd',asAgg,Sem.run_pure,hv']
    ·cases h
   ·cases h
 ·cases h

theorem indexAddr_sound{E:Env}{P:Program}(hE:EnvOK E P){ρ:Ren}{t:TypeId}{x x' k k' v:Value}(h:aIndexAddr E t x k=some v)(hx:VRel ρ x x')(hk:VRel ρ k k')(w:World):
  ∃ v',(Instr.indexAt t x' k').run P w=.ok v' w∧VRel ρ v v':=by
 unfold aIndexAddr at h
 split at h
 ·rename_i i kd n hi
  cases hk
  split at h
  ·rename_i len e b off hd
   cases hx with
   | @ptr _ _ L hb=>
    split at h
    ·rename_i j hj
     cases hlt:Nat.blt n len with
     | false=>rw [hlt] at h;cases h
     | true=>
      rw [hlt,cond_true] at h;cases h
      have hlt':n<len:=Nat.le_of_ble_eq_true hlt
      refine ⟨.pointer (some ⟨L.B,L.o+off+n*j.size,none⟩),?_,?_⟩
      ·simp only [Instr.indexAt,asIntOf,Sem.run_bind,Sem.run_pure,Result.andThen_ok,run_und hE w hi,hd,Instr.sureAddr]
       rw [if_pos ⟨by simp,by simpa using hlt'⟩]
       simp only [Sem.run_bind,run_size hE w hj,Result.andThen_ok,Sem.run_pure,addr_add]
       rfl
      ·have:=VRel.ptr (off:=off+n*j.size) hb
       rwa [← Nat.add_assoc] at this
    ·cases h
  ·rename_i e b off len cap hd
   have key:∀ L,ρ b=some L→∀ cap',((match E.ti e with
     | some j=>cond (Nat.blt n len) (some (Value.pointer (some ⟨b,off+n*j.size,none⟩))) none
     | none=>none)=some v)→∃ v',(Instr.indexAt t (.slice (some ⟨L.B,L.o+off,none⟩) len cap') (.int kd (Int.ofNat n))).run P w=.ok v' w∧VRel ρ v v':=by
    intro L hb cap' h
    split at h
    ·rename_i j hj
     cases hlt:Nat.blt n len with
     | false=>rw [hlt] at h;cases h
     | true=>
      rw [hlt,cond_true] at h;cases h
      have hlt':n<len:=Nat.le_of_ble_eq_true hlt
      refine ⟨.pointer (some ⟨L.B,L.o+off+n*j.size,none⟩),?_,?_⟩
      ·simp only [Instr.indexAt,asIntOf,Sem.run_bind,Sem.run_pure,Result.andThen_ok,run_und hE w hi,hd]
       rw [if_pos ⟨by simp,by simpa using hlt'⟩]
       simp only [Sem.run_bind,run_size hE w hj,Result.andThen_ok,Sem.run_pure,addr_add]
       rfl
      ·have:=VRel.ptr (off:=off+n*j.size) hb
       rwa [← Nat.add_assoc] at this
    ·cases h
   cases hx with
   | @slice _ _ L _ _ hb hc=>exact key L hb _ h
   | @sliceU _ _ L _ _ _ hb hu hc=>exact key L hb _ h
  ·cases h
 ·cases h

theorem index_sound{E:Env}{P:Program}(hE:EnvOK E P){ρ:Ren}{t:TypeId}{x x' k k' v:Value}(h:aIndex E t x k=some v)(hx:VRel ρ x x')(hk:VRel ρ k k')(w:World):
  ∃ v',(Instr.index t x' k').run P w=.ok v' w∧VRel ρ v v':=by
 unfold aIndex at h
 split at h
 ·rename_i i kd n hi
  cases hk
  split at h
  ·rename_i len e cs hd
   cases hx with
   | @agg _ cs' h1 h2=>
    split at h
    ·rename_i j hj
     cases hlt:Nat.blt n len with
     | false=>rw [hlt] at h;cases h
     | true=>
      rw [hlt,cond_true] at h
      have hlt':n<len:=Nat.le_of_ble_eq_true hlt
      obtain ⟨v',hv',hr⟩:=part_sound hE h (VsRel.of_array h1 h2) w
      refine ⟨v',?_,hr⟩
      simp only [Instr.index,asIntOf,Sem.run_bind,Sem.run_pure,Result.andThen_ok,run_und hE w hi,hd]
      rw [if_pos ⟨by simp,by simpa using hlt'⟩]
      simp only [Sem.run_bind,run_size hE w hj,Result.andThen_ok]
      exact hv'
    ·cases h
  ·rename_i s hd
   cases hx
   split at h
   ·rename_i b hb
    cases h
    rw [nth_eq] at hb
    refine ⟨.int .u8 b.toNat,?_,.int _ _⟩
    simp only [Instr.index,asIntOf,Sem.run_bind,Sem.run_pure,Result.andThen_ok,run_und hE w hi,hd]
    have hlt:n<s.size:=by
     have h1:=(List.getElem?_eq_some_iff.1 hb).1
     have h2:s.data.toList.length=s.size:=rfl
     omega
    have hget:s[(Int.ofNat n).toNat]? = some b:=by
     have e:(Int.ofNat n).toNat=n:=rfl
     rw [e]
     have:s[n]? = s.data[n]?:=by
      rw [getElem?_pos s n hlt,getElem?_pos s.data n hlt];rfl
     rw [this];simpa using hb
    rw [if_pos (by simp),hget]
    rfl
   ·cases h
  ·cases h
 ·cases h

theorem extract_sound{P:Program}{ρ:Ren}{x x' v:Value}{n:Nat}(h:aExtract x n=some v)(hx:VRel ρ x x')(w:World):
  ∃ v',(Instr.extract x' n).run P w=.ok v' w∧VRel ρ v v':=by
 unfold aExtract at h
 split at h
 ·rename_i vs
  cases hx with
  | @tuple _ vs' h1 h2=>
   rw [nth_eq] at h
   obtain ⟨v',hv',hr⟩:=(VsRel.of_array h1 h2).get n v h
   have hv'':vs'[n]? = some v':=by simpa using hv'
   exact ⟨v',by simp [Instr.extract,hv''],hr⟩
 ·cases h

theorem VRel.pair{ρ:Ren}{a a' b b':Value}(h:VRel ρ a a')(k:VRel ρ b b'):VRel ρ (.tuple #[a,b]) (.tuple #[a',b']):=by
 have:=VRel.tuple_of (ρ:=ρ) (l:=[a,b]) (r:=[a',b']) (.cons h (.cons k .nil))
 simpa using this

theorem typeAssert_sound{E:Env}{P:Program}(hE:EnvOK E P){ρ:Ren}{s t:TypeId}{x x' v:Value}{ok:Bool}(h:aTypeAssert E x t ok=some v)(hx:VRel ρ x x')(w:World):
  ∃ v',(Instr.typeAssert x' s t ok).run P w=.ok v' w∧VRel ρ v v':=by
 unfold aTypeAssert at h
 split at h
 ·cases h
 ·rename_i i hi
  split at h
  ·rename_i want u y hd
   split at h
   ·rename_i j hj
    cases hx with
    | @iface _ _ y' hy=>
     obtain ⟨jj,hrun,_,_,_,hm⟩:=run_info hE w hj
     split at h
     ·rename_i hmm
      cases h
      have hmm':Instr.missingMethod want jj.methods=none:=by rw [hm];exact hmm
      cases ok with
      | false=>
       refine ⟨.iface u y',?_,.iface u hy⟩
       simp only [Instr.typeAssert,Sem.run_bind,run_und hE w hi,hd,Result.andThen_ok,hrun,hmm']
       rfl
      | true=>
       refine ⟨.tuple #[.iface u y',.bool true],?_,.pair (.iface u hy) (.bool _)⟩
       simp only [Instr.typeAssert,Sem.run_bind,run_und hE w hi,hd,Result.andThen_ok,hrun,hmm']
       rfl
     ·rename_i mm hmm
      cases ok with
      | false=>cases h
      | true=>
       rw [cond_true] at h
       split at h
       ·rename_i z hz
        cases hc:closed z with
        | false=>rw [hc] at h;cases h
        | true=>
         rw [hc,cond_true] at h;cases h
         have hmm':Instr.missingMethod want jj.methods=some mm:=by rw [hm];exact hmm
         refine ⟨.tuple #[z,.bool false],?_,.pair (.refl_closed hc) (.bool _)⟩
         simp only [Instr.typeAssert,Sem.run_bind,run_und hE w hi,hd,Result.andThen_ok,hrun,hmm']
         simp [run_zero hE w hi hz]
       ·cases h
   ·cases h
  ·cases h
  ·rename_i u y hd1
   cases hx with
   | @iface _ _ y' hy=>
    cases hut:Nat.beq u t with
    | true=>
     rw [hut,cond_true] at h
     cases h
     have:=Nat.eq_of_beq_eq_true hut
     subst this
     cases ok with
     | false=>
      refine ⟨y',?_,hy⟩
      simp only [Instr.typeAssert,Sem.run_bind,run_und hE w hi,Result.andThen_ok]
      cases hdd:i.desc<;>first | (exact absurd hdd (hd1 _)) | (simp only [hdd];rfl) | rfl
     | true=>
      refine ⟨.tuple #[y',.bool true],?_,.pair hy (.bool _)⟩
      simp only [Instr.typeAssert,Sem.run_bind,run_und hE w hi,Result.andThen_ok]
      cases hdd:i.desc<;>first | (exact absurd hdd (hd1 _)) | (simp only [hdd];rfl) | rfl
    | false=>
     rw [hut,cond_false] at h
     have hne:u≠t:=Nat.ne_of_beq_eq_false hut
     cases ok with
     | false=>cases h
     | true=>
      rw [cond_true] at h
      split at h
      ·rename_i z hz
       cases hc:closed z with
       | false=>rw [hc] at h;cases h
       | true=>
        rw [hc,cond_true] at h;cases h
        refine ⟨.tuple #[z,.bool false],?_,.pair (.refl_closed hc) (.bool _)⟩
        simp only [Instr.typeAssert,Sem.run_bind,run_und hE w hi,Result.andThen_ok]
        cases hdd:i.desc<;>first | (exact absurd hdd (hd1 _)) | (simp [hne,run_zero hE w hi hz])
      ·cases h
  ·cases h

end Go.AE
