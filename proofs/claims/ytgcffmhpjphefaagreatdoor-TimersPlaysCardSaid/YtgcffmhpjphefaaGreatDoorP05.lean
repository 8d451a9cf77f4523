/- The evaluator: a drawn region as it stands, its new blocks in flight till one that is loud stands behind them. -/
import Derived.Test.YtgcffmhpjphefaaGreatDoorP04
set_option linter.unusedSimpArgs false
set_option linter.unusedVariables false
set_option linter.unusedSectionVars false
namespace Go.AE
open Go
set_option linter.defProp false

noncomputable def fanAt(fan:List (List Nat))(i f:Nat):Bool:=
 match nth fan i with
 | some l=>hasN f l
 | none=>false
noncomputable def tkn(fan:List (List Nat))(f:Nat):List Nat→Bool
 | []=>false
 | j::lo=>fanAt fan j f || tkn fan f lo
noncomputable def seesF(base:Nat)(fan:List (List Nat))(lo:List Nat)(i:Nat):List Fl→ASt→ASt
 | [],H=>H
 | x::l,H=>cond (!tkn fan x.f lo && fanAt fan i x.f) ((seesF base fan lo i l H).set (base+x.f) x.ob) (seesF base fan lo i l H)
noncomputable def restF(base:Nat)(fan:List (List Nat))(lo:List Nat):List Fl→ASt→ASt
 | [],H=>H
 | x::l,H=>cond (tkn fan x.f lo) (restF base fan lo l H) ((restF base fan lo l H).set (base+x.f) x.ob)
noncomputable def freshPos(E:Env):Nat→List Oper→List Nat
 | _,[]=>[]
 | i,o::l=>cond (freshOp E o.op) (i::freshPos E (i+1) l) (freshPos E (i+1) l)
noncomputable def fltr(m:Nat):List Nat→List Nat
 | []=>[]
 | f::l=>cond (m.testBit f) (f::fltr m l) (fltr m l)
noncomputable def fanOf(E:Env)(all:List Oper)(an:List Nat):List (List Nat):=an.map fun m=>fltr m (freshPos E 0 all)
abbrev PendF:=Nat×Op×Tmps×Value
noncomputable def pendF(E:Env)(base:Nat)(fan:List (List Nat))(lo:List Nat)(fl:List Fl)(H:ASt):List PendF→Prop
 | []=>True
 | p::l=>(∃ A',aOp E p.2.1 p.2.2.1 (seesF base fan lo p.1 fl H)=.val p.2.2.2 A')∧pendF E base fan lo fl H l
noncomputable def pendIfF(b:Bool)(p:PendF)(l:List PendF):List PendF:=cond b (p::l) l
theorem pendIfF_t{p:PendF}{l:List PendF}:pendIfF true p l=p::l:=by simp only [pendIfF,cond_true]
theorem pendIfF_f{p:PendF}{l:List PendF}:pendIfF false p l=l:=by simp only [pendIfF,cond_false]

noncomputable def seqF(E:Env)(C:Tgt→List Value→ASt→(Value→ASt→Prop)→Prop)(n base:Nat)(ops:Array Oper)(un:List Nat)(fan:List (List Nat)):Nat→List Oper→List PendF→List Nat→List Fl→Tmps→ASt→(Tmps→ASt→Prop)→Prop
 | _,[],_,lo,fl,T,H,K=>K T (restF base fan lo fl H)
 | i,o::l,pd,lo,fl,T,H,K=>
  brW (wantedA ops T o)
   (brW (freshOp E o.op) (freshW (aFresh E o.op T) fun ob f=>putW n T o.dst (f (base+i)) fun T'=>seqF E C n base ops un fan (i+1) l pd lo (⟨i,ob⟩::fl) T' H K)
    (brW (quietOp E o.op) (stillW (aOp E o.op T { heap:=.e,next:=0 }) (aOp E o.op T (seesF base fan lo i fl H)) (fun v=>putW n T o.dst v fun T'=>seqF E C n base ops un fan (i+1) l pd lo fl T' H K) fun v=>putW n T o.dst v fun T'=>seqF E C n base ops un fan (i+1) l (pendIfF (hasN i un) (i,o.op,T,v) pd) lo fl T' H K)
     (oneW E C o.op T (seesF base fan lo i fl H) fun v H'=>pendF E base fan (i::lo) fl H' pd∧putW n T o.dst v fun T'=>seqF E C n base ops un fan (i+1) l pd (i::lo) fl T' H' K)))
   (putW n T o.dst undef fun T'=>seqF E C n base ops un fan (i+1) l pd lo fl T' H K)

noncomputable def seqFOK(E:Env)(ops:List Oper)(an:List Nat)(un:List Nat):Nat→List Oper→Bool
 | _,[]=>true
 | i,o::l=>(match nth an i with
  | some m=>Nat.blt m (2 ^ i)
  | none=>false) && ((quietOp E o.op || (freshOp E o.op || allBehind i (an.drop (i+1)))) && ((hasN i un || (!(quietOp E o.op) || safeB E i 0 ops an)) && seqFOK E ops an un (i+1) l))

@[congr] theorem seqF_congr{E:Env}{C:Tgt→List Value→ASt→(Value→ASt→Prop)→Prop}{n n' base i:Nat}{ops:Array Oper}{un:List Nat}{fan:List (List Nat)}{l:List Oper}{pd pd':List PendF}{lo lo':List Nat}{fl fl':List Fl}{T:Tmps}{H:ASt}{K:Tmps→ASt→Prop}(h:∀ _:Unit,tg n=n')(h2:pd=pd')(h3:lo=lo')(h4:fl=fl'):seqF E C n base ops un fan i l pd lo fl T H K=seqF E C n' base ops un fan i l pd' lo' fl' T H K:=by rw [← h (),← h2,← h3,← h4];rfl

section
variable {E:Env}{C:Tgt→List Value→ASt→(Value→ASt→Prop)→Prop}{n base i:Nat}{ops:Array Oper}{un:List Nat}{fan:List (List Nat)}{pd:List PendF}{lo:List Nat}{fl:List Fl}{T:Tmps}{H:ASt}{K:Tmps→ASt→Prop}
theorem seqF_nil:seqF E C n base ops un fan i [] pd lo fl T H K=K T (restF base fan lo fl H):=by rw [seqF]
theorem seqF_cons{d:Option Tmp}{op:Op}{ty:TypeId}{ps:String}{af:Array Edge}{g:Option (Nat×Bool)}{l:List Oper}:
  seqF E C n base ops un fan i (⟨d,op,ty,ps,af,g⟩::l) pd lo fl T H K=brW (wantedA ops T ⟨d,op,ty,ps,af,g⟩)
   (brW (freshOp E op) (freshW (aFresh E op T) fun ob f=>putW n T d (f (base+i)) fun T'=>seqF E C n base ops un fan (i+1) l pd lo (⟨i,ob⟩::fl) T' H K)
    (brW (quietOp E op) (stillW (aOp E op T { heap:=.e,next:=0 }) (aOp E op T (seesF base fan lo i fl H)) (fun v=>putW n T d v fun T'=>seqF E C n base ops un fan (i+1) l pd lo fl T' H K) fun v=>putW n T d v fun T'=>seqF E C n base ops un fan (i+1) l (pendIfF (hasN i un) (i,op,T,v) pd) lo fl T' H K)
     (oneW E C op T (seesF base fan lo i fl H) fun v H'=>pendF E base fan (i::lo) fl H' pd∧putW n T d v fun T'=>seqF E C n base ops un fan (i+1) l pd (i::lo) fl T' H' K)))
   (putW n T d undef fun T'=>seqF E C n base ops un fan (i+1) l pd lo fl T' H K):=by rw [seqF]
theorem seesF_nil:seesF base fan lo i [] H=H:=by rw [seesF]
theorem seesF_cons{f:Nat}{ob:AObj}{l:List Fl}:seesF base fan lo i (⟨f,ob⟩::l) H=cond (!tkn fan f lo && fanAt fan i f) ((seesF base fan lo i l H).set (base+f) ob) (seesF base fan lo i l H):=by rw [seesF]
theorem restF_nil:restF base fan lo [] H=H:=by rw [restF]
theorem restF_cons{f:Nat}{ob:AObj}{l:List Fl}:restF base fan lo (⟨f,ob⟩::l) H=cond (tkn fan f lo) (restF base fan lo l H) ((restF base fan lo l H).set (base+f) ob):=by rw [restF]
theorem tkn_nil{f:Nat}:tkn fan f []=false:=by rw [tkn]
theorem tkn_cons{f j:Nat}{l:List Nat}:tkn fan f (j::l)=(fanAt fan j f || tkn fan f l):=by rw [tkn]
theorem fanAt_eq{f:Nat}:fanAt fan i f=(match nth fan i with
 | some l=>hasN f l
 | none=>false):=by rw [fanAt]
theorem pendF_nil:pendF E base fan lo fl H []=True:=by rw [pendF]
theorem pendF_cons{j:Nat}{op:Op}{T:Tmps}{v:Value}{l:List PendF}:pendF E base fan lo fl H ((j,op,T,v)::l)=((∃ A',aOp E op T (seesF base fan lo j fl H)=.val v A')∧pendF E base fan lo fl H l):=by rw [pendF]
end

/-! ### what is so of it -/
theorem freshPos_mem{E:Env}{f:Nat}:∀ {l:List Oper} {i:Nat},(∃ k o,l[k]? = some o∧i+k=f∧freshOp E o.op=true)→f∈freshPos E i l
 | [],i,h=>by obtain ⟨k,o,h,_⟩:=h;simp at h
 | x::l,i,h=>by
  obtain ⟨k,o,h1,h2,h3⟩:=h
  unfold freshPos
  cases k with
  | zero=>
   simp at h1;subst h1
   rw [h3,cond_true]
   have:i=f:=by omega
   subst this
   exact List.mem_cons_self ..
  | succ k=>
   have ih:=freshPos_mem (l:=l) (i:=i+1) ⟨k,o,by simpa using h1,(by omega:i+1+k=f),h3⟩
   cases freshOp E x.op with
   | true=>rw [cond_true];exact List.mem_cons_of_mem _ ih
   | false=>rw [cond_false];exact ih
theorem fltr_has{m f:Nat}:∀ {l:List Nat},f∈l→hasN f (fltr m l)=m.testBit f
 | [],h=>by cases h
 | x::l,h=>by
  unfold fltr
  by_cases e:f=x
  ·subst e
   cases hb:m.testBit f with
   | true=>rw [cond_true];unfold hasN;rw [Nat.beq_refl,Bool.true_or]
   | false=>
    rw [cond_false]
    have:∀ {l:List Nat},hasN f (fltr m l)=false:=by
     intro l
     induction l with
     | nil=>rfl
     | cons y l ih=>
      unfold fltr
      cases hy:m.testBit y with
      | false=>rw [cond_false];exact ih
      | true=>
       rw [cond_true]
       unfold hasN
       rw [ih,Bool.or_false,nbeq]
       have:¬ f=y:=fun e=>by rw [e,hy] at hb;cases hb
       simp [this]
    exact this
  ·have ih:=fltr_has (m:=m) (l:=l) (by simpa [e] using h)
   cases m.testBit x with
   | true=>
    rw [cond_true]
    unfold hasN
    rw [ih,nbeq]
    simp [e]
   | false=>rw [cond_false];exact ih
theorem fanOf_at{E:Env}{all:List Oper}{an:List Nat}{i m f:Nat}(hm:nth an i=some m)(hf:f∈freshPos E 0 all):fanAt (fanOf E all an) i f=m.testBit f:=by
 unfold fanAt fanOf
 rw [nth_map,hm]
 exact fltr_has hf

theorem seqFOK_spec{E:Env}{an un:List Nat}{all:List Oper}:∀ {l:List Oper} {i:Nat},seqFOK E all an un i l=true→∀ k o,l[k]? = some o→(∃ m,nth an (i+k)=some m∧m<2 ^ (i+k))∧(quietOp E o.op=true∨freshOp E o.op=true∨Ahead an (i+k))∧(hasN (i+k) un=false→quietOp E o.op=true→safeB E (i+k) 0 all an=true)
 | [],i,_,k,o,ho=>by simp at ho
 | x::l,i,h,k,o,ho=>by
  unfold seqFOK at h
  simp only [Bool.and_eq_true] at h
  obtain ⟨h1,h2,h3,h4⟩:=h
  cases k with
  | zero=>
   simp at ho;subst ho
   refine ⟨?_,?_,?_⟩
   ·split at h1
    ·rename_i m hm;exact ⟨m,hm,Nat.le_of_ble_eq_true h1⟩
    ·cases h1
   ·rw [Bool.or_eq_true,Bool.or_eq_true] at h2
    rcases h2 with h2 | h2 | h2
    ·exact .inl h2
    ·exact .inr (.inl h2)
    ·refine .inr (.inr fun j m hj hm=>allBehind_spec h2 (j-(i+1)) m ?_)
     rw [List.getElem?_drop,← nth_eq,show i+1+(j-(i+1))=j by omega];exact hm
   ·intro hu hq
    rw [Nat.add_zero] at hu ⊢
    rw [hu,hq] at h3
    simpa using h3
  | succ k=>
   have:=seqFOK_spec h4 k o (by simpa using ho)
   rwa [show i+1+k=i+(k+1) by omega] at this

section
variable {E:Env}{n base:Nat}{ops:Array Oper}{an un:List Nat}

structure SF(E:Env)(base:Nat)(all:List Oper)(an:List Nat)(pd:List PendF)(lo:List Nat)(i:Nat)(s:PSt):Prop where
 hlo:∀ b,s.louds.testBit b=true↔b∈lo
 fls:∀ x∈s.fl,x.f<i∧x.f∈freshPos E 0 all
 lou:∀ b∈lo,b<i∧b<an.length∧Ahead an b
 mask:∀ e∈s.hist,∀ b,e.1.testBit b=true→b<i
 hist:∀ e∈s.hist,e=(s.louds,s.H)∨∃ b,s.louds.testBit b=true∧e.1.testBit b=false
 vq:∀ r∈s.reads,valEq r.v r.v=true
 reads:∀ r∈s.reads,r.i<i∧RI E base an s r∧(Safe E all an r.i∨(r.i,r.o,r.T,r.v)∈pd)

theorem SF.readsOK{all:List Oper}{pd:List PendF}{lo:List Nat}{i:Nat}{s:PSt}(h:SF E base all an pd lo i s):Go.AE.readsOK E base an s s.reads=true:=by
 have:∀ l,(∀ r∈l,r∈s.reads)→Go.AE.readsOK E base an s l=true:=by
  intro l
  induction l with
  | nil=>intro _;rfl
  | cons r l ih=>
   intro hl
   unfold Go.AE.readsOK
   rw [Bool.and_eq_true]
   refine ⟨?_,ih fun x hx=>hl x (by simp [hx])⟩
   obtain ⟨m,hm,hr⟩:=(h.reads r (hl r (by simp))).2.1.ok
   rw [hm]
   exact hr
 exact this _ fun r hr=>hr

theorem tkn_spec{all:List Oper}{f:Nat}{louds:Nat}(hf:f∈freshPos E 0 all)(hb:∀ b,louds.testBit b=true→b<an.length):∀ {lo:List Nat},(∀ b,louds.testBit b=true↔b∈lo)→takenAt louds f 0 an=tkn (fanOf E all an) f lo:=by
 intro lo hlo
 have h2:∀ {lo:List Nat},(∀ b∈lo,b<an.length)→(tkn (fanOf E all an) f lo=true↔∃ b∈lo,∃ m,nth an b=some m∧m.testBit f=true):=by
  intro lo
  induction lo with
  | nil=>intro _;simp [tkn]
  | cons j lo ih=>
   intro hlt
   unfold tkn
   rw [Bool.or_eq_true,ih fun b hb=>hlt b (by simp [hb])]
   have hj:nth an j=some (an[j]'(hlt j (by simp))):=by rw [nth_eq];exact List.getElem?_eq_getElem _
   rw [fanOf_at hj hf]
   constructor
   ·rintro (h | ⟨b,hb,h⟩)
    ·exact ⟨j,by simp,_,hj,h⟩
    ·exact ⟨b,by simp [hb],h⟩
   ·rintro ⟨b,hb,m,h3,h4⟩
    rcases List.mem_cons.1 hb with rfl | hb
    ·rw [hj] at h3;cases h3;exact .inl h4
    ·exact .inr ⟨b,hb,m,h3,h4⟩
 have h2:=h2 (lo:=lo) fun b hb'=>hb b ((hlo b).2 hb')
 have h1:=takenAt_spec (mask:=louds) (f:=f) (l:=an) (k:=0)
 cases hc:tkn (fanOf E all an) f lo with
 | true=>
  obtain ⟨b,hbm,m,h3,h4⟩:=h2.1 hc
  exact h1.2 ⟨b,m,by rw [← nth_eq];exact h3,by rw [Nat.zero_add];exact (hlo b).2 hbm,h4⟩
 | false=>
  rw [Bool.eq_false_iff]
  intro ht
  obtain ⟨j,m,h3,h4,h5⟩:=h1.1 ht
  rw [Nat.zero_add] at h4
  have:=h2.2 ⟨j,(hlo j).1 h4,m,by rw [nth_eq];exact h3,h5⟩
  rw [hc] at this;cases this

theorem sees_view{all:List Oper}{lo:List Nat}{louds i m:Nat}{A:ASt}(hm:nth an i=some m)(hb:∀ b,louds.testBit b=true→b<an.length)(hlo:∀ b,louds.testBit b=true↔b∈lo):∀ {fl:List Fl},(∀ x∈fl,x.f∈freshPos E 0 all)→viewAt base an louds m fl A=seesF base (fanOf E all an) lo i fl A
 | [],_=>rfl
 | x::l,h=>by
  have ih:=sees_view (A:=A) hm hb hlo (fl:=l) fun y hy=>h y (by simp [hy])
  unfold viewAt at ih ⊢
  unfold addFl seesF
  rw [ih,tkn_spec (h x (by simp)) hb hlo,fanOf_at hm (h x (by simp))]
theorem rest_view{all:List Oper}{lo:List Nat}{louds:Nat}{A:ASt}(hb:∀ b,louds.testBit b=true→b<an.length)(hlo:∀ b,louds.testBit b=true↔b∈lo):∀ {fl:List Fl},(∀ x∈fl,x.f∈freshPos E 0 all)→addFl base (fun f=>!takenAt louds f 0 an) fl A=restF base (fanOf E all an) lo fl A
 | [],_=>rfl
 | x::l,h=>by
  have ih:=rest_view (A:=A) hb hlo (fl:=l) fun y hy=>h y (by simp [hy])
  unfold addFl restF
  rw [ih,tkn_spec (h x (by simp)) hb hlo]
  cases tkn (fanOf E all an) x.f lo<;>rfl

theorem pendF_mem{fan:List (List Nat)}{lo:List Nat}{fl:List Fl}{H:ASt}:∀ {l:List PendF},pendF E base fan lo fl H l→∀ p∈l,∃ A',aOp E p.2.1 p.2.2.1 (seesF base fan lo p.1 fl H)=.val p.2.2.2 A'
 | [],_,p,hp=>by cases hp
 | q::l,h,p,hp=>by
  rcases List.mem_cons.1 hp with rfl | hp
  ·exact h.1
  ·exact pendF_mem h.2 p hp

theorem planN_seqF{R:Tgt→List Value→ASt→(Value→ASt→Prop)→Prop}{all:List Oper}(hall:ops.toList=all)(hlen:an.length=all.length)(hok:seqFOK E all an un 0 all=true){K:Tmps→ASt→Prop}:∀ (l:List Oper) (pd:List PendF) (lo:List Nat) (i:Nat) (s:PSt),all.drop i=l→SF E base all an pd lo i s→seqF E (conC R) n base ops un (fanOf E all an) i l pd lo s.fl s.T s.H K→
  (planN E (conCall R) n base ops an i l s).all fun s'=>Go.AE.readsOK E base an s' s'.reads=true∧K s'.T (addFl base (fun f=>!takenAt s'.louds f 0 an) s'.fl s'.H)
 | [],pd,lo,i,s,hl,hs,h=>by
  unfold planN
  refine ⟨hs.readsOK,?_⟩
  have hi:∀ b,s.louds.testBit b=true→b<an.length:=fun b hb=>(hs.lou b ((hs.hlo b).1 hb)).2.1
  rw [rest_view hi hs.hlo fun x hx=>(hs.fls x hx).2]
  unfold seqF at h
  exact h
 | o::l,pd,lo,i,s,hl,hs,h=>by
  have ho:all[i]? = some o:=by
   have:(all.drop i)[0]? = some o:=by rw [hl];rfl
   simpa using this
  have hl':all.drop (i+1)=l:=by
   have:(all.drop i).drop 1=l:=by rw [hl];rfl
   rwa [List.drop_drop] at this
  obtain ⟨⟨m,hm,hmlt⟩,hah,hsf⟩:=seqFOK_spec hok i o ho
  rw [Nat.zero_add] at hm hmlt hah hsf
  have hilen:i<an.length:=by
   rw [nth_eq] at hm
   exact (List.getElem?_eq_some_iff.1 hm).1
  have low:∀ j m,nth an j=some m→∀ b,m.testBit b=true→b<j:=by
   intro j m hm b hb
   have hj:j<all.length:=by
    rw [nth_eq] at hm
    have:=(List.getElem?_eq_some_iff.1 hm).1
    omega
   obtain ⟨⟨m',hm',hlt⟩,_⟩:=seqFOK_spec hok j all[j] (by simp [hj])
   rw [Nat.zero_add] at hm' hlt
   rw [hm] at hm';cases hm'
   rcases Nat.lt_or_ge b j with h | h
   ·exact h
   ·rw [Nat.testBit_lt_two_pow (Nat.lt_of_lt_of_le hlt (Nat.pow_le_pow_right (by omega) h))] at hb
    cases hb
  have hi:∀ b,s.louds.testBit b=true→b<an.length:=fun b hb=>(hs.lou b ((hs.hlo b).1 hb)).2.1
  have hfl:∀ x∈s.fl,x.f∈freshPos E 0 all:=fun x hx=>(hs.fls x hx).2
  have hv:viewAt base an s.louds m s.fl s.H=seesF base (fanOf E all an) lo i s.fl s.H:=sees_view hm hi hs.hlo hfl
  have up:∀ b∈lo,b<i+1∧b<an.length∧Ahead an b:=fun b hb=>⟨Nat.lt_succ_of_lt (hs.lou b hb).1,(hs.lou b hb).2⟩
  have still:∀ {T':Tmps},SF E base all an pd lo (i+1) { s with T:=T' }:=fun {T'}=>
   ⟨hs.hlo,fun x hx=>⟨Nat.lt_succ_of_lt (hs.fls x hx).1,(hs.fls x hx).2⟩,up,fun e he b hb=>Nat.lt_succ_of_lt (hs.mask e he b hb),hs.hist,hs.vq,fun r hr=>⟨Nat.lt_succ_of_lt (hs.reads r hr).1,(hs.reads r hr).2⟩⟩
  unfold seqF at h
  have rd:∀ {v:Value} {A1:ASt} {T':Tmps},quietOp E o.op=true→aOp E o.op s.T (seesF base (fanOf E all an) lo i s.fl s.H)=.val v A1→valEq v v=true→SF E base all an (pendIfF (hasN i un) (i,o.op,s.T,v) pd) lo (i+1) { s with T:=T',reads:=⟨i,o.op,s.T,v⟩::s.reads }:=by
   intro v A1 T' hq h1 hval
   have hsub:∀ p∈pd,p∈pendIfF (hasN i un) (i,o.op,s.T,v) pd:=fun p hp=>by
    cases hu:hasN i un with
    | true=>exact List.mem_cons_of_mem _ hp
    | false=>exact hp
   refine ⟨hs.hlo,fun x hx=>⟨Nat.lt_succ_of_lt (hs.fls x hx).1,(hs.fls x hx).2⟩,up,fun e he b hb=>Nat.lt_succ_of_lt (hs.mask e he b hb),hs.hist,fun r hr=>?_,fun r hr=>?_⟩
   ·rcases List.mem_cons.1 hr with rfl | hr
    ·exact hval
    ·exact hs.vq r hr
   rcases List.mem_cons.1 hr with rfl | hr
   ·refine ⟨Nat.lt_succ_self _,⟨m,hm,fun e he=>?_⟩,?_⟩
    ·rcases hs.hist e he with rfl | ⟨b,h2,h3⟩
     ·refine .inr (.inr ⟨⟨A1,?_⟩,hval⟩)
      show aOp E o.op s.T (viewAt base an s.louds m s.fl s.H)=_
      rw [hv];exact h1
     ·have hb:=hs.lou b ((hs.hlo b).1 h2)
      exact .inl ⟨b,hb.2.2 i m hb.1 hm,h2,h3⟩
    ·cases hun:hasN i un with
     | true=>exact .inr (List.mem_cons_self ..)
     | false=>exact .inl fun j o' m' hj hm' hlb hij=>safeB_spec (hsf hun hq) j o' m' hj (by rw [← nth_eq];exact hm') hlb (by simpa using hij)
   ·exact ⟨Nat.lt_succ_of_lt (hs.reads r hr).1,(hs.reads r hr).2.1,(hs.reads r hr).2.2.imp id (hsub _)⟩
  -- one state behind
  have one:∀ s',planStep E (conCall R) n base ops an i o s=some s'→∀ pd' lo',SF E base all an pd' lo' (i+1) s'→seqF E (conC R) n base ops un (fanOf E all an) (i+1) l pd' lo' s'.fl s'.T s'.H K→(planN E (conCall R) n base ops an i (o::l) s).all fun s'=>Go.AE.readsOK E base an s' s'.reads=true∧K s'.T (addFl base (fun f=>!takenAt s'.louds f 0 an) s'.fl s'.H):=by
   intro s' hs' pd' lo' h1 h2
   unfold planN
   rw [hs']
   exact planN_seqF hall hlen hok l pd' lo' (i+1) s' hl' h1 h2
  cases hw:wantedA ops s.T o with
  | false=>
   obtain ⟨T',hT,hk⟩:=putW_putN (h.2 hw)
   refine one { s with T:=T' } ?_ pd lo still hk
   unfold planStep
   rw [hm]
   simp only [hw,cond_false,hT]
  | true=>
   have h:=h.1 hw
   cases hf:freshOp E o.op with
   | true=>
    have h:=h.1 hf
    unfold freshW at h
    split at h
    case h_2=>exact h.elim
    rename_i ob f hfr
    obtain ⟨T',hT,hk⟩:=putW_putN h
    refine one { s with T:=T',fl:=⟨i,ob⟩::s.fl } ?_ pd lo ?_ hk
    ·unfold planStep
     rw [hm]
     simp only [hw,cond_true,hf,hfr,hT]
    ·refine ⟨hs.hlo,fun x hx=>?_,up,fun e he b hb=>Nat.lt_succ_of_lt (hs.mask e he b hb),hs.hist,hs.vq,fun r hr=>⟨Nat.lt_succ_of_lt (hs.reads r hr).1,?_,(hs.reads r hr).2.2⟩⟩
     ·rcases List.mem_cons.1 hx with rfl | hx
      ·exact ⟨Nat.lt_succ_self _,freshPos_mem ⟨i,o,ho,Nat.zero_add _,hf⟩⟩
      ·exact ⟨Nat.lt_succ_of_lt (hs.fls x hx).1,(hs.fls x hx).2⟩
     ·obtain ⟨hlt,⟨m',hm',he⟩,_⟩:=hs.reads r hr
      refine ⟨m',hm',fun e hee=>?_⟩
      rcases he e hee with h1 | h1 | ⟨⟨A',h1⟩,h2⟩
      ·exact .inl h1
      ·exact .inr (.inl h1)
      ·refine .inr (.inr ⟨⟨A',?_⟩,h2⟩)
       rw [← h1]
       show aOp E r.o r.T (addFl base _ (⟨i,ob⟩::s.fl) e.2)=_
       conv=>lhs;unfold addFl
       have:m'.testBit i=false:=by
        rw [Bool.eq_false_iff]
        intro hc
        have:=low r.i m' hm' i hc
        omega
       simp only [this,Bool.and_false,cond_false]
       rfl
   | false=>
    have h:=h.2 hf
    cases hq:quietOp E o.op with
    | true=>
     have h:=h.1 hq
     cases h0:aOp E o.op s.T { heap:=.e,next:=0 } with
     | val v A0=>
      rw [h0] at h
      obtain ⟨T',hT,hk⟩:=putW_putN (K:=fun T'=>seqF E (conC R) n base ops un (fanOf E all an) (i+1) l pd lo s.fl T' s.H K) h
      refine one { s with T:=T' } ?_ pd lo still hk
      unfold planStep
      rw [hm]
      simp only [hw,cond_true,hf,cond_false,hq,h0,hT]
     | enter t a A0=>
      rw [h0] at h
      simp only [stillW] at h
      cases h1:aOp E o.op s.T (seesF base (fanOf E all an) lo i s.fl s.H) with
      | val v A1=>
       rw [h1] at h
       obtain ⟨hval,hp⟩:=h
       obtain ⟨T',hT,hk⟩:=putW_putN hp
       refine one { s with T:=T',reads:=⟨i,o.op,s.T,v⟩::s.reads } ?_ _ lo ?_ hk
       ·unfold planStep
        rw [hm]
        simp only [hw,cond_true,hf,cond_false,hq,h0,hv,h1,hT]
       ·exact rd hq h1 hval
      | enter _ _ _=>rw [h1] at h;exact h.elim
      | bad _=>rw [h1] at h;exact h.elim
     | bad why=>
      rw [h0] at h
      simp only [stillW] at h
      cases h1:aOp E o.op s.T (seesF base (fanOf E all an) lo i s.fl s.H) with
      | val v A1=>
       rw [h1] at h
       obtain ⟨hval,hp⟩:=h
       obtain ⟨T',hT,hk⟩:=putW_putN hp
       refine one { s with T:=T',reads:=⟨i,o.op,s.T,v⟩::s.reads } ?_ _ lo ?_ hk
       ·unfold planStep
        rw [hm]
        simp only [hw,cond_true,hf,cond_false,hq,h0,hv,h1,hT]
       ·exact rd hq h1 hval
      | enter _ _ _=>rw [h1] at h;exact h.elim
      | bad _=>rw [h1] at h;exact h.elim
    | false=>
     have h:=oneW_con (h.2 hq)
     have hA:Ahead an i:=by
      rcases hah with h2 | h2 | h2
      ·rw [hq] at h2;cases h2
      ·rw [hf] at h2;cases h2
      ·exact h2
     have hlm:∀ b,s.louds.testBit b=true→m.testBit b=true:=fun b hb=>(hs.lou b ((hs.hlo b).1 hb)).2.2 i m (hs.lou b ((hs.hlo b).1 hb)).1 hm
     have hbeq:Nat.beq (m &&& s.louds) s.louds=true:=by
      have:m &&& s.louds=s.louds:=by
       apply Nat.eq_of_testBit_eq
       intro b
       rw [Nat.testBit_and]
       cases hb:s.louds.testBit b with
       | true=>rw [hlm b hb];rfl
       | false=>simp
      rw [this];exact Nat.beq_refl _
     have hloud:loudB E o=true:=by unfold loudB;rw [hf,hq];rfl
     have hvq:∀ r∈s.reads,valEq r.v r.v=true:=hs.vq
     have nxt:∀ (T':Tmps) (H':ASt),pendF E base (fanOf E all an) (i::lo) s.fl H' pd→SF E base all an pd (i::lo) (i+1) { T:=T',H:=H',fl:=s.fl,louds:=s.louds ||| 2 ^ i,hist:=(s.louds ||| 2 ^ i,H')::s.hist,reads:=s.reads }:=by
      intro T' H' hpw
      have hpd:=pendF_mem hpw
      have hbit:∀ b,(s.louds ||| 2 ^ i).testBit b=true↔b∈i::lo:=by
       intro b
       rw [Nat.testBit_or,Bool.or_eq_true,Nat.testBit_two_pow,List.mem_cons,hs.hlo]
       constructor
       ·rintro (h | h)
        ·exact .inr h
        ·exact .inl (by simpa using h:i=b).symm
       ·rintro (h | h)
        ·exact .inr (by simp [h])
        ·exact .inl h
      have hbiti:(s.louds ||| 2 ^ i).testBit i=true:=by rw [Nat.testBit_or,Nat.testBit_two_pow_self,Bool.or_true]
      have hup:∀ b∈i::lo,b<i+1∧b<an.length∧Ahead an b:=by
       intro b hb
       rcases List.mem_cons.1 hb with rfl | hb
       ·exact ⟨Nat.lt_succ_self _,hilen,hA⟩
       ·exact up b hb
      refine ⟨hbit,fun x hx=>⟨Nat.lt_succ_of_lt (hs.fls x hx).1,(hs.fls x hx).2⟩,hup,fun e he b hb=>?_,fun e he=>?_,hs.vq,fun r hr=>⟨Nat.lt_succ_of_lt (hs.reads r hr).1,?_,(hs.reads r hr).2.2⟩⟩
      ·rcases List.mem_cons.1 he with rfl | he
       ·exact (hup b ((hbit b).1 hb)).1
       ·exact Nat.lt_succ_of_lt (hs.mask e he b hb)
      ·rcases List.mem_cons.1 he with rfl | he
       ·exact .inl rfl
       ·refine .inr ⟨i,hbiti,?_⟩
        rw [Bool.eq_false_iff]
        intro hc
        have:=hs.mask e he i hc
        omega
      ·obtain ⟨hlt,⟨m',hm',hre⟩,hsafe⟩:=hs.reads r hr
       refine ⟨m',hm',fun e he=>?_⟩
       rcases List.mem_cons.1 he with rfl | he
       ·rcases hsafe with hsafe | hpend
        ·exact .inr (.inl ⟨i,m,hbiti,hm,hsafe i o m ho hm hloud hlt⟩)
        ·obtain ⟨A',hA'⟩:=hpd _ hpend
         refine .inr (.inr ⟨⟨A',?_⟩,hvq r hr⟩)
         rw [← hA']
         exact congrArg (aOp E r.o r.T) (sees_view hm' (fun b hb=>(hup b ((hbit b).1 hb)).2.1) hbit hfl)
       ·rcases hre e he with ⟨b,h1,h2,h3⟩ | h1 | h1
        ·refine .inl ⟨b,h1,?_,h3⟩
         show (s.louds ||| 2 ^ i).testBit b=true
         rw [Nat.testBit_or,h2,Bool.true_or]
        ·exact .inr (.inl h1)
        ·exact .inr (.inr h1)
     cases hr:oneOp E (conCall R) o s.T (seesF base (fanOf E all an) lo i s.fl s.H) with
     | ret r=>
      rw [hr] at h
      obtain ⟨T',hT,hk⟩:=putW_putN (K:=fun T'=>seqF E (conC R) n base ops un (fanOf E all an) (i+1) l pd (i::lo) s.fl T' r.2 K) h.2
      refine one { T:=T',H:=r.2,fl:=s.fl,louds:=s.louds ||| 2 ^ i,hist:=(s.louds ||| 2 ^ i,r.2)::s.hist,reads:=s.reads } ?_ pd (i::lo) (nxt _ _ h.1) hk
      unfold planStep
      rw [hm]
      simp only [hw,cond_true,hf,cond_false,hq,hbeq,hv,hr,hT]
     | _=>
      have hnone:planStep E (conCall R) n base ops an i o s=none:=by
       unfold planStep
       rw [hm]
       simp only [hw,cond_true,hf,cond_false,hq,hbeq,hv,hr]
      have hb:allBehind i (an.drop (i+1))=true:=allBehind_of fun k m' hk=>by
       rw [List.getElem?_drop,← nth_eq] at hk
       exact hA _ m' (by omega) hk
      unfold planN
      rw [hnone,hm]
      simp only [hw,hf,hq,hbeq,hb,hs.readsOK,Bool.not_false,Bool.and_self,cond_true,hv]
      refine Nd.all_bind' _ (Nd.all_mono (fun r hr2=>?_) h)
      obtain ⟨T',hT,hk⟩:=putW_putN (K:=fun T'=>seqF E (conC R) n base ops un (fanOf E all an) (i+1) l pd (i::lo) s.fl T' r.2 K) hr2.2
      simp only [hT]
      exact planN_seqF hall hlen hok l pd (i::lo) (i+1) _ hl' (nxt _ _ hr2.1) hk
end

theorem seqF_strip{E:Env}{C:Tgt→List Value→ASt→(Value→ASt→Prop)→Prop}{n base:Nat}{all:List Oper}{un:List Nat}{fan:List (List Nat)}{K:Tmps→ASt→Prop}:∀ {l:List Oper} {i:Nat} {pd:List PendF} {lo:List Nat} {fl:List Fl} {T:Tmps} {H:ASt},seqF E C n base (all.map strip).toArray un fan i (l.map strip) pd lo fl T H K=seqF E C n base all.toArray un fan i l pd lo fl T H K
 | [],_,_,_,_,_,_=>by rw [List.map_nil,seqF,seqF]
 | o::l,i,pd,lo,fl,T,H=>by
  have ih:∀ pd lo fl H,(fun T'=>seqF E C n base (all.map strip).toArray un fan (i+1) (l.map strip) pd lo fl T' H K)=fun T'=>seqF E C n base all.toArray un fan (i+1) l pd lo fl T' H K:=fun pd lo fl H=>funext fun T'=>seqF_strip (l:=l)
  have hb:∀ {b b':Bool} {x x' y y':Prop},b=b'→x=x'→y=y'→brW b x y=brW b' x' y':=fun h1 h2 h3=>by rw [h1,h2,h3]
  rw [List.map_cons]
  unfold seqF
  refine hb wantedA_strip (hb rfl ?_ (hb rfl ?_ ?_)) ?_
  ·refine congrArg (freshW (aFresh E o.op T)) (funext fun ob=>funext fun f=>?_)
   show putW n T o.dst (f (base+i)) (fun T'=>seqF E C n base (all.map strip).toArray un fan (i+1) (l.map strip) pd lo (⟨i,ob⟩::fl) T' H K)=_
   rw [ih]
  ·show stillW (aOp E o.op T { heap:=.e,next:=0 }) (aOp E o.op T (seesF base fan lo i fl H)) (fun v=>putW n T o.dst v (fun T'=>seqF E C n base (all.map strip).toArray un fan (i+1) (l.map strip) pd lo fl T' H K)) (fun v=>putW n T o.dst v (fun T'=>seqF E C n base (all.map strip).toArray un fan (i+1) (l.map strip) (pendIfF (hasN i un) (i,o.op,T,v) pd) lo fl T' H K))=_
   have h1:(fun v=>putW n T o.dst v (fun T'=>seqF E C n base (all.map strip).toArray un fan (i+1) (l.map strip) pd lo fl T' H K))=fun v=>putW n T o.dst v (fun T'=>seqF E C n base all.toArray un fan (i+1) l pd lo fl T' H K):=funext fun v=>by rw [ih]
   have h2:(fun v=>putW n T o.dst v (fun T'=>seqF E C n base (all.map strip).toArray un fan (i+1) (l.map strip) (pendIfF (hasN i un) (i,o.op,T,v) pd) lo fl T' H K))=fun v=>putW n T o.dst v (fun T'=>seqF E C n base all.toArray un fan (i+1) l (pendIfF (hasN i un) (i,o.op,T,v) pd) lo fl T' H K):=funext fun v=>by rw [ih]
   rw [h1,h2]
  ·show oneW E C o.op T (seesF base fan lo i fl H) (fun v H'=>pendF E base fan (i::lo) fl H' pd∧putW n T o.dst v (fun T'=>seqF E C n base (all.map strip).toArray un fan (i+1) (l.map strip) pd (i::lo) fl T' H' K))=_
   have h1:(fun v H'=>pendF E base fan (i::lo) fl H' pd∧putW n T o.dst v (fun T'=>seqF E C n base (all.map strip).toArray un fan (i+1) (l.map strip) pd (i::lo) fl T' H' K))=fun v H'=>pendF E base fan (i::lo) fl H' pd∧putW n T o.dst v (fun T'=>seqF E C n base all.toArray un fan (i+1) l pd (i::lo) fl T' H' K):=funext fun v=>funext fun H'=>by rw [ih]
   rw [h1]
  ·show putW n T o.dst undef (fun T'=>seqF E C n base (all.map strip).toArray un fan (i+1) (l.map strip) pd lo fl T' H K)=_
   rw [ih]

theorem CodeW.seqf{Z:Road}{E:Env}{P:Program}(hE:EnvOK E P)(hZr:RoadRo Z E)(hm:P.follows .mixedOrders=true){R:Tgt→List Value→ASt→(Value→ASt→Prop)→Prop}(hR:∀ t args A S,R t args A S→CallT Z P t args A S)
  {n id:Nat} {ro:Option Nat} {T:Tmps} {A:ASt} {Q:Out→Prop} {ps:Array Oper} (π un:List Nat) (fan:List (List Nat)) {l:List Oper} (hl:(reorder π ps.toList).map strip=l) (hp:permOK π ps.toList.length=true) (hreg:regOK (reorder π ps.toList).toArray (ancs (reorder π ps.toList) []) (reorder π ps.toList) 0 (reorder π ps.toList)=true)
  (hn:Nat.beq (ancs (reorder π ps.toList) []).length (reorder π ps.toList).length=true) (hs:seqFOK E (reorder π ps.toList) (ancs (reorder π ps.toList) []) un 0 (reorder π ps.toList)=true) (hfan:fanOf E (reorder π ps.toList) (ancs (reorder π ps.toList) [])=fan)
  (h:seqF E (conC R) n A.next l.toArray un fan 0 l [] [] [] T { heap:=A.heap,next:=A.next+l.length } fun T' A'=>Q (.fr ⟨.normal,T',A'⟩)):CodeW Z P n ro (.region id ps true) T A Q:=by
 refine CodeW.drawnR hE hZr hm (conCall_sound hR) π hp ?_
 subst hl hfan
 rw [seqF_strip,List.length_map] at h
 generalize reorder π ps.toList=l at hreg hn hs h ⊢
 unfold drawRun
 rw [show (l.toArray).toList=l by simp,hreg,cond_true]
 simp only [fN_eq]
 refine Nd.all_bind' _ ?_
 have hs0:SF E A.next l (ancs l []) [] [] 0 { T,H:={ heap:=A.heap,next:=A.next+l.length },fl:=[],louds:=0,hist:=[(0,{ heap:=A.heap,next:=A.next+l.length })],reads:=[] }:=
  ⟨(by simp),(by simp),(by simp),(fun e he b hb=>by simp at he;subst he;simp at hb),(fun e he=>by simp at he;exact .inl he),(by simp),(by simp)⟩
 refine Nd.all_mono (fun s hq=>?_) (planN_seqF (R:=R) (ops:=l.toArray) (by simp) (Nat.eq_of_beq_eq_true hn) hs l [] [] 0 _ rfl hs0 h)
 obtain ⟨h1,h2⟩:=hq
 rw [h1,cond_true]
 exact h2

def noCon:Tgt→List Value→ASt→(Value→ASt→Prop)→Prop:=fun _ _ _ _=>False
theorem noCon_ok{Z:Road}{P:Program}(t args A S)(h:noCon t args A S):CallT Z P t args A S:=h.elim

def f_0:=And.intro @seqF_nil (And.intro @seqF_cons (And.intro @seesF_nil (And.intro @seesF_cons (And.intro @restF_nil (And.intro @restF_cons (And.intro @tkn_nil (And.intro @tkn_cons (And.intro @fanAt_eq (And.intro @pendF_nil (And.intro @pendF_cons (And.intro @pendIfF_t @pendIfF_f)))))))))))
end Go.AE

/- The evaluator: the equations of the walk, all of them as one. -/
namespace Go.AE
open Go
set_option linter.defProp false
def s_0:=And.intro @tg_eq (And.intro @tgN_eq (And.intro @brW_true (And.intro @brW_false (And.intro @c_skip (And.intro @c_ret (And.intro @c_exit (And.intro @c_seq (And.intro @c_cond (And.intro @condW_b (And.intro @c_block (And.intro @c_scope (And.intro @c_region (And.intro @c_drawn (And.intro @c_loop (And.intro @onw_n (And.intro @onw_r (And.intro @onw_e (And.intro @outb_e (And.intro @outb_o (And.intro @outb_n (And.intro @outb_r (And.intro @putW_some (And.intro @putW_none (And.intro @opsW_arr (And.intro @opsW_nil (And.intro @opsW_cons (And.intro @wanted_none (And.intro @wanted_some (@guardB_some)))))))))))))))))))))))))))))
def s_1:=And.intro @oneW_next (And.intro @oneW_move (And.intro @oneW_assign (And.intro @oneW_pick (And.intro @oneW_build (And.intro @oneW_load (And.intro @oneW_store (And.intro @oneW_nilCheck (And.intro @oneW_binOp (And.intro @oneW_unOp (And.intro @oneW_makeFunc (And.intro @oneW_slice (And.intro @oneW_fieldAddr (And.intro @oneW_field (And.intro @oneW_indexAddr (And.intro @oneW_index (And.intro @oneW_lookup (And.intro @oneW_mapUpdate (And.intro @oneW_range (And.intro @oneW_entry (And.intro @oneW_extract (And.intro @oneW_call (And.intro @oneW_alloc (And.intro @oneW_box (And.intro @oneW_makeMap (And.intro @oneW_buildSlice (And.intro @oneW_convert (And.intro @arW_val (And.intro @ofVal_some (@plain_val)))))))))))))))))))))))))))))
def s_2:=And.intro @aOp_move (And.intro @aOp_assign (And.intro @aOp_pick (And.intro @aOp_build (And.intro @aOp_load (And.intro @aOp_store (And.intro @aOp_nilCheck (And.intro @aOp_binOp (And.intro @aOp_unOp (And.intro @aOp_makeFunc (And.intro @aOp_slice (And.intro @aOp_fieldAddr (And.intro @aOp_field (And.intro @aOp_indexAddr (And.intro @aOp_index (And.intro @aOp_lookup (And.intro @aOp_mapUpdate (And.intro @aOp_range (And.intro @aOp_entry (And.intro @aOp_extract (And.intro @aOp_call (And.intro @aOp_alloc (And.intro @aOp_box (And.intro @aOp_makeMap (And.intro @aOp_buildSlice (And.intro @aInvoke_func (And.intro @nbeq (And.intro @nble (And.intro @nblt (@decide_true)))))))))))))))))))))))))))))
def s_3:=And.intro @decide_false (And.intro @decide_eq_true_eq (And.intro @Bool.false_eq_true (And.intro @Bool.and_true (And.intro @Bool.true_and (And.intro @Bool.not_true (And.intro @Bool.not_false (And.intro @bq_t (And.intro @bq_f (And.intro @tget_put (And.intro @b_add (And.intro @b_sub (And.intro @b_mul (And.intro @b_xor (And.intro @b_eql (And.intro @b_neq (And.intro @b_lss (And.intro @b_leq (And.intro @b_gtr (And.intro @b_geq (And.intro @b_shr (And.intro @true_implies (And.intro @false_implies (And.intro @and_true (And.intro @true_and (And.intro @ASt.get_set (And.intro @ASt.get_new (And.intro @ASt.next_set (And.intro @ASt.next_new (@Nat.zero_add)))))))))))))))))))))))))))))
def s_4:=And.intro @Nat.add_zero (@ctor_self)
def q_0:=And.intro @seqW_nil (And.intro @seqW_cons (And.intro @pendIf_t (And.intro @pendIf_f (And.intro @AR.val.injEq (And.intro @and_self (And.intro @fresh_move (And.intro @quiet_move (And.intro @fresh_assign (And.intro @quiet_assign (And.intro @fresh_pick (And.intro @quiet_pick (And.intro @fresh_build (And.intro @quiet_build (And.intro @fresh_load (And.intro @quiet_load (And.intro @fresh_store (And.intro @quiet_store (And.intro @fresh_nilCheck (And.intro @quiet_nilCheck (And.intro @fresh_binOp (And.intro @quiet_binOp (And.intro @fresh_unOp (And.intro @quiet_unOp (And.intro @fresh_makeFunc (And.intro @quiet_makeFunc (And.intro @fresh_slice (And.intro @quiet_slice (And.intro @fresh_fieldAddr (@quiet_fieldAddr)))))))))))))))))))))))))))))
def q_1:=And.intro @fresh_field (And.intro @quiet_field (And.intro @fresh_indexAddr (And.intro @quiet_indexAddr (And.intro @fresh_index (And.intro @quiet_index (And.intro @fresh_lookup (And.intro @quiet_lookup (And.intro @fresh_mapUpdate (And.intro @quiet_mapUpdate (And.intro @fresh_range (And.intro @quiet_range (And.intro @fresh_entry (And.intro @quiet_entry (And.intro @fresh_extract (And.intro @quiet_extract (And.intro @fresh_call (And.intro @quiet_call (And.intro @fresh_alloc (And.intro @quiet_alloc (And.intro @fresh_box (And.intro @quiet_box (And.intro @fresh_makeMap (And.intro @quiet_makeMap (And.intro @fresh_buildSlice (And.intro @quiet_buildSlice (And.intro @quietC_value (And.intro @quietC_len (And.intro @quietC_cap (@quietC_append)))))))))))))))))))))))))))))
def q_2:=And.intro @quietC_delete (And.intro @fr_buildSlice (And.intro @stillW_val (And.intro @stillW_bad (And.intro @readW_val (And.intro @freshW_some (And.intro @Bool.true_or (And.intro @Bool.false_or (And.intro @Bool.or_true (And.intro @Bool.or_false (And.intro @get_empty (And.intro @get_next (And.intro @ofVal_none (And.intro @valEq_int (And.intro @valEq_str (And.intro @valEq_bool (And.intro @valEq_map (And.intro @valEq_ptr (And.intro @valEq_slice (And.intro @valEq_nilSlice (@valEq_mapNil))))))))))))))))))))
end Go.AE

/- The evaluator: more equations: a conversion, an index. -/
namespace Go.AE
open Go

theorem aOp_convert{E:Env}{s d:TypeId}{x:Operand}{T:Tmps}{A:ASt}(hf:freshOp E (.convert s d x)=false):aOp E (.convert s d x) T A=(match ev T x with
  | some v=>ofVal (aConvert E s d v A) A "convert"
  | none=>.bad "convert"):=by rw [aOp_def,hf];rfl
theorem conv_int{E:Env}{s d:TypeId}{i j:TIn}(hs:E.ti s=some i)(hd:E.ti d=some j){k:IntKind}(hj:j.desc=.int k){k':IntKind}{n:Int}{A:ASt}:aConvert E s d (.int k' n) A=some (.int k (k.wrap n)):=by
 simp only [aConvert,hs,hd,hj]
end Go.AE

/- The evaluator: what its functions unfold to, all of it as one. -/
namespace Go.AE
open Go
set_option linter.defProp false
def d_0:=And.intro @Hands.eq_1 (And.intro @Hands.eq_2 (And.intro @Hands.eq_3 (And.intro @handsV.eq_1 (And.intro @handsV.eq_2 (And.intro @resultsV.eq_1 (And.intro @resultsV.eq_2 (And.intro @resultsV.eq_3 (And.intro @oneOrTuple.eq_1 (And.intro @oneOrTuple.eq_2 (And.intro @argsT.eq_1 (And.intro @argsT.eq_2 (And.intro @ev.eq_1 (And.intro @ev.eq_2 (And.intro @ev.eq_3 (And.intro @ev.eq_4 (And.intro @evs.eq_1 (And.intro @evs.eq_2 (And.intro @evPairs.eq_1 (And.intro @evPairs.eq_2 (And.intro @evOpt.eq_1 (And.intro @evOpt.eq_2 (And.intro @nth.eq_1 (And.intro @nth.eq_2 (And.intro @nth.eq_3 (And.intro @aCall.eq_1 (And.intro @aEnter.eq_1 (And.intro @notYield.eq_1 (And.intro @notYield.eq_2 (And.intro @aNilCheck.eq_1 (And.intro @aNilCheck.eq_2 (And.intro @aNilCheck.eq_3 (And.intro @aNilCheck.eq_4 (And.intro @aNilCheck.eq_5 (And.intro @aNilCheck.eq_6 (And.intro @partV.eq_1 (And.intro @isAggD.eq_1 (And.intro @isAggD.eq_2 (And.intro @isAggD.eq_3 (And.intro @aExtract.eq_1 (And.intro @aExtract.eq_2 (And.intro @aUn.eq_1 (And.intro @aUn.eq_2 (And.intro @aUn.eq_3 (And.intro @aUn.eq_4 (And.intro @closed.eq_1 (And.intro @closed.eq_2 (@closed.eq_3)))))))))))))))))))))))))))))))))))))))))))))))
end Go.AE

/- The evaluator: a start with slices that are read alone. -/
namespace Go.AE
open Go Go.RowKit

abbrev Spans:=List (Loc×List Value)
noncomputable def roRen(s:Spans):Ren:=fun k=>(s[k]?).map (·.1)
noncomputable def roTab(s:Spans):Nat→Option (List Value):=fun k=>(s[k]?).map (·.2)
noncomputable def withRo(E:Env)(s:Spans):Env:={ E with ro:=roTab s }
theorem withRo_ok{E:Env}{P:Program}{s:Spans}(h:EnvOK E P):EnvOK (withRo E s) P:=⟨h.1,h.2,h.3,h.4⟩

theorem rep_ro(s:Spans)(W:World):Rep (roRen s) (startAt s.length) W:=by
 refine ⟨fun b o h=>?_,fun b b' o o' L L' _ h=>?_,fun b hb=>?_⟩
 ·cases h
 ·cases h
 ·unfold roRen
  rw [List.getElem?_eq_none hb];rfl

noncomputable abbrev roadRo(s:Spans)(W:World):Road:=roadFrom (roRen s) (startAt s.length) W

theorem cell_below{W w:World}(h:Below W.heap.size W w){B j:Nat}{v:Value}(hc:W.cell? ⟨B,j,none⟩=some v):w.cell? ⟨B,j,none⟩=some v:=by
 unfold World.cell? at hc ⊢
 have hB:B<W.heap.size:=by
  by_cases hlt:B<W.heap.size
  ·exact hlt
  ·have e:W.heap[B]? = none:=Array.getElem?_eq_none (by omega)
   simp only [e] at hc
   cases hc
 have e:=h.block B hB
 simp only [e]
 exact hc

theorem Step.below'{ρ₀ ρ:Ren}{n:Nat}{A:ASt}{W w:World}(h:Step ρ₀ (startAt n) W ρ A w):Below W.heap.size W w:=Step.below h

theorem calls_ro{P:Program}{s:Spans}{W:World}{f:FuncId}{args:List Value}{args':Array Value}(ha:VsRel (roRen s) args args'.toList){Q:Value→ASt→Prop}(h:CallW (roadRo s W) P f args (startAt s.length) Q):
  Calls P f args' W fun e w'=>∃ v A' v' ρ',Q v A'∧e=.returned v'∧VRel ρ' v v'∧Below W.heap.size W w':=
 (h (roRen s) W args' (Step.refl (rep_ro s W)) ha).mono fun e w' ⟨v,A',v',ρ',hq,he,hv,hst⟩=>⟨v,A',v',ρ',hq,he,hv,Step.below hst⟩

theorem calls_ro_true{P:Program}{s:Spans}{W:World}{f:FuncId}{args:List Value}{args':Array Value}(ha:VsRel (roRen s) args args'.toList)(h:CallW (roadRo s W) P f args (startAt s.length) (fun v _=>v=.bool true)):
  Calls P f args' W fun e w'=>e=.returned (.bool true)∧Below W.heap.size W w':=
 (calls_ro ha h).mono fun e w' ⟨v,A',v',ρ',hq,he,hv,hb⟩=>by
  subst hq
  cases hv
  exact ⟨he,hb⟩
end Go.AE

/- The evaluator: frames; slices of rows of cells, wherever they lie, also in rows that are read alone. -/
namespace Go.AE
open Go
set_option linter.defProp false

structure Fr(own:List Nat)(A A':ASt):Prop where
 next:A.next≤A'.next
 get:∀ b,b<A.next→b∉own→A'.get b=A.get b

theorem Fr.refl(own:List Nat)(A:ASt):Fr own A A:=⟨Nat.le_refl _,fun _ _ _=>rfl⟩
theorem Fr.trans{own:List Nat}{A B C:ASt}(h:Fr own A B)(k:Fr own B C):Fr own A C:=
 ⟨Nat.le_trans h.next k.next,fun b hb hn=>(k.get b (Nat.lt_of_lt_of_le hb h.next) hn).trans (h.get b hb hn)⟩
theorem Fr.sub{own own':List Nat}{A B:ASt}(h:Fr own A B)(hs:∀ b∈own,b∈own'):Fr own' A B:=⟨h.next,fun b hb hn=>h.get b hb fun hm=>hn (hs b hm)⟩
theorem Fr.nil{own:List Nat}{A B:ASt}(h:Fr [] A B):Fr own A B:=h.sub (by simp)
theorem Fr.new{own:List Nat}{A:ASt}{o:AObj}:Fr own A (A.new o):=⟨by rw [ASt.next_new];omega,fun b hb _=>by rw [ASt.get_new,if_neg (by omega)]⟩
theorem Fr.set{own:List Nat}{A B:ASt}{b:Nat}{o:AObj}(h:Fr own A B)(hb:b∈own∨A.next≤b):Fr own A (B.set b o):=⟨by rw [ASt.next_set];exact h.next,fun x hx hn=>by
 rw [ASt.get_set,if_neg]
 ·exact h.get x hx hn
 ·rintro rfl
  rcases hb with hb | hb
  ·exact hn hb
  ·omega⟩
theorem Fr.bump{own:List Nat}{A:ASt}{n:Nat}(h:A.next≤n):Fr own A { heap:=A.heap,next:=n }:=⟨h,fun b _ _=>get_next⟩
theorem Fr.fresh{own l:List Nat}{A B C:ASt}(h:Fr own A B)(k:Fr (own++l) B C)(hl:∀ b∈l,A.next≤b):Fr own A C:=⟨Nat.le_trans h.next k.next,fun b hb hn=>by
 rw [k.get b (Nat.lt_of_lt_of_le hb h.next) (fun hm=>by
  rcases List.mem_append.1 hm with hm | hm
  ·exact hn hm
  ·have:=hl b hm;omega)]
 exact h.get b hb hn⟩

section
variable {E:Env}{s:Spans}
theorem wti{t:TypeId}:(withRo E s).ti t=E.ti t:=congrArg (fun x=>x) rfl
theorem wfn{f:FuncId}:(withRo E s).fn f=E.fn f:=congrArg (fun x=>x) rfl
theorem wext{f:FuncId}:(withRo E s).ext f=E.ext f:=congrArg (fun x=>x) rfl
theorem wbin{op:BinOp}{t:TypeId}{xo yo:Operand}{x y:Value}:aBin2 (withRo E s) op t xo yo x y=aBin2 E op t xo yo x y:=congrArg (fun x=>x) rfl
theorem wbox{t:TypeId}{v:Value}:aBox (withRo E s) t v=aBox E t v:=congrArg (fun x=>x) rfl
theorem wlen{t:TypeId}{v:Value}{A:ASt}:aLen (withRo E s) t v A=aLen E t v A:=congrArg (fun x=>x) rfl
theorem wix{t:TypeId}{x i:Value}:aIndexAddr (withRo E s) t x i=aIndexAddr E t x i:=congrArg (fun x=>x) rfl
theorem widx{t:TypeId}{x i:Value}:aIndex (withRo E s) t x i=aIndex E t x i:=congrArg (fun x=>x) rfl
theorem wcv{a b:TypeId}{v:Value}{A:ASt}:aConvert (withRo E s) a b v A=aConvert E a b v A:=congrArg (fun x=>x) rfl
theorem wbs{t:TypeId}{n:Nat}{l:List (Nat×Value)}:aBuildSlice (withRo E s) t n l=aBuildSlice E t n l:=congrArg (fun x=>x) rfl
theorem wplaces:∀ {l:List Field},places (withRo E s) l=places E l
 | []=>rfl
 | f::l=>by simp only [places,wti,wplaces (l:=l)]
theorem wbl{t:TypeId}{l:List (Nat×Value)}:aBuild (withRo E s) t l=aBuild E t l:=by simp only [aBuild,wti,wplaces]
theorem wal{t:TypeId}:aAlloc (withRo E s) t=aAlloc E t:=congrArg (fun x=>x) rfl
theorem wst{t:TypeId}{a v:Value}{A:ASt}:aStore (withRo E s) t a v A=aStore E t a v A:=congrArg (fun x=>x) rfl
theorem wlk{t:TypeId}{x k:Value}{ok:Bool}{A:ASt}:aLookup (withRo E s) t x k ok A=aLookup E t x k ok A:=congrArg (fun x=>x) rfl
theorem wup{t:TypeId}{m k v:Value}{A:ASt}:aMapUpdate (withRo E s) t m k v A=aMapUpdate E t m k v A:=congrArg (fun x=>x) rfl
theorem wdl{t:TypeId}{m k:Value}{A:ASt}:aDelete (withRo E s) t m k A=aDelete E t m k A:=congrArg (fun x=>x) rfl
theorem wrg{t:TypeId}{m:Value}{A:ASt}:aRange (withRo E s) t m A=aRange E t m A:=congrArg (fun x=>x) rfl
theorem wsl{t:TypeId}{x:Value}{lo hi mx:Option Value}{A:ASt}:aSlice (withRo E s) t x lo hi mx A=aSlice E t x lo hi mx A:=congrArg (fun x=>x) rfl
theorem wfa{t:TypeId}{x:Value}{f:Nat}:aFieldAddr (withRo E s) t x f=aFieldAddr E t x f:=congrArg (fun x=>x) rfl
theorem wfd{t:TypeId}{x:Value}{f:Nat}:aField (withRo E s) t x f=aField E t x f:=congrArg (fun x=>x) rfl
theorem wpt{t:TypeId}{c:List Value}{off:Nat}:partV (withRo E s) t c off=partV E t c off:=congrArg (fun x=>x) rfl
def w_w:=And.intro @wti (And.intro @wfn (And.intro @wext (And.intro @wbin (And.intro @wbox (And.intro @wlen (And.intro @wix (And.intro @widx (And.intro @wcv (And.intro @wbs (And.intro @wbl (And.intro @wal (And.intro @wst (And.intro @wlk (And.intro @wup (And.intro @wdl (And.intro @wrg (And.intro @wsl (And.intro @wfa (And.intro @wfd @wpt)))))))))))))))))))
end

section
variable {E:Env}{A A':ASt}

noncomputable def cellsG(E:Env)(b:Nat):Option AObj→Option (List Value)
 | some (.row c _ _)=>some c
 | none=>E.ro b
 | _=>none
theorem cellsG_row{b sz:Nat}{c:List Value}{tl:Bool}:cellsG E b (some (.row c sz tl))=some c:=by rw [cellsG]
theorem cellsG_none{b:Nat}:cellsG E b none=E.ro b:=by rw [cellsG]
noncomputable def ldG(E:Env)(t:TypeId)(off:Nat):Option (List Value)→Option Value
 | some c=>partV E t c off
 | none=>none
theorem ldG_some{t:TypeId}{off:Nat}{c:List Value}:ldG E t off (some c)=partV E t c off:=by rw [ldG]
theorem ldG_none{t:TypeId}{off:Nat}:ldG E t off none=none:=by rw [ldG]
theorem aLoad_g{t:TypeId}{b off:Nat}:aLoad E t (.pointer (some ⟨b,off,none⟩)) A=ldG E t off (cellsG E b (A.get b)):=by
 simp only [aLoad]
 cases A.get b with
 | none=>simp only [cellsG];cases E.ro b<;>rfl
 | some o=>cases o<;>rfl
theorem ro_of{s:Spans}{b:Nat}:(withRo E s).ro b=roTab s b:=congrArg (fun x=>x) rfl
theorem eq_add_k{n k:Nat}:(n=n+k)=(k=0):=by simp
theorem add_k_eq{n k:Nat}:(n+k=n)=(k=0):=by simp
theorem b_seql{t:TypeId}{xo yo:Operand}{a b:ByteArray}:aBin2 E .eql t xo yo (.string a) (.string b)=some (.bool (decide (a=b))):=by
 show some (Value.bool (bytesEq a.data.toList b.data.toList))=_
 rw [bytesEq_iff]
theorem b_sneq{t:TypeId}{xo yo:Operand}{a b:ByteArray}:aBin2 E .neq t xo yo (.string a) (.string b)=some (.bool (decide (a≠b))):=by
 show some (Value.bool (!bytesEq a.data.toList b.data.toList))=_
 rw [bytesEq_iff]
 simp
def g_0:=And.intro @eq_add_k (And.intro @add_k_eq <| And.intro @aLoad_g (And.intro @ldG_some <| And.intro @ldG_none (And.intro @cellsG_row @cellsG_none)))

def CellsAt(E:Env)(A:ASt)(b:Nat)(c:List Value):Prop:=(A.get b=none∧E.ro b=some c)∨((∃ sz tl,A.get b=some (.row c sz tl))∧E.ro b=none)
theorem CellsAt.g{b:Nat}{c:List Value}(h:CellsAt E A b c):cellsG E b (A.get b)=some c:=by
 rcases h with ⟨h1,h2⟩ | ⟨⟨sz,tl,h1⟩,_⟩
 ·rw [h1,cellsG_none];exact h2
 ·rw [h1,cellsG_row]
theorem CellsAt.congr{b:Nat}{c:List Value}(h:CellsAt E A b c)(e:A'.get b=A.get b):CellsAt E A' b c:=by unfold CellsAt at *;rw [e];exact h
theorem CellsAt.of_row{b sz:Nat}{c:List Value}{tl:Bool}(h:A.get b=some (.row c sz tl))(hr:E.ro b=none):CellsAt E A b c:=.inr ⟨⟨sz,tl,h⟩,hr⟩
theorem CellsAt.src{b o sz n len cap:Nat}{c:List Value}(h:CellsAt E A b c):srcCells E sz (.slice (some ⟨b,o,none⟩) len cap) n A=cut c o (n*sz):=by
 have h:=h.g
 simp only [srcCells]
 cases hg:A.get b with
 | none=>
  rw [hg,cellsG_none] at h
  rw [h]
 | some ob=>
  rw [hg] at h
  cases ob<;>simp only [cellsG] at h<;>first | (cases h;rfl) | cases h

structure RoadS(Z:Road)(E:Env)(s:Spans):Prop where
 ro:RoadRo Z (withRo E s)
 nx:∀ ρ A w,Z.reach ρ A w→s.length≤A.next
theorem CallW.assume{Z:Road}{P:Program}{E:Env}{s:Spans}(hZ:RoadS Z E s){f:FuncId}{args:List Value}{A:ASt}{Q:Value→ASt→Prop}(h:(∀ b,A.next≤b→(withRo E s).ro b=none)→CallW Z P f args A Q):CallW Z P f args A Q:=by
 intro ρ w args' hR ha
 refine h (fun b hb=>?_) ρ w args' hR ha
 have:=hZ.nx _ _ _ hR
 rw [ro_of]
 unfold roTab
 rw [List.getElem?_eq_none (by omega)];rfl

def SlAt(E:Env)(A:ASt)(S:Nat→Prop)(sz:Nat)(v:Value)(l:List (List Value)):Prop:=
 (l=[]∧(v=.slice none 0 0∨v=zslice))∨∃ b o cap c,v=.slice (some ⟨b,o,none⟩) l.length cap∧CellsAt E A b c∧S b∧b<A.next∧(∀ x∈l,x.length=sz)∧cut c o (l.length*sz)=some l.flatten

variable {S:Nat→Prop}{sz:Nat}{v:Value}{l:List (List Value)}
theorem SlAt.fr{own:List Nat}(h:SlAt E A S sz v l)(hf:Fr own A A')(ho:∀ b,S b→b<A.next→b∉own):SlAt E A' S sz v l:=by
 rcases h with h | ⟨b,o,cap,c,rfl,hb,hs,hn,h1,h2⟩
 ·exact .inl h
 ·exact .inr ⟨b,o,cap,c,rfl,hb.congr (hf.get b hn (ho b hs hn)),hs,Nat.lt_of_lt_of_le hn hf.next,h1,h2⟩
theorem SlAt.imp{S':Nat→Prop}(h:SlAt E A S sz v l)(hi:∀ b,S b→b<A.next→S' b):SlAt E A S' sz v l:=by
 rcases h with h | ⟨b,o,cap,c,rfl,hb,hs,hn,h1,h2⟩
 ·exact .inl h
 ·exact .inr ⟨b,o,cap,c,rfl,hb,hi b hs hn,hn,h1,h2⟩
theorem SlAt.nil:SlAt E A S sz (.slice none 0 0) []:=.inl ⟨rfl,.inl rfl⟩
theorem SlAt.zero:SlAt E A S sz zslice []:=.inl ⟨rfl,.inr rfl⟩
theorem valEq_zslice:valEq zslice zslice=true:=by simp [valEq,vEq,vStep,flatEq]
theorem SlAt.form(h:SlAt E A S sz v l):∃ b c,v=.slice b l.length c:=by
 rcases h with ⟨rfl,rfl | rfl⟩ | ⟨b,o,cap,c,rfl,_⟩
 ·exact ⟨_,_,rfl⟩
 ·exact ⟨_,_,rfl⟩
 ·exact ⟨_,_,rfl⟩
theorem SlAt.ve(h:SlAt E A S sz v l):valEq v v=true:=by
 rcases h with ⟨_,rfl | rfl⟩ | ⟨b,o,cap,_,rfl,_⟩
 ·exact valEq_nilSlice
 ·exact valEq_zslice
 ·exact valEq_slice
theorem SlAt.single(h:SlAt E A S sz v l):single v=true:=by
 rcases h with ⟨_,rfl | rfl⟩ | ⟨b,o,cap,_,rfl,_⟩<;>rfl
theorem SlAt.cells1(h:SlAt E A S sz v l):v.cells=#[v]:=by
 rcases h with ⟨_,rfl | rfl⟩ | ⟨b,o,cap,_,rfl,_⟩<;>rfl
theorem SlAt.len(h:SlAt E A S sz v l){t e:TypeId}{i:TIn}(ht:E.ti t=some i)(hd:i.desc=.slice e)(B:ASt):aLen E t v B=some (.int .i64 (l.length:Int)):=by
 obtain ⟨b,c,rfl⟩:=h.form
 simp only [aLen,ht,hd];rfl

theorem cut_flat{c:List Value}:∀ {l:List (List Value)} {o i sz:Nat} {x:List Value},cut c o (l.length*sz)=some l.flatten→(∀ x∈l,x.length=sz)→l[i]? = some x→cut c (o+i*sz) sz=some x
 | [],o,i,sz,x,_,_,h=>by simp at h
 | y::l,o,i,sz,x,hc,hl,hx=>by
  obtain ⟨h1,h2,h3⟩:=cut_some hc
  have hy:y.length=sz:=hl y (by simp)
  rw [List.flatten_cons] at h1 h2
  have e1:((c.drop o).take ((y::l).length*sz))=y++l.flatten:=h1.symm
  rw [List.length_cons,Nat.succ_mul] at e1
  have ey:(c.drop o).take sz=y:=by
   have:=congrArg (List.take sz) e1
   rw [List.take_take,Nat.min_eq_left (Nat.le_add_left sz _),List.take_append_of_le_length (Nat.le_of_eq hy.symm),List.take_of_length_le (Nat.le_of_eq hy)] at this
   exact this
  cases i with
  | zero=>
   simp at hx;subst hx
   rw [Nat.zero_mul,Nat.add_zero]
   unfold cut
   simp only [ey,hy,Nat.beq_refl,cond_true]
  | succ i=>
   have er:(c.drop (o+sz)).take (l.length*sz)=l.flatten:=by
    have:=congrArg (List.drop sz) e1
    rw [List.drop_take,List.drop_drop,List.drop_append_of_le_length (Nat.le_of_eq hy.symm),List.drop_of_length_le (Nat.le_of_eq hy),List.nil_append] at this
    rwa [show l.length*sz+sz-sz=l.length*sz by omega] at this
   have hlen:l.flatten.length=l.length*sz:=by
    rw [List.length_append,List.length_cons,Nat.succ_mul] at h2
    omega
   have hc':cut c (o+sz) (l.length*sz)=some l.flatten:=by
    unfold cut
    simp only [er,hlen,Nat.beq_refl,cond_true]
   have:=cut_flat (l:=l) (o:=o+sz) (i:=i) (sz:=sz) (x:=x) hc' (fun z hz=>hl z (by simp [hz])) (by simpa using hx)
   rw [Nat.succ_mul]
   rwa [show o+(i*sz+sz)=o+sz+i*sz by omega]
theorem cut_nth{c x:List Value}{o sz j:Nat}{y:Value}(h:cut c o sz=some x)(hj:x[j]? = some y):nth c (o+j)=some y:=by
 obtain ⟨h1,h2,_⟩:=cut_some h
 have hlt:j<sz:=by have:=(List.getElem?_eq_some_iff.1 hj).1;omega
 rw [nth_eq]
 rw [h1,List.getElem?_take_of_lt hlt,List.getElem?_drop] at hj
 exact hj

theorem SlAt.ix(h:SlAt E A S sz v l){t e:TypeId}{ti te:TIn}(ht:E.ti t=some ti)(hd:ti.desc=.slice e)(he:E.ti e=some te)(hs:te.size=sz){i:Nat}{x:List Value}(hx:l[i]? = some x):
  ∃ b p c,(∀ kd,aIndexAddr E t v (.int kd (i:Int))=some (.pointer (some ⟨b,p,none⟩)))∧CellsAt E A b c∧S b∧b<A.next∧cut c p sz=some x∧∀ j y,x[j]? = some y→nth c (p+j)=some y:=by
 have hi:i<l.length:=(List.getElem?_eq_some_iff.1 hx).1
 rcases h with ⟨rfl,_⟩ | ⟨b,o,cap,c,rfl,hb,hS,hn,h1,h2⟩
 ·simp at hi
 ·have hc:=cut_flat h2 h1 hx
  refine ⟨b,o+i*sz,c,fun kd=>?_,hb,hS,hn,hc,fun j y hj=>cut_nth hc hj⟩
  have:=indexAddr_sl (A:=A) ht hd he (kd:=kd) (k:=i) (b:=b) (off:=o) (len:=l.length) (cap:=cap) hi
  rwa [hs] at this
theorem SlAt.src(h:SlAt E A S sz v l):srcCells E sz v l.length A=some l.flatten:=by
 rcases h with ⟨rfl,rfl | rfl⟩ | ⟨b,o,cap,c,rfl,hb,hS,hn,h1,h2⟩
 ·rfl
 ·rfl
 ·rw [hb.src];exact h2
theorem len_str{t:TypeId}{i:TIn}(ht:E.ti t=some i)(hd:i.desc=.string){k:ByteArray}:aLen E t (.string k) A=some (.int .i64 (k.size:Int)):=by
 simp only [aLen,ht,hd];rfl
theorem SlAt.lenV(h:SlAt E A S sz v l):lenV v=some l.length:=by
 obtain ⟨b,c,rfl⟩:=h.form
 rfl
theorem flat_len{l:List (List Value)}{sz:Nat}:(∀ x∈l,x.length=sz)→l.flatten.length=l.length*sz:=by
 induction l with
 | nil=>intro _;simp
 | cons y l ih=>
  intro h
  rw [List.flatten_cons,List.length_append,ih fun x hx=>h x (by simp [hx]),h y (by simp),List.length_cons,Nat.succ_mul]
  omega

theorem append_all{b:Nat}{tl:Bool}{ob:AObj}(hnr:∀ b,A.next≤b→E.ro b=none)(h:SlAt E (A.new ob) S sz v l)(hob:ob=.row [] sz tl)(hb:b=A.next)(hl:∀ x∈l,x.length=sz){t e xt:TypeId}{ti te xi:TIn}{z:Value}(ht:E.ti t=some ti)(hd:ti.desc=.slice e)(he:E.ti e=some te)(hs:te.size=sz)(hx:E.ti xt=some xi)(hxi:isIntD xi.desc=false)(hz:te.zero=some z)(hzc:closed z=true)(hzl:Nat.beq z.cells.toList.length sz=true)(hsz:0<sz)(hbytes:l.length*(te.bytes+1)<1000000000)(hsg:singles l.flatten=true):
  ∃ r B,aAppend E t xt (.slice (some ⟨b,0,none⟩) 0 0) v (A.new ob)=.val r B∧SlAt E B (fun x=>A.next≤x) sz r l∧Fr [] A B:=by
 subst hob hb
 have hlen:=flat_len hl
 have hg:(A.new (.row [] sz tl)).get A.next=some (.row [] sz tl):=by rw [ASt.get_new,if_pos rfl]
 have hn:(A.new (.row [] sz tl)).next=A.next+1:=ASt.next_new ..
 have c1:Nat.blt 0 sz=true:=Nat.ble_eq_true_of_le hsz
 have c2:Nat.blt ((0+l.length)*(te.bytes+1)) 1000000000=true:=Nat.ble_eq_true_of_le (by rw [Nat.zero_add];exact hbytes)
 have c3:Nat.beq l.flatten.length (l.length*sz)=true:=by rw [hlen];exact Nat.beq_refl _
 have e:aAppend E t xt (.slice (some ⟨A.next,0,none⟩) 0 0) v (A.new (.row [] sz tl))=appendTo sz (some ⟨A.next,0,none⟩) 0 0 l.length l.flatten (A.new (.row [] sz tl)):=by
  simp only [aAppend,ht,hx,hd,he,h.lenV,hz,hs,h.src,hxi,c1,c2,c3,hsg,hzc,hzl,Bool.not_false,Bool.and_self,cond_true]
 rw [e]
 have c4:Nat.beq 0 unk=false:=by rw [nbeq];unfold unk;simp
 have c5:Nat.ble (0+0*sz) ([]:List Value).length=true:=by rw [Nat.zero_mul];rfl
 by_cases h0:l=[]
 ·subst h0
  refine ⟨.slice (some ⟨A.next,0,none⟩) 0 0,(A.new (.row [] sz tl)).set A.next (.row [] sz tl),?_,?_,?_⟩
  ·simp only [appendTo,hg,Nat.beq_refl,Bool.and_self,cond_true,c4,cond_false,List.length_nil,Nat.add_zero,Nat.ble,List.flatten_nil,over,Nat.zero_mul,List.take_nil,List.drop_nil,List.append_nil]
  ·refine .inr ⟨A.next,0,0,[],rfl,.of_row (by rw [ASt.get_set,if_pos rfl]) (hnr _ (Nat.le_refl _)),Nat.le_refl _,by rw [ASt.next_set,hn];omega,by simp,?_⟩
   simp [cut]
  ·exact Fr.set .new (.inr (Nat.le_refl _))
 ·have c6:Nat.ble (0+l.length) 0=false:=by
   rw [nble]
   have:0<l.length:=List.length_pos_iff.2 h0
   simp;exact h0
  refine ⟨.slice (some ⟨A.next+1,0,none⟩) l.length unk,(A.new (.row [] sz tl)).new (.row l.flatten sz true),?_,?_,?_⟩
  ·have c7:Nat.ble 0 ([]:List Value).length=true:=rfl
   rw [Nat.zero_add] at c6
   simp only [appendTo,hg,Nat.beq_refl,c7,Bool.and_self,cond_true,c4,cond_false,c6,grown_eq,hn,Nat.zero_mul,Nat.zero_add,List.take_zero,List.drop_nil,List.nil_append,Nat.zero_add]
  ·refine .inr ⟨A.next+1,0,unk,l.flatten,rfl,.of_row (by rw [ASt.get_new,hn,if_pos rfl]) (hnr _ (Nat.le_succ _)),by omega,by rw [ASt.next_new,hn];omega,hl,?_⟩
   unfold cut
   simp only [List.drop_zero,← hlen,List.take_length,Nat.beq_refl,cond_true]
  ·exact Fr.new.trans .new
theorem two_new{A C:ASt}{x y:AObj}(h:(A.new x).new y=C):C.get A.next=some x∧C.get (A.next+1)=some y∧C.next=A.next+2∧Fr [] A C:=by
 subst h
 refine ⟨?_,?_,by rw [ASt.next_new,ASt.next_new],Fr.new.trans .new⟩
 ·rw [ASt.get_new,if_neg (by rw [ASt.next_new];omega),ASt.get_new,if_pos rfl]
 ·rw [ASt.get_new,ASt.next_new,if_pos rfl]
end
end Go.AE

/- A slice of one's own: what is laid behind it. -/
namespace Go.AE
open Go
set_option maxRecDepth 10000
set_option maxHeartbeats 1000000

def slB:Value→List Nat
 | .slice (some a) _ _=>[a.block]
 | _=>[]
def OwnS(A:ASt)(lo sz n:Nat)(v:Value)(cs:List Value):Prop:=
 (n=0∧cs=[]∧v=.slice none 0 0)∨∃ b cap tl,v=.slice (some ⟨b,0,none⟩) n cap∧A.get b=some (.row cs sz tl)∧lo≤b∧b<A.next∧cs.length=n*sz∧((cap=unk∧tl=true)∨(cap=n∧cap≠unk))
section
variable {A B:ASt}{lo sz n m:Nat}{v:Value}{cs new:List Value}
theorem OwnS.fr{own:List Nat}(h:OwnS A lo sz n v cs)(hf:Fr own A B)(ho:∀ b∈slB v,b∉own):OwnS B lo sz n v cs:=by
 rcases h with h | ⟨b,cap,tl,rfl,hb,h1,h2,h3⟩
 ·exact .inl h
 ·exact .inr ⟨b,cap,tl,rfl,(hf.get b h2 (ho b (by simp [slB]))).trans hb,h1,Nat.lt_of_lt_of_le h2 hf.next,h3⟩
theorem OwnS.low(h:OwnS A lo sz n v cs):∀ b∈slB v,lo≤b∧b<A.next:=by
 rcases h with ⟨_,_,rfl⟩ | ⟨b,cap,tl,rfl,hb,h1,h2,h3⟩
 ·intro b hb;cases hb
 ·intro c hc
  simp only [slB,List.mem_singleton] at hc
  subst hc
  exact ⟨h1,h2⟩
theorem OwnS.lower{lo':Nat}(h:OwnS A lo sz n v cs)(hl:lo'≤lo):OwnS A lo' sz n v cs:=by
 rcases h with h | ⟨b,cap,tl,rfl,hb,h1,h2⟩
 ·exact .inl h
 ·exact .inr ⟨b,cap,tl,rfl,hb,Nat.le_trans hl h1,h2⟩
theorem over_nil{c:List Value}{k:Nat}(h:k≤c.length):over c k []=some c:=by
 unfold over
 rw [List.length_nil,Nat.add_zero,Nat.ble_eq_true_of_le h,cond_true,List.nil_append,List.take_append_drop]
theorem OwnS.appendTo(h:OwnS A lo sz n v cs)(hm:new.length=m*sz)(hsz:0<sz)(hlo:lo≤A.next):∀ base len cap,v=.slice base len cap→
  ∃ r B,Go.AE.appendTo sz base len cap m new A=.val r B∧OwnS B lo sz (n+m) r (cs++new)∧Fr (slB v) A B∧∀ b∈slB r,b∈slB v∨A.next≤b:=by
 intro base len cap0 hv
 rcases h with ⟨rfl,rfl,rfl⟩ | ⟨b,cap,tl,rfl,hb,h1,h2,hc,hcap⟩
 ·cases hv
  by_cases m0:m=0
  ·subst m0
   have:new=[]:=List.eq_nil_of_length_eq_zero (by rw [hm,Nat.zero_mul])
   subst this
   exact ⟨.slice none 0 0,A,by simp only [Go.AE.appendTo,Nat.beq_refl,Bool.and_self,cond_true],.inl ⟨rfl,rfl,rfl⟩,.refl _ _,by intro b hb;cases hb⟩
  ·have e:Nat.beq m 0=false:=by rw [nbeq];simpa using m0
   refine ⟨.slice (some ⟨A.next,0,none⟩) m unk,A.new (.row new sz true),by simp only [Go.AE.appendTo,Nat.beq_refl,Bool.and_self,cond_true,e,cond_false,grown_eq],.inr ⟨A.next,unk,true,by rw [Nat.zero_add],by rw [ASt.get_new,if_pos rfl];rfl,hlo,by rw [ASt.next_new];omega,by simpa using hm,.inl ⟨rfl,rfl⟩⟩,.new,?_⟩
   intro c hc
   simp only [slB,List.mem_singleton] at hc
   exact .inr (by omega)
 ·cases hv
  have e1:Nat.beq sz sz=true:=Nat.beq_refl _
  have e2:Nat.ble (0+n*sz) cs.length=true:=Nat.ble_eq_true_of_le (by omega)
  by_cases m0:m=0
  ·subst m0
   have:new=[]:=List.eq_nil_of_length_eq_zero (by rw [hm,Nat.zero_mul])
   subst this
   have e3:Nat.ble (0+(n+0)*sz) cs.length=true:=Nat.ble_eq_true_of_le (by rw [Nat.add_zero];omega)
   have e4:over cs (0+n*sz) []=some cs:=over_nil (by omega)
   refine ⟨.slice (some ⟨b,0,none⟩) (n+0) cap0,A.set b (.row cs sz tl),?_,.inr ⟨b,cap0,tl,rfl,by rw [ASt.get_set,if_pos rfl,List.append_nil],h1,by rw [ASt.next_set];exact h2,by simpa using hc,by simpa using hcap⟩,⟨by rw [ASt.next_set];exact Nat.le_refl _,fun b' _ hn=>by rw [ASt.get_set,if_neg (by simpa [slB] using hn)]⟩,?_⟩
   ·rcases hcap with ⟨rfl,rfl⟩ | ⟨rfl,hcu⟩
    ·have e5:Nat.beq unk unk=true:=Nat.beq_refl _
     simp only [Go.AE.appendTo,hb,e1,e2,Bool.and_self,cond_true,e5,e3,e4]
    ·have e5:Nat.beq cap0 unk=false:=by rw [nbeq];simpa using hcu
     have e6:Nat.ble (cap0+0) cap0=true:=Nat.ble_eq_true_of_le (Nat.le_refl _)
     simp only [Go.AE.appendTo,hb,e1,e2,Bool.and_self,cond_true,cond_false,e5,e6,e4]
   ·intro c hc
    exact .inl hc
  ·have hlt:0<m*sz:=Nat.mul_pos (by omega) hsz
   have e7:(n+m)*sz=n*sz+m*sz:=Nat.add_mul ..
   rcases hcap with ⟨rfl,rfl⟩ | ⟨rfl,hcu⟩
   ·have e5:Nat.beq unk unk=true:=Nat.beq_refl _
    have e3:Nat.ble (0+(n+m)*sz) cs.length=false:=by rw [nble];simp;omega
    have e4:Nat.beq (0+n*sz) cs.length=true:=by rw [nbeq];simp;omega
    refine ⟨.slice (some ⟨A.next,0,none⟩) (n+m) unk,(A.set b (.row [] sz false)).new (.row (cs++new) sz true),?_,.inr ⟨A.next,unk,true,rfl,by rw [ASt.get_new,ASt.next_set,if_pos rfl],hlo,by rw [ASt.next_new,ASt.next_set];omega,by rw [List.length_append,hc,hm,e7],.inl ⟨rfl,rfl⟩⟩,⟨by rw [ASt.next_new,ASt.next_set];omega,fun b' hb' hn=>by rw [ASt.get_new,ASt.next_set,if_neg (by omega),ASt.get_set,if_neg (by simpa [slB] using hn)]⟩,?_⟩
    ·simp only [Go.AE.appendTo,hb,e1,e2,Bool.and_self,cond_true,cond_false,e5,e3,e4,grown_eq,List.take_zero,List.drop_zero,ASt.next_set]
    ·intro c hc'
     simp only [slB,List.mem_singleton] at hc'
     exact .inr (by omega)
   ·have e5:Nat.beq cap0 unk=false:=by rw [nbeq];simpa using hcu
    have e6:Nat.ble (cap0+m) cap0=false:=by rw [nble];simp;omega
    have e8:(cs.drop 0).take (cap0*sz)=cs:=by rw [List.drop_zero,List.take_of_length_le (by omega)]
    refine ⟨.slice (some ⟨A.next,0,none⟩) (cap0+m) unk,A.new (.row (cs++new) sz true),?_,.inr ⟨A.next,unk,true,rfl,by rw [ASt.get_new,if_pos rfl],hlo,by rw [ASt.next_new];omega,by rw [List.length_append,hc,hm,e7],.inl ⟨rfl,rfl⟩⟩,⟨by rw [ASt.next_new];omega,fun b' hb' hn=>by rw [ASt.get_new,if_neg (by omega)]⟩,?_⟩
    ·simp only [Go.AE.appendTo,hb,e1,e2,Bool.and_self,cond_true,cond_false,e5,e6,e8,grown_eq]
    ·intro c hc'
     simp only [slB,List.mem_singleton] at hc'
     exact .inr (by omega)
theorem OwnS.app{E:Env}{t e xt:TypeId}{ti te xi:TIn}{x z:Value}(h:OwnS A lo sz n v cs)(ht:E.ti t=some ti)(hd:ti.desc=.slice e)(he:E.ti e=some te)(hs:te.size=sz)(hx:E.ti xt=some xi)(hxi:isIntD xi.desc=false)(hz:te.zero=some z)(hzc:closed z=true)(hzl:Nat.beq z.cells.toList.length sz=true)(hsz:0<sz)
  (hlen:lenV x=some m) (hsrc:srcCells E sz x m A=some new) (hm:new.length=m*sz) (hsg:singles new=true) (hbytes:(n+m)*(te.bytes+1)<1000000000) (hlo:lo≤A.next) :
  ∃ r B,aAppend E t xt v x A=.val r B∧OwnS B lo sz (n+m) r (cs++new)∧Fr (slB v) A B∧∀ b∈slB r,b∈slB v∨A.next≤b:=by
 have hf:∃ base cap,v=.slice base n cap:=by
  rcases h with ⟨rfl,_,rfl⟩ | ⟨b,cap,tl,rfl,_⟩
  ·exact ⟨_,_,rfl⟩
  ·exact ⟨_,_,rfl⟩
 obtain ⟨base,cap,rfl⟩:=hf
 obtain ⟨r,B,h1,h2⟩:=h.appendTo hm hsz hlo base n cap rfl
 refine ⟨r,B,?_,h2⟩
 rw [← h1]
 subst hs
 have c1:Nat.blt 0 te.size=true:=Nat.ble_eq_true_of_le hsz
 have c2:Nat.blt ((n+m)*(te.bytes+1)) 1000000000=true:=Nat.ble_eq_true_of_le hbytes
 have c3:Nat.beq new.length (m*te.size)=true:=by rw [hm];exact Nat.beq_refl _
 simp only [aAppend,ht,hx,hd,he,hlen,hz,hsrc,hxi,c1,c2,c3,hsg,hzc,hzl,Bool.not_false,Bool.and_self,cond_true]
theorem OwnS.slAt{E:Env}{l:List (List Value)}(h:OwnS A lo sz l.length v l.flatten)(hro:∀ b,lo≤b→E.ro b=none)(hl:∀ x∈l,x.length=sz):SlAt E A (fun b=>lo≤b) sz v l:=by
 rcases h with ⟨h0,_,rfl⟩ | ⟨b,cap,tl,rfl,hb,h1,h2,hc,_⟩
 ·exact .inl ⟨List.eq_nil_of_length_eq_zero h0,.inl rfl⟩
 ·refine .inr ⟨b,0,cap,_,rfl,.of_row hb (hro b h1),h1,h2,hl,?_⟩
  rw [← hc]
  unfold cut
  simp only [List.drop_zero,List.take_length,Nat.beq_refl,cond_true]
theorem OwnS.single(h:OwnS A lo sz n v cs):single v=true:=by
 rcases h with ⟨_,_,rfl⟩ | ⟨b,cap,tl,rfl,_⟩<;>rfl
theorem OwnS.cells1(h:OwnS A lo sz n v cs):v.cells=#[v]:=by
 rcases h with ⟨_,_,rfl⟩ | ⟨b,cap,tl,rfl,_⟩<;>rfl
theorem OwnS.len{E:Env}(h:OwnS A lo sz n v cs){t e:TypeId}{i:TIn}(ht:E.ti t=some i)(hd:i.desc=.slice e)(B:ASt):aLen E t v B=some (.int .i64 (n:Int)):=by
 rcases h with ⟨rfl,_,rfl⟩ | ⟨b,cap,tl,rfl,_⟩
 ·simp only [aLen,ht,hd];rfl
 ·simp only [aLen,ht,hd];rfl
theorem OwnS.src{E:Env}(h:OwnS A lo 1 n v cs):srcCells E 1 v n A=some cs∧lenV v=some n∧cs.length=n*1:=by
 rcases h with ⟨rfl,rfl,rfl⟩ | ⟨b,cap,tl,rfl,hb,_,_,hc,_⟩
 ·exact ⟨rfl,rfl,rfl⟩
 ·refine ⟨?_,rfl,hc⟩
  simp only [srcCells,hb]
  rw [← hc]
  unfold cut
  simp only [List.drop_zero,List.take_length,Nat.beq_refl,cond_true]
theorem OwnS.ve(h:OwnS A lo sz n v cs):valEq v v=true:=by
 rcases h with ⟨_,_,rfl⟩ | ⟨b,cap,tl,rfl,_⟩
 ·exact valEq_nilSlice
 ·exact valEq_slice
end
end Go.AE

/- A heap in a list, in plain Lean: what a swap does, up and down; no program in sight. -/
namespace Go.AE
open Go

section
variable {α:Type}
def swp(l:List α)(i k:Nat):List α:=match l[i]?,l[k]? with
 | some x,some y=>(l.set i y).set k x
 | _,_=>l
theorem swp_len{l:List α}{i k:Nat}:(swp l i k).length=l.length:=by
 unfold swp
 split<;>simp
theorem swp_eq{l:List α}{i k:Nat}{x y:α}(hi:l[i]? = some x)(hk:l[k]? = some y):swp l i k=(l.set i y).set k x:=by
 unfold swp
 rw [hi,hk]
theorem swp_get{l:List α}{i k:Nat}(hi:i<l.length)(hk:k<l.length)(j:Nat):(swp l i k)[j]? = if j=k then l[i]? else if j=i then l[k]? else l[j]?:=by
 rw [swp_eq (List.getElem?_eq_getElem hi) (List.getElem?_eq_getElem hk)]
 rw [List.getElem?_set,List.getElem?_set]
 by_cases h1:j=k
 ·subst h1
  simp [hk,List.getElem?_eq_getElem hi]
 ·by_cases h2:j=i
  ·subst h2
   simp [h1,Ne.symm h1,hi,List.getElem?_eq_getElem hk]
  ·simp [h1,h2,Ne.symm h1,Ne.symm h2]
theorem swp_mem{l:List α}{i k:Nat}(hi:i<l.length)(hk:k<l.length)(x:α):x∈swp l i k↔x∈l:=by
 rw [List.mem_iff_getElem?,List.mem_iff_getElem?]
 constructor
 ·rintro ⟨j,hj⟩
  rw [swp_get hi hk] at hj
  split at hj
  ·exact ⟨_,hj⟩
  ·split at hj
   ·exact ⟨_,hj⟩
   ·exact ⟨_,hj⟩
 ·rintro ⟨j,hj⟩
  by_cases h1:j=k
  ·subst h1
   refine ⟨i,?_⟩
   rw [swp_get hi hk]
   by_cases h3:i=j
   ·subst h3;simp [hj]
   ·simp [h3,hj]
  ·by_cases h2:j=i
   ·subst h2
    exact ⟨k,by rw [swp_get hi hk];simp [hj]⟩
   ·exact ⟨j,by rw [swp_get hi hk];simp [h1,h2,hj]⟩
structure SameL(n:Nat)(l l':List α):Prop where
 len:l'.length=l.length
 mem:∀ x,x∈l'↔x∈l
 rest:∀ k,n≤k→l'[k]? = l[k]?
theorem SameL.refl{n:Nat}(l:List α):SameL n l l:=⟨rfl,fun _=>.rfl,fun _ _=>rfl⟩
theorem SameL.trans{n:Nat}{a b c:List α}(h:SameL n a b)(k:SameL n b c):SameL n a c:=
 ⟨k.len.trans h.len,fun x=>(k.mem x).trans (h.mem x),fun j hj=>(k.rest j hj).trans (h.rest j hj)⟩
theorem SameL.swp{n:Nat}{l:List α}{i k:Nat}(hi:i<n)(hk:k<n)(hn:n≤l.length):SameL n l (swp l i k):=
 ⟨swp_len,swp_mem (by omega) (by omega),fun j hj=>by rw [swp_get (by omega) (by omega),if_neg (by omega),if_neg (by omega)]⟩

structure TotLt(lt:α→α→Prop):Prop where
 irr:∀ x,¬ lt x x
 trans:∀ {x y z},lt x y→lt y z→lt x z
 tri:∀ {x y},¬ lt x y→¬ lt y x→x=y
variable {lt:α→α→Prop}
theorem TotLt.asym(h:TotLt lt){x y:α}(k:lt x y):¬ lt y x:=fun k'=>h.irr x (h.trans k k')
theorem TotLt.nle(h:TotLt lt){x y z:α}(h1:¬ lt y x)(h2:¬ lt z y):¬ lt z x:=fun h3=>by
 by_cases k:lt y z
 ·exact h1 (h.trans k h3)
 ·have:=h.tri k h2
  subst this
  exact h1 h3
def OrdL(lt:α→α→Prop)(l:List α)(p c:Nat):Prop:=∀ x y,l[p]? = some x→l[c]? = some y→¬ lt y x
def HeapL(lt:α→α→Prop)(l:List α)(n:Nat):Prop:=∀ c,0<c→c<n→OrdL lt l ((c-1) / 2) c
def UpI(lt:α→α→Prop)(l:List α)(n j:Nat):Prop:=
 (∀ c,0<c→c<n→c≠j→OrdL lt l ((c-1) / 2) c)∧∀ c,0<c→c<n→(c-1) / 2=j→0<j→OrdL lt l ((j-1) / 2) c
def DownI(lt:α→α→Prop)(l:List α)(n i i0:Nat):Prop:=
 (∀ c,0<c→c<n→(c-1) / 2≠i→(c=i→i≠i0)→OrdL lt l ((c-1) / 2) c)∧∀ c,0<c→c<n→(c-1) / 2=i→0<i→OrdL lt l ((i-1) / 2) c

theorem OrdL.nle(hT:TotLt lt){l:List α}{a b c:Nat}(hb:b<l.length)(h1:OrdL lt l a b)(h2:OrdL lt l b c):OrdL lt l a c:=fun x y hx hy=>
 hT.nle (h1 x _ hx (List.getElem?_eq_getElem hb)) (h2 _ y (List.getElem?_eq_getElem hb) hy)
theorem OrdL.congr{l l':List α}{p c p' c':Nat}(h:OrdL lt l p c)(e1:l'[p']? = l[p]?)(e2:l'[c']? = l[c]?):OrdL lt l' p' c':=fun x y hx hy=>h x y (e1 ▸ hx) (e2 ▸ hy)

theorem up_step(hT:TotLt lt){l:List α}{n j:Nat}{x y:α}(h:UpI lt l n j)(hj:j<n)(hn:n≤l.length)(h0:0<j)(hx:l[(j-1) / 2]? = some x)(hy:l[j]? = some y)(hlt:lt y x):
  UpI lt (swp l ((j-1) / 2) j) n ((j-1) / 2):=by
 have hi:(j-1) / 2<j:=by omega
 have g:=swp_get (l:=l) (i:=(j-1) / 2) (k:=j) (by omega) (by omega)
 have xy:OrdL lt l j ((j-1) / 2):=fun a b ha hb=>by
  rw [hy] at ha;rw [hx] at hb
  cases ha;cases hb
  exact hT.asym hlt
 have gi:(swp l ((j-1) / 2) j)[(j-1) / 2]? = l[j]?:=by rw [g,if_neg (by omega),if_pos rfl]
 have gj:(swp l ((j-1) / 2) j)[j]? = l[(j-1) / 2]?:=by rw [g,if_pos rfl]
 have ge:∀ c,c≠j→c≠(j-1) / 2→(swp l ((j-1) / 2) j)[c]? = l[c]?:=fun c h1 h2=>by rw [g,if_neg h1,if_neg h2]
 refine ⟨fun c c0 cn ci=>?_,fun c c0 cn cp i0=>?_⟩
 ·by_cases e1:c=j
  ·subst e1
   exact xy.congr gi gj
  ·have hc:=ge c e1 ci
   by_cases e2:(c-1) / 2=j
   ·rw [e2]
    exact (h.2 c c0 cn e2 h0).congr gj hc
   ·by_cases e3:(c-1) / 2=(j-1) / 2
    ·rw [e3]
     have h1:=h.1 c c0 cn e1
     rw [e3] at h1
     intro a b ha hb
     rw [gi,hy] at ha
     rw [hc] at hb
     cases ha
     exact fun hl=>h1 x b hx hb (hT.trans hl hlt)
    ·exact (h.1 c c0 cn e1).congr (ge _ e2 e3) hc
 ·have h1:=h.1 ((j-1) / 2) i0 (by omega) (by omega)
  have gp:=ge (((j-1) / 2-1) / 2) (by omega) (by omega)
  by_cases e1:c=j
  ·subst e1
   exact h1.congr gp gj
  ·have h2:=h.1 c c0 cn e1
   rw [cp] at h2
   exact (OrdL.nle hT (by omega) h1 h2).congr gp (ge c e1 (by omega))
theorem up_end{l:List α}{n j:Nat}(h:UpI lt l n j)(he:0<j→OrdL lt l ((j-1) / 2) j):HeapL lt l n:=fun c c0 cn=>by
 by_cases e:c=j
 ·subst e
  exact he c0
 ·exact h.1 c c0 cn e
theorem down_step(hT:TotLt lt){l:List α}{n i i0 j:Nat}{x y:α}(h:DownI lt l n i i0)(hj:j<n)(hn:n≤l.length)(hp:(j-1) / 2=i)(j0:0<j)(hx:l[i]? = some x)(hy:l[j]? = some y)(hlt:lt y x)
  (hs:∀ c,0<c→c<n→(c-1) / 2=i→c≠j→OrdL lt l j c):DownI lt (swp l i j) n j i0:=by
 have g:=swp_get (l:=l) (i:=i) (k:=j) (by omega) (by omega)
 have gi:(swp l i j)[i]? = l[j]?:=by rw [g,if_neg (by omega),if_pos rfl]
 have gj:(swp l i j)[j]? = l[i]?:=by rw [g,if_pos rfl]
 have ge:∀ c,c≠j→c≠i→(swp l i j)[c]? = l[c]?:=fun c h1 h2=>by rw [g,if_neg h1,if_neg h2]
 have xy:OrdL lt l j i:=fun a b ha hb=>by
  rw [hy] at ha;rw [hx] at hb
  cases ha;cases hb
  exact hT.asym hlt
 refine ⟨fun c c0 cn cp _=>?_,fun c c0 cn cp _=>?_⟩
 ·by_cases e1:c=j
  ·subst e1
   rw [hp]
   exact xy.congr gi gj
  ·by_cases e2:(c-1) / 2=i
   ·rw [e2]
    exact (hs c c0 cn e2 e1).congr gi (ge c e1 (by omega))
   ·by_cases e3:c=i
    ·subst e3
     exact (h.2 j j0 hj hp c0).congr (ge _ (by omega) (by omega)) gi
    ·exact (h.1 c c0 cn e2 (fun e=>absurd e e3)).congr (ge _ cp e2) (ge _ e1 e3)
 ·rw [hp]
  exact (h.1 c c0 cn (by omega) (by omega)).congr (by rw [gi,cp]) (ge _ (by omega) (by omega))
theorem down_end{l:List α}{n i i0:Nat}(h:DownI lt l n i i0)(he:∀ c,0<c→c<n→(c-1) / 2=i→OrdL lt l i c)(hi:i≠i0∨i0=0):HeapL lt l n:=fun c c0 cn=>by
 by_cases e:(c-1) / 2=i
 ·rw [e]
  exact he c c0 cn e
 ·exact h.1 c c0 cn e (fun e=>by omega)
theorem down_stay{l:List α}{n i:Nat}(h:DownI lt l n i i)(he:∀ c,0<c→c<n→(c-1) / 2=i→OrdL lt l i c):UpI lt l n i:=
 ⟨fun c c0 cn ci=>by
  by_cases e:(c-1) / 2=i
  ·rw [e]
   exact he c c0 cn e
  ·exact h.1 c c0 cn e (fun e=>absurd e ci),h.2⟩
theorem heap_down(hT:TotLt lt){l l':List α}{n i:Nat}(h:HeapL lt l n)(hn:n≤l.length)(e:∀ j,j<n→j≠i→l'[j]? = l[j]?):DownI lt l' n i i:=
 ⟨fun c c0 cn cp ci=>(h c c0 cn).congr (e _ (by omega) cp) (e _ cn (fun e=>ci e rfl)),fun c c0 cn cp i0=>by
  have h1:=h c c0 cn
  rw [cp] at h1
  exact (OrdL.nle hT (by omega) (h i i0 (by omega)) h1).congr (e _ (by omega) (by omega)) (e _ cn (by omega))⟩
theorem heap_push{l l':List α}{n:Nat}(h:HeapL lt l n)(e:∀ j,j<n→l'[j]? = l[j]?):UpI lt l' (n+1) n:=
 ⟨fun c c0 cn ci=>(h c c0 (by omega)).congr (e _ (by omega)) (e _ (by omega)),fun c c0 cn cp i0=>by omega⟩
theorem HeapL.less{l:List α}{n m:Nat}(h:HeapL lt l n)(hm:m≤n):HeapL lt l m:=fun c c0 cm=>h c c0 (by omega)
theorem HeapL.congr{l l':List α}{n:Nat}(h:HeapL lt l n)(e:∀ j,j<n→l'[j]? = l[j]?):HeapL lt l' n:=fun c c0 cn=>(h c c0 cn).congr (e _ (by omega)) (e _ cn)
theorem HeapL.min(hT:TotLt lt){l:List α}{n:Nat}(h:HeapL lt l n)(hn:n≤l.length):∀ c,c<n→OrdL lt l 0 c:=by
 intro c
 induction c using Nat.strongRecOn with
 | ind c ih=>
  intro cn
  by_cases c0:c=0
  ·subst c0
   intro a b ha hb
   rw [ha] at hb
   cases hb
   exact hT.irr a
  ·exact OrdL.nle hT (by omega) (ih _ (by omega) (by omega)) (h c (by omega) cn)
end

/-! ### where each name stands -/
section
variable {β:Type}
def Where(l:List (ByteArray×β))(g:ByteArray→Option Nat):Prop:=∀ k i,g k=some i↔(l[i]?).map (·.1)=some k
variable {l:List (ByteArray×β)}{g:ByteArray→Option Nat}
theorem Where.get(h:Where l g){k:ByteArray}{i:Nat}(e:g k=some i):∃ a,l[i]? = some (k,a):=by
 have:=(h k i).1 e
 cases hl:l[i]? with
 | none=>rw [hl] at this;cases this
 | some x=>
  rw [hl] at this
  obtain ⟨a,b⟩:=x
  cases this
  exact ⟨b,rfl⟩
theorem Where.of(h:Where l g){i:Nat}{x:ByteArray×β}(e:l[i]? = some x):g x.1=some i:=(h _ _).2 (by rw [e];rfl)
theorem Where.inj(h:Where l g){i j:Nat}{x y:ByteArray×β}(hi:l[i]? = some x)(hj:l[j]? = some y)(e:x.1=y.1):i=j:=by
 have h1:=h.of hi
 have h2:=h.of hj
 rw [e,h2] at h1
 cases h1
 rfl
theorem Where.uniq(h:Where l g){x y:ByteArray×β}(hx:x∈l)(hy:y∈l)(e:x.1=y.1):x=y:=by
 obtain ⟨i,hi⟩:=List.mem_iff_getElem?.1 hx
 obtain ⟨j,hj⟩:=List.mem_iff_getElem?.1 hy
 have:=h.inj hi hj e
 subst this
 rw [hi] at hj
 exact Option.some.inj hj
theorem Where.absent(h:Where l g){k:ByteArray}(e:g k=none):∀ x∈l,x.1≠k:=by
 intro x hx ek
 obtain ⟨i,hi⟩:=List.mem_iff_getElem?.1 hx
 have:=h.of hi
 rw [ek,e] at this
 cases this
theorem Where.swp(h:Where l g){i k:Nat}{x y:ByteArray×β}(hi:l[i]? = some x)(hk:l[k]? = some y):Where (swp l i k) fun n=>if n=x.1 then some k else if n=y.1 then some i else g n:=by
 have li:i<l.length:=(List.getElem?_eq_some_iff.1 hi).1
 have lk:k<l.length:=(List.getElem?_eq_some_iff.1 hk).1
 intro n j
 rw [swp_get li lk]
 dsimp only
 by_cases e1:n=x.1
 ·rw [if_pos e1]
  subst e1
  constructor
  ·intro e
   cases e
   rw [if_pos rfl,hi];rfl
  ·intro e
   by_cases j1:j=k
   ·rw [j1]
   ·rw [if_neg j1] at e
    by_cases j2:j=i
    ·rw [if_pos j2,hk] at e
     have:=h.inj hk hi (Option.some.inj e)
     omega
    ·rw [if_neg j2] at e
     have:=(h _ _).2 e
     rw [h.of hi] at this
     cases this
     omega
 ·rw [if_neg e1]
  by_cases e2:n=y.1
  ·rw [if_pos e2]
   subst e2
   constructor
   ·intro e
    cases e
    by_cases j1:i=k
    ·subst j1
     rw [hi] at hk
     cases hk
     exact absurd rfl e1
    ·rw [if_neg j1,if_pos rfl,hk];rfl
   ·intro e
    by_cases j1:j=k
    ·rw [if_pos j1,hi] at e
     exact absurd (Option.some.inj e).symm e1
    ·rw [if_neg j1] at e
     by_cases j2:j=i
     ·rw [j2]
     ·rw [if_neg j2] at e
      have:=(h _ _).2 e
      rw [h.of hk] at this
      cases this
      omega
  ·rw [if_neg e2,h n j]
   by_cases j1:j=k
   ·subst j1
    rw [if_pos rfl,hi,hk]
    constructor
    ·intro e;exact absurd (Option.some.inj e).symm e2
    ·intro e;exact absurd (Option.some.inj e).symm e1
   ·rw [if_neg j1]
    by_cases j2:j=i
    ·subst j2
     rw [if_pos rfl,hi,hk]
     constructor
     ·intro e;exact absurd (Option.some.inj e).symm e1
     ·intro e;exact absurd (Option.some.inj e).symm e2
    ·rw [if_neg j2]
theorem Where.push(h:Where l g){x:ByteArray×β}(hx:g x.1=none):Where (l++[x]) fun n=>if n=x.1 then some l.length else g n:=by
 intro n j
 rw [List.getElem?_append]
 dsimp only
 by_cases e1:n=x.1
 ·rw [if_pos e1]
  subst e1
  constructor
  ·intro e
   cases e
   rw [if_neg (Nat.lt_irrefl _),Nat.sub_self];rfl
  ·intro e
   by_cases hj:j<l.length
   ·rw [if_pos hj] at e
    have:=(h _ _).2 e
    rw [hx] at this
    cases this
   ·rw [if_neg hj] at e
    by_cases hj2:j=l.length
    ·rw [hj2]
    ·have:(([x]:List (ByteArray×β)))[j-l.length]? = none:=by
      rw [List.getElem?_eq_none_iff];simp;omega
     rw [this] at e
     cases e
 ·rw [if_neg e1,h n j]
  by_cases hj:j<l.length
  ·rw [if_pos hj]
  ·rw [if_neg hj,List.getElem?_eq_none (by omega)]
   constructor
   ·intro e;cases e
   ·intro e
    by_cases hj2:j=l.length
    ·rw [hj2,Nat.sub_self] at e
     exact absurd (Option.some.inj e).symm e1
    ·have:(([x]:List (ByteArray×β)))[j-l.length]? = none:=by
      rw [List.getElem?_eq_none_iff];simp;omega
     rw [this] at e
     cases e
theorem Where.pop(h:Where l g){m:Nat}(hm:l.length=m+1){x:ByteArray×β}(hx:l[m]? = some x):Where (l.take m) fun n=>if n=x.1 then none else g n:=by
 intro n j
 rw [List.getElem?_take]
 dsimp only
 by_cases e1:n=x.1
 ·rw [if_pos e1]
  subst e1
  constructor
  ·intro e;cases e
  ·intro e
   by_cases hj:j<m
   ·rw [if_pos hj] at e
    have:=(h _ _).2 e
    rw [h.of hx] at this
    cases this
    omega
   ·rw [if_neg hj] at e
    cases e
 ·rw [if_neg e1,h n j]
  by_cases hj:j<m
  ·rw [if_pos hj]
  ·rw [if_neg hj]
   constructor
   ·intro e
    by_cases hj2:j=m
    ·subst hj2
     rw [hx] at e
     exact absurd (Option.some.inj e).symm e1
    ·rw [List.getElem?_eq_none (by omega)] at e
     cases e
   ·intro e;cases e
theorem Where.set(h:Where l g){i:Nat}{k:ByteArray}{a b:β}(hi:l[i]? = some (k,a)):Where (l.set i (k,b)) g:=by
 have li:i<l.length:=(List.getElem?_eq_some_iff.1 hi).1
 intro n j
 rw [h n j,List.getElem?_set]
 by_cases e:i=j
 ·subst e
  rw [if_pos rfl,if_pos li,hi];rfl
 ·rw [if_neg e]
theorem take_mem{m:Nat}(hm:l.length=m+1)(h:Where l g){x:ByteArray×β}(hx:l[m]? = some x)(y:ByteArray×β):y∈l.take m↔y∈l∧y.1≠x.1:=by
 constructor
 ·intro hy
  have hy2:=List.mem_of_mem_take hy
  obtain ⟨j,hj⟩:=List.mem_iff_getElem?.1 hy
  rw [List.getElem?_take] at hj
  split at hj
  ·rename_i hlt
   refine ⟨hy2,fun e=>?_⟩
   have:=h.inj hj hx e
   omega
  ·cases hj
 ·rintro ⟨hy,hne⟩
  obtain ⟨j,hj⟩:=List.mem_iff_getElem?.1 hy
  have lj:j<l.length:=(List.getElem?_eq_some_iff.1 hj).1
  refine List.mem_iff_getElem?.2 ⟨j,?_⟩
  rw [List.getElem?_take,if_pos,hj]
  by_cases e:j=m
  ·subst e
   rw [hj] at hx
   cases hx
   exact absurd rfl hne
  ·omega
end
end Go.AE

/- The evaluator: maps of any keys to any values; loops over them. Printed from AeMapU and AeMapL by mkmapv.py. -/
namespace Go.AE
open Go
set_option linter.unusedSectionVars false

structure MapEnc(κ α:Type)[DecidableEq κ] where
 ek:κ→Value
 ev:α→Value
 same:∀ a b,sameKey (ek a) (ek b)=some (decide (a=b))
section
variable {κ α:Type}[DecidableEq κ]{Γ:MapEnc κ α}
abbrev VE(κ α:Type):=κ×α×Nat
noncomputable def ve(Γ:MapEnc κ α)(x:VE κ α):MapEntry:={ key:=Γ.ek x.1,val:=Γ.ev x.2.1,born:=x.2.2 }
noncomputable def vEnts(Γ:MapEnc κ α)(l:List (VE κ α)):List MapEntry:=l.map (ve Γ)

structure VOK(l:List (VE κ α))(ck:Nat):Prop where
 keys:(l.map (·.1)).Nodup
 born:(l.map (·.2.2)).Nodup
 lt:∀ x∈l,x.2.2<ck

noncomputable def vget(l:List (VE κ α))(k:κ):Option α:=
 match l with
 | []=>none
 | x::l=>if k=x.1 then some x.2.1 else vget l k

theorem vget_some{l:List (VE κ α)}{k:κ}{v:α}(h:vget l k=some v):∃ b,(k,v,b)∈l:=by
 induction l with
 | nil=>cases h
 | cons x l ih=>
  simp only [vget] at h
  split at h
  ·rename_i e;cases h;exact ⟨x.2.2,by rw [e];simp⟩
  ·obtain ⟨b,hb⟩:=ih h;exact ⟨b,by simp [hb]⟩

theorem vget_mem{l:List (VE κ α)}(hn:(l.map (·.1)).Nodup){x:(VE κ α)}(h:x∈l):vget l x.1=some x.2.1:=by
 induction l with
 | nil=>cases h
 | cons y l ih=>
  simp only [List.map_cons,List.nodup_cons] at hn
  simp only [vget]
  rcases List.mem_cons.1 h with rfl | h
  ·rw [if_pos rfl]
  ·rw [if_neg,ih hn.2 h]
   intro e
   exact hn.1 (List.mem_map.2 ⟨x,h,e⟩)

theorem vget_none{l:List (VE κ α)}{k:κ}:vget l k=none↔∀ x∈l,x.1≠k:=by
 induction l with
 | nil=>simp [vget]
 | cons y l ih=>
  simp only [vget]
  by_cases e:k=y.1
  ·simp [e]
  ·simp [e,ih,Ne.symm e]

noncomputable def vpos(k:κ):List (VE κ α)→Nat→Option (Nat×α)
 | [],_=>none
 | x::l,i=>if k=x.1 then some (i,x.2.1) else vpos k l (i+1)

theorem findE_v(k:κ):∀ (l:List (VE κ α)) (i:Nat),findE (Γ.ek k) (vEnts Γ l) i=some ((vpos k l i).map fun p=>(p.1,Γ.ev p.2))
 | [],i=>rfl
 | x::l,i=>by
  have ih:=findE_v k l (i+1)
  simp only [vEnts,List.map_cons,findE,ve,Γ.same,vpos]
  by_cases e:k=x.1
  ·simp [e]
  ·simp only [e,decide_false,if_false]
   exact ih

theorem vpos_get(k:κ):∀ (l:List (VE κ α)) (i:Nat),(vpos k l i).map (·.2)=vget l k
 | [],i=>rfl
 | x::l,i=>by
  simp only [vpos,vget]
  by_cases e:k=x.1
  ·simp [e]
  ·simp only [e,if_false];exact vpos_get k l (i+1)

noncomputable def vput(k:κ)(v:α)(ck:Nat):List (VE κ α)→List (VE κ α)
 | []=>[(k,v,ck)]
 | x::l=>if k=x.1 then (k,v,x.2.2)::l else x::vput k v ck l
noncomputable def vck(l:List (VE κ α))(k:κ)(ck:Nat):Nat:=if (vget l k).isSome then ck else ck+1
noncomputable def vdel(k:κ):List (VE κ α)→List (VE κ α)
 | []=>[]
 | x::l=>if k=x.1 then l else x::vdel k l

theorem vget_uput{k:κ}{v:α}{ck:Nat}{l:List (VE κ α)}(j:κ):vget (vput k v ck l) j=if j=k then some v else vget l j:=by
 induction l with
 | nil=>simp [vput,vget]
 | cons x l ih=>
  simp only [vput]
  by_cases e:k=x.1
  ·rw [if_pos e]
   simp only [vget]
   by_cases e2:j=k
   ·simp [e2]
   ·simp [e2,← e]
  ·rw [if_neg e]
   simp only [vget,ih]
   by_cases e2:j=k
   ·subst e2;simp [e]
   ·simp [e2]

theorem vput_keys{k:κ}{v:α}{ck:Nat}:∀ {l:List (VE κ α)},(vput k v ck l).map (·.1)=if (vget l k).isSome then l.map (·.1) else l.map (·.1)++[k]
 | []=>rfl
 | x::l=>by
  simp only [vput,vget]
  by_cases e:k=x.1
  ·simp [e]
  ·simp only [e,if_false,List.map_cons,vput_keys (l:=l)]
   split<;>simp

theorem vput_born{k:κ}{v:α}{ck:Nat}:∀ {l:List (VE κ α)},(vput k v ck l).map (·.2.2)=if (vget l k).isSome then l.map (·.2.2) else l.map (·.2.2)++[ck]
 | []=>rfl
 | x::l=>by
  simp only [vput,vget]
  by_cases e:k=x.1
  ·simp [e]
  ·simp only [e,if_false,List.map_cons,vput_born (l:=l)]
   split<;>simp

theorem vput_ok{k:κ}{v:α}{ck:Nat}{l:List (VE κ α)}(h:VOK l ck):VOK (vput k v ck l) (vck l k ck):=by
 refine ⟨?_,?_,?_⟩
 ·rw [vput_keys]
  cases hg:vget l k with
  | some u=>simpa using h.keys
  | none=>
   simp only [Option.isSome_none,Bool.false_eq_true,if_false]
   rw [List.nodup_append]
   refine ⟨h.keys,by simp,fun a ha b hb=>?_⟩
   simp at hb;subst hb
   obtain ⟨x,hx,rfl⟩:=List.mem_map.1 ha
   exact vget_none.1 hg x hx
 ·rw [vput_born]
  cases hg:vget l k with
  | some u=>simpa using h.born
  | none=>
   simp only [Option.isSome_none,Bool.false_eq_true,if_false]
   rw [List.nodup_append]
   refine ⟨h.born,by simp,fun a ha b hb=>?_⟩
   simp at hb;subst hb
   obtain ⟨x,hx,rfl⟩:=List.mem_map.1 ha
   have:=h.lt x hx
   omega
 ·intro x hx
  have hm:x.2.2∈(vput k v ck l).map (·.2.2):=List.mem_map.2 ⟨x,hx,rfl⟩
  rw [vput_born] at hm
  unfold vck
  cases hg:vget l k with
  | some u=>
   rw [hg] at hm
   simp only [Option.isSome_some,if_true] at hm ⊢
   obtain ⟨y,hy,e⟩:=List.mem_map.1 hm
   have:=h.lt y hy
   omega
  | none=>
   rw [hg] at hm
   simp only [Option.isSome_none,Bool.false_eq_true,if_false] at hm ⊢
   rcases List.mem_append.1 hm with hm | hm
   ·obtain ⟨y,hy,e⟩:=List.mem_map.1 hm
    have:=h.lt y hy
    omega
   ·simp at hm;omega

theorem vdel_sub{k:κ}:∀ {l:List (VE κ α)},(vdel k l).Sublist l
 | []=>.slnil
 | x::l=>by
  simp only [vdel]
  split
  ·exact List.sublist_cons_self _ _
  ·exact vdel_sub.cons_cons _

theorem vdel_ok{k:κ}{l:List (VE κ α)}{ck:Nat}(h:VOK l ck):VOK (vdel k l) ck:=
 ⟨h.keys.sublist (vdel_sub.map _),h.born.sublist (vdel_sub.map _),fun x hx=>h.lt x (vdel_sub.subset hx)⟩

theorem vget_udel{k:κ}{l:List (VE κ α)}(hn:(l.map (·.1)).Nodup)(j:κ):vget (vdel k l) j=if j=k then none else vget l j:=by
 induction l with
 | nil=>simp [vdel,vget]
 | cons x l ih=>
  simp only [List.map_cons,List.nodup_cons] at hn
  simp only [vdel]
  by_cases e:k=x.1
  ·rw [if_pos e]
   by_cases e2:j=k
   ·rw [if_pos e2,vget_none]
    intro y hy e3
    exact hn.1 (List.mem_map.2 ⟨y,hy,by rw [e3,e2,e]⟩)
   ·rw [if_neg e2]
    simp only [vget]
    rw [if_neg (by rw [← e];exact e2)]
  ·rw [if_neg e]
   simp only [vget,ih hn.2]
   by_cases e2:j=k
   ·subst e2;simp [e]
   ·simp [e2]

theorem setVal_v{k:κ}{v:α}{ck:Nat}:∀ {l:List (VE κ α)} {i j:Nat} {u:α},vpos k l i=some (j,u)→i≤j∧setVal (vEnts Γ l) (j-i) (Γ.ek k) (Γ.ev v)=vEnts Γ (vput k v ck l)
 | [],i,j,u,h=>by cases h
 | x::l,i,j,u,h=>by
  simp only [vpos] at h
  by_cases e:k=x.1
  ·rw [if_pos e] at h
   cases h
   refine ⟨Nat.le_refl _,?_⟩
   simp only [Nat.sub_self,vEnts,List.map_cons,setVal,vput,if_pos e,ve]
  ·rw [if_neg e] at h
   obtain ⟨h1,h2⟩:=setVal_v (ck:=ck) (v:=v) h
   refine ⟨by omega,?_⟩
   rw [show j-i=(j-(i+1))+1 by omega]
   simp only [vEnts,List.map_cons,setVal,vput,if_neg e]
   rw [← vEnts,h2]
   rfl

theorem eraseAt_v{k:κ}:∀ {l:List (VE κ α)} {i j:Nat} {u:α},vpos k l i=some (j,u)→i≤j∧eraseAt (vEnts Γ l) (j-i)=vEnts Γ (vdel k l)
 | [],i,j,u,h=>by cases h
 | x::l,i,j,u,h=>by
  simp only [vpos] at h
  by_cases e:k=x.1
  ·rw [if_pos e] at h
   cases h
   refine ⟨Nat.le_refl _,?_⟩
   simp only [Nat.sub_self,vEnts,List.map_cons,eraseAt,vdel,if_pos e]
  ·rw [if_neg e] at h
   obtain ⟨h1,h2⟩:=eraseAt_v h
   refine ⟨by omega,?_⟩
   rw [show j-i=(j-(i+1))+1 by omega]
   simp only [vEnts,List.map_cons,eraseAt,vdel,if_neg e]
   rw [← vEnts,h2]
   rfl

theorem vput_new{k:κ}{v:α}{ck:Nat}:∀ {l:List (VE κ α)},vget l k=none→vput k v ck l=l++[(k,v,ck)]
 | [],_=>rfl
 | x::l,h=>by
  simp only [vget] at h
  by_cases e:k=x.1
  ·rw [if_pos e] at h;cases h
  ·rw [if_neg e] at h
   simp only [vput,if_neg e,vput_new h,List.cons_append]

section
variable {E:Env}{A:ASt}{t kt et m ck:Nat}{l:List (VE κ α)}{i ki ei:TIn}

theorem lookup_v(hi:E.ti t=some i)(hd:i.desc=.map kt et)(hk:E.ti kt=some ki)(hkd:∀ k,plainKey ki.desc (Γ.ek k)=true)(he:E.ti et=some ei){z:Value}(hz:ei.zero=some z)(hzc:closed z=true)(hm:A.get m=some (.map (vEnts Γ l) ck))(k:κ)(ok:Bool):
  aLookup E t (.map (some m)) (Γ.ek k) ok A=some (if ok then .tuple #[((vget l k).map Γ.ev).getD z,.bool (vget l k).isSome] else ((vget l k).map Γ.ev).getD z):=by
 have hp:plainKey ki.desc (Γ.ek k)=true:=hkd k
 simp only [aLookup,hi,hd,hk,he,hp,cond_true,hm,findE_v]
 have:=vpos_get k l 0
 cases hu:vpos k l 0 with
 | none=>rw [hu] at this;simp only [Option.map_none] at this ⊢;rw [← this,hz];simp only [hzc,cond_true];rfl
 | some p=>rw [hu] at this;simp only [Option.map_some] at this ⊢;rw [← this];rfl

theorem mapUpdate_v(hi:E.ti t=some i)(hd:i.desc=.map kt et)(hk:E.ti kt=some ki)(hkd:∀ k,plainKey ki.desc (Γ.ek k)=true)(hm:A.get m=some (.map (vEnts Γ l) ck))(k:κ)(v:α):
  aMapUpdate E t (.map (some m)) (Γ.ek k) (Γ.ev v) A=some (A.set m (.map (vEnts Γ (vput k v ck l)) (vck l k ck))):=by
 have hp:plainKey ki.desc (Γ.ek k)=true:=hkd k
 simp only [aMapUpdate,hi,hd,hk,hp,cond_true,hm,findE_v]
 have:=vpos_get k l 0
 cases hu:vpos k l 0 with
 | none=>
  rw [hu] at this
  simp only [Option.map_none] at this ⊢
  have hg:vget l k=none:=this.symm
  rw [vput_new hg]
  unfold vck
  rw [hg]
  simp [vEnts,ve]
 | some p=>
  rw [hu] at this
  simp only [Option.map_some] at this ⊢
  have hs:=(setVal_v (Γ:=Γ) (ck:=ck) (v:=v) hu).2
  simp only [Nat.sub_zero] at hs
  unfold vck
  rw [← this,hs]
  rfl

theorem delete_v(hi:E.ti t=some i)(hd:i.desc=.map kt et)(hk:E.ti kt=some ki)(hkd:∀ k,plainKey ki.desc (Γ.ek k)=true)(hm:A.get m=some (.map (vEnts Γ l) ck))(k:κ):
  aDelete E t (.map (some m)) (Γ.ek k) A=.val undef (if (vget l k).isSome then A.set m (.map (vEnts Γ (vdel k l)) ck) else A):=by
 have hp:plainKey ki.desc (Γ.ek k)=true:=hkd k
 simp only [aDelete,hi,hd,hk,hp,cond_true,hm,findE_v]
 have:=vpos_get k l 0
 cases hu:vpos k l 0 with
 | none=>rw [hu] at this;simp only [Option.map_none] at this ⊢;rw [← this];rfl
 | some p=>
  rw [hu] at this
  simp only [Option.map_some] at this ⊢
  have hs:=(eraseAt_v (Γ:=Γ) hu).2
  simp only [Nat.sub_zero] at hs
  rw [← this,hs]
  rfl

end

theorem VOK.mem_born{l:List (VE κ α)}{ck:Nat}(hok:VOK l ck){x y:(VE κ α)}(hx:x∈l)(hy:y∈l)(e:x.2.2=y.2.2):x=y:=by
 have hp:=hok.born
 clear hok
 exact keys_one (f:=fun x:(VE κ α)=>x.2.2) hp hx hy e

theorem nextV_v{l done:List (VE κ α)}{ck m r:Nat}{A:ASt}{K:Value→ASt→Prop}(hok:VOK l ck)(hsub:∀ x∈done,x∈l)(hr:A.get r=some (.miter (some m) ck (done.map (·.2.2)) ck))(hm:A.get m=some (.map (vEnts Γ l) ck))
  (h1:∀ x∈l,x∉done→K (.tuple #[.bool true,Γ.ek x.1,Γ.ev x.2.1]) (A.set r (.miter (some m) ck ((done++[x]).map (·.2.2)) ck)))
  (h2:(∀ x∈l,x∈done)→K (.tuple #[.bool false]) A):nextV (some (.pointer (some ⟨r,0,none⟩))) false A K:=by
 have hold:(done.map (·.2.2)).isEmpty=true∨(vEnts Γ l).all (fun e=>decide (e.born≥ck))=false:=by
  cases done with
  | nil=>exact .inl rfl
  | cons y d=>
   right
   rw [List.all_eq_false]
   refine ⟨ve Γ y,List.mem_map.2 ⟨y,hsub y (by simp),rfl⟩,?_⟩
   have:=hok.lt y (hsub y (by simp))
   simp [ve];omega
 have hb:((done.map (·.2.2)).isEmpty || !((vEnts Γ l).all fun e=>decide (e.born≥ck)))=true:=by
  rcases hold with h | h<;>simp [h]
 have hmem:∀ e,e∈entriesLeft (done.map (·.2.2)) (vEnts Γ l)→∃ x∈l,x∉done∧e=ve Γ x:=by
  intro e he
  simp only [entriesLeft,List.mem_filter,vEnts,List.mem_map] at he
  obtain ⟨⟨x,hx,rfl⟩,hn⟩:=he
  refine ⟨x,hx,fun hd=>?_,rfl⟩
  have:(done.map (·.2.2)).contains (ve Γ x).born=true:=List.contains_iff_mem.2 (List.mem_map.2 ⟨x,hd,rfl⟩)
  rw [this] at hn
  cases hn
 have hyoung:∀ e,e∈entriesLeft (done.map (·.2.2)) (vEnts Γ l)→e.born<ck:=by
  intro e he
  obtain ⟨x,hx,_,rfl⟩:=hmem e he
  exact hok.lt x hx
 have hK:∀ e,e∈entriesLeft (done.map (·.2.2)) (vEnts Γ l)→K (.tuple #[.bool true,e.key,e.val]) (A.set r (.miter (some m) ck (done.map (·.2.2)++[e.born]) ck)):=by
  intro e he
  obtain ⟨x,hx,hn,rfl⟩:=hmem e he
  have:=h1 x hx hn
  rw [List.map_append] at this
  exact this
 simp only [nextV,aNext,hr,hm,Nat.beq_refl,Bool.and_self,cond_true]
 cases hL:entriesLeft (done.map (·.2.2)) (vEnts Γ l) with
 | nil=>
  have hall:∀ x∈l,x∈done:=by
   intro x hx
   by_cases hd:x∈done
   ·exact hd
   ·exfalso
    have:ve Γ x∈entriesLeft (done.map (·.2.2)) (vEnts Γ l):=by
     simp only [entriesLeft,List.mem_filter,vEnts,List.mem_map]
     refine ⟨⟨x,hx,rfl⟩,?_⟩
     have:(done.map (·.2.2)).contains (ve Γ x).born=false:=by
      rw [Bool.eq_false_iff]
      intro hc
      obtain ⟨y,hy,e⟩:=List.mem_map.1 (List.contains_iff_mem.1 hc)
      have:=hok.mem_born (hsub y hy) hx e
      exact hd (this ▸ hy)
     rw [this];rfl
    rw [hL] at this
    cases this
  have hb2:((done.map (·.2.2)).isEmpty || ((vEnts Γ l).isEmpty || !((vEnts Γ l).all fun e=>decide (e.born≥ck))))=true:=by
   rcases hold with h | h<;>simp [h]
  rw [hb2,cond_true]
  exact h2 hall
 | cons e rest=>
  rw [hL] at hyoung hK
  cases rest with
  | nil=>
   have h3:decide (e.born<ck)=true:=decide_eq_true (hyoung e (by simp))
   simp only [h3,hb,Bool.and_self,cond_true,Nd.all]
   exact hK e (by simp)
  | cons e2 rest=>
   have h3:((e::e2::rest).all fun e=>decide (e.born<ck))=true:=List.all_eq_true.2 fun x hx=>decide_eq_true (hyoung x hx)
   simp only [h3,hb,Bool.and_self,cond_true,Nd.all]
   intro i hi
   have hi':nth (e::e2::rest) i=some ((e::e2::rest)[i]'hi):=by rw [nth_eq];exact List.getElem?_eq_getElem _
   rw [hi']
   exact hK _ (List.getElem_mem hi)

theorem findBorn_v{l:List (VE κ α)}(hn:(l.map (·.2.2)).Nodup){x:(VE κ α)}(hx:x∈l):findBorn x.2.2 (vEnts Γ l)=some (ve Γ x):=by
 induction l with
 | nil=>cases hx
 | cons y l ih=>
  simp only [List.map_cons,List.nodup_cons] at hn
  simp only [vEnts,List.map_cons,findBorn]
  rcases List.mem_cons.1 hx with rfl | hx
  ·have:Nat.beq (ve Γ x).born x.2.2=true:=Nat.beq_refl _
   rw [this,cond_true]
  ·have:Nat.beq (ve Γ y).born x.2.2=false:=by
    rw [Bool.eq_false_iff]
    intro h
    exact hn.1 (List.mem_map.2 ⟨x,hx,(Nat.eq_of_beq_eq_true h).symm⟩)
   rw [this,cond_false]
   exact ih hn.2 hx

theorem entry_v{l done:List (VE κ α)}{ck m r:Nat}{A:ASt}{x:(VE κ α)}(hok:VOK l ck)(hx:x∈l)(hr:A.get r=some (.miter (some m) ck ((done++[x]).map (·.2.2)) ck))(hm:A.get m=some (.map (vEnts Γ l) ck)):
  aEntry (.pointer (some ⟨r,0,none⟩)) A=some (.tuple #[Γ.ek x.1,Γ.ev x.2.1]):=by
 simp only [aEntry,hr,hm,List.map_append,List.map_cons,List.map_nil,lastOf_snoc,Nat.beq_refl,cond_true,findBorn_v hok.born hx]
 rfl

structure InVMap(Γ:MapEnc κ α)(it:Tmp)(r m ck:Nat)(l done:List (VE κ α))(T:Tmps)(A:ASt):Prop where
 it:tget T it=.pointer (some ⟨r,0,none⟩)
 iter:A.get r=some (.miter (some m) ck (done.map (·.2.2)) ck)
 map:A.get m=some (.map (vEnts Γ l) ck)
 sub:∀ x∈done,x∈l
 nodup:done.Nodup

theorem vnodup_le{l:List (VE κ α)}:∀ {d:List (VE κ α)},d.Nodup→(∀ x∈d,x∈l)→d.length≤l.length:=by
 induction l with
 | nil=>
  intro d _ hs
  cases d with
  | nil=>simp
  | cons x d=>exact absurd (hs x (by simp)) (by simp)
 | cons y l ih=>
  intro d hd hs
  by_cases hy:y∈d
  ·obtain ⟨s,t,rfl⟩:=List.append_of_mem hy
   have hd':(s++t).Nodup∧y∉s++t:=by
    have h1:(s++y::t).Perm (y::(s++t)):=List.perm_middle
    have h2:=(h1.nodup_iff).1 hd
    simp only [List.nodup_cons] at h2
    exact ⟨h2.2,h2.1⟩
   have h1:=ih hd'.1 (fun x hx=>by
    rcases List.mem_cons.1 (hs x (by rcases List.mem_append.1 hx with h | h<;>simp [h])) with e | e
    ·exact absurd (e ▸ hx) hd'.2
    ·exact e)
   simp only [List.length_append,List.length_cons] at h1 ⊢;omega
  ·have h1:=ih (d:=d) hd (fun x hx=>by
    rcases List.mem_cons.1 (hs x hx) with e | e
    ·exact absurd (e ▸ hx) hy
    ·exact e)
   simp only [List.length_cons];omega

theorem CodeW.mapLoopV{Z:Road}{P:Program}{n:Nat}{ro:Option Nat}{b:Code}{Q:Out→Prop}{it:Tmp}{r m ck:Nat}{l:List (VE κ α)}(J:List (VE κ α)→Tmps→ASt→Prop)
  (hb:∀ done T A,InVMap Γ it r m ck l done T A→J done T A→CodeW Z P n ro b T A (Onw (fun T' A'=>∃ x,x∈l∧x∉done∧InVMap Γ it r m ck l (done++[x]) T' A'∧J (done++[x]) T' A') Q))
  {T:Tmps} {A:ASt} (h0:InVMap Γ it r m ck l [] T A) (hJ:J [] T A):CodeW Z P n ro (.loop b) T A Q:=by
 refine CodeW.loopR (fun k T A=>∃ done,k=l.length-done.length∧InVMap Γ it r m ck l done T A∧J done T A) ?_ ⟨[],rfl,h0,hJ⟩
 rintro k T A ⟨done,rfl,hi,hj⟩
 refine (hb done T A hi hj).mono fun o ho=>?_
 cases o with
 | res v A=>exact ho
 | fr rr=>
  obtain ⟨ex,T',A'⟩:=rr
  cases ex with
  | normal=>
   obtain ⟨x,h1,h2,h3,h4⟩:=ho
   refine ⟨_,?_,done++[x],rfl,h3,h4⟩
   have h5:=vnodup_le h3.nodup h3.sub
   simp only [List.length_append,List.length_cons,List.length_nil] at h5 ⊢
   omega
  | exit i=>exact ho
  | ret=>exact ho

theorem InVMap.step{it:Tmp}{r m ck:Nat}{l done:List (VE κ α)}{T T':Tmps}{A A':ASt}(h:InVMap Γ it r m ck l done T A){x:(VE κ α)}(hx:x∈l)(hn:x∉done)(ht:tget T' it=tget T it)(hr:A'.get r=some (.miter (some m) ck ((done++[x]).map (·.2.2)) ck))(hm:A'.get m=A.get m):InVMap Γ it r m ck l (done++[x]) T' A':=
 ⟨ht.trans h.it,hr,hm.trans h.map,fun y hy=>by
  rcases List.mem_append.1 hy with h1 | h1
  ·exact h.sub y h1
  ·rw [List.mem_singleton.1 h1];exact hx,by
  rw [List.nodup_append]
  refine ⟨h.nodup,by simp,fun a ha b hb e=>?_⟩
  rw [List.mem_singleton.1 hb] at e
  exact hn (e ▸ ha)⟩

theorem vget_all{l done:List (VE κ α)}{ck:Nat}(hok:VOK l ck)(hsub:∀ x∈done,x∈l)(hall:∀ x∈l,x∈done)(hd:done.Nodup):(done.map (·.1)).Nodup∧∀ k,vget done k=vget l k:=by
 have hk:(done.map (·.1)).Nodup:=by
  rw [List.Nodup,List.pairwise_map]
  refine List.Pairwise.imp_of_mem (fun {a b} ha hb hne e=>hne ?_) hd
  have h1:=vget_mem hok.keys (hsub a ha)
  have h2:=vget_mem hok.keys (hsub b hb)
  exact keys_one (f:=fun x:(VE κ α)=>x.1) hok.keys (hsub a ha) (hsub b hb) e
 refine ⟨hk,fun k=>?_⟩
 cases h:vget l k with
 | none=>
  rw [vget_none] at h ⊢
  exact fun x hx=>h x (hsub x hx)
 | some v=>
  obtain ⟨b,hb⟩:=vget_some h
  exact vget_mem hk (hall _ hb)

theorem vget_snoc{l:List (VE κ α)}{x:(VE κ α)}(k:κ):vget (l++[x]) k=(vget l k).or (if k=x.1 then some x.2.1 else none):=by
 induction l with
 | nil=>simp [vget]
 | cons y l ih=>
  simp only [List.cons_append,vget]
  by_cases e:k=y.1
  ·simp [e]
  ·simp only [e,if_false];exact ih

def encS{α:Type}(f:α→Value):MapEnc ByteArray α:=⟨.string,f,fun a b=>by simp only [sameKey,bytesEq_iff]⟩
end
end Go.AE

/- Maps: an entry that is there is turned in place (m[k] among several that are assigned together). -/
namespace Go.AE
open Go
set_option maxRecDepth 10000

section
variable {κ α:Type}[DecidableEq κ]{Γ:MapEnc κ α}
theorem vpos_nth{k:κ}:∀ {l:List (VE κ α)} {i j:Nat} {v:α},vpos k l i=some (j,v)→i≤j∧∃ b,l[j-i]? = some (k,v,b)
 | [],i,j,v,h=>by simp [vpos] at h
 | x::l,i,j,v,h=>by
  unfold vpos at h
  split at h
  ·rename_i e
   cases h
   refine ⟨Nat.le_refl _,x.2.2,?_⟩
   rw [Nat.sub_self,e];rfl
  ·obtain ⟨h1,b,h2⟩:=vpos_nth h
   refine ⟨by omega,b,?_⟩
   have e:j-i=j-(i+1)+1:=by omega
   rw [e,List.getElem?_cons_succ]
   exact h2
theorem nth_vEnts{l:List (VE κ α)}{j:Nat}{x:VE κ α}(h:l[j]? = some x):nth (vEnts Γ l) j=some (ve Γ x):=by
 rw [nth_eq]
 unfold vEnts
 rw [List.getElem?_map,h]
 rfl
theorem setBorn_v{k:κ}{v u:α}{ck b:Nat}:∀ {l:List (VE κ α)},(l.map (·.1)).Nodup→(l.map (·.2.2)).Nodup→(k,u,b)∈l→setBorn b (Γ.ev v) (vEnts Γ l)=some (vEnts Γ (vput k v ck l))
 | [],_,_,h=>by cases h
 | x::l,hk,hb,h=>by
  simp only [List.map_cons,List.nodup_cons] at hk hb
  show setBorn b (Γ.ev v) (ve Γ x::vEnts Γ l)=_
  unfold setBorn vput
  rcases List.mem_cons.1 h with e | e
  ·subst e
   have e1:Nat.beq (ve Γ (k,u,b)).born b=true:=by rw [nbeq];simp [ve]
   rw [e1,cond_true]
   simp [vEnts,ve]
  ·have n1:k≠x.1:=fun e2=>hk.1 (e2 ▸ List.mem_map.2 ⟨_,e,rfl⟩)
   have n2:x.2.2≠b:=fun e2=>hb.1 (e2 ▸ List.mem_map.2 ⟨_,e,rfl⟩)
   have e1:Nat.beq (ve Γ x).born b=false:=by rw [nbeq];exact decide_eq_false n2
   rw [e1,cond_false,setBorn_v (ck:=ck) (v:=v) hk.2 hb.2 e,if_neg n1]
   simp [vEnts]
variable {E:Env}{A:ASt}{t kt et:TypeId}{i ki ei:TIn}{m ck:Nat}{l:List (VE κ α)}
theorem mapEntry_v(hok:VOK l ck)(hi:E.ti t=some i)(hd:i.desc=.map kt et)(hk:E.ti kt=some ki)(hkd:∀ k,plainKey ki.desc (Γ.ek k)=true)(he:E.ti et=some ei)(hm:A.get m=some (.map (vEnts Γ l) ck)){k:κ}{u:α}(hu:vget l k=some u):
  ∃ b:Nat,aMapEntry E t (.map (some m)) (Γ.ek k) A=.val (.tuple #[Γ.ev u,.int .i64 (b:Int)]) A∧∀ (B:ASt) (v:α),B.get m=some (.map (vEnts Γ l) ck)→aEntryStore (.map (some m)) (.int .i64 (b:Int)) (Γ.ev v) B=some (B.set m (.map (vEnts Γ (vput k v ck l)) ck)):=by
 have hp:plainKey ki.desc (Γ.ek k)=true:=hkd k
 have h1:=vpos_get k l 0
 cases hv:vpos k l 0 with
 | none=>rw [hv,hu] at h1;cases h1
 | some p=>
  obtain ⟨j,w⟩:=p
  rw [hv,hu] at h1
  cases h1
  obtain ⟨_,b,hb⟩:=vpos_nth hv
  rw [Nat.sub_zero] at hb
  refine ⟨b,?_,fun B v hB=>?_⟩
  ·simp only [aMapEntry,hi,hd,hk,he,hp,cond_true,hm,findE_v,hv,Option.map_some,nth_vEnts (Γ:=Γ) hb]
   rfl
  ·have hs:=setBorn_v (Γ:=Γ) (v:=v) (ck:=ck) hok.keys hok.born (List.mem_of_getElem? hb)
   show aEntryStore (.map (some m)) (.int .i64 (Int.ofNat b)) (Γ.ev v) B=_
   simp only [aEntryStore,hB,hs]
end
section
variable {E:Env}{T:Tmps}{A:ASt}{C:Tgt→List Value→ASt→(Value→ASt→Prop)→Prop}{K:Value→ASt→Prop}
theorem oneW_mapEntry{t:TypeId}{m k:Operand}:oneW E C (.mapEntry t m k) T A K=arW C K (aOp E (.mapEntry t m k) T A):=oneW_op rfl
theorem oneW_entryStore{t:TypeId}{m s x:Operand}:oneW E C (.entryStore t m s x) T A K=arW C K (aOp E (.entryStore t m s x) T A):=oneW_op rfl
theorem aOp_mapEntry{t:TypeId}{m k:Operand}:aOp E (.mapEntry t m k) T A=(match ev T m,ev T k with
  | some a,some b=>(aMapEntry E t a b A).plain
  | _,_=>.bad "mapEntry"):=by rw [aOp_def];rfl
theorem aOp_entryStore{t:TypeId}{m s x:Operand}:aOp E (.entryStore t m s x) T A=(match ev T m,ev T s,ev T x with
  | some a,some b,some c=>match aEntryStore a b c A with
   | some A'=>.val undef A'
   | none=>.bad "entryStore"
  | _,_,_=>.bad "entryStore"):=by rw [aOp_def];rfl
theorem fresh_mapEntry{t:TypeId}{m k:Operand}{E:Env}:freshOp E (.mapEntry t m k)=false:=by simp only [freshOp]
theorem quiet_mapEntry{t:TypeId}{m k:Operand}{E:Env}:quietOp E (.mapEntry t m k)=false:=by simp only [quietOp]
theorem fresh_entryStore{t:TypeId}{m s x:Operand}{E:Env}:freshOp E (.entryStore t m s x)=false:=by simp only [freshOp]
theorem quiet_entryStore{t:TypeId}{m s x:Operand}{E:Env}:quietOp E (.entryStore t m s x)=false:=by simp only [quietOp]
end
end Go.AE

/- A set of one contract, for a drawn region that calls one function with known arguments. -/
namespace Go.AE
open Go
variable {Z:Road}{P:Program}
def RO(f:FuncId)(ar:List Value)(Pr:ASt→Prop)(Sp:ASt→Value→ASt→Prop):Tgt→List Value→ASt→(Value→ASt→Prop)→Prop:=fun tg l A S=>Pr A∧tg=.fn f∧l=ar∧S=Sp A
theorem RO_ok{f:FuncId}{ar:List Value}{Pr:ASt→Prop}{Sp:ASt→Value→ASt→Prop}(h:∀ A,Pr A→CallW Z P f ar A (Sp A))(t args A S)(hr:RO f ar Pr Sp t args A S):CallT Z P t args A S:=by
 obtain ⟨hp,rfl,rfl,rfl⟩:=hr
 exact h A hp
theorem conRO{f:FuncId}{ar:List Value}{Pr:ASt→Prop}{Sp:ASt→Value→ASt→Prop}{A:ASt}{K:Value→ASt→Prop}(hp:Pr A)(h:∀ r A',Sp A r A'→K r A'):conC (RO f ar Pr Sp) (.fn f) ar A K:=by
 refine ⟨⟨_,hp,rfl,rfl,rfl⟩,?_⟩
 rintro S ⟨_,_,_,rfl⟩ r A' hr
 exact h r A' hr
end Go.AE

/- Two sets of contracts, as one. -/
namespace Go.AE
open Go
variable {Z:Road}{P:Program}
def RU(R1 R2:Tgt→List Value→ASt→(Value→ASt→Prop)→Prop):Tgt→List Value→ASt→(Value→ASt→Prop)→Prop:=fun t l A S=>R1 t l A S∨R2 t l A S
theorem RU_ok{R1 R2:Tgt→List Value→ASt→(Value→ASt→Prop)→Prop}(h1:∀ t args A S,R1 t args A S→CallT Z P t args A S)(h2:∀ t args A S,R2 t args A S→CallT Z P t args A S)(t args A S)(h:RU R1 R2 t args A S):CallT Z P t args A S:=by
 rcases h with h | h
 ·exact h1 t args A S h
 ·exact h2 t args A S h
variable {f g:FuncId}{ar br:List Value}{Pr Qr:ASt→Prop}{Sp Sq:ASt→Value→ASt→Prop}{A:ASt}{K:Value→ASt→Prop}
theorem conRU1(hp:Pr A)(hne:f≠g)(h:∀ r A',Sp A r A'→K r A'):conC (RU (RO f ar Pr Sp) (RO g br Qr Sq)) (.fn f) ar A K:=by
 refine ⟨⟨_,.inl ⟨hp,rfl,rfl,rfl⟩⟩,?_⟩
 rintro S (⟨_,_,_,rfl⟩ | ⟨_,h2,_⟩) r A' hr
 ·exact h r A' hr
 ·cases h2;exact absurd rfl hne
theorem conRU2(hp:Qr A)(hne:f≠g)(h:∀ r A',Sq A r A'→K r A'):conC (RU (RO f ar Pr Sp) (RO g br Qr Sq)) (.fn g) br A K:=by
 refine ⟨⟨_,.inr ⟨hp,rfl,rfl,rfl⟩⟩,?_⟩
 rintro S (⟨_,h2,_⟩ | ⟨_,_,_,rfl⟩) r A' hr
 ·cases h2;exact absurd rfl hne
 ·exact h r A' hr
end Go.AE

/- The evaluator: ranges over functions, with values that are not known. -/
namespace Go.AE
open Go

section
variable {Z:Road}{E:Env}{P:Program}

theorem c_range{n:Nat}{ro:Option Nat}{Q:Out→Prop}{T:Tmps}{A:ASt}{g:Operand}{ps:Array Tmp}{as b:Code}:codeW Z E P n ro (.rangeFunc g ps as b) Q T A=CodeW Z P n ro (.rangeFunc g ps as b) T A Q:=by rw [codeW]<;>intros<;>contradiction

theorem CallT.round{l:Nat}{args:List Value}{A:ASt}{K:Value→ASt→Prop}{n:Nat}{T T':Tmps}{ps:Array Tmp}{as b:Code}{st:LoopState}{j:Option Code}(hg:A.get l=some (.loop n T ps as b st j))(hT':putAll n ps.toList args T=some T')
  (h:CodeW Z P n (some l) as T' A fun o=>∃ T1 A1 n1 T0 ps1 as1 b1 j1,o=.fr ⟨.normal,T1,A1⟩∧A1.get l=some (.loop n1 T0 ps1 as1 b1 .ready j1)∧
   CodeW Z P n (some l) b T1 (A1.set l (.loop n1 T0 ps1 as1 b1 .busy j1)) fun o2=>∃ ex T2 A2,o2=.fr ⟨ex,T2,A2⟩∧(endR l ex A2).all fun o3=>∃ v A3,o3=.res v A3∧K v A3) :
  CallT Z P (.round l) args A K:=by
 intro ρ w args' hR ha L hL
 obtain ⟨r,h1,⟨h2,h3,h4,h5,h6⟩,h7,h8,_⟩:=loop_set (Z.rep hR) hg hL
 obtain ⟨k1,k2,k3⟩:=putAll_sound hT' ha h7 h8
 have hs:args'.size=r.params.size:=by rw [h2];simpa using k1.symm
 have hfold:((r.params.zip args').foldl (fun tmps (t,a)=>tmps.setIfInBounds t a) r.tmps)=((ps.toList.zip args'.toList).foldl (fun tmps (t,a)=>tmps.setIfInBounds t a) r.tmps):=by
  rw [h2,← Array.foldl_toList,Array.toList_zip]
 refine ⟨_,_,_,_,run_yield h1 hs,?_⟩
 rw [hfold,h3,h4]
 refine roundIn_of_wpIn (F:=Fence.wide) trivial ?_
 have hw:=h ρ w { tmps:=(ps.toList.zip args'.toList).foldl (fun tmps (t,a)=>tmps.setIfInBounds t a) r.tmps,defers:=[] } w.heap.size (some L.B) hR ⟨L,hL,rfl⟩ ⟨k3⟩ k2 (defs_nil w)
 refine wpIn_mono (F:=Fence.wide.inRound L.B) hw ?_
 rintro e a1 w1 ⟨ex,T1,A1,hq,hex,ρ1,ht1,hst1,hn1,hd1⟩
 obtain ⟨T1',A1',n1,T0,ps1,as1,b1,j1,ho,hg1,hbody⟩:=hq
 cases ho
 cases e<;>first | exact hex.elim | skip
 have hL1:=hst1.ext _ _ hL
 obtain ⟨r1,g1,⟨g2,g3,g4,g5,g6⟩,g7,g8,g9⟩:=loop_set hst1.rep hg1 hL1
 have hst:r1.state=.ready:=g5
 have hstep1:Step ρ1 A1 w1 ρ1 (A1.set l (.loop n1 T0 ps1 as1 b1 .busy j1)) (w1.putObj L.B (.loop { r1 with state:=.busy })):=by
  have:=g9 .busy j1
  rw [← g6] at this
  exact g6 ▸ this
 refine ⟨_,run_beginRound g1 hst,?_⟩
 have hZ2:=Z.step (Z.step hR hst1) hstep1
 have hw2:=hbody ρ1 _ a1 w.heap.size (some L.B) hZ2 ⟨L,hL1,rfl⟩ ht1 hn1 (hd1.step hst1.rep hstep1)
 refine wpIn_mono (F:=Fence.wide.inRound L.B) hw2 ?_
 rintro e a2 w2 ⟨ex,T2,A2,⟨ex',T2',A2',ho2,hend2⟩,hex2,ρ2,ht2,hst2,hn2,hd2⟩
 cases ho2
 have hall:=(hst1.trans hstep1).trans hst2
 obtain ⟨v,w3,A3,z1,⟨v',A3',ho3,hK⟩,z3,z4⟩:=endR_sound (P:=P) (Q:=fun o3=>∃ v A3,o3=.res v A3∧K v A3) hst2.rep (hst2.ext _ _ hL1) hend2
 cases ho3
 have hend:∃ v w',(Instr.endRound L.B (exCode ex)).run P w2=.ok v w'∧∃ u A' v' ρ',K u A'∧Ending.returned v=.returned v'∧VRel ρ' u v'∧Step ρ A w ρ' A' w':=
  ⟨v,w3,z1,v,A3,v,ρ2,hK,rfl,z3,hall.trans z4⟩
 cases ex with
 | normal=>cases e<;>first | exact hex2.elim | exact hend
 | ret=>cases e<;>first | exact hex2.elim | exact hend
 | exit i=>
  cases e<;>first | exact hex2.elim | skip
  have:i=_:=hex2
  subst this
  exact hend

noncomputable def oneIh(t:Tgt)(args:List Value)(A:ASt)(S:Value→ASt→Prop):Job→Nd Out
 | .call t' args' A'=>open Classical in if t'=t∧args'=args∧A'=A then .pick (fun r=>S r.1 r.2) fun r=>.ret (.res r.1 r.2) else .fail "no contract"
 | _=>.fail "no contract"
theorem oneIh_job{t:Tgt}{args:List Value}{A:ASt}{S:Value→ASt→Prop}(h:CallT Z P t args A S){fuel:Nat}:JobSound Z P fuel (oneIh t args A S):=by
 refine ⟨fun n ro c T A Q hq=>hq.elim,?_,fun n ro b T A Q hq=>hq.elim⟩
 intro t' args' A' Q hq ρ w args'' hR ha
 unfold callBy oneIh at hq
 simp only [] at hq
 split at hq
 ·rename_i he
  obtain ⟨rfl,rfl,rfl⟩:=he
  have hq:∀ r:Value×ASt,S r.1 r.2→Q (r.1,r.2):=fun r hr=>hq r hr
  have:=CallT.mono h (K':=fun v A'=>Q (v,A')) fun v A' hv=>hq (v,A') hv
  exact this ρ w args'' hR ha
 ·exact hq.elim

theorem CodeW.rangeFunc(hE:EnvOK E P)(hZr:RoadRo Z E){n:Nat}{ro:Option Nat}{g:Operand}{ps:Array Tmp}{as b:Code}{T:Tmps}{A A2:ASt}{Q:Out→Prop}{fn:Fn}{first captured:Array Value}{f:FuncId}{args:List Value}
  (hg:ev T g=some (.func fn first captured)) (hok:roOK ro A=true) (hinv:aInvoke E fn (first.toList++[.func (.yield A.next) #[] #[]]) captured.toList (A.new (.loop n T ps as b .ready none))=.enter (.fn f) args A2)
  (h:CallT Z P (.fn f) args A2 fun _ A3=>∃ n' T' ps' as' b' st',A3.get A.next=some (.loop n' T' ps' as' b' st' none)∧isBusy st'=false∧Q (.fr ⟨.normal,T,A3.set A.next (.loop n' T' ps' as' b' .exhausted none)⟩)) :
  CodeW Z P n ro (.rangeFunc g ps as b) T A Q:=by
 have hs:=range_step hE hZr (oneIh_job h (fuel:=0)) n ro g ps as b T A
 intro ρ w a N rr hR hro ht hn hd
 refine hs Q ?_ ρ w a N rr hR hro ht hn hd
 unfold rangeJob
 simp only [fN_eq,ASt.newN_eq,hg,hok,cond_true,hinv,callBy,oneIh]
 rw [if_pos ⟨trivial,trivial,trivial⟩]
 intro r hr
 obtain ⟨n',T',ps',as',b',st',h1,h2,h3⟩:=hr
 show Nd.all Q (match r.2.get A.next with
   | some (.loop n' T' ps' as' b' st j)=>bif isBusy st then Nd.fail "range: busy" else
    (match j with
     | none=>Nd.ret (.fr ⟨.normal,T,r.2.set A.next (.loop n' T' ps' as' b' .exhausted j)⟩)
     | some c=>oneIh (.fn f) args A2 (fun _ A3=>∃ n' T' ps' as' b' st',A3.get A.next=some (.loop n' T' ps' as' b' st' none)∧isBusy st'=false∧Q (.fr ⟨.normal,T,A3.set A.next (.loop n' T' ps' as' b' .exhausted none)⟩)) (.code n ro c T (r.2.set A.next (.loop n' T' ps' as' b' .exhausted j))))
   | _=>Nd.fail "range: record")
 rw [h1]
 simp only [h2,cond_false]
 exact h3
theorem CodeW.rangeFn(hE:EnvOK E P)(hZr:RoadRo Z E){n:Nat}{ro:Option Nat}{g:Operand}{ps:Array Tmp}{as b:Code}{T:Tmps}{A:ASt}{Q:Out→Prop}{first captured:Array Value}{f:FuncId}
  (hg:ev T g=some (.func (.func f) first captured)) (hok:roOK ro A=true) (hent:∀ args A,aEnter E f args A=.enter (.fn f) args A)
  (h:CallT Z P (.fn f) ((first.toList++[.func (.yield A.next) #[] #[]])++captured.toList) (A.new (.loop n T ps as b .ready none)) fun _ A3=>∃ n' T' ps' as' b' st',A3.get A.next=some (.loop n' T' ps' as' b' st' none)∧isBusy st'=false∧Q (.fr ⟨.normal,T,A3.set A.next (.loop n' T' ps' as' b' .exhausted none)⟩)) :
  CodeW Z P n ro (.rangeFunc g ps as b) T A Q:=CodeW.rangeFunc hE hZr hg hok (by rw [aInvoke_func,hent]) h
end
end Go.AE

/- The evaluator: a start with rows that are read alone, whose cells may point to such rows. -/
namespace Go.AE
open Go Go.RowKit
def LieV(s:Spans)(W:World):Prop:=∀ x∈s,∀ (i:Nat) (v:Value),x.2[i]? = some v→∃ v',W.cell? ⟨x.1.B,x.1.o+i,none⟩=some v'∧VRel (roRen s) v v'
theorem roRen_le{s:Spans}{W w:World}{ρ:Ren}{A:ASt}(hs:Step (roRen s) (startAt s.length) W ρ A w):(roRen s).le ρ:=by
 intro b L hb
 have hlt:b<s.length:=by
  by_cases h:b<s.length
  ·exact h
  ·unfold roRen at hb
   rw [List.getElem?_eq_none (by omega)] at hb
   cases hb
 rw [hs.keep b hlt]
 exact hb
theorem roV_road{E:Env}{s:Spans}{W:World}(h:LieV s W):RoadRo (roadRo s W) (withRo E s):=by
 intro ρ A w hs b c hb
 have hs:Step (roRen s) (startAt s.length) W ρ A w:=hs
 have hb:(s[b]?).map (·.2)=some c:=hb
 obtain ⟨x,hx,rfl⟩:=Option.map_eq_some_iff.1 hb
 have hlt:b<s.length:=(List.getElem?_eq_some_iff.1 hx).1
 refine ⟨x.1,?_,fun i v hv=>?_⟩
 ·rw [hs.keep b hlt]
  unfold roRen
  rw [hx];rfl
 ·obtain ⟨v',h1,h2⟩:=h x (List.mem_of_getElem? hx) i v hv
  exact ⟨v',cell_below hs.below' h1,h2.mono (roRen_le hs)⟩
theorem roadSV{E:Env}{s:Spans}{W:World}(h:LieV s W):RoadS (roadRo s W) E s:=⟨roV_road h,fun ρ A w hs=>by
 have hs:Step (roRen s) (startAt s.length) W ρ A w:=hs
 exact hs.next⟩
end Go.AE

/- A slice of one's own: cut in two; whose room is known or none. -/
namespace Go.AE
open Go
set_option maxRecDepth 10000
set_option maxHeartbeats 1000000

def CapU(v:Value):Prop:=∀ a n c,v=.slice (some a) n c→c=unk∨c=0
theorem CapU.nil{n c:Nat}:CapU (.slice none n c):=fun a n c h=>by cases h
theorem CapU.un{a:Addr}{n:Nat}:CapU (.slice (some a) n unk):=fun a n c h=>by cases h;exact .inl rfl
theorem CapU.zero{a:Addr}{n:Nat}:CapU (.slice (some a) n 0):=fun a n c h=>by cases h;exact .inr rfl
theorem cap_appendTo{sz len cap n:Nat}{base:Option Addr}{new:List Value}{A B:ASt}{r:Value}(hu:CapU (.slice base len cap))(h:appendTo sz base len cap n new A=.val r B):CapU r:=by
 unfold appendTo at h
 split at h
 ·cases h1:(Nat.beq cap 0 && Nat.beq len 0)<;>rw [h1] at h
  ·cases h
  ·rw [cond_true] at h
   cases h2:Nat.beq n 0<;>rw [h2] at h
   ·rw [cond_false,grown_eq] at h
    cases h
    exact .un
   ·cases h
    exact .nil
 ·rename_i b off
  split at h
  ·rename_i c z tail _
   cases h1:(Nat.beq z sz && Nat.ble (off+len*sz) c.length)<;>rw [h1] at h
   ·cases h
   ·rw [cond_true] at h
    cases h2:Nat.beq cap unk<;>rw [h2] at h
    ·rw [cond_false] at h
     cases h3:Nat.ble (len+n) cap<;>rw [h3] at h
     ·rw [cond_false,grown_eq] at h
      cases h
      exact .un
     ·rw [cond_true] at h
      split at h
      ·cases h
       rcases hu _ _ _ rfl with h4 | h4
       ·rw [nbeq] at h2
        simp [h4] at h2
       ·subst h4
        exact .zero
      ·cases h
    ·rw [cond_true] at h
     cases h3:Nat.ble (off+(len+n)*sz) c.length<;>rw [h3] at h
     ·rw [cond_false] at h
      cases h4:(tail && Nat.beq (off+len*sz) c.length)<;>rw [h4] at h
      ·cases h
      ·rw [cond_true,grown_eq] at h
       cases h
       exact .un
     ·rw [cond_true] at h
      split at h
      ·cases h
       exact .un
      ·cases h
  ·cases h
 ·cases h
theorem cap_append{E:Env}{t xt:TypeId}{v x:Value}{A B:ASt}{r:Value}(hu:CapU v)(h:aAppend E t xt v x A=.val r B):CapU r:=by
 unfold aAppend at h
 repeat' split at h
 all_goals first | (cases h;done) | skip
 generalize hc:(!isIntD _ && _)=q at h
 cases q with
 | false=>cases h
 | true=>exact cap_appendTo hu h
section
variable {E:Env}{A:ASt}{lo sz n:Nat}{v:Value}{cs:List Value}{t e:TypeId}{ti te:TIn}
theorem cut_take{c:List Value}{k:Nat}(h:k≤c.length):cut c 0 k=some (c.take k):=by
 have e:(c.take k).length=k:=by rw [List.length_take,Nat.min_eq_left h]
 simp only [cut,List.drop_zero,e,Nat.beq_refl,cond_true]
theorem cut_drop{c:List Value}{k m:Nat}(h:c.length=k+m):cut c k m=some (c.drop k):=by
 unfold cut
 have:(c.drop k).length=m:=by rw [List.length_drop];omega
 subst this
 simp only [List.take_length,Nat.beq_refl,cond_true]
theorem bound_some{k d:Nat}:boundOr (some (.int .i64 (k:Int))) d=some k:=rfl
theorem bound_none{d:Nat}:boundOr none d=some d:=by rw [boundOr]
theorem OwnS.cutL(h:OwnS A lo sz n v cs)(ht:E.ti t=some ti)(hd:ti.desc=.slice e)(he:E.ti e=some te)(hs:te.size=sz)(hsz:0<sz){i:Nat}(hi:i≤n)(hn:n<unk):
  ∃ r,lenV r=some i∧valEq r r=true∧(∀ nx,aSlice E t v none (some (.int .i64 (i:Int))) none { heap:=.e,next:=nx }=none∨aSlice E t v none (some (.int .i64 (i:Int))) none { heap:=.e,next:=nx }=some r)∧∀ B lo',OwnS B lo' sz n v cs→aSlice E t v none (some (.int .i64 (i:Int))) none B=some r∧srcCells E sz r i B=some (cs.take (i*sz)):=by
 subst hs
 rcases h with ⟨rfl,rfl,rfl⟩ | ⟨b,cap,tl,rfl,_,_,_,hc,hcap⟩
 ·obtain rfl:i=0:=by omega
  refine ⟨.slice none 0 0,rfl,valEq_nilSlice,fun nx=>.inr ?_,fun B lo' _=>⟨?_,by simp [srcCells]⟩⟩
  all_goals
   simp only [aSlice,ht,hd,he]
   rfl
 ·have hm:i*te.size≤n*te.size:=Nat.mul_le_mul_right _ hi
  have e1:Nat.ble (0+i*te.size) cs.length=true:=Nat.ble_eq_true_of_le (by omega)
  have e2:Nat.ble 0 i=true:=Nat.ble_eq_true_of_le (by omega)
  have e3:Nat.blt 0 te.size=true:=Nat.ble_eq_true_of_le hsz
  have hsrc:∀ (B:ASt) (tl:Bool),B.get b=some (.row cs te.size tl)→∀ k:Nat,srcCells E te.size (.slice (some ⟨b,0,none⟩) i k) i B=some (cs.take (i*te.size)):=fun B tl hb k=>by
   simp only [srcCells,hb]
   exact cut_take (by omega)
  rcases hcap with ⟨rfl,rfl⟩ | ⟨rfl,hcu⟩
  ·have hu:Nat.blt unk unk=false:=by rw [nblt];simp
   refine ⟨.slice (some ⟨b,0,none⟩) i unk,rfl,valEq_slice,fun nx=>.inl ?_,fun B lo' hB=>?_⟩
   ·simp only [aSlice,ht,hd,he,get_empty,bound_none,bound_some,hu,Bool.false_and,Bool.and_false,cond_false]
   rcases hB with ⟨_,_,e⟩ | ⟨b',cap',tl',e,hb,_⟩
   ·cases e
   cases e
   refine ⟨?_,hsrc B tl' hb _⟩
   simp only [aSlice,ht,hd,he,hb,bound_none,bound_some,e1,e2,e3,hu,Nat.beq_refl,Bool.and_self,Bool.true_and,Bool.true_or,Bool.or_true,cond_true,cond_false,Option.isNone,Nat.zero_mul,Nat.add_zero,Nat.sub_zero]
  ·have hu:Nat.blt cap unk=true:=Nat.ble_eq_true_of_le hn
   have e4:Nat.ble i cap=true:=Nat.ble_eq_true_of_le hi
   refine ⟨.slice (some ⟨b,0,none⟩) i cap,rfl,valEq_slice,fun nx=>.inr ?_,fun B lo' hB=>?_⟩
   ·simp only [aSlice,ht,hd,he,get_empty,bound_none,bound_some,e2,e4,hu,Nat.beq_refl,Bool.and_self,Bool.or_true,cond_true,Option.isNone,Nat.zero_mul,Nat.add_zero,Nat.sub_zero]
   rcases hB with ⟨_,_,e⟩ | ⟨b',cap',tl',e,hb,_⟩
   ·cases e
   cases e
   refine ⟨?_,hsrc B tl' hb _⟩
   simp only [aSlice,ht,hd,he,hb,bound_none,bound_some,e1,e2,e3,e4,hu,Nat.beq_refl,Bool.and_self,Bool.true_and,Bool.true_or,Bool.or_true,cond_true,Option.isNone,Nat.zero_mul,Nat.add_zero,Nat.sub_zero]
theorem OwnS.cutR(h:OwnS A lo sz n v cs)(hu:CapU v)(ht:E.ti t=some ti)(hd:ti.desc=.slice e)(he:E.ti e=some te)(hs:te.size=sz)(hsz:0<sz){i:Nat}(hi:i≤n):
  ∃ r,lenV r=some (n-i)∧valEq r r=true∧(∀ nx,aSlice E t v (some (.int .i64 (i:Int))) none none { heap:=.e,next:=nx }=none∨aSlice E t v (some (.int .i64 (i:Int))) none none { heap:=.e,next:=nx }=some r)∧∀ B lo',OwnS B lo' sz n v cs→aSlice E t v (some (.int .i64 (i:Int))) none none B=some r∧srcCells E sz r (n-i) B=some (cs.drop (i*sz)):=by
 subst hs
 rcases h with ⟨rfl,rfl,rfl⟩ | ⟨b,cap,tl,rfl,_,_,_,hc,hcap⟩
 ·obtain rfl:i=0:=by omega
  refine ⟨.slice none 0 0,rfl,valEq_nilSlice,fun nx=>.inr ?_,fun B lo' _=>⟨?_,by simp [srcCells]⟩⟩
  all_goals
   simp only [aSlice,ht,hd,he]
   rfl
 ·have hm:i*te.size≤n*te.size:=Nat.mul_le_mul_right _ hi
  have hadd:n*te.size=i*te.size+(n-i)*te.size:=by rw [← Nat.add_mul];congr 1;omega
  have e1:Nat.ble (0+n*te.size) cs.length=true:=Nat.ble_eq_true_of_le (by omega)
  have e2:Nat.ble i n=true:=Nat.ble_eq_true_of_le hi
  have e3:Nat.blt 0 te.size=true:=Nat.ble_eq_true_of_le hsz
  have hsrc:∀ (B:ASt) (tl:Bool),B.get b=some (.row cs te.size tl)→∀ k:Nat,srcCells E te.size (.slice (some ⟨b,0+i*te.size,none⟩) (n-i) k) (n-i) B=some (cs.drop (i*te.size)):=fun B tl hb k=>by
   simp only [srcCells,hb,Nat.zero_add]
   exact cut_drop (by omega)
  rcases hcap with ⟨rfl,rfl⟩ | ⟨rfl,hcu⟩
  ·have hu:Nat.blt unk unk=false:=by rw [nblt];simp
   have go:∀ q:Bool,(Nat.beq i 0 || Nat.blt (0+i*te.size) cs.length)=q→Nat.beq i n=!q∨q=true→∀ (B:ASt) (tl:Bool),B.get b=some (.row cs te.size tl)→aSlice E t (.slice (some ⟨b,0,none⟩) n unk) (some (.int .i64 (i:Int))) none none B=cond q (some (.slice (some ⟨b,0+i*te.size,none⟩) (n-i) unk)) (some zslice):=by
    intro q hq hq2 B tl hb
    simp only [aSlice,ht,hd,he,hb,bound_none,bound_some,e1,e2,e3,hu,hq,Nat.beq_refl,Bool.and_self,Bool.true_and,cond_true,cond_false,Option.isNone]
    cases q with
    | true=>rfl
    | false=>
     rcases hq2 with h | h
     ·rw [h];rfl
     ·cases h
   by_cases hz:i=0∨i<n
   ·have hq:(Nat.beq i 0 || Nat.blt (0+i*te.size) cs.length)=true:=by
     rw [nbeq,nblt,Bool.or_eq_true,decide_eq_true_eq,decide_eq_true_eq]
     rcases hz with hz | hz
     ·exact .inl hz
     ·have:0<(n-i)*te.size:=Nat.mul_pos (by omega) hsz
      exact .inr (by omega)
    refine ⟨.slice (some ⟨b,0+i*te.size,none⟩) (n-i) unk,rfl,valEq_slice,fun nx=>.inl ?_,fun B lo' hB=>?_⟩
    ·have huu:Nat.blt unk unk=false:=by rw [nblt];simp
     simp only [aSlice,ht,hd,he,get_empty,bound_none,bound_some,huu,Bool.false_and,Bool.and_false,cond_false]
    rcases hB with ⟨_,_,e⟩ | ⟨b',cap',tl',e,hb,_⟩
    ·cases e
    cases e
    exact ⟨go true hq (.inr rfl) B tl' hb,hsrc B tl' hb _⟩
   ·have e4:i=n:=by omega
    subst e4
    have hq:(Nat.beq i 0 || Nat.blt (0+i*te.size) cs.length)=false:=by
     rw [nbeq,nblt,Bool.or_eq_false_iff,decide_eq_false_iff_not,decide_eq_false_iff_not]
     omega
    refine ⟨zslice,by rw [Nat.sub_self];rfl,valEq_zslice,fun nx=>.inl ?_,fun B lo' hB=>?_⟩
    ·have huu:Nat.blt unk unk=false:=by rw [nblt];simp
     simp only [aSlice,ht,hd,he,get_empty,bound_none,bound_some,huu,Bool.false_and,Bool.and_false,cond_false]
    rcases hB with ⟨_,_,e⟩ | ⟨b',cap',tl',e,hb,_⟩
    ·cases e
    cases e
    refine ⟨go false hq (.inl (Nat.beq_refl _)) B tl' hb,?_⟩
    have e5:i-i=0:=Nat.sub_self _
    rw [e5,List.drop_of_length_le (by omega)]
    rfl
  ·rcases hu _ _ _ rfl with h4 | h4
   ·exact absurd h4 hcu
   ·subst h4
    obtain rfl:i=0:=by omega
    have hu:Nat.blt 0 unk=true:=by rw [nblt];simp [unk]
    refine ⟨.slice (some ⟨b,0+0*te.size,none⟩) 0 0,rfl,valEq_slice,fun nx=>.inr ?_,fun B lo' hB=>?_⟩
    ·simp only [aSlice,ht,hd,he,get_empty,bound_none,bound_some,e2,hu,Nat.beq_refl,Bool.and_self,Bool.or_true,cond_true,Option.isNone,Nat.sub_zero]
    rcases hB with ⟨_,_,e⟩ | ⟨b',cap',tl',e,hb,_⟩
    ·cases e
    cases e
    refine ⟨?_,hsrc B tl' hb _⟩
    simp only [aSlice,ht,hd,he,hb,bound_none,bound_some,e1,e2,e3,hu,Nat.beq_refl,Bool.and_self,Bool.true_and,Bool.true_or,Bool.or_true,cond_true,Option.isNone,Nat.sub_zero]
end
end Go.AE

/- The evaluator: a drawn region as AeSeqF has it; a read that stands ahead of one that is loud waits no more behind it. -/
namespace Go.AE
open Go
set_option linter.defProp false

noncomputable def dropF(gone:List (List Nat))(i:Nat):List PendF→List PendF
 | []=>[]
 | p::l=>cond (fanAt gone i p.1) (dropF gone i l) (p::dropF gone i l)
noncomputable def goneOf(an un:List Nat):List (List Nat):=an.map fun m=>fltr m un
theorem fltr_sub{m f:Nat}:∀ {l:List Nat},hasN f (fltr m l)=true→m.testBit f=true
 | [],h=>by cases h
 | x::l,h=>by
  unfold fltr at h
  cases hx:m.testBit x with
  | false=>rw [hx,cond_false] at h;exact fltr_sub h
  | true=>
   rw [hx,cond_true] at h
   unfold hasN at h
   rw [Bool.or_eq_true] at h
   rcases h with h | h
   ·rw [nbeq,decide_eq_true_eq] at h
    subst h
    exact hx
   ·exact fltr_sub h
theorem goneOf_at{an un:List Nat}{i m f:Nat}(hm:nth an i=some m)(h:fanAt (goneOf an un) i f=true):m.testBit f=true:=by
 unfold fanAt goneOf at h
 rw [nth_map,hm] at h
 exact fltr_sub h
theorem dropF_mem{gone:List (List Nat)}{i:Nat}:∀ {l:List PendF} {p:PendF},p∈l→fanAt gone i p.1=false→p∈dropF gone i l
 | [],_,h,_=>by cases h
 | q::l,p,h,hf=>by
  unfold dropF
  rcases List.mem_cons.1 h with rfl | h
  ·rw [hf,cond_false];exact List.mem_cons_self
  ·cases fanAt gone i q.1 with
   | true=>rw [cond_true];exact dropF_mem h hf
   | false=>rw [cond_false];exact List.mem_cons_of_mem _ (dropF_mem h hf)

noncomputable def seqG(E:Env)(C:Tgt→List Value→ASt→(Value→ASt→Prop)→Prop)(n base:Nat)(ops:Array Oper)(un:List Nat)(fan gone:List (List Nat)):Nat→List Oper→List PendF→List Nat→List Fl→Tmps→ASt→(Tmps→ASt→Prop)→Prop
 | _,[],_,lo,fl,T,H,K=>K T (restF base fan lo fl H)
 | i,o::l,pd,lo,fl,T,H,K=>
  brW (wantedA ops T o)
   (brW (freshOp E o.op) (freshW (aFresh E o.op T) fun ob f=>putW n T o.dst (f (base+i)) fun T'=>seqG E C n base ops un fan gone (i+1) l pd lo (⟨i,ob⟩::fl) T' H K)
    (brW (quietOp E o.op) (stillW (aOp E o.op T { heap:=.e,next:=0 }) (aOp E o.op T (seesF base fan lo i fl H)) (fun v=>putW n T o.dst v fun T'=>seqG E C n base ops un fan gone (i+1) l pd lo fl T' H K) fun v=>putW n T o.dst v fun T'=>seqG E C n base ops un fan gone (i+1) l (pendIfF (hasN i un) (i,o.op,T,v) pd) lo fl T' H K)
     (oneW E C o.op T (seesF base fan lo i fl H) fun v H'=>pendF E base fan (i::lo) fl H' (dropF gone i pd)∧putW n T o.dst v fun T'=>seqG E C n base ops un fan gone (i+1) l (dropF gone i pd) (i::lo) fl T' H' K)))
   (putW n T o.dst undef fun T'=>seqG E C n base ops un fan gone (i+1) l pd lo fl T' H K)

@[congr] theorem seqG_congr{E:Env}{C:Tgt→List Value→ASt→(Value→ASt→Prop)→Prop}{n n' base i:Nat}{ops:Array Oper}{un:List Nat}{fan gone:List (List Nat)}{l:List Oper}{pd pd':List PendF}{lo lo':List Nat}{fl fl':List Fl}{T:Tmps}{H:ASt}{K:Tmps→ASt→Prop}(h:∀ _:Unit,tg n=n')(h2:pd=pd')(h3:lo=lo')(h4:fl=fl'):seqG E C n base ops un fan gone i l pd lo fl T H K=seqG E C n' base ops un fan gone i l pd' lo' fl' T H K:=by rw [← h (),← h2,← h3,← h4];rfl

section
variable {E:Env}{C:Tgt→List Value→ASt→(Value→ASt→Prop)→Prop}{n base i:Nat}{ops:Array Oper}{un:List Nat}{fan gone:List (List Nat)}{pd:List PendF}{lo:List Nat}{fl:List Fl}{T:Tmps}{H:ASt}{K:Tmps→ASt→Prop}
theorem seqG_nil:seqG E C n base ops un fan gone i [] pd lo fl T H K=K T (restF base fan lo fl H):=by rw [seqG]
theorem seqG_cons{d:Option Tmp}{op:Op}{ty:TypeId}{ps:String}{af:Array Edge}{g:Option (Nat×Bool)}{l:List Oper}:
  seqG E C n base ops un fan gone i (⟨d,op,ty,ps,af,g⟩::l) pd lo fl T H K=brW (wantedA ops T ⟨d,op,ty,ps,af,g⟩)
   (brW (freshOp E op) (freshW (aFresh E op T) fun ob f=>putW n T d (f (base+i)) fun T'=>seqG E C n base ops un fan gone (i+1) l pd lo (⟨i,ob⟩::fl) T' H K)
    (brW (quietOp E op) (stillW (aOp E op T { heap:=.e,next:=0 }) (aOp E op T (seesF base fan lo i fl H)) (fun v=>putW n T d v fun T'=>seqG E C n base ops un fan gone (i+1) l pd lo fl T' H K) fun v=>putW n T d v fun T'=>seqG E C n base ops un fan gone (i+1) l (pendIfF (hasN i un) (i,op,T,v) pd) lo fl T' H K)
     (oneW E C op T (seesF base fan lo i fl H) fun v H'=>pendF E base fan (i::lo) fl H' (dropF gone i pd)∧putW n T d v fun T'=>seqG E C n base ops un fan gone (i+1) l (dropF gone i pd) (i::lo) fl T' H' K)))
   (putW n T d undef fun T'=>seqG E C n base ops un fan gone (i+1) l pd lo fl T' H K):=by rw [seqG]
theorem dropF_nil{gone:List (List Nat)}:dropF gone i []=[]:=by rw [dropF]
theorem dropF_cons{gone:List (List Nat)}{p:PendF}{l:List PendF}:dropF gone i (p::l)=cond (fanAt gone i p.1) (dropF gone i l) (p::dropF gone i l):=by rw [dropF]
end
section
variable {E:Env}{n base:Nat}{ops:Array Oper}{an un:List Nat}

structure SG(E:Env)(base:Nat)(all:List Oper)(an:List Nat)(pd:List PendF)(lo:List Nat)(i:Nat)(s:PSt):Prop where
 hlo:∀ b,s.louds.testBit b=true↔b∈lo
 fls:∀ x∈s.fl,x.f<i∧x.f∈freshPos E 0 all
 lou:∀ b∈lo,b<i∧b<an.length∧Ahead an b
 mask:∀ e∈s.hist,∀ b,e.1.testBit b=true→b<i
 hist:∀ e∈s.hist,e=(s.louds,s.H)∨∃ b,s.louds.testBit b=true∧e.1.testBit b=false
 vq:∀ r∈s.reads,valEq r.v r.v=true
 reads:∀ r∈s.reads,r.i<i∧RI E base an s r∧(Safe E all an r.i∨(r.i,r.o,r.T,r.v)∈pd∨∃ j mj,s.louds.testBit j=true∧nth an j=some mj∧mj.testBit r.i=true)

theorem SG.readsOK{all:List Oper}{pd:List PendF}{lo:List Nat}{i:Nat}{s:PSt}(h:SG E base all an pd lo i s):Go.AE.readsOK E base an s s.reads=true:=by
 have:∀ l,(∀ r∈l,r∈s.reads)→Go.AE.readsOK E base an s l=true:=by
  intro l
  induction l with
  | nil=>intro _;rfl
  | cons r l ih=>
   intro hl
   unfold Go.AE.readsOK
   rw [Bool.and_eq_true]
   refine ⟨?_,ih fun x hx=>hl x (by simp [hx])⟩
   obtain ⟨m,hm,hr⟩:=(h.reads r (hl r (by simp))).2.1.ok
   rw [hm]
   exact hr
 exact this _ fun r hr=>hr

theorem planN_seqG{R:Tgt→List Value→ASt→(Value→ASt→Prop)→Prop}{all:List Oper}(hall:ops.toList=all)(hlen:an.length=all.length)(hok:seqFOK E all an un 0 all=true){K:Tmps→ASt→Prop}:∀ (l:List Oper) (pd:List PendF) (lo:List Nat) (i:Nat) (s:PSt),all.drop i=l→SG E base all an pd lo i s→seqG E (conC R) n base ops un (fanOf E all an) (goneOf an un) i l pd lo s.fl s.T s.H K→
  (planN E (conCall R) n base ops an i l s).all fun s'=>Go.AE.readsOK E base an s' s'.reads=true∧K s'.T (addFl base (fun f=>!takenAt s'.louds f 0 an) s'.fl s'.H)
 | [],pd,lo,i,s,hl,hs,h=>by
  unfold planN
  refine ⟨hs.readsOK,?_⟩
  have hi:∀ b,s.louds.testBit b=true→b<an.length:=fun b hb=>(hs.lou b ((hs.hlo b).1 hb)).2.1
  rw [rest_view hi hs.hlo fun x hx=>(hs.fls x hx).2]
  unfold seqG at h
  exact h
 | o::l,pd,lo,i,s,hl,hs,h=>by
  have ho:all[i]? = some o:=by
   have:(all.drop i)[0]? = some o:=by rw [hl];rfl
   simpa using this
  have hl':all.drop (i+1)=l:=by
   have:(all.drop i).drop 1=l:=by rw [hl];rfl
   rwa [List.drop_drop] at this
  obtain ⟨⟨m,hm,hmlt⟩,hah,hsf⟩:=seqFOK_spec hok i o ho
  rw [Nat.zero_add] at hm hmlt hah hsf
  have hilen:i<an.length:=by
   rw [nth_eq] at hm
   exact (List.getElem?_eq_some_iff.1 hm).1
  have low:∀ j m,nth an j=some m→∀ b,m.testBit b=true→b<j:=by
   intro j m hm b hb
   have hj:j<all.length:=by
    rw [nth_eq] at hm
    have:=(List.getElem?_eq_some_iff.1 hm).1
    omega
   obtain ⟨⟨m',hm',hlt⟩,_⟩:=seqFOK_spec hok j all[j] (by simp [hj])
   rw [Nat.zero_add] at hm' hlt
   rw [hm] at hm';cases hm'
   rcases Nat.lt_or_ge b j with h | h
   ·exact h
   ·rw [Nat.testBit_lt_two_pow (Nat.lt_of_lt_of_le hlt (Nat.pow_le_pow_right (by omega) h))] at hb
    cases hb
  have hi:∀ b,s.louds.testBit b=true→b<an.length:=fun b hb=>(hs.lou b ((hs.hlo b).1 hb)).2.1
  have hfl:∀ x∈s.fl,x.f∈freshPos E 0 all:=fun x hx=>(hs.fls x hx).2
  have hv:viewAt base an s.louds m s.fl s.H=seesF base (fanOf E all an) lo i s.fl s.H:=sees_view hm hi hs.hlo hfl
  have up:∀ b∈lo,b<i+1∧b<an.length∧Ahead an b:=fun b hb=>⟨Nat.lt_succ_of_lt (hs.lou b hb).1,(hs.lou b hb).2⟩
  have still:∀ {T':Tmps},SG E base all an pd lo (i+1) { s with T:=T' }:=fun {T'}=>
   ⟨hs.hlo,fun x hx=>⟨Nat.lt_succ_of_lt (hs.fls x hx).1,(hs.fls x hx).2⟩,up,fun e he b hb=>Nat.lt_succ_of_lt (hs.mask e he b hb),hs.hist,hs.vq,fun r hr=>⟨Nat.lt_succ_of_lt (hs.reads r hr).1,(hs.reads r hr).2⟩⟩
  unfold seqG at h
  have rd:∀ {v:Value} {A1:ASt} {T':Tmps},quietOp E o.op=true→aOp E o.op s.T (seesF base (fanOf E all an) lo i s.fl s.H)=.val v A1→valEq v v=true→SG E base all an (pendIfF (hasN i un) (i,o.op,s.T,v) pd) lo (i+1) { s with T:=T',reads:=⟨i,o.op,s.T,v⟩::s.reads }:=by
   intro v A1 T' hq h1 hval
   have hsub:∀ p∈pd,p∈pendIfF (hasN i un) (i,o.op,s.T,v) pd:=fun p hp=>by
    cases hu:hasN i un with
    | true=>exact List.mem_cons_of_mem _ hp
    | false=>exact hp
   refine ⟨hs.hlo,fun x hx=>⟨Nat.lt_succ_of_lt (hs.fls x hx).1,(hs.fls x hx).2⟩,up,fun e he b hb=>Nat.lt_succ_of_lt (hs.mask e he b hb),hs.hist,fun r hr=>?_,fun r hr=>?_⟩
   ·rcases List.mem_cons.1 hr with rfl | hr
    ·exact hval
    ·exact hs.vq r hr
   rcases List.mem_cons.1 hr with rfl | hr
   ·refine ⟨Nat.lt_succ_self _,⟨m,hm,fun e he=>?_⟩,?_⟩
    ·rcases hs.hist e he with rfl | ⟨b,h2,h3⟩
     ·refine .inr (.inr ⟨⟨A1,?_⟩,hval⟩)
      show aOp E o.op s.T (viewAt base an s.louds m s.fl s.H)=_
      rw [hv];exact h1
     ·have hb:=hs.lou b ((hs.hlo b).1 h2)
      exact .inl ⟨b,hb.2.2 i m hb.1 hm,h2,h3⟩
    ·cases hun:hasN i un with
     | true=>exact .inr (.inl (List.mem_cons_self ..))
     | false=>exact .inl fun j o' m' hj hm' hlb hij=>safeB_spec (hsf hun hq) j o' m' hj (by rw [← nth_eq];exact hm') hlb (by simpa using hij)
   ·exact ⟨Nat.lt_succ_of_lt (hs.reads r hr).1,(hs.reads r hr).2.1,(hs.reads r hr).2.2.imp id (Or.imp (hsub _) id)⟩
  -- one state behind
  have one:∀ s',planStep E (conCall R) n base ops an i o s=some s'→∀ pd' lo',SG E base all an pd' lo' (i+1) s'→seqG E (conC R) n base ops un (fanOf E all an) (goneOf an un) (i+1) l pd' lo' s'.fl s'.T s'.H K→(planN E (conCall R) n base ops an i (o::l) s).all fun s'=>Go.AE.readsOK E base an s' s'.reads=true∧K s'.T (addFl base (fun f=>!takenAt s'.louds f 0 an) s'.fl s'.H):=by
   intro s' hs' pd' lo' h1 h2
   unfold planN
   rw [hs']
   exact planN_seqG hall hlen hok l pd' lo' (i+1) s' hl' h1 h2
  cases hw:wantedA ops s.T o with
  | false=>
   obtain ⟨T',hT,hk⟩:=putW_putN (h.2 hw)
   refine one { s with T:=T' } ?_ pd lo still hk
   unfold planStep
   rw [hm]
   simp only [hw,cond_false,hT]
  | true=>
   have h:=h.1 hw
   cases hf:freshOp E o.op with
   | true=>
    have h:=h.1 hf
    unfold freshW at h
    split at h
    case h_2=>exact h.elim
    rename_i ob f hfr
    obtain ⟨T',hT,hk⟩:=putW_putN h
    refine one { s with T:=T',fl:=⟨i,ob⟩::s.fl } ?_ pd lo ?_ hk
    ·unfold planStep
     rw [hm]
     simp only [hw,cond_true,hf,hfr,hT]
    ·refine ⟨hs.hlo,fun x hx=>?_,up,fun e he b hb=>Nat.lt_succ_of_lt (hs.mask e he b hb),hs.hist,hs.vq,fun r hr=>⟨Nat.lt_succ_of_lt (hs.reads r hr).1,?_,(hs.reads r hr).2.2⟩⟩
     ·rcases List.mem_cons.1 hx with rfl | hx
      ·exact ⟨Nat.lt_succ_self _,freshPos_mem ⟨i,o,ho,Nat.zero_add _,hf⟩⟩
      ·exact ⟨Nat.lt_succ_of_lt (hs.fls x hx).1,(hs.fls x hx).2⟩
     ·obtain ⟨hlt,⟨m',hm',he⟩,_⟩:=hs.reads r hr
      refine ⟨m',hm',fun e hee=>?_⟩
      rcases he e hee with h1 | h1 | ⟨⟨A',h1⟩,h2⟩
      ·exact .inl h1
      ·exact .inr (.inl h1)
      ·refine .inr (.inr ⟨⟨A',?_⟩,h2⟩)
       rw [← h1]
       show aOp E r.o r.T (addFl base _ (⟨i,ob⟩::s.fl) e.2)=_
       conv=>lhs;unfold addFl
       have:m'.testBit i=false:=by
        rw [Bool.eq_false_iff]
        intro hc
        have:=low r.i m' hm' i hc
        omega
       simp only [this,Bool.and_false,cond_false]
       rfl
   | false=>
    have h:=h.2 hf
    cases hq:quietOp E o.op with
    | true=>
     have h:=h.1 hq
     cases h0:aOp E o.op s.T { heap:=.e,next:=0 } with
     | val v A0=>
      rw [h0] at h
      obtain ⟨T',hT,hk⟩:=putW_putN (K:=fun T'=>seqG E (conC R) n base ops un (fanOf E all an) (goneOf an un) (i+1) l pd lo s.fl T' s.H K) h
      refine one { s with T:=T' } ?_ pd lo still hk
      unfold planStep
      rw [hm]
      simp only [hw,cond_true,hf,cond_false,hq,h0,hT]
     | enter t a A0=>
      rw [h0] at h
      simp only [stillW] at h
      cases h1:aOp E o.op s.T (seesF base (fanOf E all an) lo i s.fl s.H) with
      | val v A1=>
       rw [h1] at h
       obtain ⟨hval,hp⟩:=h
       obtain ⟨T',hT,hk⟩:=putW_putN hp
       refine one { s with T:=T',reads:=⟨i,o.op,s.T,v⟩::s.reads } ?_ _ lo ?_ hk
       ·unfold planStep
        rw [hm]
        simp only [hw,cond_true,hf,cond_false,hq,h0,hv,h1,hT]
       ·exact rd hq h1 hval
      | enter _ _ _=>rw [h1] at h;exact h.elim
      | bad _=>rw [h1] at h;exact h.elim
     | bad why=>
      rw [h0] at h
      simp only [stillW] at h
      cases h1:aOp E o.op s.T (seesF base (fanOf E all an) lo i s.fl s.H) with
      | val v A1=>
       rw [h1] at h
       obtain ⟨hval,hp⟩:=h
       obtain ⟨T',hT,hk⟩:=putW_putN hp
       refine one { s with T:=T',reads:=⟨i,o.op,s.T,v⟩::s.reads } ?_ _ lo ?_ hk
       ·unfold planStep
        rw [hm]
        simp only [hw,cond_true,hf,cond_false,hq,h0,hv,h1,hT]
       ·exact rd hq h1 hval
      | enter _ _ _=>rw [h1] at h;exact h.elim
      | bad _=>rw [h1] at h;exact h.elim
    | false=>
     have h:=oneW_con (h.2 hq)
     have hA:Ahead an i:=by
      rcases hah with h2 | h2 | h2
      ·rw [hq] at h2;cases h2
      ·rw [hf] at h2;cases h2
      ·exact h2
     have hlm:∀ b,s.louds.testBit b=true→m.testBit b=true:=fun b hb=>(hs.lou b ((hs.hlo b).1 hb)).2.2 i m (hs.lou b ((hs.hlo b).1 hb)).1 hm
     have hbeq:Nat.beq (m &&& s.louds) s.louds=true:=by
      have:m &&& s.louds=s.louds:=by
       apply Nat.eq_of_testBit_eq
       intro b
       rw [Nat.testBit_and]
       cases hb:s.louds.testBit b with
       | true=>rw [hlm b hb];rfl
       | false=>simp
      rw [this];exact Nat.beq_refl _
     have hloud:loudB E o=true:=by unfold loudB;rw [hf,hq];rfl
     have hvq:∀ r∈s.reads,valEq r.v r.v=true:=hs.vq
     have nxt:∀ (T':Tmps) (H':ASt),pendF E base (fanOf E all an) (i::lo) s.fl H' (dropF (goneOf an un) i pd)→SG E base all an (dropF (goneOf an un) i pd) (i::lo) (i+1) { T:=T',H:=H',fl:=s.fl,louds:=s.louds ||| 2 ^ i,hist:=(s.louds ||| 2 ^ i,H')::s.hist,reads:=s.reads }:=by
      intro T' H' hpw
      have hpd:=pendF_mem hpw
      have hbit:∀ b,(s.louds ||| 2 ^ i).testBit b=true↔b∈i::lo:=by
       intro b
       rw [Nat.testBit_or,Bool.or_eq_true,Nat.testBit_two_pow,List.mem_cons,hs.hlo]
       constructor
       ·rintro (h | h)
        ·exact .inr h
        ·exact .inl (by simpa using h:i=b).symm
       ·rintro (h | h)
        ·exact .inr (by simp [h])
        ·exact .inl h
      have hbiti:(s.louds ||| 2 ^ i).testBit i=true:=by rw [Nat.testBit_or,Nat.testBit_two_pow_self,Bool.or_true]
      have hup:∀ b∈i::lo,b<i+1∧b<an.length∧Ahead an b:=by
       intro b hb
       rcases List.mem_cons.1 hb with rfl | hb
       ·exact ⟨Nat.lt_succ_self _,hilen,hA⟩
       ·exact up b hb
      refine ⟨hbit,fun x hx=>⟨Nat.lt_succ_of_lt (hs.fls x hx).1,(hs.fls x hx).2⟩,hup,fun e he b hb=>?_,fun e he=>?_,hs.vq,fun r hr=>⟨Nat.lt_succ_of_lt (hs.reads r hr).1,?_,?_⟩⟩
      ·rcases List.mem_cons.1 he with rfl | he
       ·exact (hup b ((hbit b).1 hb)).1
       ·exact Nat.lt_succ_of_lt (hs.mask e he b hb)
      ·rcases List.mem_cons.1 he with rfl | he
       ·exact .inl rfl
       ·refine .inr ⟨i,hbiti,?_⟩
        rw [Bool.eq_false_iff]
        intro hc
        have:=hs.mask e he i hc
        omega
      ·obtain ⟨hlt,⟨m',hm',hre⟩,hsafe⟩:=hs.reads r hr
       refine ⟨m',hm',fun e he=>?_⟩
       rcases List.mem_cons.1 he with rfl | he
       ·rcases hsafe with hsafe | hpend
        ·exact .inr (.inl ⟨i,m,hbiti,hm,hsafe i o m ho hm hloud hlt⟩)
        ·rcases hpend with hpend | ⟨j,mj,hj,hmj,hb⟩
         ·cases hg:fanAt (goneOf an un) i r.i with
          | true=>exact .inr (.inl ⟨i,m,hbiti,hm,goneOf_at hm hg⟩)
          | false=>
           obtain ⟨A',hA'⟩:=hpd _ (dropF_mem hpend hg)
           refine .inr (.inr ⟨⟨A',?_⟩,hvq r hr⟩)
           rw [← hA']
           exact congrArg (aOp E r.o r.T) (sees_view hm' (fun b hb=>(hup b ((hbit b).1 hb)).2.1) hbit hfl)
         ·exact .inr (.inl ⟨j,mj,by show (s.louds ||| 2 ^ i).testBit j=true;rw [Nat.testBit_or,hj,Bool.true_or],hmj,hb⟩)
       ·rcases hre e he with ⟨b,h1,h2,h3⟩ | h1 | h1
        ·refine .inl ⟨b,h1,?_,h3⟩
         show (s.louds ||| 2 ^ i).testBit b=true
         rw [Nat.testBit_or,h2,Bool.true_or]
        ·exact .inr (.inl h1)
        ·exact .inr (.inr h1)
      ·rcases (hs.reads r hr).2.2 with h1 | h1 | ⟨j,mj,hj,hmj,hb⟩
       ·exact .inl h1
       ·cases hg:fanAt (goneOf an un) i r.i with
        | true=>exact .inr (.inr ⟨i,m,hbiti,hm,goneOf_at hm hg⟩)
        | false=>exact .inr (.inl (dropF_mem h1 hg))
       ·exact .inr (.inr ⟨j,mj,by show (s.louds ||| 2 ^ i).testBit j=true;rw [Nat.testBit_or,hj,Bool.true_or],hmj,hb⟩)
     cases hr:oneOp E (conCall R) o s.T (seesF base (fanOf E all an) lo i s.fl s.H) with
     | ret r=>
      rw [hr] at h
      obtain ⟨T',hT,hk⟩:=putW_putN (K:=fun T'=>seqG E (conC R) n base ops un (fanOf E all an) (goneOf an un) (i+1) l (dropF (goneOf an un) i pd) (i::lo) s.fl T' r.2 K) h.2
      refine one { T:=T',H:=r.2,fl:=s.fl,louds:=s.louds ||| 2 ^ i,hist:=(s.louds ||| 2 ^ i,r.2)::s.hist,reads:=s.reads } ?_ (dropF (goneOf an un) i pd) (i::lo) (nxt _ _ h.1) hk
      unfold planStep
      rw [hm]
      simp only [hw,cond_true,hf,cond_false,hq,hbeq,hv,hr,hT]
     | _=>
      have hnone:planStep E (conCall R) n base ops an i o s=none:=by
       unfold planStep
       rw [hm]
       simp only [hw,cond_true,hf,cond_false,hq,hbeq,hv,hr]
      have hb:allBehind i (an.drop (i+1))=true:=allBehind_of fun k m' hk=>by
       rw [List.getElem?_drop,← nth_eq] at hk
       exact hA _ m' (by omega) hk
      unfold planN
      rw [hnone,hm]
      simp only [hw,hf,hq,hbeq,hb,hs.readsOK,Bool.not_false,Bool.and_self,cond_true,hv]
      refine Nd.all_bind' _ (Nd.all_mono (fun r hr2=>?_) h)
      obtain ⟨T',hT,hk⟩:=putW_putN (K:=fun T'=>seqG E (conC R) n base ops un (fanOf E all an) (goneOf an un) (i+1) l (dropF (goneOf an un) i pd) (i::lo) s.fl T' r.2 K) hr2.2
      simp only [hT]
      exact planN_seqG hall hlen hok l (dropF (goneOf an un) i pd) (i::lo) (i+1) _ hl' (nxt _ _ hr2.1) hk
end

theorem seqG_strip{E:Env}{C:Tgt→List Value→ASt→(Value→ASt→Prop)→Prop}{n base:Nat}{all:List Oper}{un:List Nat}{fan gone:List (List Nat)}{K:Tmps→ASt→Prop}:∀ {l:List Oper} {i:Nat} {pd:List PendF} {lo:List Nat} {fl:List Fl} {T:Tmps} {H:ASt},seqG E C n base (all.map strip).toArray un fan gone i (l.map strip) pd lo fl T H K=seqG E C n base all.toArray un fan gone i l pd lo fl T H K
 | [],_,_,_,_,_,_=>by rw [List.map_nil,seqG,seqG]
 | o::l,i,pd,lo,fl,T,H=>by
  have ih:∀ pd lo fl H,(fun T'=>seqG E C n base (all.map strip).toArray un fan gone (i+1) (l.map strip) pd lo fl T' H K)=fun T'=>seqG E C n base all.toArray un fan gone (i+1) l pd lo fl T' H K:=fun pd lo fl H=>funext fun T'=>seqG_strip (l:=l)
  have hb:∀ {b b':Bool} {x x' y y':Prop},b=b'→x=x'→y=y'→brW b x y=brW b' x' y':=fun h1 h2 h3=>by rw [h1,h2,h3]
  rw [List.map_cons]
  unfold seqG
  refine hb wantedA_strip (hb rfl ?_ (hb rfl ?_ ?_)) ?_
  ·refine congrArg (freshW (aFresh E o.op T)) (funext fun ob=>funext fun f=>?_)
   show putW n T o.dst (f (base+i)) (fun T'=>seqG E C n base (all.map strip).toArray un fan gone (i+1) (l.map strip) pd lo (⟨i,ob⟩::fl) T' H K)=_
   rw [ih]
  ·show stillW (aOp E o.op T { heap:=.e,next:=0 }) (aOp E o.op T (seesF base fan lo i fl H)) (fun v=>putW n T o.dst v (fun T'=>seqG E C n base (all.map strip).toArray un fan gone (i+1) (l.map strip) pd lo fl T' H K)) (fun v=>putW n T o.dst v (fun T'=>seqG E C n base (all.map strip).toArray un fan gone (i+1) (l.map strip) (pendIfF (hasN i un) (i,o.op,T,v) pd) lo fl T' H K))=_
   have h1:(fun v=>putW n T o.dst v (fun T'=>seqG E C n base (all.map strip).toArray un fan gone (i+1) (l.map strip) pd lo fl T' H K))=fun v=>putW n T o.dst v (fun T'=>seqG E C n base all.toArray un fan gone (i+1) l pd lo fl T' H K):=funext fun v=>by rw [ih]
   have h2:(fun v=>putW n T o.dst v (fun T'=>seqG E C n base (all.map strip).toArray un fan gone (i+1) (l.map strip) (pendIfF (hasN i un) (i,o.op,T,v) pd) lo fl T' H K))=fun v=>putW n T o.dst v (fun T'=>seqG E C n base all.toArray un fan gone (i+1) l (pendIfF (hasN i un) (i,o.op,T,v) pd) lo fl T' H K):=funext fun v=>by rw [ih]
   rw [h1,h2]
  ·show oneW E C o.op T (seesF base fan lo i fl H) (fun v H'=>pendF E base fan (i::lo) fl H' (dropF gone i pd)∧putW n T o.dst v (fun T'=>seqG E C n base (all.map strip).toArray un fan gone (i+1) (l.map strip) (dropF gone i pd) (i::lo) fl T' H' K))=_
   have h1:(fun v H'=>pendF E base fan (i::lo) fl H' (dropF gone i pd)∧putW n T o.dst v (fun T'=>seqG E C n base (all.map strip).toArray un fan gone (i+1) (l.map strip) (dropF gone i pd) (i::lo) fl T' H' K))=fun v H'=>pendF E base fan (i::lo) fl H' (dropF gone i pd)∧putW n T o.dst v (fun T'=>seqG E C n base all.toArray un fan gone (i+1) l (dropF gone i pd) (i::lo) fl T' H' K):=funext fun v=>funext fun H'=>by rw [ih]
   rw [h1]
  ·show putW n T o.dst undef (fun T'=>seqG E C n base (all.map strip).toArray un fan gone (i+1) (l.map strip) pd lo fl T' H K)=_
   rw [ih]

theorem CodeW.seqg{Z:Road}{E:Env}{P:Program}(hE:EnvOK E P)(hZr:RoadRo Z E)(hm:P.follows .mixedOrders=true){R:Tgt→List Value→ASt→(Value→ASt→Prop)→Prop}(hR:∀ t args A S,R t args A S→CallT Z P t args A S)
  {n id:Nat} {ro:Option Nat} {T:Tmps} {A:ASt} {Q:Out→Prop} {ps:Array Oper} (π un:List Nat) (fan gone:List (List Nat)) {l:List Oper} (hl:(reorder π ps.toList).map strip=l) (hp:permOK π ps.toList.length=true) (hreg:regOK (reorder π ps.toList).toArray (ancs (reorder π ps.toList) []) (reorder π ps.toList) 0 (reorder π ps.toList)=true)
  (hn:Nat.beq (ancs (reorder π ps.toList) []).length (reorder π ps.toList).length=true) (hs:seqFOK E (reorder π ps.toList) (ancs (reorder π ps.toList) []) un 0 (reorder π ps.toList)=true) (hfan:fanOf E (reorder π ps.toList) (ancs (reorder π ps.toList) [])=fan) (hgone:goneOf (ancs (reorder π ps.toList) []) un=gone)
  (h:seqG E (conC R) n A.next l.toArray un fan gone 0 l [] [] [] T { heap:=A.heap,next:=A.next+l.length } fun T' A'=>Q (.fr ⟨.normal,T',A'⟩)):CodeW Z P n ro (.region id ps true) T A Q:=by
 refine CodeW.drawnR hE hZr hm (conCall_sound hR) π hp ?_
 subst hl hfan hgone
 rw [seqG_strip,List.length_map] at h
 generalize reorder π ps.toList=l at hreg hn hs h ⊢
 unfold drawRun
 rw [show (l.toArray).toList=l by simp,hreg,cond_true]
 simp only [fN_eq]
 refine Nd.all_bind' _ ?_
 have hs0:SG E A.next l (ancs l []) [] [] 0 { T,H:={ heap:=A.heap,next:=A.next+l.length },fl:=[],louds:=0,hist:=[(0,{ heap:=A.heap,next:=A.next+l.length })],reads:=[] }:=
  ⟨(by simp),(by simp),(by simp),(fun e he b hb=>by simp at he;subst he;simp at hb),(fun e he=>by simp at he;exact .inl he),(by simp),(by simp)⟩
 refine Nd.all_mono (fun s hq=>?_) (planN_seqG (R:=R) (ops:=l.toArray) (by simp) (Nat.eq_of_beq_eq_true hn) hs l [] [] 0 _ rfl hs0 h)
 obtain ⟨h1,h2⟩:=hq
 rw [h1,cond_true]
 exact h2


def f_1:=And.intro @seqG_nil (And.intro @seqG_cons (And.intro @dropF_nil @dropF_cons))
end Go.AE
