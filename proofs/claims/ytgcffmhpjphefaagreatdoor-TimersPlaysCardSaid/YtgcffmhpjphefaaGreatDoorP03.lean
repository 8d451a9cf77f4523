/- The evaluator: the operations of a region, in the order of the text; code; calls. -/
import Derived.Test.YtgcffmhpjphefaaGreatDoorP02
import Derived.RangeFuncRecord
import Derived.OrdersIn
import Derived.Orders
import Derived.RowKit
import Derived.Laws.Externs
import Derived.ProofKit
set_option linter.unusedSimpArgs false
set_option linter.unusedVariables false
set_option linter.unusedSectionVars false
namespace Go.AE
open Go

theorem Nd.all_bind{α β:Type}{q:β→Prop}(f:α→Nd β):∀ {m:Nd α},(m.bind f).all q→m.all fun a=>(f a).all q
 | .ret _,h=>h
 | .ask _ _,h=>fun i hi=>Nd.all_bind f (h i hi)
 | .fail _,h=>h
 | .pick _ _,h=>fun r hr=>Nd.all_bind f (h r hr)

theorem Nd.all_mono{α:Type}{q q':α→Prop}(h:∀ a,q a→q' a):∀ {m:Nd α},m.all q→m.all q'
 | .ret _,k=>h _ k
 | .ask _ _,k=>fun i hi=>Nd.all_mono h (k i hi)
 | .fail _,k=>k
 | .pick _ _,k=>fun r hr=>Nd.all_mono h (k r hr)

structure Road where
 reach:Ren→ASt→World→Prop
 rep:∀ {ρ A w},reach ρ A w→Rep ρ A w
 step:∀ {ρ A w ρ' A' w'},reach ρ A w→Step ρ A w ρ' A' w'→reach ρ' A' w'
 sub:∀ {ρ A w} {G:ASt},reach ρ A w→(∀ b o,G.get b=some o→A.get b=some o)→G.next=A.next→reach ρ G w

noncomputable def TgtSound(P:Program)(ρ:Ren)(t:Tgt)(args:Array Value)(w:World)(R:Ending→World→Prop):Prop:=
 match t with
 | .fn f=>Calls P f args w R
 | .round l=>∀ L,ρ l=some L→∃ f tmps assign body,(Instr.yield L.B args).run P w=.ok (.round L.B f tmps assign body) w∧RoundIn Fence.wide 0 P L.B f tmps assign body w R

def RoadRo(Z:Road)(E:Env):Prop:=∀ ρ A w,Z.reach ρ A w→RoOK E ρ w

noncomputable def CallSound(Z:Road)(P:Program)(call:Tgt→List Value→ASt→Nd (Value×ASt)):Prop:=
 ∀ t args A Q,(call t args A).all Q→∀ ρ w (args':Array Value),Z.reach ρ A w→VsRel ρ args args'.toList→
  TgtSound P ρ t args' w fun e w'=>∃ v A' v' ρ',Q (v,A')∧e=.returned v'∧VRel ρ' v v'∧Step ρ A w ρ' A' w'

abbrev FR(r:Option Nat):Fence:={ Fence.wide with round:=r }

theorem callsIn_FR{r:Option Nat}{n:Nat}{P:Program}{f:FuncId}{args:Array Value}{w:World}{R:Ending→World→Prop}(h:Calls P f args w R):CallsIn (FR r) n P f args w R:=(callsIn_wide (n:=n)).2 h
theorem roundIn_FR{r:Option Nat}{n:Nat}{P:Program}{l:Nat}{f:FuncId}{tmps:Array Value}{assign body:Code}{w:World}{R:Ending→World→Prop}(h:RoundIn Fence.wide n P l f tmps assign body w R):RoundIn (FR r) n P l f tmps assign body w R:=h

noncomputable def RoRel(ρ:Ren):Option Nat→Option Nat→Prop
 | none,none=>True
 | some l,some B=>∃ L,ρ l=some L∧L.B=B
 | _,_=>False

theorem RoRel.mono{ρ ρ':Ren}(h:ρ.le ρ'){a b:Option Nat}(k:RoRel ρ a b):RoRel ρ' a b:=by
 cases a<;>cases b<;>simp only [RoRel] at k ⊢
 obtain ⟨L,h1,h2⟩:=k
 exact ⟨L,h _ _ h1,h2⟩

noncomputable def markOf(r:Nat):Deferred:={ target:=.collected r,args:=#[] }

noncomputable def Defs(N:Nat)(w:World)(ds:List Deferred):Prop:=
 N≤w.heap.size∧∃ rs:List Nat,ds=rs.map markOf∧rs.Nodup∧∀ r∈rs,N≤r∧w.heap[r]? = some (.deferred (some []))

theorem defs_nil(w:World):Defs w.heap.size w []:=⟨Nat.le_refl _,[],rfl,.nil,fun _ h=>by cases h⟩

theorem Rep.not_deferred{ρ:Ren}{A:ASt}{w:World}(h:Rep ρ A w){r:Nat}{x:Option (List Deferred)}(hr:w.heap[r]? = some (.deferred x)){b:Nat}{o:AObj}{L:Loc}(hb:A.get b=some o)(hL:ρ b=some L):L.B≠r:=by
 obtain ⟨M,hM,ho⟩:=h.obj b o hb
 rw [hL] at hM;cases hM
 intro e
 cases o with
 | row c sz tail=>obtain ⟨_,_,_,_,h,_⟩:=ho;rw [e,hr] at h;cases h
 | map es clock=>obtain ⟨_,h,_⟩:=ho;rw [e,hr] at h;cases h
 | miter m s se st=>obtain ⟨_,h,_⟩:=ho;rw [e,hr] at h;cases h
 | siter s pos=>have h:=ho.1;rw [e,hr] at h;cases h
 | loop n T ps as b st j=>obtain ⟨_,h,_⟩:=ho;rw [e,hr] at h;cases h

theorem Rep.not_owned{ρ:Ren}{A:ASt}{w:World}(h:Rep ρ A w){r:Nat}{x:Option (List Deferred)}(hr:w.heap[r]? = some (.deferred x))(j:Nat):¬ Owned ρ A r j:=by
 rintro ⟨b,o,L,hb,hL,hB,_⟩
 exact h.not_deferred hr hb hL hB

theorem Defs.step{N:Nat}{ρ ρ':Ren}{A A':ASt}{w w':World}{ds:List Deferred}(hR:Rep ρ A w)(hs:Step ρ A w ρ' A' w')(h:Defs N w ds):Defs N w' ds:=by
 obtain ⟨h0,rs,h1,h2,h3⟩:=h
 exact ⟨Nat.le_trans h0 hs.size,rs,h1,h2,fun r hr=>⟨(h3 r hr).1,hs.objs r _ (h3 r hr).2 (by simp) (hR.not_owned (h3 r hr).2 0)⟩⟩

theorem Step.shut{ρ₀ ρ:Ren}{A₀ A:ASt}{w₀ w:World}(h:Step ρ₀ A₀ w₀ ρ A w){r:Nat}{x:Option (List Deferred)}(hr:w.heap[r]? = some (.deferred x))(h0:w₀.heap.size≤r)(y:Option (List Deferred)):Step ρ₀ A₀ w₀ ρ A (w.putObj r (.deferred y)):=by
 have hrep:Rep ρ A (w.putObj r (.deferred y)):=⟨fun b o hb=>by
  obtain ⟨L,hL,ho⟩:=h.rep.obj b o hb
  exact ⟨L,hL,ho.of_block (World.putObj_heap_other (h.rep.not_deferred hr hb hL))⟩,h.rep.apart,h.rep.fresh⟩
 have hother:∀ B,B<w₀.heap.size→(w.putObj r (.deferred y)).heap[B]? = w.heap[B]?:=fun B hB=>World.putObj_heap_other (by omega)
 have hlt:∀ {B:Nat} {o:Obj},w₀.heap[B]? = some o→B<w₀.heap.size:=fun h=>(Array.getElem?_eq_some_iff.1 h).1
 refine ⟨⟨hrep,h.ext,h.next,by rw [World.putObj_size];exact h.size,h.os,h.tape,h.output,h.drawn,fun B c el fr hB=>?_,fun B o hB hne hno=>?_,h.owns⟩,h.keep,h.dom⟩
 ·rw [hother B (hlt hB)];exact h.cells B c el fr hB
 ·rw [hother B (hlt hB)];exact h.objs B o hB hne hno

theorem TRel.put{ρ:Ren}{T:Tmps}{a:Act}(ht:TRel ρ T a){d:Tmp}(hd:d<a.tmps.size){v v':Value}(hv:VRel ρ v v'):TRel ρ (T.put d (some v)) (a.put (some d) v'):=by
 refine ⟨fun t=>?_⟩
 unfold tget
 rw [Tr.get_put]
 by_cases e:t=d
 ·subst e
  rw [if_pos rfl]
  simpa [Act.put,hd] using hv
 ·rw [if_neg e]
  have:(a.put (some d) v').tmps.getD t undef=a.tmps.getD t undef:=by
   simp [Act.put,Array.getElem?_setIfInBounds_ne (Ne.symm e)]
  rw [this]
  exact ht.at_ t

theorem putN_sound{ρ:Ren}{T T':Tmps}{a:Act}{n:Nat}{dst:Option Tmp}{v v':Value}(ht:TRel ρ T a)(hn:a.tmps.size=n)(h:putN n T dst v=some T')(hv:VRel ρ v v'):TRel ρ T' (a.put dst v'):=by
 cases dst with
 | none=>simp [putN] at h;subst h;exact ht
 | some d=>
  simp only [putN] at h
  cases hb:Nat.blt d n with
  | false=>rw [hb] at h;cases h
  | true=>
   rw [hb,cond_true,Tr.putC_eq] at h;cases h
   have:d<n:=Nat.le_of_ble_eq_true hb
   exact ht.put (hn ▸ this) hv

theorem size_put(a:Act)(dst:Option Tmp)(v:Value):(a.put dst v).tmps.size=a.tmps.size:=by
 cases dst<;>simp [Act.put]
theorem defers_put(a:Act)(dst:Option Tmp)(v:Value):(a.put dst v).defers=a.defers:=by
 cases dst<;>rfl

theorem wanted_sound{ρ:Ren}{ops:Array Oper}{T:Tmps}{a:Act}(ht:TRel ρ T a)(o:Oper):Region.wanted o (yielded ops a.tmps)=wantedA ops T o:=by
 unfold Region.wanted wantedA
 cases hg:o.guard with
 | none=>rfl
 | some gw=>
  obtain ⟨j,want⟩:=gw
  simp only []
  unfold yielded
  rw [nth_eq,Array.getElem?_toList]
  cases hj:ops[j]? with
  | none=>simp
  | some g=>
   simp only [Option.bind_some]
   cases hd:g.dst with
   | none=>simp
   | some d=>
    simp only [Option.bind_some]
    have h:=ht.at_ d
    rcases Nat.lt_or_ge d a.tmps.size with hlt | hge
    ·have e:a.tmps.getD d undef=a.tmps[d]:=by simp [hlt]
     have e2:a.tmps[d]? = some a.tmps[d]:=by simp [hlt]
     rw [e] at h
     rw [e2]
     generalize a.tmps[d]=v' at h
     generalize tget T d=v at h
     cases h<;>try simp
     rename_i k L hk hr
     revert hr
     cases L.raw<;>simp [rawOK]
    ·have e:a.tmps.getD d undef=undef:=by simp [Array.getElem?_eq_none hge]
     have e2:a.tmps[d]? = none:=Array.getElem?_eq_none hge
     rw [e] at h
     rw [e2]
     generalize tget T d=v at h
     generalize hu:undef=u at h
     unfold undef at hu
     cases h<;>first | (cases hu;done) | simp

theorem oneOp_sound{Z:Road}{E:Env}{P:Program}(hE:EnvOK E P)(hZr:RoadRo Z E){call:Tgt→List Value→ASt→Nd (Value×ASt)}(hcall:CallSound Z P call){ρ:Ren}{A:ASt}{w:World}(hR:Z.reach ρ A w){T:Tmps}{a:Act}(ht:TRel ρ T a){o:Oper}{rr:Option Nat}
  {Q:Value×ASt→Prop} (h:(oneOp E call o T A).all Q) {next:Act→World→Prop} {Qx:Exit→Act→World→Prop}
  (hnext:∀ v A' v' w' ρ',Q (v,A')→VRel ρ' v v'→Step ρ A w ρ' A' w'→next (a.put o.dst v') w'):o.wpIn (FR rr) 0 P a w next Qx:=by
 refine ⟨fun _ _=>trivial,?_⟩
 by_cases hdef:∃ c,o.op=.defer c
 ·obtain ⟨c,hc⟩:=hdef
  unfold oneOp at h
  rw [hc] at h
  exact h.elim
 rw [Oper.semAt_eq _ _ _ (fun c hc=>hdef ⟨c,hc⟩)]
 unfold oneOp at h
 split at h
 ·rename_i it isString hop
  split at h
  ·rename_i v hv
   obtain ⟨u,A',u',w',hq,hrun,hvr,hst⟩:=next_sound (P:=P) (ty:=o.type) (Z.rep hR) h (ev_sound ht hv)
   have:(execOp a.eval o).run P w=.ok (.value u') w':=by simp [execOp,hop,hrun]
   rw [this,Oper.uponIn_value]
   exact hnext u A' u' w' ρ hq hvr hst
  ·exact h.elim
 ·have hs:=op_sound hE (Z.rep hR) (hZr _ _ _ hR) ht o
  revert h hs
  generalize aOp E o.op T A=r
  intro h hs
  cases r with
  | bad why=>exact h.elim
  | val v A'=>
   obtain ⟨nx,v',w',ρ',hrun,hnx,hvr,hst⟩:=hs
   rw [hrun]
   rcases hnx with rfl | ⟨rfl,rfl⟩
   ·rw [Oper.uponIn_value];exact hnext v A' v' w' ρ' h hvr hst
   ·rw [Oper.uponIn_skip];exact hnext v A' undef w' ρ' h hvr hst
  | enter t args A'=>
   cases t with
   | fn f=>
    obtain ⟨args',hrun,hargs,rfl⟩:=hs
    rw [hrun,Oper.uponIn_enter]
    refine ⟨fun h=>(by cases h),callsIn_FR ((hcall (.fn f) args _ Q h ρ w args' hR hargs).mono ?_)⟩
    rintro e w' ⟨v,A2,v',ρ',hq,rfl,hvr,hst⟩
    exact hnext v A2 v' w' ρ' hq hvr hst
   | round l=>
    obtain ⟨args',L,hL,hrun,hargs,rfl⟩:=hs
    obtain ⟨f,tmps,as,b,hy,hround⟩:=hcall (.round l) args _ Q h ρ w args' hR hargs L hL
    rw [hrun,hy,Oper.uponIn_round]
    refine ⟨fun h=>(by cases h),roundIn_FR (hround.mono ?_)⟩
    rintro e w' ⟨v,A2,v',ρ',hq,rfl,hvr,hst⟩
    exact hnext v A2 v' w' ρ' hq hvr hst

noncomputable def After(ρ:Ren)(A:ASt)(w:World)(n N:Nat)(T':Tmps)(A':ASt)(a':Act)(w':World):Prop:=
 ∃ ρ',TRel ρ' T' a'∧Step ρ A w ρ' A' w'∧a'.tmps.size=n∧Defs N w' a'.defers

theorem ops_sound{Z:Road}{E:Env}{P:Program}(hE:EnvOK E P)(hZr:RoadRo Z E){call:Tgt→List Value→ASt→Nd (Value×ASt)}(hcall:CallSound Z P call){n N:Nat}{rr:Option Nat}{ops:Array Oper}{Qx:Exit→Act→World→Prop}{ρ₀:Ren}{A₀:ASt}{w₀:World}{Q:Tmps×ASt→Prop}(hZ:Z.reach ρ₀ A₀ w₀)
  (hfin:∀ T A a w,Q (T,A)→After ρ₀ A₀ w₀ n N T A a w→Qx .normal a w) :
  ∀ (l:List Oper) (k:Nat) (T:Tmps) (A:ASt) (a:Act) (w:World) (ρ:Ren),ops.toList.drop k=l→(opsRun E call n ops l T A).all Q→TRel ρ T a→Step ρ₀ A₀ w₀ ρ A w→a.tmps.size=n→Defs N w a.defers→
   wpOpsIn (FR rr) 0 P ops Qx (List.range' k l.length) a w
 | [],k,T,A,a,w,ρ,hl,h,ht,hs,hn,hd=>by
  simp only [List.length_nil,List.range'_zero,wpOpsIn]
  exact hfin T A a w h ⟨ρ,ht,hs,hn,hd⟩
 | o::l,k,T,A,a,w,ρ,hl,h,ht,hs,hn,hd=>by
  have ho:ops[k]? = some o:=by
   have:(ops.toList.drop k)[0]? = some o:=by rw [hl];rfl
   rw [List.getElem?_drop] at this
   simpa using this
  have hl':ops.toList.drop (k+1)=l:=by
   have:(ops.toList.drop k).drop 1=l:=by rw [hl];rfl
   rwa [List.drop_drop] at this
  simp only [List.length_cons,List.range'_succ,wpOpsIn,ho]
  rw [wanted_sound ht]
  unfold opsRun at h
  cases hw:wantedA ops T o with
  | true=>
   rw [hw,cond_true] at h
   rw [if_pos rfl]
   refine oneOp_sound hE hZr hcall (Z.step hZ hs) ht (Nd.all_bind _ h) ?_
   intro v A' v' w' ρ' hq hvr hst
   simp only [] at hq
   split at hq
   ·rename_i T' hT'
    exact ops_sound hE hZr hcall hZ hfin l (k+1) T' A' _ w' ρ' hl' hq (putN_sound (ht.mono hst.ext) hn hT' hvr) (hs.trans hst) (by rw [size_put];exact hn) (by rw [defers_put];exact hd.step hs.rep hst)
   ·exact hq.elim
  | false=>
   rw [hw,cond_false] at h
   simp only [Bool.false_eq_true,if_false]
   refine ⟨fun _ _=>trivial,?_⟩
   split at h
   ·rename_i T' hT'
    exact ops_sound hE hZr hcall hZ hfin l (k+1) T' A _ w ρ hl' h (putN_sound ht hn hT' VRel.undef) hs (by rw [size_put];exact hn) (by rw [defers_put];exact hd)
   ·exact h.elim

noncomputable def exRel:AExit→Exit→Prop
 | .normal,.normal=>True
 | .exit i,.exit j=>i=j
 | .ret,.ret=>True
 | _,_=>False

noncomputable def CodeSound(Z:Road)(P:Program)(n:Nat)(ro:Option Nat)(c:Code)(T:Tmps)(A:ASt)(r:Nd Out):Prop:=
 ∀ Q,r.all Q→∀ ρ w a N rr,Z.reach ρ A w→RoRel ρ ro rr→TRel ρ T a→a.tmps.size=n→Defs N w a.defers→
  c.wpIn (FR rr) 0 P (fun e a' w'=>∃ ex T' A',Q (.fr ⟨ex,T',A'⟩)∧exRel ex e∧After ρ A w n N T' A' a' w') a w

noncomputable def CodePost(Q:Out→Prop)(ρ:Ren)(A:ASt)(w:World)(n N:Nat)(e:Exit)(a':Act)(w':World):Prop:=
 ∃ ex T' A',Q (.fr ⟨ex,T',A'⟩)∧exRel ex e∧After ρ A w n N T' A' a' w'

noncomputable def roundsIn(F:Fence)(P:Program)(c:Code)(Q:Exit→Act→World→Prop):Nat→Act→World→Prop
 | 0,_,_=>False
 | k+1,a,w=>c.wpIn F 0 P (Exit.then (roundsIn F P c Q k) Q) a w

theorem roundsIn_succ{F:Fence}{P:Program}{c:Code}{Q:Exit→Act→World→Prop}{k:Nat}{a:Act}{w:World}:roundsIn F P c Q (k+1) a w=c.wpIn F 0 P (Exit.then (roundsIn F P c Q k) Q) a w:=rfl

theorem wpIn_loop_rounds{F:Fence}{P:Program}{Q:Exit→Act→World→Prop}{a:Act}{w:World}{c:Code}(n:Nat)(h:roundsIn F P c Q n a w):(Code.loop c).wpIn F 0 P Q a w:=by
 intro b k cs hro hb hr
 have key:∀ n a w,roundsIn F P c Q n a w→
   ∃ e a' w',Q e a' w'∧ArrivesIn (Machine.fenced P F) P (lone (b.atR a (.code c::.inLoop c::k)) cs w) b k cs e a' w':=by
  intro n
  induction n with
  | zero=>intro a w h;exact h.elim
  | succ n ih=>
   intro a w h
   obtain ⟨e,a₁,w₁,hq,harr⟩:=h b (.inLoop c::k) cs hro hb hr
   cases e with
   | normal=>
    obtain ⟨e₂,a₂,w₂,hq₂,harr₂⟩:=ih a₁ w₁ hq
    exact ⟨e₂,a₂,w₂,hq₂,.of_steps (StepsIn.trans harr (.one (fenced_calm hb hr rfl) stepR_inLoop)) harr₂⟩
   | exit id=>exact ⟨_,a₁,w₁,hq,.pass (x:=.inLoop c) rfl (fun _ _=>.inl (by simp)) harr⟩
   | goto l=>exact ⟨_,a₁,w₁,hq,.pass (x:=.inLoop c) rfl (fun _ _=>.inl (by simp)) harr⟩
   | ret=>exact ⟨_,a₁,w₁,hq,.pass (x:=.inLoop c) rfl (fun _ _=>.inl (by simp)) harr⟩
   | panic ch=>exact ⟨_,a₁,w₁,hq,.pass (x:=.inLoop c) rfl (fun _ _=>.inl (by simp)) harr⟩
   | outgrown=>exact ⟨_,a₁,w₁,hq,.pass (x:=.inLoop c) rfl (fun _ _=>.inl (by simp)) harr⟩
 obtain ⟨e,a',w',hq,harr⟩:=key n a w h
 exact ⟨e,a',w',hq,.of_steps (.one (fenced_calm hb hr rfl) stepR_loop) harr⟩

noncomputable def noGoto(Q:Exit→Act→World→Prop):Exit→Act→World→Prop
 | .goto _,_,_=>False
 | e,a,w=>Q e a w

theorem stepR_scope{P:Program}{b:Frame}{a:Act}{k:List Item}{cs:List Frame}{w:World}{c:Code}:step P (lone (b.atR a (.code (.scope c)::k)) cs w)=.next (lone (b.atR a (.code c::.inScope c::k)) cs w):=
 step_lone_go (by simp [stepG,stepG.exec,Frame.atR])
theorem stepR_inScope{P:Program}{b:Frame}{a:Act}{k:List Item}{cs:List Frame}{w:World}{c:Code}:step P (lone (b.atR a (.inScope c::k)) cs w)=.next (lone (b.atR a k) cs w):=
 step_lone_go (by simp [stepG,stepG.exec,Frame.atR])

theorem wpIn_scope_straight{F:Fence}{P:Program}{Q:Exit→Act→World→Prop}{a:Act}{w:World}{c:Code}(h:c.wpIn F 0 P (noGoto Q) a w):(Code.scope c).wpIn F 0 P Q a w:=by
 intro b k cs hro hb hr
 have h0:(lone (b.atR a (.code (.scope c)::k)) cs w).fenced P F:=fenced_calm hb hr rfl
 obtain ⟨e,a₁,w₁,hq,harr⟩:=h b (.inScope c::k) cs hro hb hr
 cases e with
 | normal=>exact ⟨.normal,a₁,w₁,hq,.head h0 stepR_scope (StepsIn.trans harr (.one (fenced_calm hb hr rfl) stepR_inScope))⟩
 | exit id=>
  have hx:exitTo id (.inScope c::k)=exitTo id k:=by simp [exitTo]
  exact ⟨_,a₁,w₁,hq,fun k' hk=>.head h0 stepR_scope (harr.1 k' (by rw [hx];exact hk)),
   fun hr' hk=>let ⟨k₁,h1,h2⟩:=harr.2 hr' (by rw [hx];exact hk);⟨k₁,h1,.head h0 stepR_scope h2⟩⟩
 | goto l=>exact hq.elim
 | ret=>exact ⟨_,a₁,w₁,hq,.of_steps (.one h0 stepR_scope) harr⟩
 | panic ch=>exact ⟨_,a₁,w₁,hq,.of_steps (.one h0 stepR_scope) harr⟩
 | outgrown=>exact ⟨_,a₁,w₁,hq,.of_steps (.one h0 stepR_scope) harr⟩

structure JobSound(Z:Road)(P:Program)(fuel:Nat)(ih:Job→Nd Out):Prop where
 code:∀ n ro c T A,CodeSound Z P n ro c T A (ih (.code n ro c T A))
 call:CallSound Z P (callBy ih)
 loop:∀ n ro b T A Q,(ih (.code n ro (.loop b) T A)).all Q→∀ ρ₀ A₀ w₀ ρ w a N rr,Z.reach ρ₀ A₀ w₀→Step ρ₀ A₀ w₀ ρ A w→RoRel ρ ro rr→TRel ρ T a→a.tmps.size=n→Defs N w a.defers→roundsIn (FR rr) P b (CodePost Q ρ₀ A₀ w₀ n N) fuel a w

noncomputable def DrawSound(Z:Road)(E:Env)(P:Program):Prop:=
 ∀ call,CallSound Z P call→∀ n id ops T A Q,(drawRun E call n ops T A).all Q→∀ ρ w a N rr,Z.reach ρ A w→TRel ρ T a→a.tmps.size=n→Defs N w a.defers→
  (Code.region id ops true).wpIn (FR rr) 0 P (fun e a' w'=>e=.normal∧∃ T' A',Q (T',A')∧After ρ A w n N T' A' a' w') a w

theorem After.trans{ρ ρ₁:Ren}{A A₁ A₂:ASt}{w w₁ w₂:World}{n N:Nat}{T:Tmps}{a:Act}(h:Step ρ A w ρ₁ A₁ w₁)(k:After ρ₁ A₁ w₁ n N T A₂ a w₂):After ρ A w n N T A₂ a w₂:=
 let ⟨ρ',h1,h2,h3,h4⟩:=k
 ⟨ρ',h1,h.trans h2,h3,h4⟩

noncomputable def resF(tmps:Array Value):ResultVar→Sem Value
 | .tmp t=>pure (tmps.getD t undef)
 | .cell c t=>do loadVar t (← asAddr (tmps.getD c undef))

theorem results_eq(fn:Func)(tmps:Array Value):results fn tmps=(do
  let vs ← fn.results.mapM (resF tmps)
  pure (if h:vs.size=1 then vs[0] else .tuple vs)):=by
 have:(fun x:ResultVar=>(match x with
   | .tmp t=>pure (tmps.getD t undef)
   | .cell a t=>do loadVar t (← asAddr (tmps.getD a undef)):Sem Value))=resF tmps:=by
  funext x;cases x<;>rfl
 unfold results
 rw [← this]
 rfl

theorem results_sound{E:Env}{P:Program}(hE:EnvOK E P){ρ:Ren}{A:ASt}{w:World}(hR:Rep ρ A w)(hro:RoOK E ρ w){T:Tmps}{a:Act}(ht:TRel ρ T a):∀ {l:List ResultVar} {vs:List Value},resultsV E T A l=some vs→
  ∃ vs',(l.mapM (resF a.tmps)).run P w=.ok vs' w∧VsRel ρ vs vs'
 | [],vs,h=>by simp [resultsV] at h;subst h;exact ⟨[],rfl,.nil⟩
 | .tmp t::l,vs,h=>by
  unfold resultsV at h
  split at h
  ·rename_i r hr
   cases h
   obtain ⟨vs',h1,h2⟩:=results_sound hE hR hro ht hr
   refine ⟨a.tmps.getD t undef::vs',?_,.cons (ht.at_ t) h2⟩
   have e:(resF a.tmps (.tmp t)).run P w=.ok (a.tmps.getD t undef) w:=rfl
   rw [List.mapM_cons]
   simp only [Sem.run_bind,Sem.run_pure,Result.andThen_ok,h1,e]
  ·cases h
 | .cell c t::l,vs,h=>by
  unfold resultsV at h
  split at h
  ·rename_i v hv
   split at h
   ·rename_i r hr
    cases h
    obtain ⟨vs',h1,h2⟩:=results_sound hE hR hro ht hr
    obtain ⟨v',_,h4,ad,h5,h6⟩:=load_sound hE hR hro (ht.at_ c) hv
    refine ⟨v'::vs',?_,.cons h4 h2⟩
    have e:(resF a.tmps (.cell c t)).run P w=.ok v' w:=by
     simp only [resF,Sem.run_bind,h5,asAddr,Sem.run_pure,Result.andThen_ok,h6]
    rw [List.mapM_cons]
    simp only [Sem.run_bind,Sem.run_pure,Result.andThen_ok,h1,e]
   ·cases h
  ·cases h

theorem oneOrTuple_rel{ρ:Ren}{vs vs':List Value}(h:VsRel ρ vs vs'):VRel ρ (oneOrTuple vs) (if hh:vs'.toArray.size=1 then vs'.toArray[0] else .tuple vs'.toArray):=by
 cases h with
 | nil=>exact VRel.tuple_of .nil
 | cons h1 h2=>
  cases h2 with
  | nil=>simpa [oneOrTuple] using h1
  | cons h2 h3=>
   simp only [oneOrTuple]
   rw [dif_neg (by simp)]
   exact VRel.tuple_of (.cons h1 (.cons h2 h3))

theorem results_run{E:Env}{P:Program}(hE:EnvOK E P){ρ:Ren}{A:ASt}{w:World}(hR:Rep ρ A w)(hro:RoOK E ρ w){T:Tmps}{a:Act}(ht:TRel ρ T a){fn:Func}{vs:List Value}(h:resultsV E T A fn.results.toList=some vs):
  ∃ v',(results fn a.tmps).run P w=.ok v' w∧VRel ρ (oneOrTuple vs) v':=by
 obtain ⟨vs',h1,h2⟩:=results_sound hE hR hro ht h
 refine ⟨_,?_,oneOrTuple_rel h2⟩
 rw [results_eq,Array.mapM_eq_mapM_toList]
 simp only [Sem.run_bind,Sem.run_map,h1,Result.andThen_ok]
 rfl

theorem argsT_get:∀ (l:List Value) (i:Nat) (T:Tmps) (t:Nat),(argsT i l T).get t=if i≤t∧t<i+l.length then l[t-i]? else T.get t
 | [],i,T,t=>by simp only [argsT,List.length_nil];rw [if_neg (by omega)]
 | v::l,i,T,t=>by
  simp only [argsT]
  rw [argsT_get l (i+1),Tr.get_put]
  simp only [List.length_cons]
  by_cases h:i+1≤t∧t<i+1+l.length
  ·rw [if_pos h,if_pos (by omega)]
   have:t-i=(t-(i+1))+1:=by omega
   rw [this];simp
  ·rw [if_neg h]
   by_cases e:t=i
   ·subst e;rw [if_pos rfl,if_pos (by omega)];simp
   ·rw [if_neg e,if_neg (by omega)]

theorem enter_rel{ρ:Ren}{args:List Value}{args':Array Value}(h:VsRel ρ args args'.toList)(m:Nat):TRel ρ (argsT 0 args .e) { tmps:=args'++Array.replicate m undef,defers:=[] }:=by
 refine ⟨fun t=>?_⟩
 have hl:=h.length
 simp only [Array.length_toList] at hl
 unfold tget
 rw [argsT_get]
 by_cases ht:t<args.length
 ·rw [if_pos (by omega)]
  obtain ⟨v',hv',hr⟩:=h.get t args[t] (List.getElem?_eq_getElem ht)
  have e:args[t-0]? = some args[t]:=by simp
  rw [e]
  have e2:(args'++Array.replicate m undef).getD t undef=v':=by
   have:args'[t]? = some v':=by simpa using hv'
   rw [Array.getD_eq_getD_getElem?,Array.getElem?_append,if_pos (by omega),this]
   rfl
  simp only []
  rw [e2]
  exact hr
 ·rw [if_neg (by omega)]
  have e2:(args'++Array.replicate m undef).getD t undef=undef:=by
   simp only [Array.getD_eq_getD_getElem?,Array.getElem?_append]
   rw [if_neg (by omega)]
   rcases Nat.lt_or_ge (t-args'.size) m with h1 | h1
   ·simp [h1]
   ·simp [show ¬ t-args'.size<m by omega]
  simp only [Tr.get_e]
  rw [e2]
  exact VRel.undef

noncomputable def HookOK(Z:Road)(E:Env)(P:Program):Prop:=
 ∀ f args A r,E.hook f args A=some r→∀ Q,r.all Q→∀ ρ w (args':Array Value),Z.reach ρ A w→VsRel ρ args args'.toList→
  Calls P f args' w fun e w'=>∃ v A' v' ρ',Q (v,A')∧e=.returned v'∧VRel ρ' v v'∧Step ρ A w ρ' A' w'

theorem Step.of_below{ρ:Ren}{A:ASt}{w w':World}(h:Rep ρ A w)(hb:Go.RowKit.Below w.heap.size w w')(hd:w.drawn≤w'.drawn):Step ρ A w ρ A w':=by
 have hlt:∀ {B:Nat} {o:Obj},w.heap[B]? = some o→B<w.heap.size:=fun h=>(Array.getElem?_eq_some_iff.1 h).1
 refine ⟨⟨⟨fun b o hbo=>?_,h.apart,h.fresh⟩,.refl _,Nat.le_refl _,hb.size,hb.os,hb.tape,hb.output,hd,fun B c el fr hB=>⟨c,by rw [hb.block B (hlt hB)];exact hB,rfl,fun _ _=>rfl⟩,fun B o hB _ _=>by rw [hb.block B (hlt hB)];exact hB,fun _ _ _ h=>h⟩,fun _ _=>rfl,fun _ _ h=>h⟩
 obtain ⟨L,hL,ho⟩:=h.obj b o hbo
 exact ⟨L,hL,ho.of_block (hb.block _ ho.block)⟩

theorem leaves_marks{P:Program}{fn:Func}{tmps:Array Value}{R:Ending→World→Prop}{ρ₀ ρ:Ren}{A₀ A:ASt}{w₀:World}(hend:∀ w',Step ρ₀ A₀ w₀ ρ A w'→LeavesIn Fence.wide 0 P fn tmps R [] .returning w'):
  ∀ (rs:List Nat) (w:World),Step ρ₀ A₀ w₀ ρ A w→rs.Nodup→(∀ r∈rs,w₀.heap.size≤r∧w.heap[r]? = some (.deferred (some [])))→LeavesInM Fence.wide 0 P fn tmps R (rs.map markOf) .returning w
 | [],w,hs,_,_=>hend w hs
 | r::rs,w,hs,hnd,hall=>by
  rw [List.nodup_cons] at hnd
  have h1:=hall r (by simp)
  refine ⟨by simp,.inl ⟨r,w.putObj r (.deferred none),rfl,run_takeDeferred h1.2,?_⟩⟩
  refine leaves_marks hend rs _ (hs.shut h1.2 h1.1 _) hnd.2 fun r' hr'=>?_
  have h2:=hall r' (by simp [hr'])
  refine ⟨h2.1,?_⟩
  rw [World.putObj_heap_other (fun e=>hnd.1 (by rw [← e];exact hr'))]
  exact h2.2

theorem call_step{Z:Road}{E:Env}{P:Program}(hE:EnvOK E P)(hZr:RoadRo Z E)(hH:HookOK Z E P){ih:Job→Nd Out}(hcode:∀ n ro c T A,CodeSound Z P n ro c T A (ih (.code n ro c T A))){f:FuncId}{args:List Value}{A:ASt}{Q:Out→Prop}(h:(stepJob E ih (.call (.fn f) args A)).all Q)
  {ρ:Ren} {w:World} {args':Array Value} (hR:Z.reach ρ A w) (ha:VsRel ρ args args'.toList) :
  Calls P f args' w fun e w'=>∃ v A' v' ρ',Q (.res v A')∧e=.returned v'∧VRel ρ' v v'∧Step ρ A w ρ' A' w':=by
 unfold stepJob at h
 simp only [] at h
 split at h
 ·rename_i r hk
  refine (hH f args A r hk _ (Nd.all_bind _ h) ρ w args' hR ha).mono ?_
  rintro e w' ⟨v,A',v',ρ',hq,rest⟩
  exact ⟨v,A',v',ρ',hq,rest⟩
 split at h
 ·rename_i fn hf
  obtain ⟨hP,_,_⟩:=hE.fn f fn hf
  split at h
  ·rename_i c hb
   cases hlen:Nat.ble args.length fn.ntmps with
   | false=>rw [hlen] at h;exact h.elim
   | true=>
    rw [hlen,cond_true] at h
    have hlen':=Nat.le_of_ble_eq_true hlen
    have hl:=ha.length
    simp only [Array.length_toList] at hl
    refine (callsIn_wide (n:=0)).1 (callsIn_of_wp_marks hP hb trivial ?_)
    have hw:=hcode fn.ntmps none c (argsT 0 args .e) A _ (Nd.all_bind _ h) ρ w { tmps:=args'++Array.replicate (fn.ntmps-args'.size) undef,defers:=[] } w.heap.size none hR trivial (enter_rel ha _) (by simp;omega) (defs_nil w)
    refine wpIn_mono (F:=Fence.wide) hw ?_
    rintro e a' w' ⟨ex,T',A',hq,hex,ρ',ht,hst,hn,_,rs,hd1,hd2,hd3⟩
    have fin:∀ (hq':(match resultsV E T' A' fn.results.toList with
      | some l=>Nd.ret (Out.res (oneOrTuple l) A')
      | none=>Nd.fail "results").all Q),LeavesInM Fence.wide 0 P fn a'.tmps (fun e w'=>∃ v A' v' ρ',Q (.res v A')∧e=.returned v'∧VRel ρ' v v'∧Step ρ A w ρ' A' w') a'.defers .returning w':=by
     intro hq'
     split at hq'
     ·rename_i vs hvs
      rw [hd1]
      refine leaves_marks (fun w2 hst2=>?_) rs w' hst hd2 hd3
      obtain ⟨v',h1,h2⟩:=results_run hE hst2.rep (hZr _ _ _ (Z.step hR hst2)) ht hvs
      exact ⟨v',h1,_,_,v',ρ',hq',rfl,h2,hst2⟩
     ·exact hq'.elim
    cases ex with
    | normal=>cases e<;>first | exact hex.elim | exact fin hq
    | ret=>cases e<;>first | exact hex.elim | exact fin hq
    | exit i=>exact hq.elim
  ·exact h.elim
 ·exact h.elim


theorem putAll_sound{ρ:Ren}{n:Nat}:∀ {ts:List Tmp} {vs vs':List Value} {T T':Tmps} {tmps:Array Value},putAll n ts vs T=some T'→VsRel ρ vs vs'→tmps.size=n→(∀ t,VRel ρ (tget T t) (tmps.getD t undef))→
  ts.length=vs'.length∧((ts.zip vs').foldl (fun tmps (t,a)=>tmps.setIfInBounds t a) tmps).size=n∧∀ t,VRel ρ (tget T' t) (((ts.zip vs').foldl (fun tmps (t,a)=>tmps.setIfInBounds t a) tmps).getD t undef)
 | [],[],_,T,T',tmps,h,.nil,hn,ht=>by
  simp only [putAll,Option.some.injEq] at h
  subst h
  exact ⟨rfl,hn,ht⟩
 | t::ts,v::vs,_,T,T',tmps,h,.cons hv hvs,hn,ht=>by
  simp only [putAll] at h
  cases hb:Nat.blt t n with
  | false=>rw [hb] at h;cases h
  | true=>
   rw [hb,cond_true] at h
   have hlt:t<n:=Nat.le_of_ble_eq_true hb
   rename_i v' vs'
   have:=putAll_sound (tmps:=tmps.setIfInBounds t v') h hvs (by simpa using hn) (fun s=>by
    unfold tget
    rw [Tr.get_put]
    by_cases e:s=t
    ·subst e
     rw [if_pos rfl]
     simpa [hn,hlt] using hv
    ·rw [if_neg e]
     have e2:(tmps.setIfInBounds t v').getD s undef=tmps.getD s undef:=by
      simp [Array.getElem?_setIfInBounds_ne (Ne.symm e)]
     rw [e2]
     exact ht s)
   exact ⟨by simp [this.1],this.2⟩
 | [],_::_,_,_,_,_,h,_,_,_=>by cases h
 | _::_,[],_,_,_,_,h,_,_,_=>by cases h

theorem loop_set{ρ:Ren}{A:ASt}{w:World}(hR:Rep ρ A w){l:Nat}{L:Loc}{n:Nat}{T:Tmps}{ps:Array Tmp}{as b:Code}{st:LoopState}{j:Option Code}(hg:A.get l=some (.loop n T ps as b st j))(hL:ρ l=some L):
  ∃ r:Loop,w.heap[L.B]? = some (.loop r)∧(r.params=ps∧r.assign=as∧r.body=b∧r.state=st∧r.pending=j)∧r.tmps.size=n∧(∀ t,VRel ρ (tget T t) (r.tmps.getD t undef))∧
   ∀ st' j',Step ρ A w ρ (A.set l (.loop n T ps as b st' j')) (w.putObj L.B (.loop { r with state:=st',pending:=j' })):=by
 obtain ⟨L',hL',r,h1,⟨h2,h3,h4,h5,h6⟩,h7,h8,h9⟩:=hR.obj l _ hg
 rw [hL] at hL';cases hL'
 refine ⟨r,h1,⟨h2,h3,h4,h5,h6⟩,h7,h8,fun st' j'=>?_⟩
 have hlt:=(Array.getElem?_eq_some_iff.1 h1).1
 exact (set_obj default hR (y:=.loop { r with state:=st',pending:=j' }) (o':=.loop n T ps as b st' j') hg hL h1 (by simp) h9 (by simp [AObj.hi,h9]) (by simp [AObj.hi,h9])
  ⟨{ r with state:=st',pending:=j' },by simp [hlt],⟨h2,h3,h4,rfl,rfl⟩,h7,h8,h9⟩).2

theorem endR_sound{P:Program}{ρ:Ren}{A:ASt}{w:World}(hR:Rep ρ A w){l:Nat}{L:Loc}(hL:ρ l=some L){ex:AExit}{Q:Out→Prop}(h:(endR l ex A).all Q):
  ∃ v w' A',(Instr.endRound L.B (exCode ex)).run P w=.ok v w'∧Q (.res v A')∧VRel ρ v v∧Step ρ A w ρ A' w':=by
 unfold endR at h
 split at h
 ·rename_i n T ps as b st j hg
  obtain ⟨r,h1,h2,h3,h4,h5⟩:=loop_set hR hg hL
  split at h
  ·rename_i hx
   exact ⟨.bool true,_,_,by rw [run_endRound _ h1,hx];rfl,h,.bool _,h5 _ _⟩
  ·rename_i c hx
   exact ⟨.bool false,_,_,by rw [run_endRound _ h1,hx];rfl,h,.bool _,h5 _ _⟩
 ·exact h.elim

theorem round_step{Z:Road}{P:Program}{ih:Job→Nd Out}(hcode:∀ n ro c T A,CodeSound Z P n ro c T A (ih (.code n ro c T A))){l:Nat}{args:List Value}{A:ASt}{Q:Out→Prop}(h:(roundJob ih l args A).all Q)
  {ρ:Ren} {w:World} {args':Array Value} (hR:Z.reach ρ A w) (ha:VsRel ρ args args'.toList) {L:Loc} (hL:ρ l=some L) :
  ∃ f tmps assign body,(Instr.yield L.B args').run P w=.ok (.round L.B f tmps assign body) w∧RoundIn Fence.wide 0 P L.B f tmps assign body w fun e w'=>∃ v A' v' ρ',Q (.res v A')∧e=.returned v'∧VRel ρ' v v'∧Step ρ A w ρ' A' w':=by
 unfold roundJob at h
 split at h
 ·rename_i n T ps as b st j hg
  obtain ⟨r,h1,⟨h2,h3,h4,h5,h6⟩,h7,h8,_⟩:=loop_set (Z.rep hR) hg hL
  split at h
  ·rename_i T' hT'
   obtain ⟨k1,k2,k3⟩:=putAll_sound hT' ha h7 h8
   have hs:args'.size=r.params.size:=by rw [h2];simpa using k1.symm
   have hfold:((r.params.zip args').foldl (fun tmps (t,a)=>tmps.setIfInBounds t a) r.tmps)=((ps.toList.zip args'.toList).foldl (fun tmps (t,a)=>tmps.setIfInBounds t a) r.tmps):=by
    rw [h2,← Array.foldl_toList,Array.toList_zip]
   refine ⟨_,_,_,_,run_yield h1 hs,?_⟩
   rw [hfold,h3,h4]
   refine roundIn_of_wpIn (F:=Fence.wide) trivial ?_
   have hw:=hcode n (some l) as T' A _ (Nd.all_bind _ h) ρ w { tmps:=(ps.toList.zip args'.toList).foldl (fun tmps (t,a)=>tmps.setIfInBounds t a) r.tmps,defers:=[] } w.heap.size (some L.B) hR ⟨L,hL,rfl⟩ ⟨k3⟩ k2 (defs_nil w)
   refine wpIn_mono (F:=Fence.wide.inRound L.B) hw ?_
   rintro e a1 w1 ⟨ex,T1,A1,hq,hex,ρ1,ht1,hst1,hn1,hd1⟩
   cases ex with
   | exit i=>exact hq.elim
   | ret=>exact hq.elim
   | normal=>
    cases e<;>first | exact hex.elim | skip
    simp only [] at hq
    split at hq
    ·rename_i n1 T0 ps1 as1 b1 st1 j1 hg1
     have hL1:=hst1.ext _ _ hL
     obtain ⟨r1,g1,⟨g2,g3,g4,g5,g6⟩,g7,g8,g9⟩:=loop_set hst1.rep hg1 hL1
     cases hready:isReady st1 with
     | false=>rw [hready] at hq;exact hq.elim
     | true=>
      rw [hready,cond_true] at hq
      have hst:r1.state=.ready:=by
       rw [g5]
       cases st1<;>first | rfl | (simp [isReady] at hready;done)
      have hstep1:Step ρ1 A1 w1 ρ1 (A1.set l (.loop n1 T0 ps1 as1 b1 .busy j1)) (w1.putObj L.B (.loop { r1 with state:=.busy })):=by
       have:=g9 .busy j1
       rw [← g6] at this
       exact g6 ▸ this
      refine ⟨_,run_beginRound g1 hst,?_⟩
      have hZ2:=Z.step (Z.step hR hst1) hstep1
      have hw2:=hcode n (some l) b T1 _ _ (Nd.all_bind _ hq) ρ1 _ a1 w.heap.size (some L.B) hZ2 ⟨L,hL1,rfl⟩ ht1 hn1 (hd1.step hst1.rep hstep1)
      refine wpIn_mono (F:=Fence.wide.inRound L.B) hw2 ?_
      rintro e a2 w2 ⟨ex,T2,A2,hq2,hex2,ρ2,ht2,hst2,hn2,hd2⟩
      have hall:=(hst1.trans hstep1).trans hst2
      obtain ⟨v,w3,A3,z1,z2,z3,z4⟩:=endR_sound (P:=P) hst2.rep (hst2.ext _ _ hL1) hq2
      have hend:∃ v w',(Instr.endRound L.B (exCode ex)).run P w2=.ok v w'∧∃ u A' v' ρ',Q (.res u A')∧Ending.returned v=.returned v'∧VRel ρ' u v'∧Step ρ A w ρ' A' w':=
       ⟨v,w3,z1,v,A3,v,ρ2,z2,rfl,z3,hall.trans z4⟩
      cases ex with
      | normal=>cases e<;>first | exact hex2.elim | exact hend
      | ret=>cases e<;>first | exact hex2.elim | exact hend
      | exit i=>
       cases e<;>first | exact hex2.elim | skip
       have:i=_:=hex2
       subst this
       exact hend
    ·exact hq.elim
  ·exact h.elim
 ·exact h.elim

theorem range_step{Z:Road}{E:Env}{P:Program}(hE:EnvOK E P)(hZr:RoadRo Z E){fuel:Nat}{ih:Job→Nd Out}(hJ:JobSound Z P fuel ih)(n:Nat)(ro:Option Nat)(g:Operand)(ps:Array Tmp)(as b:Code)(T:Tmps)(A:ASt):CodeSound Z P n ro (.rangeFunc g ps as b) T A (rangeJob E ih n ro g ps as b T A):=by
 intro Q h ρ w a N rr hZ hro ht hn hd
 have hR:=Z.rep hZ
 unfold rangeJob at h
 simp only [fN_eq,ASt.newN_eq] at h
 split at h
 ·rename_i fn first captured hg
  cases hok:roOK ro A with
  | false=>rw [hok] at h;exact h.elim
  | true=>
   rw [hok,cond_true] at h
   split at h
   ·rename_i f args A2 hinv
    -- entering: where the record lies, and the mark
    have hent:∀ fnId,∃ (L:Loc) (mark:List Deferred) (w₁:World),(Instr.enterLoop fnId a.tmps ps as b rr).run P w=.ok (L.B,mark) w₁∧
      Step ρ A w (upd ρ A.next L) (A.new (.loop n T ps as b .ready none)) w₁∧Defs N w₁ (mark++a.defers):=by
     intro fnId
     have mk:∀ (w0:World) (d:Nat),Rep ρ A w0→Step ρ A w0 (upd ρ A.next ⟨w0.heap.size,0,0,0,undef⟩) (A.new (.loop n T ps as b .ready none)) (w0.alloc (.loop { state:=.ready,pending:=none,fn:=fnId,tmps:=a.tmps,params:=ps,assign:=as,body:=b,defers:=d })):=by
      intro w0 d h0
      exact Step.new h0 _ _ _ rfl ⟨_,heap_alloc_new _ _,⟨rfl,rfl,rfl,rfl,rfl⟩,hn,fun t=>(ht.at_ t).mono (upd_le (h0.fresh _ (Nat.le_refl _))),rfl⟩
     cases rr with
     | none=>
      have hb:Go.RowKit.Below w.heap.size w (w.alloc (.deferred (some []))):=(Go.RowKit.Below.refl _ _).alloc (Nat.le_refl _) _
      have hs0:=Step.of_below hR hb (Nat.le_refl _)
      have hs1:=mk (w.alloc (.deferred (some []))) w.heap.size hs0.rep
      refine ⟨⟨w.heap.size+1,0,0,0,undef⟩,_,_,run_enterLoop_outer fnId a.tmps ps as b,?_,?_⟩
      ·have:=hs0.trans hs1
       simpa using this
      ·obtain ⟨h0,rs,h1,h2,h3⟩:=(hd.step hR hs0).step hs0.rep hs1
       obtain ⟨p0,rs',p1,p2,p3⟩:=hd
       have hrr:rs=rs':=by
        have:rs.map markOf=rs'.map markOf:=by rw [← h1,p1]
        exact (List.map_inj_right (fun x y e=>by unfold markOf at e;injection e with e _;injection e)).1 this
       refine ⟨h0,w.heap.size::rs,by rw [h1];rfl,List.nodup_cons.2 ⟨fun hm=>?_,h2⟩,fun r hr=>?_⟩
       ·rw [hrr] at hm
        have:=(Array.getElem?_eq_some_iff.1 (p3 _ hm).2).1
        omega
       ·rcases List.mem_cons.1 hr with rfl | hr
        ·refine ⟨p0,?_⟩
         rw [Go.RowKit.Below.heap_alloc _ _ _ (by simp)]
         exact heap_alloc_new _ _
        ·exact h3 r hr
     | some B=>
      cases ro with
      | none=>exact hro.elim
      | some lv=>
       obtain ⟨Lv,hLv,rfl⟩:=hro
       unfold roOK isLoop at hok
       simp only [] at hok
       split at hok
       ·rename_i n' T' ps' as' b' st' j' hg'
        obtain ⟨r,h1,_⟩:=loop_set hR hg' hLv
        have hs1:=mk w r.defers hR
        refine ⟨⟨w.heap.size,0,0,0,undef⟩,[],_,?_,hs1,hd.step hR hs1⟩
        unfold Instr.enterLoop
        simp only [Sem.run_bind,run_getLoop h1,run_newObj_alloc,Result.andThen,Sem.run_pure]
       ·cases hok
    refine wpIn_rangeFunc fun fnId _=>?_
    obtain ⟨L,mark,w₁,he,hst1,hd1⟩:=hent fnId
    have hvr:=ev_sound (ht.mono hst1.ext) hg
    have hyield:VRel (upd ρ A.next L) (.func (.yield A.next) #[] #[]) (.func (.yield L.B) #[] #[]):=.yield upd_same
    -- the call
    have hcallee:∃ (fn':Fn) (f' c':Array Value),a.eval g=.func fn' f' c'∧FnRel (upd ρ A.next L) fn fn'∧VsRel (upd ρ A.next L) first.toList f'.toList∧VsRel (upd ρ A.next L) captured.toList c'.toList:=by
     generalize a.eval g=fv at hvr
     cases hvr with
     | yield hb=>exact ⟨_,_,_,rfl,.yield hb,.nil,.nil⟩
     | func _ h0 h1 h2 h3 h4=>exact ⟨_,_,_,rfl,.same h0,VsRel.of_array h1 h2,VsRel.of_array h3 h4⟩
    obtain ⟨fn',f',c',hev,hfn,hf,hc⟩:=hcallee
    have hinv':=invoke_sound hE hst1.rep (hZr _ _ _ (Z.step hZ hst1)) hfn (args:=first.toList++[.func (.yield A.next) #[] #[]]) (args':=f'++#[.func (.yield L.B) #[] #[]]) (by simpa using hf.append (.cons hyield .nil)) hc
    rw [hinv] at hinv'
    obtain ⟨args',hrun,hargs,rfl⟩:=hinv'
    refine ⟨L.B,mark,w₁,{ target:=.fn fn' c',args:=f'++#[.func (.yield L.B) #[] #[]] },w₁,f,args',w₁,he,?_,fun _ _=>trivial,hrun,fun h=>(by cases h),?_⟩
    ·have harg:(#[Operand.const (.func (.yield L.B) #[] #[])]:Array Operand).map a.eval=#[.func (.yield L.B) #[] #[]]:=by
      simp [Act.eval]
     simp only [resolve,hev,Deferred.ofValue]
     rw [harg]
     rfl
    refine callsIn_FR ((hJ.call (.fn f) args _ _ (Nd.all_bind _ h) _ w₁ args' (Z.step hZ hst1) hargs).mono ?_)
    rintro e w₃ ⟨v,A3,v',ρ3,hq,rfl,hvr3,hst3⟩
    simp only [] at hq
    have hL3:ρ3 A.next=some L:=hst3.ext _ _ upd_same
    split at hq
    ·rename_i n' T' ps' as' b' st' j' hg3
     obtain ⟨r,h1,⟨h2,h3,h4,h5,h6⟩,h7,h8,h9⟩:=loop_set hst3.rep hg3 hL3
     cases hbusy:isBusy st' with
     | true=>rw [hbusy] at hq;exact hq.elim
     | false=>
      rw [hbusy,cond_false] at hq
      have hnb:r.state≠.busy:=by
       rw [h5]
       rintro rfl
       simp [isBusy] at hbusy
      have hstep:Step ρ3 A3 w₃ ρ3 (A3.set A.next (.loop n' T' ps' as' b' .exhausted j')) (w₃.putObj L.B (.loop { r with state:=.exhausted })):=by
       have:=h9 .exhausted j'
       rw [← h6] at this
       exact h6 ▸ this
      have hall:=(hst1.trans hst3).trans hstep
      have hdd:=(hd1.step hst1.rep hst3).step hst3.rep hstep
      refine ⟨j',w₃.putObj L.B (.loop { r with state:=.exhausted }),by rw [← h6];exact run_endLoop h1 hnb,?_⟩
      cases j' with
      | none=>
       exact ⟨.normal,T,_,hq,trivial,ρ3,⟨fun t=>(ht.at_ t).mono hall.ext⟩,hall,hn,hdd⟩
      | some c=>
       simp only [] at hq ⊢
       refine wpIn_mono (hJ.code n ro c T _ Q hq ρ3 _ { a with defers:=mark++a.defers } N rr (Z.step hZ hall) (hro.mono hall.ext) ⟨fun t=>(ht.at_ t).mono hall.ext⟩ hn hdd) ?_
       rintro e2 a2 w2 ⟨ex2,T2,A2,hq2,hex2,haft⟩
       exact ⟨ex2,T2,A2,hq2,hex2,haft.trans hall⟩
    ·exact hq.elim
   ·exact h.elim
 ·exact h.elim

theorem code_step{Z:Road}{E:Env}{P:Program}(hE:EnvOK E P)(hZr:RoadRo Z E)(hdraw:DrawSound Z E P){fuel:Nat}{ih:Job→Nd Out}(hJ:JobSound Z P fuel ih)(n:Nat)(ro:Option Nat)(c:Code)(T:Tmps)(A:ASt):CodeSound Z P n ro c T A (stepJob E ih (.code n ro c T A)):=by
 intro Q h ρ w a N rr hR hro ht hn hd
 have hcode:=hJ.code
 have hcall:=hJ.call
 have now:After ρ A w n N T A a w:=⟨ρ,ht,.refl (Z.rep hR),hn,hd⟩
 cases c with
 | skip=>exact wpIn_skip ⟨.normal,T,A,h,trivial,now⟩
 | ret=>exact wpIn_ret ⟨.ret,T,A,h,trivial,now⟩
 | exit id=>exact wpIn_exit ⟨.exit id,T,A,h,rfl,now⟩
 | label l=>exact wpIn_label ⟨.normal,T,A,h,trivial,now⟩
 | seq x y=>
  refine wpIn_seq (wpIn_mono (hcode n ro x T A _ (Nd.all_bind _ h) ρ w a N rr hR hro ht hn hd) ?_)
  rintro e a' w' ⟨ex,T',A',hq,hex,ρ',ht',hst,hn',hd'⟩
  cases ex with
  | normal=>
   cases e<;>first | exact hex.elim | skip
   refine wpIn_mono (hcode n ro y T' A' Q hq ρ' w' a' N rr (Z.step hR hst) (hro.mono hst.ext) ht' hn' hd') ?_
   rintro e2 a2 w2 ⟨ex2,T2,A2,hq2,hex2,haft⟩
   exact ⟨ex2,T2,A2,hq2,hex2,haft.trans hst⟩
  | exit i=>cases e<;>first | exact hex.elim | exact ⟨.exit i,T',A',hq,hex,ρ',ht',hst,hn',hd'⟩
  | ret=>cases e<;>first | exact hex.elim | exact ⟨.ret,T',A',hq,hex,ρ',ht',hst,hn',hd'⟩
 | cond x y z=>
  unfold stepJob at h
  simp only [] at h
  split at h
  ·rename_i t hx
   have hv:=ev_sound ht hx
   have hev:a.eval x=.bool t:=by
    generalize a.eval x=u at hv
    cases hv;rfl
   cases t with
   | true=>rw [cond_true] at h;exact wpIn_cond_true hev (hcode n ro y T A Q h ρ w a N rr hR hro ht hn hd)
   | false=>rw [cond_false] at h;exact wpIn_cond_false hev (hcode n ro z T A Q h ρ w a N rr hR hro ht hn hd)
  ·exact h.elim
 | block id b=>
  refine wpIn_block (wpIn_mono (hcode n ro b T A _ (Nd.all_bind _ h) ρ w a N rr hR hro ht hn hd) ?_)
  rintro e a' w' ⟨ex,T',A',hq,hex,haft⟩
  cases ex with
  | normal=>cases e<;>first | exact hex.elim | exact ⟨.normal,T',A',hq,hex,haft⟩
  | exit i=>
   cases e<;>first | exact hex.elim | skip
   rename_i j
   have hij:i=j:=hex
   subst hij
   simp only [Exit.inBlock]
   have hq':Q (.fr ⟨cond (Nat.beq i id) .normal (.exit i),T',A'⟩):=hq
   by_cases e:i=id
   ·subst e
    rw [if_pos rfl]
    rw [Nat.beq_refl,cond_true] at hq'
    exact ⟨.normal,T',A',hq',trivial,haft⟩
   ·rw [if_neg e]
    have hb:Nat.beq i id=false:=by
     cases hb:Nat.beq i id with
     | false=>rfl
     | true=>exact absurd (Nat.eq_of_beq_eq_true hb) e
    rw [hb,cond_false] at hq'
    exact ⟨.exit i,T',A',hq',rfl,haft⟩
  | ret=>cases e<;>first | exact hex.elim | exact ⟨.ret,T',A',hq,hex,haft⟩
 | loop b=>
  refine wpIn_loop_rounds (fuel+1) ?_
  rw [roundsIn_succ]
  refine wpIn_mono (hcode n ro b T A _ (Nd.all_bind _ h) ρ w a N rr hR hro ht hn hd) ?_
  rintro e a' w' ⟨ex,T',A',hq,hex,ρ',ht',hst,hn',hd'⟩
  cases ex with
  | normal=>
   cases e<;>first | exact hex.elim | skip
   exact hJ.loop n ro b T' A' Q hq ρ A w ρ' w' a' N rr hR hst (hro.mono hst.ext) ht' hn' hd'
  | exit i=>cases e<;>first | exact hex.elim | exact ⟨.exit i,T',A',hq,hex,ρ',ht',hst,hn',hd'⟩
  | ret=>cases e<;>first | exact hex.elim | exact ⟨.ret,T',A',hq,hex,ρ',ht',hst,hn',hd'⟩
 | scope b=>
  refine wpIn_scope_straight (wpIn_mono (hcode n ro b T A Q h ρ w a N rr hR hro ht hn hd) ?_)
  rintro e a' w' ⟨ex,T',A',hq,hex,haft⟩
  cases ex<;>cases e<;>first | exact hex.elim | exact ⟨_,T',A',hq,hex,haft⟩
 | region id ops draw=>
  cases draw with
  | false=>
   have hr:(List.range ops.size)=List.range' 0 ops.toList.length:=by rw [List.range_eq_range'];simp
   refine wpIn_region ?_
   rw [hr]
   refine ops_sound hE hZr hcall (N:=N) (rr:=rr) (ρ₀:=ρ) (A₀:=A) (w₀:=w) hR ?_ ops.toList 0 T A a w ρ (by simp) (Nd.all_bind _ h) ht (.refl (Z.rep hR)) hn hd
   intro T' A' a' w' hq haft
   exact ⟨.normal,T',A',hq,trivial,haft⟩
  | true=>
   refine wpIn_mono (hdraw _ hcall n id ops T A _ (Nd.all_bind _ h) ρ w a N rr hR ht hn hd) ?_
   rintro e a' w' ⟨rfl,T',A',hq,haft⟩
   exact ⟨.normal,T',A',hq,trivial,haft⟩
 | rangeFunc g ps as b=>exact range_step hE hZr hJ n ro g ps as b T A Q h ρ w a N rr hR hro ht hn hd
 | goto l=>exact h.elim
 | refuse why=>exact h.elim

theorem run_sound{Z:Road}{E:Env}{P:Program}(hE:EnvOK E P)(hZr:RoadRo Z E)(hH:HookOK Z E P)(hdraw:DrawSound Z E P):∀ fuel,JobSound Z P fuel (run E fuel)
 | 0=>⟨fun n ro c T A Q h=>h.elim,fun t args A Q h=>by
   have:(callBy (run E 0) t args A).all Q:=h
   exact (this:False).elim,fun n ro b T A Q h=>h.elim⟩
 | fuel+1=>by
  have ih:=run_sound hE hZr hH hdraw fuel
  refine ⟨fun n ro c T A=>code_step hE hZr hdraw ih n ro c T A,?_,?_⟩
  ·intro t args A Q h ρ w args' hR ha
   have h':=Nd.all_bind _ h
   cases t with
   | fn f=>
    refine (call_step hE hZr hH ih.code h' hR ha).mono ?_
    rintro e w' ⟨v,A',v',ρ',hq,rest⟩
    exact ⟨v,A',v',ρ',hq,rest⟩
   | round l=>
    intro L hL
    obtain ⟨f,tmps,as,b,h1,h2⟩:=round_step ih.code h' hR ha hL
    exact ⟨f,tmps,as,b,h1,h2.mono fun e w' ⟨v,A',v',ρ',hq,rest⟩=>⟨v,A',v',ρ',hq,rest⟩⟩
  ·intro n ro b T A Q h ρ₀ A₀ w₀ ρ w a N rr hZ hs hro ht hn hd
   rw [roundsIn_succ]
   refine wpIn_mono (ih.code n ro b T A _ (Nd.all_bind _ h) ρ w a N rr (Z.step hZ hs) hro ht hn hd) ?_
   rintro e a' w' ⟨ex,T',A',hq,hex,ρ',ht',hst,hn',hd'⟩
   cases ex with
   | normal=>
    cases e<;>first | exact hex.elim | skip
    exact ih.loop n ro b T' A' Q hq ρ₀ A₀ w₀ ρ' w' a' N rr hZ (hs.trans hst) (hro.mono hst.ext) ht' hn' hd'
   | exit i=>cases e<;>first | exact hex.elim | exact ⟨.exit i,T',A',hq,hex,ρ',ht',hs.trans hst,hn',hd'⟩
   | ret=>cases e<;>first | exact hex.elim | exact ⟨.ret,T',A',hq,hex,ρ',ht',hs.trans hst,hn',hd'⟩

end Go.AE

/- The evaluator: a step of a part of the heap is a step of the whole. -/
namespace Go.AE
open Go

theorem Rep.sub{ρ:Ren}{A G:ASt}{w:World}(h:Rep ρ A w)(hs:∀ b o,G.get b=some o→A.get b=some o)(hn:G.next=A.next):Rep ρ G w:=
 ⟨fun b o hb=>h.obj b o (hs b o hb),fun b b' o o' L L' hne hb hb'=>h.apart b b' o o' L L' hne (hs _ _ hb) (hs _ _ hb'),fun b hb=>h.fresh b (by omega)⟩

theorem Owned.sub{ρ:Ren}{A G:ASt}{B j:Nat}(hs:∀ b o,G.get b=some o→A.get b=some o)(h:Owned ρ G B j):Owned ρ A B j:=
 let ⟨b,o,L,hb,r⟩:=h
 ⟨b,o,L,hs _ _ hb,r⟩

theorem Step.kept{ρ ρ':Ren}{A G G':ASt}{w w':World}(hR:Rep ρ A w)(hsub:∀ b o,G.get b=some o→A.get b=some o)(hs:Step ρ G w ρ' G' w'){b:Nat}{o:AObj}{L:Loc}(hb:A.get b=some o)(hG:G.get b=none)(hL:ρ b=some L)
  (ho:ORel ρ o L w):ORel ρ' o L w':=by
 have hno:∀ j,L.o≤j→j<o.hi L→¬ Owned ρ G L.B j:=by
  rintro j h1 h2 ⟨b',o',L',hb',hL',hB,h3,h4⟩
  have hne:b≠b':=fun e=>by subst e;rw [hG] at hb';cases hb'
  exact hR.apart b b' o o' L L' hne hb (hsub _ _ hb') hL hL' hB.symm j h1 h2 h3 h4
 cases o with
 | row c sz tail=>
  obtain ⟨cells,el,lo,hi,e1,e2,e3,e4,e5,e6⟩:=ho
  obtain ⟨cells',f1,f2,f3⟩:=hs.cells L.B cells el (lo,hi) e1
  refine ⟨cells',el,lo,hi,f1,by omega,e3,e4,fun i v hv=>?_,e6⟩
  obtain ⟨v',hv',hr⟩:=e5 i v hv
  refine ⟨v',?_,hr.mono hs.ext⟩
  rw [f3 (L.o+i) (hno (L.o+i) (by omega) ?_)]
  ·exact hv'
  ·have hi':i<c.length:=(List.getElem?_eq_some_iff.1 hv).1
   simp only [AObj.hi]
   split<;>omega
 | map es clock=>
  obtain ⟨es',e1,e2,e3⟩:=ho
  have:=hs.objs L.B _ e1 (by simp) (hno 0 (by omega) (by simp [AObj.hi]))
  exact ⟨es',this,LR.mono (fun _ _ e=>⟨e.key,e.flat,e.val.mono hs.ext,e.born⟩) e2,e3⟩
 | miter m since seen stepped=>
  obtain ⟨m',e1,e2,e3⟩:=ho
  have:=hs.objs L.B _ e1 (by simp) (hno 0 (by omega) (by simp [AObj.hi]))
  refine ⟨m',this,?_,e3⟩
  cases m<;>cases m'<;>simp only [optLoc] at e2 ⊢
  obtain ⟨L2,hL2,e⟩:=e2
  exact ⟨L2,hs.ext _ _ hL2,e⟩
 | siter s pos=>
  obtain ⟨e1,e3⟩:=ho
  exact ⟨hs.objs L.B _ e1 (by simp) (hno 0 (by omega) (by simp [AObj.hi])),e3⟩
 | loop n T ps as b st j=>
  obtain ⟨r,e1,e2,e3,e4,e5⟩:=ho
  exact ⟨r,hs.objs L.B _ e1 (by simp) (hno 0 (by omega) (by simp [AObj.hi])),e2,e3,fun t=>(e4 t).mono hs.ext,e5⟩

theorem Step.frame{ρ ρ':Ren}{A A' G G':ASt}{w w':World}(hR:Rep ρ A w)(hsub:∀ b o,G.get b=some o→A.get b=some o)(hnext:G.next=A.next)(hs:Step ρ G w ρ' G' w')
  (hA':∀ b,A'.get b=match G'.get b with
   | some o=>some o
   | none=>if (G.get b).isSome then none else A.get b) (hn':A'.next=G'.next):Step ρ A w ρ' A' w':=by
 have cases':∀ b o,A'.get b=some o→G'.get b=some o∨(G'.get b=none∧G.get b=none∧A.get b=some o):=by
  intro b o hb
  rw [hA'] at hb
  cases hg:G'.get b with
  | some x=>rw [hg] at hb;left;exact hb
  | none=>
   rw [hg] at hb
   cases hg2:G.get b with
   | some x=>rw [hg2] at hb;simp at hb
   | none=>rw [hg2] at hb;simp at hb;exact .inr ⟨rfl,rfl,hb⟩
 -- an owned cell of the part against a block outside
 have clash:∀ b b' o o' L L',G'.get b=some o→ρ' b=some L→G.get b'=none→A.get b'=some o'→ρ b'=some L'→L.B=L'.B→∀ j,L.o≤j→j<o.hi L→L'.o≤j→j<o'.hi L'→False:=by
  intro b b' o o' L L' hb hL hG hb' hL' hB j h1 h2 h3 h4
  obtain ⟨L2,hL2,ho2⟩:=hR.obj b' o' hb'
  rw [hL'] at hL2;cases hL2
  have hlt:L.B<w.heap.size:=by rw [hB];exact ho2.block
  obtain ⟨c,x,M,hc,hM,hMB,g1,g2⟩:=hs.owns L.B j hlt ⟨b,o,L,hb,hL,rfl,h1,h2⟩
  have hne:c≠b':=fun e=>by subst e;rw [hG] at hc;cases hc
  exact hR.apart c b' x o' M L' hne (hsub _ _ hc) hb' hM hL' (by omega) j g1 g2 h3 h4
 refine ⟨⟨⟨?_,?_,?_⟩,hs.ext,by have:=hs.next;omega,hs.size,hs.os,hs.tape,hs.output,hs.drawn,?_,?_,?_⟩,fun b hb=>hs.keep b (by omega),?_⟩
 ·intro b o hb
  rcases cases' b o hb with h | ⟨_,h2,h3⟩
  ·exact hs.rep.obj b o h
  ·obtain ⟨L,hL,ho⟩:=hR.obj b o h3
   exact ⟨L,hs.ext _ _ hL,hs.kept hR hsub h3 h2 hL ho⟩
 ·intro b b' o o' L L' hne hb hb' hL hL' hB j h1 h2 h3 h4
  rcases cases' b o hb with h | ⟨_,g2,g3⟩
  ·rcases cases' b' o' hb' with h' | ⟨_,g2',g3'⟩
   ·exact hs.rep.apart b b' o o' L L' hne h h' hL hL' hB j h1 h2 h3 h4
   ·obtain ⟨M,hM,_⟩:=hR.obj b' o' g3'
    have:=hs.ext _ _ hM;rw [this] at hL';cases hL'
    exact clash b b' o o' L _ h hL g2' g3' hM hB j h1 h2 h3 h4
  ·obtain ⟨M,hM,_⟩:=hR.obj b o g3
   have:=hs.ext _ _ hM;rw [this] at hL;cases hL
   rcases cases' b' o' hb' with h' | ⟨_,g2',g3'⟩
   ·exact clash b' b o' o L' _ h' hL' g2 g3 hM hB.symm j h3 h4 h1 h2
   ·obtain ⟨M',hM',_⟩:=hR.obj b' o' g3'
    have:=hs.ext _ _ hM';rw [this] at hL';cases hL'
    exact hR.apart b b' o o' _ _ hne g3 g3' hM hM' hB j h1 h2 h3 h4
 ·intro b hb
  exact hs.rep.fresh b (by omega)
 ·intro B cells el fr hB
  obtain ⟨c',h1,h2,h3⟩:=hs.cells B cells el fr hB
  exact ⟨c',h1,h2,fun j hj=>h3 j fun ho=>hj (ho.sub hsub)⟩
 ·intro B o hB hne hno
  exact hs.objs B o hB hne fun ho=>hno (ho.sub hsub)
 ·rintro B j hB ⟨b,o,L,hb,hL,hLB,h1,h2⟩
  rcases cases' b o hb with h | ⟨_,g2,g3⟩
  ·exact (hs.owns B j hB ⟨b,o,L,h,hL,hLB,h1,h2⟩).sub hsub
  ·obtain ⟨M,hM,_⟩:=hR.obj b o g3
   have:=hs.ext _ _ hM;rw [this] at hL;cases hL
   exact ⟨b,o,_,g3,hM,hLB,h1,h2⟩
 ·intro b hb hn
  have hg:G.get b=none:=by
   cases hg:G.get b with
   | none=>rfl
   | some o=>rw [hsub _ _ hg] at hn;cases hn
  rw [hA',hs.dom b (by omega) hg,hg]
  exact hn

theorem quiet_spec{E:Env}{o:Op}(hq:quietOp E o=true)(T:Tmps)(h:Tr AObj):∃ r:Option Value,∃ why,∀ n,aOp E o T { heap:=h,next:=n }=ofVal r { heap:=h,next:=n } why:=by
 have bad:∀ why,∃ r:Option Value,∃ why',∀ n,(AR.bad why:AR)=ofVal r { heap:=h,next:=n } why':=fun why=>⟨none,why,fun n=>rfl⟩
 simp only [aOp_def]
 cases o<;>simp only [quietOp] at hq<;>first
  | (cases hq;done)
  | skip
 case move x=>exact ⟨ev T x,_,fun n=>rfl⟩
 case assign x=>exact ⟨ev T x,_,fun n=>rfl⟩
 case pick c a b=>
  simp only [freshOp,cond_false,aOpR]
  cases ev T c with
  | none=>exact bad _
  | some v=>cases v<;>first | exact bad _ | exact ⟨_,_,fun n=>rfl⟩
 case build t ps=>
  simp only [freshOp,cond_false,aOpR]
  cases evPairs T ps.toList with
  | none=>exact bad _
  | some l=>exact ⟨_,_,fun n=>rfl⟩
 case load t a=>
  simp only [freshOp,cond_false,aOpR]
  cases ev T a with
  | none=>exact bad _
  | some v=>exact ⟨aLoad E t v { heap:=h,next:=0 },_,fun n=>rfl⟩
 case nilCheck x=>
  simp only [freshOp,cond_false,aOpR]
  cases ev T x with
  | none=>exact bad _
  | some v=>exact ⟨_,_,fun n=>rfl⟩
 case binOp op t x y yt=>
  simp only [freshOp,cond_false,aOpR]
  cases ev T x with
  | none=>exact bad _
  | some v=>cases ev T y with
   | none=>exact bad _
   | some u=>exact ⟨_,_,fun n=>rfl⟩
 case unOp op t x=>
  simp only [freshOp,cond_false,aOpR]
  cases ev T x with
  | none=>exact bad _
  | some v=>exact ⟨_,_,fun n=>rfl⟩
 case convert s d x=>
  have hf:freshOp E (.convert s d x)=false:=by cases hh:freshOp E (.convert s d x)<;>simp_all
  rw [hf]
  simp only [cond_false,aOpR]
  cases ev T x with
  | none=>exact bad _
  | some v=>exact ⟨aConvert E s d v { heap:=h,next:=0 },_,fun n=>rfl⟩
 case makeInterface t x=>
  simp only [freshOp,cond_false,aOpR]
  cases ev T x with
  | none=>exact bad _
  | some v=>exact ⟨_,_,fun n=>rfl⟩
 case makeFunc fn f c=>
  simp only [freshOp,cond_false,aOpR]
  cases evs T f.toList with
  | none=>exact bad _
  | some v=>cases evs T c.toList with
   | none=>exact bad _
   | some u=>cases hny:notYield fn with
    | false=>exact bad _
    | true=>exact ⟨some (.func fn v.toArray u.toArray), "", fun n=>rfl⟩
 case slice t x lo hi mx=>
  simp only [freshOp,cond_false,aOpR]
  cases ev T x with
  | none=>exact bad _
  | some v=>cases evOpt T lo with
   | none=>exact bad _
   | some a=>cases evOpt T hi with
    | none=>exact bad _
    | some b=>cases evOpt T mx with
     | none=>exact bad _
     | some c=>exact ⟨aSlice E t v a b c { heap:=h,next:=0 },_,fun n=>rfl⟩
 case fieldAddr t x f=>
  simp only [freshOp,cond_false,aOpR]
  cases ev T x with
  | none=>exact bad _
  | some v=>exact ⟨_,_,fun n=>rfl⟩
 case field t x f=>
  simp only [freshOp,cond_false,aOpR]
  cases ev T x with
  | none=>exact bad _
  | some v=>exact ⟨_,_,fun n=>rfl⟩
 case indexAddr t x i=>
  simp only [freshOp,cond_false,aOpR]
  cases ev T x with
  | none=>exact bad _
  | some v=>cases ev T i with
   | none=>exact bad _
   | some u=>exact ⟨_,_,fun n=>rfl⟩
 case index t x i=>
  simp only [freshOp,cond_false,aOpR]
  cases ev T x with
  | none=>exact bad _
  | some v=>cases ev T i with
   | none=>exact bad _
   | some u=>exact ⟨_,_,fun n=>rfl⟩
 case lookup t x k ok=>
  simp only [freshOp,cond_false,aOpR]
  cases ev T x with
  | none=>exact bad _
  | some v=>cases ev T k with
   | none=>exact bad _
   | some u=>exact ⟨aLookup E t v u ok { heap:=h,next:=0 },_,fun n=>rfl⟩
 case entry it=>
  simp only [freshOp,cond_false,aOpR]
  cases ev T it with
  | none=>exact bad _
  | some v=>exact ⟨aEntry v { heap:=h,next:=0 },_,fun n=>rfl⟩
 case typeAssert x s t ok=>
  simp only [freshOp,cond_false,aOpR]
  cases ev T x with
  | none=>exact bad _
  | some v=>exact ⟨_,_,fun n=>rfl⟩
 case extract t i=>
  simp only [freshOp,cond_false,aOpR]
  cases ev T t with
  | none=>exact bad _
  | some v=>exact ⟨_,_,fun n=>rfl⟩
 case call c=>
  simp only [freshOp,cond_false,aOpR,aCall]
  cases evs T c.args.toList with
  | none=>exact bad _
  | some args=>
   simp only []
   split at hq<;>first
    | (cases hq;done)
    | skip
   all_goals
    rename_i hc
    rw [hc]
    simp only []
   ·rcases c.argTypes.toList with _ | ⟨t,l⟩
    ·exact bad "builtin"
    ·rcases args with _ | ⟨x,_ | ⟨y,r⟩⟩
     ·exact bad "builtin"
     ·exact ⟨aLen E t x { heap:=h,next:=0 }, "len", fun n=>rfl⟩
     ·exact bad "builtin"
   ·rcases c.argTypes.toList with _ | ⟨t,l⟩
    ·exact bad "builtin"
    ·rcases args with _ | ⟨x,_ | ⟨y,r⟩⟩
     ·exact bad "builtin"
     ·exact ⟨aCap E t x, "cap", fun n=>rfl⟩
     ·exact bad "builtin"
   ·exact ⟨minMax false args, "min", fun n=>by rcases c.argTypes.toList with _ | ⟨t,l⟩<;>rcases args with _ | ⟨x,_ | ⟨y,r⟩⟩<;>rfl⟩
   ·exact ⟨minMax true args, "max", fun n=>by rcases c.argTypes.toList with _ | ⟨t,l⟩<;>rcases args with _ | ⟨x,_ | ⟨y,r⟩⟩<;>rfl⟩

theorem tmpsOf_mem:∀ {l:List Operand} {t:Tmp},Operand.tmp t∈l→t∈tmpsOf l
 | x::l,t,h=>by
  rcases List.mem_cons.1 h with e | h
  ·subst e;simp [tmpsOf]
  ·have:=tmpsOf_mem h
   cases x<;>simp [tmpsOf,this]

theorem ev_congr{T T':Tmps}{x:Operand}(h:∀ t,x=.tmp t→tget T t=tget T' t):ev T x=ev T' x:=by
 cases x with
 | tmp t=>simp only [ev,h t rfl]
 | _=>rfl

theorem evs_congr{T T':Tmps}:∀ {l:List Operand},(∀ t,Operand.tmp t∈l→tget T t=tget T' t)→evs T l=evs T' l
 | [],_=>rfl
 | x::l,h=>by
  unfold evs
  rw [ev_congr (T:=T) (T':=T') (x:=x) fun t e=>h t (by simp [e]),evs_congr (l:=l) fun t ht=>h t (by simp [ht])]

theorem evPairs_congr{T T':Tmps}:∀ {l:List (Nat×Operand)},(∀ t,Operand.tmp t∈l.map (·.2)→tget T t=tget T' t)→evPairs T l=evPairs T' l
 | [],_=>rfl
 | (i,x)::l,h=>by
  unfold evPairs
  rw [ev_congr (T:=T) (T':=T') (x:=x) fun t e=>h t (by simp [e]),evPairs_congr (l:=l) fun t ht=>h t (by simp at ht ⊢;exact .inr ht)]

theorem evOpt_congr{T T':Tmps}{x:Option Operand}(h:∀ t,x=some (.tmp t)→tget T t=tget T' t):evOpt T x=evOpt T' x:=by
 cases x with
 | none=>rfl
 | some x=>simp only [evOpt];rw [ev_congr (T:=T) (T':=T') (x:=x) fun t e=>h t (by rw [e])]

theorem aCall_congr{E:Env}{T T':Tmps}{c:Call}{A:ASt}(h:∀ t,Operand.tmp t∈c.operands.toList→tget T t=tget T' t):aCall E T c A=aCall E T' c A:=by
 unfold aCall
 have h1:evs T c.args.toList=evs T' c.args.toList:=evs_congr fun t ht=>h t (by simp [Call.operands];right;simpa using ht)
 rw [h1]
 cases evs T' c.args.toList with
 | none=>rfl
 | some args=>
  simp only []
  cases hc:c.callee with
  | builtin b=>rfl
  | invoke r name=>
   simp only []
   rw [ev_congr (T:=T) (T':=T') (x:=r) fun t e=>h t (by simp [Call.operands,hc,e])]
  | value f=>
   simp only []
   rw [ev_congr (T:=T) (T':=T') (x:=f) fun t e=>h t (by simp [Call.operands,hc,e])]

theorem aOp_congr{E:Env}{T T':Tmps}{o:Op}{A:ASt}(h:∀ t,Operand.tmp t∈o.operands.toList→tget T t=tget T' t):aOp E o T A=aOp E o T' A∧aFresh E o T=aFresh E o T':=by
 have e:∀ x:Operand,x∈o.operands.toList→ev T x=ev T' x:=fun x hx=>ev_congr fun t e=>h t (e ▸ hx)
 simp only [aOp_def]
 cases o<;>simp only [Op.operands] at h e<;>simp only [aOpR,aFresh]
 case alloc=>exact ⟨trivial,trivial⟩
 case move x=>rw [e x (by simp)];exact ⟨by first | rfl | trivial,by first | rfl | trivial⟩
 case assign x=>rw [e x (by simp)];exact ⟨by first | rfl | trivial,by first | rfl | trivial⟩
 case box t x=>rw [e x (by simp)];exact ⟨by first | rfl | trivial,by first | rfl | trivial⟩
 case load t x=>rw [e x (by simp)];exact ⟨by first | rfl | trivial,by first | rfl | trivial⟩
 case nilCheck x=>rw [e x (by simp)];exact ⟨by first | rfl | trivial,by first | rfl | trivial⟩
 case unOp op t x=>rw [e x (by simp)];exact ⟨by first | rfl | trivial,by first | rfl | trivial⟩
 case convert s t x=>rw [e x (by simp)];exact ⟨by first | rfl | trivial,by first | rfl | trivial⟩
 case makeInterface t x=>rw [e x (by simp)];exact ⟨by first | rfl | trivial,by first | rfl | trivial⟩
 case fieldAddr t x f=>rw [e x (by simp)];exact ⟨by first | rfl | trivial,by first | rfl | trivial⟩
 case field t x f=>rw [e x (by simp)];exact ⟨by first | rfl | trivial,by first | rfl | trivial⟩
 case range t x=>rw [e x (by simp)];exact ⟨by first | rfl | trivial,by first | rfl | trivial⟩
 case entry x=>rw [e x (by simp)];exact ⟨by first | rfl | trivial,by first | rfl | trivial⟩
 case typeAssert x s t ok=>rw [e x (by simp)];exact ⟨by first | rfl | trivial,by first | rfl | trivial⟩
 case extract x i=>rw [e x (by simp)];exact ⟨by first | rfl | trivial,by first | rfl | trivial⟩
 case pick c a b=>rw [e c (by simp),e a (by simp),e b (by simp)];exact ⟨by first | rfl | trivial,by first | rfl | trivial⟩
 case build t ps=>rw [evPairs_congr (T:=T) (T':=T') (l:=ps.toList) fun t ht=>h t (by simpa using ht)];exact ⟨by first | rfl | trivial,by first | rfl | trivial⟩
 case buildSlice t n ps=>rw [evPairs_congr (T:=T) (T':=T') (l:=ps.toList) fun t ht=>h t (by simpa using ht)];exact ⟨by first | rfl | trivial,by first | rfl | trivial⟩
 case store t a x=>rw [e a (by simp),e x (by simp)];exact ⟨by first | rfl | trivial,by first | rfl | trivial⟩
 case binOp op t a x ty=>rw [e a (by simp),e x (by simp)];exact ⟨by first | rfl | trivial,by first | rfl | trivial⟩
 case makeSlice t a x=>rw [e a (by simp),e x (by simp)];exact ⟨by first | rfl | trivial,by first | rfl | trivial⟩
 case indexAddr t a x=>rw [e a (by simp),e x (by simp)];exact ⟨by first | rfl | trivial,by first | rfl | trivial⟩
 case index t a x=>rw [e a (by simp),e x (by simp)];exact ⟨by first | rfl | trivial,by first | rfl | trivial⟩
 case lookup t a x ok=>rw [e a (by simp),e x (by simp)];exact ⟨by first | rfl | trivial,by first | rfl | trivial⟩
 case mapEntry t a x=>rw [e a (by simp),e x (by simp)];exact ⟨by first | rfl | trivial,by first | rfl | trivial⟩
 case makeFunc fn f c=>
  rw [evs_congr (T:=T) (T':=T') (l:=f.toList) fun t ht=>h t (by simp;left;simpa using ht),evs_congr (T:=T) (T':=T') (l:=c.toList) fun t ht=>h t (by simp;right;simpa using ht)]
  exact ⟨by first | rfl | trivial,by first | rfl | trivial⟩
 case makeMap t r=>cases r<;>exact ⟨by first | rfl | trivial,by first | rfl | trivial⟩
 case slice t x lo hi mx=>
  rw [e x (by simp),evOpt_congr (T:=T) (T':=T') (x:=lo) fun t e=>h t (by simp [e]),evOpt_congr (T:=T) (T':=T') (x:=hi) fun t e=>h t (by simp [e]),evOpt_congr (T:=T) (T':=T') (x:=mx) fun t e=>h t (by simp [e])]
  exact ⟨by first | rfl | trivial,by first | rfl | trivial⟩
 case mapUpdate t m k x=>rw [e m (by simp),e k (by simp),e x (by simp)];exact ⟨by first | rfl | trivial,by first | rfl | trivial⟩
 case insert t m k x=>rw [e m (by simp),e k (by simp),e x (by simp)];exact ⟨by first | rfl | trivial,by first | rfl | trivial⟩
 case entryStore t m k x=>rw [e m (by simp),e k (by simp),e x (by simp)];exact ⟨by first | rfl | trivial,by first | rfl | trivial⟩
 case call c=>rw [aCall_congr h];exact ⟨by first | rfl | trivial,by first | rfl | trivial⟩
 all_goals exact ⟨by first | rfl | trivial,by first | rfl | trivial⟩

theorem oneOp_congr{E:Env}{call:Tgt→List Value→ASt→Nd (Value×ASt)}{T T':Tmps}{o:Oper}{A:ASt}(h:∀ t,Operand.tmp t∈o.op.operands.toList→tget T t=tget T' t):oneOp E call o T A=oneOp E call o T' A:=by
 unfold oneOp
 split
 ·rename_i it isString hop
  rw [ev_congr (T:=T) (T':=T') (x:=it) fun t e=>h t (by rw [hop];simp [Op.operands,e])]
 ·rw [(aOp_congr (E:=E) (A:=A) h).1]

end Go.AE

/- The evaluator: what the plan of a drawn region says, apart from the model. -/
namespace Go.AE
open Go

noncomputable def Anc(an:List Nat)(i j:Nat):Prop:=∃ m,nth an i=some m∧m.testBit j=true

theorem ancStep_bit(acc:List Nat):∀ (l:List Edge) (s j:Nat),(ancStep acc l s).testBit j=true↔s.testBit j=true∨∃ e∈l,Region.binds .any e=true∧(e.on=j∨Anc acc e.on j)
 | [],s,j=>by simp [ancStep]
 | e::l,s,j=>by
  unfold ancStep
  rw [ancStep_bit acc l]
  have key:((s ||| (2 ^ e.on ||| (match nth acc e.on with | some m=>m | none=>0))).testBit j=true)↔s.testBit j=true∨e.on=j∨Anc acc e.on j:=by
   rw [Nat.testBit_or,Nat.testBit_or,Nat.testBit_two_pow]
   unfold Anc
   cases nth acc e.on with
   | none=>simp
   | some m=>simp
  cases hb:Region.binds .any e with
  | false=>simp [hb]
  | true=>
   rw [cond_true]
   refine (or_congr key Iff.rfl).trans ?_
   simp only [List.mem_cons,exists_eq_or_imp,hb,true_and]
   constructor
   ·rintro ((h | h) | h)
    ·exact .inl h
    ·exact .inr (.inl h)
    ·exact .inr (.inr h)
   ·rintro (h | h | h)
    ·exact .inl (.inl h)
    ·exact .inl (.inr h)
    ·exact .inr h

theorem ancs_spec:∀ (l:List Oper) (acc:List Nat),∃ r,ancs l acc=acc++r∧r.length=l.length∧∀ k o,l[k]? = some o→(ancs l acc)[acc.length+k]? = some (ancStep ((ancs l acc).take (acc.length+k)) o.after.toList 0)
 | [],acc=>⟨[],by simp [ancs],rfl,by simp⟩
 | o::l,acc=>by
  obtain ⟨r,h1,h2,h3⟩:=ancs_spec l (acc++[ancStep acc o.after.toList 0])
  refine ⟨ancStep acc o.after.toList 0::r,by simp [ancs,h1],by simp [h2],fun k x hk=>?_⟩
  cases k with
  | zero=>
   simp at hk;subst hk
   simp [ancs,h1]
  | succ k=>
   have:=h3 k x (by simpa using hk)
   simp only [List.length_append,List.length_singleton] at this
   simp only [ancs]
   rw [show acc.length+(k+1)=acc.length+1+k by omega]
   exact this

theorem ancs_at(l:List Oper){i:Nat}{o:Oper}(h:l[i]? = some o):∃ m,nth (ancs l []) i=some m∧∀ j,m.testBit j=true→∃ e∈o.after.toList,Region.binds .any e=true∧(e.on=j∨(e.on<i∧Anc (ancs l []) e.on j)):=by
 obtain ⟨r,h1,h2,h3⟩:=ancs_spec l []
 have:=h3 i o h
 simp only [List.length_nil,Nat.zero_add] at this
 refine ⟨_,by rw [nth_eq];exact this,fun j hj=>?_⟩
 rw [ancStep_bit] at hj
 rcases hj with hj | ⟨e,he,hb,hj⟩
 ·simp at hj
 ·refine ⟨e,he,hb,hj.imp id ?_⟩
  rintro ⟨m,hm,hmj⟩
  rw [nth_eq] at hm
  have hlt:e.on<i:=by
   rcases Nat.lt_or_ge e.on i with h | h
   ·exact h
   ·rw [List.getElem?_eq_none (by simp;omega)] at hm;cases hm
  rw [List.getElem?_take_of_lt hlt] at hm
  exact ⟨hlt,m,by rw [nth_eq];exact hm,hmj⟩

theorem edgesOK_spec{j:Nat}:∀ {l:List Edge},edgesOK j l=true→∀ e∈l,Region.binds .any e=true→e.on<j
 | [],_,e,he,_=>by simp at he
 | x::l,h,e,he,hb=>by
  unfold edgesOK at h
  rw [Bool.and_eq_true] at h
  rcases List.mem_cons.1 he with rfl | he
  ·rcases Bool.or_eq_true_iff.1 h.1 with h' | h'
   ·rw [hb] at h';cases h'
   ·exact Nat.le_of_ble_eq_true h'
  ·exact edgesOK_spec h.2 e he hb

theorem anc_of_match{an:List Nat}{i j:Nat}(h:(match nth an i with | some m=>m.testBit j | none=>false)=true):Anc an i j:=by
 unfold Anc
 cases hn:nth an i with
 | none=>rw [hn] at h;cases h
 | some m=>rw [hn] at h;exact ⟨m,rfl,h⟩

theorem slotOK_spec{an:List Nat}{j t:Nat}:∀ {l:List Oper} {k:Nat},slotOK an j t k l=true→∀ i o,l[i]? = some o→o.dst=some t→(k+i=j∨(k+i<j∧Anc an j (k+i))∨(j<k+i∧Anc an (k+i) j))
 | [],_,_,i,o,hi,_=>by simp at hi
 | x::l,k,h,i,o,hi,hd=>by
  unfold slotOK at h
  rw [Bool.and_eq_true] at h
  cases i with
  | zero=>
   simp at hi;subst hi
   have h1:=h.1
   rw [hd] at h1
   simp only [Nat.beq_refl,cond_true,Nat.add_zero] at h1 ⊢
   rcases Bool.or_eq_true_iff.1 h1 with h2 | h2
   ·exact .inl (Nat.eq_of_beq_eq_true h2)
   ·cases hlt:Nat.blt k j with
    | true=>rw [hlt,cond_true] at h2;exact .inr (.inl ⟨Nat.le_of_ble_eq_true hlt,anc_of_match h2⟩)
    | false=>
     rw [hlt,cond_false] at h2
     by_cases e:k=j
     ·exact .inl e
     ·refine .inr (.inr ⟨?_,anc_of_match h2⟩)
      have:¬ k<j:=fun hh=>by rw [show Nat.blt k j=true from Nat.ble_eq_true_of_le hh] at hlt;cases hlt
      omega
  | succ i=>
   have:=slotOK_spec h.2 i o (by simpa using hi) hd
   rw [show k+(i+1)=k+1+i by omega]
   exact this

theorem slotsOK_spec{an:List Nat}{l:List Oper}{j:Nat}:∀ {ts:List Nat},slotsOK an l j ts=true→∀ t∈ts,slotOK an j t 0 l=true
 | [],_,t,ht=>by simp at ht
 | x::ts,h,t,ht=>by
  unfold slotsOK at h
  rw [Bool.and_eq_true] at h
  rcases List.mem_cons.1 ht with rfl | ht
  ·exact h.1
  ·exact slotsOK_spec h.2 t ht

theorem regOK_spec{ops:Array Oper}{an:List Nat}{all:List Oper}:∀ {l:List Oper} {j:Nat},regOK ops an all j l=true→∀ k o,l[k]? = some o→edgesOK (j+k) o.after.toList=true∧∀ t∈looks ops o++o.dst.toList,slotOK an (j+k) t 0 all=true
 | [],_,_,k,o,hk=>by simp at hk
 | x::l,j,h,k,o,hk=>by
  unfold regOK at h
  rw [Bool.and_eq_true,Bool.and_eq_true] at h
  cases k with
  | zero=>simp at hk;subst hk;exact ⟨h.1,slotsOK_spec h.2.1⟩
  | succ k=>
   have:=regOK_spec h.2.2 k o (by simpa using hk)
   rw [show j+(k+1)=j+1+k by omega]
   exact this

theorem takenAt_spec{mask f:Nat}:∀ {l:List Nat} {k:Nat},takenAt mask f k l=true↔∃ j m,l[j]? = some m∧mask.testBit (k+j)=true∧m.testBit f=true
 | [],k=>by simp [takenAt]
 | x::l,k=>by
  unfold takenAt
  rw [Bool.or_eq_true_iff,Bool.and_eq_true,takenAt_spec (l:=l)]
  constructor
  ·rintro (⟨h1,h2⟩ | ⟨j,m,h1,h2,h3⟩)
   ·exact ⟨0,x,by simp,by simpa using h1,h2⟩
   ·exact ⟨j+1,m,by simpa using h1,by rw [show k+(j+1)=k+1+j by omega];exact h2,h3⟩
  ·rintro ⟨j,m,h1,h2,h3⟩
   cases j with
   | zero=>simp at h1;subst h1;exact .inl ⟨by simpa using h2,h3⟩
   | succ j=>exact .inr ⟨j,m,by simpa using h1,by rw [show k+(j+1)=k+1+j by omega] at h2;exact h2,h3⟩

theorem takenAt_anc{an:List Nat}{mask f:Nat}:takenAt mask f 0 an=true↔∃ j,mask.testBit j=true∧Anc an j f:=by
 rw [takenAt_spec]
 constructor
 ·rintro ⟨j,m,h1,h2,h3⟩;exact ⟨j,by simpa using h2,m,by rw [nth_eq];exact h1,h3⟩
 ·rintro ⟨j,h2,m,h1,h3⟩;exact ⟨j,m,by rw [← nth_eq];exact h1,by simpa using h2,h3⟩

theorem behind_bit{i:Nat}:∀ {l:List Nat} {k j:Nat},(behind i k l).testBit j=true→∃ x m,l[x]? = some m∧k+x=j∧m.testBit i=true
 | [],k,j,h=>by simp [behind] at h
 | m::l,k,j,h=>by
  unfold behind at h
  have rec':(behind i (k+1) l).testBit j=true→∃ x m',(m::l)[x]? = some m'∧k+x=j∧m'.testBit i=true:=fun h'=>by
   obtain ⟨x,m',h1,h2,h3⟩:=behind_bit h'
   exact ⟨x+1,m',by simpa using h1,by omega,h3⟩
  cases hb:m.testBit i with
  | true=>
   rw [hb,cond_true,Nat.testBit_or,Nat.testBit_two_pow,Bool.or_eq_true_iff] at h
   rcases h with h | h
   ·exact ⟨0,m,by simp,by simpa using h,hb⟩
   ·exact rec' h
  | false=>rw [hb,cond_false] at h;exact rec' h

theorem behind_anc{an:List Nat}{i j:Nat}(h:(behind i 0 an).testBit j=true):Anc an j i:=by
 obtain ⟨x,m,h1,h2,h3⟩:=behind_bit h
 have:x=j:=by omega
 subst this
 exact ⟨m,by rw [nth_eq];exact h1,h3⟩

/-! ### new blocks -/
noncomputable def flGet:List Fl→Nat→Option AObj
 | [],_=>none
 | x::l,f=>if x.f=f then some x.ob else flGet l f

theorem addFl_get(base:Nat)(g:Nat→Bool)(A:ASt):∀ (l:List Fl) (b:Nat),(addFl base g l A).get b=if base≤b∧g (b-base)=true then (match flGet l (b-base) with | some o=>some o | none=>A.get b) else A.get b
 | [],b=>by simp [addFl,flGet]
 | x::l,b=>by
  unfold addFl flGet
  cases hg:g x.f with
  | true=>
   rw [cond_true,ASt.get_set,addFl_get base g A l b]
   by_cases e:b=base+x.f
   ·subst e
    rw [if_pos rfl]
    simp [hg]
   ·rw [if_neg e]
    by_cases hb:base≤b∧g (b-base)=true
    ·rw [if_pos hb,if_pos hb,if_neg (by omega)]
    ·rw [if_neg hb,if_neg hb]
  | false=>
   rw [cond_false,addFl_get base g A l b]
   by_cases hb:base≤b∧g (b-base)=true
   ·rw [if_pos hb,if_pos hb,if_neg]
    intro e
    rw [e,hb.2] at hg;cases hg
   ·rw [if_neg hb,if_neg hb]

theorem addFl_next(base:Nat)(g:Nat→Bool)(A:ASt):∀ (l:List Fl),(addFl base g l A).next=A.next
 | []=>rfl
 | x::l=>by
  unfold addFl
  cases g x.f with
  | true=>simp [addFl_next base g A l]
  | false=>simp [addFl_next base g A l]

/-! ### two values are one -/
theorem fnEq_eq{f g:Fn}(h:fnEq f g=true):f=g:=by
 unfold fnEq at h
 split at h
 ·rw [Nat.eq_of_beq_eq_true h]
 ·rw [Nat.eq_of_beq_eq_true h]
 ·cases h

theorem flatEq_eq{a b:Value}(h:flatEq a b=true):a=b:=by
 unfold flatEq at h
 split at h<;>(try simp only [Bool.and_eq_true] at h)
 ·rename_i x y;simp at h;rw [h]
 ·rename_i k x j y
  obtain ⟨h1,h2⟩:=h
  have:x=y:=by simpa using h2
  rw [kind_eq h1,this]
 ·rename_i x y
  rw [bytesEq_eq] at h
  have h':x.data.toList=y.data.toList:=by simpa using h
  rw [show x=y from ByteArray.ext (Array.ext' h')]
 ·rfl
 ·rename_i x y z u
  rw [Nat.eq_of_beq_eq_true h.1,Nat.eq_of_beq_eq_true h.2]
 ·rename_i x y z u
  rw [Nat.eq_of_beq_eq_true h.1,Nat.eq_of_beq_eq_true h.2]
 ·rename_i x y z u x' y' z' u'
  rw [Nat.eq_of_beq_eq_true h.1.1,Nat.eq_of_beq_eq_true h.1.2,Nat.eq_of_beq_eq_true h.2.1,Nat.eq_of_beq_eq_true h.2.2]
 ·rename_i x y s z u x' y' s' z' u'
  rw [Nat.eq_of_beq_eq_true h.1.1,Nat.eq_of_beq_eq_true h.1.2,Nat.eq_of_beq_eq_true h.2.1,Nat.eq_of_beq_eq_true h.2.2.1,Nat.eq_of_beq_eq_true h.2.2.2]
 ·rfl
 ·rw [Nat.eq_of_beq_eq_true h]
 ·rfl
 ·rfl
 ·rename_i f a b g c d
  simp only [Array.isEmpty_iff] at h
  rw [fnEq_eq h.1.1,h.1.2.1,h.1.2.2,h.2.1,h.2.2]
 ·rfl
 ·rw [Nat.eq_of_beq_eq_true h]
 ·cases h

theorem lEq_eq{α:Type}{q:α→α→Bool}(hq:∀ a b,q a b=true→a=b):∀ {l r:List α},lEq q l r=true→l=r
 | [],[],_=>rfl
 | [],_::_,h=>by cases h
 | _::_,[],h=>by cases h
 | a::l,b::r,h=>by
  simp only [lEq,Bool.and_eq_true] at h
  rw [hq a b h.1,lEq_eq hq h.2]

theorem vStep_eq{q:Value→Value→Bool}(hq:∀ a b,q a b=true→a=b)(a b:Value)(h:vStep q a b=true):a=b:=by
 unfold vStep at h
 split at h
 ·rename_i x y
  rw [Array.ext' (lEq_eq hq h)]
 ·rename_i x y
  rw [Array.ext' (lEq_eq hq h)]
 ·rename_i t x u y
  rw [Bool.and_eq_true] at h
  rw [Nat.eq_of_beq_eq_true h.1,hq _ _ h.2]
 ·simp only [Bool.and_eq_true] at h
  rw [fnEq_eq h.1,Array.ext' (lEq_eq hq h.2.1),Array.ext' (lEq_eq hq h.2.2)]
 ·exact flatEq_eq h

theorem vEq_eq:∀ (n:Nat) (a b:Value),vEq n a b=true→a=b
 | 0,_,_,h=>flatEq_eq h
 | n+1,a,b,h=>vStep_eq (vEq_eq n) a b h

theorem valEq_eq{a b:Value}(h:valEq a b=true):a=b:=vEq_eq 4 a b h

end Go.AE

/- The evaluator: the states of the plan of a drawn region, and the slots behind a part of it. -/
namespace Go.AE
open Go

section
variable (E:Env)(call:Tgt→List Value→ASt→Nd (Value×ASt))(n base:Nat)(ops:Array Oper)(an:List Nat)(ex:Nat→Bool)

inductive PS (i m:Nat) (o:Oper) (s s':PSt) (v:Value):Prop
 | off:wantedA ops s.T o=false→v=undef→s'.H=s.H→s'.fl=s.fl→s'.louds=s.louds→s'.hist=s.hist→s'.reads=s.reads→PS i m o s s' v
 | fresh (ob:AObj) (f:Nat→Value):wantedA ops s.T o=true→aFresh E o.op s.T=some (ob,f)→v=f (base+i)→s'.H=s.H→s'.fl=⟨i,ob⟩::s.fl→s'.louds=s.louds→s'.hist=s.hist→s'.reads=s.reads→PS i m o s s' v
 | still (A':ASt):wantedA ops s.T o=true→quietOp E o.op=true→aOp E o.op s.T { heap:=.e,next:=0 }=.val v A'→s'.H=s.H→s'.fl=s.fl→s'.louds=s.louds→s'.hist=s.hist→s'.reads=s.reads→PS i m o s s' v
 | read:wantedA ops s.T o=true→quietOp E o.op=true→s'.H=s.H→s'.fl=s.fl→s'.louds=s.louds→s'.hist=s.hist→s'.reads=⟨i,o.op,s.T,v⟩::s.reads→PS i m o s s' v
 | loud (H':ASt):wantedA ops s.T o=true→(∀ j,s.louds.testBit j=true→m.testBit j=true)→oneOp E call o s.T (viewAt base an s.louds m s.fl s.H)=.ret (v,H')→s'.H=H'→s'.fl=s.fl→
   s'.louds=s.louds ||| 2 ^ i→s'.hist=(s'.louds,s'.H)::s.hist→s'.reads=s.reads→PS i m o s s' v
 | loudN:ex i=true→(∀ j,s.louds.testBit j=true→m.testBit j=true)→s'.fl=s.fl→s'.louds=s.louds ||| 2 ^ i→s'.hist=(s'.louds,s'.H)::s.hist→s'.reads=s.reads→PS i m o s s' v

theorem planStep_ps{i:Nat}{o:Oper}{s s':PSt}(h:planStep E call n base ops an i o s=some s'):
  ∃ m v,nth an i=some m∧putN n s.T o.dst v=some s'.T∧PS E call base ops an ex i m o s s' v:=by
 unfold planStep at h
 split at h
 ·cases h
 ·rename_i m hm
  cases hw:wantedA ops s.T o with
  | false=>
   rw [hw,cond_false] at h
   split at h
   ·rename_i T' hT
    cases h
    exact ⟨m,undef,hm,hT,.off hw rfl rfl rfl rfl rfl rfl⟩
   ·cases h
  | true=>
   rw [hw,cond_true] at h
   cases hf:freshOp E o.op with
   | true=>
    rw [hf,cond_true] at h
    split at h
    ·rename_i ob f ha
     split at h
     ·rename_i T' hT
      cases h
      exact ⟨m,_,hm,hT,.fresh ob f hw ha rfl rfl rfl rfl rfl rfl⟩
     ·cases h
    ·cases h
   | false=>
    rw [hf,cond_false] at h
    cases hq:quietOp E o.op with
    | true=>
     rw [hq,cond_true] at h
     split at h
     ·rename_i v A' hv
      split at h
      ·rename_i T' hT
       cases h
       exact ⟨m,v,hm,hT,.still A' hw hq hv rfl rfl rfl rfl rfl⟩
      ·cases h
     ·split at h
      ·rename_i v A' hv
       split at h
       ·rename_i T' hT
        cases h
        exact ⟨m,v,hm,hT,.read hw hq rfl rfl rfl rfl rfl⟩
       ·cases h
      ·cases h
    | false=>
     rw [hq,cond_false] at h
     cases hb:Nat.beq (m &&& s.louds) s.louds with
     | false=>rw [hb] at h;cases h
     | true=>
      rw [hb,cond_true] at h
      have hb':=Nat.eq_of_beq_eq_true hb
      split at h
      ·rename_i v H' hr
       split at h
       ·rename_i T' hT
        cases h
        refine ⟨m,v,hm,hT,.loud H' hw (fun j hj=>?_) hr rfl rfl rfl rfl rfl⟩
        rw [← hb',Nat.testBit_and,Bool.and_eq_true] at hj
        exact hj.1
       ·cases h
      ·cases h

structure Plan(S:Nat→PSt)(val:Nat→Value)(p:Nat):Prop where
 le:p≤ops.size
 step:∀ i o,i<p→ops[i]? = some o→∃ m,nth an i=some m∧putN n (S i).T o.dst (val i)=some (S (i+1)).T∧PS E call base ops an ex i m o (S i) (S (i+1)) (val i)
 louds0:(S 0).louds=0
 fl0:(S 0).fl=[]
 hist0:(S 0).hist=[((S 0).louds,(S 0).H)]

variable {E call n base ops an ex}
variable {S:Nat→PSt}{val:Nat→Value}{p:Nat}

theorem Plan.at_(hp:Plan E call n base ops an ex S val p){i:Nat}(hi:i<p):∃ o m,ops[i]? = some o∧nth an i=some m∧putN n (S i).T o.dst (val i)=some (S (i+1)).T∧PS E call base ops an ex i m o (S i) (S (i+1)) (val i):=by
 have hlt:i<ops.size:=Nat.lt_of_lt_of_le hi hp.le
 obtain ⟨m,h⟩:=hp.step i ops[i] hi (by simp [hlt])
 exact ⟨ops[i],m,by simp [hlt],h⟩

theorem Plan.small(hp:Plan E call n base ops an ex S val p){i:Nat}(hi:i<p):(((S (i+1)).louds=(S i).louds∧(S (i+1)).H=(S i).H∧(S (i+1)).hist=(S i).hist)∨((S (i+1)).louds=(S i).louds ||| 2 ^ i∧(S (i+1)).hist=((S (i+1)).louds,(S (i+1)).H)::(S i).hist))∧
  ((S (i+1)).fl=(S i).fl∨∃ ob,(S (i+1)).fl=⟨i,ob⟩::(S i).fl)∧((S (i+1)).reads=(S i).reads∨∃ r,(S (i+1)).reads=r::(S i).reads):=by
 obtain ⟨o,m,_,_,_,h⟩:=hp.at_ hi
 cases h with
 | off _ _ a b c d e=>exact ⟨.inl ⟨c,a,d⟩,.inl b,.inl e⟩
 | fresh ob f _ _ _ a b c d e=>exact ⟨.inl ⟨c,a,d⟩,.inr ⟨_,b⟩,.inl e⟩
 | still _ _ _ _ a b c d e=>exact ⟨.inl ⟨c,a,d⟩,.inl b,.inl e⟩
 | read _ _ a b c d e=>exact ⟨.inl ⟨c,a,d⟩,.inl b,.inr ⟨_,e⟩⟩
 | loud H' _ _ _ a b c d e=>exact ⟨.inr ⟨c,d⟩,.inl b,.inl e⟩
 | loudN _ _ b c d e=>exact ⟨.inr ⟨c,d⟩,.inl b,.inl e⟩

theorem Plan.louds_lt(hp:Plan E call n base ops an ex S val p):∀ {q j:Nat},q≤p→(S q).louds.testBit j=true→j<q
 | 0,j,_,h=>by rw [hp.louds0] at h;simp at h
 | q+1,j,hq,h=>by
  rcases (hp.small (i:=q) (by omega)).1 with ⟨h1,_⟩ | ⟨h1,_⟩
  ·rw [h1] at h;have:=hp.louds_lt (by omega) h;omega
  ·rw [h1,Nat.testBit_or,Nat.testBit_two_pow,Bool.or_eq_true_iff] at h
   rcases h with h | h
   ·have:=hp.louds_lt (by omega) h;omega
   ·have:q=j:=by simpa using h
    omega

theorem Plan.louds_keep(hp:Plan E call n base ops an ex S val p){q:Nat}:∀ {d j:Nat},q+d≤p→j<q→(S (q+d)).louds.testBit j=(S q).louds.testBit j
 | 0,j,_,_=>rfl
 | d+1,j,hq,hj=>by
  rw [← hp.louds_keep (d:=d) (by omega) hj]
  rcases (hp.small (i:=q+d) (by omega)).1 with ⟨h1,_⟩ | ⟨h1,_⟩
  ·rw [← Nat.add_assoc,h1]
  ·rw [← Nat.add_assoc,h1,Nat.testBit_or,Nat.testBit_two_pow]
   have:¬ q+d=j:=by omega
   simp [this]

theorem Plan.louds_iff(hp:Plan E call n base ops an ex S val p){q j:Nat}(hq:q≤p):(S q).louds.testBit j=true↔j<q∧(S p).louds.testBit j=true:=by
 obtain ⟨d,hd⟩:=Nat.exists_eq_add_of_le hq
 constructor
 ·intro h
  have:=hp.louds_lt hq h
  refine ⟨this,?_⟩
  rw [hd,hp.louds_keep (by omega) this];exact h
 ·rintro ⟨h1,h2⟩
  rw [hd,hp.louds_keep (by omega) h1] at h2;exact h2

theorem Plan.fl_lt(hp:Plan E call n base ops an ex S val p):∀ {q f:Nat},q≤p→q≤f→flGet (S q).fl f=none
 | 0,f,_,_=>by rw [hp.fl0];rfl
 | q+1,f,hq,hf=>by
  rcases (hp.small (i:=q) (by omega)).2.1 with h1 | ⟨ob,h1⟩
  ·rw [h1];exact hp.fl_lt (by omega) (by omega)
  ·rw [h1];unfold flGet;rw [if_neg (by simp only [];omega)];exact hp.fl_lt (by omega) (by omega)

theorem Plan.fl_keep(hp:Plan E call n base ops an ex S val p){q:Nat}:∀ {d f:Nat},q+d≤p→f<q→flGet (S (q+d)).fl f=flGet (S q).fl f
 | 0,f,_,_=>rfl
 | d+1,f,hq,hf=>by
  rw [← hp.fl_keep (d:=d) (by omega) hf]
  rcases (hp.small (i:=q+d) (by omega)).2.1 with h1 | ⟨ob,h1⟩
  ·rw [← Nat.add_assoc,h1]
  ·rw [← Nat.add_assoc,h1];conv=>lhs;unfold flGet
   rw [if_neg (by simp only [];omega)]

theorem Plan.fl_at(hp:Plan E call n base ops an ex S val p){q f:Nat}(hq:q≤p)(hf:f<q):flGet (S q).fl f=flGet (S p).fl f:=by
 obtain ⟨d,hd⟩:=Nat.exists_eq_add_of_le hq
 rw [hd,hp.fl_keep (by omega) hf]

theorem Plan.hist_self(hp:Plan E call n base ops an ex S val p):∀ {q:Nat},q≤p→((S q).louds,(S q).H)∈(S q).hist
 | 0,_=>by rw [hp.hist0];simp
 | q+1,hq=>by
  rcases (hp.small (i:=q) (by omega)).1 with ⟨h1,h2,h3⟩ | ⟨h1,h2⟩
  ·rw [h1,h2,h3];exact hp.hist_self (by omega)
  ·rw [h2];simp

theorem Plan.hist_keep(hp:Plan E call n base ops an ex S val p){q:Nat}:∀ {d:Nat} {x:Nat×ASt},q+d≤p→x∈(S q).hist→x∈(S (q+d)).hist
 | 0,x,_,h=>h
 | d+1,x,hq,h=>by
  have:=hp.hist_keep (d:=d) (by omega) h
  rcases (hp.small (i:=q+d) (by omega)).1 with ⟨_,_,h3⟩ | ⟨_,h2⟩
  ·rw [← Nat.add_assoc,h3];exact this
  ·rw [← Nat.add_assoc,h2];exact List.mem_cons_of_mem _ this

theorem Plan.hist_at(hp:Plan E call n base ops an ex S val p){q:Nat}(hq:q≤p):((S q).louds,(S q).H)∈(S p).hist:=by
 obtain ⟨d,hd⟩:=Nat.exists_eq_add_of_le hq
 have:=hp.hist_keep (q:=q) (d:=d) (by omega) (hp.hist_self hq)
 rwa [← hd] at this

theorem Plan.reads_keep(hp:Plan E call n base ops an ex S val p){q:Nat}:∀ {d:Nat} {x:Rd},q+d≤p→x∈(S q).reads→x∈(S (q+d)).reads
 | 0,x,_,h=>h
 | d+1,x,hq,h=>by
  have:=hp.reads_keep (d:=d) (by omega) h
  rcases (hp.small (i:=q+d) (by omega)).2.2 with h3 | ⟨_,h2⟩
  ·rw [← Nat.add_assoc,h3];exact this
  ·rw [← Nat.add_assoc,h2];exact List.mem_cons_of_mem _ this

theorem Plan.reads_at(hp:Plan E call n base ops an ex S val p){q:Nat}(hq:q≤p){x:Rd}(h:x∈(S q).reads):x∈(S p).reads:=by
 obtain ⟨d,hd⟩:=Nat.exists_eq_add_of_le hq
 have:=hp.reads_keep (q:=q) (d:=d) (by omega) h
 rwa [← hd] at this

theorem Plan.stage(hp:Plan E call n base ops an ex S val p){q:Nat}:∀ {d:Nat},q+d≤p→(∀ j,q≤j→j<q+d→(S p).louds.testBit j=false)→(S (q+d)).H=(S q).H∧(S (q+d)).louds=(S q).louds
 | 0,_,_=>⟨rfl,rfl⟩
 | d+1,hq,h=>by
  obtain ⟨e1,e2⟩:=hp.stage (d:=d) (by omega) (fun j h1 h2=>h j h1 (by omega))
  rcases (hp.small (i:=q+d) (by omega)).1 with ⟨h1,h2,_⟩ | ⟨h1,_⟩
  ·exact ⟨by rw [← Nat.add_assoc,h2,e1],by rw [← Nat.add_assoc,h1,e2]⟩
  ·have:(S (q+d+1)).louds.testBit (q+d)=true:=by rw [h1,Nat.testBit_or,Nat.testBit_two_pow];simp
   rw [hp.louds_iff (by omega)] at this
   rw [h (q+d) (by omega) (by omega)] at this
   cases this.2

theorem Plan.stages(hp:Plan E call n base ops an ex S val p){q q':Nat}(hq:q≤p)(hq':q'≤p)(h:∀ j,(S p).louds.testBit j=true→(j<q↔j<q')):(S q).H=(S q').H∧(S q).louds=(S q').louds:=by
 have go:∀ {a b:Nat},a≤b→b≤p→(∀ j,(S p).louds.testBit j=true→(j<a↔j<b))→(S b).H=(S a).H∧(S b).louds=(S a).louds:=by
  intro a b hab hb hh
  obtain ⟨d,rfl⟩:=Nat.exists_eq_add_of_le hab
  refine hp.stage hb fun j h1 h2=>?_
  cases hj:(S p).louds.testBit j with
  | false=>rfl
  | true=>have:=hh j hj;omega
 rcases Nat.le_total q q' with hle | hle
 ·have:=go hle hq' h;exact ⟨this.1.symm,this.2.symm⟩
 ·exact go hle hq fun j hj=>(h j hj).symm

theorem Plan.snoc(hp:Plan E call n base ops an ex S val p){ex':Nat→Bool}(hex:∀ j,ex j=true→ex' j=true){o:Oper}(ho:ops[p]? = some o){m:Nat}{v:Value}{s':PSt}(hm:nth an p=some m)(hput:putN n (S p).T o.dst v=some s'.T)(hps:PS E call base ops an ex' p m o (S p) s' v):
  Plan E call n base ops an ex' (fun x=>if x≤p then S x else s') (fun x=>if x=p then v else val x) (p+1):=by
 have mono:∀ {i m:Nat} {o:Oper} {s s':PSt} {v:Value},PS E call base ops an ex i m o s s' v→PS E call base ops an ex' i m o s s' v:=by
  intro i m o s s' v h
  cases h with
  | off a b c d e f g=>exact .off a b c d e f g
  | fresh ob f a b c d e g h i=>exact .fresh ob f a b c d e g h i
  | still A' a b c d e f g h=>exact .still A' a b c d e f g h
  | read a b c d e f g=>exact .read a b c d e f g
  | loud H' a b c d e f g h=>exact .loud H' a b c d e f g h
  | loudN a b c d e f=>exact .loudN (hex _ a) b c d e f
 refine ⟨(Array.getElem?_eq_some_iff.1 ho).1,fun i x hi hx=>?_,?_,?_,?_⟩
 ·by_cases e:i=p
  ·subst e
   rw [ho] at hx;cases hx
   refine ⟨m,hm,?_,?_⟩
   ·rw [if_pos (Nat.le_refl _),if_pos rfl,if_neg (by omega)];exact hput
   ·simp only [Nat.le_refl,if_true]
    rw [if_neg (by omega)]
    exact hps
  ·have hlt:i<p:=by omega
   obtain ⟨m',h1,h2,h3⟩:=hp.step i x hlt hx
   refine ⟨m',h1,?_,?_⟩
   ·rw [if_pos (by omega),if_neg e,if_pos (by omega)];exact h2
   ·simp only [e,if_false]
    rw [if_pos (by omega),if_pos (by omega)]
    exact mono h3
 ·simp only [Nat.zero_le,if_true];exact hp.louds0
 ·simp only [Nat.zero_le,if_true];exact hp.fl0
 ·simp only [Nat.zero_le,if_true];exact hp.hist0

inductive NextOp (E:Env) (call:Tgt→List Value→ASt→Nd (Value×ASt)) (n base:Nat) (ops:Array Oper) (an:List Nat) (Q:PSt→Prop) (s:PSt) (p:Nat):Prop
 | fin:p=ops.size→Q s→NextOp E call n base ops an Q s p
 | many (o:Oper) (m:Nat):ops[p]? = some o→nth an p=some m→wantedA ops s.T o=true→(∀ j,s.louds.testBit j=true→m.testBit j=true)→allBehind p (an.drop (p+1))=true→readsOK E base an s s.reads=true→
   (oneOp E call o s.T (viewAt base an s.louds m s.fl s.H)).all (fun r=>∃ T',putN n s.T o.dst r.1=some T'∧(planN E call n base ops an (p+1) (ops.toList.drop (p+1)) { T:=T',H:=r.2,fl:=s.fl,louds:=s.louds ||| 2 ^ p,hist:=(s.louds ||| 2 ^ p,r.2)::s.hist,reads:=s.reads }).all Q)→
   NextOp E call n base ops an Q s p

theorem planN_run{Q:PSt→Prop}:∀ (l:List Oper) (p:Nat) (S:Nat→PSt) (val:Nat→Value),Plan E call n base ops an ex S val p→ops.toList.drop p=l→(planN E call n base ops an p l (S p)).all Q→
  ∃ p' S' val',Plan E call n base ops an ex S' val' p'∧p≤p'∧(∀ x,x≤p→S' x=S x)∧(∀ x,x<p→val' x=val x)∧NextOp E call n base ops an Q (S' p') p'
 | [],p,S,val,hp,hl,h=>by
  refine ⟨p,S,val,hp,Nat.le_refl _,fun _ _=>rfl,fun _ _=>rfl,.fin ?_ h⟩
  have:=List.drop_eq_nil_iff.1 hl
  simp at this
  exact Nat.le_antisymm hp.le this
 | o::l,p,S,val,hp,hl,h=>by
  have ho:ops[p]? = some o:=by
   have:(ops.toList.drop p)[0]? = some o:=by rw [hl];rfl
   rw [List.getElem?_drop] at this
   simpa using this
  have hl':ops.toList.drop (p+1)=l:=by
   have:(ops.toList.drop p).drop 1=l:=by rw [hl];rfl
   rwa [List.drop_drop] at this
  unfold planN at h
  split at h
  ·rename_i s' hs
   obtain ⟨m,v,h1,h2,h3⟩:=planStep_ps E call n base ops an ex hs
   have hp':=hp.snoc (fun _ h=>h) ho h1 h2 h3
   obtain ⟨p',S',val',k1,k2,k3,k4,k5⟩:=planN_run (Q:=Q) l (p+1) _ _ hp' hl' (by rw [if_neg (by omega)];exact h)
   refine ⟨p',S',val',k1,by omega,fun x hx=>?_,fun x hx=>?_,k5⟩
   ·rw [k3 x (by omega)];exact if_pos hx
   ·rw [k4 x (by omega)];exact if_neg (by omega)
  ·split at h
   ·rename_i m hm
    cases hc:(wantedA ops (S p).T o && (!freshOp E o.op && (!quietOp E o.op && (Nat.beq (m &&& (S p).louds) (S p).louds && (allBehind p (an.drop (p+1)) && readsOK E base an (S p) (S p).reads))))) with
    | false=>rw [hc] at h;exact h.elim
    | true=>
     rw [hc,cond_true] at h
     simp only [Bool.and_eq_true] at hc
     obtain ⟨c1,_,_,c2,c3,c4⟩:=hc
     have hb':=Nat.eq_of_beq_eq_true c2
     refine ⟨p,S,val,hp,Nat.le_refl _,fun _ _=>rfl,fun _ _=>rfl,.many o m ho hm c1 (fun j hj=>?_) c3 c4 (Nd.all_mono (fun r hr=>?_) (Nd.all_bind _ h))⟩
     ·rw [← hb',Nat.testBit_and,Bool.and_eq_true] at hj
      exact hj.1
     ·split at hr
      ·rename_i T' hT
       exact ⟨T',hT,by rw [hl'];exact hr⟩
      ·exact hr.elim
   ·exact h.elim

end

/-! ### slots -/
noncomputable def dstAt(ops:Array Oper)(i:Nat):Option Tmp:=(ops[i]?).bind (·.dst)

noncomputable def sv(ops:Array Oper)(val:Nat→Value)(T0:Tmps)(D:Nat→Bool):Nat→Nat→Value
 | 0,t=>tget T0 t
 | i+1,t=>if D i=true∧dstAt ops i=some t then val i else sv ops val T0 D i t

theorem sv_succ(ops:Array Oper)(val:Nat→Value)(T0:Tmps)(D:Nat→Bool)(i t:Nat):sv ops val T0 D (i+1) t=if D i=true∧dstAt ops i=some t then val i else sv ops val T0 D i t:=rfl

theorem tget_put{T:Tmps}{d:Tmp}{v:Value}(t:Tmp):tget (T.put d (some v)) t=if t=d then v else tget T t:=by
 unfold tget
 rw [Tr.get_put]
 by_cases e:t=d
 ·simp [e]
 ·simp [e]

theorem putN_get{n:Nat}{T T':Tmps}{dst:Option Tmp}{v:Value}(h:putN n T dst v=some T')(t:Tmp):tget T' t=if dst=some t then v else tget T t:=by
 cases dst with
 | none=>simp [putN] at h;subst h;simp
 | some d=>
  simp only [putN] at h
  cases hb:Nat.blt d n with
  | false=>rw [hb] at h;cases h
  | true=>
   rw [hb,cond_true,Tr.putC_eq] at h
   cases h
   rw [tget_put]
   by_cases e:t=d
   ·subst e;simp
   ·rw [if_neg e,if_neg (by intro h;cases h;exact e rfl)]

section
variable {E:Env}{call:Tgt→List Value→ASt→Nd (Value×ASt)}{n base:Nat}{ops:Array Oper}{an:List Nat}{S:Nat→PSt}{val:Nat→Value}{ex:Nat→Bool}{p:Nat}

theorem Plan.sv_all(hp:Plan E call n base ops an ex S val p):∀ {i:Nat},i≤p→∀ t,tget (S i).T t=sv ops val (S 0).T (fun _=>true) i t
 | 0,_,t=>rfl
 | i+1,hi,t=>by
  obtain ⟨o,m,ho,_,hput,_⟩:=hp.at_ (i:=i) (by omega)
  rw [putN_get hput t,Plan.sv_all hp (by omega) t]
  simp [sv,dstAt,ho]

noncomputable def SlotOK(ops:Array Oper)(an:List Nat)(i t:Nat):Prop:=∀ k,dstAt ops k=some t→k=i∨(k<i∧Anc an i k)∨(i<k∧Anc an k i)

theorem sv_look{D:Nat→Bool}{T0:Tmps}{i t:Nat}(hs:SlotOK ops an i t)(hDi:D i=false)(hanc:∀ j,Anc an i j→D j=true)(hcl:∀ j,D j=true→∀ k,Anc an j k→D k=true){N:Nat}(hN:i≤N):
  sv ops val T0 D N t=sv ops val T0 (fun _=>true) i t:=by
 have low:∀ k,k≤i→sv ops val T0 D k t=sv ops val T0 (fun _=>true) k t:=by
  intro k
  induction k with
  | zero=>intro _;rfl
  | succ k ih=>
   intro hk
   rw [sv_succ,sv_succ]
   rw [ih (by omega)]
   by_cases hd:dstAt ops k=some t
   ·have:D k=true:=by
     rcases hs k hd with h | ⟨_,h⟩ | ⟨h,_⟩
     ·omega
     ·exact hanc k h
     ·omega
    simp [hd,this]
   ·simp [hd]
 have high:∀ d,sv ops val T0 D (i+d) t=sv ops val T0 D i t:=by
  intro d
  induction d with
  | zero=>rfl
  | succ d ih=>
   rw [← Nat.add_assoc]
   rw [sv_succ]
   rw [if_neg,ih]
   ·rintro ⟨hD,hd⟩
    rcases hs _ hd with h | ⟨h,_⟩ | ⟨_,h⟩
    ·rw [h] at hD;rw [hD] at hDi;cases hDi
    ·omega
    ·have:=hcl _ hD _ h
     rw [this] at hDi;cases hDi
 obtain ⟨d,rfl⟩:=Nat.exists_eq_add_of_le hN
 rw [high d,low i (Nat.le_refl _)]

theorem sv_upd{D:Nat→Bool}{T0:Tmps}{i:Nat}(hDi:D i=false)(hcl:∀ j,D j=true→∀ k,Anc an j k→D k=true)(hs:∀ t,dstAt ops i=some t→SlotOK ops an i t){N:Nat}(hN:i<N)(t:Nat):
  sv ops val T0 (fun j=>D j || j == i) N t=if dstAt ops i=some t then val i else sv ops val T0 D N t:=by
 have low:∀ k,k≤i→sv ops val T0 (fun j=>D j || j == i) k t=sv ops val T0 D k t:=by
  intro k
  induction k with
  | zero=>intro _;rfl
  | succ k ih=>
   intro hk
   rw [sv_succ,sv_succ]
   rw [ih (by omega)]
   have:(k == i)=false:=by simp;omega
   simp [this]
 have mid:sv ops val T0 (fun j=>D j || j == i) (i+1) t=if dstAt ops i=some t then val i else sv ops val T0 D i t:=by
  rw [sv_succ]
  rw [low i (Nat.le_refl _)]
  simp
 have mid':sv ops val T0 D (i+1) t=sv ops val T0 D i t:=by
  rw [sv_succ]
  rw [if_neg (by rw [hDi];simp)]
 have high:∀ d,sv ops val T0 (fun j=>D j || j == i) (i+1+d) t=if dstAt ops i=some t then val i else sv ops val T0 D (i+1+d) t:=by
  intro d
  induction d with
  | zero=>rw [Nat.add_zero,mid,mid']
  | succ d ih=>
   rw [← Nat.add_assoc]
   rw [sv_succ]
   have hne:(i+1+d == i)=false:=by simp;omega
   rw [ih]
   simp only [hne,Bool.or_false]
   by_cases hi:dstAt ops i=some t
   ·rw [if_pos hi,if_pos hi]
    rw [if_neg]
    rintro ⟨hD,hd⟩
    rcases hs t hi _ hd with h | ⟨h,_⟩ | ⟨_,h⟩
    ·omega
    ·omega
    ·have:=hcl _ hD _ h
     rw [this] at hDi;cases hDi
   ·rw [if_neg hi,if_neg hi]
    rfl
 obtain ⟨d,rfl⟩:=Nat.exists_eq_add_of_le (Nat.succ_le_of_lt hN)
 exact high d
end

end Go.AE

/- The evaluator: a region whose order is drawn does what its plan says. -/
namespace Go.AE
open Go

theorem Step.bump{ρ:Ren}{A:ASt}{w:World}(h:Rep ρ A w)(k:Nat):Step ρ A w ρ { A with next:=A.next+k } w:=
 ⟨⟨⟨h.obj,h.apart,fun b hb=>h.fresh b (by simp only [] at hb;omega)⟩,.refl _,by simp,Nat.le_refl _,rfl,rfl,rfl,Nat.le_refl _,fun _ c _ _ h=>⟨c,h,rfl,fun _ _=>rfl⟩,fun _ _ h _ _=>h,fun _ _ _ h=>h⟩,fun _ _=>rfl,fun _ _ h=>h⟩

theorem Step.trans0{ρ ρ₁ ρ₂:Ren}{A A₁ A₂:ASt}{w w₁ w₂:World}(h:Step ρ A w ρ₁ A₁ w₁)(k:Step0 ρ₁ A₁ w₁ ρ₂ A₂ w₂)(hk:∀ b,b<A.next→ρ₂ b=ρ₁ b)(hd:∀ b,b<A.next→A₁.get b=none→A₂.get b=none):Step ρ A w ρ₂ A₂ w₂:=
 ⟨h.toStep0.trans k,fun b hb=>(hk b hb).trans (h.keep b hb),fun b hb hn=>hd b hb (h.dom b hb hn)⟩

theorem TRel.congr{ρ:Ren}{T T':Tmps}{a:Act}(h:TRel ρ T a)(e:∀ t,tget T' t=tget T t):TRel ρ T' a:=⟨fun t=>by rw [e];exact h.at_ t⟩

theorem putN_ok{n:Nat}{T T1:Tmps}{dst:Option Tmp}{v:Value}(h:putN n T dst v=some T1)(T':Tmps):∃ T2,putN n T' dst v=some T2:=by
 cases dst with
 | none=>exact ⟨T',rfl⟩
 | some d=>
  simp only [putN] at h ⊢
  cases hb:Nat.blt d n with
  | false=>rw [hb] at h;cases h
  | true=>exact ⟨_,by rw [cond_true,Tr.putC_eq]⟩

theorem wantedA_congr{ops:Array Oper}{T T':Tmps}{o:Oper}(h:∀ t∈looks ops o,tget T t=tget T' t):wantedA ops T o=wantedA ops T' o:=by
 unfold wantedA
 unfold looks at h
 cases hg:o.guard with
 | none=>rfl
 | some gw=>
  obtain ⟨j,want⟩:=gw
  rw [hg] at h
  simp only [] at h ⊢
  cases hn:nth ops.toList j with
  | none=>rfl
  | some g=>
   rw [hn] at h
   simp only [] at h ⊢
   cases hd:g.dst with
   | none=>rfl
   | some d=>
    rw [hd] at h
    simp only [] at h ⊢
    rw [h d (by simp)]

theorem oneOp_quiet{E:Env}{call:Tgt→List Value→ASt→Nd (Value×ASt)}{o:Oper}{T:Tmps}{A A':ASt}{v:Value}(hq:quietOp E o.op=true)(h:aOp E o.op T A=.val v A'):oneOp E call o T A=.ret (v,A'):=by
 unfold oneOp
 split
 ·rename_i it s hop
  rw [hop] at hq;simp [quietOp] at hq
 ·rw [h]

theorem quiet_run{E:Env}{o:Op}(hq:quietOp E o=true){T:Tmps}{A A':ASt}{v:Value}(h:aOp E o T A=.val v A')(n:Nat):aOp E o T { heap:=A.heap,next:=n }=.val v { heap:=A.heap,next:=n }:=by
 obtain ⟨r,why,hr⟩:=quiet_spec hq T A.heap
 have h1:=hr A.next
 have e:({ heap:=A.heap,next:=A.next }:ASt)=A:=rfl
 rw [e,h] at h1
 rw [hr n]
 cases r with
 | none=>cases h1
 | some u=>cases h1;rfl

theorem readsOK_spec{E:Env}{base:Nat}{an:List Nat}{s:PSt}:∀ {l:List Rd},readsOK E base an s l=true→∀ r∈l,∃ m,nth an r.i=some m∧readAt E base an s.fl m (behind r.i 0 an) s.louds r s.hist=true
 | [],_,r,hr=>by simp at hr
 | x::l,h,r,hr=>by
  unfold readsOK at h
  rw [Bool.and_eq_true] at h
  rcases List.mem_cons.1 hr with rfl | hr
  ·have h1:=h.1
   cases hm:nth an r.i with
   | none=>rw [hm] at h1;cases h1
   | some m=>rw [hm] at h1;exact ⟨m,rfl,h1⟩
  ·exact readsOK_spec h.2 r hr

theorem readAt_spec{E:Env}{base:Nat}{an:List Nat}{fl:List Fl}{m beh louds:Nat}{r:Rd}:∀ {l:List (Nat×ASt)},readAt E base an fl m beh louds r l=true→∀ mask H,(mask,H)∈l→(m &&& louds) &&& mask=m &&& louds→mask &&& beh=0→
  ∃ A',aOp E r.o r.T (viewAt base an mask m fl H)=.val r.v A'
 | [],_,mask,H,hr,_,_=>by simp at hr
 | x::l,h,mask,H,hr,h1,h2=>by
  obtain ⟨mk,Hx⟩:=x
  unfold readAt at h
  rw [Bool.and_eq_true] at h
  rcases List.mem_cons.1 hr with e | hr
  ·cases e
   have h3:=h.1
   have c1:Nat.beq ((m &&& louds) &&& mask) (m &&& louds)=true:=by rw [h1];exact Nat.beq_refl _
   have c2:Nat.beq (mask &&& beh) 0=true:=by rw [h2];rfl
   rw [c1,c2,Bool.and_self,cond_true] at h3
   split at h3
   ·rename_i v A' hv
    rw [← valEq_eq h3]
    exact ⟨A',hv⟩
   ·cases h3
  ·exact readAt_spec h.2 mask H hr h1 h2

section
variable {E:Env}{P:Program}{call:Tgt→List Value→ASt→Nd (Value×ASt)}{n base:Nat}{ops:Array Oper}{an:List Nat}{ex:Nat→Bool}{S:Nat→PSt}{val:Nat→Value}{p:Nat}{ds:List Deferred}

structure Inv(E:Env)(call:Tgt→List Value→ASt→Nd (Value×ASt))(n base:Nat)(ops:Array Oper)(an:List Nat)(S:Nat→PSt)(val:Nat→Value)(p:Nat)(ds:List Deferred)(ρ₀:Ren)(A₀:ASt)(w₀:World)(D:Nat→Bool)(q:Nat)(ρ:Ren)(T:Tmps)(a:Act)(w:World):Prop where
 le:q≤p
 lt:∀ j,D j=true→j<p
 stage:∀ j,(S p).louds.testBit j=true→(D j=true↔j<q)
 tm:∀ t,tget T t=sv ops val (S 0).T D p t
 rel:TRel ρ T a
 step:Step ρ₀ A₀ w₀ ρ (addFl base (fun f=>!takenAt (S q).louds f 0 an && D f) (S p).fl (S q).H) w
 free:∀ f,f<ops.size→D f=false→ρ (base+f)=none
 holes:∀ f,f<ops.size→takenAt (S q).louds f 0 an=false→(S q).H.get (base+f)=none
 room:base+ops.size≤(S q).H.next
 size:a.tmps.size=n
 defers:a.defers=ds
 cl:∀ j,D j=true→∀ k,Anc an j k→D k=true

variable {ρ₀:Ren}{A₀:ASt}{w₀:World}{D:Nat→Bool}{q:Nat}{ρ:Ren}{T:Tmps}{a:Act}{w:World}

theorem lt_upd{D:Nat→Bool}{p i:Nat}(h:∀ j,D j=true→j<p)(hi:i<p)(j:Nat)(hj:(D j || j == i)=true):j<p:=by
 simp only [Bool.or_eq_true,beq_iff_eq] at hj
 rcases hj with hj | rfl
 ·exact h j hj
 ·exact hi

theorem or_eq_true'{D:Nat→Bool}{i j:Nat}:((D j || j == i)=true)↔D j=true∨j=i:=by simp

theorem Inv.silent(hp:Plan E call n base ops an ex S val p)(h:Inv E call n base ops an S val p ds ρ₀ A₀ w₀ D q ρ T a w)(hbase:base=A₀.next){i:Nat}{o:Oper}(hi:i<p)(ho:ops[i]? = some o)(hDi:D i=false)(hanc:∀ j,Anc an i j→D j=true)(hslot:∀ t,dstAt ops i=some t→SlotOK ops an i t)
  (hl:(S (i+1)).louds=(S i).louds) (hfl:(S (i+1)).fl=(S i).fl) {ρ':Ren} {w':World} {v':Value} {T1:Tmps} (hput:putN n (S i).T o.dst (val i)=some T1)
  (hv:VRel ρ' (val i) v') (hst:Step ρ (addFl base (fun f=>!takenAt (S q).louds f 0 an && D f) (S p).fl (S q).H) w ρ' (addFl base (fun f=>!takenAt (S q).louds f 0 an && D f) (S p).fl (S q).H) w') :
  ∃ T',Inv E call n base ops an S val p ds ρ₀ A₀ w₀ (fun j=>D j || j == i) q ρ' T' (a.put o.dst v') w':=by
 obtain ⟨T',hT'⟩:=putN_ok hput T
 have hli:(S p).louds.testBit i=false:=by
  cases hb:(S p).louds.testBit i with
  | false=>rfl
  | true=>
   have:(S (i+1)).louds.testBit i=true:=(hp.louds_iff (by omega)).2 ⟨by omega,hb⟩
   rw [hl] at this
   have:=hp.louds_lt (by omega) this
   omega
 have hfi:flGet (S p).fl i=none:=by
  rw [← hp.fl_at (q:=i+1) (by omega) (by omega),hfl]
  exact hp.fl_lt (by omega) (Nat.le_refl _)
 refine ⟨T',h.le,lt_upd h.lt hi,fun j hj=>?_,fun t=>?_,putN_sound (h.rel.mono hst.ext) h.size hT' hv,(h.step.trans hst).congr (fun b=>?_) ?_,fun f hf hD=>?_,h.holes,h.room,by rw [size_put];exact h.size,by rw [defers_put];exact h.defers,fun j hj k hk=>?_⟩
 ·rw [or_eq_true',← h.stage j hj]
  constructor
  ·rintro (h1 | rfl)
   ·exact h1
   ·rw [hli] at hj;cases hj
  ·exact .inl
 ·rw [putN_get hT' t,sv_upd hDi h.cl hslot hi t]
  simp only [dstAt,ho,Option.bind_some]
  rw [h.tm t]
 ·rw [addFl_get,addFl_get]
  by_cases e:b-base=i
  ·rw [e,hfi]
   simp
  ·have:((b-base) == i)=false:=by simpa using e
   simp only [this,Bool.or_false]
 ·rw [addFl_next,addFl_next]
 ·simp only [Bool.or_eq_false_iff] at hD
  rw [hst.keep _ (by rw [addFl_next];have:=h.room;omega)]
  exact h.free f hf hD.1
 ·rw [or_eq_true'] at hj ⊢
  rcases hj with hj | rfl
  ·exact .inl (h.cl j hj k hk)
  ·exact .inl (hanc k hk)

theorem Inv.taken_anc(hp:Plan E call n base ops an ex S val p)(h:Inv E call n base ops an S val p ds ρ₀ A₀ w₀ D q ρ T a w){f:Nat}(hf:takenAt (S q).louds f 0 an=true):D f=true:=by
 rw [takenAt_anc] at hf
 obtain ⟨j,hj,hjf⟩:=hf
 rw [hp.louds_iff h.le] at hj
 exact h.cl j ((h.stage j hj.2).2 hj.1) f hjf

theorem Inv.view_sub(hp:Plan E call n base ops an ex S val p)(h:Inv E call n base ops an S val p ds ρ₀ A₀ w₀ D q ρ T a w){m:Nat}(hanc:∀ j,m.testBit j=true→D j=true)(b:Nat)(o:AObj)
  (hb:(viewAt base an (S q).louds m (S p).fl (S q).H).get b=some o):(addFl base (fun f=>!takenAt (S q).louds f 0 an && D f) (S p).fl (S q).H).get b=some o:=by
 unfold viewAt at hb
 rw [addFl_get] at hb ⊢
 by_cases hc:base≤b∧(!takenAt (S q).louds (b-base) 0 an && m.testBit (b-base))=true
 ·rw [if_pos hc] at hb
  rw [if_pos ⟨hc.1,by
   have:=hc.2
   rw [Bool.and_eq_true] at this ⊢
   exact ⟨this.1,hanc _ this.2⟩⟩]
  exact hb
 ·rw [if_neg hc] at hb
  by_cases hc2:base≤b∧(!takenAt (S q).louds (b-base) 0 an && D (b-base))=true
  ·rw [if_pos hc2]
   have h2:=hc2.2
   rw [Bool.and_eq_true,Bool.not_eq_true'] at h2
   cases hg:flGet (S p).fl (b-base) with
   | none=>exact hb
   | some x=>
    have hlt:b-base<p:=by
     rcases Nat.lt_or_ge (b-base) p with h' | h'
     ·exact h'
     ·rw [hp.fl_lt (Nat.le_refl _) h'] at hg;cases hg
    have:=h.holes _ (Nat.lt_of_lt_of_le hlt hp.le) h2.1
    rw [show base+(b-base)=b by omega,hb] at this
    cases this
  ·rw [if_neg hc2];exact hb

theorem sv_more{ops:Array Oper}{val:Nat→Value}{T0:Tmps}{D:Nat→Bool}{p:Nat}(h:∀ j,D j=true→j<p)(t:Nat):∀ d,sv ops val T0 D (p+d) t=sv ops val T0 D p t
 | 0=>rfl
 | d+1=>by
  rw [← Nat.add_assoc,sv_succ,if_neg,sv_more h t d]
  rintro ⟨hD,_⟩
  have:=h _ hD
  omega

theorem sv_val{ops:Array Oper}{val val':Nat→Value}{T0:Tmps}{D:Nat→Bool}(t:Nat):∀ {k:Nat},(∀ x,x<k→val' x=val x)→sv ops val' T0 D k t=sv ops val T0 D k t
 | 0,_=>rfl
 | k+1,h=>by
  rw [sv_succ,sv_succ,h k (by omega),sv_val t fun x hx=>h x (by omega)]

theorem Inv.extend(hp:Plan E call n base ops an ex S val p)(h:Inv E call n base ops an S val p ds ρ₀ A₀ w₀ D q ρ T a w){ex':Nat→Bool}{S':Nat→PSt}{val':Nat→Value}{p':Nat}(hp':Plan E call n base ops an ex' S' val' p')(hle:p≤p')(hS:∀ x,x≤p→S' x=S x)(hv:∀ x,x<p→val' x=val x):
  Inv E call n base ops an S' val' p' ds ρ₀ A₀ w₀ D q ρ T a w:=by
 obtain ⟨d,rfl⟩:=Nat.exists_eq_add_of_le hle
 have hq:=hS q h.le
 refine ⟨by have:=h.le;omega,fun j hj=>by have:=h.lt j hj;omega,fun j hj=>?_,fun t=>?_,h.rel,?_,h.free,fun f hf=>by rw [hq];exact h.holes f hf,by rw [hq];exact h.room,h.size,h.defers,h.cl⟩
 ·by_cases hjp:j<p
  ·rw [hp'.louds_keep (q:=p) (Nat.le_refl _) hjp,hS p (Nat.le_refl _)] at hj
   exact h.stage j hj
  ·constructor
   ·intro hD;exact absurd (h.lt j hD) hjp
   ·intro hjq;have:=h.le;omega
 ·rw [hS 0 (Nat.zero_le _),sv_more h.lt t d,sv_val t hv]
  exact h.tm t
 ·refine h.step.congr (fun b=>?_) ?_
  ·rw [hq,addFl_get,addFl_get]
   by_cases hc:base≤b∧(!takenAt (S q).louds (b-base) 0 an && D (b-base))=true
   ·rw [if_pos hc,if_pos hc]
    have h2:=hc.2
    rw [Bool.and_eq_true] at h2
    have hlt:=h.lt _ h2.2
    rw [hp'.fl_keep (q:=p) (Nat.le_refl _) hlt,hS p (Nat.le_refl _)]
   ·rw [if_neg hc,if_neg hc]
  ·rw [hq,addFl_next,addFl_next]

theorem frame_same{ρ ρ':Ren}{A G:ASt}{w w':World}(hR:Rep ρ A w)(hsub:∀ b o,G.get b=some o→A.get b=some o)(hn:G.next=A.next)(hs:Step ρ G w ρ' G w'):Step ρ A w ρ' A w':=
 Step.frame hR hsub hn hs (fun b=>by
  cases hg:G.get b with
  | none=>simp
  | some o=>simp [hsub b o hg]) hn.symm

end

end Go.AE

/- The evaluator: each step of a drawn region, and the whole. -/
namespace Go.AE
open Go

section
variable {E:Env}{P:Program}{call:Tgt→List Value→ASt→Nd (Value×ASt)}{n base:Nat}{ops:Array Oper}{an:List Nat}{ex:Nat→Bool}{S:Nat→PSt}{val:Nat→Value}{p:Nat}{ds:List Deferred}{rr:Option Nat}
variable {ρ₀:Ren}{A₀:ASt}{w₀:World}{D:Nat→Bool}{q:Nat}{ρ:Ren}{T:Tmps}{a:Act}{w:World}

theorem Inv.view_at(hp:Plan E call n base ops an ex S val p)(h:Inv E call n base ops an S val p ds ρ₀ A₀ w₀ D q ρ T a w){i m:Nat}(hi:i≤p)(hanc:∀ j,Anc an i j→D j=true)(hlow:∀ j,Anc an i j→j<i)(hm:nth an i=some m)(hst0:∀ j,(S p).louds.testBit j=true→(D j=true↔j<i)):
  (S q).H=(S i).H∧(S q).louds=(S i).louds∧(∀ b,(viewAt base an (S i).louds m (S i).fl (S i).H).get b=(viewAt base an (S i).louds m (S p).fl (S i).H).get b)∧
  (∀ b o',(viewAt base an (S i).louds m (S i).fl (S i).H).get b=some o'→(addFl base (fun f=>!takenAt (S q).louds f 0 an && D f) (S p).fl (S q).H).get b=some o')∧
  (viewAt base an (S i).louds m (S i).fl (S i).H).next=(addFl base (fun f=>!takenAt (S q).louds f 0 an && D f) (S p).fl (S q).H).next:=by
 have hancm:∀ j,m.testBit j=true→D j=true:=fun j hj=>hanc j ⟨m,hm,hj⟩
 obtain ⟨eH,eL⟩:=hp.stages h.le hi (fun j hj=>(h.stage j hj).symm.trans (hst0 j hj))
 have hview:∀ b,(viewAt base an (S i).louds m (S i).fl (S i).H).get b=(viewAt base an (S i).louds m (S p).fl (S i).H).get b:=by
  intro b
  unfold viewAt
  rw [addFl_get,addFl_get]
  by_cases hc:base≤b∧(!takenAt (S i).louds (b-base) 0 an && m.testBit (b-base))=true
  ·rw [if_pos hc,if_pos hc]
   have h2:=hc.2
   rw [Bool.and_eq_true] at h2
   rw [hp.fl_at hi (hlow _ ⟨m,hm,h2.2⟩)]
  ·rw [if_neg hc,if_neg hc]
 refine ⟨eH,eL,hview,fun b o' hb=>?_,?_⟩
 ·rw [hview,← eL,← eH] at hb
  exact h.view_sub hp hancm b o' hb
 ·unfold viewAt
  rw [addFl_next,addFl_next,eH]

theorem Inv.loud(hp:Plan E call n base ops an ex S val p)(h:Inv E call n base ops an S val p ds ρ₀ A₀ w₀ D q ρ T a w)(hbase:base=A₀.next){i:Nat}{o:Oper}{m:Nat}(hi:i<p)(ho:ops[i]? = some o)(hDi:D i=false)(hanc:∀ j,Anc an i j→D j=true)(hlow:∀ j,Anc an i j→j<i)(hm:nth an i=some m)
  (hst0:∀ j,(S p).louds.testBit j=true→(D j=true↔j<i)) (hdst:∀ t,dstAt ops i=some t→SlotOK ops an i t) {H':ASt} (hH:(S (i+1)).H=H') (hfl:(S (i+1)).fl=(S i).fl) (hl:(S (i+1)).louds=(S i).louds ||| 2 ^ i) {T1:Tmps} (hput:putN n (S i).T o.dst (val i)=some T1)
  {v':Value} {w':World} {ρ':Ren} (hvr:VRel ρ' (val i) v') (hst:Step ρ (viewAt base an (S i).louds m (S i).fl (S i).H) w ρ' H' w') :
  ∃ T',Inv E call n base ops an S val p ds ρ₀ A₀ w₀ (fun j=>D j || j == i) (i+1) ρ' T' (a.put o.dst v') w':=by
 have hR:=h.step.rep
 have hancm:∀ j,m.testBit j=true→D j=true:=fun j hj=>hanc j ⟨m,hm,hj⟩
 have hnext:(addFl base (fun f=>!takenAt (S q).louds f 0 an && D f) (S p).fl (S q).H).next=(S q).H.next:=addFl_next _ _ _ _
 obtain ⟨eH,eL⟩:=hp.stages h.le (Nat.le_of_lt hi) (fun j hj=>(h.stage j hj).symm.trans (hst0 j hj))
 have hholes:=h.holes
 have hroom:=h.room
 have hstep:=h.step
 rw [eL] at hholes
 rw [eH] at hholes hroom
 rw [eL,eH] at hstep hR hnext
 have hview:∀ b,(viewAt base an (S i).louds m (S i).fl (S i).H).get b=(viewAt base an (S i).louds m (S p).fl (S i).H).get b:=by
  intro b
  unfold viewAt
  rw [addFl_get,addFl_get]
  by_cases hc:base≤b∧(!takenAt (S i).louds (b-base) 0 an && m.testBit (b-base))=true
  ·rw [if_pos hc,if_pos hc]
   have h2:=hc.2
   rw [Bool.and_eq_true] at h2
   rw [hp.fl_at (by omega) (hlow _ ⟨m,hm,h2.2⟩)]
  ·rw [if_neg hc,if_neg hc]
 have hsub:∀ b o',(viewAt base an (S i).louds m (S i).fl (S i).H).get b=some o'→(addFl base (fun f=>!takenAt (S i).louds f 0 an && D f) (S p).fl (S i).H).get b=some o':=by
  intro b o' hb
  rw [hview,← eL,← eH] at hb
  rw [← eL,← eH]
  exact h.view_sub hp hancm b o' hb
 have hnx:(viewAt base an (S i).louds m (S i).fl (S i).H).next=(addFl base (fun f=>!takenAt (S i).louds f 0 an && D f) (S p).fl (S i).H).next:=by
  unfold viewAt
  rw [addFl_next,addFl_next]
 have hnx2:(viewAt base an (S i).louds m (S i).fl (S i).H).next=(S i).H.next:=by unfold viewAt;rw [addFl_next]
 have htk:∀ f,takenAt (S (i+1)).louds f 0 an=true↔takenAt (S i).louds f 0 an=true∨m.testBit f=true:=by
  intro f
  rw [takenAt_anc,takenAt_anc,hl]
  constructor
  ·rintro ⟨j,hj,hjf⟩
   rw [Nat.testBit_or,Nat.testBit_two_pow,Bool.or_eq_true_iff] at hj
   rcases hj with hj | hj
   ·exact .inl ⟨j,hj,hjf⟩
   ·have:i=j:=by simpa using hj
    subst this
    obtain ⟨m2,hm2,hf2⟩:=hjf
    rw [hm] at hm2;cases hm2
    exact .inr hf2
  ·rintro (⟨j,hj,hjf⟩ | hf)
   ·exact ⟨j,by rw [Nat.testBit_or,hj];rfl,hjf⟩
   ·exact ⟨i,by rw [Nat.testBit_or,Nat.testBit_two_pow];simp,m,hm,hf⟩
 have hfi:flGet (S p).fl i=none:=by
  rw [← hp.fl_at (q:=i+1) (by omega) (by omega),hfl]
  exact hp.fl_lt (by omega) (Nat.le_refl _)
 -- what the part's heap lacks, it lacks behind the step
 have hgone:∀ b,b<base+ops.size→(viewAt base an (S i).louds m (S i).fl (S i).H).get b=none→H'.get b=none:=fun b hb hn=>hst.dom b (by omega) hn
 have hfr:=Step.frame (A':=addFl base (fun f=>!takenAt (S (i+1)).louds f 0 an && (D f || f == i)) (S p).fl H') hR hsub hnx hst (fun b=>?_) (by rw [addFl_next])
 ·obtain ⟨T',hT'⟩:=putN_ok hput T
  refine ⟨T',by omega,lt_upd h.lt hi,fun j hj=>?_,fun t=>?_,putN_sound (h.rel.mono hst.ext) h.size hT' hvr,?_,fun f hf hD=>?_,fun f hf ht=>?_,?_,by rw [size_put];exact h.size,by rw [defers_put];exact h.defers,fun j hj k hk=>?_⟩
  ·rw [or_eq_true',hst0 j hj];omega
  ·rw [putN_get hT' t,sv_upd hDi h.cl hdst hi t]
   simp only [dstAt,ho,Option.bind_some]
   rw [h.tm t]
  ·rw [hH];exact hstep.trans hfr
  ·simp only [Bool.or_eq_false_iff] at hD
   rw [hst.keep _ (by omega)]
   exact h.free f hf hD.1
  ·rw [hH]
   have h1:takenAt (S i).louds f 0 an=false:=by
    cases hh2:takenAt (S i).louds f 0 an with
    | false=>rfl
    | true=>rw [(htk f).2 (.inl hh2)] at ht;cases ht
   have h2:m.testBit f=false:=by
    cases hh2:m.testBit f with
    | false=>rfl
    | true=>rw [(htk f).2 (.inr hh2)] at ht;cases ht
   refine hgone _ (by omega) ?_
   unfold viewAt
   rw [addFl_get,if_neg]
   ·exact hholes f hf h1
   ·rw [show base+f-base=f by omega,h2];simp
  ·rw [hH];have:=hst.next;omega
  ·rw [or_eq_true'] at hj ⊢
   rcases hj with hj | rfl
   ·exact .inl (h.cl j hj k hk)
   ·exact .inl (hanc k hk)
 ·rw [hview]
  have hg:=hgone b
  rw [hview] at hg
  unfold viewAt at hg ⊢
  rw [addFl_get] at hg ⊢
  rw [addFl_get,addFl_get]
  -- the block's number, told from the region's first
  by_cases hb:base≤b
  ·cases ht1:takenAt (S i).louds (b-base) 0 an with
   | true=>
    have ht2:=(htk (b-base)).2 (.inl ht1)
    simp only [ht2,hb,true_and,Bool.not_true,Bool.false_and,Bool.false_eq_true,if_false]
    cases hh1:H'.get b with
    | some x=>simp
    | none=>
     cases hh2:(S i).H.get b with
     | some y=>simp
     | none=>simp
   | false=>
    cases hmf:m.testBit (b-base) with
    | true=>
     have ht2:=(htk (b-base)).2 (.inr hmf)
     have hDf:=hancm _ hmf
     simp only [ht2,hb,hDf,true_and,Bool.not_true,Bool.not_false,Bool.false_and,Bool.and_self,Bool.false_eq_true,if_false,if_true]
     cases hh1:H'.get b with
     | some x=>simp
     | none=>
      cases hh2:flGet (S p).fl (b-base) with
      | some y=>simp
      | none=>
       cases hh3:(S i).H.get b with
       | some y=>simp
       | none=>simp
    | false=>
     have ht2:takenAt (S (i+1)).louds (b-base) 0 an=false:=by
      cases hh2:takenAt (S (i+1)).louds (b-base) 0 an with
      | false=>rfl
      | true=>
       rcases (htk _).1 hh2 with h1 | h1
       ·rw [h1] at ht1;cases ht1
       ·rw [h1] at hmf;cases hmf
     simp only [ht1,ht2,hb,hmf,true_and,Bool.not_false,Bool.and_false,Bool.true_and,Bool.false_eq_true,if_false] at hg ⊢
     cases hf:flGet (S p).fl (b-base) with
     | none=>
      cases hh1:H'.get b with
      | some x=>simp
      | none=>
       cases hh3:(S i).H.get b with
       | some y=>simp
       | none=>simp
     | some ob=>
      have hlt:b-base<ops.size:=by
       rcases Nat.lt_or_ge (b-base) p with h' | h'
       ·exact Nat.lt_of_lt_of_le h' hp.le
       ·rw [hp.fl_lt (Nat.le_refl _) h'] at hf;cases hf
      have hno:=hholes _ hlt ht1
      rw [show base+(b-base)=b by omega] at hno
      have hne:¬ b-base=i:=fun e=>by rw [e,hfi] at hf;cases hf
      have hnb:(b-base == i)=false:=by simpa using hne
      rw [hg (by omega) hno,hno]
      simp only [hnb,Bool.or_false]
      cases hDf:D (b-base)<;>simp
  ·simp only [hb,false_and,if_false]
   cases hh1:H'.get b with
   | some x=>simp
   | none=>
    cases hh3:(S i).H.get b with
    | some y=>simp
    | none=>simp



theorem step_sound{Z:Road}(hE:EnvOK E P)(hZr:RoadRo Z E)(hcall:CallSound Z P call)(hZ:Z.reach ρ₀ A₀ w₀)(hp:Plan E call n base ops an ex S val p)(hreads:readsOK E base an (S p) (S p).reads=true)
  (h:Inv E call n base ops an S val p ds ρ₀ A₀ w₀ D q ρ T a w) (hbase:base=A₀.next) (hexd:∀ j,ex j=true→D j=true) {i:Nat} (hi:i<p) (hDi:D i=false) (hanc:∀ j,Anc an i j→D j=true) (hlow:∀ j,Anc an i j→j<i)
  (hslot:∀ o,ops[i]? = some o→∀ t∈looks ops o++o.dst.toList,SlotOK ops an i t) {Qx:Exit→Act→World→Prop} {K:Act→World→Prop}
  (hK:∀ q' ρ' T' a' w',Inv E call n base ops an S val p ds ρ₀ A₀ w₀ (fun j=>D j || j == i) q' ρ' T' a' w'→K a' w'):wpOpIn (FR rr) 0 P ops Qx i K a w:=by
 obtain ⟨o,m,ho,hm,hput,hps⟩:=hp.at_ hi
 have hslot:=hslot o ho
 have hdst:∀ t,dstAt ops i=some t→SlotOK ops an i t:=fun t ht=>hslot t (by
  simp only [dstAt,ho,Option.bind_some] at ht
  simp [ht])
 have hlook:∀ t∈looks ops o,tget T t=tget (S i).T t:=fun t ht=>by
  rw [h.tm t,hp.sv_all (by omega) t]
  exact sv_look (hslot t (by simp [ht])) hDi hanc h.cl (by omega)
 have hopr:∀ t,Operand.tmp t∈o.op.operands.toList→tget T t=tget (S i).T t:=fun t ht=>hlook t (by
  unfold looks
  exact List.mem_append_left _ (tmpsOf_mem ht))
 have hR:=h.step.rep
 have hRz:=Z.step hZ h.step
 have hancm:∀ j,m.testBit j=true→D j=true:=fun j hj=>hanc j ⟨m,hm,hj⟩
 have hnext:(addFl base (fun f=>!takenAt (S q).louds f 0 an && D f) (S p).fl (S q).H).next=(S q).H.next:=addFl_next _ _ _ _
 unfold wpOpIn
 rw [ho]
 simp only []
 rw [wanted_sound h.rel,wantedA_congr hlook]
 cases hps with
 | off hw hv hH hfl hl hh hr=>
  rw [hw]
  simp only [Bool.false_eq_true,if_false]
  obtain ⟨T',hinv⟩:=h.silent hp hbase hi ho hDi hanc hdst hl hfl hput (v':=undef) (by rw [hv];exact VRel.undef) (Step.refl hR)
  exact ⟨fun _ _=>trivial,hK _ _ _ _ _ hinv⟩
 | fresh ob f hw haf hv hH hfl hl hh hr=>
  rw [hw,if_pos rfl]
  have haf':aFresh E o.op T=some (ob,f):=by rw [(aOp_congr (E:=E) (A:=A₀) hopr).2];exact haf
  obtain ⟨v',w',L,hrun,hvr,hst⟩:=fresh_sound hE hR (h.free i (Nat.lt_of_lt_of_le hi hp.le) hDi) h.rel o haf'
  refine ⟨fun _ _=>trivial,?_⟩
  rw [Oper.semAt_eq _ _ _ (fun c hc=>by rw [hc] at haf;cases haf),hrun,Oper.uponIn_value]
  obtain ⟨T',hT'⟩:=putN_ok hput T
  simp only [] at hvr hst
  rw [← hv] at hvr
  have hge:∀ b,b<A₀.next→b≠base+i:=fun b hb=>by omega
  have hli:(S p).louds.testBit i=false:=by
   cases hb:(S p).louds.testBit i with
   | false=>rfl
   | true=>
    have:(S (i+1)).louds.testBit i=true:=(hp.louds_iff (by omega)).2 ⟨by omega,hb⟩
    rw [hl] at this
    have:=hp.louds_lt (by omega) this
    omega
  have hfi:flGet (S p).fl i=some ob:=by
   rw [← hp.fl_at (q:=i+1) (by omega) (by omega),hfl]
   simp [flGet]
  have hti:takenAt (S q).louds i 0 an=false:=by
   cases ht:takenAt (S q).louds i 0 an with
   | false=>rfl
   | true=>rw [h.taken_anc hp ht] at hDi;cases hDi
  refine hK q (upd ρ (base+i) L) T' _ w' ⟨h.le,lt_upd h.lt hi,fun j hj=>?_,fun t=>?_,putN_sound (h.rel.mono hst.ext) h.size hT' hvr,?_,fun f' hf' hD=>?_,h.holes,h.room,by rw [size_put];exact h.size,by rw [defers_put];exact h.defers,fun j hj k hk=>?_⟩
  ·rw [or_eq_true',← h.stage j hj]
   constructor
   ·rintro (h1 | rfl)
    ·exact h1
    ·rw [hli] at hj;cases hj
   ·exact .inl
  ·rw [putN_get hT' t,sv_upd hDi h.cl hdst hi t]
   simp only [dstAt,ho,Option.bind_some]
   rw [h.tm t]
  ·refine (h.step.trans0 hst (fun b hb=>?_) (fun b hb hn=>?_)).congr (fun b=>?_) ?_
   ·unfold upd;rw [if_neg (hge b hb)]
   ·rw [ASt.get_newAt,if_neg (hge b hb)];exact hn
   ·rw [ASt.get_newAt,addFl_get,addFl_get]
    by_cases e:b=base+i
    ·subst e
     rw [if_pos rfl]
     rw [show base+i-base=i by omega,hfi,hti]
     simp
    ·rw [if_neg e]
     by_cases e2:base≤b
     ·have:(b-base == i)=false:=by simp;omega
      simp only [this,Bool.or_false]
     ·rw [if_neg (fun hh=>e2 hh.1),if_neg (fun hh=>e2 hh.1)]
   ·rw [ASt.next_newAt,addFl_next,addFl_next]
    have:=h.room
    have:=hp.le
    omega
  ·simp only [Bool.or_eq_false_iff] at hD
   unfold upd
   rw [if_neg (by have:f'≠i:=by simpa using hD.2
                  omega)]
   exact h.free f' hf' hD.1
  ·rw [or_eq_true'] at hj ⊢
   rcases hj with hj | rfl
   ·exact .inl (h.cl j hj k hk)
   ·exact .inl (hanc k hk)
 | still A' hw hq hv hH hfl hl hh hr=>
  rw [hw,if_pos rfl]
  rw [← (aOp_congr (E:=E) (A:={ heap:=.e,next:=0 }) hopr).1] at hv
  have hv2:=quiet_run hq hv (S q).H.next
  have hsub:∀ b o',({ heap:=.e,next:=(S q).H.next }:ASt).get b=some o'→(addFl base (fun f=>!takenAt (S q).louds f 0 an && D f) (S p).fl (S q).H).get b=some o':=fun b o' hb=>by
   have:({ heap:=.e,next:=(S q).H.next }:ASt).get b=none:=rfl
   rw [this] at hb;cases hb
  refine oneOp_sound hE hZr hcall (A:={ heap:=.e,next:=(S q).H.next }) (Z.sub hRz hsub hnext.symm) h.rel (o:=o) (Q:=fun r=>r=(val i,{ heap:=.e,next:=(S q).H.next })) ?_ ?_
  ·rw [oneOp_quiet hq hv2];rfl
  ·intro v A2 v' w' ρ' e hvr hst
   cases e
   obtain ⟨T',hinv⟩:=h.silent hp hbase hi ho hDi hanc hdst hl hfl hput hvr (frame_same hR hsub hnext.symm hst)
   exact hK _ _ _ _ _ hinv
 | read hw hq hH hfl hl hh hr=>
  rw [hw,if_pos rfl]
  have hmem:(⟨i,o.op,(S i).T,val i⟩:Rd)∈(S p).reads:=hp.reads_at (q:=i+1) (by omega) (by rw [hr];simp)
  obtain ⟨m',hm',hra⟩:=readsOK_spec hreads _ hmem
  simp only [] at hm'
  rw [hm] at hm';cases hm'
  obtain ⟨A',hv⟩:=readAt_spec hra _ _ (hp.hist_at h.le) (by
   apply Nat.eq_of_testBit_eq
   intro j
   simp only [Nat.testBit_and]
   cases hmj:m.testBit j with
   | false=>simp
   | true=>
    cases hlj:(S p).louds.testBit j with
    | false=>simp
    | true=>
     have:(S q).louds.testBit j=true:=(hp.louds_iff h.le).2 ⟨(h.stage j hlj).1 (hancm j hmj),hlj⟩
     simp [this]) (by
   apply Nat.eq_of_testBit_eq
   intro j
   simp only [Nat.testBit_and,Nat.zero_testBit]
   cases hqj:(S q).louds.testBit j with
   | false=>simp
   | true=>
    cases hbj:(behind i 0 an).testBit j with
    | false=>simp
    | true=>
     have h1:=(hp.louds_iff h.le).1 hqj
     have h2:=(h.stage j h1.2).2 h1.1
     have:=h.cl j h2 i (behind_anc hbj)
     rw [this] at hDi;cases hDi)
  simp only [] at hv
  rw [← (aOp_congr (E:=E) hopr).1] at hv
  have hv2:=quiet_run hq hv (viewAt base an (S q).louds m (S p).fl (S q).H).next
  have hsub:=h.view_sub hp hancm
  have hnx:(viewAt base an (S q).louds m (S p).fl (S q).H).next=(addFl base (fun f=>!takenAt (S q).louds f 0 an && D f) (S p).fl (S q).H).next:=by
   unfold viewAt
   rw [addFl_next,addFl_next]
  refine oneOp_sound hE hZr hcall (Z.sub hRz hsub hnx) h.rel (o:=o) (Q:=fun r=>r=(val i,viewAt base an (S q).louds m (S p).fl (S q).H)) ?_ ?_
  ·rw [oneOp_quiet hq hv2];rfl
  ·intro v A2 v' w' ρ' e hvr hst
   cases e
   obtain ⟨T',hinv⟩:=h.silent hp hbase hi ho hDi hanc hdst hl hfl hput hvr (frame_same hR hsub hnx hst)
   exact hK _ _ _ _ _ hinv
 | loud H' hw hlm hone hH hfl hl hh hr=>
  rw [hw,if_pos rfl]
  rw [← oneOp_congr hopr] at hone
  have hli:(S p).louds.testBit i=true:=by
   have:(S (i+1)).louds.testBit i=true:=by rw [hl,Nat.testBit_or,Nat.testBit_two_pow];simp
   exact ((hp.louds_iff (by omega)).1 this).2
  -- the stage is this one
  have hst0:∀ j,(S p).louds.testBit j=true→(D j=true↔j<i):=by
   intro j hj
   constructor
   ·intro hDj
    rcases Nat.lt_trichotomy j i with h1 | h1 | h1
    ·exact h1
    ·subst h1;rw [hDj] at hDi;cases hDi
    ·obtain ⟨oj,mj,hoj,hmj,_,hpsj⟩:=hp.at_ (i:=j) (hp.louds_lt (Nat.le_refl _) hj)
     have hj1:(S (j+1)).louds.testBit j=true:=(hp.louds_iff (by have:=hp.louds_lt (Nat.le_refl _) hj;omega)).2 ⟨by omega,hj⟩
     have hne:¬ (S j).louds.testBit j=true:=fun hh=>by have:=hp.louds_lt (by have:=hp.louds_lt (Nat.le_refl _) hj;omega) hh;omega
     have hanj:Anc an j i:=by
      cases hpsj with
      | off _ _ _ _ e=>rw [e] at hj1;exact absurd hj1 hne
      | fresh _ _ _ _ _ _ _ e=>rw [e] at hj1;exact absurd hj1 hne
      | still _ _ _ _ _ _ e=>rw [e] at hj1;exact absurd hj1 hne
      | read _ _ _ _ e=>rw [e] at hj1;exact absurd hj1 hne
      | loudN _ hlm'=>exact ⟨mj,hmj,hlm' i ((hp.louds_iff (by have:=hp.louds_lt (Nat.le_refl _) hj;omega)).2 ⟨h1,hli⟩)⟩
      | loud _ _ hlm'=>exact ⟨mj,hmj,hlm' i ((hp.louds_iff (by have:=hp.louds_lt (Nat.le_refl _) hj;omega)).2 ⟨h1,hli⟩)⟩
     have:=h.cl j hDj i hanj
     rw [this] at hDi;cases hDi
   ·intro hji
    exact hancm j (hlm j ((hp.louds_iff (by omega)).2 ⟨hji,hj⟩))
  obtain ⟨eH,eL,hview,hsub,hnx⟩:=h.view_at hp (Nat.le_of_lt hi) hanc hlow hm hst0
  refine oneOp_sound hE hZr hcall (Z.sub hRz hsub hnx) h.rel (o:=o) (Q:=fun r=>r=(val i,H')) ?_ ?_
  ·rw [hone];rfl
  ·intro v A2 v' w' ρ' e hvr hst
   cases e
   obtain ⟨T',hinv⟩:=h.loud hp hbase hi ho hDi hanc hlow hm hst0 hdst hH hfl hl hput hvr hst
   exact hK _ _ _ _ _ hinv
 | loudN hx=>
  have:=hexd i hx
  rw [this] at hDi;cases hDi

/-! ### the count of what is left -/
noncomputable def left(D:Nat→Bool):Nat→Nat
 | 0=>0
 | k+1=>left D k+cond (D k) 0 1

theorem left_le(D:Nat→Bool):∀ k,left D k≤k
 | 0=>Nat.le_refl _
 | k+1=>by
  have:=left_le D k
  unfold left
  cases D k<;>simp<;>omega

theorem left_zero{D:Nat→Bool}:∀ {k:Nat},left D k=0→∀ i,i<k→D i=true
 | 0,_,i,hi=>by omega
 | k+1,h,i,hi=>by
  unfold left at h
  cases hd:D k with
  | false=>rw [hd] at h;simp at h
  | true=>
   rw [hd] at h
   by_cases e:i=k
   ·rw [e];exact hd
   ·exact left_zero (k:=k) (by simpa using h) i (by omega)

theorem left_upd{D:Nat→Bool}{i:Nat}(hD:D i=false):∀ {k:Nat},left (fun j=>D j || j == i) k+(if i<k then 1 else 0)=left D k
 | 0=>by simp [left]
 | k+1=>by
  have:=left_upd (D:=D) (i:=i) hD (k:=k)
  unfold left
  by_cases e:k=i
  ·subst e
   rw [if_neg (by omega)] at this
   rw [if_pos (by omega),hD]
   simp only [beq_self_eq_true,Bool.or_true,cond_true,cond_false]
   omega
  ·have hne:(k == i)=false:=by simpa using e
   simp only [hne,Bool.or_false]
   by_cases hlt:i<k
   ·rw [if_pos hlt] at this
    rw [if_pos (by omega)]
    omega
   ·rw [if_neg hlt] at this
    rw [if_neg (by omega)]
    omega

theorem ready_mem{md:Region.Mode}{listed:Array Bool}{i:Nat}:i∈Region.ready md ops listed↔i<ops.size∧listed.getD i true=false∧∃ o,ops[i]? = some o∧∀ e∈o.after.toList,Region.binds md e=true→listed.getD e.on false=true:=by
 unfold Region.ready
 simp only [List.mem_filter,List.mem_range,Bool.and_eq_true,Bool.not_eq_true']
 refine and_congr Iff.rfl (and_congr Iff.rfl ?_)
 cases ho:ops[i]? with
 | none=>simp
 | some o=>
  simp only [Option.map_some,Option.getD_some]
  constructor
  ·intro h
   refine ⟨o,rfl,fun e he hb=>?_⟩
   rw [← Array.all_toList] at h
   have:=List.all_eq_true.1 h e he
   rw [hb] at this
   simpa using this
  ·rintro ⟨o',ho',h⟩
   cases ho'
   rw [← Array.all_toList]
   refine List.all_eq_true.2 fun e he=>?_
   cases hb:Region.binds md e with
   | false=>simp
   | true=>simpa using h e he hb

theorem many_sound{Z:Road}(hE:EnvOK E P)(hZr:RoadRo Z E)(hcall:CallSound Z P call)(hZ:Z.reach ρ₀ A₀ w₀)(hp:Plan E call n base ops an ex S val p){Q:PSt→Prop}
  (h:Inv E call n base ops an S val p ds ρ₀ A₀ w₀ D q ρ T a w) (hbase:base=A₀.next) (hex:∀ j,ex j=true→j<p) (hexd:∀ j,ex j=true→D j=true) {o:Oper} {m:Nat} (ho:ops[p]? = some o) (hm:nth an p=some m) (hw:wantedA ops (S p).T o=true) (hlm:∀ j,(S p).louds.testBit j=true→m.testBit j=true)
  (hone:(oneOp E call o (S p).T (viewAt base an (S p).louds m (S p).fl (S p).H)).all (fun r=>∃ T',putN n (S p).T o.dst r.1=some T'∧(planN E call n base ops an (p+1) (ops.toList.drop (p+1)) { T:=T',H:=r.2,fl:=(S p).fl,louds:=(S p).louds ||| 2 ^ p,hist:=((S p).louds ||| 2 ^ p,r.2)::(S p).hist,reads:=(S p).reads }).all Q))
  (hanc:∀ j,Anc an p j→D j=true) (hlow:∀ j,Anc an p j→j<p)
  (hslot:∀ o,ops[p]? = some o→∀ t∈looks ops o++o.dst.toList,SlotOK ops an p t) {Qx:Exit→Act→World→Prop} {K:Act→World→Prop}
  (hK:∀ ex' S' val' p' q' ρ' T' a' w',Plan E call n base ops an ex' S' val' p'→NextOp E call n base ops an Q (S' p') p'→(∀ j,ex' j=true→j<p')→(∀ j,ex' j=true→(D j || j == p)=true)→Inv E call n base ops an S' val' p' ds ρ₀ A₀ w₀ (fun j=>D j || j == p) q' ρ' T' a' w'→K a' w'):wpOpIn (FR rr) 0 P ops Qx p K a w:=by
 have hslot:=hslot o ho
 have hDp:D p=false:=by
  cases hd:D p with
  | false=>rfl
  | true=>have:=h.lt p hd;omega
 have hdst:∀ t,dstAt ops p=some t→SlotOK ops an p t:=fun t ht=>hslot t (by
  simp only [dstAt,ho,Option.bind_some] at ht
  simp [ht])
 have hlook:∀ t∈looks ops o,tget T t=tget (S p).T t:=fun t ht=>by
  rw [h.tm t,hp.sv_all (Nat.le_refl _) t]
  exact sv_look (hslot t (by simp [ht])) hDp hanc h.cl (Nat.le_refl _)
 have hopr:∀ t,Operand.tmp t∈o.op.operands.toList→tget T t=tget (S p).T t:=fun t ht=>hlook t (by
  unfold looks
  exact List.mem_append_left _ (tmpsOf_mem ht))
 have hRz:=Z.step hZ h.step
 have hst0:∀ j,(S p).louds.testBit j=true→(D j=true↔j<p):=fun j hj=>⟨fun hd=>h.lt j hd,fun _=>hanc j ⟨m,hm,hlm j hj⟩⟩
 unfold wpOpIn
 rw [ho]
 simp only []
 rw [wanted_sound h.rel,wantedA_congr hlook,hw,if_pos rfl]
 rw [← oneOp_congr hopr] at hone
 obtain ⟨eH,eL,hview,hsub,hnx⟩:=h.view_at hp (Nat.le_refl _) hanc hlow hm hst0
 refine oneOp_sound hE hZr hcall (Z.sub hRz hsub hnx) h.rel (o:=o) hone ?_
 rintro v A2 v' w' ρ' ⟨T1,hput,htree⟩ hvr hst
 have hp1:=hp.snoc (ex':=fun j=>ex j || j == p) (fun j hj=>by simp [hj]) ho (m:=m) (v:=v) (s':={ T:=T1,H:=A2,fl:=(S p).fl,louds:=(S p).louds ||| 2 ^ p,hist:=((S p).louds ||| 2 ^ p,A2)::(S p).hist,reads:=(S p).reads }) hm hput (.loudN (by simp) hlm rfl rfl rfl rfl)
 obtain ⟨p',S',val',hp',hle,hS,hv,hnxt⟩:=planN_run (Q:=Q) _ (p+1) _ _ hp1 rfl (by rw [if_neg (by omega)];exact htree)
 have hS0:∀ x,x≤p→S' x=S x:=fun x hx=>by rw [hS x (by omega)];exact if_pos hx
 have hS1:S' (p+1)={ T:=T1,H:=A2,fl:=(S p).fl,louds:=(S p).louds ||| 2 ^ p,hist:=((S p).louds ||| 2 ^ p,A2)::(S p).hist,reads:=(S p).reads }:=by rw [hS _ (Nat.le_refl _)];exact if_neg (by omega)
 have hvp:val' p=v:=by rw [hv p (by omega)];exact if_pos rfl
 have h':=h.extend hp hp' (by omega) hS0 (fun x hx=>by rw [hv x (by omega)];exact if_neg (by omega))
 have hSp:=hS0 p (Nat.le_refl _)
 have hst0':∀ j,(S' p').louds.testBit j=true→(D j=true↔j<p):=fun j hj=>by
  constructor
  ·exact fun hd=>h.lt j hd
  ·intro hjp
   refine (hst0 j ?_).2 hjp
   have:(S' p).louds.testBit j=true:=(hp'.louds_iff (by omega)).2 ⟨hjp,hj⟩
   rwa [hSp] at this
 obtain ⟨T',hinv⟩:=h'.loud hp' hbase (i:=p) (H':=A2) (T1:=T1) (by omega) ho hDp hanc hlow hm hst0' hdst (by rw [hS1]) (by rw [hS1,hSp]) (by rw [hS1,hSp]) (by rw [hSp,hvp];exact hput) (by rw [hvp];exact hvr) (by rw [hSp];exact hst)
 refine hK _ S' val' p' _ ρ' T' _ w' hp' hnxt (fun j hj=>?_) (fun j hj=>?_) hinv
 ·simp only [Bool.or_eq_true,beq_iff_eq] at hj
  rcases hj with hj | rfl
  ·have:=hex j hj;omega
  ·omega
 ·simp only [Bool.or_eq_true,beq_iff_eq] at hj ⊢
  exact hj.imp (hexd j) id

theorem allBehind_spec{i:Nat}:∀ {l:List Nat},allBehind i l=true→∀ (k m:Nat),l[k]? = some m→m.testBit i=true
 | [],_,k,m,h=>by simp at h
 | x::l,h,k,m,hk=>by
  unfold allBehind at h
  rw [Bool.and_eq_true] at h
  cases k with
  | zero=>simp at hk;subst hk;exact h.1
  | succ k=>exact allBehind_spec h.2 k m (by simpa using hk)

theorem any_sound{Z:Road}(hE:EnvOK E P)(hZr:RoadRo Z E)(hcall:CallSound Z P call)(hZ:Z.reach ρ₀ A₀ w₀){Q:PSt→Prop}(hreg:regOK ops (ancs ops.toList []) ops.toList 0 ops.toList=true)
  (hbase:base=A₀.next) {Qx:Exit→Act→World→Prop}
  (hQ:∀ s,Q s→readsOK E base (ancs ops.toList []) s s.reads=true)
  (hfin:∀ (ex:Nat→Bool) (S:Nat→PSt) (val:Nat→Value) (D:Nat→Bool) q ρ T a w,Plan E call n base ops (ancs ops.toList []) ex S val ops.size→Q (S ops.size)→Inv E call n base ops (ancs ops.toList []) S val ops.size ds ρ₀ A₀ w₀ D q ρ T a w→(∀ i,i<ops.size→D i=true)→Qx .normal a w) :
  ∀ (fuel:Nat) (listed:Array Bool) (ex:Nat→Bool) (S:Nat→PSt) (val:Nat→Value) (p q:Nat) (ρ:Ren) (T:Tmps) (a:Act) (w:World),listed.size=ops.size→left (fun i=>listed.getD i false) ops.size≤fuel→
   Plan E call n base ops (ancs ops.toList []) ex S val p→NextOp E call n base ops (ancs ops.toList []) Q (S p) p→(∀ j,ex j=true→j<p)→(∀ j,ex j=true→listed.getD j false=true)→
   Inv E call n base ops (ancs ops.toList []) S val p ds ρ₀ A₀ w₀ (fun i=>listed.getD i false) q ρ T a w→wpAnyIn (FR rr) 0 P .any ops Qx fuel listed a w:=by
 intro fuel
 -- all is done
 have done:∀ (ex:Nat→Bool) (S:Nat→PSt) (val:Nat→Value) (p q:Nat) (D:Nat→Bool) (ρ:Ren) (T:Tmps) (a:Act) (w:World),Plan E call n base ops (ancs ops.toList []) ex S val p→NextOp E call n base ops (ancs ops.toList []) Q (S p) p→
   Inv E call n base ops (ancs ops.toList []) S val p ds ρ₀ A₀ w₀ D q ρ T a w→(∀ i,i<ops.size→D i=true)→Qx .normal a w:=by
  intro ex S val p q D ρ T a w hp hn h hall
  cases hn with
  | fin e hq=>subst e;exact hfin ex S val D q ρ T a w hp hq h hall
  | many o m ho=>
   have hlt:=(Array.getElem?_eq_some_iff.1 ho).1
   have:=h.lt p (hall p hlt)
   omega
 induction fuel with
 | zero=>
  intro listed ex S val p q ρ T a w hs hl hp hn hex hexd h
  have hall:=left_zero (Nat.le_zero.1 hl)
  refine ⟨?_,done _ _ _ _ _ _ _ _ _ _ hp hn h hall⟩
  cases hr:Region.ready .any ops listed with
  | nil=>rfl
  | cons i l=>
   have hm:i∈Region.ready .any ops listed:=by rw [hr];simp
   obtain ⟨h1,h2,_⟩:=ready_mem.1 hm
   have:=hall i h1
   simp only [Array.getD_eq_getD_getElem?] at this h2
   have e:listed[i]? = some listed[i]:=by simp [hs,h1]
   rw [e] at this h2
   simp at this h2
   rw [this] at h2;cases h2
 | succ fuel ih=>
  intro listed ex S val p q ρ T a w hs hl hp hn hex hexd h
  have hfalse:∀ i,i<ops.size→listed.getD i false=listed.getD i true:=fun i hi=>by
   simp only [Array.getD_eq_getD_getElem?]
   have e:listed[i]? = some listed[i]:=by simp [hs,hi]
   rw [e];rfl
  have hord:∀ i o,ops[i]? = some o→∀ e∈o.after.toList,Region.binds .any e=true→e.on<i:=fun i o ho e he hb=>by
   have:=(regOK_spec hreg i o (by simpa using ho)).1
   rw [Nat.zero_add] at this
   exact edgesOK_spec this e he hb
  refine ⟨fun hr=>done _ _ _ _ _ _ _ _ _ _ hp hn h ?_,fun i hi=>?_⟩
  ·intro i
   induction i using Nat.strongRecOn with
   | ind i ihi=>
    intro hi
    cases hd:listed.getD i false with
    | true=>rfl
    | false=>
     have:i∈Region.ready .any ops listed:=ready_mem.2 ⟨hi,by rw [← hfalse i hi];exact hd,ops[i],by simp [hi],fun e he hb=>by
      have hlt:=hord i ops[i] (by simp [hi]) e he hb
      exact ihi e.on hlt (by omega)⟩
     rw [hr] at this;simp at this
  ·obtain ⟨hilt,hDi,o,ho,hedges⟩:=ready_mem.1 hi
   rw [← hfalse i hilt] at hDi
   have hanc:∀ j,Anc (ancs ops.toList []) i j→listed.getD j false=true:=by
    rintro j ⟨m,hm,hmj⟩
    obtain ⟨m',hm',hall⟩:=ancs_at ops.toList (i:=i) (o:=o) (by simpa using ho)
    rw [hm] at hm';cases hm'
    obtain ⟨e,he,hb,hej⟩:=hall j hmj
    rcases hej with rfl | ⟨_,hej⟩
    ·exact hedges e he hb
    ·exact h.cl e.on (hedges e he hb) j hej
   have hlow:∀ i j,Anc (ancs ops.toList []) i j→j<i:=by
    intro i
    induction i using Nat.strongRecOn with
    | ind i ihi=>
     rintro j ⟨m,hm,hmj⟩
     have hin:i<ops.toList.length:=by
      obtain ⟨r,h1,h2,_⟩:=ancs_spec ops.toList []
      rw [nth_eq,h1] at hm
      have:=(List.getElem?_eq_some_iff.1 hm).1
      simp at this
      simp;simp at h2;omega
     obtain ⟨m',hm',hall⟩:=ancs_at ops.toList (i:=i) (o:=ops.toList[i]) (by simp [])
     rw [hm] at hm';cases hm'
     obtain ⟨e,he,hb,hej⟩:=hall j hmj
     have hlt:=hord i ops.toList[i] (by simp at hin;simp [hin]) e he hb
     rcases hej with rfl | ⟨_,hej⟩
     ·exact hlt
     ·have:=ihi e.on hlt j hej;omega
   have hslot:∀ o,ops[i]? = some o→∀ t∈looks ops o++o.dst.toList,SlotOK ops (ancs ops.toList []) i t:=by
    intro o ho t ht k hk
    have h1:=(regOK_spec hreg i o (by simpa using ho)).2 t ht
    rw [Nat.zero_add] at h1
    unfold dstAt at hk
    cases hok:ops[k]? with
    | none=>rw [hok] at hk;cases hk
    | some ok=>
     rw [hok,Option.bind_some] at hk
     have:=slotOK_spec h1 k ok (by simpa using hok) hk
     rw [Nat.zero_add] at this
     exact this
   have hD:(fun j=>(listed.setIfInBounds i true).getD j false)=fun j=>listed.getD j false || j == i:=by
    funext j
    simp only [Array.getD_eq_getD_getElem?]
    by_cases e:j=i
    ·subst e
     simp [hs,hilt]
    ·rw [Array.getElem?_setIfInBounds_ne (Ne.symm e)]
     have:(j == i)=false:=by simpa using e
     simp [this]
   have hDj:∀ j,(listed.setIfInBounds i true).getD j false=(listed.getD j false || j == i):=fun j=>congrFun hD j
   have hmeas:left (fun j=>(listed.setIfInBounds i true).getD j false) ops.size≤fuel:=by
    rw [hD]
    have:=left_upd (D:=fun i=>listed.getD i false) (i:=i) hDi (k:=ops.size)
    rw [if_pos hilt] at this
    omega
   by_cases hip:i<p
   ·have hreads:readsOK E base (ancs ops.toList []) (S p) (S p).reads=true:=by
     cases hn with
     | fin e hq=>exact hQ _ hq
     | many o m _ _ _ _ _ hr=>exact hr
    refine step_sound hE hZr hcall hZ hp hreads h hbase hexd hip hDi hanc (hlow i) hslot ?_
    intro q' ρ' T' a' w' hinv
    refine ih _ ex S val p q' ρ' T' a' w' (by simpa using hs) hmeas hp hn hex (fun j hj=>?_) (by rw [hD];exact hinv)
    rw [hDj,hexd j hj];rfl
   ·cases hn with
    | fin e hq=>omega
    | many o m ho hm hw hlm hbeh hr hone=>
     have hpi:i=p:=by
      by_cases e:i=p
      ·exact e
      ·exfalso
       have hgt:p<i:=by omega
       obtain ⟨m',hm',_⟩:=ancs_at ops.toList (i:=i) (o:=ops[i]) (by simp [hilt])
       have hb:=allBehind_spec hbeh (i-(p+1)) m' (by rw [List.getElem?_drop,show p+1+(i-(p+1))=i by omega,← nth_eq];exact hm')
       have:=hanc p ⟨m',hm',hb⟩
       have:=h.lt p this
       omega
     subst hpi
     refine many_sound hE hZr hcall hZ hp h hbase hex hexd ho hm hw hlm hone hanc (hlow i) hslot ?_
     intro ex' S' val' p' q' ρ' T' a' w' hp' hn' hex' hexd' hinv
     refine ih _ ex' S' val' p' q' ρ' T' a' w' (by simpa using hs) hmeas hp' hn' hex' (fun j hj=>?_) (by rw [hD];exact hinv)
     rw [hDj];exact hexd' j hj

end

theorem draw_any{Z:Road}{E:Env}{P:Program}(hE:EnvOK E P)(hZr:RoadRo Z E){call:Tgt→List Value→ASt→Nd (Value×ASt)}(hcall:CallSound Z P call){n:Nat}{ops:Array Oper}{T:Tmps}{A:ASt}{Q:Tmps×ASt→Prop}(hQ:(drawRun E call n ops T A).all Q)
  {ρ:Ren} {w:World} {a:Act} {N:Nat} {rr:Option Nat} (hZ:Z.reach ρ A w) (ht:TRel ρ T a) (hn:a.tmps.size=n) (hd:Defs N w a.defers) :
  wpAnyIn (FR rr) 0 P .any ops (fun e a' w'=>e=.normal∧∃ T' A',Q (T',A')∧After ρ A w n N T' A' a' w') ops.size (Array.replicate ops.size false) a { w with drawn:=w.drawn+1 }:=by
 have hR:=Z.rep hZ
 unfold drawRun at hQ
 simp only [fN_eq] at hQ
 cases hreg:regOK ops (ancs ops.toList []) ops.toList 0 ops.toList with
 | false=>rw [hreg] at hQ;exact hQ.elim
 | true=>
  rw [hreg,cond_true] at hQ
  have hQ':=Nd.all_bind _ hQ
  have hp0:Plan E call n A.next ops (ancs ops.toList []) (fun _=>false) (fun _=>{ T,H:={ heap:=A.heap,next:=A.next+ops.toList.length },fl:=[],louds:=0,hist:=[(0,{ heap:=A.heap,next:=A.next+ops.toList.length })],reads:=[] }) (fun _=>undef) 0:=
   ⟨Nat.zero_le _,fun i o hi=>by omega,rfl,rfl,rfl⟩
  obtain ⟨p,S,val,hp,_,hS,_,hnxt⟩:=planN_run _ 0 _ _ hp0 rfl hQ'
  have hS0:=hS 0 (Nat.le_refl _)
  have hst:Step ρ A w ρ { A with next:=A.next+ops.toList.length } { w with drawn:=w.drawn+1 }:=(Step.bump hR _).trans (Step.drew (Step.bump hR _).rep)
  have hsz:(Array.replicate ops.size false).size=ops.size:=by simp
  have hD0:∀ j,(Array.replicate ops.size false).getD j false=false:=by
   intro j
   simp only [Array.getD_eq_getD_getElem?]
   rw [Array.getElem?_replicate]
   split<;>rfl
  have hH:(S 0).H={ A with next:=A.next+ops.toList.length }:=by rw [hS0]
  refine any_sound (ds:=a.defers) (base:=A.next) (A₀:=A) (w₀:=w) (ρ₀:=ρ) hE hZr hcall hZ (Q:=fun s=>(cond (readsOK E A.next (ancs ops.toList []) s s.reads) (Nd.ret (s.T,addFl A.next (fun f=>!takenAt s.louds f 0 (ancs ops.toList [])) s.fl s.H)) (.fail "draw: a read hangs on the order"):Nd (Tmps×ASt)).all Q) hreg rfl (fun s hs=>?_) ?_ ops.size _ (fun _=>false) S val p 0 ρ T a _ hsz (left_le _ _) hp hnxt (fun j hj=>by cases hj) (fun j hj=>by cases hj) ?_
  ·cases hc:readsOK E A.next (ancs ops.toList []) s s.reads with
   | true=>rfl
   | false=>rw [hc] at hs;exact hs.elim
  ·intro ex S val D q ρ' T' a' w' hp hq h hall
   cases hc:readsOK E A.next (ancs ops.toList []) (S ops.size) (S ops.size).reads with
   | false=>rw [hc] at hq;exact hq.elim
   | true=>
    rw [hc,cond_true] at hq
    refine ⟨rfl,(S ops.size).T,_,hq,ρ',?_,?_,h.size,by rw [h.defers];exact hd.step hR h.step⟩
    ·refine h.rel.congr fun t=>?_
     have h1:=hp.sv_all (Nat.le_refl _) t
     rw [h.tm t,h1]
     have:∀ k,k≤ops.size→sv ops val (S 0).T (fun _=>true) k t=sv ops val (S 0).T D k t:=by
      intro k
      induction k with
      | zero=>intro _;rfl
      | succ k ih=>
       intro hk
       rw [sv_succ,sv_succ,ih (by omega),hall k (by omega)]
     exact this _ (Nat.le_refl _)
    ·obtain ⟨eH,eL⟩:=hp.stages (q:=ops.size) (q':=q) (Nat.le_refl _) h.le (fun j hj=>by
      have:=hp.louds_lt (Nat.le_refl _) hj
      have h2:=h.stage j hj
      have h3:=hall j this
      constructor
      ·intro _;exact h2.1 h3
      ·intro _;exact this)
     refine h.step.congr (fun b=>?_) ?_
     ·rw [addFl_get,addFl_get,← eH,← eL]
      cases hf:flGet (S ops.size).fl (b-A.next) with
      | none=>simp
      | some ob=>
       have hlt:b-A.next<ops.size:=by
        rcases Nat.lt_or_ge (b-A.next) ops.size with h' | h'
        ·exact h'
        ·have:=hp.fl_lt (Nat.le_refl _) h'
         rw [hf] at this;cases this
       simp only [hall _ hlt,Bool.and_true]
     ·rw [addFl_next,addFl_next,eH]
  ·refine ⟨Nat.zero_le _,fun j hj=>(by rw [hD0] at hj;cases hj),fun j hj=>?_,fun t=>?_,ht,?_,fun f hf _=>hR.fresh _ (by omega),fun f hf _=>?_,?_,hn,rfl,fun j hj=>?_⟩
   ·rw [hD0];simp
   ·have:∀ k,sv ops val (S 0).T (fun i=>(Array.replicate ops.size false).getD i false) k t=tget (S 0).T t:=by
     intro k
     induction k with
     | zero=>rfl
     | succ k ih=>rw [sv_succ,ih,hD0];simp
    rw [this,hS0]
   ·refine hst.congr (fun b=>?_) ?_
    ·rw [addFl_get,hH,if_neg]
     rw [hD0];simp
    ·rw [addFl_next,hH]
   ·rw [hH]
    have:A.get (A.next+f)=none:=by
     cases hg:A.get (A.next+f) with
     | none=>rfl
     | some x=>
      obtain ⟨L,hL,_⟩:=hR.obj _ _ hg
      rw [hR.fresh _ (by omega)] at hL;cases hL
    exact this
   ·rw [hH];simp
   ·rw [hD0] at hj;cases hj

theorem draw_sound{Z:Road}{E:Env}{P:Program}(hE:EnvOK E P)(hZr:RoadRo Z E)(hm:P.follows .mixedOrders=true):DrawSound Z E P:=by
 intro call hcall n id ops T A Q hQ ρ w a N rr hZ ht hn hd
 exact wpIn_region_any hm (draw_any hE hZr hcall hQ hZ ht hn hd)

end Go.AE

/- The evaluator: what a run that ends 'true' says of the call. -/
namespace Go.AE
open Go Go.RowKit Go.ChangeShapes Go.WideShapes

noncomputable def tiOf(P:Program)(t:TypeId):Option TIn:=
 match P.info? t,P.underlying t with
 | some i,some d=>some { desc:=d,size:=i.size,bytes:=i.bytes,zero:=i.zero,methods:=i.methods,named:=none }
 | _,_=>none

noncomputable def fnOf(P:Program)(f:FuncId):Option Func:=
 match P.funcs[f]? with
 | some g=>cond (g.body.isSome && !(g.name == "runtime.NumGoroutine")) (some g) none
 | none=>none

abbrev ExtTab:=List (FuncId×(Array Value→Sem Value))

noncomputable def extOf(P:Program):ExtTab→FuncId→Option (List Value→Option Value)
 | [],_=>none
 | (g,e)::l,f=>cond (Nat.beq f g) (some fun args=>pureRun P (e args.toArray)) (extOf P l f)

noncomputable def ExtOK(P:Program)(tab:ExtTab):Prop:=∀ x∈tab,∃ fn,P.funcs[x.1]? = some fn∧(fn.name == "runtime.NumGoroutine")=false∧fn.body.isNone=true∧Extern.findNext fn=none∧Extern.find fn=some x.2

theorem extOK_nil(P:Program):ExtOK P []:=fun _ h=>by cases h

theorem extOK_cons{P:Program}{tab:ExtTab}{f:FuncId}{e:Array Value→Sem Value}(fn:Func)(h1:P.funcs[f]? = some fn)(h2:(fn.name == "runtime.NumGoroutine")=false) (h3:fn.body.isNone=true) (h4:Extern.findNext fn=none) (h5:Extern.find fn=some e) (h:ExtOK P tab):ExtOK P ((f,e)::tab):=fun x hx=>by
 rcases List.mem_cons.1 hx with rfl | hx
 ·exact ⟨fn,h1,h2,h3,h4,h5⟩
 ·exact h x hx

theorem pureRun_sound{α:Type}{P:Program}:∀ {s:Sem α} {a:α},pureRun P s=some a→∀ w,s.run P w=.ok a w
 | .pure _,_,h,w=>by cases h;rfl
 | .program k,a,h,w=>pureRun_sound (s:=k P) h w
 | .mark _ k,a,h,w=>pureRun_sound (s:=k) h w

theorem extOf_ok{P:Program}:∀ {tab:ExtTab},ExtOK P tab→∀ f g,extOf P tab f=some g→∀ args v,g args=some v→∀ w,(callFunc f args.toArray).run P w=.ok (.value v) w
 | [],_,f,g,h,_,_,_,_=>by cases h
 | (g',e)::l,ht,f,g,h,args,v,hv,w=>by
  unfold extOf at h
  cases hb:Nat.beq f g' with
  | true=>
   rw [hb,cond_true] at h
   have hfg:=Nat.eq_of_beq_eq_true hb
   subst hfg
   cases h
   obtain ⟨fn,h1,h2,h3,h4,h5⟩:=ht (f,e) (by simp)
   rw [run_callFunc_extern h1 h2 h3 h4 h5,pureRun_sound hv w]
   rfl
  | false=>
   rw [hb,cond_false] at h
   exact extOf_ok (fun x hx=>ht x (by simp [hx])) f g h args v hv w

abbrev HookTab:=FuncId→List Value→ASt→Option (Nd (Value×ASt))
noncomputable def noHook:HookTab:=fun _ _ _=>none

noncomputable def envOf(P:Program)(tab:ExtTab)(hk:HookTab):Env:={ ti:=tiOf P,fn:=fnOf P,ext:=extOf P tab,hook:=hk,bin:=fun op t xo yo x y=>pureRun P (do eqGuard op t xo yo x y;binOp op t x y),ro:=fun _=>none }

theorem tiOf_ok{P:Program}{t:TypeId}{i:TIn}(h:tiOf P t=some i):∃ j,P.info? t=some j∧P.underlying t=some i.desc∧j.size=i.size∧j.bytes=i.bytes∧j.zero=i.zero∧j.methods=i.methods:=by
 unfold tiOf at h
 split at h
 ·rename_i j d hj hd
  cases h
  exact ⟨j,hj,hd,rfl,rfl,rfl,rfl⟩
 ·cases h

theorem fnOf_ok{P:Program}{f:FuncId}{g:Func}(h:fnOf P f=some g):P.funcs[f]? = some g∧g.body.isSome=true∧(g.name == "runtime.NumGoroutine")=false:=by
 unfold fnOf at h
 split at h
 ·rename_i g' hg
  cases hb:(g'.body.isSome && !(g'.name == "runtime.NumGoroutine")) with
  | false=>rw [hb] at h;cases h
  | true=>
   rw [hb] at h;cases h
   rw [Bool.and_eq_true,Bool.not_eq_true'] at hb
   exact ⟨hg,hb.1,hb.2⟩
 ·cases h

theorem envOf_ok{P:Program}{tab:ExtTab}{hk:HookTab}(ht:ExtOK P tab):EnvOK (envOf P tab hk) P:=⟨fun _ _ h=>tiOf_ok h,fun _ _ h=>fnOf_ok h,fun _ _ _ _ _ _ _ h w=>pureRun_sound h w,extOf_ok ht⟩

noncomputable def allTo(p:Nat→Bool):Nat→Bool
 | 0=>true
 | k+1=>p k && allTo p k

theorem allTo_spec{p:Nat→Bool}:∀ {k:Nat},allTo p k=true→∀ i,i<k→p i=true
 | 0,_,i,hi=>by omega
 | k+1,h,i,hi=>by
  unfold allTo at h
  rw [Bool.and_eq_true] at h
  by_cases e:i=k
  ·rw [e];exact h.1
  ·exact allTo_spec h.2 i (by omega)

noncomputable def ends(q:Value→Bool):Nd Out→Bool
 | .ret (.res v _)=>q v
 | .ret (.fr _)=>false
 | .ask n k=>allTo (fun i=>ends q (k i)) n
 | .fail _=>false
 | .pick _ _=>false

theorem ends_all{q:Value→Bool}:∀ {m:Nd Out},ends q m=true→m.all fun o=>∃ v A,o=.res v A∧q v=true
 | .ret (.res v A),h=>⟨v,A,rfl,h⟩
 | .ret (.fr _),h=>by cases h
 | .ask n k,h=>fun i hi=>ends_all (allTo_spec (show allTo (fun i=>ends q (k i)) n=true from h) i hi)
 | .fail _,h=>by cases h
 | .pick _ _,h=>by cases h

noncomputable def isTrueV:Value→Bool
 | .bool true=>true
 | _=>false

noncomputable def rawRen(raws:List Value):Ren:=fun k=>match raws[k]? with
 | some v=>some ⟨0,0,0,0,v⟩
 | none=>none
noncomputable def startAt(n:Nat):ASt:={ heap:=.e,next:=n }

theorem rep_start(raws:List Value)(w:World):Rep (rawRen raws) (startAt raws.length) w:=by
 refine ⟨fun b o h=>?_,fun b b' o o' L L' _ h=>?_,fun b hb=>?_⟩
 ·cases h
 ·cases h
 ·unfold rawRen
  rw [List.getElem?_eq_none hb]

theorem Step.below{ρ ρ':Ren}{n:Nat}{A':ASt}{w w':World}(h:Step ρ (startAt n) w ρ' A' w'):Below w.heap.size w w':=by
 have hno:∀ B j,¬ Owned ρ (startAt n) B j:=by
  rintro B j ⟨b,o,L,hb,_⟩
  cases hb
 refine ⟨h.os,h.tape,h.output,h.size,fun k hk=>?_⟩
 have hget:w.heap[k]? = some w.heap[k]:=by simp [hk]
 cases ho:w.heap[k] with
 | cells c el fr=>
  rw [ho] at hget
  obtain ⟨c',h1,h2,h3⟩:=h.cells k c el fr hget
  rw [hget,h1]
  have:c'=c:=Array.ext_getElem? fun j=>h3 j (hno k j)
  rw [this]
 | _=>
  rw [ho] at hget
  rw [hget]
  exact h.objs k _ hget (by simp) (hno k 0)

theorem Step.sub{ρ₀ ρ:Ren}{A₀ A G:ASt}{w₀ w:World}(h:Step ρ₀ A₀ w₀ ρ A w)(hs:∀ b o,G.get b=some o→A.get b=some o)(hn:G.next=A.next):Step ρ₀ A₀ w₀ ρ G w:=
 ⟨⟨h.rep.sub hs hn,h.ext,by rw [hn];exact h.next,h.size,h.os,h.tape,h.output,h.drawn,h.cells,h.objs,fun B j hB ho=>h.owns B j hB (ho.sub hs)⟩,h.keep,fun b hb hd=>by
  cases hg:G.get b with
  | none=>rfl
  | some o=>
   have h1:=hs b o hg
   rw [h.dom b hb hd] at h1
   cases h1⟩

noncomputable def roadFrom(ρ₀:Ren)(A₀:ASt)(w₀:World):Road:={ reach:=fun ρ A w=>Step ρ₀ A₀ w₀ ρ A w,rep:=fun h=>h.rep,step:=fun h k=>h.trans k,sub:=fun h hs hn=>h.sub hs hn }

noncomputable abbrev roadRaw(raws:List Value)(w:World):Road:=roadFrom (rawRen raws) (startAt raws.length) w

theorem hook_none{Z:Road}{P:Program}{tab:ExtTab}:HookOK Z (envOf P tab noHook) P:=fun f args A r h=>by cases h

/-! ### the row of a law -/
section
variable {H:Type}{enc:TypeId×Value→H}{P:Program}

theorem trodAll_stays(hl:laidOutB P=true){W W':World}(hb:Below W.heap.size W W'):∀ {ts:List TypeId} {vs:List Value} {ds:List (DataW H)} {p:List MemPlace},(∀ t∈ts,P.readableRec t=true∧t<P.types.size)→
  DataW.TrodAll enc P W 0 (fun _=>true) true ts vs ds p→(∀ x∈p,x.block<W.heap.size)→DataW.TrodAll enc P W' 0 (fun b=>decide (b<W.heap.size)) true ts vs ds p
 | [],_,_,_,_,h,_=>by
  obtain ⟨rfl,rfl,rfl⟩:=trodAll_nil h
  exact h
 | t::ts,_,_,_,ht,h,hlt=>by
  obtain ⟨v,vs1,d,ds1,a,b,rfl,rfl,rfl,h1,h2⟩:=trodAll_cons h
  exact ⟨a,b,Below.trod hl (ht t (by simp)).1 (ht t (by simp)).2 h1 hb (fun x hx=>hlt x (by simp [hx])),trodAll_stays hl hb (fun t' h'=>ht t' (by simp [h'])) h2 (fun x hx=>hlt x (by simp [hx])),rfl⟩

theorem law_post{f:Func}{s:ChangeSpec}{apart fresh:Bool}{W W':World}{args:Array Value}{ds gs:List (DataW H)}{before:List MemPlace}{t:TypeId}
  (hl:laidOutB P=true) (hr:∀ t∈f.params.toList,P.readableRec t=true∧t<P.types.size)
  (hW:DataW.Whole enc P f.params.toList s.vars apart W args.toList ds gs before) (hvars:s.vars=[])
  (hb:Below W.heap.size W W') (hres:f.resultTypes=#[t]) (ht:P.underlying t=some .bool) (hfn:gs=[]→s.fn H (ds++gs)={ results:=[.lit (.bool true)],args:=ds }) :
  s.post enc P f apart fresh false false W args (.bool true) W':=by
 have hW':=hW
 obtain ⟨p,q,hA,hV,hpq,hfz,hnd⟩:=hW
 have hlt:∀ x∈p,x.block<W.heap.size:=fun x hx=>by
  have:=hW'.lt x (by rw [hpq];simp [hx])
  simpa using this
 rw [hvars] at hV
 obtain ⟨rfl,rfl⟩:=trodVars_none hV
 have hf:=hfn rfl
 refine ⟨ds,[],before,[],p,[],hW',?_,?_,?_,hb.frame _,fun h=>by cases h⟩
 ·rw [hf,hres]
  exact trodAll_mk1 (shut_bool ht true)
 ·rw [hf]
  exact trodAll_stays hl hb hr hA hlt
 ·rw [hf,hvars]
  rfl

end

end Go.AE
