/- The document's table: those between two ticks, by deadlines, then names. -/
import Derived.Test.YtgcffmhpjphefaaGreatDoorP09
set_option linter.unusedSimpArgs false
set_option linter.unusedVariables false
set_option linter.unusedSectionVars false
namespace Go.Proofs.YtgcffmhpjphefaaGreatDoor
open Go Go.AE
set_option maxRecDepth 10000
set_option maxHeartbeats 8000000
variable {Z:Go.AE.Road}{s:Spans}
theorem set_at{α:Type}{l r:List α}{a b:α}:(l++a::r).set l.length b=l++b::r:=by simp
theorem get_at{α:Type}{l r:List α}{a:α}:(l++a::r)[l.length]? = some a:=by simp
theorem tcell_at{R:List (TimD×Value)}{i:Nat}{p:TimD×Value}(h:R[i]? = some p):cut (tcellL R) (i*5) 5=some (tcell p.1 p.2)∧nth (tcellL R) (i*5+2)=some (.int .u64 (p.1.at_:Int)):=by
 have hi:=(List.getElem?_eq_some_iff.1 h).1
 have e:(tcellL R).drop (i*5)=tcell p.1 p.2++tcellL (R.drop (i+1)):=by
  rw [tcellL_drop (Nat.le_of_lt hi),List.drop_eq_getElem_cons hi,tcellL_cons,(List.getElem?_eq_some_iff.1 h).2]
 constructor
 ·simp only [cut,e]
  rfl
 ·rw [nth_eq,← List.getElem?_drop,e]
  rfl
theorem over_tcell{R:List (TimD×Value)}{i:Nat}{p:TimD×Value}(hi:i<R.length):over (tcellL R) (i*5) (tcell p.1 p.2)=some (tcellL (R.set i p)):=by
 have h1:(tcell p.1 p.2).length=5:=rfl
 have h2:Nat.ble (i*5+5) (tcellL R).length=true:=Nat.ble_eq_true_of_le (by rw [tcellL_len];omega)
 unfold over
 rw [h1,h2,cond_true,tcellL_take (Nat.le_of_lt hi),show i*5+5=(i+1)*5 by omega,tcellL_drop hi,List.set_eq_take_append_cons_drop,if_pos hi,tcellL_app,tcellL_cons]
theorem ixT{b i n c:Nat}(h:i<n):aIndexAddr E0 23 (.slice (some ⟨b,0,none⟩) n c) (.int .i64 (i:Int))=some (.pointer (some ⟨b,i*5,none⟩)):=by
 have e1:Nat.blt i n=true:=by rw [nblt];simpa using h
 show aIndexAddr E0 23 (.slice (some ⟨b,0,none⟩) n c) (.int .i64 (Int.ofNat i))=_
 simp only [aIndexAddr,w_t2,w_0,e1,cond_true,Nat.zero_add]
theorem stT{A:ASt}{b i:Nat}{R:List (TimD×Value)}{p:TimD×Value}{tl:Bool}(h:A.get b=some (.row (tcellL R) 5 tl))(hi:i<R.length)(hs:Go.AE.single p.2=true):aStore E0 30 (.pointer (some ⟨b,i*5,none⟩)) (tval p.1 p.2) A=some (A.set b (.row (tcellL (R.set i p)) 5 tl)):=by
 have e:(tval p.1 p.2).cells.toList=tcell p.1 p.2:=rfl
 have e2:singles (tcell p.1 p.2)=true:=by
  show (true && (true && (true && (true && (Go.AE.single p.2 && true)))))=true
  rw [hs];rfl
 have e3:Nat.beq (tcell p.1 p.2).length 5=true:=rfl
 simp only [aStore,h,w_0,e,e2,e3,over_tcell hi,Bool.and_self,cond_true]
def tat(p:TimD×Value):ByteArray×Nat:=(p.1.name,p.1.at_)
section
variable {A B:ASt}{m now:Nat}{P:List (TimD×Value)}{r:Value}{Sa:Nat→Prop}
def Asked(fr to:Nat)(all:Bool)(t:TimD):Prop:=t.at_≤to∧(all=true∨fr<t.at_)
theorem dsorted_spec(hro:RoadS Z E0 s){fr to:Nat}{all:Bool}(h:DocT s A m now P r Sa)(hn:P.length≤1000):
  CallW Z Tryz.prog 47 [.pointer (some ⟨m,0,none⟩),.int .u64 (fr:Int),.int .u64 (to:Int),.bool all] A (fun v A'=>∃ Q,OwnS A' A.next 5 Q.length v (tcellL Q)∧(Q.map tat).Pairwise tlt∧(∀ p,p∈Q↔p∈P∧Asked fr to all p.1)∧Q.length≤P.length∧Fr [] A A'):=by
 refine CallW.assume hro fun hnr=>?_
 refine CallW.of_code (withRo_ok E0_ok) hro.ro (f:=47) (fn:=Tryz.f47) fn47 rfl (n:=97) rfl (rs:=[.tmp 8]) rfl (by simp) (codeW_ok (withRo_ok E0_ok) hro.ro ?_)
 simp only [z_0,flat,cond_true,Nat.reduceAdd,Nat.reduceLT]
 have rm:(withRo E0 s).ro m=none:=h.rs m (.inl rfl)
 refine CodeW.mono (Q:=fun o=>∃ (T':Tmps) (A':ASt) (v:Value) (Q:List (TimD×Value)),o=.fr ⟨.exit 0,T',A'⟩∧tget T' 9=v∧OwnS A' A.next 5 Q.length v (tcellL Q)∧(Q.map tat).Pairwise tlt∧(∀ p,p∈Q↔p∈P∧Asked fr to all p.1)∧Q.length≤P.length∧Fr [] A A') ?_ ?_
 ·refine CodeW.loopR (k:=P.length) (fun n T A'=>∃ (i:Nat) (v:Value) (Q:List (TimD×Value)),n=P.length-i∧i≤P.length∧tget T 0=.pointer (some ⟨m,0,none⟩)∧tget T 1=.int .u64 (fr:Int)∧tget T 2=.int .u64 (to:Int)∧tget T 3=.bool all∧tget T 10=.int .i64 (i:Int)∧tget T 9=v∧OwnS A' A.next 5 Q.length v (tcellL Q)∧(Q.map tat).Pairwise tlt∧(∀ p,p∈Q↔p∈P.take i∧Asked fr to all p.1)∧Q.length≤i∧Fr [] A A') ?_ ⟨0,.slice none 0 0,[],rfl,Nat.zero_le _,rfl,rfl,rfl,rfl,rfl,rfl,.inl ⟨rfl,rfl,rfl⟩,.nil,by simp,Nat.le_refl _,.refl _ _⟩
  ·rintro n T A1 ⟨i,v,Q,rfl,hi,u0,u1,u2,u3,u10,u9,ho,hQ,hmem,hlen,f1⟩
   refine codeW_ok (withRo_ok E0_ok) hro.ro ?_
   have wi:IntKind.i64.wrap ((i:Int)+1)=((i+1:Nat):Int):=by rw [IntKind.wrap_i64];omega
   have hdoc:=h.fr0 f1
   have l1:=timLen hdoc.sl
   have hrow:=hdoc.row
   have n1:=f1.next
   by_cases hlt:i<P.length
   ·have d1:((i:Int)<(P.length:Int))=True:=eq_true (by omega)
    obtain ⟨p,hp⟩:∃ p,P[i]? = some p:=⟨_,List.getElem?_eq_getElem hlt⟩
    obtain ⟨b1,o1,k1,hx1,hc1,hcut1,hn0,hn2,hs1⟩:=timIx hdoc.sl hp
    have htk:∀ x,x∈P.take (i+1)↔x∈P.take i∨x=p:=fun x=>by
     rw [List.take_add_one,hp,List.mem_append]
     simp only [Option.toList,List.mem_singleton]
    have hskip:¬ Asked fr to all p.1→∀ x,x∈Q↔x∈P.take (i+1)∧Asked fr to all x.1:=fun hno x=>by
     rw [hmem,htk]
     constructor
     ·rintro ⟨h1,h2⟩;exact ⟨.inl h1,h2⟩
     ·rintro ⟨h1 | rfl,h2⟩
      ·exact ⟨h1,h2⟩
      ·exact absurd h2 hno
    have hag:Value.agg (tcell p.1 p.2).toArray=tval p.1 p.2:=rfl
    have hnew:Asked fr to all p.1→True:=fun _=>trivial
    by_cases hto:to<p.1.at_
    ·have d2:((p.1.at_:Int) > (to:Int))=True:=eq_true (by omega)
     simp only [w_w,z_0,w_pl,flat,aFieldAddr,aBuiltin,cond_true,cond_false,if_true,if_false,eq_self,Nat.reduceEqDiff,Nat.reduceLT,reduceCtorEq,u0,u1,u2,u3,u10,hrow,l1,d1,hx1,hc1,hn2,d2,undef,wi]
     exact ⟨P.length-(i+1),by omega,i+1,v,Q,rfl,by omega,rfl,by simp only [u9],ho,hQ,hskip (fun h2=>by have:=h2.1;omega),by omega,f1⟩
    ·have d2:((p.1.at_:Int) > (to:Int))=False:=eq_false (by omega)
     by_cases hno:all=false∧p.1.at_≤fr
     ·obtain ⟨rfl,hle⟩:=hno
      have d3:((p.1.at_:Int)≤(fr:Int))=True:=eq_true (by omega)
      simp only [w_w,z_0,w_pl,flat,aFieldAddr,aBuiltin,cond_true,cond_false,if_true,if_false,eq_self,Nat.reduceEqDiff,Nat.reduceLT,reduceCtorEq,u0,u1,u2,u3,u10,hrow,l1,d1,hx1,hc1,hn2,d2,d3,wi]
      exact ⟨P.length-(i+1),by omega,i+1,v,Q,rfl,by omega,rfl,by simp only [u9],ho,hQ,hskip (fun h2=>by rcases h2.2 with h3 | h3;cases h3;omega),by omega,f1⟩
     ·have hyes:Asked fr to all p.1:=⟨by omega,by
       cases all with
       | true=>exact .inl rfl
       | false=>exact .inr (Nat.lt_of_not_le fun hle=>hno ⟨rfl,hle⟩)⟩
      have hsp0:=(h.st p (List.mem_of_getElem? hp)).single
      have bs1:=bsTim (t:=p.1) hsp0
      have fN:Fr [] A1 (A1.new (.row (tcell p.1 p.2) 5 false)):=.new
      obtain ⟨r',B,ha,hoB,fB,hrB⟩:=appTim (s:=s) (ho.fr fN (by simp)) (p:=A1.next) (tl:=false) (t:=p.1) (dv:=p.2) (by rw [ASt.get_new,if_pos rfl]) hsp0 (by omega) (by rw [ASt.next_new];omega)
      have nB:=fB.next
      rw [ASt.next_new] at nB
      have lenr:=fun C=>hoB.len (E:=E0) ti23 t23_desc C
      have fAB:Fr [] A B:=⟨by omega,fun b hb _=>by
       rw [fB.get b (by rw [ASt.next_new];omega) (fun hm=>by have:=(ho.low b hm).1;omega),fN.get b (by omega) (by simp)]
       exact f1.get b hb (by simp)⟩
      have hcsB:tcellL Q++tcell p.1 p.2=tcellL (Q++[p]):=by rw [tcellL_app];unfold tcellL;simp
      rw [hcsB] at hoB
      rcases hoB with ⟨h0,_⟩ | ⟨b,cap,tl,rfl,hb,hbl,hbn,hcl,hcap⟩
      ·omega
      have hnm:∀ o∈P.take i,blt o.1.name p.1.name=true:=fun o ho=>by
       have hsplit:P=P.take i++p::P.drop (i+1):=by
        have:=List.take_append_drop i P
        rw [List.drop_eq_getElem_cons hlt,(List.getElem?_eq_some_iff.1 hp).2] at this
        exact this.symm
       have hord:=h.ord
       rw [hsplit,List.pairwise_append] at hord
       exact hord.2.2 o ho p (by simp)
      have ws:IntKind.i64.wrap (((Q.length+1:Nat):Int)-1)=(Q.length:Int):=by rw [IntKind.wrap_i64];omega
      have d4:all=false→((p.1.at_:Int)≤(fr:Int))=False:=fun e=>eq_false (by
       rcases hyes.2 with h3 | h3
       ·rw [e] at h3;cases h3
       ·omega)
      cases all
      all_goals
       have d3:=d4
       simp only [w_w,z_0,w_pl,flat,aFieldAddr,aBuiltin,cond_true,cond_false,if_true,if_false,eq_self,Nat.reduceEqDiff,Nat.reduceLT,reduceCtorEq,u0,u1,u2,u3,u9,u10,hrow,l1,d1,hx1,hc1,hn2,d2,d3,undef,hcut1,hag,bs1]
       rw [ha]
       simp only [w_w,z_0,flat,aBuiltin,cond_true,if_true,if_false,eq_self,Nat.reduceEqDiff,Nat.reduceLT,lenr,ws]
       refine CodeW.mono (Q:=fun o=>∃ (T':Tmps) (A':ASt) (Q':List (TimD×Value)),o=.fr ⟨.exit 2,T',A'⟩∧tget T' 0=.pointer (some ⟨m,0,none⟩)∧tget T' 1=.int .u64 (fr:Int)∧tget T' 2=.int .u64 (to:Int)∧(∃ al,tget T' 3=.bool al∧tget T 3=.bool al)∧tget T' 10=.int .i64 (i:Int)∧tget T' 9=.slice (some ⟨b,0,none⟩) (Q.length+1) cap∧Fr [b] B A'∧A'.get b=some (.row (tcellL Q') 5 tl)∧Q'.length=Q.length+1∧(Q'.map tat).Pairwise tlt∧∀ x,x∈Q'↔x∈Q∨x=p) ?_ ?_
       ·refine CodeW.loopR (k:=Q.length) (fun k T' A'=>∃ (O1 O2:List (TimD×Value)),k=O1.length∧Q=O1++O2∧tget T' 0=.pointer (some ⟨m,0,none⟩)∧tget T' 1=.int .u64 (fr:Int)∧tget T' 2=.int .u64 (to:Int)∧(∃ al,tget T' 3=.bool al∧tget T 3=.bool al)∧tget T' 10=.int .i64 (i:Int)∧tget T' 9=.slice (some ⟨b,0,none⟩) (Q.length+1) cap∧tget T' 11=.int .i64 (O1.length:Int)∧Fr [b] B A'∧A'.get b=some (.row (tcellL (O1++p::O2)) 5 tl)∧∀ o∈O2,p.1.at_<o.1.at_) ?_ ⟨Q,[],rfl,by simp,?_,?_,?_,?_,?_,?_,?_,.refl _ _,hb,by simp⟩
        ·rintro k T2 A2 ⟨O1,O2,rfl,hsp,w0,w1,w2,⟨al,w3,w3'⟩,w10,w9,w11,f2,hb2,hO2⟩
         refine codeW_ok (withRo_ok E0_ok) hro.ro ?_
         have rb:(withRo E0 s).ro b=none:=hnr b (by omega)
         have nQ:Q.length=O1.length+O2.length:=by rw [hsp,List.length_append]
         have hRl:(O1++p::O2).length=Q.length+1:=by rw [List.length_append,List.length_cons,nQ];omega
         have hp1:=tcell_at (get_at (l:=O1) (r:=O2) (a:=p))
         have ix1:=ixT (b:=b) (i:=O1.length) (n:=Q.length+1) (c:=cap) (by omega)
         have n2:=f2.next
         simp only [z_0]
         refine CodeW.quiet (withRo_ok E0_ok) hro.ro mixed (by kernel_rfl) (by kernel_rfl) ?_
         have vv:valEq (.slice (some ⟨b,0,none⟩) (Q.length+1) cap) (.slice (some ⟨b,0,none⟩) (Q.length+1) cap)=true:=valEq_slice
         have hdone:(∀ o∈O1,tlt (tat o) (tat p))→(((O1++p::O2).map tat).Pairwise tlt)∧∀ x,x∈O1++p::O2↔x∈Q∨x=p:=fun hO1=>by
          refine ⟨?_,fun x=>?_⟩
          ·rw [hsp,List.map_append,List.pairwise_append] at hQ
           rw [List.map_append,List.map_cons,List.pairwise_append,List.pairwise_cons]
           refine ⟨hQ.1,⟨fun y hy=>?_,hQ.2.1⟩,fun x hx y hy=>?_⟩
           ·obtain ⟨o,ho,rfl⟩:=List.mem_map.1 hy
            exact .inl (hO2 o ho)
           ·rcases List.mem_cons.1 hy with rfl | hy
            ·obtain ⟨o,ho,rfl⟩:=List.mem_map.1 hx
             exact hO1 o ho
            ·exact hQ.2.2 x hx y hy
          ·rw [hsp,List.mem_append,List.mem_cons,List.mem_append]
           constructor
           ·rintro (h1 | h1 | h1)
            ·exact .inl (.inl h1)
            ·exact .inr h1
            ·exact .inl (.inr h1)
           ·rintro ((h1 | h1) | h1)
            ·exact .inl h1
            ·exact .inr (.inr h1)
            ·exact .inr (.inl h1)
         rcases List.eq_nil_or_concat O1 with hO1 | ⟨O3,y,hO1⟩
         ·have d5:((O1.length:Int) > 0)=False:=eq_false (by rw [hO1];simp)
          simp only [z_0,flat,cond_true,cond_false,if_true,if_false,List.length_cons,List.length_nil,eq_self,Nat.reduceEqDiff,Nat.reduceAdd,Nat.reduceLT,quietW_nil,quietW_arr,quietW_cons,aStill,freshOp,quietOp,valEq_int,valEq_bool,List.length_cons,List.length_nil,w11,d5,undef]
          obtain ⟨h1,h2⟩:=hdone (by rw [hO1];simp)
          refine ⟨_,_,_,rfl,?_,?_,?_,⟨al,?_,w3'⟩,?_,?_,f2.trans (Fr.bump (by omega)),by rw [get_next];exact hb2,hRl,h1,h2⟩
          all_goals simp only [tget_put,Nat.reduceEqDiff,if_false,w0,w1,w2,w3,w10,w9]
         ·have hl3:O1.length=O3.length+1:=by rw [hO1];simp
          have d5:((O1.length:Int) > 0)=True:=eq_true (by omega)
          have wk:IntKind.i64.wrap ((O1.length:Int)-1)=(O3.length:Int):=by rw [IntKind.wrap_i64];omega
          have hR3:O1++p::O2=O3++y::p::O2:=by rw [hO1];simp
          have hp2:=tcell_at (R:=O1++p::O2) (i:=O3.length) (p:=y) (by rw [hR3];exact get_at)
          have ix2:=ixT (b:=b) (i:=O3.length) (n:=Q.length+1) (c:=cap) (by omega)
          by_cases hsw:p.1.at_<y.1.at_
          ·have d6:((p.1.at_:Int)<(y.1.at_:Int))=True:=eq_true (by omega)
           simp only [w_w,z_0,flat,aFieldAddr,cond_true,cond_false,if_true,if_false,List.length_cons,List.length_nil,eq_self,Nat.reduceEqDiff,Nat.reduceAdd,Nat.reduceLT,reduceCtorEq,quietW_nil,quietW_arr,quietW_cons,aStill,freshOp,quietOp,get_empty,get_next,ofVal_none,valEq_int,valEq_bool,valEq_ptr,List.length_cons,List.length_nil,w9,w11,d5,d6,ix1,ix2,wk,hb2,rb,hp1.1,hp1.2,hp2.2,vv,hag]
           have hym:y∈Q:=by rw [hsp,hO1];simp
           have hsy:Go.AE.single y.2=true:=(h.st y (List.mem_of_mem_take ((hmem y).1 hym).1)).single
           have hagy:Value.agg (tcell y.1 y.2).toArray=tval y.1 y.2:=rfl
           obtain ⟨C,hsC,fC,gC,nC⟩:=newTim (A:={ heap:=A2.heap,next:=A2.next+16 }) (t:=p.1) (dv:=p.2) hsp0
           have nK:({ heap:=A2.heap,next:=A2.next+16 }:ASt).next=A2.next+16:=rfl
           rw [nK] at hsC gC nC
           have fK:Fr [] A2 C:=(Fr.bump (by omega):Fr [] A2 { heap:=A2.heap,next:=A2.next+16 }).trans fC
           have bC:C.get b=some (.row (tcellL (O1++p::O2)) 5 tl):=(fK.get b (by omega) (by simp)).trans hb2
           have st1:=stT bC (i:=O1.length) (p:=y) (by omega) hsy
           rw [set_at] at st1
           have bC1:(C.set b (.row (tcellL (O1++y::O2)) 5 tl)).get b=some (.row (tcellL (O1++y::O2)) 5 tl):=by rw [ASt.get_set,if_pos rfl]
           have gC1:(C.set b (.row (tcellL (O1++y::O2)) 5 tl)).get (A2.next+16)=some (.row [.string p.1.name,.int .i64 p.1.ver,.int .u64 (p.1.at_:Int),.int .u64 (p.1.every:Int),p.2] 5 false):=by rw [ASt.get_set,if_neg (by omega)];exact gC
           have st2:=stT bC1 (i:=O3.length) (p:=p) (by rw [List.length_append,List.length_cons];omega) hsp0
           have hset2:(O1++y::O2).set O3.length p=O3++p::y::O2:=by
            have e:O1++y::O2=O3++y::y::O2:=by rw [hO1];simp
            rw [e];exact set_at
           rw [hset2] at st2
           have hctp:cut [Value.string p.1.name,.int .i64 p.1.ver,.int .u64 (p.1.at_:Int),.int .u64 (p.1.every:Int),p.2] 0 5=some (tcell p.1 p.2):=rfl
           have fEnd:Fr [b] B ((C.set b (.row (tcellL (O1++y::O2)) 5 tl)).set b (.row (tcellL (O3++p::y::O2)) 5 tl)):=((f2.trans (fK.sub (by simp))).set (.inl (by simp))).set (.inl (by simp))
           simp only [w_w,z_0,if_true,if_false,eq_self,Nat.reduceEqDiff,Nat.reduceLT,al25,ptrTo]
           rw [hsC]
           simp only [w_w,z_0,flat,cond_true,if_true,if_false,eq_self,Nat.reduceEqDiff,Nat.reduceLT,w9,w11,ix1,ix2,wk,bC,hp2.1,hagy]
           rw [st1]
           simp only [w_w,z_0,flat,cond_true,if_true,if_false,eq_self,Nat.reduceEqDiff,Nat.reduceLT,w9,w11,ix2,wk,gC1,hctp,hag]
           rw [st2]
           simp only [z_0,flat,cond_true,if_true,if_false,eq_self,Nat.reduceEqDiff,Nat.reduceLT,reduceCtorEq,w0,w1,w2,w3,w10,w9,w11,wk]
           refine ⟨O3.length,by omega,O3,y::O2,rfl,by rw [hsp,hO1];simp,⟨al,rfl,w3'⟩,rfl,fEnd,by first | rfl | rw [ASt.get_set,if_pos rfl],fun o ho=>?_⟩
           rcases List.mem_cons.1 ho with rfl | ho
           ·exact hsw
           ·exact hO2 o ho
          ·have d6:((p.1.at_:Int)<(y.1.at_:Int))=False:=eq_false (by omega)
           simp only [w_w,z_0,flat,aFieldAddr,cond_true,cond_false,if_true,if_false,List.length_cons,List.length_nil,eq_self,Nat.reduceEqDiff,Nat.reduceAdd,Nat.reduceLT,reduceCtorEq,quietW_nil,quietW_arr,quietW_cons,aStill,freshOp,quietOp,get_empty,get_next,ofVal_none,valEq_int,valEq_bool,valEq_ptr,List.length_cons,List.length_nil,w9,w11,d5,d6,ix1,ix2,wk,hb2,rb,hp1.2,hp2.2,vv]
           have hym:y∈Q:=by rw [hsp,hO1];simp
           obtain ⟨h1,h2⟩:=hdone (fun o ho=>by
            have hoQ:o∈Q:=by rw [hsp];exact List.mem_append.2 (.inl ho)
            have hle:o.1.at_≤y.1.at_:=by
             rw [hsp,hO1,List.map_append,List.concat_eq_append,List.map_append,List.pairwise_append,List.pairwise_append] at hQ
             rw [hO1,List.concat_eq_append] at ho
             rcases List.mem_append.1 ho with ho | ho
             ·have:=hQ.1.2.2 (tat o) (List.mem_map_of_mem ho) (tat y) (by simp)
              rcases this with h3 | h3
              ·exact Nat.le_of_lt h3
              ·exact Nat.le_of_eq h3.1
             ·simp only [List.mem_singleton] at ho
              subst ho
              exact Nat.le_refl _
            have hnm2:=hnm o ((hmem o).1 hoQ).1
            rcases Nat.lt_or_ge o.1.at_ p.1.at_ with h3 | h3
            ·exact .inl h3
            ·exact .inr ⟨by show o.1.at_=p.1.at_;omega,hnm2⟩)
           refine ⟨_,_,_,rfl,?_,?_,?_,⟨al,?_,w3'⟩,?_,?_,f2.trans (Fr.bump (by omega)),by rw [get_next];exact hb2,hRl,h1,h2⟩
           all_goals simp only [tget_put,Nat.reduceEqDiff,if_false,w0,w1,w2,w3,w10,w9]
        all_goals first | rfl | (simp only [tget_put,Nat.reduceEqDiff,if_false,if_true,u0,u1,u2,u3,u10];done) | exact ⟨_,by simp only [tget_put,Nat.reduceEqDiff,if_false,u3],u3⟩
       ·rintro o ⟨T2,A2,Q',rfl,w0,w1,w2,⟨al,w3,w3'⟩,w10,w9,f2,hb2,hQl,hQs,hQm⟩
        simp only [z_0,flat,cond_true,if_true,if_false,eq_self,Nat.reduceEqDiff,Nat.reduceLT,reduceCtorEq,w0,w1,w2,w3,w10,w9,wi]
        rw [u3] at w3'
        cases w3'
        have nA2:=f2.next
        refine ⟨P.length-(i+1),by omega,i+1,_,Q',rfl,by omega,rfl,rfl,rfl,.inr ⟨b,cap,tl,by rw [hQl],hb2,hbl,by omega,tcellL_len,?_⟩,hQs,fun x=>?_,by omega,fAB.fresh (l:=[b]) f2 (fun c hc=>by simp only [List.mem_singleton] at hc;omega)⟩
        ·rcases hcap with h1 | ⟨h1,h2⟩
         ·exact .inl h1
         ·exact .inr ⟨by omega,h2⟩
        ·rw [hQm,hmem,htk]
         constructor
         ·rintro (⟨h1,h2⟩ | rfl)
          ·exact ⟨.inl h1,h2⟩
          ·exact ⟨.inr rfl,hyes⟩
         ·rintro ⟨h1 | rfl,h2⟩
          ·exact .inl ⟨h1,h2⟩
          ·exact .inr rfl
   ·have d1:((i:Int)<(P.length:Int))=False:=eq_false (by omega)
    simp only [w_w,z_0,w_pl,aFieldAddr,aBuiltin,cond_false,if_true,if_false,eq_self,Nat.reduceEqDiff,Nat.reduceLT,reduceCtorEq,u0,u10,hrow,l1,d1]
    rw [List.take_of_length_le (by omega)] at hmem
    exact ⟨_,_,v,Q,rfl,by simp only [tget_put,Nat.reduceEqDiff,if_false,u9],ho,hQ,hmem,by omega,f1⟩
 ·rintro o ⟨T',A',v,Q,rfl,u9,ho,hQ,hmem,hlen,f1⟩
  simp only [z_0,if_true,if_false,eq_self,Nat.reduceEqDiff,Nat.reduceLT,u9]
  exact ⟨Q,ho,hQ,hmem,hlen,f1⟩
end
end Go.Proofs.YtgcffmhpjphefaaGreatDoor

/- The document's table: Due, Advance, Soonest. -/
namespace Go.Proofs.YtgcffmhpjphefaaGreatDoor
open Go Go.AE
set_option maxRecDepth 10000
set_option maxHeartbeats 8000000
variable {Z:Go.AE.Road}{s:Spans}
theorem sorted_lists{D:TD}{P Q:List (TimD×Value)}{f:Nat→Bool}(hA:AllOf D (P.map (·.1)))(hk:∀ k t,D k=some t→t.name=k)(hQ:(Q.map tat).Pairwise tlt)(hm:∀ p,p∈Q↔p∈P∧f p.1.at_=true):Lists (fun k=>(D.at_ k).filter f) (Q.map tat)∧Q.map (·.1)=(Q.map tat).map fun y=>(D y.1).getD zTimD:=by
 have h1:∀ p∈P,D p.1.name=some p.1:=fun p hp=>(hA.mem p.1).1 (List.mem_map.2 ⟨p,hp,rfl⟩)
 refine ⟨⟨fun k a=>?_,hQ⟩,?_⟩
 ·rw [List.mem_map,Option.filter_eq_some_iff]
  constructor
  ·rintro ⟨p,hp,e⟩
   obtain ⟨hp,hf⟩:=(hm p).1 hp
   simp only [tat,Prod.mk.injEq] at e
   obtain ⟨rfl,rfl⟩:=e
   exact ⟨by unfold TD.at_;rw [h1 p hp];rfl,hf⟩
  ·rintro ⟨h2,hf⟩
   unfold TD.at_ at h2
   cases hD:D k with
   | none=>rw [hD] at h2;cases h2
   | some t=>
    rw [hD] at h2
    have h2:some t.at_=some a:=h2
    cases h2
    have hn:=hk k t hD
    obtain ⟨p,hp,rfl⟩:=List.mem_map.1 ((hA.mem t).2 (by rw [hn];exact hD))
    exact ⟨p,(hm p).2 ⟨hp,hf⟩,by simp only [tat,hn]⟩
 ·rw [List.map_map]
  refine List.map_congr_left fun p hp=>?_
  show p.1=(D p.1.name).getD zTimD
  rw [h1 p ((hm p).1 hp).1]
  rfl
section
variable {A B:ASt}{m now:Nat}{P:List (TimD×Value)}{r:Value}{Sa:Nat→Prop}
theorem ddue_spec(hro:RoadS Z E0 s)(h:DocT s A m now P r Sa)(hn:P.length≤1000):
  CallW Z Tryz.prog 48 [.pointer (some ⟨m,0,none⟩)] A (fun v A'=>∃ Q,OwnS A' A.next 5 Q.length v (tcellL Q)∧(Q.map tat).Pairwise tlt∧(∀ p,p∈Q↔p∈P∧decide (p.1.at_≤now)=true)∧Q.length≤P.length∧Fr [] A A'):=by
 refine CallW.of_code (withRo_ok E0_ok) hro.ro (f:=48) (fn:=Tryz.f48) fn48 rfl (n:=9) rfl (rs:=[.tmp 2]) rfl (by simp) (codeW_ok (withRo_ok E0_ok) hro.ro ?_)
 have hrow:=h.row
 simp only [w_w,z_0,w_pl,flat,aFieldAddr,cond_true,cond_false,if_true,if_false,List.append_nil,List.nil_append,eq_self,Nat.reduceEqDiff,Nat.reduceLT,reduceCtorEq,hrow]
 refine CallT.mono (CallT.of_call (dsorted_spec (fr:=0) (to:=now) (all:=true) hro h hn)) ?_
 rintro v B ⟨Q,ho,hQ,hm,hl,hf⟩
 simp only [z_0,if_true,if_false,eq_self,Nat.reduceEqDiff,Nat.reduceLT,reduceCtorEq]
 refine ⟨Q,ho,hQ,fun p=>?_,hl,hf⟩
 rw [hm]
 unfold Asked
 simp
theorem appN{lo n p:Nat}{v:Value}{cs:List Value}{k:ByteArray}{tl:Bool}(h:OwnS A lo 1 n v cs)(hp:A.get p=some (.row [.string k] 1 tl))(hn:n≤100000)(hlo:lo≤A.next):
  ∃ r' B,aAppend (withRo E0 s) 34 34 v (.slice (some ⟨p,0,none⟩) 1 1) A=.val r' B∧OwnS B lo 1 (n+1) r' (cs++[.string k])∧Fr (slB v) A B∧∀ b∈slB r',b∈slB v∨A.next≤b:=by
 have srcE:srcCells (withRo E0 s) 1 (.slice (some ⟨p,0,none⟩) 1 1) 1 A=some [.string k]:=by
  simp only [srcCells,hp]
  rfl
 exact h.app (E:=withRo E0 s) (xt:=34) (x:=.slice (some ⟨p,0,none⟩) 1 1) (m:=1) (wti.trans ti34) t34_desc (wti.trans ti9) t9_size (wti.trans ti34) (by rw [t34_desc];rfl) t9_zero rfl rfl (by omega) rfl srcE rfl rfl (by rw [t9_bytes];omega) hlo
theorem slAtB{lo:Nat}{v:Value}{Q:List (TimD×Value)}(h:OwnS A lo 5 Q.length v (tcellL Q))(hnr:∀ b,lo≤b→(withRo E0 s).ro b=none):SlAt (withRo E0 s) A (fun b=>b∈slB v) 5 v (Q.map fun p=>tcell p.1 p.2):=by
 rcases h with ⟨h0,_,e⟩ | ⟨b,cap,tl,e,hb,h1,h2,hc,_⟩
 ·rw [List.eq_nil_of_length_eq_zero h0]
  exact .inl ⟨rfl,.inl e⟩
 ·refine .inr ⟨b,0,cap,_,by rw [e,List.length_map],.of_row hb (hnr b h1),by rw [e];simp [slB],h2,tcell_len,?_⟩
  rw [List.length_map,← hc]
  exact (cut_take (Nat.le_refl _)).trans (by rw [List.take_length];rfl)
theorem st480{c0 c1:Value}{x:Int}{tl:Bool}(h:A.get m=some (.row [c0,c1] 2 tl)):aStore E0 22 (.pointer (some ⟨m,0,none⟩)) (.int .u64 x) A=some (A.set m (.row [.int .u64 x,c1] 2 tl)):=by
 simp only [aStore,h,w_0];rfl
theorem bsN{k:ByteArray}:aBuildSlice E0 34 1 [(0,.string k)]=some (.row [.string k] 1 false,fun id=>.slice (some ⟨id,0,none⟩) 1 1):=by kernel_rfl
theorem dadv_spec(hro:RoadS Z E0 s){nw:Nat}(h:DocT s A m now P r Sa)(hn:P.length≤1000):
  CallW Z Tryz.prog 25 [.pointer (some ⟨m,0,none⟩),.int .u64 (nw:Int)] A (fun v A'=>∃ Q:List (TimD×Value),(Q.map tat).Pairwise tlt∧(∀ p,p∈Q↔p∈P∧(decide (now<p.1.at_) && decide (p.1.at_≤nw))=true)∧NamesAt A' A.next v (Q.map tat)∧DocT s A' m (max now nw) P r Sa∧Fr [m] A A'):=by
 refine CallW.assume hro fun hnr=>?_
 refine CallW.of_code (withRo_ok E0_ok) hro.ro (f:=25) (fn:=Tryz.f25) fn25 rfl (n:=40) rfl (rs:=[.tmp 4]) rfl (by simp) (codeW_ok (withRo_ok E0_ok) hro.ro ?_)
 have hrow:=h.row
 by_cases hlt:nw<now
 ·have d1:((nw:Int)<(now:Int))=True:=eq_true (by omega)
  simp only [w_w,z_0,w_pl,flat,aFieldAddr,cond_true,cond_false,if_true,if_false,eq_self,Nat.reduceEqDiff,Nat.reduceAdd,Nat.reduceLT,reduceCtorEq,hrow,d1]
  refine ⟨[],.nil,fun p=>?_,.inl ⟨rfl,rfl,rfl⟩,by rw [Nat.max_eq_left (by omega)];exact h,.refl _ _⟩
  simp only [List.not_mem_nil,Bool.and_eq_true,decide_eq_true_eq,false_iff]
  omega
 ·have d1:((nw:Int)<(now:Int))=False:=eq_false (by omega)
  simp only [w_w,z_0,w_pl,flat,aFieldAddr,cond_true,cond_false,if_true,if_false,List.append_nil,List.nil_append,eq_self,Nat.reduceEqDiff,Nat.reduceAdd,Nat.reduceLT,reduceCtorEq,hrow,d1]
  refine CallT.mono (CallT.of_call (dsorted_spec (fr:=now) (to:=nw) (all:=false) hro h hn)) ?_
  rintro v B ⟨Q,ho,hQ,hm,hl,hf⟩
  have nB:=hf.next
  have hsl:=slAtB (s:=s) ho hnr
  obtain ⟨vb,vc,rfl⟩:∃ vb vc,v=.slice vb Q.length vc:=by
   obtain ⟨b,c,e⟩:=hsl.form
   exact ⟨b,c,by rw [e,List.length_map]⟩
  simp only [z_0,flat,cond_true,if_true,if_false,eq_self,Nat.reduceEqDiff,Nat.reduceLT,reduceCtorEq]
  refine CodeW.mono (Q:=fun o=>∃ (T':Tmps) (A':ASt) (w:Value),o=.fr ⟨.exit 0,T',A'⟩∧tget T' 0=.pointer (some ⟨m,0,none⟩)∧tget T' 1=.int .u64 (nw:Int)∧tget T' 6=w∧OwnS A' B.next 1 Q.length w (strs (Q.map tat))∧Fr [] B A') ?_ ?_
  ·refine CodeW.loopR (k:=Q.length) (fun n T A'=>∃ (i:Nat) (w:Value),n=Q.length-i∧i≤Q.length∧tget T 0=.pointer (some ⟨m,0,none⟩)∧tget T 1=.int .u64 (nw:Int)∧tget T 5=.slice vb Q.length vc∧tget T 6=w∧tget T 7=.int .i64 (i:Int)∧OwnS A' B.next 1 i w (strs ((Q.take i).map tat))∧Fr [] B A') ?_ ⟨0,.slice none 0 0,rfl,Nat.zero_le _,rfl,rfl,rfl,rfl,rfl,.inl ⟨rfl,rfl,rfl⟩,.refl _ _⟩
   ·rintro n T A1 ⟨i,w,rfl,hi,u0,u1,u5,u6,u7,how,f1⟩
    refine codeW_ok (withRo_ok E0_ok) hro.ro ?_
    have wi:IntKind.i64.wrap ((i:Int)+1)=((i+1:Nat):Int):=by rw [IntKind.wrap_i64];omega
    have n1:=f1.next
    have hsl1:=hsl.fr f1 (by simp)
    have l1:=timLen hsl1
    by_cases hlt:i<Q.length
    ·have d2:((i:Int)<(Q.length:Int))=True:=eq_true (by omega)
     obtain ⟨p,hp⟩:∃ p,Q[i]? = some p:=⟨_,List.getElem?_eq_getElem hlt⟩
     obtain ⟨b1,o1,c1,hx1,hc1,_,hn0,_,_⟩:=timIx hsl1 hp
     have fN:Fr [] A1 (A1.new (.row [.string p.1.name] 1 false)):=.new
     obtain ⟨w',C,ha,hoC,fC,hw'⟩:=appN (s:=s) (how.fr fN (by simp)) (p:=A1.next) (tl:=false) (k:=p.1.name) (by rw [ASt.get_new,if_pos rfl]) (by omega) (by rw [ASt.next_new];omega)
     simp only [w_w,z_0,aFieldAddr,aBuiltin,cond_false,if_true,if_false,eq_self,Nat.reduceEqDiff,Nat.reduceLT,reduceCtorEq,u5,u6,u7,l1,d2,hx1,hc1,hn0,bsN]
     rw [ha]
     simp only [z_0,flat,cond_true,if_true,if_false,eq_self,Nat.reduceEqDiff,Nat.reduceLT,reduceCtorEq,u0,u1,u5,u7,wi]
     refine ⟨Q.length-(i+1),by omega,i+1,w',rfl,by omega,rfl,rfl,?_,?_⟩
     ·have e:strs ((Q.take (i+1)).map tat)=strs ((Q.take i).map tat)++[.string p.1.name]:=by
       rw [take_snoc hp,List.map_append]
       unfold strs
       rw [List.map_append]
       rfl
      rw [e]
      exact hoC
     ·exact (f1.trans fN).fresh (l:=slB w) fC (fun b hb=>(how.low b hb).1)
    ·have d2:((i:Int)<(Q.length:Int))=False:=eq_false (by omega)
     simp only [w_w,z_0,aBuiltin,if_true,if_false,eq_self,Nat.reduceEqDiff,Nat.reduceLT,u5,u7,l1,d2]
     have:i=Q.length:=by omega
     subst this
     rw [List.take_length] at how
     exact ⟨_,_,w,rfl,by simp only [tget_put,Nat.reduceEqDiff,if_false,u0],by simp only [tget_put,Nat.reduceEqDiff,if_false,u1],by simp only [tget_put,Nat.reduceEqDiff,if_false,u6],how,f1⟩
  ·rintro o ⟨T',A',w,rfl,u0,u1,u6,how,f1⟩
   have n1:=f1.next
   have hlm:=h.lt
   have fA':Fr [] A A':=hf.trans f1
   have hrow':=(fA'.get m hlm (by simp)).trans hrow
   have hst:=st480 (x:=(nw:Int)) hrow'
   simp only [w_w,z_0,w_pl,aFieldAddr,cond_false,if_true,if_false,eq_self,Nat.reduceEqDiff,Nat.reduceLT,reduceCtorEq,u0,u1,u6,hst]
   have fS:Fr [m] A (A'.set m (.row [.int .u64 (nw:Int),r] 2 false)):=(fA'.sub (by simp)).set (.inl (by simp))
   have fS2:Fr [m] A' (A'.set m (.row [.int .u64 (nw:Int),r] 2 false)):=(Fr.refl _ _).set (.inl (by simp))
   refine ⟨Q,hQ,fun p=>?_,?_,?_,fS⟩
   ·rw [hm]
    unfold Asked
    simp only [Bool.and_eq_true,decide_eq_true_eq,Bool.false_eq_true,false_or]
    constructor
    ·rintro ⟨h1,h2,h3⟩;exact ⟨h1,h3,h2⟩
    ·rintro ⟨h1,h2,h3⟩;exact ⟨h1,h3,h2⟩
   ·unfold NamesAt
    rw [List.length_map]
    exact (how.lower (by omega)).fr fS2 (fun b hb hm=>by have:=(how.low b hb).1;simp only [List.mem_singleton] at hm;omega)
   ·rw [Nat.max_eq_right (by omega)]
    exact ⟨by rw [ASt.get_set,if_pos rfl],by rw [ASt.next_set];omega,h.own.fr fS (fun b hb hm=>by simp only [List.mem_singleton] at hm;subst hm;exact h.off hb),h.cu,h.off,h.rs,fun p hp=>(h.st p hp).fr fS (fun b hb _ hm=>by simp only [List.mem_singleton] at hm;exact (h.sd b hb).1 hm),fun b hb=>⟨(h.sd b hb).1,(h.sd b hb).2.1,by rw [ASt.next_set];have:=(h.sd b hb).2.2;omega⟩,h.ord⟩
end
end Go.Proofs.YtgcffmhpjphefaaGreatDoor

/- The document's list against the table's timers. Plain. -/
namespace Go.Proofs.YtgcffmhpjphefaaGreatDoor
open Go Go.AE
variable {D:TD}{P P':List (TimD×Value)}
theorem allOf_put{t:TimD}{dv:Value}(hA:AllOf D (P.map (·.1)))(ho:P'.Pairwise fun a b=>blt a.1.name b.1.name=true)(hm:∀ x,x∈P'↔x=(t,dv)∨x∈P∧x.1.name≠t.name):AllOf (D.put t) (P'.map (·.1)):=by
 refine ⟨by rw [List.pairwise_map,List.pairwise_map];exact ho,fun u=>?_⟩
 unfold TD.put
 constructor
 ·intro hu
  obtain ⟨p,hp,rfl⟩:=List.mem_map.1 hu
  rcases (hm p).1 hp with rfl | ⟨h1,h2⟩
  ·rw [if_pos rfl]
  ·rw [if_neg h2]
   exact (hA.mem p.1).1 (List.mem_map.2 ⟨p,h1,rfl⟩)
 ·intro hu
  by_cases e:u.name=t.name
  ·rw [if_pos e] at hu
   cases hu
   exact List.mem_map.2 ⟨(t,dv),(hm _).2 (.inl rfl),rfl⟩
  ·rw [if_neg e] at hu
   obtain ⟨p,hp,rfl⟩:=List.mem_map.1 ((hA.mem u).2 hu)
   exact List.mem_map.2 ⟨p,(hm p).2 (.inr ⟨hp,e⟩),rfl⟩
theorem allOf_del{k:ByteArray}(hA:AllOf D (P.map (·.1)))(ho:P'.Pairwise fun a b=>blt a.1.name b.1.name=true)(hm:∀ p,p∈P'↔p∈P∧p.1.name≠k):AllOf (D.del k) (P'.map (·.1)):=by
 refine ⟨by rw [List.pairwise_map,List.pairwise_map];exact ho,fun u=>?_⟩
 unfold TD.del
 constructor
 ·intro hu
  obtain ⟨p,hp,rfl⟩:=List.mem_map.1 hu
  obtain ⟨h1,h2⟩:=(hm p).1 hp
  rw [if_neg h2]
  exact (hA.mem p.1).1 (List.mem_map.2 ⟨p,h1,rfl⟩)
 ·intro hu
  by_cases e:u.name=k
  ·rw [if_pos e] at hu;cases hu
  ·rw [if_neg e] at hu
   obtain ⟨p,hp,rfl⟩:=List.mem_map.1 ((hA.mem u).2 hu)
   exact List.mem_map.2 ⟨p,(hm p).2 ⟨hp,e⟩,rfl⟩
theorem allOf_nil:AllOf (fun _=>none) (([]:List (TimD×Value)).map (·.1)):=⟨.nil,fun t=>by simp⟩
theorem allOf_some{k:ByteArray}(hA:AllOf D (P.map (·.1)))(hk:∀ k t,D k=some t→t.name=k):(D k).isSome=true↔∃ p∈P,p.1.name=k:=by
 constructor
 ·intro h
  obtain ⟨t,ht⟩:=Option.isSome_iff_exists.1 h
  have hn:=hk k t ht
  obtain ⟨p,hp,rfl⟩:=List.mem_map.1 ((hA.mem t).2 (by rw [hn];exact ht))
  exact ⟨p,hp,hn⟩
 ·rintro ⟨p,hp,rfl⟩
  rw [(hA.mem p.1).1 (List.mem_map.2 ⟨p,hp,rfl⟩)]
  rfl
theorem allOf_at{p:TimD×Value}(hA:AllOf D (P.map (·.1)))(hp:p∈P):D p.1.name=some p.1:=(hA.mem p.1).1 (List.mem_map.2 ⟨p,hp,rfl⟩)
theorem aft_right{t u:TimD}{now:Nat}(h:aft t now=some u)(hr:t.right):u.right∧u.name=t.name∧u.steps=t.steps:=by
 unfold aft at h
 split at h
 ·split at h
  ·cases h
  ·rename_i x _ hlt
   cases h
   unfold TimD.right at hr ⊢
   refine ⟨?_,rfl,rfl⟩
   obtain ⟨h1,h2,h3,h4,h5,_,h7⟩:=hr
   exact ⟨h1,h2,h3,h4,h5,by show x≤_;omega,h7⟩
 ·cases h
theorem soon_head{now:Nat}{Q:List (TimD×Value)}(hL:Lists (D.far now) (Q.map tat)):(Q=[]→∀ k,D.far now k=none)∧∀ q Q',Q=q::Q'→(∃ k,D.far now k=some q.1.at_)∧∀ k a,D.far now k=some a→q.1.at_≤a:=by
 constructor
 ·rintro rfl k
  cases hk:D.far now k with
  | none=>rfl
  | some a=>
   have:=(hL.mem k a).2 hk
   cases this
 ·rintro q Q' rfl
  refine ⟨⟨q.1.name,(hL.mem _ _).1 (by simp [tat])⟩,fun k a hk=>?_⟩
  have h1:=(hL.mem k a).2 hk
  have ho:=hL.ord
  rw [List.map_cons,List.pairwise_cons] at ho
  rw [List.map_cons] at h1
  rcases List.mem_cons.1 h1 with h2 | h2
  ·simp only [tat,Prod.mk.injEq] at h2
   omega
  ·rcases ho.1 _ h2 with h3 | h3
   ·exact Nat.le_of_lt h3
   ·exact Nat.le_of_eq h3.1
end Go.Proofs.YtgcffmhpjphefaaGreatDoor

/- Two lists of names; what a clock is set to. -/
namespace Go.Proofs.YtgcffmhpjphefaaGreatDoor
open Go Go.AE
set_option maxRecDepth 10000
set_option maxHeartbeats 8000000
variable {Z:Go.AE.Road}{s:Spans}
def ltr(now by_:Nat):Nat:=if 4611686018427387904≤now then now else if 4611686018427387904-now<by_ then 4611686018427387904 else now+by_
theorem ltr_lt{now by_:Nat}(h:now<18446744073709551616):ltr now by_<18446744073709551616:=by
 unfold ltr
 split
 ·exact h
 ·split<;>omega
theorem later_calls{A:ASt}{now by_:Nat}:
  CallW Z Tryz.prog 19 [.int .u64 (now:Int),.int .u64 (by_:Int)] A (fun v A'=>v=.int .u64 ((ltr now by_:Nat):Int)∧A=A'):=by
 refine CallW.of_code E0_ok E0_ro fn19 rfl (n:=15) rfl (rs:=[.tmp 4]) rfl (by simp) (codeW_ok E0_ok E0_ro ?_)
 by_cases h1:4611686018427387904≤now
 ·have d1:((now:Int)≥4611686018427387904)=True:=eq_true (by omega)
  have e:ltr now by_=now:=by simp [ltr,h1]
  simp only [z_0,flat,cond_true,if_true,if_false,eq_self,Nat.reduceEqDiff,Nat.reduceAdd,Nat.reduceLT,reduceCtorEq,d1,e]
 ·have d1:((now:Int)≥4611686018427387904)=False:=eq_false (by omega)
  have w1:IntKind.u64.wrap (4611686018427387904-(now:Int))=((4611686018427387904-now:Nat):Int):=by rw [IntKind.wrap_u64];omega
  by_cases h2:4611686018427387904-now<by_
  ·have d2:((by_:Int) > ((4611686018427387904-now:Nat):Int))=True:=eq_true (by omega)
   have e:ltr now by_=4611686018427387904:=by simp [ltr,h1,h2]
   simp only [z_0,flat,cond_true,if_true,if_false,eq_self,Nat.reduceEqDiff,Nat.reduceAdd,Nat.reduceLT,reduceCtorEq,d1,d2,w1,e]
   rfl
  ·have d2:((by_:Int) > ((4611686018427387904-now:Nat):Int))=False:=eq_false (by omega)
   have e:ltr now by_=now+by_:=by simp [ltr,h1,h2]
   have w2:IntKind.u64.wrap ((now:Int)+(by_:Int))=((now+by_:Nat):Int):=by rw [IntKind.wrap_u64];omega
   simp only [z_0,flat,cond_true,if_true,if_false,eq_self,Nat.reduceEqDiff,Nat.reduceAdd,Nat.reduceLT,reduceCtorEq,d1,d2,w1,w2,e]
theorem sneq_self{xo yo:Operand}{k:ByteArray}:aBin2 E0 .neq 9 xo yo (.string k) (.string k)=some (.bool false):=by
 rw [b_sneq];simp
theorem names_same(hro:RoadS Z E0 s){A:ASt}{lo1 lo2:Nat}{v1 v2:Value}{L:List (ByteArray×Nat)}(h1:NamesAt A lo1 v1 L)(h2:NamesAt A lo2 v2 L)(hl:L.length≤1000)(r1:∀ b∈slB v1,(withRo E0 s).ro b=none)(r2:∀ b∈slB v2,(withRo E0 s).ro b=none):
  CallW Z Tryz.prog 24 [v1,v2] A (fun r A'=>r=.bool true∧Fr [] A A'):=by
 refine CallW.of_code (withRo_ok E0_ok) hro.ro (f:=24) (fn:=Tryz.f24) fn24 rfl (n:=26) rfl (rs:=[.tmp 4]) rfl (by simp) (codeW_ok (withRo_ok E0_ok) hro.ro ?_)
 have l1:=fun B=>OwnS.len (E:=E0) h1 ti34 t34_desc B
 have l2:=fun B=>OwnS.len (E:=E0) h2 ti34 t34_desc B
 have fne:∀ q:Int,(q≠q)=False:=fun q=>eq_false (by simp)
 simp only [w_w,z_0,flat,aBuiltin,cond_true,if_true,if_false,eq_self,Nat.reduceEqDiff,Nat.reduceAdd,Nat.reduceLT,reduceCtorEq,l1,l2,fne]
 refine CodeW.mono (Q:=fun o=>∃ T' A',o=.fr ⟨.exit 0,T',A'⟩∧Fr [] A A') ?_ ?_
 ·refine CodeW.loopR (k:=L.length) (fun n T A'=>∃ i,n=L.length-i∧i≤L.length∧tget T 5=.int .i64 ((i:Nat):Int)∧tget T 0=v1∧tget T 1=v2∧Fr [] A A') ?_ ⟨0,rfl,by omega,rfl,rfl,rfl,.refl _ _⟩
  rintro n T A1 ⟨i,rfl,hi,u5,u0,u1,hf⟩
  refine codeW_ok (withRo_ok E0_ok) hro.ro ?_
  have wi:IntKind.i64.wrap ((i:Int)+1)=((i+1:Nat):Int):=by rw [IntKind.wrap_i64];omega
  by_cases e1:i<L.length
  ·have d1:((i:Int)<(L.length:Int))=True:=eq_true (by omega)
   have g1:=OwnS.fr h1 hf (by simp)
   have g2:=OwnS.fr h2 hf (by simp)
   obtain ⟨y,hy⟩:∃ y,L[i]? = some y:=⟨_,List.getElem?_eq_getElem e1⟩
   have hn:=strs_nth hy
   simp only [w_w,z_0,aBuiltin,if_true,if_false,eq_self,Nat.reduceEqDiff,Nat.reduceLT,reduceCtorEq,u5,u0,l1,d1]
   refine CodeW.quiet (withRo_ok E0_ok) hro.ro mixed (by kernel_rfl) (by kernel_rfl) ?_
   rcases g1 with ⟨h0,_⟩ | ⟨b1,c1,tl1,rfl,hb1,_⟩
   ·omega
   rcases g2 with ⟨h0,_⟩ | ⟨b2,c2,tl2,rfl,hb2,_⟩
   ·omega
   have x1:=ix34 (b:=b1) (c:=c1) e1
   have x2:=ix34 (b:=b2) (c:=c2) e1
   have q1:=r1 b1 (by simp [slB])
   have q2:=r2 b2 (by simp [slB])
   simp only [w_w,z_0,flat,cond_true,cond_false,if_true,if_false,List.length_cons,List.length_nil,eq_self,Nat.reduceEqDiff,Nat.reduceAdd,Nat.reduceLT,reduceCtorEq,quietW_nil,quietW_arr,quietW_cons,aStill,freshOp,quietOp,get_empty,get_next,ofVal_none,valEq_int,valEq_str,valEq_bool,valEq_ptr,valEq_slice,List.length_cons,List.length_nil,u5,u0,u1,x1,x2,hb1,hb2,q1,q2,hn,sneq_self,wi]
   exact ⟨L.length-(i+1),by omega,i+1,rfl,by omega,rfl,hf.trans (Fr.bump (by omega))⟩
  ·have d1:((i:Int)<(L.length:Int))=False:=eq_false (by omega)
   simp only [w_w,z_0,aBuiltin,if_true,if_false,eq_self,Nat.reduceEqDiff,Nat.reduceLT,reduceCtorEq,u5,u0,l1,d1]
   exact ⟨_,_,rfl,hf⟩
 ·rintro o ⟨T',A',rfl,hf⟩
  simp only [z_0,flat,cond_true,if_true,eq_self,Nat.reduceLT]
  exact hf
section
variable {A B C:ASt}{U V:Nat→Prop}
theorem FrU.step(h:FrU U A B)(k:FrU V B C)(hv:∀ b,V b→b<A.next→U b):FrU U A C:=by
 obtain ⟨o1,f1,h1⟩:=h
 obtain ⟨o2,f2,h2⟩:=k
 refine ⟨o1++o2.filter fun b=>decide (b<A.next),⟨Nat.le_trans f1.next f2.next,fun b hb hn=>?_⟩,fun b hb=>?_⟩
 ·rw [f2.get b (Nat.lt_of_lt_of_le hb f1.next) fun hm=>hn (List.mem_append.2 (.inr (List.mem_filter.2 ⟨hm,decide_eq_true hb⟩)))]
  exact f1.get b hb fun hm=>hn (List.mem_append.2 (.inl hm))
 ·rcases List.mem_append.1 hb with hb | hb
  ·exact h1 b hb
  ·obtain ⟨h3,h4⟩:=List.mem_filter.1 hb
   exact hv b (h2 b h3) (of_decide_eq_true h4)
theorem FrU.sub(h:FrU U A B)(hv:∀ b,U b→V b):FrU V A B:=by
 obtain ⟨o,f,h1⟩:=h
 exact ⟨o,f,fun b hb=>hv b (h1 b hb)⟩
theorem Fr.us{own:List Nat}(h:Fr own A B):FrU (fun b=>b∈own) A B:=⟨own,h,fun _ h=>h⟩
end
structure Pair(s:Spans)(A:ASt)(x m now n:Nat)(D:TD)(U:Nat→Prop)(P:List (TimD×Value))(r:Value)(Sa:Nat→Prop):Prop where
 tab:TabU s A x now n D U
 doc:DocT s A m now P r Sa
 all:AllOf D (P.map (·.1))
 few:P.length≤n
 off:∀ b,U b→b≠m∧b∉slB r∧¬ Sa b
section
variable {A B:ASt}{x m now n:Nat}{D:TD}{U V Sa:Nat→Prop}{P:List (TimD×Value)}{r:Value}
theorem DocT.frU(h:DocT s A m now P r Sa)(hf:FrU V A B)(h1:∀ b,V b→b≠m∧b∉slB r∧¬ Sa b):DocT s B m now P r Sa:=by
 obtain ⟨o,f,h2⟩:=hf
 exact h.fr f (fun hm=>(h1 _ (h2 _ hm)).1 rfl) (fun b hb hm=>(h1 b (h2 b hm)).2.1 hb) (fun b hb _ hm=>(h1 b (h2 b hm)).2.2 hb)
theorem Pair.frU(h:Pair s A x m now n D U P r Sa)(hf:FrU V A B)(h1:∀ b,V b→¬ U b∧b≠m∧b∉slB r∧¬ Sa b):Pair s B x m now n D U P r Sa:=
 ⟨h.tab.fr hf (fun b hb hv=>(h1 b hv).1 hb),h.doc.frU hf (fun b hb=>(h1 b hb).2),h.all,h.few,h.off⟩
theorem Pair.fr0(h:Pair s A x m now n D U P r Sa)(hf:Fr [] A B):Pair s B x m now n D U P r Sa:=h.frU (V:=fun _=>False) (Fr.u hf) (fun _ h=>h.elim)
theorem Pair.name(h:Pair s A x m now n D U P r Sa):∀ k t,D k=some t→t.name=k:=fun k t hk=>(h.tab.ok k t hk).2
theorem Pair.right(h:Pair s A x m now n D U P r Sa){p:TimD×Value}(hp:p∈P):p.1.right:=(h.tab.ok _ _ (allOf_at h.all hp)).1
theorem Pair.offG(h:Pair s A x m now n D U P r Sa){X:ASt}{U':Nat→Prop}(hg:Grow X U U')(hX:A.next≤X.next):∀ b,U' b→b≠m∧b∉slB r∧¬ Sa b:=fun b hb=>by
 rcases hg b hb with h1 | h1
 ·exact h.off b h1
 ·have:=h.doc.lt
  exact ⟨by omega,fun hm=>by have:=(h.doc.own.low b hm).2;omega,fun hm=>by have:=(h.doc.sd b hm).2.2;omega⟩
theorem Pair.le(h:Pair s A x m now n D U P r Sa){k:Nat}(hk:n≤k):Pair s A x m now k D U P r Sa:=⟨h.tab.le hk,h.doc,h.all,Nat.le_trans h.few hk,h.off⟩
end
section
variable {P:Program}{R1 R2:Tgt→List Value→ASt→(Value→ASt→Prop)→Prop}{f g:FuncId}{ar br:List Value}{Pr:ASt→Prop}{Sp:ASt→Value→ASt→Prop}{A:ASt}{K:Value→ASt→Prop}
def NoC(R:Tgt→List Value→ASt→(Value→ASt→Prop)→Prop)(f:FuncId):Prop:=∀ l A S,¬ R (.fn f) l A S
theorem NoC.one(h:f≠g):NoC (RO f ar Pr Sp) g:=fun l A S ⟨_,e,_⟩=>by cases e;exact h rfl
theorem NoC.two(h1:NoC R1 g)(h2:NoC R2 g):NoC (RU R1 R2) g:=fun l A S h=>h.elim (h1 l A S) (h2 l A S)
theorem conL(h:conC R1 (.fn f) ar A K)(hn:NoC R2 f):conC (RU R1 R2) (.fn f) ar A K:=by
 obtain ⟨⟨S,h1⟩,h2⟩:=h
 exact ⟨⟨S,.inl h1⟩,fun S' h'=>h'.elim (fun h3=>h2 S' h3) (fun h3=>absurd h3 (hn _ _ _))⟩
theorem conR(h:conC R2 (.fn f) ar A K)(hn:NoC R1 f):conC (RU R1 R2) (.fn f) ar A K:=by
 obtain ⟨⟨S,h1⟩,h2⟩:=h
 exact ⟨⟨S,.inr h1⟩,fun S' h'=>h'.elim (fun h3=>absurd h3 (hn _ _ _)) (fun h3=>h2 S' h3)⟩
end
end Go.Proofs.YtgcffmhpjphefaaGreatDoor

/- The document's calendar; a timer behind it fired, by the document; what a script's clock is set to. -/
namespace Go.Proofs.YtgcffmhpjphefaaGreatDoor
open Go Go.AE
set_option maxRecDepth 10000
set_option maxHeartbeats 4000000
variable {Z:Go.AE.Road}{s:Spans}
theorem dsteps_spec{A:ASt}{a e t:Nat}(he:e<18446744073709551616)(ht:t<18446744073709551616)(hat:a≤t):
  CallW Z Tryz.prog 94 [.int .u64 (a:Int),.int .u64 (e:Int),.int .u64 (t:Int)] A (fun v A'=>v=.int .u64 ((if e=0 then 0 else (t-a) / e:Nat):Int)∧A=A'):=by
 refine CallW.of_code E0_ok E0_ro fn94 rfl (n:=14) rfl (rs:=[.tmp 6]) rfl (by simp) (codeW_ok E0_ok E0_ro ?_)
 simp only [z_0,flat,cond_true,if_true,if_false,eq_self,Nat.reduceEqDiff,Nat.reduceAdd,Nat.reduceLT,reduceCtorEq]
 refine brW_dec (fun h0=>?_) (fun h0=>?_)
 ·have h0':e=0:=by omega
  simp only [z_0,flat,cond_true,if_false,eq_self,Nat.reduceEqDiff,Nat.reduceLT,reduceCtorEq,h0',if_pos]
  trivial
 ·have h0':e≠0:=by omega
  have e3:=wrap_sub ht hat
  have hq:∀ xo yo,aBin2 E0 .quo 22 xo yo (.int .u64 ((t-a:Nat):Int)) (.int .u64 (e:Int))=some (.int .u64 (((t-a) / e:Nat):Int)):=fun xo yo=>by
   rw [b_quo (by omega)]
   have e4:((t-a:Nat):Int).tdiv (e:Int)=(((t-a) / e:Nat):Int):=rfl
   rw [e4,wrap_nat (Nat.lt_of_le_of_lt (Nat.div_le_self _ _) (by omega))]
  simp only [z_0,if_true,if_false,eq_self,Nat.reduceEqDiff,Nat.reduceLT,reduceCtorEq,e3,hq,if_neg h0']
theorem dnext_spec{A:ASt}{a e t:Nat}(ha:a<18446744073709551616)(he:e<18446744073709551616)(ht:t<18446744073709551616):
  CallW Z Tryz.prog 76 [.int .u64 (a:Int),.int .u64 (e:Int),.int .u64 (t:Int)] A (fun v A'=>v=optV (nxt a e t)∧Fr [] A A'):=by
 refine CallW.of_code E0_ok E0_ro fn76 rfl (n:=32) rfl (rs:=[.tmp 6,.tmp 7]) rfl (by simp) (codeW_ok E0_ok E0_ro ?_)
 simp only [z_0,flat,cond_true,if_true,if_false,eq_self,Nat.reduceEqDiff,Nat.reduceAdd,Nat.reduceLT,reduceCtorEq]
 refine brW_dec (fun h=>?_) (fun h=>?_)
 ·have hl:t<a:=by omega
  simp only [z_0,flat,cond_true,if_true,if_false,eq_self,Nat.reduceEqDiff,Nat.reduceLT,reduceCtorEq,nxt,hl,optV]
  exact .refl _ _
 ·have hl:¬ t<a:=by omega
  have hle:a≤t:=by omega
  simp only [z_0,w_pl,if_true,if_false,List.append_nil,List.nil_append,eq_self,Nat.reduceEqDiff,Nat.reduceLT,reduceCtorEq]
  refine CallT.mono (CallT.of_call (dsteps_spec he ht hle)) ?_
  rintro _ _ ⟨rfl,rfl⟩
  by_cases h0:e=0
  ·have d0:((e:Int)=0)=True:=eq_true (by omega)
   have en:nxt a e t=none:=by simp [nxt,hl,h0]
   simp only [z_0,flat,cond_true,if_true,if_false,eq_self,Nat.reduceEqDiff,Nat.reduceLT,reduceCtorEq,d0,undef,en,optV]
   exact .refl _ _
  ·have d0:((e:Int)=0)=False:=eq_false (by omega)
   have hdm:=Nat.div_add_mod (t-a) e
   have hm1:e*((t-a) / e)=t-a-(t-a) % e:=by omega
   have hml:=Nat.mod_le (t-a) e
   have ew:IntKind.u64.wrap ((e:Int)*(((t-a) / e:Nat):Int))=((e*((t-a) / e):Nat):Int):=by
    rw [← Int.natCast_mul,wrap_nat (by omega)]
   have ew2:IntKind.u64.wrap ((a:Int)+((e*((t-a) / e):Nat):Int))=((t-rst a e t:Nat):Int):=by
    have:rst a e t=(t-a) % e:=by simp [rst,hl,h0]
    rw [this,← Int.natCast_add,wrap_nat (by omega),hm1]
    congr 1
    omega
   have hr:rst a e t≤t:=by
    have:rst a e t=(t-a) % e:=by simp [rst,hl,h0]
    omega
   have ew3:IntKind.u64.wrap (18446744073709551615-((t-rst a e t:Nat):Int))=((18446744073709551615-(t-rst a e t):Nat):Int):=by
    rw [IntKind.wrap_u64];omega
   by_cases h1:18446744073709551616≤t-rst a e t+e
   ·have d1:((e:Int) > ((18446744073709551615-(t-rst a e t):Nat):Int))=True:=eq_true (by omega)
    have en:nxt a e t=none:=by simp [nxt,hl,h0,h1]
    simp only [z_0,flat,cond_true,cond_false,if_true,if_false,eq_self,Nat.reduceEqDiff,Nat.reduceLT,reduceCtorEq,if_neg h0,ew,ew2,ew3,d0,d1,en,optV]
    exact .refl _ _
   ·have d1:((e:Int) > ((18446744073709551615-(t-rst a e t):Nat):Int))=False:=eq_false (by omega)
    have en:nxt a e t=some (t-rst a e t+e):=by simp [nxt,hl,h0,h1]
    have em:IntKind.u64.wrap (((t-rst a e t:Nat):Int)+(e:Int))=((t-rst a e t+e:Nat):Int):=by
     rw [IntKind.wrap_u64];omega
    simp only [z_0,flat,cond_true,cond_false,if_true,if_false,eq_self,Nat.reduceEqDiff,Nat.reduceLT,reduceCtorEq,if_neg h0,ew,ew2,ew3,d0,d1,en,optV,em]
    exact .refl _ _
theorem dafter_spec{A:ASt}{t:TimD}{dv:Value}{now:Nat}(hsd:Go.AE.single dv=true)(ha:t.at_<18446744073709551616)(he:t.every<18446744073709551616)(hn:now<18446744073709551616):
  CallW Z Tryz.prog 49 [tval t dv,.int .u64 (now:Int)] A (fun r A'=>r=.tuple #[tval ((aft t now).getD zt) (if (aft t now).isSome then dv else .slice none 0 0),.bool (aft t now).isSome]∧Fr [] A A'):=by
 refine CallW.of_code E0_ok E0_ro fn49 rfl (n:=27) rfl (rs:=[.cell 4 30,.tmp 5]) rfl (by simp) (codeW_ok E0_ok E0_ro ?_)
 simp only [z_0,w_pl,flat,aFieldAddr,cond_true,cond_false,if_true,if_false,List.append_nil,List.nil_append,eq_self,Nat.reduceEqDiff,Nat.reduceAdd,Nat.reduceLT,reduceCtorEq,tval,box25,al25,ptrTo]
 generalize hC:ASt.new (ASt.new A _) _=C
 obtain ⟨c1,c2,hCn,hf⟩:=two_new hC
 clear hC
 refine CallT.mono (CallT.of_call (dnext_spec ha he hn)) ?_
 rintro _ D ⟨rfl,hf2⟩
 have hA:C.next≤D.next:=hf2.next
 have d1:=(hf2.get _ (by omega) (by simp)).trans c1
 have d2:=(hf2.get _ (by omega) (by simp)).trans c2
 have hzs:singles [.string zt.name,.int .i64 zt.ver,.int .u64 (zt.at_:Int),.int .u64 (zt.every:Int),.slice none 0 0]=true:=rfl
 have hsg:∀ x:Nat,singles [.string t.name,.int .i64 t.ver,.int .u64 (x:Int),.int .u64 (t.every:Int),dv]=true:=fun x=>by
  show (true && (true && (true && (true && (Go.AE.single dv && true)))))=true
  rw [hsd];rfl
 have none_:aft t now=none→(∃ x,(nxt t.at_ t.every now)=some x∧4611686018427387904<x)∨nxt t.at_ t.every now=none:=by
  intro e
  unfold aft at e
  cases hx:nxt t.at_ t.every now with
  | none=>exact .inr rfl
  | some x=>
   rw [hx] at e
   simp only at e
   split at e
   ·rename_i hlt;exact .inl ⟨x,rfl,hlt⟩
   ·cases e
 cases ho:aft t now with
 | none=>
  have g2:(D.set (A.next+1) (.row [.string zt.name,.int .i64 zt.ver,.int .u64 (zt.at_:Int),.int .u64 (zt.every:Int),.slice none 0 0] 5 false)).get (A.next+1)=some (.row [.string zt.name,.int .i64 zt.ver,.int .u64 (zt.at_:Int),.int .u64 (zt.every:Int),.slice none 0 0] 5 false):=by rw [ASt.get_set,if_pos rfl]
  have fin:Fr [] A (D.set (A.next+1) (.row [.string zt.name,.int .i64 zt.ver,.int .u64 (zt.at_:Int),.int .u64 (zt.every:Int),.slice none 0 0] 5 false)):=(hf.trans hf2).set (.inr (by omega))
  rcases none_ ho with ⟨x,hx,hlt⟩ | hx
  ·have dx:((x:Int) > 4611686018427387904)=True:=eq_true (by omega)
   simp only [z_0,flat,cond_true,cond_false,if_true,if_false,eq_self,Nat.reduceEqDiff,Nat.reduceLT,reduceCtorEq,hx,optV,dx,bl25,st25 d2 hzs,tval,g2,cut5,undef,Option.isSome,Option.getD]
   exact fin
  ·simp only [z_0,flat,cond_true,if_true,if_false,eq_self,Nat.reduceEqDiff,Nat.reduceLT,reduceCtorEq,hx,optV,bl25,st25 d2 hzs,tval,g2,cut5,undef,Option.isSome,Option.getD]
   exact fin
 | some u=>
  have hx:nxt t.at_ t.every now=some u.at_∧u={ t with at_:=u.at_ }∧¬ 4611686018427387904<u.at_:=by
   unfold aft at ho
   cases hx:nxt t.at_ t.every now with
   | none=>rw [hx] at ho;cases ho
   | some x=>
    rw [hx] at ho
    simp only at ho
    split at ho
    ·cases ho
    ·rename_i hlt;cases ho;exact ⟨rfl,rfl,hlt⟩
  obtain ⟨hx,hu,hlt⟩:=hx
  have hun:u.name=t.name:=by rw [hu]
  have huv:u.ver=t.ver:=by rw [hu]
  have hue:u.every=t.every:=by rw [hu]
  have dx:((u.at_:Int) > 4611686018427387904)=False:=eq_false (by omega)
  simp only [z_0,flat,aFieldAddr,cond_true,cond_false,if_true,if_false,eq_self,Nat.reduceEqDiff,Nat.reduceLT,reduceCtorEq,hx,optV,dx,undef,st22 d1]
  generalize hE:D.set A.next _=X
  have x1:X.get A.next=some (.row [.string t.name,.int .i64 t.ver,.int .u64 (u.at_:Int),.int .u64 (t.every:Int),dv] 5 false):=by rw [← hE,ASt.get_set,if_pos rfl]
  have x2:X.get (A.next+1)=D.get (A.next+1):=by rw [← hE,ASt.get_set,if_neg (by omega)]
  have x2:=x2.trans d2
  have hfX:Fr [] A X:=by rw [← hE];exact (hf.trans hf2).set (.inr (Nat.le_refl _))
  have hXn:X.next=D.next:=by rw [← hE,ASt.next_set]
  clear hE
  have g2:(X.set (A.next+1) (.row [.string t.name,.int .i64 t.ver,.int .u64 (u.at_:Int),.int .u64 (t.every:Int),dv] 5 false)).get (A.next+1)=some (.row [.string t.name,.int .i64 t.ver,.int .u64 (u.at_:Int),.int .u64 (t.every:Int),dv] 5 false):=by rw [ASt.get_set,if_pos rfl]
  simp only [z_0,flat,cond_true,if_true,if_false,eq_self,Nat.reduceEqDiff,Nat.reduceLT,reduceCtorEq,cut5,st25 x2 (hsg u.at_),g2,Option.isSome,Option.getD,tval,hun,huv,hue]
  exact hfX.set (.inr (by omega))
end Go.Proofs.YtgcffmhpjphefaaGreatDoor

/- What is due first fires, in both tables. -/
namespace Go.Proofs.YtgcffmhpjphefaaGreatDoor
open Go Go.AE
set_option maxRecDepth 10000
set_option maxHeartbeats 16000000
variable {Z:Go.AE.Road}{s:Spans}
theorem st25v{A:ASt}{b:Nat}{t:TimD}{dv c0 c1 c2 c3 c4:Value}{tl:Bool}(h:A.get b=some (.row [c0,c1,c2,c3,c4] 5 tl))(hs:Go.AE.single dv=true):aStore E0 30 (.pointer (some ⟨b,0,none⟩)) (tval t dv) A=some (A.set b (.row (tcell t dv) 5 tl)):=st25 h (tim_sg hs)
theorem fr_alloc{E:Env}{T:Tmps}{t:TypeId}:aFresh E (.alloc t) T=aAlloc E t:=by simp only [aFresh]
theorem newT{A:ASt}{b:Nat}{t:TimD}{dv:Value}(hs:Go.AE.single dv=true):aStore E0 30 (.pointer (some ⟨b,0,none⟩)) (tval t dv) (A.set b (.row [.string ByteArray.empty,.int .i64 0,.int .u64 0,.int .u64 0,.slice none 0 0] 5 false))=some ((A.set b (.row [.string ByteArray.empty,.int .i64 0,.int .u64 0,.int .u64 0,.slice none 0 0] 5 false)).set b (.row (tcell t dv) 5 false)):=st25v (by rw [ASt.get_set,if_pos rfl]) hs
theorem tcut{t:TimD}{dv:Value}:cut (tcell t dv) 0 5=some (tcell t dv):=rfl
theorem tagg{t:TimD}{dv:Value}:Value.agg (tcell t dv).toArray=tval t dv:=rfl
section
variable {A:ASt}{x m now n:Nat}{D:TD}{U Sa:Nat→Prop}{P:List (TimD×Value)}{r:Value}
theorem fires_spec(hro:RoadS Z E0 s)(ht:TabZ Z)(h:Pair s A x m now n D U P r Sa)(hn:n≤900)(hnow:now<18446744073709551616):
  CallW Z Tryz.prog 26 [.pointer (some ⟨x,0,none⟩),.pointer (some ⟨m,0,none⟩)] A (fun _ A'=>∃ D' U' P' r',Pair s A' x m now (n+1) D' U' P' r' Sa∧Grow A U U'∧(∀ b∈slB r',b∈slB r∨A.next≤b)∧FrU (fun b=>U b∨b=m) A A'):=by
 refine CallW.assume hro fun hnr=>?_
 refine CallW.of_code (withRo_ok E0_ok) hro.ro (f:=26) (fn:=Tryz.f26) fn26 rfl (n:=56) rfl (rs:=[]) rfl (by simp) (codeW_ok (withRo_ok E0_ok) hro.ro ?_)
 have hPl:P.length≤1000:=by have:=h.few;omega
 simp only [w_w,z_0,w_pl,if_true,if_false,List.append_nil,List.nil_append,eq_self,Nat.reduceEqDiff,Nat.reduceAdd,Nat.reduceLT,reduceCtorEq]
 refine CallT.mono (CallT.of_call (ddue_spec hro h.doc hPl)) ?_
 rintro v B ⟨Q,ho,hQ,hm,hl,hf⟩
 have nB:=hf.next
 have hsl:=slAtB (s:=s) ho hnr
 obtain ⟨vb,vc,rfl⟩:∃ vb vc,v=.slice vb Q.length vc:=by
  obtain ⟨b,c,e⟩:=hsl.form
  exact ⟨b,c,by rw [e,List.length_map]⟩
 have hB:=h.fr0 hf
 have len1:=timLen hsl
 cases Q with
 | nil=>
  have d0:(((0:Nat):Int)=0)=True:=eq_true rfl
  have len1:∀ C,aLen E0 23 (.slice vb 0 vc) C=some (.int .i64 ((0:Nat):Int)):=len1
  simp only [w_w,z_0,flat,aBuiltin,cond_true,if_true,if_false,List.length_nil,eq_self,Nat.reduceEqDiff,Nat.reduceAdd,Nat.reduceLT,reduceCtorEq,len1,d0]
  exact ⟨D,U,P,r,hB.le (by omega),fun b hb=>.inl hb,fun b hb=>.inl hb,Fr.u hf⟩
 | cons q Q'=>
  have hqP:q∈P:=((hm q).1 (by simp)).1
  have hqr:=h.right hqP
  have hq5:=hB.doc.st q hqP
  have hvB:=ho.low
  have d0:(((Q'.length+1:Nat):Int)=0)=False:=eq_false (by omega)
  have len1:∀ C,aLen E0 23 (.slice vb (Q'.length+1) vc) C=some (.int .i64 ((Q'.length+1:Nat):Int)):=len1
  have hrow:=hB.doc.row
  obtain ⟨b1,o1,c1,hx1,hc1,hcut1,hn0,_,hb1⟩:=timIx hsl (i:=0) (p:=q) rfl
  have hx0:aIndexAddr E0 23 (.slice vb (Q'.length+1) vc) (.int .i64 0)=some (.pointer (some ⟨b1,o1,none⟩)):=hx1 .i64
  have hb1:=hvB b1 hb1
  have hsq:=hq5.single
  have vt:valEq (tval q.1 q.2) (tval q.1 q.2)=true:=val25 hq5
  have rb1:(withRo E0 s).ro b1=none:=hnr b1 (by omega)
  have rm:(withRo E0 s).ro m=none:=h.doc.rs m (.inl rfl)
  have rng:StepsIn q.1.steps:=⟨hqr.steps,h.tab.rg _ _ (allOf_at h.all hqP)⟩
  have hat:q.1.at_<18446744073709551616:=by have:=hqr.2.2.2.2.2.1;omega
  have hev:q.1.every<18446744073709551616:=by have:=hqr.2.2.2.2.2.2;omega
  have fb:Fr [] B { heap:=B.heap,next:=B.next+14 }:=Fr.bump (by omega)
  have hlm:=h.doc.lt
  have hUlt:=h.tab.lt
  cases hoa:aft q.1 now with
  | none=>
   have hR:=RO_ok (Z:=Z) (P:=Tryz.prog) (f:=39) (ar:=[tval q.1 q.2,.int .u64 (now:Int)]) (Pr:=fun A'=>Fr [] B A') (Sp:=fun A1 r A2=>∃ dv',r=.tuple #[tval zt dv',.bool false]∧Go.AE.single dv'=true∧Fr [] A1 A2) (fun A' hp=>CallW.mono (after_spec hro (hq5.fr hp (by simp)) hqr.steps hat hev hnow) (by
    rintro r A2 ⟨dv',e,h2,h3⟩
    rw [hoa] at e
    exact ⟨dv',e,h2.single,h3⟩))
   simp only [w_w,z_0,flat,aBuiltin,cond_true,if_true,if_false,List.length_cons,eq_self,Nat.reduceEqDiff,Nat.reduceAdd,Nat.reduceLT,reduceCtorEq,len1,d0]
   refine CodeW.seqf (withRo_ok E0_ok) hro.ro mixed hR [0,1,2,3,4,5,6,11,7,8,9,10,12,13] [11] [[],[],[],[],[],[],[],[],[],[],[],[],[7],[7]] (by simp only [reorder,reoGo,strip,List.map_cons,List.map_nil,opAt,remap,nth,Option.map,σ,place',List.length_cons,List.length_nil,Nat.reduceAdd];rfl) (by decide +kernel) (by kernel_rfl) (by kernel_rfl) (by kernel_rfl) (by kernel_rfl) ?_
   simp only [w_w,z_0,w_pl,flat,aFieldAddr,cond_true,cond_false,if_true,if_false,List.length_cons,List.length_nil,List.append_nil,List.nil_append,eq_self,Nat.reduceEqDiff,Nat.reduceAdd,Nat.reduceLT,reduceCtorEq,q_0,q_1,q_2,f_0,hasN,List.length_cons,List.length_nil,hrow,hx0,hc1,hcut1,tagg,fr_alloc,al25,ptrTo,rb1,rm,vt]
   refine conRO fb ?_
   rintro _ C ⟨dv',rfl,hs',fC⟩
   have nC:=fC.next
   have nC:B.next+14≤C.next:=nC
   simp only [w_w,z_0,flat,cond_true,if_true,if_false,eq_self,Nat.reduceEqDiff,Nat.reduceAdd,Nat.reduceLT,reduceCtorEq,q_0,q_1,q_2,f_0,hasN,newT hs']
   generalize hX:ASt.set (ASt.set C _ _) _ _=X
   have fBX:Fr [] B X:=by rw [← hX];exact ((fb.trans fC).set (.inr (by omega))).set (.inr (by omega))
   clear hX
   have nX:=fBX.next
   have g1:=fBX.get b1 hb1.2 (by simp)
   simp only [w_w,z_0,aFieldAddr,cond_false,if_true,if_false,List.append_nil,List.nil_append,eq_self,Nat.reduceEqDiff,Nat.reduceLT,reduceCtorEq,hx0,g1,hc1,hn0]
   refine CallT.mono (CallT.of_call (tU_drop (k:=q.1.name) (hB.tab.fr0 fBX))) ?_
   rintro _ Y ⟨rfl,U',hT',hgr,fY⟩
   have nY:=fY.next
   have g2:=(fY.get (b:=b1) (by omega) (fun hu=>by have:=hUlt b1 hu;omega)).trans g1
   have hdY:=(hB.doc.fr0 fBX).frU fY h.off
   have hrowY:=hdY.row
   have hR2:=RO_ok (Z:=Z) (P:=Tryz.prog) (f:=49) (ar:=[tval q.1 q.2,.int .u64 (now:Int)]) (Pr:=fun _=>True) (Sp:=fun A1 r A2=>r=.tuple #[tval zt (.slice none 0 0),.bool false]∧Fr [] A1 A2) (fun A' _=>CallW.mono (dafter_spec hsq hat hev hnow) (by
    rintro r A2 ⟨e,h3⟩
    rw [hoa] at e
    exact ⟨e,h3⟩))
   simp only [z_0,Nat.reduceLT]
   refine CodeW.seqf (withRo_ok E0_ok) hro.ro mixed hR2 [0,1,2,3,4,5,6,11,7,8,9,10,12,13] [11] [[],[],[],[],[],[],[],[],[],[],[],[],[7],[7]] (by simp only [reorder,reoGo,strip,List.map_cons,List.map_nil,opAt,remap,nth,Option.map,σ,place',List.length_cons,List.length_nil,Nat.reduceAdd];rfl) (by decide +kernel) (by kernel_rfl) (by kernel_rfl) (by kernel_rfl) (by kernel_rfl) ?_
   simp only [w_w,z_0,w_pl,flat,aFieldAddr,cond_true,cond_false,if_true,if_false,List.length_cons,List.length_nil,List.append_nil,List.nil_append,eq_self,Nat.reduceEqDiff,Nat.reduceAdd,Nat.reduceLT,reduceCtorEq,q_0,q_1,q_2,f_0,hasN,List.length_cons,List.length_nil,hrowY,hx0,g2,hc1,hcut1,tagg,fr_alloc,al25,ptrTo,rb1,rm,vt]
   refine conRO trivial ?_
   rintro _ C2 ⟨rfl,fC2⟩
   have nC2:Y.next+14≤C2.next:=fC2.next
   have hs0:Go.AE.single (.slice none 0 0)=true:=rfl
   simp only [w_w,z_0,flat,cond_true,if_true,if_false,eq_self,Nat.reduceEqDiff,Nat.reduceAdd,Nat.reduceLT,reduceCtorEq,q_0,q_1,q_2,f_0,hasN,newT hs0]
   generalize hX:ASt.set (ASt.set C2 _ _) _ _=W
   have fYW:Fr [] Y W:=by rw [← hX];exact (((Fr.bump (by omega):Fr [] Y { heap:=Y.heap,next:=Y.next+14 }).trans fC2).set (.inr (by omega))).set (.inr (by omega))
   clear hX
   have nW:=fYW.next
   have g3:=(fYW.get b1 (by omega) (by simp)).trans g2
   simp only [w_w,z_0,w_pl,aFieldAddr,cond_false,if_true,if_false,List.append_nil,List.nil_append,eq_self,Nat.reduceEqDiff,Nat.reduceLT,reduceCtorEq,hx0,g3,hc1,hn0]
   refine CallT.mono (CallT.of_call (ddrop_spec hro (k:=q.1.name) (hdY.fr0 fYW) hPl)) ?_
   rintro _ V ⟨P',r',⟨b,rfl,_⟩,hdoc,hsub,hmem,fm,hr'⟩
   have hofU:=h.offG hgr (by omega)
   have hTW:=(hT'.fr0 fYW)
   have hTlt:=hT'.lt
   simp only [z_0,Nat.reduceLT]
   refine ⟨D.del q.1.name,U',P',r',⟨(hTW.fr (Fr.us fm) (fun b hb hm=>by have:=(hofU b hb).1;simp only [List.mem_singleton] at hm;exact this hm)).le (by omega),hdoc,allOf_del h.all hdoc.ord hmem,by have:=hsub.length_le;have:=h.few;omega,fun b hb=>⟨(hofU b hb).1,fun hm=>?_,(hofU b hb).2.2⟩⟩,fun b hb=>?_,fun b hb=>?_,?_⟩
   ·rcases hr' b hm with h1 | h1
    ·exact (hofU b hb).2.1 h1
    ·have:=hTlt b hb;omega
   ·rcases hgr b hb with h1 | h1
    ·exact .inl h1
    ·exact .inr (by omega)
   ·rcases hr' b hb with h1 | h1
    ·exact .inl h1
    ·exact .inr (by omega)
   ·have f1:FrU (fun b=>U b∨b=m) A X:=Fr.u (hf.trans fBX)
    have f2:=f1.step fY (fun b hb _=>.inl hb)
    have f3:=f2.step (Fr.u (U:=fun _=>False) fYW) (fun b hb _=>hb.elim)
    exact f3.step (Fr.us fm) (fun b hb _=>.inr (by simpa using hb))
  | some u=>
   obtain ⟨hur,hun,hus⟩:=aft_right hoa hqr
   have hR:=RO_ok (Z:=Z) (P:=Tryz.prog) (f:=39) (ar:=[tval q.1 q.2,.int .u64 (now:Int)]) (Pr:=fun A'=>Fr [] B A') (Sp:=fun A1 r A2=>∃ dv',r=.tuple #[tval u dv',.bool true]∧Steps (withRo E0 s) A2 (fun b=>A1.next≤b) dv' u.steps∧Fr [] A1 A2) (fun A' hp=>CallW.mono (after_spec hro (hq5.fr hp (by simp)) hqr.steps hat hev hnow) (by
    rintro r A2 ⟨dv',e,h2,h3⟩
    rw [hoa] at e h2
    exact ⟨dv',e,h2,h3⟩))
   simp only [w_w,z_0,flat,aBuiltin,cond_true,if_true,if_false,List.length_cons,eq_self,Nat.reduceEqDiff,Nat.reduceAdd,Nat.reduceLT,reduceCtorEq,len1,d0]
   refine CodeW.seqf (withRo_ok E0_ok) hro.ro mixed hR [0,1,2,3,4,5,6,11,7,8,9,10,12,13] [11] [[],[],[],[],[],[],[],[],[],[],[],[],[7],[7]] (by simp only [reorder,reoGo,strip,List.map_cons,List.map_nil,opAt,remap,nth,Option.map,σ,place',List.length_cons,List.length_nil,Nat.reduceAdd];rfl) (by decide +kernel) (by kernel_rfl) (by kernel_rfl) (by kernel_rfl) (by kernel_rfl) ?_
   simp only [w_w,z_0,w_pl,flat,aFieldAddr,cond_true,cond_false,if_true,if_false,List.length_cons,List.length_nil,List.append_nil,List.nil_append,eq_self,Nat.reduceEqDiff,Nat.reduceAdd,Nat.reduceLT,reduceCtorEq,q_0,q_1,q_2,f_0,hasN,List.length_cons,List.length_nil,hrow,hx0,hc1,hcut1,tagg,fr_alloc,al25,ptrTo,rb1,rm,vt]
   refine conRO fb ?_
   rintro _ C ⟨dv',rfl,hd',fC⟩
   have nC:B.next+14≤C.next:=fC.next
   have hd':Steps (withRo E0 s) C (fun b=>B.next+14≤b) dv' u.steps:=hd'
   simp only [w_w,z_0,cond_true,if_true,if_false,eq_self,Nat.reduceEqDiff,Nat.reduceAdd,Nat.reduceLT,reduceCtorEq,q_0,q_1,q_2,f_0,hasN,newT hd'.single]
   generalize hX:ASt.set (ASt.set C _ _) _ _=X
   have fBX:Fr [] B X:=by rw [← hX];exact ((fb.trans fC).set (.inr (by omega))).set (.inr (by omega))
   have x11:X.get (B.next+7)=some (.row (tcell u dv') 5 false):=by rw [← hX,ASt.get_set,if_pos rfl]
   have hdX:Steps (withRo E0 s) X (fun b=>B.next+14≤b) dv' u.steps:=by
    rw [← hX]
    exact hd'.fr (own:=[B.next+7]) (((Fr.refl _ _).set (.inl (by simp))).set (.inl (by simp))) (fun b hb _ hm=>by simp only [List.mem_singleton] at hm;omega)
   clear hX
   have nX:=fBX.next
   have g1:=fBX.get b1 hb1.2 (by simp)
   simp only [w_w,z_0,if_true,if_false,List.append_nil,List.nil_append,eq_self,Nat.reduceEqDiff,Nat.reduceLT,reduceCtorEq,tcut,tagg]
   refine CallT.mono (CallT.of_call (tU_set hro ht (hB.tab.fr0 fBX) (by omega) hdX (by rw [hus];exact rng) (by have:=hur.2.2.2.2.2.1;omega) (fun b hb _ hu=>by have:=hUlt b hu;omega))) ?_
   rintro r1 Y ⟨D',U',hr,hT',hgr,fY⟩
   obtain ⟨rfl,rfl⟩:r1=.int .i64 0∧D'=D.put u:=by
    rcases hr with ⟨_,h1,h2⟩ | ⟨h1,_⟩
    ·exact ⟨h1,h2⟩
    ·exact absurd hur h1
   have nY:=fY.next
   have g2:=(fY.get (b:=b1) (by omega) (fun hu=>by have:=hUlt b1 hu;omega)).trans g1
   have hdY:=(hB.doc.fr0 fBX).frU fY h.off
   have hrowY:=hdY.row
   have hR2:=RO_ok (Z:=Z) (P:=Tryz.prog) (f:=49) (ar:=[tval q.1 q.2,.int .u64 (now:Int)]) (Pr:=fun _=>True) (Sp:=fun A1 r A2=>r=.tuple #[tval u q.2,.bool true]∧Fr [] A1 A2) (fun A' _=>CallW.mono (dafter_spec hsq hat hev hnow) (by
    rintro r A2 ⟨e,h3⟩
    rw [hoa] at e
    exact ⟨e,h3⟩))
   simp only [z_0,Nat.reduceLT]
   refine CodeW.seqf (withRo_ok E0_ok) hro.ro mixed hR2 [0,1,2,3,4,5,6,11,7,8,9,10,12,13] [11] [[],[],[],[],[],[],[],[],[],[],[],[],[7],[7]] (by simp only [reorder,reoGo,strip,List.map_cons,List.map_nil,opAt,remap,nth,Option.map,σ,place',List.length_cons,List.length_nil,Nat.reduceAdd];rfl) (by decide +kernel) (by kernel_rfl) (by kernel_rfl) (by kernel_rfl) (by kernel_rfl) ?_
   simp only [w_w,z_0,w_pl,flat,aFieldAddr,cond_true,cond_false,if_true,if_false,List.length_cons,List.length_nil,List.append_nil,List.nil_append,eq_self,Nat.reduceEqDiff,Nat.reduceAdd,Nat.reduceLT,reduceCtorEq,q_0,q_1,q_2,f_0,hasN,List.length_cons,List.length_nil,hrowY,hx0,g2,hc1,hcut1,tagg,fr_alloc,al25,ptrTo,rb1,rm,vt]
   refine conRO trivial ?_
   rintro _ C2 ⟨rfl,fC2⟩
   have nC2:Y.next+14≤C2.next:=fC2.next
   simp only [w_w,z_0,cond_true,if_true,if_false,eq_self,Nat.reduceEqDiff,Nat.reduceAdd,Nat.reduceLT,reduceCtorEq,q_0,q_1,q_2,f_0,hasN,newT hsq]
   generalize hX:ASt.set (ASt.set C2 _ _) _ _=W
   have fYW:Fr [] Y W:=by rw [← hX];exact (((Fr.bump (by omega):Fr [] Y { heap:=Y.heap,next:=Y.next+14 }).trans fC2).set (.inr (by omega))).set (.inr (by omega))
   have w11:W.get (Y.next+7)=some (.row (tcell u q.2) 5 false):=by rw [← hX,ASt.get_set,if_pos rfl]
   clear hX
   have nW:=fYW.next
   have hdW:=hdY.fr0 fYW
   simp only [w_w,z_0,w_pl,if_true,if_false,List.append_nil,List.nil_append,eq_self,Nat.reduceEqDiff,Nat.reduceLT,reduceCtorEq,tcut,tagg]
   refine CallT.mono (CallT.of_call (dset_spec hro hdW hPl (t:=u) (dv:=q.2) (by rw [hus];exact hdW.st q hqP) (by rw [hus];exact rng))) ?_
   rintro r2 V hV
   obtain ⟨P',r',_,rfl,hdoc,hlen,hmem,fm,hr'⟩:=hV.resolve_right (fun h1=>h1.1 hur)
   have hofU:=h.offG hgr (by omega)
   have hTW:=(hT'.fr0 fYW)
   have hTlt:=hT'.lt
   simp only [z_0,Nat.reduceLT]
   refine ⟨D.put u,U',P',r',⟨hTW.fr (Fr.us fm) (fun b hb hm=>by have:=(hofU b hb).1;simp only [List.mem_singleton] at hm;exact this hm),hdoc,allOf_put h.all hdoc.ord hmem,by have:=h.few;omega,fun b hb=>⟨(hofU b hb).1,fun hm=>?_,(hofU b hb).2.2⟩⟩,fun b hb=>?_,fun b hb=>?_,?_⟩
   ·rcases hr' b hm with h1 | h1
    ·exact (hofU b hb).2.1 h1
    ·have:=hTlt b hb;omega
   ·rcases hgr b hb with h1 | h1
    ·exact .inl h1
    ·exact .inr (by omega)
   ·rcases hr' b hb with h1 | h1
    ·exact .inl h1
    ·exact .inr (by omega)
   ·have f1:FrU (fun b=>U b∨b=m) A X:=Fr.u (hf.trans fBX)
    have f2:=f1.step fY (fun b hb _=>.inl hb)
    have f3:=f2.step (Fr.u (U:=fun _=>False) fYW) (fun b hb _=>hb.elim)
    exact f3.step (Fr.us fm) (fun b hb _=>.inr (by simpa using hb))
end
end Go.Proofs.YtgcffmhpjphefaaGreatDoor

/- The wheel: what stands ahead is due ahead. Plain. -/
namespace Go.Proofs.YtgcffmhpjphefaaGreatDoor
open Go Go.AE

theorem top_of{now a:Nat}(hnow:now<18446744073709551616)(ha:a<18446744073709551616)(hlt:now<a):∃ t,lvl now a=t / 4∧a.testBit t=true∧now.testBit t=false∧∀ j,t<j→a.testBit j=now.testBit j:=by
 have hx:a ^^^ now<18446744073709551616:=Nat.xor_lt_two_pow (n:=64) (by omega) (by omega)
 have hx0:a ^^^ now≠0:=fun e=>by
  have:a=now:=by
   apply Nat.eq_of_testBit_eq
   intro i
   have:=congrArg (fun z=>z.testBit i) e
   simp only [Nat.testBit_xor,Nat.zero_testBit] at this
   simpa using this
  omega
 obtain ⟨b1,b2,b3⟩:=bl_bounds hx hx0
 obtain ⟨t,ht⟩:∃ t,Lib.bitLen (a ^^^ now)=t+1:=⟨_,(Nat.sub_add_cancel b1).symm⟩
 rw [ht,Nat.add_sub_cancel] at b2
 rw [ht] at b3
 have xt:=bit_top b2 b3
 have xz:∀ j,t<j→(a ^^^ now).testBit j=false:=fun j hj=>Nat.testBit_lt_two_pow (Nat.lt_of_lt_of_le b3 (Nat.pow_le_pow_right (by omega) hj))
 have up:∀ j,t<j→a.testBit j=now.testBit j:=fun j hj=>by
  have:=xz j hj
  rw [Nat.testBit_xor] at this
  simpa using this
 rw [Nat.testBit_xor] at xt
 have hat:a.testBit t=true:=by
  cases hb:a.testBit t with
  | true=>rfl
  | false=>
   rw [hb,Bool.false_xor] at xt
   have:=lt_bit t hb xt up
   omega
 rw [hat,Bool.true_xor,Bool.not_eq_true'] at xt
 exact ⟨t,by unfold lvl;rw [ht,Nat.add_sub_cancel],hat,xt,up⟩

theorem div_eq_of_bits{x y s:Nat}(h:∀ j,s≤j→x.testBit j=y.testBit j):x / 2 ^ s=y / 2 ^ s:=by
 apply Nat.eq_of_testBit_eq
 intro i
 rw [Nat.testBit_div_two_pow,Nat.testBit_div_two_pow]
 exact h _ (by omega)

theorem plc_lt_lt{now a b:Nat}(hnow:now<18446744073709551616)(ha:a<18446744073709551616)(hb:b<18446744073709551616)(h1:now<a)(h2:now<b)(h:plc now a<plc now b):a<b:=by
 obtain ⟨s,s1,s2,s3,s4⟩:=top_of hnow ha h1
 obtain ⟨t,t1,t2,t3,t4⟩:=top_of hnow hb h2
 by_cases hl:lvl now a<lvl now b
 ·-- b's top bit stands above a's
  have hst:s<t:=by omega
  exact lt_bit t (by rw [s4 t hst];exact t3) t2 fun j hj=>by rw [s4 j (by omega),t4 j hj]
 ·have ma:a / 2 ^ (4*lvl now a) % 16<16:=Nat.mod_lt _ (by omega)
  have mb:b / 2 ^ (4*lvl now b) % 16<16:=Nat.mod_lt _ (by omega)
  have hab:lvl now a<4∧lvl now a=lvl now b∧a / 2 ^ (4*lvl now a) % 16<b / 2 ^ (4*lvl now b) % 16:=by
   unfold plc at h
   split at h<;>split at h<;>omega
  obtain ⟨_,e,hd⟩:=hab
  rw [← e] at hd
  have hhi:a / 2 ^ (4*lvl now a+4)=b / 2 ^ (4*lvl now a+4):=div_eq_of_bits fun j hj=>by rw [s4 j (by omega),t4 j (by omega)]
  have q1:a / 2 ^ (4*lvl now a) / 16=a / 2 ^ (4*lvl now a+4):=by rw [Nat.pow_add,Nat.div_div_eq_div_mul]
  have q2:b / 2 ^ (4*lvl now a) / 16=b / 2 ^ (4*lvl now a+4):=by rw [Nat.pow_add,Nat.div_div_eq_div_mul]
  have h3:a / 2 ^ (4*lvl now a)<b / 2 ^ (4*lvl now a):=by omega
  exact Nat.lt_of_not_le fun hle=>by have:=Nat.div_le_div_right (c:=2 ^ (4*lvl now a)) hle;omega
theorem plc_le64{now a:Nat}:plc now a≤64:=by
 unfold plc
 split
 ·omega
 ·have:a / 2 ^ (4*lvl now a) % 16<16:=Nat.mod_lt _ (by omega)
  omega
end Go.Proofs.YtgcffmhpjphefaaGreatDoor

/- Numbers in a slice; a name from a number, and back. -/
namespace Go.Proofs.YtgcffmhpjphefaaGreatDoor
open Go Go.AE Go.Sort

variable {Z:Go.AE.Road}
set_option maxRecDepth 10000

def ucells(l:List Nat):List Value:=l.map fun (x:Nat)=>.int .u64 (x:Int)
theorem ucells_len{l:List Nat}:(ucells l).length=l.length:=by simp [ucells]
theorem nth_map{α β:Type}{f:α→β}:∀ {l:List α} {i:Nat} {x:α},l[i]? = some x→nth (l.map f) i=some (f x)
 | [],i,x,h=>by simp at h
 | a::l,0,x,h=>by simp at h;subst h;rfl
 | a::l,i+1,x,h=>nth_map (l:=l) (i:=i) (x:=x) (by simpa using h)
theorem ucells_nth{l:List Nat}{i x:Nat}(h:l[i]? = some x):nth (ucells l) i=some (.int .u64 (x:Int)):=nth_map (f:=fun (x:Nat)=>Value.int .u64 (x:Int)) h

theorem len23{A:ASt}{b:Option Addr}{n c:Nat}:aLen E0 127 (.slice b n c) A=some (.int .i64 (n:Int)):=len_sl ti127 t127_desc
theorem ix23{b len cap k off:Nat}{kd:IntKind}(hk:k<len):aIndexAddr E0 127 (.slice (some ⟨b,off,none⟩) len cap) (.int kd (k:Int))=some (.pointer (some ⟨b,off+k,none⟩)):=by
 have:=indexAddr_sl (A:={ heap:=.e,next:=0 }) ti127 t127_desc ti22 (kd:=kd) (k:=k) (b:=b) (off:=off) (len:=len) (cap:=cap) hk
 rwa [t22_size,Nat.mul_one] at this

def SliceU(A:ASt)(lo:Nat)(v:Value)(l:List Nat):Prop:=
 (l=[]∧v=.slice none 0 0)∨∃ b,v=.slice (some ⟨b,0,none⟩) l.length unk∧A.get b=some (.row (ucells l) 1 true)∧lo≤b∧b<A.next
theorem SliceU.len{A A':ASt}{lo:Nat}{v:Value}{l:List Nat}(h:SliceU A lo v l):aLen E0 127 v A'=some (.int .i64 (l.length:Int)):=by
 rcases h with ⟨rfl,rfl⟩ | ⟨b,rfl,_⟩
 ·exact len23
 ·exact len23
theorem SliceU.ix{A:ASt}{lo:Nat}{v:Value}{l:List Nat}(h:SliceU A lo v l){i:Nat}(hi:i<l.length):∃ b,v=.slice (some ⟨b,0,none⟩) l.length unk∧aIndexAddr E0 127 v (.int .i64 (i:Int))=some (.pointer (some ⟨b,i,none⟩))∧A.get b=some (.row (ucells l) 1 true)∧lo≤b∧b<A.next:=by
 rcases h with ⟨rfl,rfl⟩ | ⟨b,rfl,hb,h1,h2⟩
 ·simp at hi
 ·exact ⟨b,rfl,by have:=ix23 (b:=b) (cap:=unk) (off:=0) (kd:=.i64) hi;rwa [Nat.zero_add] at this,hb,h1,h2⟩
theorem SliceU.fr{A A':ASt}{lo:Nat}{own:List Nat}{v:Value}{l:List Nat}(h:SliceU A lo v l)(hf:Fr own A A')(ho:∀ b∈own,b<lo):SliceU A' lo v l:=by
 rcases h with ⟨rfl,rfl⟩ | ⟨b,rfl,hb,h1,h2⟩
 ·exact .inl ⟨rfl,rfl⟩
 ·exact .inr ⟨b,rfl,by rw [hf.get b h2 fun hm=>by have:=ho b hm;omega];exact hb,h1,Nat.lt_of_lt_of_le h2 hf.next⟩
theorem ucells_over{l:List Nat}{n x:Nat}(hn:n<l.length):over (ucells l) n [.int .u64 (x:Int)]=some (ucells (l.set n x)):=by
 unfold over
 have h1:Nat.ble (n + [Value.int .u64 (x:Int)].length) (ucells l).length=true:=Nat.ble_eq_true_of_le (by rw [ucells_len];exact hn)
 rw [h1]
 show some _=some _
 congr 1
 unfold ucells
 rw [List.map_set,List.set_eq_take_append_cons_drop,if_pos (by rw [List.length_map];exact hn)]
 rfl
theorem SliceU.store{A:ASt}{lo b n x:Nat}{l:List Nat}(hb:A.get b=some (.row (ucells l) 1 true))(hn:n<l.length):aStore E0 22 (.pointer (some ⟨b,n,none⟩)) (.int .u64 (x:Int)) A=some (A.set b (.row (ucells (l.set n x)) 1 true)):=by
 simp only [aStore,hb,ti22,t22_size,Value.cells,ucells_over hn]
 rfl

theorem bs23u{x:Int}:aBuildSlice E0 127 1 [(0,.int .u64 x)]=some (.row [.int .u64 x] 1 false,fun id=>.slice (some ⟨id,0,none⟩) 1 1):=by
 simp only [aBuildSlice,ti127,t127_desc,ti22,t22_zero,t22_size];rfl
theorem z22a:closed (.int .u64 0)=true:=rfl
theorem z22b:Nat.beq (Value.int .u64 0).cells.toList.length 1=true:=rfl
theorem sg1{a:Int}:singles [.int .u64 a]=true:=rfl
theorem cut1{x:Value}:(bif (List.take (1*1) (List.drop 0 [x])).length.beq (1*1) then some (List.take (1*1) (List.drop 0 [x])) else none)=some [x]:=rfl
theorem isl22:isIntD (.slice 22)=false:=rfl
theorem app23_nil{A:ASt}{x:Nat}{a:Int}{tl:Bool}(hx:A.get x=some (.row [.int .u64 a] 1 tl)):
  aAppend E0 127 127 (.slice none 0 0) (.slice (some ⟨x,0,none⟩) 1 1) A=.val (.slice (some ⟨A.next,0,none⟩) 1 unk) (A.new (.row [.int .u64 a] 1 true)):=by
 simp only [aAppend,ti127,t127_desc,ti22,lenV,t22_zero,t22_size,t22_bytes,srcCells,hx,cut,cut1,z22a,z22b,sg1,isl22]
 show appendTo 1 none 0 0 1 [.int .u64 a] A=_
 simp only [appendTo,grown_eq]
 rfl
theorem app23_row{A:ASt}{x b len:Nat}{c:List Value}{a:Int}{tl:Bool}(hx:A.get x=some (.row [.int .u64 a] 1 tl))(hb:A.get b=some (.row c 1 true))(hc:c.length=len)(hl:len≤1000000):
  aAppend E0 127 127 (.slice (some ⟨b,0,none⟩) len unk) (.slice (some ⟨x,0,none⟩) 1 1) A=.val (.slice (some ⟨A.next,0,none⟩) (len+1) unk) ((A.set b (.row [] 1 false)).new (.row (c++[.int .u64 a]) 1 true)):=by
 have h1:Nat.blt ((len+1)*(8+1)) 1000000000=true:=Nat.ble_eq_true_of_le (by omega)
 have h2:Nat.ble (0+len*1) c.length=true:=Nat.ble_eq_true_of_le (by omega)
 have h3:Nat.ble (0+(len+1)*1) c.length=false:=by rw [nble];simp;omega
 have h4:Nat.beq (0+len*1) c.length=true:=by rw [nbeq];simp;omega
 simp only [aAppend,ti127,t127_desc,ti22,lenV,t22_zero,t22_size,t22_bytes,srcCells,hx,cut,cut1,z22a,z22b,sg1,isl22,h1]
 show appendTo 1 (some ⟨b,0,none⟩) len unk 1 [.int .u64 a] A=_
 simp only [appendTo,hb,h2,h3,h4,grown_eq,Nat.beq_refl,Bool.and_self,cond_true,cond_false,List.take_zero,List.drop_zero]
 rfl
theorem SliceU.app{A:ASt}{lo x:Nat}{v:Value}{l:List Nat}{a:Nat}{tl:Bool}(h:SliceU A lo v l)(hx:A.get x=some (.row [.int .u64 (a:Int)] 1 tl))(hl:l.length≤1000000)(hlo:lo≤A.next):
  ∃ v' A',aAppend E0 127 127 v (.slice (some ⟨x,0,none⟩) 1 1) A=.val v' A'∧SliceU A' lo v' (l++[a])∧A.next≤A'.next∧∀ b,b<lo→A'.get b=A.get b:=by
 rcases h with ⟨rfl,rfl⟩ | ⟨b,rfl,hb,h1,h2⟩
 ·refine ⟨_,_,app23_nil hx,.inr ⟨A.next,rfl,by rw [ASt.get_new,if_pos rfl];rfl,hlo,by rw [ASt.next_new];omega⟩,by rw [ASt.next_new];omega,fun b hb=>by rw [ASt.get_new,if_neg (by omega)]⟩
 ·refine ⟨_,_,app23_row hx hb ucells_len hl,.inr ⟨A.next,by rw [List.length_append];rfl,?_,hlo,by rw [ASt.next_new,ASt.next_set];omega⟩,by rw [ASt.next_new,ASt.next_set];omega,fun b' hb'=>?_⟩
  ·rw [ASt.get_new,ASt.next_set,if_pos rfl]
   simp [ucells]
  ·rw [ASt.get_new,ASt.next_set,if_neg (by omega),ASt.get_set,if_neg (by omega)]

end Go.Proofs.YtgcffmhpjphefaaGreatDoor

/- The numbers of a map, gathered through a range over a function. -/
namespace Go.Proofs.YtgcffmhpjphefaaGreatDoor
open Go Go.AE Go.Sort

variable {Z:Go.AE.Road}
set_option maxRecDepth 10000
set_option maxHeartbeats 4000000

def asC:Code:=Code.region 2 #[{ dst:=some 5,op:=Op.assign (Operand.tmp 7),type:=22,pos := "iter.go:51", after:=#[],guard:=none }] false
def bC:Code:=Code.block 1 (Code.region 3 #[{ dst:=some 8,op:=Op.load 127 (Operand.tmp 2),type:=127,pos := "iter.go:52", after:=#[],guard:=none },{ dst:=some 9,op:=Op.move (Operand.tmp 5),type:=22,pos := "iter.go:52", after:=#[],guard:=none },{ dst:=some 10,op:=Op.buildSlice 127 1 #[(0,Operand.tmp 9)],type:=127,pos := "iter.go:52", after:=#[{ on:=1,ground:=Ground.data }],guard:=none },{ dst:=some 11,op:=Op.call { callee:=Callee.builtin Builtin.append,args:=#[Operand.tmp 8,Operand.tmp 10],argTypes:=#[127,127] },type:=127,pos := "iter.go:52", after:=#[{ on:=0,ground:=Ground.data },{ on:=2,ground:=Ground.data }],guard:=none },{ dst:=none,op:=Op.store 127 (Operand.tmp 2) (Operand.tmp 11),type:=0,pos := "iter.go:52", after:=#[{ on:=3,ground:=Ground.data },{ on:=3,ground:=Ground.chain },{ on:=0,ground:=Ground.phase },{ on:=1,ground:=Ground.phase },{ on:=2,ground:=Ground.phase },{ on:=3,ground:=Ground.phase }],guard:=none }] false)

theorem SliceU.single{A:ASt}{lo:Nat}{v:Value}{l:List Nat}(h:SliceU A lo v l):v.cells=#[v]∧single v=true:=by
 rcases h with ⟨_,rfl⟩ | ⟨b,rfl,_⟩
 ·exact ⟨rfl,rfl⟩
 ·exact ⟨rfl,rfl⟩
theorem store23{A A0:ASt}{b lo:Nat}{u v:Value}{tl:Bool}{l:List Nat}(hb:A.get b=some (.row [u] 1 tl))(hv:SliceU A0 lo v l):aStore E0 127 (.pointer (some ⟨b,0,none⟩)) v A=some (A.set b (.row [v] 1 tl)):=by
 obtain ⟨h1,h2⟩:=hv.single
 have h3:over [u] 0 [v]=some [v]:=rfl
 have h4:singles [v]=true:=by unfold singles;rw [h2];rfl
 simp only [aStore,hb,ti127,t127_size,h1,h3,h4]
 rfl

theorem round_spec{A:ASt}{l P2 lo:Nat}{T0:Tmps}{v:Value}{li:List Nat}{a:Nat}(hl:A.get l=some (.loop 13 T0 #[7] asC bC .ready none))(hp:A.get P2=some (.row [v] 1 false))(ht:tget T0 2=.pointer (some ⟨P2,0,none⟩))(hs:SliceU A lo v li)(hne:l≠P2)(hll:l<lo)(hPl:P2<lo)(hlo:lo≤A.next)(hlen:li.length≤1000):
  CallT Z Tryz.prog (.round l) [.int .u64 (a:Int)] A (fun r A'=>r=.bool true∧A'.get l=some (.loop 13 T0 #[7] asC bC .ready none)∧(∃ v',A'.get P2=some (.row [v'] 1 false)∧SliceU A' lo v' (li++[a]))∧A.next≤A'.next∧∀ b,b<lo→b≠l→b≠P2→A'.get b=A.get b):=by
 refine CallT.round hl (T':=T0.put 7 (some (.int .u64 (a:Int)))) rfl ?_
 unfold asC
 refine codeW_ok E0_ok E0_ro ?_
 simp only [z_0,if_true,eq_self,Nat.reduceLT]
 refine ⟨_,_,_,_,_,_,_,_,rfl,hl,?_⟩
 -- the body
 have hset:∀ b,b≠l→(A.set l (.loop 13 T0 #[7] asC bC .busy none)).get b=A.get b:=fun b hb=>by rw [ASt.get_set,if_neg hb]
 have hs1:SliceU (A.set l (.loop 13 T0 #[7] asC bC .busy none)) lo v li:=by
  rcases hs with h | ⟨b,e,hb,h1,h2⟩
  ·exact .inl h
  ·exact .inr ⟨b,e,by rw [hset b (by omega)];exact hb,h1,h2⟩
 have hN:Fr [] (A.set l (.loop 13 T0 #[7] asC bC .busy none)) ((A.set l (.loop 13 T0 #[7] asC bC .busy none)).new (.row [.int .u64 (a:Int)] 1 false)):=⟨by rw [ASt.next_new];omega,fun b hb _=>by rw [ASt.get_new,if_neg (by omega)]⟩
 have hAn:(A.set l (.loop 13 T0 #[7] asC bC .busy none)).next=A.next:=rfl
 have hP1:(A.set l (.loop 13 T0 #[7] asC bC .busy none)).get P2=some (.row [v] 1 false):=by rw [hset _ (Ne.symm hne)];exact hp
 have hl1:(A.set l (.loop 13 T0 #[7] asC bC .busy none)).get l=some (.loop 13 T0 #[7] asC bC .busy none):=by rw [ASt.get_set,if_pos rfl]
 generalize A.set l (.loop 13 T0 #[7] asC bC .busy none)=B at hset hs1 hN hAn hP1 hl1 ⊢
 obtain ⟨v',C,happ,hs2,hCn,hCg⟩:=(hs1.fr hN (by simp)).app (x:=B.next) (a:=a) (tl:=false) (by rw [ASt.get_new,if_pos rfl]) (by omega) (by rw [ASt.next_new];omega)
 have hCP:C.get P2=some (.row [v] 1 false):=by rw [hCg _ hPl,ASt.get_new,if_neg (by omega)];exact hP1
 have hst:=store23 hCP hs2
 have hBn:B.next+1≤C.next:=by rw [ASt.next_new] at hCn;exact hCn
 unfold bC
 refine codeW_ok E0_ok E0_ro ?_
 simp only [z_0,aBuiltin,cond_false,if_true,if_false,eq_self,Nat.reduceEqDiff,Nat.reduceLT,ht,hP1,bs23u,happ,hst]
 refine ⟨_,_,_,rfl,?_⟩
 have hgl:(C.set P2 (.row [v'] 1 false)).get l=some (.loop 13 T0 #[7] asC bC .busy none):=by rw [ASt.get_set,if_neg hne,hCg _ hll,ASt.get_new,if_neg (by omega)];exact hl1
 unfold endR
 rw [hgl]
 refine ⟨_,_,rfl,rfl,by rw [ASt.get_set,if_pos rfl];rfl,⟨v',by rw [ASt.get_set,if_neg (Ne.symm hne),ASt.get_set,if_pos rfl],?_⟩,?_,fun b hb h1 h2=>?_⟩
 ·rcases hs2 with h | ⟨b,e,hb,h1,h2⟩
  ·exact .inl h
  ·exact .inr ⟨b,e,by rw [ASt.get_set,if_neg (by omega),ASt.get_set,if_neg (by omega)];exact hb,h1,h2⟩
 ·rw [ASt.next_set,ASt.next_set];omega
 ·rw [ASt.get_set,if_neg h1,ASt.get_set,if_neg h2,hCg _ hb,ASt.get_new,if_neg (by omega),hset _ h1]

theorem inv_yield{l:Nat}{args:List Value}{A:ASt}:aInvoke E0 (.yield l) args [] A=.enter (.round l) args A:=congrArg (fun x=>x) rfl

theorem iter_spec{A:ASt}{c m l P2:Nat}{T0:Tmps}{es:List UE}{ck:Nat}(hc:A.get c=some (.row [.map (some m)] 1 false))(hm:A.get m=some (.map (uEnts es) ck))(hok:MapOK es ck)(hlen:es.length≤1000)
  (hl:A.get l=some (.loop 13 T0 #[7] asC bC .ready none)) (hp:A.get P2=some (.row [.slice none 0 0] 1 false)) (ht:tget T0 2=.pointer (some ⟨P2,0,none⟩)) (hne:l≠P2) (hml:m≠l) (hmP:m≠P2) (hll:l<A.next) (hPl:P2<A.next) (hcl:c<A.next) (hmn:m<A.next) :
  CallW Z Tryz.prog 96 [.func (.yield l) #[] #[],.pointer (some ⟨c,0,none⟩)] A (fun _ A'=>∃ (done:List UE) (v:Value),(∀ x∈done,x∈es)∧(∀ x∈es,x∈done)∧done.Nodup∧A'.get l=some (.loop 13 T0 #[7] asC bC .ready none)∧A'.get P2=some (.row [v] 1 false)∧SliceU A' (A.next+1) v (done.map (·.2.1))∧A.next≤A'.next∧∀ b,b<A.next→b≠l→b≠P2→A'.get b=A.get b):=by
 refine CallW.of_code E0_ok E0_ro fn96 rfl (n:=15) rfl (rs:=[]) rfl (by simp) (codeW_ok E0_ok E0_ro ?_)
 simp only [z_0,cond_false,if_true,if_false,eq_self,Nat.reduceEqDiff,Nat.reduceAdd,Nat.reduceLT,reduceCtorEq,hc,rangeT hm]
 have hAr:∀ b,b<A.next→(A.new (.miter (some m) ck [] ck)).get b=A.get b:=fun b hb=>by rw [ASt.get_new,if_neg (by omega)]
 refine CodeW.mono (Q:=fun o=>∃ (T':Tmps) (A':ASt) (done:List UE) (v:Value),o=.fr ⟨.exit 0,T',A'⟩∧(∀ x∈done,x∈es)∧(∀ x∈es,x∈done)∧done.Nodup∧A'.get l=some (.loop 13 T0 #[7] asC bC .ready none)∧A'.get P2=some (.row [v] 1 false)∧SliceU A' (A.next+1) v (done.map (·.2.1))∧A.next+1≤A'.next∧∀ b,b<A.next→b≠l→b≠P2→A'.get b=A.get b) ?_ ?_
 ·refine CodeW.mapLoop (it:=6) (r:=A.next) (m:=m) (ck:=ck) (l:=es) (J:=fun done T A'=>tget T 0=.func (.yield l) #[] #[]∧∃ v,A'.get l=some (.loop 13 T0 #[7] asC bC .ready none)∧A'.get P2=some (.row [v] 1 false)∧SliceU A' (A.next+1) v (done.map (·.2.1))∧A.next+1≤A'.next∧∀ b,b<A.next→b≠l→b≠P2→A'.get b=A.get b) ?_ ?_ ?_
  ·rintro done T A1 hi ⟨u0,v,h1,h2,h3,h4,h5⟩
   refine codeW_ok E0_ok E0_ro ?_
   have hit:=hi.it
   simp only [z_0,hit]
   refine nextV_u hok hi.sub hi.iter hi.map (fun x hx hn=>?_) (fun hfin=>?_)
   ·have hent:=entry_u (A:=A1.set A.next (.miter (some m) ck ((done++[x]).map (·.2.2)) ck)) (r:=A.next) (m:=m) hok hx (by rw [ASt.get_set,if_pos rfl]) (by rw [ASt.get_set,if_neg (by omega)];exact hi.map)
    have hB:∀ b,(A1.set A.next (.miter (some m) ck ((done++[x]).map (·.2.2)) ck)).get b=if b=A.next then some (.miter (some m) ck ((done++[x]).map (·.2.2)) ck) else A1.get b:=fun b=>by rw [ASt.get_set]
    have hBn:(A1.set A.next (.miter (some m) ck ((done++[x]).map (·.2.2)) ck)).next=A1.next:=rfl
    generalize A1.set A.next (.miter (some m) ck ((done++[x]).map (·.2.2)) ck)=B at hent hB hBn ⊢
    have hdl:done.length≤1000:=Nat.le_trans (nodup_le hi.nodup hi.sub) hlen
    have hBl:B.get l=some (.loop 13 T0 #[7] asC bC .ready none):=by rw [hB,if_neg (by omega)];exact h1
    have hBP:B.get P2=some (.row [v] 1 false):=by rw [hB,if_neg (by omega)];exact h2
    have hBs:SliceU B (A.next+1) v (done.map (·.2.1)):=by
     rcases h3 with h | ⟨b,e,hb,g1,g2⟩
     ·exact .inl h
     ·exact .inr ⟨b,e,by rw [hB,if_neg (by omega)];exact hb,g1,by omega⟩
    simp only [z_0,if_true,if_false,List.nil_append,eq_self,Nat.reduceEqDiff,Nat.reduceLT,reduceCtorEq,hit,hent,u0,inv_yield]
    refine CallT.mono (round_spec hBl hBP ht hBs hne (by omega) (by omega) (by omega) (by rw [List.length_map];exact hdl)) ?_
    rintro _ C ⟨rfl,k1,⟨v',k2,k3⟩,k4,k5⟩
    simp only [z_0,if_true,if_false,eq_self,Nat.reduceEqDiff,Nat.reduceLT,reduceCtorEq]
    refine ⟨x,hx,hn,hi.step hx hn (by simp only [tget_put,Nat.reduceEqDiff,if_false]) ?_ ?_,?_,v',k1,k2,?_,by omega,fun b hb hb1 hb2=>?_⟩
    ·rw [k5 _ (by omega) (by omega) (by omega),hB,if_pos rfl]
    ·rw [k5 _ (by omega) hml hmP,hB,if_neg (by omega)]
    ·first | exact u0 | (simp only [tget_put,Nat.reduceEqDiff,if_false,reduceIte];exact u0) | rfl
    ·rw [List.map_append];exact k3
    ·rw [k5 b (by omega) hb1 hb2,hB,if_neg (by omega)];exact h5 b hb hb1 hb2
   ·simp only [z_0,if_true,if_false,eq_self,Nat.reduceEqDiff,Nat.reduceLT]
    exact ⟨_,_,done,v,rfl,hi.sub,hfin,hi.nodup,h1,h2,h3,h4,h5⟩
  ·refine ⟨by simp only [tget_put,Nat.reduceEqDiff,if_false,if_true],by rw [ASt.get_new,if_pos rfl];rfl,by rw [hAr _ hmn];exact hm,by simp,.nil⟩
  ·refine ⟨by simp only [tget_put,Nat.reduceEqDiff,if_false,if_true],.slice none 0 0,by rw [hAr _ hll];exact hl,by rw [hAr _ hPl];exact hp,.inl ⟨rfl,rfl⟩,by rw [ASt.next_new];omega,fun b hb _ _=>hAr b hb⟩
 ·rintro o ⟨T',A',done,v,rfl,k1,k2,knd,k3,k4,k5,k6,k7⟩
  simp only [z_0]
  exact ⟨done,v,k1,k2,knd,k3,k4,k5,by omega,k7⟩
end Go.Proofs.YtgcffmhpjphefaaGreatDoor

/- The least number of a map. -/
namespace Go.Proofs.YtgcffmhpjphefaaGreatDoor
open Go Go.AE Go.Sort

variable {Z:Go.AE.Road}
set_option maxRecDepth 10000
set_option maxHeartbeats 4000000

theorem box23{v:Value}(h:v=.slice none 0 0):aBox E0 127 v=some (.row [v] 1 false,ptrTo):=by
 subst h
 simp only [aBox,ti127,t127_size];rfl
theorem box59{m:Nat}:aBox E0 97 (.map (some m))=some (.row [.map (some m)] 1 false,ptrTo):=by
 simp only [aBox,ti97,t97_size];rfl

def Gathered(es:List UE)(A:ASt)(v:Value)(A':ASt):Prop:=∃ (done:List UE) (lo:Nat),(∀ x∈done,x∈es)∧(∀ x∈es,x∈done)∧done.Nodup∧SliceU A' lo v (done.map (·.2.1))∧A.next≤lo∧Fr [] A A'

theorem append_spec{A:ASt}{c m:Nat}{es:List UE}{ck:Nat}(hc:A.get c=some (.row [.map (some m)] 1 false))(hm:A.get m=some (.map (uEnts es) ck))(hok:MapOK es ck)(hlen:es.length≤1000)(hcl:c<A.next)(hmn:m<A.next):
  CallW Z Tryz.prog 95 [.slice none 0 0,.func (.func 96) #[] #[.pointer (some ⟨c,0,none⟩)]] A (Gathered es A):=by
 refine CallW.of_code E0_ok E0_ro fn95 rfl (n:=13) rfl (rs:=[.tmp 4]) rfl (by simp) (codeW_ok E0_ok E0_ro ?_)
 simp only [z_0,flat,cond_true,if_true,if_false,eq_self,Nat.reduceEqDiff,Nat.reduceAdd,Nat.reduceLT,reduceCtorEq,box23,ptrTo,c_range]
 have hB:∀ b,b<A.next→(A.new (.row [.slice none 0 0] 1 false)).get b=A.get b:=fun b hb=>by rw [ASt.get_new,if_neg (by omega)]
 have hBP:(A.new (.row [.slice none 0 0] 1 false)).get A.next=some (.row [.slice none 0 0] 1 false):=by rw [ASt.get_new,if_pos rfl]
 have hBn:(A.new (.row [.slice none 0 0] 1 false)).next=A.next+1:=by rw [ASt.next_new]
 generalize A.new (.row [.slice none 0 0] 1 false)=B at hB hBP hBn ⊢
 generalize hT:Tr.put _ 6 _=T
 have t6:tget T 6=.func (.func 96) #[] #[.pointer (some ⟨c,0,none⟩)]:=by rw [← hT];simp only [tget_put,Nat.reduceEqDiff,if_false,if_true]
 have t2:tget T 2=.pointer (some ⟨A.next,0,none⟩):=by rw [← hT];simp only [tget_put,Nat.reduceEqDiff,if_false,if_true]
 clear hT
 have hC:∀ b,b<B.next→(B.new (.loop 13 T #[7] asC bC .ready none)).get b=B.get b:=fun b hb=>by rw [ASt.get_new,if_neg (by omega)]
 have hCl:(B.new (.loop 13 T #[7] asC bC .ready none)).get B.next=some (.loop 13 T #[7] asC bC .ready none):=by rw [ASt.get_new,if_pos rfl]
 have hCn:(B.new (.loop 13 T #[7] asC bC .ready none)).next=B.next+1:=by rw [ASt.next_new]
 have hit:=iter_spec (Z:=Z) (A:=B.new (.loop 13 T #[7] asC bC .ready none)) (c:=c) (m:=m) (l:=B.next) (P2:=A.next) (T0:=T) (es:=es) (ck:=ck) (by rw [hC _ (by omega),hB _ hcl];exact hc) (by rw [hC _ (by omega),hB _ hmn];exact hm) hok hlen hCl (by rw [hC _ (by omega)];exact hBP) t2 (by omega) (by omega) (by omega) (by omega) (by omega) (by omega) (by omega)
 refine CodeW.rangeFn E0_ok E0_ro (f:=96) (first:=#[]) (captured:=#[.pointer (some ⟨c,0,none⟩)]) (by simp only [ev,t6]) rfl (by intro args A;simp only [aEnter,fn96]) ?_
 refine CallT.mono (CallT.of_call hit) ?_
 rintro r D ⟨done,v,h1,h2,hnd,h3,h4,h5,h6,h7⟩
 refine ⟨_,_,_,_,_,_,h3,rfl,?_⟩
 have h4':(D.set B.next (.loop 13 T #[7] asC bC .exhausted none)).get A.next=some (.row [v] 1 false):=by rw [ASt.get_set,if_neg (by omega)];exact h4
 have h5':SliceU (D.set B.next (.loop 13 T #[7] asC bC .exhausted none)) (B.next+1+1) v (done.map (·.2.1)):=by
  rw [hCn] at h5
  rcases h5 with h | ⟨b,e,hb,g1,g2⟩
  ·exact .inl h
  ·exact .inr ⟨b,e,by rw [ASt.get_set,if_neg (by omega)];exact hb,g1,g2⟩
 have hfr:Fr [] A (D.set B.next (.loop 13 T #[7] asC bC .exhausted none)):=⟨by rw [ASt.next_set];omega,fun b hb _=>by rw [ASt.get_set,if_neg (by omega),h7 b (by omega) (by omega) (by omega),hC _ (by omega),hB _ hb]⟩
 generalize D.set B.next (.loop 13 T #[7] asC bC .exhausted none)=F at h4' h5' hfr ⊢
 simp only [z_0,cond_false,if_true,if_false,eq_self,Nat.reduceEqDiff,Nat.reduceLT,t2,h4']
 exact ⟨done,_,h1,h2,hnd,h5',by omega,hfr⟩

theorem collect_spec{A:ASt}{c m:Nat}{es:List UE}{ck:Nat}(hc:A.get c=some (.row [.map (some m)] 1 false))(hm:A.get m=some (.map (uEnts es) ck))(hok:MapOK es ck)(hlen:es.length≤1000)(hcl:c<A.next)(hmn:m<A.next):
  CallW Z Tryz.prog 79 [.func (.func 96) #[] #[.pointer (some ⟨c,0,none⟩)]] A (Gathered es A):=by
 refine CallW.of_code E0_ok E0_ro fn79 rfl (n:=5) rfl (rs:=[.tmp 2]) rfl (by simp) (codeW_ok E0_ok E0_ro ?_)
 simp only [z_0,flat,cond_true,if_true,if_false,List.append_nil,List.nil_append,eq_self,Nat.reduceEqDiff,Nat.reduceLT,reduceCtorEq]
 refine CallT.mono (append_spec hc hm hok hlen hcl hmn) ?_
 intro v A' h
 simp only [z_0,if_true,if_false,eq_self,Nat.reduceEqDiff,Nat.reduceLT,reduceCtorEq]
 exact h
theorem values_spec{A:ASt}{m:Nat}:CallW Z Tryz.prog 80 [.map (some m)] A (fun v A'=>v=.func (.func 96) #[] #[.pointer (some ⟨A.next,0,none⟩)]∧A'=A.new (.row [.map (some m)] 1 false)):=by
 refine CallW.of_code E0_ok E0_ro fn80 rfl (n:=4) rfl (rs:=[.tmp 2]) rfl (by simp) (codeW_ok E0_ok E0_ro ?_)
 simp only [z_0,flat,cond_true,if_true,if_false,eq_self,Nat.reduceEqDiff,Nat.reduceLT,reduceCtorEq,box59,ptrTo]

theorem min2{a b:Nat}:minMax false [.int .u64 (a:Int),.int .u64 (b:Int)]=some (.int .u64 ((if b<a then b else a:Nat):Int)):=by
 show some (Value.int .u64 (if (b:Int)<(a:Int) then (b:Int) else (a:Int)))=_
 by_cases h:b<a
 ·rw [if_pos h,if_pos (by omega)]
 ·rw [if_neg h,if_neg (by omega)]
theorem min_spec{A:ASt}{lo:Nat}{v:Value}{l:List Nat}(hs:SliceU A lo v l)(hne:0<l.length)(hlen:l.length≤1000):
  CallW Z Tryz.prog 78 [v] A (fun r A'=>∃ t,r=.int .u64 ((t:Nat):Int)∧t∈l∧(∀ x∈l,t≤x)∧A'=A):=by
 refine CallW.of_code E0_ok E0_ro fn78 rfl (n:=25) rfl (rs:=[.tmp 2]) rfl (by simp) (codeW_ok E0_ok E0_ro ?_)
 have hlv:∀ A',aLen E0 127 v A'=some (.int .i64 (l.length:Int)):=fun _=>hs.len
 have d1:((l.length:Int)<1)=False:=eq_false (by omega)
 have hx0:l[0]? = some l[0]:=List.getElem?_eq_getElem _
 generalize l[0]=x0 at hx0
 obtain ⟨b8,hv8,hix,hb8,_,_⟩:=hs.ix hne
 have hix0:aIndexAddr E0 127 v (.int .i64 0)=some (.pointer (some ⟨b8,0,none⟩)):=hix
 have g0:=ucells_nth hx0
 simp only [z_0,flat,aBuiltin,cond_true,cond_false,if_true,if_false,eq_self,Nat.reduceEqDiff,Nat.reduceLT,reduceCtorEq,hlv,d1,hix0,hb8,g0]
 refine CodeW.mono (Q:=fun o=>∃ T' t,o=.fr ⟨.exit 0,T',A⟩∧tget T' 3=.int .u64 ((t:Nat):Int)∧t∈l∧∀ x∈l,t≤x) ?_ ?_
 ·refine CodeW.loopR (k:=l.length-1) (fun k T A'=>∃ i t,k=l.length-i∧i≤l.length∧tget T 4=.int .i64 ((i:Nat):Int)∧tget T 0=v∧tget T 3=.int .u64 ((t:Nat):Int)∧t∈l∧(∀ j x,j<i→l[j]? = some x→t≤x)∧A'=A) ?_ ⟨1,x0,rfl,by omega,?_,?_,?_,List.mem_of_getElem? hx0,fun j x hj hx=>?_,rfl⟩
  ·rintro k T A1 ⟨i,t,rfl,hi,u4,u0,u3,ht,hall,rfl⟩
   refine codeW_ok E0_ok E0_ro ?_
   by_cases e1:i<l.length
   ·have d2:((i:Int)<(l.length:Int))=True:=eq_true (by omega)
    have hx:l[i]? = some l[i]:=List.getElem?_eq_getElem _
    have hxm:l[i]∈l:=List.getElem_mem _
    generalize l[i]=x at hx hxm
    obtain ⟨b8,hv8,hix,hb8,_,_⟩:=hs.ix e1
    have g1:=ucells_nth hx
    simp only [z_0,flat,aBuiltin,cond_true,cond_false,if_true,if_false,eq_self,Nat.reduceEqDiff,Nat.reduceLT,reduceCtorEq,hlv,d2,u4,u0,u3,hix,hb8,g1,min2,wrap_succ (show i<1000000 by omega)]
    refine ⟨l.length-(i+1),by omega,i+1,if x<t then x else t,rfl,by omega,rfl,rfl,?_,fun j y hj hy=>?_⟩
    ·split
     ·exact hxm
     ·exact ht
    ·by_cases hji:j=i
     ·subst hji
      rw [hx] at hy
      cases hy
      split<;>omega
     ·have:=hall j y (by omega) hy
      split<;>omega
   ·have d2:((i:Int)<(l.length:Int))=False:=eq_false (by omega)
    simp only [z_0,aBuiltin,if_true,if_false,eq_self,Nat.reduceEqDiff,Nat.reduceLT,reduceCtorEq,hlv,d2,u4,u0]
    refine ⟨_,t,rfl,by simp only [tget_put,Nat.reduceEqDiff,if_false,u3],ht,fun x hx=>?_⟩
    obtain ⟨j,hj⟩:=List.getElem?_of_mem hx
    exact hall j x (by have:=(List.getElem?_eq_some_iff.1 hj).1;omega) hj
  ·simp only [tget_put,Nat.reduceEqDiff,if_false,if_true];rfl
  ·simp only [tget_put,Nat.reduceEqDiff,if_false,if_true]
  ·simp only [tget_put,Nat.reduceEqDiff,if_false,if_true]
  ·have:j=0:=by omega
   subst this
   rw [hx0] at hx
   cases hx
   exact Nat.le_refl _
 ·rintro o ⟨T',t,rfl,u3,h1,h2⟩
  simp only [z_0,if_true,if_false,eq_self,Nat.reduceEqDiff,Nat.reduceLT,u3]
  exact ⟨t,rfl,h1,h2⟩
end Go.Proofs.YtgcffmhpjphefaaGreatDoor

/- The soonest deadline. -/
namespace Go.Proofs.YtgcffmhpjphefaaGreatDoor
open Go Go.AE Go.Sort

variable {Z:Go.AE.Road}
set_option maxRecDepth 10000
set_option maxHeartbeats 4000000

theorem Few.at2{M:TM}(h:Few M)(now i:Nat):Few (M.at_ now i):=by
 obtain ⟨l,h1,h2⟩:=h
 refine ⟨l,h1,fun k hk=>h2 k ?_⟩
 unfold TM.at_ at hk
 cases hm:M k with
 | none=>rw [hm] at hk;cases hk
 | some a=>rfl

theorem least_of{D:TM}{es:List UE}{ck:Nat}(hok:MapOK es ck)(hg:∀ k,uget es k=D k){done:List UE}(h1:∀ x∈done,x∈es)(h2:∀ x∈es,x∈done){t:Nat}(ht:t∈done.map (·.2.1))(hall:∀ x∈done.map (·.2.1),t≤x):(∃ k,D k=some t)∧∀ k a,D k=some a→t≤a:=by
 constructor
 ·obtain ⟨x,hx,rfl⟩:=List.mem_map.1 ht
  exact ⟨x.1,by rw [← hg];exact uget_mem hok.keys (h1 x hx)⟩
 ·intro k a ha
  rw [← hg] at ha
  obtain ⟨b,hb⟩:=uget_some ha
  exact hall a (List.mem_map.2 ⟨_,h2 _ hb,rfl⟩)

theorem least_all{A:ASt}{W all now i t:Nat}{ms:List Nat}{M:TM}(h:WheelAt A W all ms now M)(he:∀ j,j<i→∀ k,M.at_ now j k=none)(ht:∃ k,M.at_ now i k=some t)(hall:∀ k a,M.at_ now i k=some a→t≤a):(∃ k,M k=some t)∧∀ k a,M k=some a→t≤a:=by
 obtain ⟨k,hk⟩:=ht
 obtain ⟨g1,g2⟩:=Option.filter_eq_some_iff.1 hk
 simp only [decide_eq_true_eq] at g2
 refine ⟨⟨k,g1⟩,fun k' a ha=>?_⟩
 by_cases h1:plc now a=i
 ·exact hall k' a (Option.filter_eq_some_iff.2 ⟨ha,by simpa using h1⟩)
 ·by_cases h2:plc now a<i
  ·have:=he _ h2 k'
   have h3:M.at_ now (plc now a) k'=some a:=Option.filter_eq_some_iff.2 ⟨ha,by simp⟩
   rw [h3] at this
   cases this
  ·exact Nat.le_of_lt (plc_lt_lt h.nowlt (h.lt _ _ g1) (h.lt _ _ ha) (h.gt _ _ g1) (h.gt _ _ ha) (by omega))

theorem wrow_cut{now all L:Nat}{ms:List Nat}(hm:ms.length=65)(hL:L<4):cut (wrow now all ms) (2+L*16) 16=some (((ms.drop (L*16)).take 16).map fun m=>Value.map (some m)):=by
 unfold cut
 have e:(wrow now all ms).drop (2+L*16)=(ms.map fun m=>Value.map (some m)).drop (L*16):=by
  unfold wrow
  rw [Nat.add_comm 2]
  rfl
 rw [e]
 have h1:((ms.map fun m=>Value.map (some m)).drop (L*16)).take 16=((ms.drop (L*16)).take 16).map fun m=>Value.map (some m):=by rw [← List.map_drop,← List.map_take]
 rw [h1]
 have h2:Nat.beq (((ms.drop (L*16)).take 16).map fun m=>Value.map (some m)).length 16=true:=by
  rw [nbeq]
  simp [hm]
  omega
 show (bif Nat.beq (((ms.drop (L*16)).take 16).map fun m=>Value.map (some m)).length 16 then some (((ms.drop (L*16)).take 16).map fun m=>Value.map (some m)) else none)=_
 rw [h2]
 rfl
theorem idx60{L j m:Nat}{ms:List Nat}(hj:j<16)(hm:ms[16*L+j]? = some m):aIndex E0 98 (.agg (((ms.drop (L*16)).take 16).map fun m=>Value.map (some m)).toArray) (.int .i64 (j:Int))=some (.map (some m)):=by
 have hb:Nat.blt j 16=true:=Nat.ble_eq_true_of_le hj
 have hn:nth (((ms.drop (L*16)).take 16).map fun m=>Value.map (some m)) (j*1)=some (.map (some m)):=by
  rw [Nat.mul_one]
  refine nth_map (f:=fun m=>Value.map (some m)) ?_
  rw [List.getElem?_take_of_lt hj,List.getElem?_drop,show L*16+j=16*L+j by omega]
  exact hm
 have e:aIndex E0 98 (.agg (((ms.drop (L*16)).take 16).map fun m=>Value.map (some m)).toArray) (.int .i64 (j:Int))=(match E0.ti 98 with
  | some i=>match i.desc with
   | .array len el=>match E0.ti el with
    | some jj=>cond (Nat.blt j len) (partV E0 el (((ms.drop (L*16)).take 16).map fun m=>Value.map (some m)) (j*jj.size)) none
    | none=>none
   | _=>none
  | none=>none):=by
  simp only [aIndex,ti98,t98_desc,ti97]
 rw [e]
 simp only [ti98,t98_desc,ti97,t97_size,hb,cond_true,partV,t97_desc,isAggD,cond_false]
 exact hn

def SoonV(M:TM)(A:ASt)(v:Value)(A':ASt):Prop:=Fr [] A A'∧((v=.tuple #[.int .u64 0,.bool false]∧∀ k,M k=none)∨∃ t:Nat,v=.tuple #[.int .u64 (t:Int),.bool true]∧(∃ k,M k=some t)∧∀ k a,M k=some a→t≤a)
theorem soonest_spec{A:ASt}{W all now:Nat}{ms:List Nat}{M:TM}(h:WheelAt A W all ms now M)(hF:Few M):CallW Z Tryz.prog 51 [.pointer (some ⟨W,0,none⟩)] A (SoonV M A):=by
 refine CallW.of_code E0_ok E0_ro fn51 rfl (n:=38) rfl (rs:=[.tmp 2,.tmp 3]) rfl (by simp) (codeW_ok E0_ok E0_ro ?_)
 simp only [z_0,flat,cond_true,if_true,if_false,List.append_nil,List.nil_append,eq_self,Nat.reduceEqDiff,Nat.reduceLT,reduceCtorEq]
 refine CallT.mono (len_spec h) ?_
 rintro _ A ⟨⟨c,rfl,hc⟩,rfl⟩
 have hW:=h.row
 by_cases hc0:c=0
 ·subst hc0
  have d1:(((0:Nat):Int)=0)=True:=eq_true rfl
  simp only [z_0,flat,cond_true,if_true,if_false,eq_self,Nat.reduceEqDiff,Nat.reduceLT,reduceCtorEq,d1]
  refine ⟨.refl _ _,.inl ⟨rfl,fun k=>?_⟩⟩
  obtain ⟨l,_,g2,g3⟩:=hc
  have:l=[]:=List.eq_nil_of_length_eq_zero g3
  subst this
  cases hk:M k with
  | none=>rfl
  | some a=>exact absurd ((g2 k).2 (by rw [hk];rfl)) (by simp)
 have d1:((c:Int)=0)=False:=eq_false (by omega)
 simp only [z_0,flat,cond_true,if_true,if_false,eq_self,Nat.reduceEqDiff,Nat.reduceLT,reduceCtorEq,d1]
 refine CodeW.mono (Q:=fun o=>(∃ T',o=.fr ⟨.exit 0,T',A⟩∧tget T' 0=.pointer (some ⟨W,0,none⟩)∧∀ j,j<64→∀ k,M.at_ now j k=none)∨∃ T' A' t,o=.fr ⟨.ret,T',A'⟩∧tget T' 2=.int .u64 ((t:Nat):Int)∧tget T' 3=.bool true∧Fr [] A A'∧(∃ k,M k=some t)∧∀ k a,M k=some a→t≤a) ?_ ?_
 ·refine CodeW.loopR (k:=4) (fun k T A'=>∃ L,k=4-L∧L≤4∧tget T 10=.int .i64 ((L:Nat):Int)∧tget T 0=.pointer (some ⟨W,0,none⟩)∧(∀ j,j<16*L→∀ k,M.at_ now j k=none)∧A'=A) ?_ ⟨0,rfl,by omega,?_,?_,by omega,rfl⟩
  ·rintro k T A1 ⟨L,rfl,hL,u10,u0,hemp,rfl⟩
   refine codeW_ok E0_ok E0_ro ?_
   by_cases eL:L<4
   ·have d2:((L:Int)<4)=True:=eq_true (by omega)
    have ei1:∀ o,aIndexAddr E0 99 (.pointer (some ⟨W,o,none⟩)) (.int .i64 (L:Int))=some (.pointer (some ⟨W,o+L*16,none⟩)):=fun o=>by
     have:=indexAddr_arr (A:=A1) ti99 t99_desc ti98 (kd:=.i64) (k:=L) (b:=W) (off:=o) eL
     rwa [t98_size] at this
    have hcut:=wrow_cut (now:=now) (all:=all) h.len eL
    simp only [z_0,flat,aFieldAddr,cond_true,cond_false,if_true,if_false,eq_self,Nat.reduceEqDiff,Nat.reduceLT,reduceCtorEq,u10,u0,d2,ei1,hW,hcut]
    refine CodeW.mono (Q:=fun o=>(∃ T',o=.fr ⟨.exit 2,T',A1⟩∧tget T' 10=.int .i64 (L:Int)∧tget T' 0=.pointer (some ⟨W,0,none⟩)∧∀ j,j<16*L+16→∀ k,M.at_ now j k=none)∨∃ T' A' t,o=.fr ⟨.ret,T',A'⟩∧tget T' 2=.int .u64 ((t:Nat):Int)∧tget T' 3=.bool true∧Fr [] A1 A'∧(∃ k,M k=some t)∧∀ k a,M k=some a→t≤a) ?_ ?_
    ·refine CodeW.loopR (k:=16) (fun k T A'=>∃ j,k=16-j∧j≤16∧tget T 19=.int .i64 ((j:Nat):Int)∧tget T 18=.agg (((ms.drop (L*16)).take 16).map fun m=>Value.map (some m)).toArray∧tget T 10=.int .i64 (L:Int)∧tget T 0=.pointer (some ⟨W,0,none⟩)∧(∀ i,i<16*L+j→∀ k,M.at_ now i k=none)∧A'=A1) ?_ ⟨0,rfl,by omega,?_,?_,?_,?_,hemp,rfl⟩
     ·clear hemp u10 u0
      rintro k T A ⟨j,rfl,hj,u19,u18,u10,u0,hemp,rfl⟩
      refine codeW_ok E0_ok E0_ro ?_
      by_cases ej:j<16
      ·have d3:((j:Int)<16)=True:=eq_true (by omega)
       have hlt:16*L+j<ms.length:=by rw [h.len];omega
       have hm:ms[16*L+j]? = some (ms[16*L+j]'hlt):=List.getElem?_eq_getElem _
       generalize ms[16*L+j]'hlt=m at hm
       have hidx:=idx60 ej hm
       obtain ⟨es,ck,hes,hok,hg⟩:=h.slot _ _ hm
       have hel:=(hF.at2 now (16*L+j)).len hok hg
       have hlm:=lenT hes
       by_cases hel0:0<es.length
       ·have d4:((es.length:Int) > 0)=True:=eq_true (by omega)
        simp only [z_0,flat,aBuiltin,cond_true,if_true,if_false,List.append_nil,List.nil_append,eq_self,Nat.reduceEqDiff,Nat.reduceLT,u19,u18,d3,hidx,hlm,goInt,d4]
        refine CallT.mono values_spec ?_
        rintro _ _ ⟨rfl,rfl⟩
        have hn1:Fr [] A (A.new (.row [.map (some m)] 1 false)):=⟨by rw [ASt.next_new];omega,fun b hb _=>by rw [ASt.get_new,if_neg (by omega)]⟩
        have hmb:=h.below m (by simp [List.mem_of_getElem? hm])
        simp only [z_0,if_true,if_false,List.append_nil,List.nil_append,eq_self,Nat.reduceEqDiff,Nat.reduceLT]
        refine CallT.mono (collect_spec (c:=A.next) (m:=m) (es:=es) (ck:=ck) (by rw [ASt.get_new,if_pos rfl]) (by rw [ASt.get_new,if_neg (by omega)];exact hes) hok hel (by rw [ASt.next_new];omega) (by rw [ASt.next_new];omega)) ?_
        rintro v C ⟨done,lo,k1,k2,knd,k3,k4,k5⟩
        have hdl:0<(done.map (·.2.1)).length:=by
         cases done with
         | nil=>
          cases es with
          | nil=>simp at hel0
          | cons y es=>exact absurd (k2 y (by simp)) (by simp)
         | cons y l=>simp
        simp only [z_0,if_true,if_false,List.append_nil,List.nil_append,eq_self,Nat.reduceEqDiff,Nat.reduceLT]
        refine CallT.mono (min_spec k3 hdl (by rw [List.length_map];exact Nat.le_trans (nodup_le knd k1) hel)) ?_
        rintro _ _ ⟨t,rfl,ht,hall,rfl⟩
        have hl0:=least_of hok hg k1 k2 ht hall
        have hla:=least_all h hemp hl0.1 hl0.2
        simp only [z_0,flat,cond_true,if_true,if_false,eq_self,Nat.reduceEqDiff,Nat.reduceLT]
        exact .inr ⟨_,_,t,rfl,by simp only [tget_put,Nat.reduceEqDiff,if_false,if_true],by simp only [tget_put,Nat.reduceEqDiff,if_false,if_true],hn1.trans k5,hla⟩
       ·have d4:((es.length:Int) > 0)=False:=eq_false (by omega)
        simp only [z_0,flat,aBuiltin,cond_true,if_true,if_false,eq_self,Nat.reduceEqDiff,Nat.reduceLT,reduceCtorEq,u19,u18,d3,hidx,hlm,goInt,d4,wrap_succ (show j<1000000 by omega)]
        have:es=[]:=List.eq_nil_of_length_eq_zero (by omega)
        subst this
        refine ⟨16-(j+1),by omega,j+1,rfl,by omega,rfl,u10,u0,fun i hi k=>?_⟩
        by_cases hij:i=16*L+j
        ·subst hij;exact (hg k).symm
        ·exact hemp i (by omega) k
      ·have d3:((j:Int)<16)=False:=eq_false (by omega)
       simp only [z_0,flat,cond_true,if_true,eq_self,Nat.reduceLT,u19,d3]
       exact .inl ⟨_,rfl,by simp only [tget_put,Nat.reduceEqDiff,if_false,u10],by simp only [tget_put,Nat.reduceEqDiff,if_false,u0],fun i hi=>hemp i (by omega)⟩
     all_goals simp only [tget_put,Nat.reduceEqDiff,if_false,if_true,u10,u0]
     all_goals rfl
    ·rintro o (⟨T',rfl,w10,w0,hemp'⟩ | ⟨T',A',t,rfl,w2,w3,wf,wl⟩)
     ·simp only [z_0,flat,cond_true,if_true,if_false,eq_self,Nat.reduceEqDiff,Nat.reduceLT,reduceCtorEq,w10,wrap_succ (show L<1000000 by omega)]
      exact ⟨4-(L+1),by omega,L+1,rfl,by omega,rfl,w0,fun i hi=>hemp' i (by omega)⟩
     ·simp only [z_0]
      exact .inr ⟨_,_,t,rfl,w2,w3,wf,wl⟩
   ·have d2:((L:Int)<4)=False:=eq_false (by omega)
    simp only [z_0,flat,cond_true,if_true,eq_self,Nat.reduceLT,u10,d2]
    exact .inl ⟨_,rfl,by simp only [tget_put,Nat.reduceEqDiff,if_false,u0],fun i hi=>hemp i (by omega)⟩
  all_goals simp only [tget_put,Nat.reduceEqDiff,if_false,if_true]
  all_goals rfl
 ·rintro o (⟨T,rfl,u0,hemp⟩ | ⟨T',A',t,rfl,w2,w3,wf,wl⟩)
  ·have hlt:64<ms.length:=by rw [h.len];omega
   have esl:nth (wrow now all ms) (2+64)=some (.map (some (ms[64]'hlt))):=wrow_slot hlt
   have hm:ms[64]? = some (ms[64]'hlt):=List.getElem?_eq_getElem _
   generalize ms[64]'hlt=m at esl hm
   obtain ⟨es,ck,hes,hok,hg⟩:=h.slot _ _ hm
   have hel:=(hF.at2 now 64).len hok hg
   have hel0:0<es.length:=by
    by_cases h0:0<es.length
    ·exact h0
    ·exfalso
     have:es=[]:=List.eq_nil_of_length_eq_zero (by omega)
     subst this
     obtain ⟨l,_,g2,g3⟩:=hc
     cases l with
     | nil=>exact hc0 g3.symm
     | cons k l=>
      obtain ⟨a,ha⟩:=Option.isSome_iff_exists.1 ((g2 k).1 (by simp))
      have h3:M.at_ now (plc now a) k=some a:=Option.filter_eq_some_iff.2 ⟨ha,by simp⟩
      by_cases h64:plc now a<64
      ·rw [hemp _ h64 k] at h3;cases h3
      ·have:plc now a=64:=by have:=plc_le64 (now:=now) (a:=a);omega
       rw [this,← hg k] at h3
       cases h3
   simp only [z_0,aFieldAddr,cond_false,if_true,if_false,List.append_nil,List.nil_append,eq_self,Nat.reduceEqDiff,Nat.reduceLT,reduceCtorEq,u0,hW,esl]
   refine CallT.mono values_spec ?_
   rintro _ _ ⟨rfl,rfl⟩
   have hn1:Fr [] A (A.new (.row [.map (some m)] 1 false)):=⟨by rw [ASt.next_new];omega,fun b hb _=>by rw [ASt.get_new,if_neg (by omega)]⟩
   have hmb:=h.below m (by simp [List.mem_of_getElem? hm])
   simp only [z_0,if_true,if_false,List.append_nil,List.nil_append,eq_self,Nat.reduceEqDiff,Nat.reduceLT]
   refine CallT.mono (collect_spec (c:=A.next) (m:=m) (es:=es) (ck:=ck) (by rw [ASt.get_new,if_pos rfl]) (by rw [ASt.get_new,if_neg (by omega)];exact hes) hok hel (by rw [ASt.next_new];omega) (by rw [ASt.next_new];omega)) ?_
   rintro v C ⟨done,lo,k1,k2,knd,k3,k4,k5⟩
   have hdl:0<(done.map (·.2.1)).length:=by
    cases done with
    | nil=>
     cases es with
     | nil=>simp at hel0
     | cons y es=>exact absurd (k2 y (by simp)) (by simp)
    | cons y l=>simp
   simp only [z_0,if_true,if_false,List.append_nil,List.nil_append,eq_self,Nat.reduceEqDiff,Nat.reduceLT]
   refine CallT.mono (min_spec k3 hdl (by rw [List.length_map];exact Nat.le_trans (nodup_le knd k1) hel)) ?_
   rintro _ _ ⟨t,rfl,ht,hall,rfl⟩
   have hl0:=least_of hok hg k1 k2 ht hall
   have hla:=least_all h hemp hl0.1 hl0.2
   simp only [z_0,flat,cond_true,if_true,if_false,eq_self,Nat.reduceEqDiff,Nat.reduceLT]
   exact ⟨hn1.trans k5,.inr ⟨t,rfl,hla⟩⟩
  ·simp only [z_0,w2,w3]
   exact ⟨wf,.inr ⟨t,rfl,wl⟩⟩
end Go.Proofs.YtgcffmhpjphefaaGreatDoor

/- Soonest, of the table and of the document's. -/
namespace Go.Proofs.YtgcffmhpjphefaaGreatDoor
open Go Go.AE
set_option maxRecDepth 10000
set_option maxHeartbeats 8000000
variable {Z:Go.AE.Road}{s:Spans}
def LeastV(M:TM)(v:Value):Prop:=(v=.tuple #[.int .u64 0,.bool false]∧∀ k,M k=none)∨∃ t:Nat,v=.tuple #[.int .u64 (t:Int),.bool true]∧(∃ k,M k=some t)∧∀ k a,M k=some a→t≤a
theorem least_uniq{M:TM}{v w:Value}(h:LeastV M v)(h':LeastV M w):v=w:=by
 rcases h with ⟨rfl,h1⟩ | ⟨t,rfl,⟨k,h1⟩,h2⟩
 ·rcases h' with ⟨rfl,_⟩ | ⟨t,rfl,⟨k,h3⟩,_⟩
  ·rfl
  ·rw [h1 k] at h3;cases h3
 ·rcases h' with ⟨rfl,h3⟩ | ⟨u,rfl,⟨k',h3⟩,h4⟩
  ·rw [h3 k] at h1;cases h1
  ·have h5:=h2 _ _ h3
   have h6:=h4 _ _ h1
   have:t=u:=by omega
   rw [this]
theorem tU_soon{A:ASt}{x now n:Nat}{D:TD}{U:Nat→Prop}(h:TabU s A x now n D U)(hn:n≤1000):
  CallW Z Tryz.prog 28 [.pointer (some ⟨x,0,none⟩)] A (fun v A'=>LeastV (D.far now) v∧Fr [] A A'):=by
 obtain ⟨m,q,e,w,v,W,all,ms,S,hT,hU⟩:=h.ex
 refine CallW.of_code E0_ok E0_ro fn28 rfl (n:=13) rfl (rs:=[.tmp 2,.tmp 3]) rfl (by simp) (codeW_ok E0_ok E0_ro ?_)
 have hc0:=hT.core
 have h1:=hc0.hx
 simp only [z_0,flat,Option.isNone,aFieldAddr,cond_true,cond_false,if_true,if_false,List.append_nil,List.nil_append,eq_self,Nat.reduceEqDiff,Nat.reduceLT,reduceCtorEq,eqnilT,h1]
 refine CallT.mono (CallT.of_call (soonest_spec hc0.hW (hT.upto.few hn))) ?_
 rintro _ B ⟨hf,⟨rfl,h2⟩ | ⟨t,rfl,h2⟩⟩
 ·simp only [z_0,if_true,if_false,eq_self,Nat.reduceEqDiff,Nat.reduceLT,reduceCtorEq]
  exact ⟨.inl ⟨rfl,h2⟩,hf⟩
 ·simp only [z_0,if_true,if_false,eq_self,Nat.reduceEqDiff,Nat.reduceLT,reduceCtorEq]
  exact ⟨.inr ⟨t,rfl,h2⟩,hf⟩
theorem dsoon_spec(hro:RoadS Z E0 s){A:ASt}{m now:Nat}{P:List (TimD×Value)}{r:Value}{Sa:Nat→Prop}{D:TD}(h:DocT s A m now P r Sa)(hn:P.length≤1000)(hA:AllOf D (P.map (·.1)))(hk:∀ k t,D k=some t→t.name=k)(hb:∀ p∈P,p.1.at_<18446744073709551616):
  CallW Z Tryz.prog 50 [.pointer (some ⟨m,0,none⟩)] A (fun v A'=>LeastV (D.far now) v∧Fr [] A A'):=by
 refine CallW.assume hro fun hnr=>?_
 refine CallW.of_code (withRo_ok E0_ok) hro.ro (f:=50) (fn:=Tryz.f50) fn50 rfl (n:=18) rfl (rs:=[.tmp 2,.tmp 3]) rfl (by simp) (codeW_ok (withRo_ok E0_ok) hro.ro ?_)
 have hrow:=h.row
 simp only [w_w,z_0,w_pl,flat,aFieldAddr,cond_true,cond_false,if_true,if_false,List.append_nil,List.nil_append,eq_self,Nat.reduceEqDiff,Nat.reduceLT,reduceCtorEq,hrow]
 refine CallT.mono (CallT.of_call (dsorted_spec (fr:=now) (to:=18446744073709551615) (all:=false) hro h hn)) ?_
 rintro v B ⟨Q,ho,hQ,hm,hl,hf⟩
 have nB:=hf.next
 obtain ⟨hL,_⟩:=sorted_lists (f:=fun a=>decide (now<a)) hA hk hQ (fun p=>by
  rw [hm,decide_eq_true_eq]
  constructor
  ·rintro ⟨h1,h2⟩
   rcases h2.2 with h3 | h3
   ·cases h3
   ·exact ⟨h1,h3⟩
  ·rintro ⟨h1,h2⟩
   exact ⟨h1,by have:=hb p h1;omega,.inr h2⟩)
 obtain ⟨s1,s2⟩:=soon_head (now:=now) hL
 have hsl:SlAt (withRo E0 s) B (fun b=>A.next≤b) 5 v (Q.map fun p=>tcell p.1 p.2):=by
  have h1:=ho
  have:Q.length=(Q.map fun p=>tcell p.1 p.2).length:=by rw [List.length_map]
  rw [this] at h1
  exact OwnS.slAt h1 hnr tcell_len
 have len1:=timLen hsl
 cases Q with
 | nil=>
  have d1:(((0:Nat):Int)=0)=True:=eq_true rfl
  simp only [w_w,z_0,flat,aBuiltin,cond_true,if_true,if_false,List.length_nil,eq_self,Nat.reduceEqDiff,Nat.reduceLT,reduceCtorEq,len1,d1]
  exact ⟨.inl ⟨rfl,s1 rfl⟩,hf⟩
 | cons q Q'=>
  obtain ⟨b1,o1,c1,hx1,hc1,_,_,hn2,_⟩:=timIx hsl (i:=0) (p:=q) rfl
  have d1:(((Q'.length+1:Nat):Int)=0)=False:=eq_false (by omega)
  have hx0:aIndexAddr E0 23 v (.int .i64 0)=some (.pointer (some ⟨b1,o1,none⟩)):=hx1 .i64
  simp only [w_w,z_0,flat,aFieldAddr,aBuiltin,cond_true,cond_false,if_true,if_false,List.length_cons,eq_self,Nat.reduceEqDiff,Nat.reduceLT,reduceCtorEq,len1,d1,hx0,hc1,hn2]
  exact ⟨.inr ⟨q.1.at_,rfl,s2 q Q' rfl⟩,hf⟩
end Go.Proofs.YtgcffmhpjphefaaGreatDoor

/- What a script's acts hold, and spans for them. -/
namespace Go.Proofs.YtgcffmhpjphefaaGreatDoor
open Go Go.AE Go.ChangeShapes Go.WideShapes Go.ChangeAt Go.RowKit Go.Joins Go.Deep
set_option maxRecDepth 100000
variable {s:Spans}
structure ActD where
 kind:Int
 t:TimD
 at_:Nat
 by_:Nat
def acell(a:ActD)(dv:Value):List Value:=[.int .i64 a.kind,.string a.t.name,.int .i64 a.t.ver,.int .u64 (a.t.at_:Int),.int .u64 (a.t.every:Int),dv,.int .u64 (a.at_:Int),.int .u64 (a.by_:Int)]
def ActD.wide(a:ActD):Prop:=a.t.wide∧a.at_<18446744073709551616∧a.by_<18446744073709551616
instance:Inhabited ActD:=⟨⟨0,zTimD,0,0⟩⟩
section
variable {H:Type}{enc:TypeId×Value→H}{w:World}{base:Nat}{spare:Nat→Bool}{held:Bool}
theorem open_actZ{fuel:Nat}{cs:List Value}{x:DataW H×List MemPlace}(hlen:cs.length=8)(hf:DataW.trod enc Tryz.prog w base spare held fuel 50 cs=some x):∃ (a:ActD) (dv:Value),cs=acell a dv∧StepsZ w dv a.t.steps∧a.wide:=by
 match cs,hlen with
 | [c0,c1,c2,c3,c4,c5,c6,c7],_=>
  obtain ⟨d,p⟩:=x
  obtain ⟨xs,n,_,_,_,hxl,hg⟩:=Go.DataW.trod_struct Tryz.underlying50 hf
  have k3:Tryz.prog.cellsOf 3=1:=by kernel_rfl
  have kT:Tryz.prog.cellsOf 30=5:=by kernel_rfl
  have k22:Tryz.prog.cellsOf 22=1:=by kernel_rfl
  match xs,hxl with
  | [x0,x1,x2,x3],_=>
  have g0:DataW.trod enc Tryz.prog w base spare held n 3 (([c0,c1,c2,c3,c4,c5,c6,c7].drop 0).take (Tryz.prog.cellsOf 3))=some x0:=hg 0 _ rfl
  have g1:DataW.trod enc Tryz.prog w base spare held n 30 (([c0,c1,c2,c3,c4,c5,c6,c7].drop 1).take (Tryz.prog.cellsOf 30))=some x1:=hg 1 _ rfl
  have g2:DataW.trod enc Tryz.prog w base spare held n 22 (([c0,c1,c2,c3,c4,c5,c6,c7].drop 6).take (Tryz.prog.cellsOf 22))=some x2:=hg 2 _ rfl
  have g3:DataW.trod enc Tryz.prog w base spare held n 22 (([c0,c1,c2,c3,c4,c5,c6,c7].drop 7).take (Tryz.prog.cellsOf 22))=some x3:=hg 3 _ rfl
  rw [k3] at g0
  rw [kT] at g1
  rw [k22] at g2 g3
  obtain ⟨kd,e0,_,_⟩:=DataW.trod_int Tryz.underlying3 g0
  obtain ⟨t,dv,e1,hst,hw⟩:=open_timerZ (by rfl) g1
  obtain ⟨at_,e2,l2⟩:=trod_u64 g2
  obtain ⟨by_,e3,l3⟩:=trod_u64 g3
  cases e0;cases e1;cases e2;cases e3
  exact ⟨⟨kd,t,at_,by_⟩,c5,rfl,hst,hw,l2,l3⟩
def ActsAt(W:World)(v:Value)(P:List (ActD×Value)):Prop:=
 (P=[]∧v=.slice none 0 0)∨∃ b o cap,v=.slice (some ⟨b,o,none⟩) P.length cap∧cap≠unk∧∀ i p,P[i]? = some p→∀ r c,(acell p.1 p.2)[r]? = some c→W.cell? ⟨b,o+(i*8+r),none⟩=some c
theorem open_acts{fuel:Nat}{v:Value}{x:DataW H×List MemPlace}(h:DataW.trod enc Tryz.prog w base spare held fuel 45 [v]=some x)(hs:∀ a len cap,v=.slice (some a) len cap→a.spot=none):
  ∃ P,ActsAt w v P∧∀ p∈P,StepsZ w p.2 p.1.t.steps∧p.1.wide:=by
 rcases open_slice Tryz.underlying45 h with ⟨h0,_⟩ | ⟨a,len,cap,m,n,D,Pl,h0,_,hl,hcap,hm,_,hx⟩
 ·cases h0;exact ⟨[],.inl ⟨rfl,rfl⟩,by simp⟩
 have hc:Tryz.prog.cellsOf 50=8:=by kernel_rfl
 rw [hc] at hx
 have hlm:len≤m:=by rw [hm];split<;>omega
 have each:∀ i,i<len→∃ p:ActD×Value,(StepsZ w p.2 p.1.t.steps∧p.1.wide)∧∀ r v,(acell p.1 p.2)[r]? = some v→w.cell? (a.add (i*8+r))=some v:=by
  intro i hi
  obtain ⟨cs',h1,h2⟩:=hx i (by omega)
  obtain ⟨_,hlen,hcell⟩:=World.cells?_some h1
  obtain ⟨t,dv,rfl,h3,h4⟩:=open_actZ hlen h2
  refine ⟨(t,dv),⟨h3,h4⟩,fun r v hr=>?_⟩
  have hr5:r<8:=by
   by_cases hlt:r<8
   ·exact hlt
   ·rw [List.getElem?_eq_none (by show 8≤r;omega)] at hr
    cases hr
  have:=hcell r hr5
  rw [add_add] at this
  rw [this]
  exact hr
 obtain ⟨f,hf⟩:=choose_ltS each
 cases h0
 have hsp:=hs a len cap rfl
 obtain ⟨b,o,sp⟩:=a
 simp only at hsp
 subst hsp
 refine ⟨(List.range len).map f,.inr ⟨b,o,cap,by simp,cap_unk hcap,fun i y hy r c hr=>?_⟩,fun y hy=>?_⟩
 ·rw [List.getElem?_map] at hy
  obtain ⟨j,hj,rfl⟩:=Option.map_eq_some_iff.1 hy
  have hi:i<len:=by
   by_cases hlt:i<len
   ·exact hlt
   ·rw [List.getElem?_eq_none (by simp;omega)] at hj
    cases hj
  have:j=i:=by simpa [List.getElem?_range hi] using hj.symm
  subst this
  have:=(hf j hi).2 r c hr
  rwa [add_plain] at this
 ·obtain ⟨i,hi,rfl⟩:=List.mem_map.1 hy
  exact (hf i (List.mem_range.1 hi)).1
end
theorem acells_at:∀ {l:List (ActD×Value)} {i:Nat} {v:Value},((l.map fun p=>acell p.1 p.2).flatten)[i]? = some v→∃ q p r,l[q]? = some p∧r<8∧i=q*8+r∧(acell p.1 p.2)[r]? = some v
 | [],i,v,h=>by simp at h
 | y::l,i,v,h=>by
  rw [List.map_cons,List.flatten_cons] at h
  by_cases hi:i<8
  ·rw [List.getElem?_append_left (by exact hi)] at h
   exact ⟨0,y,i,rfl,hi,by omega,h⟩
  ·rw [List.getElem?_append_right (by exact Nat.le_of_not_lt hi)] at h
   have h:((l.map fun p=>acell p.1 p.2).flatten)[i-8]? = some v:=h
   obtain ⟨q,z,r,h1,h2,h3,h4⟩:=acells_at (l:=l) (i:=i-8) (v:=v) h
   exact ⟨q+1,z,r,by simpa using h1,h2,by omega,h4⟩
theorem acell_len{P:List (ActD×Value)}:∀ x∈P.map (fun p=>acell p.1 p.2),x.length=8:=by
 intro x hx
 obtain ⟨y,_,rfl⟩:=List.mem_map.1 hx
 rfl
structure HandedA(s:Spans)(A:ASt)(S:Nat→Prop)(v:Value)(P:List (ActD×Value)):Prop where
 sl:SlAt (withRo E0 s) A S 8 v (P.map fun p=>acell p.1 p.2)
 st:∀ p∈P,Steps (withRo E0 s) A S p.2 p.1.t.steps∧(∀ y∈p.1.t.steps,y.ranged)∧p.1.wide
theorem HandedA.fr{A B:ASt}{S:Nat→Prop}{v:Value}{P:List (ActD×Value)}{own:List Nat}(h:HandedA s A S v P)(hf:Fr own A B)(ho:∀ b,S b→b<A.next→b∉own):HandedA s B S v P:=
 ⟨h.sl.fr hf ho,fun p hp=>⟨(h.st p hp).1.fr hf ho,(h.st p hp).2⟩⟩
theorem acts_span{W:World}{v:Value}{P:List (ActD×Value)}(h:ActsAt W v P)(hst:∀ p∈P,StepsZ W p.2 p.1.t.steps∧p.1.wide)(s0:Spans):∃ (s1:Spans) (lv:Value) (P':List (ActD×Value)),∀ s':Spans,
  LieIn s1 (s0++(s1++s')) W∧VRel (roRen (s0++(s1++s'))) lv v∧∀ A:ASt,(∀ b,b<A.next→A.get b=none)→(s0++(s1++s')).length≤A.next→HandedA (s0++(s1++s')) A (fun b=>b<(s0++(s1++s')).length) lv P':=by
 rcases h with ⟨rfl,rfl⟩ | ⟨b,o,cap,rfl,hcap,hx⟩
 ·exact ⟨[],.slice none 0 0,[],fun s'=>⟨fun x hx=>(by cases hx),.nilSlice 0 0,fun A _ _=>⟨.inl ⟨rfl,.inl rfl⟩,fun p hp=>(by cases hp)⟩⟩⟩
 ·have each:∀ i,i<P.length→∃ y:(Go.AE.Loc×List Value)×Value,(∀ (j:Nat) (c:Value),y.1.2[j]? = some c→closed c=true∧W.cell? ⟨y.1.1.B,y.1.1.o+j,none⟩=some c)∧
    ∀ p,P[i]? = some p→∀ s:Spans,s[s0.length+i]? = some y.1→VRel (roRen s) y.2 p.2∧∀ A:ASt,(∀ b,b<A.next→A.get b=none)→s0.length+i<A.next→Steps (withRo E0 s) A (fun b=>b=s0.length+i) y.2 p.1.t.steps:=fun i hi=>by
   have hp:P[i]? = some P[i]:=List.getElem?_eq_getElem hi
   obtain ⟨x,sv,h1,h2⟩:=stepsZ_span (hst _ (List.mem_of_getElem? hp)).1 (s0.length+i)
   refine ⟨(x,sv),h1,fun p hp2 s hs=>?_⟩
   rw [hp] at hp2
   cases hp2
   exact h2 s hs
  obtain ⟨f,hf⟩:=choose_ltS each
  let xs:Spans:=(List.range P.length).map fun i=>(f i).1
  let P':List (ActD×Value):=P.mapIdx fun i p=>(p.1,(f i).2)
  have hxs:∀ i,i<P.length→xs[i]? = some (f i).1:=fun i hi=>by
   show ((List.range P.length).map fun i=>(f i).1)[i]? = _
   rw [List.getElem?_map,List.getElem?_range hi]
   rfl
  have hxl:xs.length=P.length:=by simp [xs]
  have hP':∀ i p',P'[i]? = some p'→∃ p,P[i]? = some p∧i<P.length∧p'=(p.1,(f i).2):=fun i p' hi=>by
   have hi:(P.mapIdx fun i p=>(p.1,(f i).2))[i]? = some p':=hi
   rw [List.getElem?_mapIdx] at hi
   obtain ⟨p,h1,h2⟩:=Option.map_eq_some_iff.1 hi
   exact ⟨p,h1,(List.getElem?_eq_some_iff.1 h1).1,h2.symm⟩
  have hPl:P'.length=P.length:=List.length_mapIdx
  have hat:∀ s' i,i<P.length→(s0++((xs++[((⟨b,o,0,0,undef⟩:Go.AE.Loc),(P'.map fun p=>acell p.1 p.2).flatten)])++s'))[s0.length+i]? = some (f i).1:=fun s' i hi=>by
   rw [List.getElem?_append_right (by omega),Nat.add_sub_cancel_left,List.append_assoc,List.getElem?_append_left (by omega)]
   exact hxs i hi
  have hrow:∀ s',(s0++((xs++[((⟨b,o,0,0,undef⟩:Go.AE.Loc),(P'.map fun p=>acell p.1 p.2).flatten)])++s'))[s0.length+P.length]? = some ((⟨b,o,0,0,undef⟩:Go.AE.Loc),(P'.map fun p=>acell p.1 p.2).flatten):=fun s'=>by
   rw [List.getElem?_append_right (by omega),Nat.add_sub_cancel_left,List.append_assoc,List.getElem?_append_right (by omega),hxl,Nat.sub_self]
   rfl
  refine ⟨xs++[((⟨b,o,0,0,undef⟩:Go.AE.Loc),(P'.map fun p=>acell p.1 p.2).flatten)],.slice (some ⟨s0.length+P.length,0,none⟩) P.length cap,P',fun s'=>⟨fun x hx1 i c hc=>?_,?_,fun A hA hn=>⟨?_,fun p' hp'=>?_⟩⟩⟩
  ·rcases List.mem_append.1 hx1 with h1 | h1
   ·obtain ⟨j,hj,rfl⟩:=List.mem_map.1 h1
    obtain ⟨h2,h3⟩:=(hf j (List.mem_range.1 hj)).1 i c hc
    exact ⟨c,h3,.refl_closed h2⟩
   ·simp only [List.mem_singleton] at h1
    subst h1
    obtain ⟨q,p',r,h2,h3,rfl,h4⟩:=acells_at hc
    obtain ⟨p,h5,h6,rfl⟩:=hP' q p' h2
    have h7:=hx q p h5
    have h8:=((hf q h6).2 p h5 _ (hat s' q h6)).1
    match r,h3,h4 with
    | 0,_,h4=>cases h4;exact ⟨_,h7 0 _ rfl,.refl_closed rfl⟩
    | 1,_,h4=>cases h4;exact ⟨_,h7 1 _ rfl,.refl_closed rfl⟩
    | 2,_,h4=>cases h4;exact ⟨_,h7 2 _ rfl,.refl_closed rfl⟩
    | 3,_,h4=>cases h4;exact ⟨_,h7 3 _ rfl,.refl_closed rfl⟩
    | 4,_,h4=>cases h4;exact ⟨_,h7 4 _ rfl,.refl_closed rfl⟩
    | 5,_,h4=>cases h4;exact ⟨_,h7 5 _ rfl,h8⟩
    | 6,_,h4=>cases h4;exact ⟨_,h7 6 _ rfl,.refl_closed rfl⟩
    | 7,_,h4=>cases h4;exact ⟨_,h7 7 _ rfl,.refl_closed rfl⟩
  ·have hr:roRen (s0++((xs++[((⟨b,o,0,0,undef⟩:Go.AE.Loc),(P'.map fun p=>acell p.1 p.2).flatten)])++s')) (s0.length+P.length)=some ⟨b,o,0,0,undef⟩:=by unfold roRen;rw [hrow];rfl
   exact .slice (b:=s0.length+P.length) (off:=0) P.length hr hcap
  ·have hlen:=flat_len (acell_len (P:=P'))
   have hlt:s0.length+P.length<(s0++((xs++[((⟨b,o,0,0,undef⟩:Go.AE.Loc),(P'.map fun p=>acell p.1 p.2).flatten)])++s')).length:=by simp only [List.length_append,List.length_cons,List.length_nil];omega
   refine .inr ⟨s0.length+P.length,0,cap,(P'.map fun p=>acell p.1 p.2).flatten,by rw [List.length_map,hPl],.inl ⟨hA _ (by omega),?_⟩,hlt,by omega,acell_len,?_⟩
   ·rw [ro_of]
    unfold roTab
    rw [hrow];rfl
   ·unfold cut
    simp only [List.drop_zero,← hlen,List.take_length,Nat.beq_refl,cond_true]
  ·obtain ⟨i,hi⟩:=List.mem_iff_getElem?.1 hp'
   obtain ⟨p,h5,h6,rfl⟩:=hP' i p' hi
   have h8:=((hf i h6).2 p h5 _ (hat s' i h6)).2 A hA (by simp only [List.length_append,List.length_cons,List.length_nil] at hn;omega)
   have hw:=(hst p (List.mem_of_getElem? h5)).2
   refine ⟨h8.imp (fun b hb _=>?_),fun y hy=>⟨(hw.1.1 y hy).2.2.1,(hw.1.1 y hy).2.2.2⟩,hw⟩
   subst hb
   simp only [List.length_append,List.length_cons,List.length_nil]
   omega
end Go.Proofs.YtgcffmhpjphefaaGreatDoor

/- The table tells what the document's does. -/
namespace Go.Proofs.YtgcffmhpjphefaaGreatDoor
open Go Go.AE
set_option maxRecDepth 10000
set_option maxHeartbeats 32000000
variable {Z:Go.AE.Road}{s:Spans}
section
variable {P:Program}{fi gi:FuncId}{Pre:List Value→ASt→Prop}{Sp:ASt→Value→ASt→Prop}{A:ASt}{K:Value→ASt→Prop}{l:List Value}
def RG(f:FuncId)(Pre:List Value→ASt→Prop)(Sp:ASt→Value→ASt→Prop):Tgt→List Value→ASt→(Value→ASt→Prop)→Prop:=fun tg l A S=>Pre l A∧tg=.fn f∧S=Sp A
theorem RG_ok(h:∀ l A,Pre l A→CallW Z P fi l A (Sp A))(t args A S)(hr:RG fi Pre Sp t args A S):CallT Z P t args A S:=by
 obtain ⟨hp,rfl,rfl⟩:=hr
 exact h _ A hp
theorem conRG(hp:Pre l A)(h:∀ r A',Sp A r A'→K r A'):conC (RG fi Pre Sp) (.fn fi) l A K:=by
 refine ⟨⟨_,hp,rfl,rfl⟩,?_⟩
 rintro S ⟨_,_,rfl⟩ r A' hr
 exact h r A' hr
theorem nocG(h:fi≠gi):NoC (RG fi Pre Sp) gi:=fun l A S ⟨_,e,_⟩=>by cases e;exact h rfl
end
theorem eq4{xo yo:Operand}{a b:Bool}:aBin2 E0 .eql 4 xo yo (.bool a) (.bool b)=some (.bool (a == b)):=by
 cases a<;>cases b<;>rfl
def aval(a:ActD)(dv:Value):Value:=.agg #[.int .i64 a.kind,.string a.t.name,.int .i64 a.t.ver,.int .u64 (a.t.at_:Int),.int .u64 (a.t.every:Int),dv,.int .u64 (a.at_:Int),.int .u64 (a.by_:Int)]
theorem box50{a:ActD}{dv:Value}:aBox E0 50 (aval a dv)=some (.row (acell a dv) 8 false,ptrTo):=by
 simp only [aBox,w_pl];rfl
theorem acut{a:ActD}{dv:Value}:cut (acell a dv) 1 5=some (tcell a.t dv):=rfl
theorem anth{a:ActD}{dv:Value}:nth (acell a dv) 1=some (.string a.t.name):=rfl
theorem LeastV.form{M:TM}{v:Value}(h:LeastV M v):∃ (t:Nat) (b:Bool),v=.tuple #[.int .u64 (t:Int),.bool b]:=by
 rcases h with ⟨rfl,_⟩ | ⟨t,rfl,_⟩
 ·exact ⟨0,false,rfl⟩
 ·exact ⟨t,true,rfl⟩
theorem aft_steps{E:Env}{A:ASt}{S:Nat→Prop}{t:TimD}{dv:Value}{now:Nat}(h:Steps E A S dv t.steps):Steps E A S (if (aft t now).isSome then dv else .slice none 0 0) ((aft t now).getD zt).steps:=by
 unfold aft
 split
 ·split
  ·exact .inl ⟨rfl,.inl rfl⟩
  ·exact h
 ·exact .inl ⟨rfl,.inl rfl⟩
theorem aft_len{t:TimD}{now:Nat}(h:t.steps.length≤1000):((aft t now).getD zt).steps.length≤1000:=by
 unfold aft
 split
 ·split
  ·exact Nat.zero_le _
  ·exact h
 ·exact Nat.zero_le _
theorem tU_get(hro:RoadS Z E0 s){A:ASt}{x now n:Nat}{D:TD}{U:Nat→Prop}{k:ByteArray}(h:TabU s A x now n D U):
  CallW Z Tryz.prog 14 [.pointer (some ⟨x,0,none⟩),.string k] A (fun r A'=>∃ du',r=.tuple #[tval ((D k).getD zTimD) du',.bool (D k).isSome]∧Steps (withRo E0 s) A' (fun b=>A.next≤b) du' ((D k).getD zTimD).steps∧Fr [] A A'):=by
 obtain ⟨m,q,e,w,v,W,all,ms,S,hT,hU⟩:=h.ex
 exact tgetC_spec hro hT
section
variable {A:ASt}{x m now n:Nat}{D:TD}{U Sa Sb:Nat→Prop}{P:List (TimD×Value)}{r:Value}
theorem alike_spec(hro:RoadS Z E0 s)(h:Pair s A x m now n D U P r Sa)(hn:n≤900)(hnow:now<18446744073709551616){a:ActD}{dv:Value}(hd:Steps (withRo E0 s) A Sb dv a.t.steps)(hl:a.t.steps.length≤1000)(hat:a.t.at_<18446744073709551616)(hev:a.t.every<18446744073709551616)(hS:∀ b,Sb b→b<A.next→¬ U b):
  CallW Z Tryz.prog 27 [.pointer (some ⟨x,0,none⟩),.pointer (some ⟨m,0,none⟩),aval a dv] A (fun v A'=>v=.bool true∧∃ U',Pair s A' x m now n D U' P r Sa∧Grow A U U'∧FrU U A A'):=by
 refine CallW.assume hro fun hnr=>?_
 refine CallW.of_code (withRo_ok E0_ok) hro.ro (f:=27) (fn:=Tryz.f27) fn27 rfl (n:=141) rfl (rs:=[.tmp 6]) rfl (by simp) (codeW_ok (withRo_ok E0_ok) hro.ro ?_)
 have hPl:P.length≤1000:=by have:=h.few;omega
 have hd:=hd.imp (S':=fun b=>Sb b∧b<A.next) (fun b h1 h2=>⟨h1,h2⟩)
 have hlm:=h.doc.lt
 have rm:(withRo E0 s).ro m=none:=h.doc.rs m (.inl rfl)
 have ra:(withRo E0 s).ro A.next=none:=hnr _ (Nat.le_refl _)
 have vr:valEq r r=true:=h.doc.own.ve
 have hro2:∀ {B:ASt},A.next≤B.next→∀ b,B.next≤b→(withRo E0 s).ro b=none:=fun hB b hb=>hnr b (by omega)
 have hdl:∀ p∈P,p.1.steps.length≤1000:=fun p hp=>(h.right hp).steps
 simp only [w_w,z_0,flat,cond_true,if_true,if_false,eq_self,Nat.reduceEqDiff,Nat.reduceAdd,Nat.reduceLT,reduceCtorEq,box50,ptrTo]
 generalize hB:A.new (.row (acell a dv) 8 false)=B
 have fA:Fr [] A B:=by rw [← hB];exact .new
 have ga:B.get A.next=some (.row (acell a dv) 8 false):=by rw [← hB,ASt.get_new,if_pos rfl]
 have nB:B.next=A.next+1:=by rw [← hB,ASt.next_new]
 clear hB
 have h0:=h.fr0 fA
 have hd0:=hd.fr fA (by simp)
 have fb:Fr [] B { heap:=B.heap,next:=B.next+8 }:=Fr.bump (by omega)
 have hR:=RU_ok (Z:=Z) (P:=Tryz.prog)
  (RO_ok (f:=12) (ar:=[.pointer (some ⟨x,0,none⟩)]) (Pr:=fun A'=>Fr [] B A') (Sp:=fun A1 r A2=>∃ P1:List (TimD×Value),TimsAt s A2 A1.next r P1∧AllOf D (P1.map (·.1))∧Fr [] A1 A2) (fun A' hp=>tU_all hro (h0.tab.fr0 hp) (by omega)))
  (RG_ok (fi:=17) (Pre:=fun l A'=>∃ (r1:Value) (P1:List (TimD×Value)),l=[r1,r]∧SlAt (withRo E0 s) A' (fun b=>B.next≤b) 5 r1 (P1.map fun p=>tcell p.1 p.2)∧(∀ p∈P1,Steps (withRo E0 s) A' (fun b=>B.next≤b) p.2 p.1.steps)∧P1.map (·.1)=P.map (·.1)∧Fr [] B A') (Sp:=fun A1 r A2=>r=.bool true∧Fr [] A1 A2) (fun l A' ⟨r1,P1,e,h1,h2,h3,h4⟩=>by
   subst e
   have hdoc:=h0.doc.fr0 h4
   have hl1:P1.length=P.length:=by have:=congrArg List.length h3;simpa using this
   refine sameAll_spec hro h1 hdoc.sl h2 hdoc.st h3 (fun p hp=>?_) (by omega) (hro2 (by omega)) (fun b hb=>hdoc.rs b (.inr hb))
   have:p.1∈P.map (·.1):=by rw [← h3];exact List.mem_map.2 ⟨p,hp,rfl⟩
   obtain ⟨p',hp',e⟩:=List.mem_map.1 this
   rw [← e]
   exact hdl p' hp'))
 refine CodeW.seqg (withRo_ok E0_ok) hro.ro mixed hR [0,2,3,4,5,1,6,7] [1,2,3,4] [[],[],[],[],[],[],[],[]] [[],[],[1],[1,2],[1,2,3],[],[1,2,3,4],[1,2,3,4]] (by simp only [reorder,reoGo,strip,List.map_cons,List.map_nil,opAt,remap,nth,Option.map,σ,place',List.length_cons,List.length_nil,Nat.reduceAdd];rfl) (by decide +kernel) (by kernel_rfl) (by kernel_rfl) (by kernel_rfl) (by kernel_rfl) (by kernel_rfl) ?_
 have hrow:=h0.doc.row
 simp only [w_w,z_0,w_pl,aFieldAddr,cond_false,if_true,if_false,List.length_cons,List.length_nil,List.append_nil,List.nil_append,eq_self,Nat.reduceEqDiff,Nat.reduceAdd,Nat.reduceLT,reduceCtorEq,q_0,q_1,q_2,f_0,hasN,List.length_cons,List.length_nil,f_1,hrow,rm,vr]
 refine conL (conRO fb ?_) (nocG (by decide))
 rintro rg C ⟨P1,hP1,hA1,fC⟩
 have hP1:TimsAt s C (B.next+8) rg P1:=hP1
 obtain ⟨gb,gc,rfl⟩:=hP1.form
 have nC:B.next+8≤C.next:=fC.next
 have fBC:=fb.trans fC
 have hrow1:=(h0.doc.fr0 fBC).row
 simp only [w_w,z_0,cond_false,if_true,if_false,List.append_nil,List.nil_append,eq_self,Nat.reduceEqDiff,Nat.reduceAdd,Nat.reduceLT,reduceCtorEq,q_0,q_1,f_0,hasN,exists_eq',f_1,hrow1]
 have hro3:∀ b,B.next≤b→(withRo E0 s).ro b=none:=hro2 (by omega)
 have all_eq:P1.map (·.1)=P.map (·.1):=all_uniq hA1 h.all
 refine conR (conRG ⟨_,P1,rfl,(hP1.sl (fun b hb=>hnr b (by omega))).imp (fun b hb _=>by show B.next≤b;omega),fun p hp=>(hP1.steps p hp).imp (fun b hb _=>by omega),all_eq,fBC⟩ ?_) (NoC.one (by decide))
 rintro _ C1 ⟨rfl,fC1⟩
 have nC1:=fC1.next
 have h1:=(h0.fr0 fBC).fr0 fC1
 have ga1:=((fBC.trans fC1).get A.next (by omega) (by simp)).trans ga
 simp only [w_w,z_0,cond_true,if_true,if_false,List.append_nil,List.nil_append,eq_self,Nat.reduceEqDiff,Nat.reduceAdd,Nat.reduceLT,reduceCtorEq,q_0,q_2,f_0,hasN,f_1]
 -- those that are due, twice
 refine CallT.mono (CallT.of_call (tU_due hro h1.tab (by omega))) ?_
 rintro v1 D1 ⟨L1,Q1,hL1,hQ1,hm1,U1,hT1,hg1,fD1,hp1⟩
 obtain ⟨d1b,d1c,rfl⟩:=hQ1.form
 have nD1:=fD1.next
 have k1:Pair s D1 x m now n D U1 P r Sa:=⟨hT1,h1.doc.frU fD1 h.off,h.all,h.few,h1.offG hg1 (Nat.le_refl _)⟩
 have gA1:∀ b,U1 b→b≠A.next:=fun b hb=>by
  rcases hg1 b hb with h2 | h2
  ·have:=h.tab.lt b h2;omega
  ·omega
 have ga2:=(fD1.get (b:=A.next) (by omega) (fun hu=>by have:=h.tab.lt _ hu;omega)).trans ga1
 simp only [w_w,z_0,w_pl,if_true,if_false,List.append_nil,List.nil_append,eq_self,Nat.reduceEqDiff,Nat.reduceLT,reduceCtorEq]
 refine CallT.mono (CallT.of_call (ddue_spec hro k1.doc hPl)) ?_
 rintro v2 D2 ⟨Q2,ho2,hs2,hm2,hl2,fD2⟩
 have nD2:=fD2.next
 have k2:=k1.fr0 fD2
 have ga3:=(fD2.get A.next (by omega) (by simp)).trans ga2
 obtain ⟨hL2,hv2⟩:=sorted_lists (f:=fun a=>decide (a≤now)) h.all h.name hs2 hm2
 have hsl2:=slAtB (s:=s) ho2 (hro2 (by omega))
 have due_eq:Q1.map (·.1)=Q2.map (·.1):=due_list hL1 hL2 hm1 hv2
 have hn1:Q1.length≤1000:=by have:=(due_len hL1 hm1 h1.tab.upto).2;omega
 have hstp:∀ p∈Q1,p.1.steps.length≤1000:=fun p hp=>by
  obtain ⟨k,hk⟩:=due_some hL1 hm1 p hp
  exact (h.tab.ok k _ hk).1.steps
 simp only [w_w,z_0,if_true,if_false,List.append_nil,List.nil_append,eq_self,Nat.reduceEqDiff,Nat.reduceLT,reduceCtorEq]
 refine CallT.mono (CallT.of_call (sameAll_spec hro ((hp1.fr0 fD2).sl (hro2 (by omega))) hsl2 (hp1.fr0 fD2).st (fun p hp=>k2.doc.st p ((hm2 p).1 hp).1) due_eq hstp hn1 (hro2 (by omega)) (fun b hb=>hnr b (by have:=(ho2.low b hb).1;omega)))) ?_
 rintro _ D3 ⟨rfl,fD3⟩
 have nD3:=fD3.next
 have k3:=k2.fr0 fD3
 have ga4:=(fD3.get A.next (by omega) (by simp)).trans ga3
 simp only [w_w,z_0,if_true,if_false,List.append_nil,List.nil_append,eq_self,Nat.reduceEqDiff,Nat.reduceLT,reduceCtorEq]
 refine CallT.mono (CallT.of_call (tU_due hro k3.tab (by omega))) ?_
 rintro v3 E1 ⟨L3,Q3,hL3,hQ3,hm3,U3,hT3,hg3,fE1,hp3⟩
 obtain ⟨d3b,d3c,rfl⟩:=hQ3.form
 have nE1:=fE1.next
 have k4:Pair s E1 x m now n D U3 P r Sa:=⟨hT3,k3.doc.frU fE1 k3.off,h.all,h.few,k3.offG hg3 (Nat.le_refl _)⟩
 have ga5:=(fE1.get (b:=A.next) (by omega) (fun hu=>gA1 _ hu rfl)).trans ga4
 simp only [w_w,z_0,w_pl,if_true,if_false,List.append_nil,List.nil_append,eq_self,Nat.reduceEqDiff,Nat.reduceLT,reduceCtorEq]
 refine CallT.mono (CallT.of_call (ddue_spec hro k4.doc hPl)) ?_
 rintro v4 E2 ⟨Q4,ho4,hs4,hm4,hl4,fE2⟩
 have nE2:=fE2.next
 have k5:=k4.fr0 fE2
 have ga6:=(fE2.get A.next (by omega) (by simp)).trans ga5
 obtain ⟨hL4,hv4⟩:=sorted_lists (f:=fun a=>decide (a≤now)) h.all h.name hs4 hm4
 have hsl4:=slAtB (s:=s) ho4 (hro2 (by omega))
 have due_eq2:Q3.map (·.1)=Q4.map (·.1):=due_list hL3 hL4 hm3 hv4
 have hn3:Q3.length≤1000:=by have:=(due_len hL3 hm3 k3.tab.upto).2;omega
 have hstp3:∀ p∈Q3,p.1.steps.length≤1000:=fun p hp=>by
  obtain ⟨k,hk⟩:=due_some hL3 hm3 p hp
  exact (h.tab.ok k _ hk).1.steps
 simp only [w_w,z_0,if_true,if_false,List.append_nil,List.nil_append,eq_self,Nat.reduceEqDiff,Nat.reduceLT,reduceCtorEq]
 refine CallT.mono (CallT.of_call (sameAll_spec hro ((hp3.fr0 fE2).sl (hro2 (by omega))) hsl4 (hp3.fr0 fE2).st (fun p hp=>k5.doc.st p ((hm4 p).1 hp).1) due_eq2 hstp3 hn3 (hro2 (by omega)) (fun b hb=>hnr b (by have:=(ho4.low b hb).1;omega)))) ?_
 rintro _ E3 ⟨rfl,fE3⟩
 have nE3:=fE3.next
 have k6:=k5.fr0 fE3
 have ga7:=(fE3.get A.next (by omega) (by simp)).trans ga6
 -- what changed so far
 have fU1:FrU U A D1:=(Fr.u ((fA.trans fBC).trans fC1):FrU U A C1).step fD1 (fun b hb _=>hb)
 have fU2:FrU U A D3:=fU1.step (Fr.u (U:=fun _=>False) (fD2.trans fD3)) (fun b hb _=>hb.elim)
 have fU3:FrU U A E1:=fU2.step fE1 (fun b hb hlt=>(hg1 b hb).elim id (fun h2=>by omega))
 have fU4:FrU U A E3:=fU3.step (Fr.u (U:=fun _=>False) (fE2.trans fE3)) (fun b hb _=>hb.elim)
 have gU:Grow A U U3:=fun b hb=>by
  rcases hg3 b hb with h2 | h2
  ·rcases hg1 b h2 with h3 | h3
   ·exact .inl h3
   ·exact .inr (by omega)
  ·exact .inr (by omega)
 have hdE:Steps (withRo E0 s) E3 (fun b=>Sb b∧b<A.next) dv a.t.steps:=by
  obtain ⟨own,f,ho⟩:=fU4
  exact hd.fr f (fun b hb hlt hm=>hS b hb.1 hlt (ho b hm))
 clear fD1 fD2 fD3 fE1 fE2 fE3 hp1 hp3 hT1 hT3 hL1 hL2 hL3 hL4 hm1 hm2 hm3 hm4 hv2 hv4 hs2 hs4 hsl2 hsl4 ho2 ho4 hQ1 hQ3
 -- the soonest
 simp only [w_w,z_0,if_true,if_false,List.append_nil,List.nil_append,eq_self,Nat.reduceEqDiff,Nat.reduceLT,reduceCtorEq]
 refine CallT.mono (CallT.of_call (tU_soon k6.tab (by omega))) ?_
 rintro v5 F1 ⟨hv5,fF1⟩
 obtain ⟨st,sb,rfl⟩:=hv5.form
 have nF1:=fF1.next
 have k7:=k6.fr0 fF1
 simp only [w_w,z_0,w_pl,if_true,if_false,List.append_nil,List.nil_append,eq_self,Nat.reduceEqDiff,Nat.reduceLT,reduceCtorEq]
 refine CallT.mono (CallT.of_call (dsoon_spec hro k7.doc hPl h.all h.name (fun p hp=>by have:=(h.right hp).2.2.2.2.2.1;omega))) ?_
 rintro v6 F2 ⟨hv6,fF2⟩
 obtain rfl:=least_uniq hv5 hv6
 have nF2:=fF2.next
 have k8:=k7.fr0 fF2
 have fEF:=fF1.trans fF2
 have ga8:=(fEF.get A.next (by omega) (by simp)).trans ga7
 have hdF:=hdE.fr fEF (by simp)
 -- what it is
 simp only [w_w,z_0,w_pl,aFieldAddr,cond_false,if_true,if_false,List.append_nil,List.nil_append,eq_self,Nat.reduceEqDiff,Nat.reduceLT,reduceCtorEq,ga8,anth]
 refine CallT.mono (CallT.of_call (tU_get hro (k:=a.t.name) k8.tab)) ?_
 rintro _ G1 ⟨du,rfl,hdu,fG1⟩
 have nG1:=fG1.next
 have k9:=k8.fr0 fG1
 obtain ⟨g,hg⟩:∃ g,(D a.t.name).getD zTimD=g:=⟨_,rfl⟩
 rw [hg] at hdu ⊢
 obtain ⟨u,hu⟩:∃ u,(aft a.t now).getD zt=u:=⟨_,rfl⟩
 obtain ⟨bs,hbs⟩:∃ b,(aft a.t now).isSome=b:=⟨_,rfl⟩
 obtain ⟨dv2,hdv2⟩:∃ d,(if (aft a.t now).isSome then dv else .slice none 0 0)=d:=⟨_,rfl⟩
 have hlu:u.steps.length≤1000:=by rw [← hu];exact aft_len hl
 have hst2:∀ {A':ASt} {S:Nat→Prop},Steps (withRo E0 s) A' S dv a.t.steps→Steps (withRo E0 s) A' S dv2 u.steps:=fun h=>by rw [← hu,← hdv2];exact aft_steps h
 obtain ⟨H1,hsto,fH1,gH1,nH1⟩:=newTim (A:=G1) (t:=g) (dv:=du) hdu.single
 have gH1:H1.get G1.next=some (.row (tcell g du) 5 false):=gH1
 have fFH:=fG1.trans fH1
 have k10:=k9.fr0 fH1
 have ga9:=(fFH.get A.next (by omega) (by simp)).trans ga8
 have hdH:=hdF.fr fFH (by simp)
 have hduH:=hdu.fr fH1 (by simp)
 have vt:valEq (tval a.t dv) (tval a.t dv)=true:=val25 hd
 simp only [w_w,z_0,if_true,if_false,eq_self,Nat.reduceEqDiff,Nat.reduceLT,reduceCtorEq,al25,ptrTo]
 rw [hsto]
 simp only [w_w,z_0,w_pl,aFieldAddr,cond_false,if_true,if_false,List.append_nil,List.nil_append,eq_self,Nat.reduceEqDiff,Nat.reduceLT,reduceCtorEq,ga9,anth]
 refine CallT.mono (CallT.of_call (dfind_spec hro (k:=a.t.name) k10.doc hPl)) ?_
 rintro kv _ ⟨rfl,hfind⟩
 obtain ⟨ki,rfl,hki⟩:∃ ki:Int,kv=.int .i64 ki∧((∃ (i:Nat) (p:TimD×Value),P[i]? = some p∧p.1.name=a.t.name∧ki=(i:Int))∨(∀ p∈P,p.1.name≠a.t.name)∧ki=-1):=by
  rcases hfind with ⟨i,p,h1,h2,rfl⟩ | ⟨h1,rfl⟩
  ·exact ⟨_,rfl,.inl ⟨i,p,h1,h2,rfl⟩⟩
  ·exact ⟨_,rfl,.inr ⟨h1,rfl⟩⟩
 -- after it has fired
 have hR8:=RO_ok (Z:=Z) (P:=Tryz.prog) (f:=39) (ar:=[tval a.t dv,.int .u64 (now:Int)]) (Pr:=fun A'=>Fr [] H1 A') (Sp:=fun A1 r A2=>∃ dv',r=.tuple #[tval u dv',.bool bs]∧Steps (withRo E0 s) A2 (fun b=>A1.next≤b) dv' u.steps∧Fr [] A1 A2) (fun A' hp=>by
  have q1:=after_spec (Z:=Z) hro (hdH.fr hp (by simp)) hl hat hev hnow
  rw [hu,hbs] at q1
  exact q1)
 have hrow10:=k10.doc.row
 have fbH:Fr [] H1 { heap:=H1.heap,next:=H1.next+13 }:=Fr.bump (by omega)
 simp only [z_0,if_true,if_false,eq_self,Nat.reduceEqDiff,Nat.reduceLT,reduceCtorEq]
 refine CodeW.seqf (withRo_ok E0_ok) hro.ro mixed hR8 [0,1,2,3,4,5,10,6,7,8,9,11,12] [10] [[],[],[],[],[],[],[],[],[],[],[],[6],[6]] (by simp only [reorder,reoGo,strip,List.map_cons,List.map_nil,opAt,remap,nth,Option.map,σ,place',List.length_cons,List.length_nil,Nat.reduceAdd];rfl) (by decide +kernel) (by kernel_rfl) (by kernel_rfl) (by kernel_rfl) (by kernel_rfl) ?_
 simp only [w_w,z_0,w_pl,aFieldAddr,cond_true,cond_false,if_true,if_false,List.length_cons,List.length_nil,List.append_nil,List.nil_append,eq_self,Nat.reduceEqDiff,Nat.reduceAdd,Nat.reduceLT,reduceCtorEq,q_0,q_1,q_2,f_0,hasN,List.length_cons,List.length_nil,ga9,acut,tagg,hrow10,ra,rm,vt,fr_alloc,al25,ptrTo]
 refine conRO fbH ?_
 rintro _ C2 ⟨dv',rfl,hd',fC2⟩
 have nC2:H1.next+13≤C2.next:=fC2.next
 have hd':Steps (withRo E0 s) C2 (fun b=>H1.next+13≤b) dv' u.steps:=hd'
 simp only [w_w,z_0,cond_true,if_true,if_false,eq_self,Nat.reduceEqDiff,Nat.reduceAdd,Nat.reduceLT,reduceCtorEq,q_0,q_1,q_2,f_0,hasN,newT hd'.single]
 generalize hX:ASt.set (ASt.set C2 _ _) _ _=X
 have fHX:Fr [] H1 X:=by rw [← hX];exact ((fbH.trans fC2).set (.inr (by omega))).set (.inr (by omega))
 have x6:X.get (H1.next+6)=some (.row (tcell u dv') 5 false):=by rw [← hX,ASt.get_set,if_pos rfl]
 have nX:C2.next≤X.next:=by rw [← hX,ASt.next_set,ASt.next_set];omega
 have hdX:Steps (withRo E0 s) X (fun b=>H1.next+13≤b) dv' u.steps:=by
  rw [← hX]
  exact hd'.fr (own:=[H1.next+6]) (((Fr.refl _ _).set (.inl (by simp))).set (.inl (by simp))) (fun b hb _ hm=>by simp only [List.mem_singleton] at hm;omega)
 clear hX
 have k11:=k10.fr0 fHX
 have ga10:=(fHX.get A.next (by omega) (by simp)).trans ga9
 have hdX2:=hdH.fr fHX (by simp)
 have hrow11:=k11.doc.row
 have hs2:Go.AE.single dv2=true:=(hst2 hdX2).single
 have hR9:=RO_ok (Z:=Z) (P:=Tryz.prog) (f:=49) (ar:=[tval a.t dv,.int .u64 (now:Int)]) (Pr:=fun _=>True) (Sp:=fun A1 r A2=>r=.tuple #[tval u dv2,.bool bs]∧Fr [] A1 A2) (fun A' _=>by
  have q1:=dafter_spec (Z:=Z) (A:=A') (t:=a.t) (dv:=dv) (now:=now) hd.single hat hev hnow
  rw [hu,hdv2,hbs] at q1
  exact q1)
 have fbX:Fr [] X { heap:=X.heap,next:=X.next+13 }:=Fr.bump (by omega)
 simp only [z_0]
 refine CodeW.seqf (withRo_ok E0_ok) hro.ro mixed hR9 [0,1,2,3,4,5,10,6,7,8,9,11,12] [10] [[],[],[],[],[],[],[],[],[],[],[],[6],[6]] (by simp only [reorder,reoGo,strip,List.map_cons,List.map_nil,opAt,remap,nth,Option.map,σ,place',List.length_cons,List.length_nil,Nat.reduceAdd];rfl) (by decide +kernel) (by kernel_rfl) (by kernel_rfl) (by kernel_rfl) (by kernel_rfl) ?_
 simp only [w_w,z_0,w_pl,aFieldAddr,cond_true,cond_false,if_true,if_false,List.length_cons,List.length_nil,List.append_nil,List.nil_append,eq_self,Nat.reduceEqDiff,Nat.reduceAdd,Nat.reduceLT,reduceCtorEq,q_0,q_1,q_2,f_0,hasN,List.length_cons,List.length_nil,ga10,acut,tagg,hrow11,ra,rm,vt,fr_alloc,al25,ptrTo]
 refine conRO trivial ?_
 rintro _ C3 ⟨rfl,fC3⟩
 have nC3:X.next+13≤C3.next:=fC3.next
 have hneX:(H1.next=X.next)=False:=eq_false (by omega)
 have c36:=((fbX.trans fC3).get (H1.next+6) (by omega) (by simp)).trans x6
 simp only [w_w,z_0,cond_true,if_true,if_false,List.append_nil,List.nil_append,eq_self,Nat.reduceEqDiff,Nat.reduceAdd,Nat.reduceLT,reduceCtorEq,q_0,q_1,q_2,f_0,hasN,newT hs2,hneX,c36,tcut,tagg]
 generalize hY:ASt.set (ASt.set C3 _ _) _ _=Y
 have fXY:Fr [] X Y:=by rw [← hY];exact ((fbX.trans fC3).set (.inr (by omega))).set (.inr (by omega))
 have y6:Y.get (X.next+6)=some (.row (tcell u dv2) 5 false):=by rw [← hY,ASt.get_set,if_pos rfl]
 have nY:C3.next≤Y.next:=by rw [← hY,ASt.next_set,ASt.next_set];omega
 clear hY
 have k12:=k11.fr0 fXY
 refine CallT.mono (CallT.of_call (same_tim hro (hdX.fr fXY (by simp)) (hst2 (hdX2.fr fXY (by simp))) hlu)) ?_
 rintro _ V ⟨rfl,fV⟩
 have nV:=fV.next
 have fHV:=(fHX.trans fXY).trans fV
 have k13:=k12.fr0 fV
 have hrowV:=k13.doc.row
 have gV:=(fHV.get G1.next (by omega) (by simp)).trans gH1
 have hduV:=hduH.fr fHV (by simp)
 have hrG:(withRo E0 s).ro G1.next=none:=hnr _ (by omega)
 have fUV:FrU U A V:=fU4.step (Fr.u (U:=fun _=>False) ((fEF.trans fFH).trans fHV)) (fun b hb _=>hb.elim)
 rcases hki with ⟨i,p,hp,hpn,rfl⟩ | ⟨hne,rfl⟩
 ·have hpP:=List.mem_of_getElem? hp
  have hDp:D a.t.name=some p.1:=by rw [← hpn];exact allOf_at h.all hpP
  have d0:((i:Int)≥0)=True:=eq_true (by omega)
  rw [hDp]
  rw [hDp] at hg
  obtain rfl:p.1=g:=hg
  obtain ⟨bp,op,cp,hxp,hcp,hcutp,_,_,hbp⟩:=timIx k13.doc.sl hp
  have hrb:(withRo E0 s).ro bp=none:=k13.doc.rs bp (.inr hbp)
  have vp:valEq (tval p.1 p.2) (tval p.1 p.2)=true:=val25 (k13.doc.st p hpP)
  have vg:valEq (tval p.1 du) (tval p.1 du)=true:=val25 hduV
  have hR12:=RO_ok (Z:=Z) (P:=Tryz.prog) (f:=40) (ar:=[tval p.1 du,tval p.1 p.2]) (Pr:=fun A'=>Fr [] V A') (Sp:=fun A1 r A2=>r=.bool true∧Fr [] A1 A2) (fun A' hp'=>same_tim hro (hduV.fr hp' (by simp)) ((k13.doc.st p hpP).fr hp' (by simp)) (hdl p hpP))
  simp only [z_0,flat,cond_true,if_true,if_false,eq_self,Nat.reduceEqDiff,Nat.reduceLT,reduceCtorEq,d0]
  refine CodeW.seqf (withRo_ok E0_ok) hro.ro mixed hR12 [0,1,2,3,4,5,6,7,8,9] [] (fanOf _ _ _) (by simp only [reorder,reoGo,strip,List.map_cons,List.map_nil,opAt,remap,nth,Option.map,σ,place',List.length_cons,List.length_nil,Nat.reduceAdd];rfl) (by decide +kernel) (by kernel_rfl) (by kernel_rfl) (by kernel_rfl) rfl ?_
  simp only [w_w,z_0,w_pl,aFieldAddr,cond_true,cond_false,if_true,if_false,List.length_cons,List.length_nil,List.append_nil,List.nil_append,eq_self,Nat.reduceEqDiff,Nat.reduceAdd,Nat.reduceLT,reduceCtorEq,q_0,q_1,q_2,f_0,hasN,reorder,List.length_cons,List.length_nil,gV,tcut,tagg,hrowV,rm,vr,hrG,hxp,hcp,hcutp,hrb,vp,vg]
  refine conRO (Fr.bump (by omega)) ?_
  rintro _ V2 ⟨rfl,fV2⟩
  have nV2:V.next+10≤V2.next:=fV2.next
  have fVV2:Fr [] V V2:=(Fr.bump (by omega):Fr [] V { heap:=V.heap,next:=V.next+10 }).trans fV2
  have k14:=k13.fr0 fVV2
  have hrowV2:=k14.doc.row
  have hR14:=RO_ok (Z:=Z) (P:=Tryz.prog) (f:=13) (ar:=[.pointer (some ⟨x,0,none⟩)]) (Pr:=fun A'=>Fr [] V2 A') (Sp:=fun A1 r A2=>r=.int .u64 (now:Int)∧A1=A2) (fun A' hp'=>tU_clock (k14.tab.fr0 hp'))
  have fbV:Fr [] V2 { heap:=V2.heap,next:=V2.next+41 }:=Fr.bump (by omega)
  simp only [z_0,flat,cond_true,if_true,if_false,eq_self,Nat.reduceEqDiff,Nat.reduceLT,reduceCtorEq,q_0,q_2,f_0]
  refine CodeW.seqf (withRo_ok E0_ok) hro.ro mixed hR14 [0,1,2,3,4,5,6,7,8,9,10,11,12,13,14,15,16,17,18,19,20,21,22,23,24,26,27,28,29,25,30,31,32,33,34,35,36,37,38,39,40] [25,26,27,28] (fanOf _ _ _) (by simp only [reorder,reoGo,strip,List.map_cons,List.map_nil,opAt,remap,nth,Option.map,σ,place',List.length_cons,List.length_nil,Nat.reduceAdd,Nat.reduceLT,Nat.reduceEqDiff,if_true,if_false];rfl) (by decide +kernel) (by kernel_rfl) (by kernel_rfl) (by kernel_rfl) rfl ?_
  simp only [w_w,z_0,w_pl,flat,aFieldAddr,cond_true,cond_false,if_true,if_false,List.length_cons,List.length_nil,List.append_nil,List.nil_append,eq_self,Nat.reduceEqDiff,Nat.reduceAdd,Nat.reduceLT,reduceCtorEq,q_0,q_1,q_2,f_0,hasN,reorder,List.length_cons,List.length_nil,hrowV2,rm,eq4,beq_self_eq_true,Option.isSome,d0]
  refine conRO fbV ?_
  rintro _ _ ⟨rfl,rfl⟩
  simp only [w_w,z_0,flat,cond_true,cond_false,if_true,if_false,eq_self,Nat.reduceEqDiff,Nat.reduceAdd,Nat.reduceLT,reduceCtorEq,q_0,q_2,f_0,reorder,exists_eq',hrowV2,eq4,beq_self_eq_true,Option.isSome]
  exact ⟨U3,k14.fr0 fbV,gU,fUV.step (Fr.u (U:=fun _=>False) (fVV2.trans fbV)) (fun b hb _=>hb.elim)⟩
 ·have hDn:D a.t.name=none:=by
   cases hD:D a.t.name with
   | none=>rfl
   | some t=>
    obtain ⟨p,h1,h2⟩:=(allOf_some (k:=a.t.name) h.all h.name).1 (by rw [hD];rfl)
    exact absurd h2 (hne p h1)
  have d0:((-1:Int)≥0)=False:=eq_false (by omega)
  have hR14:=RO_ok (Z:=Z) (P:=Tryz.prog) (f:=13) (ar:=[.pointer (some ⟨x,0,none⟩)]) (Pr:=fun A'=>Fr [] V A') (Sp:=fun A1 r A2=>r=.int .u64 (now:Int)∧A1=A2) (fun A' hp'=>tU_clock (k13.tab.fr0 hp'))
  have fbV:Fr [] V { heap:=V.heap,next:=V.next+41 }:=Fr.bump (by omega)
  rw [hDn]
  simp only [z_0,flat,cond_true,if_true,if_false,eq_self,Nat.reduceEqDiff,Nat.reduceLT,reduceCtorEq,d0]
  refine CodeW.seqf (withRo_ok E0_ok) hro.ro mixed hR14 [0,1,2,3,4,5,6,7,8,9,10,11,12,13,14,15,16,17,18,19,20,21,22,23,24,26,27,28,29,25,30,31,32,33,34,35,36,37,38,39,40] [25,26,27,28] (fanOf _ _ _) (by simp only [reorder,reoGo,strip,List.map_cons,List.map_nil,opAt,remap,nth,Option.map,σ,place',List.length_cons,List.length_nil,Nat.reduceAdd,Nat.reduceLT,Nat.reduceEqDiff,if_true,if_false];rfl) (by decide +kernel) (by kernel_rfl) (by kernel_rfl) (by kernel_rfl) rfl ?_
  simp only [w_w,z_0,w_pl,flat,aFieldAddr,cond_true,cond_false,if_true,if_false,List.length_cons,List.length_nil,List.append_nil,List.nil_append,eq_self,Nat.reduceEqDiff,Nat.reduceAdd,Nat.reduceLT,reduceCtorEq,q_0,q_1,q_2,f_0,hasN,reorder,List.length_cons,List.length_nil,hrowV,rm,eq4,beq_self_eq_true,Option.isSome,d0]
  refine conRO fbV ?_
  rintro _ _ ⟨rfl,rfl⟩
  simp only [w_w,z_0,flat,cond_true,cond_false,if_true,if_false,eq_self,Nat.reduceEqDiff,Nat.reduceAdd,Nat.reduceLT,reduceCtorEq,q_0,q_2,f_0,reorder,exists_eq',hrowV,eq4,beq_self_eq_true,Option.isSome]
  exact ⟨U3,k13.fr0 fbV,gU,fUV.step (Fr.u (U:=fun _=>False) fbV) (fun b hb _=>hb.elim)⟩
end
end Go.Proofs.YtgcffmhpjphefaaGreatDoor
