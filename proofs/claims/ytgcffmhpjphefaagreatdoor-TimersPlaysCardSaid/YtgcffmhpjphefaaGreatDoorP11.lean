/- In the midst of a script's act: the act's cells, and the copy of its timer; both tables take it. -/
import Derived.Test.YtgcffmhpjphefaaGreatDoorP10
set_option linter.unusedSimpArgs false
set_option linter.unusedVariables false
set_option linter.unusedSectionVars false
namespace Go.Proofs.YtgcffmhpjphefaaGreatDoor
open Go Go.AE
set_option maxRecDepth 10000
set_option maxHeartbeats 32000000
variable {Z:Go.AE.Road}{s:Spans}
noncomputable def sL:Code→Code
 | .seq a _=>a
 | c=>c
noncomputable def sR:Code→Code
 | .seq _ b=>b
 | c=>c
noncomputable def cT:Code→Code
 | .cond _ a _=>a
 | c=>c
noncomputable def cE:Code→Code
 | .cond _ _ b=>b
 | c=>c
noncomputable def bI:Code→Code
 | .block _ b=>b
 | c=>c
noncomputable def lI:Code→Code
 | .loop b=>b
 | c=>c
noncomputable def swB:Code:=bI (sR (sL (sR (sR (sR (sR (sR (sR (sR (bI (sL (sR (lI (bI (sR (sL (sR (sR (sR (Tryz.f5.body.getD .ret))))))))))))))))))))
noncomputable def r20:Code:=sR (cT (sR swB))
theorem CodeW.at_{P:Program}{n:Nat}{ro:Option Nat}{c c':Code}{T:Tmps}{A:ASt}{Q:Out→Prop}(e:c=c')(h:CodeW Z P n ro c' T A Q):CodeW Z P n ro c T A Q:=e ▸ h
structure Cells(s:Spans)(A:ASt)(L p q:Nat)(a:ActD)(dv w:Value)(S0:Nat→Prop):Prop where
 gp:A.get p=some (.row (acell a dv) 8 false)
 gq:A.get q=some (.row (tcell a.t w) 5 false)
 ow:OwnS A L 4 a.t.steps.length w (a.t.steps.map scell).flatten
 st:Steps (withRo E0 s) A S0 dv a.t.steps
 rg:∀ y∈a.t.steps,y.ranged
 ln:a.t.steps.length≤10
 wd:a.wide
 pq:L≤p∧L≤q∧p≠q∧p<A.next∧q<A.next
 off:p∉slB w∧q∉slB w
 low:∀ b,S0 b→b<L
section
variable {A B:ASt}{L p q:Nat}{a:ActD}{dv w:Value}{S0 V:Nat→Prop}
theorem Cells.frU(h:Cells s A L p q a dv w S0)(hf:FrU V A B)(h1:∀ b,V b→b<L∧¬ S0 b∨A.next≤b):Cells s B L p q a dv w S0:=by
 obtain ⟨own,f,ho⟩:=hf
 have n1:=f.next
 have off:∀ b,L≤b→b<A.next→b∉own:=fun b h2 h3 hm=>by
  rcases h1 b (ho b hm) with h4 | h4
  ·omega
  ·omega
 exact ⟨(f.get p h.pq.2.2.2.1 (off p h.pq.1 h.pq.2.2.2.1)).trans h.gp,(f.get q h.pq.2.2.2.2 (off q h.pq.2.1 h.pq.2.2.2.2)).trans h.gq,h.ow.fr f (fun b hb hm=>off b (h.ow.low b hb).1 (h.ow.low b hb).2 hm),h.st.fr f (fun b hb hlt hm=>by
  rcases h1 b (ho b hm) with h4 | h4
  ·exact h4.2 hb
  ·omega),h.rg,h.ln,h.wd,⟨h.pq.1,h.pq.2.1,h.pq.2.2.1,by have:=h.pq.2.2.2.1;omega,by have:=h.pq.2.2.2.2;omega⟩,h.off,h.low⟩
theorem Cells.fr0(h:Cells s A L p q a dv w S0)(hf:Fr [] A B):Cells s B L p q a dv w S0:=h.frU (V:=fun _=>False) (Fr.u hf) (fun _ h=>h.elim)
theorem Cells.own(h:Cells s A L p q a dv w S0)(hnr:∀ b,L≤b→(withRo E0 s).ro b=none):Steps (withRo E0 s) A (fun b=>L≤b) w a.t.steps:=by
 have h1:=h.ow
 have:a.t.steps.length=(a.t.steps.map scell).length:=by rw [List.length_map]
 rw [this] at h1
 exact OwnS.slAt h1 hnr scell_len
theorem Cells.si(h:Cells s A L p q a dv w S0):StepsIn a.t.steps:=⟨by have:=h.ln;omega,h.rg⟩
end
def Keeps(T T':Tmps):Prop:=tget T' 1=tget T 1∧tget T' 6=tget T 6∧tget T' 7=tget T 7∧tget T' 8=tget T 8∧tget T' 10=tget T 10
def Acted(s:Spans)(A A':ASt)(m n:Nat)(U:Nat→Prop)(r:Value)(S0:Nat→Prop)(x' now':Nat)(V:Nat→Prop):Prop:=∃ D' U' P' r',Pair s A' x' m now' (n+1) D' U' P' r' S0∧Grow A U U'∧(∀ b∈slB r',b∈slB r∨A.next≤b)∧FrU V A A'
section
variable {A:ASt}{T:Tmps}{L p q x m now n:Nat}{a:ActD}{dv w r:Value}{S0 U:Nat→Prop}{D:TD}{P:List (TimD×Value)}
theorem set_spec(hro:RoadS Z E0 s)(ht:TabZ Z)(h:Pair s A x m now n D U P r S0)(c:Cells s A L p q a dv w S0)(hU:∀ b,U b→b<L)(hm:m<L)(hn:n≤900)(hnr:∀ b,L≤b→(withRo E0 s).ro b=none)(u5:tget T 5=.pointer (some ⟨x,0,none⟩))(u6:tget T 6=.pointer (some ⟨m,0,none⟩))(u8:tget T 8=.pointer (some ⟨p,0,none⟩))(u10:tget T 10=.pointer (some ⟨q,0,none⟩)):
  CodeW Z Tryz.prog 154 none r20 T A (fun o=>∃ T' A',o=.fr ⟨.normal,T',A'⟩∧tget T' 11=.bool true∧tget T' 5=tget T 5∧Keeps T T'∧Acted s A A' m n U r S0 x now (fun b=>U b∨b=m)):=by
 have hlen:P.length≤1000:=by have:=h.few;omega
 have hat:=c.wd.1.2.1
 have rp:(withRo E0 s).ro p=none:=hnr p c.pq.1
 have rq:(withRo E0 s).ro q=none:=hnr q c.pq.2.1
 have hR:=RU_ok (Z:=Z) (P:=Tryz.prog)
  (RO_ok (f:=9) (ar:=[.pointer (some ⟨x,0,none⟩),tval a.t w]) (Pr:=fun A'=>Fr [] A A') (Sp:=fun A1 v A2=>∃ D' U',(a.t.right∧v=.int .i64 0∧D'=D.put a.t∨¬ a.t.right∧v=.int .i64 101∧D'=D)∧TabU s A2 x now (n+1) D' U'∧Grow A1 U U'∧FrU U A1 A2) (fun A' hp=>tU_set hro ht (h.tab.fr0 hp) (by omega) ((c.fr0 hp).own hnr) c.si hat (fun b h1 _ h2=>by have:=hU b h2;omega)))
  (RU_ok (RO_ok (f:=20) (ar:=[.pointer (some ⟨m,0,none⟩),tval a.t dv]) (Pr:=fun A'=>DocT s A' m now P r S0∧Steps (withRo E0 s) A' S0 dv a.t.steps) (Sp:=fun A1 v A2=>(∃ P' r',a.t.right∧v=.int .i64 0∧DocT s A2 m now P' r' S0∧P'.length≤P.length+1∧(∀ y,y∈P'↔y=(a.t,dv)∨y∈P∧y.1.name≠a.t.name)∧Fr [m] A1 A2∧∀ b∈slB r',b∈slB r∨A1.next≤b)∨¬ a.t.right∧v=.int .i64 101∧Fr [] A1 A2) (fun A' hp=>dset_spec hro hp.1 hlen hp.2 c.si))
   (RU_ok (RO_ok (f:=21) (ar:=[tval a.t w]) (Pr:=fun A'=>Cells s A' L p q a dv w S0) (Sp:=fun A1 v A2=>(∃ b,v=.bool b∧(b=true↔a.t.right))∧Fr [] A1 A2) (fun A' hp=>tright_spec hro ht (hp.own hnr) c.si))
    (RO_ok (f:=22) (ar:=[tval a.t dv]) (Pr:=fun A'=>Cells s A' L p q a dv w S0) (Sp:=fun A1 v A2=>(∃ b,v=.bool b∧(b=true↔a.t.right))∧Fr [] A1 A2) (fun A' hp=>dright_spec hro hp.st c.si))))
 have vw:valEq (tval a.t w) (tval a.t w)=true:=val25 (c.own hnr)
 have vd:valEq (tval a.t dv) (tval a.t dv)=true:=val25 c.st
 simp only [r20,swB,sL,sR,cT,bI,lI,Tryz.f5,Option.getD_some]
 refine CodeW.seqg (withRo_ok E0_ok) hro.ro mixed hR [0,1,3,4,5,2,6,7,8,9,11,12,10,13,14,15,16] [2,3,4,10,11] [[],[],[],[],[],[],[],[],[],[],[],[],[],[],[],[],[]] [[],[],[],[],[3],[],[2,3,4],[2,3,4],[2,3,4],[2,3,4],[2,3,4],[2,3,4,10],[2,3,4],[2,3,4,10,11],[2,3,4,10,11],[2,3,4,10,11],[2,3,4,10,11]] (by simp only [reorder,reoGo,strip,List.map_cons,List.map_nil,opAt,remap,nth,Option.map,σ,place',List.length_cons,List.length_nil,Nat.reduceAdd,Nat.reduceLT,Nat.reduceEqDiff,if_true,if_false];rfl) (by decide +kernel) (by kernel_rfl) (by kernel_rfl) (by kernel_rfl) (by kernel_rfl) (by kernel_rfl) ?_
 have g1:=c.gp
 have g2:=c.gq
 simp only [w_w,z_0,w_pl,aFieldAddr,cond_true,cond_false,if_true,if_false,List.length_cons,List.length_nil,List.append_nil,List.nil_append,eq_self,Nat.reduceEqDiff,Nat.reduceAdd,Nat.reduceLT,reduceCtorEq,q_0,q_1,q_2,f_0,hasN,List.length_cons,List.length_nil,f_1,u5,u6,u8,u10,g1,g2,acut,tcut,tagg,rp,rq,vw,vd]
 have fb:Fr [] A { heap:=A.heap,next:=A.next+17 }:=Fr.bump (by omega)
 refine conL (conRO fb ?_) (NoC.two (NoC.one (by decide)) (NoC.two (NoC.one (by decide)) (NoC.one (by decide))))
 rintro v1 B ⟨D',U',hr1,hT1,hg1,fB⟩
 have cB:=(c.fr0 fb).frU fB (fun b hb=>.inl ⟨hU b hb,(h.off b hb).2.2⟩)
 have dB:=(h.doc.fr0 fb).frU fB h.off
 have gB1:=cB.gp
 have gB2:=cB.gq
 have nB:A.next+17≤B.next:=fB.next
 have hmS:¬ S0 m:=fun h0=>(h.doc.sd m h0).1 rfl
 have hoU:=h.offG (X:=A) (U':=U') (fun b hb=>(hg1 b hb).imp id (fun h1=>by have h1:A.next+17≤b:=h1;omega)) (Nat.le_refl _)
 have gr1:Grow A U U':=fun b hb=>(hg1 b hb).imp id (fun h1=>by have h1:A.next+17≤b:=h1;omega)
 have hTlt:=hT1.lt
 simp only [w_w,z_0,w_pl,cond_true,cond_false,if_true,if_false,List.append_nil,List.nil_append,eq_self,Nat.reduceEqDiff,Nat.reduceAdd,Nat.reduceLT,q_0,q_1,f_0,hasN,exists_eq',f_1,gB1,acut,tagg]
 refine conR (conL (conRO ⟨dB,cB.st⟩ ?_) (NoC.two (NoC.one (by decide)) (NoC.one (by decide)))) (NoC.one (by decide))
 rintro v2 C hC
 by_cases hr:a.t.right
 ·obtain ⟨rfl,rfl⟩:v1=.int .i64 0∧D'=D.put a.t:=by
   rcases hr1 with ⟨_,h1,h2⟩ | ⟨h1,_⟩
   ·exact ⟨h1,h2⟩
   ·exact absurd hr h1
  obtain ⟨P',r',_,rfl,hdoc,hlen',hmem,fm,hr'⟩:=hC.resolve_right (fun h1=>h1.1 hr)
  have nC:=fm.next
  have cC:=cB.frU (Fr.us fm) (fun b hb=>by simp only [List.mem_singleton] at hb;subst hb;exact .inl ⟨hm,hmS⟩)
  have gC1:=cC.gp
  have gC2:=cC.gq
  simp only [w_w,z_0,w_pl,aFieldAddr,cond_true,cond_false,if_true,if_false,List.append_nil,List.nil_append,eq_self,Nat.reduceEqDiff,Nat.reduceAdd,Nat.reduceLT,reduceCtorEq,q_0,q_1,q_2,f_0,hasN,f_1,u8,u10,gC1,gC2,acut,tcut,tagg,rp,rq,vw,vd]
  refine conR (conR (conL (conRO cC ?_) (NoC.one (by decide))) (NoC.one (by decide))) (NoC.one (by decide))
  rintro _ E ⟨⟨b1,rfl,hb1⟩,fE⟩
  obtain rfl:b1=true:=hb1.2 hr
  have cE:=cC.fr0 fE
  have gE1:=cE.gp
  have gE2:=cE.gq
  simp only [w_w,z_0,w_pl,cond_true,cond_false,if_true,if_false,List.append_nil,List.nil_append,eq_self,Nat.reduceEqDiff,Nat.reduceAdd,Nat.reduceLT,q_0,q_1,q_2,f_0,hasN,exists_eq',f_1,gE1,acut,tagg]
  refine conR (conR (conR (conRO cE ?_) (NoC.one (by decide))) (NoC.one (by decide))) (NoC.one (by decide))
  rintro _ F ⟨⟨b2,rfl,hb2⟩,fF⟩
  obtain rfl:b2=true:=hb2.2 hr
  have fCF:=fE.trans fF
  simp only [w_w,z_0,flat,cond_true,if_true,if_false,eq_self,Nat.reduceEqDiff,Nat.reduceAdd,Nat.reduceLT,q_0,q_2,f_0,hasN,f_1,u5,eq4,beq_self_eq_true]
  refine ⟨_,_,rfl,by simp only [tget_put,Nat.reduceEqDiff,if_true,reduceIte],by simp only [tget_put,Nat.reduceEqDiff,if_false,u5],⟨by simp only [tget_put,Nat.reduceEqDiff,if_false],by simp only [tget_put,Nat.reduceEqDiff,if_false],by simp only [tget_put,Nat.reduceEqDiff,if_false],by simp only [tget_put,Nat.reduceEqDiff,if_false],by simp only [tget_put,Nat.reduceEqDiff,if_false]⟩,⟨D.put a.t,U',P',r',⟨(hT1.fr (Fr.us fm) (fun b hb hm=>by have:=(hoU b hb).1;simp only [List.mem_singleton] at hm;exact this hm)).fr0 fCF,hdoc.fr0 fCF,allOf_put h.all hdoc.ord hmem,by have:=h.few;omega,fun b hb=>⟨(hoU b hb).1,fun hm=>?_,(hoU b hb).2.2⟩⟩,gr1,fun b hb=>?_,?_⟩⟩
  ·rcases hr' b hm with h1 | h1
   ·exact (hoU b hb).2.1 h1
   ·have:=hTlt b hb;omega
  ·rcases hr' b hb with h1 | h1
   ·exact .inl h1
   ·exact .inr (by omega)
  ·have f1:FrU (fun b=>U b∨b=m) A { heap:=A.heap,next:=A.next+17 }:=Fr.u fb
   have f2:=f1.step fB (fun b hb _=>.inl hb)
   have f3:=f2.step (Fr.us fm) (fun b hb _=>.inr (by simpa using hb))
   exact f3.step (Fr.u (U:=fun _=>False) fCF) (fun b hb _=>hb.elim)
 ·obtain ⟨rfl,rfl⟩:v1=.int .i64 101∧D'=D:=by
   rcases hr1 with ⟨h1,_⟩ | ⟨_,h1,h2⟩
   ·exact absurd h1 hr
   ·exact ⟨h1,h2⟩
  obtain ⟨rfl,fm⟩:v2=.int .i64 101∧Fr [] B C:=by
   rcases hC with ⟨P',r',h1,_⟩ | ⟨_,h1,h2⟩
   ·exact absurd h1 hr
   ·exact ⟨h1,h2⟩
  have nC:=fm.next
  have cC:=cB.fr0 fm
  have gC1:=cC.gp
  have gC2:=cC.gq
  simp only [w_w,z_0,w_pl,aFieldAddr,cond_true,cond_false,if_true,if_false,List.append_nil,List.nil_append,eq_self,Nat.reduceEqDiff,Nat.reduceAdd,Nat.reduceLT,reduceCtorEq,q_0,q_1,q_2,f_0,hasN,f_1,u8,u10,gC1,gC2,acut,tcut,tagg,rp,rq,vw,vd]
  refine conR (conR (conL (conRO cC ?_) (NoC.one (by decide))) (NoC.one (by decide))) (NoC.one (by decide))
  rintro _ E ⟨⟨b1,rfl,hb1⟩,fE⟩
  obtain rfl:b1=false:=by
   cases b1 with
   | false=>rfl
   | true=>exact absurd (hb1.1 rfl) hr
  have cE:=cC.fr0 fE
  have gE1:=cE.gp
  have gE2:=cE.gq
  simp only [w_w,z_0,w_pl,cond_true,cond_false,if_true,if_false,List.append_nil,List.nil_append,eq_self,Nat.reduceEqDiff,Nat.reduceAdd,Nat.reduceLT,q_0,q_1,q_2,f_0,hasN,exists_eq',f_1,gE1,acut,tagg]
  refine conR (conR (conR (conRO cE ?_) (NoC.one (by decide))) (NoC.one (by decide))) (NoC.one (by decide))
  rintro _ F ⟨⟨b2,rfl,hb2⟩,fF⟩
  obtain rfl:b2=false:=by
   cases b2 with
   | false=>rfl
   | true=>exact absurd (hb2.1 rfl) hr
  have fCF:=(fm.trans fE).trans fF
  simp only [w_w,z_0,flat,cond_true,if_true,if_false,eq_self,Nat.reduceEqDiff,Nat.reduceAdd,Nat.reduceLT,q_0,q_2,f_0,hasN,f_1,u5,eq4,beq_self_eq_true]
  refine ⟨_,_,rfl,by simp only [tget_put,Nat.reduceEqDiff,if_true,reduceIte],by simp only [tget_put,Nat.reduceEqDiff,if_false,u5],⟨by simp only [tget_put,Nat.reduceEqDiff,if_false],by simp only [tget_put,Nat.reduceEqDiff,if_false],by simp only [tget_put,Nat.reduceEqDiff,if_false],by simp only [tget_put,Nat.reduceEqDiff,if_false],by simp only [tget_put,Nat.reduceEqDiff,if_false]⟩,⟨D',U',P,r,⟨hT1.fr0 fCF,dB.fr0 fCF,h.all,by have:=h.few;omega,hoU⟩,gr1,fun b hb=>.inl hb,?_⟩⟩
  have f1:FrU (fun b=>U b∨b=m) A { heap:=A.heap,next:=A.next+17 }:=Fr.u fb
  have f2:=f1.step fB (fun b hb _=>.inl hb)
  exact f2.step (Fr.u (U:=fun _=>False) fCF) (fun b hb _=>hb.elim)
end
end Go.Proofs.YtgcffmhpjphefaaGreatDoor

/- What a script's act does to both tables. -/
namespace Go.Proofs.YtgcffmhpjphefaaGreatDoor
open Go Go.AE
set_option maxRecDepth 10000
set_option maxHeartbeats 32000000
variable {Z:Go.AE.Road}{s:Spans}
noncomputable def r22:Code:=cT (sR (cE (sR swB)))
theorem tnth0{t:TimD}{dv:Value}:nth (tcell t dv) 0=some (.string t.name):=rfl
theorem anth0{a:ActD}{dv:Value}:nth (acell a dv) 0=some (.int .i64 a.kind):=rfl
theorem anth6{a:ActD}{dv:Value}:nth (acell a dv) 6=some (.int .u64 (a.at_:Int)):=rfl
theorem anth7{a:ActD}{dv:Value}:nth (acell a dv) 7=some (.int .u64 (a.by_:Int)):=rfl
def ActD.due(a:ActD)(k:Nat):ActD:={ a with t:={ a.t with at_:=k } }
theorem st50{A:ASt}{p k:Nat}{a:ActD}{dv:Value}{tl:Bool}(h:A.get p=some (.row (acell a dv) 8 tl)):aStore E0 22 (.pointer (some ⟨p,3,none⟩)) (.int .u64 (k:Int)) A=some (A.set p (.row (acell (a.due k) dv) 8 tl)):=by
 simp only [acell] at h
 simp only [aStore,h,w_0];rfl
theorem st30{A:ASt}{q k:Nat}{a:ActD}{w:Value}{tl:Bool}(h:A.get q=some (.row (tcell a.t w) 5 tl)):aStore E0 22 (.pointer (some ⟨q,2,none⟩)) (.int .u64 (k:Int)) A=some (A.set q (.row (tcell (a.due k).t w) 5 tl)):=st22 h
section
variable {A:ASt}{T:Tmps}{L p q x m now n:Nat}{a:ActD}{dv w r:Value}{S0 U:Nat→Prop}{D:TD}{P:List (TimD×Value)}
theorem drop_both(hro:RoadS Z E0 s)(h:Pair s A x m now n D U P r S0)(c:Cells s A L p q a dv w S0)(hU:∀ b,U b→b<L)(hm:m<L)(hn:n≤900)(hnr:∀ b,L≤b→(withRo E0 s).ro b=none)(u5:tget T 5=.pointer (some ⟨x,0,none⟩))(u6:tget T 6=.pointer (some ⟨m,0,none⟩))(u8:tget T 8=.pointer (some ⟨p,0,none⟩))(u10:tget T 10=.pointer (some ⟨q,0,none⟩)):
  CodeW Z Tryz.prog 154 none r22 T A (fun o=>∃ T' A',o=.fr ⟨.normal,T',A'⟩∧tget T' 11=.bool true∧tget T' 5=tget T 5∧Keeps T T'∧Acted s A A' m n U r S0 x now (fun b=>U b∨b=m)):=by
 have hlen:P.length≤1000:=by have:=h.few;omega
 have rp:(withRo E0 s).ro p=none:=hnr p c.pq.1
 have rq:(withRo E0 s).ro q=none:=hnr q c.pq.2.1
 have hR:=RU_ok (Z:=Z) (P:=Tryz.prog)
  (RO_ok (f:=18) (ar:=[.pointer (some ⟨x,0,none⟩),.string a.t.name]) (Pr:=fun A'=>Fr [] A A') (Sp:=fun A1 v A2=>v=.bool (D a.t.name).isSome∧∃ U',TabU s A2 x now n (D.del a.t.name) U'∧Grow A1 U U'∧FrU U A1 A2) (fun A' hp=>tU_drop (h.tab.fr0 hp)))
  (RO_ok (f:=23) (ar:=[.pointer (some ⟨m,0,none⟩),.string a.t.name]) (Pr:=fun A'=>DocT s A' m now P r S0) (Sp:=fun A1 v A2=>∃ P' r',(∃ b,v=.bool b∧(b=true↔∃ p∈P,p.1.name=a.t.name))∧DocT s A2 m now P' r' S0∧P'.Sublist P∧(∀ p,p∈P'↔p∈P∧p.1.name≠a.t.name)∧Fr [m] A1 A2∧∀ b∈slB r',b∈slB r∨A1.next≤b) (fun A' hp=>ddrop_spec hro hp hlen))
 simp only [r22,swB,sL,sR,cT,cE,bI,lI,Tryz.f5,Option.getD_some]
 refine CodeW.seqg (withRo_ok E0_ok) hro.ro mixed hR [0,1,2,4,5,6,7,3,8,9,10] [3,4,5,6] [[],[],[],[],[],[],[],[],[],[],[]] [[],[],[],[],[],[4],[4,5],[],[3,4,5,6],[3,4,5,6],[3,4,5,6]] (by simp only [reorder,reoGo,strip,List.map_cons,List.map_nil,opAt,remap,nth,Option.map,σ,place',List.length_cons,List.length_nil,Nat.reduceAdd];rfl) (by decide +kernel) (by kernel_rfl) (by kernel_rfl) (by kernel_rfl) (by kernel_rfl) (by kernel_rfl) ?_
 have g1:=c.gp
 have g2:=c.gq
 simp only [w_w,z_0,w_pl,aFieldAddr,cond_false,if_true,if_false,List.length_cons,List.length_nil,List.append_nil,List.nil_append,eq_self,Nat.reduceEqDiff,Nat.reduceAdd,Nat.reduceLT,reduceCtorEq,q_0,q_1,q_2,f_0,hasN,List.length_cons,List.length_nil,f_1,u5,u6,u8,u10,g1,g2,anth,tnth0,rp,rq]
 have fb:Fr [] A { heap:=A.heap,next:=A.next+11 }:=Fr.bump (by omega)
 refine conL (conRO fb ?_) (NoC.one (by decide))
 rintro _ B ⟨rfl,U',hT1,hg1,fB⟩
 have cB:=(c.fr0 fb).frU fB (fun b hb=>.inl ⟨hU b hb,(h.off b hb).2.2⟩)
 have dB:=(h.doc.fr0 fb).frU fB h.off
 have gB1:=cB.gp
 have gB2:=cB.gq
 have nB:A.next+11≤B.next:=fB.next
 have gr1:Grow A U U':=fun b hb=>(hg1 b hb).imp id (fun h1=>by have h1:A.next+11≤b:=h1;omega)
 have hoU:=h.offG gr1 (Nat.le_refl _)
 have hTlt:=hT1.lt
 simp only [w_w,z_0,w_pl,cond_false,if_true,if_false,List.append_nil,List.nil_append,eq_self,Nat.reduceEqDiff,Nat.reduceAdd,Nat.reduceLT,q_0,q_1,f_0,hasN,exists_eq',f_1,gB1,anth]
 refine conR (conRO dB ?_) (NoC.one (by decide))
 rintro _ C ⟨P',r',⟨b,rfl,hb⟩,hdoc,hsub,hmem,fm,hr'⟩
 have hbe:(D a.t.name).isSome=b:=by
  have h1:=allOf_some (k:=a.t.name) h.all h.name
  cases b with
  | true=>exact h1.2 (hb.1 rfl)
  | false=>
   cases hs:(D a.t.name).isSome with
   | false=>rfl
   | true=>exact absurd (hb.2 (h1.1 hs)) (by simp)
 simp only [w_w,z_0,cond_true,if_true,if_false,eq_self,Nat.reduceEqDiff,Nat.reduceAdd,Nat.reduceLT,q_0,q_2,f_0,hasN,f_1,u5,hbe,eq4,beq_self_eq_true]
 refine ⟨_,_,rfl,by simp only [tget_put,Nat.reduceEqDiff,if_true,reduceIte],by simp only [tget_put,Nat.reduceEqDiff,if_false,u5],⟨by simp only [tget_put,Nat.reduceEqDiff,if_false],by simp only [tget_put,Nat.reduceEqDiff,if_false],by simp only [tget_put,Nat.reduceEqDiff,if_false],by simp only [tget_put,Nat.reduceEqDiff,if_false],by simp only [tget_put,Nat.reduceEqDiff,if_false]⟩,⟨D.del a.t.name,U',P',r',⟨(hT1.fr (Fr.us fm) (fun b hb hm=>by have:=(hoU b hb).1;simp only [List.mem_singleton] at hm;exact this hm)).le (by omega),hdoc,allOf_del h.all hdoc.ord hmem,by have:=hsub.length_le;have:=h.few;omega,fun b hb=>⟨(hoU b hb).1,fun hm=>?_,(hoU b hb).2.2⟩⟩,gr1,fun b hb=>?_,?_⟩⟩
 ·rcases hr' b hm with h1 | h1
  ·exact (hoU b hb).2.1 h1
  ·have:=hTlt b hb;omega
 ·rcases hr' b hb with h1 | h1
  ·exact .inl h1
  ·exact .inr (by omega)
 ·have f1:FrU (fun b=>U b∨b=m) A { heap:=A.heap,next:=A.next+11 }:=Fr.u fb
  have f2:=f1.step fB (fun b hb _=>.inl hb)
  exact f2.step (Fr.us fm) (fun b hb _=>.inr (by simpa using hb))
def SwPost(s:Spans)(T:Tmps)(A:ASt)(L p q m n:Nat)(a:ActD)(dv w:Value)(U:Nat→Prop)(r:Value)(S0:Nat→Prop)(o:Out):Prop:=∃ T' A' x' now' a',o=.fr ⟨.normal,T',A'⟩∧tget T' 11=.bool true∧tget T' 5=.pointer (some ⟨x',0,none⟩)∧Keeps T T'∧now'<18446744073709551616∧Cells s A' L p q a' dv w S0∧a'.t.steps=a.t.steps∧Acted s A A' m n U r S0 x' now' (fun b=>U b∨b=m∨b=p∨b=q)
theorem Acted.sub{A':ASt}{x' now':Nat}{V V':Nat→Prop}(h:Acted s A A' m n U r S0 x' now' V)(hv:∀ b,V b→V' b):Acted s A A' m n U r S0 x' now' V':=by
 obtain ⟨D',U',P',r',h1,h2,h3,h4⟩:=h
 exact ⟨D',U',P',r',h1,h2,h3,h4.sub hv⟩
theorem Cells.acted(c:Cells s A L p q a dv w S0)(h:Pair s A x m now n D U P r S0)(hU:∀ b,U b→b<L)(hm:m<L){A':ASt}{x' now':Nat}(hact:Acted s A A' m n U r S0 x' now' (fun b=>U b∨b=m)):Cells s A' L p q a dv w S0:=by
 obtain ⟨D',U',P',r',_,_,_,hf⟩:=hact
 refine c.frU hf (fun b hb=>?_)
 rcases hb with hb | rfl
 ·exact .inl ⟨hU b hb,(h.off b hb).2.2⟩
 ·exact .inl ⟨hm,fun h0=>(h.doc.sd b h0).1 rfl⟩
theorem switch_spec(hro:RoadS Z E0 s)(ht:TabZ Z)(h:Pair s A x m now n D U P r S0)(c:Cells s A L p q a dv w S0)(hU:∀ b,U b→b<L)(hm:m<L)(hn:n≤900)(hnow:now<18446744073709551616)(hrL:∀ b∈slB r,b<L)(hnr:∀ b,L≤b→(withRo E0 s).ro b=none)(u5:tget T 5=.pointer (some ⟨x,0,none⟩))(u6:tget T 6=.pointer (some ⟨m,0,none⟩))(u8:tget T 8=.pointer (some ⟨p,0,none⟩))(u10:tget T 10=.pointer (some ⟨q,0,none⟩))(u11:tget T 11=.bool true)(u50:tget T 50=.int .i64 a.kind):
  codeW Z (withRo E0 s) Tryz.prog 154 none (.block 2 swB) (SwPost s T A L p q m n a dv w U r S0) T A:=by
 have hlen:P.length≤1000:=by have:=h.few;omega
 have g1:=c.gp
 have g2:=c.gq
 have hrow:=h.doc.row
 have rm:(withRo E0 s).ro m=none:=h.doc.rs m (.inl rfl)
 have rp:(withRo E0 s).ro p=none:=hnr p c.pq.1
 have rq:(withRo E0 s).ro q=none:=hnr q c.pq.2.1
 simp only [swB,sL,sR,bI,lI,Tryz.f5,Option.getD_some]
 have fin:∀ {T1:Tmps},Keeps T T1→∀ o,(∃ T' A',o=.fr ⟨.normal,T',A'⟩∧tget T' 11=.bool true∧tget T' 5=tget T1 5∧Keeps T1 T'∧Acted s A A' m n U r S0 x now (fun b=>U b∨b=m))→tget T1 5=.pointer (some ⟨x,0,none⟩)→SwPost s T A L p q m n a dv w U r S0 o:=by
  rintro T1 ⟨i1,i2,i3,i4,i5⟩ o ⟨T',A',rfl,w11,w5,⟨j1,j2,j3,j4,j5⟩,hact⟩ h5
  exact ⟨T',A',x,now,a,rfl,w11,w5.trans h5,⟨j1.trans i1,j2.trans i2,j3.trans i3,j4.trans i4,j5.trans i5⟩,hnow,c.acted h hU hm hact,rfl,hact.sub (fun b hb=>hb.elim .inl (fun e=>.inr (.inl e)))⟩
 by_cases k1:a.kind=1
 ·have d1:(a.kind=1)=True:=eq_true k1
  have d2:(a.kind=2)=False:=eq_false (by omega)
  simp only [w_w,z_0,w_pl,flat,aFieldAddr,cond_true,cond_false,if_true,if_false,eq_self,Nat.reduceEqDiff,Nat.reduceLT,reduceCtorEq,u8,u50,g1,anth0,d1,d2]
  refine CodeW.at_ (c':=r20) (by kernel_rfl) (CodeW.mono (set_spec hro ht h c hU hm hn hnr ?_ ?_ ?_ ?_) ?_)
  iterate 4 simp only [tget_put,Nat.reduceEqDiff,if_false,u5,u6,u8,u10]
  intro o ho
  have hx:=fin ⟨by simp only [tget_put,Nat.reduceEqDiff,if_false],by simp only [tget_put,Nat.reduceEqDiff,if_false],by simp only [tget_put,Nat.reduceEqDiff,if_false],by simp only [tget_put,Nat.reduceEqDiff,if_false],by simp only [tget_put,Nat.reduceEqDiff,if_false]⟩ o ho (by simp only [tget_put,Nat.reduceEqDiff,if_false,u5])
  obtain ⟨T',A',x',now',a',rfl,hrest⟩:=hx
  simp only [z_0]
  exact ⟨T',A',x',now',a',rfl,hrest⟩
 by_cases k2:a.kind=2
 ·have d1:(a.kind=1)=False:=eq_false (by omega)
  have d2:(a.kind=2)=True:=eq_true k2
  have hR:=RO_ok (Z:=Z) (P:=Tryz.prog) (f:=19) (ar:=[.int .u64 (now:Int),.int .u64 (a.by_:Int)]) (Pr:=fun _=>True) (Sp:=fun A1 v A2=>v=.int .u64 ((ltr now a.by_:Nat):Int)∧A1=A2) (fun _ _=>later_calls)
  have hbx:ltr now a.by_<18446744073709551616:=ltr_lt hnow
  generalize hk:ltr now a.by_=k at hR hbx
  simp only [w_w,z_0,w_pl,flat,aFieldAddr,cond_true,cond_false,if_true,if_false,eq_self,Nat.reduceEqDiff,Nat.reduceLT,reduceCtorEq,u8,u50,g1,anth0,d1,d2]
  refine CodeW.seqf (withRo_ok E0_ok) hro.ro mixed hR [0,1,2,3,4,5,6,7,8,9] [] (fanOf _ _ _) (by simp only [reorder,reoGo,strip,List.map_cons,List.map_nil,opAt,remap,nth,Option.map,σ,place',List.length_cons,List.length_nil,Nat.reduceAdd];rfl) (by decide +kernel) (by kernel_rfl) (by kernel_rfl) (by kernel_rfl) rfl ?_
  simp only [w_w,z_0,w_pl,aFieldAddr,cond_false,if_true,if_false,List.length_cons,List.length_nil,List.append_nil,List.nil_append,eq_self,Nat.reduceEqDiff,Nat.reduceAdd,Nat.reduceLT,reduceCtorEq,q_0,q_1,q_2,f_0,hasN,reorder,List.length_cons,List.length_nil,u6,u8,g1,hrow,anth7,rm,rp]
  refine conRO trivial ?_
  rintro _ _ ⟨rfl,rfl⟩
  have fb:Fr [] A { heap:=A.heap,next:=A.next+10 }:=Fr.bump (by omega)
  have hpq:=c.pq
  have hst1:=st50 (k:=k) (c.fr0 fb).gp
  have hgp:(ASt.set { heap:=A.heap,next:=A.next+10 } p (.row (acell (a.due k) dv) 8 false)).get p=some (.row (acell (a.due k) dv) 8 false):=by rw [ASt.get_set,if_pos rfl]
  have hgq:(ASt.set { heap:=A.heap,next:=A.next+10 } p (.row (acell (a.due k) dv) 8 false)).get q=some (.row (tcell a.t w) 5 false):=by rw [ASt.get_set,if_neg (fun e=>hpq.2.2.1 e.symm)];exact (c.fr0 fb).gq
  have hst2:=st30 (k:=k) hgq
  have han:nth (acell (a.due k) dv) 3=some (.int .u64 (k:Int)):=rfl
  simp only [w_w,z_0,w_pl,aFieldAddr,cond_false,if_true,if_false,eq_self,Nat.reduceEqDiff,Nat.reduceAdd,Nat.reduceLT,reduceCtorEq,q_0,q_2,f_0,reorder,u8,u10,hst1,hgp,han,hst2]
  generalize hY:ASt.set (ASt.set _ _ _) _ _=Y
  have fY:Fr [p,q] A Y:=by rw [← hY];exact ((fb.sub (by simp)).set (.inl (by simp))).set (.inl (by simp))
  have cY:Cells s Y L p q (a.due k) dv w S0:=by
   have hlow:∀ b,b<L∨b∈slB w→b∉[p,q]:=fun b hb hm=>by
    simp only [List.mem_cons,List.not_mem_nil,or_false] at hm
    rcases hb with hb | hb
    ·rcases hm with rfl | rfl<;>omega
    ·rcases hm with rfl | rfl
     ·exact c.off.1 hb
     ·exact c.off.2 hb
   refine ⟨by rw [← hY,ASt.get_set,if_neg hpq.2.2.1];exact hgp,by rw [← hY,ASt.get_set,if_pos rfl],c.ow.fr fY (fun b hb=>hlow b (.inr hb)),c.st.fr fY (fun b hb _=>hlow b (.inl (c.low b hb))),c.rg,c.ln,⟨⟨c.wd.1.1,hbx,c.wd.1.2.2⟩,c.wd.2⟩,⟨hpq.1,hpq.2.1,hpq.2.2.1,?_,?_⟩,c.off,c.low⟩
   ·have:=fY.next;omega
   ·have:=fY.next;omega
  clear hY
  have hfU:FrU (fun b=>b=p∨b=q) A Y:=⟨_,fY,fun b hb=>by simpa using hb⟩
  have hY:=h.frU hfU (fun b hb=>by
   have hb:L≤b∧b<A.next:=by rcases hb with rfl | rfl<;>omega
   have hrl:∀ b∈slB r,b<L:=hrL
   exact ⟨fun hu=>by have:=hU b hu;omega,by omega,fun hm=>by have:=hrl b hm;omega,fun h0=>by have:=c.low b h0;omega⟩)
  refine CodeW.at_ (c':=r20) (by kernel_rfl) (CodeW.mono (set_spec hro ht hY cY hU hm hn hnr ?_ ?_ ?_ ?_) ?_)
  iterate 4 simp only [tget_put,Nat.reduceEqDiff,if_false,u5,u6,u8,u10]
  rintro o ⟨T',A',rfl,w11,w5,⟨j1,j2,j3,j4,j5⟩,hact⟩
  have hc:=cY.acted hY hU hm hact
  simp only [z_0]
  refine ⟨T',A',x,now,a.due k,rfl,w11,?_,⟨?_,?_,?_,?_,?_⟩,hnow,hc,rfl,?_⟩
  ·rw [w5];simp only [tget_put,Nat.reduceEqDiff,if_false,u5]
  ·rw [j1];simp only [tget_put,Nat.reduceEqDiff,if_false]
  ·rw [j2];simp only [tget_put,Nat.reduceEqDiff,if_false]
  ·rw [j3];simp only [tget_put,Nat.reduceEqDiff,if_false]
  ·rw [j4];simp only [tget_put,Nat.reduceEqDiff,if_false]
  ·rw [j5];simp only [tget_put,Nat.reduceEqDiff,if_false]
  ·obtain ⟨D',U',P',r',h1,h2,h3,h4⟩:=hact
   have hnY:=fY.next
   refine ⟨D',U',P',r',h1,fun b hb=>(h2 b hb).imp id (fun h=>by omega),fun b hb=>(h3 b hb).imp id (fun h=>by omega),?_⟩
   have f1:FrU (fun b=>U b∨b=m∨b=p∨b=q) A Y:=hfU.sub (fun b hb=>.inr (.inr hb))
   exact f1.step h4 (fun b hb _=>hb.elim .inl (fun e=>.inr (.inl e)))
 have d1:(a.kind=1)=False:=eq_false k1
 have d2:(a.kind=2)=False:=eq_false k2
 by_cases k3:a.kind=3
 ·have d3:(a.kind=3)=True:=eq_true k3
  simp only [z_0,flat,cond_true,if_true,if_false,eq_self,Nat.reduceEqDiff,Nat.reduceLT,u50,d1,d2,d3]
  refine CodeW.at_ (c':=r22) (by kernel_rfl) (CodeW.mono (drop_both hro h c hU hm hn hnr ?_ ?_ ?_ ?_) ?_)
  iterate 4 simp only [tget_put,Nat.reduceEqDiff,if_false,u5,u6,u8,u10]
  intro o ho
  have hx:=fin ⟨by simp only [tget_put,Nat.reduceEqDiff,if_false],by simp only [tget_put,Nat.reduceEqDiff,if_false],by simp only [tget_put,Nat.reduceEqDiff,if_false],by simp only [tget_put,Nat.reduceEqDiff,if_false],by simp only [tget_put,Nat.reduceEqDiff,if_false]⟩ o ho (by simp only [tget_put,Nat.reduceEqDiff,if_false,u5])
  obtain ⟨T',A',x',now',a',rfl,hrest⟩:=hx
  simp only [z_0]
  exact ⟨T',A',x',now',a',rfl,hrest⟩
 have d3:(a.kind=3)=False:=eq_false k3
 by_cases k4:a.kind=4
 ·have d4:(a.kind=4)=True:=eq_true k4
  have d5:(a.kind=5)=False:=eq_false (by omega)
  have hnw:a.at_<18446744073709551616:=c.wd.2.1
  simp only [w_w,z_0,w_pl,flat,aFieldAddr,cond_true,cond_false,if_true,if_false,List.append_nil,List.nil_append,eq_self,Nat.reduceEqDiff,Nat.reduceLT,reduceCtorEq,u5,u8,u50,g1,anth0,anth6,d1,d2,d3,d4,d5]
  refine CallT.mono (CallT.of_call (tU_adv (nw:=a.at_) h.tab (by omega) hnw)) ?_
  rintro v1 B1 ⟨L1,hL1,hN1,U',hT1,hg1,fB1⟩
  have nB1:=fB1.next
  have dB1:=h.doc.frU fB1 h.off
  simp only [w_w,z_0,w_pl,if_true,if_false,List.append_nil,List.nil_append,eq_self,Nat.reduceEqDiff,Nat.reduceLT,u6]
  refine CallT.mono (CallT.of_call (dadv_spec hro (nw:=a.at_) dB1 hlen)) ?_
  rintro v2 C1 ⟨Q,hQ,hQm,hN2,hdoc,fm⟩
  have nC1:=fm.next
  have e1:=lists_uniq hL1 (sorted_lists (f:=fun k=>decide (now<k) && decide (k≤a.at_)) h.all h.name hQ hQm).1
  subst e1
  have hm1:m<B1.next:=by have:=h.doc.lt;omega
  have hN1':NamesAt C1 A.next v1 (Q.map tat):=OwnS.fr hN1 fm (fun b hb he=>by have:=(OwnS.low hN1 b hb).1;have:=h.doc.lt;simp only [List.mem_singleton] at he;omega)
  have hQl:Q.length≤1000:=by have:=listsSmall hL1 h.tab.upto;rw [List.length_map] at this;omega
  simp only [w_w,z_0,w_pl,if_true,if_false,List.append_nil,List.nil_append,eq_self,Nat.reduceEqDiff,Nat.reduceLT]
  refine CallT.mono (CallT.of_call (names_same hro hN1' hN2 (by rw [List.length_map];exact hQl) (fun b hb=>hnr b (by have:=(OwnS.low hN1 b hb).1;have:=c.pq;omega)) (fun b hb=>hnr b (by have:=(OwnS.low hN2 b hb).1;have:=c.pq;omega)))) ?_
  rintro _ E1 ⟨rfl,fE1⟩
  have nE1:=fE1.next
  have gr1:Grow A U U':=fun b hb=>(hg1 b hb).imp id (fun h1=>by omega)
  have hoU:=h.offG gr1 (Nat.le_refl _)
  have hact:Acted s A E1 m n U r S0 x (max now (a.at_)) (fun b=>U b∨b=m):=by
   refine ⟨D,U',P,r,⟨((hT1.fr (Fr.us fm) (fun b hb he=>by have:=(hoU b hb).1;simp only [List.mem_singleton] at he;exact this he)).fr0 fE1).le (by omega),hdoc.fr0 fE1,h.all,by have:=h.few;omega,hoU⟩,gr1,fun b hb=>.inl hb,?_⟩
   have f2:=(Fr.u (U:=fun b=>U b∨b=m) (.refl _ A)).step fB1 (fun b hb _=>.inl hb)
   have f3:=f2.step (Fr.us fm) (fun b hb _=>.inr (by simpa using hb))
   exact f3.step (Fr.u (U:=fun _=>False) fE1) (fun b hb _=>hb.elim)
  have hc:=c.acted h hU hm hact
  have hmx:max now (a.at_)<18446744073709551616:=Nat.max_lt.2 ⟨hnow,hnw⟩
  simp only [z_0,if_true,if_false,eq_self,Nat.reduceEqDiff,Nat.reduceLT]
  exact ⟨_,_,x,_,a,rfl,by simp only [tget_put,Nat.reduceEqDiff,if_true,reduceIte],by simp only [tget_put,Nat.reduceEqDiff,if_false];exact u5,⟨by simp only [tget_put,Nat.reduceEqDiff,if_false],by simp only [tget_put,Nat.reduceEqDiff,if_false],by simp only [tget_put,Nat.reduceEqDiff,if_false],by simp only [tget_put,Nat.reduceEqDiff,if_false],by simp only [tget_put,Nat.reduceEqDiff,if_false]⟩,hmx,hc,rfl,hact.sub (fun b hb=>hb.elim .inl (fun e=>.inr (.inl e)))⟩
 have d4:(a.kind=4)=False:=eq_false k4
 by_cases k5:a.kind=5
 ·have d5:(a.kind=5)=True:=eq_true k5
  have hnw:ltr now a.by_<18446744073709551616:=ltr_lt hnow
  have hR:=RO_ok (Z:=Z) (P:=Tryz.prog) (f:=19) (ar:=[.int .u64 (now:Int),.int .u64 (a.by_:Int)]) (Pr:=fun _=>True) (Sp:=fun A1 v A2=>v=.int .u64 ((ltr now a.by_:Nat):Int)∧A1=A2) (fun _ _=>later_calls)
  simp only [w_w,z_0,w_pl,flat,aFieldAddr,cond_true,cond_false,if_true,if_false,eq_self,Nat.reduceEqDiff,Nat.reduceLT,reduceCtorEq,u8,u50,g1,anth0,anth6,d1,d2,d3,d4,d5]
  refine CodeW.seqf (withRo_ok E0_ok) hro.ro mixed hR [0,1,2,3,4,5,6,7] [] (fanOf _ _ _) (by simp only [reorder,reoGo,strip,List.map_cons,List.map_nil,opAt,remap,nth,Option.map,σ,place',List.length_cons,List.length_nil,Nat.reduceAdd];rfl) (by decide +kernel) (by kernel_rfl) (by kernel_rfl) (by kernel_rfl) rfl ?_
  simp only [w_w,z_0,w_pl,aFieldAddr,cond_false,if_true,if_false,List.length_cons,List.length_nil,List.append_nil,List.nil_append,eq_self,Nat.reduceEqDiff,Nat.reduceAdd,Nat.reduceLT,reduceCtorEq,q_0,q_1,q_2,f_0,hasN,reorder,List.length_cons,List.length_nil,u6,u8,g1,hrow,anth7,rm,rp]
  refine conRO trivial ?_
  rintro _ _ ⟨rfl,rfl⟩
  have fb:Fr [] A { heap:=A.heap,next:=A.next+8 }:=Fr.bump (by omega)
  simp only [w_w,z_0,if_true,if_false,List.append_nil,List.nil_append,eq_self,Nat.reduceEqDiff,Nat.reduceAdd,Nat.reduceLT,q_0,q_2,f_0,reorder,u5]
  refine CallT.mono (CallT.of_call (tU_adv (nw:=ltr now a.by_) (h.tab.fr0 fb) (by omega) hnw)) ?_
  rintro v1 B1 ⟨L1,hL1,hN1,U',hT1,hg1,fB1⟩
  have nB1:A.next+8≤B1.next:=fB1.next
  have hN1:NamesAt B1 (A.next+8) v1 L1:=hN1
  have hg1:∀ b,U' b→U b∨A.next+8≤b:=hg1
  have dB1:=(h.doc.fr0 fb).frU fB1 h.off
  simp only [w_w,z_0,w_pl,if_true,if_false,List.append_nil,List.nil_append,eq_self,Nat.reduceEqDiff,Nat.reduceLT,u6]
  refine CallT.mono (CallT.of_call (dadv_spec hro (nw:=ltr now a.by_) dB1 hlen)) ?_
  rintro v2 C1 ⟨Q,hQ,hQm,hN2,hdoc,fm⟩
  have nC1:=fm.next
  have e1:=lists_uniq hL1 (sorted_lists (f:=fun k=>decide (now<k) && decide (k≤ltr now a.by_)) h.all h.name hQ hQm).1
  subst e1
  have hm1:m<B1.next:=by have:=h.doc.lt;omega
  have hN1':NamesAt C1 (A.next+8) v1 (Q.map tat):=OwnS.fr hN1 fm (fun b hb he=>by have:=(OwnS.low hN1 b hb).1;have:=h.doc.lt;simp only [List.mem_singleton] at he;omega)
  have hQl:Q.length≤1000:=by have:=listsSmall hL1 h.tab.upto;rw [List.length_map] at this;omega
  simp only [w_w,z_0,w_pl,if_true,if_false,List.append_nil,List.nil_append,eq_self,Nat.reduceEqDiff,Nat.reduceLT]
  refine CallT.mono (CallT.of_call (names_same hro hN1' hN2 (by rw [List.length_map];exact hQl) (fun b hb=>hnr b (by have:=(OwnS.low hN1 b hb).1;have:=c.pq;omega)) (fun b hb=>hnr b (by have:=(OwnS.low hN2 b hb).1;have:=c.pq;omega)))) ?_
  rintro _ E1 ⟨rfl,fE1⟩
  have nE1:=fE1.next
  have gr1:Grow A U U':=fun b hb=>(hg1 b hb).imp id (fun h1=>by omega)
  have hoU:=h.offG gr1 (Nat.le_refl _)
  have hact:Acted s A E1 m n U r S0 x (max now (ltr now a.by_)) (fun b=>U b∨b=m):=by
   refine ⟨D,U',P,r,⟨((hT1.fr (Fr.us fm) (fun b hb he=>by have:=(hoU b hb).1;simp only [List.mem_singleton] at he;exact this he)).fr0 fE1).le (by omega),hdoc.fr0 fE1,h.all,by have:=h.few;omega,hoU⟩,gr1,fun b hb=>.inl hb,?_⟩
   have f2:=(Fr.u (U:=fun b=>U b∨b=m) fb).step fB1 (fun b hb _=>.inl hb)
   have f3:=f2.step (Fr.us fm) (fun b hb _=>.inr (by simpa using hb))
   exact f3.step (Fr.u (U:=fun _=>False) fE1) (fun b hb _=>hb.elim)
  have hc:=c.acted h hU hm hact
  have hmx:max now (ltr now a.by_)<18446744073709551616:=Nat.max_lt.2 ⟨hnow,hnw⟩
  simp only [z_0,if_true,if_false,eq_self,Nat.reduceEqDiff,Nat.reduceLT]
  exact ⟨_,_,x,_,a,rfl,by simp only [tget_put,Nat.reduceEqDiff,if_true,reduceIte],by simp only [tget_put,Nat.reduceEqDiff,if_false];exact u5,⟨by simp only [tget_put,Nat.reduceEqDiff,if_false],by simp only [tget_put,Nat.reduceEqDiff,if_false],by simp only [tget_put,Nat.reduceEqDiff,if_false],by simp only [tget_put,Nat.reduceEqDiff,if_false],by simp only [tget_put,Nat.reduceEqDiff,if_false]⟩,hmx,hc,rfl,hact.sub (fun b hb=>hb.elim .inl (fun e=>.inr (.inl e)))⟩
 have d5:(a.kind=5)=False:=eq_false k5
 by_cases k6:a.kind=6
 ·have d6:(a.kind=6)=True:=eq_true k6
  simp only [w_w,z_0,w_pl,flat,cond_true,if_true,if_false,List.append_nil,List.nil_append,eq_self,Nat.reduceEqDiff,Nat.reduceLT,u5,u6,u50,d1,d2,d3,d4,d5,d6]
  refine CallT.mono (CallT.of_call (fires_spec hro ht h hn hnow)) ?_
  rintro _ A' ⟨D',U',P',r',hp,hg,hr,hf⟩
  have hact:Acted s A A' m n U r S0 x now (fun b=>U b∨b=m):=⟨D',U',P',r',hp,hg,hr,hf⟩
  simp only [z_0,Nat.reduceLT]
  exact ⟨_,_,x,now,a,rfl,by simp only [tget_put,Nat.reduceEqDiff,if_false];exact u11,by simp only [tget_put,Nat.reduceEqDiff,if_false];exact u5,⟨by simp only [tget_put,Nat.reduceEqDiff,if_false],by simp only [tget_put,Nat.reduceEqDiff,if_false],by simp only [tget_put,Nat.reduceEqDiff,if_false],by simp only [tget_put,Nat.reduceEqDiff,if_false],by simp only [tget_put,Nat.reduceEqDiff,if_false]⟩,hnow,c.acted h hU hm hact,rfl,hact.sub (fun b hb=>hb.elim .inl (fun e=>.inr (.inl e)))⟩
 have d6:(a.kind=6)=False:=eq_false k6
 by_cases k7:a.kind=7
 ·have d7:(a.kind=7)=True:=eq_true k7
  simp only [w_w,z_0,flat,cond_true,if_true,if_false,List.append_nil,List.nil_append,eq_self,Nat.reduceEqDiff,Nat.reduceLT,u5,u50,d1,d2,d3,d4,d5,d6,d7]
  refine CallT.mono (CallT.of_call (tU_copy hro ht h.tab hn)) ?_
  rintro _ A' ⟨x2,U2,rfl,hT2,hU2,fC⟩
  have hact:Acted s A A' m n U r S0 x2 now (fun b=>U b∨b=m):=by
   refine ⟨D,U2,P,r,⟨hT2.le (by omega),h.doc.fr0 fC,h.all,by have:=h.few;omega,fun b hb=>?_⟩,fun b hb=>.inr (hU2 b hb),fun b hb=>.inl hb,Fr.u fC⟩
   have h1:=hU2 b hb
   have h2:=h.doc.lt
   exact ⟨by omega,fun hm=>by have:=(h.doc.own.low b hm).2;omega,fun hm=>by have:=(h.doc.sd b hm).2.2;omega⟩
  simp only [z_0,if_true,if_false,eq_self,Nat.reduceEqDiff,Nat.reduceLT]
  exact ⟨_,_,x2,now,a,rfl,by simp only [tget_put,Nat.reduceEqDiff,if_false];exact u11,by simp only [tget_put,Nat.reduceEqDiff,if_true,reduceIte],⟨by simp only [tget_put,Nat.reduceEqDiff,if_false],by simp only [tget_put,Nat.reduceEqDiff,if_false],by simp only [tget_put,Nat.reduceEqDiff,if_false],by simp only [tget_put,Nat.reduceEqDiff,if_false],by simp only [tget_put,Nat.reduceEqDiff,if_false]⟩,hnow,c.acted h hU hm hact,rfl,hact.sub (fun b hb=>hb.elim .inl (fun e=>.inr (.inl e)))⟩
 have d7:(a.kind=7)=False:=eq_false k7
 have hact:Acted s A A m n U r S0 x now (fun b=>U b∨b=m):=⟨D,U,P,r,h.le (by omega),fun b hb=>.inl hb,fun b hb=>.inl hb,Fr.u (.refl _ _)⟩
 simp only [z_0,flat,cond_true,if_true,if_false,eq_self,Nat.reduceEqDiff,Nat.reduceLT,u50,d1,d2,d3,d4,d5,d6,d7]
 exact ⟨_,_,x,now,a,rfl,by simp only [tget_put,Nat.reduceEqDiff,if_false];exact u11,by simp only [tget_put,Nat.reduceEqDiff,if_false];exact u5,⟨by simp only [tget_put,Nat.reduceEqDiff,if_false],by simp only [tget_put,Nat.reduceEqDiff,if_false],by simp only [tget_put,Nat.reduceEqDiff,if_false],by simp only [tget_put,Nat.reduceEqDiff,if_false],by simp only [tget_put,Nat.reduceEqDiff,if_false]⟩,hnow,c.acted h hU hm hact,rfl,hact.sub (fun b hb=>hb.elim .inl (fun e=>.inr (.inl e)))⟩
end
end Go.Proofs.YtgcffmhpjphefaaGreatDoor

/- A script's act: its cells are laid; the copy of its timer is wiped out. -/
namespace Go.Proofs.YtgcffmhpjphefaaGreatDoor
open Go Go.AE
set_option maxRecDepth 10000
set_option maxHeartbeats 32000000
variable {Z:Go.AE.Road}{s:Spans}
noncomputable def body1:Code:=bI (sL (sR (lI (bI (sR (sL (sR (sR (sR (Tryz.f5.body.getD .ret))))))))))
noncomputable def lp3:Code:=bI (sR (sL (sR (sR (sR (sR (sR (sR (sR (sR body1))))))))))
def blkW(Z:Go.AE.Road)(E:Env)(P:Program)(n:Nat)(ro:Option Nat)(k:Nat)(b:Code)(Q:Out→Prop)(T:Tmps)(A:ASt):Prop:=codeW Z E P n ro (.block k b) Q T A
@[congr] theorem blkW_congr{E:Env}{P:Program}{n n' k:Nat}{ro:Option Nat}{b:Code}{Q:Out→Prop}{T:Tmps}{A:ASt}(h:∀ _:Unit,tg n=n'):blkW Z E P n ro k b Q T A=blkW Z E P n' ro k b Q T A:=by rw [← h ()];rfl
theorem c_stop2{E:Env}{P:Program}{n:Nat}{ro:Option Nat}{b:Code}{Q:Out→Prop}{T:Tmps}{A:ASt}:codeW Z E P n ro (.block 2 b) Q T A=blkW Z E P n ro 2 b Q T A:=by rw [blkW]
theorem c_stop3{E:Env}{P:Program}{n:Nat}{ro:Option Nat}{b:Code}{Q:Out→Prop}{T:Tmps}{A:ASt}:codeW Z E P n ro (.block 3 b) Q T A=blkW Z E P n ro 3 b Q T A:=by rw [blkW]
theorem blkW_to{E:Env}{P:Program}{n k:Nat}{ro:Option Nat}{b b':Code}{Q Q':Out→Prop}{T:Tmps}{A:ASt}(e:b=b')(h:codeW Z E P n ro (.block k b') Q' T A)(hq:∀ o,Q' o→Q o):blkW Z E P n ro k b Q T A:=by
 subst e
 exact codeW_mono hq h
theorem actIx{A:ASt}{S:Nat→Prop}{v:Value}{P:List (ActD×Value)}(h:SlAt (withRo E0 s) A S 8 v (P.map fun p=>acell p.1 p.2)){i:Nat}{p:ActD×Value}(hp:P[i]? = some p):
  ∃ b o c,(∀ kd,aIndexAddr E0 45 v (.int kd (i:Int))=some (.pointer (some ⟨b,o,none⟩)))∧cellsG (withRo E0 s) b (A.get b)=some c∧cut c o 8=some (acell p.1 p.2)∧S b:=by
 obtain ⟨b,o,c,h1,h2,h3,h4,h5,h6⟩:=h.ix (wti.trans ti45) t45_desc (wti.trans ti50) t50_size (i:=i) (x:=acell p.1 p.2) (by rw [List.getElem?_map,hp];rfl)
 simp only [wix] at h1
 exact ⟨b,o,c,h1,h2.g,h5,h3⟩
theorem actLen{A:ASt}{S:Nat→Prop}{v:Value}{P:List (ActD×Value)}(h:SlAt (withRo E0 s) A S 8 v (P.map fun p=>acell p.1 p.2))(B:ASt):aLen E0 45 v B=some (.int .i64 (P.length:Int)):=by
 have:=h.len (wti.trans ti45) t45_desc B
 simp only [wlen,List.length_map] at this
 exact this
theorem aagg{a:ActD}{dv:Value}:Value.agg (acell a dv).toArray=aval a dv:=rfl
theorem acut8{a:ActD}{dv:Value}:cut (acell a dv) 0 8=some (acell a dv):=rfl
theorem anth5{a:ActD}{dv:Value}:nth (acell a dv) 5=some dv:=rfl
theorem tnth4{t:TimD}{dv:Value}:nth (tcell t dv) 4=some dv:=rfl
theorem al50:aAlloc E0 50=some (.row [.int .i64 0,.string ByteArray.empty,.int .i64 0,.int .u64 0,.int .u64 0,.slice none 0 0,.int .u64 0,.int .u64 0] 8 false,ptrTo):=by
 simp only [aAlloc,w_pl];rfl
theorem newAct{A:ASt}{a:ActD}{dv:Value}(hs:Go.AE.single dv=true):∃ C,aStore E0 50 (.pointer (some ⟨A.next,0,none⟩)) (aval a dv) (A.new (.row [.int .i64 0,.string ByteArray.empty,.int .i64 0,.int .u64 0,.int .u64 0,.slice none 0 0,.int .u64 0,.int .u64 0] 8 false))=some C∧Fr [] A C∧C.get A.next=some (.row (acell a dv) 8 false)∧C.next=A.next+1:=by
 have hg:(A.new (.row [.int .i64 0,.string ByteArray.empty,.int .i64 0,.int .u64 0,.int .u64 0,.slice none 0 0,.int .u64 0,.int .u64 0] 8 false)).get A.next=some (.row [.int .i64 0,.string ByteArray.empty,.int .i64 0,.int .u64 0,.int .u64 0,.slice none 0 0,.int .u64 0,.int .u64 0] 8 false):=by rw [ASt.get_new,if_pos rfl]
 have e:(aval a dv).cells.toList=acell a dv:=rfl
 have hsg:singles (acell a dv)=true:=by
  show (true && (true && (true && (true && (true && (Go.AE.single dv && (true && (true && true))))))))=true
  rw [hs];rfl
 have hst:aStore E0 50 (.pointer (some ⟨A.next,0,none⟩)) (aval a dv) (A.new (.row [.int .i64 0,.string ByteArray.empty,.int .i64 0,.int .u64 0,.int .u64 0,.slice none 0 0,.int .u64 0,.int .u64 0] 8 false))=some ((A.new (.row [.int .i64 0,.string ByteArray.empty,.int .i64 0,.int .u64 0,.int .u64 0,.slice none 0 0,.int .u64 0,.int .u64 0] 8 false)).set A.next (.row (acell a dv) 8 false)):=by
  simp only [aStore,hg,w_pl,e,hsg];rfl
 exact ⟨_,hst,⟨by rw [ASt.next_set,ASt.next_new];omega,fun b hb _=>by rw [ASt.get_set,if_neg (by omega),ASt.get_new,if_neg (by omega)]⟩,by rw [ASt.get_set,if_pos rfl],by rw [ASt.next_set,ASt.next_new]⟩
theorem scells_sg:∀ {l:List StepD},singles (l.map scell).flatten=true
 | []=>rfl
 | y::l=>by
  show (true && (true && (true && (true && singles (l.map scell).flatten))))=true
  rw [scells_sg (l:=l)];rfl
theorem appS{A:ASt}{lo n:Nat}{v x:Value}{cs:List Value}{S:Nat→Prop}{l:List StepD}(h:OwnS A lo 4 n v cs)(hx:Steps (withRo E0 s) A S x l)(hn:n+l.length≤100000)(hlo:lo≤A.next):
  ∃ r B,aAppend (withRo E0 s) 28 28 v x A=.val r B∧OwnS B lo 4 (n+l.length) r (cs++(l.map scell).flatten)∧Fr (slB v) A B∧∀ b∈slB r,b∈slB v∨A.next≤b:=by
 have hl:=hx.lenV
 have hs:=hx.src
 rw [List.length_map] at hl hs
 have hf:=flat_len (scell_len (l:=l))
 rw [List.length_map] at hf
 exact h.app (E:=withRo E0 s) (xt:=28) (x:=x) (m:=l.length) (new:=(l.map scell).flatten) (wti.trans ti28) t28_desc (wti.trans ti56) t56_size (wti.trans ti28) (by rw [t28_desc];rfl) t56_zero z36c z36l (by omega) hl hs hf scells_sg (by rw [t56_bytes];omega) hlo
theorem over1{cs:List Value}{o:Nat}{v:Value}(h:o<cs.length):over cs o [v]=some (cs.set o v):=by
 unfold over
 rw [Nat.ble_eq_true_of_le (show o + [v].length≤cs.length from h),cond_true,List.set_eq_take_append_cons_drop,if_pos h]
 rfl
theorem st9{A:ASt}{b o sz:Nat}{cs:List Value}{tl:Bool}{k:ByteArray}(h:A.get b=some (.row cs sz tl))(ho:o<cs.length):aStore E0 9 (.pointer (some ⟨b,o,none⟩)) (.string k) A=some (A.set b (.row (cs.set o (.string k)) sz tl)):=by
 have e:(Value.string k).cells.toList=[.string k]:=rfl
 have e2:singles [Value.string k]=true:=rfl
 simp only [aStore,h,w_0,e,e2,over1 ho];rfl
theorem ixS{b i n c:Nat}(h:i<n):aIndexAddr E0 28 (.slice (some ⟨b,0,none⟩) n c) (.int .i64 (i:Int))=some (.pointer (some ⟨b,i*4,none⟩)):=by
 have:=indexAddr_sl (A:={ heap:=.e,next:=0 }) ti28 t28_desc ti56 (kd:=.i64) (k:=i) (b:=b) (off:=0) (len:=n) (cap:=c) h
 rwa [t56_size,Nat.zero_add] at this
theorem wipe_spec(hro:RoadS Z E0 s){T:Tmps}{A:ASt}{L q:Nat}{t:TimD}{w:Value}(gq:A.get q=some (.row (tcell t w) 5 false))(hlq:q<A.next)(ow:OwnS A L 4 t.steps.length w (t.steps.map scell).flatten)(hln:t.steps.length≤10)(hq:q∉slB w)(u10:tget T 10=.pointer (some ⟨q,0,none⟩))(u13:tget T 13=.int .i64 0):
  codeW Z (withRo E0 s) Tryz.prog 154 none (.block 3 lp3) (fun o=>∃ T' A',o=.fr ⟨.normal,T',A'⟩∧tget T' 11=tget T 11∧tget T' 5=tget T 5∧Keeps T T'∧Fr (slB w) A A') T A:=by
 have lw:=fun B=>ow.len (E:=E0) ti28 t28_desc B
 simp only [lp3,body1,sL,sR,bI,lI,Tryz.f5,Option.getD_some]
 simp only [z_0]
 refine CodeW.mono (Q:=fun o=>∃ T' A',o=.fr ⟨.exit 3,T',A'⟩∧tget T' 11=tget T 11∧tget T' 5=tget T 5∧Keeps T T'∧Fr (slB w) A A') ?_ ?_
 ·refine CodeW.loopR (k:=t.steps.length) (fun n T1 A1=>∃ i,n=t.steps.length-i∧i≤t.steps.length∧tget T1 13=.int .i64 (i:Int)∧tget T1 11=tget T 11∧tget T1 5=tget T 5∧Keeps T T1∧Fr (slB w) A A1∧(i<t.steps.length→∃ b c tl cs,w=.slice (some ⟨b,0,none⟩) t.steps.length c∧A1.get b=some (.row cs 4 tl)∧cs.length=t.steps.length*4)) ?_ ⟨0,rfl,Nat.zero_le _,u13,rfl,rfl,⟨rfl,rfl,rfl,rfl,rfl⟩,.refl _ _,fun h0=>?_⟩
  ·rintro n T1 A1 ⟨i,rfl,hi,w13,w11,w5,⟨j1,j2,j3,j4,j5⟩,hf,hrow⟩
   refine codeW_ok (withRo_ok E0_ok) hro.ro ?_
   have wi:IntKind.i64.wrap ((i:Int)+1)=((i+1:Nat):Int):=by rw [IntKind.wrap_i64];omega
   have g1:=(hf.get q hlq hq).trans gq
   have w10:tget T1 10=.pointer (some ⟨q,0,none⟩):=j5.trans u10
   by_cases hlt:i<t.steps.length
   ·have d1:((i:Int)<(t.steps.length:Int))=True:=eq_true (by omega)
    obtain ⟨b,c,tl,cs,rfl,hb,hcl⟩:=hrow hlt
    have hx:=ixS (b:=b) (c:=c) hlt
    have hst:=st9 (o:=i*4+1) (k:={ data:=#[63] }) hb (by omega)
    simp only [w_w,z_0,flat,aFieldAddr,aBuiltin,cond_true,cond_false,if_true,if_false,eq_self,Nat.reduceEqDiff,Nat.reduceLT,reduceCtorEq,w10,w13,g1,tnth4,lw,d1,hx,hst,wi]
    refine ⟨t.steps.length-(i+1),by omega,i+1,rfl,by omega,rfl,?_,?_,⟨?_,?_,?_,?_,?_⟩,hf.set (.inl (by simp [slB])),fun _=>⟨b,c,tl,cs.set (i*4+1) (.string { data:=#[63] }),rfl,by first | rfl | rw [if_pos rfl],by rw [List.length_set];exact hcl⟩⟩
    all_goals simp only [tget_put,Nat.reduceEqDiff,if_false,w11,w5,j1,j2,j3,j4,j5]
   ·have d1:((i:Int)<(t.steps.length:Int))=False:=eq_false (by omega)
    simp only [w_w,z_0,aFieldAddr,aBuiltin,cond_false,if_true,if_false,eq_self,Nat.reduceEqDiff,Nat.reduceLT,reduceCtorEq,w10,w13,g1,tnth4,lw,d1]
    refine ⟨_,_,rfl,?_,?_,⟨?_,?_,?_,?_,?_⟩,hf⟩
    all_goals simp only [tget_put,Nat.reduceEqDiff,if_false,w11,w5,j1,j2,j3,j4,j5]
  ·rcases ow with ⟨h1,_⟩ | ⟨b,c,tl,rfl,hb,_,_,hc,_⟩
   ·omega
   ·exact ⟨b,c,tl,_,rfl,hb,hc⟩
 ·rintro o ⟨T',A',rfl,hrest⟩
  simp only [z_0]
  exact ⟨T',A',rfl,hrest⟩
end Go.Proofs.YtgcffmhpjphefaaGreatDoor

/- The law 'TimersPlays', walked. -/
namespace Go.Proofs.YtgcffmhpjphefaaGreatDoor
open Go Go.AE
set_option maxRecDepth 10000
set_option maxHeartbeats 32000000
variable {Z:Go.AE.Road}{s:Spans}
theorem HandedA.frU{A B:ASt}{S V:Nat→Prop}{v:Value}{P:List (ActD×Value)}(h:HandedA s A S v P)(hf:FrU V A B)(hv:∀ b,V b→¬ S b):HandedA s B S v P:=by
 obtain ⟨own,f,ho⟩:=hf
 exact h.fr f (fun b hb _ hm=>hv b (ho b hm) hb)
theorem bl48{x:Int}:aBuild E0 48 [(0,.int .u64 x)]=some (.agg #[.int .u64 x,.slice none 0 0]):=by kernel_rfl
theorem box48{x y:Value}:aBox E0 48 (.agg #[x,y])=some (.row [x,y] 2 false,ptrTo):=by
 simp only [aBox,w_pl];rfl
theorem plays_walk(hro:RoadS Z E0 s)(ht:TabZ Z){A:ASt}{S0:Nat→Prop}{lv:Value}{P0:List (ActD×Value)}{now:Nat}(hl:HandedA s A S0 lv P0)(hS0:∀ b,S0 b→b<A.next)(hnow:now<18446744073709551616):
  CallW Z Tryz.prog 5 [.int .u64 (now:Int),lv] A (fun v _=>v=.bool true):=by
 refine CallW.assume hro fun hnr=>?_
 refine CallW.of_code (withRo_ok E0_ok) hro.ro (f:=5) (fn:=Tryz.f5) fn5 rfl (n:=154) rfl (rs:=[.tmp 4]) rfl (by simp) (codeW_ok (withRo_ok E0_ok) hro.ro ?_)
 obtain ⟨lb,lc,rfl⟩:=hl.sl.form
 rw [List.length_map] at hl
 simp only [List.length_map,w_w,z_0,flat,cond_true,if_true,if_false,List.append_nil,List.nil_append,eq_self,Nat.reduceEqDiff,Nat.reduceAdd,Nat.reduceLT,reduceCtorEq]
 refine CallT.mono (CallT.of_call (tU_new (s:=s) hro hnow)) ?_
 rintro _ C ⟨x0,U0,rfl,hT,fC,hU0⟩
 have nC:=fC.next
 simp only [w_w,z_0,flat,cond_true,if_true,if_false,eq_self,Nat.reduceEqDiff,Nat.reduceLT,reduceCtorEq,bl48,box48,ptrTo]
 generalize hB:C.new (.row [.int .u64 (now:Int),.slice none 0 0] 2 false)=B
 have fB:Fr [] C B:=by rw [← hB];exact .new
 have gB:B.get C.next=some (.row [.int .u64 (now:Int),.slice none 0 0] 2 false):=by rw [← hB,ASt.get_new,if_pos rfl]
 have nB:B.next=C.next+1:=by rw [← hB,ASt.next_new]
 clear hB
 have hlB:=hl.fr (fC.trans fB) (by simp)
 obtain ⟨m,hm⟩:∃ m,C.next=m:=⟨_,rfl⟩
 rw [hm] at gB ⊢
 have hrs0:∀ b,b=m∨b∈slB (.slice none 0 0)→(withRo E0 s).ro b=none:=fun b hb=>by
  rcases hb with rfl | hb
  ·exact hnr _ (by omega)
  ·cases hb
 have hd0:DocT s B m now [] (.slice none 0 0) S0:=⟨gB,by omega,.inl ⟨rfl,rfl,rfl⟩,CapU.nil,by simp [slB],hrs0,by simp,fun b hb=>⟨by have:=hS0 b hb;omega,by simp [slB],by have:=hS0 b hb;omega⟩,.nil⟩
 have hp0:Pair s B x0 m now 0 (fun _=>none) U0 [] (.slice none 0 0) S0:=⟨hT.fr0 fB,hd0,allOf_nil,Nat.le_refl _,fun b hb=>⟨by have:=hT.lt b hb;omega,by simp [slB],fun h0=>by have:=hS0 b h0;have:=hU0 b hb;omega⟩⟩
 refine CodeW.mono (Q:=fun o=>∃ T' A',o=.fr ⟨.exit 0,T',A'⟩) ?_ ?_
 ·refine CodeW.loopR (k:=P0.length) (fun n T A'=>∃ (i x nw:Nat) (D:TD) (U:Nat→Prop) (P:List (TimD×Value)) (r:Value),n=P0.length-i∧i≤P0.length∧i≤80∧tget T 1=.slice lb P0.length lc∧tget T 5=.pointer (some ⟨x,0,none⟩)∧tget T 6=.pointer (some ⟨m,0,none⟩)∧tget T 7=.int .i64 (i:Int)∧Pair s A' x m nw i D U P r S0∧(∀ b,U b→A.next≤b)∧nw<18446744073709551616∧HandedA s A' S0 (.slice lb P0.length lc) P0) ?_ ⟨0,x0,now,_,U0,[],_,rfl,Nat.zero_le _,by omega,?_,?_,?_,?_,hp0,hU0,hnow,hlB⟩
  ·rintro k T A1 ⟨i,x,nw,D,U,P,r,rfl,hi,hi80,u1,u5,u6,u7,hp,hU,hnw,hh⟩
   refine codeW_ok (withRo_ok E0_ok) hro.ro ?_
   have llen:=actLen hh.sl
   have wi:IntKind.i64.wrap ((i:Int)+1)=((i+1:Nat):Int):=by rw [IntKind.wrap_i64];omega
   have hml:=hp.doc.lt
   by_cases hlt:i<P0.length
   ·have d1:((i:Int)<(P0.length:Int))=True:=eq_true (by omega)
    by_cases hlt8:i<80
    ·have d2:((i:Int)<80)=True:=eq_true (by omega)
     obtain ⟨p,hpi⟩:∃ p,P0[i]? = some p:=⟨_,List.getElem?_eq_getElem hlt⟩
     obtain ⟨b1,o1,c1,hx1,hc1,hcut1,_⟩:=actIx hh.sl hpi
     obtain ⟨hst,hrg,hwd⟩:=hh.st p (List.mem_of_getElem? hpi)
     obtain ⟨A2,hs2,f2,g2,n2⟩:=newAct (A:=A1) (a:=p.1) (dv:=p.2) hst.single
     simp only [w_w,z_0,w_pl,flat,Option.isNone,aBuiltin,cond_true,if_true,if_false,eq_self,Nat.reduceEqDiff,Nat.reduceLT,u1,u5,u7,llen,d1,d2,eqnilT,hx1,hc1,hcut1,aagg,al50,ptrTo,undef]
     rw [hs2]
     simp only [w_w,z_0,w_pl,aFieldAddr,cond_true,cond_false,if_true,if_false,List.append_nil,List.nil_append,eq_self,Nat.reduceEqDiff,Nat.reduceLT,reduceCtorEq,g2,acut,tagg]
     refine CallT.mono (CallT.of_call (fits_spec (t:=p.1.t) hro (hst.fr f2 (by simp)))) ?_
     rintro _ F ⟨⟨bf,rfl,hbf⟩,fF⟩
     have nF:=fF.next
     have f3:=f2.trans fF
     cases bf with
     | false=>
      simp only [z_0,flat,cond_true,if_true,if_false,eq_self,Nat.reduceEqDiff,Nat.reduceLT,u1,u5,u6,u7,wi]
      exact ⟨P0.length-(i+1),by omega,i+1,x,nw,D,U,P,r,rfl,by omega,by omega,rfl,rfl,(hp.fr0 f3).le (by omega),hU,hnw,hh.fr f3 (by simp)⟩
     | true=>
      obtain ⟨hf1,_⟩:=hbf rfl
      have g3:=(fF.get A1.next (by omega) (by simp)).trans g2
      obtain ⟨A3,hs3,f4,g4,n3⟩:=newTim (A:=F) (t:=p.1.t) (dv:=p.2) hst.single
      simp only [w_w,z_0,w_pl,aFieldAddr,cond_true,cond_false,if_true,if_false,eq_self,Nat.reduceEqDiff,Nat.reduceLT,reduceCtorEq,g3,acut,tagg,al25,ptrTo]
      rw [hs3]
      have g5:=(f4.get A1.next (by omega) (by simp)).trans g3
      have fN:Fr [] A3 (A3.new (.row [] 4 false)):=.new
      have nN:(A3.new (.row [] 4 false)).next=A3.next+1:=ASt.next_new ..
      have g6:=(fN.get A1.next (by omega) (by simp)).trans g5
      have g7:=(fN.get F.next (by omega) (by simp)).trans g4
      have fA3:Fr [] A1 (A3.new (.row [] 4 false)):=(f3.trans f4).trans fN
      have how0:OwnS (A3.new (.row [] 4 false)) A3.next 4 0 (.slice (some ⟨A3.next,0,none⟩) 0 0) []:=.inr ⟨A3.next,0,false,rfl,by rw [ASt.get_new,if_pos rfl],Nat.le_refl _,by omega,rfl,.inr ⟨rfl,by unfold unk;decide⟩⟩
      obtain ⟨w,A4,ha,how,f5,hwb⟩:=appS (s:=s) how0 (hst.fr fA3 (by simp)) (by omega) (by omega)
      rw [Nat.zero_add,List.nil_append] at how
      have n5:=f5.next
      have hne5:∀ b,b<A3.next→b∉slB (.slice (some ⟨A3.next,0,none⟩) 0 0):=fun b hb hm=>by simp only [slB,List.mem_singleton] at hm;omega
      have g8:A4.get F.next=some (.row [.string p.1.t.name,.int .i64 p.1.t.ver,.int .u64 (p.1.t.at_:Int),.int .u64 (p.1.t.every:Int),p.2] 5 false):=(f5.get F.next (by omega) (hne5 _ (by omega))).trans g7
      have g9:=(f5.get A1.next (by omega) (hne5 _ (by omega))).trans g6
      have hst4:aStore E0 28 (.pointer (some ⟨F.next,4,none⟩)) w A4=some (A4.set F.next (.row (tcell p.1.t w) 5 false)):=st23 g8 how.cells1 how.single
      have hneq:(A1.next=F.next)=False:=eq_false (by omega)
      simp only [w_w,z_0,w_pl,aFieldAddr,aBuiltin,cond_false,if_true,if_false,eq_self,Nat.reduceEqDiff,Nat.reduceAdd,Nat.reduceLT,reduceCtorEq,bs23,g6,anth5]
      rw [ha]
      simp only [↓c_stop2,w_w,z_0,w_pl,flat,aFieldAddr,cond_true,cond_false,if_true,if_false,eq_self,Nat.reduceEqDiff,Nat.reduceLT,reduceCtorEq,hst4,hneq,g9,anth0]
      generalize hG:A4.set F.next (.row (tcell p.1.t w) 5 false)=G
      have fG:Fr [] A1 G:=by
       rw [← hG]
       exact (fA3.fresh (l:=slB (.slice (some ⟨A3.next,0,none⟩) 0 0)) f5 (fun b hb=>by simp only [slB,List.mem_singleton] at hb;omega)).set (.inr (by omega))
      have hGp:G.get A1.next=some (.row (acell p.1 p.2) 8 false):=by rw [← hG,ASt.get_set,if_neg (by omega)];exact g9
      have hGq:G.get F.next=some (.row (tcell p.1.t w) 5 false):=by rw [← hG,ASt.get_set,if_pos rfl]
      have nG:G.next=A4.next:=by rw [← hG,ASt.next_set]
      have hwlow:=how.low
      have howG:OwnS G A3.next 4 p.1.t.steps.length w (p.1.t.steps.map scell).flatten:=by
       rw [← hG]
       exact how.fr (own:=[F.next]) ((Fr.refl _ _).set (.inl (by simp))) (fun b hb hm=>by have:=hwlow b hb;simp only [List.mem_singleton] at hm;omega)
      clear hG
      have hUlt:=hp.tab.lt
      have hrL:∀ b∈slB r,b<A1.next:=fun b hb=>(hp.doc.own.low b hb).2
      have cG:Cells s G A1.next A1.next F.next p.1 p.2 w S0:=⟨hGp,hGq,howG.lower (by omega),hst.fr fG (by simp),hrg,hf1,hwd,⟨Nat.le_refl _,by omega,by omega,by omega,by omega⟩,⟨fun hm=>by have:=hwlow _ hm;omega,fun hm=>by have:=hwlow _ hm;omega⟩,fun b hb=>by have:=hS0 b hb;omega⟩
      have hnrL:∀ b,A1.next≤b→(withRo E0 s).ro b=none:=fun b hb=>hnr b (by omega)
      refine blkW_to (b':=swB) (by kernel_rfl) (switch_spec hro ht (hp.fr0 fG) cG hUlt hml (by omega) hnw hrL hnrL ?_ ?_ ?_ ?_ ?_ ?_) ?_
      iterate 6 simp only [tget_put,Nat.reduceEqDiff,if_false,if_true,u5,u6]
      rintro o ⟨T',A',x',now',a',rfl,w11,w5,⟨j1,j2,j3,j4,j5⟩,hn',hc',hst',D',U',P',r',hp',hg',hr',hf'⟩
      simp only [tget_put,Nat.reduceEqDiff,if_false,if_true,u1,u6,u7] at j1 j2 j3 j4 j5
      have nA':=hf'.next
      simp only [↓c_stop3,z_0,flat,cond_true,Nat.reduceLT]
      refine blkW_to (b':=lp3) (by kernel_rfl) (wipe_spec hro hc'.gq hc'.pq.2.2.2.2 hc'.ow hc'.ln hc'.off.2 ?_ ?_) ?_
      ·simp only [tget_put,Nat.reduceEqDiff,if_false,j5]
      ·simp only [tget_put,if_true]
      rintro o ⟨T'',A'',rfl,v11,v5,⟨l1,l2,l3,l4,l5⟩,fW⟩
      simp only [tget_put,Nat.reduceEqDiff,if_false,w11,w5,j1,j2,j3,j4,j5] at v11 v5 l1 l2 l3 l4 l5
      have hwl:∀ b∈slB w,A1.next≤b∧b<G.next:=fun b hb=>by have:=howG.low b hb;omega
      have hU':∀ b,U' b→A.next≤b:=fun b hb=>by
       rcases hg' b hb with h1 | h1
       ·exact hU b h1
       ·omega
      have hpW:=hp'.frU (Fr.us fW) (fun b hb=>by
       have hb:=hwl b hb
       refine ⟨fun hu=>?_,by omega,fun hm=>?_,fun h0=>by have:=hS0 b h0;omega⟩
       ·rcases hg' b hu with h1 | h1
        ·have:=hUlt b h1;omega
        ·omega
       ·rcases hr' b hm with h1 | h1
        ·have:=hrL b h1;omega
        ·omega)
      have nW:=fW.next
      have hgpW:=(fW.get A1.next (by omega) hc'.off.1).trans hc'.gp
      have hdW:Steps (withRo E0 s) A'' S0 p.2 a'.t.steps:=hc'.st.fr fW (fun b hb _ hm=>by have:=hwl b hm;have:=hS0 b hb;omega)
      simp only [w_w,z_0,w_pl,flat,Option.isNone,cond_true,cond_false,if_true,if_false,List.append_nil,List.nil_append,eq_self,Nat.reduceEqDiff,Nat.reduceLT,v11,v5,l2,l4,eqnilT,hgpW,acut8,aagg]
      refine CallT.mono (CallT.of_call (alike_spec hro hpW (by omega) hn' hdW (by have:=hc'.ln;omega) hc'.wd.1.2.1 hc'.wd.1.2.2 (fun b h1 _ h2=>by have:=hS0 b h1;have:=hU' b h2;omega))) ?_
      rintro _ E ⟨rfl,U'',hp'',hg'',hf''⟩
      have hhG:=hh.fr fG (by simp)
      have hhA:=hhG.frU hf' (fun b hb h0=>by
       have:=hS0 b h0
       rcases hb with hb | hb | hb | hb
       ·have:=hU b hb;omega
       ·omega
       ·omega
       ·omega)
      have hhW:=hhA.fr fW (fun b hb _ hm=>by have:=hwl b hm;have:=hS0 b hb;omega)
      have hhE:=hhW.frU hf'' (fun b hb h0=>by have:=hS0 b h0;have:=hU' b hb;omega)
      simp only [z_0,flat,cond_true,if_true,if_false,eq_self,Nat.reduceEqDiff,Nat.reduceLT,v5,l1,l2,l3,wi]
      exact ⟨P0.length-(i+1),by omega,i+1,x',now',D',U'',P',r',rfl,by omega,by omega,rfl,rfl,hp'',fun b hb=>by
       rcases hg'' b hb with h1 | h1
       ·exact hU' b h1
       ·omega,hn',hhE⟩
    ·have d2:((i:Int)<80)=False:=eq_false (by omega)
     simp only [w_w,z_0,flat,aBuiltin,cond_true,if_true,if_false,eq_self,Nat.reduceEqDiff,Nat.reduceLT,u1,u7,llen,d1,d2]
     exact ⟨_,_,rfl⟩
   ·have d1:((i:Int)<(P0.length:Int))=False:=eq_false (by omega)
    simp only [w_w,z_0,flat,aBuiltin,cond_true,cond_false,if_true,if_false,eq_self,Nat.reduceEqDiff,Nat.reduceLT,u1,u7,llen,d1,undef]
    exact ⟨_,_,rfl⟩
  all_goals first | rfl | (simp only [tget_put,Nat.reduceEqDiff,if_false,if_true,reduceIte];done) | (simp only [tget_put,Nat.reduceEqDiff,if_false,if_true,reduceIte];rfl)
 ·rintro o ⟨T',A',rfl⟩
  simp only [w_w,z_0,List.append_nil]
  refine CallT.mono (CallT.of_call alive_spec) ?_
  rintro _ _ ⟨rfl,rfl⟩
  simp only [z_0,if_true,if_false,eq_self,Nat.reduceEqDiff,Nat.reduceLT]
end Go.Proofs.YtgcffmhpjphefaaGreatDoor
