/- Fields as bytes: whatever they are, if they are not too long. -/
import Derived.Test.YtgcffmhpjphefaaGreatDoorP07
import Derived.Test.YtgcffmhpjphefaaGreatDoorQ3
import Derived.WalkSmall
import Derived.Lib.AppendIntMem
set_option linter.unusedSimpArgs false
set_option linter.unusedVariables false
set_option linter.unusedSectionVars false
namespace Go.Proofs.YtgcffmhpjphefaaGreatDoor
open Go Go.AE
set_option maxRecDepth 10000
set_option maxHeartbeats 4000000
variable {Z:Go.AE.Road}

theorem wrap_succC{i:Nat}(h:i<1000000):IntKind.i64.wrap ((i:Int)+1)=((i+1:Nat):Int):=by
 rw [IntKind.wrap_i64];omega
structure FieldD where
 tag:Int
 d:Value
 n:Nat
 cs:List Value
def fcell(f:FieldD):List Value:=[.int .i64 f.tag,f.d]
def FieldD.ok(A:ASt)(lo:Nat)(f:FieldD):Prop:=1≤f.tag∧f.tag≤255∧OwnS A lo 1 f.n f.d f.cs∧f.n≤2000∧singles f.cs=true
theorem FieldD.ok.fr{A B:ASt}{lo:Nat}{f:FieldD}{own:List Nat}(h:f.ok A lo)(hf:Fr own A B)(ho:∀ b∈own,A.next≤b):f.ok B lo:=
 ⟨h.1,h.2.1,h.2.2.1.fr hf (fun b hb hm=>by have:=(h.2.2.1.low b hb).2;have:=ho b hm;omega),h.2.2.2.1,h.2.2.2.2⟩
theorem alF:aAlloc E0 122=some (.row [.int .i64 0,.slice none 0 0] 2 false,ptrTo):=by
 simp only [aAlloc,w_st];rfl
theorem stF{A:ASt}{b:Nat}{c0 c1 a0 a1:Value}{tl:Bool}(h:A.get b=some (.row [c0,c1] 2 tl))(hs:singles [a0,a1]=true):aStore E0 122 (.pointer (some ⟨b,0,none⟩)) (.agg #[a0,a1]) A=some (A.set b (.row [a0,a1] 2 tl)):=by
 have e:(Value.agg #[a0,a1]).cells.toList=[a0,a1]:=rfl
 simp only [aStore,h,w_st,e,hs];rfl
theorem bs59{a b c:Int}:aBuildSlice E0 85 3 [(0,.int .u8 a),(1,.int .u8 b),(2,.int .u8 c)]=some (.row [.int .u8 a,.int .u8 b,.int .u8 c] 1 false,fun id=>.slice (some ⟨id,0,none⟩) 3 3):=by
 simp only [aBuildSlice,w_st];rfl
theorem cvU{n:Int}{A:ASt}:aConvert E0 3 5 (.int .i64 n) A=some (.int .u8 (IntKind.u8.wrap n)):=conv_int ti3 ti5 t5_desc
theorem fcU{x:Operand}:freshOp E0 (.convert 3 5 x)=false:=by kernel_rfl
theorem qcU{x:Operand}:quietOp E0 (.convert 3 5 x)=true:=by kernel_rfl
theorem z5c:closed (.int .u8 0)=true:=rfl
theorem z5l:Nat.beq (Value.int .u8 0).cells.toList.length 1=true:=rfl

theorem codec_spec{A:ASt}{S:Nat→Prop}{lo:Nat}{v:Value}{fs:List FieldD}(h:SlAt E0 A S 2 v (fs.map fcell))(hf:∀ f∈fs,f.ok A lo)(hl:fs.length≤100):
  CallW Z Tryz.prog 72 [v] A (fun r A'=>(∃ o,r=.tuple #[o,.int .i64 0])∧Fr [] A A'):=by
 refine CallW.of_code E0_ok E0_ro fn72 rfl (n:=48) rfl (rs:=[.tmp 2,.tmp 3]) rfl (by simp) (codeW_ok E0_ok E0_ro ?_)
 have l1:=h.len ti118 t118_desc
 simp only [List.length_map] at l1
 have d200:((fs.length:Int) > 200)=False:=eq_false (by omega)
 simp only [z_0,flat,aBuiltin,cond_true,if_true,if_false,eq_self,Nat.reduceEqDiff,Nat.reduceLT,reduceCtorEq,l1,d200]
 refine CodeW.mono (Q:=fun o=>∃ T' A' r,o=.fr ⟨.exit 0,T',A'⟩∧tget T' 4=r∧Go.AE.single r=true∧Fr [] A A') ?_ ?_
 ·refine CodeW.loopR (k:=fs.length) (fun k T A'=>∃ i n cs out,k=fs.length-i∧i≤fs.length∧tget T 13=.int .i64 ((i:Nat):Int)∧tget T 12=.int .i64 (fs.length:Int)∧tget T 11=v∧tget T 4=out∧OwnS A' A.next 1 n out cs∧n≤2003*i∧Fr [] A A') ?_ ⟨0,0,[],.slice none 0 0,rfl,by omega,?_,?_,?_,?_,.inl ⟨rfl,rfl,rfl⟩,by omega,.refl _ _⟩
  ·rintro k T A1 ⟨i,n,cs,out,rfl,hi,u13,u12,u11,u4,ho,hn,f1⟩
   refine codeW_ok E0_ok E0_ro ?_
   by_cases e1:i<fs.length
   ·have d1:((i:Int)<(fs.length:Int))=True:=eq_true (by omega)
    have hx:fs[i]? = some fs[i]:=List.getElem?_eq_getElem _
    have hmem:fs[i]∈fs:=List.getElem_mem _
    generalize fs[i]=f at hx hmem
    have hok:=(hf f hmem).fr f1 (by simp)
    obtain ⟨b1,p1,c1,hx1,hc1,_,_,hcut1,hnth⟩:=(h.fr f1 (by simp)).ix ti118 t118_desc ti122 t122_size (x:=fcell f) (i:=i) (by rw [List.getElem?_map,hx];rfl)
    have hg1:=hc1.g
    simp only [fcell] at hcut1
    simp only [z_0,cond_true,if_true,if_false,eq_self,Nat.reduceEqDiff,Nat.reduceLT,u13,u12,u11,d1,hx1,hg1,hcut1,alF,ptrTo]
    have hs1:singles [.int .i64 f.tag,f.d]=true:=by
     show (Go.AE.single f.d && true)=true
     rw [hok.2.2.1.single];rfl
    have hst:=stF (A:=A1.new (.row [.int .i64 0,.slice none 0 0] 2 false)) (b:=A1.next) (c0:=.int .i64 0) (c1:=.slice none 0 0) (tl:=false) (by rw [ASt.get_new,if_pos rfl]) hs1
    simp only [z_0,aFieldAddr,aBuiltin,cond_false,if_true,if_false,eq_self,Nat.reduceEqDiff,Nat.reduceLT,reduceCtorEq,hst]
    generalize hCd:(A1.new (.row [.int .i64 0,.slice none 0 0] 2 false)).set A1.next (.row [.int .i64 f.tag,f.d] 2 false)=C
    have c2:C.get A1.next=some (.row [.int .i64 f.tag,f.d] 2 false):=by rw [← hCd,ASt.get_set,if_pos rfl]
    have fC:Fr [] A1 C:=⟨by rw [← hCd,ASt.next_set,ASt.next_new];omega,fun b hb _=>by rw [← hCd,ASt.get_set,if_neg (by omega),ASt.get_new,if_neg (by omega)]⟩
    have hCn:C.next=A1.next+1:=by rw [← hCd,ASt.next_set,ASt.next_new]
    have hpn:A1.next<C.next:=by omega
    have hpo:∀ b∈slB out,b<A1.next:=fun b hb=>(ho.low b hb).2
    generalize hpd:A1.next=p at c2 hpn hpo
    clear hCd hst
    have hokC:=hok.fr fC (by simp)
    have hoC:=ho.fr fC (by simp)
    have ld:=hokC.2.2.1.len ti85 t85_desc
    have g1:(f.tag<1)=False:=eq_false (by have:=hok.1;omega)
    have g2:(f.tag > 255)=False:=eq_false (by have:=hok.2.1;omega)
    have g3:((f.n:Int) > 2000)=False:=eq_false (by have:=hok.2.2.2.1;omega)
    simp only [z_0,flat,aFieldAddr,cond_true,cond_false,if_true,if_false,eq_self,Nat.reduceEqDiff,Nat.reduceLT,reduceCtorEq,c2,ld,g1,g2,g3]
    obtain ⟨q,hq⟩:∃ q,∀ xo yo,aBin2 E0 .shr 3 xo yo (.int .i64 (f.n:Int)) (.int .u64 8)=some (.int .i64 q):=⟨_,fun _ _=>b_shr (m:=8)⟩
    have vd:valEq f.d f.d=true:=hokC.2.2.1.ve
    have vo:valEq out out=true:=hoC.ve
    refine CodeW.seqf E0_ok E0_ro mixed noCon_ok [0,1,2,3,4,5,6,7,8,11,12,9,10,13,14] [9,10] [[],[],[],[],[],[],[],[],[],[],[],[],[11],[11],[11]] (by simp only [reorder,reoGo,strip,List.map_cons,List.map_nil,opAt,remap,nth,Option.map,σ,place',List.length_cons,List.length_nil,Nat.reduceAdd];rfl) (by decide +kernel) (by kernel_rfl) (by kernel_rfl) (by kernel_rfl) (by kernel_rfl) ?_
    simp only [z_0,flat,aFieldAddr,aBuiltin,cond_true,cond_false,if_true,if_false,List.length_cons,List.length_nil,eq_self,Nat.reduceEqDiff,Nat.reduceAdd,Nat.reduceLT,reduceCtorEq,q_0,q_1,q_2,f_0,hasN,E0_ron,List.length_cons,List.length_nil,u4,c2,aOp_convert,fcU,qcU,cvU,hq,bs59,vd]
    generalize hr3:[Value.int .u8 (IntKind.u8.wrap f.tag),.int .u8 (IntKind.u8.wrap q),.int .u8 (IntKind.u8.wrap (f.n:Int))]=r3
    have l3:r3.length=3:=by rw [← hr3];rfl
    have s3:singles r3=true:=by rw [← hr3];rfl
    clear hr3
    have hH:∀ D:ASt,C.next+15≤D.next→Fr [C.next+11] D (D.set (C.next+11) (.row r3 1 false)):=fun D hD=>⟨by rw [ASt.next_set];omega,fun b hb hn=>by rw [ASt.get_set,if_neg (by simpa using hn)]⟩
    have f15:Fr [] C { heap:=C.heap,next:=C.next+15 }:=⟨Nat.le_add_right _ _,fun _ _ _=>get_next⟩
    have hoH:=(hoC.fr f15 (by simp)).fr (hH _ (Nat.le_refl _)) (fun b hb=>by have:=(hoC.low b hb).2;simp only [List.mem_singleton];omega)
    have src3:srcCells E0 1 (.slice (some ⟨C.next+11,0,none⟩) 3 3) 3 (ASt.set { heap:=C.heap,next:=C.next+15 } (C.next+11) (.row r3 1 false))=some r3:=by
     simp only [srcCells,ASt.get_set,if_true]
     rw [show (3*1:Nat)=r3.length by omega]
     unfold cut
     simp only [List.drop_zero,List.take_length,Nat.beq_refl,cond_true]
    have hfn:=f1.next
    have hfn2:=fC.next
    have hnb:n≤200300:=by omega
    obtain ⟨r1,B1,ha1,ho1,fB1,hr1⟩:=hoH.app (E:=E0) (xt:=85) (x:=.slice (some ⟨C.next+11,0,none⟩) 3 3) (m:=3) (new:=r3) ti85 t85_desc ti5 t5_size ti85 (by rw [t85_desc];rfl) t5_zero z5c z5l (by omega) rfl src3 (by omega) s3 (by rw [t5_bytes];omega) (by rw [ASt.next_set];show A.next≤C.next+15;omega)
    rw [ha1]
    have nB1:C.next+15≤B1.next:=by have:=fB1.next;rw [ASt.next_set] at this;exact this
    have fAB:Fr [] A B1:=⟨by omega,fun b hb _=>by
     rw [fB1.get b (by rw [ASt.next_set];show b<C.next+15;omega) (fun hm=>by have:=(ho.low b hm).1;omega),ASt.get_set,if_neg (by omega),get_next,fC.get b (by omega) (by simp)]
     exact f1.get b hb (by simp)⟩
    have cB:B1.get p=some (.row [.int .i64 f.tag,f.d] 2 false):=by
     rw [fB1.get p (by rw [ASt.next_set];show p<C.next+15;omega) (fun hm=>absurd (hpo p hm) (by omega)),ASt.get_set,if_neg (by omega),get_next]
     exact c2
    have hokB:=(hf f hmem).fr fAB (by simp)
    obtain ⟨sr,lv,ln⟩:=hokB.2.2.1.src (E:=E0)
    obtain ⟨r2,B2,ha2,ho2,fB2,hr2⟩:=ho1.app (E:=E0) (xt:=85) (x:=f.d) ti85 t85_desc ti5 t5_size ti85 (by rw [t85_desc];rfl) t5_zero z5c z5l (by omega) lv sr ln hokB.2.2.2.2 (by have:=hokB.2.2.2.1;rw [t5_bytes];omega) (by omega)
    have fAB2:Fr [] A B2:=⟨by have:=fB2.next;omega,fun b hb _=>by
     rw [fB2.get b (by omega) (fun hm=>by have:=(ho1.low b hm).1;omega)]
     exact fAB.get b hb (by simp)⟩
    have cB2:B2.get p=some (.row [.int .i64 f.tag,f.d] 2 false):=by
     rw [fB2.get p (by omega) (fun hm=>by
      rcases hr1 p hm with h | h
      ·exact absurd (hpo p h) (by omega)
      ·rw [ASt.next_set] at h
       have h:C.next+15≤p:=h
       omega)]
     exact cB
    simp only [z_0,flat,aBuiltin,cond_true,cond_false,if_true,if_false,eq_self,Nat.reduceEqDiff,Nat.reduceAdd,Nat.reduceLT,q_0,q_1,q_2,f_0,hasN,exists_eq',Bool.and_false,cB,cB2,ha2,u13,wrap_succC (show i<1000000 by omega)]
    refine ⟨fs.length-(i+1),by omega,i+1,n+3+f.n,cs++r3++f.cs,r2,rfl,by omega,rfl,u12,u11,rfl,ho2,by have:=hokB.2.2.2.1;omega,fAB2⟩
   ·have d1:((i:Int)<(fs.length:Int))=False:=eq_false (by omega)
    simp only [z_0,if_true,eq_self,Nat.reduceLT,u13,u12,d1]
    exact ⟨_,_,_,rfl,by simp only [tget_put,Nat.reduceEqDiff,if_false,u4],ho.single,f1⟩
  all_goals simp only [tget_put,Nat.reduceEqDiff,if_false,if_true]
  all_goals rfl
 ·rintro o ⟨T',A',r,rfl,u4,hr,hf⟩
  simp only [z_0,flat,cond_true,if_true,if_false,eq_self,Nat.reduceEqDiff,Nat.reduceLT,u4]
  exact ⟨⟨_,rfl⟩,hf⟩
end Go.Proofs.YtgcffmhpjphefaaGreatDoor

/- The text of a number: how long it is at most (the library's contract; its table lies where the program began). -/
namespace Go.Proofs.YtgcffmhpjphefaaGreatDoor
open Go Go.AE
set_option maxRecDepth 10000
set_option maxHeartbeats 4000000
variable {Z:Go.AE.Road}

def TabZ(Z:Go.AE.Road):Prop:=∀ ρ A w,Z.reach ρ A w→Lib.TabIs Tryz.prog w "internal/strconv.uint64pow10" .u64 Lib.pow10Tab
theorem tab_road{s:Spans}{W:World}{g:Nat}(hg:Tryz.prog.globalNamed "internal/strconv.uint64pow10" = some g) (hgB:g<W.heap.size) (h:Lib.TabIs Tryz.prog W "internal/strconv.uint64pow10" .u64 Lib.pow10Tab):TabZ (roadRo s W):=by
 intro ρ A w hs
 exact var?_below (Step.below' hs) hg hgB h
theorem itoa_size{n:Int}(h0:-9223372036854775808≤n)(h1:n≤9223372036854775807):(Lib.itoa n).length≤21:=by
 have hd:∀ u:Nat,u<18446744073709551616→Lib.nDigits u≤20:=fun u hu=>by
  by_cases h:1≤u
  ·obtain ⟨a,b⟩:=Lib.numDigits_eq u h hu
   split at a<;>omega
  ·have:u=0:=by omega
   subst this
   decide +kernel
 unfold Lib.itoa
 split
 ·rw [List.length_cons,Lib.decDigits_length]
  have:=hd _ (show (-n).toNat<18446744073709551616 by omega)
  first | omega | (have h2:=hd n.natAbs (by omega);omega)
 ·rw [Lib.decDigits_length]
  have:=hd n.toNat (by omega)
  first | omega | (have h2:=hd n.natAbs (by omega);omega)
theorem fmt_spec(ht:TabZ Z){A:ASt}{n:Int}(h0:-9223372036854775808≤n)(h1:n<9223372036854775808):
  CallW Z Tryz.prog 71 [.int .i64 n,.int .i64 10] A (fun r A'=>(∃ s:ByteArray,r=.string s∧s.size≤21)∧A'=A):=by
 intro ρ w args' hR ha
 have e:args'=#[.int .i64 n,.int .i64 10]:=by
  have:=flats_eq (l:=[.int .i64 n,.int .i64 10]) rfl ha
  apply Array.ext'
  rw [← this]
 rw [e]
 refine (Tryz.strconv_FormatInt_10 n h0 (by omega) w (ht _ _ _ hR)).mono ?_
 rintro e w' ⟨rfl,k,os,rfl⟩
 refine ⟨.string _,A,.string _,ρ,⟨⟨_,rfl,?_⟩,rfl⟩,rfl,.string _,Step.of_below (Z.rep hR) (Lib.below_grow _ _ (Nat.le_refl _) _ _) ?_⟩
 ·exact itoa_size h0 (by omega)
 ·first | (show w.drawn≤w.drawn+k;omega) | exact Nat.le_add_right _ _ | (simp [grow,World.drewN];done)
end Go.Proofs.YtgcffmhpjphefaaGreatDoor

/- An action as bytes: it has some just if it is short and its steps are right. -/
namespace Go.Proofs.YtgcffmhpjphefaaGreatDoor
open Go Go.AE
set_option maxRecDepth 10000
set_option maxHeartbeats 8000000
variable {Z:Go.AE.Road}{s:Spans}

theorem al36:aAlloc E0 56=some (.row [.int .i64 0,.string ByteArray.empty,.string ByteArray.empty,.int .i64 0] 4 false,ptrTo):=by
 simp only [aAlloc,w_0];rfl
theorem st36{A:ASt}{b:Nat}{c0 c1 c2 c3:Value}{tl:Bool}{y:StepD}(h:A.get b=some (.row [c0,c1,c2,c3] 4 tl)):aStore E0 56 (.pointer (some ⟨b,0,none⟩)) (stepV y) A=some (A.set b (.row (scell y) 4 tl)):=by
 have e:(stepV y).cells.toList=scell y:=rfl
 have e2:singles (scell y)=true:=rfl
 have e3:over [c0,c1,c2,c3] 0 (scell y)=some (scell y):=rfl
 have e4:Nat.beq (scell y).length 4=true:=rfl
 simp only [aStore,h,w_0,e,e2,e3,e4,Bool.and_self,cond_true]
theorem cutS{y:StepD}:cut (scell y) 0 4=some (scell y):=rfl
theorem addS{a b:ByteArray}(h:a.size+b.size≤1000):∃ st:ByteArray,(∀ xo yo,aBin2 E0 .add 9 xo yo (.string a) (.string b)=some (.string st))∧st.size=a.size+b.size:=by
 have hl:∀ x:ByteArray,x.data.toList.length=x.size:=fun x=>by rw [Array.length_toList];rfl
 refine ⟨⟨(a.data.toList++b.data.toList).toArray⟩,fun xo yo=>?_,?_⟩
 ·have e:Nat.ble (a.data.toList.length+b.data.toList.length) 9223372036854775807=true:=Nat.ble_eq_true_of_le (by rw [hl,hl];omega)
  simp only [aBin2,aBin,strOp,e,cond_true]
 ·show (a.data.toList++b.data.toList).toArray.size=_
  rw [List.size_toArray,List.length_append,hl,hl]
theorem bytes_len{l:List UInt8}:(byteCells l).length=l.length:=by unfold byteCells;simp
theorem bytes_sg:∀ {l:List UInt8},singles (byteCells l)=true
 | []=>rfl
 | x::l=>by
  show (Go.AE.single (.int .u8 x.toNat) && singles (byteCells l))=true
  rw [bytes_sg (l:=l)];rfl
theorem bs59a{a:Int}:aBuildSlice E0 85 1 [(0,.int .u8 a)]=some (.row [.int .u8 a] 1 false,fun id=>.slice (some ⟨id,0,none⟩) 1 1):=by
 simp only [aBuildSlice,w_st];rfl
theorem bld90{k:Int}{d:Value}(h:d.cells=#[d]):aBuild E0 122 [(0,.int .i64 k),(1,d)]=some (.agg #[.int .i64 k,d]):=by
 have e:d.cells.toList=[d]:=by rw [h]
 have e1:(Value.int .i64 k).cells.toList=[.int .i64 k]:=rfl
 have e2:(Value.agg #[.int .i64 0,.slice none 0 0]).cells.toList=[.int .i64 0,.slice none 0 0]:=rfl
 have e3:closed (.agg #[.int .i64 0,.slice none 0 0])=true:=by kernel_rfl
 simp only [aBuild,w_st,w_0,places,fillV,e,e1,e2,e3,cond_true]
 rfl
theorem bs87{k:Int}{d:Value}:aBuildSlice E0 118 1 [(0,.agg #[.int .i64 k,d])]=some (.row [.int .i64 k,d] 2 false,fun id=>.slice (some ⟨id,0,none⟩) 1 1):=by
 simp only [aBuildSlice,w_st]
 rfl
theorem z90c:closed (.agg #[.int .i64 0,.slice none 0 0])=true:=by kernel_rfl
theorem z90l:Nat.beq (Value.agg #[.int .i64 0,.slice none 0 0]).cells.toList.length 2=true:=by kernel_rfl

def stopW(Z:Go.AE.Road)(E:Env)(P:Program)(n:Nat)(ro:Option Nat)(c:Code)(Q:Out→Prop)(T:Tmps)(A:ASt):Prop:=codeW Z E P n ro c Q T A
@[congr] theorem stopW_congr{E:Env}{P:Program}{n n':Nat}{ro:Option Nat}{c:Code}{Q:Out→Prop}{T:Tmps}{A:ASt}(h:∀ _:Unit,tg n=n'):stopW Z E P n ro c Q T A=stopW Z E P n' ro c Q T A:=by rw [← h ()];rfl
theorem c_stop24{E:Env}{P:Program}{n:Nat}{ro:Option Nat}{x y:Code}{Q:Out→Prop}{T:Tmps}{A:ASt}:codeW Z E P n ro (.cond (.tmp 24) x y) Q T A=stopW Z E P n ro (.cond (.tmp 24) x y) Q T A:=by rw [stopW]

theorem fcUr{x:Operand}:freshOp (withRo E0 s) (.convert 3 5 x)=false:=by kernel_rfl
theorem qcUr{x:Operand}:quietOp (withRo E0 s) (.convert 3 5 x)=true:=by kernel_rfl
theorem encode_spec(hro:RoadS Z E0 s)(ht:TabZ Z){A:ASt}{S:Nat→Prop}{v:Value}{l:List StepD}(h:Steps (withRo E0 s) A S v l)(hy:∀ y∈l,-9223372036854775808≤y.n∧y.n<9223372036854775808)(hl:l.length≤1000):
  CallW Z Tryz.prog 43 [v] A (fun r A'=>(∃ (o:Value) (e:Int),r=.tuple #[o,.int .i64 e]∧(e=0↔(l.length≤4∧∀ y∈l,y.good)))∧Fr [] A A'):=by
 refine CallW.assume hro fun hnr=>?_
 refine CallW.of_code (withRo_ok E0_ok) hro.ro (f:=43) (fn:=Tryz.f43) fn43 rfl (n:=49) rfl (rs:=[.tmp 2,.tmp 3]) rfl (by simp) (codeW_ok (withRo_ok E0_ok) hro.ro ?_)
 have l1:=h.len (wti.trans ti28) t28_desc
 simp only [wlen,List.length_map] at l1
 by_cases hl4:(l.length:Int) > 4
 ·have d4:=eq_true hl4
  simp only [w_w,z_0,flat,aBuiltin,cond_true,if_true,if_false,eq_self,Nat.reduceEqDiff,Nat.reduceLT,reduceCtorEq,l1,d4]
  exact ⟨⟨_,_,rfl,by constructor<;>intro h<;>omega⟩,.refl _ _⟩
 have d4:=eq_false hl4
 simp only [w_w,z_0,flat,aBuiltin,cond_true,if_true,if_false,eq_self,Nat.reduceEqDiff,Nat.reduceLT,reduceCtorEq,l1,d4]
 refine CodeW.mono (Q:=fun o=>(∃ T' A' n r,∃ fs:List FieldD,o=.fr ⟨.exit 0,T',A'⟩∧tget T' 4=r∧OwnS A' A.next 2 n r (fs.map fcell).flatten∧n=fs.length∧n≤4∧(∀ f∈fs,FieldD.ok A' A.next f)∧(∀ y∈l,y.good)∧Fr [] A A')∨∃ T' A',o=.fr ⟨.ret,T',A'⟩∧tget T' 2=.slice none 0 0∧tget T' 3=.int .i64 91∧(∃ y∈l,¬ y.good)∧Fr [] A A') ?_ ?_
 ·refine CodeW.loopR (k:=l.length) (fun k T A'=>∃ i out,∃ fs:List FieldD,k=l.length-i∧i≤l.length∧tget T 13=.int .i64 ((i:Nat):Int)∧tget T 12=.int .i64 (l.length:Int)∧tget T 11=v∧tget T 4=out∧OwnS A' A.next 2 i out (fs.map fcell).flatten∧i=fs.length∧(∀ f∈fs,FieldD.ok A' A.next f∧∀ b∈slB f.d,b∉slB out)∧(∀ y∈l.take i,y.good)∧Fr [] A A') ?_ ⟨0,.slice none 0 0,[],rfl,by omega,?_,?_,?_,?_,.inl ⟨rfl,rfl,rfl⟩,rfl,by simp,by simp,.refl _ _⟩
  ·rintro k T A1 ⟨i,out,fs,rfl,hi,u13,u12,u11,u4,ho,hif,hfs,hgd,f1⟩
   refine codeW_ok (withRo_ok E0_ok) hro.ro ?_
   by_cases e1:i<l.length
   ·have d1:((i:Int)<(l.length:Int))=True:=eq_true (by omega)
    have hx:l[i]? = some l[i]:=List.getElem?_eq_getElem _
    have hmem:l[i]∈l:=List.getElem_mem _
    generalize l[i]=y at hx hmem
    obtain ⟨b1,p1,cc,hx1,hc1,_,_,hcut1,hnth⟩:=(h.fr f1 (by simp)).ix (wti.trans ti28) t28_desc (wti.trans ti56) t56_size (x:=scell y) (i:=i) (by rw [List.getElem?_map,hx];rfl)
    simp only [wix] at hx1
    have hg1:=hc1.g
    have hag:Value.agg (scell y).toArray=stepV y:=rfl
    have hst:=st36 (A:=A1.new (.row [.int .i64 0,.string ByteArray.empty,.string ByteArray.empty,.int .i64 0] 4 false)) (b:=A1.next) (y:=y) (tl:=false) (by rw [ASt.get_new,if_pos rfl])
    simp only [w_w,z_0,cond_true,if_true,if_false,eq_self,Nat.reduceEqDiff,Nat.reduceLT,u13,u12,u11,d1,hx1,hg1,hcut1,hag,al36,ptrTo,hst]
    generalize hCd:(A1.new (.row [.int .i64 0,.string ByteArray.empty,.string ByteArray.empty,.int .i64 0] 4 false)).set A1.next (.row (scell y) 4 false)=C
    have c2:C.get A1.next=some (.row (scell y) 4 false):=by rw [← hCd,ASt.get_set,if_pos rfl]
    have fC:Fr [] A1 C:=⟨by rw [← hCd,ASt.next_set,ASt.next_new];omega,fun b hb _=>by rw [← hCd,ASt.get_set,if_neg (by omega),ASt.get_new,if_neg (by omega)]⟩
    have hCn:C.next=A1.next+1:=by rw [← hCd,ASt.next_set,ASt.next_new]
    have hf1n:=f1.next
    have hpo:∀ b∈slB out,b<A1.next:=fun b hb=>(ho.low b hb).2
    have hpA:A.next≤A1.next:=hf1n
    generalize hpd:A1.next=p at c2 hpo hpA
    clear hCd hst
    simp only [w_w,z_0,if_true,if_false,List.append_nil,List.nil_append,eq_self,Nat.reduceEqDiff,Nat.reduceLT,cutS,hag]
    refine CallT.mono (CallT.of_call right_spec) ?_
    rintro _ D ⟨rfl,fD⟩
    have cD:=(fD.get p (by omega) (by simp)).trans c2
    by_cases hgood:y.good
    ·have dg:decide y.good=true:=decide_eq_true hgood
     simp only [↓c_stop24,w_w,z_0,flat,aFieldAddr,cond_true,cond_false,if_true,if_false,eq_self,Nat.reduceEqDiff,Nat.reduceLT,reduceCtorEq,dg,scell,cD]
     generalize hTd:(Tr.put _ 24 _)=T0
     have w24:tget T0 24=.bool (decide (y.kind=3)):=by rw [← hTd];simp only [tget_put,Nat.reduceEqDiff,if_false,if_true]
     have w6:tget T0 6=.pointer (some ⟨p,0,none⟩):=by rw [← hTd];simp only [tget_put,Nat.reduceEqDiff,if_false,if_true]
     have w7:tget T0 7=.string y.val:=by rw [← hTd];simp only [tget_put,Nat.reduceEqDiff,if_false,if_true]
     have w4:tget T0 4=out:=by rw [← hTd];simp only [tget_put,Nat.reduceEqDiff,if_false,u4]
     have w11:tget T0 11=v:=by rw [← hTd];simp only [tget_put,Nat.reduceEqDiff,if_false,u11]
     have w12:tget T0 12=.int .i64 (l.length:Int):=by rw [← hTd];simp only [tget_put,Nat.reduceEqDiff,if_false,u12]
     have w13:tget T0 13=.int .i64 (i:Int):=by rw [← hTd];simp only [tget_put,Nat.reduceEqDiff,if_false,u13]
     clear hTd u13 u12 u11 u4
     unfold stopW
     have hval:y.val.size≤60:=by
      obtain ⟨_,⟨_,h2,_⟩ | ⟨_,h2,_⟩ | ⟨_,h2⟩⟩:=hgood<;>omega
     refine codeW_mono (Q:=fun o=>∃ T' A' rest,o=.fr ⟨.normal,T',A'⟩∧tget T' 6=.pointer (some ⟨p,0,none⟩)∧tget T' 7=.string rest∧rest.size≤60∧tget T' 4=out∧tget T' 11=v∧tget T' 12=.int .i64 (l.length:Int)∧tget T' 13=.int .i64 (i:Int)∧A'=D) ?_ ?_
     ·rintro o ⟨T2,A2,rest,rfl,w6,w7,hrest,w4,w11,w12,w13,rfl⟩
      have hkey:y.key.size≤16:=hgood.1.2
      have htag:1≤y.kind∧y.kind≤4:=by
       obtain ⟨_,⟨h1,_⟩ | ⟨h1 | h1,_⟩ | ⟨h1,_⟩⟩:=hgood<;>omega
      obtain ⟨st,hadd,hsz⟩:=addS (a:=y.key) (b:=rest) (by omega)
      simp only [z_0]
      refine CodeW.seqf (withRo_ok E0_ok) hro.ro mixed noCon_ok [0,1,2,3,4,5,6,8,9,10,11,7,12,13,14,15,16] [0,1,2] [[],[],[],[],[],[],[],[],[],[],[],[],[11],[11],[11],[11,14],[11,14]] (by simp only [reorder,reoGo,strip,List.map_cons,List.map_nil,opAt,remap,nth,Option.map,σ,place',List.length_cons,List.length_nil,Nat.reduceAdd];rfl) (by decide +kernel) (by kernel_rfl) (by kernel_rfl) (by kernel_rfl) (by kernel_rfl) ?_
      have vo:valEq out out=true:=ho.ve
      have rp:(withRo E0 s).ro p=none:=hnr p hpA
      simp only [w_w,z_0,aFieldAddr,aBuiltin,cond_true,cond_false,if_true,if_false,List.length_cons,List.length_nil,eq_self,Nat.reduceEqDiff,Nat.reduceAdd,Nat.reduceLT,reduceCtorEq,q_0,q_1,q_2,f_0,hasN,List.length_cons,List.length_nil,w4,w6,w7,scell,cD,rp,lenS,aOp_convert,fcUr,qcUr,cvU,hadd,bs59a]
      have hsl:st.data.toList.length=st.size:=by rw [Array.length_toList];rfl
      have hDn:=fD.next
      generalize hu:IntKind.u8.wrap ((y.key.size:Nat):Int)=u
      clear hu
      have hH:∀ (Y:ASt) (j:Nat) (c:List Value) (sz:Nat),j<17→A2.next+17≤Y.next→Fr [A2.next+j] Y (Y.set (A2.next+j) (.row c sz false)):=fun Y j c sz hj hY=>⟨by rw [ASt.next_set];omega,fun b hb hn=>by rw [ASt.get_set,if_neg (by simpa using hn)]⟩
      have hw1:OwnS (ASt.set { heap:=A2.heap,next:=A2.next+17 } (A2.next+11) (.row [.int .u8 u] 1 false)) A2.next 1 1 (.slice (some ⟨A2.next+11,0,none⟩) 1 1) [.int .u8 u]:=
       .inr ⟨A2.next+11,1,false,rfl,by rw [ASt.get_set,if_pos rfl],by omega,by rw [ASt.next_set];show A2.next+11<A2.next+17;omega,rfl,.inr ⟨rfl,by unfold unk;decide⟩⟩
      obtain ⟨r1,B1,ha1,ho1,fB1,hr1⟩:=hw1.app (E:=withRo E0 s) (xt:=9) (x:=.string st) (m:=st.data.toList.length) (new:=byteCells st.data.toList) (wti.trans ti85) t85_desc (wti.trans ti5) t5_size (wti.trans ti9) (by rw [t9_desc];rfl) t5_zero z5c z5l (by omega) rfl (by show some (byteCells (st.data.toList.take st.data.toList.length))=_;rw [List.take_length]) (by rw [bytes_len];omega) bytes_sg (by rw [t5_bytes];omega) (by rw [ASt.next_set];show A2.next≤A2.next+17;omega)
      have nB1:A2.next+17≤B1.next:=by have:=fB1.next;rw [ASt.next_set] at this;exact this
      have cB:B1.get p=some (.row (scell y) 4 false):=by
       rw [fB1.get p (by rw [ASt.next_set];show p<A2.next+17;omega) (by simp only [slB,List.mem_singleton];omega),ASt.get_set,if_neg (by omega),get_next]
       exact cD
      rw [ha1]
      simp only [w_w,z_0,aBuiltin,cond_true,cond_false,if_true,if_false,eq_self,Nat.reduceEqDiff,Nat.reduceAdd,Nat.reduceLT,q_0,q_1,q_2,f_0,hasN,exists_eq',Bool.and_false,scell,cB,bld90 ho1.cells1,bs87]
      have fr1:Fr [A2.next+11] A2 B1:=⟨by omega,fun b hb hn=>by
       rw [fB1.get b (by rw [ASt.next_set];show b<A2.next+17;omega) (by simpa [slB] using hn),ASt.get_set,if_neg (by simpa using hn),get_next]⟩
      have fr2:=hH B1 14 [.int .i64 y.kind,r1] 2 (by omega) nB1
      have hoA2:=(ho.fr fC (by simp)).fr fD (by simp)
      have hoH:=(hoA2.fr fr1 (fun b hb=>by have:=hpo b hb;simp only [List.mem_singleton];omega)).fr fr2 (fun b hb=>by have:=hpo b hb;simp only [List.mem_singleton];omega)
      have nH2:(B1.set (A2.next+14) (.row [.int .i64 y.kind,r1] 2 false)).next=B1.next:=ASt.next_set ..
      have src2:srcCells (withRo E0 s) 2 (.slice (some ⟨A2.next+14,0,none⟩) 1 1) 1 (B1.set (A2.next+14) (.row [.int .i64 y.kind,r1] 2 false))=some [.int .i64 y.kind,r1]:=by
       simp only [srcCells,ASt.get_set,if_true]
       rfl
      have sg2:singles [.int .i64 y.kind,r1]=true:=by
       show (Go.AE.single r1 && true)=true
       rw [ho1.single];rfl
      obtain ⟨r2,B2,ha2,ho2,fB2,hr2⟩:=hoH.app (E:=withRo E0 s) (xt:=118) (x:=.slice (some ⟨A2.next+14,0,none⟩) 1 1) (m:=1) (new:=[.int .i64 y.kind,r1]) (wti.trans ti118) t118_desc (wti.trans ti122) t122_size (wti.trans ti118) (by rw [t118_desc];rfl) t122_zero z90c z90l (by omega) rfl src2 rfl sg2 (by rw [t122_bytes];omega) (by rw [nH2];omega)
      rw [nH2] at hr2
      have nB2:B1.next≤B2.next:=by have:=fB2.next;rw [nH2] at this;exact this
      have cB2:B2.get p=some (.row (scell y) 4 false):=by
       rw [fB2.get p (by rw [nH2];omega) (fun hm=>absurd (hpo p hm) (by omega)),ASt.get_set,if_neg (by omega)]
       exact cB
      rw [ha2]
      have hr1':∀ b∈slB r1,b=A2.next+11∨A2.next+17≤b:=fun b hb=>by
       rcases hr1 b hb with h | h
       ·simp only [slB,List.mem_singleton] at h
        exact .inl h
       ·rw [ASt.next_set] at h
        exact .inr h
      have hfall:∀ f:FieldD,f.ok A1 A.next→(∀ b∈slB f.d,b∉slB out)→f.ok B2 A.next:=fun f h1 h2=>by
       have g0:f.ok B1 A.next:=((h1.fr fC (by simp)).fr fD (by simp)).fr fr1 (by simp)
       have hb0:∀ b∈slB f.d,b<A1.next:=fun b hb=>(h1.2.2.1.low b hb).2
       exact ⟨g0.1,g0.2.1,(g0.2.2.1.fr fr2 (fun b hb=>by have:=hb0 b hb;simp only [List.mem_singleton];omega)).fr fB2 h2,g0.2.2.2.1,g0.2.2.2.2⟩
      have hnew:FieldD.ok B2 A.next ⟨y.kind,r1,1+st.data.toList.length,[.int .u8 u]++byteCells st.data.toList⟩:=by
       refine ⟨htag.1,by show y.kind≤255;omega,?_,by show 1+_≤2000;omega,?_⟩
       ·refine ((ho1.lower (by omega)).fr fr2 (fun b hb=>?_)).fr fB2 (fun b hb hm=>?_)
        ·have:=hr1' b hb
         simp only [List.mem_singleton]
         omega
        ·have:=hpo b hm
         have:=(ho1.low b hb).1
         omega
       ·show (Go.AE.single (.int .u8 u) && singles (byteCells st.data.toList))=true
        rw [bytes_sg];rfl
      simp only [w_w,z_0,flat,cond_true,cond_false,if_true,if_false,eq_self,Nat.reduceEqDiff,Nat.reduceAdd,Nat.reduceLT,q_0,q_2,f_0,hasN,exists_eq',Bool.and_false,w13,scell,cB2,wrap_succC (show i<1000000 by omega)]
      refine ⟨l.length-(i+1),by omega,i+1,r2,fs++[⟨y.kind,r1,1+st.data.toList.length,[.int .u8 u]++byteCells st.data.toList⟩],rfl,by omega,rfl,w12,w11,rfl,?_,by simp [hif],?_,?_,?_⟩
      ·rw [List.map_append,List.flatten_append]
       exact ho2
      ·intro f hf
       rcases List.mem_append.1 hf with hf | hf
       ·refine ⟨hfall f (hfs f hf).1 (hfs f hf).2,fun b hb hm=>?_⟩
        rcases hr2 b hm with h | h
        ·exact (hfs f hf).2 b hb h
        ·have:=((hfs f hf).1.2.2.1.low b hb).2
         omega
       ·simp only [List.mem_singleton] at hf
        subst hf
        refine ⟨hnew,fun b hb hm=>?_⟩
        have hb:b∈slB r1:=hb
        have:=ho1.low b hb
        rcases hr2 b hm with h | h
        ·have:=hpo b h
         omega
        ·omega
      ·intro z hz
       rw [List.take_add_one,hx] at hz
       rcases List.mem_append.1 hz with hz | hz
       ·exact hgd z hz
       ·simp only [Option.toList,List.mem_singleton] at hz
        subst hz
        exact hgood
      ·exact ⟨by omega,fun b hb _=>by
        rw [fB2.get b (by rw [nH2];omega) (fun hm=>by have:=(ho.low b hm).1;omega),ASt.get_set,if_neg (by omega),fr1.get b (by omega) (by simp only [List.mem_singleton];omega),fD.get b (by omega) (by simp),fC.get b (by omega) (by simp)]
        exact f1.get b hb (by simp)⟩
     ·by_cases k3:y.kind=3
      ·have e3:=eq_true k3
       simp only [w_w,z_0,flat,aFieldAddr,cond_true,cond_false,if_true,if_false,List.append_nil,List.nil_append,eq_self,Nat.reduceEqDiff,Nat.reduceLT,reduceCtorEq,w24,e3,w6,scell,cD]
       refine CallT.mono (CallT.of_call (fmt_spec ht (hy y hmem).1 (hy y hmem).2)) ?_
       rintro _ _ ⟨⟨sx,rfl,hsx⟩,rfl⟩
       simp only [z_0,if_true,if_false,eq_self,Nat.reduceEqDiff,Nat.reduceLT]
       exact ⟨_,_,sx,rfl,by simp only [tget_put,Nat.reduceEqDiff,if_false,w6],by simp only [tget_put,Nat.reduceEqDiff,if_false,if_true],by omega,by simp only [tget_put,Nat.reduceEqDiff,if_false,w4],by simp only [tget_put,Nat.reduceEqDiff,if_false,w11],by simp only [tget_put,Nat.reduceEqDiff,if_false,w12],by simp only [tget_put,Nat.reduceEqDiff,if_false,w13],rfl⟩
      ·have e3:=eq_false k3
       simp only [z_0,w24,e3]
       exact ⟨_,_,y.val,rfl,w6,w7,hval,w4,w11,w12,w13,rfl⟩
    ·have dg:decide y.good=false:=decide_eq_false hgood
     simp only [z_0,flat,cond_true,if_true,if_false,eq_self,Nat.reduceEqDiff,Nat.reduceLT,dg]
     exact .inr ⟨_,_,rfl,by simp only [tget_put,Nat.reduceEqDiff,if_false,if_true],by simp only [tget_put,Nat.reduceEqDiff,if_false,if_true],⟨y,hmem,hgood⟩,f1.trans (fC.trans fD)⟩
   ·have d1:((i:Int)<(l.length:Int))=False:=eq_false (by omega)
    simp only [z_0,if_true,eq_self,Nat.reduceLT,u13,u12,d1]
    rw [List.take_of_length_le (by omega)] at hgd
    exact .inl ⟨_,_,_,_,fs,rfl,by simp only [tget_put,Nat.reduceEqDiff,if_false,u4],ho,hif,by omega,fun f hf=>(hfs f hf).1,hgd,f1⟩
  all_goals simp only [tget_put,Nat.reduceEqDiff,if_false,if_true]
  all_goals rfl
 ·rintro o (⟨T',A',n,r,fs,rfl,u4,ho,hn,hn4,hfs,hgd,hf⟩ | ⟨T',A',rfl,u2,u3,⟨y,hy1,hy2⟩,hf⟩)
  ·simp only [w_w,z_0,if_true,List.append_nil,List.nil_append,eq_self,Nat.reduceLT,u4]
   have hsl:SlAt E0 A' (fun b=>A.next≤b) 2 r (fs.map fcell):=OwnS.slAt (by rw [List.length_map,← hn];exact ho) (fun _ _=>rfl) (by intro x hx;obtain ⟨f,_,rfl⟩:=List.mem_map.1 hx;rfl)
   refine CallT.mono (CallT.of_call (codec_spec hsl hfs (by omega))) ?_
   rintro _ B ⟨⟨o,rfl⟩,fB⟩
   simp only [z_0,if_true,if_false,eq_self,Nat.reduceEqDiff,Nat.reduceLT]
   exact ⟨⟨_,_,rfl,by simpa using ⟨by omega,hgd⟩⟩,hf.trans fB⟩
  ·simp only [z_0,u2,u3]
   exact ⟨⟨_,_,rfl,by constructor<;>intro h;cases h;exact absurd (h.2 y hy1) hy2⟩,hf⟩
end Go.Proofs.YtgcffmhpjphefaaGreatDoor

/- A timer behind it fired; timers that are the same; few steps. -/
namespace Go.Proofs.YtgcffmhpjphefaaGreatDoor
open Go Go.AE
set_option maxRecDepth 10000
set_option maxHeartbeats 4000000
variable {Z:Go.AE.Road}{s:Spans}

def zt:TimD:=⟨ByteArray.empty,0,0,0,[]⟩
def aft(t:TimD)(now:Nat):Option TimD:=match nxt t.at_ t.every now with
 | some x=>if 4611686018427387904<x then none else some { t with at_:=x }
 | none=>none
theorem bl25:aBuild E0 30 []=some (tval zt (.slice none 0 0)):=by kernel_rfl
theorem st22{A:ASt}{b:Nat}{c0 c1 c2 c3 c4:Value}{tl:Bool}{x:Int}(h:A.get b=some (.row [c0,c1,c2,c3,c4] 5 tl)):aStore E0 22 (.pointer (some ⟨b,2,none⟩)) (.int .u64 x) A=some (A.set b (.row [c0,c1,.int .u64 x,c3,c4] 5 tl)):=by
 simp only [aStore,h,w_0];rfl

theorem after_spec(hro:RoadS Z E0 s){A:ASt}{S:Nat→Prop}{t:TimD}{dv:Value}{now:Nat}(h:Steps (withRo E0 s) A S dv t.steps)(hl:t.steps.length≤1000)(ha:t.at_<18446744073709551616)(he:t.every<18446744073709551616)(hn:now<18446744073709551616):
  CallW Z Tryz.prog 39 [tval t dv,.int .u64 (now:Int)] A (fun r A'=>∃ dv',r=.tuple #[tval ((aft t now).getD zt) dv',.bool (aft t now).isSome]∧Steps (withRo E0 s) A' (fun b=>A.next≤b) dv' ((aft t now).getD zt).steps∧Fr [] A A'):=by
 refine CallW.of_code (withRo_ok E0_ok) hro.ro (f:=39) (fn:=Tryz.f39) fn39 rfl (n:=28) rfl (rs:=[.cell 4 30,.tmp 5]) rfl (by simp) (codeW_ok (withRo_ok E0_ok) hro.ro ?_)
 simp only [w_w,z_0,flat,aFieldAddr,cond_true,cond_false,if_true,if_false,List.append_nil,List.nil_append,eq_self,Nat.reduceEqDiff,Nat.reduceAdd,Nat.reduceLT,reduceCtorEq,tval,box25,al25,ptrTo]
 generalize hC:ASt.new (ASt.new A _) _=C
 obtain ⟨c1,c2,hCn,hf⟩:=two_new hC
 clear hC
 refine CallT.mono (next_spec ha he hn) ?_
 rintro _ D ⟨rfl,hf2⟩
 have hA:C.next≤D.next:=hf2.next
 have d1:=(hf2.get _ (by omega) (by simp)).trans c1
 have d2:=(hf2.get _ (by omega) (by simp)).trans c2
 have hs:=h.single
 have hzs:singles [.string zt.name,.int .i64 zt.ver,.int .u64 (zt.at_:Int),.int .u64 (zt.every:Int),.slice none 0 0]=true:=rfl
 have none_:aft t now=none→(∃ x,(nxt t.at_ t.every now)=some x∧4611686018427387904<x)∨nxt t.at_ t.every now=none:=by
  intro e
  unfold aft at e
  cases hx:nxt t.at_ t.every now with
  | none=>exact .inr rfl
  | some x=>
   rw [hx] at e
   simp only at e
   split at e
   ·rename_i hlt;exact .inl ⟨x,rfl,hlt⟩
   ·cases e
 have fin:∀ {v:Value},v=.tuple #[tval zt (.slice none 0 0),.bool false]→aft t now=none→∃ dv',v=.tuple #[tval ((aft t now).getD zt) dv',.bool (aft t now).isSome]∧Steps (withRo E0 s) (D.set (A.next+1) (.row [.string zt.name,.int .i64 zt.ver,.int .u64 (zt.at_:Int),.int .u64 (zt.every:Int),.slice none 0 0] 5 false)) (fun b=>A.next≤b) dv' ((aft t now).getD zt).steps∧Fr [] A (D.set (A.next+1) (.row [.string zt.name,.int .i64 zt.ver,.int .u64 (zt.at_:Int),.int .u64 (zt.every:Int),.slice none 0 0] 5 false)):=by
  rintro v rfl e
  rw [e]
  exact ⟨.slice none 0 0,rfl,.inl ⟨rfl,.inl rfl⟩,(hf.trans hf2).set (.inr (by omega))⟩
 cases ho:aft t now with
 | none=>
  have g2:(D.set (A.next+1) (.row [.string zt.name,.int .i64 zt.ver,.int .u64 (zt.at_:Int),.int .u64 (zt.every:Int),.slice none 0 0] 5 false)).get (A.next+1)=some (.row [.string zt.name,.int .i64 zt.ver,.int .u64 (zt.at_:Int),.int .u64 (zt.every:Int),.slice none 0 0] 5 false):=by rw [ASt.get_set,if_pos rfl]
  rw [ho] at fin
  rcases none_ ho with ⟨x,hx,hlt⟩ | hx
  ·have dx:((x:Int) > 4611686018427387904)=True:=eq_true (by omega)
   simp only [w_w,z_0,flat,cond_true,cond_false,if_true,if_false,eq_self,Nat.reduceEqDiff,Nat.reduceLT,reduceCtorEq,hx,optV,dx,bl25,st25 d2 hzs,tval,g2,cut5,undef]
   exact fin rfl rfl
  ·simp only [w_w,z_0,flat,cond_true,if_true,if_false,eq_self,Nat.reduceEqDiff,Nat.reduceLT,reduceCtorEq,hx,optV,bl25,st25 d2 hzs,tval,g2,cut5,undef]
   exact fin rfl rfl
 | some u=>
  have hx:nxt t.at_ t.every now=some u.at_∧u={ t with at_:=u.at_ }∧¬ 4611686018427387904<u.at_:=by
   unfold aft at ho
   cases hx:nxt t.at_ t.every now with
   | none=>rw [hx] at ho;cases ho
   | some x=>
    rw [hx] at ho
    simp only at ho
    split at ho
    ·cases ho
    ·rename_i hlt;cases ho;exact ⟨rfl,rfl,hlt⟩
  obtain ⟨hx,hu,hlt⟩:=hx
  have hus:u.steps=t.steps:=by rw [hu]
  have hun:u.name=t.name:=by rw [hu]
  have huv:u.ver=t.ver:=by rw [hu]
  have hue:u.every=t.every:=by rw [hu]
  have dx:((u.at_:Int) > 4611686018427387904)=False:=eq_false (by omega)
  simp only [w_w,z_0,flat,aFieldAddr,cond_true,cond_false,if_true,if_false,eq_self,Nat.reduceEqDiff,Nat.reduceLT,reduceCtorEq,hx,optV,dx,st22 d1]
  generalize hE:D.set A.next _=X
  have x1:X.get A.next=some (.row [.string t.name,.int .i64 t.ver,.int .u64 (u.at_:Int),.int .u64 (t.every:Int),dv] 5 false):=by rw [← hE,ASt.get_set,if_pos rfl]
  have x2:X.get (A.next+1)=D.get (A.next+1):=by rw [← hE,ASt.get_set,if_neg (by omega)]
  have x2:=x2.trans d2
  have hfX:Fr [] A X:=by rw [← hE];exact (hf.trans hf2).set (.inr (Nat.le_refl _))
  have hXn:X.next=D.next:=by rw [← hE,ASt.next_set]
  clear hE
  simp only [w_w,z_0,if_true,if_false,List.append_nil,List.nil_append,eq_self,Nat.reduceEqDiff,Nat.reduceLT,reduceCtorEq,cut5]
  have hc:=copied_spec hro (A:=X) (S:=S) (t:=u) (dv:=dv) (by rw [hus];exact h.fr hfX (by simp)) (by rw [hus];exact hl)
  have hte:tval u dv=.agg #[.string t.name,.int .i64 t.ver,.int .u64 (u.at_:Int),.int .u64 (t.every:Int),dv]:=by rw [tval,hun,huv,hue]
  rw [hte] at hc
  refine CallT.mono hc ?_
  rintro _ Y ⟨r,rfl,hr,hf3⟩
  have hYn:=hf3.next
  have y2:=(hf3.get _ (by omega) (by simp)).trans x2
  simp only [w_w,z_0,flat,cond_true,if_true,if_false,eq_self,Nat.reduceEqDiff,Nat.reduceLT,reduceCtorEq,tval,st25 y2 (tim_sg hr.single)]
  have g2:(Y.set (A.next+1) (.row [.string u.name,.int .i64 u.ver,.int .u64 (u.at_:Int),.int .u64 (u.every:Int),r] 5 false)).get (A.next+1)=some (.row [.string u.name,.int .i64 u.ver,.int .u64 (u.at_:Int),.int .u64 (u.every:Int),r] 5 false):=by rw [ASt.get_set,if_pos rfl]
  simp only [z_0,cut5]
  refine ⟨r,rfl,?_,?_⟩
  ·have:=(hr.imp (S':=fun b=>A.next+2≤b) (fun b hb _=>by omega)).fr (own:=[A.next+1]) (A':=Y.set (A.next+1) (.row [.string u.name,.int .i64 u.ver,.int .u64 (u.at_:Int),.int .u64 (u.every:Int),r] 5 false)) ((Fr.refl _ _).set (.inl (by simp))) (fun b hb _=>by simp;omega)
   exact this.imp (fun b hb _=>by omega)
  ·exact (hfX.trans hf3).set (.inr (by omega))
end Go.Proofs.YtgcffmhpjphefaaGreatDoor

/- Steps and timers that are the same; few steps. -/
namespace Go.Proofs.YtgcffmhpjphefaaGreatDoor
open Go Go.AE
set_option maxRecDepth 10000
set_option maxHeartbeats 4000000
variable {Z:Go.AE.Road}{s:Spans}

theorem wrap_succT{i:Nat}(h:i<1000000):IntKind.i64.wrap ((i:Int)+1)=((i+1:Nat):Int):=by
 rw [IntKind.wrap_i64];omega
theorem map_get{l:List StepD}{i:Nat}(h:i<l.length):(l.map scell)[i]? = some (scell l[i]):=by simp [h]
theorem same_steps(hro:RoadS Z E0 s){A:ASt}{S1 S2:Nat→Prop}{v1 v2:Value}{l:List StepD}(h1:Steps (withRo E0 s) A S1 v1 l)(h2:Steps (withRo E0 s) A S2 v2 l)(hl:l.length≤1000):
  CallW Z Tryz.prog 68 [v1,v2] A (fun r A'=>r=.bool true∧Fr [] A A'):=by
 refine CallW.of_code (withRo_ok E0_ok) hro.ro (f:=68) (fn:=Tryz.f68) fn68 rfl (n:=26) rfl (rs:=[.tmp 4]) rfl (by simp) (codeW_ok (withRo_ok E0_ok) hro.ro ?_)
 have l1:=h1.len (wti.trans ti28) t28_desc
 have l2:=h2.len (wti.trans ti28) t28_desc
 simp only [wlen,List.length_map] at l1 l2
 have fne:∀ q:Int,(q≠q)=False:=fun q=>eq_false (by simp)
 simp only [w_w,z_0,flat,aBuiltin,cond_true,if_true,if_false,eq_self,Nat.reduceEqDiff,Nat.reduceAdd,Nat.reduceLT,reduceCtorEq,l1,l2,fne]
 refine CodeW.mono (Q:=fun o=>∃ T' A',o=.fr ⟨.exit 0,T',A'⟩∧Fr [] A A') ?_ ?_
 ·refine CodeW.loopR (k:=l.length) (fun n T A'=>∃ i,n=l.length-i∧i≤l.length∧tget T 5=.int .i64 ((i:Nat):Int)∧tget T 0=v1∧tget T 1=v2∧Fr [] A A') ?_ ⟨0,rfl,by omega,?_,?_,?_,.refl _ _⟩
  ·rintro n T A1 ⟨i,rfl,hi,u5,u0,u1,hf⟩
   refine codeW_ok (withRo_ok E0_ok) hro.ro ?_
   by_cases e1:i<l.length
   ·have d1:((i:Int)<(l.length:Int))=True:=eq_true (by omega)
    have g1:=h1.fr hf (by simp)
    have g2:=h2.fr hf (by simp)
    obtain ⟨b1,p1,c1,hx1,hc1,_,_,hcut1,_⟩:=g1.ix (wti.trans ti28) t28_desc (wti.trans ti56) t56_size (map_get e1)
    obtain ⟨b2,p2,c2,hx2,hc2,_,_,hcut2,_⟩:=g2.ix (wti.trans ti28) t28_desc (wti.trans ti56) t56_size (map_get e1)
    simp only [wix] at hx1 hx2
    have k1:=h1.ve
    have k2:=h2.ve
    have vs:valEq (.agg #[.int .i64 l[i].kind,.string l[i].key,.string l[i].val,.int .i64 l[i].n]) (.agg #[.int .i64 l[i].kind,.string l[i].key,.string l[i].val,.int .i64 l[i].n])=true:=by
     simp [valEq,vEq,vStep,flatEq,lEq,bytesEq_iff]
    simp only [scell] at hcut1 hcut2
    simp only [w_w,z_0,aBuiltin,if_true,if_false,eq_self,Nat.reduceEqDiff,Nat.reduceLT,reduceCtorEq,u5,u0,l1,d1]
    refine CodeW.quiet (withRo_ok E0_ok) hro.ro mixed (by kernel_rfl) (by kernel_rfl) ?_
    rcases hc1 with ⟨a1,r1⟩ | ⟨⟨_,_,a1⟩,r1⟩<;>rcases hc2 with ⟨a2,r2⟩ | ⟨⟨_,_,a2⟩,r2⟩<;>
    ·simp only [w_w,z_0,flat,cond_true,if_true,if_false,List.length_cons,List.length_nil,eq_self,Nat.reduceEqDiff,Nat.reduceAdd,Nat.reduceLT,reduceCtorEq,quietW_nil,quietW_arr,quietW_cons,aStill,freshOp,quietOp,get_empty,get_next,ofVal_none,valEq_int,valEq_bool,valEq_ptr,List.length_cons,List.length_nil,u5,u0,u1,hx1,hx2,a1,a2,r1,r2,hcut1,hcut2,k1,k2,vs,neqStep,wrap_succT (show i<1000000 by omega)]
     exact ⟨l.length-(i+1),by omega,i+1,rfl,by omega,rfl,hf.trans (Fr.bump (by omega))⟩
   ·have d1:((i:Int)<(l.length:Int))=False:=eq_false (by omega)
    simp only [w_w,z_0,aBuiltin,if_true,if_false,eq_self,Nat.reduceEqDiff,Nat.reduceLT,reduceCtorEq,u5,u0,l1,d1]
    exact ⟨_,_,rfl,hf⟩
  all_goals simp only [tget_put,Nat.reduceEqDiff,if_false,if_true]
  all_goals rfl
 ·rintro o ⟨T',A',rfl,hf⟩
  simp only [z_0,flat,cond_true,if_true,eq_self,Nat.reduceLT]
  exact hf
theorem same_tim(hro:RoadS Z E0 s){A:ASt}{S1 S2:Nat→Prop}{t:TimD}{v1 v2:Value}(h1:Steps (withRo E0 s) A S1 v1 t.steps)(h2:Steps (withRo E0 s) A S2 v2 t.steps)(hl:t.steps.length≤1000):
  CallW Z Tryz.prog 40 [tval t v1,tval t v2] A (fun r A'=>r=.bool true∧Fr [] A A'):=by
 refine CallW.of_code (withRo_ok E0_ok) hro.ro (f:=40) (fn:=Tryz.f40) fn40 rfl (n:=40) rfl (rs:=[.tmp 4]) rfl (by simp) (codeW_ok (withRo_ok E0_ok) hro.ro ?_)
 simp only [w_w,z_0,flat,aFieldAddr,cond_true,cond_false,if_true,if_false,List.append_nil,List.nil_append,eq_self,Nat.reduceEqDiff,Nat.reduceAdd,Nat.reduceLT,reduceCtorEq,tval,box25,ptrTo]
 generalize hC:ASt.new (ASt.new A _) _=C
 obtain ⟨c1,c2,hn,hf⟩:=two_new hC
 clear hC
 refine CallT.mono (same_steps hro (h1.fr hf (by simp)) (h2.fr hf (by simp)) hl) ?_
 rintro _ D ⟨rfl,hf2⟩
 have d1:=(hf2.get _ (by omega) (by simp)).trans c1
 have d2:=(hf2.get _ (by omega) (by simp)).trans c2
 simp only [w_w,z_0,flat,aFieldAddr,cond_true,cond_false,if_true,if_false,eq_self,Nat.reduceEqDiff,Nat.reduceLT,reduceCtorEq,d1,d2,b_seql]
 exact hf.trans hf2

theorem fits_spec(hro:RoadS Z E0 s){A:ASt}{S1:Nat→Prop}{t:TimD}{v1:Value}(h1:Steps (withRo E0 s) A S1 v1 t.steps):
  CallW Z Tryz.prog 8 [tval t v1] A (fun r A'=>(∃ b,r=.bool b∧(b=true→t.steps.length≤10∧t.name.size≤100∧∀ y∈t.steps,y.key.size≤100∧y.val.size≤100))∧Fr [] A A'):=by
 refine CallW.of_code (withRo_ok E0_ok) hro.ro (f:=8) (fn:=Tryz.f8) fn8 rfl (n:=37) rfl (rs:=[.tmp 2]) rfl (by simp) (codeW_ok (withRo_ok E0_ok) hro.ro ?_)
 have l1:=h1.len (wti.trans ti28) t28_desc
 simp only [wlen,List.length_map] at l1
 have ls:∀ (k:ByteArray) (B:ASt),aLen E0 9 (.string k) B=some (.int .i64 (k.size:Int)):=fun k B=>len_str ti9 t9_desc
 simp only [w_w,z_0,flat,cond_true,if_true,eq_self,Nat.reduceLT,tval,box25,ptrTo]
 generalize hC:ASt.new A _=C
 have c1:C.get A.next=some (.row [.string t.name,.int .i64 t.ver,.int .u64 (t.at_:Int),.int .u64 (t.every:Int),v1] 5 false):=by rw [← hC,ASt.get_new,if_pos rfl]
 have hf:Fr [] A C:=by rw [← hC];exact .new
 clear hC
 have g1:=h1.fr hf (by simp)
 refine CodeW.mono (Q:=fun o=>(∃ T',o=.fr ⟨.ret,T',C⟩∧tget T' 2=.bool false)∨∃ T',o=.fr ⟨.exit 0,T',C⟩∧tget T' 1=.pointer (some ⟨A.next,0,none⟩)∧t.steps.length≤10∧∀ y∈t.steps,y.key.size≤100∧y.val.size≤100) ?_ ?_
 ·refine CodeW.loopR (k:=11) (fun n T A'=>∃ i,n=11-i∧i≤10∧i≤t.steps.length∧tget T 3=.int .i64 ((i:Nat):Int)∧tget T 1=.pointer (some ⟨A.next,0,none⟩)∧(∀ y∈t.steps.take i,y.key.size≤100∧y.val.size≤100)∧A'=C) ?_ ⟨0,rfl,by omega,by omega,?_,?_,by simp,rfl⟩
  ·rintro n T A1 ⟨i,rfl,hi,hil,u3,u1,hall,rfl⟩
   refine codeW_ok (withRo_ok E0_ok) hro.ro ?_
   by_cases e1:i<t.steps.length
   ·have d1:((i:Int)<(t.steps.length:Int))=True:=eq_true (by omega)
    by_cases e2:i=10
    ·have d2:((i:Int)=10)=True:=eq_true (by omega)
     simp only [w_w,z_0,flat,aFieldAddr,aBuiltin,cond_true,cond_false,if_true,if_false,eq_self,Nat.reduceEqDiff,Nat.reduceLT,reduceCtorEq,u3,u1,c1,l1,d1,d2,undef]
     exact .inl ⟨_,rfl,by simp only [tget_put,Nat.reduceEqDiff,if_false,if_true]⟩
    ·have d2:((i:Int)=10)=False:=eq_false (by omega)
     obtain ⟨b,p,c,hx,hc,_,_,_,hnth⟩:=g1.ix (wti.trans ti28) t28_desc (wti.trans ti56) t56_size (map_get e1)
     simp only [wix] at hx
     have hcg:=hc.g
     have n1:=hnth 1 _ rfl
     have n2:=hnth 2 _ rfl
     by_cases e3:t.steps[i].key.size > 100
     ·have d3:(((t.steps[i].key.size:Nat):Int) > 100)=True:=eq_true (by omega)
      simp only [w_w,z_0,flat,aFieldAddr,aBuiltin,cond_true,cond_false,if_true,if_false,eq_self,Nat.reduceEqDiff,Nat.reduceLT,reduceCtorEq,u3,u1,c1,l1,d1,d2,hx,hcg,n1,ls,d3,undef]
      exact .inl ⟨_,rfl,by simp only [tget_put,Nat.reduceEqDiff,if_false,if_true]⟩
     ·have d3:(((t.steps[i].key.size:Nat):Int) > 100)=False:=eq_false (by omega)
      by_cases e4:t.steps[i].val.size > 100
      ·have d4:(((t.steps[i].val.size:Nat):Int) > 100)=True:=eq_true (by omega)
       simp only [w_w,z_0,flat,aFieldAddr,aBuiltin,cond_true,cond_false,if_true,if_false,eq_self,Nat.reduceEqDiff,Nat.reduceLT,reduceCtorEq,u3,u1,c1,l1,d1,d2,hx,hcg,n1,n2,ls,d3,d4]
       exact .inl ⟨_,rfl,by simp only [tget_put,Nat.reduceEqDiff,if_false,if_true]⟩
      ·have d4:(((t.steps[i].val.size:Nat):Int) > 100)=False:=eq_false (by omega)
       simp only [w_w,z_0,flat,aFieldAddr,aBuiltin,cond_true,cond_false,if_true,if_false,eq_self,Nat.reduceEqDiff,Nat.reduceLT,reduceCtorEq,u3,u1,c1,l1,d1,d2,hx,hcg,n1,n2,ls,d3,d4,wrap_succT (show i<1000000 by omega)]
       refine ⟨11-(i+1),by omega,i+1,rfl,by omega,by omega,rfl,?_⟩
       intro y hy
       rw [List.take_add_one,List.getElem?_eq_getElem e1] at hy
       rcases List.mem_append.1 hy with hy | hy
       ·exact hall y hy
       ·simp only [Option.toList,List.mem_singleton] at hy
        subst hy
        exact ⟨by omega,by omega⟩
   ·have d1:((i:Int)<(t.steps.length:Int))=False:=eq_false (by omega)
    simp only [w_w,z_0,aFieldAddr,aBuiltin,cond_false,if_true,if_false,eq_self,Nat.reduceEqDiff,Nat.reduceLT,reduceCtorEq,u3,u1,c1,l1,d1]
    rw [List.take_of_length_le (by omega)] at hall
    exact .inr ⟨_,rfl,by simp only [tget_put,Nat.reduceEqDiff,if_false,u1],by omega,hall⟩
  all_goals simp only [tget_put,Nat.reduceEqDiff,if_false,if_true]
  all_goals rfl
 ·rintro o (⟨T',rfl,u2⟩ | ⟨T',rfl,u1,hlen,hall⟩)
  ·simp only [z_0,u2]
   exact ⟨⟨false,rfl,by simp⟩,hf⟩
  ·simp only [w_w,z_0,flat,aFieldAddr,aBuiltin,cond_true,cond_false,if_true,if_false,eq_self,Nat.reduceEqDiff,Nat.reduceLT,reduceCtorEq,u1,c1,ls]
   exact ⟨⟨_,rfl,fun hb=>⟨hlen,by have:=of_decide_eq_true hb;omega,hall⟩⟩,hf⟩
end Go.Proofs.YtgcffmhpjphefaaGreatDoor

/- A table of timers with nothing in it: what is right, what is laid there, and what is got. -/
namespace Go.Proofs.YtgcffmhpjphefaaGreatDoor
open Go Go.AE
set_option maxRecDepth 10000
set_option maxHeartbeats 8000000
variable {Z:Go.AE.Road}{s:Spans}

def TimD.right(t:TimD):Prop:=(t.steps.length≤4∧∀ y∈t.steps,y.good)∧1≤t.name.size∧t.name.size≤16∧1≤t.ver∧t.ver≤1099511627776∧t.at_≤4611686018427387904∧t.every≤4611686018427387904
def StepsIn(l:List StepD):Prop:=l.length≤1000∧∀ y∈l,-9223372036854775808≤y.n∧y.n<9223372036854775808
theorem tright_spec(hro:RoadS Z E0 s)(ht:TabZ Z){A:ASt}{S:Nat→Prop}{t:TimD}{dv:Value}(h:Steps (withRo E0 s) A S dv t.steps)(hs:StepsIn t.steps):
  CallW Z Tryz.prog 21 [tval t dv] A (fun r A'=>(∃ b,r=.bool b∧(b=true↔t.right))∧Fr [] A A'):=by
 refine CallW.of_code (withRo_ok E0_ok) hro.ro (f:=21) (fn:=Tryz.f21) fn21 rfl (n:=44) rfl (rs:=[.tmp 2]) rfl (by simp) (codeW_ok (withRo_ok E0_ok) hro.ro ?_)
 simp only [w_w,z_0,flat,aFieldAddr,cond_true,cond_false,if_true,if_false,List.append_nil,List.nil_append,eq_self,Nat.reduceEqDiff,Nat.reduceLT,reduceCtorEq,tval,box25,ptrTo]
 generalize hCd:ASt.new A _=C
 have c1:C.get A.next=some (.row [.string t.name,.int .i64 t.ver,.int .u64 (t.at_:Int),.int .u64 (t.every:Int),dv] 5 false):=by rw [← hCd,ASt.get_new,if_pos rfl]
 have fC:Fr [] A C:=⟨by rw [← hCd,ASt.next_new];omega,fun b hb _=>by rw [← hCd,ASt.get_new,if_neg (by omega)]⟩
 have hpn:A.next<C.next:=by rw [← hCd,ASt.next_new];omega
 generalize A.next=p at c1 hpn
 clear hCd
 simp only [z_0]
 refine CallT.mono (CallT.of_call (encode_spec hro ht (h.fr fC (by simp)) hs.2 hs.1)) ?_
 rintro _ D ⟨⟨o,e,rfl,he⟩,fD⟩
 have c1:=(fD.get p hpn (by simp)).trans c1
 have hfin:∀ b,(b=true↔t.right)→(∃ b',Value.bool b=.bool b'∧(b'=true↔t.right))∧Fr [] A D:=fun b hb=>⟨⟨b,rfl,hb⟩,fC.trans fD⟩
 by_cases h0:¬ (e=0)
 ·have f0:=eq_false h0
  simp only [z_0,flat,cond_true,cond_false,if_true,if_false,eq_self,Nat.reduceEqDiff,Nat.reduceLT,reduceCtorEq,undef,f0]
  exact hfin false (by constructor<;>intro x;cases x;unfold TimD.right at x;exact absurd (he.2 x.1) h0)
 replace h0:=Classical.not_not.1 h0
 have f0:=eq_true h0
 by_cases h1:t.name.size=0
 ·have f1:(t.name≠{ data:=#[] })=False:=eq_false (by simpa using empty_iff.2 h1)
  simp only [w_w,z_0,flat,aFieldAddr,cond_true,cond_false,if_true,if_false,eq_self,Nat.reduceEqDiff,Nat.reduceLT,reduceCtorEq,c1,b_sneq,undef,f0,f1]
  exact hfin false (by constructor<;>intro x;cases x;unfold TimD.right at x;omega)
 have f1:(t.name≠{ data:=#[] })=True:=eq_true fun x=>h1 (empty_iff.1 x)
 by_cases h2:¬ (((t.name.size:Nat):Int)≤16)
 ·have f2:=eq_false h2
  simp only [w_w,z_0,flat,aFieldAddr,aBuiltin,cond_true,cond_false,if_true,if_false,eq_self,Nat.reduceEqDiff,Nat.reduceLT,reduceCtorEq,c1,lenS,b_sneq,undef,f0,f1,f2]
  exact hfin false (by constructor<;>intro x;cases x;unfold TimD.right at x;omega)
 replace h2:=Classical.not_not.1 h2
 have f2:=eq_true h2
 by_cases h3:¬ (t.ver≥1)
 ·have f3:=eq_false h3
  simp only [w_w,z_0,flat,aFieldAddr,aBuiltin,cond_true,cond_false,if_true,if_false,eq_self,Nat.reduceEqDiff,Nat.reduceLT,reduceCtorEq,c1,lenS,b_sneq,undef,f0,f1,f2,f3]
  exact hfin false (by constructor<;>intro x;cases x;unfold TimD.right at x;omega)
 replace h3:=Classical.not_not.1 h3
 have f3:=eq_true h3
 by_cases h4:¬ (t.ver≤1099511627776)
 ·have f4:=eq_false h4
  simp only [w_w,z_0,flat,aFieldAddr,aBuiltin,cond_true,cond_false,if_true,if_false,eq_self,Nat.reduceEqDiff,Nat.reduceLT,reduceCtorEq,c1,lenS,b_sneq,undef,f0,f1,f2,f3,f4]
  exact hfin false (by constructor<;>intro x;cases x;unfold TimD.right at x;omega)
 replace h4:=Classical.not_not.1 h4
 have f4:=eq_true h4
 by_cases h5:¬ (((t.at_:Nat):Int)≤4611686018427387904)
 ·have f5:=eq_false h5
  simp only [w_w,z_0,flat,aFieldAddr,aBuiltin,cond_true,cond_false,if_true,if_false,eq_self,Nat.reduceEqDiff,Nat.reduceLT,reduceCtorEq,c1,lenS,b_sneq,undef,f0,f1,f2,f3,f4,f5]
  exact hfin false (by constructor<;>intro x;cases x;unfold TimD.right at x;omega)
 replace h5:=Classical.not_not.1 h5
 have f5:=eq_true h5
 by_cases h6:¬ (((t.every:Nat):Int)≤4611686018427387904)
 ·have f6:=eq_false h6
  simp only [w_w,z_0,flat,aFieldAddr,aBuiltin,cond_true,cond_false,if_true,if_false,eq_self,Nat.reduceEqDiff,Nat.reduceLT,reduceCtorEq,c1,lenS,b_sneq,f0,f1,f2,f3,f4,f5,f6]
  exact hfin false (by constructor<;>intro x;cases x;unfold TimD.right at x;omega)
 replace h6:=Classical.not_not.1 h6
 have f6:=eq_true h6
 simp only [w_w,z_0,flat,aFieldAddr,aBuiltin,cond_true,cond_false,if_true,if_false,eq_self,Nat.reduceEqDiff,Nat.reduceLT,reduceCtorEq,c1,lenS,b_sneq,f0,f1,f2,f3,f4,f5,f6]
 exact hfin true ⟨fun _=>⟨he.1 h0,by omega,by omega,by omega,by omega,by omega,by omega⟩,fun _=>rfl⟩
end Go.Proofs.YtgcffmhpjphefaaGreatDoor

/- A table of timers with nothing in it. -/
namespace Go.Proofs.YtgcffmhpjphefaaGreatDoor
open Go Go.AE
set_option maxRecDepth 10000
set_option maxHeartbeats 8000000
variable {Z:Go.AE.Road}{s:Spans}

abbrev TM0:TM:=fun _=>none
theorem TM0.del{k:ByteArray}:TM.del TM0 k=TM0:=by
 funext j
 unfold TM.del
 split<;>rfl
structure T0(A:ASt)(x m q e w W all:Nat)(ms:List Nat)(now:Nat):Prop where
 hx:A.get x=some (.row [.map (some m),.pointer (some ⟨q,0,none⟩),.pointer (some ⟨W,0,none⟩)] 3 false)
 hm:A.get m=some (.map [] 0)
 hq:Q0 A q e w
 hW:WheelAt A W all ms now TM0
 lt:x<A.next∧m<A.next
 ne:x≠m∧x≠e∧x≠w∧m≠q∧m≠e∧m≠w
 nW:x∉W::all::ms∧m∉W::all::ms∧q∉W::all::ms∧e∉W::all::ms∧w∉W::all::ms
theorem bld58{m:Nat}{q W:Option Addr}:aBuild E0 68 [(0,.map (some m)),(1,.pointer q),(2,.pointer W)]=some (.agg #[.map (some m),.pointer q,.pointer W]):=by kernel_rfl
theorem box58{a b c:Value}:aBox E0 68 (.agg #[a,b,c])=some (.row [a,b,c] 3 false,ptrTo):=by
 simp only [aBox,w_tb,Value.cells]
theorem tnew_spec{A:ASt}{now:Nat}(hn:now<18446744073709551616):CallW Z Tryz.prog 7 [.int .u64 (now:Int)] A (fun r A'=>∃ x m q e w W all ms,r=.pointer (some ⟨x,0,none⟩)∧T0 A' x m q e w W all ms now∧Fr [] A A'∧∀ b∈[x,m,q,e,w,W,all]++ms,A.next≤b):=by
 refine CallW.of_code E0_ok E0_ro fn7 rfl (n:=9) rfl (rs:=[.tmp 2]) rfl (by simp) (codeW_ok E0_ok E0_ro ?_)
 simp only [z_0,flat,cond_true,List.append_nil,Nat.reduceLT]
 have hf0:Fr [] A (A.new (.map [] 0)):=.new
 have hg0:(A.new (.map [] 0)).get A.next=some (.map [] 0):=by rw [ASt.get_new,if_pos rfl]
 have hn0:(A.new (.map [] 0)).next=A.next+1:=ASt.next_new ..
 generalize A.new (.map [] 0)=B at hf0 hg0 hn0
 refine CallT.mono (CallT.of_call qnew_spec) ?_
 rintro _ C ⟨q,e,w,rfl,hq,lq,le,lw,fC⟩
 simp only [z_0,if_true,if_false,List.append_nil,List.nil_append,eq_self,Nat.reduceEqDiff,Nat.reduceLT,reduceCtorEq]
 refine CallT.mono (CallT.of_call (new_walk2 hn)) ?_
 rintro _ D ⟨W,all,ms,rfl,hW,fD,lW⟩
 simp only [z_0,if_true,if_false,List.cons_append,List.nil_append,eq_self,Nat.reduceEqDiff,Nat.reduceLT,reduceCtorEq,bld58,box58,ptrTo]
 generalize hEd:ASt.new D _=F
 have hF:F.get D.next=some (.row [.map (some A.next),.pointer (some ⟨q,0,none⟩),.pointer (some ⟨W,0,none⟩)] 3 false):=by rw [← hEd,ASt.get_new,if_pos rfl]
 have fF:Fr [] D F:=⟨by rw [← hEd,ASt.next_new];omega,fun b hb _=>by rw [← hEd,ASt.get_new,if_neg (by omega)]⟩
 have nF:F.next=D.next+1:=by rw [← hEd,ASt.next_new]
 clear hEd
 have nC:=fC.next
 have nD:=fD.next
 have hlt:=hq.lt
 have hWb:∀ b∈W::all::ms,C.next≤b∧b<D.next:=fun b hb=>⟨lW b hb,hW.below b hb⟩
 have nin:∀ b,b<C.next∨D.next≤b→b∉W::all::ms:=fun b hb hm=>by have:=hWb b hm;omega
 refine ⟨D.next,A.next,q,e,w,W,all,ms,rfl,⟨hF,?_,(hq.fr fD (by simp) (by simp) (by simp)).fr fF (by simp) (by simp) (by simp),hW.congr fF.next fun b hb=>fF.get b (hW.below b hb) (by simp),⟨by omega,by omega⟩,⟨by omega,by omega,by omega,by omega,by omega,by omega⟩,⟨nin _ (.inr (Nat.le_refl _)),nin _ (.inl (by omega)),nin _ (.inl (by omega)),nin _ (.inl (by omega)),nin _ (.inl (by omega))⟩⟩,?_,?_⟩
 ·rw [fF.get _ (by omega) (by simp),fD.get _ (by omega) (by simp),fC.get _ (by omega) (by simp)]
  exact hg0
 ·exact hf0.trans (fC.trans (fD.trans fF))
 ·intro b hb
  simp only [List.mem_cons] at hb
  rcases hb with rfl | rfl | rfl | rfl | rfl | hb
  ·omega
  ·omega
  ·omega
  ·omega
  ·omega
  ·have:=hWb b (by simpa using hb)
   omega
end Go.Proofs.YtgcffmhpjphefaaGreatDoor

/- A table of timers with nothing in it: what is dropped there. -/
namespace Go.Proofs.YtgcffmhpjphefaaGreatDoor
open Go Go.AE
set_option maxRecDepth 10000
set_option maxHeartbeats 8000000
variable {Z:Go.AE.Road}{s:Spans}

abbrev zTim:Value:=.agg #[.string ByteArray.empty,.int .i64 0,.int .u64 0,.int .u64 0,.slice none 0 0]
theorem eqnilT{xo yo:Operand}{x:Option Addr}:aBin2 E0 .eql 25 xo yo (.pointer x) (.pointer none)=some (.bool x.isNone):=b_ptr_nil ti25 t25_desc
abbrev fnV(f:Nat)(b:Nat):Value:=.func (.func f) #[.pointer (some ⟨b,0,none⟩)] #[]
theorem bs92{a b:Nat}:aBuildSlice E0 84 2 [(0,fnV 41 a),(1,fnV 42 b)]=some (.row [fnV 41 a,fnV 42 b] 1 false,fun id=>.slice (some ⟨id,0,none⟩) 2 2):=by
 simp only [aBuildSlice,w_tb];rfl
theorem T0.fr{A B:ASt}{x m q e w W all now:Nat}{ms:List Nat}(h:T0 A x m q e w W all ms now)(hf:Fr [] A B):T0 B x m q e w W all ms now:=
 ⟨(hf.get x h.lt.1 (by simp)).trans h.hx,(hf.get m h.lt.2 (by simp)).trans h.hm,h.hq.fr hf (by simp) (by simp) (by simp),h.hW.congr hf.next fun b hb=>hf.get b (h.hW.below b hb) (by simp),⟨Nat.lt_of_lt_of_le h.lt.1 hf.next,Nat.lt_of_lt_of_le h.lt.2 hf.next⟩,h.ne,h.nW⟩
end Go.Proofs.YtgcffmhpjphefaaGreatDoor

/- A table of timers with nothing in it: what is laid there, and got. -/
namespace Go.Proofs.YtgcffmhpjphefaaGreatDoor
open Go Go.AE
set_option maxRecDepth 10000
set_option maxHeartbeats 8000000
variable {Z:Go.AE.Road}{s:Spans}

theorem val25{E:Env}{A:ASt}{S:Nat→Prop}{t:TimD}{dv:Value}(h:Steps E A S dv t.steps):valEq (.agg #[.string t.name,.int .i64 t.ver,.int .u64 (t.at_:Int),.int .u64 (t.every:Int),dv]) (.agg #[.string t.name,.int .i64 t.ver,.int .u64 (t.at_:Int),.int .u64 (t.every:Int),dv])=true:=by
 rcases h with ⟨_,rfl | rfl⟩ | ⟨b,o,cap,_,rfl,_⟩
 ·simp [valEq,vEq,vStep,flatEq,lEq,bytesEq_iff]
 ·simp [valEq,vEq,vStep,flatEq,lEq,bytesEq_iff]
 ·simp [valEq,vEq,vStep,flatEq,lEq,bytesEq_iff]
theorem box25'{t:TimD}{dv:Value}:aBox E0 30 (tval t dv)=some (.row (tcell t dv) 5 false,ptrTo):=box25
end Go.Proofs.YtgcffmhpjphefaaGreatDoor

/- A table of timers in general: what lies where. -/
namespace Go.Proofs.YtgcffmhpjphefaaGreatDoor
open Go Go.AE
set_option maxRecDepth 10000
set_option maxHeartbeats 8000000
variable {Z:Go.AE.Road}{s:Spans}

abbrev TD:=ByteArray→Option TimD
noncomputable def TD.put(D:TD)(t:TimD):TD:=fun j=>if j=t.name then some t else D j
noncomputable def TD.del(D:TD)(k:ByteArray):TD:=fun j=>if j=k then none else D j
def TD.at_(D:TD):TM:=fun k=>(D k).map (·.at_)
noncomputable def TD.near(D:TD)(now:Nat):TM:=fun k=>(D.at_ k).filter fun a=>decide (a≤now)
noncomputable def TD.far(D:TD)(now:Nat):TM:=fun k=>(D.at_ k).filter fun a=>decide (now<a)
abbrev encTV:MapEnc ByteArray (TimD×Value):=encS (fun p=>tval p.1 p.2)
def MAt(s:Spans)(A:ASt)(m:Nat)(S:Nat→Prop)(D:TD):Prop:=∃ l ck,A.get m=some (.map (vEnts encTV l) ck)∧VOK l ck∧(∀ k,(vget l k).map (·.1)=D k)∧∀ k t dv,vget l k=some (t,dv)→Steps (withRo E0 s) A S dv t.steps
theorem MAt.fr{A B:ASt}{m:Nat}{S:Nat→Prop}{D:TD}{own:List Nat}(h:MAt s A m S D)(hm:m<A.next)(hf:Fr own A B)(h1:m∉own)(h2:∀ b,S b→b<A.next→b∉own):MAt s B m S D:=by
 obtain ⟨l,ck,hg,hok,hD,hS⟩:=h
 exact ⟨l,ck,(hf.get m hm h1).trans hg,hok,hD,fun k t dv e=>(hS k t dv e).fr hf h2⟩
theorem MAt.imp{A:ASt}{m:Nat}{S S':Nat→Prop}{D:TD}(h:MAt s A m S D)(hi:∀ b,S b→b<A.next→S' b):MAt s A m S' D:=by
 obtain ⟨l,ck,hg,hok,hD,hS⟩:=h
 exact ⟨l,ck,hg,hok,hD,fun k t dv e=>(hS k t dv e).imp hi⟩

abbrev ownT(x m q e w W all:Nat)(ms:List Nat):List Nat:=x::m::q::e::w::W::all::ms
structure Core(s:Spans)(A:ASt)(x m q e w:Nat)(v:Value)(W all:Nat)(ms:List Nat)(now:Nat)(D:TD)(N F:TM)(S:Nat→Prop):Prop where
 hx:A.get x=some (.row [.map (some m),.pointer (some ⟨q,0,none⟩),.pointer (some ⟨W,0,none⟩)] 3 false)
 hm:MAt s A m S D
 hq:QAt A q e w v N
 hW:WheelAt A W all ms now F
 nd:(ownT x m q e w W all ms).Nodup
 lt:∀ b∈ownT x m q e w W all ms,b<A.next
 ns:∀ b∈slB v,b∉ownT x m q e w W all ms∧b<A.next
 nr:∀ b,S b→b<A.next∧b∉ownT x m q e w W all ms∧b∉slB v
section
variable {A B:ASt}{x m q e w:Nat}{v:Value}{W all:Nat}{ms:List Nat}{now:Nat}{D:TD}{N F:TM}{S:Nat→Prop}
theorem Core.lts(h:Core s A x m q e w v W all ms now D N F S):x<A.next∧m<A.next∧q<A.next∧e<A.next∧w<A.next∧W<A.next:=
 ⟨h.lt x (by simp),h.lt m (by simp),h.lt q (by simp),h.lt e (by simp),h.lt w (by simp),h.lt W (by simp)⟩
theorem Core.nes(h:Core s A x m q e w v W all ms now D N F S):(x≠m∧x≠q∧x≠e∧x≠w∧x∉W::all::ms)∧(m≠q∧m≠e∧m≠w∧m∉W::all::ms)∧(q≠e∧q≠w∧q∉W::all::ms)∧(e≠w∧e∉W::all::ms)∧w∉W::all::ms:=by
 have:=h.nd
 simp only [ownT,List.nodup_cons,List.mem_cons,not_or] at this
 obtain ⟨⟨a1,a2,a3,a4,a5⟩,⟨b1,b2,b3,b4⟩,⟨c1,c2,c3⟩,⟨d1,d2⟩,e1,_⟩:=this
 simp only [List.mem_cons,not_or]
 exact ⟨⟨a1,a2,a3,a4,a5⟩,⟨b1,b2,b3,b4⟩,⟨c1,c2,c3⟩,⟨d1,d2⟩,e1⟩
theorem Core.fr{own:List Nat}(h:Core s A x m q e w v W all ms now D N F S)(hf:Fr own A B)(h1:∀ b∈own,b<A.next→b∉ownT x m q e w W all ms∧b∉slB v∧¬ S b):Core s B x m q e w v W all ms now D N F S:=by
 have hn:∀ b∈ownT x m q e w W all ms,b∉own:=fun b hb hm=>(h1 b hm (h.lt b hb)).1 hb
 have hs:∀ b∈slB v,b∉own:=fun b hb hm=>(h1 b hm (h.ns b hb).2).2.1 hb
 obtain ⟨l,hql,hM⟩:=h.hq
 refine ⟨(hf.get x (h.lt x (by simp)) (hn x (by simp))).trans h.hx,h.hm.fr (h.lt m (by simp)) hf (hn m (by simp)) (fun b hb hl hm=>(h1 b hm hl).2.2 hb),⟨l,hql.fr hf (hn q (by simp)) (hn e (by simp)) (hn w (by simp)) hs,hM⟩,h.hW.congr hf.next fun b hb=>hf.get b (h.hW.below b hb) (hn b (by simp only [List.mem_cons] at hb ⊢;simp [hb])),h.nd,fun b hb=>Nat.lt_of_lt_of_le (h.lt b hb) hf.next,fun b hb=>⟨(h.ns b hb).1,Nat.lt_of_lt_of_le (h.ns b hb).2 hf.next⟩,fun b hb=>⟨Nat.lt_of_lt_of_le (h.nr b hb).1 hf.next,(h.nr b hb).2⟩⟩
theorem Core.fr0(h:Core s A x m q e w v W all ms now D N F S)(hf:Fr [] A B):Core s B x m q e w v W all ms now D N F S:=h.fr hf (by simp)
theorem memW{b:Nat}(hb:b∈W::all::ms):b∈ownT x m q e w W all ms:=by
 simp only [ownT,List.mem_cons] at hb ⊢
 simp [hb]
theorem Core.wheel{now':Nat}{F':TM}(h:Core s A x m q e w v W all ms now D N F S)(hf:Fr (W::all::ms) A B)(hW:WheelAt B W all ms now' F'):Core s B x m q e w v W all ms now' D N F' S:=by
 have hn:=h.nes
 have hs:∀ b∈slB v,b∉W::all::ms:=fun b hb hm=>(h.ns b hb).1 (memW hm)
 obtain ⟨l,hql,hM⟩:=h.hq
 refine ⟨(hf.get x (h.lt x (by simp)) hn.1.2.2.2.2).trans h.hx,h.hm.fr (h.lt m (by simp)) hf hn.2.1.2.2.2 (fun b hb _ hm=>(h.nr b hb).2.1 (memW hm)),⟨l,hql.fr hf hn.2.2.1.2.2 hn.2.2.2.1.2 hn.2.2.2.2 hs,hM⟩,hW,h.nd,fun b hb=>Nat.lt_of_lt_of_le (h.lt b hb) hf.next,fun b hb=>⟨(h.ns b hb).1,Nat.lt_of_lt_of_le (h.ns b hb).2 hf.next⟩,fun b hb=>⟨Nat.lt_of_lt_of_le (h.nr b hb).1 hf.next,(h.nr b hb).2⟩⟩
theorem Core.queue{v':Value}{N':TM}(h:Core s A x m q e w v W all ms now D N F S)(hf:Fr (e::w::slB v) A B)(hq:QAt B q e w v' N')(hv:∀ b∈slB v',b∈slB v∨A.next≤b):Core s B x m q e w v' W all ms now D N' F S:=by
 have hn:=h.nes
 have nin:∀ b,b∈ownT x m q e w W all ms→b≠e→b≠w→b∉e::w::slB v:=fun b hb h1 h2 hm=>by
  simp only [List.mem_cons] at hm
  rcases hm with h3 | h3 | h3
  ·exact h1 h3
  ·exact h2 h3
  ·exact (h.ns b h3).1 hb
 have hbl:∀ b∈slB v',b<B.next:=by
  obtain ⟨l,hql,_⟩:=hq
  exact hql.ea.hs.low
 refine ⟨(hf.get x (h.lt x (by simp)) (nin x (by simp) hn.1.2.2.1 hn.1.2.2.2.1)).trans h.hx,h.hm.fr (h.lt m (by simp)) hf (nin m (by simp) hn.2.1.2.1 hn.2.1.2.2.1) (fun b hb _ hm=>?_),hq,h.hW.congr hf.next fun b hb=>hf.get b (h.hW.below b hb) (nin b (memW hb) (fun e1=>hn.2.2.2.1.2 (e1 ▸ hb)) (fun e1=>hn.2.2.2.2 (e1 ▸ hb))),h.nd,fun b hb=>Nat.lt_of_lt_of_le (h.lt b hb) hf.next,fun b hb=>⟨fun hm=>?_,hbl b hb⟩,fun b hb=>⟨Nat.lt_of_lt_of_le (h.nr b hb).1 hf.next,(h.nr b hb).2.1,fun hm=>?_⟩⟩
 ·simp only [List.mem_cons] at hm
  rcases hm with rfl | rfl | h3
  ·exact (h.nr _ hb).2.1 (by simp)
  ·exact (h.nr _ hb).2.1 (by simp)
  ·exact (h.nr _ hb).2.2 h3
 ·rcases hv b hb with h3 | h3
  ·exact (h.ns b h3).1 hm
  ·have:=h.lt b hm;omega
 ·rcases hv b hm with h3 | h3
  ·exact (h.nr b hb).2.2 h3
  ·have:=(h.nr b hb).1;omega
theorem Core.map{D':TD}{S':Nat→Prop}(h:Core s A x m q e w v W all ms now D N F S)(hf:Fr [m] A B)(hm:MAt s B m S' D')(hS:∀ b,S' b→S b∨b<B.next∧b∉ownT x m q e w W all ms∧b∉slB v):Core s B x m q e w v W all ms now D' N F S':=by
 have hn:=h.nes
 obtain ⟨l,hql,hM⟩:=h.hq
 have hsl:∀ b∈slB v,b∉[m]:=fun b hb h2=>(h.ns b hb).1 (by simp only [List.mem_singleton] at h2;simp [h2])
 refine ⟨(hf.get x (h.lt x (by simp)) (by simpa using hn.1.1)).trans h.hx,hm,⟨l,hql.fr hf (by simpa using Ne.symm hn.2.1.1) (by simpa using Ne.symm hn.2.1.2.1) (by simpa using Ne.symm hn.2.1.2.2.1) hsl,hM⟩,h.hW.congr hf.next fun b hb=>hf.get b (h.hW.below b hb) (by simp only [List.mem_singleton];exact fun e1=>hn.2.1.2.2.2 (e1 ▸ hb)),h.nd,fun b hb=>Nat.lt_of_lt_of_le (h.lt b hb) hf.next,fun b hb=>⟨(h.ns b hb).1,Nat.lt_of_lt_of_le (h.ns b hb).2 hf.next⟩,fun b hb=>?_⟩
 rcases hS b hb with h3 | h3
 ·exact ⟨Nat.lt_of_lt_of_le (h.nr b h3).1 hf.next,(h.nr b h3).2⟩
 ·exact h3
end
theorem tlook{A:ASt}{m ck:Nat}{l:List (VE ByteArray (TimD×Value))}(hm:A.get m=some (.map (vEnts encTV l) ck))(k:ByteArray)(ok:Bool):
  aLookup E0 62 (.map (some m)) (.string k) ok A=some (if ok then .tuple #[((vget l k).map fun p=>tval p.1 p.2).getD zTim,.bool (vget l k).isSome] else ((vget l k).map fun p=>tval p.1 p.2).getD zTim):=
 lookup_v (Γ:=encTV) ti62 t62_desc ti9 (fun k=>by rw [t9_desc];rfl) ti30 t30_zero rfl hm k ok
theorem tupd{A:ASt}{m ck:Nat}{l:List (VE ByteArray (TimD×Value))}(hm:A.get m=some (.map (vEnts encTV l) ck))(k:ByteArray)(t:TimD)(dv:Value):
  aMapUpdate E0 62 (.map (some m)) (.string k) (tval t dv) A=some (A.set m (.map (vEnts encTV (vput k (t,dv) ck l)) (vck l k ck))):=
 mapUpdate_v (Γ:=encTV) ti62 t62_desc ti9 (fun k=>by rw [t9_desc];rfl) hm k (t,dv)
theorem tdel{A:ASt}{m ck:Nat}{l:List (VE ByteArray (TimD×Value))}(hm:A.get m=some (.map (vEnts encTV l) ck))(k:ByteArray):
  aDelete E0 62 (.map (some m)) (.string k) A=.val undef (if (vget l k).isSome then A.set m (.map (vEnts encTV (vdel k l)) ck) else A):=
 delete_v (Γ:=encTV) ti62 t62_desc ti9 (fun k=>by rw [t9_desc];rfl) hm k
theorem MAt.del{A:ASt}{m:Nat}{S:Nat→Prop}{D:TD}(h:MAt s A m S D)(hS:∀ b,S b→b≠m)(k:ByteArray):∃ B,aDelete E0 62 (.map (some m)) (.string k) A=.val undef B∧MAt s B m S (D.del k)∧Fr [m] A B:=by
 obtain ⟨l,ck,hg,hok,hD,hSt⟩:=h
 have hd:=tdel hg k
 cases hk:vget l k with
 | none=>
  rw [hk] at hd
  refine ⟨A,hd,⟨l,ck,hg,hok,fun j=>?_,hSt⟩,.refl _ _⟩
  unfold TD.del
  by_cases e1:j=k
  ·rw [if_pos e1,e1,hk];rfl
  ·rw [if_neg e1,hD]
 | some p=>
  rw [hk] at hd
  simp only [Option.isSome_some,if_true] at hd
  have fB:Fr [m] A (A.set m (.map (vEnts encTV (vdel k l)) ck)):=⟨by rw [ASt.next_set];exact Nat.le_refl _,fun b hb hn=>by rw [ASt.get_set,if_neg (by simpa using hn)]⟩
  refine ⟨_,hd,⟨vdel k l,ck,by rw [ASt.get_set,if_pos rfl],vdel_ok hok,fun j=>?_,fun j t dv e1=>?_⟩,fB⟩
  ·rw [vget_udel hok.keys]
   unfold TD.del
   by_cases e1:j=k
   ·rw [if_pos e1,if_pos e1];rfl
   ·rw [if_neg e1,if_neg e1,hD]
  ·rw [vget_udel hok.keys] at e1
   by_cases e2:j=k
   ·rw [if_pos e2] at e1;cases e1
   ·rw [if_neg e2] at e1
    exact (hSt j t dv e1).fr fB (fun b h1 _ h2=>hS b h1 (by simpa using h2))
theorem MAt.put{A:ASt}{m:Nat}{S:Nat→Prop}{D:TD}(h:MAt s A m S D)(hS:∀ b,S b→b≠m)(t:TimD){dv:Value}(hd:Steps (withRo E0 s) A S dv t.steps):∃ B,aMapUpdate E0 62 (.map (some m)) (.string t.name) (tval t dv) A=some B∧MAt s B m S (D.put t)∧Fr [m] A B:=by
 obtain ⟨l,ck,hg,hok,hD,hSt⟩:=h
 have fB:Fr [m] A (A.set m (.map (vEnts encTV (vput t.name (t,dv) ck l)) (vck l t.name ck))):=⟨by rw [ASt.next_set];exact Nat.le_refl _,fun b hb hn=>by rw [ASt.get_set,if_neg (by simpa using hn)]⟩
 refine ⟨_,tupd hg t.name t dv,⟨_,_,by rw [ASt.get_set,if_pos rfl],vput_ok hok,fun j=>?_,fun j t' dv' e1=>?_⟩,fB⟩
 ·rw [vget_uput]
  unfold TD.put
  by_cases e1:j=t.name
  ·rw [if_pos e1,if_pos e1];rfl
  ·rw [if_neg e1,if_neg e1,hD]
 ·rw [vget_uput] at e1
  have hfr:∀ b,S b→b<A.next→b∉[m]:=fun b h1 _ h2=>hS b h1 (by simpa using h2)
  by_cases e2:j=t.name
  ·rw [if_pos e2] at e1
   cases e1
   exact hd.fr fB hfr
  ·rw [if_neg e2] at e1
   exact (hSt j t' dv' e1).fr fB hfr
end Go.Proofs.YtgcffmhpjphefaaGreatDoor

/- A table of timers in general: one is dropped. -/
namespace Go.Proofs.YtgcffmhpjphefaaGreatDoor
open Go Go.AE
set_option maxRecDepth 10000
set_option maxHeartbeats 8000000
variable {Z:Go.AE.Road}{s:Spans}

theorem tlookG{A:ASt}{m:Nat}{S:Nat→Prop}{D:TD}(h:MAt s A m S D)(k:ByteArray):∃ a0 a1 a2 a3 a4,aLookup E0 62 (.map (some m)) (.string k) true A=some (.tuple #[.agg #[a0,a1,a2,a3,a4],.bool (D k).isSome])∧singles [a0,a1,a2,a3,a4]=true:=by
 obtain ⟨l,ck,hg,hok,hD,hS⟩:=h
 have hl:=tlook hg k true
 have hk:=hD k
 cases hv:vget l k with
 | none=>
  rw [hv] at hl hk
  rw [← hk]
  exact ⟨_,_,_,_,_,hl,rfl⟩
 | some p=>
  obtain ⟨t,dv⟩:=p
  rw [hv] at hl hk
  rw [← hk]
  have hsd:=(hS k t dv hv).single
  exact ⟨_,_,_,_,_,hl,by
   show (true && (true && (true && (true && (single dv && true)))))=true
   rw [hsd];rfl⟩
abbrev wrT(m e w:Nat)(v:Value)(W all:Nat)(ms:List Nat):List Nat:=m::e::w::(slB v++W::all::ms)
theorem tdropC_spec{A:ASt}{x m q e w:Nat}{v:Value}{W all:Nat}{ms:List Nat}{now:Nat}{D:TD}{N F:TM}{S:Nat→Prop}{k:ByteArray}(h:Core s A x m q e w v W all ms now D N F S):
  CallW Z Tryz.prog 18 [.pointer (some ⟨x,0,none⟩),.string k] A (fun r A'=>r=.bool (D k).isSome∧∃ v',Core s A' x m q e w v' W all ms now (D.del k) (N.del k) (F.del k) S∧Fr (wrT m e w v W all ms) A A'∧∀ b∈slB v',b∈slB v∨A.next≤b):=by
 refine CallW.of_code E0_ok E0_ro fn18 rfl (n:=46) rfl (rs:=[.tmp 4]) rfl (by simp) (codeW_ok E0_ok E0_ro ?_)
 have h1:=h.hx
 obtain ⟨a0,a1,a2,a3,a4,hlk,hsg⟩:=tlookG h.hm k
 simp only [z_0,flat,Option.isNone,aFieldAddr,cond_true,cond_false,if_true,if_false,eq_self,Nat.reduceEqDiff,Nat.reduceAdd,Nat.reduceLT,reduceCtorEq,eqnilT,h1,hlk,al25,ptrTo]
 have hst:=st25 (A:=A.new (.row [.string ByteArray.empty,.int .i64 0,.int .u64 0,.int .u64 0,.slice none 0 0] 5 false)) (b:=A.next) (a0:=a0) (a1:=a1) (a2:=a2) (a3:=a3) (a4:=a4) (by rw [ASt.get_new,if_pos rfl]) hsg
 rw [hst]
 generalize hCd:(A.new (.row [.string ByteArray.empty,.int .i64 0,.int .u64 0,.int .u64 0,.slice none 0 0] 5 false)).set A.next _=C
 have fC:Fr [] A C:=⟨by rw [← hCd,ASt.next_set,ASt.next_new];omega,fun b hb _=>by rw [← hCd,ASt.get_set,if_neg (by omega),ASt.get_new,if_neg (by omega)]⟩
 clear hCd hst
 have hC:=h.fr0 fC
 have h2:=hC.hx
 obtain ⟨D1,hdl,hmD,fD1⟩:=hC.hm.del (fun b hb e1=>(hC.nr b hb).2.1 (by simp [e1])) k
 have hD1:=hC.map fD1 hmD (fun b hb=>.inl hb)
 have h3:=hD1.hx
 simp only [z_0,aFieldAddr,aBuiltin,cond_false,if_true,if_false,eq_self,Nat.reduceEqDiff,Nat.reduceLT,reduceCtorEq,h2,hdl]
 refine CodeW.seqf E0_ok E0_ro mixed noCon_ok [0,1,2,3,4,5,6,7,8,9,12,10,11] [] [[],[],[],[],[],[],[],[],[],[],[],[],[11]] (by simp only [reorder,reoGo,strip,List.map_cons,List.map_nil,opAt,remap,nth,Option.map,σ,place',List.length_cons,List.length_nil,Nat.reduceAdd];rfl) (by decide +kernel) (by kernel_rfl) (by kernel_rfl) (by kernel_rfl) (by kernel_rfl) ?_
 have len92:∀ B,aLen E0 84 (.slice (some ⟨D1.next+11,0,none⟩) 2 2) B=some (.int .i64 2):=fun B=>by simp only [aLen,w_tb];rfl
 simp only [z_0,flat,aFieldAddr,aBuiltin,cond_true,cond_false,if_true,if_false,List.length_cons,List.length_nil,eq_self,Nat.reduceEqDiff,Nat.reduceAdd,Nat.reduceLT,reduceCtorEq,q_0,q_1,q_2,f_0,hasN,E0_ron,List.length_cons,List.length_nil,h3,bs92,len92]
 generalize hEd:ASt.set _ (D1.next+11) _=D2
 have fE:Fr [] D1 D2:=⟨by rw [← hEd,ASt.next_set];exact Nat.le_add_right _ _,fun b hb _=>by rw [← hEd,ASt.get_set,if_neg (by omega),get_next]⟩
 have gE:D2.get (D1.next+11)=some (.row [fnV 41 W,fnV 42 q] 1 false):=by rw [← hEd,ASt.get_set,if_pos rfl]
 have nE:D1.next+11<D2.next:=by rw [← hEd,ASt.next_set];show D1.next+11<D1.next+13;omega
 have hbn:D1.next+11∉W::all::ms:=fun hm=>absurd (hD1.hW.below _ hm) (by omega)
 have hbl:A.next≤D1.next+11:=by have:=fC.next;have:=fD1.next;omega
 generalize D1.next+11=b at gE nE hbn hbl
 clear hEd len92
 have hE:=hD1.fr0 fE
 have fAE:Fr (wrT m e w v W all ms) A D2:=fC.nil.trans ((fD1.sub (by simp)).trans fE.nil)
 have ix0:aIndexAddr E0 84 (.slice (some ⟨b,0,none⟩) 2 2) (.int .i64 0)=some (.pointer (some ⟨b,0,none⟩)):=indexAddr_sl (A:=A) ti84 t84_desc ti43 (kd:=.i64) (k:=0) (b:=b) (off:=0) (len:=2) (cap:=2) (by omega)
 have ix1:aIndexAddr E0 84 (.slice (some ⟨b,0,none⟩) 2 2) (.int .i64 1)=some (.pointer (some ⟨b,1,none⟩)):=indexAddr_sl (A:=A) ti84 t84_desc ti43 (kd:=.i64) (k:=1) (b:=b) (off:=0) (len:=2) (cap:=2) (by omega)
 have subW:∀ b∈W::all::ms,b∈wrT m e w v W all ms:=fun b hb=>by
  simp only [wrT,List.mem_cons,List.mem_append] at hb ⊢
  exact .inr (.inr (.inr (.inr hb)))
 have subQ:∀ b∈e::w::slB v,b∈wrT m e w v W all ms:=fun b hb=>by
  simp only [wrT,List.mem_cons,List.mem_append] at hb ⊢
  rcases hb with h4 | h4 | h4
  ·exact .inr (.inl h4)
  ·exact .inr (.inr (.inl h4))
  ·exact .inr (.inr (.inr (.inl h4)))
 refine CodeW.mono (Q:=fun o=>∃ T' A',o=.fr ⟨.exit 0,T',A'⟩∧tget T' 6=.bool (D k).isSome∧∃ v',Core s A' x m q e w v' W all ms now (D.del k) (N.del k) (F.del k) S∧Fr (wrT m e w v W all ms) A A'∧∀ b∈slB v',b∈slB v∨A.next≤b) ?_ ?_
 ·refine CodeW.loopR (k:=2) (fun n T A'=>∃ i v',n=2-i∧i≤2∧tget T 37=.int .i64 ((i:Nat):Int)∧tget T 36=.int .i64 2∧tget T 35=.slice (some ⟨b,0,none⟩) 2 2∧tget T 1=.string k∧tget T 6=.bool (D k).isSome∧Core s A' x m q e w v' W all ms now (D.del k) (if i=2 then N.del k else N) (if i=0 then F else F.del k) S∧(i≤1→v'=v)∧(∀ b∈slB v',b∈slB v∨A.next≤b)∧Fr (wrT m e w v W all ms) A A'∧A'.get b=some (.row [fnV 41 W,fnV 42 q] 1 false)∧b<A'.next) ?_ ⟨0,v,rfl,by omega,?_,?_,?_,?_,?_,hE,fun _=>rfl,fun b hb=>.inl hb,fAE,gE,nE⟩
  ·rintro n T A1 ⟨i,v1,rfl,hi,u37,u36,u35,u1,u6,h4,hv1,hb1,f3,g3,n3⟩
   refine codeW_ok E0_ok E0_ro ?_
   by_cases i0:i=0
   ·subst i0
    have hv1:=hv1 (by omega)
    subst hv1
    have u37:tget T 37=.int .i64 0:=u37
    have d2:((0:Int)<2)=True:=eq_true (by omega)
    have w1:IntKind.i64.wrap (0+1)=1:=by kernel_rfl
    simp only [z_0,cond_false,if_true,if_false,List.append_nil,List.cons_append,List.nil_append,eq_self,Nat.reduceEqDiff,Nat.reduceLT,u37,u36,u35,u1,d2,ix0,g3,fnV]
    refine CallT.mono (CallT.of_call (drop_spec h4.hW k)) ?_
    rintro _ B ⟨rfl,hWB,fB⟩
    simp only [if_true] at hWB
    simp only [z_0,flat,cond_true,if_true,if_false,eq_self,Nat.reduceEqDiff,Nat.reduceSub,Nat.reduceLT,u37,w1]
    have h5:=h4.wheel fB hWB
    exact ⟨1,by omega,1,v1,rfl,by omega,rfl,u36,u35,u1,u6,h5,fun _=>rfl,hb1,f3.trans (fB.sub subW),(fB.get b n3 hbn).trans g3,Nat.lt_of_lt_of_le n3 fB.next⟩
   by_cases i1:i=1
   ·subst i1
    have hv1:=hv1 (by omega)
    subst hv1
    have u37:tget T 37=.int .i64 1:=u37
    have d2:((1:Int)<2)=True:=eq_true (by omega)
    have w1:IntKind.i64.wrap (1+1)=2:=by kernel_rfl
    simp only [z_0,cond_false,if_true,if_false,List.append_nil,List.cons_append,List.nil_append,eq_self,Nat.reduceEqDiff,Nat.reduceLT,u37,u36,u35,u1,d2,ix1,g3,fnV]
    refine CallT.mono (CallT.of_call (qdropG_spec (k:=k) h4.hq)) ?_
    rintro _ B ⟨rfl,v2,hqB,fB,hb2⟩
    simp only [z_0,flat,cond_true,if_true,if_false,eq_self,Nat.reduceEqDiff,Nat.reduceSub,Nat.reduceLT,u37,w1]
    have h5:=h4.queue fB hqB hb2
    have hnb:b∉e::w::slB v1:=by
     intro hm
     have hl:=h.lts
     simp only [List.mem_cons] at hm
     rcases hm with rfl | rfl | hm
     ·omega
     ·omega
     ·have:=(h.ns b hm).2;omega
    have n1:=f3.next
    exact ⟨0,by omega,2,v2,rfl,by omega,rfl,u36,u35,u1,u6,h5,fun h6=>absurd h6 (by omega),fun c hc=>by
     rcases hb2 c hc with h6 | h6
     ·exact .inl h6
     ·exact .inr (by omega),f3.trans (fB.sub subQ),(fB.get b n3 hnb).trans g3,Nat.lt_of_lt_of_le n3 fB.next⟩
   have:i=2:=by omega
   subst this
   have u37:tget T 37=.int .i64 2:=u37
   have d2:((2:Int)<2)=False:=eq_false (by omega)
   simp only [z_0,if_true,eq_self,Nat.reduceLT,u37,u36,d2]
   exact ⟨_,_,rfl,by simp only [tget_put,Nat.reduceEqDiff,if_false,u6],v1,h4,f3,hb1⟩
  all_goals first | rfl | (simp only [tget_put,Nat.reduceEqDiff,if_false,if_true,reduceIte];done)
 ·rintro o ⟨T',A',rfl,u6,h4⟩
  simp only [z_0,if_true,if_false,eq_self,Nat.reduceEqDiff,Nat.reduceLT,u6]
  exact h4
end Go.Proofs.YtgcffmhpjphefaaGreatDoor

/- A table of timers in general: one is laid. -/
namespace Go.Proofs.YtgcffmhpjphefaaGreatDoor
open Go Go.AE
set_option maxRecDepth 10000
set_option maxHeartbeats 8000000
variable {Z:Go.AE.Road}{s:Spans}

def UptoD(D:TD)(n:Nat):Prop:=∃ l:List ByteArray,l.length≤n∧∀ k,(D k).isSome=true→k∈l
theorem UptoD.few{D:TD}{n:Nat}(h:UptoD D n)(hn:n≤1000){p:Nat→Bool}:Few (fun k=>(D.at_ k).filter p):=by
 obtain ⟨l,h1,h2⟩:=h
 refine ⟨l,Nat.le_trans h1 hn,fun k hk=>h2 k ?_⟩
 unfold TD.at_ at hk
 dsimp only at hk
 cases hD:D k with
 | none=>rw [hD] at hk;cases hk
 | some t=>rfl
theorem UptoD.put{D:TD}{n:Nat}(h:UptoD D n)(t:TimD):UptoD (D.put t) (n+1):=by
 obtain ⟨l,h1,h2⟩:=h
 refine ⟨t.name::l,by simp only [List.length_cons];omega,fun k hk=>?_⟩
 unfold TD.put at hk
 by_cases e1:k=t.name
 ·exact List.mem_cons.2 (.inl e1)
 ·rw [if_neg e1] at hk
  exact List.mem_cons.2 (.inr (h2 k hk))
theorem UptoD.del{D:TD}{n:Nat}(h:UptoD D n)(k:ByteArray):UptoD (D.del k) n:=by
 obtain ⟨l,h1,h2⟩:=h
 refine ⟨l,h1,fun j hj=>h2 j ?_⟩
 unfold TD.del at hj
 by_cases e1:j=k
 ·rw [if_pos e1] at hj;cases hj
 ·rwa [if_neg e1] at hj
theorem TD.del_filter{D:TD}{p:Nat→Bool}{k:ByteArray}:(fun j=>((D.del k).at_ j).filter p)=TM.del (fun j=>(D.at_ j).filter p) k:=by
 funext j
 unfold TM.del TD.del TD.at_
 by_cases e1:j=k
 ·simp only [if_pos e1];rfl
 ·simp only [if_neg e1]
theorem TD.put_filter{D:TD}{p:Nat→Bool}{t:TimD}:(fun j=>((D.put t).at_ j).filter p)=if p t.at_=true then (TM.del (fun j=>(D.at_ j).filter p) t.name).put t.name t.at_ else TM.del (fun j=>(D.at_ j).filter p) t.name:=by
 by_cases hp:p t.at_=true
 ·rw [if_pos hp]
  funext j
  unfold TM.put TM.del TD.put TD.at_
  by_cases e1:j=t.name
  ·simp only [if_pos e1,Option.map_some,Option.filter_some,hp,if_true]
  ·simp only [if_neg e1]
 ·rw [if_neg hp]
  funext j
  unfold TM.del TD.put TD.at_
  by_cases e1:j=t.name
  ·simp only [if_pos e1,Option.map_some,Option.filter_some,hp]
   rfl
  ·simp only [if_neg e1]
structure TabAt(s:Spans)(A:ASt)(x m q e w:Nat)(v:Value)(W all:Nat)(ms:List Nat)(now n:Nat)(D:TD)(S:Nat→Prop):Prop where
 core:Core s A x m q e w v W all ms now D (D.near now) (D.far now) S
 ok:∀ k t,D k=some t→t.right∧t.name=k
 upto:UptoD D n
theorem tsetC_spec(hro:RoadS Z E0 s)(ht:TabZ Z){A:ASt}{x m q e w:Nat}{v:Value}{W all:Nat}{ms:List Nat}{now n:Nat}{D:TD}{S Sa:Nat→Prop}{t:TimD}{dv:Value}(h:TabAt s A x m q e w v W all ms now n D S)(hn:n≤1000)(hd:Steps (withRo E0 s) A Sa dv t.steps)(hs:StepsIn t.steps)(hat:t.at_<18446744073709551616)(hS:∀ b,Sa b→b<A.next→b∉wrT m e w v W all ms)(rx:(withRo E0 s).ro x=none):
  CallW Z Tryz.prog 9 [.pointer (some ⟨x,0,none⟩),tval t dv] A (fun r A'=>(t.right∧r=.int .i64 0∧(∃ v' S',TabAt s A' x m q e w v' W all ms now (n+1) (D.put t) S'∧(∀ b∈slB v',b∈slB v∨A.next≤b)∧(∀ b,S' b→S b∨A.next≤b))∨¬ t.right∧r=.int .i64 101∧TabAt s A' x m q e w v W all ms now n D S)∧Fr (wrT m e w v W all ms) A A'):=by
 refine CallW.assume hro fun hnr=>?_
 refine CallW.of_code (withRo_ok E0_ok) hro.ro (f:=9) (fn:=Tryz.f9) fn9 rfl (n:=43) rfl (rs:=[.tmp 4]) rfl (by simp) (codeW_ok (withRo_ok E0_ok) hro.ro ?_)
 have hsd:=hd.single
 have vd:=hd.ve
 have hc0:=h.core
 have hlx:=hc0.lts
 have hne:=hc0.nes
 simp only [w_w,z_0,flat,Option.isNone,cond_true,if_true,if_false,eq_self,Nat.reduceEqDiff,Nat.reduceAdd,Nat.reduceLT,reduceCtorEq,box25',ptrTo,eqnilT]
 generalize hCd:ASt.new A _=C
 have c1:C.get A.next=some (.row (tcell t dv) 5 false):=by rw [← hCd,ASt.get_new,if_pos rfl]
 have fC:Fr [] A C:=⟨by rw [← hCd,ASt.next_new];omega,fun b hb _=>by rw [← hCd,ASt.get_new,if_neg (by omega)]⟩
 have nC:C.next=A.next+1:=by rw [← hCd,ASt.next_new]
 have hcut:cut (tcell t dv) 0 5=some (tcell t dv):=rfl
 have hag:Value.agg (tcell t dv).toArray=tval t dv:=rfl
 have rp:(withRo E0 s).ro A.next=none:=hnr _ (Nat.le_refl _)
 have hwl:∀ b∈wrT m e w v W all ms,b<A.next:=fun b hb=>by
  simp only [wrT,List.mem_cons,List.mem_append] at hb
  rcases hb with rfl | rfl | rfl | hb | hb
  ·exact hlx.2.1
  ·exact hlx.2.2.2.1
  ·exact hlx.2.2.2.2.1
  ·exact (hc0.ns b hb).2
  ·exact hc0.hW.below b (by simpa using hb)
 have hxw:x∉wrT m e w v W all ms:=fun hb=>by
  simp only [wrT,List.mem_cons,List.mem_append] at hb
  rcases hb with hb | hb | hb | hb | hb
  ·exact hne.1.1 hb
  ·exact hne.1.2.2.1 hb
  ·exact hne.1.2.2.2.1 hb
  ·exact (hc0.ns x hb).1 (by simp)
  ·exact hne.1.2.2.2.2 (by simpa using hb)
 have hpA:A.next<C.next:=by omega
 have hApp:A.next≤A.next:=Nat.le_refl _
 generalize hpd:A.next=p at c1 rp hpA
 clear hCd
 simp only [w_w,z_0,if_true,if_false,List.append_nil,List.nil_append,eq_self,Nat.reduceEqDiff,Nat.reduceLT,reduceCtorEq,hcut,hag]
 refine CallT.mono (CallT.of_call (tright_spec hro ht (hd.fr fC (by simp)) hs)) ?_
 rintro _ D1 ⟨⟨b,rfl,hb⟩,fD⟩
 have c2:=(fD.get p hpA (by simp)).trans c1
 have hTD:=(hc0.fr0 fC).fr0 fD
 cases b with
 | false=>
  simp only [z_0,flat,cond_true,if_true,if_false,eq_self,Nat.reduceEqDiff,Nat.reduceLT,reduceCtorEq]
  exact ⟨.inr ⟨fun hr=>by simpa using hb.2 hr,hTD,h.ok,h.upto⟩,(fC.trans fD).nil⟩
 | true=>
  have hright:=hb.1 rfl
  simp only [w_w,z_0,aFieldAddr,cond_false,if_true,if_false,List.append_nil,List.nil_append,eq_self,Nat.reduceEqDiff,Nat.reduceLT,reduceCtorEq,c2,tcell]
  refine CallT.mono (CallT.of_call (tdropC_spec hTD)) ?_
  rintro _ F ⟨_,v1,hTF,fF,hv1⟩
  have hpn:p∉wrT m e w v W all ms:=fun hm=>by have:=hwl p hm;omega
  have nD:=fD.next
  have nF:=fF.next
  have c3:=(fF.get p (by omega) hpn).trans c2
  have hx3:=hTF.hx
  have hxp:x<p:=by omega
  have hdF:=((hd.fr fC (by simp)).fr fD (by simp)).fr fF (fun b h1 h2 hm=>by
   by_cases hb2:b<A.next
   ·exact hS b h1 hb2 hm
   ·exact hb2 (hwl b hm))
  have hRC:=RO_ok (Z:=Z) (P:=Tryz.prog) (f:=31) (ar:=[tval t dv]) (Pr:=fun A=>Steps (withRo E0 s) A Sa dv t.steps) (Sp:=fun A r A'=>∃ dv',r=tval t dv'∧Steps (withRo E0 s) A' (fun b=>A.next≤b) dv' t.steps∧Fr [] A A') (fun A hp=>copied_spec hro hp hs.1)
  have vm:valEq (.map (some m)) (.map (some m))=true:=valEq_map
  simp only [z_0,Nat.reduceLT]
  refine CodeW.seqf (withRo_ok E0_ok) hro.ro mixed hRC [0,1,2,3,4,5,6,7,8] [0,1,2,3,4,5] (fanOf _ _ _) (by simp only [reorder,reoGo,strip,List.map_cons,List.map_nil,opAt,remap,nth,Option.map,σ,place',List.length_cons,List.length_nil,Nat.reduceAdd];rfl) (by decide +kernel) (by kernel_rfl) (by kernel_rfl) (by kernel_rfl) rfl ?_
  have vt:valEq (.agg #[.string t.name,.int .i64 t.ver,.int .u64 (t.at_:Int),.int .u64 (t.every:Int),dv]) (.agg #[.string t.name,.int .i64 t.ver,.int .u64 (t.at_:Int),.int .u64 (t.every:Int),dv])=true:=val25 hd
  simp only [w_w,z_0,aFieldAddr,cond_true,cond_false,if_true,if_false,List.length_cons,List.length_nil,List.append_nil,List.nil_append,eq_self,Nat.reduceEqDiff,Nat.reduceAdd,Nat.reduceLT,reduceCtorEq,q_0,q_1,q_2,f_0,hasN,reorder,List.length_cons,List.length_nil,hx3,c3,rp,rx,vm,vt,tcell,cut5]
  refine conRO (hdF.fr (Fr.bump (own:=[]) (by omega)) (by simp)) ?_
  rintro r G ⟨dv',rfl,hdG,fG⟩
  have fFG:Fr [] F G:=(Fr.bump (n:=F.next+9) (by omega)).trans fG
  have nG:=fFG.next
  have nG2:F.next+9≤G.next:=fG.next
  have hTG0:=hTF.fr0 fFG
  -- the copy's steps belong to the table
  have hv1l:∀ b∈slB v1,b<F.next:=fun b hb=>(hTF.ns b hb).2
  have hTG:Core s G x m q e w v1 W all ms now (D.del t.name) ((D.near now).del t.name) ((D.far now).del t.name) (fun b=>S b∨F.next+9≤b∧b<G.next):=
   ⟨hTG0.hx,hTG0.hm.imp (fun b hb _=>.inl hb),hTG0.hq,hTG0.hW,hTG0.nd,hTG0.lt,hTG0.ns,fun b hb=>by
    rcases hb with hb | hb
    ·exact hTG0.nr b hb
    ·exact ⟨hb.2,fun hm=>by have:=hTF.lt b hm;omega,fun hm=>by have:=hv1l b hm;omega⟩⟩
  have c4:=(fFG.get p (by omega) (by simp)).trans c3
  have hx4:=hTG.hx
  obtain ⟨H,hup,hmH,fH⟩:=hTG.hm.put (fun b hb e1=>(hTG.nr b hb).2.1 (by simp [e1])) t (hdG.imp (fun b h1 h2=>.inr ⟨h1,h2⟩))
  have hH:=hTG.map fH hmH (fun b hb=>.inl hb)
  have hxH:=hH.hx
  have cH:=(fH.get p (by omega) (by simp;omega)).trans c4
  simp only [w_w,z_0,cond_false,if_true,if_false,eq_self,Nat.reduceEqDiff,Nat.reduceAdd,Nat.reduceLT,reduceCtorEq,q_0,q_1,f_0,reorder,exists_eq',hx4,c4,tcell,hup,hxH,cH]
  have nH:=fH.next
  have hRP:=RO_ok (Z:=Z) (P:=Tryz.prog) (f:=32) (ar:=[.pointer (some ⟨W,0,none⟩),.string t.name,.int .u64 (t.at_:Int)]) (Pr:=fun A=>WheelAt A W all ms now ((D.far now).del t.name)) (Sp:=fun A v A'=>v=.bool (decide (now<t.at_))∧WheelAt A' W all ms now (if now<t.at_ then ((D.far now).del t.name).put t.name t.at_ else (D.far now).del t.name)∧Fr (W::all::ms) A A') (fun A hp=>put_spec hp t.name hat)
  refine CodeW.seqf (withRo_ok E0_ok) hro.ro mixed hRP [0,1,2,3,4,5,6,7,8,9] [] (fanOf _ _ _) (by simp only [reorder,reoGo,strip,List.map_cons,List.map_nil,opAt,remap,nth,Option.map,σ,place',List.length_cons,List.length_nil,Nat.reduceAdd];rfl) (by decide +kernel) (by kernel_rfl) (by kernel_rfl) (by kernel_rfl) rfl ?_
  simp only [w_w,z_0,aFieldAddr,cond_false,if_true,if_false,List.length_cons,List.length_nil,List.append_nil,List.nil_append,eq_self,Nat.reduceEqDiff,Nat.reduceAdd,Nat.reduceLT,reduceCtorEq,q_0,q_1,q_2,f_0,hasN,reorder,List.length_cons,List.length_nil,hxH,cH,rp,rx,tcell]
  refine conRO (hH.hW.congr (Nat.le_add_right _ _) (fun _ _=>get_next)) ?_
  rintro _ J ⟨rfl,hWJ,fJ⟩
  have fHJ:Fr (W::all::ms) H J:=(Fr.bump (n:=H.next+10) (by omega)).trans fJ
  have nJ:=fHJ.next
  have hJ:=hH.wheel fHJ hWJ
  have hxJ:=hJ.hx
  have hpW:p∉W::all::ms:=fun hm=>by have:=hc0.hW.below p hm;omega
  have cJ:=(fHJ.get p (by omega) hpW).trans cH
  have subW:∀ b∈W::all::ms,b∈wrT m e w v W all ms:=fun b hb=>by
   simp only [wrT,List.mem_cons,List.mem_append] at hb ⊢
   exact .inr (.inr (.inr (.inr hb)))
  have fAJ:Fr (wrT m e w v W all ms) A J:=fC.nil.trans (fD.nil.trans (fF.trans (fFG.nil.trans ((fH.sub (by simp)).trans (fHJ.sub subW)))))
  have hok':∀ k t',D.put t k=some t'→t'.right∧t'.name=k:=fun k t' hk=>by
   unfold TD.put at hk
   by_cases e1:k=t.name
   ·rw [if_pos e1] at hk
    cases hk
    exact ⟨hright,e1.symm⟩
   ·rw [if_neg e1] at hk
    exact h.ok k t' hk
  have eD:(D.del t.name).put t=D.put t:=by
   funext j
   unfold TD.put TD.del
   by_cases e1:j=t.name
   ·rw [if_pos e1,if_pos e1]
   ·rw [if_neg e1,if_neg e1,if_neg e1]
  rw [eD] at hJ
  have hnear:TD.near (D.put t) now=if now<t.at_ then (D.near now).del t.name else ((D.near now).del t.name).put t.name t.at_:=by
   have:=TD.put_filter (D:=D) (p:=fun a=>decide (a≤now)) (t:=t)
   show (fun j=>((D.put t).at_ j).filter fun a=>decide (a≤now))=_
   rw [this]
   by_cases hlt:now<t.at_
   ·rw [if_pos hlt,if_neg (by simpa using hlt)];rfl
   ·rw [if_neg hlt,if_pos (by simpa using hlt)];rfl
  have hfar:TD.far (D.put t) now=if now<t.at_ then ((D.far now).del t.name).put t.name t.at_ else (D.far now).del t.name:=by
   have:=TD.put_filter (D:=D) (p:=fun a=>decide (now<a)) (t:=t)
   show (fun j=>((D.put t).at_ j).filter fun a=>decide (now<a))=_
   rw [this]
   by_cases hlt:now<t.at_
   ·rw [if_pos hlt,if_pos (by simpa using hlt)];rfl
   ·rw [if_neg hlt,if_neg (by simpa using hlt)];rfl
  have hSg:∀ b,(S b∨F.next+9≤b∧b<G.next)→S b∨p≤b:=fun b hb=>by
   rcases hb with hb | hb
   ·exact .inl hb
   ·exact .inr (by omega)
  have hv1':∀ b∈slB v1,b∈slB v∨p≤b:=fun b hb=>by
   rcases hv1 b hb with h3 | h3
   ·exact .inl h3
   ·exact .inr (by omega)
  by_cases hlt:now<t.at_
  ·have dl:=eq_true hlt
   simp only [z_0,flat,cond_true,if_true,if_false,eq_self,Nat.reduceEqDiff,Nat.reduceAdd,Nat.reduceLT,reduceCtorEq,q_0,q_2,f_0,reorder,dl]
   rw [if_pos hlt] at hJ hfar hnear
   rw [← hfar,← hnear] at hJ
   exact ⟨.inl ⟨hright,v1,_,⟨hJ,hok',h.upto.put t⟩,hv1',hSg⟩,fAJ⟩
  ·have dl:=eq_false hlt
   simp only [z_0,if_true,if_false,eq_self,Nat.reduceEqDiff,Nat.reduceAdd,Nat.reduceLT,reduceCtorEq,q_0,q_2,f_0,reorder,dl]
   rw [if_neg hlt] at hJ hfar hnear
   rw [← hfar] at hJ
   have hRQ:=RO_ok (Z:=Z) (P:=Tryz.prog) (f:=33) (ar:=[.pointer (some ⟨q,0,none⟩),.string t.name,.int .u64 (t.at_:Int)]) (Pr:=fun A=>QAt A q e w v1 ((D.near now).del t.name)) (Sp:=fun A _ A'=>∃ v',QAt A' q e w v' (((D.near now).del t.name).put t.name t.at_)∧Fr (e::w::slB v1) A A'∧∀ b∈slB v',b∈slB v1∨A.next≤b) (fun A hp=>qputG_spec hp (by
    have:=(h.upto.del t.name).few hn (p:=fun a=>decide (a≤now))
    rw [TD.del_filter] at this
    exact this))
   refine CodeW.seqf (withRo_ok E0_ok) hro.ro mixed hRQ [0,1,2,3,4,5,6,7,8] [] (fanOf _ _ _) (by simp only [reorder,reoGo,strip,List.map_cons,List.map_nil,opAt,remap,nth,Option.map,σ,place',List.length_cons,List.length_nil,Nat.reduceAdd];rfl) (by decide +kernel) (by kernel_rfl) (by kernel_rfl) (by kernel_rfl) rfl ?_
   simp only [w_w,z_0,aFieldAddr,cond_false,if_true,if_false,List.length_cons,List.length_nil,List.append_nil,List.nil_append,eq_self,Nat.reduceEqDiff,Nat.reduceAdd,Nat.reduceLT,reduceCtorEq,q_0,q_1,q_2,f_0,hasN,reorder,List.length_cons,List.length_nil,hxJ,cJ,rp,rx,tcell]
   have hJb:=hJ.fr0 (Fr.bump (n:=J.next+9) (by omega))
   refine conRO hJb.hq ?_
   rintro _ L ⟨v2,hqL,fL,hv2⟩
   have hL:=hJb.queue fL hqL hv2
   rw [← hnear] at hL
   simp only [z_0,flat,cond_true,if_true,if_false,eq_self,Nat.reduceEqDiff,Nat.reduceAdd,Nat.reduceLT,reduceCtorEq,f_0,reorder]
   have nL:=fL.next
   have nL2:J.next+9≤L.next:=nL
   refine ⟨.inl ⟨hright,v2,_,⟨hL,hok',h.upto.put t⟩,fun b hb=>?_,hSg⟩,⟨by omega,fun b hb hn2=>?_⟩⟩
   ·rcases hv2 b hb with h3 | h3
    ·exact hv1' b h3
    ·have h3:J.next+9≤b:=h3
     exact .inr (by omega)
   ·rw [fL.get b (by show b<J.next+9;omega) (fun hm=>?_),get_next,fAJ.get b hb hn2]
    simp only [List.mem_cons] at hm
    rcases hm with h3 | h3 | h3
    ·exact hn2 (by simp [h3])
    ·exact hn2 (by simp [h3])
    ·rcases hv1' b h3 with h5 | h5
     ·exact hn2 (by simp [h5])
     ·omega
end Go.Proofs.YtgcffmhpjphefaaGreatDoor

/- What is got of a table. -/
namespace Go.Proofs.YtgcffmhpjphefaaGreatDoor
open Go Go.AE
set_option maxRecDepth 10000
set_option maxHeartbeats 8000000
variable {Z:Go.AE.Road}{s:Spans}

theorem tget_gen(hro:RoadS Z E0 s){A:ASt}{S:Nat→Prop}{x m q W:Nat}{u:TimD}{du:Value}{bo:Bool}{k:ByteArray}{c:AObj}(hx:A.get x=some (.row [.map (some m),.pointer (some ⟨q,0,none⟩),.pointer (some ⟨W,0,none⟩)] 3 false))(hc:A.get m=some c)(hlt:x<A.next∧m<A.next)(hl:∀ B:ASt,B.get m=some c→aLookup E0 62 (.map (some m)) (.string k) true B=some (.tuple #[tval u du,.bool bo]))(hd:Steps (withRo E0 s) A S du u.steps)(hs:u.steps.length≤1000):
  CallW Z Tryz.prog 14 [.pointer (some ⟨x,0,none⟩),.string k] A (fun r A'=>∃ du',r=.tuple #[tval u du',.bool bo]∧Steps (withRo E0 s) A' (fun b=>A.next≤b) du' u.steps∧Fr [] A A'):=by
 refine CallW.of_code (withRo_ok E0_ok) hro.ro (f:=14) (fn:=Tryz.f14) fn14 rfl (n:=23) rfl (rs:=[.cell 4 30,.tmp 5]) rfl (by simp) (codeW_ok (withRo_ok E0_ok) hro.ro ?_)
 have hsd:=hd.single
 have exn:(x=A.next)=False:=eq_false (by omega)
 have hmB:(A.new (.row [.string ByteArray.empty,.int .i64 0,.int .u64 0,.int .u64 0,.slice none 0 0] 5 false)).get m=some c:=by rw [ASt.get_new,if_neg (by omega)];exact hc
 simp only [w_w,z_0,flat,Option.isNone,aFieldAddr,cond_true,cond_false,if_true,if_false,eq_self,Nat.reduceEqDiff,Nat.reduceAdd,Nat.reduceLT,reduceCtorEq,al25,ptrTo,eqnilT,exn,hx,hl _ hmB]
 obtain ⟨c4,c6z,nBz,fBz⟩:=two_new (A:=A) (x:=.row [.string ByteArray.empty,.int .i64 0,.int .u64 0,.int .u64 0,.slice none 0 0] 5 false) (y:=.row [.string ByteArray.empty,.int .i64 0,.int .u64 0,.int .u64 0,.slice none 0 0] 5 false) rfl
 generalize (A.new (.row [.string ByteArray.empty,.int .i64 0,.int .u64 0,.int .u64 0,.slice none 0 0] 5 false)).new (.row [.string ByteArray.empty,.int .i64 0,.int .u64 0,.int .u64 0,.slice none 0 0] 5 false)=B at c4 c6z nBz fBz ⊢
 have hst:=st25 (A:=B) (b:=A.next+1) (a0:=.string u.name) (a1:=.int .i64 u.ver) (a2:=.int .u64 (u.at_:Int)) (a3:=.int .u64 (u.every:Int)) (a4:=du) c6z (tim_sg hsd)
 have hst:aStore E0 30 (.pointer (some ⟨A.next+1,0,none⟩)) (tval u du) B=some (B.set (A.next+1) (.row [.string u.name,.int .i64 u.ver,.int .u64 (u.at_:Int),.int .u64 (u.every:Int),du] 5 false)):=hst
 rw [hst]
 generalize hCd:B.set (A.next+1) _=C
 have c6:C.get (A.next+1)=some (.row [.string u.name,.int .i64 u.ver,.int .u64 (u.at_:Int),.int .u64 (u.every:Int),du] 5 false):=by rw [← hCd,ASt.get_set,if_pos rfl]
 have fBC:Fr [A.next+1] B C:=⟨by rw [← hCd,ASt.next_set];exact Nat.le_refl _,fun b hb hn=>by rw [← hCd,ASt.get_set,if_neg (by simpa using hn)]⟩
 have nC:C.next=A.next+2:=by rw [← hCd,ASt.next_set];exact nBz
 have fC:Fr [] A C:=⟨by omega,fun b hb _=>by rw [fBC.get b (by omega) (by simp only [List.mem_singleton];omega)];exact fBz.get b hb (by simp)⟩
 have c4C:=(fBC.get A.next (by omega) (by simp only [List.mem_singleton];omega)).trans c4
 clear hCd hst
 simp only [w_w,z_0,cond_true,if_true,if_false,List.append_nil,List.nil_append,eq_self,Nat.reduceEqDiff,Nat.reduceLT,reduceCtorEq,c6,cut5]
 refine CallT.mono (CallT.of_call (copied_spec (t:=u) hro (hd.fr fC (by simp)) hs)) ?_
 rintro _ D ⟨dv',rfl,hdD,fD⟩
 have c4D:=(fD.get A.next (by omega) (by simp)).trans c4C
 have hst2:=st25 (a0:=.string u.name) (a1:=.int .i64 u.ver) (a2:=.int .u64 (u.at_:Int)) (a3:=.int .u64 (u.every:Int)) (a4:=dv') c4D (tim_sg hdD.single)
 have hst2:aStore E0 30 (.pointer (some ⟨A.next,0,none⟩)) (tval u dv') D=some (D.set A.next (.row [.string u.name,.int .i64 u.ver,.int .u64 (u.at_:Int),.int .u64 (u.every:Int),dv'] 5 false)):=hst2
 simp only [w_w,z_0,cond_true,if_true,if_false,eq_self,Nat.reduceEqDiff,Nat.reduceLT,reduceCtorEq,hst2,cut5]
 have fF:Fr [A.next] D (D.set A.next (.row [.string u.name,.int .i64 u.ver,.int .u64 (u.at_:Int),.int .u64 (u.every:Int),dv'] 5 false)):=⟨by rw [ASt.next_set];exact Nat.le_refl _,fun b hb hn=>by rw [ASt.get_set,if_neg (by simpa using hn)]⟩
 have nD:=fD.next
 refine ⟨dv',rfl,(hdD.fr fF (fun b h1 _ hm=>by simp only [List.mem_singleton] at hm;omega)).imp (fun b h1 _=>by omega),⟨by rw [ASt.next_set];omega,fun b hb _=>?_⟩⟩
 rw [ASt.get_set,if_neg (by omega),fD.get b (by omega) (by simp),fC.get b hb (by simp)]
end Go.Proofs.YtgcffmhpjphefaaGreatDoor

/- A table of timers in general: the clock is moved on. -/
namespace Go.Proofs.YtgcffmhpjphefaaGreatDoor
open Go Go.AE
set_option maxRecDepth 10000
set_option maxHeartbeats 8000000
variable {Z:Go.AE.Road}{s:Spans}

abbrev zTimD:TimD:=⟨ByteArray.empty,0,0,0,[]⟩
theorem TimD.right.steps{t:TimD}(h:t.right):t.steps.length≤1000:=by have:=h.1.1;omega
theorem tgetC_spec(hro:RoadS Z E0 s){A:ASt}{x m q e w:Nat}{v:Value}{W all:Nat}{ms:List Nat}{now n:Nat}{D:TD}{S:Nat→Prop}{k:ByteArray}(h:TabAt s A x m q e w v W all ms now n D S):
  CallW Z Tryz.prog 14 [.pointer (some ⟨x,0,none⟩),.string k] A (fun r A'=>∃ du',r=.tuple #[tval ((D k).getD zTimD) du',.bool (D k).isSome]∧Steps (withRo E0 s) A' (fun b=>A.next≤b) du' ((D k).getD zTimD).steps∧Fr [] A A'):=by
 obtain ⟨l,ck,hg,hok,hD,hS⟩:=h.core.hm
 have hlx:=h.core.lts
 have hk:=hD k
 cases hv:vget l k with
 | none=>
  rw [hv] at hk
  rw [← hk]
  refine tget_gen hro (S:=S) (u:=zTimD) (du:=.slice none 0 0) (bo:=false) h.core.hx hg ⟨hlx.1,hlx.2.1⟩ (fun B hB=>?_) (.inl ⟨rfl,.inl rfl⟩) (by simp)
  rw [tlook hB k true,hv]
  rfl
 | some p=>
  obtain ⟨t,dv⟩:=p
  rw [hv] at hk
  rw [← hk]
  refine tget_gen hro (S:=S) (u:=t) (du:=dv) (bo:=true) h.core.hx hg ⟨hlx.1,hlx.2.1⟩ (fun B hB=>?_) (hS k t dv hv) (h.ok k t hk.symm).1.steps
  rw [tlook hB k true,hv]
  rfl
theorem tclockC_spec{A:ASt}{x m q e w:Nat}{v:Value}{W all:Nat}{ms:List Nat}{now:Nat}{D:TD}{N F:TM}{S:Nat→Prop}(h:Core s A x m q e w v W all ms now D N F S):
  CallW Z Tryz.prog 13 [.pointer (some ⟨x,0,none⟩)] A (fun r A'=>r=.int .u64 (now:Int)∧A=A'):=by
 refine CallW.of_code E0_ok E0_ro fn13 rfl (n:=10) rfl (rs:=[.tmp 2]) rfl (by simp) (codeW_ok E0_ok E0_ro ?_)
 have h1:=h.hx
 simp only [z_0,flat,Option.isNone,aFieldAddr,cond_true,cond_false,if_true,if_false,List.append_nil,List.nil_append,eq_self,Nat.reduceEqDiff,Nat.reduceLT,reduceCtorEq,eqnilT,h1]
 refine CallT.mono (CallT.of_call (clock_spec h.hW.row)) ?_
 rintro _ _ ⟨rfl,rfl⟩
 simp only [z_0,if_true,if_false,eq_self,Nat.reduceEqDiff,Nat.reduceLT,reduceCtorEq]

theorem bs34{k:ByteArray}:aBuildSlice E0 34 1 [(0,.string k)]=some (.row [.string k] 1 false,fun id=>.slice (some ⟨id,0,none⟩) 1 1):=by
 simp only [aBuildSlice,w_0,w_so];rfl
theorem app34{A:ASt}{lo n p:Nat}{r:Value}{cs:List Value}{k:ByteArray}{tl:Bool}(h:OwnS A lo 1 n r cs)(hp:A.get p=some (.row [.string k] 1 tl))(hn:n≤100000)(hlo:lo≤A.next):
  ∃ r' B,aAppend E0 34 34 r (.slice (some ⟨p,0,none⟩) 1 1) A=.val r' B∧OwnS B lo 1 (n+1) r' (cs++[.string k])∧Fr (slB r) A B∧∀ b∈slB r',b∈slB r∨A.next≤b:=by
 have srcE:srcCells E0 1 (.slice (some ⟨p,0,none⟩) 1 1) 1 A=some [.string k]:=by
  simp only [srcCells,hp]
  rfl
 exact h.app (E:=E0) (xt:=34) (x:=.slice (some ⟨p,0,none⟩) 1 1) (m:=1) ti34 t34_desc ti9 t9_size ti34 (by rw [t34_desc];rfl) t9_zero rfl rfl (by omega) rfl srcE rfl rfl (by rw [t9_bytes];omega) hlo
theorem al77:aAlloc E0 77=some (.row [.string ByteArray.empty,.int .u64 0] 2 false,ptrTo):=by
 simp only [aAlloc,w_wh];rfl
theorem newstore77{A:ASt}{k:ByteArray}{a:Nat}:∃ C,aStore E0 77 (.pointer (some ⟨A.next,0,none⟩)) (.agg #[.string k,.int .u64 (a:Int)]) (A.new (.row [.string ByteArray.empty,.int .u64 0] 2 false))=some C∧Fr [] A C∧C.get A.next=some (.row [.string k,.int .u64 (a:Int)] 2 false)∧C.next=A.next+1:=by
 have hst:aStore E0 77 (.pointer (some ⟨A.next,0,none⟩)) (.agg #[.string k,.int .u64 (a:Int)]) (A.new (.row [.string ByteArray.empty,.int .u64 0] 2 false))=some ((A.new (.row [.string ByteArray.empty,.int .u64 0] 2 false)).set A.next (.row [.string k,.int .u64 (a:Int)] 2 false)):=by
  have hg:(A.new (.row [.string ByteArray.empty,.int .u64 0] 2 false)).get A.next=some (.row [.string ByteArray.empty,.int .u64 0] 2 false):=by rw [ASt.get_new,if_pos rfl]
  simp only [aStore,hg,w_wh];rfl
 refine ⟨_,hst,⟨by rw [ASt.next_set,ASt.next_new];omega,fun b hb _=>by rw [ASt.get_set,if_neg (by omega),ASt.get_new,if_neg (by omega)]⟩,by rw [ASt.get_set,if_pos rfl],by rw [ASt.next_set,ASt.next_new]⟩
theorem ix75{b i n c:Nat}(h:i<n):aIndexAddr E0 75 (.slice (some ⟨b,0,none⟩) n c) (.int .i64 (i:Int))=some (.pointer (some ⟨b,i*2,none⟩)):=by
 have:=indexAddr_sl (A:={ heap:=.e,next:=0 }) ti75 t75_desc ti77 (kd:=.i64) (k:=i) (b:=b) (off:=0) (len:=n) (cap:=c) h
 rwa [t77_size,Nat.zero_add] at this
theorem len75{v:Value}{ts:List (ByteArray×Nat)}{A B:ASt}{lo:Nat}(h:SliceAt A lo v ts):aLen E0 75 v B=some (.int .i64 (ts.length:Int)):=by
 rcases h with ⟨rfl,rfl⟩ | ⟨b,cap,rest,tl,rfl,_⟩
 ·simp only [aLen,w_wh];rfl
 ·simp only [aLen,w_wh];rfl
def strs(l:List (ByteArray×Nat)):List Value:=l.map fun p=>.string p.1
theorem take_snoc{α:Type}{l:List α}{i:Nat}{x:α}(h:l[i]? = some x):l.take (i+1)=l.take i++[x]:=by
 rw [List.take_add_one,h];rfl
def NamesAt(A:ASt)(lo:Nat)(r:Value)(l:List (ByteArray×Nat)):Prop:=OwnS A lo 1 l.length r (strs l)
theorem listsSmall{D:TD}{p:Nat→Bool}{ts:List (ByteArray×Nat)}{n:Nat}(hL:Lists (fun k=>(D.at_ k).filter p) ts)(hu:UptoD D n):ts.length≤n:=by
 obtain ⟨ls,hl1,hl2⟩:=hu
 have hat:∀ y∈ts,D.at_ y.1=some y.2:=fun y hy=>by
  have:=(hL.mem y.1 y.2).1 hy
  rw [Option.filter_eq_some_iff] at this
  exact this.1
 have hnd:(ts.map (·.1)).Nodup:=by
  rw [List.nodup_iff_pairwise_ne,List.pairwise_map]
  refine (List.Pairwise.and_mem.1 hL.ord).imp ?_
  rintro a b ⟨ha,hb,hab⟩ e
  have h5:=hat a ha
  have e:a.1=b.1:=e
  rw [e,hat b hb] at h5
  have e3:a=b:=Prod.ext e (Option.some.inj h5).symm
  rw [e3] at hab
  exact tlt_irr _ hab
 have:=nodup_leG hnd (l:=ls) (fun k hk=>by
  obtain ⟨y,hx,rfl⟩:=List.mem_map.1 hk
  refine hl2 _ ?_
  have h5:=hat y hx
  unfold TD.at_ at h5
  cases hD:D y.1 with
  | none=>rw [hD] at h5;cases h5
  | some t=>rfl)
 rw [List.length_map] at this
 omega
theorem tadvC_spec{A:ASt}{x m q e w:Nat}{v:Value}{W all:Nat}{ms:List Nat}{now n nw:Nat}{D:TD}{S:Nat→Prop}(h:TabAt s A x m q e w v W all ms now n D S)(hn:n≤1000)(hnw:nw<18446744073709551616):
  CallW Z Tryz.prog 11 [.pointer (some ⟨x,0,none⟩),.int .u64 (nw:Int)] A (fun r A'=>∃ L,Lists (fun k=>(D.at_ k).filter fun a=>decide (now<a) && decide (a≤nw)) L∧NamesAt A' A.next r L∧∃ v',TabAt s A' x m q e w v' W all ms (max now nw) n D S∧(∀ b∈slB v',b∈slB v∨A.next≤b)∧Fr (wrT m e w v W all ms) A A'):=by
 refine CallW.of_code E0_ok E0_ro fn11 rfl (n:=37) rfl (rs:=[.tmp 4]) rfl (by simp) (codeW_ok E0_ok E0_ro ?_)
 have hc0:=h.core
 have h1:=hc0.hx
 have hlx:=hc0.lts
 have hne:=hc0.nes
 simp only [z_0,flat,Option.isNone,aFieldAddr,cond_true,cond_false,if_true,if_false,List.append_nil,List.nil_append,eq_self,Nat.reduceEqDiff,Nat.reduceAdd,Nat.reduceLT,reduceCtorEq,eqnilT,h1]
 refine CallT.mono (CallT.of_call (advance_spec hc0.hW (h.upto.few hn) hnw)) ?_
 rintro tv B hB
 -- what the wheel's Advance gives, both ways
 have hB2:∃ ts,Lists (fun k=>(D.at_ k).filter fun a=>decide (now<a) && decide (a≤nw)) ts∧SliceAt B A.next tv ts∧WheelAt B W all ms (max now nw) (D.far (max now nw))∧Fr (W::all::ms) A B:=by
  by_cases hlt:nw<now
  ·rw [if_pos hlt] at hB
   obtain ⟨rfl,hW,fB⟩:=hB
   refine ⟨[],⟨fun k a=>?_,.nil⟩,.inl ⟨rfl,rfl⟩,by rw [Nat.max_eq_left (by omega)];exact hW,fB⟩
   constructor
   ·intro hm;cases hm
   ·intro hk
    rw [Option.filter_eq_some_iff] at hk
    simp only [Bool.and_eq_true,decide_eq_true_eq] at hk
    omega
  ·rw [if_neg hlt] at hB
   obtain ⟨ts,hL,hS,hW,fB⟩:=hB
   have e1:(fun k=>(D.far now k).filter fun a=>decide (a≤nw))=fun k=>(D.at_ k).filter fun a=>decide (now<a) && decide (a≤nw):=by
    funext k
    unfold TD.far
    rw [Option.filter_filter]
   have e2:(fun k=>(D.far now k).filter fun a=>decide (nw<a))=D.far (max now nw):=by
    funext k
    unfold TD.far
    rw [Option.filter_filter,Nat.max_eq_right (by omega)]
    congr 1
    funext a
    by_cases h3:nw<a
    ·simp [h3];omega
    ·simp [h3]
   rw [e1] at hL
   rw [e2] at hW
   exact ⟨ts,hL,hS,by rw [Nat.max_eq_right (by omega)] at hW ⊢;exact hW,fB⟩
 clear hB
 obtain ⟨ts,hL,hS,hW,fB⟩:=hB2
 have hcB:=hc0.wheel fB hW
 have nB:=fB.next
 obtain ⟨bo,cp,rfl⟩:∃ bo cp,tv=.slice bo ts.length cp:=by
  rcases hS with ⟨rfl,rfl⟩ | ⟨b,cap,rest,tl,rfl,_⟩
  ·exact ⟨_,_,rfl⟩
  ·exact ⟨_,_,rfl⟩
 have hlen:=fun B2=>len75 (B:=B2) hS
 have hLat:∀ k a,(k,a)∈ts→D.at_ k=some a:=fun k a hm=>by
  have:=(hL.mem k a).1 hm
  rw [Option.filter_eq_some_iff] at this
  exact this.1
 have hNat:∀ k a,D.near now k=some a→D.at_ k=some a:=fun k a hm=>by
  unfold TD.near at hm
  rw [Option.filter_eq_some_iff] at hm
  exact hm.1
 have subQ:∀ v',(∀ b∈slB v',b∈slB v∨B.next≤b)→∀ b∈e::w::slB v',b∈wrT m e w v W all ms∨A.next≤b:=fun v' hv' b hb=>by
  simp only [wrT,List.mem_cons,List.mem_append] at hb ⊢
  rcases hb with h4 | h4 | h4
  ·exact .inl (.inr (.inl h4))
  ·exact .inl (.inr (.inr (.inl h4)))
  ·rcases hv' b h4 with h5 | h5
   ·exact .inl (.inr (.inr (.inr (.inl h5))))
   ·exact .inr (by omega)
 have subW:∀ b∈W::all::ms,b∈wrT m e w v W all ms:=fun b hb=>by
  simp only [wrT,List.mem_cons,List.mem_append] at hb ⊢
  exact .inr (.inr (.inr (.inr hb)))
 have hownA:∀ b∈ownT x m q e w W all ms,b<A.next:=hc0.lt
 have hSA:∀ b,S b→b<A.next:=fun b hb=>(hc0.nr b hb).1
 simp only [z_0,flat,aBuiltin,cond_true,if_true,if_false,eq_self,Nat.reduceEqDiff,Nat.reduceLT,reduceCtorEq,hlen]
 refine CodeW.mono (Q:=fun o=>∃ T' A',o=.fr ⟨.exit 0,T',A'⟩∧∃ r v',tget T' 5=r∧Core s A' x m q e w v' W all ms (max now nw) D (D.near (max now nw)) (D.far (max now nw)) S∧OwnS A' A.next 1 ts.length r (strs ts)∧(∀ b∈slB v',b∈slB v∨A.next≤b)∧Fr (wrT m e w v W all ms) A A') ?_ ?_
 ·refine CodeW.loopR (k:=ts.length) (fun n T A'=>∃ (i:Nat) (r v':Value) (N':TM),n=ts.length-i∧i≤ts.length∧tget T 17=.int .i64 (i:Int)∧tget T 16=.int .i64 (ts.length:Int)∧tget T 15=.slice bo ts.length cp∧tget T 0=.pointer (some ⟨x,0,none⟩)∧tget T 5=r∧Core s A' x m q e w v' W all ms (max now nw) D N' (D.far (max now nw)) S∧(∀ k a,N' k=some a↔(k,a)∈ts.take i∨D.near now k=some a)∧OwnS A' B.next 1 i r (strs (ts.take i))∧(∀ b∈slB v',b∈slB v∨B.next≤b)∧(∀ b∈slB r,b∉slB v')∧Fr (wrT m e w v W all ms) A A'∧SliceAt A' A.next (.slice bo ts.length cp) ts∧(∀ b∈slB (.slice bo ts.length cp),A.next≤b∧b<B.next)∧B.next≤A'.next) ?_ ?_
  ·rintro k T A1 ⟨i,r,v1,N1,rfl,hi,u17,u16,u15,u0,u5,hc1,hN1,hO1,hv1,hrv,f1,hS1,htv,nA1⟩
   refine codeW_ok E0_ok E0_ro ?_
   by_cases hlt:i<ts.length
   ·have d1:((i:Int)<(ts.length:Int))=True:=eq_true (by omega)
    obtain ⟨y,hy⟩:∃ y,ts[i]? = some y:=⟨_,List.getElem?_eq_getElem hlt⟩
    obtain ⟨b,cap,rest,tl,etv,hb,hlb,hbn,rfl,rfl,rfl⟩:∃ b cap rest tl,(.slice bo ts.length cp:Value)=.slice (some ⟨b,0,none⟩) ts.length cap∧A1.get b=some (.row (tcells ts++rest) 2 tl)∧A.next≤b∧b<A1.next∧cap=unk∧rest=[]∧tl=true:=by
     rcases hS1 with ⟨hl,_⟩ | h3
     ·rw [hl] at hlt;simp at hlt
     ·exact h3
    cases etv
    have hbB:=htv b (by simp [slB])
    obtain ⟨C,hst,fC,gC,nC⟩:=newstore77 (A:=A1) (k:=y.1) (a:=y.2)
    have hc2:=hc1.fr0 fC
    have h2:=hc2.hx
    have hcut:cut (tcells ts) (i*2) 2=some [.string y.1,.int .u64 (y.2:Nat)]:=by
     have:=qcut (rest:=[]) hy
     rwa [List.append_nil] at this
    simp only [z_0,cond_true,if_true,if_false,List.append_nil,eq_self,Nat.reduceEqDiff,Nat.reduceLT,u17,u16,u15,d1,ix75 hlt,hb,hcut,al77,ptrTo]
    rw [hst]
    clear hst
    simp only [z_0]
    have hRQ:=RO_ok (Z:=Z) (P:=Tryz.prog) (f:=33) (ar:=[.pointer (some ⟨q,0,none⟩),.string y.1,.int .u64 (y.2:Int)]) (Pr:=fun A=>QAt A q e w v1 N1) (Sp:=fun A _ A'=>∃ v',QAt A' q e w v' (N1.put y.1 y.2)∧Fr (e::w::slB v1) A A'∧∀ b∈slB v',b∈slB v1∨A.next≤b) (fun A hp=>qputG_spec hp (by
     obtain ⟨ls,hl1,hl2⟩:=h.upto
     refine ⟨ls,by omega,fun k hk=>hl2 k ?_⟩
     obtain ⟨a,ha⟩:=Option.isSome_iff_exists.1 hk
     have:D.at_ k=some a:=by
      rcases (hN1 k a).1 ha with h3 | h3
      ·exact hLat k a (List.mem_of_mem_take h3)
      ·exact hNat k a h3
     unfold TD.at_ at this
     cases hD:D k with
     | none=>rw [hD] at this;cases this
     | some t=>rfl))
    refine CodeW.seqf E0_ok E0_ro mixed hRQ [0,1,2,3,4,5,6,7,8] [] (fanOf _ _ _) (by simp only [reorder,reoGo,strip,List.map_cons,List.map_nil,opAt,remap,nth,Option.map,σ,place',List.length_cons,List.length_nil,Nat.reduceAdd];rfl) (by decide +kernel) (by kernel_rfl) (by kernel_rfl) (by kernel_rfl) rfl ?_
    simp only [z_0,aFieldAddr,cond_false,if_true,if_false,List.length_cons,List.length_nil,List.append_nil,List.nil_append,eq_self,Nat.reduceEqDiff,Nat.reduceAdd,Nat.reduceLT,reduceCtorEq,q_0,q_1,q_2,f_0,hasN,reorder,E0_ron,List.length_cons,List.length_nil,u0,h2,gC]
    have fC9:Fr [] C { heap:=C.heap,next:=C.next+9 }:=Fr.bump (by omega)
    have hb3:=hc2.fr0 fC9
    refine conRO hb3.hq ?_
    rintro _ G ⟨v2,hqG,fG,hv2⟩
    have hcG:=hb3.queue fG hqG hv2
    have nG:C.next+9≤G.next:=fG.next
    have hv2B:∀ b∈slB v2,b∈slB v∨B.next≤b:=fun c hc=>by
     rcases hv2 c hc with h3 | h3
     ·exact hv1 c h3
     ·have h3:C.next+9≤c:=h3
      exact .inr (by omega)
    have hrl:∀ b∈slB r,B.next≤b∧b<A1.next:=hO1.low
    have hrown:∀ b∈slB r,b∉e::w::slB v1:=fun c hc hm=>by
     have h3:=(hrl c hc).1
     simp only [List.mem_cons] at hm
     rcases hm with rfl | rfl | hm
     ·omega
     ·omega
     ·exact hrv c hc hm
    have hOG:=((hO1.fr fC (by simp)).fr fC9 (by simp)).fr fG hrown
    have hrv2:∀ b∈slB r,b∉slB v2:=fun c hc hm=>by
     rcases hv2 c hm with h3 | h3
     ·exact hrv c hc h3
     ·have h3:C.next+9≤c:=h3
      have:=(hrl c hc).2
      omega
    have hA1n:A1.next∉e::w::slB v1:=fun hm=>by
     simp only [List.mem_cons] at hm
     rcases hm with h3 | h3 | h3
     ·omega
     ·omega
     ·have:=(hc1.ns _ h3).2;omega
    have gG:=(fG.get A1.next (by show A1.next<C.next+9;omega) hA1n).trans (get_next.trans gC)
    have fN:Fr [] G (G.new (.row [.string y.1] 1 false)):=.new
    obtain ⟨r2,H,ha,hOH,fH,hr2⟩:=app34 (p:=G.next) (k:=y.1) (tl:=false) (hOG.fr fN (by simp)) (by rw [ASt.get_new,if_pos rfl]) (by
     have:=listsSmall hL h.upto
     omega) (by rw [ASt.next_new];omega)
    have w1:IntKind.i64.wrap ((i:Int)+1)=((i+1:Nat):Int):=by
     have:=listsSmall hL h.upto
     rw [IntKind.wrap_i64];omega
    simp only [z_0,flat,aFieldAddr,aBuiltin,cond_true,cond_false,if_true,if_false,eq_self,Nat.reduceEqDiff,Nat.reduceAdd,Nat.reduceLT,reduceCtorEq,f_0,reorder,u0,u5,u15,u16,u17,gG,bs34,ha,w1]
    have nH:=fH.next
    have nN:(G.new (.row [.string y.1] 1 false)).next=G.next+1:=ASt.next_new ..
    have hcH:=(hcG.fr0 fN).fr fH (fun c hc _=>⟨fun hm=>by have:=hownA c hm;have:=(hrl c hc).1;omega,hrv2 c hc,fun hm=>by have:=hSA c hm;have:=(hrl c hc).1;omega⟩)
    have hrown2:∀ b,b<A1.next→b∉e::w::slB v1→b∉slB r→H.get b=A1.get b:=fun c h3 h4 h5=>by
     rw [fH.get c (by omega) h5,fN.get c (by omega) (by simp),fG.get c (by show c<C.next+9;omega) h4,get_next,fC.get c h3 (by simp)]
    have hnA1:=f1.next
    have hpre:∀ c∈slB r2,B.next≤c:=fun c hc=>(hOH.low c hc).1
    refine ⟨ts.length-(i+1),by omega,i+1,r2,v2,N1.put y.1 y.2,rfl,by omega,rfl,rfl,hcH,fun k a=>?_,?_,hv2B,fun c hc hm=>?_,⟨by omega,fun c h3 h4=>?_⟩,.inr ⟨b,unk,[],true,rfl,?_,hlb,by omega,rfl,rfl,rfl⟩,htv,by omega⟩
    ·rw [take_snoc hy,List.mem_append,List.mem_singleton]
     have hy2:D.at_ y.1=some y.2:=hLat _ _ (List.mem_of_getElem? hy)
     unfold TM.put
     by_cases e1:k=y.1
     ·rw [if_pos e1]
      constructor
      ·intro h3
       cases h3
       exact .inl (.inr (by rw [e1]))
      ·rintro ((h3 | h3) | h3)
       ·have:=hLat k a (List.mem_of_mem_take h3)
        rw [e1,hy2] at this
        exact this
       ·rw [← h3]
       ·have:=hNat k a h3
        rw [e1,hy2] at this
        exact this
     ·rw [if_neg e1,hN1]
      constructor
      ·rintro (h3 | h3)
       ·exact .inl (.inl h3)
       ·exact .inr h3
      ·rintro ((h3 | h3) | h3)
       ·exact .inl h3
       ·exact absurd (by rw [← h3]) e1
       ·exact .inr h3
    ·rw [take_snoc hy]
     unfold strs at hOH ⊢
     rw [List.map_append]
     exact hOH
    ·rcases hr2 c hc with h3 | h3
     ·exact hrv2 c h3 hm
     ·have:=(hcG.ns c hm).2
      rw [nN] at h3
      omega
    ·rw [hrown2 c (by omega) (fun hm=>?_) (fun hm=>by have:=(hrl c hm).1;omega),f1.get c h3 h4]
     rcases subQ v1 hv1 c hm with h5 | h5
     ·exact h4 h5
     ·omega
    ·rw [hrown2 b hbn (fun hm=>?_) (fun hm=>by have:=(hrl b hm).1;omega)]
     ·exact hb
     ·simp only [List.mem_cons] at hm
      rcases hm with h5 | h5 | h5
      ·omega
      ·omega
      ·rcases hv1 b h5 with h6 | h6
       ·have:=(hc0.ns b h6).2;omega
       ·omega
   ·have e1:i=ts.length:=by omega
    subst e1
    have d1:((ts.length:Int)<(ts.length:Int))=False:=eq_false (by omega)
    simp only [z_0,if_true,eq_self,Nat.reduceLT,u17,u16,d1]
    have eN:N1=D.near (max now nw):=by
     funext k
     apply Option.ext
     intro a
     rw [hN1,List.take_length,hL.mem]
     unfold TD.near
     rw [Option.filter_eq_some_iff,Option.filter_eq_some_iff,Option.filter_eq_some_iff]
     simp only [Bool.and_eq_true,decide_eq_true_eq]
     constructor
     ·rintro (⟨h3,h4⟩ | ⟨h3,h4⟩)
      ·exact ⟨h3,by omega⟩
      ·exact ⟨h3,by omega⟩
     ·rintro ⟨h3,h4⟩
      by_cases h5:a≤now
      ·exact .inr ⟨h3,h5⟩
      ·exact .inl ⟨h3,by omega,by omega⟩
    rw [eN] at hc1
    rw [List.take_length] at hO1
    exact ⟨_,_,rfl,r,v1,by simp only [tget_put,Nat.reduceEqDiff,if_false,u5],hc1,hO1.lower (by omega),fun b hb=>by
     rcases hv1 b hb with h3 | h3
     ·exact .inl h3
     ·exact .inr (by omega),f1⟩
  ·refine ⟨0,.slice none 0 0,v,D.near now,rfl,Nat.zero_le _,?_,?_,?_,?_,?_,hcB,fun k a=>by simp,.inl ⟨rfl,rfl,rfl⟩,fun b hb=>.inl hb,fun b hb=>(by cases hb),fB.sub subW,hS,?_,Nat.le_refl _⟩
   all_goals first | rfl | (unfold argsT;rfl) | skip
   intro b hb
   rcases hS with ⟨_,h3⟩ | ⟨b',cap,rest,tl,h3,_,h4,h5,_⟩
   ·rw [h3] at hb;cases hb
   ·rw [h3] at hb
    simp only [slB,List.mem_singleton] at hb
    subst hb
    exact ⟨h4,h5⟩
 ·rintro o ⟨T',A',rfl,r,v',u5,hc1,hO1,hv1,f1⟩
  simp only [z_0,if_true,if_false,eq_self,Nat.reduceEqDiff,Nat.reduceLT,u5]
  exact ⟨ts,hL,hO1,v',⟨hc1,h.ok,h.upto⟩,hv1,f1⟩
end Go.Proofs.YtgcffmhpjphefaaGreatDoor

/- A table of timers in general: those that are due. -/
namespace Go.Proofs.YtgcffmhpjphefaaGreatDoor
open Go Go.AE
set_option maxRecDepth 10000
set_option maxHeartbeats 8000000
variable {Z:Go.AE.Road}{s:Spans}

def tcellL(P:List (TimD×Value)):List Value:=(P.map fun p=>tcell p.1 p.2).flatten
structure TimsAt(s:Spans)(A:ASt)(lo:Nat)(r:Value)(P:List (TimD×Value)):Prop where
 own:OwnS A lo 5 P.length r (tcellL P)
 steps:∀ p∈P,Steps (withRo E0 s) A (fun b=>lo≤b∧b∉slB r) p.2 p.1.steps
theorem TimsAt.fr{A B:ASt}{lo:Nat}{r:Value}{P:List (TimD×Value)}{own:List Nat}(h:TimsAt s A lo r P)(hf:Fr own A B)(ho:∀ b,lo≤b→b<A.next→b∉own):TimsAt s B lo r P:=
 ⟨h.own.fr hf (fun b hb=>ho b (h.own.low b hb).1 (h.own.low b hb).2),fun p hp=>(h.steps p hp).fr hf (fun b hb hl=>ho b hb.1 hl)⟩
theorem bsTim{t:TimD}{dv:Value}(hs:single dv=true):aBuildSlice E0 23 1 [(0,tval t dv)]=some (.row (tcell t dv) 5 false,fun id=>.slice (some ⟨id,0,none⟩) 1 1):=by
 have hsg:singles (tval t dv).cells.toList=true:=by
  show (true && (true && (true && (true && (single dv && true)))))=true
  rw [hs];rfl
 have z1:closed zTim=true:=by kernel_rfl
 have z2:Nat.beq zTim.cells.toList.length 5=true:=by kernel_rfl
 simp only [aBuildSlice,w_t2,w_0,z1,z2,fillV]
 rfl
theorem appTim{A:ASt}{lo n p:Nat}{r:Value}{cs:List Value}{t:TimD}{dv:Value}{tl:Bool}(h:OwnS A lo 5 n r cs)(hp:A.get p=some (.row (tcell t dv) 5 tl))(hs:single dv=true)(hn:n≤100000)(hlo:lo≤A.next):
  ∃ r' B,aAppend (withRo E0 s) 23 23 r (.slice (some ⟨p,0,none⟩) 1 1) A=.val r' B∧OwnS B lo 5 (n+1) r' (cs++tcell t dv)∧Fr (slB r) A B∧∀ b∈slB r',b∈slB r∨A.next≤b:=by
 have srcE:srcCells (withRo E0 s) 5 (.slice (some ⟨p,0,none⟩) 1 1) 1 A=some (tcell t dv):=by
  simp only [srcCells,hp]
  rfl
 have hsg:singles (tcell t dv)=true:=by
  show (true && (true && (true && (true && (single dv && true)))))=true
  rw [hs];rfl
 exact h.app (E:=withRo E0 s) (xt:=23) (x:=.slice (some ⟨p,0,none⟩) 1 1) (m:=1) ti23 t23_desc ti30 t30_size ti23 (by rw [t23_desc];rfl) t30_zero (by kernel_rfl) (by kernel_rfl) (by omega) rfl srcE rfl hsg (by rw [t30_bytes];omega) hlo
theorem tlook0{m:Nat}{k:ByteArray}{ok:Bool}:aLookup E0 62 (.map (some m)) (.string k) ok { heap:=.e,next:=0 }=none:=by
 simp only [aLookup,w_tb,w_0,get_empty]
 cases plainKey TypeDesc.string (Value.string k)<;>rfl
theorem ix71{b i n c:Nat}(h:i<n):aIndexAddr E0 71 (.slice (some ⟨b,0,none⟩) n c) (.int .i64 (i:Int))=some (.pointer (some ⟨b,i*2,none⟩)):=qix h
theorem TD.near_empty{D:TD}{now:Nat}:(fun k=>(D.near now k).filter fun a=>decide (now<a))=fun _=>none:=by
 funext k
 unfold TD.near
 rw [Option.filter_filter]
 cases hD:D.at_ k with
 | none=>rfl
 | some a=>
  rw [Option.filter_some,if_neg]
  simp only [Bool.and_eq_true,decide_eq_true_eq]
  omega
theorem TD.near_near{D:TD}{now:Nat}:(fun k=>(D.near now k).filter fun a=>decide (a≤now))=D.near now:=by
 funext k
 unfold TD.near
 rw [Option.filter_filter]
 congr 1
 funext a
 rw [Bool.and_self]
theorem tdueC_spec(hro:RoadS Z E0 s){A:ASt}{x m q e w:Nat}{v:Value}{W all:Nat}{ms:List Nat}{now n:Nat}{D:TD}{S:Nat→Prop}(h:TabAt s A x m q e w v W all ms now n D S)(hn:n≤1000)(rx:(withRo E0 s).ro x=none):
  CallW Z Tryz.prog 10 [.pointer (some ⟨x,0,none⟩)] A (fun r A'=>∃ L P,Lists (D.near now) L∧TimsAt s A' A.next r P∧P.map (·.1)=L.map (fun y=>(D y.1).getD zTimD)∧∃ v',TabAt s A' x m q e w v' W all ms now n D S∧(∀ b∈slB v',b∈slB v∨A.next≤b)∧Fr (wrT m e w v W all ms) A A'∧(∀ b∈slB r,b∉slB v')∧∀ p∈P,Steps (withRo E0 s) A' (fun b=>A.next≤b∧b∉slB v') p.2 p.1.steps):=by
 refine CallW.assume hro fun hnr=>?_
 refine CallW.of_code (withRo_ok E0_ok) hro.ro (f:=10) (fn:=Tryz.f10) fn10 rfl (n:=44) rfl (rs:=[.tmp 2]) rfl (by simp) (codeW_ok (withRo_ok E0_ok) hro.ro ?_)
 have hc0:=h.core
 have h1:=hc0.hx
 have hlx:=hc0.lts
 have hne:=hc0.nes
 have hRC:=RU_ok (RO_ok (Z:=Z) (P:=Tryz.prog) (f:=13) (ar:=[.pointer (some ⟨x,0,none⟩)]) (Pr:=fun A=>Core s A x m q e w v W all ms now D (D.near now) (D.far now) S) (Sp:=fun A r A'=>r=.int .u64 (now:Int)∧A=A') (fun A hp=>tclockC_spec hp)) (RO_ok (Z:=Z) (P:=Tryz.prog) (f:=34) (ar:=[.pointer (some ⟨q,0,none⟩),.int .u64 (now:Int)]) (Pr:=fun A=>QAt A q e w v (D.near now)) (Sp:=fun A r A'=>∃ v' L,QAt A' q e w v' (fun k=>(D.near now k).filter fun a=>decide (now<a))∧QS A' r L∧Lists (fun k=>(D.near now k).filter fun a=>decide (a≤now)) L∧Fr (e::w::slB v) A A'∧(∀ b∈slB v',b∈slB v)∧∀ b∈slB r,A.next≤b) (fun A hp=>qdueG_spec hp (h.upto.few hn)))
 simp only [w_w,z_0,flat,Option.isNone,cond_true,if_true,if_false,eq_self,Nat.reduceEqDiff,Nat.reduceLT,reduceCtorEq,eqnilT]
 refine CodeW.seqf (withRo_ok E0_ok) hro.ro mixed hRC [0,1,2,3,4,5,6,7] [0,1,2,3] (fanOf _ _ _) (by simp only [reorder,reoGo,strip,List.map_cons,List.map_nil,opAt,remap,nth,Option.map,σ,place',List.length_cons,List.length_nil,Nat.reduceAdd];rfl) (by decide +kernel) (by kernel_rfl) (by kernel_rfl) (by kernel_rfl) rfl ?_
 simp only [w_w,z_0,aFieldAddr,cond_false,if_true,if_false,List.length_cons,List.length_nil,List.append_nil,List.nil_append,eq_self,Nat.reduceEqDiff,Nat.reduceAdd,Nat.reduceLT,reduceCtorEq,q_0,q_1,q_2,f_0,hasN,reorder,List.length_cons,List.length_nil,h1,rx]
 have fA8:Fr [] A { heap:=A.heap,next:=A.next+8 }:=Fr.bump (by omega)
 refine conRU1 (hc0.fr0 fA8) (by decide) ?_
 rintro _ _ ⟨rfl,rfl⟩
 simp only [w_w,z_0,cond_false,if_true,if_false,List.append_nil,List.nil_append,eq_self,Nat.reduceEqDiff,Nat.reduceAdd,Nat.reduceLT,reduceCtorEq,q_0,q_1,q_2,f_0,reorder,exists_eq',h1]
 refine conRU2 (hc0.fr0 fA8).hq (by decide) ?_
 rintro lv B ⟨v1,L,hqB,hLs,hL,fB,hvb,hlb⟩
 rw [TD.near_empty] at hqB
 rw [TD.near_near] at hL
 have hcB:=(hc0.fr0 fA8).queue fB hqB (fun b hb=>.inl (hvb b hb))
 have nB:A.next+8≤B.next:=fB.next
 have hxB:=hcB.hx
 have hlbB:=hLs.low
 obtain ⟨bo,cp,rfl⟩:∃ bo cp,lv=.slice bo L.length cp:=by
  rcases hLs with ⟨rfl,rfl⟩ | ⟨b,rest,rfl,_⟩
  ·exact ⟨_,_,rfl⟩
  ·exact ⟨_,_,rfl⟩
 have hlen:=hLs.len
 have hLat:∀ y∈L,D.at_ y.1=some y.2:=fun y hy=>by
  have:=(hL.mem y.1 y.2).1 hy
  unfold TD.near at this
  rw [Option.filter_eq_some_iff] at this
  exact this.1
 have hLn:L.length≤n:=listsSmall (p:=fun a=>decide (a≤now)) hL h.upto
 have hownA:∀ b∈ownT x m q e w W all ms,b<A.next:=hc0.lt
 have hSA:∀ b,S b→b<A.next:=fun b hb=>(hc0.nr b hb).1
 have hvA:∀ b∈slB v,b<A.next:=fun b hb=>(hc0.ns b hb).2
 simp only [w_w,z_0,flat,aBuiltin,cond_true,cond_false,if_true,if_false,eq_self,Nat.reduceEqDiff,Nat.reduceAdd,Nat.reduceLT,reduceCtorEq,q_0,q_2,f_0,reorder,exists_eq',hxB,hlen]
 refine CodeW.mono (Q:=fun o=>∃ T' A',o=.fr ⟨.exit 0,T',A'⟩∧∃ r v' P,tget T' 3=r∧Core s A' x m q e w v' W all ms now D (D.near now) (D.far now) S∧TimsAt s A' A.next r P∧P.map (·.1)=L.map (fun y=>(D y.1).getD zTimD)∧(∀ b∈slB v',b∈slB v∨A.next≤b)∧Fr (wrT m e w v W all ms) A A'∧(∀ b∈slB r,b∉slB v')∧∀ p∈P,Steps (withRo E0 s) A' (fun b=>A.next≤b∧b∉slB v') p.2 p.1.steps) ?_ ?_
 ·refine CodeW.loopR (k:=L.length) (fun n T A'=>∃ (i:Nat) (r v':Value) (N':TM) (P:List (TimD×Value)),n=L.length-i∧i≤L.length∧tget T 18=.int .i64 (i:Int)∧tget T 17=.int .i64 (L.length:Int)∧tget T 16=.slice bo L.length cp∧tget T 0=.pointer (some ⟨x,0,none⟩)∧tget T 3=r∧Core s A' x m q e w v' W all ms now D N' (D.far now) S∧(∀ k a,N' k=some a↔(k,a)∈L.take i)∧P.length=i∧OwnS A' B.next 5 P.length r (tcellL P)∧P.map (·.1)=(L.take i).map (fun y=>(D y.1).getD zTimD)∧(∀ b∈slB v',b∈slB v∨B.next≤b)∧(∀ p∈P,Steps (withRo E0 s) A' (fun b=>B.next≤b∧b∉slB r∧b∉slB v') p.2 p.1.steps)∧(∀ b∈slB r,b∉slB v')∧Fr (wrT m e w v W all ms) A A'∧QS A' (.slice bo L.length cp) L∧B.next≤A'.next) ?_ ?_
  ·rintro k T A1 ⟨i,r,v2,N1,P,rfl,hi,u18,u17,u16,u0,u3,hc1,hN1,hPl,hO1,hPm,hv2,hP1,hrv,f1,hQ1,nA1⟩
   refine codeW_ok (withRo_ok E0_ok) hro.ro ?_
   by_cases hlt:i<L.length
   ·have d1:((i:Int)<(L.length:Int))=True:=eq_true (by omega)
    obtain ⟨y,hy⟩:∃ y,L[i]? = some y:=⟨_,List.getElem?_eq_getElem hlt⟩
    obtain ⟨b,rest,etv,hb,hlb2,_⟩:=hQ1.at hy
    cases etv
    have hbB:A.next+8≤b∧b<B.next:=⟨hlb b (by simp [slB]),hlbB b (by simp [slB])⟩
    have nf1:=f1.next
    obtain ⟨C,hst,fC,gC,nC⟩:=newstore (A:=A1) (k:=y.1) (a:=y.2)
    have hc2:=hc1.fr0 fC
    have h2:=hc2.hx
    have rp:(withRo E0 s).ro A1.next=none:=hnr _ (by omega)
    simp only [w_w,z_0,cond_true,if_true,if_false,eq_self,Nat.reduceEqDiff,Nat.reduceLT,u18,u17,u16,d1,ix71 hlt,hb,qcut hy,al74,ptrTo]
    rw [hst]
    clear hst
    -- the timer that is looked up
    obtain ⟨l,ck,hg,hok,hD,hS⟩:=hc2.hm
    obtain ⟨t,ht⟩:∃ t,D y.1=some t:=by
     have:=hLat y (List.mem_of_getElem? hy)
     unfold TD.at_ at this
     cases hD2:D y.1 with
     | none=>rw [hD2] at this;cases this
     | some t=>exact ⟨t,rfl⟩
    obtain ⟨dv,hdv⟩:∃ dv,vget l y.1=some (t,dv):=by
     have:=hD y.1
     rw [ht] at this
     cases hv3:vget l y.1 with
     | none=>rw [hv3] at this;cases this
     | some p=>
      rw [hv3] at this
      cases this
      exact ⟨p.2,rfl⟩
    have hSt:=hS y.1 t dv hdv
    have hlk:aLookup E0 62 (.map (some m)) (.string y.1) false { heap:=C.heap,next:=C.next+12 }=some (tval t dv):=by
     have:=tlook (A:={ heap:=C.heap,next:=C.next+12 }) (by rw [get_next];exact hg) y.1 false
     rw [hdv] at this
     exact this
    have hRC:=RO_ok (Z:=Z) (P:=Tryz.prog) (f:=31) (ar:=[tval t dv]) (Pr:=fun A=>Steps (withRo E0 s) A S dv t.steps) (Sp:=fun A r A'=>∃ dv',r=tval t dv'∧Steps (withRo E0 s) A' (fun b=>A.next≤b) dv' t.steps∧Fr [] A A') (fun A hp=>copied_spec hro hp (h.ok y.1 t ht).1.steps)
    have vt:valEq (tval t dv) (tval t dv)=true:=val25 hSt
    have vm:valEq (.map (some m)) (.map (some m))=true:=valEq_map
    have vr:=hO1.ve
    simp only [z_0]
    refine CodeW.seqf (withRo_ok E0_ok) hro.ro mixed hRC [0,1,2,3,4,5,6,7,8,9,10,11] [0] [[],[],[],[],[],[],[],[],[],[],[9],[9]] (by simp only [reorder,reoGo,strip,List.map_cons,List.map_nil,opAt,remap,nth,Option.map,σ,place',List.length_cons,List.length_nil,Nat.reduceAdd];rfl) (by decide +kernel) (by kernel_rfl) (by kernel_rfl) (by kernel_rfl) (by kernel_rfl) ?_
    simp only [w_w,z_0,aFieldAddr,cond_false,if_true,if_false,List.length_cons,List.length_nil,List.append_nil,List.nil_append,eq_self,Nat.reduceEqDiff,Nat.reduceAdd,Nat.reduceLT,reduceCtorEq,q_0,q_1,q_2,f_0,hasN,List.length_cons,List.length_nil,u0,u3,h2,gC,rx,rp,vm,vt,hlk,tlook0]
    have fC12:Fr [] C { heap:=C.heap,next:=C.next+12 }:=Fr.bump (by omega)
    refine conRO (hSt.fr fC12 (by simp)) ?_
    rintro _ G ⟨dv',rfl,hdG,fG⟩
    have fCG:=fC12.trans fG
    have nG:C.next+12≤G.next:=fG.next
    have fGp:Fr [C.next+9] G (G.set (C.next+9) (.row (tcell t dv') 5 false)):=⟨by rw [ASt.next_set];exact Nat.le_refl _,fun c hc hn=>by rw [ASt.get_set,if_neg (by simpa using hn)]⟩
    have fAG:Fr [] A1 (G.set (C.next+9) (.row (tcell t dv') 5 false)):=⟨by rw [ASt.next_set];omega,fun c hc _=>by rw [fGp.get c (by omega) (by simp;omega),fCG.get c (by omega) (by simp),fC.get c hc (by simp)]⟩
    have nGp:(G.set (C.next+9) (.row (tcell t dv') 5 false)).next=G.next:=ASt.next_set ..
    have hO:=hO1.fr fAG (by simp)
    obtain ⟨r2,H,ha,hOH,fH,hr2⟩:=appTim (s:=s) (p:=C.next+9) (t:=t) (dv:=dv') (tl:=false) hO (by rw [ASt.get_set,if_pos rfl]) hdG.single (by omega) (by omega)
    have hbs:=bsTim (t:=t) hdG.single
    have nH:=fH.next
    rw [nGp] at nH
    have hrl:∀ c∈slB r,B.next≤c∧c<A1.next:=hO1.low
    have hrown:∀ c,c<B.next→c∉slB r:=fun c hc hm=>by have:=(hrl c hm).1;omega
    have fA1H:∀ c,c<A1.next→c∉slB r→H.get c=A1.get c:=fun c h3 h4=>by rw [fH.get c (by omega) h4,fAG.get c h3 (by simp)]
    have hFr1:Fr (slB r) A1 H:=⟨by omega,fA1H⟩
    have hcH:=hc1.fr hFr1 (fun c hc _=>⟨fun hm=>by have:=hownA c hm;have:=(hrl c hc).1;omega,hrv c hc,fun hm=>by have:=hSA c hm;have:=(hrl c hc).1;omega⟩)
    have hxH:=hcH.hx
    have gH:H.get A1.next=some (.row [.string y.1,.int .u64 ((y.2:Nat):Int)] 2 false):=by
     rw [fH.get A1.next (by omega) (fun hm=>by have:=(hrl _ hm).2;omega),fGp.get A1.next (by omega) (by simp;omega),fCG.get A1.next (by omega) (by simp)]
     exact gC
    simp only [w_w,z_0,aBuiltin,cond_true,if_true,if_false,eq_self,Nat.reduceEqDiff,Nat.reduceAdd,Nat.reduceLT,q_0,q_1,q_2,f_0,hasN,hbs,ha]
    have hFew:Few N1:=by
     obtain ⟨ls,hl1,hl2⟩:=h.upto
     refine ⟨ls,by omega,fun k hk=>hl2 k ?_⟩
     obtain ⟨a,ha⟩:=Option.isSome_iff_exists.1 hk
     have:=hLat (k,a) (List.mem_of_mem_take ((hN1 k a).1 ha))
     unfold TD.at_ at this
     cases hD:D k with
     | none=>simp only [hD] at this;cases this
     | some t=>rfl
    have hRQ:=RO_ok (Z:=Z) (P:=Tryz.prog) (f:=33) (ar:=[.pointer (some ⟨q,0,none⟩),.string y.1,.int .u64 (y.2:Int)]) (Pr:=fun A=>QAt A q e w v2 N1) (Sp:=fun A _ A'=>∃ v',QAt A' q e w v' (N1.put y.1 y.2)∧Fr (e::w::slB v2) A A'∧∀ b∈slB v',b∈slB v2∨A.next≤b) (fun A hp=>qputG_spec hp hFew)
    refine CodeW.seqf (withRo_ok E0_ok) hro.ro mixed hRQ [0,1,2,3,4,5,6,7,8] [] (fanOf _ _ _) (by simp only [reorder,reoGo,strip,List.map_cons,List.map_nil,opAt,remap,nth,Option.map,σ,place',List.length_cons,List.length_nil,Nat.reduceAdd];rfl) (by decide +kernel) (by kernel_rfl) (by kernel_rfl) (by kernel_rfl) rfl ?_
    simp only [w_w,z_0,aFieldAddr,cond_false,if_true,if_false,List.length_cons,List.length_nil,List.append_nil,List.nil_append,eq_self,Nat.reduceEqDiff,Nat.reduceAdd,Nat.reduceLT,reduceCtorEq,q_0,q_1,q_2,f_0,hasN,reorder,List.length_cons,List.length_nil,u0,hxH,gH,rx,rp]
    have fH9:Fr [] H { heap:=H.heap,next:=H.next+9 }:=Fr.bump (by omega)
    have hbH:=hcH.fr0 fH9
    refine conRO hbH.hq ?_
    rintro _ J ⟨v3,hqJ,fJ,hv3⟩
    have hcJ:=hbH.queue fJ hqJ hv3
    have nJ:H.next+9≤J.next:=fJ.next
    have w1:IntKind.i64.wrap ((i:Int)+1)=((i+1:Nat):Int):=by rw [IntKind.wrap_i64];omega
    simp only [z_0,flat,cond_true,if_true,if_false,eq_self,Nat.reduceEqDiff,Nat.reduceAdd,Nat.reduceLT,reduceCtorEq,f_0,reorder,u0,u3,u16,u17,u18,w1]
    have hvn:∀ c∈slB v2,c<A1.next:=fun c hc=>(hc1.ns c hc).2
    have hr2':∀ c∈slB r2,c∈slB r∨G.next≤c:=fun c hc=>by
     rcases hr2 c hc with h3 | h3
     ·exact .inl h3
     ·rw [nGp] at h3;exact .inr h3
    have hr2B:∀ c∈slB r2,B.next≤c:=fun c hc=>(hOH.low c hc).1
    have hr2H:∀ c∈slB r2,c<H.next:=fun c hc=>(hOH.low c hc).2
    have hr2v:∀ c∈slB r2,c∉slB v2:=fun c hc hm=>by
     rcases hr2' c hc with h3 | h3
     ·exact hrv c h3 hm
     ·have:=hvn c hm;omega
    have fHJ:Fr (e::w::slB v2) H J:=fH9.nil.trans fJ
    have hbig:∀ c,B.next≤c→c∉slB v2→c∉e::w::slB v2:=fun c h3 h4 hm=>by
     simp only [List.mem_cons] at hm
     rcases hm with rfl | rfl | hm
     ·omega
     ·omega
     ·exact h4 hm
    have hv3':∀ c∈slB v3,c∈slB v2∨H.next+9≤c:=hv3
    have nJ2:H.next≤J.next:=by omega
    refine ⟨L.length-(i+1),by omega,i+1,r2,v3,N1.put y.1 y.2,P++[(t,dv')],rfl,by omega,rfl,rfl,hcJ,fun k a=>?_,by rw [List.length_append,hPl];rfl,?_,?_,fun c hc=>?_,fun p hp=>?_,fun c hc hm=>?_,⟨by omega,fun c h3 h4=>?_⟩,?_,by omega⟩
    ·rw [take_snoc hy,List.mem_append,List.mem_singleton]
     have hy2:D.at_ y.1=some y.2:=hLat _ (List.mem_of_getElem? hy)
     unfold TM.put
     by_cases e1:k=y.1
     ·rw [if_pos e1]
      constructor
      ·intro h3
       cases h3
       exact .inr (by rw [e1])
      ·rintro (h3 | h3)
       ·have:=hLat (k,a) (List.mem_of_mem_take h3)
        simp only [e1,hy2] at this
        exact this
       ·rw [← h3]
     ·rw [if_neg e1,hN1]
      constructor
      ·exact .inl
      ·rintro (h3 | h3)
       ·exact h3
       ·exact absurd (by rw [← h3]) e1
    ·have:tcellL (P++[(t,dv')])=tcellL P++tcell t dv':=by
      unfold tcellL
      rw [List.map_append,List.flatten_append]
      simp
     rw [this,List.length_append]
     exact hOH.fr fHJ (fun c hc=>hbig c (hr2B c hc) (hr2v c hc))
    ·rw [take_snoc hy,List.map_append,List.map_append,hPm]
     show _++[t]=_++[(D y.1).getD zTimD]
     rw [ht];rfl
    ·rcases hv3' c hc with h3 | h3
     ·exact hv2 c h3
     ·exact .inr (by omega)
    ·rcases List.mem_append.1 hp with hp | hp
     ·have h3:=(hP1 p hp).imp (S':=fun b=>(B.next≤b∧b∉slB r∧b∉slB v2)∧b<A1.next) (fun b h4 h5=>⟨h4,h5⟩)
      have h6:=(h3.fr hFr1 (fun b h4 _=>h4.1.2.1)).fr fHJ (fun b h4 _=>hbig b h4.1.1 h4.1.2.2)
      refine h6.imp (fun b h4 _=>⟨h4.1.1,fun hm=>?_,fun hm=>?_⟩)
      ·rcases hr2' b hm with h5 | h5
       ·exact h4.1.2.1 h5
       ·have:=h4.2;omega
      ·rcases hv3' b hm with h5 | h5
       ·exact h4.1.2.2 h5
       ·have:=h4.2;omega
     ·simp only [List.mem_singleton] at hp
      subst hp
      have hdG':Steps (withRo E0 s) G (fun b=>C.next+12≤b∧b<G.next) dv' t.steps:=hdG.imp (fun b h4 h5=>⟨h4,h5⟩)
      have h6:=((hdG'.fr fGp (fun b h4 _ hm=>by simp only [List.mem_singleton] at hm;omega)).fr fH (fun b h4 _ hm=>by have:=(hrl b hm).2;omega)).fr fHJ (fun b h4 _=>hbig b (by omega) (fun hm=>by have:=hvn b hm;omega))
      refine h6.imp (fun b h4 _=>⟨by omega,fun hm=>?_,fun hm=>?_⟩)
      ·rcases hr2' b hm with h5 | h5
       ·have:=(hrl b h5).2;omega
       ·omega
      ·rcases hv3' b hm with h5 | h5
       ·have:=hvn b h5;omega
       ·omega
    ·rcases hv3' c hm with h3 | h3
     ·exact hr2v c hc h3
     ·have:=hr2H c hc;omega
    ·rw [fHJ.get c (by omega) (fun hm=>?_),fA1H c (by omega) (fun hm=>by have:=(hrl c hm).1;omega),f1.get c h3 h4]
     simp only [List.mem_cons] at hm
     rcases hm with h5 | h5 | h5
     ·exact h4 (by simp [h5])
     ·exact h4 (by simp [h5])
     ·rcases hv2 c h5 with h6 | h6
      ·exact h4 (by simp [h6])
      ·omega
    ·refine ((hQ1.fr hFr1 (fun c hc hm=>?_)).fr fHJ (fun c hc hm=>?_))
     ·simp only [slB,List.mem_singleton] at hc
      subst hc
      have:=(hrl _ hm).1;omega
     ·simp only [slB,List.mem_singleton] at hc
      subst hc
      simp only [List.mem_cons] at hm
      rcases hm with h5 | h5 | h5
      ·omega
      ·omega
      ·rcases hv2 _ h5 with h6 | h6
       ·have:=hvA _ h6;omega
       ·omega
   ·have e1:i=L.length:=by omega
    subst e1
    have d1:((L.length:Int)<(L.length:Int))=False:=eq_false (by omega)
    simp only [z_0,if_true,eq_self,Nat.reduceLT,u18,u17,d1]
    have eN:N1=D.near now:=by
     funext k
     apply Option.ext
     intro a
     rw [hN1,List.take_length,hL.mem]
    rw [eN] at hc1
    rw [List.take_length] at hPm
    exact ⟨_,_,rfl,r,v2,P,by simp only [tget_put,Nat.reduceEqDiff,if_false,u3],hc1,⟨hO1.lower (by omega),fun p hp=>(hP1 p hp).imp (fun b h3 _=>⟨by omega,h3.2.1⟩)⟩,hPm,fun b hb=>by
     rcases hv2 b hb with h3 | h3
     ·exact .inl h3
     ·exact .inr (by omega),f1,hrv,fun p hp=>(hP1 p hp).imp (fun b h3 _=>⟨by omega,h3.2.2⟩)⟩
  ·refine ⟨0,.slice none 0 0,v1,fun _=>none,[],rfl,Nat.zero_le _,?_,?_,?_,?_,?_,hcB,fun k a=>by simp,rfl,.inl ⟨rfl,rfl,rfl⟩,rfl,fun b hb=>.inl (hvb b hb),fun p hp=>(by cases hp),fun b hb=>(by cases hb),(fA8.nil.trans fB).sub (fun b hb=>?_),hLs,Nat.le_refl _⟩
   all_goals first | rfl | (unfold argsT;rfl) | skip
   simp only [wrT,List.mem_cons,List.mem_append] at hb ⊢
   rcases hb with h3 | h3 | h3
   ·exact .inr (.inl h3)
   ·exact .inr (.inr (.inl h3))
   ·exact .inr (.inr (.inr (.inl h3)))
 ·rintro o ⟨T',A',rfl,r,v',P,u3,hc1,hT,hP,hv1,f1,hoff⟩
  simp only [z_0,if_true,if_false,eq_self,Nat.reduceEqDiff,Nat.reduceLT,u3]
  exact ⟨L,P,hL,hT,hP,v',⟨hc1,h.ok,h.upto⟩,hv1,f1,hoff⟩
end Go.Proofs.YtgcffmhpjphefaaGreatDoor

/- A table of timers in general: the names of all, gathered through a range over a function. -/
namespace Go.Proofs.YtgcffmhpjphefaaGreatDoor
open Go Go.AE
set_option maxRecDepth 10000
set_option maxHeartbeats 8000000
variable {Z:Go.AE.Road}{s:Spans}

def asS:Code:=Code.region 2 #[{ dst:=some 5,op:=Op.assign (Operand.tmp 7),type:=9,pos := "iter.go:51", after:=#[],guard:=none }] false
def bS:Code:=Code.block 1 (Code.region 3 #[{ dst:=some 8,op:=Op.load 34 (Operand.tmp 2),type:=34,pos := "iter.go:52", after:=#[],guard:=none },{ dst:=some 9,op:=Op.move (Operand.tmp 5),type:=9,pos := "iter.go:52", after:=#[],guard:=none },{ dst:=some 10,op:=Op.buildSlice 34 1 #[(0,Operand.tmp 9)],type:=34,pos := "iter.go:52", after:=#[{ on:=1,ground:=Ground.data }],guard:=none },{ dst:=some 11,op:=Op.call { callee:=Callee.builtin Builtin.append,args:=#[Operand.tmp 8,Operand.tmp 10],argTypes:=#[34,34] },type:=34,pos := "iter.go:52", after:=#[{ on:=0,ground:=Ground.data },{ on:=2,ground:=Ground.data }],guard:=none },{ dst:=none,op:=Op.store 34 (Operand.tmp 2) (Operand.tmp 11),type:=0,pos := "iter.go:52", after:=#[{ on:=3,ground:=Ground.data },{ on:=3,ground:=Ground.chain },{ on:=0,ground:=Ground.phase },{ on:=1,ground:=Ground.phase },{ on:=2,ground:=Ground.phase },{ on:=3,ground:=Ground.phase }],guard:=none }] false)
theorem st34{A:ASt}{b:Nat}{u v:Value}{tl:Bool}(hb:A.get b=some (.row [u] 1 tl))(hv:v.cells=#[v]∧Go.AE.single v=true):aStore E0 34 (.pointer (some ⟨b,0,none⟩)) v A=some (A.set b (.row [v] 1 tl)):=by
 have e1:v.cells.toList=[v]:=by rw [hv.1]
 have h4:singles [v]=true:=by simp only [singles,hv.2,Bool.and_self]
 simp only [aStore,hb,w_so,e1,h4];rfl
theorem roundS_spec{A:ASt}{l P2 lo n:Nat}{T0:Tmps}{v:Value}{cs:List Value}{k:ByteArray}(hl:A.get l=some (.loop 13 T0 #[7] asS bS .ready none))(hp:A.get P2=some (.row [v] 1 false))(ht:tget T0 2=.pointer (some ⟨P2,0,none⟩))(hs:OwnS A lo 1 n v cs)(hne:l≠P2)(hll:l<lo)(hPl:P2<lo)(hlo:lo≤A.next)(hlen:n≤1000):
  CallT Z Tryz.prog (.round l) [.string k] A (fun r A'=>r=.bool true∧A'.get l=some (.loop 13 T0 #[7] asS bS .ready none)∧(∃ v',A'.get P2=some (.row [v'] 1 false)∧OwnS A' lo 1 (n+1) v' (cs++[.string k]))∧A.next≤A'.next∧∀ b,b<lo→b≠l→b≠P2→A'.get b=A.get b):=by
 refine CallT.round hl (T':=T0.put 7 (some (.string k))) rfl ?_
 unfold asS
 refine codeW_ok E0_ok E0_ro ?_
 simp only [z_0,if_true,eq_self,Nat.reduceLT]
 refine ⟨_,_,_,_,_,_,_,_,rfl,hl,?_⟩
 have hset:Fr [l] A (A.set l (.loop 13 T0 #[7] asS bS .busy none)):=⟨by rw [ASt.next_set];exact Nat.le_refl _,fun b hb hn=>by rw [ASt.get_set,if_neg (by simpa using hn)]⟩
 have hl1:(A.set l (.loop 13 T0 #[7] asS bS .busy none)).get l=some (.loop 13 T0 #[7] asS bS .busy none):=by rw [ASt.get_set,if_pos rfl]
 have hAn:(A.set l (.loop 13 T0 #[7] asS bS .busy none)).next=A.next:=rfl
 generalize A.set l (.loop 13 T0 #[7] asS bS .busy none)=B at hset hl1 hAn ⊢
 have hlow:=hs.low
 have hPn:P2<A.next:=by omega
 have hP1:=(hset.get P2 hPn (by simpa using Ne.symm hne)).trans hp
 have hs1:=hs.fr hset (fun b hb hm=>by simp only [List.mem_singleton] at hm;have:=(hlow b hb).1;omega)
 have fN:Fr [] B (B.new (.row [.string k] 1 false)):=.new
 obtain ⟨v',C,happ,hs2,fC,hv'⟩:=app34 (p:=B.next) (k:=k) (tl:=false) (hs1.fr fN (by simp)) (by rw [ASt.get_new,if_pos rfl]) (by omega) (by rw [ASt.next_new];omega)
 have nN:(B.new (.row [.string k] 1 false)).next=B.next+1:=ASt.next_new ..
 have nC:=fC.next
 have hnv:∀ b,b<lo→b∉slB v:=fun b hb hm=>by have:=(hlow b hm).1;omega
 have hCP:=((fC.get P2 (by omega) (hnv _ hPl)).trans (fN.get P2 (by omega) (by simp))).trans hP1
 have hst:=st34 hCP ⟨hs2.cells1,hs2.single⟩
 have hve:=hs.ve
 unfold bS
 refine codeW_ok E0_ok E0_ro ?_
 simp only [z_0,aBuiltin,cond_false,if_true,if_false,eq_self,Nat.reduceEqDiff,Nat.reduceLT,ht,hP1,bs34,happ,hst]
 refine ⟨_,_,_,rfl,?_⟩
 have hgl:(C.set P2 (.row [v'] 1 false)).get l=some (.loop 13 T0 #[7] asS bS .busy none):=by rw [ASt.get_set,if_neg hne,fC.get l (by omega) (hnv _ hll),fN.get l (by omega) (by simp)];exact hl1
 unfold endR
 rw [hgl]
 have fE:Fr [P2,l] C ((C.set P2 (.row [v'] 1 false)).set l (.loop 13 T0 #[7] asS bS .ready none)):=⟨by rw [ASt.next_set,ASt.next_set];exact Nat.le_refl _,fun b hb hn=>by
  simp only [List.mem_cons,List.not_mem_nil,or_false,not_or] at hn
  rw [ASt.get_set,if_neg hn.2,ASt.get_set,if_neg hn.1]⟩
 refine ⟨_,_,rfl,rfl,by rw [ASt.get_set,if_pos rfl];rfl,⟨v',by rw [ASt.get_set,if_neg (Ne.symm hne),ASt.get_set,if_pos rfl],hs2.fr fE (fun b hb hm=>?_)⟩,?_,fun b hb h1 h2=>?_⟩
 ·have:=(hs2.low b hb).1
  simp only [List.mem_cons,List.not_mem_nil,or_false] at hm
  omega
 ·rw [ASt.next_set,ASt.next_set];omega
 ·rw [ASt.get_set,if_neg h1,ASt.get_set,if_neg h2,fC.get b (by omega) (hnv b hb),fN.get b (by omega) (by simp),hset.get b (by omega) (by simpa using h1)]
theorem invS_yield{l:Nat}{args:List Value}{A:ASt}:aInvoke E0 (.yield l) args [] A=.enter (.round l) args A:=congrArg (fun x=>x) rfl
theorem rangeM{A:ASt}{m ck:Nat}{es:List MapEntry}(hm:A.get m=some (.map es ck)):aRange E0 62 (.map (some m)) A=.val (.pointer (some ⟨A.next,0,none⟩)) (A.new (.miter (some m) ck [] ck)):=range_u ti62 t62_desc hm
abbrev VT:=VE ByteArray (TimD×Value)
def kstr(l:List VT):List Value:=l.map fun x=>.string x.1
theorem iterS_spec{A:ASt}{c m l P2:Nat}{T0:Tmps}{es:List VT}{ck:Nat}(hc:A.get c=some (.row [.map (some m)] 1 false))(hm:A.get m=some (.map (vEnts encTV es) ck))(hok:VOK es ck)(hlen:es.length≤1000)
  (hl:A.get l=some (.loop 13 T0 #[7] asS bS .ready none)) (hp:A.get P2=some (.row [.slice none 0 0] 1 false)) (ht:tget T0 2=.pointer (some ⟨P2,0,none⟩)) (hne:l≠P2) (hml:m≠l) (hmP:m≠P2) (hll:l<A.next) (hPl:P2<A.next) (hcl:c<A.next) (hmn:m<A.next) :
  CallW Z Tryz.prog 66 [.func (.yield l) #[] #[],.pointer (some ⟨c,0,none⟩)] A (fun _ A'=>∃ (done:List VT) (v:Value),(∀ x∈done,x∈es)∧(∀ x∈es,x∈done)∧done.Nodup∧A'.get l=some (.loop 13 T0 #[7] asS bS .ready none)∧A'.get P2=some (.row [v] 1 false)∧OwnS A' (A.next+1) 1 done.length v (kstr done)∧A.next≤A'.next∧∀ b,b<A.next→b≠l→b≠P2→A'.get b=A.get b):=by
 refine CallW.of_code E0_ok E0_ro fn66 rfl (n:=14) rfl (rs:=[]) rfl (by simp) (codeW_ok E0_ok E0_ro ?_)
 simp only [z_0,cond_false,if_true,if_false,eq_self,Nat.reduceEqDiff,Nat.reduceAdd,Nat.reduceLT,reduceCtorEq,hc,rangeM hm]
 have hAr:∀ b,b<A.next→(A.new (.miter (some m) ck [] ck)).get b=A.get b:=fun b hb=>by rw [ASt.get_new,if_neg (by omega)]
 refine CodeW.mono (Q:=fun o=>∃ (T':Tmps) (A':ASt) (done:List VT) (v:Value),o=.fr ⟨.exit 0,T',A'⟩∧(∀ x∈done,x∈es)∧(∀ x∈es,x∈done)∧done.Nodup∧A'.get l=some (.loop 13 T0 #[7] asS bS .ready none)∧A'.get P2=some (.row [v] 1 false)∧OwnS A' (A.next+1) 1 done.length v (kstr done)∧A.next+1≤A'.next∧∀ b,b<A.next→b≠l→b≠P2→A'.get b=A.get b) ?_ ?_
 ·refine CodeW.mapLoopV (Γ:=encTV) (it:=5) (r:=A.next) (m:=m) (ck:=ck) (l:=es) (J:=fun done T A'=>tget T 0=.func (.yield l) #[] #[]∧∃ v,A'.get l=some (.loop 13 T0 #[7] asS bS .ready none)∧A'.get P2=some (.row [v] 1 false)∧OwnS A' (A.next+1) 1 done.length v (kstr done)∧A.next+1≤A'.next∧∀ b,b<A.next→b≠l→b≠P2→A'.get b=A.get b) ?_ ?_ ?_
  ·rintro done T A1 hi ⟨u0,v,h1,h2,h3,h4,h5⟩
   refine codeW_ok E0_ok E0_ro ?_
   have hit:=hi.it
   simp only [z_0,hit]
   refine nextV_v hok hi.sub hi.iter hi.map (fun x hx hn=>?_) (fun hfin=>?_)
   ·have hent:=entry_v (A:=A1.set A.next (.miter (some m) ck ((done++[x]).map (·.2.2)) ck)) (r:=A.next) (m:=m) hok hx (by rw [ASt.get_set,if_pos rfl]) (by rw [ASt.get_set,if_neg (by omega)];exact hi.map)
    have fB:Fr [A.next] A1 (A1.set A.next (.miter (some m) ck ((done++[x]).map (·.2.2)) ck)):=⟨by rw [ASt.next_set];exact Nat.le_refl _,fun b hb hn=>by rw [ASt.get_set,if_neg (by simpa using hn)]⟩
    have hB:∀ b,(A1.set A.next (.miter (some m) ck ((done++[x]).map (·.2.2)) ck)).get b=if b=A.next then some (.miter (some m) ck ((done++[x]).map (·.2.2)) ck) else A1.get b:=fun b=>by rw [ASt.get_set]
    have hBn:(A1.set A.next (.miter (some m) ck ((done++[x]).map (·.2.2)) ck)).next=A1.next:=rfl
    generalize A1.set A.next (.miter (some m) ck ((done++[x]).map (·.2.2)) ck)=B at hent hB hBn fB ⊢
    have hdl:done.length≤1000:=Nat.le_trans (vnodup_le hi.nodup hi.sub) hlen
    have hBl:B.get l=some (.loop 13 T0 #[7] asS bS .ready none):=by rw [hB,if_neg (by omega)];exact h1
    have hBP:B.get P2=some (.row [v] 1 false):=by rw [hB,if_neg (by omega)];exact h2
    have hBs:=h3.fr fB (fun b hb hm=>by simp only [List.mem_singleton] at hm;have:=(h3.low b hb).1;omega)
    simp only [z_0,if_true,if_false,List.nil_append,eq_self,Nat.reduceEqDiff,Nat.reduceLT,reduceCtorEq,hit,hent,u0,invS_yield]
    refine CallT.mono (roundS_spec hBl hBP ht hBs hne (by omega) (by omega) (by omega) hdl) ?_
    rintro _ C ⟨rfl,k1,⟨v',k2,k3⟩,k4,k5⟩
    simp only [z_0,if_true,if_false,eq_self,Nat.reduceEqDiff,Nat.reduceLT,reduceCtorEq]
    refine ⟨x,hx,hn,hi.step hx hn (by simp only [tget_put,Nat.reduceEqDiff,if_false]) ?_ ?_,?_,v',k1,k2,?_,by omega,fun b hb hb1 hb2=>?_⟩
    ·rw [k5 _ (by omega) (by omega) (by omega),hB,if_pos rfl]
    ·rw [k5 _ (by omega) hml hmP,hB,if_neg (by omega)]
    ·first | exact u0 | (simp only [tget_put,Nat.reduceEqDiff,if_false,reduceIte];exact u0) | rfl
    ·unfold kstr;rw [List.map_append,List.length_append];exact k3
    ·rw [k5 b (by omega) hb1 hb2,hB,if_neg (by omega)];exact h5 b hb hb1 hb2
   ·simp only [z_0,if_true,if_false,eq_self,Nat.reduceEqDiff,Nat.reduceLT]
    exact ⟨_,_,done,v,rfl,hi.sub,hfin,hi.nodup,h1,h2,h3,h4,h5⟩
  ·refine ⟨by simp only [tget_put,Nat.reduceEqDiff,if_false,if_true],by rw [ASt.get_new,if_pos rfl];rfl,by rw [hAr _ hmn];exact hm,by simp,.nil⟩
  ·refine ⟨by simp only [tget_put,Nat.reduceEqDiff,if_false,if_true],.slice none 0 0,by rw [hAr _ hll];exact hl,by rw [hAr _ hPl];exact hp,.inl ⟨rfl,rfl,rfl⟩,by rw [ASt.next_new];omega,fun b hb _ _=>hAr b hb⟩
 ·rintro o ⟨T',A',done,v,rfl,k1,k2,knd,k3,k4,k5,k6,k7⟩
  simp only [z_0]
  exact ⟨done,v,k1,k2,knd,k3,k4,k5,by omega,k7⟩
theorem boxS34{v:Value}(h:v=.slice none 0 0):aBox E0 34 v=some (.row [v] 1 false,ptrTo):=by
 subst h
 simp only [aBox,w_so];rfl
theorem box62{m:Nat}:aBox E0 62 (.map (some m))=some (.row [.map (some m)] 1 false,ptrTo):=by
 simp only [aBox,w_tb];rfl
def GatheredS(es:List VT)(A:ASt)(v:Value)(A':ASt):Prop:=∃ (done:List VT) (lo:Nat),(∀ x∈done,x∈es)∧(∀ x∈es,x∈done)∧done.Nodup∧OwnS A' lo 1 done.length v (kstr done)∧A.next≤lo∧Fr [] A A'
theorem appendS_spec{A:ASt}{c m:Nat}{es:List VT}{ck:Nat}(hc:A.get c=some (.row [.map (some m)] 1 false))(hm:A.get m=some (.map (vEnts encTV es) ck))(hok:VOK es ck)(hlen:es.length≤1000)(hcl:c<A.next)(hmn:m<A.next):
  CallW Z Tryz.prog 87 [.slice none 0 0,.func (.func 66) #[] #[.pointer (some ⟨c,0,none⟩)]] A (GatheredS es A):=by
 refine CallW.of_code E0_ok E0_ro fn87 rfl (n:=13) rfl (rs:=[.tmp 4]) rfl (by simp) (codeW_ok E0_ok E0_ro ?_)
 simp only [z_0,flat,cond_true,if_true,if_false,eq_self,Nat.reduceEqDiff,Nat.reduceAdd,Nat.reduceLT,reduceCtorEq,boxS34,ptrTo,c_range]
 have hB:∀ b,b<A.next→(A.new (.row [.slice none 0 0] 1 false)).get b=A.get b:=fun b hb=>by rw [ASt.get_new,if_neg (by omega)]
 have hBP:(A.new (.row [.slice none 0 0] 1 false)).get A.next=some (.row [.slice none 0 0] 1 false):=by rw [ASt.get_new,if_pos rfl]
 have hBn:(A.new (.row [.slice none 0 0] 1 false)).next=A.next+1:=by rw [ASt.next_new]
 generalize A.new (.row [.slice none 0 0] 1 false)=B at hB hBP hBn ⊢
 generalize hT:Tr.put _ 6 _=T
 have t6:tget T 6=.func (.func 66) #[] #[.pointer (some ⟨c,0,none⟩)]:=by rw [← hT];simp only [tget_put,Nat.reduceEqDiff,if_false,if_true]
 have t2:tget T 2=.pointer (some ⟨A.next,0,none⟩):=by rw [← hT];simp only [tget_put,Nat.reduceEqDiff,if_false,if_true]
 clear hT
 have hC:∀ b,b<B.next→(B.new (.loop 13 T #[7] asS bS .ready none)).get b=B.get b:=fun b hb=>by rw [ASt.get_new,if_neg (by omega)]
 have hCl:(B.new (.loop 13 T #[7] asS bS .ready none)).get B.next=some (.loop 13 T #[7] asS bS .ready none):=by rw [ASt.get_new,if_pos rfl]
 have hCn:(B.new (.loop 13 T #[7] asS bS .ready none)).next=B.next+1:=by rw [ASt.next_new]
 have hit:=iterS_spec (Z:=Z) (A:=B.new (.loop 13 T #[7] asS bS .ready none)) (c:=c) (m:=m) (l:=B.next) (P2:=A.next) (T0:=T) (es:=es) (ck:=ck) (by rw [hC _ (by omega),hB _ hcl];exact hc) (by rw [hC _ (by omega),hB _ hmn];exact hm) hok hlen hCl (by rw [hC _ (by omega)];exact hBP) t2 (by omega) (by omega) (by omega) (by omega) (by omega) (by omega) (by omega)
 refine CodeW.rangeFn E0_ok E0_ro (f:=66) (first:=#[]) (captured:=#[.pointer (some ⟨c,0,none⟩)]) (by simp only [ev,t6]) rfl (by intro args A;simp only [aEnter,fn66]) ?_
 refine CallT.mono (CallT.of_call hit) ?_
 rintro r D ⟨done,v,h1,h2,hnd,h3,h4,h5,h6,h7⟩
 refine ⟨_,_,_,_,_,_,h3,rfl,?_⟩
 have h4':(D.set B.next (.loop 13 T #[7] asS bS .exhausted none)).get A.next=some (.row [v] 1 false):=by rw [ASt.get_set,if_neg (by omega)];exact h4
 have fD:Fr [B.next] D (D.set B.next (.loop 13 T #[7] asS bS .exhausted none)):=⟨by rw [ASt.next_set];exact Nat.le_refl _,fun b hb hn=>by rw [ASt.get_set,if_neg (by simpa using hn)]⟩
 have h5':=h5.fr fD (fun b hb hm=>by simp only [List.mem_singleton] at hm;have:=(h5.low b hb).1;omega)
 have hfr:Fr [] A (D.set B.next (.loop 13 T #[7] asS bS .exhausted none)):=⟨by rw [ASt.next_set];omega,fun b hb _=>by rw [ASt.get_set,if_neg (by omega),h7 b (by omega) (by omega) (by omega),hC _ (by omega),hB _ hb]⟩
 have hve:=h5.ve
 generalize D.set B.next (.loop 13 T #[7] asS bS .exhausted none)=F at h4' h5' hfr ⊢
 simp only [z_0,cond_false,if_true,if_false,eq_self,Nat.reduceEqDiff,Nat.reduceLT,t2,h4']
 exact ⟨done,_,h1,h2,hnd,h5',by omega,hfr⟩
theorem collectS_spec{A:ASt}{c m:Nat}{es:List VT}{ck:Nat}(hc:A.get c=some (.row [.map (some m)] 1 false))(hm:A.get m=some (.map (vEnts encTV es) ck))(hok:VOK es ck)(hlen:es.length≤1000)(hcl:c<A.next)(hmn:m<A.next):
  CallW Z Tryz.prog 64 [.func (.func 66) #[] #[.pointer (some ⟨c,0,none⟩)]] A (GatheredS es A):=by
 refine CallW.of_code E0_ok E0_ro fn64 rfl (n:=5) rfl (rs:=[.tmp 2]) rfl (by simp) (codeW_ok E0_ok E0_ro ?_)
 simp only [z_0,flat,cond_true,if_true,if_false,List.append_nil,List.nil_append,eq_self,Nat.reduceEqDiff,Nat.reduceLT,reduceCtorEq]
 refine CallT.mono (CallT.of_call (appendS_spec hc hm hok hlen hcl hmn)) ?_
 intro v A' h
 simp only [z_0,if_true,if_false,eq_self,Nat.reduceEqDiff,Nat.reduceLT,reduceCtorEq]
 exact h
theorem keys_spec{A:ASt}{m:Nat}:CallW Z Tryz.prog 37 [.map (some m)] A (fun v A'=>v=.func (.func 66) #[] #[.pointer (some ⟨A.next,0,none⟩)]∧A'=A.new (.row [.map (some m)] 1 false)):=by
 refine CallW.of_code E0_ok E0_ro fn37 rfl (n:=4) rfl (rs:=[.tmp 2]) rfl (by simp) (codeW_ok E0_ok E0_ro ?_)
 simp only [z_0,flat,cond_true,if_true,if_false,eq_self,Nat.reduceEqDiff,Nat.reduceLT,reduceCtorEq,box62,ptrTo]
end Go.Proofs.YtgcffmhpjphefaaGreatDoor
