/- A table of timers in general: the sort of names. -/
import Derived.Test.YtgcffmhpjphefaaGreatDoorP08
import Derived.Test.YtgcffmhpjphefaaGreatDoorQ4
import Derived.Test.YtgcffmhpjphefaaGreatDoorCards
import Derived.Test.YtgcffmhpjphefaaGreatDoorTie
import Derived.LaidMore
import Derived.LaidSub
import Derived.Lib.LaidTab
import Derived.OpenShut
import Derived.Stop.Joined
import Derived.SevenTiedAt
set_option linter.unusedSimpArgs false
set_option linter.unusedVariables false
set_option linter.unusedSectionVars false
namespace Go.Proofs.YtgcffmhpjphefaaGreatDoor
open Go Go.AE Go.Sort
set_option maxRecDepth 10000
variable {Z:Go.AE.Road}

theorem bytesLt_iff:∀ (a b:List UInt8),bytesLt a b=true↔a<b
 | _,[]=>by
  constructor
  ·intro h
   unfold bytesLt at h
   cases h
  ·intro h
   exact absurd h (List.not_lt_nil _)
 | [],b::l=>by
  constructor
  ·intro _;exact List.nil_lt_cons b l
  ·intro _;rfl
 | a::l,b::r=>by
  unfold bytesLt
  rw [List.cons_lt_cons_iff]
  by_cases e:a.toNat=b.toNat
  ·have eab:a=b:=UInt8.toNat_inj.1 e
   rw [e,Nat.beq_refl,cond_true,bytesLt_iff l r]
   subst eab
   constructor
   ·intro h;exact .inr ⟨rfl,h⟩
   ·rintro (h | h)
    ·exact absurd h (UInt8.lt_irrefl _)
    ·exact h.2
  ·have hb:Nat.beq a.toNat b.toNat=false:=by rw [nbeq];simp [e]
   rw [hb,cond_false,nblt,decide_eq_true_eq]
   constructor
   ·intro h;exact .inl (UInt8.lt_iff_toNat_lt.2 h)
   ·rintro (h | h)
    ·exact UInt8.lt_iff_toNat_lt.1 h
    ·exact absurd (congrArg UInt8.toNat h.1) e
def strC(l:List ByteArray):List Value:=l.map Value.string
theorem sortS_spec{A:ASt}{b cap sz:Nat}{tl:Bool}{ts:List ByteArray}{rest:List Value}(hb:A.get b=some (.row (strC ts++rest) sz tl))(hne:ts≠[])(hlen:ts.length<4611686018427387904):
  CallW Z Tryz.prog 65 [.slice (some ⟨b,0,none⟩) ts.length cap] A (fun v A'=>∃ ts',A'=A.set b (.row (strC ts'++rest) sz tl)∧ts'.Perm ts∧ts'.Pairwise fun x y=>blt y x=false):=by
 intro ρ w args' hR ha
 have hrep:=Z.rep hR
 obtain ⟨L,hL,cells,el,lo,hi,e1,e2,e3,e4,e5,e6⟩:=hrep.obj b _ hb
 obtain ⟨l⟩:=args'
 obtain ⟨cap',rfl⟩:∃ cap',l=[.slice (some ⟨L.B,L.o+0,none⟩) ts.length cap']:=by
  have ha:VsRel ρ _ l:=ha
  cases ha with
  | cons h1 h2=>
   cases h2
   generalize hs:Value.slice (some ⟨b,0,none⟩) ts.length cap=s at h1
   cases h1<;>first | cases hs | skip
   ·rename_i L' hL' _
    rw [hL] at hL'
    cases hL'
    exact ⟨_,rfl⟩
   ·rename_i L' hL' _ _
    rw [hL] at hL'
    cases hL'
    exact ⟨_,rfl⟩
 have hsl:∀ l:List ByteArray,(strC l).length=l.length:=fun l=>by unfold strC;rw [List.length_map]
 have hn2:=hsl ts
 have hin:∀ j,j<ts.length→L.o+j<cells.size:=fun j hj=>by
  simp only [List.length_append] at e4;omega
 have henc:∀ x:ByteArray,encStr x.data.toList=.string x:=fun x=>by
  show Value.string ⟨x.data.toList.toArray⟩=.string x
  simp
 have hcell:∀ j x,ts[j]? = some x→cells[L.o+j]? = some (.string x):=fun j x hx=>by
  have hj:j<ts.length:=(List.getElem?_eq_some_iff.1 hx).1
  obtain ⟨v',h1,h2⟩:=e5 j (.string x) (by rw [List.getElem?_append_left (by omega)];unfold strC;rw [List.getElem?_map,hx];rfl)
  rw [h1]
  congr 1
  exact flat_eq rfl h2
 let ss:=ts.map fun x=>x.data.toList
 have hss:ss.length=ts.length:=List.length_map ..
 have hH:_root_.Go.Sort.Holds encStr w L.B (L.o+0) ss.toArray:=by
  intro j hj
  have hj2:j<ts.length:=by simpa [ss] using hj
  have e:ss.toArray[j]! = ts[j].data.toList:=by simp [ss,hj2]
  refine ⟨?_,?_⟩
  ·rw [e,henc]
   simp only [World.cell?,e1,Nat.add_zero]
   simpa using hcell j _ (List.getElem?_eq_getElem hj2)
  ·simp only [World.frozen?,e1,Nat.add_zero]
   have:=e6 (L.o+j) (by omega) (by
    simp only [AObj.hi,List.length_append]
    have:=hin j hj2
    split<;>omega)
   simpa using this
 have hblk:L.B<w.heap.size:=(Array.getElem?_eq_some_iff.1 e1).1
 have hcon:=Any.slices_Sort_string Tryz.sortS L.B (L.o+0) cap' ss w hH hblk (by rw [hss];exact hlen)
 have h38:Tryz.sortS_ren.f 190=65:=rfl
 rw [h38,hss] at hcon
 refine hcon.mono ?_
 rintro e w' ⟨rfl,n,os,rfl⟩
 have hperm:(ss.mergeSort fun x y=>decide (x≤y)).Perm ss:=List.mergeSort_perm _ _
 have hsorted:(ss.mergeSort fun x y=>decide (x≤y)).Pairwise fun x y=>decide (x≤y)=true:=List.pairwise_mergeSort (fun a b c h1 h2=>by
  simp only [decide_eq_true_eq] at h1 h2 ⊢
  exact List.le_trans h1 h2) (fun a b=>by
  simp only [Bool.or_eq_true,decide_eq_true_eq]
  exact List.le_total a b) ss
 generalize (ss.mergeSort fun x y=>decide (x≤y))=zs at hperm hsorted ⊢
 let ts':List ByteArray:=zs.map fun z=>⟨z.toArray⟩
 have hlz:zs.length=ts.length:=by rw [hperm.length_eq,hss]
 have hlts:ts'.length=ts.length:=by rw [List.length_map,hlz]
 have hp':ts'.Perm ts:=by
  have h1:(ts'.Perm (ss.map fun z=>(⟨z.toArray⟩:ByteArray))):=hperm.map _
  have h2:(ss.map fun z=>(⟨z.toArray⟩:ByteArray))=ts:=by
   show (ts.map fun x=>x.data.toList).map (fun z=>(⟨z.toArray⟩:ByteArray))=ts
   rw [List.map_map]
   conv=>rhs;rw [← List.map_id ts]
   refine List.map_congr_left fun x _=>?_
   simp
  rwa [h2] at h1
 have hs':ts'.Pairwise fun x y=>blt y x=false:=by
  rw [List.pairwise_map]
  refine hsorted.imp ?_
  intro x y h
  rw [decide_eq_true_eq] at h
  unfold blt
  cases hb2:bytesLt (List.toArray y).toList (List.toArray x).toList with
  | false=>rfl
  | true=>
   have:=(bytesLt_iff _ _).1 hb2
   simp only at this
   exact absurd this (by simpa using h)
 have hgz:∀ i x,ts'[i]? = some x→encStr zs.toArray[i]! = .string x:=fun i x hx=>by
  rw [List.getElem?_map] at hx
  cases hz:zs[i]? with
  | none=>rw [hz] at hx;cases hx
  | some z=>
   rw [hz] at hx
   cases hx
   have hi:i<zs.length:=(List.getElem?_eq_some_iff.1 hz).1
   have:zs.toArray[i]! = z:=by
    simp [hi]
    exact (List.getElem?_eq_some_iff.1 hz).2
   rw [this]
 refine ⟨.tuple #[],_,.tuple #[],ρ,⟨ts',rfl,hp',hs'⟩,rfl,.refl_closed rfl,?_⟩
 have hn2':=hsl ts'
 have st1:Step ρ A w ρ A (Sort.ahead w n):=Step.of_below hrep ⟨rfl,rfl,rfl,Nat.le_refl _,fun _ _=>rfl⟩ (Nat.le_add_right _ _)
 have hcells':(putRow encStr (Sort.ahead w n) L.B (L.o+0) zs.toArray).heap[L.B]? = some (.cells (putCells encStr (L.o+0) zs.toArray cells) el (lo,hi)):=by
  simp only [putRow,mapBlock,Sort.ahead,Array.getElem?_modify,if_true,e1,Option.map_some,onCells]
 have hother:∀ B,B≠L.B→(putRow encStr (Sort.ahead w n) L.B (L.o+0) zs.toArray).heap[B]? = (Sort.ahead w n).heap[B]?:=fun B hB=>by
  simp only [putRow,mapBlock,Sort.ahead,Array.getElem?_modify,if_neg (Ne.symm hB)]
 have hput:∀ j,(putCells encStr (L.o+0) zs.toArray cells)[j]? = if L.o≤j∧j<L.o+ts.length then (if j<cells.size then some (encStr zs.toArray[j-L.o]!) else none) else cells[j]?:=fun j=>by
  simp only [putCells,Array.getElem?_mapIdx,Nat.add_zero,List.size_toArray,hlz]
  by_cases hj:j<cells.size
  ·have e:cells[j]? = some cells[j]:=by simp [hj]
   simp only [e,Option.map_some]
   by_cases hc:L.o≤j∧j<L.o+ts.length
   ·rw [if_pos hc,if_pos hc,if_pos hj]
   ·rw [if_neg hc,if_neg hc]
  ·have e:cells[j]? = none:=by simp;omega
   simp [hj]
 have hsize:(putCells encStr (L.o+0) zs.toArray cells).size=cells.size:=by simp [putCells]
 generalize putCells encStr (L.o+0) zs.toArray cells=cells' at hcells' hput hsize
 have hlen':(strC ts'++rest).length=(strC ts++rest).length:=by simp only [List.length_append];omega
 have hrow:ORel ρ (.row (strC ts'++rest) sz tl) L (putRow encStr (Sort.ahead w n) L.B (L.o+0) zs.toArray):=by
  refine ⟨cells',el,lo,hi,hcells',by rw [hsize];exact e2,e3,by rw [hlen'];exact e4,fun i v hv=>?_,fun j h1 h2=>e6 j h1 ?_⟩
  ·by_cases hi:i<ts.length
   ·have hti:ts'[i]? = some ts'[i]:=List.getElem?_eq_getElem (by omega)
    rw [List.getElem?_append_left (by omega)] at hv
    unfold strC at hv
    rw [List.getElem?_map,hti] at hv
    cases hv
    refine ⟨_,?_,.refl_flat (v:=.string ts'[i]) rfl⟩
    rw [hput,if_pos ⟨by omega,by omega⟩,if_pos (hin i hi),Nat.add_sub_cancel_left,hgz i _ hti]
   ·rw [List.getElem?_append_right (by omega)] at hv
    obtain ⟨v',h1,h2⟩:=e5 i v (by rw [List.getElem?_append_right (by omega)];rw [← hv];congr 1;omega)
    exact ⟨v',by rw [hput,if_neg (by omega)];exact h1,h2⟩
  ·simp only [AObj.hi] at h2 ⊢
   rw [hlen'] at h2
   exact h2
 have st2:Step ρ A (Sort.ahead w n) ρ (A.set b (.row (strC ts'++rest) sz tl)) (putRow encStr (Sort.ahead w n) L.B (L.o+0) zs.toArray):=
  Step.set st1.rep hb hL hrow (by simp only [AObj.hi,hlen'];exact Nat.le_refl _) ⟨rfl,rfl,rfl,by simp [putRow,mapBlock],Nat.le_refl _⟩ hother (.inr ⟨cells,cells',el,(lo,hi),e1,hcells',hsize,fun j hj=>by
   rw [hput,if_neg]
   intro hc
   refine hj ⟨hc.1,?_⟩
   simp only [AObj.hi,List.length_append]
   have:=hin (j-L.o) (by omega)
   split<;>omega⟩)
 have st3:Step ρ (A.set b (.row (strC ts'++rest) sz tl)) (putRow encStr (Sort.ahead w n) L.B (L.o+0) zs.toArray) ρ (A.set b (.row (strC ts'++rest) sz tl)) (grow (putRow encStr (Sort.ahead w n) L.B (L.o+0) zs.toArray) os):=
  Step.of_below st2.rep ⟨rfl,rfl,rfl,by simp [grow],fun k hk=>by simp only [grow];rw [Array.getElem?_append_left hk]⟩ (Nat.le_refl _)
 exact (st1.trans st2).trans st3
theorem sortS_none{A:ASt}{p:Option Addr}{cap:Nat}:CallW Z Tryz.prog 65 [.slice p 0 cap] A (fun v A'=>A'=A):=by
 intro ρ w args' hR ha
 obtain ⟨p',cap',rfl⟩:∃ p' cap',args'=#[.slice p' 0 cap']:=by
  obtain ⟨l⟩:=args'
  have ha:VsRel ρ _ l:=ha
  cases ha with
  | cons h1 h2=>
   cases h2
   cases h1<;>exact ⟨_,_,rfl⟩
 have hcon:=Any.slices_Sort_string_none Tryz.sortS p' cap' w
 have h38:Tryz.sortS_ren.f 190=65:=rfl
 rw [h38] at hcon
 refine hcon.mono ?_
 rintro e w' ⟨rfl,rfl⟩
 exact ⟨.tuple #[],A,.tuple #[],ρ,rfl,rfl,.refl_closed rfl,.refl (Z.rep hR)⟩
end Go.Proofs.YtgcffmhpjphefaaGreatDoor

/- A table of timers in general: all of them, by their names. -/
namespace Go.Proofs.YtgcffmhpjphefaaGreatDoor
open Go Go.AE
set_option maxRecDepth 10000
set_option maxHeartbeats 8000000
variable {Z:Go.AE.Road}{s:Spans}

def NamesOf(es:List VT)(ns:List ByteArray):Prop:=(ns.Pairwise fun x y=>blt x y=true)∧∀ k,k∈ns↔∃ x∈es,x.1=k
theorem sortedS_spec{A:ASt}{c m:Nat}{es:List VT}{ck:Nat}(hc:A.get c=some (.row [.map (some m)] 1 false))(hm:A.get m=some (.map (vEnts encTV es) ck))(hok:VOK es ck)(hlen:es.length≤1000)(hcl:c<A.next)(hmn:m<A.next):
  CallW Z Tryz.prog 36 [.func (.func 66) #[] #[.pointer (some ⟨c,0,none⟩)]] A (fun v A'=>∃ ns,NamesOf es ns∧OwnS A' A.next 1 ns.length v (strC ns)∧Fr [] A A'):=by
 refine CallW.of_code E0_ok E0_ro fn36 rfl (n:=9) rfl (rs:=[.tmp 2]) rfl (by simp) (codeW_ok E0_ok E0_ro ?_)
 simp only [z_0,flat,cond_true,if_true,if_false,List.append_nil,List.nil_append,eq_self,Nat.reduceEqDiff,Nat.reduceLT,reduceCtorEq]
 refine CallT.mono (CallT.of_call (collectS_spec hc hm hok hlen hcl hmn)) ?_
 rintro v B ⟨done,lo,h1,h2,hnd,hO,hlo,fB⟩
 have hkn:=(vget_all hok h1 h2 hnd).1
 have hks:kstr done=strC (done.map (·.1)):=by
  unfold kstr strC
  rw [List.map_map];rfl
 have hO0:=hO
 rw [hks] at hO
 have hdl:done.length=(done.map (·.1)).length:=by rw [List.length_map]
 rw [hdl] at hO
 generalize hkd:done.map (·.1)=ks at hO hkn
 have hmem:∀ k,k∈ks↔∃ x∈es,x.1=k:=fun k=>by
  rw [← hkd,List.mem_map]
  constructor
  ·rintro ⟨x,hx,e⟩;exact ⟨x,h1 x hx,e⟩
  ·rintro ⟨x,hx,e⟩;exact ⟨x,h2 x hx,e⟩
 have hdone1:done.length≤1000:=Nat.le_trans (vnodup_le hnd h1) hlen
 have hks1:ks.length≤1000:=by rw [← hkd,List.length_map];exact hdone1
 have hve:=hO.ve
 -- what the sort leaves
 have fin:∀ (C:ASt) (ns:List ByteArray),ns.Perm ks→(ns.Pairwise fun x y=>blt y x=false)→NamesOf es ns:=fun C ns hp hs=>by
  refine ⟨?_,fun k=>by rw [hp.mem_iff];exact hmem k⟩
  have hn:ns.Nodup:=(hp.nodup_iff).2 hkn
  refine (List.Pairwise.and hs hn).imp ?_
  rintro a b ⟨h3,h4⟩
  cases hb:blt a b with
  | true=>rfl
  | false=>exact absurd (blt_tri hb h3) h4
 have hO':=hO.lower hlo
 rcases hO with ⟨h3,h4,rfl⟩ | ⟨b,cap,tl,rfl,hb,hlb,hbn,hcl2,hcap⟩
 ·have hk0:ks=[]:=List.eq_nil_of_length_eq_zero h3
  subst hk0
  simp only [z_0,if_true,if_false,List.append_nil,List.nil_append,eq_self,Nat.reduceEqDiff,Nat.reduceLT,reduceCtorEq]
  refine CallT.mono (CallT.of_call sortS_none) ?_
  rintro _ _ rfl
  simp only [z_0,if_true,if_false,eq_self,Nat.reduceEqDiff,Nat.reduceLT,reduceCtorEq]
  exact ⟨[],fin A [] .rfl .nil,.inl ⟨rfl,rfl,rfl⟩,fB⟩
 ·by_cases hk0:ks=[]
  ·subst hk0
   simp only [z_0,if_true,if_false,List.length_nil,List.append_nil,List.nil_append,eq_self,Nat.reduceEqDiff,Nat.reduceLT,reduceCtorEq]
   refine CallT.mono (CallT.of_call sortS_none) ?_
   rintro _ _ rfl
   simp only [z_0,if_true,if_false,eq_self,Nat.reduceEqDiff,Nat.reduceLT,reduceCtorEq]
   exact ⟨[],fin A [] .rfl .nil,hO',fB⟩
  ·simp only [z_0,if_true,if_false,List.append_nil,List.nil_append,eq_self,Nat.reduceEqDiff,Nat.reduceLT,reduceCtorEq]
   refine CallT.mono (CallT.of_call (sortS_spec (rest:=[]) (by rw [List.append_nil];exact hb) hk0 (by omega))) ?_
   rintro _ _ ⟨ns,rfl,hp,hs⟩
   simp only [z_0,if_true,if_false,List.append_nil,eq_self,Nat.reduceEqDiff,Nat.reduceLT,reduceCtorEq]
   have hle:ns.length=ks.length:=hp.length_eq
   refine ⟨ns,fin A ns hp hs,.inr ⟨b,cap,tl,by rw [hle],by rw [ASt.get_set,if_pos rfl],by omega,by rw [ASt.next_set];exact hbn,by unfold strC;rw [List.length_map];omega,by rw [hle];exact hcap⟩,⟨by rw [ASt.next_set];exact fB.next,fun b' hb' _=>by rw [ASt.get_set,if_neg (by omega),fB.get b' hb' (by simp)]⟩⟩
structure AllOf(D:TD)(l:List TimD):Prop where
 ord:(l.map (·.name)).Pairwise fun x y=>blt x y=true
 mem:∀ t,t∈l↔D t.name=some t
theorem ix34{b i n c:Nat}(h:i<n):aIndexAddr E0 34 (.slice (some ⟨b,0,none⟩) n c) (.int .i64 (i:Int))=some (.pointer (some ⟨b,i,none⟩)):=by
 have:=indexAddr_sl (A:={ heap:=.e,next:=0 }) ti34 t34_desc ti9 (kd:=.i64) (k:=i) (b:=b) (off:=0) (len:=n) (cap:=c) h
 rwa [t9_size,Nat.zero_add,Nat.mul_one] at this
theorem strC_nth{ns:List ByteArray}{i:Nat}{k:ByteArray}(h:ns[i]? = some k):nth (strC ns) i=some (.string k):=by
 rw [nth_eq]
 unfold strC
 rw [List.getElem?_map,h]
 rfl
theorem tallC_spec(hro:RoadS Z E0 s){A:ASt}{x m q e w:Nat}{v:Value}{W all:Nat}{ms:List Nat}{now n:Nat}{D:TD}{S:Nat→Prop}(h:TabAt s A x m q e w v W all ms now n D S)(hn:n≤1000):
  CallW Z Tryz.prog 12 [.pointer (some ⟨x,0,none⟩)] A (fun r A'=>∃ P,TimsAt s A' A.next r P∧AllOf D (P.map (·.1))∧Fr [] A A'):=by
 refine CallW.assume hro fun hnr=>?_
 refine CallW.of_code (withRo_ok E0_ok) hro.ro (f:=12) (fn:=Tryz.f12) fn12 rfl (n:=31) rfl (rs:=[.tmp 2]) rfl (by simp) (codeW_ok (withRo_ok E0_ok) hro.ro ?_)
 have hc0:=h.core
 have h1:=hc0.hx
 have hlx:=hc0.lts
 obtain ⟨es,ck,hg,hok,hD,hS⟩:=hc0.hm
 have hes:es.length≤1000:=by
  obtain ⟨ls,hl1,hl2⟩:=h.upto
  have:=nodup_leG hok.keys (l:=ls) (fun k hk=>by
   obtain ⟨y,hy,rfl⟩:=List.mem_map.1 hk
   refine hl2 _ ?_
   rw [← hD,vget_mem hok.keys hy]
   rfl)
  rw [List.length_map] at this
  omega
 simp only [w_w,z_0,flat,Option.isNone,aFieldAddr,cond_true,cond_false,if_true,if_false,List.append_nil,List.nil_append,eq_self,Nat.reduceEqDiff,Nat.reduceLT,reduceCtorEq,eqnilT,h1]
 refine CallT.mono (CallT.of_call keys_spec) ?_
 rintro _ _ ⟨rfl,rfl⟩
 have fB:Fr [] A (A.new (.row [.map (some m)] 1 false)):=.new
 have gB:(A.new (.row [.map (some m)] 1 false)).get A.next=some (.row [.map (some m)] 1 false):=by rw [ASt.get_new,if_pos rfl]
 have nB:(A.new (.row [.map (some m)] 1 false)).next=A.next+1:=ASt.next_new ..
 generalize A.new (.row [.map (some m)] 1 false)=B at fB gB nB ⊢
 simp only [w_w,z_0,if_true,if_false,List.append_nil,List.nil_append,eq_self,Nat.reduceEqDiff,Nat.reduceLT,reduceCtorEq]
 refine CallT.mono (CallT.of_call (sortedS_spec gB ((fB.get m (by omega) (by simp)).trans hg) hok hes (by omega) (by omega))) ?_
 rintro lv C ⟨ns,hns,hO,fC⟩
 have fAC:=fB.trans fC
 have nC:=fC.next
 obtain ⟨bo,cp,rfl⟩:∃ bo cp,lv=.slice bo ns.length cp:=by
  rcases hO with ⟨h3,_,rfl⟩ | ⟨b,cap,tl,rfl,_⟩
  ·exact ⟨none,0,by rw [h3]⟩
  ·exact ⟨_,_,rfl⟩
 have hlen:=fun B2=>hO.len (E:=E0) ti34 t34_desc B2
 have hDn:∀ k∈ns,∃ t dv,vget es k=some (t,dv)∧D k=some t:=fun k hk=>by
  obtain ⟨y,hy,rfl⟩:=(hns.2 k).1 hk
  have h3:=vget_mem hok.keys hy
  exact ⟨y.2.1.1,y.2.1.2,h3,by rw [← hD,h3];rfl⟩
 have hnl:ns.length≤1000:=by
  have hnn:ns.Nodup:=hns.1.imp (fun {a b} hab e1=>by subst e1;rw [blt_irr] at hab;cases hab)
  have:=nodup_leG hnn (l:=es.map (·.1)) (fun k hk=>by
   obtain ⟨y,hy,e1⟩:=(hns.2 k).1 hk
   exact List.mem_map.2 ⟨y,hy,e1⟩)
  rw [List.length_map] at this
  omega
 simp only [w_w,z_0,flat,aBuiltin,cond_true,if_true,if_false,eq_self,Nat.reduceEqDiff,Nat.reduceLT,reduceCtorEq,hlen]
 refine CodeW.mono (Q:=fun o=>∃ T' A',o=.fr ⟨.exit 0,T',A'⟩∧∃ r P,tget T' 3=r∧TimsAt s A' A.next r P∧P.map (·.1)=ns.map (fun k=>(D k).getD zTimD)∧Fr [] A A') ?_ ?_
 ·refine CodeW.loopR (k:=ns.length) (fun n T A'=>∃ (i:Nat) (r:Value) (P:List (TimD×Value)),n=ns.length-i∧i≤ns.length∧tget T 15=.int .i64 (i:Int)∧tget T 14=.int .i64 (ns.length:Int)∧tget T 13=.slice bo ns.length cp∧tget T 0=.pointer (some ⟨x,0,none⟩)∧tget T 3=r∧P.length=i∧TimsAt s A' C.next r P∧P.map (·.1)=(ns.take i).map (fun k=>(D k).getD zTimD)∧Fr [] C A') ?_ ?_
  ·rintro k0 T A1 ⟨i,r,P,rfl,hi,u15,u14,u13,u0,u3,hPl,hT1,hPm,f1⟩
   refine codeW_ok (withRo_ok E0_ok) hro.ro ?_
   by_cases hlt:i<ns.length
   ·have d1:((i:Int)<(ns.length:Int))=True:=eq_true (by omega)
    obtain ⟨k,hk⟩:∃ k,ns[i]? = some k:=⟨_,List.getElem?_eq_getElem hlt⟩
    obtain ⟨t,dv,hvg,hDk⟩:=hDn k (List.mem_of_getElem? hk)
    obtain ⟨b,cap,tl,etv,hb,hlb,hbn,_,_⟩:∃ b cap tl,(.slice bo ns.length cp:Value)=.slice (some ⟨b,0,none⟩) ns.length cap∧C.get b=some (.row (strC ns) 1 tl)∧B.next≤b∧b<C.next∧(strC ns).length=ns.length*1∧True:=by
     rcases hO with ⟨h3,_⟩ | ⟨b,cap,tl,h3,h4,h5,h6,h7,_⟩
     ·omega
     ·exact ⟨b,cap,tl,h3,h4,h5,h6,h7,trivial⟩
    cases etv
    have hbA:=(f1.get b hbn (by simp)).trans hb
    have nf1:=f1.next
    have fAA1:=fAC.trans f1
    have hcA:=hc0.fr0 fAA1
    have hxA:=hcA.hx
    have hgA:=(fAA1.get m (by omega) (by simp)).trans hg
    have hlk:aLookup E0 62 (.map (some m)) (.string k) false A1=some (tval t dv):=by
     have:=tlook hgA k false
     rw [hvg] at this
     exact this
    simp only [w_w,z_0,aFieldAddr,cond_false,if_true,if_false,List.append_nil,List.nil_append,eq_self,Nat.reduceEqDiff,Nat.reduceLT,reduceCtorEq,u15,u14,u13,u0,u3,d1,ix34 hlt,hbA,strC_nth hk,hxA,hlk]
    refine CallT.mono (CallT.of_call (copied_spec (t:=t) hro ((hS k t dv hvg).fr fAA1 (by simp)) (h.ok k t hDk).1.steps)) ?_
    rintro _ G ⟨dv',rfl,hdG,fG⟩
    have nG:=fG.next
    have fN:Fr [] G (G.new (.row (tcell t dv') 5 false)):=.new
    have nN:(G.new (.row (tcell t dv') 5 false)).next=G.next+1:=ASt.next_new ..
    have hOG:=(hT1.own.fr fG (by simp)).fr fN (by simp)
    obtain ⟨r2,H,ha,hOH,fH,hr2⟩:=appTim (s:=s) (p:=G.next) (t:=t) (dv:=dv') (tl:=false) hOG (by rw [ASt.get_new,if_pos rfl]) hdG.single (by omega) (by omega)
    have hbs:=bsTim (t:=t) hdG.single
    have nH:=fH.next
    have w1:IntKind.i64.wrap ((i:Int)+1)=((i+1:Nat):Int):=by rw [IntKind.wrap_i64];omega
    simp only [w_w,z_0,flat,aBuiltin,cond_true,if_true,if_false,eq_self,Nat.reduceEqDiff,Nat.reduceLT,reduceCtorEq,u15,u14,u13,u0,u3,hbs,ha,w1]
    have hrl:∀ c∈slB r,C.next≤c∧c<A1.next:=hT1.own.low
    refine ⟨ns.length-(i+1),by omega,i+1,r2,P++[(t,dv')],rfl,by omega,rfl,rfl,by rw [List.length_append,hPl];rfl,⟨?_,fun p hp=>?_⟩,?_,⟨by omega,fun c h3 _=>?_⟩⟩
    ·have:tcellL (P++[(t,dv')])=tcellL P++tcell t dv':=by
      unfold tcellL
      rw [List.map_append,List.flatten_append]
      simp
     rw [this,List.length_append]
     exact hOH
    ·rcases List.mem_append.1 hp with hp | hp
     ·have h3:=(hT1.steps p hp).imp (S':=fun b=>(C.next≤b∧b∉slB r)∧b<A1.next) (fun b h4 h5=>⟨h4,h5⟩)
      have h6:=((h3.fr fG (by simp)).fr fN (by simp)).fr fH (fun b h4 _=>h4.1.2)
      refine h6.imp (fun b h4 _=>⟨h4.1.1,fun hm=>?_⟩)
      rcases hr2 b hm with h5 | h5
      ·exact h4.1.2 h5
      ·have:=h4.2;omega
     ·simp only [List.mem_singleton] at hp
      subst hp
      have hdG':Steps (withRo E0 s) G (fun b=>A1.next≤b∧b<G.next) dv' t.steps:=hdG.imp (fun b h4 h5=>⟨h4,h5⟩)
      have h6:=(hdG'.fr fN (by simp)).fr fH (fun b h4 _ hm=>by have:=(hrl b hm).2;omega)
      refine h6.imp (fun b h4 _=>⟨by omega,fun hm=>?_⟩)
      rcases hr2 b hm with h5 | h5
      ·have:=(hrl b h5).2;omega
      ·omega
    ·rw [take_snoc hk,List.map_append,List.map_append,hPm]
     show _++[t]=_++[(D k).getD zTimD]
     rw [hDk];rfl
    ·rw [fH.get c (by omega) (fun hm=>by have:=(hrl c hm).1;omega),fN.get c (by omega) (by simp),fG.get c (by omega) (by simp),f1.get c h3 (by simp)]
   ·have e1:i=ns.length:=by omega
    subst e1
    have d1:((ns.length:Int)<(ns.length:Int))=False:=eq_false (by omega)
    simp only [z_0,if_true,eq_self,Nat.reduceLT,u15,u14,d1]
    rw [List.take_length] at hPm
    exact ⟨_,_,rfl,r,P,by simp only [tget_put,Nat.reduceEqDiff,if_false,u3],⟨hT1.own.lower (by omega),fun p hp=>(hT1.steps p hp).imp (fun b h3 _=>⟨by omega,h3.2⟩)⟩,hPm,fAC.trans f1⟩
  ·refine ⟨0,.slice none 0 0,[],rfl,Nat.zero_le _,?_,?_,?_,?_,?_,rfl,⟨.inl ⟨rfl,rfl,rfl⟩,fun p hp=>(by cases hp)⟩,rfl,.refl _ _⟩
   all_goals first | rfl | (unfold argsT;rfl)
 ·rintro o ⟨T',A',rfl,r,P,u3,hT,hP,f1⟩
  simp only [z_0,if_true,if_false,eq_self,Nat.reduceEqDiff,Nat.reduceLT,u3]
  refine ⟨P,hT,⟨?_,fun t=>?_⟩,f1⟩
  ·rw [hP,List.map_map]
   have:ns.map ((fun t:TimD=>t.name) ∘ fun k=>(D k).getD zTimD)=ns:=by
    conv=>rhs;rw [← List.map_id ns]
    refine List.map_congr_left fun k hk=>?_
    obtain ⟨t,dv,_,hDk⟩:=hDn k hk
    show ((D k).getD zTimD).name=k
    rw [hDk]
    exact (h.ok k t hDk).2
   rw [this]
   exact hns.1
  ·rw [hP,List.mem_map]
   constructor
   ·rintro ⟨k,hk,rfl⟩
    obtain ⟨t,dv,_,hDk⟩:=hDn k hk
    rw [hDk]
    show D t.name=some t
    rw [(h.ok k t hDk).2]
    exact hDk
   ·intro ht
    refine ⟨t.name,?_,by rw [ht];rfl⟩
    rw [hns.2]
    have h3:=hD t.name
    rw [ht] at h3
    cases hv:vget es t.name with
    | none=>rw [hv] at h3;cases h3
    | some p=>
     obtain ⟨bn,hb⟩:=vget_some hv
     exact ⟨_,hb,rfl⟩
end Go.Proofs.YtgcffmhpjphefaaGreatDoor

/- A table of timers in general: a new one, and a copy. -/
namespace Go.Proofs.YtgcffmhpjphefaaGreatDoor
open Go Go.AE
set_option maxRecDepth 10000
set_option maxHeartbeats 8000000
variable {Z:Go.AE.Road}{s:Spans}

theorem T0.tabAt{A:ASt}{x m q e w W all now:Nat}{ms:List Nat}(h:T0 A x m q e w W all ms now):TabAt s A x m q e w (.slice none 0 0) W all ms now 0 (fun _=>none) (fun _=>False):=by
 have hw:WAt A w []:=⟨[],0,h.hq.hw,⟨.nil,.nil,fun x hx=>(by cases hx)⟩,fun k i=>by
  constructor
  ·intro h;cases h
  ·intro h;simp at h⟩
 have hE:EAt A e w (.slice none 0 0) []:=⟨h.hq.he,.inl ⟨rfl,rfl⟩,hw,⟨h.hq.lt.2.1,h.hq.lt.2.2⟩,by simp⟩
 have hQ:QAt A q e w (.slice none 0 0) (fun _=>none):=⟨[],⟨h.hq.hq,hE,fun c _ hc=>absurd hc (by simp),h.hq.lt.1⟩,fun k a=>by simp⟩
 have en:TD.near (fun _=>none) now=fun _=>none:=rfl
 have ef:TD.far (fun _=>none) now=fun _=>none:=rfl
 have hne:=h.ne
 have hnW:=h.nW
 have hqn:=h.hq.ne
 have hWn:=h.hW.nodup
 refine ⟨⟨h.hx,⟨[],0,h.hm,⟨.nil,.nil,fun x hx=>(by cases hx)⟩,fun k=>rfl,fun k t dv hk=>(by cases hk)⟩,by rw [en];exact hQ,by rw [ef];exact h.hW,?_,?_,fun b hb=>(by cases hb),fun b hb=>hb.elim⟩,fun k t hk=>(by cases hk),⟨[],by simp,fun k hk=>by cases hk⟩⟩
 ·have hxq:x≠q:=fun e1=>by
   have h1:=h.hx
   rw [e1,h.hq.hq] at h1
   simp at h1
  simp only [ownT,List.nodup_cons,List.mem_cons,not_or] at hnW hWn ⊢
  exact ⟨⟨hne.1,hxq,hne.2.1,hne.2.2.1,hnW.1⟩,⟨hne.2.2.2.1,hne.2.2.2.2.1,hne.2.2.2.2.2,hnW.2.1⟩,⟨hqn.2.2,hqn.2.1,hnW.2.2.1⟩,⟨hqn.1,hnW.2.2.2.1⟩,hnW.2.2.2.2,hWn⟩
 ·intro b hb
  simp only [ownT,List.mem_cons] at hb
  rcases hb with rfl | rfl | rfl | rfl | rfl | hb
  ·exact h.lt.1
  ·exact h.lt.2
  ·exact h.hq.lt.1
  ·exact h.hq.lt.2.1
  ·exact h.hq.lt.2.2
  ·exact h.hW.below b (by simpa using hb)
theorem tnewC_spec{A:ASt}{now:Nat}(hn:now<18446744073709551616):CallW Z Tryz.prog 7 [.int .u64 (now:Int)] A (fun r A'=>∃ x m q e w W all ms,r=.pointer (some ⟨x,0,none⟩)∧TabAt s A' x m q e w (.slice none 0 0) W all ms now 0 (fun _=>none) (fun _=>False)∧Fr [] A A'∧∀ b∈ownT x m q e w W all ms,A.next≤b):=by
 refine CallW.mono (tnew_spec hn) ?_
 rintro _ A' ⟨x,m,q,e,w,W,all,ms,rfl,hT,fA,hl⟩
 refine ⟨x,m,q,e,w,W,all,ms,rfl,hT.tabAt,fA,fun b hb=>hl b ?_⟩
 simp only [ownT,List.mem_cons,List.cons_append,List.nil_append] at hb ⊢
 exact hb
theorem TabAt.now{A:ASt}{x m q e w:Nat}{v:Value}{W all:Nat}{ms:List Nat}{now n:Nat}{D:TD}{S:Nat→Prop}(h:TabAt s A x m q e w v W all ms now n D S):now<18446744073709551616:=h.core.hW.nowlt
abbrev VT2:=VE ByteArray (TimD×Value)
noncomputable def dOf(l:List VT2):TD:=fun k=>(vget l k).map (·.1)
theorem nodup_inj{α β:Type}{f:α→β}:∀ {l:List α},(l.map f).Nodup→∀ {x y:α},x∈l→y∈l→f x=f y→x=y
 | [],_,x,_,hx,_,_=>by cases hx
 | z::l,hn,x,y,hx,hy,e=>by
  simp only [List.map_cons,List.nodup_cons,List.mem_map,not_exists,not_and] at hn
  rcases List.mem_cons.1 hx with h1 | h1<;>rcases List.mem_cons.1 hy with h2 | h2
  ·rw [h1,h2]
  ·subst h1;exact absurd e.symm (hn.1 y h2)
  ·subst h2;exact absurd e (hn.1 x h1)
  ·exact nodup_inj hn.2 h1 h2 e
theorem tcopyC_spec(hro:RoadS Z E0 s)(ht:TabZ Z){A:ASt}{x m q e w:Nat}{v:Value}{W all:Nat}{ms:List Nat}{now n:Nat}{D:TD}{S:Nat→Prop}(h:TabAt s A x m q e w v W all ms now n D S)(hn:n≤900)(hst':∀ k t,D k=some t→StepsIn t.steps):
  CallW Z Tryz.prog 16 [.pointer (some ⟨x,0,none⟩)] A (fun r A'=>∃ x2 m2 q2 e2 w2 v2 W2 all2 ms2 S2,r=.pointer (some ⟨x2,0,none⟩)∧TabAt s A' x2 m2 q2 e2 w2 v2 W2 all2 ms2 now n D S2∧(∀ b∈ownT x2 m2 q2 e2 w2 W2 all2 ms2,A.next≤b)∧(∀ b∈slB v2,A.next≤b)∧(∀ b,S2 b→A.next≤b)∧Fr [] A A'):=by
 refine CallW.assume hro fun hnr=>?_
 refine CallW.of_code (withRo_ok E0_ok) hro.ro (f:=16) (fn:=Tryz.f16) fn16 rfl (n:=24) rfl (rs:=[.tmp 2]) rfl (by simp) (codeW_ok (withRo_ok E0_ok) hro.ro ?_)
 have hc0:=h.core
 have h1:=hc0.hx
 have hlx:=hc0.lts
 simp only [w_w,z_0,flat,Option.isNone,cond_true,if_true,if_false,List.append_nil,List.nil_append,eq_self,Nat.reduceEqDiff,Nat.reduceLT,reduceCtorEq,eqnilT]
 refine CallT.mono (CallT.of_call (tclockC_spec hc0)) ?_
 rintro _ _ ⟨rfl,rfl⟩
 simp only [w_w,z_0,if_true,if_false,List.append_nil,List.nil_append,eq_self,Nat.reduceEqDiff,Nat.reduceLT,reduceCtorEq]
 refine CallT.mono (CallT.of_call (tnewC_spec (s:=s) h.now)) ?_
 rintro _ B ⟨x2,m2,q2,e2,w2,W2,all2,ms2,rfl,hT,fB,hl2⟩
 have hcB:=hc0.fr0 fB
 have h2:=hcB.hx
 obtain ⟨es,ck,hgA,hok,hD,hS⟩:=hc0.hm
 have hg:=(fB.get m hlx.2.1 (by simp)).trans hgA
 have hrg:aRange E0 62 (.map (some m)) B=.val (.pointer (some ⟨B.next,0,none⟩)) (B.new (.miter (some m) ck [] ck)):=range_u ti62 t62_desc hg
 have hes:es.length≤900:=by
  obtain ⟨ls,hl1,hl2⟩:=h.upto
  have:=nodup_leG hok.keys (l:=ls) (fun k hk=>by
   obtain ⟨y,hy,rfl⟩:=List.mem_map.1 hk
   refine hl2 _ ?_
   rw [← hD,vget_mem hok.keys hy]
   rfl)
  rw [List.length_map] at this
  omega
 simp only [w_w,z_0,aFieldAddr,cond_false,if_true,if_false,eq_self,Nat.reduceEqDiff,Nat.reduceLT,reduceCtorEq,h2,hrg]
 have fC:Fr [] B (B.new (.miter (some m) ck [] ck)):=.new
 have gC:(B.new (.miter (some m) ck [] ck)).get B.next=some (.miter (some m) ck [] ck):=by rw [ASt.get_new,if_pos rfl]
 have nC:(B.new (.miter (some m) ck [] ck)).next=B.next+1:=ASt.next_new ..
 generalize B.new (.miter (some m) ck [] ck)=C at fC gC nC ⊢
 have nB:=fB.next
 have hTC:TabAt s C x2 m2 q2 e2 w2 (.slice none 0 0) W2 all2 ms2 now 0 (fun _=>none) (fun _=>False):=⟨hT.core.fr0 fC,hT.ok,hT.upto⟩
 have hown2:∀ b∈ownT x2 m2 q2 e2 w2 W2 all2 ms2,A.next≤b∧b<B.next:=fun b hb=>⟨hl2 b hb,hT.core.lt b hb⟩
 have hSl:∀ b,S b→b<A.next:=fun b hb=>(hc0.nr b hb).1
 have hmC:C.get m=some (.map (vEnts encTV es) ck):=(fC.get m (by omega) (by simp)).trans hg
 refine CodeW.mono (Q:=fun o=>∃ T' A' done v2 S2,o=.fr ⟨.exit 0,T',A'⟩∧tget T' 3=.pointer (some ⟨x2,0,none⟩)∧(∀ y∈done,y∈es)∧(∀ y∈es,y∈done)∧done.Nodup∧TabAt s A' x2 m2 q2 e2 w2 v2 W2 all2 ms2 now done.length (dOf done) S2∧(∀ b∈slB v2,C.next≤b)∧(∀ b,S2 b→C.next≤b)∧Fr [] A A') ?_ ?_
 ·refine CodeW.mapLoopV (Γ:=encTV) (it:=15) (r:=B.next) (m:=m) (ck:=ck) (l:=es) (J:=fun done T A'=>tget T 3=.pointer (some ⟨x2,0,none⟩)∧∃ v2 S2,TabAt s A' x2 m2 q2 e2 w2 v2 W2 all2 ms2 now done.length (dOf done) S2∧(∀ b∈slB v2,C.next≤b)∧(∀ b,S2 b→C.next≤b)∧Fr [] A A'∧C.next≤A'.next) ?_ ?_ ?_
  ·rintro done T A1 hi ⟨u3,v2,S2,hT1,hv2,hS2,f1,nA1⟩
   refine codeW_ok (withRo_ok E0_ok) hro.ro ?_
   have hit:=hi.it
   simp only [z_0,hit]
   refine nextV_v hok hi.sub hi.iter hi.map (fun y hy hn=>?_) (fun hfin=>?_)
   ·have hent:=entry_v (A:=A1.set B.next (.miter (some m) ck ((done++[y]).map (·.2.2)) ck)) (r:=B.next) (m:=m) hok hy (by rw [ASt.get_set,if_pos rfl]) (by rw [ASt.get_set,if_neg (by omega)];exact hi.map)
    have fD:Fr [B.next] A1 (A1.set B.next (.miter (some m) ck ((done++[y]).map (·.2.2)) ck)):=⟨by rw [ASt.next_set];exact Nat.le_refl _,fun b hb hn=>by rw [ASt.get_set,if_neg (by simpa using hn)]⟩
    have gD:(A1.set B.next (.miter (some m) ck ((done++[y]).map (·.2.2)) ck)).get B.next=some (.miter (some m) ck ((done++[y]).map (·.2.2)) ck):=by rw [ASt.get_set,if_pos rfl]
    have nD:(A1.set B.next (.miter (some m) ck ((done++[y]).map (·.2.2)) ck)).next=A1.next:=rfl
    generalize A1.set B.next (.miter (some m) ck ((done++[y]).map (·.2.2)) ck)=F at hent fD gD nD ⊢
    obtain ⟨yk,⟨t,dv⟩,yb⟩:=y
    have hvg:vget es yk=some (t,dv):=vget_mem hok.keys hy
    have hDk:D yk=some t:=by rw [← hD,hvg];rfl
    obtain ⟨hright,hname⟩:=h.ok yk t hDk
    have hSt:=hS yk t dv hvg
    have hTF:=hT1.core.fr fD (fun b hb _=>by
     simp only [List.mem_singleton] at hb
     subst hb
     exact ⟨fun hm=>by have:=(hown2 _ hm).2;omega,fun hm=>by have:=hv2 _ hm;omega,fun hm=>by have:=hS2 _ hm;omega⟩)
    have hent':aEntry (.pointer (some ⟨B.next,0,none⟩)) F=some (.tuple #[.string yk,tval t dv]):=hent
    simp only [w_w,z_0,if_true,if_false,eq_self,Nat.reduceEqDiff,Nat.reduceLT,hit,hent',al25,ptrTo]
    have hsd:=hSt.single
    have hst:=st25 (A:=F.new (.row [.string ByteArray.empty,.int .i64 0,.int .u64 0,.int .u64 0,.slice none 0 0] 5 false)) (b:=F.next) (a0:=.string t.name) (a1:=.int .i64 t.ver) (a2:=.int .u64 (t.at_:Int)) (a3:=.int .u64 (t.every:Int)) (a4:=dv) (by rw [ASt.get_new,if_pos rfl]) (tim_sg hsd)
    have hst:aStore E0 30 (.pointer (some ⟨F.next,0,none⟩)) (tval t dv) (F.new (.row [.string ByteArray.empty,.int .i64 0,.int .u64 0,.int .u64 0,.slice none 0 0] 5 false))=some ((F.new (.row [.string ByteArray.empty,.int .i64 0,.int .u64 0,.int .u64 0,.slice none 0 0] 5 false)).set F.next (.row [.string t.name,.int .i64 t.ver,.int .u64 (t.at_:Int),.int .u64 (t.every:Int),dv] 5 false)):=hst
    rw [hst]
    generalize hGd:(F.new (.row [.string ByteArray.empty,.int .i64 0,.int .u64 0,.int .u64 0,.slice none 0 0] 5 false)).set F.next _=G
    have fG:Fr [] F G:=⟨by rw [← hGd,ASt.next_set,ASt.next_new];omega,fun b hb _=>by rw [← hGd,ASt.get_set,if_neg (by omega),ASt.get_new,if_neg (by omega)]⟩
    have gG:G.get F.next=some (.row [.string t.name,.int .i64 t.ver,.int .u64 (t.at_:Int),.int .u64 (t.every:Int),dv] 5 false):=by rw [← hGd,ASt.get_set,if_pos rfl]
    clear hGd hst
    have nG:=fG.next
    have nf1:=f1.next
    have hSA1:Steps (withRo E0 s) A1 S dv t.steps:=hSt.fr f1 (by simp)
    have hTG:TabAt s G x2 m2 q2 e2 w2 v2 W2 all2 ms2 now done.length (dOf done) S2:=⟨hTF.fr0 fG,hT1.ok,hT1.upto⟩
    have hdl:done.length≤900:=Nat.le_trans (vnodup_le hi.nodup hi.sub) hes
    have hSG:Steps (withRo E0 s) G S dv t.steps:=(hSA1.fr fD (fun b h3 _ hm=>by simp only [List.mem_singleton] at hm;have:=hSl b h3;omega)).fr fG (by simp)
    have hwr2:∀ b∈wrT m2 e2 w2 v2 W2 all2 ms2,A.next≤b:=fun b hb=>by
     simp only [wrT,List.mem_cons,List.mem_append] at hb
     rcases hb with hb | hb | hb | hb | hb
     ·exact (hown2 b (by simp [hb])).1
     ·exact (hown2 b (by simp [hb])).1
     ·exact (hown2 b (by simp [hb])).1
     ·have:=hv2 b hb;omega
     ·exact (hown2 b (by simp only [ownT,List.mem_cons];simp [hb])).1
    have hat:t.at_<18446744073709551616:=by have:=hright.2.2.2.2.2.1;omega
    simp only [w_w,z_0,cond_true,if_true,if_false,List.append_nil,List.nil_append,eq_self,Nat.reduceEqDiff,Nat.reduceLT,u3,gG,cut5]
    refine CallT.mono (CallT.of_call (tsetC_spec (t:=t) hro ht hTG (by omega) hSG (hst' yk t hDk) hat (fun b h3 _ hm=>by have:=hwr2 b hm;have:=hSl b h3;omega) (hnr _ (hown2 x2 (by simp)).1))) ?_
    rintro r H ⟨hres,fH⟩
    rcases hres with ⟨_,rfl,v3,S3,hTH,hv3,hS3⟩ | ⟨hnr2,_⟩
    ·simp only [z_0,if_false,eq_self,Nat.reduceEqDiff,Nat.reduceLT,u3]
     have nH:=fH.next
     have hown3:∀ b,b<C.next→B.next≤b∨b<A.next→b∉wrT m2 e2 w2 v2 W2 all2 ms2:=fun b h3 h4 hm=>by
      simp only [wrT,List.mem_cons,List.mem_append] at hm
      rcases hm with hm | hm | hm | hm | hm
      ·have:=hown2 b (by simp [hm]);omega
      ·have:=hown2 b (by simp [hm]);omega
      ·have:=hown2 b (by simp [hm]);omega
      ·have:=hv2 b hm;omega
      ·have:=hown2 b (by simp only [ownT,List.mem_cons];simp [hm]);omega
     have hpt:(dOf done).put t=dOf (done++[(yk,(t,dv),yb)]):=by
      funext k
      have hnd2:vget done yk=none:=by
       rw [vget_none]
       intro z hz e1
       have:=nodup_inj hok.keys (hi.sub z hz) hy e1
       exact hn (this ▸ hz)
      unfold TD.put dOf
      rw [vget_snoc]
      by_cases e1:k=t.name
      ·have e2:k=yk:=e1.trans hname
       rw [if_pos e1,if_pos e2,e2,hnd2]
       rfl
      ·have e2:k≠yk:=fun e3=>e1 (e3.trans hname.symm)
       rw [if_neg e1,if_neg e2,Option.or_none]
     rw [hpt] at hTH
     refine ⟨_,hy,hn,hi.step hy hn (by simp only [tget_put,Nat.reduceEqDiff,if_false]) ?_ ?_,v3,S3,by rw [List.length_append];exact hTH,fun b hb=>?_,fun b hb=>?_,⟨by omega,fun b hb _=>?_⟩,by omega⟩
     ·rw [fH.get _ (by omega) (hown3 _ (by omega) (by omega)),fG.get _ (by omega) (by simp)]
      exact gD
     ·rw [fH.get _ (by omega) (hown3 _ (by omega) (by omega)),fG.get _ (by omega) (by simp),fD.get _ (by omega) (by simp;omega)]
     ·rcases hv3 b hb with h3 | h3
      ·exact hv2 b h3
      ·omega
     ·rcases hS3 b hb with h3 | h3
      ·exact hS2 b h3
      ·omega
     ·rw [fH.get _ (by omega) (hown3 _ (by omega) (by omega)),fG.get _ (by omega) (by simp),fD.get _ (by omega) (by simp;omega),f1.get b hb (by simp)]
    ·exact absurd hright hnr2
   ·simp only [z_0,if_true,if_false,eq_self,Nat.reduceEqDiff,Nat.reduceLT]
    exact ⟨_,_,done,v2,S2,rfl,by simp only [tget_put,Nat.reduceEqDiff,if_false,u3],hi.sub,hfin,hi.nodup,hT1,hv2,hS2,f1⟩
  ·exact ⟨by simp only [tget_put,Nat.reduceEqDiff,if_false,if_true],gC,hmC,by simp,.nil⟩
  ·exact ⟨by simp only [tget_put,Nat.reduceEqDiff,if_false,if_true],.slice none 0 0,fun _=>False,hTC,fun b hb=>(by cases hb),fun b hb=>hb.elim,fB.trans fC,Nat.le_refl _⟩
 ·rintro o ⟨T',A',done,v2,S2,rfl,u3,hsub,hall,hnd,hT1,hv2,hS2,f1⟩
  simp only [z_0,if_true,if_false,eq_self,Nat.reduceEqDiff,Nat.reduceLT,u3]
  obtain ⟨_,hva⟩:=vget_all hok hsub hall hnd
  have hDD:dOf done=D:=by
   funext k
   unfold dOf
   rw [hva,hD]
  rw [hDD] at hT1
  exact ⟨x2,m2,q2,e2,w2,v2,W2,all2,ms2,S2,rfl,⟨hT1.core,hT1.ok,h.upto⟩,hl2,fun b hb=>by have:=hv2 b hb;omega,fun b hb=>by have:=hS2 b hb;omega,f1⟩
end Go.Proofs.YtgcffmhpjphefaaGreatDoor

/- The live question, wherever it is asked. -/
namespace Go.Proofs.YtgcffmhpjphefaaGreatDoor
open Go Go.AE

variable {Z:Go.AE.Road}

theorem alive_run0:ends isTrueV (run E0 20000 (.call (.fn 15) [] (startAt 0)))=true:=by kernel_rfl
theorem alive_run:∃ fuel,ends isTrueV (run E0 fuel (.call (.fn 15) [] (startAt 0)))=true:=⟨20000,alive_run0⟩

theorem alive_calls(w:World):Calls Tryz.prog 15 #[] w fun e w'=>e=.returned (.bool true)∧Go.RowKit.Below w.heap.size w w'∧w.drawn≤w'.drawn:=by
 obtain ⟨fuel,hrun⟩:=alive_run
 have hall:(callBy (run E0 fuel) (.fn 15) [] (startAt 0)).all (fun r=>isTrueV r.1=true):=by
  have:=ends_all hrun
  unfold callBy
  revert this
  generalize run E0 fuel (.call (.fn 15) [] (startAt 0))=m
  intro this
  induction m with
  | ret o=>
   obtain ⟨v,A,rfl,hq⟩:=this
   exact hq
  | ask n k ih=>exact fun i hi=>ih i (this i hi)
  | fail s=>exact this.elim
  | pick p k ih=>exact fun r hr=>ih r (this r hr)
 have h:=CallW.of_run (Z:=roadRaw [] w) (f:=15) (args:=[]) (A:=startAt 0) (Q:=fun v _=>isTrueV v=true) E0_ok E0_ro hook_none mixed hall
 refine (h (rawRen []) w #[] (Step.refl (rep_start [] w)) .nil).mono ?_
 rintro e w' ⟨v,A',v',ρ',hq,rfl,hv,hst⟩
 refine ⟨?_,Step.below (n:=0) hst,hst.drawn⟩
 cases hv<;>first | (simp [isTrueV] at hq;done) | skip
 rename_i b
 cases b with
 | true=>rfl
 | false=>cases hq

theorem alive_spec{A:ASt}:CallW Z Tryz.prog 15 [] A (fun v A'=>v=.bool true∧A'=A):=by
 intro ρ w args' hR ha
 obtain ⟨l⟩:=args'
 cases ha
 refine (alive_calls w).mono ?_
 rintro e w' ⟨rfl,hb,hd⟩
 exact ⟨.bool true,A,.bool true,ρ,⟨rfl,rfl⟩,rfl,.bool _,Step.of_below (Z.rep hR) hb hd⟩
end Go.Proofs.YtgcffmhpjphefaaGreatDoor

/- The law 'TimersDue' in plain Lean: how many there are. -/
namespace Go.Proofs.YtgcffmhpjphefaaGreatDoor
open Go Go.AE
theorem Lists.nodup{M:TM}{L:List (ByteArray×Nat)}(h:Lists M L):L.Nodup:=h.ord.imp (fun {a b} hab e=>by subst e;exact tlt_irr _ hab)
theorem UptoD.le{D:TD}{n m:Nat}(h:UptoD D n)(hm:n≤m):UptoD D m:=by
 obtain ⟨l,h1,h2⟩:=h
 exact ⟨l,by omega,h2⟩
end Go.Proofs.YtgcffmhpjphefaaGreatDoor

/- The law 'TimersDue', walked. -/
namespace Go.Proofs.YtgcffmhpjphefaaGreatDoor
open Go Go.AE
set_option maxRecDepth 10000
set_option maxHeartbeats 16000000
variable {Z:Go.AE.Road}{s:Spans}

def StepD.ranged(y:StepD):Prop:=-9223372036854775808≤y.n∧y.n<9223372036854775808
structure Handed(s:Spans)(A:ASt)(S:Nat→Prop)(v:Value)(P:List (TimD×Value)):Prop where
 sl:SlAt (withRo E0 s) A S 5 v (P.map fun p=>tcell p.1 p.2)
 st:∀ p∈P,Steps (withRo E0 s) A S p.2 p.1.steps∧(∀ y∈p.1.steps,y.ranged)∧p.1.at_<18446744073709551616
theorem Handed.fr{A B:ASt}{S:Nat→Prop}{v:Value}{P:List (TimD×Value)}{own:List Nat}(h:Handed s A S v P)(hf:Fr own A B)(ho:∀ b,S b→b<A.next→b∉own):Handed s B S v P:=
 ⟨h.sl.fr hf ho,fun p hp=>⟨(h.st p hp).1.fr hf ho,(h.st p hp).2⟩⟩
theorem tcell_len{P:List (TimD×Value)}:∀ x∈P.map (fun p=>tcell p.1 p.2),x.length=5:=by
 intro x hx
 obtain ⟨y,_,rfl⟩:=List.mem_map.1 hx
 rfl
theorem TimsAt.sl{A:ASt}{lo:Nat}{r:Value}{P:List (TimD×Value)}(h:TimsAt s A lo r P)(hnr:∀ b,lo≤b→(withRo E0 s).ro b=none):SlAt (withRo E0 s) A (fun b=>lo≤b) 5 r (P.map fun p=>tcell p.1 p.2):=by
 have h1:=h.own
 have:P.length=(P.map fun p=>tcell p.1 p.2).length:=by rw [List.length_map]
 rw [this] at h1
 exact OwnS.slAt h1 hnr tcell_len
theorem timIx{A:ASt}{S:Nat→Prop}{v:Value}{P:List (TimD×Value)}(h:SlAt (withRo E0 s) A S 5 v (P.map fun p=>tcell p.1 p.2)){i:Nat}{p:TimD×Value}(hp:P[i]? = some p):
  ∃ b o c,(∀ kd,aIndexAddr E0 23 v (.int kd (i:Int))=some (.pointer (some ⟨b,o,none⟩)))∧cellsG (withRo E0 s) b (A.get b)=some c∧cut c o 5=some (tcell p.1 p.2)∧nth c o=some (.string p.1.name)∧nth c (o+2)=some (.int .u64 (p.1.at_:Int))∧S b:=by
 obtain ⟨b,o,c,h1,h2,h3,h4,h5,h6⟩:=h.ix (wti.trans ti23) t23_desc (wti.trans ti30) t30_size (i:=i) (x:=tcell p.1 p.2) (by rw [List.getElem?_map,hp];rfl)
 simp only [wix] at h1
 exact ⟨b,o,c,h1,h2.g,h5,h6 0 _ rfl,h6 2 _ rfl,h3⟩
theorem timLen{A:ASt}{S:Nat→Prop}{v:Value}{P:List (TimD×Value)}(h:SlAt (withRo E0 s) A S 5 v (P.map fun p=>tcell p.1 p.2))(B:ASt):aLen E0 23 v B=some (.int .i64 (P.length:Int)):=by
 have:=h.len (wti.trans ti23) t23_desc B
 simp only [wlen,List.length_map] at this
 exact this
theorem TimsAt.form{A:ASt}{lo:Nat}{r:Value}{P:List (TimD×Value)}(h:TimsAt s A lo r P):∃ b c,r=.slice b P.length c:=by
 rcases h.own with ⟨h0,_,rfl⟩ | ⟨b,cap,tl,rfl,_⟩
 ·exact ⟨none,0,by rw [h0]⟩
 ·exact ⟨_,_,rfl⟩
theorem NamesAt.form{A:ASt}{lo:Nat}{r:Value}{L:List (ByteArray×Nat)}(h:NamesAt A lo r L):∃ b c,r=.slice b L.length c:=by
 rcases h with ⟨h0,_,rfl⟩ | ⟨b,cap,tl,rfl,_⟩
 ·exact ⟨none,0,by rw [h0]⟩
 ·exact ⟨_,_,rfl⟩
theorem strs_nth{l:List (ByteArray×Nat)}{i:Nat}{y:ByteArray×Nat}(h:l[i]? = some y):nth (strs l) i=some (.string y.1):=by
 rw [nth_eq]
 unfold strs
 rw [List.getElem?_map,h]
 rfl
theorem newTim{A:ASt}{t:TimD}{dv:Value}(hs:single dv=true):∃ C,aStore E0 30 (.pointer (some ⟨A.next,0,none⟩)) (tval t dv) (A.new (.row [.string ByteArray.empty,.int .i64 0,.int .u64 0,.int .u64 0,.slice none 0 0] 5 false))=some C∧Fr [] A C∧C.get A.next=some (.row [.string t.name,.int .i64 t.ver,.int .u64 (t.at_:Int),.int .u64 (t.every:Int),dv] 5 false)∧C.next=A.next+1:=by
 have hst:=st25 (A:=A.new (.row [.string ByteArray.empty,.int .i64 0,.int .u64 0,.int .u64 0,.slice none 0 0] 5 false)) (b:=A.next) (a0:=.string t.name) (a1:=.int .i64 t.ver) (a2:=.int .u64 (t.at_:Int)) (a3:=.int .u64 (t.every:Int)) (a4:=dv) (by rw [ASt.get_new,if_pos rfl]) (tim_sg hs)
 refine ⟨_,hst,⟨by rw [ASt.next_set,ASt.next_new];omega,fun b hb _=>by rw [ASt.get_set,if_neg (by omega),ASt.get_new,if_neg (by omega)]⟩,by rw [ASt.get_set,if_pos rfl],by rw [ASt.next_set,ASt.next_new]⟩
end Go.Proofs.YtgcffmhpjphefaaGreatDoor

/- What a law's arguments hold: a slice of timers with their steps. -/
namespace Go.Proofs.YtgcffmhpjphefaaGreatDoor
open Go Go.AE Go.ChangeShapes Go.WideShapes Go.ChangeAt Go.RowKit Go.Joins Go.Deep
set_option maxRecDepth 100000
def StepsZ(W:World)(v:Value)(l:List StepD):Prop:=StepsAt W v l∨(l=[]∧∃ a c,v=.slice (some a) 0 c)
def TimD.wide(t:TimD):Prop:=(∀ y∈t.steps,y.ok)∧t.at_<18446744073709551616∧t.every<18446744073709551616
section
variable {H:Type}{enc:TypeId×Value→H}{w:World}{base:Nat}{spare:Nat→Bool}{held:Bool}
theorem open_stepsZ{fuel:Nat}{v:Value}{x:DataW H×List MemPlace}(h:DataW.trod enc Tryz.prog w base spare held fuel 28 [v]=some x):∃ l,StepsZ w v l∧∀ y∈l,y.ok:=by
 rcases open_slice Tryz.underlying28 h with ⟨h0,_⟩ | ⟨a,len,cap,m,n,D,Pl,h0,_,hl,hcap,hm,_,hx⟩
 ·cases h0;exact ⟨[],.inl (.inl ⟨rfl,rfl⟩),by simp⟩
 ·cases h0
  by_cases h0:len=0
  ·subst h0
   exact ⟨[],.inr ⟨rfl,a,cap,rfl⟩,by simp⟩
  ·have hlm:len≤m:=by rw [hm];split<;>omega
   have hc:Tryz.prog.cellsOf 56=4:=by kernel_rfl
   obtain ⟨cs',h1,_⟩:=hx 0 (by omega)
   rw [hc] at h1
   obtain ⟨_,hlen,hcell⟩:=World.cells?_some h1
   have h2:=hcell 0 (by omega)
   obtain ⟨v0,hv0⟩:∃ v0,cs'[0]? = some v0:=⟨_,List.getElem?_eq_getElem (by omega)⟩
   rw [hv0] at h2
   have hsp:a.spot=none:=by simpa [Addr.add] using World.cell?_spot h2
   obtain ⟨l,h3,h4⟩:=open_steps h (fun a' len' cap' e=>by cases e;exact hsp)
   exact ⟨l,.inl h3,h4⟩
theorem open_timerZ{fuel:Nat}{cs:List Value}{x:DataW H×List MemPlace}(hlen:cs.length=5)(hf:DataW.trod enc Tryz.prog w base spare held fuel 30 cs=some x):∃ (t:TimD) (dv:Value),cs=tcell t dv∧StepsZ w dv t.steps∧t.wide:=by
 match cs,hlen with
 | [c0,c1,c2,c3,c4],_=>
  obtain ⟨d,p⟩:=x
  obtain ⟨xs,n,_,_,_,hxl,hg⟩:=Go.DataW.trod_struct Tryz.underlying30 hf
  have k9:Tryz.prog.cellsOf 9=1:=by kernel_rfl
  have k3:Tryz.prog.cellsOf 3=1:=by kernel_rfl
  have k22:Tryz.prog.cellsOf 22=1:=by kernel_rfl
  have k23:Tryz.prog.cellsOf 28=1:=by kernel_rfl
  match xs,hxl with
  | [x0,x1,x2,x3,x4],_=>
  have g0:DataW.trod enc Tryz.prog w base spare held n 9 (([c0,c1,c2,c3,c4].drop 0).take (Tryz.prog.cellsOf 9))=some x0:=hg 0 _ rfl
  have g1:DataW.trod enc Tryz.prog w base spare held n 3 (([c0,c1,c2,c3,c4].drop 1).take (Tryz.prog.cellsOf 3))=some x1:=hg 1 _ rfl
  have g2:DataW.trod enc Tryz.prog w base spare held n 22 (([c0,c1,c2,c3,c4].drop 2).take (Tryz.prog.cellsOf 22))=some x2:=hg 2 _ rfl
  have g3:DataW.trod enc Tryz.prog w base spare held n 22 (([c0,c1,c2,c3,c4].drop 3).take (Tryz.prog.cellsOf 22))=some x3:=hg 3 _ rfl
  have g4:DataW.trod enc Tryz.prog w base spare held n 28 (([c0,c1,c2,c3,c4].drop 4).take (Tryz.prog.cellsOf 28))=some x4:=hg 4 _ rfl
  rw [k9] at g0
  rw [k3] at g1
  rw [k22] at g2 g3
  rw [k23] at g4
  obtain ⟨s,e0,_⟩:=Go.DataW.trod_string Tryz.underlying9 g0
  obtain ⟨ver,e1,_,l1⟩:=DataW.trod_int Tryz.underlying3 g1
  obtain ⟨at_,e2,l2⟩:=trod_u64 g2
  obtain ⟨ev,e3,l3⟩:=trod_u64 g3
  cases e0;cases e1;cases e2;cases e3
  obtain ⟨steps,hst,hok⟩:=open_stepsZ g4
  exact ⟨⟨s,ver,at_,ev,steps⟩,c4,rfl,hst,hok,l2,l3⟩
instance:Inhabited TimD:=⟨zTimD⟩
end
theorem stepsZ_span{W:World}{v:Value}{l:List StepD}(h:StepsZ W v l)(k:Nat):∃ (x:Go.AE.Loc×List Value) (sv:Value),(∀ (i:Nat) (c:Value),x.2[i]? = some c→closed c=true∧W.cell? ⟨x.1.B,x.1.o+i,none⟩=some c)∧
  ∀ s:Spans,s[k]? = some x→VRel (roRen s) sv v∧∀ A:ASt,(∀ b,b<A.next→A.get b=none)→k<A.next→Steps (withRo E0 s) A (fun b=>b=k) sv l:=by
 rcases h with (⟨rfl,rfl⟩ | ⟨b,o,cap,rfl,hcap,hx⟩) | ⟨rfl,a,c,rfl⟩
 ·exact ⟨(⟨0,0,0,0,undef⟩,[]),.slice none 0 0,by simp,fun s _=>⟨.nilSlice 0 0,fun A _ _=>.inl ⟨rfl,.inl rfl⟩⟩⟩
 ·refine ⟨(⟨b,o,0,0,undef⟩,(l.map scell).flatten),.slice (some ⟨k,0,none⟩) l.length cap,fun i c hc=>?_,fun s hs=>⟨?_,fun A hA hn=>?_⟩⟩
  ·obtain ⟨q,y,r,h1,_,rfl,h4⟩:=scells_at hc
   exact ⟨scell_closed h4,hx q y h1 r c h4⟩
  ·have hr:roRen s k=some ⟨b,o,0,0,undef⟩:=by unfold roRen;rw [hs];rfl
   exact .slice (ρ:=roRen s) (b:=k) (off:=0) l.length hr hcap
  ·have hlen:=flat_len (scell_len (l:=l))
   refine .inr ⟨k,0,cap,(l.map scell).flatten,by rw [List.length_map],.inl ⟨hA _ hn,?_⟩,rfl,hn,scell_len,?_⟩
   ·rw [ro_of]
    unfold roTab
    rw [hs];rfl
   ·unfold cut
    simp only [List.drop_zero,← hlen,List.take_length,Nat.beq_refl,cond_true]
 ·exact ⟨(⟨0,0,0,0,undef⟩,[]),zslice,by simp,fun s _=>⟨.sliceZ a c,fun A _ _=>.inl ⟨rfl,.inr rfl⟩⟩⟩
end Go.Proofs.YtgcffmhpjphefaaGreatDoor

/- Spans for a slice of timers with their steps. -/
namespace Go.Proofs.YtgcffmhpjphefaaGreatDoor
open Go Go.AE Go.ChangeShapes Go.WideShapes Go.ChangeAt Go.RowKit Go.Joins Go.Deep
set_option maxRecDepth 100000
instance:Inhabited Go.AE.Loc:=⟨⟨0,0,0,0,undef⟩⟩
def LieIn(s1 s:Spans)(W:World):Prop:=∀ x∈s1,∀ (i:Nat) (v:Value),x.2[i]? = some v→∃ v',W.cell? ⟨x.1.B,x.1.o+i,none⟩=some v'∧VRel (roRen s) v v'
end Go.Proofs.YtgcffmhpjphefaaGreatDoor

/- What a law's arguments hold: slices of timers, numbers, two numbers. -/
namespace Go.Proofs.YtgcffmhpjphefaaGreatDoor
open Go Go.AE Go.ChangeShapes Go.WideShapes Go.ChangeAt Go.RowKit Go.Joins Go.Deep
set_option maxRecDepth 100000
section
variable {H:Type}{enc:TypeId×Value→H}{w:World}{base:Nat}{spare:Nat→Bool}{held:Bool}
theorem slice_cells{W:World}{t e:TypeId}{v:Value}(ht:Tryz.prog.underlying t=some (.slice e)){base:Nat}(hv:Value.okWide Tryz.prog W .any base t v):v.cells=#[v]:=by
 unfold Value.okWide Cell.okWide Cell.ok at hv
 rw [ht] at hv
 cases v<;>first | rfl | (simp at hv)
theorem spot_none{t e:TypeId}{a:Addr}{len cap:Nat}(ht:Tryz.prog.underlying t=some (.slice e))(hv:Value.okWide Tryz.prog w .any base t (.slice (some a) len cap)):a.spot=none:=by
 unfold Value.okWide Cell.okWide Cell.ok at hv
 rw [ht] at hv
 exact hv.2.2.2.1
theorem u64_ok{v:Value}(hv:Value.okWide Tryz.prog w .any base 22 v):∃ n:Nat,v=.int .u64 (n:Int)∧n<18446744073709551616:=by
 unfold Value.okWide Cell.okWide Cell.ok at hv
 rw [Tryz.underlying22] at hv
 cases v<;>first | (simp at hv;done) | skip
 rename_i k n
 simp only at hv
 obtain ⟨rfl,h⟩:=hv
 unfold IntKind.has at h
 have h1:(0:Int)≤n:=h.1
 have h2:n≤18446744073709551615:=h.2
 exact ⟨n.toNat,by rw [Int.toNat_of_nonneg h1],by omega⟩
end
theorem tab_global:Tryz.prog.globalNamed "internal/strconv.uint64pow10" = some 0:=by kernel_rfl
theorem tab_met{W:World}{laid:List (String×DataW Unit)}(e:laid.filter (fun x=>x.1 == "internal/strconv.uint64pow10")=[("internal/strconv.uint64pow10", Lib.tabData .u64 Lib.pow10Tab)]) (h:laidMetH Tryz.prog laid W):Lib.TabIs Tryz.prog W "internal/strconv.uint64pow10" .u64 Lib.pow10Tab∧0<W.heap.size:=by
 have h1:=h.filter (fun x=>x.1 == "internal/strconv.uint64pow10")
 rw [e] at h1
 have h2:=(laidMetH_iff.1 h1).1
 have e2:([("internal/strconv.uint64pow10", (Lib.tabData .u64 Lib.pow10Tab:DataW Unit))].filter fun x=>x.2.handleName?.isNone)=[("internal/strconv.uint64pow10", Lib.tabData .u64 Lib.pow10Tab)]:=by kernel_rfl
 rw [e2] at h2
 have ht:(Tryz.prog.globals[0]?).map (·.type)=some 186:=by kernel_rfl
 have hT:=Lib.tabIs_of_head tab_global ht Tryz.underlying186 Tryz.underlying22 (by kernel_rfl) (by kernel_rfl) h2
 refine ⟨hT,?_⟩
 have hc:=Lib.TabIs.cell hT tab_global 0 (by decide +kernel)
 unfold World.cell? at hc
 by_cases hz:0<W.heap.size
 ·exact hz
 ·have e3:W.heap[0]? = none:=Array.getElem?_eq_none (by omega)
  simp only [e3] at hc
  cases hc
end Go.Proofs.YtgcffmhpjphefaaGreatDoor

/- More of what the evaluator reads of the program. -/
namespace Go.Proofs.YtgcffmhpjphefaaGreatDoor
open Go Go.AE
set_option linter.defProp false
noncomputable def t46:TIn:=match tiOf Tryz.prog 46 with
 | some i=>i
 | none=>⟨.bool,0,0,none,#[],none⟩
theorem ti46:E0.ti 46=some t46:=by kernel_rfl
theorem t46_desc:t46.desc=TypeDesc.pointer 48:=by kernel_rfl
theorem t46_size:t46.size=1:=by kernel_rfl
theorem t46_zero:t46.zero=some (.pointer none):=by kernel_rfl
noncomputable def t48:TIn:=match tiOf Tryz.prog 48 with
 | some i=>i
 | none=>⟨.bool,0,0,none,#[],none⟩
theorem ti48:E0.ti 48=some t48:=by kernel_rfl
theorem t48_desc:t48.desc=TypeDesc.struct #[{ name := "Now", type:=22,offset:=0,embedded:=false,tag := "", pkgPath := "", byteOffset:=0 },{ name := "L", type:=23,offset:=1,embedded:=false,tag := "", pkgPath := "", byteOffset:=8 }]:=by kernel_rfl
theorem t48_size:t48.size=2:=by kernel_rfl
theorem t48_zero:t48.zero=some (.agg #[.int .u64 0,.slice none 0 0]):=by kernel_rfl
noncomputable def t45:TIn:=match tiOf Tryz.prog 45 with
 | some i=>i
 | none=>⟨.bool,0,0,none,#[],none⟩
theorem ti45:E0.ti 45=some t45:=by kernel_rfl
theorem t45_desc:t45.desc=TypeDesc.slice 50:=by kernel_rfl
theorem t45_size:t45.size=1:=by kernel_rfl
theorem t45_zero:t45.zero=some (.slice none 0 0):=by kernel_rfl
noncomputable def t50:TIn:=match tiOf Tryz.prog 50 with
 | some i=>i
 | none=>⟨.bool,0,0,none,#[],none⟩
theorem ti50:E0.ti 50=some t50:=by kernel_rfl
theorem t50_desc:t50.desc=TypeDesc.struct #[{ name := "Kind", type:=3,offset:=0,embedded:=false,tag := "", pkgPath := "", byteOffset:=0 },{ name := "T", type:=30,offset:=1,embedded:=false,tag := "", pkgPath := "", byteOffset:=8 },{ name := "At", type:=22,offset:=6,embedded:=false,tag := "", pkgPath := "", byteOffset:=72 },{ name := "By", type:=22,offset:=7,embedded:=false,tag := "", pkgPath := "", byteOffset:=80 }]:=by kernel_rfl
theorem t50_size:t50.size=8:=by kernel_rfl
theorem t50_zero:t50.zero=some (.agg #[.int .i64 0,.string ByteArray.empty,.int .i64 0,.int .u64 0,.int .u64 0,.slice none 0 0,.int .u64 0,.int .u64 0]):=by kernel_rfl
theorem fn5:E0.fn 5=some Tryz.f5:=by kernel_rfl
theorem fn19:E0.fn 19=some Tryz.f19:=by kernel_rfl
theorem fn20:E0.fn 20=some Tryz.f20:=by kernel_rfl
theorem fn22:E0.fn 22=some Tryz.f22:=by kernel_rfl
theorem fn23:E0.fn 23=some Tryz.f23:=by kernel_rfl
theorem fn24:E0.fn 24=some Tryz.f24:=by kernel_rfl
theorem fn25:E0.fn 25=some Tryz.f25:=by kernel_rfl
theorem fn26:E0.fn 26=some Tryz.f26:=by kernel_rfl
theorem fn27:E0.fn 27=some Tryz.f27:=by kernel_rfl
theorem fn45:E0.fn 45=some Tryz.f45:=by kernel_rfl
theorem fn46:E0.fn 46=some Tryz.f46:=by kernel_rfl
theorem fn47:E0.fn 47=some Tryz.f47:=by kernel_rfl
theorem fn48:E0.fn 48=some Tryz.f48:=by kernel_rfl
theorem fn49:E0.fn 49=some Tryz.f49:=by kernel_rfl
theorem fn50:E0.fn 50=some Tryz.f50:=by kernel_rfl
theorem fn74:E0.fn 74=some Tryz.f74:=by kernel_rfl
theorem fn75:E0.fn 75=some Tryz.f75:=by kernel_rfl
theorem fn76:E0.fn 76=some Tryz.f76:=by kernel_rfl
theorem fn94:E0.fn 94=some Tryz.f94:=by kernel_rfl
def w_pl:=And.intro @ti46 (And.intro @t46_desc (And.intro @t46_size (And.intro @t46_zero (And.intro @ti48 (And.intro @t48_desc (And.intro @t48_size (And.intro @t48_zero (And.intro @ti45 (And.intro @t45_desc (And.intro @t45_size (And.intro @t45_zero (And.intro @ti50 (And.intro @t50_desc (And.intro @t50_size (And.intro @t50_zero (And.intro @fn5 (And.intro @fn19 (And.intro @fn20 (And.intro @fn22 (And.intro @fn23 (And.intro @fn24 (And.intro @fn25 (And.intro @fn26 (And.intro @fn27 (And.intro @fn45 (And.intro @fn46 (And.intro @fn47 (And.intro @fn48 (And.intro @fn49 (And.intro @fn50 (And.intro @fn74 (And.intro @fn75 (And.intro @fn76 (@fn94))))))))))))))))))))))))))))))))))
end Go.Proofs.YtgcffmhpjphefaaGreatDoor

/- The document's texts of numbers, and its fields as bytes. -/
namespace Go.Proofs.YtgcffmhpjphefaaGreatDoor
open Go Go.AE
set_option maxRecDepth 10000
set_option maxHeartbeats 8000000
variable {Z:Go.AE.Road}{s:Spans}

theorem digit{k:Nat}(h:k<10){A:ASt}:∃ st:ByteArray,aSlice E0 9 (.string { data:=#[48,49,50,51,52,53,54,55,56,57] }) (some (.int .i64 (k:Int))) (some (.int .i64 ((k+1:Nat):Int))) none A=some (.string st)∧st.size=1:=by
 have:k=0∨k=1∨k=2∨k=3∨k=4∨k=5∨k=6∨k=7∨k=8∨k=9:=by omega
 rcases this with rfl | rfl | rfl | rfl | rfl | rfl | rfl | rfl | rfl | rfl<;>exact ⟨_,by simp only [aSlice,w_0];rfl,rfl⟩
theorem tq(m:Int):∃ q r:Int,m.tdiv 10=q∧m.tmod 10=r∧m=10*q+r∧-10<r∧r<10∧(0≤m→0≤r∧0≤q)∧(m≤0→r≤0∧q≤0):=by
 cases m with
 | ofNat a=>
  refine ⟨((a / 10:Nat):Int),((a % 10:Nat):Int),rfl,rfl,?_⟩
  simp only [Int.ofNat_eq_natCast]
  omega
 | negSucc a=>
  refine ⟨-(((a+1) / 10:Nat):Int),-(((a+1) % 10:Nat):Int),rfl,rfl,?_⟩
  omega
theorem pow_step{k:Nat}(h:1≤k):(10:Int) ^ k=10*10 ^ (k-1):=by
 obtain ⟨j,rfl⟩:∃ j,k=j+1:=⟨k-1,by omega⟩
 rw [Nat.add_sub_cancel,Int.pow_succ,Int.mul_comm]
theorem dtext_spec{A:ASt}{n:Int}(hn:-9223372036854775808≤n∧n<9223372036854775808):
  CallW Z Tryz.prog 74 [.int .i64 n] A (fun r A'=>(∃ st:ByteArray,r=.string st∧st.size≤21)∧A=A'):=by
 refine CallW.of_code E0_ok E0_ro fn74 rfl (n:=32) rfl (rs:=[.tmp 2]) rfl (by simp) (codeW_ok E0_ok E0_ro ?_)
 simp only [z_0,flat,cond_true,if_true,if_false,eq_self,Nat.reduceEqDiff,Nat.reduceLT,reduceCtorEq]
 refine CodeW.mono (Q:=fun o=>∃ T' st,o=.fr ⟨.exit 0,T',A⟩∧tget T' 0=.int .i64 n∧tget T' 3=.string st∧st.size≤20) ?_ ?_
 ·refine CodeW.loopR (k:=20) (fun k T A'=>∃ (m:Int) (st:ByteArray),tget T 0=.int .i64 n∧tget T 3=.string st∧tget T 4=.int .i64 m∧-(10 ^ k:Int)<m∧m<10 ^ k∧-9223372036854775808≤m∧m<9223372036854775808∧k+st.size≤20∧(st.size=0→st=ByteArray.empty∧k=20)∧A=A') ?_ ⟨n,ByteArray.empty,rfl,rfl,rfl,by omega,by omega,hn.1,hn.2,Nat.le_refl _,fun _=>⟨rfl,rfl⟩,rfl⟩
  ·rintro k T A1 ⟨m,st,u0,u3,u4,m1,m2,m3,m4,hk,hst,rfl⟩
   refine codeW_ok E0_ok E0_ro ?_
   by_cases hc:m≠0∨st=ByteArray.empty
   ·have k1:1≤k:=by
     rcases hc with h | h
     ·cases k with
      | zero=>simp at m1 m2;omega
      | succ k=>omega
     ·have:=(hst (by rw [h];rfl)).2
      omega
    have hp:=pow_step k1
    obtain ⟨q,r,hq,hr,h1,h2,h3,h4,h5⟩:=tq m
    have hrem:∀ xo yo,aBin2 E0 .rem 2 xo yo (.int .i64 m) (.int .i64 10)=some (.int .i64 r):=fun xo yo=>by rw [b_rem (by decide),hr]
    have hquo:∀ xo yo,aBin2 E0 .quo 2 xo yo (.int .i64 m) (.int .i64 10)=some (.int .i64 q):=fun xo yo=>by
     rw [b_quo (by decide),hq,IntKind.wrap_i64]
     congr 2
     omega
    have e12:((m≠0)=True∧(0=0))∨((m≠0)=False∧(st={ data:=#[] })=True):=by
     by_cases h:m=0
     ·exact .inr ⟨eq_false (fun h'=>h' h),eq_true (hc.resolve_left fun h'=>h' h)⟩
     ·exact .inl ⟨eq_true h,rfl⟩
    have hneg:r<0→aUn .neg (.int .i64 r)=some (.int .i64 (-r)):=fun h=>by
     have:IntKind.i64.wrap (0-r)=-r:=by rw [IntKind.wrap_i64];omega
     show some (Value.int .i64 (IntKind.i64.wrap (0-r)))=_
     rw [this]
    have wr:∀ d:Nat,d<10→IntKind.i64.wrap ((d:Int)+1)=((d+1:Nat):Int):=fun d h=>by rw [IntKind.wrap_i64];omega
    rcases e12 with ⟨e1,e2⟩ | ⟨e1,e2⟩
    all_goals
     simp only [z_0,flat,cond_true,cond_false,if_true,if_false,eq_self,Nat.reduceEqDiff,Nat.reduceLT,u3,u4,hrem,e1,e2,undef,b_seql]
     refine brW_dec (fun h=>?_) (fun h=>?_)
     ·obtain ⟨d,hd⟩:∃ d:Nat,-r=(d:Int):=⟨(-r).toNat,by omega⟩
      obtain ⟨dg,hdg,hds⟩:=digit (k:=d) (by omega) (A:=A)
      obtain ⟨su,hadd,hsz⟩:=addS (a:=dg) (b:=st) (by omega)
      simp only [z_0,flat,cond_true,if_true,if_false,eq_self,Nat.reduceEqDiff,Nat.reduceLT,reduceCtorEq,u0,u3,u4,hneg h,hd,wr d (by omega),hdg,hadd,hquo]
      exact ⟨k-1,by omega,q,su,rfl,rfl,by omega,by omega,by omega,by omega,by omega,fun h=>by omega⟩
     ·obtain ⟨d,hd⟩:∃ d:Nat,r=(d:Int):=⟨r.toNat,by omega⟩
      obtain ⟨dg,hdg,hds⟩:=digit (k:=d) (by omega) (A:=A)
      obtain ⟨su,hadd,hsz⟩:=addS (a:=dg) (b:=st) (by omega)
      simp only [z_0,flat,cond_true,if_true,if_false,eq_self,Nat.reduceEqDiff,Nat.reduceLT,reduceCtorEq,u0,u3,u4,hd,wr d (by omega),hdg,hadd,hquo]
      exact ⟨k-1,by omega,q,su,rfl,rfl,by omega,by omega,by omega,by omega,by omega,fun h=>by omega⟩
   ·have e1:(m≠0)=False:=eq_false fun h=>hc (.inl h)
    have e2:(st={ data:=#[] })=False:=eq_false fun h=>hc (.inr h)
    simp only [z_0,flat,cond_true,cond_false,if_true,if_false,eq_self,Nat.reduceEqDiff,Nat.reduceLT,u3,u4,e1,e2,b_seql]
    exact ⟨_,st,rfl,by simp only [tget_put,Nat.reduceEqDiff,if_false,u0],by simp only [tget_put,Nat.reduceEqDiff,if_false,u3],by omega⟩
 ·rintro o ⟨T',st,rfl,u0,u3,hst⟩
  simp only [z_0,flat,cond_true,if_true,if_false,eq_self,Nat.reduceEqDiff,Nat.reduceLT,u0]
  refine brW_dec (fun h=>?_) (fun h=>?_)
  ·obtain ⟨su,hadd,hsz⟩:=addS (a:={ data:=#[45] }) (b:=st) (by show (1:Nat)+_≤1000;omega)
   have e45:({ data:=#[45] }:ByteArray).size=1:=rfl
   simp only [z_0,flat,cond_true,if_true,if_false,eq_self,Nat.reduceEqDiff,Nat.reduceLT,u3,hadd]
   exact ⟨_,rfl,by omega⟩
  ·simp only [z_0,if_true,if_false,eq_self,Nat.reduceEqDiff,Nat.reduceLT,u3]
   exact ⟨_,rfl,by omega⟩
theorem enc01_spec(hro:RoadS Z E0 s){A:ASt}{S:Nat→Prop}{lo:Nat}{v:Value}{fs:List FieldD}(h:SlAt (withRo E0 s) A S 2 v (fs.map fcell))(hf:∀ f∈fs,f.ok A lo)(hl:fs.length≤100)(hnr:∀ b,lo≤b→(withRo E0 s).ro b=none):
  CallW Z Tryz.prog 75 [v] A (fun r A'=>(∃ (o:Value) (e:Int),r=.tuple #[o,.int .i64 e])∧Fr [] A A'):=by
 refine CallW.of_code (withRo_ok E0_ok) hro.ro (f:=75) (fn:=Tryz.f75) fn75 rfl (n:=63) rfl (rs:=[.tmp 2,.tmp 3]) rfl (by simp) (codeW_ok (withRo_ok E0_ok) hro.ro ?_)
 have l1:=h.len (wti.trans ti118) t118_desc
 simp only [wlen,List.length_map] at l1
 have d200:((fs.length:Int) > 200)=False:=eq_false (by omega)
 simp only [w_w,z_0,flat,aBuiltin,cond_true,if_true,if_false,eq_self,Nat.reduceEqDiff,Nat.reduceLT,reduceCtorEq,l1,d200]
 refine CodeW.mono (Q:=fun o=>∃ T' A' r,o=.fr ⟨.exit 0,T',A'⟩∧tget T' 4=r∧Go.AE.single r=true∧Fr [] A A') ?_ ?_
 ·refine CodeW.loopR (k:=fs.length) (fun k T A'=>∃ i n cs out,k=fs.length-i∧i≤fs.length∧tget T 5=.int .i64 ((i:Nat):Int)∧tget T 0=v∧tget T 4=out∧OwnS A' A.next 1 n out cs∧n≤2003*i∧Fr [] A A') ?_ ⟨0,0,[],.slice none 0 0,rfl,by omega,?_,?_,?_,.inl ⟨rfl,rfl,rfl⟩,by omega,.refl _ _⟩
  ·rintro k T A1 ⟨i,n,cs,out,rfl,hi,u5,u0,u4,ho,hn,f1⟩
   refine codeW_ok (withRo_ok E0_ok) hro.ro ?_
   by_cases e1:i<fs.length
   ·have d1:((i:Int)<(fs.length:Int))=True:=eq_true (by omega)
    have hx:fs[i]? = some fs[i]:=List.getElem?_eq_getElem _
    have hmem:fs[i]∈fs:=List.getElem_mem _
    generalize fs[i]=f at hx hmem
    have hok:=(hf f hmem).fr f1 (by simp)
    obtain ⟨b1,p1,c1,hx1,hc1,_,_,hcut1,hnth⟩:=(h.fr f1 (by simp)).ix (wti.trans ti118) t118_desc (wti.trans ti122) t122_size (x:=fcell f) (i:=i) (by rw [List.getElem?_map,hx];rfl)
    have hg1:=hc1.g
    simp only [wix] at hx1
    simp only [fcell] at hcut1
    have n0:=hnth 0 _ rfl
    have n1:=hnth 1 _ rfl
    rw [Nat.add_zero] at n0
    have ld:=hok.2.2.1.len (E:=E0) ti85 t85_desc
    have g1:(f.tag<1)=False:=eq_false (by have:=hok.1;omega)
    have g2:(f.tag > 255)=False:=eq_false (by have:=hok.2.1;omega)
    have g3:((f.n:Int) > 2000)=False:=eq_false (by have:=hok.2.2.2.1;omega)
    obtain ⟨q,hq⟩:∃ q,∀ xo yo,aBin2 E0 .quo 3 xo yo (.int .i64 (f.n:Int)) (.int .i64 256)=some (.int .i64 q):=⟨_,fun _ _=>b_quo (by decide)⟩
    obtain ⟨q2,hq2⟩:∃ q,∀ xo yo,aBin2 E0 .rem 3 xo yo (.int .i64 (f.n:Int)) (.int .i64 256)=some (.int .i64 q):=⟨_,fun _ _=>b_rem (by decide)⟩
    simp only [w_w,z_0,flat,aFieldAddr,aBuiltin,cond_true,cond_false,if_true,if_false,eq_self,Nat.reduceEqDiff,Nat.reduceLT,reduceCtorEq,l1,u5,u0,u4,d1,hx1,hg1,n0,n1,ld,g1,g2,g3,aOp_convert,fcUr,cvU,hq,hq2,bs59]
    generalize hr3:[Value.int .u8 (IntKind.u8.wrap f.tag),.int .u8 (IntKind.u8.wrap q),.int .u8 (IntKind.u8.wrap q2)]=r3
    have l3:r3.length=3:=by rw [← hr3];rfl
    have s3:singles r3=true:=by rw [← hr3];rfl
    clear hr3
    have hfn:=f1.next
    have fC:Fr [] A1 (A1.new (.row r3 1 false)):=.new
    have hoC:=ho.fr fC (by simp)
    have src3:srcCells (withRo E0 s) 1 (.slice (some ⟨A1.next,0,none⟩) 3 3) 3 (A1.new (.row r3 1 false))=some r3:=by
     simp only [srcCells,ASt.get_new,if_true]
     rw [show (3*1:Nat)=r3.length by omega]
     unfold cut
     simp only [List.drop_zero,List.take_length,Nat.beq_refl,cond_true]
    have hnb:n≤200300:=by omega
    obtain ⟨r1,B1,ha1,ho1,fB1,hr1⟩:=hoC.app (E:=withRo E0 s) (xt:=85) (x:=.slice (some ⟨A1.next,0,none⟩) 3 3) (m:=3) (new:=r3) (wti.trans ti85) t85_desc (wti.trans ti5) t5_size (wti.trans ti85) (by rw [t85_desc];rfl) t5_zero z5c z5l (by omega) rfl src3 (by omega) s3 (by rw [t5_bytes];omega) (by have:=fC.next;omega)
    have nB1:=fB1.next
    have nC:=fC.next
    have fAB1:Fr (slB out) A1 B1:=fC.nil.trans fB1
    have hbo:∀ b,b∈slB out→A.next≤b:=fun b hb=>(ho.low b hb).1
    have fAB:Fr [] A B1:=⟨by omega,fun b hb _=>by
     rw [fAB1.get b (by omega) (fun hm=>by have:=hbo b hm;omega)]
     exact f1.get b hb (by simp)⟩
    have hokB:=(hf f hmem).fr fAB (by simp)
    obtain ⟨b2,p2,c2,hx2,hc2,_,_,hcut2,hnth2⟩:=(h.fr fAB (by simp)).ix (wti.trans ti118) t118_desc (wti.trans ti122) t122_size (x:=fcell f) (i:=i) (by rw [List.getElem?_map,hx];rfl)
    simp only [wix] at hx2
    have hg2:=hc2.g
    have m1:=hnth2 1 _ rfl
    obtain ⟨sr,lv,ln⟩:=hokB.2.2.1.src (E:=withRo E0 s)
    obtain ⟨r2,B2,ha2,ho2,fB2,hr2⟩:=ho1.app (E:=withRo E0 s) (xt:=85) (x:=f.d) (wti.trans ti85) t85_desc (wti.trans ti5) t5_size (wti.trans ti85) (by rw [t85_desc];rfl) t5_zero z5c z5l (by omega) lv sr ln hokB.2.2.2.2 (by have:=hokB.2.2.2.1;rw [t5_bytes];omega) (by omega)
    rw [ha1]
    simp only [w_w,z_0,aFieldAddr,aBuiltin,cond_false,if_true,if_false,eq_self,Nat.reduceEqDiff,Nat.reduceLT,reduceCtorEq,u0,u5,hx2,hg2,m1]
    rw [ha2]
    simp only [z_0,flat,cond_true,if_true,if_false,eq_self,Nat.reduceEqDiff,Nat.reduceLT,reduceCtorEq,u5,u0,wrap_succC (show i<1000000 by omega)]
    refine ⟨fs.length-(i+1),by omega,i+1,n+3+f.n,cs++r3++f.cs,r2,rfl,by omega,rfl,rfl,ho2,by have:=hokB.2.2.2.1;omega,?_⟩
    exact ⟨by have:=fB2.next;omega,fun b hb _=>by
     rw [fB2.get b (by omega) (fun hm=>by have:=(ho1.low b hm).1;omega)]
     exact fAB.get b hb (by simp)⟩
   ·have d1:((i:Int)<(fs.length:Int))=False:=eq_false (by omega)
    simp only [w_w,z_0,aBuiltin,if_true,if_false,eq_self,Nat.reduceEqDiff,Nat.reduceLT,reduceCtorEq,l1,u5,u0,d1]
    exact ⟨_,_,_,rfl,by simp only [tget_put,Nat.reduceEqDiff,if_false,u4],ho.single,f1⟩
  all_goals simp only [tget_put,Nat.reduceEqDiff,if_false,if_true]
  all_goals rfl
 ·rintro o ⟨T',A',r,rfl,u4,hr,hf⟩
  simp only [z_0,flat,cond_true,if_true,if_false,eq_self,Nat.reduceEqDiff,Nat.reduceLT,u4]
  exact ⟨⟨_,_,rfl⟩,hf⟩
end Go.Proofs.YtgcffmhpjphefaaGreatDoor

/- The document's action as bytes, and when a timer is right. -/
namespace Go.Proofs.YtgcffmhpjphefaaGreatDoor
open Go Go.AE
set_option maxRecDepth 10000
set_option maxHeartbeats 8000000
variable {Z:Go.AE.Road}{s:Spans}

theorem c_stop36{E:Env}{P:Program}{n:Nat}{ro:Option Nat}{x y:Code}{Q:Out→Prop}{T:Tmps}{A:ASt}:codeW Z E P n ro (.cond (.tmp 36) x y) Q T A=stopW Z E P n ro (.cond (.tmp 36) x y) Q T A:=by rw [stopW]
theorem fcBr{x:Operand}:freshOp (withRo E0 s) (.convert 9 85 x)=true:=by kernel_rfl
theorem aFc{E:Env}{a b:TypeId}{x:Operand}{T:Tmps}:aFresh E (.convert a b x) T=(match ev T x with
  | some v=>aBytesOf E a b v
  | none=>none):=by rw [aFresh];cases ev T x<;>rfl
theorem wbo{E:Env}{a b:TypeId}{v:Value}:aBytesOf (withRo E s) a b v=aBytesOf E a b v:=congrArg (fun x=>x) rfl
theorem by59{st:ByteArray}:aBytesOf E0 9 85 (.string st)=some (.row (byteCells st.data.toList) 1 true,fun id=>.slice (some ⟨id,0,none⟩) st.data.toList.length unk):=by
 simp only [aBytesOf,w_st,w_0]
theorem enc09_spec(hro:RoadS Z E0 s){A:ASt}{S:Nat→Prop}{v:Value}{l:List StepD}(h:Steps (withRo E0 s) A S v l)(hy:∀ y∈l,-9223372036854775808≤y.n∧y.n<9223372036854775808)(hl:l.length≤1000):
  CallW Z Tryz.prog 45 [v] A (fun r A'=>(∃ (o:Value) (e:Int),r=.tuple #[o,.int .i64 e]∧(e=0↔(l.length≤4∧∀ y∈l,y.good)))∧Fr [] A A'):=by
 refine CallW.assume hro fun hnr=>?_
 refine CallW.of_code (withRo_ok E0_ok) hro.ro (f:=45) (fn:=Tryz.f45) fn45 rfl (n:=75) rfl (rs:=[.tmp 2,.tmp 3]) rfl (by simp) (codeW_ok (withRo_ok E0_ok) hro.ro ?_)
 have l1:=h.len (wti.trans ti28) t28_desc
 simp only [wlen,List.length_map] at l1
 by_cases hl4:(l.length:Int) > 4
 ·have d4:=eq_true hl4
  simp only [w_w,z_0,flat,aBuiltin,cond_true,if_true,if_false,eq_self,Nat.reduceEqDiff,Nat.reduceLT,reduceCtorEq,l1,d4]
  exact ⟨⟨_,_,rfl,by constructor<;>intro h<;>omega⟩,.refl _ _⟩
 have d4:=eq_false hl4
 simp only [w_w,z_0,flat,aBuiltin,cond_true,if_true,if_false,eq_self,Nat.reduceEqDiff,Nat.reduceLT,reduceCtorEq,l1,d4]
 refine CodeW.mono (Q:=fun o=>(∃ T' A' n r,∃ fs:List FieldD,o=.fr ⟨.exit 0,T',A'⟩∧tget T' 4=r∧OwnS A' A.next 2 n r (fs.map fcell).flatten∧n=fs.length∧n≤4∧(∀ f∈fs,FieldD.ok A' A.next f)∧(∀ y∈l,y.good)∧Fr [] A A')∨∃ T' A',o=.fr ⟨.ret,T',A'⟩∧tget T' 2=.slice none 0 0∧tget T' 3=.int .i64 91∧(∃ y∈l,¬ y.good)∧Fr [] A A') ?_ ?_
 ·refine CodeW.loopR (k:=l.length) (fun k T A'=>∃ i out,∃ fs:List FieldD,k=l.length-i∧i≤l.length∧tget T 5=.int .i64 ((i:Nat):Int)∧tget T 0=v∧tget T 4=out∧OwnS A' A.next 2 i out (fs.map fcell).flatten∧i=fs.length∧(∀ f∈fs,FieldD.ok A' A.next f∧∀ b∈slB f.d,b∉slB out)∧(∀ y∈l.take i,y.good)∧Fr [] A A') ?_ ⟨0,.slice none 0 0,[],rfl,by omega,?_,?_,?_,.inl ⟨rfl,rfl,rfl⟩,rfl,by simp,by simp,.refl _ _⟩
  ·rintro k T A1 ⟨i,out,fs,rfl,hi,u5,u0,u4,ho,hif,hfs,hgd,f1⟩
   refine codeW_ok (withRo_ok E0_ok) hro.ro ?_
   by_cases e1:i<l.length
   ·have d1:((i:Int)<(l.length:Int))=True:=eq_true (by omega)
    have hx:l[i]? = some l[i]:=List.getElem?_eq_getElem _
    have hmem:l[i]∈l:=List.getElem_mem _
    generalize l[i]=y at hx hmem
    obtain ⟨b1,p1,cc,hx1,hc1,_,hb1,hcut1,hnth⟩:=h.ix (wti.trans ti28) t28_desc (wti.trans ti56) t56_size (x:=scell y) (i:=i) (by rw [List.getElem?_map,hx];rfl)
    simp only [wix] at hx1
    have m0:=hnth 0 _ rfl
    have m1:=hnth 1 _ rfl
    have m2:=hnth 2 _ rfl
    have m3:=hnth 3 _ rfl
    rw [Nat.add_zero] at m0
    have vv:valEq v v=true:=h.ve
    have hgB:∀ B:ASt,Fr [] A B→cellsG (withRo E0 s) b1 (B.get b1)=some cc:=fun B fB=>by
     rw [fB.get b1 hb1 (by simp)];exact hc1.g
    have hg1:=hgB A1 f1
    have hag:Value.agg (scell y).toArray=stepV y:=rfl
    simp only [w_w,z_0,aBuiltin,cond_true,if_true,if_false,List.append_nil,List.nil_append,eq_self,Nat.reduceEqDiff,Nat.reduceLT,reduceCtorEq,u5,u0,l1,d1,hx1,hg1,hcut1,hag]
    refine CallT.mono (CallT.of_call rright_spec) ?_
    rintro _ D ⟨rfl,fD⟩
    have fAD:=f1.trans fD
    have hg2:=hgB D fAD
    by_cases hgood:y.good
    ·have dg:decide y.good=true:=decide_eq_true hgood
     simp only [↓c_stop36,w_w,z_0,flat,aFieldAddr,cond_true,cond_false,if_true,if_false,eq_self,Nat.reduceEqDiff,Nat.reduceLT,reduceCtorEq,dg,u5,u0,hx1,hg2,m0,m2]
     generalize hTd:(Tr.put _ 36 _)=T0
     have w36:tget T0 36=.bool (decide (y.kind=3)):=by rw [← hTd];simp only [tget_put,Nat.reduceEqDiff,if_false,if_true]
     have w7:tget T0 7=.string y.val:=by rw [← hTd];simp only [tget_put,Nat.reduceEqDiff,if_false,if_true]
     have w4:tget T0 4=out:=by rw [← hTd];simp only [tget_put,Nat.reduceEqDiff,if_false,u4]
     have w0:tget T0 0=v:=by rw [← hTd];simp only [tget_put,Nat.reduceEqDiff,if_false,u0]
     have w5:tget T0 5=.int .i64 (i:Int):=by rw [← hTd];simp only [tget_put,Nat.reduceEqDiff,if_false,u5]
     clear hTd u0 u4 u5
     unfold stopW
     have hval:y.val.size≤60:=by
      obtain ⟨_,⟨_,h2,_⟩ | ⟨_,h2,_⟩ | ⟨_,h2⟩⟩:=hgood<;>omega
     refine codeW_mono (Q:=fun o=>∃ T' rest,o=.fr ⟨.normal,T',D⟩∧tget T' 7=.string rest∧rest.size≤60∧tget T' 4=out∧tget T' 0=v∧tget T' 5=.int .i64 (i:Int)) ?_ ?_
     ·rintro o ⟨T2,rest,rfl,w7,hrest,w4,w0,w5⟩
      have hkey:y.key.size≤16:=hgood.1.2
      have htag:1≤y.kind∧y.kind≤4:=by
       obtain ⟨_,⟨h1,_⟩ | ⟨h1 | h1,_⟩ | ⟨h1,_⟩⟩:=hgood<;>omega
      obtain ⟨st,hadd,hsz⟩:=addS (a:=y.key) (b:=rest) (by omega)
      simp only [z_0]
      refine CodeW.seqf (withRo_ok E0_ok) hro.ro mixed noCon_ok [0,1,2,3,4,5,6,7,8,9,10,11,12,14,15,16,17,18,19,20,13,21,22,23,24,25,26] [0,1,2,3,4,5] [[],[],[],[],[],[],[],[],[],[],[],[],[],[],[],[],[],[],[],[],[],[],[20,21],[20,21],[20,21],[20,21,24],[20,21,24]] (by simp only [reorder,reoGo,strip,List.map_cons,List.map_nil,opAt,remap,nth,Option.map,σ,place',List.length_cons,List.length_nil,Nat.reduceAdd];rfl) (by decide +kernel) (by kernel_rfl) (by kernel_rfl) (by kernel_rfl) (by kernel_rfl) ?_
      have vo:valEq out out=true:=ho.ve
      have hsl:st.data.toList.length=st.size:=by rw [Array.length_toList];rfl
      have hDn:=fD.next
      have hDA:=fAD.next
      generalize hu:IntKind.u8.wrap ((y.key.size:Nat):Int)=u
      have gH:∀ b,b<D.next→(((ASt.set { heap:=D.heap,next:=D.next+27 } (D.next+20) (.row [.int .u8 u] 1 false)).set (D.next+21) (.row (byteCells st.data.toList) 1 true))).get b=D.get b:=fun b hb=>by
       rw [ASt.get_set,if_neg (by omega),ASt.get_set,if_neg (by omega),get_next]
      have nH:(((ASt.set { heap:=D.heap,next:=D.next+27 } (D.next+20) (.row [.int .u8 u] 1 false)).set (D.next+21) (.row (byteCells st.data.toList) 1 true))).next=D.next+27:=by rw [ASt.next_set,ASt.next_set]
      have hw1:OwnS ((ASt.set { heap:=D.heap,next:=D.next+27 } (D.next+20) (.row [.int .u8 u] 1 false)).set (D.next+21) (.row (byteCells st.data.toList) 1 true)) D.next 1 1 (.slice (some ⟨D.next+20,0,none⟩) 1 1) [.int .u8 u]:=
       .inr ⟨D.next+20,1,false,rfl,by rw [ASt.get_set,if_neg (by omega),ASt.get_set,if_pos rfl],by omega,by rw [nH];omega,rfl,.inr ⟨rfl,by unfold unk;decide⟩⟩
      obtain ⟨r1,B1,ha1,ho1,fB1,hr1⟩:=hw1.app (E:=withRo E0 s) (xt:=85) (x:=.slice (some ⟨D.next+21,0,none⟩) st.data.toList.length unk) (m:=st.data.toList.length) (new:=byteCells st.data.toList) (wti.trans ti85) t85_desc (wti.trans ti5) t5_size (wti.trans ti85) (by rw [t85_desc];rfl) t5_zero z5c z5l (by omega) rfl (by
       simp only [srcCells,ASt.get_set,if_true]
       rw [cut_take (by rw [bytes_len];omega),Nat.mul_one,List.take_of_length_le (by rw [bytes_len];omega)]) (by rw [bytes_len];omega) bytes_sg (by rw [t5_bytes];omega) (by rw [nH];omega)
      have nB1:D.next+27≤B1.next:=by have:=fB1.next;rw [nH] at this;exact this
      have fD1:Fr [] D B1:=⟨by omega,fun b hb _=>by
       rw [fB1.get b (by rw [nH];omega) (by simp only [slB,List.mem_singleton];omega)]
       exact gH b hb⟩
      have cB:=hgB B1 (fAD.trans fD1)
      have fD1':Fr [] D (B1.set (D.next+24) (.row [.int .i64 y.kind,r1] 2 false)):=fD1.set (.inr (by omega))
      have hpo:∀ b∈slB out,b<D.next:=fun b hb=>by have:=(ho.low b hb).2;omega
      have hoH:=(ho.fr fD (by simp)).fr fD1' (by simp)
      have nH2:(B1.set (D.next+24) (.row [.int .i64 y.kind,r1] 2 false)).next=B1.next:=ASt.next_set ..
      have src2:srcCells (withRo E0 s) 2 (.slice (some ⟨D.next+24,0,none⟩) 1 1) 1 (B1.set (D.next+24) (.row [.int .i64 y.kind,r1] 2 false))=some [.int .i64 y.kind,r1]:=by
       simp only [srcCells,ASt.get_set,if_true]
       rfl
      have sg2:singles [.int .i64 y.kind,r1]=true:=by
       show (Go.AE.single r1 && true)=true
       rw [ho1.single];rfl
      obtain ⟨r2,B2,ha2,ho2,fB2,hr2⟩:=hoH.app (E:=withRo E0 s) (xt:=118) (x:=.slice (some ⟨D.next+24,0,none⟩) 1 1) (m:=1) (new:=[.int .i64 y.kind,r1]) (wti.trans ti118) t118_desc (wti.trans ti122) t122_size (wti.trans ti118) (by rw [t118_desc];rfl) t122_zero z90c z90l (by omega) rfl src2 rfl sg2 (by rw [t122_bytes];omega) (by rw [nH2];omega)
      rw [nH2] at hr2
      have nB2:B1.next≤B2.next:=by have:=fB2.next;rw [nH2] at this;exact this
      have ho2':OwnS B2 A.next 2 (i+1) r2 ((fs++[(⟨y.kind,r1,1+st.data.toList.length,[.int .u8 u]++byteCells st.data.toList⟩:FieldD)]).map fcell).flatten:=by
       rw [List.map_append,List.flatten_append]
       exact ho2
      have fAB2:Fr [] A B2:=⟨by omega,fun b hb _=>by
       rw [fB2.get b (by rw [nH2];omega) (fun hm=>by have:=(ho.low b hm).1;omega),fD1'.get b (by omega) (by simp)]
       exact fAD.get b hb (by simp)⟩
      have cB2:=hgB B2 fAB2
      have hr1':∀ b∈slB r1,b=D.next+20∨D.next+27≤b:=fun b hb=>by
       rcases hr1 b hb with h | h
       ·simp only [slB,List.mem_singleton] at h
        exact .inl h
       ·rw [nH] at h
        exact .inr h
      have hnew:FieldD.ok B2 A.next ⟨y.kind,r1,1+st.data.toList.length,[.int .u8 u]++byteCells st.data.toList⟩:=by
       refine ⟨htag.1,by show y.kind≤255;omega,?_,by show 1+_≤2000;omega,?_⟩
       ·refine ((ho1.lower (by omega)).fr ((Fr.refl [D.next+24] _).set (.inl (by simp))) (fun b hb=>?_)).fr fB2 (fun b hb hm=>?_)
        ·have:=hr1' b hb
         simp only [List.mem_singleton]
         omega
        ·have:=hpo b hm
         have:=(ho1.low b hb).1
         omega
       ·show (Go.AE.single (.int .u8 u) && singles (byteCells st.data.toList))=true
        rw [bytes_sg];rfl
      have hfs2:∀ f∈fs++[(⟨y.kind,r1,1+st.data.toList.length,[.int .u8 u]++byteCells st.data.toList⟩:FieldD)],FieldD.ok B2 A.next f∧∀ b∈slB f.d,b∉slB r2:=fun f hf=>by
       rcases List.mem_append.1 hf with hf | hf
       ·have g0:f.ok (B1.set (D.next+24) (.row [.int .i64 y.kind,r1] 2 false)) A.next:=((hfs f hf).1.fr fD (by simp)).fr fD1' (by simp)
        refine ⟨⟨g0.1,g0.2.1,g0.2.2.1.fr fB2 (hfs f hf).2,g0.2.2.2.1,g0.2.2.2.2⟩,fun b hb hm=>?_⟩
        rcases hr2 b hm with h | h
        ·exact (hfs f hf).2 b hb h
        ·have:=((hfs f hf).1.2.2.1.low b hb).2
         omega
       ·simp only [List.mem_singleton] at hf
        subst hf
        refine ⟨hnew,fun b hb hm=>?_⟩
        have hb:b∈slB r1:=hb
        have:=ho1.low b hb
        rcases hr2 b hm with h | h
        ·have:=hpo b h
         omega
        ·omega
      have hgd2:∀ z∈l.take (i+1),z.good:=fun z hz=>by
       rw [List.take_add_one,hx] at hz
       rcases List.mem_append.1 hz with hz | hz
       ·exact hgd z hz
       ·simp only [Option.toList,List.mem_singleton] at hz
        subst hz
        exact hgood
      rcases hc1 with ⟨_,rb⟩ | ⟨_,rb⟩
      all_goals
       simp only [w_w,z_0,aFieldAddr,aBuiltin,cond_true,cond_false,if_true,if_false,List.length_cons,List.length_nil,eq_self,Nat.reduceEqDiff,Nat.reduceAdd,Nat.reduceLT,reduceCtorEq,q_0,q_1,q_2,f_0,hasN,List.length_cons,List.length_nil,w4,w7,w0,w5,hx1,hg2,rb,m0,m1,lenS,aOp_convert,fcUr,qcUr,fcBr,aFc,wbo,by59,cvU,hadd,bs59a,hu]
       rw [ha1]
       simp only [w_w,z_0,aBuiltin,cond_true,cond_false,if_true,if_false,eq_self,Nat.reduceEqDiff,Nat.reduceAdd,Nat.reduceLT,q_0,q_1,q_2,f_0,hasN,exists_eq',Bool.and_false,cB,m0,bld90 ho1.cells1,bs87]
       rw [ha2]
       simp only [w_w,z_0,flat,cond_true,cond_false,if_true,if_false,eq_self,Nat.reduceEqDiff,Nat.reduceAdd,Nat.reduceLT,reduceCtorEq,q_0,q_2,f_0,hasN,exists_eq',Bool.and_false,w4,w0,w5,cB2,m0,wrap_succC (show i<1000000 by omega)]
       exact ⟨l.length-(i+1),by omega,i+1,r2,fs++[⟨y.kind,r1,1+st.data.toList.length,[.int .u8 u]++byteCells st.data.toList⟩],rfl,by omega,rfl,rfl,ho2',by simp [hif],hfs2,hgd2,fAB2⟩
     ·by_cases k3:y.kind=3
      ·have e3:=eq_true k3
       simp only [w_w,z_0,aFieldAddr,cond_false,if_true,if_false,List.append_nil,List.nil_append,eq_self,Nat.reduceEqDiff,Nat.reduceLT,reduceCtorEq,w36,e3,w0,w5,hx1,hg2,m3]
       refine CallT.mono (CallT.of_call (dtext_spec (hy y hmem))) ?_
       rintro _ _ ⟨⟨sx,rfl,hsx⟩,rfl⟩
       simp only [z_0,if_true,if_false,eq_self,Nat.reduceEqDiff,Nat.reduceLT]
       exact ⟨_,sx,rfl,by simp only [tget_put,Nat.reduceEqDiff,if_false,if_true],by omega,by simp only [tget_put,Nat.reduceEqDiff,if_false,w4],by simp only [tget_put,Nat.reduceEqDiff,if_false,w0],by simp only [tget_put,Nat.reduceEqDiff,if_false,w5]⟩
      ·have e3:=eq_false k3
       simp only [z_0,w36,e3]
       exact ⟨_,y.val,rfl,w7,hval,w4,w0,w5⟩
    ·have dg:decide y.good=false:=decide_eq_false hgood
     simp only [z_0,flat,cond_true,if_true,if_false,eq_self,Nat.reduceEqDiff,Nat.reduceLT,dg]
     exact .inr ⟨_,_,rfl,by simp only [tget_put,Nat.reduceEqDiff,if_false,if_true],by simp only [tget_put,Nat.reduceEqDiff,if_false,if_true],⟨y,hmem,hgood⟩,f1.trans fD⟩
   ·have d1:((i:Int)<(l.length:Int))=False:=eq_false (by omega)
    simp only [w_w,z_0,aBuiltin,if_true,if_false,eq_self,Nat.reduceEqDiff,Nat.reduceLT,reduceCtorEq,l1,u5,u0,d1]
    rw [List.take_of_length_le (by omega)] at hgd
    exact .inl ⟨_,_,_,_,fs,rfl,by simp only [tget_put,Nat.reduceEqDiff,if_false,u4],ho,hif,by omega,fun f hf=>(hfs f hf).1,hgd,f1⟩
  all_goals simp only [tget_put,Nat.reduceEqDiff,if_false,if_true]
  all_goals rfl
 ·rintro o (⟨T',A',n,r,fs,rfl,u4,ho,hn,hn4,hfs,hgd,hf⟩ | ⟨T',A',rfl,u2,u3,⟨y,hy1,hy2⟩,hf⟩)
  ·simp only [w_w,z_0,if_true,List.append_nil,List.nil_append,eq_self,Nat.reduceLT,u4]
   have hsl:SlAt (withRo E0 s) A' (fun b=>A.next≤b) 2 r (fs.map fcell):=OwnS.slAt (by rw [List.length_map,← hn];exact ho) hnr (by intro x hx;obtain ⟨f,_,rfl⟩:=List.mem_map.1 hx;rfl)
   refine CallT.mono (CallT.of_call (enc01_spec hro hsl hfs (by omega) hnr)) ?_
   rintro _ B ⟨⟨o,e,rfl⟩,fB⟩
   simp only [z_0,flat,cond_true,if_true,if_false,eq_self,Nat.reduceEqDiff,Nat.reduceLT]
   exact ⟨⟨_,_,rfl,by simpa using ⟨by omega,hgd⟩⟩,hf.trans fB⟩
  ·simp only [z_0,u2,u3]
   exact ⟨⟨_,_,rfl,by constructor<;>intro h;cases h;exact absurd (h.2 y hy1) hy2⟩,hf⟩
theorem dright_spec(hro:RoadS Z E0 s){A:ASt}{S:Nat→Prop}{t:TimD}{dv:Value}(h:Steps (withRo E0 s) A S dv t.steps)(hs:StepsIn t.steps):
  CallW Z Tryz.prog 22 [tval t dv] A (fun r A'=>(∃ b,r=.bool b∧(b=true↔t.right))∧Fr [] A A'):=by
 refine CallW.of_code (withRo_ok E0_ok) hro.ro (f:=22) (fn:=Tryz.f22) fn22 rfl (n:=40) rfl (rs:=[.tmp 2]) rfl (by simp) (codeW_ok (withRo_ok E0_ok) hro.ro ?_)
 simp only [w_w,z_0,flat,aFieldAddr,cond_true,cond_false,if_true,if_false,List.append_nil,List.nil_append,eq_self,Nat.reduceEqDiff,Nat.reduceLT,reduceCtorEq,tval,box25,ptrTo]
 generalize hCd:ASt.new A _=C
 have c1:C.get A.next=some (.row [.string t.name,.int .i64 t.ver,.int .u64 (t.at_:Int),.int .u64 (t.every:Int),dv] 5 false):=by rw [← hCd,ASt.get_new,if_pos rfl]
 have fC:Fr [] A C:=⟨by rw [← hCd,ASt.next_new];omega,fun b hb _=>by rw [← hCd,ASt.get_new,if_neg (by omega)]⟩
 have hpn:A.next<C.next:=by rw [← hCd,ASt.next_new];omega
 generalize A.next=p at c1 hpn
 clear hCd
 simp only [z_0]
 refine CallT.mono (CallT.of_call rname_spec) ?_
 rintro _ _ ⟨rfl,rfl⟩
 simp only [w_w,z_0,aFieldAddr,cond_false,if_true,if_false,List.append_nil,List.nil_append,eq_self,Nat.reduceEqDiff,Nat.reduceLT,reduceCtorEq,c1]
 refine CallT.mono (CallT.of_call (enc09_spec hro (h.fr fC (by simp)) hs.2 hs.1)) ?_
 rintro _ D ⟨⟨o,e,rfl,he⟩,fD⟩
 have c1:=(fD.get p hpn (by simp)).trans c1
 have hfin:∀ b,(b=true↔t.right)→(∃ b',Value.bool b=.bool b'∧(b'=true↔t.right))∧Fr [] A D:=fun b hb=>⟨⟨b,rfl,hb⟩,fC.trans fD⟩
 by_cases h0:¬ NameOk t.name
 ·have fn0:=decide_eq_false h0
  simp only [z_0,flat,cond_true,cond_false,if_true,if_false,eq_self,Nat.reduceEqDiff,Nat.reduceLT,reduceCtorEq,undef,fn0]
  exact hfin false (by constructor<;>intro x;cases x;unfold TimD.right at x;exact absurd ⟨x.2.1,x.2.2.1⟩ h0)
 replace h0:=Classical.not_not.1 h0
 have fn0:=decide_eq_true h0
 by_cases h1:¬ (t.ver≥1)
 ·have f1:=eq_false h1
  simp only [w_w,z_0,flat,aFieldAddr,cond_true,cond_false,if_true,if_false,eq_self,Nat.reduceEqDiff,Nat.reduceLT,reduceCtorEq,c1,undef,fn0,f1]
  exact hfin false (by constructor<;>intro x;cases x;unfold TimD.right at x;omega)
 replace h1:=Classical.not_not.1 h1
 have f1:=eq_true h1
 by_cases h2:¬ (t.ver≤1099511627776)
 ·have f2:=eq_false h2
  simp only [w_w,z_0,flat,aFieldAddr,cond_true,cond_false,if_true,if_false,eq_self,Nat.reduceEqDiff,Nat.reduceLT,reduceCtorEq,c1,undef,fn0,f1,f2]
  exact hfin false (by constructor<;>intro x;cases x;unfold TimD.right at x;omega)
 replace h2:=Classical.not_not.1 h2
 have f2:=eq_true h2
 by_cases h3:¬ (((t.at_:Nat):Int)≤4611686018427387904)
 ·have f3:=eq_false h3
  simp only [w_w,z_0,flat,aFieldAddr,cond_true,cond_false,if_true,if_false,eq_self,Nat.reduceEqDiff,Nat.reduceLT,reduceCtorEq,c1,undef,fn0,f1,f2,f3]
  exact hfin false (by constructor<;>intro x;cases x;unfold TimD.right at x;omega)
 replace h3:=Classical.not_not.1 h3
 have f3:=eq_true h3
 by_cases h4:¬ (((t.every:Nat):Int)≤4611686018427387904)
 ·have f4:=eq_false h4
  simp only [w_w,z_0,flat,aFieldAddr,cond_true,cond_false,if_true,if_false,eq_self,Nat.reduceEqDiff,Nat.reduceLT,reduceCtorEq,c1,undef,fn0,f1,f2,f3,f4]
  exact hfin false (by constructor<;>intro x;cases x;unfold TimD.right at x;omega)
 replace h4:=Classical.not_not.1 h4
 have f4:=eq_true h4
 by_cases h5:¬ (e=0)
 ·have f5:=eq_false h5
  simp only [w_w,z_0,flat,aFieldAddr,cond_true,cond_false,if_true,if_false,eq_self,Nat.reduceEqDiff,Nat.reduceLT,reduceCtorEq,c1,fn0,f1,f2,f3,f4,f5]
  exact hfin false (by constructor<;>intro x;cases x;unfold TimD.right at x;exact absurd (he.2 x.1) h5)
 replace h5:=Classical.not_not.1 h5
 have f5:=eq_true h5
 simp only [w_w,z_0,flat,aFieldAddr,cond_true,cond_false,if_true,if_false,eq_self,Nat.reduceEqDiff,Nat.reduceLT,reduceCtorEq,c1,fn0,f1,f2,f3,f4,f5]
 exact hfin true ⟨fun _=>⟨he.1 h5,h0.1,h0.2,by omega,by omega,by omega,by omega⟩,fun _=>rfl⟩
end Go.Proofs.YtgcffmhpjphefaaGreatDoor

/- Tables by the blocks that they use: what each call leaves of all else. -/
namespace Go.Proofs.YtgcffmhpjphefaaGreatDoor
open Go Go.AE
set_option maxRecDepth 10000
set_option maxHeartbeats 8000000
variable {Z:Go.AE.Road}{s:Spans}

def FrU(U:Nat→Prop)(A B:ASt):Prop:=∃ own,Fr own A B∧∀ b∈own,U b
def Grow(A:ASt)(U U':Nat→Prop):Prop:=∀ b,U' b→U b∨A.next≤b
structure TabU(s:Spans)(A:ASt)(x now n:Nat)(D:TD)(U:Nat→Prop):Prop where
 ex:∃ m q e w v W all ms S,TabAt s A x m q e w v W all ms now n D S∧∀ b,U b↔(b∈ownT x m q e w W all ms∨b∈slB v∨S b)
 rx:(withRo E0 s).ro x=none
 rg:∀ k t,D k=some t→∀ y∈t.steps,y.ranged
section
variable {A B C:ASt}{x now n:Nat}{D:TD}{U U2:Nat→Prop}
theorem FrU.next(h:FrU U A B):A.next≤B.next:=let ⟨_,h1,_⟩:=h;h1.next
theorem FrU.get(h:FrU U A B){b:Nat}(hb:b<A.next)(hn:¬ U b):B.get b=A.get b:=let ⟨_,h1,h2⟩:=h;h1.get b hb fun hm=>hn (h2 b hm)
theorem Fr.u(h:Fr [] A B):FrU U A B:=⟨[],h,by simp⟩
theorem TabU.lt(h:TabU s A x now n D U):∀ b,U b→b<A.next:=fun b hb=>by
 obtain ⟨m,q,e,w,v,W,all,ms,S,hT,hU⟩:=h.ex
 rcases (hU b).1 hb with h1 | h1 | h1
 ·exact hT.core.lt b h1
 ·exact (hT.core.ns b h1).2
 ·exact (hT.core.nr b h1).1
theorem TabU.ok(h:TabU s A x now n D U):∀ k t,D k=some t→t.right∧t.name=k:=let ⟨_,_,_,_,_,_,_,_,_,hT,_⟩:=h.ex;hT.ok
theorem TabU.upto(h:TabU s A x now n D U):UptoD D n:=let ⟨_,_,_,_,_,_,_,_,_,hT,_⟩:=h.ex;hT.upto
theorem TabU.nowlt(h:TabU s A x now n D U):now<18446744073709551616:=let ⟨_,_,_,_,_,_,_,_,_,hT,_⟩:=h.ex;hT.core.hW.nowlt
theorem TabU.fr(h:TabU s A x now n D U)(hf:FrU U2 A B)(hd:∀ b,U b→¬ U2 b):TabU s B x now n D U:=by
 obtain ⟨m,q,e,w,v,W,all,ms,S,hT,hU⟩:=h.ex
 obtain ⟨own,h1,h2⟩:=hf
 exact ⟨⟨m,q,e,w,v,W,all,ms,S,⟨hT.core.fr h1 fun b hb _=>⟨fun hm=>hd b ((hU b).2 (.inl hm)) (h2 b hb),fun hm=>hd b ((hU b).2 (.inr (.inl hm))) (h2 b hb),fun hm=>hd b ((hU b).2 (.inr (.inr hm))) (h2 b hb)⟩,hT.ok,hT.upto⟩,hU⟩,h.rx,h.rg⟩
theorem TabU.fr0(h:TabU s A x now n D U)(hf:Fr [] A B):TabU s B x now n D U:=h.fr (U2:=fun _=>False) (Fr.u hf) (fun _ _ h=>h)
theorem TabU.le(h:TabU s A x now n D U){m:Nat}(hm:n≤m):TabU s A x now m D U:=by
 obtain ⟨m1,q,e,w,v,W,all,ms,S,hT,hU⟩:=h.ex
 exact ⟨⟨m1,q,e,w,v,W,all,ms,S,⟨hT.core,hT.ok,hT.upto.le hm⟩,hU⟩,h.rx,h.rg⟩
theorem TimsAt.frU{lo:Nat}{r:Value}{P:List (TimD×Value)}(h:TimsAt s A lo r P)(hf:FrU U A B)(hd:∀ b,U b→b<lo):TimsAt s B lo r P:=by
 obtain ⟨own,h1,h2⟩:=hf
 exact h.fr h1 (fun b hb _ hm=>by have:=hd b (h2 b hm);omega)
structure TimsP(s:Spans)(A:ASt)(lo:Nat)(V:Nat→Prop)(r:Value)(P:List (TimD×Value)):Prop where
 own:OwnS A lo 5 P.length r (tcellL P)
 bl:∀ b∈slB r,V b
 st:∀ p∈P,Steps (withRo E0 s) A V p.2 p.1.steps
theorem TimsAt.p{lo:Nat}{r:Value}{P:List (TimD×Value)}(h:TimsAt s A lo r P):TimsP s A lo (fun b=>lo≤b∧b<A.next) r P:=
 ⟨h.own,h.own.low,fun p hp=>(h.steps p hp).imp fun b h1 h2=>⟨h1.1,h2⟩⟩
theorem TimsP.fr{lo:Nat}{V:Nat→Prop}{r:Value}{P:List (TimD×Value)}(h:TimsP s A lo V r P)(hf:FrU U A B)(hd:∀ b,U b→¬ V b):TimsP s B lo V r P:=by
 obtain ⟨own,h1,h2⟩:=hf
 exact ⟨h.own.fr h1 (fun b hb hm=>hd b (h2 b hm) (h.bl b hb)),h.bl,fun p hp=>(h.st p hp).fr h1 (fun b hb _ hm=>hd b (h2 b hm) hb)⟩
theorem TimsP.fr0{lo:Nat}{V:Nat→Prop}{r:Value}{P:List (TimD×Value)}(h:TimsP s A lo V r P)(hf:Fr [] A B):TimsP s B lo V r P:=h.fr (U:=fun _=>False) (Fr.u hf) (fun _ h=>h.elim)
theorem TimsP.sl{lo:Nat}{V:Nat→Prop}{r:Value}{P:List (TimD×Value)}(h:TimsP s A lo V r P)(hnr:∀ b,lo≤b→(withRo E0 s).ro b=none):SlAt (withRo E0 s) A (fun b=>lo≤b) 5 r (P.map fun p=>tcell p.1 p.2):=by
 have h1:=h.own
 have:P.length=(P.map fun p=>tcell p.1 p.2).length:=by rw [List.length_map]
 rw [this] at h1
 exact OwnS.slAt h1 hnr tcell_len
theorem Grow.refl:Grow A U U:=fun b hb=>.inl hb
theorem wrU{m q e w:Nat}{v:Value}{W all:Nat}{ms:List Nat}{S:Nat→Prop}(hU:∀ b,U b↔(b∈ownT x m q e w W all ms∨b∈slB v∨S b)):∀ b∈wrT m e w v W all ms,U b:=fun b hb=>by
 rw [hU]
 simp only [wrT,List.mem_cons,List.mem_append] at hb
 rcases hb with hb | hb | hb | hb | hb
 ·exact .inl (by simp [hb])
 ·exact .inl (by simp [hb])
 ·exact .inl (by simp [hb])
 ·exact .inr (.inl hb)
 ·exact .inl (by simp only [ownT,List.mem_cons];simp [hb])
end
abbrev useT(x m q e w:Nat)(v:Value)(W all:Nat)(ms:List Nat)(S:Nat→Prop):Nat→Prop:=fun b=>b∈ownT x m q e w W all ms∨b∈slB v∨S b
theorem tU_new(hro:RoadS Z E0 s){A:ASt}{now:Nat}(hn:now<18446744073709551616):CallW Z Tryz.prog 7 [.int .u64 (now:Int)] A (fun r A'=>∃ x U,r=.pointer (some ⟨x,0,none⟩)∧TabU s A' x now 0 (fun _=>none) U∧Fr [] A A'∧∀ b,U b→A.next≤b):=by
 refine CallW.assume hro fun hnr=>?_
 refine CallW.mono (tnewC_spec (s:=s) hn) ?_
 rintro _ A' ⟨x,m,q,e,w,W,all,ms,rfl,hT,fA,hl⟩
 refine ⟨x,useT x m q e w (.slice none 0 0) W all ms (fun _=>False),rfl,⟨⟨m,q,e,w,_,W,all,ms,_,hT,fun b=>.rfl⟩,hnr x (hl x (by simp)),fun k t h=>by cases h⟩,fA,fun b hb=>?_⟩
 rcases hb with h1 | h1 | h1
 ·exact hl b h1
 ·cases h1
 ·exact h1.elim
theorem tU_set(hro:RoadS Z E0 s)(ht:TabZ Z){A:ASt}{x now n:Nat}{D:TD}{U Sa:Nat→Prop}{t:TimD}{dv:Value}(h:TabU s A x now n D U)(hn:n≤1000)(hd:Steps (withRo E0 s) A Sa dv t.steps)(hs:StepsIn t.steps)(hat:t.at_<18446744073709551616)(hS:∀ b,Sa b→b<A.next→¬ U b):
  CallW Z Tryz.prog 9 [.pointer (some ⟨x,0,none⟩),tval t dv] A (fun r A'=>∃ D' U',(t.right∧r=.int .i64 0∧D'=D.put t∨¬ t.right∧r=.int .i64 101∧D'=D)∧TabU s A' x now (n+1) D' U'∧Grow A U U'∧FrU U A A'):=by
 obtain ⟨m,q,e,w,v,W,all,ms,S,hT,hU⟩:=h.ex
 refine CallW.mono (tsetC_spec hro ht hT hn hd hs hat (fun b h1 h2 hm=>hS b h1 h2 (wrU hU b hm)) h.rx) ?_
 rintro r A' ⟨hr,fA⟩
 have hF:FrU U A A':=⟨_,fA,wrU hU⟩
 rcases hr with ⟨h1,rfl,v',S',hT',hv',hS'⟩ | ⟨h1,rfl,hT'⟩
 ·refine ⟨_,useT x m q e w v' W all ms S',.inl ⟨h1,rfl,rfl⟩,⟨⟨m,q,e,w,v',W,all,ms,S',hT',fun b=>.rfl⟩,h.rx,fun k u hk y hy=>?_⟩,fun b hb=>?_,hF⟩
  ·unfold TD.put at hk
   by_cases e1:k=t.name
   ·rw [if_pos e1] at hk
    cases hk
    exact hs.2 y hy
   ·rw [if_neg e1] at hk
    exact h.rg k u hk y hy
  ·rw [hU]
   rcases hb with h2 | h2 | h2
   ·exact .inl (.inl h2)
   ·rcases hv' b h2 with h3 | h3
    ·exact .inl (.inr (.inl h3))
    ·exact .inr h3
   ·rcases hS' b h2 with h3 | h3
    ·exact .inl (.inr (.inr h3))
    ·exact .inr h3
 ·exact ⟨_,U,.inr ⟨h1,rfl,rfl⟩,(show TabU s A' x now n D U from ⟨⟨m,q,e,w,v,W,all,ms,S,hT',hU⟩,h.rx,h.rg⟩).le (by omega),Grow.refl,hF⟩
theorem tU_drop{A:ASt}{x now n:Nat}{D:TD}{U:Nat→Prop}{k:ByteArray}(h:TabU s A x now n D U):
  CallW Z Tryz.prog 18 [.pointer (some ⟨x,0,none⟩),.string k] A (fun r A'=>r=.bool (D k).isSome∧∃ U',TabU s A' x now n (D.del k) U'∧Grow A U U'∧FrU U A A'):=by
 obtain ⟨m,q,e,w,v,W,all,ms,S,hT,hU⟩:=h.ex
 refine CallW.mono (tdropC_spec (k:=k) hT.core) ?_
 rintro _ A' ⟨rfl,v',hC,fA,hv'⟩
 have e1:(D.near now).del k=(D.del k).near now:=(TD.del_filter (D:=D) (p:=fun a=>decide (a≤now)) (k:=k)).symm
 have e2:(D.far now).del k=(D.del k).far now:=(TD.del_filter (D:=D) (p:=fun a=>decide (now<a)) (k:=k)).symm
 rw [e1,e2] at hC
 have hsub:∀ j t,D.del k j=some t→D j=some t:=fun j t hj=>by
  unfold TD.del at hj
  by_cases e3:j=k
  ·rw [if_pos e3] at hj;cases hj
  ·rwa [if_neg e3] at hj
 refine ⟨rfl,useT x m q e w v' W all ms S,⟨⟨m,q,e,w,v',W,all,ms,S,⟨hC,fun j t hj=>hT.ok j t (hsub j t hj),hT.upto.del k⟩,fun b=>.rfl⟩,h.rx,fun j t hj=>h.rg j t (hsub j t hj)⟩,fun b hb=>?_,⟨_,fA,wrU hU⟩⟩
 rw [hU]
 rcases hb with h2 | h2 | h2
 ·exact .inl (.inl h2)
 ·rcases hv' b h2 with h3 | h3
  ·exact .inl (.inr (.inl h3))
  ·exact .inr h3
 ·exact .inl (.inr (.inr h2))
theorem tU_adv{A:ASt}{x now n nw:Nat}{D:TD}{U:Nat→Prop}(h:TabU s A x now n D U)(hn:n≤1000)(hnw:nw<18446744073709551616):
  CallW Z Tryz.prog 11 [.pointer (some ⟨x,0,none⟩),.int .u64 (nw:Int)] A (fun r A'=>∃ L,Lists (fun k=>(D.at_ k).filter fun a=>decide (now<a) && decide (a≤nw)) L∧NamesAt A' A.next r L∧∃ U',TabU s A' x (max now nw) n D U'∧Grow A U U'∧FrU U A A'):=by
 obtain ⟨m,q,e,w,v,W,all,ms,S,hT,hU⟩:=h.ex
 refine CallW.mono (tadvC_spec hT hn hnw) ?_
 rintro r A' ⟨L,hL,hN,v',hT',hv',fA⟩
 refine ⟨L,hL,hN,useT x m q e w v' W all ms S,⟨⟨m,q,e,w,v',W,all,ms,S,hT',fun b=>.rfl⟩,h.rx,h.rg⟩,fun b hb=>?_,⟨_,fA,wrU hU⟩⟩
 rw [hU]
 rcases hb with h2 | h2 | h2
 ·exact .inl (.inl h2)
 ·rcases hv' b h2 with h3 | h3
  ·exact .inl (.inr (.inl h3))
  ·exact .inr h3
 ·exact .inl (.inr (.inr h2))
theorem tU_due(hro:RoadS Z E0 s){A:ASt}{x now n:Nat}{D:TD}{U:Nat→Prop}(h:TabU s A x now n D U)(hn:n≤1000):
  CallW Z Tryz.prog 10 [.pointer (some ⟨x,0,none⟩)] A (fun r A'=>∃ L P,Lists (D.near now) L∧TimsAt s A' A.next r P∧P.map (·.1)=L.map (fun y=>(D y.1).getD zTimD)∧∃ U',TabU s A' x now n D U'∧Grow A U U'∧FrU U A A'∧TimsP s A' A.next (fun b=>A.next≤b∧b<A'.next∧¬ U' b) r P):=by
 obtain ⟨m,q,e,w,v,W,all,ms,S,hT,hU⟩:=h.ex
 refine CallW.mono (tdueC_spec hro hT hn h.rx) ?_
 rintro r A' ⟨L,P,hL,hP,hm,v',hT',hv',fA,hr1,hr2⟩
 have hoff:∀ b,A.next≤b→b∉slB v'→¬ useT x m q e w v' W all ms S b:=fun b h1 h2 h3=>by
  rcases h3 with h3 | h3 | h3
  ·have:=hT.core.lt b h3;omega
  ·exact h2 h3
  ·have:=(hT.core.nr b h3).1;omega
 refine ⟨L,P,hL,hP,hm,useT x m q e w v' W all ms S,⟨⟨m,q,e,w,v',W,all,ms,S,hT',fun b=>.rfl⟩,h.rx,h.rg⟩,fun b hb=>?_,⟨_,fA,wrU hU⟩,⟨hP.own,fun b hb=>?_,fun p hp=>(hr2 p hp).imp fun b h1 h2=>⟨h1.1,h2,hoff b h1.1 h1.2⟩⟩⟩
 ·rw [hU]
  rcases hb with h2 | h2 | h2
  ·exact .inl (.inl h2)
  ·rcases hv' b h2 with h3 | h3
   ·exact .inl (.inr (.inl h3))
   ·exact .inr h3
  ·exact .inl (.inr (.inr h2))
 ·have h1:=hP.own.low b hb
  exact ⟨h1.1,h1.2,hoff b h1.1 (hr1 b hb)⟩
theorem tU_all(hro:RoadS Z E0 s){A:ASt}{x now n:Nat}{D:TD}{U:Nat→Prop}(h:TabU s A x now n D U)(hn:n≤1000):
  CallW Z Tryz.prog 12 [.pointer (some ⟨x,0,none⟩)] A (fun r A'=>∃ P,TimsAt s A' A.next r P∧AllOf D (P.map (·.1))∧Fr [] A A'):=by
 obtain ⟨m,q,e,w,v,W,all,ms,S,hT,hU⟩:=h.ex
 exact tallC_spec hro hT hn
theorem tU_clock{A:ASt}{x now n:Nat}{D:TD}{U:Nat→Prop}(h:TabU s A x now n D U):
  CallW Z Tryz.prog 13 [.pointer (some ⟨x,0,none⟩)] A (fun r A'=>r=.int .u64 (now:Int)∧A=A'):=by
 obtain ⟨m,q,e,w,v,W,all,ms,S,hT,hU⟩:=h.ex
 exact tclockC_spec hT.core
theorem tU_copy(hro:RoadS Z E0 s)(ht:TabZ Z){A:ASt}{x now n:Nat}{D:TD}{U:Nat→Prop}(h:TabU s A x now n D U)(hn:n≤900):
  CallW Z Tryz.prog 16 [.pointer (some ⟨x,0,none⟩)] A (fun r A'=>∃ x2 U2,r=.pointer (some ⟨x2,0,none⟩)∧TabU s A' x2 now n D U2∧(∀ b,U2 b→A.next≤b)∧Fr [] A A'):=by
 refine CallW.assume hro fun hnr=>?_
 obtain ⟨m,q,e,w,v,W,all,ms,S,hT,hU⟩:=h.ex
 refine CallW.mono (tcopyC_spec hro ht hT hn (fun k t hk=>⟨(hT.ok k t hk).1.steps,h.rg k t hk⟩)) ?_
 rintro _ A' ⟨x2,m2,q2,e2,w2,v2,W2,all2,ms2,S2,rfl,hT2,h1,h2,h3,fA⟩
 refine ⟨x2,useT x2 m2 q2 e2 w2 v2 W2 all2 ms2 S2,rfl,⟨⟨m2,q2,e2,w2,v2,W2,all2,ms2,S2,hT2,fun b=>.rfl⟩,hnr x2 (h1 x2 (by simp)),h.rg⟩,fun b hb=>?_,fA⟩
 rcases hb with h4 | h4 | h4
 ·exact h1 b h4
 ·exact h2 b h4
 ·exact h3 b h4
end Go.Proofs.YtgcffmhpjphefaaGreatDoor

/- The law 'TimersCopies', walked. -/
namespace Go.Proofs.YtgcffmhpjphefaaGreatDoor
open Go Go.AE
set_option maxRecDepth 10000
set_option maxHeartbeats 16000000
variable {Z:Go.AE.Road}{s:Spans}

theorem uniq_sorted{α:Type}{r:α→α→Prop}(irr:∀ x,¬ r x x)(asym:∀ x y,r x y→¬ r y x):∀ {l m:List α},l.Pairwise r→m.Pairwise r→(∀ x,x∈l↔x∈m)→l=m
 | [],[],_,_,_=>rfl
 | [],y::m,_,_,h=>absurd ((h y).2 (by simp)) (by simp)
 | x::l,[],_,_,h=>absurd ((h x).1 (by simp)) (by simp)
 | x::l,y::m,hl,hm,h=>by
  rw [List.pairwise_cons] at hl hm
  have e:x=y:=by
   rcases List.mem_cons.1 ((h x).1 (by simp)) with h1 | h1
   ·exact h1
   ·rcases List.mem_cons.1 ((h y).2 (by simp)) with h2 | h2
    ·exact h2.symm
    ·exact absurd (hm.1 x h1) (asym _ _ (hl.1 y h2))
  subst e
  have:l=m:=uniq_sorted irr asym hl.2 hm.2 fun z=>by
   constructor
   ·intro hz
    rcases List.mem_cons.1 ((h z).1 (by simp [hz])) with h1 | h1
    ·subst h1;exact absurd (hl.1 z hz) (irr z)
    ·exact h1
   ·intro hz
    rcases List.mem_cons.1 ((h z).2 (by simp [hz])) with h1 | h1
    ·subst h1;exact absurd (hm.1 z hz) (irr z)
    ·exact h1
  rw [this]
theorem lists_uniq{M:TM}{L L':List (ByteArray×Nat)}(h:Lists M L)(h':Lists M L'):L=L':=
 uniq_sorted tlt_irr (fun _ _ h1 h2=>tlt_irr _ (tlt_trans h1 h2)) h.ord h'.ord fun x=>by
  obtain ⟨k,a⟩:=x
  rw [h.mem,h'.mem]
theorem all_uniq{D:TD}{l l':List TimD}(h:AllOf D l)(h':AllOf D l'):l=l':=by
 have h1:=h.ord
 have h2:=h'.ord
 rw [List.pairwise_map] at h1 h2
 exact uniq_sorted (r:=fun a b=>blt a.name b.name=true) (fun x h=>by rw [blt_irr] at h;cases h) (fun x y h3 h4=>by rw [blt_asym h3] at h4;cases h4) h1 h2 fun t=>by rw [h.mem,h'.mem]
theorem sameAll_spec(hro:RoadS Z E0 s){A:ASt}{S1 S2 S3 S4:Nat→Prop}{r1 r2:Value}{P1 P2:List (TimD×Value)}(h1:SlAt (withRo E0 s) A S1 5 r1 (P1.map fun p=>tcell p.1 p.2))(h2:SlAt (withRo E0 s) A S2 5 r2 (P2.map fun p=>tcell p.1 p.2))
  (g1:∀ p∈P1,Steps (withRo E0 s) A S3 p.2 p.1.steps) (g2:∀ p∈P2,Steps (withRo E0 s) A S4 p.2 p.1.steps) (he:P1.map (·.1)=P2.map (·.1)) (hl:∀ p∈P1,p.1.steps.length≤1000) (hn:P1.length≤1000) (hr1:∀ b,S1 b→(withRo E0 s).ro b=none) (hr2:∀ b,S2 b→(withRo E0 s).ro b=none) :
  CallW Z Tryz.prog 17 [r1,r2] A (fun r A'=>r=.bool true∧Fr [] A A'):=by
 refine CallW.of_code (withRo_ok E0_ok) hro.ro (f:=17) (fn:=Tryz.f17) fn17 rfl (n:=29) rfl (rs:=[.tmp 4]) rfl (by simp) (codeW_ok (withRo_ok E0_ok) hro.ro ?_)
 have e:P1.length=P2.length:=by have:=congrArg List.length he;simpa using this
 obtain ⟨b1,c1,rfl⟩:=h1.form
 obtain ⟨b2,c2,rfl⟩:=h2.form
 rw [List.length_map] at h1 h2
 have l1:=fun B=>timLen h1 B
 have l2:=fun B=>timLen h2 B
 have dn:(((P1.length:Nat):Int)≠((P2.length:Nat):Int))=False:=eq_false (by rw [e];simp)
 simp only [w_w,z_0,flat,aBuiltin,cond_true,if_true,if_false,eq_self,Nat.reduceEqDiff,Nat.reduceAdd,Nat.reduceLT,reduceCtorEq,List.length_map,l1,l2,dn]
 refine CodeW.mono (Q:=fun o=>∃ T' A',o=.fr ⟨.exit 0,T',A'⟩∧Fr [] A A') ?_ ?_
 ·refine CodeW.loopR (k:=P1.length) (fun n T A'=>∃ i:Nat,n=P1.length-i∧i≤P1.length∧tget T 5=.int .i64 (i:Int)∧tget T 0=.slice b1 P1.length c1∧tget T 1=.slice b2 P2.length c2∧Fr [] A A') ?_ ⟨0,rfl,Nat.zero_le _,?_,?_,?_,.refl _ _⟩
  ·rintro n T A1 ⟨i,rfl,hi,u5,u0,u1,f1⟩
   refine codeW_ok (withRo_ok E0_ok) hro.ro ?_
   have wi:IntKind.i64.wrap ((i:Int)+1)=((i+1:Nat):Int):=by rw [IntKind.wrap_i64];omega
   by_cases hlt:i<P1.length
   ·have d1:((i:Int)<((P1.length:Nat):Int))=True:=eq_true (by omega)
    obtain ⟨p,hp⟩:∃ p,P1[i]? = some p:=⟨_,List.getElem?_eq_getElem hlt⟩
    obtain ⟨q,hq⟩:∃ q,P2[i]? = some q:=⟨_,List.getElem?_eq_getElem (by omega)⟩
    have hpq:q.1=p.1:=by
     have h3:(P1.map (·.1))[i]? = some p.1:=by rw [List.getElem?_map,hp];rfl
     have h4:(P2.map (·.1))[i]? = some q.1:=by rw [List.getElem?_map,hq];rfl
     rw [he,h4] at h3
     exact Option.some.inj h3
    obtain ⟨x1,o1,k1,hx1,hc1,hcut1,_,_,hs1⟩:=timIx (h1.fr f1 (by simp)) hp
    obtain ⟨x2,o2,k2,hx2,hc2,hcut2,_,_,hs2⟩:=timIx (h2.fr f1 (by simp)) hq
    have t1:Value.agg (tcell p.1 p.2).toArray=tval p.1 p.2:=rfl
    have t2:Value.agg (tcell q.1 q.2).toArray=tval p.1 q.2:=by rw [hpq];rfl
    have s1:=(g1 p (List.mem_of_getElem? hp)).fr f1 (by simp)
    have s2:=(g2 q (List.mem_of_getElem? hq)).fr f1 (by simp)
    rw [hpq] at s2
    have v1:valEq (tval p.1 p.2) (tval p.1 p.2)=true:=val25 s1
    have v2:valEq (tval p.1 q.2) (tval p.1 q.2)=true:=val25 s2
    have q1:=hr1 x1 hs1
    have q2:=hr2 x2 hs2
    have w1:=h1.ve
    have w2:=h2.ve
    have hRC:=RO_ok (Z:=Z) (P:=Tryz.prog) (f:=40) (ar:=[tval p.1 p.2,tval p.1 q.2]) (Pr:=fun A=>Steps (withRo E0 s) A S3 p.2 p.1.steps∧Steps (withRo E0 s) A S4 q.2 p.1.steps) (Sp:=fun A r A'=>r=.bool true∧Fr [] A A') (fun A h=>same_tim hro h.1 h.2 (hl p (List.mem_of_getElem? hp)))
    simp only [w_w,z_0,aBuiltin,if_true,if_false,eq_self,Nat.reduceEqDiff,Nat.reduceLT,reduceCtorEq,u5,u0,l1,d1]
    refine CodeW.seqf (withRo_ok E0_ok) hro.ro mixed hRC [0,1,2,3,4,5,6,7,8,9] [] (fanOf _ _ _) (by simp only [reorder,reoGo,strip,List.map_cons,List.map_nil,opAt,remap,nth,Option.map,σ,place',List.length_cons,List.length_nil,Nat.reduceAdd];rfl) (by decide +kernel) (by kernel_rfl) (by kernel_rfl) (by kernel_rfl) rfl ?_
    simp only [w_w,z_0,cond_true,if_true,if_false,List.length_cons,List.length_nil,List.append_nil,List.nil_append,eq_self,Nat.reduceEqDiff,Nat.reduceAdd,Nat.reduceLT,reduceCtorEq,q_0,q_1,q_2,f_0,hasN,reorder,List.length_cons,List.length_nil,u5,u0,u1,q1,q2,v1,v2,hx1,hc1,hcut1,hx2,hc2,hcut2,t1,t2]
    have fb:Fr [] A1 { heap:=A1.heap,next:=A1.next+10 }:=Fr.bump (by omega)
    have hpre:=And.intro (s1.fr fb (by simp)) (s2.fr fb (by simp))
    refine conRO hpre ?_
    rintro _ B ⟨rfl,fB0⟩
    have fB:=fb.trans fB0
    simp only [z_0,flat,cond_true,if_true,if_false,eq_self,Nat.reduceEqDiff,Nat.reduceAdd,Nat.reduceLT,reduceCtorEq,q_0,q_2,f_0,reorder,u5,u0,u1,wi]
    exact ⟨P1.length-(i+1),by omega,i+1,rfl,by omega,rfl,f1.trans fB⟩
   ·have d1:((i:Int)<((P1.length:Nat):Int))=False:=eq_false (by omega)
    simp only [w_w,z_0,aBuiltin,if_true,if_false,eq_self,Nat.reduceEqDiff,Nat.reduceLT,reduceCtorEq,u5,u0,l1,d1]
    exact ⟨_,_,rfl,f1⟩
  all_goals first | rfl | (unfold argsT;rfl)
 ·rintro o ⟨T',A',rfl,f1⟩
  simp only [z_0,flat,cond_true,if_true,eq_self,Nat.reduceLT]
  exact f1
theorem due_list{D:TD}{c:Nat}{L L':List (ByteArray×Nat)}{P P':List (TimD×Value)}(h:Lists (D.near c) L)(h':Lists (D.near c) L')(e:P.map (·.1)=L.map fun y=>(D y.1).getD zTimD)(e':P'.map (·.1)=L'.map fun y=>(D y.1).getD zTimD):P.map (·.1)=P'.map (·.1):=by
 rw [e,e',lists_uniq h h']
theorem due_len{D:TD}{c n:Nat}{L:List (ByteArray×Nat)}{P:List (TimD×Value)}(h:Lists (D.near c) L)(e:P.map (·.1)=L.map fun y=>(D y.1).getD zTimD)(hu:UptoD D n):P.length=L.length∧P.length≤n:=by
 have h1:P.length=L.length:=by have:=congrArg List.length e;simpa using this
 have:=listsSmall (p:=fun a=>decide (a≤c)) h hu
 exact ⟨h1,by omega⟩
theorem due_some{D:TD}{c:Nat}{L:List (ByteArray×Nat)}{P:List (TimD×Value)}(h:Lists (D.near c) L)(e:P.map (·.1)=L.map fun y=>(D y.1).getD zTimD):∀ p∈P,∃ k,D k=some p.1:=fun p hp=>by
 have h1:p.1∈P.map (·.1):=List.mem_map.2 ⟨p,hp,rfl⟩
 rw [e,List.mem_map] at h1
 obtain ⟨y,hy,e1⟩:=h1
 have h2:=(h.mem y.1 y.2).1 hy
 unfold TD.near TD.at_ at h2
 rw [Option.filter_eq_some_iff] at h2
 cases hD:D y.1 with
 | none=>rw [hD] at h2;cases h2.1
 | some t=>
  rw [hD] at e1
  have e1:t=p.1:=e1
  exact ⟨y.1,by rw [hD,e1]⟩
end Go.Proofs.YtgcffmhpjphefaaGreatDoor

/- The document's table: a list of timers by rising names. -/
namespace Go.Proofs.YtgcffmhpjphefaaGreatDoor
open Go Go.AE
set_option maxRecDepth 10000
set_option maxHeartbeats 8000000
variable {Z:Go.AE.Road}{s:Spans}

structure DocT(s:Spans)(A:ASt)(m now:Nat)(P:List (TimD×Value))(r:Value)(Sa:Nat→Prop):Prop where
 row:A.get m=some (.row [.int .u64 (now:Int),r] 2 false)
 lt:m<A.next
 own:OwnS A 0 5 P.length r (tcellL P)
 cu:CapU r
 off:m∉slB r
 rs:∀ b,b=m∨b∈slB r→(withRo E0 s).ro b=none
 st:∀ p∈P,Steps (withRo E0 s) A Sa p.2 p.1.steps
 sd:∀ b,Sa b→b≠m∧b∉slB r∧b<A.next
 ord:P.Pairwise fun a b=>blt a.1.name b.1.name=true
section
variable {A B:ASt}{m now:Nat}{P:List (TimD×Value)}{r:Value}{Sa:Nat→Prop}
theorem DocT.fr{own:List Nat}(h:DocT s A m now P r Sa)(hf:Fr own A B)(h1:m∉own)(h2:∀ b∈slB r,b∉own)(h3:∀ b,Sa b→b<A.next→b∉own):DocT s B m now P r Sa:=
 ⟨(hf.get m h.lt h1).trans h.row,Nat.lt_of_lt_of_le h.lt hf.next,h.own.fr hf h2,h.cu,h.off,h.rs,fun p hp=>(h.st p hp).fr hf h3,fun b hb=>⟨(h.sd b hb).1,(h.sd b hb).2.1,Nat.lt_of_lt_of_le (h.sd b hb).2.2 hf.next⟩,h.ord⟩
theorem DocT.fr0(h:DocT s A m now P r Sa)(hf:Fr [] A B):DocT s B m now P r Sa:=h.fr hf (by simp) (by simp) (by simp)
theorem DocT.sl(h:DocT s A m now P r Sa):SlAt (withRo E0 s) A (fun b=>b∈slB r) 5 r (P.map fun p=>tcell p.1 p.2):=by
 rcases h.own with ⟨h0,_,e⟩ | ⟨b,cap,tl,e,hb,h1,h2,hc,_⟩
 ·rw [List.eq_nil_of_length_eq_zero h0]
  exact .inl ⟨rfl,.inl e⟩
 ·refine .inr ⟨b,0,cap,_,by rw [e,List.length_map],.of_row hb (h.rs b (.inr (by rw [e];simp [slB]))),by rw [e];simp [slB],h2,tcell_len,?_⟩
  rw [List.length_map,← hc]
  exact (cut_take (Nat.le_refl _)).trans (by rw [List.take_length];rfl)
theorem DocT.form(h:DocT s A m now P r Sa):∃ b c,r=.slice b P.length c:=by
 rcases h.own with ⟨h0,_,rfl⟩ | ⟨b,cap,tl,rfl,_⟩
 ·exact ⟨none,0,by rw [h0]⟩
 ·exact ⟨_,_,rfl⟩
def FindV(P:List (TimD×Value))(k:ByteArray)(v:Value):Prop:=(∃ (i:Nat) (p:TimD×Value),P[i]? = some p∧p.1.name=k∧v=.int .i64 (i:Int))∨(∀ p∈P,p.1.name≠k)∧v=.int .i64 (-1)
theorem dfind_spec(hro:RoadS Z E0 s){k:ByteArray}(h:DocT s A m now P r Sa)(hn:P.length≤1000):
  CallW Z Tryz.prog 46 [.pointer (some ⟨m,0,none⟩),.string k] A (fun v A'=>A=A'∧FindV P k v):=by
 refine CallW.of_code (withRo_ok E0_ok) hro.ro (f:=46) (fn:=Tryz.f46) fn46 rfl (n:=26) rfl (rs:=[.tmp 4]) rfl (by simp) (codeW_ok (withRo_ok E0_ok) hro.ro ?_)
 have l1:=timLen h.sl
 have hrow:=h.row
 simp only [z_0,flat,cond_true,Nat.reduceAdd,Nat.reduceLT]
 refine CodeW.mono (Q:=fun o=>(∃ T',o=.fr ⟨.exit 0,T',A⟩∧∀ p∈P,p.1.name≠k)∨∃ T' v,o=.fr ⟨.ret,T',A⟩∧tget T' 4=v∧FindV P k v) ?_ ?_
 ·refine CodeW.loopR (k:=P.length) (fun n T A'=>∃ i,n=P.length-i∧i≤P.length∧tget T 0=.pointer (some ⟨m,0,none⟩)∧tget T 1=.string k∧tget T 5=.int .i64 (i:Int)∧(∀ p∈P.take i,p.1.name≠k)∧A=A') ?_ ⟨0,rfl,Nat.zero_le _,rfl,rfl,rfl,by simp,rfl⟩
  ·rintro n T A1 ⟨i,rfl,hi,u0,u1,u5,hne,rfl⟩
   refine codeW_ok (withRo_ok E0_ok) hro.ro ?_
   have wi:IntKind.i64.wrap ((i:Int)+1)=((i+1:Nat):Int):=by rw [IntKind.wrap_i64];omega
   by_cases hlt:i<P.length
   ·have d1:((i:Int)<(P.length:Int))=True:=eq_true (by omega)
    obtain ⟨p,hp⟩:∃ p,P[i]? = some p:=⟨_,List.getElem?_eq_getElem hlt⟩
    obtain ⟨b1,o1,c1,hx1,hc1,_,hn0,_,_⟩:=timIx h.sl hp
    simp only [w_w,z_0,w_pl,aFieldAddr,aBuiltin,cond_false,if_true,if_false,eq_self,Nat.reduceEqDiff,Nat.reduceLT,reduceCtorEq,u0,u1,u5,hrow,l1,d1,hx1,hc1,hn0,b_seql]
    refine brW_dec (fun e=>?_) (fun e=>?_)
    ·simp only [z_0,if_true,if_false,eq_self,Nat.reduceEqDiff,Nat.reduceLT,u5]
     exact .inr ⟨_,_,rfl,by simp only [tget_put,Nat.reduceEqDiff,if_false,if_true],.inl ⟨i,p,hp,e,rfl⟩⟩
    ·simp only [z_0,flat,cond_true,if_true,if_false,eq_self,Nat.reduceEqDiff,Nat.reduceLT,reduceCtorEq,u0,u1,u5,wi]
     refine ⟨P.length-(i+1),by omega,i+1,rfl,by omega,rfl,fun q hq=>?_⟩
     rw [List.take_add_one,hp] at hq
     rcases List.mem_append.1 hq with hq | hq
     ·exact hne q hq
     ·simp only [Option.toList,List.mem_singleton] at hq
      subst hq
      exact e
   ·have d1:((i:Int)<(P.length:Int))=False:=eq_false (by omega)
    simp only [w_w,z_0,w_pl,aFieldAddr,aBuiltin,cond_false,if_true,if_false,eq_self,Nat.reduceEqDiff,Nat.reduceLT,reduceCtorEq,u0,u5,hrow,l1,d1]
    rw [List.take_of_length_le (by omega)] at hne
    exact .inl ⟨_,rfl,hne⟩
 ·rintro o (⟨T',rfl,hne⟩ | ⟨T',v,rfl,u4,hv⟩)
  ·simp only [z_0,flat,cond_true,if_true,eq_self,Nat.reduceLT]
   exact .inr ⟨hne,rfl⟩
  ·simp only [z_0,eq_self,u4]
   exact hv
theorem bs230:aBuildSlice E0 23 0 []=some (.row [] 5 false,fun id=>.slice (some ⟨id,0,none⟩) 0 0):=by kernel_rfl
theorem tcellL_cons{p:TimD×Value}{P:List (TimD×Value)}:tcellL (p::P)=tcell p.1 p.2++tcellL P:=rfl
theorem tcellL_app{P Q:List (TimD×Value)}:tcellL (P++Q)=tcellL P++tcellL Q:=by unfold tcellL;rw [List.map_append,List.flatten_append]
theorem tcellL_len:∀ {P:List (TimD×Value)},(tcellL P).length=P.length*5
 | []=>rfl
 | p::P=>by rw [tcellL_cons,List.length_append,tcellL_len (P:=P),List.length_cons];show 5+_=_;omega
theorem tcellL_take{P:List (TimD×Value)}{i:Nat}(hi:i≤P.length):(tcellL P).take (i*5)=tcellL (P.take i):=by
 have e:tcellL P=tcellL (P.take i)++tcellL (P.drop i):=by rw [← tcellL_app,List.take_append_drop]
 have el:(tcellL (P.take i)).length=i*5:=by rw [tcellL_len,List.length_take,Nat.min_eq_left hi]
 rw [e,List.take_append_of_le_length (by omega),List.take_of_length_le (by omega)]
theorem tcellL_drop{P:List (TimD×Value)}{i:Nat}(hi:i≤P.length):(tcellL P).drop (i*5)=tcellL (P.drop i):=by
 have e:tcellL P=tcellL (P.take i)++tcellL (P.drop i):=by rw [← tcellL_app,List.take_append_drop]
 have el:(tcellL (P.take i)).length=i*5:=by rw [tcellL_len,List.length_take,Nat.min_eq_left hi]
 rw [e,← el,List.drop_left]
theorem tcellL_sg:∀ {P:List (TimD×Value)},(∀ p∈P,Go.AE.single p.2=true)→singles (tcellL P)=true
 | [],_=>rfl
 | p::P,h=>by
  show (true && (true && (true && (true && (Go.AE.single p.2 && singles (tcellL P))))))=true
  rw [h p (by simp),tcellL_sg fun q hq=>h q (by simp [hq])];rfl
theorem st48{A:ASt}{m:Nat}{c0 c1 v:Value}{tl:Bool}(h:A.get m=some (.row [c0,c1] 2 tl))(h1:v.cells=#[v])(h2:Go.AE.single v=true):aStore E0 23 (.pointer (some ⟨m,1,none⟩)) v A=some (A.set m (.row [c0,v] 2 tl)):=by
 have e:v.cells.toList=[v]:=by rw [h1]
 have e2:singles [v]=true:=by simp only [singles,h2,Bool.and_self]
 simp only [aStore,h,w_t2,e,e2];rfl
theorem own0{A:ASt}{b lo:Nat}(h:A.get b=some (.row [] 5 false))(hl:lo≤b)(hb:b<A.next):OwnS A lo 5 0 (.slice (some ⟨b,0,none⟩) 0 0) (tcellL []):=.inr ⟨b,0,false,rfl,h,hl,hb,rfl,.inr ⟨rfl,by unfold unk;decide⟩⟩
theorem appT{lo n:Nat}{v x:Value}{Q R:List (TimD×Value)}(h:OwnS A lo 5 n v (tcellL Q))(hu:CapU v)(hl:lenV x=some R.length)(hs:srcCells (withRo E0 s) 5 x R.length A=some (tcellL R))(hsg:∀ p∈R,Go.AE.single p.2=true)(hn:n+R.length≤100000)(hlo:lo≤A.next):
  ∃ r B,aAppend (withRo E0 s) 23 23 v x A=.val r B∧OwnS B lo 5 (n+R.length) r (tcellL (Q++R))∧CapU r∧Fr (slB v) A B∧∀ b∈slB r,b∈slB v∨A.next≤b:=by
 obtain ⟨r,B,h1,h2,h3,h4⟩:=h.app (E:=withRo E0 s) (xt:=23) (x:=x) (m:=R.length) (new:=tcellL R) (wti.trans ti23) t23_desc (wti.trans ti30) t30_size (wti.trans ti23) (by rw [t23_desc];rfl) t30_zero (by kernel_rfl) (by kernel_rfl) (by omega) hl hs tcellL_len (tcellL_sg hsg) (by rw [t30_bytes];omega) hlo
 exact ⟨r,B,h1,by rw [tcellL_app];exact h2,cap_append hu h1,h3,h4⟩
theorem ddrop_spec(hro:RoadS Z E0 s){k:ByteArray}(h:DocT s A m now P r Sa)(hn:P.length≤1000):
  CallW Z Tryz.prog 23 [.pointer (some ⟨m,0,none⟩),.string k] A (fun v A'=>∃ P' r',(∃ b,v=.bool b∧(b=true↔∃ p∈P,p.1.name=k))∧DocT s A' m now P' r' Sa∧P'.Sublist P∧(∀ p,p∈P'↔p∈P∧p.1.name≠k)∧Fr [m] A A'∧∀ b∈slB r',b∈slB r∨A.next≤b):=by
 refine CallW.assume hro fun hnr=>?_
 refine CallW.of_code (withRo_ok E0_ok) hro.ro (f:=23) (fn:=Tryz.f23) fn23 rfl (n:=30) rfl (rs:=[.tmp 4]) rfl (by simp) (codeW_ok (withRo_ok E0_ok) hro.ro ?_)
 simp only [w_w,z_0,w_pl,flat,cond_true,if_true,if_false,List.append_nil,List.nil_append,eq_self,Nat.reduceEqDiff,Nat.reduceAdd,Nat.reduceLT,reduceCtorEq]
 refine CallT.mono (CallT.of_call (dfind_spec hro h hn)) ?_
 rintro _ _ ⟨rfl,hv⟩
 rcases hv with ⟨i,p,hp,hk,rfl⟩ | ⟨hne,rfl⟩
 ·have d1:((i:Int)<0)=False:=eq_false (by omega)
  have hip:i<P.length:=(List.getElem?_eq_some_iff.1 hp).1
  have wi:IntKind.i64.wrap ((i:Int)+1)=((i+1:Nat):Int):=by rw [IntKind.wrap_i64];omega
  obtain ⟨r1,hl1,v1,hz1,hs1⟩:=h.own.cutL (E:=withRo E0 s) (t:=23) (wti.trans ti23) t23_desc (wti.trans ti30) t30_size (by omega) (Nat.le_of_lt hip) (by unfold unk;omega)
  obtain ⟨r2,hl2,v2,hz2,hs2⟩:=h.own.cutR (E:=withRo E0 s) h.cu (t:=23) (wti.trans ti23) t23_desc (wti.trans ti30) t30_size (by omega) (i:=i+1) hip
  have hrow:=h.row
  simp only [z_0,flat,cond_true,if_true,if_false,eq_self,Nat.reduceEqDiff,Nat.reduceLT,reduceCtorEq,d1]
  simp only [wsl] at hz1 hs1 hz2 hs2
  have e1:(P.take i).length=i:=by rw [List.length_take];omega
  have e2:(P.drop (i+1)).length=P.length-(i+1):=List.length_drop
  have t1:=tcellL_take (P:=P) (Nat.le_of_lt hip)
  have t2:=tcellL_drop (P:=P) (i:=i+1) hip
  have fb:Fr [] A { heap:=A.heap,next:=A.next+20 }:=Fr.bump (by omega)
  have c1:=(hs1 _ _ (h.own.fr fb (by simp))).1
  have c2:=(hs2 _ _ (h.own.fr fb (by simp))).1
  have fH:Fr [] A (ASt.set { heap:=A.heap,next:=A.next+20 } (A.next+14) (.row [] 5 false)):=fb.set (.inr (by omega))
  have hsg:∀ p∈P,Go.AE.single p.2=true:=fun p hp=>(h.st p hp).single
  obtain ⟨q1,B1,ha1,ho1,hu1,fB1,hq1⟩:=appT (s:=s) (own0 (A:=ASt.set { heap:=A.heap,next:=A.next+20 } (A.next+14) (.row [] 5 false)) (b:=A.next+14) (lo:=A.next) (by rw [ASt.get_set,if_pos rfl]) (by omega) (by rw [ASt.next_set];show A.next+14<A.next+20;omega)) .zero (x:=r1) (R:=P.take i) (by rw [e1];exact hl1) (by rw [e1,← t1];exact (hs1 _ _ (h.own.fr fH (by simp))).2) (fun p hp=>hsg p (List.mem_of_mem_take hp)) (by omega) (by rw [ASt.next_set];show A.next≤A.next+20;omega)
  rw [List.nil_append] at ho1
  have nB1:A.next+20≤B1.next:=by have:=fB1.next;rw [ASt.next_set] at this;exact this
  have fA1:Fr [] A B1:=⟨by omega,fun b hb _=>by
   rw [fB1.get b (by rw [ASt.next_set];show b<A.next+20;omega) (by simp only [slB,List.mem_singleton];omega)]
   exact fH.get b hb (by simp)⟩
  have row1:=(fA1.get m h.lt (by simp)).trans hrow
  have c3:=(hs2 _ _ (h.own.fr fA1 (by simp))).1
  obtain ⟨q2,B2,ha2,ho2,hu2,fB2,hq2⟩:=appT (s:=s) ho1 hu1 (x:=r2) (R:=P.drop (i+1)) (by rw [e2];exact hl2) (by rw [e2,← t2];exact (hs2 _ _ (h.own.fr fA1 (by simp))).2) (fun p hp=>hsg p (List.mem_of_mem_drop hp)) (by rw [e1,e2];omega) (by omega)
  have fA2:Fr [] A B2:=⟨by have:=fB2.next;omega,fun b hb _=>by
   rw [fB2.get b (by omega) (fun hm=>by have:=(ho1.low b hm).1;omega)]
   exact fA1.get b hb (by simp)⟩
  have row2:=(fA2.get m h.lt (by simp)).trans hrow
  have hst:=st48 row2 ho2.cells1 ho2.single
  have fS:Fr [m] A (B2.set m (.row [.int .u64 (now:Int),q2] 2 false)):=(fA2.sub (by simp)).set (.inl (by simp))
  have fS2:Fr [m] B2 (B2.set m (.row [.int .u64 (now:Int),q2] 2 false)):=(Fr.refl _ _).set (.inl (by simp))
  have nS:(B2.set m (.row [.int .u64 (now:Int),q2] 2 false)).next=B2.next:=ASt.next_set ..
  have hq:∀ b∈slB q2,A.next≤b:=fun b hb=>(ho2.low b hb).1
  have hlm:=h.lt
  have hmem:∀ x,x∈P.take i++P.drop (i+1)↔x∈P∧x.1.name≠k:=fun x=>by
   have hsplit:P=P.take i++p::P.drop (i+1):=by
    have:=List.take_append_drop i P
    rw [List.drop_eq_getElem_cons hip] at this
    have hp2:P[i]=p:=(List.getElem?_eq_some_iff.1 hp).2
    rw [hp2] at this
    exact this.symm
   have ho:=h.ord
   rw [hsplit,List.pairwise_append,List.pairwise_cons] at ho
   obtain ⟨_,⟨h2,_⟩,h4⟩:=ho
   constructor
   ·intro hx
    rcases List.mem_append.1 hx with hx | hx
    ·refine ⟨List.mem_of_mem_take hx,fun e=>?_⟩
     have:=h4 x hx p (by simp)
     rw [e,← hk,blt_irr] at this
     cases this
    ·refine ⟨List.mem_of_mem_drop hx,fun e=>?_⟩
     have:=h2 x hx
     rw [e,← hk,blt_irr] at this
     cases this
   ·rintro ⟨hx,hne⟩
    rw [hsplit] at hx
    rcases List.mem_append.1 hx with hx | hx
    ·exact List.mem_append.2 (.inl hx)
    ·rcases List.mem_cons.1 hx with rfl | hx
     ·exact absurd hk hne
     ·exact List.mem_append.2 (.inr hx)
  have hsub:(P.take i++P.drop (i+1)).Sublist P:=by
   have h1:(P.drop (i+1)).Sublist (P.drop i):=by rw [← List.tail_drop];exact List.tail_sublist _
   have h2:=(List.Sublist.refl (P.take i)).append h1
   rwa [List.take_append_drop] at h2
  have hdoc:DocT s (B2.set m (.row [.int .u64 (now:Int),q2] 2 false)) m now (P.take i++P.drop (i+1)) q2 Sa:=by
   refine ⟨by rw [ASt.get_set,if_pos rfl],by rw [nS];have:=fA2.next;omega,?_,hu2,fun hm=>by have:=hq m hm;omega,fun b hb=>?_,fun x hx=>?_,fun b hb=>?_,h.ord.sublist hsub⟩
   ·rw [List.length_append]
    have ho2:OwnS B2 A.next 5 ((P.take i).length+(P.drop (i+1)).length) q2 (tcellL (P.take i++P.drop (i+1))):=by
     have:=ho2
     rwa [Nat.zero_add] at this
    have:=(ho2.lower (Nat.zero_le _)).fr fS2 (fun b hb hm=>by have:=hq b hb;simp only [List.mem_singleton] at hm;omega)
    exact this
   ·rcases hb with rfl | hb
    ·exact h.rs b (.inl rfl)
    ·exact hnr b (hq b hb)
   ·exact (h.st x ((hmem x).1 hx).1).fr fS (fun b hb _ hm=>by simp only [List.mem_singleton] at hm;exact (h.sd b hb).1 hm)
   ·have:=h.sd b hb
    exact ⟨this.1,fun hm=>by have:=hq b hm;omega,by rw [nS];have:=fA2.next;omega⟩
  refine CodeW.seqg (withRo_ok E0_ok) hro.ro mixed noCon_ok [0,2,3,4,5,6,7,9,10,11,12,13,14,15,1,8,16,17,18,19] [0,7,8,9,10,11,12,13] [[],[],[],[],[],[],[],[],[],[],[],[],[],[],[],[14],[14],[14],[14],[14]] [[],[],[],[],[],[],[],[],[7],[7,8],[7,8,9],[],[11],[7,8,9,10,11,12],[],[],[7,8,9,10,11,12,13],[0,7,8,9,10,11,12,13],[0,7,8,9,10,11,12,13],[0,7,8,9,10,11,12,13]] (by simp only [reorder,reoGo,strip,List.map_cons,List.map_nil,opAt,remap,nth,Option.map,σ,place',List.length_cons,List.length_nil,Nat.reduceAdd];rfl) (by decide +kernel) (by kernel_rfl) (by kernel_rfl) (by kernel_rfl) (by kernel_rfl) (by kernel_rfl) ?_
  have rm:(withRo E0 s).ro m=none:=h.rs m (.inl rfl)
  have vr:valEq r r=true:=h.own.ve
  rcases hz1 0 with z1 | z1<;>rcases hz2 0 with z2 | z2
  all_goals
   simp only [w_w,z_0,w_pl,flat,aFieldAddr,aBuiltin,cond_true,cond_false,if_true,if_false,List.length_cons,List.length_nil,eq_self,Nat.reduceEqDiff,Nat.reduceAdd,Nat.reduceLT,reduceCtorEq,q_0,q_1,q_2,f_0,hasN,List.length_cons,List.length_nil,f_1,hrow,rm,wi,vr,bs230,z1,c1,z2,c2,v1,v2]
   rw [ha1]
   simp only [w_w,z_0,aBuiltin,cond_false,if_true,if_false,eq_self,Nat.reduceEqDiff,Nat.reduceAdd,Nat.reduceLT,reduceCtorEq,q_0,q_1,q_2,f_0,hasN,exists_eq',f_1,Bool.and_false,row1,c3]
   rw [ha2]
   simp only [w_w,z_0,w_pl,flat,aFieldAddr,cond_true,cond_false,if_true,if_false,eq_self,Nat.reduceEqDiff,Nat.reduceAdd,Nat.reduceLT,reduceCtorEq,q_0,q_2,f_0,hasN,f_1,hst]
   exact ⟨_,_,⟨true,rfl,fun _=>⟨p,List.mem_of_getElem? hp,hk⟩,fun _=>rfl⟩,hdoc,hsub,hmem,fS,fun b hb=>.inr (hq b hb)⟩
 ·have d1:((-1:Int)<0)=True:=eq_true (by omega)
  simp only [z_0,flat,cond_true,if_true,if_false,eq_self,Nat.reduceEqDiff,Nat.reduceLT,reduceCtorEq,d1]
  exact ⟨P,r,⟨false,rfl,fun e=>(by cases e),fun ⟨p,hp,e⟩=>absurd e (hne p hp)⟩,h,List.Sublist.refl _,fun p=>⟨fun hp=>⟨hp,hne p hp⟩,fun hp=>hp.1⟩,.refl _ _,fun b hb=>.inl hb⟩
end
end Go.Proofs.YtgcffmhpjphefaaGreatDoor

/- The document's table: a timer is laid. -/
namespace Go.Proofs.YtgcffmhpjphefaaGreatDoor
open Go Go.AE
set_option maxRecDepth 10000
set_option maxHeartbeats 8000000
variable {Z:Go.AE.Road}{s:Spans}
section
variable {A B:ASt}{m now:Nat}{P:List (TimD×Value)}{r:Value}{Sa:Nat→Prop}
theorem dset_spec(hro:RoadS Z E0 s){t:TimD}{dv:Value}(h:DocT s A m now P r Sa)(hn:P.length≤1000)(hd:Steps (withRo E0 s) A Sa dv t.steps)(hs:StepsIn t.steps):
  CallW Z Tryz.prog 20 [.pointer (some ⟨m,0,none⟩),tval t dv] A (fun v A'=>(∃ P' r',t.right∧v=.int .i64 0∧DocT s A' m now P' r' Sa∧P'.length≤P.length+1∧(∀ p,p∈P'↔p=(t,dv)∨p∈P∧p.1.name≠t.name)∧Fr [m] A A'∧∀ b∈slB r',b∈slB r∨A.next≤b)∨¬ t.right∧v=.int .i64 101∧Fr [] A A'):=by
 refine CallW.assume hro fun hnr=>?_
 refine CallW.of_code (withRo_ok E0_ok) hro.ro (f:=20) (fn:=Tryz.f20) fn20 rfl (n:=58) rfl (rs:=[.tmp 4]) rfl (by simp) (codeW_ok (withRo_ok E0_ok) hro.ro ?_)
 simp only [w_w,z_0,flat,cond_true,if_true,if_false,eq_self,Nat.reduceEqDiff,Nat.reduceAdd,Nat.reduceLT,reduceCtorEq,tval,box25,ptrTo]
 generalize hCd:ASt.new A _=C
 have c1:C.get A.next=some (.row [.string t.name,.int .i64 t.ver,.int .u64 (t.at_:Int),.int .u64 (t.every:Int),dv] 5 false):=by rw [← hCd,ASt.get_new,if_pos rfl]
 have fC:Fr [] A C:=⟨by rw [← hCd,ASt.next_new];omega,fun b hb _=>by rw [← hCd,ASt.get_new,if_neg (by omega)]⟩
 have hpn:A.next<C.next:=by rw [← hCd,ASt.next_new];omega
 have hap:A.next≤A.next:=Nat.le_refl _
 generalize hpd:A.next=p at c1 hpn
 rw [hpd] at hap
 clear hCd
 have hag:Value.agg (tcell t dv).toArray=tval t dv:=rfl
 have hct:cut [Value.string t.name,.int .i64 t.ver,.int .u64 (t.at_:Int),.int .u64 (t.every:Int),dv] 0 5=some (tcell t dv):=rfl
 simp only [w_w,z_0,w_pl,if_true,if_false,List.append_nil,List.nil_append,eq_self,Nat.reduceEqDiff,Nat.reduceLT,reduceCtorEq,hct,hag]
 refine CallT.mono (CallT.of_call (dright_spec hro (hd.fr fC (by simp)) hs)) ?_
 rintro _ D ⟨⟨b,rfl,hb⟩,fD⟩
 have c2:=(fD.get p hpn (by simp)).trans c1
 have fAD:=fC.trans fD
 cases b with
 | false=>
  simp only [z_0,flat,cond_true,if_true,if_false,eq_self,Nat.reduceEqDiff,Nat.reduceLT,reduceCtorEq]
  exact .inr ⟨fun hr=>(by have:=hb.2 hr;cases this),fAD⟩
 | true=>
  have hright:=hb.1 rfl
  simp only [w_w,z_0,w_pl,aFieldAddr,cond_false,if_true,if_false,List.append_nil,List.nil_append,eq_self,Nat.reduceEqDiff,Nat.reduceLT,reduceCtorEq,c2]
  refine CallT.mono (CallT.of_call (ddrop_spec hro (k:=t.name) (h.fr0 fAD) hn)) ?_
  rintro _ F ⟨P1,r1,⟨b1,rfl,_⟩,hdoc,hsub,hmem,fF,hr1⟩
  have nD:=fD.next
  have nF:=fF.next
  have hmp:p≠m:=by have:=h.lt;omega
  have c3:=(fF.get p (by omega) (by simpa using hmp)).trans c2
  have hP1:P1.length≤1000:=by have:=hsub.length_le;omega
  have l1:=timLen hdoc.sl
  have hrow:=hdoc.row
  simp only [z_0,flat,cond_true,Nat.reduceLT]
  refine CodeW.mono (Q:=fun o=>∃ (T':Tmps) (A':ASt) (k:Nat),o=.fr ⟨.exit 0,T',A'⟩∧Fr [] F A'∧tget T' 0=.pointer (some ⟨m,0,none⟩)∧tget T' 3=.pointer (some ⟨p,0,none⟩)∧tget T' 6=.int .i64 (k:Int)∧k≤P1.length∧(∀ q∈P1.take k,blt q.1.name t.name=true)∧(∀ q,P1[k]? = some q→blt q.1.name t.name=false)) ?_ ?_
  ·refine CodeW.loopR (k:=P1.length) (fun n T A'=>∃ i,n=P1.length-i∧i≤P1.length∧tget T 0=.pointer (some ⟨m,0,none⟩)∧tget T 3=.pointer (some ⟨p,0,none⟩)∧tget T 6=.int .i64 (i:Int)∧(∀ q∈P1.take i,blt q.1.name t.name=true)∧Fr [] F A') ?_ ⟨0,rfl,Nat.zero_le _,rfl,rfl,rfl,by simp,.refl _ _⟩
   ·rintro n T A1 ⟨i,rfl,hi,u0,u3,u6,hne,f1⟩
    refine codeW_ok (withRo_ok E0_ok) hro.ro ?_
    have wi:IntKind.i64.wrap ((i:Int)+1)=((i+1:Nat):Int):=by rw [IntKind.wrap_i64];omega
    have hdoc:=hdoc.fr0 f1
    have hrow:=hdoc.row
    have n1:=f1.next
    have c3:=(f1.get p (by omega) (by simp)).trans c3
    have fb:Fr [] F { heap:=A1.heap,next:=A1.next+20 }:=f1.trans (Fr.bump (by omega))
    have rm:(withRo E0 s).ro m=none:=h.rs m (.inl rfl)
    have rp:(withRo E0 s).ro p=none:=hnr p (by omega)
    have vr:valEq r1 r1=true:=hdoc.own.ve
    simp only [z_0]
    refine CodeW.quiet (withRo_ok E0_ok) hro.ro mixed (by kernel_rfl) (by kernel_rfl) ?_
    by_cases hlt:i<P1.length
    ·have d1:((i:Int)<(P1.length:Int))=True:=eq_true (by omega)
     obtain ⟨q,hq⟩:∃ q,P1[i]? = some q:=⟨_,List.getElem?_eq_getElem hlt⟩
     obtain ⟨b2,o2,k2,hx2,hc2,_,hn2,_,hs2⟩:=timIx hdoc.sl hq
     have rb:=hdoc.rs b2 (.inr hs2)
     cases hbl:blt q.1.name t.name with
     | true=>
      simp only [w_w,z_0,w_pl,flat,aFieldAddr,aBuiltin,cond_true,cond_false,if_true,if_false,List.length_cons,List.length_nil,eq_self,Nat.reduceEqDiff,Nat.reduceAdd,Nat.reduceLT,reduceCtorEq,quietW_nil,quietW_arr,quietW_cons,aStill,freshOp,quietOp,get_empty,get_next,ofVal_none,valEq_int,valEq_str,valEq_bool,valEq_ptr,List.length_cons,List.length_nil,u0,u3,u6,hrow,rm,rp,rb,vr,l1,d1,hx2,hc2,hn2,c3,s_lss,hbl,wi]
      refine ⟨P1.length-(i+1),by omega,i+1,rfl,by omega,rfl,fun x hx=>?_,fb⟩
      rw [List.take_add_one,hq] at hx
      rcases List.mem_append.1 hx with hx | hx
      ·exact hne x hx
      ·simp only [Option.toList,List.mem_singleton] at hx
       subst hx
       exact hbl
     | false=>
      simp only [w_w,z_0,w_pl,flat,aFieldAddr,aBuiltin,cond_true,cond_false,if_true,if_false,List.length_cons,List.length_nil,eq_self,Nat.reduceEqDiff,Nat.reduceAdd,Nat.reduceLT,reduceCtorEq,quietW_nil,quietW_arr,quietW_cons,aStill,freshOp,quietOp,get_empty,get_next,ofVal_none,valEq_int,valEq_str,valEq_bool,valEq_ptr,List.length_cons,List.length_nil,u0,u3,u6,hrow,rm,rp,rb,vr,l1,d1,hx2,hc2,hn2,c3,s_lss,hbl]
      refine ⟨_,_,i,rfl,fb,?_,?_,?_,hi,hne,fun x hx=>?_⟩
      ·simp only [tget_put,Nat.reduceEqDiff,if_false,u0]
      ·simp only [tget_put,Nat.reduceEqDiff,if_false,u3]
      ·simp only [tget_put,Nat.reduceEqDiff,if_false,u6]
      ·rw [hq] at hx;cases hx;exact hbl
    ·have d1:((i:Int)<(P1.length:Int))=False:=eq_false (by omega)
     simp only [w_w,z_0,w_pl,flat,aFieldAddr,aBuiltin,cond_true,cond_false,if_true,if_false,List.length_cons,List.length_nil,eq_self,Nat.reduceEqDiff,Nat.reduceAdd,Nat.reduceLT,reduceCtorEq,quietW_nil,quietW_arr,quietW_cons,aStill,freshOp,quietOp,get_empty,get_next,ofVal_none,valEq_int,valEq_bool,valEq_ptr,List.length_cons,List.length_nil,u0,u6,hrow,rm,vr,l1,d1,undef]
     refine ⟨_,_,i,rfl,fb,?_,?_,?_,hi,hne,fun x hx=>?_⟩
     ·simp only [tget_put,Nat.reduceEqDiff,if_false,u0]
     ·simp only [tget_put,Nat.reduceEqDiff,if_false,u3]
     ·simp only [tget_put,Nat.reduceEqDiff,if_false,u6]
     ·rw [List.getElem?_eq_none (by omega)] at hx;cases hx
  ·rintro o ⟨T',G,k,rfl,fG,u0,u3,u6,hk,hlow,hup⟩
   have hdoc:=hdoc.fr0 fG
   have hrow:=hdoc.row
   have nG:=fG.next
   have hag2:Value.agg (tcell t dv).toArray=tval t dv:=rfl
   have c3:=(fG.get p (by omega) (by simp)).trans c3
   obtain ⟨q1,hl1,v1,hz1,hs1⟩:=hdoc.own.cutL (E:=withRo E0 s) (t:=23) (wti.trans ti23) t23_desc (wti.trans ti30) t30_size (by omega) hk (by unfold unk;omega)
   obtain ⟨q2,hl2,v2,hz2,hs2⟩:=hdoc.own.cutR (E:=withRo E0 s) hdoc.cu (t:=23) (wti.trans ti23) t23_desc (wti.trans ti30) t30_size (by omega) hk
   simp only [wsl] at hz1 hs1 hz2 hs2
   have e1:(P1.take k).length=k:=by rw [List.length_take];omega
   have e2:(P1.drop k).length=P1.length-k:=List.length_drop
   have t1:=tcellL_take (P:=P1) hk
   have t2:=tcellL_drop (P:=P1) hk
   have fb:Fr [] G { heap:=G.heap,next:=G.next+22 }:=Fr.bump (by omega)
   have k1:=(hs1 _ _ (hdoc.own.fr fb (by simp))).1
   have k2:=(hs2 _ _ (hdoc.own.fr fb (by simp))).1
   have rm:(withRo E0 s).ro m=none:=h.rs m (.inl rfl)
   have rp:(withRo E0 s).ro p=none:=hnr p (by omega)
   have vr:valEq r1 r1=true:=hdoc.own.ve
   have hsd:=hd.single
   have hsg:∀ p∈P1,Go.AE.single p.2=true:=fun p hp=>(hdoc.st p hp).single
   have bs1:=bsTim (t:=t) hsd
   have vt:valEq (tval t dv) (tval t dv)=true:=val25 hd
   have fH:Fr [] G (ASt.set { heap:=G.heap,next:=G.next+22 } (G.next+14) (.row [] 5 false)):=fb.set (.inr (by omega))
   obtain ⟨w1,B1,ha1,ho1,hu1,fB1,hw1⟩:=appT (s:=s) (own0 (A:=ASt.set { heap:=G.heap,next:=G.next+22 } (G.next+14) (.row [] 5 false)) (b:=G.next+14) (lo:=G.next) (by rw [ASt.get_set,if_pos rfl]) (by omega) (by rw [ASt.next_set];show G.next+14<G.next+22;omega)) .zero (x:=q1) (R:=P1.take k) (by rw [e1];exact hl1) (by rw [e1,← t1];exact (hs1 _ _ (hdoc.own.fr fH (by simp))).2) (fun p hp=>hsg p (List.mem_of_mem_take hp)) (by omega) (by rw [ASt.next_set];show G.next≤G.next+22;omega)
   rw [List.nil_append,Nat.zero_add,e1] at ho1
   have nB1:G.next+22≤B1.next:=by have:=fB1.next;rw [ASt.next_set] at this;exact this
   have fG1:Fr [] G B1:=⟨by omega,fun b hb _=>by
    rw [fB1.get b (by rw [ASt.next_set];show b<G.next+22;omega) (by simp only [slB,List.mem_singleton];omega)]
    exact fH.get b hb (by simp)⟩
   have row1:=(fG1.get m hdoc.lt (by simp)).trans hrow
   have c4:=(fG1.get p (by omega) (by simp)).trans c3
   have k3:=(hs2 _ _ (hdoc.own.fr fG1 (by simp))).1
   have hw1':∀ b∈slB w1,b≠G.next+15:=fun b hb=>by
    rcases hw1 b hb with h1 | h1
    ·simp only [slB,List.mem_singleton] at h1;omega
    ·rw [ASt.next_set] at h1
     have h1:G.next+22≤b:=h1
     omega
   have fG1':Fr [] G (B1.set (G.next+15) (.row (tcell t dv) 5 false)):=fG1.set (.inr (by omega))
   have nS1:(B1.set (G.next+15) (.row (tcell t dv) 5 false)).next=B1.next:=ASt.next_set ..
   have ho1':=ho1.fr (Fr.set (b:=G.next+15) (o:=.row (tcell t dv) 5 false) (Fr.refl [G.next+15] B1) (.inl (by simp))) (fun b hb hm=>hw1' b hb (by simpa using hm))
   obtain ⟨w2,B2,ha2,ho2,hu2,fB2,hw2⟩:=appT (s:=s) ho1' hu1 (x:=.slice (some ⟨G.next+15,0,none⟩) 1 1) (R:=[(t,dv)]) rfl (by
    simp only [srcCells,ASt.get_set,if_true]
    rfl) (fun x hx=>by simp only [List.mem_singleton] at hx;subst hx;exact hsd) (by show k+1≤100000;omega) (by omega)
   have nB2:B1.next≤B2.next:=by have:=fB2.next;rw [nS1] at this;exact this
   have fG2:Fr [] G B2:=⟨by omega,fun b hb _=>by
    rw [fB2.get b (by rw [nS1];omega) (fun hm=>by have:=(ho1.low b hm).1;omega)]
    exact fG1'.get b hb (by simp)⟩
   have row2:=(fG2.get m hdoc.lt (by simp)).trans hrow
   have c5:=(fG2.get p (by omega) (by simp)).trans c3
   have k4:=(hs2 _ _ (hdoc.own.fr fG2 (by simp))).1
   obtain ⟨w3,B3,ha3,ho3,hu3,fB3,hw3⟩:=appT (s:=s) ho2 hu2 (x:=q2) (R:=P1.drop k) (by rw [e2];exact hl2) (by rw [e2,← t2];exact (hs2 _ _ (hdoc.own.fr fG2 (by simp))).2) (fun p hp=>hsg p (List.mem_of_mem_drop hp)) (by rw [e2];show k+1+_≤100000;omega) (by omega)
   have fG3:Fr [] G B3:=⟨by have:=fB3.next;omega,fun b hb _=>by
    rw [fB3.get b (by omega) (fun hm=>by have:=(ho2.low b hm).1;omega)]
    exact fG2.get b hb (by simp)⟩
   have row3:=(fG3.get m hdoc.lt (by simp)).trans hrow
   have k5:=(hs2 _ _ (hdoc.own.fr fG3 (by simp))).1
   have hst:=st48 row3 ho3.cells1 ho3.single
   have fS:Fr [m] G (B3.set m (.row [.int .u64 (now:Int),w3] 2 false)):=(fG3.sub (by simp)).set (.inl (by simp))
   have fS2:Fr [m] B3 (B3.set m (.row [.int .u64 (now:Int),w3] 2 false)):=(Fr.refl _ _).set (.inl (by simp))
   have nS:(B3.set m (.row [.int .u64 (now:Int),w3] 2 false)).next=B3.next:=ASt.next_set ..
   have hq:∀ b∈slB w3,G.next≤b:=fun b hb=>(ho3.low b hb).1
   have hlm:=hdoc.lt
   have hsplit:P1.take k++P1.drop k=P1:=List.take_append_drop k P1
   have hperm:∀ x,x∈P1.take k++[(t,dv)]++P1.drop k↔x=(t,dv)∨x∈P1:=fun x=>by
    have:x∈P1↔x∈P1.take k∨x∈P1.drop k:=by rw [← List.mem_append,hsplit]
    rw [this,List.mem_append,List.mem_append,List.mem_singleton]
    constructor
    ·rintro ((h1 | h1) | h1)
     ·exact .inr (.inl h1)
     ·exact .inl h1
     ·exact .inr (.inr h1)
    ·rintro (h1 | h1 | h1)
     ·exact .inl (.inr h1)
     ·exact .inl (.inl h1)
     ·exact .inr h1
   have hmemF:∀ x,x∈P1.take k++[(t,dv)]++P1.drop k↔x=(t,dv)∨x∈P∧x.1.name≠t.name:=fun x=>by rw [hperm,hmem]
   have hupper:∀ x∈P1.drop k,blt t.name x.1.name=true:=fun x hx=>by
    have hne:x.1.name≠t.name:=((hmem x).1 (List.mem_of_mem_drop hx)).2
    cases hd0:P1.drop k with
    | nil=>rw [hd0] at hx;cases hx
    | cons y l=>
     have hky:P1[k]? = some y:=by
      have:(P1.drop k)[0]? = some y:=by rw [hd0];rfl
      simpa using this
     have hy:=hup y hky
     have hyx:blt t.name x.1.name=false→blt x.1.name t.name=false→False:=fun h1 h2=>hne (blt_tri h2 h1)
     have hxy:blt x.1.name t.name=false:=by
      rw [hd0] at hx
      rcases List.mem_cons.1 hx with rfl | hx
      ·exact hy
      ·have ho:=hdoc.ord
       rw [← hsplit,hd0,List.pairwise_append,List.pairwise_cons] at ho
       have h3:=ho.2.1.1 x hx
       cases h4:blt x.1.name t.name with
       | false=>rfl
       | true=>rw [blt_trans h3 h4] at hy;cases hy
     cases h5:blt t.name x.1.name with
     | true=>rfl
     | false=>exact (hyx h5 hxy).elim
   have hord:(P1.take k++[(t,dv)]++P1.drop k).Pairwise fun a b=>blt a.1.name b.1.name=true:=by
    have ho:=hdoc.ord
    rw [← hsplit,List.pairwise_append] at ho
    rw [List.pairwise_append,List.pairwise_append]
    refine ⟨⟨ho.1,List.pairwise_singleton _ _,fun a ha b hb=>?_⟩,ho.2.1,fun a ha b hb=>?_⟩
    ·simp only [List.mem_singleton] at hb
     subst hb
     exact hlow a ha
    ·rcases List.mem_append.1 ha with ha | ha
     ·exact ho.2.2 a ha b hb
     ·simp only [List.mem_singleton] at ha
      subst ha
      exact hupper b hb
   have hdocF:DocT s (B3.set m (.row [.int .u64 (now:Int),w3] 2 false)) m now (P1.take k++[(t,dv)]++P1.drop k) w3 Sa:=by
    refine ⟨by rw [ASt.get_set,if_pos rfl],by rw [nS];have:=fG3.next;omega,?_,hu3,fun hm=>by have:=hq m hm;omega,fun b hb=>?_,fun x hx=>?_,fun b hb=>?_,hord⟩
    ·have e3:(P1.take k++[(t,dv)]++P1.drop k).length=k + [(t,dv)].length+(P1.drop k).length:=by rw [List.length_append,List.length_append,e1]
     rw [e3]
     exact (ho3.lower (Nat.zero_le _)).fr fS2 (fun b hb hm=>by have:=hq b hb;simp only [List.mem_singleton] at hm;omega)
    ·rcases hb with rfl | hb
     ·exact rm
     ·exact hnr b (by have:=hq b hb;omega)
    ·rcases (hperm x).1 hx with rfl | hx
     ·exact (((hd.fr fAD (by simp)).fr fF (fun b hb _ hm=>by simp only [List.mem_singleton] at hm;exact (hdoc.sd b hb).1 hm)).fr fG (by simp)).fr fS (fun b hb _ hm=>by simp only [List.mem_singleton] at hm;exact (hdoc.sd b hb).1 hm)
     ·exact (hdoc.st x hx).fr fS (fun b hb _ hm=>by simp only [List.mem_singleton] at hm;exact (hdoc.sd b hb).1 hm)
    ·have:=hdoc.sd b hb
     exact ⟨this.1,fun hm=>by have:=hq b hm;omega,by rw [nS];have:=fG3.next;omega⟩
   have fAll:Fr [m] A (B3.set m (.row [.int .u64 (now:Int),w3] 2 false)):=(fAD.sub (by simp)).trans (fF.trans ((fG.sub (by simp)).trans fS))
   have hlenF:(P1.take k++[(t,dv)]++P1.drop k).length≤P.length+1:=by
    have:=hsub.length_le
    rw [List.length_append,List.length_append,e1,e2]
    show k+1+_≤_
    omega
   simp only [z_0]
   refine CodeW.seqg (withRo_ok E0_ok) hro.ro mixed noCon_ok [0,2,3,4,5,6,7,9,12,13,14,15,16,17,1,10,8,11,18,19,20,21] [0,7,8,9,10,11,12,13] [[],[],[],[],[],[],[],[],[],[],[],[],[],[],[],[],[14],[14,15],[14,15],[14,15],[14,15],[14,15]] [[],[],[],[],[],[],[],[],[],[8],[8,9],[8,9,10],[],[8,9,10,11,12],[],[7],[],[7],[7,8,9,10,11,12,13],[0,7,8,9,10,11,12,13],[0,7,8,9,10,11,12,13],[0,7,8,9,10,11,12,13]] (by simp only [reorder,reoGo,strip,List.map_cons,List.map_nil,opAt,remap,nth,Option.map,σ,place',List.length_cons,List.length_nil,Nat.reduceAdd];rfl) (by decide +kernel) (by kernel_rfl) (by kernel_rfl) (by kernel_rfl) (by kernel_rfl) (by kernel_rfl) ?_
   rcases hz1 0 with z1 | z1<;>rcases hz2 0 with z2 | z2
   all_goals
    simp only [w_w,z_0,w_pl,aFieldAddr,aBuiltin,cond_true,cond_false,if_true,if_false,List.length_cons,List.length_nil,eq_self,Nat.reduceEqDiff,Nat.reduceAdd,Nat.reduceLT,reduceCtorEq,q_0,q_1,q_2,f_0,hasN,List.length_cons,List.length_nil,f_1,u0,u3,u6,c3,hct,hag2,hrow,rm,rp,vr,vt,bs230,bs1,z1,k1,z2,k2,v1,v2]
    rw [ha1]
    simp only [w_w,z_0,aBuiltin,cond_true,cond_false,if_true,if_false,eq_self,Nat.reduceEqDiff,Nat.reduceAdd,Nat.reduceLT,q_0,q_1,q_2,f_0,hasN,exists_eq',f_1,Bool.and_false,u3,row1,c4,hct,hag2,k3]
    rw [ha2]
    simp only [w_w,z_0,aBuiltin,cond_true,cond_false,if_true,if_false,eq_self,Nat.reduceEqDiff,Nat.reduceAdd,Nat.reduceLT,q_0,q_1,q_2,f_0,hasN,exists_eq',f_1,Bool.and_false,row2,k4]
    rw [ha3]
    simp only [w_w,z_0,w_pl,flat,aFieldAddr,cond_true,cond_false,if_true,if_false,eq_self,Nat.reduceEqDiff,Nat.reduceAdd,Nat.reduceLT,reduceCtorEq,q_0,q_2,f_0,hasN,f_1,hst]
    exact .inl ⟨_,_,hright,hdocF,hlenF,hmemF,fAll,fun b hb=>.inr (by have:=hq b hb;omega)⟩
end
end Go.Proofs.YtgcffmhpjphefaaGreatDoor
