/- The wheel's New, and later. -/
import Derived.Test.YtgcffmhpjphefaaGreatDoorP06
import Derived.Shelf.SlSortCmp.NoneTotal
import Derived.Test.YtgcffmhpjphefaaGreatDoorQ2
set_option linter.unusedSimpArgs false
set_option linter.unusedVariables false
set_option linter.unusedSectionVars false
namespace Go.Proofs.YtgcffmhpjphefaaGreatDoor
open Go Go.AE

variable {Z:Go.AE.Road}
set_option maxRecDepth 10000

def nrow(now all far:Nat)(l:List Nat):List Value:=.int .u64 (now:Int)::.map (some all)::(l.map (fun i=>Value.map (some i))++(List.replicate (64-l.length) (.map none)++[.map (some far)]))

theorem build63{n:Int}{a f:Nat}:aBuild E0 101 [(0,.int .u64 n),(1,.map (some a)),(3,.map (some f))]=some (.agg (.int .u64 n::.map (some a)::(List.replicate 64 (.map none)++[.map (some f)])).toArray):=by kernel_rfl
theorem box63{cs:Array Value}:aBox E0 101 (.agg cs)=some (.row cs.toList 67 false,ptrTo):=by
 simp only [aBox,ti101,t101_size];rfl
theorem over_set{l:List Value}{i:Nat}{v:Value}(h:i<l.length):over l i [v]=some (l.set i v):=by
 unfold over
 rw [show Nat.ble (i + [v].length) l.length=true from Nat.ble_eq_true_of_le (by simp;omega),cond_true]
 rw [List.set_eq_take_append_cons_drop,if_pos h]
 rfl
theorem nrow_set{now all far:Nat}{l:List Nat}{m:Nat}(h:l.length<64):(nrow now all far l).set (2+l.length) (.map (some m))=nrow now all far (l++[m]):=by
 unfold nrow
 rw [show 2+l.length=(l.length+1)+1 by omega,List.set_cons_succ,List.set_cons_succ,List.set_append_right _ _ (by simp)]
 have e:64-l.length=(63-l.length)+1:=by omega
 have e2:64-(l++[m]).length=63-l.length:=by simp only [List.length_append,List.length_cons,List.length_nil];omega
 rw [e2,e,List.replicate_succ]
 simp
theorem storeSlot{A:ASt}{W now all far m off:Nat}{l:List Nat}(h:A.get W=some (.row (nrow now all far l) 67 false))(hl:l.length<64)(ho:off=2+l.length):aStore E0 97 (.pointer (some ⟨W,off,none⟩)) (.map (some m)) A=some (A.set W (.row (nrow now all far (l++[m])) 67 false)):=by
 subst ho
 rw [← nrow_set hl]
 exact aStore_row h ti97 (by rw [t97_size];rfl) rfl (over_set (by simp [nrow];omega))

structure Mk(A0 A:ASt)(W all far now:Nat)(l:List Nat):Prop where
 row:A.get W=some (.row (nrow now all far l) 67 false)
 maps:∀ m∈all::far::l,A.get m=some (.map [] 0)
 nodup:(W::all::far::l).Nodup
 below:∀ b∈W::all::far::l,b<A.next
 new:∀ b∈W::all::far::l,A0.next≤b
 fr:Fr [] A0 A

theorem new_walk2{A:ASt}{now:Nat}(hnow:now<18446744073709551616):CallW Z Tryz.prog 30 [.int .u64 (now:Int)] A (fun v A'=>∃ W all ms,v=.pointer (some ⟨W,0,none⟩)∧WheelAt A' W all ms now (fun _=>none)∧Fr [] A A'∧∀ b∈W::all::ms,A.next≤b):=by
 refine CallW.of_code E0_ok E0_ro fn30 rfl (n:=28) rfl (rs:=[.tmp 2]) rfl (by simp) (codeW_ok E0_ok E0_ro ?_)
 simp only [z_0,flat,cond_true,if_true,if_false,eq_self,Nat.reduceEqDiff,Nat.reduceLT,reduceCtorEq,build63,box63,ptrTo]
 generalize hCd:ASt.new (ASt.new (ASt.new A _) _) _=C
 have hCg:∀ b,C.get b=if b=A.next+1+1 then some (.row (nrow now A.next (A.next+1) []) 67 false) else if b=A.next+1 then some (.map [] 0) else if b=A.next then some (.map [] 0) else A.get b:=fun b=>by
  rw [← hCd]
  simp only [ASt.get_new,ASt.next_new]
  rfl
 have hCn:C.next=A.next+3:=by rw [← hCd];simp only [ASt.next_new]
 clear hCd
 have hmk:Mk A C (A.next+1+1) A.next (A.next+1) now []:=by
  refine ⟨by rw [hCg,if_pos rfl],fun m hm=>?_,by simp;omega,fun b hb=>?_,fun b hb=>?_,by omega,fun b hb _=>?_⟩
  ·simp only [List.mem_cons,List.not_mem_nil,or_false] at hm
   rcases hm with rfl | rfl
   ·rw [hCg,if_neg (by omega),if_neg (by omega),if_pos rfl]
   ·rw [hCg,if_neg (by omega),if_pos rfl]
  ·simp only [List.mem_cons,List.not_mem_nil,or_false] at hb
   omega
  ·simp only [List.mem_cons,List.not_mem_nil,or_false] at hb
   omega
  ·rw [hCg,if_neg (by omega),if_neg (by omega),if_neg (by omega)]
 generalize A.next+1+1=W at hmk ⊢
 generalize A.next+1=far at hmk ⊢
 generalize hall:A.next=all at hmk ⊢
 refine CodeW.mono (Q:=fun o=>∃ T' A' l,o=.fr ⟨.exit 0,T',A'⟩∧tget T' 3=.pointer (some ⟨W,0,none⟩)∧Mk A A' W all far now l∧l.length=64) ?_ ?_
 ·refine CodeW.loopR (k:=4) (fun k T A'=>∃ L l,k=4-L∧L≤4∧tget T 11=.int .i64 (L:Int)∧tget T 3=.pointer (some ⟨W,0,none⟩)∧Mk A A' W all far now l∧l.length=16*L) ?_ ⟨0,[],rfl,by omega,?_,?_,hmk,rfl⟩
  ·rintro k T1 A1 ⟨L,l,rfl,h4,t11,t3,hm,hl⟩
   refine codeW_ok E0_ok E0_ro ?_
   simp only [z_0,flat,cond_true,if_true,eq_self,Nat.reduceLT,t11]
   refine brW_dec (fun hl4=>?_) (fun hl4=>?_)
   ·have hl4':L<4:=by omega
    simp only [z_0,flat,cond_true,if_true,if_false,eq_self,Nat.reduceEqDiff,Nat.reduceLT,t11]
    refine CodeW.mono (Q:=fun o=>∃ T' A' l,o=.fr ⟨.exit 2,T',A'⟩∧tget T' 11=.int .i64 (L:Int)∧tget T' 3=.pointer (some ⟨W,0,none⟩)∧Mk A A' W all far now l∧l.length=16*L+16) ?_ ?_
    ·refine CodeW.loopR (k:=16) (fun k T A'=>∃ j l,k=16-j∧j≤16∧tget T 14=.int .i64 (j:Int)∧tget T 4=.int .i64 (L:Int)∧tget T 11=.int .i64 (L:Int)∧tget T 3=.pointer (some ⟨W,0,none⟩)∧Mk A A' W all far now l∧l.length=16*L+j) ?_ ⟨0,l,rfl,by omega,?_,?_,?_,?_,hm,hl⟩
     ·rintro k T2 A2 ⟨j,l2,rfl,hj,u14,u4,u11,u3,hm2,hl2⟩
      refine codeW_ok E0_ok E0_ro ?_
      simp only [z_0,flat,cond_true,if_true,eq_self,Nat.reduceLT,u14]
      refine brW_dec (fun hj6=>?_) (fun hj6=>?_)
      ·have hj6':j<16:=by omega
       have ei1:∀ o,aIndexAddr E0 99 (.pointer (some ⟨W,o,none⟩)) (.int .i64 (L:Int))=some (.pointer (some ⟨W,o+L*16,none⟩)):=fun o=>by
        have:=indexAddr_arr (A:=A2) ti99 t99_desc ti98 (kd:=.i64) (k:=L) (b:=W) (off:=o) hl4'
        rwa [t98_size] at this
       have ei2:∀ o,aIndexAddr E0 98 (.pointer (some ⟨W,o,none⟩)) (.int .i64 (j:Int))=some (.pointer (some ⟨W,o+j,none⟩)):=fun o=>by
        have:=indexAddr_arr (A:=A2) ti98 t98_desc ti97 (kd:=.i64) (k:=j) (b:=W) (off:=o) hj6'
        rwa [t97_size,Nat.mul_one] at this
       have hWb:W<A2.next:=hm2.below W (by simp)
       have hrow:(A2.new (.map [] 0)).get W=some (.row (nrow now all far l2) 67 false):=by rw [ASt.get_new,if_neg (by omega)];exact hm2.row
       have hst:=storeSlot (m:=A2.next) (off:=2+L*16+j) hrow (by omega) (by omega)
       simp only [z_0,flat,aFieldAddr,cond_true,cond_false,if_true,if_false,eq_self,Nat.reduceEqDiff,Nat.reduceLT,reduceCtorEq,u14,u4,u3,ei1,ei2,hst,wrap_succ (show j<1000000 by omega)]
       have hne:∀ b∈W::all::far::l2,b≠A2.next:=fun b hb=>by have:=hm2.below b hb;omega
       have hnd:=hm2.nodup
       refine ⟨16-(j+1),by omega,j+1,l2++[A2.next],rfl,by omega,rfl,u11,⟨by rw [ASt.get_set,if_pos rfl],fun m hmm=>?_,?_,fun b hb=>?_,fun b hb=>?_,?_,fun b hb hn=>?_⟩,by simp;omega⟩
       ·simp only [List.nodup_cons,List.mem_cons,not_or] at hnd
        simp only [List.mem_cons,List.mem_append,List.not_mem_nil,or_false] at hmm
        have hmW:m≠W:=by
         rcases hmm with rfl | rfl | hmm | rfl
         ·exact Ne.symm hnd.1.1
         ·exact Ne.symm hnd.1.2.1
         ·exact fun e=>hnd.1.2.2 (e ▸ hmm)
         ·omega
        rw [ASt.get_set,if_neg hmW,ASt.get_new]
        by_cases e:m=A2.next
        ·rw [if_pos e]
        ·rw [if_neg e]
         exact hm2.maps m (by simp;rcases hmm with h | h | h | h<;>simp_all)
       ·rw [show W::all::far::(l2++[A2.next])=(W::all::far::l2)++[A2.next] by simp,List.nodup_append]
        refine ⟨hnd,by simp,fun a ha b hb e=>?_⟩
        rw [List.mem_singleton.1 hb] at e
        exact hne a ha e
       ·show b<A2.next+1
        rw [show W::all::far::(l2++[A2.next])=(W::all::far::l2)++[A2.next] by simp,List.mem_append] at hb
        rcases hb with hb | hb
        ·have:=hm2.below b hb;omega
        ·rw [List.mem_singleton.1 hb];omega
       ·rw [show W::all::far::(l2++[A2.next])=(W::all::far::l2)++[A2.next] by simp,List.mem_append] at hb
        rcases hb with hb | hb
        ·exact hm2.new b hb
        ·rw [List.mem_singleton.1 hb];exact hm2.fr.next
       ·show A.next≤A2.next+1
        have:=hm2.fr.next;omega
       ·have h1:=hm2.new W (by simp)
        have h2:=hm2.fr.next
        rw [ASt.get_set,if_neg (by omega),ASt.get_new,if_neg (by omega)]
        exact hm2.fr.get b hb hn
      ·have e16:j=16:=by omega
       subst e16
       simp only [z_0]
       refine ⟨_,_,l2,rfl,?_,?_,hm2,hl2⟩
       ·simp only [tget_put,Nat.reduceEqDiff,if_false];exact u11
       ·simp only [tget_put,Nat.reduceEqDiff,if_false];exact u3
     ·simp only [tget_put,Nat.reduceEqDiff,if_false,if_true];rfl
     ·simp only [tget_put,Nat.reduceEqDiff,if_false,if_true]
     ·simp only [tget_put,Nat.reduceEqDiff,if_false];exact t11
     ·simp only [tget_put,Nat.reduceEqDiff,if_false];exact t3
    ·rintro o ⟨T',A',l',rfl,u11,u3,hm',hl'⟩
     simp only [z_0,flat,cond_true,if_true,if_false,eq_self,Nat.reduceEqDiff,Nat.reduceLT,u11,wrap_succ (show L<1000000 by omega)]
     exact ⟨4-(L+1),by omega,L+1,l',rfl,by omega,rfl,u3,hm',by omega⟩
   ·have e4:L=4:=by omega
    subst e4
    simp only [z_0]
    refine ⟨_,_,l,rfl,?_,hm,hl⟩
    simp only [tget_put,Nat.reduceEqDiff,if_false];exact t3
  ·simp only [tget_put,Nat.reduceEqDiff,if_false,if_true];rfl
  ·simp only [tget_put,Nat.reduceEqDiff,if_false,if_true]
 ·rintro o ⟨T',A',l,rfl,u3,hm,hl⟩
  simp only [z_0,if_true,if_false,eq_self,Nat.reduceEqDiff,Nat.reduceLT,u3]
  have hnr:nrow now all far l=wrow now all (l++[far]):=by
   unfold nrow wrow
   rw [hl]
   simp
  have hnd:=hm.nodup
  refine ⟨W,all,l++[far],rfl,⟨by rw [← hnr];exact hm.row,by simp [hl],hnow,?_,fun b hb=>hm.below b ?_,⟨[],0,hm.maps all (by simp),⟨.nil,.nil,by simp⟩,fun _=>rfl⟩,fun i m hi=>⟨[],0,hm.maps m ?_,⟨.nil,.nil,by simp⟩,fun _=>rfl⟩,by simp,by simp⟩,hm.fr,?_⟩
  ·have hp:(W::all::(l++[far])).Perm (W::all::far::l):=((List.perm_append_comm (l₁:=l) (l₂:=[far])).cons all).cons W
   exact hp.nodup_iff.2 hnd
  ·simp only [List.mem_cons,List.mem_append,List.not_mem_nil,or_false] at hb ⊢
   rcases hb with h | h | h | h<;>simp [h]
  ·have hmem:=List.mem_of_getElem? hi
   simp only [List.mem_cons,List.mem_append,List.not_mem_nil,or_false] at hmem ⊢
   rcases hmem with h | h<;>simp [h]
  ·intro b hb
   rw [← hall]
   refine hm.new b ?_
   simp only [List.mem_cons,List.mem_append,List.not_mem_nil,or_false] at hb ⊢
   rcases hb with h | h | h | h<;>simp [h]
end Go.Proofs.YtgcffmhpjphefaaGreatDoor

/- The order of timers. -/
namespace Go.Proofs.YtgcffmhpjphefaaGreatDoor
open Go Go.AE

variable {Z:Go.AE.Road}
set_option maxRecDepth 10000

theorem s_lss{t:TypeId}{xo yo:Operand}{a b:ByteArray}:aBin2 E0 .lss t xo yo (.string a) (.string b)=some (.bool (blt a b)):=rfl
theorem s_gtr{t:TypeId}{xo yo:Operand}{a b:ByteArray}:aBin2 E0 .gtr t xo yo (.string a) (.string b)=some (.bool (blt b a)):=rfl
theorem s_neq{t:TypeId}{xo yo:Operand}{a b:ByteArray}:aBin2 E0 .neq t xo yo (.string a) (.string b)=some (.bool (!decide (a=b))):=by
 show some (Value.bool (!bytesEq a.data.toList b.data.toList))=_
 rw [bytesEq_iff]
def cmpU(x y:Nat):Int:=if x<y then -1 else if y<x then 1 else 0
noncomputable def cmpS(a b:ByteArray):Int:=if blt a b=true then -1 else if blt b a=true then 1 else 0
noncomputable def cmpT(x y:ByteArray×Nat):Int:=if cmpU x.2 y.2≠0 then cmpU x.2 y.2 else cmpS x.1 y.1

theorem nan_u{A:ASt}{x:Int}:CallW Z Tryz.prog 125 [.int .u64 x] A (fun v A'=>v=.bool false∧A'=A):=by
 refine CallW.of_code E0_ok E0_ro fn125 rfl (n:=6) rfl (rs:=[.tmp 2]) rfl (by simp) (codeW_ok E0_ok E0_ro ?_)
 simp only [z_0,flat,cond_true,if_true,if_false,eq_self,Nat.reduceEqDiff,Nat.reduceLT,reduceCtorEq,ne_eq,not_true_eq_false]
theorem nan_s{A:ASt}{x:ByteArray}:CallW Z Tryz.prog 126 [.string x] A (fun v A'=>v=.bool false∧A'=A):=by
 refine CallW.of_code E0_ok E0_ro fn126 rfl (n:=6) rfl (rs:=[.tmp 2]) rfl (by simp) (codeW_ok E0_ok E0_ro ?_)
 simp only [z_0,flat,cond_true,if_true,if_false,eq_self,Nat.reduceEqDiff,Nat.reduceLT,reduceCtorEq,s_neq]

theorem cmp_u{A:ASt}{x y:Nat}:CallW Z Tryz.prog 100 [.int .u64 (x:Int),.int .u64 (y:Int)] A (fun v A'=>v=.int .i64 (cmpU x y)∧A'=A):=by
 refine CallW.of_code E0_ok E0_ro fn100 rfl (n:=20) rfl (rs:=[.tmp 4]) rfl (by simp) (codeW_ok E0_ok E0_ro ?_)
 simp only [z_0,flat,cond_true,if_true,if_false,List.append_nil,List.nil_append,eq_self,Nat.reduceEqDiff,Nat.reduceAdd,Nat.reduceLT,reduceCtorEq]
 refine CallT.mono nan_u ?_
 rintro _ _ ⟨rfl,rfl⟩
 simp only [z_0,if_true,if_false,List.append_nil,List.nil_append,eq_self,Nat.reduceEqDiff,Nat.reduceLT,reduceCtorEq]
 refine CallT.mono nan_u ?_
 rintro _ _ ⟨rfl,rfl⟩
 simp only [z_0,if_true,if_false,eq_self,Nat.reduceEqDiff,Nat.reduceLT,reduceCtorEq]
 unfold cmpU
 refine brW_dec (fun h=>?_) (fun h=>?_)
 ·have h':x<y:=by omega
  simp only [z_0,flat,cond_true,if_true,if_false,eq_self,Nat.reduceEqDiff,Nat.reduceLT,reduceCtorEq,h']
 ·have h':¬ x<y:=by omega
  rw [if_neg h']
  simp only [z_0,if_true,if_false,eq_self,Nat.reduceEqDiff,Nat.reduceLT,reduceCtorEq]
  refine brW_dec (fun h2=>?_) (fun h2=>?_)
  ·have h2':y<x:=by omega
   simp only [z_0,flat,cond_true,if_true,if_false,eq_self,Nat.reduceEqDiff,Nat.reduceLT,reduceCtorEq,h2']
  ·have h2':¬ y<x:=by omega
   simp only [z_0,flat,cond_true,if_true,if_false,eq_self,Nat.reduceEqDiff,Nat.reduceLT,reduceCtorEq,h2']

theorem cmp_s{A:ASt}{x y:ByteArray}:CallW Z Tryz.prog 101 [.string x,.string y] A (fun v A'=>v=.int .i64 (cmpS x y)∧A'=A):=by
 refine CallW.of_code E0_ok E0_ro fn101 rfl (n:=20) rfl (rs:=[.tmp 4]) rfl (by simp) (codeW_ok E0_ok E0_ro ?_)
 simp only [z_0,flat,cond_true,if_true,if_false,List.append_nil,List.nil_append,eq_self,Nat.reduceEqDiff,Nat.reduceAdd,Nat.reduceLT,reduceCtorEq]
 refine CallT.mono nan_s ?_
 rintro _ _ ⟨rfl,rfl⟩
 simp only [z_0,if_true,if_false,List.append_nil,List.nil_append,eq_self,Nat.reduceEqDiff,Nat.reduceLT,reduceCtorEq]
 refine CallT.mono nan_s ?_
 rintro _ _ ⟨rfl,rfl⟩
 simp only [z_0,if_true,if_false,eq_self,Nat.reduceEqDiff,Nat.reduceLT,reduceCtorEq,s_lss]
 unfold cmpS
 cases h:blt x y with
 | true=>simp only [z_0,flat,cond_true,if_true,if_false,eq_self,Nat.reduceEqDiff,Nat.reduceLT,reduceCtorEq]
 | false=>
  simp only [z_0,if_true,if_false,eq_self,Nat.reduceEqDiff,Nat.reduceLT,reduceCtorEq,s_gtr]
  cases h2:blt y x with
  | true=>simp only [z_0,flat,cond_true,if_true,if_false,eq_self,Nat.reduceEqDiff,Nat.reduceLT,reduceCtorEq]
  | false=>simp only [z_0,flat,cond_true,if_true,if_false,eq_self,Nat.reduceEqDiff,Nat.reduceLT,reduceCtorEq]

theorem len_sl{A:ASt}{t e:TypeId}{i:TIn}(h:E0.ti t=some i)(hd:i.desc=.slice e){b:Option Addr}{n c:Nat}:aLen E0 t (.slice b n c) A=some (.int .i64 (n:Int)):=by
 simp only [aLen,h,hd];rfl
theorem len100{A:ASt}{b:Option Addr}{n c:Nat}:aLen E0 178 (.slice b n c) A=some (.int .i64 (n:Int)):=len_sl ti178 t178_desc
theorem ix100{b len cap k off:Nat}(hk:k<len):aIndexAddr E0 178 (.slice (some ⟨b,off,none⟩) len cap) (.int .i64 (k:Int))=some (.pointer (some ⟨b,off+k,none⟩)):=by
 have:=indexAddr_sl (A:={ heap:=.e,next:=0 }) ti178 t178_desc ti3 (kd:=.i64) (k:=k) (b:=b) (off:=off) (len:=len) (cap:=cap) hk
 rwa [t3_size,Nat.mul_one] at this

theorem or_spec{A:ASt}{B:Nat}{x y:Int}{sz:Nat}{tl:Bool}(hB:A.get B=some (.row [.int .i64 x,.int .i64 y] sz tl)):CallW Z Tryz.prog 99 [.slice (some ⟨B,0,none⟩) 2 2] A (fun v A'=>v=.int .i64 (if x≠0 then x else y)∧A'=A):=by
 refine CallW.of_code E0_ok E0_ro fn99 rfl (n:=18) rfl (rs:=[.tmp 2]) rfl (by simp) (codeW_ok E0_ok E0_ro ?_)
 simp only [z_0,flat,aBuiltin,cond_true,if_true,if_false,eq_self,Nat.reduceEqDiff,Nat.reduceLT,reduceCtorEq,len100]
 refine CodeW.mono (Q:=fun o=>(∃ T' A',o=.fr ⟨.exit 0,T',A'⟩∧tget T' 3=.int .i64 0∧x=0∧y=0∧A'=A)∨(∃ T' A',o=.fr ⟨.ret,T',A'⟩∧tget T' 2=.int .i64 (if x≠0 then x else y)∧A'=A)) ?_ ?_
 ·refine CodeW.loopR (k:=2) (fun k T A'=>∃ j,k=2-j∧j≤2∧tget T 8=.int .i64 (j:Int)∧tget T 7=.int .i64 (2:Nat)∧tget T 6=.slice (some ⟨B,0,none⟩) 2 2∧tget T 3=.int .i64 0∧(0<j→x=0)∧(1<j→y=0)∧A'=A) ?_ ⟨0,rfl,by omega,?_,?_,?_,?_,by omega,by omega,rfl⟩
  ·rintro k T A' ⟨j,rfl,hj,u8,u7,u6,u3,hx,hy,rfl⟩
   refine codeW_ok E0_ok E0_ro ?_
   simp only [z_0,if_true,eq_self,Nat.reduceLT,u8,u7]
   refine brW_dec (fun hlt=>?_) (fun hlt=>?_)
   ·have hj2:j<2:=by omega
    have hn:∃ z,nth [Value.int .i64 x,Value.int .i64 y] (0+j)=some (.int .i64 z)∧z=if j=0 then x else y:=by
     rcases Nat.lt_or_ge j 1 with h | h
     ·have:j=0:=by omega
      subst this;exact ⟨x,rfl,rfl⟩
     ·have:j=1:=by omega
      subst this;exact ⟨y,rfl,rfl⟩
    obtain ⟨z,hz,hze⟩:=hn
    rw [Nat.zero_add] at hz
    simp only [z_0,cond_false,if_true,if_false,eq_self,Nat.reduceEqDiff,Nat.reduceLT,u8,u6,u3,ix100 hj2,hB,hz]
    refine brW_b (fun hne=>?_) (fun hne=>?_)
    ·have hne:z≠0:=by simpa using hne
     simp only [z_0,if_true,if_false,eq_self,Nat.reduceEqDiff,Nat.reduceLT]
     refine .inr ⟨_,_,rfl,?_,rfl⟩
     simp only [tget_put,Nat.reduceEqDiff,if_false,if_true]
     have key:z=if x≠0 then x else y:=by
      rcases Nat.lt_or_ge j 1 with h | h
      ·have:j=0:=by omega
       subst this
       simp only [if_true] at hze
       subst hze
       rw [if_pos hne]
      ·have hx0:x=0:=hx (by omega)
       have hj0:¬ j=0:=by omega
       rw [hze,if_neg hj0,hx0]
       rfl
     rw [key]
    ·simp only [z_0,flat,cond_true,if_true,if_false,eq_self,Nat.reduceEqDiff,Nat.reduceLT,u8,wrap_succ (show j<1000000 by omega)]
     have hz0:z=0:=by simpa using hne
     refine ⟨2-(j+1),by omega,j+1,rfl,by omega,rfl,u7,u6,u3,fun _=>?_,fun h=>?_⟩
     ·rcases Nat.lt_or_ge j 1 with h | h
      ·have:j=0:=by omega
       subst this
       simp only [if_true] at hze
       rw [← hze];exact hz0
      ·exact hx (by omega)
     ·have:j=1:=by omega
      subst this
      have hj:¬ (1:Nat)=0:=by omega
      rw [if_neg hj] at hze
      rw [← hze,hz0]
   ·have e2:j=2:=by omega
    subst e2
    simp only [z_0]
    refine .inl ⟨_,_,rfl,?_,hx (by omega),hy (by omega),rfl⟩
    simp only [tget_put,Nat.reduceEqDiff,if_false];exact u3
  ·simp only [tget_put,Nat.reduceEqDiff,if_false,if_true];rfl
  ·simp only [tget_put,Nat.reduceEqDiff,if_false,if_true]
  ·simp only [tget_put,Nat.reduceEqDiff,if_false,if_true]
  ·simp only [tget_put,Nat.reduceEqDiff,if_false,if_true]
 ·rintro o (⟨T',A',rfl,u3,hx,hy,rfl⟩ | ⟨T',A',rfl,u2,rfl⟩)
  ·simp only [z_0,if_true,if_false,eq_self,Nat.reduceEqDiff,Nat.reduceLT,u3]
   rw [hx,hy];rfl
  ·simp only [z_0,eq_self,u2]

def R39:Tgt→List Value→ASt→(Value→ASt→Prop)→Prop:=fun t args A S=>
 (∃ x y:Nat,t=.fn 100∧args=[.int .u64 (x:Int),.int .u64 (y:Int)]∧S=fun v A'=>v=.int .i64 (cmpU x y)∧A'=A)∨
 (∃ x y:ByteArray,t=.fn 101∧args=[.string x,.string y]∧S=fun v A'=>v=.int .i64 (cmpS x y)∧A'=A)∨
 (∃ (B:Nat) (x y:Int) (sz:Nat) (tl:Bool),A.get B=some (.row [.int .i64 x,.int .i64 y] sz tl)∧t=.fn 99∧args=[.slice (some ⟨B,0,none⟩) 2 2]∧S=fun v A'=>v=.int .i64 (if x≠0 then x else y)∧A'=A)
theorem R39_ok(t args A S)(h:R39 t args A S):CallT Z Tryz.prog t args A S:=by
 rcases h with ⟨x,y,rfl,rfl,rfl⟩ | ⟨x,y,rfl,rfl,rfl⟩ | ⟨B,x,y,sz,tl,hB,rfl,rfl,rfl⟩
 ·exact cmp_u
 ·exact cmp_s
 ·exact or_spec hB
theorem con48{x y:Nat}{A:ASt}{K:Value→ASt→Prop}(h:K (.int .i64 (cmpU x y)) A):conC R39 (.fn 100) [.int .u64 (x:Int),.int .u64 (y:Int)] A K:=by
 refine ⟨⟨_,.inl ⟨x,y,rfl,rfl,rfl⟩⟩,?_⟩
 rintro S (⟨x',y',_,ha,rfl⟩ | ⟨_,_,ht,_⟩ | ⟨_,_,_,_,_,_,ht,_⟩) v A' hv
 ·obtain ⟨rfl,rfl⟩:=hv
  simp only [List.cons.injEq,Value.int.injEq,Int.natCast_inj,and_true,true_and] at ha
  obtain ⟨rfl,rfl⟩:=ha
  exact h
 ·cases ht
 ·cases ht
theorem con49{x y:ByteArray}{A:ASt}{K:Value→ASt→Prop}(h:K (.int .i64 (cmpS x y)) A):conC R39 (.fn 101) [.string x,.string y] A K:=by
 refine ⟨⟨_,.inr (.inl ⟨x,y,rfl,rfl,rfl⟩)⟩,?_⟩
 rintro S (⟨_,_,ht,_⟩ | ⟨x',y',_,ha,rfl⟩ | ⟨_,_,_,_,_,_,ht,_⟩) v A' hv
 ·cases ht
 ·obtain ⟨rfl,rfl⟩:=hv
  cases ha
  exact h
 ·cases ht
theorem con47{B:Nat}{x y:Int}{sz:Nat}{tl:Bool}{A:ASt}{K:Value→ASt→Prop}(hB:A.get B=some (.row [.int .i64 x,.int .i64 y] sz tl))(h:K (.int .i64 (if x≠0 then x else y)) A):conC R39 (.fn 99) [.slice (some ⟨B,0,none⟩) 2 2] A K:=by
 refine ⟨⟨_,.inr (.inr ⟨B,x,y,sz,tl,hB,rfl,rfl,rfl⟩)⟩,?_⟩
 rintro S (⟨_,_,ht,_⟩ | ⟨_,_,ht,_⟩ | ⟨B',x',y',sz',tl',hB',_,ha,rfl⟩) v A' hv
 ·cases ht
 ·cases ht
 ·obtain ⟨rfl,rfl⟩:=hv
  simp only [List.cons.injEq,Value.slice.injEq,Option.some.injEq,Addr.mk.injEq,and_true] at ha
  subst ha
  rw [hB] at hB'
  cases hB'
  exact h

theorem box33{x y:Value}:aBox E0 77 (.agg #[x,y])=some (.row [x,y] 2 false,ptrTo):=by
 simp only [aBox,ti77,t77_size];rfl

theorem bs100{x y:Int}:aBuildSlice E0 178 2 [(0,.int .i64 x),(1,.int .i64 y)]=some (.row [.int .i64 x,.int .i64 y] 1 false,fun id=>.slice (some ⟨id,0,none⟩) 2 2):=by
 simp only [aBuildSlice,ti178,t178_desc,ti3,t3_zero,t3_size];rfl
theorem compare_spec{A:ASt}{x y:ByteArray×Nat}:CallW Z Tryz.prog 86 [.agg #[.string x.1,.int .u64 (x.2:Nat)],.agg #[.string y.1,.int .u64 (y.2:Nat)]] A (fun v A'=>v=.int .i64 (cmpT x y)):=by
 refine CallW.of_code E0_ok E0_ro fn86 rfl (n:=17) rfl (rs:=[.tmp 4]) rfl (by simp) (codeW_ok E0_ok E0_ro ?_)
 simp only [z_0,flat,cond_true,if_true,if_false,eq_self,Nat.reduceEqDiff,Nat.reduceAdd,Nat.reduceLT,reduceCtorEq,box33,ptrTo]
 refine CodeW.seqd E0_ok E0_ro mixed R39_ok [0,1,2,3,5,6,7,8,4,9,10,11,12] [4,5,6,7] (by simp only [reorder,reoGo,strip,List.map_cons,List.map_nil,opAt,remap,nth,Option.map,σ,place',List.length_cons,List.length_nil,Nat.reduceAdd];rfl) (by decide +kernel) (by kernel_rfl) (by kernel_rfl) (by kernel_rfl) ?_
 generalize hCd:ASt.new (ASt.new A _) _=C
 have c1:C.get A.next=some (.row [.string x.1,.int .u64 (x.2:Nat)] 2 false):=by
  rw [← hCd,ASt.get_new,if_neg (by rw [ASt.next_new];omega),ASt.get_new,if_pos rfl]
 have c2:C.get (A.next+1)=some (.row [.string y.1,.int .u64 (y.2:Nat)] 2 false):=by
  rw [← hCd,ASt.get_new,if_pos (by rw [ASt.next_new])]
 have hCn:A.next+2=C.next:=by rw [← hCd];simp only [ASt.next_new]
 clear hCd
 simp only [z_0,aFieldAddr,cond_false,if_true,if_false,List.length_cons,List.length_nil,List.append_nil,List.nil_append,eq_self,Nat.reduceEqDiff,Nat.reduceAdd,Nat.reduceLT,reduceCtorEq,q_0,q_1,q_2,hasN,E0_ron,List.length_cons,List.length_nil,c1,c2]
 refine con48 ?_
 simp only [z_0,cond_false,if_true,if_false,List.append_nil,List.nil_append,eq_self,Nat.reduceEqDiff,Nat.reduceLT,reduceCtorEq,q_0,q_1,q_2,pendW,exists_eq',c1,c2]
 refine con49 ?_
 simp only [z_0,cond_false,if_true,if_false,List.append_nil,List.nil_append,eq_self,Nat.reduceEqDiff,Nat.reduceAdd,Nat.reduceLT,reduceCtorEq,q_0,q_1,q_2,pendW,exists_eq',c1,c2,bs100]
 have n1:A.next+2=C.next:=hCn
 generalize hDd:ASt.set _ _ (.row [.int .i64 (cmpU x.2 y.2),.int .i64 (cmpS x.1 y.1)] 1 false)=D
 have d0:∀ b,b≠C.next+10→D.get b=C.get b:=fun b hb=>by rw [← hDd,ASt.get_set,if_neg hb];rfl
 have d1:=(d0 A.next (by omega)).trans c1
 have d2:=(d0 (A.next+1) (by omega)).trans c2
 have d3:D.get (C.next+10)=some (.row [.int .i64 (cmpU x.2 y.2),.int .i64 (cmpS x.1 y.1)] 1 false):=by rw [← hDd,ASt.get_set,if_pos rfl]
 clear hDd
 refine con47 d3 ?_
 simp only [z_0,cond_false,if_true,if_false,eq_self,Nat.reduceEqDiff,Nat.reduceLT,reduceCtorEq,q_0,q_2,pendW,exists_eq',d1,d2]
 unfold cmpT
 rfl
end Go.Proofs.YtgcffmhpjphefaaGreatDoor

/- The sort of timers. -/
namespace Go.Proofs.YtgcffmhpjphefaaGreatDoor
open Go Go.AE Go.Sort

set_option maxRecDepth 10000

theorem grow_of_below{W w':World}(hb:Go.RowKit.Below W.heap.size W w')(hd:W.drawn≤w'.drawn):∃ q os',w'=grow (W.drewN q) os':=by
 refine ⟨w'.drawn-W.drawn,w'.heap.extract W.heap.size w'.heap.size,?_⟩
 obtain ⟨heap,tape,drawn,os,output⟩:=w'
 have h1:=hb.os
 have h2:=hb.tape
 have h3:=hb.output
 have h4:=hb.size
 have h5:=hb.block
 simp only at h1 h2 h3 h4 h5 hd
 subst h1 h2 h3
 unfold grow World.drewN
 have eh:heap=W.heap++heap.extract W.heap.size heap.size:=by
  apply Array.ext_getElem?
  intro i
  rw [Array.getElem?_append]
  split
  ·rename_i hi
   exact h5 i hi
  ·rename_i hi
   rw [Array.getElem?_extract]
   by_cases hlt:i<heap.size
   ·rw [if_pos (by omega)]
    congr 1;omega
   ·rw [if_neg (by omega)]
    simp;omega
 have ed:drawn=W.drawn+(drawn-W.drawn):=by omega
 simp only [World.mk.injEq,and_true,true_and]
 exact ⟨eh,ed⟩

theorem cmp_calls(x y:ByteArray×Nat)(W:World):Calls Tryz.prog 86 #[.agg #[.string x.1,.int .u64 (x.2:Nat)],.agg #[.string y.1,.int .u64 (y.2:Nat)]] W fun e w'=>e=.returned (.int .i64 (cmpT x y))∧∃ q os',w'=grow (W.drewN q) os':=by
 have ha:VsRel (rawRen []) [.agg #[.string x.1,.int .u64 (x.2:Nat)],.agg #[.string y.1,.int .u64 (y.2:Nat)]] (#[Value.agg #[.string x.1,.int .u64 (x.2:Nat)],.agg #[.string y.1,.int .u64 (y.2:Nat)]]:Array Value).toList:=
  .cons (.refl_closed rfl) (.cons (.refl_closed rfl) .nil)
 refine (compare_spec (Z:=roadRaw [] W) (A:=startAt 0) (x:=x) (y:=y) (rawRen []) W _ (Step.refl (rep_start [] W)) ha).mono ?_
 rintro e w' ⟨v,A',v',ρ',rfl,rfl,hv,hst⟩
 cases hv
 exact ⟨rfl,grow_of_below (Step.below (n:=0) hst) hst.drawn⟩

/-! ### the order -/
theorem bl_irr:∀ l:List UInt8,bytesLt l l=false
 | []=>rfl
 | a::l=>by simp only [bytesLt,Nat.beq_refl,cond_true];exact bl_irr l
theorem bl_trans:∀ {a b c:List UInt8},bytesLt a b=true→bytesLt b c=true→bytesLt a c=true
 | [],[],_,h,_=>by cases h
 | [],_::_,[],_,h=>by cases h
 | [],_::_,_::_,_,_=>rfl
 | _::_,[],_,h,_=>by cases h
 | _::_,_::_,[],_,h=>by cases h
 | x::a,y::b,z::c,h1,h2=>by
  simp only [bytesLt] at h1 h2 ⊢
  by_cases e1:x.toNat=y.toNat
  ·rw [e1] at h1 ⊢
   simp only [Nat.beq_refl,cond_true] at h1
   by_cases e2:y.toNat=z.toNat
   ·rw [e2] at h2 ⊢
    simp only [Nat.beq_refl,cond_true] at h2 ⊢
    exact bl_trans h1 h2
   ·have hb:Nat.beq y.toNat z.toNat=false:=by rw [nbeq];simp [e2]
    simp only [hb,cond_false] at h2 ⊢
    exact h2
  ·have hb:Nat.beq x.toNat y.toNat=false:=by rw [nbeq];simp [e1]
   simp only [hb,cond_false,nblt,decide_eq_true_eq] at h1
   by_cases e2:y.toNat=z.toNat
   ·have hb2:Nat.beq x.toNat z.toNat=false:=by rw [nbeq];simp;omega
    simp only [hb2,cond_false,nblt,decide_eq_true_eq]
    omega
   ·have hb3:Nat.beq y.toNat z.toNat=false:=by rw [nbeq];simp [e2]
    simp only [hb3,cond_false,nblt,decide_eq_true_eq] at h2
    have hb2:Nat.beq x.toNat z.toNat=false:=by rw [nbeq];simp;omega
    simp only [hb2,cond_false,nblt,decide_eq_true_eq]
    omega
theorem bl_tri:∀ {a b:List UInt8},bytesLt a b=false→bytesLt b a=false→a=b
 | [],[],_,_=>rfl
 | [],_::_,h,_=>by cases h
 | _::_,[],_,h=>by cases h
 | x::a,y::b,h1,h2=>by
  simp only [bytesLt] at h1 h2
  by_cases e1:x.toNat=y.toNat
  ·have exy:x=y:=UInt8.toNat_inj.1 e1
   subst exy
   simp only [Nat.beq_refl,cond_true] at h1 h2
   rw [bl_tri h1 h2]
  ·have hb:Nat.beq x.toNat y.toNat=false:=by rw [nbeq];simp [e1]
   have hb2:Nat.beq y.toNat x.toNat=false:=by rw [nbeq];simp;omega
   simp only [hb,hb2,cond_false,nblt,decide_eq_false_iff_not] at h1 h2
   omega

theorem blt_irr(x:ByteArray):blt x x=false:=bl_irr _
theorem blt_trans{x y z:ByteArray}(h:blt x y=true)(k:blt y z=true):blt x z=true:=bl_trans h k
theorem blt_tri{x y:ByteArray}(h:blt x y=false)(k:blt y x=false):x=y:=ByteArray.ext (Array.ext' (bl_tri h k))
theorem blt_asym{x y:ByteArray}(h:blt x y=true):blt y x=false:=by
 cases hk:blt y x with
 | false=>rfl
 | true=>have:=blt_trans h hk;rw [blt_irr] at this;cases this

theorem ltT(x y:ByteArray×Nat):ltOf cmpT x y=true↔tlt x y:=by
 unfold ltOf tlt cmpT cmpU cmpS
 rw [decide_eq_true_eq]
 rcases Nat.lt_trichotomy x.2 y.2 with h | h | h
 ·simp [h]
 ·have h1:¬ x.2<y.2:=by omega
  have h2:¬ y.2<x.2:=by omega
  rw [if_neg h1,if_neg h2,if_neg (by simp)]
  cases hb:blt x.1 y.1 with
  | true=>simp [h]
  | false=>cases hc:blt y.1 x.1<;>simp [h]
 ·have h1:¬ x.2<y.2:=by omega
  have h3:¬ x.2=y.2:=by omega
  simp [h,h1,h3]
theorem tlt_irr(x:ByteArray×Nat):¬ tlt x x:=by
 rintro (h | ⟨_,h⟩)
 ·omega
 ·rw [blt_irr] at h;cases h
theorem tlt_trans{x y z:ByteArray×Nat}(h:tlt x y)(k:tlt y z):tlt x z:=by
 rcases h with h | ⟨h1,h2⟩<;>rcases k with k | ⟨k1,k2⟩
 ·exact .inl (by omega)
 ·exact .inl (by omega)
 ·exact .inl (by omega)
 ·exact .inr ⟨by omega,blt_trans h2 k2⟩
theorem tlt_tri{x y:ByteArray×Nat}(h:¬ tlt x y)(k:¬ tlt y x):x=y:=by
 unfold tlt at h k
 have e:x.2=y.2:=by omega
 have h1:blt x.1 y.1=false:=by
  cases hb:blt x.1 y.1 with
  | false=>rfl
  | true=>exact absurd (.inr ⟨e,hb⟩) h
 have h2:blt y.1 x.1=false:=by
  cases hb:blt y.1 x.1 with
  | false=>rfl
  | true=>exact absurd (.inr ⟨e.symm,hb⟩) k
 exact Prod.ext (blt_tri h1 h2) e

theorem ltF(x y:ByteArray×Nat):ltOf cmpT x y=false↔¬ tlt x y:=by
 rw [← ltT,Bool.not_eq_true]
theorem swoT:SWO (ltOf cmpT) where
 irrefl x:=(ltF x x).2 (tlt_irr x)
 trans x y z h1 h2:=(ltT x z).2 (tlt_trans ((ltT x y).1 h1) ((ltT y z).1 h2))
 ntrans x y z h1 h2:=by
  rw [ltF] at h1 h2 ⊢
  intro h
  by_cases k:tlt y x
  ·exact h2 (tlt_trans k h)
  ·have:=tlt_tri h1 k
   subst this
   exact h2 h
theorem totT(x y:ByteArray×Nat)(h:ltOf cmpT x y=false)(k:ltOf cmpT y x=false):x=y:=tlt_tri ((ltF x y).1 h) ((ltF y x).1 k)
end Go.Proofs.YtgcffmhpjphefaaGreatDoor

/- A queue in general: its entries in a row, and where each name stands. -/
namespace Go.Proofs.YtgcffmhpjphefaaGreatDoor
open Go Go.AE
set_option maxRecDepth 10000
set_option maxHeartbeats 8000000
variable {Z:Go.AE.Road}

theorem tlt_tot:TotLt tlt:=⟨tlt_irr,tlt_trans,tlt_tri⟩
theorem tcells_lenQ:∀ ts:List (ByteArray×Nat),(tcells ts).length=ts.length*2
 | []=>rfl
 | x::l=>by simp only [tcells,List.length_cons,tcells_lenQ l];omega
theorem tcells_appQ:∀ (l m:List (ByteArray×Nat)),tcells (l++m)=tcells l++tcells m
 | [],_=>rfl
 | x::l,m=>by simp only [List.cons_append,tcells,tcells_appQ l m]
theorem tcells_dropQ:∀ {l:List (ByteArray×Nat)} {i:Nat} {x:ByteArray×Nat},l[i]? = some x→∃ r,(tcells l).drop (i*2)=.string x.1::.int .u64 (x.2:Nat)::r
 | [],i,x,h=>by simp at h
 | y::l,0,x,h=>by
  simp only [List.getElem?_cons_zero,Option.some.injEq] at h
  subst h
  exact ⟨tcells l,rfl⟩
 | y::l,i+1,x,h=>by
  obtain ⟨r,hr⟩:=tcells_dropQ (l:=l) (i:=i) (x:=x) (by simpa using h)
  refine ⟨r,?_⟩
  have e:(i+1)*2=i*2+1+1:=by omega
  rw [e]
  exact hr
theorem tcells_setQ:∀ {l:List (ByteArray×Nat)} {i:Nat} {t:ByteArray×Nat},i<l.length→tcells (l.set i t)=(tcells l).take (i*2)++[.string t.1,.int .u64 (t.2:Nat)]++(tcells l).drop (i*2+2)
 | [],i,t,h=>by simp at h
 | y::l,0,t,h=>by simp [tcells]
 | y::l,i+1,t,h=>by
  have ih:=tcells_setQ (l:=l) (i:=i) (t:=t) (by simpa using h)
  have e:(i+1)*2=i*2+1+1:=by omega
  rw [e,List.set_cons_succ]
  show _::_::tcells (l.set i t)=_
  rw [ih]
  simp [tcells,List.take_succ_cons]

section
variable {l:List (ByteArray×Nat)}{rest:List Value}{i:Nat}{x:ByteArray×Nat}
theorem qlt(h:l[i]? = some x):i<l.length:=(List.getElem?_eq_some_iff.1 h).1
theorem qdrop2(h:l[i]? = some x):∃ r,(tcells l++rest).drop (i*2)=.string x.1::.int .u64 (x.2:Nat)::r:=by
 obtain ⟨r,hr⟩:=tcells_dropQ h
 have:=qlt h
 rw [List.drop_append_of_le_length (by rw [tcells_lenQ];omega),hr]
 exact ⟨r++rest,rfl⟩
theorem qcut(h:l[i]? = some x):cut (tcells l++rest) (i*2) 2=some [.string x.1,.int .u64 (x.2:Nat)]:=by
 obtain ⟨r,hr⟩:=qdrop2 (rest:=rest) h
 unfold cut
 rw [hr]
 rfl
theorem qnth0(h:l[i]? = some x):nth (tcells l++rest) (i*2)=some (.string x.1):=by
 obtain ⟨r,hr⟩:=qdrop2 (rest:=rest) h
 rw [nth_eq]
 have:((tcells l++rest).drop (i*2))[0]? = some (.string x.1):=by rw [hr];rfl
 rwa [List.getElem?_drop,Nat.add_zero] at this
theorem qover{t:ByteArray×Nat}(h:i<l.length):over (tcells l++rest) (i*2) [.string t.1,.int .u64 (t.2:Nat)]=some (tcells (l.set i t)++rest):=by
 unfold over
 have e:Nat.ble (i*2 + [Value.string t.1,Value.int .u64 (t.2:Nat)].length) (tcells l++rest).length=true:=Nat.ble_eq_true_of_le (by rw [List.length_append,tcells_lenQ];simp;omega)
 rw [e,cond_true,tcells_setQ h,List.take_append_of_le_length (by rw [tcells_lenQ];omega)]
 have:(tcells l++rest).drop (i*2 + [Value.string t.1,Value.int .u64 (t.2:Nat)].length)=(tcells l).drop (i*2+2)++rest:=by
  rw [List.drop_append_of_le_length (by rw [tcells_lenQ];simp;omega)]
  rfl
 rw [this]
 simp [List.append_assoc]
theorem qover1{k:ByteArray}{a b:Nat}(h:l[i]? = some (k,a)):over (tcells l++rest) (i*2+1) [.int .u64 (b:Nat)]=some (tcells (l.set i (k,b))++rest):=by
 have hi:=qlt h
 rw [← qover (rest:=rest) (t:=(k,b)) hi]
 obtain ⟨r,hr⟩:=qdrop2 (rest:=rest) h
 have hlen:(tcells l++rest).length=l.length*2+rest.length:=by rw [List.length_append,tcells_lenQ]
 unfold over
 have e1:Nat.ble (i*2+1 + [Value.int .u64 (b:Nat)].length) (tcells l++rest).length=true:=Nat.ble_eq_true_of_le (by rw [hlen];simp;omega)
 have e2:Nat.ble (i*2 + [Value.string k,Value.int .u64 (b:Nat)].length) (tcells l++rest).length=true:=Nat.ble_eq_true_of_le (by rw [hlen];simp;omega)
 rw [e1,e2,cond_true,cond_true]
 have h0:(tcells l++rest)[i*2]? = some (.string k):=by
  have:=qnth0 (rest:=rest) h
  rwa [nth_eq] at this
 have hlt:i*2<(tcells l++rest).length:=by rw [hlen];omega
 have:(tcells l++rest).take (i*2+1)=(tcells l++rest).take (i*2)++[.string k]:=by
  rw [List.take_add_one,h0];rfl
 rw [this]
 simp
end

def QS(A:ASt)(v:Value)(l:List (ByteArray×Nat)):Prop:=
 (l=[]∧v=.slice none 0 0)∨∃ b rest,v=.slice (some ⟨b,0,none⟩) l.length unk∧A.get b=some (.row (tcells l++rest) 2 true)∧b<A.next∧rest.length % 2=0
abbrev encQ:MapEnc ByteArray Nat:=encS (fun i=>.int .i64 (i:Int))
def WAt(A:ASt)(w:Nat)(l:List (ByteArray×Nat)):Prop:=∃ es ck,A.get w=some (.map (vEnts encQ es) ck)∧VOK es ck∧Where l (vget es)
structure EAt(A:ASt)(e w:Nat)(v:Value)(l:List (ByteArray×Nat)):Prop where
 he:A.get e=some (.row [v,.map (some w)] 2 false)
 hs:QS A v l
 hw:WAt A w l
 lt:e<A.next∧w<A.next
 few:l.length≤2000
section
variable {A B:ASt}{e w:Nat}{v:Value}{l:List (ByteArray×Nat)}
theorem QS.fr{own:List Nat}(h:QS A v l)(hf:Fr own A B)(ho:∀ b∈slB v,b∉own):QS B v l:=by
 rcases h with h | ⟨b,rest,rfl,hb,h1,h2⟩
 ·exact .inl h
 ·exact .inr ⟨b,rest,rfl,(hf.get b h1 (ho b (by simp [slB]))).trans hb,Nat.lt_of_lt_of_le h1 hf.next,h2⟩
theorem QS.cells1(h:QS A v l):v.cells=#[v]:=by
 rcases h with ⟨_,rfl⟩ | ⟨b,rest,rfl,_⟩<;>rfl
theorem QS.single(h:QS A v l):single v=true:=by
 rcases h with ⟨_,rfl⟩ | ⟨b,rest,rfl,_⟩<;>rfl
theorem QS.ve(h:QS A v l):valEq v v=true:=by
 rcases h with ⟨_,rfl⟩ | ⟨b,rest,rfl,_⟩
 ·exact valEq_nilSlice
 ·exact valEq_slice
theorem QS.len(h:QS A v l)(B:ASt):aLen E0 71 v B=some (.int .i64 (l.length:Int)):=by
 rcases h with ⟨rfl,rfl⟩ | ⟨b,rest,rfl,_⟩
 ·simp only [aLen,w_qu];rfl
 ·simp only [aLen,w_qu];rfl
theorem QS.at(h:QS A v l){i:Nat}{x:ByteArray×Nat}(hi:l[i]? = some x):∃ b rest,v=.slice (some ⟨b,0,none⟩) l.length unk∧A.get b=some (.row (tcells l++rest) 2 true)∧b<A.next∧rest.length % 2=0:=by
 rcases h with ⟨rfl,_⟩ | h
 ·simp at hi
 ·exact h
theorem QS.low(h:QS A v l):∀ b∈slB v,b<A.next:=by
 rcases h with ⟨_,rfl⟩ | ⟨b,rest,rfl,hb,h1,h2⟩
 ·intro b hb;cases hb
 ·intro c hc
  simp only [slB,List.mem_singleton] at hc
  subst hc
  exact h1
theorem qix{b i n c:Nat}(h:i<n):aIndexAddr E0 71 (.slice (some ⟨b,0,none⟩) n c) (.int .i64 (i:Int))=some (.pointer (some ⟨b,i*2,none⟩)):=by
 have:=indexAddr_sl (A:={ heap:=.e,next:=0 }) ti71 t71_desc ti74 (kd:=.i64) (k:=i) (b:=b) (off:=0) (len:=n) (cap:=c) h
 rwa [t74_size,Nat.zero_add] at this
theorem WAt.fr{own:List Nat}(h:WAt A w l)(hl:w<A.next)(hf:Fr own A B)(ho:w∉own):WAt B w l:=by
 obtain ⟨es,ck,h1,h2⟩:=h
 exact ⟨es,ck,(hf.get w hl ho).trans h1,h2⟩
theorem EAt.new(h:EAt A e w v l):e≠w∧e∉slB v∧w∉slB v:=by
 obtain ⟨es,ck,hw,_⟩:=h.hw
 have he:=h.he
 refine ⟨fun e1=>?_,?_⟩
 ·rw [e1,hw] at he;cases he
 ·rcases h.hs with ⟨_,rfl⟩ | ⟨b,rest,rfl,hb,_⟩
  ·exact ⟨by simp [slB],by simp [slB]⟩
  ·refine ⟨?_,?_⟩
   ·intro hm
    simp only [slB,List.mem_singleton] at hm
    subst hm
    rw [he] at hb
    simp at hb
   ·intro hm
    simp only [slB,List.mem_singleton] at hm
    subst hm
    rw [hw] at hb;cases hb
theorem EAt.fr{own:List Nat}(h:EAt A e w v l)(hf:Fr own A B)(h1:e∉own)(h2:w∉own)(h3:∀ b∈slB v,b∉own):EAt B e w v l:=
 ⟨(hf.get e h.lt.1 h1).trans h.he,h.hs.fr hf h3,h.hw.fr h.lt.2 hf h2,⟨Nat.lt_of_lt_of_le h.lt.1 hf.next,Nat.lt_of_lt_of_le h.lt.2 hf.next⟩,h.few⟩
theorem EAt.fr0(h:EAt A e w v l)(hf:Fr [] A B):EAt B e w v l:=h.fr hf (by simp) (by simp) (by simp)
end

theorem box74{x y:Value}:aBox E0 74 (.agg #[x,y])=some (.row [x,y] 2 false,ptrTo):=by
 simp only [aBox,ti74,t74_size];rfl
theorem ecompare_spec{A:ASt}{x y:ByteArray×Nat}:CallW Z Tryz.prog 159 [.agg #[.string x.1,.int .u64 (x.2:Nat)],.agg #[.string y.1,.int .u64 (y.2:Nat)]] A (fun v A'=>v=.int .i64 (cmpT x y)∧Fr [] A A'):=by
 refine CallW.of_code E0_ok E0_ro fn159 rfl (n:=17) rfl (rs:=[.tmp 4]) rfl (by simp) (codeW_ok E0_ok E0_ro ?_)
 simp only [z_0,flat,cond_true,if_true,if_false,eq_self,Nat.reduceEqDiff,Nat.reduceAdd,Nat.reduceLT,reduceCtorEq,box74,ptrTo]
 refine CodeW.seqd E0_ok E0_ro mixed R39_ok [0,1,2,3,5,6,7,8,4,9,10,11,12] [4,5,6,7] (by simp only [reorder,reoGo,strip,List.map_cons,List.map_nil,opAt,remap,nth,Option.map,σ,place',List.length_cons,List.length_nil,Nat.reduceAdd];rfl) (by decide +kernel) (by kernel_rfl) (by kernel_rfl) (by kernel_rfl) ?_
 generalize hCd:ASt.new (ASt.new A _) _=C
 have c1:C.get A.next=some (.row [.string x.1,.int .u64 (x.2:Nat)] 2 false):=by
  rw [← hCd,ASt.get_new,if_neg (by rw [ASt.next_new];omega),ASt.get_new,if_pos rfl]
 have c2:C.get (A.next+1)=some (.row [.string y.1,.int .u64 (y.2:Nat)] 2 false):=by
  rw [← hCd,ASt.get_new,if_pos (by rw [ASt.next_new])]
 have hCn:A.next+2=C.next:=by rw [← hCd];simp only [ASt.next_new]
 have fC:Fr [] A C:=⟨by omega,fun b hb _=>by rw [← hCd,ASt.get_new,if_neg (by rw [ASt.next_new];omega),ASt.get_new,if_neg (by omega)]⟩
 clear hCd
 simp only [z_0,aFieldAddr,cond_false,if_true,if_false,List.length_cons,List.length_nil,List.append_nil,List.nil_append,eq_self,Nat.reduceEqDiff,Nat.reduceAdd,Nat.reduceLT,reduceCtorEq,q_0,q_1,q_2,hasN,E0_ron,List.length_cons,List.length_nil,c1,c2]
 refine con48 ?_
 simp only [z_0,cond_false,if_true,if_false,List.append_nil,List.nil_append,eq_self,Nat.reduceEqDiff,Nat.reduceLT,reduceCtorEq,q_0,q_1,q_2,pendW,exists_eq',c1,c2]
 refine con49 ?_
 simp only [z_0,cond_false,if_true,if_false,List.append_nil,List.nil_append,eq_self,Nat.reduceEqDiff,Nat.reduceAdd,Nat.reduceLT,reduceCtorEq,q_0,q_1,q_2,pendW,exists_eq',c1,c2,bs100]
 have n1:A.next+2=C.next:=hCn
 generalize hDd:ASt.set _ _ (.row [.int .i64 (cmpU x.2 y.2),.int .i64 (cmpS x.1 y.1)] 1 false)=D
 have d0:∀ b,b≠C.next+10→D.get b=C.get b:=fun b hb=>by rw [← hDd,ASt.get_set,if_neg hb];rfl
 have d1:=(d0 A.next (by omega)).trans c1
 have d2:=(d0 (A.next+1) (by omega)).trans c2
 have d3:D.get (C.next+10)=some (.row [.int .i64 (cmpU x.2 y.2),.int .i64 (cmpS x.1 y.1)] 1 false):=by rw [← hDd,ASt.get_set,if_pos rfl]
 have fD:Fr [] C D:=⟨by rw [← hDd,ASt.next_set];exact Nat.le_add_right _ _,fun b hb _=>d0 b (by omega)⟩
 clear hDd
 refine con47 d3 ?_
 simp only [z_0,cond_false,if_true,if_false,eq_self,Nat.reduceEqDiff,Nat.reduceLT,reduceCtorEq,q_0,q_2,pendW,exists_eq',d1,d2]
 unfold cmpT
 exact ⟨rfl,fC.trans fD⟩
end Go.Proofs.YtgcffmhpjphefaaGreatDoor

/- A queue in general: what heap asks of it. -/
namespace Go.Proofs.YtgcffmhpjphefaaGreatDoor
open Go Go.AE Go.Sort
set_option maxRecDepth 10000
set_option maxHeartbeats 8000000
variable {Z:Go.AE.Road}

theorem cmpT_lt{x y:ByteArray×Nat}:cmpT x y<0↔tlt x y:=by
 have:=ltT x y
 unfold ltOf at this
 rwa [decide_eq_true_eq] at this
theorem qless_spec{A:ASt}{e w i k:Nat}{v:Value}{l:List (ByteArray×Nat)}{x y:ByteArray×Nat}(h:EAt A e w v l)(hi:l[i]? = some x)(hk:l[k]? = some y):
  CallW Z Tryz.prog 160 [.pointer (some ⟨e,0,none⟩),.int .i64 (i:Int),.int .i64 (k:Int)] A (fun r A'=>(∃ b,r=.bool b∧(b=true↔tlt x y))∧Fr [] A A'):=by
 refine CallW.of_code E0_ok E0_ro fn160 rfl (n:=23) rfl (rs:=[.tmp 6]) rfl (by simp) (codeW_ok E0_ok E0_ro ?_)
 have h1:=h.he
 have hve:=h.hs.ve
 obtain ⟨b,rest,rfl,hb,hlb,_⟩:=h.hs.at hi
 have hRC:=RO_ok (Z:=Z) (P:=Tryz.prog) (f:=159) (ar:=[.agg #[.string x.1,.int .u64 (x.2:Nat)],.agg #[.string y.1,.int .u64 (y.2:Nat)]]) (Pr:=fun _=>True) (Sp:=fun A v A'=>v=.int .i64 (cmpT x y)∧Fr [] A A') (fun A _=>ecompare_spec)
 simp only [z_0,flat,cond_true,Nat.reduceAdd,Nat.reduceLT]
 refine CodeW.seqf E0_ok E0_ro mixed hRC [0,1,2,3,4,5,6,7,8,9,10,11,12,13,14,15,16] [] (fanOf _ _ _) (by simp only [reorder,reoGo,strip,List.map_cons,List.map_nil,opAt,remap,nth,Option.map,σ,place',List.length_cons,List.length_nil,Nat.reduceAdd];rfl) (by decide +kernel) (by kernel_rfl) (by kernel_rfl) (by kernel_rfl) rfl ?_
 simp only [z_0,aFieldAddr,cond_true,cond_false,if_true,if_false,List.length_cons,List.length_nil,List.append_nil,List.nil_append,eq_self,Nat.reduceEqDiff,Nat.reduceAdd,Nat.reduceLT,reduceCtorEq,q_0,q_1,q_2,f_0,hasN,reorder,E0_ron,List.length_cons,List.length_nil,h1,hve,qix (qlt hi),qix (qlt hk),hb,qcut hi,qcut hk,va71]
 refine conRO (by trivial) ?_
 rintro _ B ⟨rfl,fB⟩
 simp only [z_0,flat,cond_true,if_true,if_false,eq_self,Nat.reduceEqDiff,Nat.reduceAdd,Nat.reduceLT,reduceCtorEq,q_0,q_2,f_0,reorder]
 exact ⟨⟨_,rfl,by rw [decide_eq_true_eq];exact cmpT_lt⟩,(Fr.bump (n:=A.next+17) (by omega)).trans fB⟩
theorem qst{A:ASt}{b i:Nat}{l:List (ByteArray×Nat)}{rest:List Value}{t:ByteArray×Nat}(hb:A.get b=some (.row (tcells l++rest) 2 true))(hi:i<l.length):aStore E0 74 (.pointer (some ⟨b,i*2,none⟩)) (.agg #[.string t.1,.int .u64 (t.2:Nat)]) A=some (A.set b (.row (tcells (l.set i t)++rest) 2 true)):=by
 have:=qover (rest:=rest) (t:=t) hi
 simp only [aStore,hb,ti74,t74_size,Value.cells,this]
 rfl
theorem qme{A:ASt}{w ck:Nat}{es:List (VE ByteArray Nat)}(hok:VOK es ck)(hm:A.get w=some (.map (vEnts encQ es) ck)){k:ByteArray}{u:Nat}(hu:vget es k=some u):
  ∃ b:Nat,aMapEntry E0 91 (.map (some w)) (.string k) A=.val (.tuple #[.int .i64 (u:Int),.int .i64 (b:Int)]) A∧∀ (B:ASt) (v:Nat),B.get w=some (.map (vEnts encQ es) ck)→aEntryStore (.map (some w)) (.int .i64 (b:Int)) (.int .i64 (v:Int)) B=some (B.set w (.map (vEnts encQ (vput k v ck es)) ck)):=
 mapEntry_v (Γ:=encQ) hok ti91 t91_desc ti9 (fun k=>by rw [t9_desc];rfl) ti3 hm hu
theorem whereExt{β:Type}{l:List (ByteArray×β)}{g g':ByteArray→Option Nat}(h:Where l g)(e:∀ k,g' k=g k):Where l g':=fun k i=>by rw [e];exact h k i
theorem qswap_spec{A:ASt}{e w i k:Nat}{v:Value}{l:List (ByteArray×Nat)}{x y:ByteArray×Nat}(h:EAt A e w v l)(hi:l[i]? = some x)(hk:l[k]? = some y):
  CallW Z Tryz.prog 163 [.pointer (some ⟨e,0,none⟩),.int .i64 (i:Int),.int .i64 (k:Int)] A (fun _ A'=>EAt A' e w v (swp l i k)∧Fr (w::slB v) A A'):=by
 refine CallW.of_code E0_ok E0_ro fn163 rfl (n:=62) rfl (rs:=[]) rfl (by simp) (codeW_ok E0_ok E0_ro ?_)
 have h1:=h.he
 have hve:=h.hs.ve
 have hnew:=h.new
 obtain ⟨b,rest,rfl,hb,hlb,hr⟩:=h.hs.at hi
 have heb:e≠b:=fun e1=>hnew.2.1 (by simp [slB,e1])
 have hwb:w≠b:=fun e1=>hnew.2.2 (by simp [slB,e1])
 have li:=qlt hi
 have lk:=qlt hk
 simp only [z_0]
 refine CodeW.seqf E0_ok E0_ro mixed noCon_ok [0,1,2,3,4,5,6,7,8,9,10,11,12,13,14,15,16,17,18,19,20,21,22,23,24,25,26,27] [9] [[],[],[],[],[],[],[],[],[],[],[],[],[],[],[],[],[],[],[],[],[],[],[],[],[],[],[],[]] (by simp only [reorder,reoGo,strip,List.map_cons,List.map_nil,opAt,remap,nth,Option.map,σ,place',List.length_cons,List.length_nil,Nat.reduceAdd];rfl) (by decide +kernel) (by kernel_rfl) (by kernel_rfl) (by kernel_rfl) (by kernel_rfl) ?_
 have hst1:=qst (A:={ heap:=A.heap,next:=A.next+28 }) (t:=y) (rest:=rest) (l:=l) (i:=i) (b:=b) (by rw [get_next];exact hb) li
 have hst2:=qst (A:=ASt.set { heap:=A.heap,next:=A.next+28 } b (.row (tcells (l.set i y)++rest) 2 true)) (t:=x) (rest:=rest) (l:=l.set i y) (i:=k) (b:=b) (by rw [ASt.get_set,if_pos rfl]) (by rw [List.length_set];exact lk)
 have hsw:(l.set i y).set k x=swp l i k:=(swp_eq hi hk).symm
 rw [hsw] at hst2
 simp only [z_0,aFieldAddr,cond_true,cond_false,if_true,if_false,List.length_cons,List.length_nil,eq_self,Nat.reduceEqDiff,Nat.reduceAdd,Nat.reduceLT,reduceCtorEq,q_0,q_1,q_2,f_0,hasN,E0_ron,List.length_cons,List.length_nil,h1,hve,qix li,qix lk,hb,qcut hi,qcut hk,va71,hst1,hst2]
 generalize hDd:ASt.set (ASt.set _ b _) b _=D
 have gD:∀ c,D.get c=if c=b then some (.row (tcells (swp l i k)++rest) 2 true) else A.get c:=fun c=>by
  rw [← hDd,ASt.get_set]
  by_cases e1:c=b
  ·rw [if_pos e1,if_pos e1]
  ·rw [if_neg e1,if_neg e1,ASt.get_set,if_neg e1,get_next]
 have nD:D.next=A.next+28:=by rw [← hDd,ASt.next_set,ASt.next_set]
 clear hDd hst1 hst2
 have d1:D.get e=some (.row [.slice (some ⟨b,0,none⟩) l.length unk,.map (some w)] 2 false):=by rw [gD,if_neg heb];exact h1
 have d2:D.get b=some (.row (tcells (swp l i k)++rest) 2 true):=by rw [gD,if_pos rfl]
 obtain ⟨es,ck,hw,hok,hwr⟩:=h.hw
 have d3:D.get w=some (.map (vEnts encQ es) ck):=by rw [gD,if_neg hwb];exact hw
 have hi':(swp l i k)[i]? = some y:=by
  rw [swp_get li lk]
  by_cases e1:i=k
  ·subst e1
   rw [if_pos rfl,hi]
   rw [hi] at hk;exact hk
  ·rw [if_neg e1,if_pos rfl,hk]
 have hk':(swp l i k)[k]? = some x:=by rw [swp_get li lk,if_pos rfl,hi]
 have li':=qlt hi'
 have lk':=qlt hk'
 rw [swp_len] at li' lk'
 obtain ⟨b1,hm1,hs1⟩:=qme (A:={ heap:=D.heap,next:=D.next+32 }) hok (by rw [get_next];exact d3) (hwr.of hk)
 have hs1':=hs1 { heap:=D.heap,next:=D.next+32 } i (by rw [get_next];exact d3)
 have hok2:=vput_ok (k:=y.1) (v:=i) hok
 have hck:vck es y.1 ck=ck:=by unfold vck;rw [hwr.of hk];rfl
 rw [hck] at hok2
 have hx2:∃ u,vget (vput y.1 i ck es) x.1=some u:=by
  rw [vget_uput]
  by_cases e1:x.1=y.1
  ·rw [if_pos e1];exact ⟨_,rfl⟩
  ·rw [if_neg e1];exact ⟨_,hwr.of hi⟩
 obtain ⟨u2,hu2⟩:=hx2
 obtain ⟨b2,hm2,hs2⟩:=qme (A:=ASt.set { heap:=D.heap,next:=D.next+32 } w (.map (vEnts encQ (vput y.1 i ck es)) ck)) (w:=w) hok2 (by rw [ASt.get_set,if_pos rfl]) hu2
 have hs2':=hs2 _ k (show (ASt.set { heap:=D.heap,next:=D.next+32 } w (.map (vEnts encQ (vput y.1 i ck es)) ck)).get w=_ by rw [ASt.get_set,if_pos rfl])
 refine CodeW.seqf E0_ok E0_ro mixed noCon_ok [0,1,2,3,4,5,6,7,8,9,10,11,12,13,14,15,16,17,18,19,20,21,22,23,24,25,26,27,28,29,30,31] [24,25] [[],[],[],[],[],[],[],[],[],[],[],[],[],[],[],[],[],[],[],[],[],[],[],[],[],[],[],[],[],[],[],[]] (by simp only [reorder,reoGo,strip,List.map_cons,List.map_nil,opAt,remap,nth,Option.map,σ,place',List.length_cons,List.length_nil,Nat.reduceAdd];rfl) (by decide +kernel) (by kernel_rfl) (by kernel_rfl) (by kernel_rfl) (by kernel_rfl) ?_
 simp only [z_0,aFieldAddr,cond_false,if_true,if_false,List.length_cons,List.length_nil,eq_self,Nat.reduceEqDiff,Nat.reduceAdd,Nat.reduceLT,reduceCtorEq,q_0,q_1,q_2,f_0,hasN,E0_ron,List.length_cons,List.length_nil,fresh_mapEntry,quiet_mapEntry,fresh_entryStore,quiet_entryStore,oneW_mapEntry,oneW_entryStore,aOp_mapEntry,aOp_entryStore,d1,hve,qix li',qix lk',d2,qnth0 hi',qnth0 hk',hm1,hs1',hm2,hs2']
 generalize hFd:ASt.set (ASt.set _ w _) w _=F
 have gF:∀ c,F.get c=if c=w then some (.map (vEnts encQ (vput x.1 k ck (vput y.1 i ck es))) ck) else D.get c:=fun c=>by
  rw [← hFd,ASt.get_set]
  by_cases e1:c=w
  ·rw [if_pos e1,if_pos e1]
  ·rw [if_neg e1,if_neg e1,ASt.get_set,if_neg e1,get_next]
 have nF:F.next=D.next+32:=by rw [← hFd,ASt.next_set,ASt.next_set]
 clear hFd hs2' hm2 hs1' hm1 hs1 hs2
 have hck2:vck (vput y.1 i ck es) x.1 ck=ck:=by unfold vck;rw [hu2];rfl
 have hok3:=vput_ok (k:=x.1) (v:=k) hok2
 rw [hck2] at hok3
 refine ⟨⟨?_,.inr ⟨b,rest,by rw [swp_len],?_,by omega,hr⟩,⟨_,ck,by rw [gF,if_pos rfl],hok3,whereExt (hwr.swp hi hk) fun n=>?_⟩,⟨by have:=h.lt;omega,by have:=h.lt;omega⟩,by rw [swp_len];exact h.few⟩,⟨by omega,fun c hc hn=>?_⟩⟩
 ·rw [gF,if_neg hnew.1];exact d1
 ·rw [gF,if_neg (Ne.symm hwb)];exact d2
 ·rw [vget_uput,vget_uput]
 ·simp only [slB,List.mem_cons,List.not_mem_nil,or_false,not_or] at hn
  rw [gF,if_neg hn.1,gD,if_neg hn.2]
theorem elen_spec{A:ASt}{e w:Nat}{v:Value}{l:List (ByteArray×Nat)}(h:EAt A e w v l):CallW Z Tryz.prog 97 [.pointer (some ⟨e,0,none⟩)] A (fun r A'=>r=.int .i64 (l.length:Int)∧A=A'):=by
 refine CallW.of_code E0_ok E0_ro fn97 rfl (n:=8) rfl (rs:=[.tmp 2]) rfl (by simp) (codeW_ok E0_ok E0_ro ?_)
 have h1:=h.he
 have h2:=h.hs.len
 simp only [z_0,flat,aFieldAddr,aBuiltin,cond_true,cond_false,if_true,if_false,eq_self,Nat.reduceEqDiff,Nat.reduceLT,reduceCtorEq,h1,h2]
end Go.Proofs.YtgcffmhpjphefaaGreatDoor

/- A queue in general: one more entry, one away. -/
namespace Go.Proofs.YtgcffmhpjphefaaGreatDoor
open Go Go.AE Go.Sort
set_option maxRecDepth 10000
set_option maxHeartbeats 8000000
variable {Z:Go.AE.Road}

theorem isl71:isIntD (.slice 74)=false:=rfl
theorem QS.app{A:ASt}{v:Value}{l:List (ByteArray×Nat)}{p:Nat}{k:ByteArray}{a:Nat}{tl:Bool}(h:QS A v l)(hp:A.get p=some (.row [.string k,.int .u64 (a:Int)] 2 tl))(hl:l.length≤1000000):
  ∃ r B,aAppend E0 71 71 v (.slice (some ⟨p,0,none⟩) 1 1) A=.val r B∧QS B r (l++[(k,a)])∧Fr (slB v) A B∧∀ b∈slB r,b∈slB v∨A.next≤b:=by
 have hsg:singles [Value.string k,Value.int .u64 (a:Int)]=true:=rfl
 have htc:tcells (l++[(k,a)])=tcells l++[.string k,.int .u64 (a:Int)]:=tcells_appQ l [(k,a)]
 have hc:cut [Value.string k,.int .u64 (a:Int)] 0 (1*2)=some [.string k,.int .u64 (a:Int)]:=rfl
 rcases h with ⟨rfl,rfl⟩ | ⟨b,rest,rfl,hb,h1,hr⟩
 ·refine ⟨.slice (some ⟨A.next,0,none⟩) 1 unk,A.new (.row [.string k,.int .u64 (a:Int)] 2 true),?_,.inr ⟨A.next,[],rfl,by rw [ASt.get_new,if_pos rfl];rfl,by rw [ASt.next_new];omega,rfl⟩,.new,?_⟩
  ·simp only [aAppend,w_qu,lenV,srcCells,hp,hc,z71c,z71l,hsg,isl71]
   show appendTo 2 none 0 0 1 [.string k,.int .u64 (a:Int)] A=_
   simp only [appendTo,grown_eq]
   rfl
  ·intro c hc
   simp only [slB,List.mem_singleton] at hc
   exact .inr (by omega)
 ·have hlen:(tcells l++rest).length=l.length*2+rest.length:=by rw [List.length_append,tcells_lenQ]
  have b1:Nat.blt ((l.length+1)*(24+1)) 1000000000=true:=Nat.ble_eq_true_of_le (by omega)
  have b2:Nat.ble (0+l.length*2) (tcells l++rest).length=true:=Nat.ble_eq_true_of_le (by omega)
  cases rest with
  | nil=>
   rw [List.append_nil] at hb b2
   have b3:Nat.ble (0+(l.length+1)*2) (tcells l).length=false:=by rw [nble];simp;rw [tcells_lenQ];omega
   have b4:Nat.beq (0+l.length*2) (tcells l).length=true:=by rw [nbeq];simp;rw [tcells_lenQ]
   refine ⟨.slice (some ⟨A.next,0,none⟩) (l.length+1) unk,(A.set b (.row [] 2 false)).new (.row (tcells (l++[(k,a)])) 2 true),?_,.inr ⟨A.next,[],by rw [List.length_append];rfl,by rw [ASt.get_new,ASt.next_set,if_pos rfl,List.append_nil],by rw [ASt.next_new,ASt.next_set];omega,rfl⟩,⟨by rw [ASt.next_new,ASt.next_set];omega,fun c hc hn=>by rw [ASt.get_new,ASt.next_set,if_neg (by omega),ASt.get_set,if_neg (by simpa [slB] using hn)]⟩,?_⟩
   ·simp only [aAppend,w_qu,lenV,srcCells,hp,hc,z71c,z71l,hsg,isl71,t74_bytes,b1]
    show appendTo 2 (some ⟨b,0,none⟩) l.length unk 1 [.string k,.int .u64 (a:Int)] A=_
    simp only [appendTo,hb,b2,b3,b4,grown_eq,Nat.beq_refl,Bool.and_self,cond_true,cond_false,List.take_zero,List.drop_zero,htc]
    rfl
   ·intro c hc
    simp only [slB,List.mem_singleton] at hc
    exact .inr (by omega)
  | cons r0 rest=>
   cases rest with
   | nil=>simp at hr
   | cons r1 rest=>
    have hrl:(r0::r1::rest).length=rest.length+2:=rfl
    have b3:Nat.ble (0+(l.length+1)*2) (tcells l++r0::r1::rest).length=true:=Nat.ble_eq_true_of_le (by rw [hlen,hrl];omega)
    have ho:over (tcells l++r0::r1::rest) (0+l.length*2) [.string k,.int .u64 (a:Int)]=some (tcells (l++[(k,a)])++rest):=by
     unfold over
     have e:Nat.ble (0+l.length*2 + [Value.string k,.int .u64 (a:Int)].length) (tcells l++r0::r1::rest).length=true:=Nat.ble_eq_true_of_le (by rw [hlen,hrl];show 0+l.length*2+2≤_;omega)
     rw [e,cond_true,Nat.zero_add,List.take_append_of_le_length (by rw [tcells_lenQ];omega),List.take_of_length_le (by rw [tcells_lenQ];omega)]
     have:(tcells l++r0::r1::rest).drop (l.length*2 + [Value.string k,.int .u64 (a:Int)].length)=rest:=by
      rw [← tcells_lenQ l]
      show List.drop ((tcells l).length+2) _=_
      rw [List.drop_append]
      simp
     rw [this,htc,List.append_assoc]
    refine ⟨.slice (some ⟨b,0,none⟩) (l.length+1) unk,A.set b (.row (tcells (l++[(k,a)])++rest) 2 true),?_,.inr ⟨b,rest,by rw [List.length_append];rfl,by rw [ASt.get_set,if_pos rfl],by rw [ASt.next_set];exact h1,by rw [hrl] at hr;omega⟩,⟨by rw [ASt.next_set];exact Nat.le_refl _,fun c hc hn=>by rw [ASt.get_set,if_neg (by simpa [slB] using hn)]⟩,fun c hc=>.inl hc⟩
    simp only [aAppend,w_qu,lenV,srcCells,hp,hc,z71c,z71l,hsg,isl71,t74_bytes,b1]
    show appendTo 2 (some ⟨b,0,none⟩) l.length unk 1 [.string k,.int .u64 (a:Int)] A=_
    simp only [appendTo,hb,b2,b3,ho,Nat.beq_refl,Bool.and_self,cond_true]
theorem qupd{A:ASt}{w ck:Nat}{es:List (VE ByteArray Nat)}(hm:A.get w=some (.map (vEnts encQ es) ck))(k:ByteArray)(u:Nat):
  aMapUpdate E0 91 (.map (some w)) (.string k) (.int .i64 (u:Int)) A=some (A.set w (.map (vEnts encQ (vput k u ck es)) (vck es k ck))):=
 mapUpdate_v (Γ:=encQ) ti91 t91_desc ti9 (fun k=>by rw [t9_desc];rfl) hm k u
theorem qdel{A:ASt}{w ck:Nat}{es:List (VE ByteArray Nat)}(hm:A.get w=some (.map (vEnts encQ es) ck))(k:ByteArray):
  aDelete E0 91 (.map (some w)) (.string k) A=.val undef (if (vget es k).isSome then A.set w (.map (vEnts encQ (vdel k es)) ck) else A):=
 delete_v (Γ:=encQ) ti91 t91_desc ti9 (fun k=>by rw [t9_desc];rfl) hm k
theorem epush_spec{A:ASt}{e w:Nat}{v:Value}{l:List (ByteArray×Nat)}{k:ByteArray}{a:Nat}(h:EAt A e w v l)(hk:∀ x∈l,x.1≠k)(hl:l.length<2000):
  CallW Z Tryz.prog 162 [.pointer (some ⟨e,0,none⟩),.iface 74 (.agg #[.string k,.int .u64 (a:Int)])] A (fun _ A'=>∃ v',EAt A' e w v' (l++[(k,a)])∧Fr (e::w::slB v) A A'∧∀ b∈slB v',b∈slB v∨A.next≤b):=by
 refine CallW.of_code E0_ok E0_ro fn162 rfl (n:=27) rfl (rs:=[]) rfl (by simp) (codeW_ok E0_ok E0_ro ?_)
 have h2:=h.he
 have hve:=h.hs.ve
 have hnew:=h.new
 have hlow:=h.hs.low
 obtain ⟨es,ck,hw,hok,hwr⟩:=h.hw
 have hup:=qupd (A:={ heap:=A.heap,next:=A.next+13 }) (w:=w) (by rw [get_next];exact hw) k l.length
 have lenQ:=h.hs.len
 simp only [z_0]
 refine CodeW.seqf E0_ok E0_ro mixed noCon_ok [0,1,2,3,4,5,6,7,8,9,10,11,12] [] (fanOf _ _ _) (by simp only [reorder,reoGo,strip,List.map_cons,List.map_nil,opAt,remap,nth,Option.map,σ,place',List.length_cons,List.length_nil,Nat.reduceAdd];rfl) (by decide +kernel) (by kernel_rfl) (by kernel_rfl) (by kernel_rfl) rfl ?_
 simp only [z_0,aFieldAddr,aField,aBuiltin,cond_false,if_true,if_false,List.length_cons,List.length_nil,eq_self,Nat.reduceEqDiff,Nat.reduceAdd,Nat.reduceLT,reduceCtorEq,q_0,q_1,q_2,f_0,hasN,reorder,E0_ron,List.length_cons,List.length_nil,fresh_ta,quiet_ta,aOp_typeAssert,taT,h2,lenQ,hup,hve]
 clear hup
 generalize hA:ASt.set _ w (.map _ _)=A1
 have a1:∀ b,b≠w→A1.get b=A.get b:=fun b hb=>by rw [← hA,ASt.get_set,if_neg hb,get_next]
 have a2:A1.get w=some (.map (vEnts encQ (vput k l.length ck es)) (vck es k ck)):=by rw [← hA,ASt.get_set,if_pos rfl]
 have n1:A1.next=A.next+13:=by rw [← hA,ASt.next_set]
 clear hA
 have ce:A1.get e=some (.row [v,.map (some w)] 2 false):=(a1 e hnew.1).trans h2
 have hlt:=h.lt
 have hq1:QS (ASt.set { heap:=A1.heap,next:=A1.next+12 } (A1.next+7) (.row [.string k,.int .u64 (a:Int)] 2 false)) v l:=
  h.hs.fr (own:=[w]) ⟨by rw [ASt.next_set];show A.next≤A1.next+12;omega,fun b hb hn=>by rw [ASt.get_set,if_neg (by omega),get_next];exact a1 b (by simpa using hn)⟩ (fun b hb hm=>hnew.2.2 (by simp only [List.mem_singleton] at hm;exact hm ▸ hb))
 obtain ⟨r,B,ha,ho,fB,hr⟩:=hq1.app (p:=A1.next+7) (k:=k) (a:=a) (tl:=false) (by rw [ASt.get_set,if_pos rfl]) (by omega)
 have fAB:Fr (w::slB v) A B:=⟨by have:=fB.next;rw [ASt.next_set] at this;have h3:A1.next+12≤B.next:=this;omega,fun b hb hn=>by
  simp only [List.mem_cons,not_or] at hn
  rw [fB.get b (by rw [ASt.next_set];show b<A1.next+12;omega) hn.2,ASt.get_set,if_neg (by omega),get_next]
  exact a1 b hn.1⟩
 have cB:B.get e=some (.row [v,.map (some w)] 2 false):=(fAB.get e hlt.1 (by simp only [List.mem_cons,not_or];exact ⟨hnew.1,hnew.2.1⟩)).trans h2
 have wB:B.get w=some (.map (vEnts encQ (vput k l.length ck es)) (vck es k ck)):=by
  rw [fB.get w (by rw [ASt.next_set];show w<A1.next+12;omega) hnew.2.2,ASt.get_set,if_neg (by omega),get_next]
  exact a2
 have hst:=st68 cB ⟨ho.cells1,ho.single⟩
 refine CodeW.seqf E0_ok E0_ro mixed noCon_ok [0,1,2,3,4,5,6,7,8,9,10,11] [0] [[],[],[],[],[],[],[],[],[7],[7],[7],[7]] (by simp only [reorder,reoGo,strip,List.map_cons,List.map_nil,opAt,remap,nth,Option.map,σ,place',List.length_cons,List.length_nil,Nat.reduceAdd];rfl) (by decide +kernel) (by kernel_rfl) (by kernel_rfl) (by kernel_rfl) (by kernel_rfl) ?_
 simp only [z_0,aFieldAddr,aBuiltin,cond_true,cond_false,if_true,if_false,List.length_cons,List.length_nil,eq_self,Nat.reduceEqDiff,Nat.reduceAdd,Nat.reduceLT,reduceCtorEq,q_0,q_1,q_2,f_0,hasN,E0_ron,List.length_cons,List.length_nil,fresh_ta,quiet_ta,aOp_typeAssert,taT,ce,hve,bs68,ha,hst]
 have hrB:∀ b∈slB r,b∈slB v∨A.next≤b:=fun b hb=>by
  rcases hr b hb with h3 | h3
  ·exact .inl h3
  ·rw [ASt.next_set] at h3
   have h3:A1.next+12≤b:=h3
   exact .inr (by omega)
 have rne:e∉slB r∧w∉slB r:=⟨fun hm=>by
  rcases hrB e hm with h3 | h3
  ·exact hnew.2.1 h3
  ·omega,fun hm=>by
  rcases hrB w hm with h3 | h3
  ·exact hnew.2.2 h3
  ·omega⟩
 have kn:vget es k=none:=by
  cases hg:vget es k with
  | none=>rfl
  | some i=>
   obtain ⟨b,hb⟩:=hwr.get hg
   exact absurd rfl (hk _ (List.mem_of_getElem? hb))
 have nB:=fAB.next
 have fS:Fr [e] B (B.set e (.row [r,.map (some w)] 2 false)):=⟨by rw [ASt.next_set];exact Nat.le_refl _,fun b hb hn=>by rw [ASt.get_set,if_neg (by simpa using hn)]⟩
 refine ⟨r,⟨by rw [ASt.get_set,if_pos rfl],ho.fr fS (fun b hb hm=>rne.1 (by simp only [List.mem_singleton] at hm;exact hm ▸ hb)),⟨_,_,(fS.get w (by omega) (by simpa using Ne.symm hnew.1)).trans wB,vput_ok hok,whereExt (hwr.push (x:=(k,a)) kn) fun n=>?_⟩,⟨by rw [ASt.next_set];omega,by rw [ASt.next_set];omega⟩,by rw [List.length_append];simp;omega⟩,?_,hrB⟩
 ·exact vget_uput n
 ·exact ((fAB.sub (fun b hb=>List.mem_cons_of_mem _ hb)).trans (fS.sub (by simp)))
theorem qcutE{A:ASt}{b n m:Nat}{c:List Value}(hb:A.get b=some (.row c 2 true))(hm:m*2≤c.length):aSlice E0 71 (.slice (some ⟨b,0,none⟩) n unk) none (some (.int .i64 (m:Int))) none A=some (.slice (some ⟨b,0,none⟩) m unk):=by
 have e1:Nat.ble (0+m*2) c.length=true:=Nat.ble_eq_true_of_le (by omega)
 have e2:Nat.ble 0 m=true:=Nat.ble_eq_true_of_le (Nat.zero_le _)
 have e0:boundOr (some (.int .i64 (m:Int))) n=some m:=rfl
 have e00:boundOr none unk=some unk:=rfl
 have e01:boundOr none 0=some 0:=rfl
 have u1:Nat.blt unk unk=false:=by rw [nblt];simp
 have u2:Nat.beq unk unk=true:=Nat.beq_refl _
 simp only [aSlice,w_qu,hb,e0,e00,e01,e1,e2,u1,u2,cond_false,Nat.sub_zero,Nat.zero_mul,Nat.add_zero]
 rfl
theorem st68'{A:ASt}{e:Nat}{x y:Value}{v:Value}(h:A.get e=some (.row [x,y] 2 false))(hv:v.cells=#[v]∧Go.AE.single v=true):aStore E0 71 (.pointer (some ⟨e,0,none⟩)) v A=some (A.set e (.row [v,y] 2 false)):=st68 h hv
theorem al74:aAlloc E0 74=some (.row [.string ByteArray.empty,.int .u64 0] 2 false,ptrTo):=by
 simp only [aAlloc,w_qu];rfl
theorem st74{A:ASt}{b:Nat}{x0 y0:Value}{k:ByteArray}{a:Nat}(h:A.get b=some (.row [x0,y0] 2 false)):aStore E0 74 (.pointer (some ⟨b,0,none⟩)) (.agg #[.string k,.int .u64 (a:Int)]) A=some (A.set b (.row [.string k,.int .u64 (a:Int)] 2 false)):=by
 simp only [aStore,h,w_qu];rfl
theorem epop_spec{A:ASt}{e w m:Nat}{v:Value}{l:List (ByteArray×Nat)}{x:ByteArray×Nat}(h:EAt A e w v l)(hm:l.length=m+1)(hx:l[m]? = some x):
  CallW Z Tryz.prog 161 [.pointer (some ⟨e,0,none⟩)] A (fun _ A'=>∃ v',EAt A' e w v' (l.take m)∧Fr (e::w::slB v) A A'∧∀ b∈slB v',b∈slB v):=by
 refine CallW.of_code E0_ok E0_ro fn161 rfl (n:=35) rfl (rs:=[.tmp 2]) rfl (by simp) (codeW_ok E0_ok E0_ro ?_)
 have h2:=h.he
 have hve:=h.hs.ve
 have hnew:=h.new
 have lenQ:=h.hs.len
 have hfew:=h.few
 have hlt:=h.lt
 obtain ⟨es,ck,hw,hok,hwr⟩:=h.hw
 obtain ⟨b,rest,rfl,hb,hlb,hr⟩:=h.hs.at hx
 have heb:e≠b:=fun e1=>hnew.2.1 (by simp [slB,e1])
 have hwb:w≠b:=fun e1=>hnew.2.2 (by simp [slB,e1])
 have w1:IntKind.i64.wrap (((l.length:Nat):Int)-1)=(m:Int):=by rw [IntKind.wrap_i64];omega
 simp only [z_0,flat,aFieldAddr,aBuiltin,cond_true,cond_false,if_true,if_false,eq_self,Nat.reduceEqDiff,Nat.reduceLT,reduceCtorEq,h2,lenQ,w1,qix (qlt hx),hb,qcut hx,al74,ptrTo]
 have hst:=st74 (A:=A.new (.row [.string ByteArray.empty,.int .u64 0] 2 false)) (b:=A.next) (x0:=.string ByteArray.empty) (y0:=.int .u64 0) (k:=x.1) (a:=x.2) (by rw [ASt.get_new,if_pos rfl])
 rw [hst]
 generalize hCd:(A.new (.row [.string ByteArray.empty,.int .u64 0] 2 false)).set A.next _=C
 have fC:Fr [] A C:=⟨by rw [← hCd,ASt.next_set,ASt.next_new];omega,fun b hb _=>by rw [← hCd,ASt.get_set,if_neg (by omega),ASt.get_new,if_neg (by omega)]⟩
 have gC:C.get A.next=some (.row [.string x.1,.int .u64 (x.2:Int)] 2 false):=by rw [← hCd,ASt.get_set,if_pos rfl]
 have nC:C.next=A.next+1:=by rw [← hCd,ASt.next_set,ASt.next_new]
 clear hCd hst
 have c2:=(fC.get e hlt.1 (by simp)).trans h2
 have cb:=(fC.get b hlb (by simp)).trans hb
 have cw:=(fC.get w hlt.2 (by simp)).trans hw
 have hcut:=qcutE (n:=l.length) (m:=m) cb (by rw [List.length_append,tcells_lenQ];omega)
 have hst2:=st68' c2 (v:=.slice (some ⟨b,0,none⟩) m unk) ⟨rfl,rfl⟩
 simp only [z_0,aFieldAddr,cond_false,if_true,if_false,eq_self,Nat.reduceEqDiff,Nat.reduceLT,reduceCtorEq,c2,hcut]
 rw [hst2]
 generalize hDd:C.set e _=D
 have gD:∀ c,D.get c=if c=e then some (.row [.slice (some ⟨b,0,none⟩) m unk,.map (some w)] 2 false) else C.get c:=fun c=>by rw [← hDd,ASt.get_set]
 have nD:D.next=C.next:=by rw [← hDd,ASt.next_set]
 clear hDd hst2
 have d1:D.get A.next=some (.row [.string x.1,.int .u64 (x.2:Int)] 2 false):=by rw [gD,if_neg (by omega)];exact gC
 have d2:D.get e=some (.row [.slice (some ⟨b,0,none⟩) m unk,.map (some w)] 2 false):=by rw [gD,if_pos rfl]
 have d3:D.get w=some (.map (vEnts encQ es) ck):=by rw [gD,if_neg (Ne.symm hnew.1)];exact cw
 have hdl:=qdel (A:={ heap:=D.heap,next:=D.next+7 }) (w:=w) (by rw [get_next];exact d3) x.1
 have hg:=hwr.of hx
 rw [hg] at hdl
 simp only [Option.isSome_some,if_true] at hdl
 simp only [z_0]
 refine CodeW.seqf E0_ok E0_ro mixed noCon_ok [0,1,2,3,4,5,6] [] (fanOf _ _ _) (by simp only [reorder,reoGo,strip,List.map_cons,List.map_nil,opAt,remap,nth,Option.map,σ,place',List.length_cons,List.length_nil,Nat.reduceAdd];rfl) (by decide +kernel) (by kernel_rfl) (by kernel_rfl) (by kernel_rfl) rfl ?_
 have hnw:(A.next=w)=False:=eq_false (by omega)
 have hcx:cut [Value.string x.1,.int .u64 (x.2:Int)] 0 2=some [.string x.1,.int .u64 (x.2:Int)]:=rfl
 simp only [z_0,aFieldAddr,aBuiltin,cond_true,cond_false,if_true,if_false,List.length_cons,List.length_nil,eq_self,Nat.reduceEqDiff,Nat.reduceAdd,Nat.reduceLT,reduceCtorEq,q_0,q_1,q_2,f_0,hasN,reorder,E0_ron,List.length_cons,List.length_nil,d1,d2,hdl,hnw,hcx,oneW_makeInterface,aOp_makeInterface,mifT]
 generalize hFd:ASt.set _ w _=F
 have gF:∀ c,F.get c=if c=w then some (.map (vEnts encQ (vdel x.1 es)) ck) else D.get c:=fun c=>by rw [← hFd,ASt.get_set,get_next]
 have nF:F.next=D.next+7:=by rw [← hFd,ASt.next_set]
 clear hFd hdl
 have hlt2:(l.take m).length=m:=by rw [List.length_take];omega
 refine ⟨.slice (some ⟨b,0,none⟩) m unk,⟨?_,?_,⟨_,ck,by rw [gF,if_pos rfl],vdel_ok hok,whereExt (hwr.pop hm hx) fun n=>?_⟩,⟨by omega,by omega⟩,by omega⟩,⟨by omega,fun c hc hn=>?_⟩,fun c hc=>hc⟩
 ·rw [gF,if_neg hnew.1];exact d2
 ·refine .inr ⟨b,tcells (l.drop m)++rest,by rw [hlt2],?_,by omega,?_⟩
  ·rw [gF,if_neg (Ne.symm hwb),gD,if_neg (Ne.symm heb),cb,← List.append_assoc,← tcells_appQ,List.take_append_drop]
  ·rw [List.length_append,tcells_lenQ];omega
 ·exact vget_udel hok.keys n
 ·simp only [slB,List.mem_cons,List.not_mem_nil,or_false,not_or] at hn
  rw [gF,if_neg hn.2.1,gD,if_neg hn.1,fC.get c hc (by simp)]
end Go.Proofs.YtgcffmhpjphefaaGreatDoor

/- A queue in general: up and down. -/
namespace Go.Proofs.YtgcffmhpjphefaaGreatDoor
open Go Go.AE Go.Sort
set_option maxRecDepth 10000
set_option maxHeartbeats 8000000
variable {Z:Go.AE.Road}

theorem mLess{b:Option Addr}{A:ASt}:aMethod E0 90 (.pointer b) "Less" A=some (160,.pointer b):=by kernel_rfl
theorem mSwap{b:Option Addr}{A:ASt}:aMethod E0 90 (.pointer b) "Swap" A=some (163,.pointer b):=by kernel_rfl
theorem mPop{b:Option Addr}{A:ASt}:aMethod E0 90 (.pointer b) "Pop" A=some (161,.pointer b):=by kernel_rfl
abbrev ifE(e:Nat):Value:=.iface 90 (.pointer (some ⟨e,0,none⟩))

theorem eup_spec{A:ASt}{e w n j:Nat}{v:Value}{l:List (ByteArray×Nat)}(h:EAt A e w v l)(hu:UpI tlt l n j)(hj:j<n)(hn:n≤l.length):
  CallW Z Tryz.prog 82 [ifE e,.int .i64 (j:Int)] A (fun _ A'=>∃ l',EAt A' e w v l'∧SameL n l l'∧HeapL tlt l' n∧Fr (w::slB v) A A'):=by
 refine CallW.of_code E0_ok E0_ro fn82 rfl (n:=23) rfl (rs:=[]) rfl (by simp) (codeW_ok E0_ok E0_ro ?_)
 have hfew:=h.few
 have hnew:=h.new
 simp only [z_0]
 refine CodeW.mono (Q:=fun o=>∃ T' A',o=.fr ⟨.exit 0,T',A'⟩∧∃ l',EAt A' e w v l'∧SameL n l l'∧HeapL tlt l' n∧Fr (w::slB v) A A') ?_ ?_
 ·refine CodeW.loopR (k:=j) (fun m T A'=>∃ l',tget T 0=ifE e∧tget T 1=.int .i64 (m:Int)∧m<n∧EAt A' e w v l'∧SameL n l l'∧UpI tlt l' n m∧Fr (w::slB v) A A') ?_ ⟨l,?_,?_,hj,h,.refl l,hu,.refl _ _⟩
  ·rintro m T A1 ⟨l1,u0,u1,hmn,h1,hs,hu1,f1⟩
   refine codeW_ok E0_ok E0_ro ?_
   by_cases m0:m=0
   ·subst m0
    have u1:tget T 1=.int .i64 0:=u1
    have w1:IntKind.i64.wrap (0-1)=-1:=by kernel_rfl
    have w2:IntKind.i64.wrap ((-1:Int).tdiv 2)=0:=by kernel_rfl
    simp only [z_0,flat,cond_true,if_true,if_false,eq_self,Nat.reduceEqDiff,Nat.reduceLT,reduceCtorEq,u1,w1,b_quo (show (2:Int)≠0 by decide),w2,undef]
    exact ⟨_,_,rfl,l1,h1,hs,up_end hu1 (fun h0=>absurd h0 (by omega)),f1⟩
   ·have hl1:=hs.len
    have w1:IntKind.i64.wrap ((m:Int)-1)=((m-1:Nat):Int):=by rw [IntKind.wrap_i64];omega
    have w2:IntKind.i64.wrap ((((m-1:Nat):Int)).tdiv 2)=(((m-1) / 2:Nat):Int):=by
     rw [show ((((m-1:Nat):Int)).tdiv 2)=(((m-1) / 2:Nat):Int) from rfl,IntKind.wrap_i64];omega
    have d1:((((m-1) / 2:Nat):Int)=(m:Int))=False:=eq_false (by omega)
    obtain ⟨x,hx⟩:∃ x,l1[(m-1) / 2]? = some x:=⟨_,List.getElem?_eq_getElem (by omega)⟩
    obtain ⟨y,hy⟩:∃ y,l1[m]? = some y:=⟨_,List.getElem?_eq_getElem (by omega)⟩
    simp only [z_0,flat,cond_true,if_true,if_false,eq_self,Nat.reduceEqDiff,Nat.reduceLT,reduceCtorEq,u0,u1,w1,b_quo (show (2:Int)≠0 by decide),w2,d1,aInvoke_method mLess]
    refine CallT.mono (CallT.of_call (qless_spec h1 hy hx)) ?_
    rintro _ B ⟨⟨b,rfl,hb⟩,fB⟩
    have hB:=h1.fr0 fB
    cases b with
    | false=>
     simp only [z_0,flat,cond_true,cond_false,if_true,if_false,eq_self,Nat.reduceEqDiff,Nat.reduceLT,reduceCtorEq]
     refine ⟨_,_,rfl,l1,hB,hs,up_end hu1 (fun _=>?_),f1.trans fB.nil⟩
     intro a c ha hc
     rw [hx] at ha;rw [hy] at hc
     cases ha;cases hc
     exact fun hl=>by simpa using hb.2 hl
    | true=>
     simp only [z_0,flat,cond_true,cond_false,if_true,if_false,eq_self,Nat.reduceEqDiff,Nat.reduceLT,reduceCtorEq,u0,u1,aInvoke_method mSwap]
     refine CallT.mono (CallT.of_call (qswap_spec hB hx hy)) ?_
     rintro _ C ⟨hC,fC⟩
     simp only [z_0,if_true,if_false,eq_self,Nat.reduceEqDiff,Nat.reduceLT,reduceCtorEq,u0]
     refine ⟨(m-1) / 2,by omega,_,rfl,by omega,hC,hs.trans (.swp (by omega) hmn (by omega)),up_step tlt_tot hu1 hmn (by omega) (by omega) hx hy (hb.1 rfl),f1.trans (fB.nil.trans fC)⟩
  all_goals first | rfl | (unfold argsT;rfl) | (simp [argsT,tget_put];done)
 ·rintro o ⟨T',A',rfl,h3⟩
  simp only [z_0]
  exact h3
theorem edown_spec{A:ASt}{e w n i:Nat}{v:Value}{l:List (ByteArray×Nat)}(h:EAt A e w v l)(hd:DownI tlt l n i i)(hi:i<n∨i=0∧n=0)(hn:n≤l.length):
  CallW Z Tryz.prog 81 [ifE e,.int .i64 (i:Int),.int .i64 (n:Int)] A (fun r A'=>∃ l' b,r=.bool b∧EAt A' e w v l'∧SameL n l l'∧(b=true∨i=0→HeapL tlt l' n)∧(b=false→UpI tlt l' n i)∧Fr (w::slB v) A A'):=by
 refine CallW.of_code E0_ok E0_ro fn81 rfl (n:=48) rfl (rs:=[.tmp 6]) rfl (by simp) (codeW_ok E0_ok E0_ro ?_)
 have hfew:=h.few
 have hnew:=h.new
 simp only [z_0,flat,cond_true,if_true,if_false,eq_self,Nat.reduceEqDiff,Nat.reduceAdd,Nat.reduceLT,reduceCtorEq]
 refine CodeW.mono (Q:=fun o=>∃ T' A',∃ m:Nat,o=.fr ⟨.exit 0,T',A'⟩∧tget T' 1=.int .i64 (i:Int)∧tget T' 7=.int .i64 (m:Int)∧i≤m∧∃ l',EAt A' e w v l'∧SameL n l l'∧DownI tlt l' n m i∧(∀ c,0<c→c<n→(c-1) / 2=m→OrdL tlt l' m c)∧Fr (w::slB v) A A') ?_ ?_
 ·refine CodeW.loopR (k:=n-i) (fun k T A'=>∃ (m:Nat) (l':List (ByteArray×Nat)),k=n-m∧tget T 0=ifE e∧tget T 1=.int .i64 (i:Int)∧tget T 2=.int .i64 (n:Int)∧tget T 7=.int .i64 (m:Int)∧i≤m∧(m<n∨m=0∧n=0)∧EAt A' e w v l'∧SameL n l l'∧DownI tlt l' n m i∧Fr (w::slB v) A A') ?_ ⟨i,l,rfl,?_,?_,?_,?_,Nat.le_refl _,hi,h,.refl l,hd,.refl _ _⟩
  ·rintro k T A1 ⟨m,l1,rfl,u0,u1,u2,u7,him,hmn,h1,hs,hd1,f1⟩
   refine codeW_ok E0_ok E0_ro ?_
   have hl1:=hs.len
   have w1:IntKind.i64.wrap (2*(m:Int))=((2*m:Nat):Int):=by rw [IntKind.wrap_i64];omega
   have w2:IntKind.i64.wrap (((2*m:Nat):Int)+1)=((2*m+1:Nat):Int):=by rw [IntKind.wrap_i64];omega
   have w3:IntKind.i64.wrap (((2*m+1:Nat):Int)+1)=((2*m+2:Nat):Int):=by rw [IntKind.wrap_i64];omega
   have dn:(((2*m+1:Nat):Int)<0)=False:=eq_false (by omega)
   by_cases hlt:2*m+1<n
   ·have d1:((n:Int)≤((2*m+1:Nat):Int))=False:=eq_false (by omega)
    obtain ⟨x,hx⟩:∃ x,l1[m]? = some x:=⟨_,List.getElem?_eq_getElem (by omega)⟩
    obtain ⟨y1,hy1⟩:∃ x,l1[2*m+1]? = some x:=⟨_,List.getElem?_eq_getElem (by omega)⟩
    by_cases hlt2:2*m+2<n
    ·have d2:(((2*m+2:Nat):Int)<(n:Int))=True:=eq_true (by omega)
     obtain ⟨y2,hy2⟩:∃ x,l1[2*m+2]? = some x:=⟨_,List.getElem?_eq_getElem (by omega)⟩
     simp only [z_0,flat,cond_true,cond_false,if_true,if_false,eq_self,Nat.reduceEqDiff,Nat.reduceLT,reduceCtorEq,u0,u2,u7,w1,w2,w3,d1,d2,dn,aInvoke_method mLess]
     refine CallT.mono (CallT.of_call (qless_spec h1 hy2 hy1)) ?_
     rintro _ B ⟨⟨bb,rfl,hbb⟩,fB⟩
     have hB:=h1.fr0 fB
     have f2:=f1.trans fB.nil
     cases bb with
     | true=>
      have hy:=hy2
      have hsib:∀ c,0<c→c<n→(c-1) / 2=m→c≠2*m+2→OrdL tlt l1 (2*m+2) c:=fun c c0 cn cp cj=>by
       have:c=2*m+1:=by omega
       subst this
       intro a d ha hd
       rw [hy2] at ha;rw [hy1] at hd
       cases ha;cases hd
       exact tlt_tot.asym (hbb.1 rfl)
      simp only [z_0,flat,cond_true,if_true,if_false,eq_self,Nat.reduceEqDiff,Nat.reduceLT,reduceCtorEq,u0,u7,aInvoke_method mLess]
      refine CallT.mono (CallT.of_call (qless_spec hB hy hx)) ?_
      rintro _ C ⟨⟨b,rfl,hb⟩,fC⟩
      have hC:=hB.fr0 fC
      cases b with
      | false=>
       simp only [z_0,if_true,if_false,eq_self,Nat.reduceEqDiff,Nat.reduceLT,reduceCtorEq]
       refine ⟨_,_,m,rfl,by simp only [tget_put,Nat.reduceEqDiff,if_false,u1],by simp only [tget_put,Nat.reduceEqDiff,if_false,u7],him,l1,hC,hs,hd1,fun c c0 cn cp=>?_,f2.trans fC.nil⟩
       have hyx:OrdL tlt l1 m (2*m+2):=fun a d ha hd=>by
        rw [hx] at ha;rw [hy] at hd
        cases ha;cases hd
        exact fun hl=>by simpa using hb.2 hl
       by_cases ec:c=2*m+2
       ·rw [ec];exact hyx
       ·exact OrdL.nle tlt_tot (by omega) hyx (hsib c c0 cn cp ec)
      | true=>
       simp only [z_0,if_true,if_false,eq_self,Nat.reduceEqDiff,Nat.reduceLT,reduceCtorEq,u0,u7,aInvoke_method mSwap]
       refine CallT.mono (CallT.of_call (qswap_spec hC hx hy)) ?_
       rintro _ D ⟨hD,fD⟩
       simp only [z_0,if_true,if_false,eq_self,Nat.reduceEqDiff,Nat.reduceLT,reduceCtorEq,u0]
       exact ⟨n-(2*m+2),by omega,2*m+2,_,rfl,u1,u2,rfl,by omega,.inl (by omega),hD,hs.trans (.swp (by omega) (by omega) (by omega)),down_step tlt_tot hd1 (by omega) (by omega) (by omega) (by omega) hx hy (hb.1 rfl) hsib,f2.trans (fC.nil.trans fD)⟩
     | false=>
      have hy:=hy1
      have hsib:∀ c,0<c→c<n→(c-1) / 2=m→c≠2*m+1→OrdL tlt l1 (2*m+1) c:=fun c c0 cn cp cj=>by
       have:c=2*m+2:=by omega
       subst this
       intro a d ha hd
       rw [hy1] at ha;rw [hy2] at hd
       cases ha;cases hd
       exact fun hl=>by simpa using hbb.2 hl
      simp only [z_0,flat,cond_true,if_true,if_false,eq_self,Nat.reduceEqDiff,Nat.reduceLT,reduceCtorEq,u0,u7,aInvoke_method mLess]
      refine CallT.mono (CallT.of_call (qless_spec hB hy hx)) ?_
      rintro _ C ⟨⟨b,rfl,hb⟩,fC⟩
      have hC:=hB.fr0 fC
      cases b with
      | false=>
       simp only [z_0,if_true,if_false,eq_self,Nat.reduceEqDiff,Nat.reduceLT,reduceCtorEq]
       refine ⟨_,_,m,rfl,by simp only [tget_put,Nat.reduceEqDiff,if_false,u1],by simp only [tget_put,Nat.reduceEqDiff,if_false,u7],him,l1,hC,hs,hd1,fun c c0 cn cp=>?_,f2.trans fC.nil⟩
       have hyx:OrdL tlt l1 m (2*m+1):=fun a d ha hd=>by
        rw [hx] at ha;rw [hy] at hd
        cases ha;cases hd
        exact fun hl=>by simpa using hb.2 hl
       by_cases ec:c=2*m+1
       ·rw [ec];exact hyx
       ·exact OrdL.nle tlt_tot (by omega) hyx (hsib c c0 cn cp ec)
      | true=>
       simp only [z_0,if_true,if_false,eq_self,Nat.reduceEqDiff,Nat.reduceLT,reduceCtorEq,u0,u7,aInvoke_method mSwap]
       refine CallT.mono (CallT.of_call (qswap_spec hC hx hy)) ?_
       rintro _ D ⟨hD,fD⟩
       simp only [z_0,if_true,if_false,eq_self,Nat.reduceEqDiff,Nat.reduceLT,reduceCtorEq,u0]
       exact ⟨n-(2*m+1),by omega,2*m+1,_,rfl,u1,u2,rfl,by omega,.inl (by omega),hD,hs.trans (.swp (by omega) (by omega) (by omega)),down_step tlt_tot hd1 (by omega) (by omega) (by omega) (by omega) hx hy (hb.1 rfl) hsib,f2.trans (fC.nil.trans fD)⟩
    ·have d2:(((2*m+2:Nat):Int)<(n:Int))=False:=eq_false (by omega)
     have hy:=hy1
     have hsib:∀ c,0<c→c<n→(c-1) / 2=m→c≠2*m+1→OrdL tlt l1 (2*m+1) c:=fun c c0 cn cp cj=>absurd cn (by omega)
     simp only [z_0,flat,cond_true,cond_false,if_true,if_false,eq_self,Nat.reduceEqDiff,Nat.reduceLT,reduceCtorEq,u0,u2,u7,w1,w2,w3,d1,d2,dn,undef,aInvoke_method mLess]
     refine CallT.mono (CallT.of_call (qless_spec h1 hy hx)) ?_
     rintro _ C ⟨⟨b,rfl,hb⟩,fC⟩
     have hC:=h1.fr0 fC
     cases b with
     | false=>
      simp only [z_0,if_true,if_false,eq_self,Nat.reduceEqDiff,Nat.reduceLT,reduceCtorEq]
      refine ⟨_,_,m,rfl,by simp only [tget_put,Nat.reduceEqDiff,if_false,u1],by simp only [tget_put,Nat.reduceEqDiff,if_false,u7],him,l1,hC,hs,hd1,fun c c0 cn cp=>?_,f1.trans fC.nil⟩
      have hyx:OrdL tlt l1 m (2*m+1):=fun a d ha hd=>by
       rw [hx] at ha;rw [hy] at hd
       cases ha;cases hd
       exact fun hl=>by simpa using hb.2 hl
      by_cases ec:c=2*m+1
      ·rw [ec];exact hyx
      ·exact OrdL.nle tlt_tot (by omega) hyx (hsib c c0 cn cp ec)
     | true=>
      simp only [z_0,if_true,if_false,eq_self,Nat.reduceEqDiff,Nat.reduceLT,reduceCtorEq,u0,u7,aInvoke_method mSwap]
      refine CallT.mono (CallT.of_call (qswap_spec hC hx hy)) ?_
      rintro _ D ⟨hD,fD⟩
      simp only [z_0,if_true,if_false,eq_self,Nat.reduceEqDiff,Nat.reduceLT,reduceCtorEq,u0]
      exact ⟨n-(2*m+1),by omega,2*m+1,_,rfl,u1,u2,rfl,by omega,.inl (by omega),hD,hs.trans (.swp (by omega) (by omega) (by omega)),down_step tlt_tot hd1 (by omega) (by omega) (by omega) (by omega) hx hy (hb.1 rfl) hsib,f1.trans (fC.nil.trans fD)⟩
   ·have d1:((n:Int)≤((2*m+1:Nat):Int))=True:=eq_true (by omega)
    simp only [z_0,flat,cond_true,if_true,if_false,eq_self,Nat.reduceEqDiff,Nat.reduceLT,reduceCtorEq,u2,u7,w1,w2,d1,undef]
    exact ⟨_,_,m,rfl,by simp only [tget_put,Nat.reduceEqDiff,if_false,u1],by simp only [tget_put,Nat.reduceEqDiff,if_false,u7],him,l1,h1,hs,hd1,fun c c0 cn cp=>absurd cn (by omega),f1⟩
  all_goals first | rfl | (unfold argsT;rfl) | (simp [argsT,tget_put];done)
 ·rintro o ⟨T',A',m,rfl,u1,u7,him,l',h1,hs,hd1,he,f1⟩
  simp only [z_0,if_true,if_false,eq_self,Nat.reduceEqDiff,Nat.reduceLT,u1,u7]
  have hgt:((i:Int)<(m:Int))=(i<m):=by rw [Int.ofNat_lt]
  refine ⟨l',decide (i<m),by simp only [hgt],h1,hs,fun hb=>?_,fun hb=>?_,f1⟩
  ·refine down_end hd1 he ?_
   rcases hb with hb | hb
   ·have:i<m:=of_decide_eq_true hb
    exact .inl (by omega)
   ·exact .inr hb
  ·have:¬ i<m:=of_decide_eq_false hb
   have:m=i:=by omega
   subst this
   exact down_stay hd1 he
end Go.Proofs.YtgcffmhpjphefaaGreatDoor

/- slices.SortFunc at timers. -/
namespace Go.Proofs.YtgcffmhpjphefaaGreatDoor
open Go Go.AE Go.Sort

variable {Z:Go.AE.Road}
set_option maxRecDepth 10000

def encT(x:ByteArray×Nat):List Value:=[.string x.1,.int .u64 (x.2:Nat)]
theorem tcells_len:∀ ts:List (ByteArray×Nat),(tcells ts).length=2*ts.length
 | []=>rfl
 | x::l=>by simp only [tcells,List.length_cons,tcells_len l];omega
theorem tcells_get:∀ (ts:List (ByteArray×Nat)) (j:Nat),j<2*ts.length→(tcells ts)[j]? = some (encT (ts[j / 2]!))[j % 2]!
 | [],j,h=>by simp at h
 | x::l,0,_=>rfl
 | x::l,1,_=>rfl
 | x::l,j+2,h=>by
  have h':j<2*l.length:=by simp at h;omega
  have e1:(j+2) / 2=j / 2+1:=by omega
  have e2:(j+2) % 2=j % 2:=by omega
  have e3:(x::l)[j / 2+1]! = l[j / 2]!:=by simp
  rw [e1,e2,e3,← tcells_get l j h']
  simp [tcells]
theorem flat_get(ts:List (ByteArray×Nat))(j:Nat)(h:j<2*ts.length):(tcells ts)[j]? = some (flatK encT 2 ts.toArray)[j]!:=by
 rw [get_flatK _ _ _ _ (by simp;omega),tcells_get ts j h]
 simp
theorem encT_closed(x:ByteArray×Nat)(r:Nat)(h:r<2):flat (encT x)[r]! = true:=by
 rcases r with _ | _ | r
 ·rfl
 ·rfl
 ·omega

theorem sort_spec{A:ASt}{b cap sz:Nat}{tl:Bool}{ts:List (ByteArray×Nat)}{rest:List Value}(hb:A.get b=some (.row (tcells ts++rest) sz tl))(hne:ts≠[])(hlen:ts.length<4611686018427387904):
  CallW Z Tryz.prog 85 [.slice (some ⟨b,0,none⟩) ts.length cap,.func (.func 86) #[] #[]] A (fun v A'=>A'=A.set b (.row (tcells (ts.mergeSort fun x y=>!(ltOf cmpT) y x)++rest) sz tl)):=by
 intro ρ w args' hR ha
 have hrep:=Z.rep hR
 obtain ⟨L,hL,cells,el,lo,hi,e1,e2,e3,e4,e5,e6⟩:=hrep.obj b _ hb
 obtain ⟨l⟩:=args'
 obtain ⟨cap',rfl⟩:∃ cap',l=[.slice (some ⟨L.B,L.o+0,none⟩) ts.length cap',.func (.func 86) #[] #[]]:=by
  have ha:VsRel ρ _ l:=ha
  cases ha with
  | cons h1 h2=>
   cases h2 with
   | cons h2 h3=>
    cases h3
    have hf:∀ {v:Value},VRel ρ (.func (.func 86) #[] #[]) v→v=.func (.func 86) #[] #[]:=by
     intro v hv
     cases hv with
     | func _ _ hs _ hc _=>
      rw [Array.eq_empty_of_size_eq_zero hs.symm,Array.eq_empty_of_size_eq_zero hc.symm]
    rw [hf h2]
    generalize hs:Value.slice (some ⟨b,0,none⟩) ts.length cap=s at h1
    cases h1<;>first | cases hs | skip
    ·rename_i L' hL' _
     rw [hL] at hL'
     cases hL'
     exact ⟨_,rfl⟩
    ·rename_i L' hL' _ _
     rw [hL] at hL'
     cases hL'
     exact ⟨_,rfl⟩
 have hn2:=tcells_len ts
 have hin:∀ j,j<2*ts.length→L.o+j<cells.size:=fun j hj=>by
  simp only [List.length_append] at e4;omega
 have hcell:∀ j,j<2*ts.length→cells[L.o+j]? = some (flatK encT 2 ts.toArray)[j]!:=fun j hj=>by
  obtain ⟨v',h1,h2⟩:=e5 j _ (by rw [List.getElem?_append_left (by omega)];exact flat_get ts j hj)
  rw [h1]
  congr 1
  rw [get_flatK _ _ _ _ (by simp;omega)] at h2 ⊢
  exact flat_eq (encT_closed _ _ (Nat.mod_lt _ (by omega))) h2
 have hH:HoldsK encT 2 w L.B (L.o+0) ts.toArray:=by
  intro j hj
  have hj2:j<2*ts.length:=by simp at hj;omega
  refine ⟨?_,?_⟩
  ·simp only [World.cell?,e1,Nat.add_zero]
   simpa using hcell j hj2
  ·simp only [World.frozen?,e1,Nat.add_zero]
   have:=e6 (L.o+j) (by omega) (by
    simp only [AObj.hi,List.length_append]
    have:=hin j hj2
    split<;>omega)
   simpa using this
 have hblk:L.B<w.heap.size:=(Array.getElem?_eq_some_iff.1 e1).1
 have eg:∀ args w,(callFunc 86 args).run Tryz.prog w=.ok (.enter 86 args) w:=enters_of Tryz.func86 (by kernel_rfl) rfl
 have hcon:=AnyQ.slices_SortFunc_total Tryz.sortT 2 Tryz.isAgg77 Tryz.sizeOf77 encT (fun _=>rfl) (fun x v hv=>by simp [encT] at hv;rcases hv with rfl | rfl<;>rfl) cmpT swoT 86 #[] L.B (L.o+0) cap' ts.toArray w eg (fun _ _ _ _ x y=>cmp_calls x y _) hH hblk (by simpa using hlen) totT
 have hcon':Calls Tryz.prog 85 #[.slice (some ⟨L.B,L.o+0,none⟩) ts.length cap',.func (.func 86) #[] #[]] w fun e w'=>e=.returned (.tuple #[])∧∃ n os,w'=sortWorldK encT 2 w L.B (L.o+0) n (ts.mergeSort fun x y=>!(ltOf cmpT) y x).toArray os:=by
  have h38:Tryz.sortT_ren.f 6=85:=rfl
  have:=hcon
  rw [h38] at this
  simpa using this
 refine hcon'.mono ?_
 rintro e w' ⟨rfl,n,os,rfl⟩
 have hlts:(ts.mergeSort fun x y=>!(ltOf cmpT) y x).length=ts.length:=List.length_mergeSort _
 generalize (ts.mergeSort fun x y=>!(ltOf cmpT) y x)=ts' at hlts ⊢
 have hn2':=tcells_len ts'
 have st1:Step ρ A w ρ A (Sort.ahead w n):=Step.of_below hrep ⟨rfl,rfl,rfl,Nat.le_refl _,fun _ _=>rfl⟩ (Nat.le_add_right _ _)
 have hcells':(putRowK encT 2 (Sort.ahead w n) L.B (L.o+0) ts'.toArray).heap[L.B]? = some (.cells (putCells id (L.o+0) (flatK encT 2 ts'.toArray) cells) el (lo,hi)):=by
  simp only [putRowK,putRow,mapBlock,Sort.ahead,Array.getElem?_modify,if_true,e1,Option.map_some,onCells]
 have hother:∀ B,B≠L.B→(putRowK encT 2 (Sort.ahead w n) L.B (L.o+0) ts'.toArray).heap[B]? = (Sort.ahead w n).heap[B]?:=fun B hB=>by
  simp only [putRowK,putRow,mapBlock,Sort.ahead,Array.getElem?_modify,if_neg (Ne.symm hB)]
 have hput:∀ j,(putCells id (L.o+0) (flatK encT 2 ts'.toArray) cells)[j]? = if L.o≤j∧j<L.o+2*ts.length then (if j<cells.size then some (flatK encT 2 ts'.toArray)[j-L.o]! else none) else cells[j]?:=fun j=>by
  simp only [putCells,Array.getElem?_mapIdx,Nat.add_zero,size_flatK,List.size_toArray,hlts]
  by_cases hj:j<cells.size
  ·have e:cells[j]? = some cells[j]:=by simp [hj]
   simp only [e,Option.map_some,id]
   by_cases hc:L.o≤j∧j<L.o+2*ts.length
   ·rw [if_pos ⟨hc.1,by omega⟩,if_pos hc,if_pos hj]
   ·rw [if_neg (by omega),if_neg hc]
  ·have e:cells[j]? = none:=by simp;omega
   simp [hj]
 have hsize:(putCells id (L.o+0) (flatK encT 2 ts'.toArray) cells).size=cells.size:=by simp [putCells]
 generalize putCells id (L.o+0) (flatK encT 2 ts'.toArray) cells=cells' at hcells' hput hsize
 have hlen':(tcells ts'++rest).length=(tcells ts++rest).length:=by simp only [List.length_append];omega
 have hrow:ORel ρ (.row (tcells ts'++rest) sz tl) L (putRowK encT 2 (Sort.ahead w n) L.B (L.o+0) ts'.toArray):=by
  refine ⟨cells',el,lo,hi,hcells',by rw [hsize];exact e2,e3,by rw [hlen'];exact e4,fun i v hv=>?_,fun j h1 h2=>e6 j h1 ?_⟩
  ·by_cases hi:i<2*ts.length
   ·rw [List.getElem?_append_left (by omega),flat_get ts' i (by omega)] at hv
    cases hv
    refine ⟨_,?_,.refl_flat (v:=(flatK encT 2 ts'.toArray)[i]!) ?_⟩
    ·rw [hput,if_pos ⟨by omega,by omega⟩,if_pos (hin i hi),Nat.add_sub_cancel_left]
    ·rw [get_flatK _ _ _ _ (by simp;omega)]
     exact encT_closed _ _ (Nat.mod_lt _ (by omega))
   ·rw [List.getElem?_append_right (by omega)] at hv
    obtain ⟨v',h1,h2⟩:=e5 i v (by rw [List.getElem?_append_right (by omega)];rw [← hv];congr 1;omega)
    exact ⟨v',by rw [hput,if_neg (by omega)];exact h1,h2⟩
  ·simp only [AObj.hi] at h2 ⊢
   rw [hlen'] at h2
   exact h2
 have st2:Step ρ A (Sort.ahead w n) ρ (A.set b (.row (tcells ts'++rest) sz tl)) (putRowK encT 2 (Sort.ahead w n) L.B (L.o+0) ts'.toArray):=
  Step.set st1.rep hb hL hrow (by simp only [AObj.hi,hlen'];exact Nat.le_refl _) ⟨rfl,rfl,rfl,by simp [putRowK,putRow,mapBlock],Nat.le_refl _⟩ hother (.inr ⟨cells,cells',el,(lo,hi),e1,hcells',hsize,fun j hj=>by
   rw [hput,if_neg]
   intro hc
   refine hj ⟨hc.1,?_⟩
   simp only [AObj.hi,List.length_append]
   have:=hin (j-L.o) (by omega)
   split<;>omega⟩)
 have st3:Step ρ (A.set b (.row (tcells ts'++rest) sz tl)) (putRowK encT 2 (Sort.ahead w n) L.B (L.o+0) ts'.toArray) ρ (A.set b (.row (tcells ts'++rest) sz tl)) (grow (putRowK encT 2 (Sort.ahead w n) L.B (L.o+0) ts'.toArray) os):=
  Step.of_below st2.rep ⟨rfl,rfl,rfl,by simp [grow],fun k hk=>by simp only [grow];rw [Array.getElem?_append_left hk]⟩ (Nat.le_refl _)
 exact ⟨.tuple #[],_,.tuple #[],ρ,rfl,rfl,.refl_closed rfl,(st1.trans st2).trans st3⟩
end Go.Proofs.YtgcffmhpjphefaaGreatDoor

/- A set's timers in order. -/
namespace Go.Proofs.YtgcffmhpjphefaaGreatDoor
open Go Go.AE Go.Sort

variable {Z:Go.AE.Road}
set_option maxRecDepth 10000

theorem sort_none{A:ASt}:CallW Z Tryz.prog 85 [.slice none 0 0,.func (.func 86) #[] #[]] A (fun v A'=>A'=A):=by
 intro ρ w args' hR ha
 have e:args'=#[.slice none 0 0,.func (.func 86) #[] #[]]:=by
  obtain ⟨l⟩:=args'
  have ha:VsRel ρ _ l:=ha
  cases ha with
  | cons h1 h2=>
   cases h2 with
   | cons h2 h3=>
    cases h3
    cases h1
    cases h2 with
    | func _ _ hs _ hc _=>
     rw [Array.eq_empty_of_size_eq_zero hs.symm,Array.eq_empty_of_size_eq_zero hc.symm]
 subst e
 have hcon:=AnyF.slices_SortFunc_none Tryz.sortT none 0 (.func (.func 86) #[] #[]) w
 have h38:Tryz.sortT_ren.f 6=85:=rfl
 rw [h38] at hcon
 refine hcon.mono ?_
 rintro e w' ⟨rfl,rfl⟩
 exact ⟨.tuple #[],A,.tuple #[],ρ,rfl,rfl,.refl_closed rfl,.refl (Z.rep hR)⟩

theorem z33a:closed (.agg #[.string ByteArray.empty,.int .u64 0])=true:=by kernel_rfl
theorem z33b:Nat.beq (Value.agg #[.string ByteArray.empty,.int .u64 0]).cells.toList.length 2=true:=by kernel_rfl
theorem sg2{n:ByteArray}{a:Int}:singles [.string n,.int .u64 a]=true:=rfl
theorem cut2{x y:Value}:(bif (List.take (1*2) (List.drop 0 [x,y])).length.beq (1*2) then some (List.take (1*2) (List.drop 0 [x,y])) else none)=some [x,y]:=rfl
theorem isl:isIntD (.slice 77)=false:=rfl

theorem app_nil{A:ASt}{x:Nat}{n:ByteArray}{a:Int}{tl:Bool}(hx:A.get x=some (.row [.string n,.int .u64 a] 2 tl)):
  aAppend E0 75 75 (.slice none 0 0) (.slice (some ⟨x,0,none⟩) 1 1) A=.val (.slice (some ⟨A.next,0,none⟩) 1 unk) (A.new (.row [.string n,.int .u64 a] 2 true)):=by
 simp only [aAppend,ti75,t75_desc,ti77,lenV,t77_zero,t77_size,t77_bytes,srcCells,hx,cut,cut2,z33a,z33b,sg2,isl]
 show appendTo 2 none 0 0 1 [.string n,.int .u64 a] A=_
 simp only [appendTo,grown_eq]
 rfl
theorem app_row{A:ASt}{x b len:Nat}{c:List Value}{n:ByteArray}{a:Int}{tl:Bool}(hx:A.get x=some (.row [.string n,.int .u64 a] 2 tl))(hb:A.get b=some (.row c 2 true))(hc:c.length=2*len)(hl:len≤1000000):
  aAppend E0 75 75 (.slice (some ⟨b,0,none⟩) len unk) (.slice (some ⟨x,0,none⟩) 1 1) A=.val (.slice (some ⟨A.next,0,none⟩) (len+1) unk) ((A.set b (.row [] 2 false)).new (.row (c++[.string n,.int .u64 a]) 2 true)):=by
 have h1:Nat.blt ((len+1)*(24+1)) 1000000000=true:=Nat.ble_eq_true_of_le (by omega)
 have h2:Nat.ble (0+len*2) c.length=true:=Nat.ble_eq_true_of_le (by omega)
 have h3:Nat.ble (0+(len+1)*2) c.length=false:=by rw [nble];simp;omega
 have h4:Nat.beq (0+len*2) c.length=true:=by rw [nbeq];simp;omega
 simp only [aAppend,ti75,t75_desc,ti77,lenV,t77_zero,t77_size,t77_bytes,srcCells,hx,cut,cut2,z33a,z33b,sg2,isl,h1]
 show appendTo 2 (some ⟨b,0,none⟩) len unk 1 [.string n,.int .u64 a] A=_
 simp only [appendTo,hb,h2,h3,h4,grown_eq,Nat.beq_refl,Bool.and_self,cond_true,cond_false,List.take_zero,List.drop_zero]
 rfl
end Go.Proofs.YtgcffmhpjphefaaGreatDoor

/- A set's timers in order: the walk. -/
namespace Go.Proofs.YtgcffmhpjphefaaGreatDoor
open Go Go.AE Go.Sort

variable {Z:Go.AE.Road}
set_option maxRecDepth 10000

def Few(M:TM):Prop:=∃ l:List ByteArray,l.length≤1000∧∀ k,(M k).isSome=true→k∈l
theorem nodup_leG{α:Type}{l:List α}:∀ {d:List α},d.Nodup→(∀ x∈d,x∈l)→d.length≤l.length:=by
 induction l with
 | nil=>
  intro d _ hs
  cases d with
  | nil=>simp
  | cons x d=>exact absurd (hs x (by simp)) (by simp)
 | cons y l ih=>
  intro d hd hs
  classical
  by_cases hy:y∈d
  ·obtain ⟨s,t,rfl⟩:=List.append_of_mem hy
   have hd':(s++t).Nodup∧y∉s++t:=by
    have h1:(s++y::t).Perm (y::(s++t)):=List.perm_middle
    have h2:=(h1.nodup_iff).1 hd
    simp only [List.nodup_cons] at h2
    exact ⟨h2.2,h2.1⟩
   have h1:=ih hd'.1 (fun x hx=>by
    rcases List.mem_cons.1 (hs x (by rcases List.mem_append.1 hx with h | h<;>simp [h])) with e | e
    ·exact absurd (e ▸ hx) hd'.2
    ·exact e)
   simp only [List.length_append,List.length_cons] at h1 ⊢;omega
  ·have h1:=ih (d:=d) hd (fun x hx=>by
    rcases List.mem_cons.1 (hs x hx) with e | e
    ·exact absurd (e ▸ hx) hy
    ·exact e)
   simp only [List.length_cons];omega
theorem Few.len{D:TM}(h:Few D){es:List UE}{ck:Nat}(hok:MapOK es ck)(hg:∀ k,uget es k=D k):es.length≤1000:=by
 obtain ⟨l,h1,h2⟩:=h
 have:=nodup_leG (d:=es.map (·.1)) (l:=l) hok.keys (fun k hk=>by
  obtain ⟨x,hx,rfl⟩:=List.mem_map.1 hk
  refine h2 _ ?_
  rw [← hg,uget_mem hok.keys hx];rfl)
 simp only [List.length_map] at this
 omega

theorem build33{n:ByteArray}{a:Int}:aBuild E0 77 [(0,.string n),(1,.int .u64 a)]=some (.agg #[.string n,.int .u64 a]):=by kernel_rfl
theorem bs30{n:ByteArray}{a:Int}:aBuildSlice E0 75 1 [(0,.agg #[.string n,.int .u64 a])]=some (.row [.string n,.int .u64 a] 2 false,fun id=>.slice (some ⟨id,0,none⟩) 1 1):=by kernel_rfl

def pr(x:UE):ByteArray×Nat:=(x.1,x.2.1)
def OutS(A:ASt)(T':Tmps)(A':ASt)(done:List UE):Prop:=
 Fr [] A A'∧A.next<A'.next∧((done=[]∧tget T' 3=.slice none 0 0)∨(done≠[]∧∃ b,tget T' 3=.slice (some ⟨b,0,none⟩) done.length unk∧A'.get b=some (.row (tcells (done.map pr)) 2 true)∧A.next<b∧b<A'.next))

theorem tcells_snoc(l:List (ByteArray×Nat))(x:ByteArray×Nat):tcells (l++[x])=tcells l++[.string x.1,.int .u64 (x.2:Nat)]:=by
 induction l with
 | nil=>rfl
 | cons y l ih=>simp only [List.cons_append,tcells,ih]

theorem sorted_list{D:TM}{ck:Nat}{es done:List UE}(hok:MapOK es ck)(hg:∀ k,uget es k=D k)(hsub:∀ x∈done,x∈es)(hall:∀ x∈es,x∈done)(hnd:done.Nodup):Lists D ((done.map pr).mergeSort fun x y=>!(ltOf cmpT) y x):=by
 obtain ⟨hk,hu⟩:=uget_all hok hsub hall hnd
 have hp:=List.mergeSort_perm (done.map pr) (fun x y=>!(ltOf cmpT) y x)
 refine ⟨fun k a=>?_,?_⟩
 ·rw [hp.mem_iff,List.mem_map,← hg,← hu]
  constructor
  ·rintro ⟨x,hx,e⟩
   cases e
   exact uget_mem hk hx
  ·intro h
   obtain ⟨b,hb⟩:=uget_some h
   exact ⟨_,hb,rfl⟩
 ·have h1:=List.pairwise_mergeSort (le:=fun x y=>!(ltOf cmpT) y x) (fun a b c h1 h2=>by
   simp only [Bool.not_eq_true',ltF] at h1 h2 ⊢
   exact (ltF _ _).1 (swoT.ntrans _ _ _ ((ltF _ _).2 h2) ((ltF _ _).2 h1))) (fun a b=>by
   simp only [Bool.or_eq_true,Bool.not_eq_true',ltF]
   by_cases h:tlt b a
   ·refine .inr fun h2=>tlt_irr _ (tlt_trans h h2)
   ·exact .inl h) (done.map pr)
  have hnodup:(done.map pr).Nodup:=by
   rw [List.Nodup,List.pairwise_map] at hk ⊢
   exact hk.imp fun h e=>h (congrArg (·.1) e)
  have h2:=(hp.nodup_iff).2 hnodup
  refine (h1.and h2).imp ?_
  rintro a b ⟨h3,h4⟩
  simp only [Bool.not_eq_true',ltF] at h3
  exact Classical.byContradiction fun h5=>h4 (tlt_tri h5 h3)

theorem sorted_spec{A:ASt}{d:Nat}{D:TM}(h:Holds A d D)(hF:Few D)(hd:d<A.next):CallW Z Tryz.prog 63 [.map (some d)] A (Srt D A):=by
 refine CallW.of_code E0_ok E0_ro fn63 rfl (n:=22) rfl (rs:=[.tmp 2]) rfl (by simp) (codeW_ok E0_ok E0_ro ?_)
 obtain ⟨es,ck,hes,hok,hg⟩:=h
 have hlen:=hF.len hok hg
 simp only [z_0,flat,cond_true,if_true,if_false,eq_self,Nat.reduceEqDiff,Nat.reduceLT,reduceCtorEq,rangeT hes]
 refine CodeW.mono (Q:=fun o=>∃ T' A' done,o=.fr ⟨.exit 0,T',A'⟩∧(∀ x∈done,x∈es)∧(∀ x∈es,x∈done)∧done.Nodup∧OutS A T' A' done) ?_ ?_
 ·refine CodeW.mapLoop (it:=7) (r:=A.next) (m:=d) (ck:=ck) (l:=es) (J:=fun done T A'=>OutS A T A' done) ?_ ?_ ?_
  ·rintro done T A1 hi ⟨f1,nx1,hout⟩
   refine codeW_ok E0_ok E0_ro ?_
   have hit:=hi.it
   simp only [z_0,hit]
   refine nextV_u hok hi.sub hi.iter hi.map (fun x hx hn=>?_) (fun hfin=>?_)
   ·have hent:=entry_u (A:=A1.set A.next (.miter (some d) ck ((done++[x]).map (·.2.2)) ck)) (r:=A.next) (m:=d) hok hx (by rw [ASt.get_set,if_pos rfl]) (by rw [ASt.get_set,if_neg (by omega)];exact hi.map)
    have hB:∀ b,(A1.set A.next (.miter (some d) ck ((done++[x]).map (·.2.2)) ck)).get b=if b=A.next then some (.miter (some d) ck ((done++[x]).map (·.2.2)) ck) else A1.get b:=fun b=>by rw [ASt.get_set]
    have hBn:(A1.set A.next (.miter (some d) ck ((done++[x]).map (·.2.2)) ck)).next=A1.next:=rfl
    generalize A1.set A.next (.miter (some d) ck ((done++[x]).map (·.2.2)) ck)=B at hent hB hBn ⊢
    have hdl:done.length≤1000:=Nat.le_trans (nodup_le hi.nodup hi.sub) hlen
    have hxr:(B.new (.row [.string x.1,.int .u64 (x.2.1:Nat)] 2 false)).get B.next=some (.row [.string x.1,.int .u64 (x.2.1:Nat)] 2 false):=by rw [ASt.get_new,if_pos rfl]
    rcases hout with ⟨rfl,u3⟩ | ⟨hne,b,u3,hb,hb1,hb2⟩
    ·have hap:=app_nil hxr
     simp only [z_0,aBuiltin,if_true,if_false,List.nil_append,eq_self,Nat.reduceEqDiff,Nat.reduceLT,hit,hent,u3,build33,bs30,hap]
     have hS:∀ c,c<B.next→((B.new (.row [.string x.1,.int .u64 (x.2.1:Nat)] 2 false)).new (.row [.string x.1,.int .u64 (x.2.1:Nat)] 2 true)).get c=B.get c:=fun c hc=>by
      rw [ASt.get_new,if_neg (by rw [ASt.next_new];omega),ASt.get_new,if_neg (by omega)]
     refine ⟨x,hx,hn,hi.step hx hn (by simp only [tget_put,Nat.reduceEqDiff,if_false]) ?_ ?_,⟨?_,fun c hc hn=>?_⟩,?_,.inr ⟨by simp,B.next+1,?_,?_,?_,?_⟩⟩
     ·rw [hS _ (by omega),hB,if_pos rfl]
     ·rw [hS _ (by omega),hB,if_neg (by omega)]
     ·have:=f1.next;simp only [ASt.next_new];omega
     ·have:=f1.next;rw [hS _ (by omega),hB,if_neg (by omega)];exact f1.get c hc hn
     ·simp only [ASt.next_new];omega
     ·simp only [tget_put,Nat.reduceEqDiff,if_false,if_true];rfl
     ·rw [ASt.get_new,if_pos (by rw [ASt.next_new])];rfl
     ·omega
     ·simp only [ASt.next_new];omega
    ·have hb1':(B.new (.row [.string x.1,.int .u64 (x.2.1:Nat)] 2 false)).get b=some (.row (tcells (done.map pr)) 2 true):=by
      rw [ASt.get_new,if_neg (by omega),hB,if_neg (by omega)];exact hb
     have hap:=app_row hxr hb1' (by rw [tcells_len,List.length_map]) (by omega)
     simp only [z_0,aBuiltin,if_true,if_false,eq_self,Nat.reduceEqDiff,Nat.reduceLT,hit,hent,u3,build33,bs30,hap]
     have hS:∀ c,c<B.next→c≠b→(((B.new (.row [.string x.1,.int .u64 (x.2.1:Nat)] 2 false)).set b (.row [] 2 false)).new (.row (tcells (done.map pr)++[.string x.1,.int .u64 (x.2.1:Nat)]) 2 true)).get c=B.get c:=fun c hc hcb=>by
      rw [ASt.get_new,if_neg (by rw [ASt.next_set,ASt.next_new];omega),ASt.get_set,if_neg hcb,ASt.get_new,if_neg (by omega)]
     refine ⟨x,hx,hn,hi.step hx hn (by simp only [tget_put,Nat.reduceEqDiff,if_false]) ?_ ?_,⟨?_,fun c hc hn=>?_⟩,?_,.inr ⟨by simp,B.next+1,?_,?_,?_,?_⟩⟩
     ·rw [hS _ (by omega) (by omega),hB,if_pos rfl]
     ·rw [hS _ (by omega) (by omega),hB,if_neg (by omega)]
     ·have:=f1.next;simp only [ASt.next_new,ASt.next_set];omega
     ·have:=f1.next;rw [hS _ (by omega) (by omega),hB,if_neg (by omega)];exact f1.get c hc hn
     ·simp only [ASt.next_new,ASt.next_set];omega
     ·simp only [tget_put,Nat.reduceEqDiff,if_false,if_true,List.length_append,List.length_cons,List.length_nil]
     ·rw [ASt.get_new,if_pos (by rw [ASt.next_set,ASt.next_new]),List.map_append,List.map_cons,List.map_nil,tcells_snoc];rfl
     ·omega
     ·simp only [ASt.next_new,ASt.next_set];omega
   ·simp only [z_0,if_true,if_false,eq_self,Nat.reduceEqDiff,Nat.reduceLT]
    refine ⟨_,_,done,rfl,hi.sub,hfin,hi.nodup,f1,nx1,?_⟩
    simpa only [tget_put,Nat.reduceEqDiff,if_false,reduceIte] using hout
  ·refine ⟨by simp only [tget_put,Nat.reduceEqDiff,if_false,if_true],by rw [ASt.get_new,if_pos rfl];rfl,by rw [ASt.get_new,if_neg (by omega)];exact hes,by simp,.nil⟩
  ·refine ⟨⟨Nat.le_succ _,fun b hb hn=>by rw [ASt.get_new,if_neg (by omega)]⟩,Nat.lt_succ_self _,.inl ⟨rfl,?_⟩⟩
   simp only [tget_put,Nat.reduceEqDiff,if_false,if_true]
 ·rintro o ⟨T',A',done,rfl,hsub,hall,hnd,f1,nx1,hout⟩
  have hL:=sorted_list hok hg hsub hall hnd
  rcases hout with ⟨rfl,u3⟩ | ⟨hne,b,u3,hb,hb1,hb2⟩
  ·simp only [z_0,if_true,List.append_nil,List.nil_append,eq_self,Nat.reduceLT,u3]
   refine CallT.mono sort_none ?_
   rintro v B rfl
   simp only [z_0,if_true,if_false,eq_self,Nat.reduceEqDiff,Nat.reduceLT,u3]
   exact ⟨_,hL,.inl ⟨by simp,rfl⟩,f1⟩
  ·simp only [z_0,if_true,List.append_nil,List.nil_append,eq_self,Nat.reduceLT,u3]
   have hb':A'.get b=some (.row (tcells (done.map pr)++[]) 2 true):=by rw [List.append_nil];exact hb
   have hdl:done.length≤1000:=Nat.le_trans (nodup_le hnd hsub) hlen
   have hs:=sort_spec (Z:=Z) (cap:=unk) hb' (by simpa using hne) (by simp;omega)
   rw [List.length_map] at hs
   refine CallT.mono hs ?_
   rintro v B rfl
   simp only [z_0,if_true,if_false,List.append_nil,eq_self,Nat.reduceEqDiff,Nat.reduceLT,u3]
   refine ⟨_,hL,.inr ⟨b,unk,[],true,?_,?_,by omega,?_,rfl,rfl,rfl⟩,⟨f1.next,fun c hc hn=>by rw [ASt.get_set,if_neg (by omega)];exact f1.get c hc hn⟩⟩
   ·simp [List.length_mergeSort]
   ·rw [ASt.get_set,if_pos rfl];simp
   ·exact hb2
end Go.Proofs.YtgcffmhpjphefaaGreatDoor

/- The wheel's advance, whole. -/
namespace Go.Proofs.YtgcffmhpjphefaaGreatDoor
open Go Go.AE Go.Sort

variable {Z:Go.AE.Road}

theorem Few.sub{M D:TM}(h:Few M)(hs:∀ k a,D k=some a→M k=some a):Few D:=by
 obtain ⟨l,h1,h2⟩:=h
 refine ⟨l,h1,fun k hk=>h2 k ?_⟩
 obtain ⟨a,ha⟩:=Option.isSome_iff_exists.1 hk
 rw [hs k a ha];rfl

theorem advance_spec{A:ASt}{W all now nw:Nat}{ms:List Nat}{M:TM}(h:WheelAt A W all ms now M)(hF:Few M)(hnw:nw<18446744073709551616):
  CallW Z Tryz.prog 35 [.pointer (some ⟨W,0,none⟩),.int .u64 (nw:Int)] A (fun v A'=>if nw<now then v=.slice none 0 0∧WheelAt A' W all ms now M∧Fr (W::all::ms) A A' else ∃ ts,Lists (fun k=>(M k).filter fun a=>decide (a≤nw)) ts∧SliceAt A' A.next v ts∧WheelAt A' W all ms nw (fun k=>(M k).filter fun a=>decide (nw<a))∧Fr (W::all::ms) A A'):=
 adv_walk h hnw fun h1 h2 h3=>sorted_spec h1 (hF.sub h2) h3
end Go.Proofs.YtgcffmhpjphefaaGreatDoor

/- A queue in general: container/heap's calls. -/
namespace Go.Proofs.YtgcffmhpjphefaaGreatDoor
open Go Go.AE Go.Sort
set_option maxRecDepth 10000
set_option maxHeartbeats 8000000
variable {Z:Go.AE.Road}

theorem hfix_spec{A:ASt}{e w i:Nat}{v:Value}{l:List (ByteArray×Nat)}(h:EAt A e w v l)(hd:DownI tlt l l.length i i)(hi:i<l.length):
  CallW Z Tryz.prog 55 [ifE e,.int .i64 (i:Int)] A (fun _ A'=>∃ l',EAt A' e w v l'∧SameL l.length l l'∧HeapL tlt l' l.length∧Fr (w::slB v) A A'):=by
 refine CallW.of_code E0_ok E0_ro fn55 rfl (n:=13) rfl (rs:=[]) rfl (by simp) (codeW_ok E0_ok E0_ro ?_)
 simp only [z_0,if_true,if_false,eq_self,Nat.reduceEqDiff,Nat.reduceAdd,Nat.reduceLT,reduceCtorEq,aInvoke_method mLen]
 refine CallT.mono (CallT.of_call (elen_spec h)) ?_
 rintro _ _ ⟨rfl,rfl⟩
 simp only [z_0,if_true,if_false,List.append_nil,List.nil_append,eq_self,Nat.reduceEqDiff,Nat.reduceAdd,Nat.reduceLT,reduceCtorEq]
 refine CallT.mono (CallT.of_call (edown_spec h hd (.inl hi) (Nat.le_refl _))) ?_
 rintro _ B ⟨l1,b,rfl,h1,hs1,ht,hf,f1⟩
 cases b with
 | true=>
  simp only [z_0,if_true,if_false,eq_self,Nat.reduceEqDiff,Nat.reduceAdd,Nat.reduceLT,reduceCtorEq]
  exact ⟨l1,h1,hs1,ht (.inl rfl),f1⟩
 | false=>
  simp only [z_0,if_true,if_false,List.append_nil,List.nil_append,eq_self,Nat.reduceEqDiff,Nat.reduceAdd,Nat.reduceLT,reduceCtorEq]
  refine CallT.mono (CallT.of_call (eup_spec h1 (hf rfl) hi (by rw [hs1.len];exact Nat.le_refl _))) ?_
  rintro _ C ⟨l2,h2,hs2,hh,f2⟩
  simp only [z_0,Nat.reduceLT]
  exact ⟨l2,h2,hs1.trans hs2,hh,f1.trans f2⟩
theorem hpushG_spec{A:ASt}{e w:Nat}{v:Value}{l:List (ByteArray×Nat)}{k:ByteArray}{a:Nat}(h:EAt A e w v l)(hh:HeapL tlt l l.length)(hk:∀ x∈l,x.1≠k)(hl:l.length<2000):
  CallW Z Tryz.prog 56 [ifE e,.iface 74 (.agg #[.string k,.int .u64 (a:Int)])] A (fun _ A'=>∃ v' l',EAt A' e w v' l'∧SameL (l.length+1) (l++[(k,a)]) l'∧HeapL tlt l' (l.length+1)∧Fr (e::w::slB v) A A'∧∀ b∈slB v',b∈slB v∨A.next≤b):=by
 refine CallW.of_code E0_ok E0_ro fn56 rfl (n:=12) rfl (rs:=[]) rfl (by simp) (codeW_ok E0_ok E0_ro ?_)
 simp only [z_0,if_true,if_false,eq_self,Nat.reduceEqDiff,Nat.reduceAdd,Nat.reduceLT,reduceCtorEq,aInvoke_method mPush]
 refine CallT.mono (CallT.of_call (epush_spec h hk hl)) ?_
 rintro _ B ⟨v1,h1,f1,hb1⟩
 simp only [z_0,if_true,if_false,eq_self,Nat.reduceEqDiff,Nat.reduceAdd,Nat.reduceLT,reduceCtorEq,aInvoke_method mLen]
 refine CallT.mono (CallT.of_call (elen_spec h1)) ?_
 rintro _ _ ⟨rfl,rfl⟩
 have hlen:(l++[(k,a)]).length=l.length+1:=by rw [List.length_append];rfl
 have w1:IntKind.i64.wrap ((((l++[(k,a)]).length:Nat):Int)-1)=(l.length:Int):=by rw [hlen,IntKind.wrap_i64];omega
 simp only [z_0,flat,cond_true,if_true,if_false,List.append_nil,List.nil_append,eq_self,Nat.reduceEqDiff,Nat.reduceLT,reduceCtorEq,w1]
 refine CallT.mono (CallT.of_call (eup_spec h1 (heap_push hh (fun j hj=>by rw [List.getElem?_append_left hj])) (Nat.lt_succ_self _) (by rw [hlen];exact Nat.le_refl _))) ?_
 rintro _ C ⟨l2,h2,hs2,hh2,f2⟩
 simp only [z_0,Nat.reduceLT]
 refine ⟨v1,l2,h2,hs2,hh2,⟨by have:=f1.next;have:=f2.next;omega,fun b hb hn=>?_⟩,hb1⟩
 simp only [List.mem_cons,not_or] at hn
 rw [f2.get b (by have:=f1.next;omega) (fun hm=>by
  simp only [List.mem_cons] at hm
  rcases hm with hm | hm
  ·exact hn.2.1 hm
  ·rcases hb1 b hm with h3 | h3
   ·exact hn.2.2 h3
   ·omega)]
 exact f1.get b hb (by simp only [List.mem_cons,not_or];exact hn)
theorem hrem_spec{A:ASt}{e w i m:Nat}{v:Value}{l:List (ByteArray×Nat)}{x:ByteArray×Nat}(h:EAt A e w v l)(hh:HeapL tlt l l.length)(hm:l.length=m+1)(hx:l[i]? = some x):
  CallW Z Tryz.prog 69 [ifE e,.int .i64 (i:Int)] A (fun _ A'=>∃ v' l',EAt A' e w v' l'∧HeapL tlt l' l'.length∧(∀ y,y∈l'↔y∈l∧y.1≠x.1)∧Fr (e::w::slB v) A A'∧∀ b∈slB v',b∈slB v):=by
 refine CallW.of_code E0_ok E0_ro fn69 rfl (n:=26) rfl (rs:=[.tmp 4]) rfl (by simp) (codeW_ok E0_ok E0_ro ?_)
 have hfew:=h.few
 have hi:=qlt hx
 simp only [z_0,flat,cond_true,if_true,if_false,eq_self,Nat.reduceEqDiff,Nat.reduceAdd,Nat.reduceLT,reduceCtorEq,aInvoke_method mLen]
 refine CallT.mono (CallT.of_call (elen_spec h)) ?_
 rintro _ _ ⟨rfl,rfl⟩
 have w1:IntKind.i64.wrap ((l.length:Int)-1)=(m:Int):=by rw [IntKind.wrap_i64];omega
 -- the last act: the last one is taken away
 have key:∀ (B:ASt) (l1:List (ByteArray×Nat)),EAt B e w v l1→SameL m (swp l i m) l1→HeapL tlt l1 m→Fr (w::slB v) A B→CallW Z Tryz.prog 161 [.pointer (some ⟨e,0,none⟩)] B (fun _ A'=>∃ v' l',EAt A' e w v' l'∧HeapL tlt l' l'.length∧(∀ y,y∈l'↔y∈l∧y.1≠x.1)∧Fr (e::w::slB v) A A'∧∀ b∈slB v',b∈slB v):=by
  intro B l1 hB hs hp hf
  have hl1:l1.length=m+1:=by rw [hs.len,swp_len,hm]
  have hxm:l1[m]? = some x:=by rw [hs.rest m (Nat.le_refl _),swp_get hi (by omega),if_pos rfl];exact hx
  refine CallW.mono (epop_spec hB hl1 hxm) ?_
  rintro _ C ⟨v',hC,fC,hb⟩
  have hlt:(l1.take m).length=m:=by rw [List.length_take];omega
  obtain ⟨es,ck,_,_,hwr⟩:=hB.hw
  have nB:=hf.next
  refine ⟨v',l1.take m,hC,?_,fun y=>?_,(hf.sub (fun b hb=>List.mem_cons_of_mem _ hb)).trans fC,fun b hb2=>?_⟩
  ·rw [hlt]
   exact hp.congr (fun j hj=>by rw [List.getElem?_take,if_pos hj])
  ·rw [take_mem hl1 hwr hxm,hs.mem,swp_mem hi (by omega)]
  ·exact hb b hb2
 by_cases him:i=m
 ·subst him
  have d1:((i:Int)≠(i:Int))=False:=eq_false (fun h=>h rfl)
  simp only [z_0,flat,cond_true,if_true,if_false,eq_self,Nat.reduceEqDiff,Nat.reduceLT,reduceCtorEq,w1,d1,aInvoke_method mPop]
  have hsw:swp l i i=l:=by
   apply List.ext_getElem?
   intro j
   rw [swp_get hi hi]
   by_cases e1:j=i
   ·rw [if_pos e1,e1]
   ·rw [if_neg e1,if_neg e1]
  refine CallT.mono (CallT.of_call (key A l h (by rw [hsw];exact .refl l) (hh.less (by omega)) (.refl _ _))) ?_
  rintro _ C hC
  simp only [z_0,if_true,if_false,eq_self,Nat.reduceEqDiff,Nat.reduceLT,reduceCtorEq]
  exact hC
 ·have d1:((m:Int)≠(i:Int))=True:=eq_true (by omega)
  have hxm:∃ y,l[m]? = some y:=⟨_,List.getElem?_eq_getElem (by omega)⟩
  obtain ⟨y,hy⟩:=hxm
  simp only [z_0,flat,cond_true,if_true,if_false,eq_self,Nat.reduceEqDiff,Nat.reduceLT,reduceCtorEq,w1,d1,aInvoke_method mSwap]
  refine CallT.mono (CallT.of_call (qswap_spec h hx hy)) ?_
  rintro _ B ⟨hB,fB⟩
  simp only [z_0,if_true,if_false,List.append_nil,List.nil_append,eq_self,Nat.reduceEqDiff,Nat.reduceLT,reduceCtorEq]
  have hdn:DownI tlt (swp l i m) m i i:=heap_down tlt_tot (hh.less (by omega:m≤l.length)) (by omega) (fun j hj hji=>by rw [swp_get hi (by omega),if_neg (by omega),if_neg hji])
  refine CallT.mono (CallT.of_call (edown_spec hB hdn (.inl (by omega)) (by rw [swp_len];omega))) ?_
  rintro _ C ⟨l1,b,rfl,h1,hs1,ht,hf,f1⟩
  cases b with
  | true=>
   simp only [z_0,if_true,if_false,eq_self,Nat.reduceEqDiff,Nat.reduceLT,reduceCtorEq,aInvoke_method mPop]
   refine CallT.mono (CallT.of_call (key C l1 h1 hs1 (ht (.inl rfl)) (fB.trans f1))) ?_
   rintro _ D hD
   simp only [z_0,if_true,if_false,eq_self,Nat.reduceEqDiff,Nat.reduceLT,reduceCtorEq]
   exact hD
  | false=>
   simp only [z_0,if_true,if_false,List.append_nil,List.nil_append,eq_self,Nat.reduceEqDiff,Nat.reduceLT,reduceCtorEq]
   refine CallT.mono (CallT.of_call (eup_spec h1 (hf rfl) (by omega) (by rw [hs1.len,swp_len];omega))) ?_
   rintro _ D ⟨l2,h2,hs2,hh2,f2⟩
   simp only [z_0,if_true,if_false,eq_self,Nat.reduceEqDiff,Nat.reduceLT,reduceCtorEq,aInvoke_method mPop]
   refine CallT.mono (CallT.of_call (key D l2 h2 (hs1.trans hs2) hh2 (fB.trans (f1.trans f2)))) ?_
   rintro _ F hF
   simp only [z_0,if_true,if_false,eq_self,Nat.reduceEqDiff,Nat.reduceLT,reduceCtorEq]
   exact hF
end Go.Proofs.YtgcffmhpjphefaaGreatDoor

/- A queue in general: what is asked of it, put there, and taken away. -/
namespace Go.Proofs.YtgcffmhpjphefaaGreatDoor
open Go Go.AE Go.Sort
set_option maxRecDepth 10000
set_option maxHeartbeats 8000000
variable {Z:Go.AE.Road}

structure QL(A:ASt)(q e w:Nat)(v:Value)(l:List (ByteArray×Nat)):Prop where
 hq:A.get q=some (.row [.pointer (some ⟨e,0,none⟩)] 1 false)
 ea:EAt A e w v l
 hp:HeapL tlt l l.length
 ltq:q<A.next
def MemQ(l:List (ByteArray×Nat))(M:TM):Prop:=∀ k a,(k,a)∈l↔M k=some a
def QAt(A:ASt)(q e w:Nat)(v:Value)(M:TM):Prop:=∃ l,QL A q e w v l∧MemQ l M
theorem QL.neq{A:ASt}{q e w:Nat}{v:Value}{l:List (ByteArray×Nat)}(h:QL A q e w v l):q≠e∧q≠w∧q∉slB v:=by
 have hq:=h.hq
 have he:=h.ea.he
 refine ⟨fun e1=>?_,fun e1=>?_,?_⟩
 ·rw [e1,he] at hq;simp at hq
 ·obtain ⟨es,ck,hw,_⟩:=h.ea.hw
  rw [e1,hw] at hq;cases hq
 ·rcases h.ea.hs with ⟨_,rfl⟩ | ⟨b,rest,rfl,hb,_⟩
  ·simp [slB]
  ·intro hm
   simp only [slB,List.mem_singleton] at hm
   subst hm
   rw [hq] at hb
   simp at hb
theorem QL.fr{A B:ASt}{q e w:Nat}{v:Value}{l:List (ByteArray×Nat)}{own:List Nat}(h:QL A q e w v l)(hf:Fr own A B)(h0:q∉own)(h1:e∉own)(h2:w∉own)(h3:∀ b∈slB v,b∉own):QL B q e w v l:=
 ⟨(hf.get q h.ltq h0).trans h.hq,h.ea.fr hf h1 h2 h3,h.hp,Nat.lt_of_lt_of_le h.ltq hf.next⟩
theorem QL.fr0{A B:ASt}{q e w:Nat}{v:Value}{l:List (ByteArray×Nat)}(h:QL A q e w v l)(hf:Fr [] A B):QL B q e w v l:=h.fr hf (by simp) (by simp) (by simp) (by simp)
theorem QL.of{A B:ASt}{q e w:Nat}{v v':Value}{l l':List (ByteArray×Nat)}(h:QL A q e w v l)(hf:Fr (e::w::slB v) A B)(he:EAt B e w v' l')(hh:HeapL tlt l' l'.length):QL B q e w v' l':=
 ⟨(hf.get q h.ltq (by simp only [List.mem_cons,not_or];exact h.neq)).trans h.hq,he,hh,Nat.lt_of_lt_of_le h.ltq hf.next⟩

theorem MemQ.congr{l l':List (ByteArray×Nat)}{M:TM}(h:MemQ l M)(e:∀ x,x∈l'↔x∈l):MemQ l' M:=fun k a=>by rw [e,h]
theorem where_nodup{l:List (ByteArray×Nat)}{g:ByteArray→Option Nat}(h:Where l g):(l.map (·.1)).Nodup:=by
 refine List.pairwise_iff_getElem.2 fun i j hi hj hij e=>?_
 rw [List.getElem_map,List.getElem_map] at e
 rw [List.length_map] at hi hj
 have:=h.inj (List.getElem?_eq_getElem hi) (List.getElem?_eq_getElem hj) e
 omega
theorem EAt.small{A:ASt}{e w:Nat}{v:Value}{l:List (ByteArray×Nat)}{M:TM}(h:EAt A e w v l)(hm:MemQ l M)(hF:Few M):l.length≤1000:=by
 obtain ⟨es,ck,_,_,hwr⟩:=h.hw
 obtain ⟨ks,hks,hmem⟩:=hF
 have:=nodup_leG (where_nodup hwr) (l:=ks) (fun k hk=>by
  obtain ⟨⟨k',a⟩,hx,rfl⟩:=List.mem_map.1 hk
  exact hmem _ (by rw [(hm k' a).1 hx];rfl))
 rw [List.length_map] at this
 omega

theorem qlook{A:ASt}{w ck:Nat}{es:List (VE ByteArray Nat)}(hm:A.get w=some (.map (vEnts encQ es) ck))(k:ByteArray):
  aLookup E0 91 (.map (some w)) (.string k) true A=some (.tuple #[((vget es k).map fun i=>Value.int .i64 ((i:Nat):Int)).getD (.int .i64 0),.bool (vget es k).isSome]):=
 (lookup_v (Γ:=encQ) ti91 t91_desc ti9 (fun k=>by rw [t9_desc];rfl) ti3 t3_zero rfl hm k true).trans rfl
theorem qatG_spec{A:ASt}{q e w:Nat}{v:Value}{l:List (ByteArray×Nat)}{M:TM}{k:ByteArray}(h:QL A q e w v l)(hM:MemQ l M):
  CallW Z Tryz.prog 54 [.pointer (some ⟨q,0,none⟩),.string k] A (fun r A'=>(M k=none∧r=.tuple #[.int .i64 0,.bool false]∨∃ (i a:Nat),M k=some a∧l[i]? = some (k,a)∧r=.tuple #[.int .i64 (i:Int),.bool true])∧A=A'):=by
 refine CallW.of_code E0_ok E0_ro fn54 rfl (n:=24) rfl (rs:=[.tmp 4,.tmp 5]) rfl (by simp) (codeW_ok E0_ok E0_ro ?_)
 have h1:=h.hq
 have h2:=h.ea.he
 obtain ⟨es,ck,hw,hok,hwr⟩:=h.ea.hw
 have hlk:=qlook hw k
 cases hg:vget es k with
 | none=>
  rw [hg] at hlk
  simp only [Option.map_none,Option.getD_none,Option.isSome_none] at hlk
  simp only [z_0,flat,Option.isNone,aFieldAddr,cond_true,cond_false,if_true,if_false,eq_self,Nat.reduceEqDiff,Nat.reduceAdd,Nat.reduceLT,reduceCtorEq,eqnilQ,h1,h2,hlk]
  refine .inl ?_
  cases hMk:M k with
  | none=>rfl
  | some a=>exact absurd rfl (hwr.absent hg _ ((hM k a).2 hMk))
 | some i=>
  rw [hg] at hlk
  simp only [Option.map_some,Option.getD_some,Option.isSome_some] at hlk
  obtain ⟨a,ha⟩:=hwr.get hg
  simp only [z_0,flat,Option.isNone,aFieldAddr,cond_true,cond_false,if_true,if_false,eq_self,Nat.reduceEqDiff,Nat.reduceAdd,Nat.reduceLT,reduceCtorEq,eqnilQ,h1,h2,hlk]
  exact .inr ⟨i,a,(hM k a).1 (List.mem_of_getElem? ha),ha,rfl⟩
theorem qst1{A:ASt}{b i:Nat}{l:List (ByteArray×Nat)}{rest:List Value}{k:ByteArray}{a c:Nat}(hb:A.get b=some (.row (tcells l++rest) 2 true))(hi:l[i]? = some (k,c)):aStore E0 22 (.pointer (some ⟨b,i*2+1,none⟩)) (.int .u64 (a:Int)) A=some (A.set b (.row (tcells (l.set i (k,a))++rest) 2 true)):=by
 have:=qover1 (rest:=rest) (b:=a) hi
 simp only [aStore,hb,ti22,t22_size,Value.cells,this]
 rfl
theorem MemQ.set{l:List (ByteArray×Nat)}{M:TM}{g:ByteArray→Option Nat}{i a c:Nat}{k:ByteArray}(h:MemQ l M)(hw:Where l g)(hi:l[i]? = some (k,c)):MemQ (l.set i (k,a)) (M.put k a):=by
 intro n d
 have li:=qlt hi
 unfold TM.put
 rw [List.mem_iff_getElem?]
 constructor
 ·rintro ⟨j,hj⟩
  rw [List.getElem?_set] at hj
  by_cases e1:i=j
  ·rw [if_pos e1,if_pos (e1 ▸ li)] at hj
   cases hj
   rw [if_pos rfl]
  ·rw [if_neg e1] at hj
   have hne:n≠k:=fun e2=>e1 (hw.inj hi hj e2.symm)
   rw [if_neg hne]
   exact (h n d).1 (List.mem_of_getElem? hj)
 ·intro hM
  by_cases e1:n=k
  ·rw [if_pos e1] at hM
   cases hM
   exact ⟨i,by rw [List.getElem?_set,if_pos rfl,if_pos li,e1]⟩
  ·rw [if_neg e1] at hM
   obtain ⟨j,hj⟩:=List.mem_iff_getElem?.1 ((h n d).2 hM)
   refine ⟨j,?_⟩
   rw [List.getElem?_set,if_neg,hj]
   intro e2
   subst e2
   rw [hi] at hj
   cases hj
   exact e1 rfl
theorem qputG_spec{A:ASt}{q e w:Nat}{v:Value}{M:TM}{k:ByteArray}{a:Nat}(h:QAt A q e w v M)(hF:Few M):
  CallW Z Tryz.prog 33 [.pointer (some ⟨q,0,none⟩),.string k,.int .u64 (a:Int)] A (fun _ A'=>∃ v',QAt A' q e w v' (M.put k a)∧Fr (e::w::slB v) A A'∧∀ b∈slB v',b∈slB v∨A.next≤b):=by
 obtain ⟨l,h,hM⟩:=h
 refine CallW.of_code E0_ok E0_ro fn33 rfl (n:=49) rfl (rs:=[.tmp 6]) rfl (by simp) (codeW_ok E0_ok E0_ro ?_)
 have h1:=h.hq
 have h2:=h.ea.he
 have hsm:=h.ea.small hM hF
 have hve:=h.ea.hs.ve
 have hnew:=h.ea.new
 simp only [z_0,flat,cond_true,if_true,if_false,List.append_nil,List.nil_append,eq_self,Nat.reduceEqDiff,Nat.reduceAdd,Nat.reduceLT,reduceCtorEq]
 refine CallT.mono (CallT.of_call (qatG_spec (k:=k) h hM)) ?_
 rintro _ _ ⟨hr,rfl⟩
 rcases hr with ⟨hk,rfl⟩ | ⟨i,c,hk,hi,rfl⟩
 ·simp only [z_0,flat,Option.isNone,aFieldAddr,cond_true,cond_false,if_true,if_false,List.append_nil,List.nil_append,eq_self,Nat.reduceEqDiff,Nat.reduceLT,reduceCtorEq,eqnilQ,h1,oneW_makeInterface,aOp_makeInterface,mifE,mifT,bld71]
  have hkn:∀ x∈l,x.1≠k:=fun x hx e1=>by
   have:=(hM x.1 x.2).1 hx
   rw [e1,hk] at this
   cases this
  refine CallT.mono (CallT.of_call (hpushG_spec h.ea h.hp hkn (by omega))) ?_
  rintro _ B ⟨v',l',hB,hs,hh,fB,hb⟩
  simp only [z_0,if_true,if_false,eq_self,Nat.reduceEqDiff,Nat.reduceLT,reduceCtorEq]
  have hl':l'.length=l.length+1:=by rw [hs.len,List.length_append];rfl
  refine ⟨v',⟨l',h.of fB hB (by rw [hl'];exact hh),fun n d=>?_⟩,fB,hb⟩
  rw [hs.mem,List.mem_append,List.mem_singleton,Prod.mk.injEq,hM]
  unfold TM.put
  by_cases e1:n=k
  ·rw [if_pos e1,e1,hk]
   constructor
   ·rintro (h3 | ⟨_,rfl⟩)
    ·cases h3
    ·rfl
   ·intro h3
    cases h3
    exact .inr ⟨rfl,rfl⟩
  ·rw [if_neg e1]
   exact ⟨fun h3=>h3.resolve_right (fun h4=>e1 h4.1),.inl⟩
 ·obtain ⟨b,rest,rfl,hb,hlb,hr⟩:=h.ea.hs.at hi
  have heb:e≠b:=fun e1=>hnew.2.1 (by simp [slB,e1])
  have hwb:w≠b:=fun e1=>hnew.2.2 (by simp [slB,e1])
  have hqb:q≠b:=fun e1=>h.neq.2.2 (by simp [slB,e1])
  have hst:=qst1 (a:=a) hb hi
  simp only [z_0,flat,Option.isNone,aFieldAddr,cond_true,cond_false,if_true,if_false,eq_self,Nat.reduceEqDiff,Nat.reduceLT,reduceCtorEq,eqnilQ,h1,h2,qix (qlt hi)]
  rw [hst]
  generalize hBd:A.set b _=B
  have fB:Fr [b] A B:=⟨by rw [← hBd,ASt.next_set];exact Nat.le_refl _,fun c hc hn=>by rw [← hBd,ASt.get_set,if_neg (by simpa using hn)]⟩
  have gB:B.get b=some (.row (tcells (l.set i (k,a))++rest) 2 true):=by rw [← hBd,ASt.get_set,if_pos rfl]
  clear hBd hst
  have b1:=(fB.get q h.ltq (by simpa using hqb)).trans h1
  have b2:=(fB.get e h.ea.lt.1 (by simpa using heb)).trans h2
  obtain ⟨es,ck,hw,hok,hwr⟩:=h.ea.hw
  have hEB:EAt B e w (.slice (some ⟨b,0,none⟩) l.length unk) (l.set i (k,a)):=by
   refine ⟨b2,.inr ⟨b,rest,by rw [List.length_set],gB,Nat.lt_of_lt_of_le hlb fB.next,hr⟩,⟨es,ck,(fB.get w h.ea.lt.2 (by simpa using hwb)).trans hw,hok,hwr.set hi⟩,⟨Nat.lt_of_lt_of_le h.ea.lt.1 fB.next,Nat.lt_of_lt_of_le h.ea.lt.2 fB.next⟩,by rw [List.length_set];exact h.ea.few⟩
  have hdn:DownI tlt (l.set i (k,a)) (l.set i (k,a)).length i i:=by
   rw [List.length_set]
   exact heap_down tlt_tot h.hp (Nat.le_refl _) (fun j hj hji=>by rw [List.getElem?_set,if_neg (Ne.symm hji)])
  simp only [z_0,aFieldAddr,cond_false,if_true,if_false,List.append_nil,List.nil_append,eq_self,Nat.reduceEqDiff,Nat.reduceLT,reduceCtorEq,b1,oneW_makeInterface,aOp_makeInterface,mifE]
  refine CallT.mono (CallT.of_call (hfix_spec hEB hdn (by rw [List.length_set];exact qlt hi))) ?_
  rintro _ C ⟨l',hC,hs,hh,fC⟩
  simp only [z_0,if_true,if_false,eq_self,Nat.reduceEqDiff,Nat.reduceLT,reduceCtorEq]
  have fAC:Fr (e::w::slB (.slice (some ⟨b,0,none⟩) l.length unk)) A C:=(fB.sub (by simp [slB])).trans (fC.sub (fun c hc=>List.mem_cons_of_mem _ hc))
  refine ⟨_,⟨l',h.of fAC hC (by rw [hs.len];exact hh),(hM.set hwr hi).congr hs.mem⟩,fAC,fun c hc=>.inl hc⟩
theorem qdropG_spec{A:ASt}{q e w:Nat}{v:Value}{M:TM}{k:ByteArray}(h:QAt A q e w v M):
  CallW Z Tryz.prog 42 [.pointer (some ⟨q,0,none⟩),.string k] A (fun r A'=>r=.bool (M k).isSome∧∃ v',QAt A' q e w v' (M.del k)∧Fr (e::w::slB v) A A'∧∀ b∈slB v',b∈slB v∨A.next≤b):=by
 obtain ⟨l,h,hM⟩:=h
 refine CallW.of_code E0_ok E0_ro fn42 rfl (n:=22) rfl (rs:=[.tmp 4]) rfl (by simp) (codeW_ok E0_ok E0_ro ?_)
 have h1:=h.hq
 simp only [z_0,flat,cond_true,if_true,if_false,List.append_nil,List.nil_append,eq_self,Nat.reduceEqDiff,Nat.reduceAdd,Nat.reduceLT,reduceCtorEq]
 refine CallT.mono (CallT.of_call (qatG_spec (k:=k) h hM)) ?_
 rintro _ _ ⟨hr,rfl⟩
 rcases hr with ⟨hk,rfl⟩ | ⟨i,c,hk,hi,rfl⟩
 ·simp only [z_0,if_true,if_false,eq_self,Nat.reduceEqDiff,Nat.reduceLT,reduceCtorEq]
  rw [hk]
  refine ⟨rfl,v,⟨l,h,fun n d=>?_⟩,.refl _ _,fun b hb=>.inl hb⟩
  rw [hM]
  unfold TM.del
  by_cases e1:n=k
  ·rw [if_pos e1,e1,hk]
  ·rw [if_neg e1]
 ·have li:=qlt hi
  simp only [z_0,aFieldAddr,cond_false,if_true,if_false,List.append_nil,List.nil_append,eq_self,Nat.reduceEqDiff,Nat.reduceLT,reduceCtorEq,h1,oneW_makeInterface,aOp_makeInterface,mifE]
  refine CallT.mono (CallT.of_call (hrem_spec (m:=l.length-1) h.ea h.hp (by omega) hi)) ?_
  rintro _ B ⟨v',l',hB,hh,hmem,fB,hb⟩
  simp only [z_0,if_true,if_false,eq_self,Nat.reduceEqDiff,Nat.reduceLT,reduceCtorEq]
  rw [hk]
  refine ⟨rfl,v',⟨l',h.of fB hB hh,fun n d=>?_⟩,fB,fun b hb2=>.inl (hb b hb2)⟩
  rw [hmem,hM]
  unfold TM.del
  by_cases e1:n=k
  ·rw [if_pos e1]
   constructor
   ·rintro ⟨_,h3⟩;exact absurd e1 h3
   ·intro h3;cases h3
  ·rw [if_neg e1]
   exact ⟨fun h3=>h3.1,fun h3=>⟨h3,e1⟩⟩
theorem hpopG_spec{A:ASt}{e w m:Nat}{v:Value}{l:List (ByteArray×Nat)}{x:ByteArray×Nat}(h:EAt A e w v l)(hh:HeapL tlt l l.length)(hm:l.length=m+1)(hx:l[0]? = some x):
  CallW Z Tryz.prog 84 [ifE e] A (fun _ A'=>∃ v' l',EAt A' e w v' l'∧HeapL tlt l' l'.length∧l'.length=m∧(∀ y,y∈l'↔y∈l∧y.1≠x.1)∧Fr (e::w::slB v) A A'∧∀ b∈slB v',b∈slB v):=by
 refine CallW.of_code E0_ok E0_ro fn84 rfl (n:=15) rfl (rs:=[.tmp 2]) rfl (by simp) (codeW_ok E0_ok E0_ro ?_)
 have hfew:=h.few
 have hi:=qlt hx
 simp only [z_0,flat,cond_true,if_true,if_false,eq_self,Nat.reduceEqDiff,Nat.reduceLT,reduceCtorEq,aInvoke_method mLen]
 refine CallT.mono (CallT.of_call (elen_spec h)) ?_
 rintro _ _ ⟨rfl,rfl⟩
 have w1:IntKind.i64.wrap ((l.length:Int)-1)=(m:Int):=by rw [IntKind.wrap_i64];omega
 obtain ⟨y,hy⟩:∃ y,l[m]? = some y:=⟨_,List.getElem?_eq_getElem (by omega)⟩
 simp only [z_0,flat,cond_true,if_true,if_false,eq_self,Nat.reduceEqDiff,Nat.reduceLT,reduceCtorEq,w1,aInvoke_method mSwap]
 refine CallT.mono (CallT.of_call (qswap_spec (i:=0) h hx hy)) ?_
 rintro _ B ⟨hB,fB⟩
 have hdn:DownI tlt (swp l 0 m) m 0 0:=heap_down tlt_tot (hh.less (by omega:m≤l.length)) (by omega) (fun j hj hji=>by rw [swp_get hi (by omega),if_neg (by omega),if_neg hji])
 simp only [z_0,flat,cond_true,if_true,if_false,List.append_nil,List.nil_append,eq_self,Nat.reduceEqDiff,Nat.reduceLT,reduceCtorEq]
 refine CallT.mono (CallT.of_call (edown_spec (i:=0) hB hdn (by omega) (by rw [swp_len];omega))) ?_
 rintro _ C ⟨l1,b,rfl,h1,hs1,ht,hf,f1⟩
 have hl1:l1.length=m+1:=by rw [hs1.len,swp_len,hm]
 have hxm:l1[m]? = some x:=by rw [hs1.rest m (Nat.le_refl _),swp_get hi (by omega),if_pos rfl];exact hx
 simp only [z_0,if_true,if_false,eq_self,Nat.reduceEqDiff,Nat.reduceLT,reduceCtorEq,aInvoke_method mPop]
 refine CallT.mono (CallT.of_call (epop_spec h1 hl1 hxm)) ?_
 rintro _ D ⟨v',hD,fD,hb⟩
 have hlt:(l1.take m).length=m:=by rw [List.length_take];omega
 obtain ⟨es,ck,_,_,hwr⟩:=h1.hw
 have nB:=fB.next
 have nC:=f1.next
 simp only [z_0,if_true,if_false,eq_self,Nat.reduceEqDiff,Nat.reduceLT,reduceCtorEq]
 refine ⟨v',l1.take m,hD,?_,hlt,fun y=>?_,(((fB.trans f1).sub (fun b hb=>List.mem_cons_of_mem _ hb)).trans fD),fun b hb2=>?_⟩
 ·rw [hlt]
  exact (ht (.inr rfl)).congr (fun j hj=>by rw [List.getElem?_take,if_pos hj])
 ·rw [take_mem hl1 hwr hxm,hs1.mem,swp_mem hi (by omega)]
 ·exact hb b hb2
theorem qlenG_spec{A:ASt}{q e w:Nat}{v:Value}{l:List (ByteArray×Nat)}(h:QL A q e w v l):
  CallW Z Tryz.prog 83 [.pointer (some ⟨q,0,none⟩)] A (fun r A'=>r=.int .i64 (l.length:Int)∧A=A'):=by
 refine CallW.of_code E0_ok E0_ro fn83 rfl (n:=10) rfl (rs:=[.tmp 2]) rfl (by simp) (codeW_ok E0_ok E0_ro ?_)
 have h1:=h.hq
 simp only [z_0,flat,Option.isNone,aFieldAddr,cond_true,cond_false,if_true,if_false,List.append_nil,List.nil_append,eq_self,Nat.reduceEqDiff,Nat.reduceLT,reduceCtorEq,eqnilQ,h1]
 refine CallT.mono (CallT.of_call (elen_spec h.ea)) ?_
 rintro _ _ ⟨rfl,rfl⟩
 simp only [z_0,if_true,if_false,eq_self,Nat.reduceEqDiff,Nat.reduceLT,reduceCtorEq]
def Least(l:List (ByteArray×Nat))(x:ByteArray×Nat):Prop:=x∈l∧∀ y∈l,¬ tlt y x
theorem QL.first{A:ASt}{q e w:Nat}{v:Value}{l:List (ByteArray×Nat)}(h:QL A q e w v l){x:ByteArray×Nat}(hx:l[0]? = some x):Least l x:=by
 refine ⟨List.mem_of_getElem? hx,fun y hy=>?_⟩
 obtain ⟨j,hj⟩:=List.mem_iff_getElem?.1 hy
 exact h.hp.min tlt_tot (Nat.le_refl _) j (qlt hj) x y hx hj
abbrev frontV(x:ByteArray×Nat)(b:Bool):Value:=.tuple #[.agg #[.string x.1,.int .u64 (x.2:Int)],.bool b]
theorem qfront_spec{A:ASt}{q e w:Nat}{v:Value}{l:List (ByteArray×Nat)}(h:QL A q e w v l):
  CallW Z Tryz.prog 58 [.pointer (some ⟨q,0,none⟩)] A (fun r A'=>(l=[]∧r=frontV (ByteArray.empty,0) false∨∃ x,l[0]? = some x∧r=frontV x true)∧Fr [] A A'):=by
 refine CallW.of_code E0_ok E0_ro fn58 rfl (n:=17) rfl (rs:=[.cell 2 74,.tmp 3]) rfl (by simp) (codeW_ok E0_ok E0_ro ?_)
 simp only [z_0,flat,cond_true,if_true,if_false,List.append_nil,List.nil_append,eq_self,Nat.reduceEqDiff,Nat.reduceLT,reduceCtorEq,al74,ptrTo]
 have fB:Fr [] A (A.new (.row [.string ByteArray.empty,.int .u64 0] 2 false)):=.new
 have gB:(A.new (.row [.string ByteArray.empty,.int .u64 0] 2 false)).get A.next=some (.row [.string ByteArray.empty,.int .u64 0] 2 false):=by rw [ASt.get_new,if_pos rfl]
 have nB:(A.new (.row [.string ByteArray.empty,.int .u64 0] 2 false)).next=A.next+1:=ASt.next_new ..
 generalize A.new (.row [.string ByteArray.empty,.int .u64 0] 2 false)=B at fB gB nB
 have hB:=h.fr0 fB
 refine CallT.mono (CallT.of_call (qlenG_spec hB)) ?_
 rintro _ _ ⟨rfl,rfl⟩
 have zb:aBuild E0 74 []=some (.agg #[.string ByteArray.empty,.int .u64 0]):=by kernel_rfl
 have h1:=hB.hq
 have h2:=hB.ea.he
 have nq:=hB.neq
 have hqn:q<A.next:=h.ltq
 have hen:e<A.next:=h.ea.lt.1
 have hcx:∀ (x:ByteArray×Nat),cut [Value.string x.1,.int .u64 (x.2:Int)] 0 2=some [.string x.1,.int .u64 (x.2:Int)]:=fun x=>rfl
 cases hx:l[0]? with
 | none=>
  have hl:l=[]:=by
   cases l with
   | nil=>rfl
   | cons y l=>simp at hx
  subst hl
  have d1:(((0:Nat):Int)=0)=True:=eq_true rfl
  have hst:=st74 (A:=B) (b:=A.next) (x0:=.string ByteArray.empty) (y0:=.int .u64 0) (k:=ByteArray.empty) (a:=0) gB
  have hst':aStore E0 74 (.pointer (some ⟨A.next,0,none⟩)) (.agg #[.string ByteArray.empty,.int .u64 0]) B=some (B.set A.next (.row [.string ByteArray.empty,.int .u64 0] 2 false)):=hst
  simp only [z_0,flat,cond_true,if_true,if_false,List.length_nil,eq_self,Nat.reduceEqDiff,Nat.reduceLT,reduceCtorEq,d1,zb]
  rw [hst']
  generalize hCd:B.set A.next _=C
  have fC:Fr [A.next] B C:=⟨by rw [← hCd,ASt.next_set];exact Nat.le_refl _,fun c hc hn=>by rw [← hCd,ASt.get_set,if_neg (by simpa using hn)]⟩
  have gC:C.get A.next=some (.row [.string ByteArray.empty,.int .u64 0] 2 false):=by rw [← hCd,ASt.get_set,if_pos rfl]
  clear hCd hst hst'
  have hc0:cut [Value.string ByteArray.empty,.int .u64 0] 0 2=some [.string ByteArray.empty,.int .u64 0]:=rfl
  simp only [z_0,flat,cond_true,if_true,if_false,eq_self,Nat.reduceEqDiff,Nat.reduceLT,reduceCtorEq,gC,hc0]
  exact ⟨.inl rfl,⟨by have:=fC.next;omega,fun b hb _=>by rw [fC.get b (by omega) (by simp;omega),fB.get b hb (by simp)]⟩⟩
 | some x=>
  have lx:=qlt hx
  have d1:(((l.length:Nat):Int)=0)=False:=eq_false (by omega)
  obtain ⟨b,rest,rfl,hb,hlb,_⟩:=hB.ea.hs.at hx
  have ix0:aIndexAddr E0 71 (.slice (some ⟨b,0,none⟩) l.length unk) (.int .i64 0)=some (.pointer (some ⟨b,0*2,none⟩)):=qix lx
  rw [Nat.zero_mul] at ix0
  have hcut:cut (tcells l++rest) 0 2=some [.string x.1,.int .u64 (x.2:Nat)]:=by have:=qcut (rest:=rest) hx;rwa [Nat.zero_mul] at this
  have hst:=st74 (A:=B) (b:=A.next) (x0:=.string ByteArray.empty) (y0:=.int .u64 0) (k:=x.1) (a:=x.2) gB
  simp only [z_0,flat,aFieldAddr,cond_true,cond_false,if_true,if_false,eq_self,Nat.reduceEqDiff,Nat.reduceLT,reduceCtorEq,d1,h1,h2,ix0,hb,hcut]
  rw [hst]
  generalize hCd:B.set A.next _=C
  have fC:Fr [A.next] B C:=⟨by rw [← hCd,ASt.next_set];exact Nat.le_refl _,fun c hc hn=>by rw [← hCd,ASt.get_set,if_neg (by simpa using hn)]⟩
  have gC:C.get A.next=some (.row [.string x.1,.int .u64 (x.2:Int)] 2 false):=by rw [← hCd,ASt.get_set,if_pos rfl]
  clear hCd hst
  simp only [z_0,flat,cond_true,if_true,if_false,eq_self,Nat.reduceEqDiff,Nat.reduceLT,reduceCtorEq,gC,hcx]
  exact ⟨.inr ⟨x,rfl,rfl⟩,⟨by have:=fC.next;omega,fun b hb _=>by rw [fC.get b (by omega) (by simp;omega),fB.get b hb (by simp)]⟩⟩
end Go.Proofs.YtgcffmhpjphefaaGreatDoor

/- A queue in general: what is due is taken, in order. -/
namespace Go.Proofs.YtgcffmhpjphefaaGreatDoor
open Go Go.AE Go.Sort
set_option maxRecDepth 10000
set_option maxHeartbeats 8000000
variable {Z:Go.AE.Road}

theorem hcx74{k:ByteArray}{a:Nat}:cut [Value.string k,.int .u64 (a:Int)] 0 2=some [.string k,.int .u64 (a:Int)]:=rfl
theorem newstore{A:ASt}{k:ByteArray}{a:Nat}:∃ C,aStore E0 74 (.pointer (some ⟨A.next,0,none⟩)) (.agg #[.string k,.int .u64 (a:Int)]) (A.new (.row [.string ByteArray.empty,.int .u64 0] 2 false))=some C∧Fr [] A C∧C.get A.next=some (.row [.string k,.int .u64 (a:Int)] 2 false)∧C.next=A.next+1:=by
 have hst:=st74 (A:=A.new (.row [.string ByteArray.empty,.int .u64 0] 2 false)) (b:=A.next) (x0:=.string ByteArray.empty) (y0:=.int .u64 0) (k:=k) (a:=a) (by rw [ASt.get_new,if_pos rfl])
 refine ⟨_,hst,⟨by rw [ASt.next_set,ASt.next_new];omega,fun b hb _=>by rw [ASt.get_set,if_neg (by omega),ASt.get_new,if_neg (by omega)]⟩,by rw [ASt.get_set,if_pos rfl],by rw [ASt.next_set,ASt.next_new]⟩
theorem restore{A:ASt}{p:Nat}{k:ByteArray}{a:Nat}{x y:Value}(h:A.get p=some (.row [x,y] 2 false)):∃ C,aStore E0 74 (.pointer (some ⟨p,0,none⟩)) (.agg #[.string k,.int .u64 (a:Int)]) A=some C∧Fr [p] A C∧C.get p=some (.row [.string k,.int .u64 (a:Int)] 2 false)∧C.next=A.next:=by
 refine ⟨_,st74 h,⟨by rw [ASt.next_set];exact Nat.le_refl _,fun b hb hn=>by rw [ASt.get_set,if_neg (by simpa using hn)]⟩,by rw [ASt.get_set,if_pos rfl],by rw [ASt.next_set]⟩
theorem qpopQ_spec{A:ASt}{q e w:Nat}{v:Value}{l:List (ByteArray×Nat)}{x:ByteArray×Nat}(h:QL A q e w v l)(hx:l[0]? = some x):
  CallW Z Tryz.prog 59 [.pointer (some ⟨q,0,none⟩)] A (fun _ A'=>∃ v' l',QL A' q e w v' l'∧l'.length+1=l.length∧(∀ y,y∈l'↔y∈l∧y.1≠x.1)∧Fr (e::w::slB v) A A'∧∀ b∈slB v',b∈slB v):=by
 refine CallW.of_code E0_ok E0_ro fn59 rfl (n:=20) rfl (rs:=[.cell 2 74,.tmp 3]) rfl (by simp) (codeW_ok E0_ok E0_ro ?_)
 have lx:=qlt hx
 simp only [z_0,flat,cond_true,if_true,if_false,List.append_nil,List.nil_append,eq_self,Nat.reduceEqDiff,Nat.reduceLT,reduceCtorEq,al74,ptrTo]
 have fB:Fr [] A (A.new (.row [.string ByteArray.empty,.int .u64 0] 2 false)):=.new
 have gB:(A.new (.row [.string ByteArray.empty,.int .u64 0] 2 false)).get A.next=some (.row [.string ByteArray.empty,.int .u64 0] 2 false):=by rw [ASt.get_new,if_pos rfl]
 have nB:(A.new (.row [.string ByteArray.empty,.int .u64 0] 2 false)).next=A.next+1:=ASt.next_new ..
 generalize A.new (.row [.string ByteArray.empty,.int .u64 0] 2 false)=B at fB gB nB
 have hB:=h.fr0 fB
 refine CallT.mono (CallT.of_call (qfront_spec hB)) ?_
 rintro _ C ⟨hr,fC⟩
 obtain ⟨x',hx',rfl⟩:∃ x',l[0]? = some x'∧_=frontV x' true:=by
  rcases hr with ⟨hl,_⟩ | hr
  ·rw [hl] at hx;simp at hx
  ·exact hr
 rw [hx] at hx'
 cases hx'
 obtain ⟨D,hst,fD,gD,nD⟩:=newstore (A:=C) (k:=x.1) (a:=x.2)
 have nC:=fC.next
 simp only [z_0,if_true,if_false,eq_self,Nat.reduceEqDiff,Nat.reduceLT,reduceCtorEq,frontV,al74,ptrTo]
 rw [hst]
 clear hst
 have hD:=(hB.fr0 fC).fr0 fD
 have d1:=hD.hq
 simp only [z_0,aFieldAddr,cond_false,if_true,if_false,List.append_nil,List.nil_append,eq_self,Nat.reduceEqDiff,Nat.reduceLT,reduceCtorEq,d1,oneW_makeInterface,aOp_makeInterface,mifE]
 refine CallT.mono (CallT.of_call (hpopG_spec (m:=l.length-1) hD.ea hD.hp (by omega) hx)) ?_
 rintro _ F ⟨v',l',hF,hh,hlen,hmem,fF,hb⟩
 have hqF:=hD.of fF hF hh
 have nF:=fF.next
 have hown:∀ b,b∈slB v→b<A.next:=h.ea.hs.low
 have hnot:∀ b,A.next≤b→b∉e::w::slB v:=fun b hb1 hm=>by
  simp only [List.mem_cons] at hm
  have h3:=h.ea.lt
  rcases hm with rfl | rfl | hm
  ·omega
  ·omega
  ·have:=hown b hm;omega
 have f1:=(fF.get C.next (by omega) (hnot _ (by omega))).trans gD
 have f2:=((fF.get A.next (by omega) (hnot _ (by omega))).trans ((fD.get A.next (by omega) (by simp)).trans (fC.get A.next (by omega) (by simp)))).trans gB
 obtain ⟨G,hst2,fG,gG,nG⟩:=restore (A:=F) (p:=A.next) (k:=x.1) (a:=x.2) f2
 simp only [z_0,cond_true,if_true,if_false,eq_self,Nat.reduceEqDiff,Nat.reduceLT,reduceCtorEq,f1,hcx74]
 rw [hst2]
 simp only [z_0,cond_true,if_true,if_false,eq_self,Nat.reduceEqDiff,Nat.reduceLT,reduceCtorEq,gG,hcx74]
 have hv':∀ b∈slB v',b≠A.next:=fun b hm e1=>by
  have:=hown b (hb b hm)
  omega
 refine ⟨v',l',hqF.fr fG (by have:=h.ltq;simp;omega) (by have:=h.ea.lt;simp;omega) (by have:=h.ea.lt;simp;omega) (fun b hm=>by simpa using hv' b hm),by omega,hmem,⟨by omega,fun b hb1 hn=>?_⟩,fun b hm=>?_⟩
 ·rw [fG.get b (by omega) (by simp;omega),fF.get b (by omega) hn,fD.get b (by omega) (by simp),fC.get b (by omega) (by simp),fB.get b hb1 (by simp)]
 ·exact hb b hm
theorem qdue1_spec{A:ASt}{p now:Nat}{x:ByteArray×Nat}(h:A.get p=some (.row [.int .u64 (now:Int)] 1 false))(hp:p<A.next):
  CallW Z Tryz.prog 60 [.agg #[.string x.1,.int .u64 (x.2:Int)],.pointer (some ⟨p,0,none⟩)] A (fun r A'=>r=.bool (decide (x.2≤now))∧Fr [] A A'):=by
 refine CallW.of_code E0_ok E0_ro fn60 rfl (n:=8) rfl (rs:=[.tmp 3]) rfl (by simp) (codeW_ok E0_ok E0_ro ?_)
 have hpA:(p=A.next)=False:=eq_false (by omega)
 have hle:((x.2:Int)≤(now:Int))=(x.2≤now):=by rw [Int.ofNat_le]
 simp only [z_0,flat,aFieldAddr,cond_true,cond_false,if_true,if_false,eq_self,Nat.reduceEqDiff,Nat.reduceAdd,Nat.reduceLT,reduceCtorEq,box74,ptrTo,hpA,h,hle]
 exact .new
structure DueQ(now:Nat)(l L l':List (ByteArray×Nat)):Prop where
 le:∀ y∈L,y.2≤now
 ord:L.Pairwise tlt
 bet:∀ y∈L,∀ z∈l',tlt y z
 mem:∀ z,z∈l↔z∈L∨z∈l'
theorem DueQ.step{now:Nat}{l L l' l'':List (ByteArray×Nat)}{x:ByteArray×Nat}(h:DueQ now l L l')(hx:Least l' x)(hle:x.2≤now)(hu:∀ y∈l',y.1=x.1→y=x)(hm:∀ y,y∈l''↔y∈l'∧y.1≠x.1):DueQ now l (L++[x]) l'':=by
 refine ⟨fun y hy=>?_,?_,fun y hy z hz=>?_,fun z=>?_⟩
 ·rcases List.mem_append.1 hy with hy | hy
  ·exact h.le y hy
  ·simp only [List.mem_singleton] at hy
   exact hy ▸ hle
 ·rw [List.pairwise_append]
  refine ⟨h.ord,by simp,fun y hy z hz=>?_⟩
  simp only [List.mem_singleton] at hz
  exact hz ▸ h.bet y hy x hx.1
 ·obtain ⟨h1,h2⟩:=(hm z).1 hz
  rcases List.mem_append.1 hy with hy | hy
  ·exact h.bet y hy z h1
  ·simp only [List.mem_singleton] at hy
   subst hy
   by_cases hl:tlt y z
   ·exact hl
   ·exact absurd (congrArg (·.1) (tlt_tri hl (hx.2 z h1))).symm h2
 ·rw [h.mem,List.mem_append,List.mem_singleton,hm]
  constructor
  ·rintro (h1 | h1)
   ·exact .inl (.inl h1)
   ·by_cases e1:z.1=x.1
    ·exact .inl (.inr (hu z h1 e1))
    ·exact .inr ⟨h1,e1⟩
  ·rintro ((h1 | rfl) | h1)
   ·exact .inl h1
   ·exact .inr hx.1
   ·exact .inr h1.1
abbrev dueF(p:Nat):Value:=.func (.func 60) #[] #[.pointer (some ⟨p,0,none⟩)]
abbrev qF(f q:Nat):Value:=.func (.func f) #[.pointer (some ⟨q,0,none⟩)] #[]
structure InDue(A:ASt)(q e w p now:Nat)(v:Value)(l:List (ByteArray×Nat))(B:ASt)(r v':Value)(L l':List (ByteArray×Nat)):Prop where
 ql:QL B q e w v' l'
 qs:QS B r L
 due:DueQ now l L l'
 hp:B.get p=some (.row [.int .u64 (now:Int)] 1 false)
 fr:Fr (e::w::slB v) A B
 vb:∀ b∈slB v',b∈slB v
 rb:∀ b∈slB r,A.next≤b
theorem qwhile_spec{A:ASt}{q e w p now:Nat}{v:Value}{l:List (ByteArray×Nat)}(h:QL A q e w v l)(hl:l.length≤1000)(hp:A.get p=some (.row [.int .u64 (now:Int)] 1 false))(hpn:p<A.next):
  CallW Z Tryz.prog 57 [qF 58 q,qF 59 q,dueF p] A (fun r A'=>∃ v' L l',InDue A q e w p now v l A' r v' L l'∧∀ z∈l',now<z.2):=by
 refine CallW.of_code E0_ok E0_ro fn57 rfl (n:=34) rfl (rs:=[.tmp 6]) rfl (by simp) (codeW_ok E0_ok E0_ro ?_)
 have hown:∀ b∈slB v,b<A.next:=h.ea.hs.low
 have hpw:p∉e::w::slB v:=by
  intro hm
  simp only [List.mem_cons] at hm
  rcases hm with rfl | rfl | hm
  ·rw [h.ea.he] at hp;simp at hp
  ·obtain ⟨es,ck,hw,_⟩:=h.ea.hw
   rw [hw] at hp;cases hp
  ·rcases h.ea.hs with ⟨_,rfl⟩ | ⟨b,rest,rfl,hb,_⟩
   ·cases hm
   ·simp only [slB,List.mem_singleton] at hm
    subst hm
    rw [hb] at hp;simp at hp
 simp only [z_0,flat,cond_true,if_true,if_false,List.append_nil,eq_self,Nat.reduceEqDiff,Nat.reduceAdd,Nat.reduceLT,reduceCtorEq]
 refine CallT.mono (CallT.of_call (qfront_spec h)) ?_
 rintro r0 B ⟨hr,fB⟩
 obtain ⟨x,is,hr0,hx1,hx2⟩:∃ (x:ByteArray×Nat) (is:Bool),r0=frontV x is∧(is=true→l[0]? = some x)∧(is=false→l=[]):=by
  rcases hr with ⟨hl,hr⟩ | ⟨x,hx,hr⟩
  ·exact ⟨_,false,hr,(fun h=>by cases h),fun _=>hl⟩
  ·exact ⟨_,true,hr,(fun _=>hx),fun h=>by cases h⟩
 subst hr0
 obtain ⟨C,hst,fC,gC,nC⟩:=newstore (A:=B) (k:=x.1) (a:=x.2)
 have nB:=fB.next
 simp only [z_0,if_true,if_false,eq_self,Nat.reduceEqDiff,Nat.reduceLT,reduceCtorEq,frontV,al74,ptrTo]
 rw [hst]
 clear hst
 simp only [z_0,if_true,if_false,eq_self,Nat.reduceEqDiff,Nat.reduceLT,reduceCtorEq]
 refine CodeW.mono (Q:=fun o=>∃ T' A',o=.fr ⟨.exit 0,T',A'⟩∧∃ r v' L l',tget T' 7=r∧InDue A q e w p now v l A' r v' L l'∧∀ z∈l',now<z.2) ?_ ?_
 ·refine CodeW.loopR (k:=l.length) (fun n T A'=>∃ r v' L l' c x is,n=l'.length∧tget T 0=qF 58 q∧tget T 1=qF 59 q∧tget T 2=dueF p∧tget T 7=r∧tget T 8=.pointer (some ⟨c,0,none⟩)∧tget T 9=.bool is∧A'.get c=some (.row [.string x.1,.int .u64 ((x.2:Nat):Int)] 2 false)∧A.next≤c∧c<A'.next∧(is=true→l'[0]? = some x)∧(is=false→l'=[])∧InDue A q e w p now v l A' r v' L l') ?_ ?_
  ·rintro n T A1 ⟨r,v1,L,l1,c,x,is,rfl,u0,u1,u2,u7,u8,u9,hc,lc,cn,hx1,hx2,hI⟩
   refine codeW_ok E0_ok E0_ro ?_
   have hcw:c∉e::w::slB v:=fun hm=>by
    have h3:=h.ea.lt
    simp only [List.mem_cons] at hm
    rcases hm with rfl | rfl | hm
    ·omega
    ·omega
    ·have:=hown c hm;omega
   have hcr:∀ b∈slB r,b≠c:=fun b hb e1=>by
    subst e1
    rcases hI.qs with ⟨_,rfl⟩ | ⟨b',rest,rfl,hb',_⟩
    ·cases hb
    ·simp only [slB,List.mem_singleton] at hb
     subst hb
     rw [hc] at hb';simp at hb'
   cases is with
   | false=>
    have hl0:=hx2 rfl
    subst hl0
    simp only [z_0,flat,cond_true,cond_false,if_true,if_false,eq_self,Nat.reduceEqDiff,Nat.reduceLT,u9,undef]
    exact ⟨_,_,rfl,r,v1,L,[],by simp only [tget_put,Nat.reduceEqDiff,if_false,u7],hI,fun z hz=>by cases hz⟩
   | true=>
    have hx:=hx1 rfl
    simp only [z_0,cond_true,if_true,if_false,List.cons_append,List.nil_append,eq_self,Nat.reduceEqDiff,Nat.reduceLT,u2,u8,u9,hc,hcx74,dueF]
    refine CallT.mono (CallT.of_call (qdue1_spec hI.hp (by have:=hI.fr.next;omega))) ?_
    rintro _ B1 ⟨rfl,fB1⟩
    have q1:=hI.ql.fr0 fB1
    have s1:=hI.qs.fr fB1 (by simp)
    have p1:=(fB1.get p (by have:=hI.fr.next;omega) (by simp)).trans hI.hp
    have c1:=(fB1.get c cn (by simp)).trans hc
    have nB1:=fB1.next
    have nI:=hI.fr.next
    by_cases hle:x.2≤now
    ·have dl:=eq_true hle
     simp only [z_0,flat,cond_true,if_true,if_false,List.append_nil,eq_self,Nat.reduceEqDiff,Nat.reduceLT,dl,u1,qF]
     refine CallT.mono (CallT.of_call (qpopQ_spec q1 hx)) ?_
     rintro _ D ⟨v2,l2,hq2,hlen,hmem,fD,hb2⟩
     have nD:=fD.next
     have hsub:∀ b∈e::w::slB v1,b∈e::w::slB v:=fun b hb=>by
      simp only [List.mem_cons] at hb ⊢
      rcases hb with h3 | h3 | h3
      ·exact .inl h3
      ·exact .inr (.inl h3)
      ·exact .inr (.inr (hI.vb b h3))
     have fD':=fD.sub hsub
     have hlow:∀ b∈e::w::slB v,b<A.next:=fun b hb=>by
      have h3:=h.ea.lt
      simp only [List.mem_cons] at hb
      rcases hb with rfl | rfl | hb
      ·omega
      ·omega
      ·exact hown b hb
     have s2:=s1.fr fD' (fun b hb hm=>by have h3:=hI.rb b hb;have h4:=hlow b hm;omega)
     have p2:=(fD'.get p (by omega) hpw).trans p1
     have c2:=(fD'.get c (by omega) hcw).trans c1
     have fN:Fr [] D (D.new (.row [.string x.1,.int .u64 (x.2:Int)] 2 false)):=.new
     obtain ⟨r2,F,ha,hqs,fF,hr2⟩:=(s2.fr fN (by simp)).app (p:=D.next) (k:=x.1) (a:=x.2) (tl:=false) (by rw [ASt.get_new,if_pos rfl]) (by
      have:L.length≤l.length:=by
       obtain ⟨es,ck,_,_,hwr⟩:=h.ea.hw
       have hLn:L.Nodup:=hI.due.ord.imp (fun {a b} hab hE=>by subst hE;exact tlt_irr _ hab)
       exact nodup_leG hLn (fun y hy=>(hI.due.mem y).2 (.inl hy))
      omega)
     have nN:(D.new (.row [.string x.1,.int .u64 (x.2:Int)] 2 false)).next=D.next+1:=ASt.next_new ..
     have nF:=fF.next
     have fDF:Fr (slB r) D F:=(fN.nil).trans fF
     have hrl:∀ b∈slB r,A.next≤b:=hI.rb
     have hrD:∀ b∈slB r,b<D.next:=s2.low
     have c3:=(fDF.get c (by omega) (fun hm=>hcr c hm rfl)).trans c2
     have q3:=hq2.fr fDF (fun hm=>by have:=hrl q hm;have:=h.ltq;omega) (fun hm=>by have:=hrl e hm;have:=h.ea.lt;omega) (fun hm=>by have:=hrl w hm;have:=h.ea.lt;omega) (fun b hb hm=>by have:=hrl b hm;have:=hown b (hI.vb b (hb2 b hb));omega)
     have p3:=(fDF.get p (by omega) (fun hm=>by have:=hrl p hm;omega)).trans p2
     obtain ⟨G,hst,fG,gG,nG⟩:=newstore (A:=F) (k:=x.1) (a:=x.2)
     simp only [z_0,aBuiltin,cond_true,if_true,if_false,eq_self,Nat.reduceEqDiff,Nat.reduceLT,u7,u8,c2,hcx74,bs68,ha,c3,al74,ptrTo]
     rw [hst]
     clear hst
     simp only [z_0,if_true,if_false,List.append_nil,eq_self,Nat.reduceEqDiff,Nat.reduceLT,reduceCtorEq,u0,qF]
     have q4:=q3.fr0 fG
     refine CallT.mono (CallT.of_call (qfront_spec q4)) ?_
     rintro r0 H ⟨hr0,fH⟩
     obtain ⟨x',is',hr0',hx1',hx2'⟩:∃ (x':ByteArray×Nat) (is':Bool),r0=frontV x' is'∧(is'=true→l2[0]? = some x')∧(is'=false→l2=[]):=by
      rcases hr0 with ⟨hl,hr⟩ | ⟨x,hx,hr⟩
      ·exact ⟨_,false,hr,(fun h=>by cases h),fun _=>hl⟩
      ·exact ⟨_,true,hr,(fun _=>hx),fun h=>by cases h⟩
     subst hr0'
     have nH:=fH.next
     obtain ⟨J,hst2,fJ,gJ,nJ⟩:=restore (A:=H) (p:=F.next) (k:=x'.1) (a:=x'.2) ((fH.get F.next (by omega) (by simp)).trans gG)
     simp only [z_0,if_true,if_false,eq_self,Nat.reduceEqDiff,Nat.reduceLT,frontV]
     rw [hst2]
     clear hst2
     simp only [z_0,if_true,if_false,eq_self,Nat.reduceEqDiff,Nat.reduceLT,reduceCtorEq,u0,u1,u2]
     have hrF:∀ b∈slB r2,b<F.next:=hqs.low
     have fFH:Fr [] F H:=fG.trans fH
     have hqq:q<F.next∧e<F.next∧w<F.next:=by have:=h.ltq;have:=h.ea.lt;omega
     have hvq:∀ b∈slB v2,b<F.next:=fun b hb=>by have:=hown b (hI.vb b (hb2 b hb));omega
     refine ⟨l2.length,by omega,r2,v2,L++[x],l2,F.next,x',is',rfl,rfl,rfl,rfl,gJ,by omega,by omega,hx1',hx2',⟨(q4.fr0 fH).fr fJ (by simp;omega) (by simp;omega) (by simp;omega) (fun b hb=>by have:=hvq b hb;simp;omega),(hqs.fr fFH (by simp)).fr fJ (fun b hb=>by have:=hrF b hb;simp;omega),hI.due.step (hI.ql.first hx) hle ?_ hmem,?_,?_,fun b hb=>hI.vb b (hb2 b hb),fun b hb=>?_⟩⟩
     ·intro y hy e1
      obtain ⟨es,ck,_,_,hwr⟩:=hI.ql.ea.hw
      exact hwr.uniq hy (hI.ql.first hx).1 e1
     ·rw [fJ.get p (by omega) (by simp;omega),fFH.get p (by omega) (by simp)]
      exact p3
     ·refine ⟨by omega,fun b hb hn=>?_⟩
      rw [fJ.get b (by omega) (by simp;omega),fFH.get b (by omega) (by simp),fDF.get b (by omega) (fun hm=>by have:=hrl b hm;omega),fD'.get b (by omega) hn,fB1.get b (by omega) (by simp),hI.fr.get b hb hn]
     ·rcases hr2 b hb with h3 | h3
      ·exact hrl b h3
      ·omega
    ·have dl:=eq_false hle
     simp only [z_0,flat,cond_true,if_true,if_false,eq_self,Nat.reduceEqDiff,Nat.reduceLT,dl]
     refine ⟨_,_,rfl,r,v1,L,l1,by simp only [tget_put,Nat.reduceEqDiff,if_false,u7],⟨q1,s1,hI.due,p1,hI.fr.trans fB1.nil,hI.vb,hI.rb⟩,fun z hz=>?_⟩
     have:=(hI.ql.first hx).2 z hz
     unfold tlt at this
     omega
  ·refine ⟨.slice none 0 0,v,[],l,B.next,x,is,rfl,?_,?_,?_,?_,?_,?_,gC,by omega,by omega,hx1,hx2,⟨(h.fr0 fB).fr0 fC,.inl ⟨rfl,rfl⟩,⟨(fun y hy=>by cases hy),List.Pairwise.nil,(fun y hy=>by cases hy),fun z=>by simp⟩,((fB.trans fC).get p hpn (by simp)).trans hp,(fB.trans fC).nil,(fun b hb=>hb),fun b hb=>by cases hb⟩⟩
   all_goals first | rfl | (unfold argsT;rfl) | (simp [argsT,tget_put];done)
 ·rintro o ⟨T',A',rfl,r,v',L,l',u7,hI,hz⟩
  simp only [z_0,if_true,if_false,eq_self,Nat.reduceEqDiff,Nat.reduceLT,u7]
  exact ⟨v',L,l',hI,hz⟩
theorem qdueG_spec{A:ASt}{q e w now:Nat}{v:Value}{M:TM}(h:QAt A q e w v M)(hF:Few M):
  CallW Z Tryz.prog 34 [.pointer (some ⟨q,0,none⟩),.int .u64 (now:Int)] A (fun r A'=>∃ v' L,QAt A' q e w v' (fun k=>(M k).filter fun a=>decide (now<a))∧QS A' r L∧Lists (fun k=>(M k).filter fun a=>decide (a≤now)) L∧Fr (e::w::slB v) A A'∧(∀ b∈slB v',b∈slB v)∧∀ b∈slB r,A.next≤b):=by
 obtain ⟨l,h,hM⟩:=h
 refine CallW.of_code E0_ok E0_ro fn34 rfl (n:=11) rfl (rs:=[.tmp 4]) rfl (by simp) (codeW_ok E0_ok E0_ro ?_)
 have hsm:=h.ea.small hM hF
 have hbx:aBox E0 22 (.int .u64 (now:Int))=some (.row [.int .u64 (now:Int)] 1 false,ptrTo):=box22
 simp only [z_0,flat,cond_true,if_true,if_false,List.append_nil,List.nil_append,eq_self,Nat.reduceEqDiff,Nat.reduceAdd,Nat.reduceLT,reduceCtorEq,hbx,ptrTo]
 have fB:Fr [] A (A.new (.row [.int .u64 (now:Int)] 1 false)):=.new
 have gB:(A.new (.row [.int .u64 (now:Int)] 1 false)).get A.next=some (.row [.int .u64 (now:Int)] 1 false):=by rw [ASt.get_new,if_pos rfl]
 have nB:(A.new (.row [.int .u64 (now:Int)] 1 false)).next=A.next+1:=ASt.next_new ..
 generalize A.new (.row [.int .u64 (now:Int)] 1 false)=B at fB gB nB
 refine CallT.mono (CallT.of_call (qwhile_spec (h.fr0 fB) hsm gB (by omega))) ?_
 rintro r C ⟨v',L,l',hI,hz⟩
 simp only [z_0,if_true,if_false,eq_self,Nat.reduceEqDiff,Nat.reduceLT,reduceCtorEq]
 have nC:=hI.fr.next
 refine ⟨v',L,⟨l',hI.ql,fun k a=>?_⟩,hI.qs,⟨fun k a=>?_,hI.due.ord⟩,fB.nil.trans hI.fr,hI.vb,fun b hb=>?_⟩
 ·rw [Option.filter_eq_some_iff,← hM,hI.due.mem,decide_eq_true_eq]
  constructor
  ·intro h1
   exact ⟨.inr h1,hz _ h1⟩
  ·rintro ⟨h1 | h1,h2⟩
   ·have:=hI.due.le _ h1
    simp only at this
    omega
   ·exact h1
 ·rw [Option.filter_eq_some_iff,← hM,hI.due.mem,decide_eq_true_eq]
  constructor
  ·intro h1
   exact ⟨.inl h1,hI.due.le _ h1⟩
  ·rintro ⟨h1 | h1,h2⟩
   ·exact h1
   ·have:=hz _ h1
    simp only at this
    omega
 ·have:=hI.rb b hb
  omega
end Go.Proofs.YtgcffmhpjphefaaGreatDoor
