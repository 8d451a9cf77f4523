/- PROVED: the law 'TimersPlays' (belfrylaw10), as a tied card: whatever the clock and the script, the call returns true, and the arguments read as they did: where the listed package variables hold what the program's text lays in them (the row's own condition). -/
import Derived.Test.YtgcffmhpjphefaaGreatDoorP11
set_option linter.unusedSimpArgs false
set_option linter.unusedVariables false
set_option linter.unusedSectionVars false
namespace Go.Proofs.YtgcffmhpjphefaaGreatDoor
open Go Go.AE Go.ChangeShapes Go.WideShapes Go.ChangeAt Go.RowKit Go.Joins Go.Deep
set_option maxRecDepth 100000
theorem acts_at{H:Type}{enc:TypeId×Value→H}{spare:Nat→Bool}{held:Bool}{W:World}{v:Value}{d:DataW H}{p:List MemPlace}{base:Nat}(hv:Value.okWide Tryz.prog W .any base 45 v)(h:DataW.Trod enc Tryz.prog W 0 spare held 45 v d p):
  ∃ P,ActsAt W v P∧∀ p∈P,StepsZ W p.2 p.1.t.steps∧p.1.wide:=by
 obtain ⟨fuel,hf⟩:=h
 have hf:DataW.trod enc Tryz.prog W 0 spare held fuel 45 v.cells.toList=some (d,p):=hf
 rw [slice_cells Tryz.underlying45 hv] at hf
 exact open_acts hf (fun a len cap e=>by subst e;exact spot_none Tryz.underlying45 hv)
theorem plays_calls{W:World}{now:Nat}{v:Value}{P:List (ActD×Value)}(hT:Lib.TabIs Tryz.prog W "internal/strconv.uint64pow10" .u64 Lib.pow10Tab) (hz:0<W.heap.size) (h:ActsAt W v P) (hst:∀ p∈P,StepsZ W p.2 p.1.t.steps∧p.1.wide) (hn:now<18446744073709551616) :
  Calls Tryz.prog 5 #[.int .u64 (now:Int),v] W fun e w'=>e=.returned (.bool true)∧Below W.heap.size W w':=by
 obtain ⟨s1,lv,P',hs⟩:=acts_span h hst []
 obtain ⟨hl,hv,hH⟩:=hs []
 simp only [List.nil_append,List.append_nil] at hl hv hH
 refine calls_ro_true (s:=s1) (args:=[.int .u64 (now:Int),lv]) (.cons (.int _ _) (.cons hv .nil)) ?_
 exact plays_walk (roadSV hl) (tab_road tab_global hz hT) (hH _ (fun b _=>rfl) (Nat.le_refl _)) (fun b hb=>hb) hn
theorem readable_plays:∀ t∈Tryz.f5.params.toList,Tryz.prog.readableRec t=true∧t<Tryz.prog.types.size:=by
 intro t ht
 rw [Tryz.params5] at ht
 simp at ht
 rcases ht with rfl | rfl<;>exact ⟨by kernel_rfl,of_decide_eq_true (by kernel_rfl)⟩
abbrev laidPlays:=Rows.timersPlaysRow.laid
theorem door_plays(os:Os)(args:Array Value):laidMetH Tryz.prog laidPlays ((World.doorLaid Tryz.prog 4000 os).forCall (fun _ _=>0) ⟨#[],args,[]⟩).memory:=
 laidMetH_of_parts (laidMet_of_run' 8 (by kernel_rfl) (by kernel_rfl)) (by kernel_rfl)
theorem plays_lifted(os:Os)(started:os.Started)(H:Type)(enc:TypeId×Value→H):
  ReturnsInHanded {} Tryz.checked os 5 .any (fun w args=>(Rows.timersPlaysSpec.pre enc Tryz.prog Tryz.f5 [] false w args∧laidMetH Tryz.prog laidPlays w)∧sizedMet enc Tryz.prog Tryz.f5 (OpenSpec.ofChange Rows.timersPlaysSpec) false w args)
   (Rows.timersPlaysSpec.post enc Tryz.prog Tryz.f5 false true false false):=by
 refine returnsInHanded_of_change_and (C:=Tryz.checked) (X:=fun w _=>laidMetH Tryz.prog laidPlays w) (fun _ _ _ hh h=>h.of_heap hh) Tryz.own started (by kernel_rfl) Tryz.func5
  (ChangeSpec.witness_shaped (enc:=enc) (C:=Tryz.checked) (os:=os) (X:=fun w _=>laidMetH Tryz.prog laidPlays w) false (World.doorLaid Tryz.prog 4000 os) #[.int .u64 0,.slice none 0 0] 8 rfl (World.shaped_of_RefB (by kernel_rfl) (by kernel_rfl)) (by kernel_rfl) (by kernel_rfl) (by kernel_rfl) (door_plays os _)) ?_
 intro W base args ds gs before hval0 hW hX1 hX2 hX3 hX4
 have hval:∀ (j:Nat) t v,Tryz.f5.params[j]? = some t→args[j]? = some v→Value.okWide Tryz.prog W .any base t v:=hval0
 have hW':=hW
 have hmet:laidMetH Tryz.prog laidPlays W:=by first | exact hX1 | exact hX2 | exact hX3 | exact hX4
 obtain ⟨hT,hz⟩:=tab_met (by kernel_rfl) hmet
 obtain ⟨p,q,hA0,hV,rfl,hfz,hnd⟩:=hW
 have hA:DataW.TrodAll enc Tryz.prog W 0 (fun _=>true) true Tryz.f5.params.toList args.toList ds p:=hA0
 rw [Tryz.params5] at hA hval
 obtain ⟨v0,v1,d0,d1,p0,p1,rfl,rfl,rfl,t0,t1⟩:=trodAll_two hA
 obtain ⟨now,rfl,hn⟩:=u64_ok (hval 0 22 _ rfl rfl)
 obtain ⟨P,hP,hst⟩:=acts_at (hval 1 45 _ rfl rfl) t1
 refine (plays_calls hT hz hP hst hn).mono ?_
 rintro e W' ⟨he',hbel⟩
 exact ⟨_,he',law_post Tryz.laidOut readable_plays hW' rfl hbel rfl Tryz.underlying4 (fun h=>by rw [h];rfl)⟩
theorem plays_holds:Rows.TimersPlaysSaid:=
 OpenClaim.holds_of_wide 5 Tryz.f5 rfl rfl rfl rfl rfl rfl rfl ⟨rfl,rfl,rfl,rfl,rfl⟩ rfl rfl rfl rfl rfl (by kernel_rfl) Tryz.func5 (by kernel_rfl)
  (of_decide_eq_true (by kernel_rfl)) (by unfold Func.isWrapper;first | (rw [if_pos (by decide +kernel)];kernel_rfl) | (rw [if_neg (by decide +kernel)];exact ⟨rfl,rfl⟩))
  (fun os started H enc _=>plays_lifted os started H enc)
theorem plays_card:Rows.TimersPlaysCardSaid:=
 Claim7.holds_tied_plain_at .later [] [.data,.data,.data] true (true, "1ae6fc6c3bb4b4e646a778c1e37d6a6b5d9719ea2c6b3c26b35f6ac15c63dffb") true
  plays_holds (fun _ h=>by cases h) (by kernel_rfl) (fun _ h=>by cases h) timersPlays_row_tie rfl ⟨rfl,rfl⟩ (by kernel_rfl) rfl
  (fun f fn hf hfn=>by
   obtain rfl:f=5:=Option.some.inj ((show Tryz.prog.funcNamed "belfry/belfrylaw10.TimersPlays" = some 5 by kernel_rfl).symm.trans hf) |>.symm
   obtain rfl:fn=Tryz.f5:=(Option.some.inj (Tryz.func5.symm.trans hfn)).symm
   exact ⟨by kernel_rfl,fun j t ht=>by
    rw [Tryz.params5] at ht
    have h3:t=22∨t=45:=by
     rcases j with _ | _ | j
     ·left;simpa using ht.symm
     ·right;simpa using ht.symm
     ·simp at ht
    rcases h3 with rfl | rfl
    ·exact (show Tryz.prog.wantsStandIn 22=false by kernel_rfl)
    ·exact (show Tryz.prog.wantsStandIn 45=false by kernel_rfl)⟩)

  (by kernel_rfl)

#print axioms plays_card
end Go.Proofs.YtgcffmhpjphefaaGreatDoor
