/-
  What is proved: the law PledgeAdds returns true.
  Conditions: the package-level variable reliquary/digest.k holds, when the call begins, what the program's text lays there (tied by the card); what the law is handed may be anything.
-/
import Derived.Test.YtedplhdabefnkaaGreatDoorRows
import Derived.Test.YtedplhdabefnkaaGreatDoorCards
import Derived.Test.YtedplhdabefnkaaGreatDoorTie
import Derived.Test.YtedplhdabefnkaaGreatDoorRq28
import Derived.Test.YtedplhdabefnkaaGreatDoorRq33
import Derived.Test.YtedplhdabefnkaaGreatDoorRq09
import Derived.LaidMore
import Derived.OpenShut
import Derived.Stop.Joined
import Derived.SevenTiedAt
namespace Go.Proofs.YtedplhdabefnkaaGreatDoor
open Go Go.Rq Go.Rq.Sm Go.RowKit
theorem own:ownKnob Tryz.prog.godebug=none:=by kernel_rfl
theorem laidOut:laidOutB Tryz.prog=true:=by kernel_rfl
theorem door_met (os:Os) (args:Array Value):laidMetH Tryz.prog Rows.pledgeAddsRow.laid ((World.doorLaid Tryz.prog 400 os).forCall (fun _ _=>0) ⟨#[],args,[]⟩).memory :=
 laidMetH_of_parts3 (fuel:=8) (laidMet_of_run' 8 (by kernel_rfl) (by kernel_rfl)) (by kernel_rfl) (by kernel_rfl)
theorem spec_ok:LawSpec Rows.pledgeAddsSpec 6:=⟨rfl,fun H ds h=>by
 match ds,h with
 | [d0,d1,d2,d3,d4,d5],_=>rfl⟩
theorem param_ok:∀ t ∈ Tryz.f7.params.toList,Tryz.prog.readableRec t=true /\ t < Tryz.prog.types.size:=by
 have h:(Tryz.f7.params.toList.all fun t=>Tryz.prog.readableRec t && Nat.blt t Tryz.prog.types.size)=true:=by kernel_rfl
 intro t ht
 have:=List.all_eq_true.1 h t ht
 rw [Bool.and_eq_true] at this
 exact ⟨this.1,Nat.le_of_ble_eq_true this.2⟩
theorem param_plain:∀ t ∈ Tryz.f7.params.toList,Tryz.prog.wantsStandIn t=false:=by
 have h:(Tryz.f7.params.toList.all fun t=>!Tryz.prog.wantsStandIn t)=true:=by kernel_rfl
 intro t ht
 have:=List.all_eq_true.1 h t ht
 simpa using this
set_option maxRecDepth 100000 in
theorem lifted (os:Os) (started:os.Started) (H:Type) (enc:TypeId × Value->H) :
 ReturnsInHanded {} Tryz.checked os 7 .any (fun w args=>(Rows.pledgeAddsSpec.pre enc Tryz.prog Tryz.f7 [] false w args /\ laidMetH Tryz.prog Rows.pledgeAddsRow.laid w) /\ sizedMet enc Tryz.prog Tryz.f7 (OpenSpec.ofChange Rows.pledgeAddsSpec) false w args)
  (Rows.pledgeAddsSpec.post enc Tryz.prog Tryz.f7 false true false false):=by
 refine law_handed_and (C:=Tryz.checked) (X:=fun w _=>laidMetH Tryz.prog Rows.pledgeAddsRow.laid w) (fun _ _ _ hh h=>h.of_heap hh) own started (by kernel_rfl) Tryz.func7
  (ChangeSpec.witness_shaped (enc:=enc) (C:=Tryz.checked) (os:=os) (X:=fun w _=>laidMetH Tryz.prog Rows.pledgeAddsRow.laid w) false (World.doorLaid Tryz.prog 400 os) #[.int .i64 0,.slice none 0 0,.slice none 0 0,.slice none 0 0,.slice none 0 0,.int .i64 0] 8 rfl (World.shaped_of_RefB (by kernel_rfl) (by kernel_rfl)) (by kernel_rfl) (by kernel_rfl) (by kernel_rfl) (door_met os _))
  spec_ok rfl rfl (tb:=4) (by kernel_rfl) laidOut param_ok ?_
 intro W base args ds p hok hA hX
 have h1:DataW.TrodAll enc Tryz.prog W 0 (fun _=>true) true [22,23,23,23,23,3] args.toList ds p:=hA
 obtain ⟨v0,l0,e0,m0,p0,q0,hl,-,-,-,h2⟩:=ChangeShapes.trodAll_cons h1
 obtain ⟨v1,l1,e1,m1,p1,q1,rfl,-,-,t1,h3⟩:=ChangeShapes.trodAll_cons h2
 obtain ⟨v2,l2,e2,m2,p2,q2,rfl,-,-,t2,h4⟩:=ChangeShapes.trodAll_cons h3
 obtain ⟨v3,l3,e3,m3,p3,q3,rfl,-,-,t3,h5⟩:=ChangeShapes.trodAll_cons h4
 obtain ⟨v4,l4,e4,m4,p4,q4,rfl,-,-,t4,h6⟩:=ChangeShapes.trodAll_cons h5
 obtain ⟨v5,l5,e5,m5,p5,q5,rfl,-,-,-,h7⟩:=ChangeShapes.trodAll_cons h6
 obtain ⟨rfl,-⟩:=ChangeShapes.trodAll_nil h7
 have g:∀ (j:Nat) (v:Value),[v0,v1,v2,v3,v4,v5][j]?=some v->args[j]?=some v:=fun j v hj=>by rw [<- hl] at hj;simpa using hj
 have k0:=hok 0 22 v0 (by kernel_rfl) (g 0 v0 rfl)
 have k1:=hok 1 23 v1 (by kernel_rfl) (g 1 v1 rfl)
 have k2:=hok 2 23 v2 (by kernel_rfl) (g 2 v2 rfl)
 have k3:=hok 3 23 v3 (by kernel_rfl) (g 3 v3 rfl)
 have k4:=hok 4 23 v4 (by kernel_rfl) (g 4 v4 rfl)
 have k5:=hok 5 3 v5 (by kernel_rfl) (g 5 v5 rfl)
 obtain ⟨x0,rfl⟩:=WideShapes.okWide_int (k:=.i64) Tryz.underlying22 k0
 obtain ⟨X1,ll1,a1,c1,b1⟩:=open_slice Tryz.underlying23 Go.Rq.Sm.tell_num (by kernel_rfl) k1 t1
 obtain ⟨X2,ll2,a2,c2,b2⟩:=open_slice Tryz.underlying23 Go.Rq.Sm.tell_num (by kernel_rfl) k2 t2
 obtain ⟨X3,ll3,a3,c3,b3⟩:=open_slice Tryz.underlying23 Go.Rq.Sm.tell_num (by kernel_rfl) k3 t3
 obtain ⟨X4,ll4,a4,c4,b4⟩:=open_slice Tryz.underlying23 Go.Rq.Sm.tell_num (by kernel_rfl) k4 t4
 obtain ⟨x5,rfl⟩:=WideShapes.okWide_int (k:=.i64) Tryz.underlying3 k5
 have ha:args=#[(kInt .i64).val x0,v1,v2,v3,v4,(kInt .i64).val x5]:=by
  apply Array.ext'
  rw [hl];rfl
 rw [ha]
 exact Cl.pd_calls (Go.Rq.Cl.gw_of_laid hX (by kernel_rfl)) a1 a2 a3 a4 c1 c2 c3 c4 b1 b2 b3 b4 x0 x5
theorem said:Rows.PledgeAddsSaid :=
 OpenClaim.holds_of_wide 7 Tryz.f7 rfl rfl rfl rfl rfl rfl rfl ⟨rfl,rfl,rfl,rfl,rfl⟩ rfl rfl rfl rfl rfl (by kernel_rfl) Tryz.func7 pledgeAdds_joined
  (of_decide_eq_true (by kernel_rfl)) (by unfold Func.isWrapper;first | (rw [if_pos (by decide +kernel)];kernel_rfl) | (rw [if_neg (by decide +kernel)];exact ⟨rfl,rfl⟩))
  (fun os started H enc _=>lifted os started H enc)
set_option maxRecDepth 100000 in
theorem goes:false=Rows.pledgeAddsRow.goesBy Tryz.prog:=by kernel_rfl
set_option maxRecDepth 100000 in
theorem wft:Rows.pledgeAddsRow.wfByText (OpenSpec.ofChange Rows.pledgeAddsSpec)=true:=by kernel_rfl
set_option maxRecDepth 100000 in
theorem main_is:Tryz.prog.mainIs=some (true,"00941a9a34f3d6fa689a328cb41f7356a1a6282e98ac644b5d61b618d62e6dd8".toList):=by kernel_rfl
set_option maxRecDepth 100000 in
theorem looks_not:false=Tryz.prog.looks []:=by kernel_rfl
theorem pledgeAdds_holds:Rows.PledgeAddsCardSaid :=
 Claim7.holds_tied_plain_at .later [] [.data] true (true,"00941a9a34f3d6fa689a328cb41f7356a1a6282e98ac644b5d61b618d62e6dd8") false
  said (fun _ h=>by cases h) wft (fun _ h=>by cases h) pledgeAdds_row_tie rfl ⟨rfl,rfl⟩ main_is rfl
  (fun f fn hf hfn=>by
   obtain rfl:f=7:=Option.some.inj ((show Tryz.prog.funcNamed Rows.pledgeAddsRow.func=some 7 by kernel_rfl).symm.trans hf) |>.symm
   obtain rfl:fn=Tryz.f7:=(Option.some.inj (Tryz.func7.symm.trans hfn)).symm
   exact ⟨looks_not,fun j t ht=>param_plain t (by simpa using Array.mem_of_getElem? ht)⟩)
  goes
#print axioms pledgeAdds_holds
end Go.Proofs.YtedplhdabefnkaaGreatDoor
