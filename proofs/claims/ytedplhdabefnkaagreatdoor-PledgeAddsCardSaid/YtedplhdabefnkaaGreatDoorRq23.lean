import Derived.Test.YtedplhdabefnkaaGreatDoorRq15
namespace Go.Rq.Cl
open Go Go.Proofs Go.Rq Go.Rq.Sm
set_option maxRecDepth 1000000 in
theorem b1_rounds_b (R:Int->Int->Int) (s b w:Nat->Int) (wb:Bool):(List.range 64).map (fun t=>(roundT PR (bkE R) [] (fun _=>none) 10 (b1K (.row wb)) (b1K (.row wb)) (b1K (.row wb)) b1C (b1I R s b (.row wb) (t,w))).strict) =
 (List.range 64).map (fun t=>.leaf (.normal,b1I R s b (.row wb) (t+1,upd w t (wv R b w t)))):=by kernel_rfl
set_option maxRecDepth 1000000 in
theorem b1_end_b (R:Int->Int->Int) (s b w:Nat->Int) (wb:Bool):(roundT PR (bkE R) [] (fun _=>none) 10 (b1K (.row wb)) (b1K (.row wb)) (b1K (.row wb)) b1C (b1I R s b (.row wb) (64,w))).strict=.leaf (.exit 0,b1I R s b (.row wb) (64,w)):=by kernel_rfl
set_option maxRecDepth 1000000 in
theorem b1_head_b (R:Int->Int->Int) (s b:Nat->Int) (wb:Bool):b1X R s b (.row wb)=b1I R s b (.row wb) (0,fun _=>0):=by kernel_rfl
set_option maxRecDepth 1000000 in
theorem b2_rounds0_b (R:Int->Int->Int) (s b w v:Nat->Int) (wb:Bool):(List.range 16).map (fun t=>(roundT PR (bkE R) [] (fun _=>none) 10 (b2K (.row wb)) (b2K (.row wb)) (b2K (.row wb)) b2C (b2I R s b (.row wb) w (0+t,v))).strict) =
 (List.range 16).map (fun t=>.leaf (.normal,b2I R s b (.row wb) w (0+t+1,rv R w v (0+t)))):=by kernel_rfl
set_option maxRecDepth 1000000 in
theorem b2_rounds1_b (R:Int->Int->Int) (s b w v:Nat->Int) (wb:Bool):(List.range 16).map (fun t=>(roundT PR (bkE R) [] (fun _=>none) 10 (b2K (.row wb)) (b2K (.row wb)) (b2K (.row wb)) b2C (b2I R s b (.row wb) w (16+t,v))).strict) =
 (List.range 16).map (fun t=>.leaf (.normal,b2I R s b (.row wb) w (16+t+1,rv R w v (16+t)))):=by kernel_rfl
set_option maxRecDepth 1000000 in
theorem b2_rounds2_b (R:Int->Int->Int) (s b w v:Nat->Int) (wb:Bool):(List.range 16).map (fun t=>(roundT PR (bkE R) [] (fun _=>none) 10 (b2K (.row wb)) (b2K (.row wb)) (b2K (.row wb)) b2C (b2I R s b (.row wb) w (32+t,v))).strict) =
 (List.range 16).map (fun t=>.leaf (.normal,b2I R s b (.row wb) w (32+t+1,rv R w v (32+t)))):=by kernel_rfl
set_option maxRecDepth 1000000 in
theorem b2_rounds3_b (R:Int->Int->Int) (s b w v:Nat->Int) (wb:Bool):(List.range 16).map (fun t=>(roundT PR (bkE R) [] (fun _=>none) 10 (b2K (.row wb)) (b2K (.row wb)) (b2K (.row wb)) b2C (b2I R s b (.row wb) w (48+t,v))).strict) =
 (List.range 16).map (fun t=>.leaf (.normal,b2I R s b (.row wb) w (48+t+1,rv R w v (48+t)))):=by kernel_rfl
set_option maxRecDepth 1000000 in
theorem b2_end_b (R:Int->Int->Int) (s b w v:Nat->Int) (wb:Bool):(roundT PR (bkE R) [] (fun _=>none) 10 (b2K (.row wb)) (b2K (.row wb)) (b2K (.row wb)) b2C (b2I R s b (.row wb) w (64,v))).strict=.leaf (.exit 2,b2I R s b (.row wb) w (64,v)):=by kernel_rfl
set_option maxRecDepth 1000000 in
theorem b2_head_b (R:Int->Int->Int) (s b w:Nat->Int) (wb:Bool):b2X R s b (.row wb) w=b2I R s b (.row wb) w (0,s):=by kernel_rfl
set_option maxRecDepth 1000000 in
theorem b3_rounds_b (R:Int->Int->Int) (s b w v z:Nat->Int) (wb:Bool):(List.range 8).map (fun t=>(roundT PR (bkE R) [] (fun _=>none) 10 (b3K (.row wb)) (b3K (.row wb)) (b3K (.row wb)) b3C (b3I R s b (.row wb) w v (t,z))).strict) =
 (List.range 8).map (fun t=>.leaf (.normal,b3I R s b (.row wb) w v (t+1,zv v z t))):=by kernel_rfl
set_option maxRecDepth 1000000 in
theorem b3_end_b (R:Int->Int->Int) (s b w v z:Nat->Int) (wb:Bool):(roundT PR (bkE R) [] (fun _=>none) 10 (b3K (.row wb)) (b3K (.row wb)) (b3K (.row wb)) b3C (b3I R s b (.row wb) w v (8,z))).strict=.leaf (.exit 4,b3I R s b (.row wb) w v (8,z)):=by kernel_rfl
set_option maxRecDepth 1000000 in
theorem b3_head_b (R:Int->Int->Int) (s b w v:Nat->Int) (wb:Bool):b3X R s b (.row wb) w v=b3I R s b (.row wb) w v (0,s):=by kernel_rfl
set_option maxRecDepth 1000000 in
theorem bk_run_b (R:Int->Int->Int) (s b w v z:Nat->Int) (wb:Bool):((afun PR (bkE R) [] (tabOf [(0,b1B R s b (.row wb) w),(2,b2B R s b (.row wb) w v),(4,b3B R s b (.row wb) w v z)]) 10 225 (bpArgs (.row wb)) (bpHeap s b (.row wb)) (bpN (.row wb))).bind fun q=>.leaf (AV.tup [q.1,bkOut q.2])).strict =
 .same (b1X R s b (.row wb)) (b1X R s b (.row wb)) (.same (b2X R s b (.row wb) w) (b2X R s b (.row wb) w) (.same (b3X R s b (.row wb) w v) (b3X R s b (.row wb) w v) (.leaf (.tup [.tup [],bkOut (bpHeap2 z b (.row wb))])))):=by kernel_rfl
end Go.Rq.Cl
