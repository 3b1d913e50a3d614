import Derived.Test.YtedplhdabefnkaaGreatDoorProg
import Derived.Test.YtedplhdabefnkaaGreatDoorRq04
import Derived.RangeFuncLeaves
import Derived.Shelf.Abstract
import Derived.WalkKit
import Derived.OwnWalkIn
import Derived.TacticsInMore
import Derived.LoopNIn
import Derived.LoopIn
namespace Go.Rq.Vl
open Go Go.Proofs Go.Rq Go.RowKit Go.Shelf
attribute [local go_sem] Oper.semAt_some
def iGet (i:Value):Int:=match i with
 | .int _ z=>z
 | _=>0
def row6 (cv:Nat->Nat->Value) (j:Nat):Value:=.agg #[cv j 0,cv j 1,cv j 2,cv j 3,cv j 4,cv j 5]
set_option maxRecDepth 100000 in
set_option maxHeartbeats 4000000 in
theorem back_seq (F:Fence) (n:Nat) (hf:F.fn 186) (hro:F.round=none) (hn:1 <= n) (Bs len:Nat) (hl63:len*8 <= 140737488351232) (cv:Nat->Nat->Value) (Lies:World->Prop)
 (hL:∀ W,Lies W->∃ b off cap,W.cell? ⟨Bs,0,none⟩=some (.slice (some ⟨b,off,none⟩) len cap) /\ ∀ j c,j < len->c < 6->W.cell? ⟨b,off+j*6+c,none⟩=some (cv j c)) :
 SeqAt F n Tryz.prog 186 #[.pointer (some ⟨Bs,0,none⟩)] (fun k=>#[.int .i64 ((len:Int) - 1 - k),row6 cv (len - 1 - k)]) Lies len:=by
 intro l J W hLies hY h0
 refine callsIn_of_wp Tryz.func186 rfl hf ?_ hro
 have hnt:Tryz.f186.ntmps=19:=rfl
 simp only [hnt,List.size_toArray,List.length_cons,List.length_nil,Nat.reduceAdd,Nat.reduceSub,Array.replicate_succ,Array.replicate_zero,List.push_toArray,List.append_toArray,List.nil_append,List.cons_append]
 obtain ⟨b,off,cap,hc0,he0⟩:=hL W (hLies _ _ h0)
 gi_wp2
 gi_loopw [3] (fun i wr=>∃ k:Nat,k <= len /\ i=.int .i64 ((len:Int) - 1 - k) /\ J k wr) (fun i _=>(iGet i+1).toNat)
 case atStart =>
  refine ⟨0,Nat.zero_le _,?_,h0⟩
  simp
 case round =>
  obtain ⟨k,hk,rfl,hJs⟩:=hrel
  obtain ⟨b,off,cap,hc,he⟩:=hL wr (hLies _ _ hJs)
  by_cases hlt:k < len
  . obtain ⟨fn,tmps,assign,body,hy,hR⟩:=hY k wr hJs hlt
    unfold row6 at hy
    have e0:=he (len - 1 - k) 0 (by omega) (by omega)
    have e1:=he (len - 1 - k) 1 (by omega) (by omega)
    have e2:=he (len - 1 - k) 2 (by omega) (by omega)
    have e3:=he (len - 1 - k) 3 (by omega) (by omega)
    have e4:=he (len - 1 - k) 4 (by omega) (by omega)
    have e5:=he (len - 1 - k) 5 (by omega) (by omega)
    rw [Nat.add_zero] at e0
    gi_wp2
    refine hR.mono ?_
    rintro e W3 ⟨rfl,hJ3⟩
    gi_wp2
    go_roundw
    case rel =>
     refine ⟨k+1,by omega,?_,hJ3⟩
     rw [show (len:Int) - 1 - k - 1=(len:Int) - 1 - ((k+1:Nat):Int) by omega]
    case measure =>
     simp only [iGet]
     omega
  . obtain rfl:k=len:=by omega
    gi_wp2
    go_end0
    exact ⟨⟨_,rfl⟩,hJs⟩
end Go.Rq.Vl
