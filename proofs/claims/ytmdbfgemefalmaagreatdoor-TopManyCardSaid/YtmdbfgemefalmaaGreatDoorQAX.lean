/- Part AX of the proof that the law TopMany answers true at every input, under no condition. -/
import Derived.Test.YtmdbfgemefalmaaGreatDoorQAW
import Derived.RangeFuncBox
import Derived.RangeFuncLeaves
import Derived.Shelf.Abstract
import Derived.WalkKit
import Derived.OwnWalkIn
import Derived.TacticsInMore
import Derived.LoopNIn
import Derived.LoopIn
set_option linter.unusedVariables false
set_option maxHeartbeats 2000000
set_option maxRecDepth 100000
namespace Go.Proofs
open Go.RowKit Go.Shelf
attribute [local go_sem] Oper.semAt_some
set_option maxRecDepth 100000 in
set_option maxHeartbeats 1000000 in
theorem back_in(F:Fence)(n:Nat)(h8:F.fn 281)(hro:F.round=none)(hn:1<=n)(l Bs b off len cap:Nat)(zs:List Int)(hreach:len<=1000000)(J:Nat->World->Prop)
 (hJ:∀k W,J k W->W.cell? ⟨Bs,0,none⟩=some (.slice (some ⟨b,off,none⟩) len cap)/\∀j,j<len->W.cell? ⟨b,off+j,none⟩=some (.int .i64 (zs[j]?.getD 0)))
 (hY:∀k W,J (k+1) W->k<len->YieldAt F (n-1) Tryz.prog l #[.int .i64 (k:Int),.int .i64 (zs[k]?.getD 0)] W λe W'=>e=.returned (.bool true)/\J k W')
 (W:World)(h0:J len W):
 CallsIn F n Tryz.prog 281 #[.func (.yield l) #[] #[],.pointer (some ⟨Bs,0,none⟩)] W λe W'=>(∃v,e=.returned v)/\J 0 W':=by
 refine callsIn_of_wp Tryz.func281 rfl h8 ?_ hro
 simp only[Tryz.ntmps281,List.size_toArray,List.length_cons,List.length_nil,Nat.reduceAdd,Nat.reduceSub,Array.replicate_succ,Array.replicate_zero,List.push_toArray,List.append_toArray,List.nil_append,List.cons_append]
 have hc0:=(hJ _ _ h0).1
 gi_wp2
 gi_loopw [3] (λi wr=>∃k:Nat,k<=len/\i=.int .i64 ((k:Int)-1)/\J k wr)
  (λi _=>(intOf i+1).toNat)
 case atStart=>
  exact⟨len,Nat.le_refl _,rfl,h0⟩
 case round=>
  obtain⟨k,hk,rfl,hJs⟩:=hrel
  have hjk:=hJ _ _ hJs
  rcases k with _|k
  ·gi_wp2
   go_end0
   exact⟨⟨_,rfl⟩,hJs⟩
  ·obtain⟨fn,tmps,assign,body,hy,hR⟩:=hY k wr hJs (by omega)
   have hsl:=hjk.1
   have hcx:=hjk.2 k (by omega)
   have hkk:((k+1:Nat):Int)-1=(k:Int):=by omega
   rw[hkk]
   gi_wp2
   refine hR.mono ?_
   rintro e W3 ⟨rfl,hJ3⟩
   gi_wp2
   go_roundw
   case rel=>exact⟨k,by omega,by simp,hJ3⟩
   case measure=>simp[intOf]
theorem back_ok:Go.X.BackOk Tryz.prog 281:=λl Bs b off len cap zs J hlen hJ hY W h0=>callsIn_wide.1 (back_in Fence.wide 1 trivial rfl (Nat.le_refl _) l Bs b off len cap zs hlen J hJ hY W h0)
end Go.Proofs
