/- The law TopMany answers true at every input, and leaves its arguments as they were: the given statement TopManyCardSaid, under no further condition. -/
import Derived.Test.YtmdbfgemefalmaaGreatDoorTieB
import Derived.Test.YtmdbfgemefalmaaGreatDoorFacts
import Derived.Test.YtmdbfgemefalmaaGreatDoorFactsB
import Derived.Test.YtmdbfgemefalmaaGreatDoorFactsC
import Derived.Test.YtmdbfgemefalmaaGreatDoorQAK
import Derived.Test.YtmdbfgemefalmaaGreatDoorQAY
import Derived.Test.YtmdbfgemefalmaaGreatDoorCards
import Derived.Test.YtmdbfgemefalmaaGreatDoorRows
import Derived.Below
import Derived.WalkKit
import Derived.ProofKit
import Derived.OpenShut
import Derived.ShutString
import Derived.ChangeOld
import Derived.SizedLaws
import Derived.SliceStrings
import Derived.Deep.Grids
import Derived.SevenTiedAt
set_option linter.unusedVariables false
set_option maxHeartbeats 2000000
set_option maxRecDepth 100000
namespace Go.Proofs.YtmdbfgemefalmaaGreatDoor.topMany
open Go.ChangeShapes Go.WideShapes Go.ChangeAt Go.RowKit
open Go.ChangeMaps (open_string shut_string)
theorem handed{H:Type}{enc:TypeId×Value->H}{a:Assume}{C:Checked}{os:Os}{f:FuncId}{fn:Func}{s:ChangeSpec}{conds:List PathCond}{apart fresh handsOn again:Bool}{X:World->Array Value->Prop}
 (hX:∀(w w':World)(args:Array Value),w.heap=w'.heap->X w args->X w' args)
 (own:ownKnob C.prog.godebug=Option.none)(started:os.Started)(ag5:C.prog.inits.idxOf? f=Option.none)(X5:C.prog.funcs[f]?=some fn)
 (witness:∃(w:World)(tape:Tape)(i:Input),w.os=os/\(w.forCall tape i).Shaped C.prog/\i.vars=[]/\Input.okWide C.prog (w.forCall tape i) .any w.heap.size f i/\
  ((s.pre enc C.prog fn conds apart (w.forCall tape i).memory i.args/\X (w.forCall tape i).memory i.args)/\sizedMet enc C.prog fn (OpenSpec.ofChange s) apart (w.forCall tape i).memory i.args)/\a.holds C.prog (lone (Frame.enter C.prog f i.args .normal) [] (w.forCall tape i)))
 (YL:∀(W:World)(base:Nat)(args:Array Value)(ds gs:List (DataW H))(before:List MemPlace),
  (∀(j:Nat) t v,fn.params[j]?=some t->args[j]?=some v->Value.okWide C.prog W .any base t v)->
  DataW.Whole enc C.prog fn.params.toList s.vars apart W args.toList ds gs before->
  conds.all (PathCond.test C.prog ⟨fn.params.toList,ds,s.plain.varTypes C.prog,gs⟩)=true->X W args->W.ShapedOpen C.prog->
  Calls C.prog f args W λe W'=>∃v,e=.returned v/\s.post enc C.prog fn apart fresh handsOn again W args v W'):
 ReturnsInHanded a C os f .any (λw args=>(s.pre enc C.prog fn conds apart w args/\X w args)/\sizedMet enc C.prog fn (OpenSpec.ofChange s) apart w args) (s.post enc C.prog fn apart fresh handsOn again):=by
 refine returnsInHanded_of_calls own started ag5 witness ?_
 intro w tape i _ uw _ lu aht _
 obtain⟨_,_,_,ZG,aqG,_,_,_,_,xw⟩:=lu
 have e:ZG=fn:=Option.some.inj (aqG.symm.trans X5)
 subst e
 obtain⟨⟨⟨ds,gs,before,hw,hc⟩,hx⟩,_⟩:=aht
 have LY:=DataW.Whole.of_heap (w':=w.forCall tape i) (by rfl) hw
 refine(YL (w.forCall tape i) w.heap.size i.args ds gs before xw LY hc (hX _ _ _ (by rfl) hx) uw).mono λe W'⟨v,he,hp⟩=>?_
 subst he
 exact ChangeSpec.post_blind hp
theorem S5{W:World}(hs:W.ShapedOpen Tryz.prog)(hl:laidMetH Tryz.prog Rows.topManyRow.laid W)(n deep:Int):
 Calls Tryz.prog 3 #[.int .i64 n,.int .i64 deep] W λe W'=>e=.returned (.bool true)/\Below W.heap.size W W':=by
 refine(Go.Proofs.iQ.Xy (Go.X.acM hs hl) n deep W rfl).mono ?_
 rintro e w' ⟨v,rfl,tP,r0,rfl,rfl,f⟩
 exact⟨rfl,tP.os,tP.tape,tP.output,f.size,λi hi=>f.fy i hi λh=>h⟩
theorem own:ownKnob Tryz.prog.godebug=none:=by kernel_rfl
set_option maxRecDepth 100000 in
theorem lifted(os:Os)(started:os.Started)(H:Type)(enc:TypeId×Value->H):
 ReturnsInHanded {} Tryz.checked os 3 .any (λw args=>(Rows.topManySpec.pre enc Tryz.prog Tryz.f3 Rows.topManyRow.domain false w args/\laidMetH Tryz.prog Rows.topManyRow.laid w)/\sizedMet enc Tryz.prog Tryz.f3 (OpenSpec.ofChange Rows.topManySpec) false w args) (Rows.topManySpec.post enc Tryz.prog Tryz.f3 false true false false):=by
 refine handed (C:=Tryz.checked) (X:=λw _=>laidMetH Tryz.prog Rows.topManyRow.laid w) (λ_ _ _ hh h=>h.of_heap hh) own started (by kernel_rfl) Tryz.func3
  (ChangeSpec.witness_shaped (enc:=enc) (C:=Tryz.checked) (os:=os) (X:=λw _=>laidMetH Tryz.prog Rows.topManyRow.laid w) false (World.laidAll Tryz.prog os Rows.topManyRow.laid) #[.int .i64 0,.int .i64 0] 8 (World.laidAll_os _ _ _)
   (World.shaped_of_ZipB (by kernel_rfl) (by kernel_rfl)) (by kernel_rfl) (by kernel_rfl) (by kernel_rfl)
   (by rw[MakeChecks.laidMetH_plain _ _ _ (by kernel_rfl)];exact laidMet_laidAll _ (by kernel_rfl) (by kernel_rfl))) ?_
 intro W base args ds gs before aff hW asF hL hS
 have xw:∀(j:Nat) t v,Tryz.f3.params[j]?=some t->args[j]?=some v->Value.okWide Tryz.prog W .any base t v:=aff
 have hW':=hW
 obtain⟨p,q,Zt,hV,rfl,X4,FO⟩:=hW
 have hA:DataW.TrodAll enc Tryz.prog W 0 (λ_=>true) true Tryz.f3.params.toList args.toList ds p:=Zt
 rw[Tryz.params3] at hA xw
 obtain⟨v0,vs0,d0,ds0,p0,q0,afu,rfl,rfl,h0,r0⟩:=trodAll_cons hA
 obtain⟨v1,vs1,d1,ds1,p1,q1,rfl,rfl,rfl,h1,r1⟩:=trodAll_cons r0
 obtain⟨rfl,rfl,rfl⟩:=trodAll_nil r1
 obtain rfl:args=#[v0,v1]:=by cases args;simp_all
 obtain⟨rfl,rfl⟩:=trodVars_none hV
 obtain⟨a0,rfl,rfl,rfl,w0⟩:=open_int Tryz.underlying3 (xw 0 3 v0 rfl rfl) h0
 obtain⟨a1,rfl,rfl,rfl,w1⟩:=open_int Tryz.underlying3 (xw 1 3 v1 rfl rfl) h1
 clear Zt aff
 refine(S5 hS hL a0 a1).mono λe W'⟨he,bel⟩=>?_
 subst he
 exact⟨_,rfl,_,_,_,[],_,[],hW',trodAll_mk1 (shut_bool Tryz.underlying4 _),(trodAll_cons_mk (shut_int Tryz.underlying3 w0) (trodAll_cons_mk (shut_int Tryz.underlying3 w1) trodAll_mk0)),rfl,bel.frame _,λh=>by cases h⟩
theorem over:Rows.topManyRow.holds Tryz.pinned (OpenSpec.ofChange Rows.topManySpec):=
 OpenClaim.holds_of_wide 3 Tryz.f3 rfl rfl rfl rfl rfl rfl rfl ⟨rfl,rfl,rfl,rfl,rfl⟩ rfl rfl rfl rfl rfl ag9 Tryz.func3 facts
  (of_decide_eq_true (by kernel_rfl)) (by unfold Func.isWrapper;first|(rw[if_pos (by decide+kernel)];kernel_rfl)|(rw[if_neg (by decide+kernel)];exact⟨rfl,rfl⟩))
  (λos started H enc _=>lifted os started H enc)
end Go.Proofs.YtmdbfgemefalmaaGreatDoor.topMany
namespace Go.Proofs.YtmdbfgemefalmaaGreatDoor
theorem topMany_card_holds:Rows.TopManyCardSaid:=
 Claim7.holds_tied_plain_at .later [] [.pinned,.data,.data,.data,.pinned,.data,.data,.data,.sentinel,.sentinel] true (true,"74fb7dd89415cd04b538cf0cfa897cbe257506c771c62d9592dfd590cb617ed2") true
  topMany.over (λ_ h=>by cases h) ara (λ_ h=>by cases h) Cg rfl ⟨rfl,rfl⟩ mainIs rfl
  (λf fn hf X5=>by
   obtain rfl:f=3:=Option.some.inj (ag9.symm.trans hf) |>.symm
   obtain rfl:fn=Tryz.f3:=(Option.some.inj (Tryz.func3.symm.trans X5)).symm
   exact⟨looks,λj t ht=>by
    rw[Tryz.params3] at ht
    have ht:=Array.mem_of_getElem? ht
    simp only[List.mem_toArray,List.mem_cons,List.not_mem_nil,or_false] at ht
    rcases ht with rfl|rfl
    ·exact(show Tryz.prog.wantsStandIn 3=false by kernel_rfl)
    ·exact(show Tryz.prog.wantsStandIn 3=false by kernel_rfl)⟩)
  goes
#print axioms topMany_card_holds
end Go.Proofs.YtmdbfgemefalmaaGreatDoor
