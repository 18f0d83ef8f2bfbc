/- The law TopAround answers true at every input, and leaves its arguments as they were: the given statement TopAroundCardSaid, under no further condition. -/
import Derived.Test.YtmdbfgemefalmaaGreatDoorTieB
import Derived.Test.YtmdbfgemefalmaaGreatDoorFacts
import Derived.Test.YtmdbfgemefalmaaGreatDoorFactsB
import Derived.Test.YtmdbfgemefalmaaGreatDoorFactsC
import Derived.Test.YtmdbfgemefalmaaGreatDoorQAK
import Derived.Test.YtmdbfgemefalmaaGreatDoorQAT
import Derived.Test.YtmdbfgemefalmaaGreatDoorQAS
import Derived.Test.YtmdbfgemefalmaaGreatDoorCards
import Derived.Test.YtmdbfgemefalmaaGreatDoorRows
import Derived.Below
import Derived.WalkKit
import Derived.ProofKit
import Derived.OpenShut
import Derived.ShutString
import Derived.ChangeOld
import Derived.SizedLaws
import Derived.SliceStrings
import Derived.Deep.Grids
import Derived.SevenTiedAt
set_option linter.unusedVariables false
set_option maxHeartbeats 2000000
set_option maxRecDepth 100000
namespace Go.Proofs.YtmdbfgemefalmaaGreatDoor.topAround
open Go.ChangeShapes Go.WideShapes Go.ChangeAt Go.RowKit
open Go.ChangeMaps (open_string shut_string)
theorem handed{H:Type}{enc:TypeId×Value->H}{a:Assume}{C:Checked}{os:Os}{f:FuncId}{fn:Func}{s:ChangeSpec}{conds:List PathCond}{apart fresh handsOn again:Bool}{X:World->Array Value->Prop}
 (hX:∀(w w':World)(args:Array Value),w.heap=w'.heap->X w args->X w' args)
 (own:ownKnob C.prog.godebug=Option.none)(started:os.Started)(SH:C.prog.inits.idxOf? f=Option.none)(XM:C.prog.funcs[f]?=some fn)
 (witness:∃(w:World)(tape:Tape)(i:Input),w.os=os/\(w.forCall tape i).Shaped C.prog/\i.vars=[]/\Input.okWide C.prog (w.forCall tape i) .any w.heap.size f i/\
  ((s.pre enc C.prog fn conds apart (w.forCall tape i).memory i.args/\X (w.forCall tape i).memory i.args)/\sizedMet enc C.prog fn (OpenSpec.ofChange s) apart (w.forCall tape i).memory i.args)/\a.holds C.prog (lone (Frame.enter C.prog f i.args .normal) [] (w.forCall tape i)))
 (NQ:∀(W:World)(base:Nat)(args:Array Value)(ds gs:List (DataW H))(before:List MemPlace),
  (∀(j:Nat) t v,fn.params[j]?=some t->args[j]?=some v->Value.okWide C.prog W .any base t v)->
  DataW.Whole enc C.prog fn.params.toList s.vars apart W args.toList ds gs before->
  conds.all (PathCond.test C.prog ⟨fn.params.toList,ds,s.plain.varTypes C.prog,gs⟩)=true->X W args->W.ShapedOpen C.prog->
  Calls C.prog f args W λe W'=>∃v,e=.returned v/\s.post enc C.prog fn apart fresh handsOn again W args v W'):
 ReturnsInHanded a C os f .any (λw args=>(s.pre enc C.prog fn conds apart w args/\X w args)/\sizedMet enc C.prog fn (OpenSpec.ofChange s) apart w args) (s.post enc C.prog fn apart fresh handsOn again):=by
 refine returnsInHanded_of_calls own started SH witness ?_
 intro w tape i _ YR _ XJ XH _
 obtain⟨_,_,_,YW,XL,_,_,_,_,Nn⟩:=XJ
 have e:YW=fn:=Option.some.inj (XL.symm.trans XM)
 subst e
 obtain⟨⟨⟨ds,gs,before,hw,hc⟩,hx⟩,_⟩:=XH
 have YQ:=DataW.Whole.of_heap (w':=w.forCall tape i) (by rfl) hw
 refine(NQ (w.forCall tape i) w.heap.size i.args ds gs before Nn YQ hc (hX _ _ _ (by rfl) hx) YR).mono λe W'⟨v,he,hp⟩=>?_
 subst he
 exact ChangeSpec.post_blind hp
theorem Kw{W:World}(hs:W.ShapedOpen Tryz.prog)(hl:laidMetH Tryz.prog Rows.topAroundRow.laid W){zs:List Int}{a:Option Addr}{len:Nat}(YS:Go.Ex.Rd W.heap (zs.map (Value.int .i64)) a len)(cap:Nat)(Yx:Int):
 Calls Tryz.prog 4 #[.slice a len cap,.int .i64 Yx] W λe W'=>e=.returned (.bool true)/\Below W.heap.size W W':=by
 refine(Go.Proofs.fv.Na (Go.X.Pe hs hl) YS (cap:=cap) Yx W rfl).mono ?_
 rintro e w' ⟨v,rfl,Rp,r0,rfl,rfl,f⟩
 exact⟨rfl,Rp.os,Rp.tape,Rp.output,f.size,λi hi=>f.eO i hi λh=>h⟩
theorem own:ownKnob Tryz.prog.godebug=none:=by kernel_rfl
set_option maxRecDepth 100000 in
theorem lifted(os:Os)(started:os.Started)(H:Type)(enc:TypeId×Value->H):
 ReturnsInHanded {} Tryz.checked os 4 .any (λw args=>(Rows.topAroundSpec.pre enc Tryz.prog Tryz.f4 Rows.topAroundRow.domain false w args/\laidMetH Tryz.prog Rows.topAroundRow.laid w)/\sizedMet enc Tryz.prog Tryz.f4 (OpenSpec.ofChange Rows.topAroundSpec) false w args) (Rows.topAroundSpec.post enc Tryz.prog Tryz.f4 false true false false):=by
 refine handed (C:=Tryz.checked) (X:=λw _=>laidMetH Tryz.prog Rows.topAroundRow.laid w) (λ_ _ _ hh h=>h.of_heap hh) own started (by kernel_rfl) Tryz.func4
  (ChangeSpec.witness_shaped (enc:=enc) (C:=Tryz.checked) (os:=os) (X:=λw _=>laidMetH Tryz.prog Rows.topAroundRow.laid w) false (World.laidAll Tryz.prog os Rows.topAroundRow.laid) #[.slice none 0 0,.int .i64 0] 8 (World.laidAll_os _ _ _)
   (World.shaped_of_ZipB (by kernel_rfl) (by kernel_rfl)) (by kernel_rfl) (by kernel_rfl) (by kernel_rfl)
   (by rw[MakeChecks.laidMetH_plain _ _ _ (by kernel_rfl)];exact laidMet_laidAll _ (by kernel_rfl) (by kernel_rfl))) ?_
 intro W base args ds gs before RD hW YT hL hS
 have Nn:∀(j:Nat) t v,Tryz.f4.params[j]?=some t->args[j]?=some v->Value.okWide Tryz.prog W .any base t v:=RD
 have YU:=hW
 obtain⟨p,q,Yz,hV,rfl,Y3,XK⟩:=hW
 have hA:DataW.TrodAll enc Tryz.prog W 0 (λ_=>true) true Tryz.f4.params.toList args.toList ds p:=Yz
 rw[Tryz.params4] at hA Nn
 obtain⟨v0,Y1,d0,Y5,p0,q0,Yy,rfl,rfl,h0,r0⟩:=trodAll_cons hA
 obtain⟨v1,Y0,d1,Y4,p1,q1,rfl,rfl,rfl,h1,r1⟩:=trodAll_cons r0
 obtain⟨rfl,rfl,rfl⟩:=trodAll_nil r1
 obtain rfl:args=#[v0,v1]:=by cases args;simp_all
 obtain⟨rfl,rfl⟩:=trodVars_none hV
 obtain⟨a0,XD,XX,rfl⟩:=okWide_slice Tryz.underlying32 (Nn 0 32 v0 rfl rfl)
 have k0:=h0
 have YP:∀x∈p0,x.block<W.heap.size:=by obtain⟨m,hm⟩:=k0;exact DataW.trod_lt m _ _ _ hm
 obtain⟨z0,w0⟩:∃zs:List Int,Go.Ex.Rd W.heap (zs.map (Value.int .i64)) a0 XD:=by
  obtain⟨fuel,hf⟩:=h0
  rcases open_ints Tryz.underlying32 Tryz.underlying3 (by kernel_rfl) hf with⟨VG,_⟩|⟨x,l,c,zs,VG,_,hl,hm,hz,_,dL,Y2⟩
  .simp[Value.cells] at VG
   obtain⟨rfl,rfl,rfl⟩:=VG
   exact⟨[],Go.Ex.Px _⟩
  .simp[Value.cells] at VG
   obtain⟨rfl,rfl,rfl⟩:=VG
   exact⟨_,Go.Ex.Py (by simp at hz;omega) dL⟩
 obtain⟨a1,rfl,rfl,rfl,w1⟩:=open_int Tryz.underlying3 (Nn 1 3 v1 rfl rfl) h1
 clear Yz RD
 refine(Kw hS hL w0 XX a1).mono λe W'⟨he,YC⟩=>?_
 subst he
 exact⟨_,rfl,_,_,_,[],_,[],YU,trodAll_mk1 (shut_bool Tryz.underlying4 _),(trodAll_cons_mk (Below.trod Nv (by kernel_rfl) (of_decide_eq_true (by kernel_rfl)) k0 YC YP) (trodAll_cons_mk (shut_int Tryz.underlying3 w1) trodAll_mk0)),rfl,YC.frame _,λh=>by cases h⟩
theorem over:Rows.topAroundRow.holds Tryz.pinned (OpenSpec.ofChange Rows.topAroundSpec):=
 OpenClaim.holds_of_wide 4 Tryz.f4 rfl rfl rfl rfl rfl rfl rfl ⟨rfl,rfl,rfl,rfl,rfl⟩ rfl rfl rfl rfl rfl MZ Tryz.func4 facts
  (of_decide_eq_true (by kernel_rfl)) (by unfold Func.isWrapper;first|(rw[if_pos (by decide+kernel)];kernel_rfl)|(rw[if_neg (by decide+kernel)];exact⟨rfl,rfl⟩))
  (λos started H enc _=>lifted os started H enc)
end Go.Proofs.YtmdbfgemefalmaaGreatDoor.topAround
namespace Go.Proofs.YtmdbfgemefalmaaGreatDoor
theorem topAround_card_holds:Rows.TopAroundCardSaid:=
 Claim7.holds_tied_plain_at .later [] [.pinned,.data,.data,.data,.pinned,.data,.data,.data,.sentinel,.sentinel] true (true,"74fb7dd89415cd04b538cf0cfa897cbe257506c771c62d9592dfd590cb617ed2") true
  topAround.over (λ_ h=>by cases h) TL (λ_ h=>by cases h) wI rfl ⟨rfl,rfl⟩ mainIs rfl
  (λf fn hf XM=>by
   obtain rfl:f=4:=Option.some.inj (MZ.symm.trans hf) |>.symm
   obtain rfl:fn=Tryz.f4:=(Option.some.inj (Tryz.func4.symm.trans XM)).symm
   exact⟨looks,λj t ht=>by
    rw[Tryz.params4] at ht
    have ht:=Array.mem_of_getElem? ht
    simp only[List.mem_toArray,List.mem_cons,List.not_mem_nil,or_false] at ht
    rcases ht with rfl|rfl
    .exact(show Tryz.prog.wantsStandIn 32=false by kernel_rfl)
    .exact(show Tryz.prog.wantsStandIn 3=false by kernel_rfl)⟩)
  goes
#print axioms topAround_card_holds
end Go.Proofs.YtmdbfgemefalmaaGreatDoor
