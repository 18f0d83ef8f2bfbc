/- Part AW of the proof that the law TopMany answers true at every input, under no condition. -/
import Derived.Test.YtmdbfgemefalmaaGreatDoorQAV
import Derived.RangeFuncSeq
set_option linter.unusedVariables false
set_option maxHeartbeats 2000000
set_option maxRecDepth 100000
namespace Go.X
open Go.Ex
variable {P:Program} {N:Nat}
def Sp(P:Program)(N:Nat):Code->Env->(Env->Heap->Prop)->Heap->Prop
 |.skip,e,k,H=>k e H
 |.region _ ops false,e,k,H=>bif gm N ops&&ops.toList.all IW then K1 P ops ops.toList 0 e H k else False
 |.seq x y,e,k,H=>Sp P N x e (λe H=>Sp P N y e k H) H
 |.cond c x y,e,k,H=>o1 e c λv=>(match v with
  |.bool b=>gn b (Sp P N x e k H) (Sp P N y e k H)
  |_=>False)
 |.block _ x,e,k,H=>Sp P N x e k H
 |_,_,_,_=>False
theorem GO(hp:j0 P=true){ro:Option Nat}{m:Nat}{Ds:List Deferred}:∀(c:Code)(e:Env)(k:Env->Heap->Prop)(a:Act)(w:World)(Q:Exit->Act->World->Prop),Sp P N c e k w.heap->Mt N Ds a e->
 (∀a' w' e',Mt N Ds a' e'->dV w w'->k e' w'.heap->Q .normal a' w')->c.wpIn (FW ro) m P Q a w:=by
 intro c
 induction c with
 |skip=>intro e k a w Q h hm hQ;exact wpIn_skip (hQ a w e hm (dV.refl w) h)
 |region id ops draw=>
  intro e k a w Q h hm hQ
  cases draw with
  |true=>exact h.elim
  |false=>
   unfold Sp at h
   obtain⟨hN,h⟩:=kJ h
   obtain⟨hN,FO⟩:=gQ hN
   exact wpIn_region_list (sI hp hN w (λa' w' e' fj fU hk=>hQ a' w' e' fj fU hk) ops.toList 0 e a w (λo ho=>by simpa using ho) (λo ho=>List.all_eq_true.1 FO o ho) (ae2 hp _ _ _ _ h) hm (dV.refl w))
 |seq x y ZL XG=>
  intro e k a w Q h hm hQ
  refine wpIn_seq (ZL _ _ a w _ h hm λa' w' e' fj fU hk=>?_)
  exact XG _ _ a' w' Q hk fj λa2 w2 e2 xV wK Ar=>hQ a2 w2 e2 xV (fU.trans wK) Ar
 |cond c x y ZL XG=>
  intro e k a w Q h hm hQ
  unfold Sp at h
  obtain⟨v,hv,h⟩:=ma h
  split at h
  ·rename_i b
   cases b with
   |true=>exact wpIn_cond_true (hm.eval hv) (ZL _ _ a w Q h hm hQ)
   |false=>exact wpIn_cond_false (hm.eval hv) (XG _ _ a w Q h hm hQ)
  ·exact h.elim
 |block id x ih=>
  intro e k a w Q h hm hQ
  exact wpIn_block (ih _ _ a w _ h hm λa' w' e' fj fU hk=>hQ a' w' e' fj fU hk)
 |_=>intro e k a w Q h;exact h.elim
def BackOk(P:Program)(f:FuncId):Prop:=∀(l Bs b off len cap:Nat)(zs:List Int)(J:Nat->World->Prop),len<=1000000->
 (∀k W,J k W->W.cell? ⟨Bs,0,none⟩=some (.slice (some ⟨b,off,none⟩) len cap)/\∀j,j<len->W.cell? ⟨b,off+j,none⟩=some (.int .i64 (zs[j]?.getD 0)))->
 (∀k W,J (k+1) W->k<len->YieldAt Fence.wide 0 P l #[.int .i64 (k:Int),.int .i64 (zs[k]?.getD 0)] W λe W'=>e=.returned (.bool true)/\J k W')->
 ∀W,J len W->Calls P f #[.func (.yield l) #[] #[],.pointer (some ⟨Bs,0,none⟩)] W λe W'=>(∃v,e=.returned v)/\J 0 W'
theorem WL(hp:j0 P=true){f:FuncId}(hf:∃fn,P.funcs[f]?=some fn/\fn.body.isSome=true)(Mi:BackOk P f){g:Operand}{p0 p1:Tmp}{assign body:Code}{e:Env}{a:Act}{w:World}{Q:Exit->Act->World->Prop}(hm:Mt N [] a e)(J1:p0<N)(qD:p1<N)
 {Bs b off len cap:Nat}{zs:List Int}(hlen:len<=1000000)(hg:mo e g=some (.func (.func f) #[] #[.pointer (some ⟨Bs,0,none⟩)]))(J:Loop->Nat->Heap->Prop)
 (fC:∀r:Loop,r.state=.ready->r.pending=none->
  (∀k H,J r k H->dj H ⟨Bs,0,none⟩=some (.slice (some ⟨b,off,none⟩) len cap)/\(∀j,j<len->dj H ⟨b,off+j,none⟩=some (.int .i64 (zs[j]?.getD 0)))/\H[w.heap.size+1]?=some (.loop r))/\
  J r len ((w.heap.push (.deferred (some []))).push (.loop r))/\
  (∀k H,J r (k+1) H->k<len->Sp P N assign (put (put e (some p0) (.int .i64 (k:Int))) (some p1) (.int .i64 (zs[k]?.getD 0))) (λe1 H1=>H1[w.heap.size+1]?=some (.loop r)/\
   Sp P N body e1 (λ_ H2=>H2[w.heap.size+1]?=some (.loop {r with state:=.busy})/\J r k (H2.setIfInBounds (w.heap.size+1) (.loop r))) (H1.setIfInBounds (w.heap.size+1) (.loop {r with state:=.busy}))) H)/\
  ∀w',J r 0 w'.heap->dV w w'->Q .normal {a with defers:=[{target:=.collected w.heap.size,args:=#[]}]} (w'.putObj (w.heap.size+1) (.loop {r with state:=.exhausted}))):
 (Code.rangeFunc g #[p0,p1] assign body).wp P Q a w:=by
 refine(wpIn_wide (n:=0)).1 (wpIn_rangeFunc (F:=Fence.wide) λCr _=>?_)
 obtain⟨dr,Cq⟩:∃dr,dr=w.heap.size:=⟨_,rfl⟩
 obtain⟨l,hl⟩:∃l,l=w.heap.size+1:=⟨_,rfl⟩
 obtain⟨rc,QI⟩:∃rc,rc=ry Cr a.tmps #[p0,p1] assign body dr:=⟨_,rfl⟩
 obtain⟨w1,yw⟩:∃w1,w1=(w.alloc (.deferred (some []))).alloc (.loop rc):=⟨_,rfl⟩
 obtain⟨h1,h2,h3,h4⟩:=fC rc (by rw[QI];rfl) (by rw[QI];rfl)
 rw[<-hl] at h1 h3 h4
 have vQ:a.eval g=.func (.func f) #[] #[.pointer (some ⟨Bs,0,none⟩)]:=hm.eval hg
 have ahI:(Instr.enterLoop Cr a.tmps #[p0,p1] assign body Fence.wide.round).run P w=.ok (l,[{target:=.collected dr,args:=#[]}]) w1:=by
  rw[yw,QI,hl,Cq]
  exact run_enterLoop_outer Cr a.tmps #[p0,p1] assign body
 have xx:(resolve a.eval (rangeCall g l) 0).run P w1=.ok {target:=.fn (.func f) #[.pointer (some ⟨Bs,0,none⟩)],args:=#[]++#[.func (.yield l) #[] #[]]} w1:=by
  have hy:a.eval (.const (.func (.yield l) #[] #[]))=.func (.yield l) #[] #[]:=rfl
  unfold resolve
  simp only[List.map_toArray,List.map_cons,List.map_nil,vQ,hy]
  rfl
 obtain⟨fn,X5,Uj⟩:=hf
 refine⟨l,_,w1,_,w1,f,#[.func (.yield l) #[] #[],.pointer (some ⟨Bs,0,none⟩)],w1,ahI,xx,λ_ _=>trivial,?_,λhd=>(by cases hd),callsIn_wide.2 ?_⟩
 ·show(callFunc f _).run P w1=_
  exact sw hp X5 Uj _ w1
 ·refine(Mi l Bs b off len cap zs (λk W=>dV w W/\J rc k W.heap) hlen (λk W⟨_,hj⟩=>?_) (λk W⟨hs,hj⟩ hk=>?_) w1 ⟨?_,?_⟩).mono ?_
  ·obtain⟨q1,q2,_⟩:=h1 k W.heap hj
   exact⟨by rw[kA];exact q1,λj hj=>by rw[kA];exact q2 j hj⟩
  ·obtain⟨_,_,hlr⟩:=h1 _ _ hj
   refine⟨Cr,((a.tmps.setIfInBounds p0 (.int .i64 (k:Int))).setIfInBounds p1 (.int .i64 (zs[k]?.getD 0))),assign,body,?_,?_⟩
   ·have:=run_yield (P:=P) (w:=W) (r:=rc) (args:=#[.int .i64 (k:Int),.int .i64 (zs[k]?.getD 0)]) hlr (by rw[QI];rfl)
    rw[QI] at this
    simpa[ry] using this
   ·refine roundIn_of_wpIn (F:=FW none) trivial ?_
    show assign.wpIn (FW (some l)) 0 P _ _ W
    have qW:Mt N [] {tmps:=(a.tmps.setIfInBounds p0 (.int .i64 (k:Int))).setIfInBounds p1 (.int .i64 (zs[k]?.getD 0)),defers:=[]} (put (put e (some p0) (.int .i64 (k:Int))) (some p1) (.int .i64 (zs[k]?.getD 0))):=by
     have q0:Mt N [] {tmps:=a.tmps,defers:=[]} e:=⟨hm.size,rfl,hm.val⟩
     exact(q0.put (some p0) (λd hd=>by cases hd;exact J1) _).put (some p1) (λd hd=>by cases hd;exact qD) _
    refine GO hp assign _ _ _ W _ (h3 k W.heap hj hk) qW λa2 w2 e2 xV wK Ar=>?_
    obtain⟨rR,Ar⟩:=Ar
    refine⟨_,run_beginRound rR (by rw[QI];rfl),?_⟩
    show body.wpIn (FW (some l)) 0 P _ _ _
    refine GO hp body _ _ a2 (w2.putObj l (.loop {rc with state:=.busy})) _ Ar xV λa3 w3 e3 RJ DY Ue=>?_
    obtain⟨Ma,Ue⟩:=Ue
    refine⟨_,_,run_endRound none Ma,rfl,hs.trans (wK.trans ((tj _ _ _).trans (DY.trans (tj _ _ _)))),?_⟩
    have er:({({rc with state:=.busy}:Loop) with state:=if(none:Option Code).isNone then .ready else .done,pending:=none}:Loop)=rc:=by rw[QI];rfl
    rw[er]
    exact Ue
  ·rw[yw];exact(dV.alloc w _).trans (dV.alloc _ _)
  ·rw[yw];exact h2
  ·rintro en w3 ⟨⟨v,rfl⟩,DY,V9⟩
   obtain⟨_,_,Ma⟩:=h1 _ _ V9
   have amH:rc.pending=none:=by rw[QI];rfl
   refine⟨none,w3.putObj l (.loop {rc with state:=.exhausted}),?_,?_⟩
   ·rw[<-amH]
    exact run_endLoop Ma (by rw[QI];show LoopState.ready≠.busy;simp)
   ·have:=h4 w3 V9 DY
    have ed:({a with defers:=[{target:=.collected dr,args:=#[]}]++a.defers}:Act)={a with defers:=[{target:=.collected w.heap.size,args:=#[]}]}:=by rw[hm.defers,Cq];rfl
    show Q .normal {a with defers:=[{target:=.collected dr,args:=#[]}]++a.defers} _
    rw[ed]
    exact this
end Go.X
namespace Go.Ex
open Go.X (BackOk WL Sp tj)
variable {P:Program} {N:Nat} {A:gR}
def Yc:Code->Bool
 |.seq x y=>Yc x||Yc y
 |.block _ x=>Yc x
 |.rangeFunc ..=>true
 |_=>false
def aoR(Bs:Nat)(H:Heap)(rd:Int->Int->(Heap->(Heap->Prop)->Prop)->(Heap->Prop)->Heap->Prop)(K:Heap->Prop):Prop:=
 ∃(b off len cap:Nat)(zs:List Int)(J:Loop->Nat->Heap->Prop),len<=1000000/\∀r:Loop,r.state=.ready->r.pending=none->
  (∀k H',J r k H'->dj H' ⟨Bs,0,none⟩=some (.slice (some ⟨b,off,none⟩) len cap)/\(∀j,j<len->dj H' ⟨b,off+j,none⟩=some (.int .i64 (zs[j]?.getD 0)))/\H'[H.size+1]?=some (.loop r))/\
  J r len ((H.push (.deferred (some []))).push (.loop r))/\
  (∀(k:Nat) H',J r (k+1) H'->k<len->rd (k:Int) (zs[k]?.getD 0)
   (λH1 M=>H1[H.size+1]?=some (.loop r)/\M (H1.setIfInBounds (H.size+1) (.loop {r with state:=.busy})))
   (λH2=>H2[H.size+1]?=some (.loop {r with state:=.busy})/\J r k (H2.setIfInBounds (H.size+1) (.loop r))) H')/\
  ∀H',J r 0 H'->K (H'.setIfInBounds (H.size+1) (.loop {r with state:=.exhausted}))
def kF:Env->Heap->Prop:=λ_ _=>False
def xj(P:Program)(N:Nat)(A:gR)(f:FuncId):Code->Env->(Nat->Ks)->Heap->Prop
 |.seq x y,e,k,H=>bif Yc x then xj P N A f x e (λdr=>{n:=λe' H'=>wC P N A y e' (k dr) H',x:=λ_=>kF,r:=kF}) H else(match afa A y with
  |none=>wC P N A x e {n:=λe' H'=>xj P N A f y e' k H',x:=λ_=>kF,r:=kF} H
  |some l=>eW (S:=LT l) (λJ=>wC P N A x e {n:=λe' H'=>ym l e' λs=>J s H',x:=λ_=>kF,r:=kF} H)
   (λs H'=>xj P N A f y (pV l s (EX e (mE x))) k H'))
 |.block _ x,e,k,H=>xj P N A f x e (λdr=>{k dr with x:=λ_=>kF}) H
 |.rangeFunc g ps asg bd,e,k,H=>o1 e g λv=>(match ps with
  |⟨[p0,p1]⟩=>bif Nat.blt p0 N&&Nat.blt p1 N then∃Bs:Nat,v=.func (.func f) #[] #[.pointer (some ⟨Bs,0,none⟩)]/\
     aoR Bs H (λk z S E H'=>Sp P N asg (put (put e (some p0) (.int .i64 k)) (some p1) (.int .i64 z)) (λe1 H1=>S H1 λH1'=>Sp P N bd e1 (λ_ H2=>E H2) H1') H')
      (λH'=>(k H.size).n e H') else False
  |_=>False)
 |_,_,_,_=>False
theorem Sr(hp:j0 P=true){f:FuncId}(hf:∃fn,P.funcs[f]?=some fn/\fn.body.isSome=true)(Mi:BackOk P f):∀(c:Code)(e:Env)(k:Nat->Ks)(a:Act)(w:World)(Q:Exit->Act->World->Prop),xj P N A f c e k w.heap->Mt N [] a e->
 (∀dr a' w' e',Mt N [{target:=.collected dr,args:=#[]}] a' e'->dV w w'->((k dr).n e' w'.heap->Q .normal a' w')/\(∀i,(k dr).x i e' w'.heap->Q (.exit i) a' w')/\((k dr).r e' w'.heap->Q .ret a' w'))->c.wp P Q a w:=by
 intro c
 induction c with
 |seq x y ZL XG=>
  intro e k a w Q h hm hQ
  unfold xj at h
  refine wp_seq ?_
  cases hr:Yc x with
  |true=>
   rw[hr] at h
   refine ZL e _ a w _ h hm λdr a' w' e' fj fU=>⟨λhn=>?_,λi hx=>hx.elim,λhr=>hr.elim⟩
   exact yG hp y e' (k dr) a' w' Q hn fj λOX T3 Uo Be Bc _=>hQ dr OX T3 Uo Be (fU.trans Bc)
  |false=>
   rw[hr,cond_false] at h
   split at h
   ·refine yG (Ds:=[]) hp x e _ a w _ h hm λa' w' e' fj fU mI=>⟨λhn=>?_,λi hx=>hx.elim,λhr=>hr.elim⟩
    exact XG e' k a' w' Q hn fj λdr OX T3 Uo Be Bc=>hQ dr OX T3 Uo Be (fU.trans Bc)
   ·obtain⟨J,hJ,iE⟩:=h
    refine yG (Ds:=[]) hp x e _ a w _ hJ hm λa' w' e' fj fU mI=>⟨λhn=>?_,λi hx=>hx.elim,λhr=>hr.elim⟩
    obtain⟨s,hs,hx⟩:=zk hn
    exact XG _ k a' w' Q (iE s _ hs) (hm.meet fj mI hx) λdr OX T3 Uo Be Bc=>hQ dr OX T3 Uo Be (fU.trans Bc)
 |block id x ih=>
  intro e k a w Q h hm hQ
  unfold xj at h
  exact wp_block (ih e _ a w _ h hm λdr a' w' e' fj fU=>⟨λhn=>(hQ dr a' w' e' fj fU).1 hn,λi hx=>hx.elim,λhr=>(hQ dr a' w' e' fj fU).2.2 hr⟩)
 |rangeFunc g ps asg bd=>
  intro e k a w Q h hm hQ
  unfold xj at h
  obtain⟨v,hg,h3⟩:=ma h
  clear h
  split at h3
  ·rename_i p0 p1
   cases hc:(Nat.blt p0 N&&Nat.blt p1 N) with
   |false=>rw[hc] at h3;exact h3.elim
   |true=>
    rw[hc,cond_true] at h3
    simp only[Bool.and_eq_true,Nat.blt_eq] at hc
    obtain⟨h1,h2⟩:=hc
    obtain⟨Bs,rfl,b,off,len,cap,zs,J,hlen,fC⟩:=h3
    refine WL (b:=b) (off:=off) (cap:=cap) (zs:=zs) hp hf Mi hm h1 h2 hlen hg J λr pY D0=>?_
    obtain⟨g1,g2,g3,g4⟩:=fC r pY D0
    exact⟨g1,g2,g3,λw' hj hs=>(hQ w.heap.size {a with defers:=[{target:=.collected w.heap.size,args:=#[]}]} _ e ⟨hm.size,rfl,hm.val⟩ (hs.trans (tj _ _ _))).1 (g4 _ hj)⟩
  ·exact h3.elim
 |_=>intro e k a w Q h;exact h.elim
def Pe(P:Program)(A:gR)(f:FuncId)(fn:Func)(args:List Value)(R:Value->Heap->Prop)(H:Heap):Prop:=
 match fn.body with
 |none=>False
 |some c=>bif Nat.ble args.length fn.ntmps then xj P fn.ntmps A f c (vf fn.ntmps args) (λdr=>{n:=kF,x:=λ_=>kF,r:=λe' H'=>H'[dr]?=some (.deferred (some []))/\WM P fn R e' (H'.setIfInBounds dr (.deferred none))}) H else False
theorem Sq(hp:j0 P=true){g:FuncId}(hg:∃fn,P.funcs[g]?=some fn/\fn.body.isSome=true)(Mi:BackOk P g){f:FuncId}{fn:Func}(hf:P.funcs[f]?=some fn){args:List Value}{R:Value->Heap->Prop}{H:Heap}
 (h:Pe P A g fn args R H):Fn P f args.toArray H R:=by
 intro w hw
 subst hw
 unfold Pe at h
 split at h
 ·exact h.elim
 ·rename_i c hb
  obtain⟨hlen,h⟩:=kJ h
  have hlen:args.length<=fn.ntmps:=Nat.le_of_ble_eq_true hlen
  refine callsIn_wide.1 (callsIn_of_wp_marks (F:=Fence.wide) (n:=0) hf hb trivial ((wpIn_wide (n:=0)).2 ?_))
  refine Sr hp hg Mi c _ _ _ w _ h ?_ ?_
  ·refine⟨?_,rfl,λt v hv=>?_⟩
   ·simp;omega
   ·unfold vf at hv
    rw[Array.getElem?_append]
    cases h1:Nat.blt t args.length with
    |true=>
     rw[h1] at hv
     have:t<args.length:=by rw[Nat.blt_eq] at h1;exact h1
     rw[if_pos (by simpa using this)]
     simpa using hv
    |false=>
     rw[h1] at hv
     have iG:¬t<args.length:=by rw[<-Nat.blt_eq,h1];simp
     rw[if_neg (by simpa using iG)]
     cases h2:Nat.blt t fn.ntmps with
     |true=>
      rw[h2] at hv
      have GJ:t<fn.ntmps:=by rw[Nat.blt_eq] at h2;exact h2
      simp only[cond_false,cond_true,Option.some.injEq] at hv
      subst hv
      rw[Array.getElem?_replicate,if_pos (by simp;omega)]
     |false=>rw[h2] at hv;cases hv
  ·intro dr a' w' e' fj fU
   refine⟨λh=>h.elim,λi hx=>hx.elim,λ⟨hd,hr⟩=>?_⟩
   show LeavesInM Fence.wide 0 P fn a'.tmps _ a'.defers .returning w'
   rw[fj.defers]
   have hd:w'.heap[dr]?=some (.deferred (some [])):=hd
   refine⟨by simp,.inl ⟨dr,w'.putObj dr (.deferred none),rfl,run_takeDeferred hd,?_⟩⟩
   obtain⟨vs,hk,ju⟩:=yV (P:=P) fj.val hr
   have xx:(results fn a'.tmps).run P (w'.putObj dr (.deferred none))=.ok (if h:vs.toArray.size=1 then vs.toArray[0] else .tuple vs.toArray) (w'.putObj dr (.deferred none)):=by
    unfold results
    rw[Sem.run_bind,Array.mapM_eq_mapM_toList,Sem.run_map]
    rw[ju _ (λt=>rfl) (λa t=>rfl) _ rfl]
    rfl
   refine⟨_,xx,_,rfl,fU.trans (tj _ _ _),?_⟩
   simp only[List.nil_append] at hk
   split at hk
   ·exact hk
   ·rename_i hZ
    rw[dif_neg]
    ·exact hk
    ·intro hs
     simp only[List.size_toArray] at hs
     obtain⟨v,rfl⟩:=List.length_eq_one_iff.1 hs
     exact hZ v rfl
end Go.Ex
