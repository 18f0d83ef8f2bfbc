/- Part AB of the proof that the law TopAround answers true at every input, under no condition. -/
import Derived.Test.YtmdbfgemefalmaaGreatDoorQAA
set_option linter.unusedVariables false
set_option maxHeartbeats 2000000
set_option maxRecDepth 100000
namespace Go.Ex
section
variable {P:eQ}
theorem Ca:∀{w:List eK}{u:List dB}{K:dB->Prop},Mw P w u K->∃v,K v
 |[],_,_,h=>⟨_,h⟩
 |_::_,_,_,h=>by
  obtain⟨v,h⟩:=xx (show KF _ _ from h)
  exact Ca h
theorem ER{w:List eK}{v:dB}{K:dB->Prop}(h:GP P w v K):K v:=by
 unfold GP at h
 split at h
 .obtain⟨u,rfl,h⟩:=xx h;exact h
 .obtain⟨u,rfl,h⟩:=Ca h;exact h
theorem nr{b:Bool}{A:Prop}(h:bif b then A else False):b=true/\A:=by cases b<;>simp_all
theorem heap_alloc(w:fe)(o:Obj):(w.alloc o).heap=w.heap.push o:=rfl
theorem Ar(t:eK)(v:dB)(w:fe):(newVar t v).run P w=.ok ⟨w.heap.size,0,none⟩ (w.alloc (.cells v.cells t)):=by
 unfold newVar newRow newObj
 rfl
theorem vp(z:List dB)(n:Nat)(h:Nat)(u:z.length=h):
 ((List.replicate n z).flatten).toArray=(Array.range (n*h)).map λi=>z.toArray[i%z.toArray.size]!:=by
 apply Array.ext'
 simp only[Array.toList_map,Array.toList_range,List.size_toArray]
 induction n with
 |zero=>simp
 |succ n w=>
  rw[List.replicate_succ,List.flatten_cons,w,Nat.succ_mul,Nat.add_comm (n*h) h,List.range_add,List.map_append,List.map_map]
  congr 1
  .apply List.ext_getElem
   .simp[u]
   .intro i I N
    simp only[List.getElem_map,List.getElem_range]
    have:i<h:=by omega
    rw[Nat.mod_eq_of_lt (by omega),getElem!_pos z.toArray i (by simpa using I)]
    simp
  .apply List.map_congr_left
   intro i _
   simp only[Function.comp]
   rw[u,Nat.add_mod_left]
theorem sy(h:fF P=true){f:jt}{u:Func}(w:P.funcs[f]?=some u):(u.name== "runtime.NumGoroutine")=false:=by
 unfold fF at h
 simp only[Bool.and_eq_true] at h
 obtain⟨I,rfl⟩:=Array.getElem?_eq_some_iff.1 w
 have:=Array.all_eq_true.1 h.2 f I
 simpa using this
theorem DP{o:Oper}{e:Env}{H:dw}{K:dB->dw->Prop}{a:Act}(hp:fF P=true)(h:kW P o.op e H K)(ha:iP e a.eval o.op.operands.toList)
 (w:fe)(hw:w.heap=H){next:Act->fe->Prop}{Q:Exit->Act->fe->Prop}(hn:∀v w',ik w w'->K v w'.heap->next (a.put o.dst v) w'):o.wp P a w next Q:=by
 have ac:∀{s:Sem dB}{v:dB}{w':fe},s.run P w=.ok v w'->ik w w'->K v w'.heap->(execOp a.eval o=do pure (.value (<-s)))->o.wp P a w next Q:=by
  intro s v w' Z hs Y he
  unfold Oper.wp
  rw[he,Sem.run_bind,Z]
  exact hn v w' hs Y
 have ak:∀{s:Sem Unit}{w':fe},s.run P w=.ok () w'->ik w w'->K undef w'.heap->(execOp a.eval o=do s;pure .skip)->o.wp P a w next Q:=by
  intro s w' Z hs Y he
  unfold Oper.wp
  rw[he,Sem.run_bind,Z]
  exact hn undef w' hs Y
 subst hw
 obtain⟨dst,op,type,pos,after,guard⟩:=o
 simp only at h ha
 unfold kW at h
 split at h
 .rename_i t x y
  obtain⟨v,hv,h⟩:=fT h
  obtain⟨u,hu,h⟩:=fT h
  have O:execOp a.eval {dst:=dst,op:=.store t x y,type:=type,pos:=pos,after:=after,guard:=guard}=(do Instr.storeAt t v u;pure .skip):=by
   simp only[execOp,ha x (by simp[Op.operands]) _ hv,ha y (by simp[Op.operands]) _ hu]
  split at h
  .rename_i ad _
   split at h
   .rename_i aH
    split at h
    .rename_i cs
     obtain⟨N,h⟩:=nr h
     simp only[Bool.and_eq_true] at N
     obtain⟨i,hi⟩:=Option.isSome_iff_exists.1 N.2
     have ag:cs.size=i.size:=by have:=Nat.eq_of_beq_eq_true N.1;simpa[j6,hi] using this
     obtain⟨w',Z,hs,Y⟩:=Aj (P:=P) h w rfl
     refine ak ?_ hs Y O
     unfold Instr.storeAt storeVar
     rw[Sem.run_bind,show(Instr.sureAddr (.pointer (some ad))).run P w=.ok ad w from rfl]
     simp only[Result.andThen]
     rw[Sem.run_bind,jE hi]
     simp[Value.cells,ag,Z]
    .exact h.elim
   .rename_i aH
    obtain⟨N,h⟩:=nr h
    simp only[Bool.and_eq_true] at N
    obtain⟨i,hi⟩:=Option.isSome_iff_exists.1 N.2
    have ag:1=i.size:=by have:=Nat.eq_of_beq_eq_true N.1;simpa[j6,hi] using this
    obtain⟨Y,hc,Z⟩:=It (P:=P) h
    refine ak ?_ (ik.setCell w _ _) (by rw[nX];exact Y) O
    unfold Instr.storeAt storeVar
    rw[Sem.run_bind,show(Instr.sureAddr (.pointer (some ad))).run P w=.ok ad w from rfl]
    simp only[Result.andThen]
    rw[Sem.run_bind,jE hi]
    simp[hc,<-ag,storeCells,add_zero,Z w rfl]
  .exact h.elim
 .rename_i t
  obtain⟨i,z,hi,hz,h,af⟩:=kM h
  refine ac (s:=Instr.alloc t true (.tuple #[])) (v:=.pointer (some ⟨w.heap.size,0,none⟩)) (w':=w.alloc (.cells z.cells t)) ?_ (ik.alloc _ _) (by rw[heap_alloc,oS];exact h) rfl
  unfold Instr.alloc
  rw[Sem.run_bind,af]
  simp only[Result.andThen]
  rw[Sem.run_bind,Ar]
  rfl
 .rename_i t x
  obtain⟨v,hv,h⟩:=fT h
  have O:execOp a.eval {dst:=dst,op:=.box t x,type:=type,pos:=pos,after:=after,guard:=guard}=(do pure (.value (<-Instr.box t v))):=by
   simp only[execOp,ha x (by simp[Op.operands]) _ hv]
  have Z:(Instr.box t v).run P w=.ok (.pointer (some ⟨w.heap.size,0,none⟩)) (w.alloc (.cells v.cells t)):=by
   unfold Instr.box
   rw[Sem.run_bind,Ar]
   rfl
  split at h
  .rename_i cs
   exact ac Z (ik.alloc _ _) h O
  .obtain⟨h,hc,_⟩:=AG h
   exact ac Z (ik.alloc _ _) (by rw[heap_alloc,hc];exact h) O
 .rename_i t l c
  obtain⟨vl,aJ,h⟩:=fT h
  obtain⟨vc,aK,h⟩:=fT h
  have O:execOp a.eval {dst:=dst,op:=.makeSlice t l c,type:=type,pos:=pos,after:=after,guard:=guard}=(do pure (.value (<-Instr.makeSlice t vl vc))):=by
   simp only[execOp,ha l (by simp[Op.operands]) _ aJ,ha c (by simp[Op.operands]) _ aK]
  split at h
  .rename_i el k n k' m hu _
   split at h
   .rename_i i hi
    obtain⟨i',z,ah,hz,h,af⟩:=kM h
    obtain rfl:i=i':=by rw[hi] at ah;exact Option.some.inj ah
    obtain⟨N,h0,h1,h2,h⟩:=nr h
    simp only[Bool.and_eq_true] at N
    have e1:(gH z).length=i.size:=Nat.eq_of_beq_eq_true N.1.1
    have e2:0<i.bytes:=by have:=N.1.2;rw[Nat.blt_eq] at this;exact this
    have e3:0<i.size:=by have:=N.2;rw[Nat.blt_eq] at this;exact this
    have hm:m<=281474976710656:=by
     have:(1:Int)*m<=(i.bytes:Int)*m:=Int.mul_le_mul_of_nonneg_right (by omega) (by omega)
     omega
    have ap:IntKind.i64.wrap n=n:=by unfold IntKind.wrap;simp[IntKind.bits,IntKind.signed];omega
    have aq:IntKind.i64.wrap m=m:=by unfold IntKind.wrap;simp[IntKind.bits,IntKind.signed];omega
    refine ac (v:=.slice (some ⟨w.heap.size,0,none⟩) n.toNat m.toNat) (w':=w.alloc (.cells (j5 z m.toNat) el)) ?_ (ik.alloc _ _) h O
    unfold Instr.makeSlice
    rw[Sem.run_bind,fJ hu]
    simp only[Result.andThen]
    have aL:∀w,(asInt (.int k n)).run P w=.ok n w:=λw=>rfl
    have aM:∀w,(asInt (.int k' m)).run P w=.ok m w:=λw=>rfl
    rw[Sem.run_bind,aL]
    simp only[Result.andThen]
    rw[Sem.run_bind,aM]
    simp only[Result.andThen]
    rw[Sem.run_bind,Ay hi]
    simp only[Result.andThen,ap,aq]
    have c1:¬(m<0):=by omega
    have c2:¬(281474976710656<(i.bytes:Int)*m):=by omega
    have c3:¬(n<0):=by omega
    have c4:¬(m<n):=by omega
    simp only[show(2:Int)^48=281474976710656 from rfl,gt_iff_lt,c1,c2,c3,c4,decide_false,Bool.or_false,Bool.false_eq_true,if_false,Sem.run_bind,Result.andThen]
    have aO:(askRoom (m.toNat*i.bytes)).run P w=.ok () w:=by
     unfold askRoom
     split<;>rfl
    rw[aO]
    simp only[jE hi]
    by_cases W:m.toNat*i.size=0
    .have aP:m.toNat=0:=by
      rcases Nat.mul_eq_zero.1 W with h|h
      .exact h
      .omega
     have ax:j5 z m.toNat=#[]:=by simp[j5,aP]
     rw[if_pos W,ax]
     simp only[pure_bind,W]
     rw[show∀f:Nat->dB,(Array.range 0).map f=#[] fromλf=>by simp]
     rfl
    .rw[if_neg W,Sem.run_bind,af]
     simp only[Result.andThen,pure_bind]
     rw[vB]
     unfold Builtin.zeroCells
     rw[show z.cells.size=i.size by rw[vY,e1]]
     rfl
   .exact h.elim
  .exact h.elim
 .rename_i t len parts
  obtain⟨ps,aQ,h⟩:=Dp h
  have e:(parts.map λ(x:Nat×gU)=>(x.1,a.eval x.2))=ps.toArray:=by
   have:=iP.Cc aQ (λy hy=>ha y (by simp[Op.operands];simpa using hy))
   rw[<-this]
   cases parts;simp
  have O:execOp a.eval {dst:=dst,op:=.buildSlice t len parts,type:=type,pos:=pos,after:=after,guard:=guard}=(do pure (.value (<-Instr.buildSlice t len ps.toArray))):=by
   simp only[execOp,e]
  simp only[List.nil_append] at h
  split at h
  .rename_i el hu
   split at h
   .rename_i i hi
    obtain⟨i',z,ah,hz,h,af⟩:=kM h
    obtain rfl:i=i':=by rw[hi] at ah;exact Option.some.inj ah
    obtain⟨N,h⟩:=nr h
    simp only[Bool.and_eq_true] at N
    have e1:(gH z).length=i.size:=Nat.eq_of_beq_eq_true N.2
    have e2:len*i.size<=1024:=Nat.le_of_ble_eq_true N.1
    obtain⟨cs,Y,hf⟩:=oP h
    simp only[Option.map_some] at hf
    refine ac (v:=.slice (some ⟨w.heap.size,0,none⟩) len len) (w':=w.alloc (.cells cs.toArray el)) ?_ (ik.alloc _ _) Y O
    unfold Instr.buildSlice
    rw[Sem.run_bind,fJ hu]
    simp only[Result.andThen]
    rw[Sem.run_bind,jE hi]
    simp only[Result.andThen]
    rw[if_neg (show¬len*i.size>2^24 by have:(2:Nat)^24=16777216:=rfl;omega)]
    have ax:(if len*i.size=0 then(pure #[]:Sem (Array dB)) else do pure (<-zeroValue el).cells).run P w=.ok (if len*i.size=0 then#[] else z.cells) w:=by
     split
     .rfl
     .rw[Sem.run_bind,af];rfl
    have aa:((Array.range (len*i.size)).map λj=>(if len*i.size=0 then(#[]:Array dB) else z.cells)[j%(if len*i.size=0 then(#[]:Array dB) else z.cells).size]!)=((List.replicate len (gH z)).flatten).toArray:=by
     rw[vp (gH z) len i.size e1]
     by_cases W:len*i.size=0
     .simp[W]
     .simp only[W,if_false,oS]
    by_cases W:len*i.size=0
    .simp only[W,if_true] at aa⊢
     show Sem.run P (match Instr.fill (λaR=>some (aR*i.size,i.size)) (Array.map (λx=>(#[]:Array dB)[x%(#[]:Array dB).size]!) (Array.range 0)) ps with
      |some I=>do
       let __do_lift<-newRow el I
       pure (Value.slice (some __do_lift) len len)
      |x=>stuck "buildSlice: a part of the wrong size") w=_
     rw[aa,hf]
     rfl
    .simp only[W,if_false] at aa⊢
     rw[Sem.run_bind,af]
     simp only[Result.andThen,pure_bind]
     rw[aa,hf]
     rfl
   .exact h.elim
  .exact h.elim
 .rename_i s d x
  obtain⟨v,hv,h⟩:=fT h
  have O:execOp a.eval {dst:=dst,op:=.convert s d x,type:=type,pos:=pos,after:=after,guard:=guard}=(do pure (.value (<-convert s d v))):=by
   simp only[execOp,ha x (by simp[Op.operands]) _ hv]
  split at h
  .rename_i ds b t hs hd
   split at h
   .rename_i N
    have hg:=grownCap_ge w t.size 0 b
    have Y:=h (grownCap w t.size 0 b) hg
    let I:Array dB:=(fV t).toArray++Array.replicate (grownCap w t.size 0 b-t.size) (.int .u8 0)
    have ag:I.size=grownCap w t.size 0 b:=by
     simp only[I,Array.size_append,List.size_toArray,Array.size_replicate]
     have:(fV t).length=t.size:=by unfold fV;rw[List.length_map,Array.length_toList];rfl
     omega
    refine ac (v:=.slice (some ⟨w.heap.size,0,none⟩) t.size (grownCap w t.size 0 b)) (w':=w.drew.alloc (.cells I b (I.size,I.size+1))) ?_ ((ik.drew w).trans (ik.alloc _ _)) ?_ O
    .have e0:(fV t).toArray=t.data.map (λb=>Value.int .u8 b.toNat):=by
      unfold fV
      apply Array.ext'
      simp
     have aS:((w.drew.alloc (.cells I b)).freeze {block:=w.heap.size,off:=I.size} 1)=w.drew.alloc (.cells I b (I.size,I.size+1)):=by
      unfold World.freeze World.alloc
      simp only[Nat.one_ne_zero,if_false]
      congr 1
      apply Array.ext'
      simp only[World.drew,Array.toList_modify,Array.toList_push]
      apply List.ext_getElem?
      intro j
      rw[List.getElem?_modify]
      by_cases hj:w.heap.size=j
      .subst hj;simp
      .simp[hj]
       rcases Nat.lt_or_ge j w.heap.size with h|h
       .simp[List.getElem?_append,h]
       .have:w.heap.size+1<=j:=by omega
        simp[List.getElem?_append,show¬j<w.heap.size by omega,show j-w.heap.size≠0 by omega]
     unfold convert
     rw[Sem.run_bind,fJ hs]
     simp only[Result.andThen]
     rw[Sem.run_bind,fJ hd]
     simp only[Result.andThen]
     have au:(Conv.stringToBytes b t).run P w=.ok (.slice (some ⟨w.heap.size,0,none⟩) t.size (grownCap w t.size 0 b)) (w.drew.alloc (.cells I b (I.size,I.size+1))):=by
      unfold Conv.stringToBytes
      rw[Sem.run_bind,run_choose]
      simp only[Question.forced,Bool.false_eq_true,if_false,Result.andThen]
      rw[Sem.run_bind]
      have aE:(newRow b ((t.data.map λb=>Value.int .u8 b.toNat)++Array.replicate ((Question.appendCap t.size 0 b).cut (w.tape w.drawn (.appendCap t.size 0 b))-t.size) (.int .u8 0))).run P {w with drawn:=w.drawn+1}=.ok ⟨w.heap.size,0,none⟩ (w.drew.alloc (.cells I b)):=by
       simp only[I,e0,grownCap]
       rfl
      rw[aE]
      simp only[Result.andThen]
      rw[Sem.run_bind]
      have av:(markStringish ⟨w.heap.size,0,none⟩).run P (w.drew.alloc (.cells I b))=.ok () (w.drew.alloc (.cells I b (I.size,I.size+1))):=by
       unfold markStringish
       rw[Sem.run_bind]
       have aU:(shape w.heap.size).run P (w.drew.alloc (.cells I b))=.ok (some (b,I.size)) (w.drew.alloc (.cells I b)):=by
        show Result.ok ((w.drew.alloc (.cells I b)).shape? w.heap.size) _=_
        congr 1
        unfold World.shape?
        rw[show(w.drew.alloc (.cells I b)).heap[w.heap.size]?=some (.cells I b) from by show(w.heap.push _)[w.heap.size]?=_;simp]
       rw[aU]
       simp only[Result.andThen]
       show Result.ok () ((w.drew.alloc (.cells I b)).freeze {block:=w.heap.size,off:=I.size} 1)=_
       rw[aS]
      rw[av]
      rfl
     rw[Sem.run_bind,fJ N]
     exact au
    .show K _ _
     simp only[heap_alloc,ag]
     exact Y
   .exact h.elim
  .exact h.elim
 .rename_i args ts
  split at h
  .rename_i x y t u hx ht
   split at h
   .exact h.elim
   .exact h.elim
   .rename_i d aV hu
    obtain⟨vx,aW,h⟩:=fT h
    obtain⟨vy,aX,h⟩:=fT h
    have ea:args=#[x,y]:=by cases args;simpa using hx
    have et:ts=#[t,u]:=by cases ts;simpa using ht
    subst ea et
    obtain⟨v,w',Z,hs,Y⟩:=N7 (T:=type) hu (λk e=>aV k e) h w rfl
    refine ac Z hs Y ?_
    simp only[execOp,resolve,List.map_toArray,List.map_cons,List.map_nil,ha x (by simp[Op.operands,Call.operands]) _ aW,ha y (by simp[Op.operands,Call.operands]) _ aX,pure_bind,invoke,builtin]
  .exact h.elim
 .rename_i f args ts
  obtain⟨vs,aY,h⟩:=sA h
  have ea:=iP.list aY (λy hy=>ha y (by simp[Op.operands,Call.operands];simp at hy;exact .inr hy))
  have aZ:args.map a.eval=vs.toArray:=by rw[<-ea];cases args;simp
  simp only[List.nil_append] at h
  unfold RH at h
  split at h
  .rename_i fn hf
   obtain⟨N,h⟩:=nr h
   have aG:=sy hp hf
   have Z:(execOp a.eval {dst:=dst,op:=.call {callee:=.value (.func f),args:=args,argTypes:=ts},type:=type,pos:=pos,after:=after,guard:=guard}).run P w=.ok (.enter f vs.toArray) w:=by
    have a3:fn.body.isNone=false:=by cases bm:fn.body<;>simp_all
    simp only[execOp,resolve,aZ,Act.eval,Deferred.ofValue,pure_bind,invoke,callFunc,Array.append_empty,Array.empty_append]
    rw[Sem.run_bind,run_program]
    simp only[Result.andThen,hf,aG,a3,Bool.false_eq_true,if_false]
    rfl
   unfold Oper.wp
   rw[Z]
   refine(h w rfl).mono ?_
   rintro a4 w' ⟨v,rfl,hs,Y⟩
   exact hn v w' hs Y
  .exact h.elim
 .exact h.elim
theorem nP{o:Oper}{e:Env}{H:dw}{K:dB->dw->Prop}{a:Act}(O:fF P=true)(h:og P o.op e H K)(u:iP e a.eval o.op.operands.toList)
 (w:fe)(I:w.heap=H){next:Act->fe->Prop}{Q:Exit->Act->fe->Prop}(N:∀v w',ik w w'->K v w'.heap->next (a.put o.dst v) w'):o.wp P a w next Q:=by
 rcases h with h|h
 .exact DP O h u w I N
 .exact h o a w _ _ rfl u I N
end
structure Mt(N:Nat)(Ds:List Deferred)(a:Act)(e:Env):Prop where
 size:a.tmps.size=N
 defers:a.defers=Ds
 val:∀t v,e t=some v->a.tmps[t]?=some v
theorem mG(e:Env)(d:Nat)(v:dB)(t:Nat):put e (some d) v t=if t=d then some v else e t:=by
 unfold put
 simp only
 by_cases h:t=d
 .subst h;simp
 .have:Nat.beq t d=false:=by
   cases u:Nat.beq t d
   .rfl
   .exact absurd (Nat.eq_of_beq_eq_true u) h
  simp[this,h]
theorem sW(a:Act)(d:Nat)(v:dB):(a.put (some d) v).tmps=a.tmps.setIfInBounds d v:=rfl
theorem Mt.put{N:Nat}{Ds:List Deferred}{a:Act}{e:Env}(h:Mt N Ds a e)(d:Option Tmp)(O:∀t,d=some t->t<N)(v:dB):Mt N Ds (a.put d v) (put e d v):=by
 cases d with
 |none=>exact h
 |some d=>
  refine⟨by rw[sW,Array.size_setIfInBounds,h.size],h.defers,λt u w=>?_⟩
  rw[sW,Array.getElem?_setIfInBounds]
  rw[mG] at w
  by_cases I:t=d
  .subst I
   rw[if_pos rfl] at w
   have:=O t rfl
   simp[h.size,this,w]
  .rw[if_neg I] at w
   rw[if_neg (λe=>I e.symm)]
   exact h.val t u w
theorem Mt.eval{N:Nat}{Ds:List Deferred}{a:Act}{e:Env}(h:Mt N Ds a e){x:gU}{v:dB}(w:nN e x=some v):a.eval x=v:=by
 cases x with
 |tmp t=>
  have:=h.val t v w
  simp[Act.eval,Array.getD_eq_getD_getElem?,this]
 |const u=>simpa[nN,Act.eval] using w
 |global g=>simpa[nN,Act.eval] using w
 |func f=>simpa[nN,Act.eval] using w
theorem Mt.ot{N:Nat}{Ds:List Deferred}{a:Act}{e:Env}(h:Mt N Ds a e)(xs:List gU):iP e a.eval xs:=λ_ _ _ u=>h.eval u
theorem jM{ops:Array Oper}{o:Oper}{e:Env}{b:Bool}{u:Array dB}(h:gJ ops o e=some b)
 (Y:∀t∈uc ops o,∀v,e t=some v->u[t]?=some v):Region.wanted o (yielded ops u)=b:=by
 unfold gJ at h
 unfold Region.wanted
 split at h
 .rename_i I
  rw[I]
  simpa using h
 .rename_i j aa I
  rw[I]
  simp only
  unfold yielded
  split at h
  .rename_i O
   rw[O]
   simp only[Option.bind_none]
   simp only[Option.some.injEq] at h
   subst h
   rfl
  .rename_i d O
   have w:d∈uc ops o:=by unfold uc;rw[I];simp[O]
   rw[O]
   simp only[Option.bind_some]
   split at h
   .rename_i c W
    rw[Y d w _ W]
    simp only[Option.some.injEq] at h
    subst h
    simp
   .rename_i v Z W
    rw[Y d w _ W]
    simp only[Option.some.injEq] at h
    subst h
    cases v<;>first|exact absurd rfl (Z _)|rfl
   .cases h
theorem fZ{g:Bool}{v:dB}{K:dB->Prop}(h:mr g v K):K v:=by
 unfold mr at h
 split at h
 .exact h
 .split at h
  .rcases uY h with⟨rfl,h⟩|⟨rfl,h⟩<;>exact h
  .exact h
theorem uT{N:Nat}{ops:Array Oper}(h:ju N ops=true){o:Oper}(u:o∈ops):∀t,o.dst=some t->t<N:=by
 unfold ju at h
 have:=Array.all_eq_true_iff_forall_mem.1 h o u
 intro t w
 rw[w] at this
 simpa[Nat.blt_eq] using this
def iN(h:List Nat)(a u:Act):Prop:=∀t,t∉h->u.tmps[t]?=a.tmps[t]?
theorem iN.refl(h:List Nat)(a:Act):iN h a a:=λ_ _=>rfl
theorem iN.trans{u:List Nat}{a b c:Act}(h:iN u a b)(k:iN u b c):iN u a c:=λt w=>(k t w).trans (h t w)
theorem iN.mono{w u:List Nat}{a b:Act}(h:iN w a b)(I:∀t∈w,t∈u):iN u a b:=λt O=>h t λW=>O (I t W)
theorem iN.put{h:List Nat}{a:Act}{d:Option Tmp}(u:∀t,d=some t->t∈h)(v:dB):iN h a (a.put d v):=by
 intro t w
 cases d with
 |none=>rfl
 |some d=>
  rw[sW,Array.getElem?_setIfInBounds,if_neg]
  intro e
  exact w (e▸u d rfl)
def lZ(ops:Array Oper):List Nat:=ops.toList.filterMap (·.dst)
theorem tZ{ops:Array Oper}{o:Oper}(h:o∈ops):∀t,o.dst=some t->t∈lZ ops:=by
 intro t u
 unfold lZ
 rw[List.mem_filterMap]
 exact⟨o,by simpa using h,u⟩
section
variable {P:eQ} {N:Nat} {Ds:List Deferred} {ops:Array Oper} {Q:Exit->Act->fe->Prop} {K:Env->dw->Prop}
theorem qb(W:fF P=true)(Y:ju N ops=true)(a₀:Act)(w₀:fe)
 (Z:∀a' w' e',Mt N Ds a' e'->ik w₀ w'->iN (lZ ops) a₀ a'->K e' w'.heap->Q .normal a' w'):
 ∀(l:List Oper)(i:Nat)(e:Env)(a:Act)(w:fe),(∀o∈l,o∈ops)->oz P ops l i e w.heap K->Mt N Ds a e->ik w₀ w->iN (lZ ops) a₀ a->wpList P ops Q l a w
 |[],i,e,a,w,_,h,hm,hs,hk=>Z a w e hm hs hk h
 |o::rest,i,e,a,w,hl,h,hm,hs,hk=>by
  have ho:o∈ops:=hl o (by simp)
  have u:∀o∈rest,o∈ops:=λo' h'=>hl o' (by simp[h'])
  have hd:=uT Y ho
  have O:=tZ ho
  unfold oz at h
  split at h
  .exact h.elim
  .rename_i hw
   unfold wpList
   rw[if_neg (by rw[jM hw (λt _=>hm.val t)];simp)]
   exact qb W Y a₀ w₀ Z rest (i+1) _ _ w u h (hm.put _ hd _) hs (hk.trans (iN.put O _))
  .rename_i hw
   unfold wpList
   rw[if_pos (jM hw (λt _=>hm.val t))]
   refine .inl ?_
   split at h
   .obtain⟨v,I,hr⟩:=kb h
    have I:=fZ I
    unfold Oper.wp
    rw[hr a.eval (hm.ot _) w]
    exact qb W Y a₀ w₀ Z rest (i+1) _ _ w u I (hm.put _ hd _) hs (hk.trans (iN.put O _))
   .obtain⟨v,I,hr⟩:=ka h
    have I:=fZ I
    unfold Oper.wp
    rw[hr a.eval (hm.ot _) w rfl]
    exact qb W Y a₀ w₀ Z rest (i+1) _ _ w u I (hm.put _ hd _) hs (hk.trans (iN.put O _))
   .refine nP W h (hm.ot _) w rfl ?_
    intro v w' ag I
    exact qb W Y a₀ w₀ Z rest (i+1) _ _ w' u (fZ I) (hm.put _ hd _) (hs.trans ag) (hk.trans (iN.put O _))
end
abbrev Tr:=List (Nat×dB×Env)
def ry(ops:Array Oper)(i:Nat):Option Tmp:=(ops[i]?).bind (·.dst)
def lC(ops:Array Oper)(S:Nat->Bool):Tr->Env->Env
 |[],e=>e
 |(i,v,_)::r,e=>lC ops S r (if S i=true then put e (ry ops i) v else e)
def tC(ops:Array Oper):Env->Tr->Prop
 |_,[]=>True
 |e,(i,v,h)::r=>h=e/\tC ops (put e (ry ops i) v) r
abbrev oT:Nat->Bool:=λ_=>true
section
variable {ops:Array Oper}
theorem oG{e:Env}{d:Option Tmp}{v:dB}{t:Nat}(h:d≠some t):put e d v t=e t:=by
 cases d with
 |none=>rfl
 |some d=>rw[mG,if_neg (λe=>h (by rw[e]))]
theorem rQ{e:Env}{t:Nat}{v:dB}:put e (some t) v t=some v:=by rw[mG,if_pos rfl]
theorem qe{S N:Nat->Bool}{t:Nat}:∀{u:Tr}{e w:Env},e t=w t->(∀x∈u,ry ops x.1=some t->S x.1=N x.1)->lC ops S u e t=lC ops N u w t
 |[],_,_,h,_=>h
 |(i,v,W)::r,e,w,h,hs=>by
  unfold lC
  refine qe ?_ (λx Y=>hs x (by simp[Y]))
  by_cases I:ry ops i=some t
  .rw[hs (i,v,W) (by simp) I]
   split
   .rw[I,rQ,rQ]
   .exact h
  .have O:∀e:Env,∀b:Bool,(if b=true then put e (ry ops i) v else e) t=e t:=by
    intro e b
    split
    .exact oG I
    .rfl
   rw[O,O,h]
theorem pr{S:Nat->Bool}:∀{t1 h:Tr}{e:Env},lC ops S (t1++h) e=lC ops S h (lC ops S t1 e)
 |[],_,_=>rfl
 |(i,v,u)::r,h,e=>by
  rw[List.cons_append]
  exact pr (t1:=r)
theorem rW{S:Nat->Bool}{t:Nat}:∀{u:Tr}{e:Env},(∀x∈u,ry ops x.1=some t->S x.1=false)->lC ops S u e t=e t
 |[],_,_=>rfl
 |(i,v,I)::r,e,h=>by
  unfold lC
  rw[rW (λx N=>h x (by simp[N]))]
  split
  .rename_i w
   refine oG λO=>?_
   have:=h (i,v,I) (by simp) O
   simp only at this
   rw[this] at w
   cases w
  .rfl
theorem xB{t1 h:Tr}:∀{e:Env},tC ops e (t1++h)↔tC ops e t1/\tC ops (lC ops oT t1 e) h:=by
 induction t1 with
 |nil=>intro e;simp[tC,lC]
 |cons x r u=>
  intro e
  obtain⟨i,v,w⟩:=x
  simp only[List.cons_append,tC,u,lC,oT,if_true]
  constructor
  .rintro⟨a,b,c⟩;exact⟨⟨a,b⟩,c⟩
  .rintro⟨⟨a,b⟩,c⟩;exact⟨a,b,c⟩
theorem AZ{w:List Nat}{i:Nat}:∀{l:List Edge}{s:Nat},
 (l.foldl (λs e=>bif Region.binds .any e then s|||2^e.on|||w.getD e.on 0 else s) s).testBit i=true->
 s.testBit i=true\/∃e∈l,Region.binds .any e=true/\(i=e.on\/(w.getD e.on 0).testBit i=true)
 |[],s,h=>.inl h
 |e::l,s,h=>by
  rw[List.foldl_cons] at h
  rcases AZ h with h|⟨N,I,u,h⟩
  .cases u:Region.binds .any e with
   |false=>rw[u] at h;exact .inl h
   |true=>
    rw[u] at h
    simp only[cond_true,Nat.testBit_or,Bool.or_eq_true,Nat.testBit_two_pow,decide_eq_true_eq] at h
    rcases h with(h|h)|h
    .exact .inl h
    .exact .inr ⟨e,by simp,u,.inl h.symm⟩
    .exact .inr ⟨e,by simp,u,.inr h⟩
  .exact .inr ⟨N,by simp[I],u,h⟩
def Down(ops:Array Oper)(S:Nat->Bool):Prop:=∀i o,ops[i]?=some o->S i=true->∀e∈o.after.toList,Region.binds .any e=true->S e.on=true
theorem Cy{S:Nat->Bool}(hd:Down ops S):∀(l:List Oper)(u:List Nat),(∀k,l[k]?=ops[u.length+k]?)->
 (∀j<u.length,∀o,ops[j]?=some o->(∀e∈o.after.toList,Region.binds .any e=true->S e.on=true)->∀i,(u.getD j 0).testBit i=true->S i=true)->
 ∀j<u.length+l.length,∀o,ops[j]?=some o->(∀e∈o.after.toList,Region.binds .any e=true->S e.on=true)->∀i,((iO l u).getD j 0).testBit i=true->S i=true
 |[],u,_,Qd=>by simpa[iO] using Qd
 |o::l,u,hl,Qd=>by
  intro j hj W I w i hi
  unfold iO at hi
  have N:(u++[oR o u]).length=u.length+1:=by simp
  refine Cy hd l (u++[oR o u]) ?_ ?_ j (by rw[N];simp at hj;omega) W I w i hi
  .intro k
   rw[N]
   have:=hl (k+1)
   rw[List.getElem?_cons_succ] at this
   rw[this]
   congr 1
   omega
  .intro j hj W I w i hi
   rw[N] at hj
   by_cases Y:j<u.length
   .have e:(u++[oR o u]).getD j 0=u.getD j 0:=by simp[List.getD_eq_getElem?_getD,List.getElem?_append,Y]
    rw[e] at hi
    exact Qd j Y W I w i hi
   .have ac:j=u.length:=by omega
    subst ac
    have e:(u++[oR o u]).getD u.length 0=oR o u:=by simp[List.getD_eq_getElem?_getD]
    rw[e] at hi
    have ho:o=W:=by
     have:=hl 0
     simp only[List.getElem?_cons_zero,Nat.add_zero] at this
     rw[I] at this
     exact Option.some.inj this
    subst ho
    unfold oR at hi
    rcases AZ hi with h|⟨O,ad,hb,h⟩
    .simp at h
    .have hs:=w O ad hb
     rcases h with rfl|h
     .exact hs
     .rcases Nat.lt_or_ge O.on u.length with af|ag
      .have ah:∃o',ops[O.on]?=some o':=by
        have:u.length<ops.size:=(Array.getElem?_eq_some_iff.1 I).1
        exact⟨ops[O.on]'(by omega),Array.getElem?_eq_getElem _⟩
       obtain⟨o',Z⟩:=ah
       exact Qd O.on af o' Z (λe he ai=>hd O.on o' Z hs e he ai) i h
      .rw[List.getD_eq_getElem?_getD,List.getElem?_eq_none ag] at h
       simp at h
theorem nO{S:Nat->Bool}(w:Down ops S){j:Nat}{o:Oper}(u:ops[j]?=some o)
 (h:∀e∈o.after.toList,Region.binds .any e=true->S e.on=true){i:Nat}(hi:((iO ops.toList []).getD j 0).testBit i=true):S i=true:=by
 refine Cy w ops.toList [] (λk=>by simp) (by simp) j ?_ o u h i hi
 have:j<ops.size:=(Array.getElem?_eq_some_iff.1 u).1
 simpa using this
structure qY(P:eQ)(ops:Array Oper)(B:List Nat)(X:Nat->Bool)(l1:List Nat)(i:Nat)(l2:List Nat):Prop where
 ex:∃o,ops[i]?=some o
 fresh:i∉l1
 XR:∀o,ops[i]?=some o->∀e∈o.after.toList,Region.binds .any e=true->e.on∈l1
 write:X i=false->∀o,ops[i]?=some o->kindOf P o.op=.write->∀j∈l2,(B.getD j 0).testBit i=true
 Cc:∀o y j,ops[i]?=some o->j∈l2->ops[j]?=some y->meets ops o y=true->(B.getD j 0).testBit i=true
theorem nL{P:eQ}{B:List Nat}{X:Nat->Bool}:∀{l:List Nat}{seen:Nat}{done:List Nat},rl P ops B X l seen=true->(∀x,seen.testBit x=true↔x∈done)->
 ∀I i N,l=I++i::N->qY P ops B X (done++I) i N
 |[],_,_,_,_,I,i,N,w=>by simp at w
 |k::rest,seen,done,h,hs,I,i,N,w=>by
  unfold rl at h
  rw[Bool.and_eq_true] at h
  obtain⟨h,hr⟩:=h
  cases I with
  |nil=>
   simp only[List.nil_append,List.cons.injEq] at w
   obtain⟨rfl,rfl⟩:=w
   rw[List.append_nil]
   split at h
   .cases h
   .rename_i o O
    simp only[Bool.and_eq_true] at h
    obtain⟨⟨⟨h1,h2⟩,W⟩,h4⟩:=h
    refine⟨⟨o,O⟩,?_,?_,?_,?_⟩
    .intro Y
     rw[(hs k).2 Y] at h1
     cases h1
    .intro o' u e w hb
     rw[O] at u
     obtain rfl:=Option.some.inj u
     have:=List.all_eq_true.1 h2 e w
     rw[hb] at this
     exact(hs e.on).1 (by simpa using this)
    .intro hX o' u hk j Z
     rw[O] at u
     obtain rfl:=Option.some.inj u
     rw[hX,hk] at W
     simp only[beq_self_eq_true,Bool.not_true,Bool.false_or] at W
     exact List.all_eq_true.1 W j Z
    .intro o' y j u Z hy Y
     rw[O] at u
     obtain rfl:=Option.some.inj u
     have:=List.all_eq_true.1 h4 j Z
     rw[hy] at this
     simp only[Y,Bool.not_true,Bool.false_or] at this
     exact this
  |cons x I=>
   simp only[List.cons_append,List.cons.injEq] at w
   obtain⟨rfl,w⟩:=w
   have:=nL (done:=done++[k]) hr (by
    intro x
    rw[Nat.testBit_or,Bool.or_eq_true,Nat.testBit_two_pow,hs]
    simp only[List.mem_append,List.mem_singleton,decide_eq_true_eq]
    constructor
    .rintro(h|h)
     .exact .inl h
     .exact .inr h.symm
    .rintro(h|h)
     .exact .inl h
     .exact .inr h.symm) I i N w
   simpa using this
theorem IF{P:eQ}{B:List Nat}:∀(l:List Nat)(s:Nat),IG P ops B l s=rl P ops B (λ_=>false) l s
 |[],_=>rfl
 |i::rest,s=>by
  unfold IG rl
  rw[IF rest]
  rfl
end
def rC(P:eQ)(o:Oper)(e:Env)(v:dB)(H:dw):Prop:=
 ∀ρ,iP e ρ o.op.operands.toList->∀w,w.heap=H->(execOp ρ o).run P w=.ok (.value v) w
def Fact(P:eQ)(ops:Array Oper)(D:List (Nat×Env×dB))(x:Nat×dB×Env):Prop:=
 ∃o,ops[x.1]?=some o/\
  ((gJ ops o x.2.2=some false/\x.2.1=undef)\/
   (gJ ops o x.2.2=some true/\∀H,rC P o x.2.2 x.2.1 H)\/
   (gJ ops o x.2.2=some true/\(x.1,x.2.2,x.2.1)∈D)\/
   (gJ ops o x.2.2=some true/\kindOf P o.op=.write))
def D9(P:eQ)(ops:Array Oper)(e:Env)(h:List Nat):Prop:=
 h=[]\/∃c u o,h=c::u/\ops[c]?=some o/\kindOf P o.op=.write/\gJ ops o e=some true
section
variable {P:eQ} {ops:Array Oper} {A:List Nat->Env->dw->List (Nat×Env×dB)->Prop} {B:List Nat} {K:Env->dw->Prop} {H:dw}
theorem Wz(G:Nat->Prop):∀(l:List Nat)(e:Env)(D:List (Nat×Env×dB)),(∀x∈D,G x.1->∃o,ops[x.1]?=some o/\rC P o x.2.1 x.2.2 H)->qd P ops B A l e H D K->
 ∃O N I,l=O.map (·.1)++N/\tC ops e O/\(∀x∈D,x∈I)/\(∀x∈I,x∈D\/x.1∈O.map (·.1))/\(∀x∈O,Fact P ops I x/\∀o,ops[x.1]?=some o->gJ ops o x.2.2=some true->kindOf P o.op≠.write)/\
  (∀x∈I,G x.1->∃o,ops[x.1]?=some o/\rC P o x.2.1 x.2.2 H)/\qd P ops B A N (lC ops oT O e) H I K/\D9 P ops (lC ops oT O e) N
 |[],e,D,hD,h=>⟨[],[],D,rfl,trivial,λ_ h=>h,λ_ h=>.inl h,by simp,hD,h,.inl rfl⟩
 |i::rest,e,D,hD,h=>by
  have h0:=h
  unfold qd at h
  split at h
  .exact h.elim
  .rename_i o Y
   have Z:ry ops i=o.dst:=by unfold ry;rw[Y];rfl
   have step:∀(v:dB)(Dn:List (Nat×Env×dB)),(∀x∈D,x∈Dn)->(∀x∈Dn,x∈D\/x.1=i)->(∀x∈Dn,G x.1->∃o,ops[x.1]?=some o/\rC P o x.2.1 x.2.2 H)->
    (∀I,(∀x∈Dn,x∈I)->Fact P ops I (i,v,e)/\∀o',ops[i]?=some o'->gJ ops o' e=some true->kindOf P o'.op≠.write)->qd P ops B A rest (put e o.dst v) H Dn K->
    ∃O N I,i::rest=O.map (·.1)++N/\tC ops e O/\(∀x∈D,x∈I)/\(∀x∈I,x∈D\/x.1∈O.map (·.1))/\(∀x∈O,Fact P ops I x/\∀o,ops[x.1]?=some o->gJ ops o x.2.2=some true->kindOf P o.op≠.write)/\
     (∀x∈I,G x.1->∃o,ops[x.1]?=some o/\rC P o x.2.1 x.2.2 H)/\qd P ops B A N (lC ops oT O e) H I K/\D9 P ops (lC ops oT O e) N:=by
    intro v Dn h1 af h2 h3 h4
    obtain⟨O,N,I,e1,e2,e3,ah,e4,e5,e6,e7⟩:=Wz G rest _ Dn h2 h4
    refine⟨(i,v,e)::O,N,I,by rw[e1];rfl,⟨rfl,by rw[Z];exact e2⟩,λx u=>e3 x (h1 x u),?_,?_,e5,?_,?_⟩
    .intro x u
     rcases ah x u with u|u
     .rcases af x u with u|u
      .exact .inl u
      .exact .inr (by simp[u])
     .exact .inr (by rw[List.map_cons,List.mem_cons];exact .inr u)
    .intro x u
     rcases List.mem_cons.1 u with rfl|u
     .exact h3 I e3
     .exact e4 x u
    .unfold lC;simp only[oT,if_true,Z];exact e6
    .unfold lC;simp only[oT,if_true,Z];exact e7
   split at h
   .exact h.elim
   .rename_i hw
    refine step undef D (λ_ h=>h) (λ_ h=>.inl h) hD (λI _=>⟨⟨o,Y,.inl ⟨hw,rfl⟩⟩,?_⟩) h
    intro o' W ac
    rw[Y] at W
    obtain rfl:=Option.some.inj W
    rw[hw] at ac
    cases ac
   .rename_i hw
    split at h
    .rename_i hk
     obtain⟨v,hv,hr⟩:=kb h
     refine step v D (λ_ h=>h) (λ_ h=>.inl h) hD (λI _=>⟨⟨o,Y,.inr (.inl ⟨hw,λH ρ ha w _=>hr ρ ha w⟩)⟩,?_⟩) (fZ hv)
     intro o' W _
     rw[Y] at W
     obtain rfl:=Option.some.inj W
     rw[hk]
     simp
    .rename_i hk
     obtain⟨v,hv,hr⟩:=ka h
     have ai:rC P o e v H:=hr
     refine step v (D++[(i,e,v)]) (λx u=>by simp[u]) ?_ ?_ (λI aj=>⟨⟨o,Y,.inr (.inr (.inl ⟨hw,aj _ (by simp)⟩))⟩,?_⟩) (fZ hv)
     .intro x u
      simp only[List.mem_append,List.mem_singleton] at u
      rcases u with u|rfl
      .exact .inl u
      .exact .inr rfl
     .intro x u
      simp only[List.mem_append,List.mem_singleton] at u
      rcases u with u|rfl
      .exact hD x u
      .exactλ_=>⟨o,Y,ai⟩
     .intro o' W _
      rw[Y] at W
      obtain rfl:=Option.some.inj W
      rw[hk]
      simp
    .rename_i hk
     exact⟨[],i::rest,D,rfl,trivial,λ_ h=>h,λ_ h=>.inl h,by simp,hD,h0,.inr ⟨i,rest,o,rfl,Y,hk,hw⟩⟩
theorem vI{m:Nat}{A:Prop}:∀{D:List (Nat×Env×dB)},lY P ops m H D A->A/\∀x∈D,m.testBit x.1=false->∃o,ops[x.1]?=some o/\rC P o x.2.1 x.2.2 H
 |[],h=>⟨h,by simp⟩
 |(r,e,v)::D,h=>by
  unfold lY at h
  split at h
  .rename_i Y
   obtain⟨O,I⟩:=vI h
   refine⟨O,λx w N=>?_⟩
   rcases List.mem_cons.1 w with rfl|w
   .rw[Y] at N;cases N
   .exact I x w N
  .obtain⟨W,h⟩:=h
   obtain⟨O,I⟩:=vI h
   refine⟨O,λx w N=>?_⟩
   rcases List.mem_cons.1 w with rfl|w
   .split at W
    .rename_i o Z
     obtain⟨u,rfl,I⟩:=ka W
     exact⟨o,Z,I⟩
    .exact W.elim
   .exact I x w N
theorem yS{p q:Nat->Bool}{i:Nat}(I:p i=true)(N:q i=false)(u:∀j,j≠i->q j=p j):∀{l:List Nat},l.Nodup->i∈l->l.countP p=l.countP q+1
 |[],_,h=>by simp at h
 |x::l,hn,hm=>by
  rw[List.nodup_cons] at hn
  by_cases w:x=i
  .subst w
   rw[List.countP_cons,List.countP_cons,I,N]
   have:l.countP p=l.countP q:=List.countP_congr λy Y=>by
    have O:y≠x:=λe=>hn.1 (e▸Y)
    rw[u y O]
   simp[this]
  .have W:i∈l:=by
    rcases List.mem_cons.1 hm with rfl|h
    .exact absurd rfl w
    .exact h
   rw[List.countP_cons,List.countP_cons,u x w,yS I N u hn.2 W]
   omega
theorem sE{o:Oper}{t:Nat}(h:t∈ya ops o):t∈kJ ops o:=by unfold kJ;rw[List.mem_append];exact .inr h
theorem Cg{o:Oper}{t:Nat}(h:o.dst=some t):t∈kJ ops o:=by unfold kJ;rw[List.mem_append,h];exact .inl (by simp)
theorem AO{x y:Oper}{t:Nat}(h:(x.dst=some t/\t∈kJ ops y)\/(y.dst=some t/\t∈kJ ops x)):meets ops x y=true:=by
 unfold meets
 rw[Bool.or_eq_true]
 rcases h with⟨u,w⟩|⟨u,w⟩
 .exact .inl (by rw[u];exact List.any_eq_true.2 ⟨t,w,by simp⟩)
 .exact .inr (by rw[u];exact List.any_eq_true.2 ⟨t,w,by simp⟩)
theorem Il{o:Oper}{t:Nat}(h:Operand.tmp t∈o.op.operands.toList):t∈ya ops o:=by
 unfold ya MQ
 rw[List.mem_append,List.mem_filterMap]
 exact .inr ⟨_,h,rfl⟩
theorem Aa{o:Oper}{t:Nat}(h:t∈uc ops o):t∈ya ops o:=by
 unfold ya
 rw[List.mem_append]
 exact .inl h
end
section
variable {P:eQ} {N:Nat} {Ds:List Deferred} {A:List Nat->Env->dw->List (Nat×Env×dB)->Prop} {ops:Array Oper} {Q:Exit->Act->fe->Prop} {K:Env->dw->Prop}
abbrev rp(listed:Array Bool):Nat->Bool:=λi=>listed.getD i false
structure Inv(P:eQ)(N:Nat)(Ds:List Deferred)(A:List Nat->Env->dw->List (Nat×Env×dB)->Prop)(ops:Array Oper)(K:Env->dw->Prop)(ord:List Nat)(a₀:Act)(w₀:fe)(e₀:Env)(listed:Array Bool)(a:Act)(w:fe)(tr:Tr)(post:List Nat)(D:List (Nat×Env×dB)):Prop where
 sz:listed.size=ops.size
 down:Down ops (rp listed)
 split:ord=tr.map (·.1)++post
 chain:tC ops e₀ tr
 facts:∀x∈tr,Fact P ops D x/\∀o,ops[x.1]?=some o->gJ ops o x.2.2=some true->kindOf P o.op=.write->rp listed x.1=true
 reads:∀x∈D,rp listed x.1=false->∃o,ops[x.1]?=some o/\rC P o x.2.1 x.2.2 w.heap
 rest:qd P ops (iO ops.toList []) A post (lC ops oT tr e₀) w.heap D K
 head:D9 P ops (lC ops oT tr e₀) post
 mt:Mt N Ds a (lC ops (rp listed) tr e₀)
 OI:∀i,rp listed i=true->i∈tr.map (·.1)
 Rp:ik w₀ w
 keeps:iN (lZ ops) a₀ a
theorem xt(S:Nat->Bool):∀(l:List Nat),(∀i∈l,S i=true)\/∃u i w,l=u++i::w/\(∀j∈u,S j=true)/\S i=false
 |[]=>.inl (by simp)
 |x::l=>by
  cases I:S x with
  |false=>exact .inr ⟨[],x,l,rfl,by simp,I⟩
  |true=>
   rcases xt S l with h|⟨u,i,w,rfl,W,Y⟩
   .refine .inl λi hi=>?_
    rcases List.mem_cons.1 hi with rfl|hi
    .exact I
    .exact h i hi
   .refine .inr ⟨x::u,i,w,rfl,λj O=>?_,Y⟩
    rcases List.mem_cons.1 O with rfl|O
    .exact I
    .exact W j O
theorem Dx{listed:Array Bool}{i:Nat}(hi:i<listed.size)(j:Nat):rp (listed.setIfInBounds i true) j=if j=i then true else rp listed j:=by
 unfold rp
 rw[Array.getD_eq_getD_getElem?,Array.getD_eq_getD_getElem?,Array.getElem?_setIfInBounds]
 by_cases h:i=j
 .subst h;simp[hi]
 .rw[if_neg h,if_neg (λe=>h e.symm)]
theorem Dw{listed:Array Bool}{i:Nat}(hi:i<listed.size):listed.getD i true=rp listed i:=by
 unfold rp
 rw[Array.getD_eq_getD_getElem?,Array.getD_eq_getD_getElem?,Array.getElem?_eq_getElem hi]
 rfl
theorem CE{e:Env}{a:Act}{o:Oper}(h:∀t∈kJ ops o,∀u,e t=some u->a.tmps[t]?=some u):iP e a.eval o.op.operands.toList:=by
 intro x I v w
 cases x with
 |tmp t=>
  have:=h t (sE (Il I)) v w
  simp[Act.eval,Array.getD_eq_getD_getElem?,this]
 |const u=>simpa[nN,Act.eval] using w
 |global g=>simpa[nN,Act.eval] using w
 |func f=>simpa[nN,Act.eval] using w
theorem yq{X:Nat->Bool}{O:List Nat}(af:∀l1 i l2,O=l1++i::l2->qY P ops (iO ops.toList []) X l1 i l2)
 {a₀:Act}{w₀:fe}{e₀:Env}(hQ:∀a' w' e',Mt N Ds a' e'->ik w₀ w'->iN (lZ ops) a₀ a'->K e' w'.heap->Q .normal a' w')
 {listed:Array Bool}{a:Act}{w:fe}(h:∃tr u D,Inv P N Ds A ops K O a₀ w₀ e₀ listed a w tr u D)(hr:Region.ready .any ops listed=[]):Q .normal a w:=by
 obtain⟨tr,u,D,I⟩:=h
 have hS:∀i∈O,rp listed i=true:=by
  rcases xt (rp listed) O with h|⟨l1,i,l2,he,h1,h2⟩
  .exact h
  .exfalso
   have ho:=af l1 i l2 he
   obtain⟨o,Y⟩:=ho.ex
   have ag:i<ops.size:=(Array.getElem?_eq_some_iff.1 Y).1
   have:i∈Region.ready .any ops listed:=by
    unfold Region.ready
    rw[List.mem_filter]
    refine⟨List.mem_range.2 ag,?_⟩
    rw[Y,Dw (by rw[I.sz];exact ag),h2]
    simp only[Bool.not_false,Option.map_some,Option.getD_some,Bool.true_and]
    rw[Array.all_eq_true_iff_forall_mem]
    intro e am
    cases hb:Region.binds .any e with
    |false=>rfl
    |true=>exact h1 _ (ho.XR o Y e (by simpa using am) hb)
   rw[hr] at this
   simp at this
 have ae:u=[]:=by
  cases an:u with
  |nil=>rfl
  |cons c Z=>
   exfalso
   have he:O=tr.map (·.1)++c::Z:=by rw[I.split,an]
   have hc:=I.OI c (hS c (by rw[he];simp))
   exact(af _ c Z he).fresh hc
 have W:=I.rest
 rw[ae] at W
 refine hQ a w (lC ops oT tr e₀) ?_ I.Rp I.keeps W
 refine⟨I.mt.size,I.mt.defers,λt v hv=>I.mt.val t v ?_⟩
 rw[<-hv]
 refine qe rfl λx hx _=>?_
 exact hS x.1 (by rw[I.split];exact List.mem_append.2 (.inl (List.mem_map.2 ⟨x,hx,rfl⟩)))
theorem zo(hN:ju N ops=true){X:Nat->Bool}{ah:List Nat}(ay:∀l1 i l2,ah=l1++i::l2->qY P ops (iO ops.toList []) X l1 i l2)
 {a₀:Act}{w₀:fe}{e₀:Env}{listed:Array Bool}{a:Act}{w:fe}{tr:Tr}{aa:List Nat}{D:List (Nat×Env×dB)}(I:Inv P N Ds A ops K ah a₀ w₀ e₀ listed a w tr aa D){i:Nat}{o:Oper}(aU:i<ops.size)(W:ops[i]?=some o)(ao:rp listed i=false)
 (aA:∀e∈o.after.toList,Region.binds .any e=true->rp listed e.on=true){v:dB}{ei:Env}(hx:(i,v,ei)∈tr):
 Inv P N Ds A ops K ah a₀ w₀ e₀ (listed.setIfInBounds i true) (a.put o.dst v) w tr aa D/\∀Kn:Act->fe->Prop,Kn (a.put o.dst v) w->wpOp P ops Q i Kn a w:=by
 have aC:o∈ops:=Array.mem_of_getElem? W
 have aD:ry ops i=o.dst:=by unfold ry;rw[W];rfl
 have gO:=λj=>Dx (listed:=listed) (i:=i) (by rw[I.sz];exact aU) j
 have aE:Down ops (rp (listed.setIfInBounds i true)):=by
  intro j oj aF aG e he hb
  rw[gO] at aG⊢
  by_cases aM:j=i
  .subst aM
   rw[W] at aF
   obtain rfl:=Option.some.inj aF
   split
   .rfl
   .exact aA e he hb
  .rw[if_neg aM] at aG
   split
   .rfl
   .exact I.down j oj aF aG e he hb
 have ahead:∀l1 l2,ah=l1++i::l2->∀y∈l1,∀t∈kJ ops o,ry ops y=some t->rp listed y=true:=by
  intro l1 l2 he y Y t ht O
  obtain⟨m1,m2,rfl⟩:=List.append_of_mem Y
  have aO:=ay m1 y (m2++i::l2) (by rw[he];simp)
  obtain⟨oy,ab⟩:=aO.ex
  have aH:oy.dst=some t:=by unfold ry at O;rw[ab] at O;exact O
  have:=aO.Cc oy o i ab (by simp) W (AO (.inl ⟨aH,ht⟩))
  exact nO I.down W aA this
 have aS:(listed.setIfInBounds i true).size=ops.size:=by rw[Array.size_setIfInBounds,I.sz]
 have aV:i∈tr.map (·.1):=List.mem_map.2 ⟨_,hx,rfl⟩
 obtain⟨t1,t2,ap⟩:=List.append_of_mem hx
 have ad:ah=t1.map (·.1)++i::(t2.map (·.1)++aa):=by rw[I.split,ap];simp
 have aW:=ay _ _ _ ad
 have aX:ei=lC ops oT t1 e₀:=by
  have:=I.chain
  rw[ap,xB] at this
  exact this.2.1
 have ai:∀y∈t2,∀t∈kJ ops o,ry ops y.1=some t->rp listed y.1=false:=by
  intro y Y t ht O
  cases aY:rp listed y.1 with
  |false=>rfl
  |true=>
   exfalso
   have aZ:y.1∈t2.map (·.1)++aa:=List.mem_append.2 (.inl (List.mem_map.2 ⟨y,Y,rfl⟩))
   obtain⟨oy,ab⟩:∃oy,ops[y.1]?=some oy:=by
    unfold ry at O
    cases h:ops[y.1]? with
    |none=>rw[h] at O;cases O
    |some oy=>exact⟨oy,rfl⟩
   have aH:oy.dst=some t:=by unfold ry at O;rw[ab] at O;exact O
   have hb:=aW.Cc o oy y.1 W aZ ab (AO (.inr ⟨aH,ht⟩))
   have:=nO I.down ab (λe he a0=>I.down y.1 oy ab aY e he a0) hb
   rw[ao] at this
   cases this
 have ax:∀y∈t2,y.1≠i:=by
  intro y Y e
  obtain⟨m1,m2,rfl⟩:=List.append_of_mem Y
  have:=(ay (t1.map (·.1)++i::m1.map (·.1)) y.1 (m2.map (·.1)++aa) (by rw[ad];simp)).fresh
  apply this
  rw[e]
  simp
 have aK:∀t∈kJ ops o,lC ops (rp listed) tr e₀ t=ei t:=by
  intro t ht
  rw[ap,pr,rW,aX]
  .refine qe rfl λy Y O=>?_
   exact ahead _ _ ad y.1 (List.mem_map.2 ⟨y,Y,rfl⟩) t ht O
  .intro y Y O
   rcases List.mem_cons.1 Y with rfl|Y
   .exact ao
   .exact ai y Y t ht O
 have hm:∀t∈kJ ops o,∀u,ei t=some u->a.tmps[t]?=some u:=λt ht u hu=>I.mt.val t u (by rw[aK t ht];exact hu)
 have aI:=CE hm
 refine⟨?_,λKn af=>?_⟩
 .refine⟨aS,aE,I.split,I.chain,?_,?_,I.rest,I.head,?_,?_,I.Rp,I.keeps.trans (iN.put (tZ aC) _)⟩
  .intro x hx
   obtain⟨h1,h2⟩:=I.facts x hx
   refine⟨h1,λo' Z a4 a5=>?_⟩
   rw[gO]
   split
   .rfl
   .exact h2 o' Z a4 a5
  .intro x hx aq
   rw[gO] at aq
   split at aq
   .cases aq
   .exact I.reads x hx aq
  .have am:=I.mt.put o.dst (uT hN aC) v
   refine⟨am.size,am.defers,λt u hu=>am.val t u ?_⟩
   by_cases aj:o.dst=some t
   .rw[aj,rQ]
    rw[ap,pr] at hu
    unfold lC at hu
    rw[gO,if_pos rfl,if_pos rfl,aD,aj,rW,rQ] at hu
    .exact hu
    .intro y Y O
     rw[gO,if_neg (ax y Y)]
     exact ai y Y t (Cg aj) O
   .rw[oG aj,<-hu]
    refine qe rfl λy Y O=>?_
    rw[gO,if_neg]
    intro e
    rw[e,aD] at O
    exact aj O
  .intro j hj
   rw[gO] at hj
   split at hj
   .rename_i e;rw[e];exact aV
   .exact I.OI j hj
 .obtain⟨⟨o',Z,hf⟩,aP⟩:=I.facts _ hx
  simp only at Z hf aP
  rw[W] at Z
  obtain rfl:=Option.some.inj Z
  have ag:∀b,gJ ops o ei=some b->Region.wanted o (yielded ops a.tmps)=b:=λb hb=>jM hb λt ht u hu=>hm t (sE (Aa ht)) u hu
  unfold wpOp
  rw[W]
  simp only
  rcases hf with⟨hw,rfl⟩|⟨hw,hr⟩|⟨hw,hD⟩|⟨hw,hk⟩
  .rw[if_neg (by rw[ag _ hw];simp)]
   exact af
  .rw[if_pos (ag _ hw)]
   refine .inl ?_
   unfold Oper.wp
   rw[hr w.heap a.eval aI w rfl]
   exact af
  .rw[if_pos (ag _ hw)]
   refine .inl ?_
   obtain⟨o',Z,hr⟩:=I.reads _ hD ao
   simp only at Z hr
   rw[W] at Z
   obtain rfl:=Option.some.inj Z
   unfold Oper.wp
   rw[hr a.eval aI w rfl]
   exact af
  .have:=aP o W hw hk
   rw[ao] at this
   cases this
theorem p8(hp:fF P=true)(hN:ju N ops=true){X:Nat->Bool}{ab:List Nat}(av:∀l1 i l2,ab=l1++i::l2->qY P ops (iO ops.toList []) X l1 i l2)
 {a₀:Act}{w₀:fe}{e₀:Env}{listed:Array Bool}{a:Act}{w:fe}{O:Tr}{ai:List Nat}{D:List (Nat×Env×dB)}{i:Nat}(I:Inv P N Ds A ops K ab a₀ w₀ e₀ listed a w O (i::ai) D){o:Oper}(aV:i<ops.size)(W:ops[i]?=some o)(bh:rp listed i=false)
 (aj:∀e∈o.after.toList,Region.binds .any e=true->rp listed e.on=true)(aL:kindOf P o.op=.write)(aw:gJ ops o (lC ops oT O e₀)=some true){Kn:Act->fe->Prop}
 (aG:∀v w' aa Y D',Inv P N Ds A ops K ab a₀ w₀ e₀ (listed.setIfInBounds i true) (a.put o.dst v) w' (O++(i,v,lC ops oT O e₀)::aa) Y D'->Kn (a.put o.dst v) w'):wpOp P ops Q i Kn a w:=by
 have ax:o∈ops:=Array.mem_of_getElem? W
 have ak:ry ops i=o.dst:=by unfold ry;rw[W];rfl
 have gO:=λj=>Dx (listed:=listed) (i:=i) (by rw[I.sz];exact aV) j
 have ay:Down ops (rp (listed.setIfInBounds i true)):=by
  intro j oj az aA e he hb
  rw[gO] at aA⊢
  by_cases aM:j=i
  .subst aM
   rw[W] at az
   obtain rfl:=Option.some.inj az
   split
   .rfl
   .exact aj e he hb
  .rw[if_neg aM] at aA
   split
   .rfl
   .exact I.down j oj az aA e he hb
 have ahead:∀l1 l2,ab=l1++i::l2->∀y∈l1,∀t∈kJ ops o,ry ops y=some t->rp listed y=true:=by
  intro l1 l2 he y hy t ht hd
  obtain⟨m1,m2,rfl⟩:=List.append_of_mem hy
  have aO:=av m1 y (m2++i::l2) (by rw[he];simp)
  obtain⟨oy,aP⟩:=aO.ex
  have aX:oy.dst=some t:=by unfold ry at hd;rw[aP] at hd;exact hd
  have:=aO.Cc oy o i aP (by simp) W (AO (.inl ⟨aX,ht⟩))
  exact nO I.down W aj this
 have aS:(listed.setIfInBounds i true).size=ops.size:=by rw[Array.size_setIfInBounds,I.sz]
 have ad:ab=O.map (·.1)++i::ai:=I.split
 have aY:i∉O.map (·.1):=(av _ _ _ ad).fresh
 have aJ:∀t∈kJ ops o,lC ops (rp listed) O e₀ t=lC ops oT O e₀ t:=λt ht=>
  qe rfl λy hy hd=>ahead _ _ ad y.1 (List.mem_map.2 ⟨y,hy,rfl⟩) t ht hd
 have hm:∀t∈kJ ops o,∀u,lC ops oT O e₀ t=some u->a.tmps[t]?=some u:=λt ht u hu=>I.mt.val t u (by rw[aJ t ht];exact hu)
 have Z:=I.rest
 unfold qd at Z
 rw[W] at Z
 simp only[aw,aL] at Z
 unfold wpOp
 rw[W]
 simp only
 rw[if_pos (jM aw λt ht u hu=>hm t (sE (Aa ht)) u hu)]
 refine .inl (nP hp Z.1 (CE hm) w rfl ?_)
 intro v w' a0 hv
 obtain⟨hv,a3⟩:=vI hv
 have hv:=fZ hv
 have a4:∀x∈D,rp (listed.setIfInBounds i true) x.1=false->∃o,ops[x.1]?=some o/\rC P o x.2.1 x.2.2 w'.heap:=by
  intro x hx ag
  refine a3 x hx ?_
  cases hb:((iO ops.toList []).getD i 0).testBit x.1 with
  |false=>rfl
  |true=>
   have:=nO I.down W aj hb
   rw[gO] at ag
   split at ag
   .cases ag
   .rw[this] at ag;cases ag
 obtain⟨aa,Y,D',e1,e2,e3,bi,e4,e5,e6,e7⟩:=Wz (λr=>rp (listed.setIfInBounds i true) r=false) ai _ D a4 hv
 have ap:ab=(O++(i,v,lC ops oT O e₀)::aa).map (·.1)++Y:=by rw[ad,e1];simp
 have au:∀y∈aa,y.1∉O.map (·.1)/\y.1≠i:=by
  intro y hy
  obtain⟨m1,m2,rfl⟩:=List.append_of_mem hy
  have hf:=(av (O.map (·.1)++i::m1.map (·.1)) y.1 (m2.map (·.1)++Y) (by rw[ap];simp)).fresh
  exact⟨λh=>hf (by simp at h⊢;exact .inl h),λe=>hf (by rw[e];simp)⟩
 have aC:lC ops oT (O++(i,v,lC ops oT O e₀)::aa) e₀=lC ops oT aa (put (lC ops oT O e₀) o.dst v):=by
  rw[pr]
  conv=>lhs;unfold lC
  simp only[oT,if_true,ak]
 refine aG v w' aa Y D' ?_
 refine⟨aS,ay,ap,?_,?_,e5,by rw[aC];exact e6,by rw[aC];exact e7,?_,?_,I.Rp.trans a0,I.keeps.trans (iN.put (tZ ax) _)⟩
 .rw[xB]
  exact⟨I.chain,rfl,by rw[ak];exact e2⟩
 .intro x hx
  rw[List.mem_append,List.mem_cons] at hx
  rcases hx with hx|rfl|hx
  .obtain⟨⟨o',ah,hf⟩,h2⟩:=I.facts x hx
   refine⟨⟨o',ah,?_⟩,λo' ah aD aE=>?_⟩
   .rcases hf with h|h|h|h
    .exact .inl h
    .exact .inr (.inl h)
    .exact .inr (.inr (.inl ⟨h.1,e3 _ h.2⟩))
    .exact .inr (.inr (.inr h))
   .rw[gO]
    split
    .rfl
    .exact h2 o' ah aD aE
  .refine⟨⟨o,W,.inr (.inr (.inr ⟨aw,aL⟩))⟩,λ_ _ _ _=>?_⟩
   rw[gO,if_pos rfl]
  .obtain⟨h1,h2⟩:=e4 x hx
   exact⟨h1,λo' ah aD aE=>absurd aE (h2 o' ah aD)⟩
 .have ao:=I.mt.put o.dst (uT hN ax) v
  refine⟨ao.size,ao.defers,λt u hu=>ao.val t u ?_⟩
  rw[pr] at hu
  unfold lC at hu
  rw[gO,if_pos rfl,if_pos rfl,ak,rW] at hu
  .rw[<-hu]
   by_cases aF:o.dst=some t
   .rw[aF,rQ,rQ]
   .rw[oG aF,oG aF]
    refine qe rfl λy hy hd=>?_
    rw[gO,if_neg]
    intro e
    exact aY (List.mem_map.2 ⟨y,hy,e⟩)
  .intro y hy hd
   obtain⟨f1,f2⟩:=au y hy
   rw[gO,if_neg f2]
   cases a5:rp listed y.1 with
   |false=>rfl
   |true=>exact absurd (I.OI y.1 a5) f1
 .intro j hj
  rw[gO] at hj
  rw[List.map_append,List.mem_append]
  split at hj
  .rename_i e;rw[e];exact .inr (by simp)
  .exact .inl (I.OI j hj)
theorem Aw{listed:Array Bool}{i:Nat}(I:listed.size=ops.size)(hi:i∈Region.ready .any ops listed):
 i<ops.size/\rp listed i=false/\∃o,ops[i]?=some o/\∀e∈o.after.toList,Region.binds .any e=true->rp listed e.on=true:=by
 unfold Region.ready at hi
 rw[List.mem_filter] at hi
 obtain⟨O,hi⟩:=hi
 have u:i<ops.size:=List.mem_range.1 O
 rw[Bool.and_eq_true,Dw (by rw[I];exact u)] at hi
 obtain⟨W,h⟩:=hi
 have w:ops[i]?=some ops[i]:=Array.getElem?_eq_getElem u
 rw[w] at h
 simp only[Option.map_some,Option.getD_some,Array.all_eq_true_iff_forall_mem] at h
 refine⟨u,by simpa using W,ops[i],w,λe Y Z=>?_⟩
 have:=h e (by simpa using Y)
 rw[Z] at this
 simpa using this
theorem yf{listed:Array Bool}(h:listed.size=ops.size)(w:(List.range ops.size).countP (λi=>!rp listed i)=0):Region.ready .any ops listed=[]:=by
 unfold Region.ready
 rw[List.filter_eq_nil_iff]
 intro i hi
 have:=(List.countP_eq_zero.1 w) i hi
 have u:i<ops.size:=List.mem_range.1 hi
 rw[Dw (by rw[h];exact u)]
 simp only[Bool.not_eq_true',Bool.not_eq_false] at this
 simp[this]
theorem count_set{listed:Array Bool}{i h:Nat}(w:listed.size=ops.size)(u:i<ops.size)(I:rp listed i=false)(Y:(List.range ops.size).countP (λi=>!rp listed i)=h+1):
 (List.range ops.size).countP (λj=>!rp (listed.setIfInBounds i true) j)=h:=by
 have gO:=λj=>Dx (listed:=listed) (i:=i) (by rw[w];exact u) j
 have:=yS (p:=λj=>!rp listed j) (q:=λj=>!rp (listed.setIfInBounds i true) j) (i:=i) (by simp[I]) (by simp[gO]) (λj W=>by have O:=gO j;rw[if_neg W] at O;rw[O]) (l:=List.range ops.size) List.nodup_range (List.mem_range.2 u)
 omega
theorem rX(hp:fF P=true)(hN:ju N ops=true){X:Nat->Bool}{ae:List Nat}(Y:∀l1 i l2,ae=l1++i::l2->qY P ops (iO ops.toList []) X l1 i l2)(ap:∀i<ops.size,i∈ae)
 (a₀:Act)(w₀:fe)(e₀:Env)(hQ:∀a' w' e',Mt N Ds a' e'->ik w₀ w'->iN (lZ ops) a₀ a'->K e' w'.heap->Q .normal a' w'):
 ∀(O:Nat)(listed:Array Bool)(a:Act)(w:fe),(∃Z u D,Inv P N Ds A ops K ae a₀ w₀ e₀ listed a w Z u D/\∀c,X c=true->c∈Z.map (·.1))->
  (List.range ops.size).countP (λi=>!rp listed i)=O->wpAny P .any ops Q O listed a w:=by
 intro O
 induction O with
 |zero=>
  rintro listed a w ⟨Z,u,D,I,hX⟩ hc
  have hr:=yf I.sz hc
  exact⟨hr,yq Y hQ ⟨Z,u,D,I⟩ hr⟩
 |succ O ih=>
  rintro listed a w ⟨Z,u,D,I,hX⟩ hc
  refine⟨yq Y hQ ⟨Z,u,D,I⟩,λi hi=>?_⟩
  obtain⟨ac,ag,o,ad,ab⟩:=Aw I.sz hi
  have aa:=count_set I.sz ac ag hc
  by_cases am:i∈Z.map (·.1)
  .obtain⟨x,hx,an⟩:=List.mem_map.1 am
   obtain⟨i',v,ei⟩:=x
   simp only at an
   subst an
   obtain⟨h1,h2⟩:=zo (Q:=Q) hN Y I ac ad ag ab hx
   exact h2 _ (ih _ _ _ ⟨Z,u,D,h1,hX⟩ aa)
  .have W:i∈u:=by
    have:=ap i ac
    rw[I.split,List.mem_append] at this
    rcases this with h|h
    .exact absurd h am
    .exact h
   rcases I.head with ar|⟨c,aJ,oc,aB,ah,ao,aC⟩
   .rw[ar] at W;simp at W
   .subst aB
    have ai:=Y _ _ _ I.split
    have aD:X c=false:=by
     cases h:X c with
     |false=>rfl
     |true=>exact absurd (hX c h) ai.fresh
    have aE:i=c:=by
     rcases List.mem_cons.1 W with h|h
     .exact h
     .exfalso
      have hb:=ai.write aD oc ah ao i h
      exact ai.fresh (I.OI c (nO I.down ad ab hb))
    subst aE
    rw[ad] at ah
    obtain rfl:=Option.some.inj ah
    refine p8 hp hN Y I ac ad ag ab ao aC λv w' aP ak D' I'=>ih _ _ _ ⟨_,ak,D',I',λc hc=>?_⟩ aa
    rw[List.map_append,List.mem_append]
    exact .inl (hX c hc)
theorem NJ(hp:fF P=true)(hN:ju N ops=true){p r s:List Nat}{c d:Nat}{oc od:Oper}(u:∀l1 i l2,p++c::r=l1++i::l2->qY P ops (iO ops.toList []) (Nat.beq c) l1 i l2)(ab:∀l1 i l2,p++d::s=l1++i::l2->qY P ops (iO ops.toList []) (Nat.beq d) l1 i l2)
 (ah:∀i<ops.size,i∈p++c::r)(ap:∀i<ops.size,i∈p++d::s)(aC:∀j∈r,j=d\/((iO ops.toList []).getD j 0).testBit c=true\/((iO ops.toList []).getD j 0).testBit d=true)
 (ar:ops[c]?=some oc)(aD:kindOf P oc.op=.write)(aE:oc.guard=none)(au:ops[d]?=some od)(aF:kindOf P od.op=.write)(aG:od.guard=none)
 (a₀:Act)(w₀:fe)(e₀:Env)(hQ:∀a' w' e',Mt N Ds a' e'->ik w₀ w'->iN (lZ ops) a₀ a'->K e' w'.heap->Q .normal a' w'):
 ∀(Y:Nat)(listed:Array Bool)(a:Act)(w:fe),(∃tr,tr.map (·.1)=p/\Inv P N Ds A ops K (p++c::r) a₀ w₀ e₀ listed a w tr (c::r) []/\Inv P N Ds A ops K (p++d::s) a₀ w₀ e₀ listed a w tr (d::s) [])->
  (List.range ops.size).countP (λi=>!rp listed i)=Y->wpAny P .any ops Q Y listed a w:=by
 have am:∀{o:Oper}(e:Env),o.guard=none->gJ ops o e=some true:=λe h=>by unfold gJ;rw[h]
 intro Y
 induction Y with
 |zero=>
  rintro listed a w ⟨tr,ae,I,J⟩ hc
  have hr:=yf I.sz hc
  exact⟨hr,yq u hQ ⟨tr,_,_,I⟩ hr⟩
 |succ Y ih=>
  rintro listed a w ⟨tr,ae,I,J⟩ hc
  refine⟨yq u hQ ⟨tr,_,_,I⟩,λi hi=>?_⟩
  obtain⟨aa,af,o,W,O⟩:=Aw I.sz hi
  have Z:=count_set I.sz aa af hc
  by_cases an:i∈tr.map (·.1)
  .obtain⟨x,hx,av⟩:=List.mem_map.1 an
   obtain⟨i',v,ei⟩:=x
   simp only at av
   subst av
   obtain⟨h1,h2⟩:=zo (Q:=Q) hN u I aa W af O hx
   obtain⟨h3,_⟩:=zo (Q:=Q) hN ab J aa W af O hx
   exact h2 _ (ih _ _ _ ⟨tr,ae,h1,h3⟩ Z)
  .by_cases aw:i=c
   .subst aw
    rw[W] at ar
    obtain rfl:=Option.some.inj ar
    refine p8 hp hN u I aa W af O aD (am _ aE) λv w' aK ad D' I'=>rX hp hN u ah a₀ w₀ e₀ hQ _ _ _ _ ⟨_,ad,D',I',λc hc=>?_⟩ Z
    obtain rfl:=Nat.eq_of_beq_eq_true hc
    simp
   .by_cases hid:i=d
    .subst hid
     rw[W] at au
     obtain rfl:=Option.some.inj au
     refine p8 hp hN ab J aa W af O aF (am _ aG) λv w' aK ad D' I'=>rX hp hN ab ap a₀ w₀ e₀ hQ _ _ _ _ ⟨_,ad,D',I',λc hc=>?_⟩ Z
     obtain rfl:=Nat.eq_of_beq_eq_true hc
     simp
    .exfalso
     have h:=ah i aa
     rw[List.mem_append,List.mem_cons] at h
     rcases h with h|h|h
     .rw[ae] at an;exact an h
     .exact aw h
     .rcases aC i h with h|h|h
      .exact hid h
      .exact(u p c r rfl).fresh (by rw[<-ae];exact I.OI c (nO I.down W O h))
      .exact(ab p d s rfl).fresh (by rw[<-ae];exact J.OI d (nO J.down W O h))
theorem zC(n:Nat)(i:Nat):rp (Array.replicate n false) i=false:=by
 unfold rp
 rw[Array.getD_eq_getD_getElem?,Array.getElem?_replicate]
 split<;>rfl
theorem sQ(n:Nat):(List.range n).countP (λi=>!rp (Array.replicate n false) i)=n:=by
 rw[List.countP_eq_length.2]
 .simp
 .intro i _
  rw[zC]
  rfl
theorem xM{l:List Nat}(h:Jx ops l=true):∀i<ops.size,i∈l:=λi hi=>by
 have:=List.all_eq_true.1 h i (List.mem_range.2 hi)
 obtain⟨j,u,w⟩:=List.any_eq_true.1 this
 rw[Nat.eq_of_beq_eq_true w]
 exact u
theorem Ng{I h:List Nat}{u:Tr}{D:List (Nat×Env×dB)}{a₀:Act}{w₀ w:fe}{e₀:Env}(e1:I=u.map (·.1)++h)(e2:tC ops e₀ u)(e4:∀x∈u,Fact P ops D x/\∀o,ops[x.1]?=some o->gJ ops o x.2.2=some true->kindOf P o.op≠.write)
 (e5:∀x∈D,∃o,ops[x.1]?=some o/\rC P o x.2.1 x.2.2 w.heap)(e6:qd P ops (iO ops.toList []) A h (lC ops oT u e₀) w.heap D K)(e7:D9 P ops (lC ops oT u e₀) h)(O:Mt N Ds a₀ e₀)(hs:ik w₀ w):
 Inv P N Ds A ops K I a₀ w₀ e₀ (Array.replicate ops.size false) a₀ w u h D:=by
 refine⟨by simp,?_,e1,e2,?_,λx W _=>e5 x W,e6,e7,?_,?_,hs,iN.refl _ _⟩
 .intro i o _ Y
  rw[zC] at Y
  cases Y
 .intro x W
  obtain⟨h1,h2⟩:=e4 x W
  exact⟨h1,λo' Z aa ab=>absurd ab (h2 o' Z aa)⟩
 .refine⟨O.size,O.defers,λt v hv=>O.val t v ?_⟩
  rw[rW (λx _ _=>zC _ x.1)] at hv
  exact hv
 .intro i hi
  rw[zC] at hi
  cases hi
theorem Je(hp:fF P=true)(hN:ju N ops=true){I:List Nat}(u:Bc P ops (iO ops.toList []) I=true)
 (a₀:Act)(w₀ w:fe)(e₀:Env)(hQ:∀Y w' e',Mt N Ds Y e'->ik w₀ w'->iN (lZ ops) a₀ Y->K e' w'.heap->Q .normal Y w')
 (h:qd P ops (iO ops.toList []) A I e₀ w.heap [] K)(hm:Mt N Ds a₀ e₀)(hs:ik w₀ w):
 wpAny P .any ops Q ops.size (Array.replicate ops.size false) a₀ w:=by
 unfold Bc at u
 rw[Bool.and_eq_true] at u
 obtain⟨Z,u⟩:=u
 rw[IF] at u
 have ac:∀O i W,I=O++i::W->qY P ops (iO ops.toList []) (λ_=>false) O i W:=λO i W he=>by
  have:=nL (done:=[]) u (by simp) O i W he
  simpa using this
 obtain⟨tr,aa,D,e1,e2,e3,av,e4,e5,e6,e7⟩:=Wz (λ_=>True) I e₀ [] (by simp) h
 exact rX hp hN ac (xM Z) a₀ w₀ e₀ hQ ops.size _ a₀ w ⟨tr,aa,D,Ng e1 e2 e4 (λx hx=>e5 x hx trivial) e6 e7 hm hs,λc hc=>by cases hc⟩ (sQ _)
theorem Wy{B:List Nat}{H:dw}:∀(l:List Nat)(e:Env),(∀i∈l,Dj P ops i=true)->qd P ops B A l e H [] K->
 ∃u:Tr,l=u.map (·.1)/\tC ops e u/\(∀x∈u,Fact P ops [] x/\∀o,ops[x.1]?=some o->gJ ops o x.2.2=some true->kindOf P o.op≠.write)/\K (lC ops oT u e) H
 |[],e,_,h=>⟨[],rfl,trivial,by simp,h⟩
 |i::rest,e,hl,h=>by
  have I:=hl i (by simp)
  unfold Dj at I
  unfold qd at h
  split at h
  .exact h.elim
  .rename_i o O
   rw[O] at I
   have hk:kindOf P o.op=.pure:=by simpa using I
   have W:ry ops i=o.dst:=by unfold ry;rw[O];rfl
   have step:∀v:dB,Fact P ops [] (i,v,e)->qd P ops B A rest (put e o.dst v) H [] K->
    ∃u:Tr,i::rest=u.map (·.1)/\tC ops e u/\(∀x∈u,Fact P ops [] x/\∀o,ops[x.1]?=some o->gJ ops o x.2.2=some true->kindOf P o.op≠.write)/\K (lC ops oT u e) H:=by
    intro v hf Z
    obtain⟨u,e1,e2,e3,e4⟩:=Wy rest _ (λj hj=>hl j (by simp[hj])) Z
    refine⟨(i,v,e)::u,by rw[e1];rfl,⟨rfl,by rw[W];exact e2⟩,?_,?_⟩
    .intro x hx
     rcases List.mem_cons.1 hx with rfl|hx
     .refine⟨hf,λo' Y _=>?_⟩
      rw[O] at Y
      obtain rfl:=Option.some.inj Y
      rw[hk]
      simp
     .exact e3 x hx
    .unfold lC;simp only[oT,if_true,W];exact e4
   split at h
   .exact h.elim
   .rename_i hw
    exact step undef ⟨o,O,.inl ⟨hw,rfl⟩⟩ h
   .rename_i hw
    rw[hk] at h
    obtain⟨v,Z,hr⟩:=kb h
    exact step v ⟨o,O,.inr (.inl ⟨hw,λH ρ ha w _=>hr ρ ha w⟩)⟩ (fZ Z)
theorem yI:∀(l m p x y:List Nat),nV l m=(p,x,y)->l=p++x/\m=p++y
 |[],m,p,x,y,h=>by
  unfold nV at h
  cases h
  exact⟨rfl,rfl⟩
 |a::l,[],p,x,y,h=>by
  unfold nV at h
  cases h
  exact⟨rfl,rfl⟩
 |a::l,b::m,p,x,y,h=>by
  unfold nV at h
  cases u:Nat.beq a b<;>rw[u] at h<;>simp only[cond_true,cond_false] at h
  .cases h
   exact⟨rfl,rfl⟩
  .obtain rfl:=Nat.eq_of_beq_eq_true u
   cases w:nV l m with
   |mk Y I=>
    obtain⟨x',Z⟩:=I
    rw[w] at h
    cases h
    obtain⟨O,W⟩:=yI l m _ _ _ w
    exact⟨by rw[O];rfl,by rw[W];rfl⟩
end
end Go.Ex
