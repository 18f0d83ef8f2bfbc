/- Part AB of the proof that the law TopMany answers true at every input, under no condition. -/
import Derived.Test.YtmdbfgemefalmaaGreatDoorQAA
set_option linter.unusedVariables false
set_option maxHeartbeats 2000000
set_option maxRecDepth 100000
namespace Go.Ex
section
variable {P:Program}
theorem GV:∀{ts:List TypeId}{acc:List Value}{K:Value->Prop},WN P ts acc K->∃v,K v
 |[],_,_,h=>⟨_,h⟩
 |_::_,_,_,h=>by
  obtain⟨v,h⟩:=zB (show Tv _ _ from h)
  exact GV h
theorem Ln{ts:List TypeId}{v:Value}{K:Value->Prop}(h:SM P ts v K):K v:=by
 unfold SM at h
 split at h
 ·obtain⟨u,rfl,h⟩:=zB h;exact h
 ·obtain⟨u,rfl,h⟩:=GV h;exact h
theorem kJ{b:Bool}{A:Prop}(h:bif b then A else False):b=true/\A:=by cases b<;>simp_all
theorem heap_alloc(w:World)(o:Obj):(w.alloc o).heap=w.heap.push o:=rfl
theorem Ev(t:TypeId)(v:Value)(w:World):(newVar t v).run P w=.ok ⟨w.heap.size,0,none⟩ (w.alloc (.cells v.cells t)):=by
 unfold newVar newRow newObj
 rfl
theorem wM(z:List Value)(n:Nat)(size:Nat)(hs:z.length=size):
 ((List.replicate n z).flatten).toArray=(Array.range (n*size)).map λi=>z.toArray[i%z.toArray.size]!:=by
 apply Array.ext'
 simp only[Array.toList_map,Array.toList_range,List.size_toArray]
 induction n with
 |zero=>simp
 |succ n ih=>
  rw[List.replicate_succ,List.flatten_cons,ih,Nat.succ_mul,Nat.add_comm (n*size) size,List.range_add,List.map_append,List.map_map]
  congr 1
  ·apply List.ext_getElem
   ·simp[hs]
   ·intro i h1 h2
    simp only[List.getElem_map,List.getElem_range]
    have:i<size:=by omega
    rw[Nat.mod_eq_of_lt (by omega),getElem!_pos z.toArray i (by simpa using h1)]
    simp
  ·apply List.map_congr_left
   intro i _
   simp only[Function.comp]
   rw[hs,Nat.add_mod_left]
theorem tn(hp:j0 P=true){f:FuncId}{fn:Func}(hf:P.funcs[f]?=some fn):(fn.name== "runtime.NumGoroutine")=false:=by
 unfold j0 at hp
 simp only[Bool.and_eq_true] at hp
 obtain⟨h1,rfl⟩:=Array.getElem?_eq_some_iff.1 hf
 have:=Array.all_eq_true.1 hp.2 f h1
 simpa using this
theorem Jr{o:Oper}{e:Env}{H:Heap}{K:Value->Heap->Prop}{a:Act}(hp:j0 P=true)(h:jL P o.op e H K)(ha:fc e a.eval o.op.operands.toList)
 (w:World)(hw:w.heap=H){next:Act->World->Prop}{Q:Exit->Act->World->Prop}(hn:∀v w',dV w w'->K v w'.heap->next (a.put o.dst v) w'):o.wp P a w next Q:=by
 have val:∀{s:Sem Value}{v:Value}{w':World},s.run P w=.ok v w'->dV w w'->K v w'.heap->(execOp a.eval o=do pure (.value (<-s)))->o.wp P a w next Q:=by
  intro s v w' hr hs hk he
  unfold Oper.wp
  rw[he,Sem.run_bind,hr]
  exact hn v w' hs hk
 have unit:∀{s:Sem Unit}{w':World},s.run P w=.ok () w'->dV w w'->K undef w'.heap->(execOp a.eval o=do s;pure .skip)->o.wp P a w next Q:=by
  intro s w' hr hs hk he
  unfold Oper.wp
  rw[he,Sem.run_bind,hr]
  exact hn undef w' hs hk
 subst hw
 obtain⟨dst,op,type,pos,after,guard⟩:=o
 simp only at h ha
 unfold jL at h
 split at h
 ·rename_i t x y
  obtain⟨v,hv,h⟩:=ma h
  obtain⟨u,hu,h⟩:=ma h
  have hex:execOp a.eval {dst:=dst,op:=.store t x y,type:=type,pos:=pos,after:=after,guard:=guard}=(do Instr.storeAt t v u;pure .skip):=by
   simp only[execOp,ha x (by simp[Op.operands]) _ hv,ha y (by simp[Op.operands]) _ hu]
  split at h
  ·rename_i ad _
   split at h
   ·rename_i tD
    split at h
    ·rename_i cs
     obtain⟨hb,h⟩:=kJ h
     simp only[Bool.and_eq_true] at hb
     obtain⟨i,hi⟩:=Option.isSome_iff_exists.1 hb.2
     have pg:cs.size=i.size:=by have:=Nat.eq_of_beq_eq_true hb.1;simpa[ir,hi] using this
     obtain⟨w',hr,hs,hk⟩:=Er (P:=P) h w rfl
     refine unit ?_ hs hk hex
     unfold Instr.storeAt storeVar
     rw[Sem.run_bind,show(Instr.sureAddr (.pointer (some ad))).run P w=.ok ad w from rfl]
     simp only[Result.andThen]
     rw[Sem.run_bind,gL hi]
     simp[Value.cells,pg,hr]
    ·exact h.elim
   ·rename_i tD
    obtain⟨hb,h⟩:=kJ h
    simp only[Bool.and_eq_true] at hb
    obtain⟨i,hi⟩:=Option.isSome_iff_exists.1 hb.2
    have pg:1=i.size:=by have:=Nat.eq_of_beq_eq_true hb.1;simpa[ir,hi] using this
    obtain⟨hk,hc,hr⟩:=P9 (P:=P) h
    refine unit ?_ (dV.setCell w _ _) (by rw[mX];exact hk) hex
    unfold Instr.storeAt storeVar
    rw[Sem.run_bind,show(Instr.sureAddr (.pointer (some ad))).run P w=.ok ad w from rfl]
    simp only[Result.andThen]
    rw[Sem.run_bind,gL hi]
    simp[hc,<-pg,storeCells,add_zero,hr w rfl]
  ·exact h.elim
 ·rename_i t
  obtain⟨i,z,hi,hz,h,FN⟩:=jx h
  refine val (s:=Instr.alloc t true (.tuple #[])) (v:=.pointer (some ⟨w.heap.size,0,none⟩)) (w':=w.alloc (.cells z.cells t)) ?_ (dV.alloc _ _) (by rw[heap_alloc,oD];exact h) rfl
  unfold Instr.alloc
  rw[Sem.run_bind,FN]
  simp only[Result.andThen]
  rw[Sem.run_bind,Ev]
  rfl
 ·rename_i t x
  obtain⟨v,hv,h⟩:=ma h
  have hex:execOp a.eval {dst:=dst,op:=.box t x,type:=type,pos:=pos,after:=after,guard:=guard}=(do pure (.value (<-Instr.box t v))):=by
   simp only[execOp,ha x (by simp[Op.operands]) _ hv]
  have hr:(Instr.box t v).run P w=.ok (.pointer (some ⟨w.heap.size,0,none⟩)) (w.alloc (.cells v.cells t)):=by
   unfold Instr.box
   rw[Sem.run_bind,Ev]
   rfl
  split at h
  ·rename_i cs
   exact val hr (dV.alloc _ _) h hex
  ·obtain⟨h,hc,_⟩:=EB h
   exact val hr (dV.alloc _ _) (by rw[heap_alloc,hc];exact h) hex
 ·rename_i t l c
  obtain⟨vl,PZ,h⟩:=ma h
  obtain⟨vc,hvc,h⟩:=ma h
  have hex:execOp a.eval {dst:=dst,op:=.makeSlice t l c,type:=type,pos:=pos,after:=after,guard:=guard}=(do pure (.value (<-Instr.makeSlice t vl vc))):=by
   simp only[execOp,ha l (by simp[Op.operands]) _ PZ,ha c (by simp[Op.operands]) _ hvc]
  split at h
  ·rename_i el k n k' m hu _
   split at h
   ·rename_i i hi
    obtain⟨i',z,nN,hz,h,FN⟩:=jx h
    obtain rfl:i=i':=by rw[hi] at nN;exact Option.some.inj nN
    obtain⟨hb,h0,h1,h2,h⟩:=kJ h
    simp only[Bool.and_eq_true] at hb
    have e1:(dD z).length=i.size:=Nat.eq_of_beq_eq_true hb.1.1
    have e2:0<i.bytes:=by have:=hb.1.2;rw[Nat.blt_eq] at this;exact this
    have e3:0<i.size:=by have:=hb.2;rw[Nat.blt_eq] at this;exact this
    have hm:m<=281474976710656:=by
     have:(1:Int)*m<=(i.bytes:Int)*m:=Int.mul_le_mul_of_nonneg_right (by omega) (by omega)
     omega
    have alx:IntKind.i64.wrap n=n:=by unfold IntKind.wrap;simp[IntKind.bits,IntKind.signed];omega
    have aly:IntKind.i64.wrap m=m:=by unfold IntKind.wrap;simp[IntKind.bits,IntKind.signed];omega
    refine val (v:=.slice (some ⟨w.heap.size,0,none⟩) n.toNat m.toNat) (w':=w.alloc (.cells (iq z m.toNat) el)) ?_ (dV.alloc _ _) h hex
    unfold Instr.makeSlice
    rw[Sem.run_bind,mm hu]
    simp only[Result.andThen]
    have Sc:∀w,(asInt (.int k n)).run P w=.ok n w:=λw=>rfl
    have Yh:∀w,(asInt (.int k' m)).run P w=.ok m w:=λw=>rfl
    rw[Sem.run_bind,Sc]
    simp only[Result.andThen]
    rw[Sem.run_bind,Yh]
    simp only[Result.andThen]
    rw[Sem.run_bind,Ey hi]
    simp only[Result.andThen,alx,aly]
    have c1:¬(m<0):=by omega
    have c2:¬(281474976710656<(i.bytes:Int)*m):=by omega
    have c3:¬(n<0):=by omega
    have c4:¬(m<n):=by omega
    simp only[show(2:Int)^48=281474976710656 from rfl,gt_iff_lt,c1,c2,c3,c4,decide_false,Bool.or_false,Bool.false_eq_true,if_false,Sem.run_bind,Result.andThen]
    have har:(askRoom (m.toNat*i.bytes)).run P w=.ok () w:=by
     unfold askRoom
     split<;>rfl
    rw[har]
    simp only[gL hi]
    by_cases ZY:m.toNat*i.size=0
    ·have hm0:m.toNat=0:=by
      rcases Nat.mul_eq_zero.1 ZY with h|h
      ·exact h
      ·omega
     have BD:iq z m.toNat=#[]:=by simp[iq,hm0]
     rw[if_pos ZY,BD]
     simp only[pure_bind,ZY]
     rw[show∀f:Nat->Value,(Array.range 0).map f=#[] fromλf=>by simp]
     rfl
    ·rw[if_neg ZY,Sem.run_bind,FN]
     simp only[Result.andThen,pure_bind]
     rw[xa]
     unfold Builtin.zeroCells
     rw[show z.cells.size=i.size by rw[xN,e1]]
     rfl
   ·exact h.elim
  ·exact h.elim
 ·rename_i t len parts
  obtain⟨ps,Ub,h⟩:=IS h
  have e:(parts.map λ(x:Nat×Operand)=>(x.1,a.eval x.2))=ps.toArray:=by
   have:=fc.GX Ub (λy hy=>ha y (by simp[Op.operands];simpa using hy))
   rw[<-this]
   cases parts;simp
  have hex:execOp a.eval {dst:=dst,op:=.buildSlice t len parts,type:=type,pos:=pos,after:=after,guard:=guard}=(do pure (.value (<-Instr.buildSlice t len ps.toArray))):=by
   simp only[execOp,e]
  simp only[List.nil_append] at h
  split at h
  ·rename_i el hu
   split at h
   ·rename_i i hi
    obtain⟨i',z,nN,hz,h,FN⟩:=jx h
    obtain rfl:i=i':=by rw[hi] at nN;exact Option.some.inj nN
    obtain⟨hb,h⟩:=kJ h
    simp only[Bool.and_eq_true] at hb
    have e1:(dD z).length=i.size:=Nat.eq_of_beq_eq_true hb.2
    have e2:len*i.size<=1024:=Nat.le_of_ble_eq_true hb.1
    obtain⟨cs,hk,hf⟩:=ou h
    simp only[Option.map_some] at hf
    refine val (v:=.slice (some ⟨w.heap.size,0,none⟩) len len) (w':=w.alloc (.cells cs.toArray el)) ?_ (dV.alloc _ _) hk hex
    unfold Instr.buildSlice
    rw[Sem.run_bind,mm hu]
    simp only[Result.andThen]
    rw[Sem.run_bind,gL hi]
    simp only[Result.andThen]
    rw[if_neg (show¬len*i.size>2^24 by have:(2:Nat)^24=16777216:=rfl;omega)]
    have BD:(if len*i.size=0 then(pure #[]:Sem (Array Value)) else do pure (<-zeroValue el).cells).run P w=.ok (if len*i.size=0 then#[] else z.cells) w:=by
     split
     ·rfl
     ·rw[Sem.run_bind,FN];rfl
    have Bf:((Array.range (len*i.size)).map λj=>(if len*i.size=0 then(#[]:Array Value) else z.cells)[j%(if len*i.size=0 then(#[]:Array Value) else z.cells).size]!)=((List.replicate len (dD z)).flatten).toArray:=by
     rw[wM (dD z) len i.size e1]
     by_cases ZY:len*i.size=0
     ·simp[ZY]
     ·simp only[ZY,if_false,oD]
    by_cases ZY:len*i.size=0
    ·simp only[ZY,if_true] at Bf⊢
     show Sem.run P (match Instr.fill (λi_1=>some (i_1*i.size,i.size)) (Array.map (λx=>(#[]:Array Value)[x%(#[]:Array Value).size]!) (Array.range 0)) ps with
      |some cells=>do
       let __do_lift<-newRow el cells
       pure (Value.slice (some __do_lift) len len)
      |x=>stuck "buildSlice: a part of the wrong size") w=_
     rw[Bf,hf]
     rfl
    ·simp only[ZY,if_false] at Bf⊢
     rw[Sem.run_bind,FN]
     simp only[Result.andThen,pure_bind]
     rw[Bf,hf]
     rfl
   ·exact h.elim
  ·exact h.elim
 ·rename_i s d x
  obtain⟨v,hv,h⟩:=ma h
  have hex:execOp a.eval {dst:=dst,op:=.convert s d x,type:=type,pos:=pos,after:=after,guard:=guard}=(do pure (.value (<-convert s d v))):=by
   simp only[execOp,ha x (by simp[Op.operands]) _ hv]
  split at h
  ·rename_i ds b t hs hd
   split at h
   ·rename_i hb
    have hg:=grownCap_ge w t.size 0 b
    have hk:=h (grownCap w t.size 0 b) hg
    let cells:Array Value:=(mg t).toArray++Array.replicate (grownCap w t.size 0 b-t.size) (.int .u8 0)
    have pg:cells.size=grownCap w t.size 0 b:=by
     simp only[cells,Array.size_append,List.size_toArray,Array.size_replicate]
     have:(mg t).length=t.size:=by unfold mg;rw[List.length_map,Array.length_toList];rfl
     omega
    refine val (v:=.slice (some ⟨w.heap.size,0,none⟩) t.size (grownCap w t.size 0 b)) (w':=w.drew.alloc (.cells cells b (cells.size,cells.size+1))) ?_ ((dV.drew w).trans (dV.alloc _ _)) ?_ hex
    ·have e0:(mg t).toArray=t.data.map (λb=>Value.int .u8 b.toNat):=by
      unfold mg
      apply Array.ext'
      simp
     have FQ:((w.drew.alloc (.cells cells b)).freeze {block:=w.heap.size,off:=cells.size} 1)=w.drew.alloc (.cells cells b (cells.size,cells.size+1)):=by
      unfold World.freeze World.alloc
      simp only[Nat.one_ne_zero,if_false]
      congr 1
      apply Array.ext'
      simp only[World.drew,Array.toList_modify,Array.toList_push]
      apply List.ext_getElem?
      intro j
      rw[List.getElem?_modify]
      by_cases hj:w.heap.size=j
      ·subst hj;simp
      ·simp[hj]
       rcases Nat.lt_or_ge j w.heap.size with h|h
       ·simp[List.getElem?_append,h]
       ·have:w.heap.size+1<=j:=by omega
        simp[List.getElem?_append,show¬j<w.heap.size by omega,show j-w.heap.size≠0 by omega]
     unfold convert
     rw[Sem.run_bind,mm hs]
     simp only[Result.andThen]
     rw[Sem.run_bind,mm hd]
     simp only[Result.andThen]
     have amT:(Conv.stringToBytes b t).run P w=.ok (.slice (some ⟨w.heap.size,0,none⟩) t.size (grownCap w t.size 0 b)) (w.drew.alloc (.cells cells b (cells.size,cells.size+1))):=by
      unfold Conv.stringToBytes
      rw[Sem.run_bind,run_choose]
      simp only[Question.forced,Bool.false_eq_true,if_false,Result.andThen]
      rw[Sem.run_bind]
      have aqc:(newRow b ((t.data.map λb=>Value.int .u8 b.toNat)++Array.replicate ((Question.appendCap t.size 0 b).cut (w.tape w.drawn (.appendCap t.size 0 b))-t.size) (.int .u8 0))).run P {w with drawn:=w.drawn+1}=.ok ⟨w.heap.size,0,none⟩ (w.drew.alloc (.cells cells b)):=by
       simp only[cells,e0,grownCap]
       rfl
      rw[aqc]
      simp only[Result.andThen]
      rw[Sem.run_bind]
      have amS:(markStringish ⟨w.heap.size,0,none⟩).run P (w.drew.alloc (.cells cells b))=.ok () (w.drew.alloc (.cells cells b (cells.size,cells.size+1))):=by
       unfold markStringish
       rw[Sem.run_bind]
       have uw:(shape w.heap.size).run P (w.drew.alloc (.cells cells b))=.ok (some (b,cells.size)) (w.drew.alloc (.cells cells b)):=by
        show Result.ok ((w.drew.alloc (.cells cells b)).shape? w.heap.size) _=_
        congr 1
        unfold World.shape?
        rw[show(w.drew.alloc (.cells cells b)).heap[w.heap.size]?=some (.cells cells b) from by show(w.heap.push _)[w.heap.size]?=_;simp]
       rw[uw]
       simp only[Result.andThen]
       show Result.ok () ((w.drew.alloc (.cells cells b)).freeze {block:=w.heap.size,off:=cells.size} 1)=_
       rw[FQ]
      rw[amS]
      rfl
     rw[Sem.run_bind,mm hb]
     exact amT
    ·show K _ _
     simp only[heap_alloc,pg]
     exact hk
   ·exact h.elim
  ·exact h.elim
 ·rename_i args ts
  split at h
  ·rename_i x y t u hx ht
   split at h
   ·exact h.elim
   ·exact h.elim
   ·rename_i d hZ hu
    obtain⟨vx,PY,h⟩:=ma h
    obtain⟨vy,hvy,h⟩:=ma h
    have ea:args=#[x,y]:=by cases args;simpa using hx
    have et:ts=#[t,u]:=by cases ts;simpa using ht
    subst ea et
    obtain⟨v,w',hr,hs,hk⟩:=Y4 (T:=type) hu (λk e=>hZ k e) h w rfl
    refine val hr hs hk ?_
    simp only[execOp,resolve,List.map_toArray,List.map_cons,List.map_nil,ha x (by simp[Op.operands,Call.operands]) _ PY,ha y (by simp[Op.operands,Call.operands]) _ hvy,pure_bind,invoke,builtin]
  ·exact h.elim
 ·rename_i f args ts
  obtain⟨vs,Co,h⟩:=tq h
  have ea:=fc.list Co (λy hy=>ha y (by simp[Op.operands,Call.operands];simp at hy;exact .inr hy))
  have Js:args.map a.eval=vs.toArray:=by rw[<-ea];cases args;simp
  simp only[List.nil_append] at h
  unfold afD at h
  split at h
  ·rename_i fn hf
   obtain⟨hb,h⟩:=kJ h
   have aqp:=tn hp hf
   have hr:(execOp a.eval {dst:=dst,op:=.call {callee:=.value (.func f),args:=args,argTypes:=ts},type:=type,pos:=pos,after:=after,guard:=guard}).run P w=.ok (.enter f vs.toArray) w:=by
    have R3:fn.body.isNone=false:=by cases ZU:fn.body<;>simp_all
    simp only[execOp,resolve,Js,Act.eval,Deferred.ofValue,pure_bind,invoke,callFunc,Array.append_empty,Array.empty_append]
    rw[Sem.run_bind,run_program]
    simp only[Result.andThen,hf,aqp,R3,Bool.false_eq_true,if_false]
    rfl
   unfold Oper.wp
   rw[hr]
   refine(h w rfl).mono ?_
   rintro ending w' ⟨v,rfl,hs,hk⟩
   exact hn v w' hs hk
  ·exact h.elim
 ·exact h.elim
theorem mD{o:Oper}{e:Env}{H:Heap}{K:Value->Heap->Prop}{a:Act}(hp:j0 P=true)(h:ny P o.op e H K)(ha:fc e a.eval o.op.operands.toList)
 (w:World)(hw:w.heap=H){next:Act->World->Prop}{Q:Exit->Act->World->Prop}(hn:∀v w',dV w w'->K v w'.heap->next (a.put o.dst v) w'):o.wp P a w next Q:=by
 rcases h with h|h
 ·exact Jr hp h ha w hw hn
 ·exact h o a w _ _ rfl ha hw hn
end
end Go.Ex
namespace Go.Ex
structure Mt(N:Nat)(Ds:List Deferred)(a:Act)(e:Env):Prop where
 size:a.tmps.size=N
 defers:a.defers=Ds
 val:∀t v,e t=some v->a.tmps[t]?=some v
theorem kS(e:Env)(d:Nat)(v:Value)(t:Nat):put e (some d) v t=if t=d then some v else e t:=by
 unfold put
 simp only
 by_cases h:t=d
 ·subst h;simp
 ·have:Nat.beq t d=false:=by
   cases hb:Nat.beq t d
   ·rfl
   ·exact absurd (Nat.eq_of_beq_eq_true hb) h
  simp[this,h]
theorem tK(a:Act)(d:Nat)(v:Value):(a.put (some d) v).tmps=a.tmps.setIfInBounds d v:=rfl
theorem Mt.put{N:Nat}{Ds:List Deferred}{a:Act}{e:Env}(h:Mt N Ds a e)(d:Option Tmp)(hd:∀t,d=some t->t<N)(v:Value):Mt N Ds (a.put d v) (put e d v):=by
 cases d with
 |none=>exact h
 |some d=>
  refine⟨by rw[tK,Array.size_setIfInBounds,h.size],h.defers,λt u hu=>?_⟩
  rw[tK,Array.getElem?_setIfInBounds]
  rw[kS] at hu
  by_cases ht:t=d
  ·subst ht
   rw[if_pos rfl] at hu
   have:=hd t rfl
   simp[h.size,this,hu]
  ·rw[if_neg ht] at hu
   rw[if_neg (λe=>ht e.symm)]
   exact h.val t u hu
theorem Mt.eval{N:Nat}{Ds:List Deferred}{a:Act}{e:Env}(h:Mt N Ds a e){x:Operand}{v:Value}(hv:mo e x=some v):a.eval x=v:=by
 cases x with
 |tmp t=>
  have:=h.val t v hv
  simp[Act.eval,Array.getD_eq_getD_getElem?,this]
 |const u=>simpa[mo,Act.eval] using hv
 |global g=>simpa[mo,Act.eval] using hv
 |func f=>simpa[mo,Act.eval] using hv
theorem Mt.nE{N:Nat}{Ds:List Deferred}{a:Act}{e:Env}(h:Mt N Ds a e)(xs:List Operand):fc e a.eval xs:=λ_ _ _ hv=>h.eval hv
theorem ib{ops:Array Oper}{o:Oper}{e:Env}{b:Bool}{tmps:Array Value}(h:eB ops o e=some b)
 (hm:∀t∈u6 ops o,∀v,e t=some v->tmps[t]?=some v):Region.wanted o (yielded ops tmps)=b:=by
 unfold eB at h
 unfold Region.wanted
 split at h
 ·rename_i hg
  rw[hg]
  simpa using h
 ·rename_i j want hg
  rw[hg]
  simp only
  unfold yielded
  split at h
  ·rename_i hj
   rw[hj]
   simp only[Option.bind_none]
   simp only[Option.some.injEq] at h
   subst h
   rfl
  ·rename_i d hj
   have qI:d∈u6 ops o:=by unfold u6;rw[hg];simp[hj]
   rw[hj]
   simp only[Option.bind_some]
   split at h
   ·rename_i c hc
    rw[hm d qI _ hc]
    simp only[Option.some.injEq] at h
    subst h
    simp
   ·rename_i v hZ hc
    rw[hm d qI _ hc]
    simp only[Option.some.injEq] at h
    subst h
    cases v<;>first|exact absurd rfl (hZ _)|rfl
   ·cases h
theorem nX{g:Bool}{v:Value}{K:Value->Prop}(h:kH g v K):K v:=by
 unfold kH at h
 split at h
 ·exact h
 ·split at h
  ·rcases wa h with⟨rfl,h⟩|⟨rfl,h⟩<;>exact h
  ·exact h
theorem vX{N:Nat}{ops:Array Oper}(h:gm N ops=true){o:Oper}(ho:o∈ops):∀t,o.dst=some t->t<N:=by
 unfold gm at h
 have:=Array.all_eq_true_iff_forall_mem.1 h o ho
 intro t ht
 rw[ht] at this
 simpa[Nat.blt_eq] using this
def fz(ds:List Nat)(a a':Act):Prop:=∀t,t∉ds->a'.tmps[t]?=a.tmps[t]?
theorem fz.refl(ds:List Nat)(a:Act):fz ds a a:=λ_ _=>rfl
theorem fz.trans{ds:List Nat}{a b c:Act}(h:fz ds a b)(k:fz ds b c):fz ds a c:=λt ht=>(k t ht).trans (h t ht)
theorem fz.mono{ds Z6:List Nat}{a b:Act}(h:fz ds a b)(hs:∀t∈ds,t∈Z6):fz Z6 a b:=λt ht=>h t λhm=>ht (hs t hm)
theorem fz.put{ds:List Nat}{a:Act}{d:Option Tmp}(hd:∀t,d=some t->t∈ds)(v:Value):fz ds a (a.put d v):=by
 intro t ht
 cases d with
 |none=>rfl
 |some d=>
  rw[tK,Array.getElem?_setIfInBounds,if_neg]
  intro e
  exact ht (e▸hd d rfl)
def lh(ops:Array Oper):List Nat:=ops.toList.filterMap (·.dst)
theorem uV{ops:Array Oper}{o:Oper}(ho:o∈ops):∀t,o.dst=some t->t∈lh ops:=by
 intro t ht
 unfold lh
 rw[List.mem_filterMap]
 exact⟨o,by simpa using ho,ht⟩
section
variable {P:Program} {N:Nat} {Ds:List Deferred} {ops:Array Oper} {Q:Exit->Act->World->Prop} {K:Env->Heap->Prop}
theorem qh(hp:j0 P=true)(hN:gm N ops=true)(a₀:Act)(w₀:World)
 (hQ:∀a' w' e',Mt N Ds a' e'->dV w₀ w'->fz (lh ops) a₀ a'->K e' w'.heap->Q .normal a' w'):
 ∀(l:List Oper)(i:Nat)(e:Env)(a:Act)(w:World),(∀o∈l,o∈ops)->nU P ops l i e w.heap K->Mt N Ds a e->dV w₀ w->fz (lh ops) a₀ a->wpList P ops Q l a w
 |[],i,e,a,w,_,h,hm,hs,hk=>hQ a w e hm hs hk h
 |o::rest,i,e,a,w,hl,h,hm,hs,hk=>by
  have ho:o∈ops:=hl o (by simp)
  have iE:∀o∈rest,o∈ops:=λo' h'=>hl o' (by simp[h'])
  have hd:=vX hN ho
  have Fy:=uV ho
  unfold nU at h
  split at h
  ·exact h.elim
  ·rename_i hw
   unfold wpList
   rw[if_neg (by rw[ib hw (λt _=>hm.val t)];simp)]
   exact qh hp hN a₀ w₀ hQ rest (i+1) _ _ w iE h (hm.put _ hd _) hs (hk.trans (fz.put Fy _))
  ·rename_i hw
   unfold wpList
   rw[if_pos (ib hw (λt _=>hm.val t))]
   refine .inl ?_
   split at h
   ·obtain⟨v,hv,hr⟩:=jm h
    have hv:=nX hv
    unfold Oper.wp
    rw[hr a.eval (hm.nE _) w]
    exact qh hp hN a₀ w₀ hQ rest (i+1) _ _ w iE hv (hm.put _ hd _) hs (hk.trans (fz.put Fy _))
   ·obtain⟨v,hv,hr⟩:=iy h
    have hv:=nX hv
    unfold Oper.wp
    rw[hr a.eval (hm.nE _) w rfl]
    exact qh hp hN a₀ w₀ hQ rest (i+1) _ _ w iE hv (hm.put _ hd _) hs (hk.trans (fz.put Fy _))
   ·refine mD hp h (hm.nE _) w rfl ?_
    intro v w' fU hv
    exact qh hp hN a₀ w₀ hQ rest (i+1) _ _ w' iE (nX hv) (hm.put _ hd _) (hs.trans fU) (hk.trans (fz.put Fy _))
end
end Go.Ex
namespace Go.Ex
abbrev Tr:=List (Nat×Value×Env)
def tH(ops:Array Oper)(i:Nat):Option Tmp:=(ops[i]?).bind (·.dst)
def kq(ops:Array Oper)(S:Nat->Bool):Tr->Env->Env
 |[],e=>e
 |(i,v,_)::r,e=>kq ops S r (if S i=true then put e (tH ops i) v else e)
def wX(ops:Array Oper):Env->Tr->Prop
 |_,[]=>True
 |e,(i,v,ei)::r=>ei=e/\wX ops (put e (tH ops i) v) r
abbrev pP:Nat->Bool:=λ_=>true
section
variable {ops:Array Oper}
theorem oh{e:Env}{d:Option Tmp}{v:Value}{t:Nat}(h:d≠some t):put e d v t=e t:=by
 cases d with
 |none=>rfl
 |some d=>rw[kS,if_neg (λe=>h (by rw[e]))]
theorem sx{e:Env}{t:Nat}{v:Value}:put e (some t) v t=some v:=by rw[kS,if_pos rfl]
theorem qj{S S':Nat->Bool}{t:Nat}:∀{tr:Tr}{e e':Env},e t=e' t->(∀x∈tr,tH ops x.1=some t->S x.1=S' x.1)->kq ops S tr e t=kq ops S' tr e' t
 |[],_,_,h,_=>h
 |(i,v,ei)::r,e,e',h,hs=>by
  unfold kq
  refine qj ?_ (λx hx=>hs x (by simp[hx]))
  by_cases hd:tH ops i=some t
  ·rw[hs (i,v,ei) (by simp) hd]
   split
   ·rw[hd,sx,sx]
   ·exact h
  ·have e1:∀e:Env,∀b:Bool,(if b=true then put e (tH ops i) v else e) t=e t:=by
    intro e b
    split
    ·exact oh hd
    ·rfl
   rw[e1,e1,h]
theorem oZ{S:Nat->Bool}:∀{t1 t2:Tr}{e:Env},kq ops S (t1++t2) e=kq ops S t2 (kq ops S t1 e)
 |[],_,_=>rfl
 |(i,v,ei)::r,t2,e=>by
  rw[List.cons_append]
  exact oZ (t1:=r)
theorem sK{S:Nat->Bool}{t:Nat}:∀{tr:Tr}{e:Env},(∀x∈tr,tH ops x.1=some t->S x.1=false)->kq ops S tr e t=e t
 |[],_,_=>rfl
 |(i,v,ei)::r,e,h=>by
  unfold kq
  rw[sK (λx hx=>h x (by simp[hx]))]
  split
  ·rename_i hs
   refine oh λhd=>?_
   have:=h (i,v,ei) (by simp) hd
   simp only at this
   rw[this] at hs
   cases hs
  ·rfl
theorem zI{t1 t2:Tr}:∀{e:Env},wX ops e (t1++t2)↔wX ops e t1/\wX ops (kq ops pP t1 e) t2:=by
 induction t1 with
 |nil=>intro e;simp[wX,kq]
 |cons x r ih=>
  intro e
  obtain⟨i,v,ei⟩:=x
  simp only[List.cons_append,wX,ih,kq,pP,if_true]
  constructor
  ·rintro⟨a,b,c⟩;exact⟨⟨a,b⟩,c⟩
  ·rintro⟨⟨a,b⟩,c⟩;exact⟨a,b,c⟩
theorem E0{acc:List Nat}{i:Nat}:∀{l:List Edge}{s:Nat},
 (l.foldl (λs e=>bif Region.binds .any e then s|||2^e.on|||acc.getD e.on 0 else s) s).testBit i=true->
 s.testBit i=true\/∃e∈l,Region.binds .any e=true/\(i=e.on\/(acc.getD e.on 0).testBit i=true)
 |[],s,h=>.inl h
 |e::l,s,h=>by
  rw[List.foldl_cons] at h
  rcases E0 h with h|⟨e',jU,hb,h⟩
  ·cases hb:Region.binds .any e with
   |false=>rw[hb] at h;exact .inl h
   |true=>
    rw[hb] at h
    simp only[cond_true,Nat.testBit_or,Bool.or_eq_true,Nat.testBit_two_pow,decide_eq_true_eq] at h
    rcases h with(h|h)|h
    ·exact .inl h
    ·exact .inr ⟨e,by simp,hb,.inl h.symm⟩
    ·exact .inr ⟨e,by simp,hb,.inr h⟩
  ·exact .inr ⟨e',by simp[jU],hb,h⟩
def Down(ops:Array Oper)(S:Nat->Bool):Prop:=∀i o,ops[i]?=some o->S i=true->∀e∈o.after.toList,Region.binds .any e=true->S e.on=true
theorem Hu{S:Nat->Bool}(hd:Down ops S):∀(l:List Oper)(acc:List Nat),(∀k,l[k]?=ops[acc.length+k]?)->
 (∀j<acc.length,∀o,ops[j]?=some o->(∀e∈o.after.toList,Region.binds .any e=true->S e.on=true)->∀i,(acc.getD j 0).testBit i=true->S i=true)->
 ∀j<acc.length+l.length,∀o,ops[j]?=some o->(∀e∈o.after.toList,Region.binds .any e=true->S e.on=true)->∀i,((gM l acc).getD j 0).testBit i=true->S i=true
 |[],acc,_,adP=>by simpa[gM] using adP
 |o::l,acc,hl,adP=>by
  intro j hj oj Tg mr i hi
  unfold gM at hi
  have hlen:(acc++[oC o acc]).length=acc.length+1:=by simp
  refine Hu hd l (acc++[oC o acc]) ?_ ?_ j (by rw[hlen];simp at hj;omega) oj Tg mr i hi
  ·intro k
   rw[hlen]
   have:=hl (k+1)
   rw[List.getElem?_cons_succ] at this
   rw[this]
   congr 1
   omega
  ·intro j hj oj Tg mr i hi
   rw[hlen] at hj
   by_cases yC:j<acc.length
   ·have e:(acc++[oC o acc]).getD j 0=acc.getD j 0:=by simp[List.getD_eq_getElem?_getD,List.getElem?_append,yC]
    rw[e] at hi
    exact adP j yC oj Tg mr i hi
   ·have hje:j=acc.length:=by omega
    subst hje
    have e:(acc++[oC o acc]).getD acc.length 0=oC o acc:=by simp[List.getD_eq_getElem?_getD]
    rw[e] at hi
    have ho:o=oj:=by
     have:=hl 0
     simp only[List.getElem?_cons_zero,Nat.add_zero] at this
     rw[Tg] at this
     exact Option.some.inj this
    subst ho
    unfold oC at hi
    rcases E0 hi with h|⟨e',jU,hb,h⟩
    ·simp at h
    ·have hs:=mr e' jU hb
     rcases h with rfl|h
     ·exact hs
     ·rcases Nat.lt_or_ge e'.on acc.length with lC|iG
      ·have hex:∃o',ops[e'.on]?=some o':=by
        have:acc.length<ops.size:=(Array.getElem?_eq_some_iff.1 Tg).1
        exact⟨ops[e'.on]'(by omega),Array.getElem?_eq_getElem _⟩
       obtain⟨o',kh⟩:=hex
       exact adP e'.on lC o' kh (λe he R7=>hd e'.on o' kh hs e he R7) i h
      ·rw[List.getD_eq_getElem?_getD,List.getElem?_eq_none iG] at h
       simp at h
theorem qf{S:Nat->Bool}(hd:Down ops S){j:Nat}{o:Oper}(hj:ops[j]?=some o)
 (mr:∀e∈o.after.toList,Region.binds .any e=true->S e.on=true){i:Nat}(hi:((gM ops.toList []).getD j 0).testBit i=true):S i=true:=by
 refine Hu hd ops.toList [] (λk=>by simp) (by simp) j ?_ o hj mr i hi
 have:j<ops.size:=(Array.getElem?_eq_some_iff.1 hj).1
 simpa using this
structure wS(P:Program)(ops:Array Oper)(B:List Nat)(X:Nat->Bool)(l1:List Nat)(i:Nat)(l2:List Nat):Prop where
 ex:∃o,ops[i]?=some o
 fresh:i∉l1
 aq3:∀o,ops[i]?=some o->∀e∈o.after.toList,Region.binds .any e=true->e.on∈l1
 write:X i=false->∀o,ops[i]?=some o->kindOf P o.op=.write->∀j∈l2,(B.getD j 0).testBit i=true
 GX:∀o y j,ops[i]?=some o->j∈l2->ops[j]?=some y->meets ops o y=true->(B.getD j 0).testBit i=true
theorem qd{P:Program}{B:List Nat}{X:Nat->Bool}:∀{l:List Nat}{seen:Nat}{done:List Nat},uT P ops B X l seen=true->(∀x,seen.testBit x=true↔x∈done)->
 ∀l1 i l2,l=l1++i::l2->wS P ops B X (done++l1) i l2
 |[],_,_,_,_,l1,i,l2,he=>by simp at he
 |k::rest,seen,done,h,hs,l1,i,l2,he=>by
  unfold uT at h
  rw[Bool.and_eq_true] at h
  obtain⟨h,hr⟩:=h
  cases l1 with
  |nil=>
   simp only[List.nil_append,List.cons.injEq] at he
   obtain⟨rfl,rfl⟩:=he
   rw[List.append_nil]
   split at h
   ·cases h
   ·rename_i o ho
    simp only[Bool.and_eq_true] at h
    obtain⟨⟨⟨h1,h2⟩,h3⟩,h4⟩:=h
    refine⟨⟨o,ho⟩,?_,?_,?_,?_⟩
    ·intro hm
     rw[(hs k).2 hm] at h1
     cases h1
    ·intro o' kh e he hb
     rw[ho] at kh
     obtain rfl:=Option.some.inj kh
     have:=List.all_eq_true.1 h2 e he
     rw[hb] at this
     exact(hs e.on).1 (by simpa using this)
    ·intro hX o' kh hk j hj
     rw[ho] at kh
     obtain rfl:=Option.some.inj kh
     rw[hX,hk] at h3
     simp only[beq_self_eq_true,Bool.not_true,Bool.false_or] at h3
     exact List.all_eq_true.1 h3 j hj
    ·intro o' y j kh hj hy hm
     rw[ho] at kh
     obtain rfl:=Option.some.inj kh
     have:=List.all_eq_true.1 h4 j hj
     rw[hy] at this
     simp only[hm,Bool.not_true,Bool.false_or] at this
     exact this
  |cons x l1=>
   simp only[List.cons_append,List.cons.injEq] at he
   obtain⟨rfl,he⟩:=he
   have:=qd (done:=done++[k]) hr (by
    intro x
    rw[Nat.testBit_or,Bool.or_eq_true,Nat.testBit_two_pow,hs]
    simp only[List.mem_append,List.mem_singleton,decide_eq_true_eq]
    constructor
    ·rintro(h|h)
     ·exact .inl h
     ·exact .inr h.symm
    ·rintro(h|h)
     ·exact .inl h
     ·exact .inr h.symm) l1 i l2 he
   simpa using this
theorem Qm{P:Program}{B:List Nat}:∀(l:List Nat)(s:Nat),Qn P ops B l s=uT P ops B (λ_=>false) l s
 |[],_=>rfl
 |i::rest,s=>by
  unfold Qn uT
  rw[Qm rest]
  rfl
end
end Go.Ex
namespace Go.Ex
def rX(P:Program)(o:Oper)(e:Env)(v:Value)(H:Heap):Prop:=
 ∀ρ,fc e ρ o.op.operands.toList->∀w,w.heap=H->(execOp ρ o).run P w=.ok (.value v) w
def Fact(P:Program)(ops:Array Oper)(D:List (Nat×Env×Value))(x:Nat×Value×Env):Prop:=
 ∃o,ops[x.1]?=some o/\
  ((eB ops o x.2.2=some false/\x.2.1=undef)\/
   (eB ops o x.2.2=some true/\∀H,rX P o x.2.2 x.2.1 H)\/
   (eB ops o x.2.2=some true/\(x.1,x.2.2,x.2.1)∈D)\/
   (eB ops o x.2.2=some true/\kindOf P o.op=.write))
def JR(P:Program)(ops:Array Oper)(e:Env)(post:List Nat):Prop:=
 post=[]\/∃c rest o,post=c::rest/\ops[c]?=some o/\kindOf P o.op=.write/\eB ops o e=some true
section
variable {P:Program} {ops:Array Oper} {A:List Nat->Env->Heap->List (Nat×Env×Value)->Prop} {B:List Nat} {K:Env->Heap->Prop} {H:Heap}
theorem HW(G:Nat->Prop):∀(l:List Nat)(e:Env)(D:List (Nat×Env×Value)),(∀x∈D,G x.1->∃o,ops[x.1]?=some o/\rX P o x.2.1 x.2.2 H)->sd P ops B A l e H D K->
 ∃tr post D',l=tr.map (·.1)++post/\wX ops e tr/\(∀x∈D,x∈D')/\(∀x∈D',x∈D\/x.1∈tr.map (·.1))/\(∀x∈tr,Fact P ops D' x/\∀o,ops[x.1]?=some o->eB ops o x.2.2=some true->kindOf P o.op≠.write)/\
  (∀x∈D',G x.1->∃o,ops[x.1]?=some o/\rX P o x.2.1 x.2.2 H)/\sd P ops B A post (kq ops pP tr e) H D' K/\JR P ops (kq ops pP tr e) post
 |[],e,D,hD,h=>⟨[],[],D,rfl,trivial,λ_ h=>h,λ_ h=>.inl h,by simp,hD,h,.inl rfl⟩
 |i::rest,e,D,hD,h=>by
  have h0:=h
  unfold sd at h
  split at h
  ·exact h.elim
  ·rename_i o ho
   have F9:tH ops i=o.dst:=by unfold tH;rw[ho];rfl
   have step:∀(v:Value)(Dn:List (Nat×Env×Value)),(∀x∈D,x∈Dn)->(∀x∈Dn,x∈D\/x.1=i)->(∀x∈Dn,G x.1->∃o,ops[x.1]?=some o/\rX P o x.2.1 x.2.2 H)->
    (∀D',(∀x∈Dn,x∈D')->Fact P ops D' (i,v,e)/\∀o',ops[i]?=some o'->eB ops o' e=some true->kindOf P o'.op≠.write)->sd P ops B A rest (put e o.dst v) H Dn K->
    ∃tr post D',i::rest=tr.map (·.1)++post/\wX ops e tr/\(∀x∈D,x∈D')/\(∀x∈D',x∈D\/x.1∈tr.map (·.1))/\(∀x∈tr,Fact P ops D' x/\∀o,ops[x.1]?=some o->eB ops o x.2.2=some true->kindOf P o.op≠.write)/\
     (∀x∈D',G x.1->∃o,ops[x.1]?=some o/\rX P o x.2.1 x.2.2 H)/\sd P ops B A post (kq ops pP tr e) H D' K/\JR P ops (kq ops pP tr e) post:=by
    intro v Dn h1 vj h2 h3 h4
    obtain⟨tr,post,D',e1,e2,e3,CH,e4,e5,e6,e7⟩:=HW G rest _ Dn h2 h4
    refine⟨(i,v,e)::tr,post,D',by rw[e1];rfl,⟨rfl,by rw[F9];exact e2⟩,λx hx=>e3 x (h1 x hx),?_,?_,e5,?_,?_⟩
    ·intro x hx
     rcases CH x hx with hx|hx
     ·rcases vj x hx with hx|hx
      ·exact .inl hx
      ·exact .inr (by simp[hx])
     ·exact .inr (by rw[List.map_cons,List.mem_cons];exact .inr hx)
    ·intro x hx
     rcases List.mem_cons.1 hx with rfl|hx
     ·exact h3 D' e3
     ·exact e4 x hx
    ·unfold kq;simp only[pP,if_true,F9];exact e6
    ·unfold kq;simp only[pP,if_true,F9];exact e7
   split at h
   ·exact h.elim
   ·rename_i hw
    refine step undef D (λ_ h=>h) (λ_ h=>.inl h) hD (λD' _=>⟨⟨o,ho,.inl ⟨hw,rfl⟩⟩,?_⟩) h
    intro o' kh LY
    rw[ho] at kh
    obtain rfl:=Option.some.inj kh
    rw[hw] at LY
    cases LY
   ·rename_i hw
    split at h
    ·rename_i hk
     obtain⟨v,hv,hr⟩:=jm h
     refine step v D (λ_ h=>h) (λ_ h=>.inl h) hD (λD' _=>⟨⟨o,ho,.inr (.inl ⟨hw,λH ρ ha w _=>hr ρ ha w⟩)⟩,?_⟩) (nX hv)
     intro o' kh _
     rw[ho] at kh
     obtain rfl:=Option.some.inj kh
     rw[hk]
     simp
    ·rename_i hk
     obtain⟨v,hv,hr⟩:=iy h
     have XT:rX P o e v H:=hr
     refine step v (D++[(i,e,v)]) (λx hx=>by simp[hx]) ?_ ?_ (λD' Ka=>⟨⟨o,ho,.inr (.inr (.inl ⟨hw,Ka _ (by simp)⟩))⟩,?_⟩) (nX hv)
     ·intro x hx
      simp only[List.mem_append,List.mem_singleton] at hx
      rcases hx with hx|rfl
      ·exact .inl hx
      ·exact .inr rfl
     ·intro x hx
      simp only[List.mem_append,List.mem_singleton] at hx
      rcases hx with hx|rfl
      ·exact hD x hx
      ·exactλ_=>⟨o,ho,XT⟩
     ·intro o' kh _
      rw[ho] at kh
      obtain rfl:=Option.some.inj kh
      rw[hk]
      simp
    ·rename_i hk
     exact⟨[],i::rest,D,rfl,trivial,λ_ h=>h,λ_ h=>.inl h,by simp,hD,h0,.inr ⟨i,rest,o,rfl,ho,hk,hw⟩⟩
theorem xf{m:Nat}{A:Prop}:∀{D:List (Nat×Env×Value)},km P ops m H D A->A/\∀x∈D,m.testBit x.1=false->∃o,ops[x.1]?=some o/\rX P o x.2.1 x.2.2 H
 |[],h=>⟨h,by simp⟩
 |(r,e,v)::D,h=>by
  unfold km at h
  split at h
  ·rename_i hb
   obtain⟨ha,hr⟩:=xf h
   refine⟨ha,λx hx hm=>?_⟩
   rcases List.mem_cons.1 hx with rfl|hx
   ·rw[hb] at hm;cases hm
   ·exact hr x hx hm
  ·obtain⟨h1,h⟩:=h
   obtain⟨ha,hr⟩:=xf h
   refine⟨ha,λx hx hm=>?_⟩
   rcases List.mem_cons.1 hx with rfl|hx
   ·split at h1
    ·rename_i o ho
     obtain⟨u,rfl,hr⟩:=iy h1
     exact⟨o,ho,hr⟩
    ·exact h1.elim
   ·exact hr x hx hm
theorem B1{p q:Nat->Bool}{i:Nat}(hp:p i=true)(hq:q i=false)(hs:∀j,j≠i->q j=p j):∀{l:List Nat},l.Nodup->i∈l->l.countP p=l.countP q+1
 |[],_,h=>by simp at h
 |x::l,hn,hm=>by
  rw[List.nodup_cons] at hn
  by_cases hx:x=i
  ·subst hx
   rw[List.countP_cons,List.countP_cons,hp,hq]
   have:l.countP p=l.countP q:=List.countP_congr λy hy=>by
    have hZ:y≠x:=λe=>hn.1 (e▸hy)
    rw[hs y hZ]
   simp[this]
  ·have fj:i∈l:=by
    rcases List.mem_cons.1 hm with rfl|h
    ·exact absurd rfl hx
    ·exact h
   rw[List.countP_cons,List.countP_cons,hs x hx,B1 hp hq hs hn.2 fj]
   omega
theorem tv{o:Oper}{t:Nat}(h:t∈AS ops o):t∈jr ops o:=by unfold jr;rw[List.mem_append];exact .inr h
theorem G4{o:Oper}{t:Nat}(h:o.dst=some t):t∈jr ops o:=by unfold jr;rw[List.mem_append,h];exact .inl (by simp)
theorem EG{x y:Oper}{t:Nat}(h:(x.dst=some t/\t∈jr ops y)\/(y.dst=some t/\t∈jr ops x)):meets ops x y=true:=by
 unfold meets
 rw[Bool.or_eq_true]
 rcases h with⟨h1,h2⟩|⟨h1,h2⟩
 ·exact .inl (by rw[h1];exact List.any_eq_true.2 ⟨t,h2,by simp⟩)
 ·exact .inr (by rw[h1];exact List.any_eq_true.2 ⟨t,h2,by simp⟩)
theorem P4{o:Oper}{t:Nat}(h:Operand.tmp t∈o.op.operands.toList):t∈AS ops o:=by
 unfold AS W8
 rw[List.mem_append,List.mem_filterMap]
 exact .inr ⟨_,h,rfl⟩
theorem Ei{o:Oper}{t:Nat}(h:t∈u6 ops o):t∈AS ops o:=by
 unfold AS
 rw[List.mem_append]
 exact .inl h
end
end Go.Ex
namespace Go.Ex
section
variable {P:Program} {N:Nat} {Ds:List Deferred} {A:List Nat->Env->Heap->List (Nat×Env×Value)->Prop} {ops:Array Oper} {Q:Exit->Act->World->Prop} {K:Env->Heap->Prop}
abbrev sb(listed:Array Bool):Nat->Bool:=λi=>listed.getD i false
structure Inv(P:Program)(N:Nat)(Ds:List Deferred)(A:List Nat->Env->Heap->List (Nat×Env×Value)->Prop)(ops:Array Oper)(K:Env->Heap->Prop)(ord:List Nat)(a₀:Act)(w₀:World)(e₀:Env)(listed:Array Bool)(a:Act)(w:World)(tr:Tr)(post:List Nat)(D:List (Nat×Env×Value)):Prop where
 sz:listed.size=ops.size
 down:Down ops (sb listed)
 split:ord=tr.map (·.1)++post
 chain:wX ops e₀ tr
 facts:∀x∈tr,Fact P ops D x/\∀o,ops[x.1]?=some o->eB ops o x.2.2=some true->kindOf P o.op=.write->sb listed x.1=true
 reads:∀x∈D,sb listed x.1=false->∃o,ops[x.1]?=some o/\rX P o x.2.1 x.2.2 w.heap
 rest:sd P ops (gM ops.toList []) A post (kq ops pP tr e₀) w.heap D K
 head:JR P ops (kq ops pP tr e₀) post
 mt:Mt N Ds a (kq ops (sb listed) tr e₀)
 tW:∀i,sb listed i=true->i∈tr.map (·.1)
 tP:dV w₀ w
 keeps:fz (lh ops) a₀ a
theorem zy(S:Nat->Bool):∀(l:List Nat),(∀i∈l,S i=true)\/∃l1 i l2,l=l1++i::l2/\(∀j∈l1,S j=true)/\S i=false
 |[]=>.inl (by simp)
 |x::l=>by
  cases hx:S x with
  |false=>exact .inr ⟨[],x,l,rfl,by simp,hx⟩
  |true=>
   rcases zy S l with h|⟨l1,i,l2,rfl,h1,h2⟩
   ·refine .inl λi hi=>?_
    rcases List.mem_cons.1 hi with rfl|hi
    ·exact hx
    ·exact h i hi
   ·refine .inr ⟨x::l1,i,l2,rfl,λj hj=>?_,h2⟩
    rcases List.mem_cons.1 hj with rfl|hj
    ·exact hx
    ·exact h1 j hj
theorem I0{listed:Array Bool}{i:Nat}(hi:i<listed.size)(j:Nat):sb (listed.setIfInBounds i true) j=if j=i then true else sb listed j:=by
 unfold sb
 rw[Array.getD_eq_getD_getElem?,Array.getD_eq_getD_getElem?,Array.getElem?_setIfInBounds]
 by_cases h:i=j
 ·subst h;simp[hi]
 ·rw[if_neg h,if_neg (λe=>h e.symm)]
theorem IZ{listed:Array Bool}{i:Nat}(hi:i<listed.size):listed.getD i true=sb listed i:=by
 unfold sb
 rw[Array.getD_eq_getD_getElem?,Array.getD_eq_getD_getElem?,Array.getElem?_eq_getElem hi]
 rfl
theorem HB{e:Env}{a:Act}{o:Oper}(h:∀t∈jr ops o,∀u,e t=some u->a.tmps[t]?=some u):fc e a.eval o.op.operands.toList:=by
 intro x hx v hv
 cases x with
 |tmp t=>
  have:=h t (tv (P4 hx)) v hv
  simp[Act.eval,Array.getD_eq_getD_getElem?,this]
 |const u=>simpa[mo,Act.eval] using hv
 |global g=>simpa[mo,Act.eval] using hv
 |func f=>simpa[mo,Act.eval] using hv
theorem Jp{X:Nat->Bool}{ord:List Nat}(oV:∀l1 i l2,ord=l1++i::l2->wS P ops (gM ops.toList []) X l1 i l2)
 {a₀:Act}{w₀:World}{e₀:Env}(hQ:∀a' w' e',Mt N Ds a' e'->dV w₀ w'->fz (lh ops) a₀ a'->K e' w'.heap->Q .normal a' w')
 {listed:Array Bool}{a:Act}{w:World}(h:∃tr post D,Inv P N Ds A ops K ord a₀ w₀ e₀ listed a w tr post D)(hr:Region.ready .any ops listed=[]):Q .normal a w:=by
 obtain⟨tr,post,D,I⟩:=h
 have hS:∀i∈ord,sb listed i=true:=by
  rcases zy (sb listed) ord with h|⟨l1,i,l2,he,h1,h2⟩
  ·exact h
  ·exfalso
   have ho:=oV l1 i l2 he
   obtain⟨o,sG⟩:=ho.ex
   have lC:i<ops.size:=(Array.getElem?_eq_some_iff.1 sG).1
   have:i∈Region.ready .any ops listed:=by
    unfold Region.ready
    rw[List.mem_filter]
    refine⟨List.mem_range.2 lC,?_⟩
    rw[sG,IZ (by rw[I.sz];exact lC),h2]
    simp only[Bool.not_false,Option.map_some,Option.getD_some,Bool.true_and]
    rw[Array.all_eq_true_iff_forall_mem]
    intro e jU
    cases hb:Region.binds .any e with
    |false=>rfl
    |true=>exact h1 _ (ho.aq3 o sG e (by simpa using jU) hb)
   rw[hr] at this
   simp at this
 have amF:post=[]:=by
  cases qu:post with
  |nil=>rfl
  |cons c rest=>
   exfalso
   have he:ord=tr.map (·.1)++c::rest:=by rw[I.split,qu]
   have hc:=I.tW c (hS c (by rw[he];simp))
   exact(oV _ c rest he).fresh hc
 have iE:=I.rest
 rw[amF] at iE
 refine hQ a w (kq ops pP tr e₀) ?_ I.tP I.keeps iE
 refine⟨I.mt.size,I.mt.defers,λt v hv=>I.mt.val t v ?_⟩
 rw[<-hv]
 refine qj rfl λx hx _=>?_
 exact hS x.1 (by rw[I.split];exact List.mem_append.2 (.inl (List.mem_map.2 ⟨x,hx,rfl⟩)))
theorem P8(hN:gm N ops=true){X:Nat->Bool}{ord:List Nat}(oV:∀l1 i l2,ord=l1++i::l2->wS P ops (gM ops.toList []) X l1 i l2)
 {a₀:Act}{w₀:World}{e₀:Env}{listed:Array Bool}{a:Act}{w:World}{tr:Tr}{post:List Nat}{D:List (Nat×Env×Value)}(I:Inv P N Ds A ops K ord a₀ w₀ e₀ listed a w tr post D){i:Nat}{o:Oper}(lC:i<ops.size)(sG:ops[i]?=some o)(Jk:sb listed i=false)
 (mr:∀e∈o.after.toList,Region.binds .any e=true->sb listed e.on=true){v:Value}{ei:Env}(hx:(i,v,ei)∈tr):
 Inv P N Ds A ops K ord a₀ w₀ e₀ (listed.setIfInBounds i true) (a.put o.dst v) w tr post D/\∀Kn:Act->World->Prop,Kn (a.put o.dst v) w->wpOp P ops Q i Kn a w:=by
 have qI:o∈ops:=Array.mem_of_getElem? sG
 have F9:tH ops i=o.dst:=by unfold tH;rw[sG];rfl
 have nQ:=λj=>I0 (listed:=listed) (i:=i) (by rw[I.sz];exact lC) j
 have OA:Down ops (sb (listed.setIfInBounds i true)):=by
  intro j oj Tg zT e he hb
  rw[nQ] at zT⊢
  by_cases q9:j=i
  ·subst q9
   rw[sG] at Tg
   obtain rfl:=Option.some.inj Tg
   split
   ·rfl
   ·exact mr e he hb
  ·rw[if_neg q9] at zT
   split
   ·rfl
   ·exact I.down j oj Tg zT e he hb
 have ahead:∀l1 l2,ord=l1++i::l2->∀y∈l1,∀t∈jr ops o,tH ops y=some t->sb listed y=true:=by
  intro l1 l2 he y hy t ht hd
  obtain⟨m1,m2,rfl⟩:=List.append_of_mem hy
  have D5:=oV m1 y (m2++i::l2) (by rw[he];simp)
  obtain⟨oy,ZM⟩:=D5.ex
  have rP:oy.dst=some t:=by unfold tH at hd;rw[ZM] at hd;exact hd
  have:=D5.GX oy o i ZM (by simp) sG (EG (.inl ⟨rP,ht⟩))
  exact qf I.down sG mr this
 have ahp:(listed.setIfInBounds i true).size=ops.size:=by rw[Array.size_setIfInBounds,I.sz]
 have FP:i∈tr.map (·.1):=List.mem_map.2 ⟨_,hx,rfl⟩
 obtain⟨t1,t2,KK⟩:=List.append_of_mem hx
 have EP:ord=t1.map (·.1)++i::(t2.map (·.1)++post):=by rw[I.split,KK];simp
 have hoi:=oV _ _ _ EP
 have Lp:ei=kq ops pP t1 e₀:=by
  have:=I.chain
  rw[KK,zI] at this
  exact this.2.1
 have behind:∀y∈t2,∀t∈jr ops o,tH ops y.1=some t->sb listed y.1=false:=by
  intro y hy t ht hd
  cases Se:sb listed y.1 with
  |false=>rfl
  |true=>
   exfalso
   have hyl:y.1∈t2.map (·.1)++post:=List.mem_append.2 (.inl (List.mem_map.2 ⟨y,hy,rfl⟩))
   obtain⟨oy,ZM⟩:∃oy,ops[y.1]?=some oy:=by
    unfold tH at hd
    cases h:ops[y.1]? with
    |none=>rw[h] at hd;cases hd
    |some oy=>exact⟨oy,rfl⟩
   have rP:oy.dst=some t:=by unfold tH at hd;rw[ZM] at hd;exact hd
   have hb:=hoi.GX o oy y.1 sG hyl ZM (EG (.inr ⟨rP,ht⟩))
   have:=qf I.down ZM (λe he R7=>I.down y.1 oy ZM Se e he R7) hb
   rw[Jk] at this
   cases this
 have adL:∀y∈t2,y.1≠i:=by
  intro y hy e
  obtain⟨m1,m2,rfl⟩:=List.append_of_mem hy
  have:=(oV (t1.map (·.1)++i::m1.map (·.1)) y.1 (m2.map (·.1)++post) (by rw[EP];simp)).fresh
  apply this
  rw[e]
  simp
 have XN:∀t∈jr ops o,kq ops (sb listed) tr e₀ t=ei t:=by
  intro t ht
  rw[KK,oZ,sK,Lp]
  ·refine qj rfl λy hy hd=>?_
   exact ahead _ _ EP y.1 (List.mem_map.2 ⟨y,hy,rfl⟩) t ht hd
  ·intro y hy hd
   rcases List.mem_cons.1 hy with rfl|hy
   ·exact Jk
   ·exact behind y hy t ht hd
 have hm:∀t∈jr ops o,∀u,ei t=some u->a.tmps[t]?=some u:=λt ht u hu=>I.mt.val t u (by rw[XN t ht];exact hu)
 have ana:=HB hm
 refine⟨?_,λKn zt=>?_⟩
 ·refine⟨ahp,OA,I.split,I.chain,?_,?_,I.rest,I.head,?_,?_,I.tP,I.keeps.trans (fz.put (uV qI) _)⟩
  ·intro x hx
   obtain⟨h1,h2⟩:=I.facts x hx
   refine⟨h1,λo' kh LY mI=>?_⟩
   rw[nQ]
   split
   ·rfl
   ·exact h2 o' kh LY mI
  ·intro x hx ZV
   rw[nQ] at ZV
   split at ZV
   ·cases ZV
   ·exact I.reads x hx ZV
  ·have Oq:=I.mt.put o.dst (vX hN qI) v
   refine⟨Oq.size,Oq.defers,λt u hu=>Oq.val t u ?_⟩
   by_cases rU:o.dst=some t
   ·rw[rU,sx]
    rw[KK,oZ] at hu
    unfold kq at hu
    rw[nQ,if_pos rfl,if_pos rfl,F9,rU,sK,sx] at hu
    ·exact hu
    ·intro y hy hd
     rw[nQ,if_neg (adL y hy)]
     exact behind y hy t (G4 rU) hd
   ·rw[oh rU,<-hu]
    refine qj rfl λy hy hd=>?_
    rw[nQ,if_neg]
    intro e
    rw[e,F9] at hd
    exact rU hd
  ·intro j hj
   rw[nQ] at hj
   split at hj
   ·rename_i e;rw[e];exact FP
   ·exact I.tW j hj
 ·obtain⟨⟨o',kh,hf⟩,uG⟩:=I.facts _ hx
  simp only at kh hf uG
  rw[sG] at kh
  obtain rfl:=Option.some.inj kh
  have XL:∀b,eB ops o ei=some b->Region.wanted o (yielded ops a.tmps)=b:=λb hb=>ib hb λt ht u hu=>hm t (tv (Ei ht)) u hu
  unfold wpOp
  rw[sG]
  simp only
  rcases hf with⟨hw,rfl⟩|⟨hw,hr⟩|⟨hw,hD⟩|⟨hw,hk⟩
  ·rw[if_neg (by rw[XL _ hw];simp)]
   exact zt
  ·rw[if_pos (XL _ hw)]
   refine .inl ?_
   unfold Oper.wp
   rw[hr w.heap a.eval ana w rfl]
   exact zt
  ·rw[if_pos (XL _ hw)]
   refine .inl ?_
   obtain⟨o',kh,hr⟩:=I.reads _ hD Jk
   simp only at kh hr
   rw[sG] at kh
   obtain rfl:=Option.some.inj kh
   unfold Oper.wp
   rw[hr a.eval ana w rfl]
   exact zt
  ·have:=uG o sG hw hk
   rw[Jk] at this
   cases this
theorem vB(hp:j0 P=true)(hN:gm N ops=true){X:Nat->Bool}{ord:List Nat}(oV:∀l1 i l2,ord=l1++i::l2->wS P ops (gM ops.toList []) X l1 i l2)
 {a₀:Act}{w₀:World}{e₀:Env}{listed:Array Bool}{a:Act}{w:World}{tr:Tr}{rest:List Nat}{D:List (Nat×Env×Value)}{i:Nat}(I:Inv P N Ds A ops K ord a₀ w₀ e₀ listed a w tr (i::rest) D){o:Oper}(lC:i<ops.size)(sG:ops[i]?=some o)(Jk:sb listed i=false)
 (mr:∀e∈o.after.toList,Region.binds .any e=true->sb listed e.on=true)(Uh:kindOf P o.op=.write)(Ya:eB ops o (kq ops pP tr e₀)=some true){Kn:Act->World->Prop}
 (zt:∀v w' Wh sy D',Inv P N Ds A ops K ord a₀ w₀ e₀ (listed.setIfInBounds i true) (a.put o.dst v) w' (tr++(i,v,kq ops pP tr e₀)::Wh) sy D'->Kn (a.put o.dst v) w'):wpOp P ops Q i Kn a w:=by
 have qI:o∈ops:=Array.mem_of_getElem? sG
 have F9:tH ops i=o.dst:=by unfold tH;rw[sG];rfl
 have nQ:=λj=>I0 (listed:=listed) (i:=i) (by rw[I.sz];exact lC) j
 have OA:Down ops (sb (listed.setIfInBounds i true)):=by
  intro j oj Tg zT e he hb
  rw[nQ] at zT⊢
  by_cases q9:j=i
  ·subst q9
   rw[sG] at Tg
   obtain rfl:=Option.some.inj Tg
   split
   ·rfl
   ·exact mr e he hb
  ·rw[if_neg q9] at zT
   split
   ·rfl
   ·exact I.down j oj Tg zT e he hb
 have ahead:∀l1 l2,ord=l1++i::l2->∀y∈l1,∀t∈jr ops o,tH ops y=some t->sb listed y=true:=by
  intro l1 l2 he y hy t ht hd
  obtain⟨m1,m2,rfl⟩:=List.append_of_mem hy
  have D5:=oV m1 y (m2++i::l2) (by rw[he];simp)
  obtain⟨oy,ZM⟩:=D5.ex
  have rP:oy.dst=some t:=by unfold tH at hd;rw[ZM] at hd;exact hd
  have:=D5.GX oy o i ZM (by simp) sG (EG (.inl ⟨rP,ht⟩))
  exact qf I.down sG mr this
 have ahp:(listed.setIfInBounds i true).size=ops.size:=by rw[Array.size_setIfInBounds,I.sz]
 have EP:ord=tr.map (·.1)++i::rest:=I.split
 have FP:i∉tr.map (·.1):=(oV _ _ _ EP).fresh
 have XN:∀t∈jr ops o,kq ops (sb listed) tr e₀ t=kq ops pP tr e₀ t:=λt ht=>
  qj rfl λy hy hd=>ahead _ _ EP y.1 (List.mem_map.2 ⟨y,hy,rfl⟩) t ht hd
 have hm:∀t∈jr ops o,∀u,kq ops pP tr e₀ t=some u->a.tmps[t]?=some u:=λt ht u hu=>I.mt.val t u (by rw[XN t ht];exact hu)
 have iE:=I.rest
 unfold sd at iE
 rw[sG] at iE
 simp only[Ya,Uh] at iE
 unfold wpOp
 rw[sG]
 simp only
 rw[if_pos (ib Ya λt ht u hu=>hm t (tv (Ei ht)) u hu)]
 refine .inl (mD hp iE.1 (HB hm) w rfl ?_)
 intro v w' fU hv
 obtain⟨hv,Bb⟩:=xf hv
 have hv:=nX hv
 have Sj:∀x∈D,sb (listed.setIfInBounds i true) x.1=false->∃o,ops[x.1]?=some o/\rX P o x.2.1 x.2.2 w'.heap:=by
  intro x hx ZV
  refine Bb x hx ?_
  cases hb:((gM ops.toList []).getD i 0).testBit x.1 with
  |false=>rfl
  |true=>
   have:=qf I.down sG mr hb
   rw[nQ] at ZV
   split at ZV
   ·cases ZV
   ·rw[this] at ZV;cases ZV
 obtain⟨Wh,sy,D',e1,e2,e3,CH,e4,e5,e6,e7⟩:=HW (λr=>sb (listed.setIfInBounds i true) r=false) rest _ D Sj hv
 have afo:ord=(tr++(i,v,kq ops pP tr e₀)::Wh).map (·.1)++sy:=by rw[EP,e1];simp
 have adM:∀y∈Wh,y.1∉tr.map (·.1)/\y.1≠i:=by
  intro y hy
  obtain⟨m1,m2,rfl⟩:=List.append_of_mem hy
  have hf:=(oV (tr.map (·.1)++i::m1.map (·.1)) y.1 (m2.map (·.1)++sy) (by rw[afo];simp)).fresh
  exact⟨λh=>hf (by simp at h⊢;exact .inl h),λe=>hf (by rw[e];simp)⟩
 have am2:kq ops pP (tr++(i,v,kq ops pP tr e₀)::Wh) e₀=kq ops pP Wh (put (kq ops pP tr e₀) o.dst v):=by
  rw[oZ]
  conv=>lhs;unfold kq
  simp only[pP,if_true,F9]
 refine zt v w' Wh sy D' ?_
 refine⟨ahp,OA,afo,?_,?_,e5,by rw[am2];exact e6,by rw[am2];exact e7,?_,?_,I.tP.trans fU,I.keeps.trans (fz.put (uV qI) _)⟩
 ·rw[zI]
  exact⟨I.chain,rfl,by rw[F9];exact e2⟩
 ·intro x hx
  rw[List.mem_append,List.mem_cons] at hx
  rcases hx with hx|rfl|hx
  ·obtain⟨⟨o',kh,hf⟩,h2⟩:=I.facts x hx
   refine⟨⟨o',kh,?_⟩,λo' kh LY mI=>?_⟩
   ·rcases hf with h|h|h|h
    ·exact .inl h
    ·exact .inr (.inl h)
    ·exact .inr (.inr (.inl ⟨h.1,e3 _ h.2⟩))
    ·exact .inr (.inr (.inr h))
   ·rw[nQ]
    split
    ·rfl
    ·exact h2 o' kh LY mI
  ·refine⟨⟨o,sG,.inr (.inr (.inr ⟨Ya,Uh⟩))⟩,λ_ _ _ _=>?_⟩
   rw[nQ,if_pos rfl]
  ·obtain⟨h1,h2⟩:=e4 x hx
   exact⟨h1,λo' kh LY mI=>absurd mI (h2 o' kh LY)⟩
 ·have Oq:=I.mt.put o.dst (vX hN qI) v
  refine⟨Oq.size,Oq.defers,λt u hu=>Oq.val t u ?_⟩
  rw[oZ] at hu
  unfold kq at hu
  rw[nQ,if_pos rfl,if_pos rfl,F9,sK] at hu
  ·rw[<-hu]
   by_cases rU:o.dst=some t
   ·rw[rU,sx,sx]
   ·rw[oh rU,oh rU]
    refine qj rfl λy hy hd=>?_
    rw[nQ,if_neg]
    intro e
    exact FP (List.mem_map.2 ⟨y,hy,e⟩)
  ·intro y hy hd
   obtain⟨f1,f2⟩:=adM y hy
   rw[nQ,if_neg f2]
   cases Se:sb listed y.1 with
   |false=>rfl
   |true=>exact absurd (I.tW y.1 Se) f1
 ·intro j hj
  rw[nQ] at hj
  rw[List.map_append,List.mem_append]
  split at hj
  ·rename_i e;rw[e];exact .inr (by simp)
  ·exact .inl (I.tW j hj)
theorem Lo{listed:Array Bool}{i:Nat}(pg:listed.size=ops.size)(hi:i∈Region.ready .any ops listed):
 i<ops.size/\sb listed i=false/\∃o,ops[i]?=some o/\∀e∈o.after.toList,Region.binds .any e=true->sb listed e.on=true:=by
 unfold Region.ready at hi
 rw[List.mem_filter] at hi
 obtain⟨B7,hi⟩:=hi
 have lC:i<ops.size:=List.mem_range.1 B7
 rw[Bool.and_eq_true,IZ (by rw[pg];exact lC)] at hi
 obtain⟨Jk,mr⟩:=hi
 have sG:ops[i]?=some ops[i]:=Array.getElem?_eq_getElem lC
 rw[sG] at mr
 simp only[Option.map_some,Option.getD_some,Array.all_eq_true_iff_forall_mem] at mr
 refine⟨lC,by simpa using Jk,ops[i],sG,λe he hb=>?_⟩
 have:=mr e (by simpa using he)
 rw[hb] at this
 simpa using this
theorem GW{listed:Array Bool}(pg:listed.size=ops.size)(hc:(List.range ops.size).countP (λi=>!sb listed i)=0):Region.ready .any ops listed=[]:=by
 unfold Region.ready
 rw[List.filter_eq_nil_iff]
 intro i hi
 have:=(List.countP_eq_zero.1 hc) i hi
 have lC:i<ops.size:=List.mem_range.1 hi
 rw[IZ (by rw[pg];exact lC)]
 simp only[Bool.not_eq_true',Bool.not_eq_false] at this
 simp[this]
theorem count_set{listed:Array Bool}{i fuel:Nat}(pg:listed.size=ops.size)(lC:i<ops.size)(Jk:sb listed i=false)(hc:(List.range ops.size).countP (λi=>!sb listed i)=fuel+1):
 (List.range ops.size).countP (λj=>!sb (listed.setIfInBounds i true) j)=fuel:=by
 have nQ:=λj=>I0 (listed:=listed) (i:=i) (by rw[pg];exact lC) j
 have:=B1 (p:=λj=>!sb listed j) (q:=λj=>!sb (listed.setIfInBounds i true) j) (i:=i) (by simp[Jk]) (by simp[nQ]) (λj hj=>by have hh:=nQ j;rw[if_neg hj] at hh;rw[hh]) (l:=List.range ops.size) List.nodup_range (List.mem_range.2 lC)
 omega
theorem Bo(hp:j0 P=true)(hN:gm N ops=true){X:Nat->Bool}{ord:List Nat}(oV:∀l1 i l2,ord=l1++i::l2->wS P ops (gM ops.toList []) X l1 i l2)(fC:∀i<ops.size,i∈ord)
 (a₀:Act)(w₀:World)(e₀:Env)(hQ:∀a' w' e',Mt N Ds a' e'->dV w₀ w'->fz (lh ops) a₀ a'->K e' w'.heap->Q .normal a' w'):
 ∀(fuel:Nat)(listed:Array Bool)(a:Act)(w:World),(∃tr post D,Inv P N Ds A ops K ord a₀ w₀ e₀ listed a w tr post D/\∀c,X c=true->c∈tr.map (·.1))->
  (List.range ops.size).countP (λi=>!sb listed i)=fuel->wpAny P .any ops Q fuel listed a w:=by
 intro fuel
 induction fuel with
 |zero=>
  rintro listed a w ⟨tr,post,D,I,hX⟩ hc
  have hr:=GW I.sz hc
  exact⟨hr,Jp oV hQ ⟨tr,post,D,I⟩ hr⟩
 |succ fuel ih=>
  rintro listed a w ⟨tr,post,D,I,hX⟩ hc
  refine⟨Jp oV hQ ⟨tr,post,D,I⟩,λi hi=>?_⟩
  obtain⟨lC,Jk,o,sG,mr⟩:=Lo I.sz hi
  have xz:=count_set I.sz lC Jk hc
  by_cases FP:i∈tr.map (·.1)
  ·obtain⟨x,hx,DT⟩:=List.mem_map.1 FP
   obtain⟨i',v,ei⟩:=x
   simp only at DT
   subst DT
   obtain⟨h1,h2⟩:=P8 (Q:=Q) hN oV I lC sG Jk mr hx
   exact h2 _ (ih _ _ _ ⟨tr,post,D,h1,hX⟩ xz)
  ·have xy:i∈post:=by
    have:=fC i lC
    rw[I.split,List.mem_append] at this
    rcases this with h|h
    ·exact absurd h FP
    ·exact h
   rcases I.head with ET|⟨c,rest,oc,qu,rV,Uh,Ya⟩
   ·rw[ET] at xy;simp at xy
   ·subst qu
    have MY:=oV _ _ _ I.split
    have hXc:X c=false:=by
     cases h:X c with
     |false=>rfl
     |true=>exact absurd (hX c h) MY.fresh
    have Fz:i=c:=by
     rcases List.mem_cons.1 xy with h|h
     ·exact h
     ·exfalso
      have hb:=MY.write hXc oc rV Uh i h
      exact MY.fresh (I.tW c (qf I.down sG mr hb))
    subst Fz
    rw[sG] at rV
    obtain rfl:=Option.some.inj rV
    refine vB hp hN oV I lC sG Jk mr Uh Ya λv w' Wh sy D' I'=>ih _ _ _ ⟨_,sy,D',I',λc hc=>?_⟩ xz
    rw[List.map_append,List.mem_append]
    exact .inl (hX c hc)
theorem C4(n:Nat)(i:Nat):sb (Array.replicate n false) i=false:=by
 unfold sb
 rw[Array.getD_eq_getD_getElem?,Array.getElem?_replicate]
 split<;>rfl
theorem xJ(n:Nat):(List.range n).countP (λi=>!sb (Array.replicate n false) i)=n:=by
 rw[List.countP_eq_length.2]
 ·simp
 ·intro i _
  rw[C4]
  rfl
theorem JK{l:List Nat}(h:afH ops l=true):∀i<ops.size,i∈l:=λi hi=>by
 have:=List.all_eq_true.1 h i (List.mem_range.2 hi)
 obtain⟨j,hj,hb⟩:=List.any_eq_true.1 this
 rw[Nat.eq_of_beq_eq_true hb]
 exact hj
theorem ahh{ord post:List Nat}{tr:Tr}{D:List (Nat×Env×Value)}{a₀:Act}{w₀ w:World}{e₀:Env}(e1:ord=tr.map (·.1)++post)(e2:wX ops e₀ tr)(e4:∀x∈tr,Fact P ops D x/\∀o,ops[x.1]?=some o->eB ops o x.2.2=some true->kindOf P o.op≠.write)
 (e5:∀x∈D,∃o,ops[x.1]?=some o/\rX P o x.2.1 x.2.2 w.heap)(e6:sd P ops (gM ops.toList []) A post (kq ops pP tr e₀) w.heap D K)(e7:JR P ops (kq ops pP tr e₀) post)(hm:Mt N Ds a₀ e₀)(hs:dV w₀ w):
 Inv P N Ds A ops K ord a₀ w₀ e₀ (Array.replicate ops.size false) a₀ w tr post D:=by
 refine⟨by simp,?_,e1,e2,?_,λx hx _=>e5 x hx,e6,e7,?_,?_,hs,fz.refl _ _⟩
 ·intro i o _ hS
  rw[C4] at hS
  cases hS
 ·intro x hx
  obtain⟨h1,h2⟩:=e4 x hx
  exact⟨h1,λo' kh LY mI=>absurd mI (h2 o' kh LY)⟩
 ·refine⟨hm.size,hm.defers,λt v hv=>hm.val t v ?_⟩
  rw[sK (λx _ _=>C4 _ x.1)] at hv
  exact hv
 ·intro i hi
  rw[C4] at hi
  cases hi
theorem Q4(hp:j0 P=true)(hN:gm N ops=true){ord:List Nat}(Tf:Jt P ops (gM ops.toList []) ord=true)
 (a₀:Act)(w₀ w:World)(e₀:Env)(hQ:∀a' w' e',Mt N Ds a' e'->dV w₀ w'->fz (lh ops) a₀ a'->K e' w'.heap->Q .normal a' w')
 (h:sd P ops (gM ops.toList []) A ord e₀ w.heap [] K)(hm:Mt N Ds a₀ e₀)(hs:dV w₀ w):
 wpAny P .any ops Q ops.size (Array.replicate ops.size false) a₀ w:=by
 unfold Jt at Tf
 rw[Bool.and_eq_true] at Tf
 obtain⟨fC,Tf⟩:=Tf
 rw[Qm] at Tf
 have oV:∀l1 i l2,ord=l1++i::l2->wS P ops (gM ops.toList []) (λ_=>false) l1 i l2:=λl1 i l2 he=>by
  have:=qd (done:=[]) Tf (by simp) l1 i l2 he
  simpa using this
 obtain⟨tr,post,D,e1,e2,e3,CH,e4,e5,e6,e7⟩:=HW (λ_=>True) ord e₀ [] (by simp) h
 exact Bo hp hN oV (JK fC) a₀ w₀ e₀ hQ ops.size _ a₀ w ⟨tr,post,D,ahh e1 e2 e4 (λx hx=>e5 x hx trivial) e6 e7 hm hs,λc hc=>by cases hc⟩ (xJ _)
end
end Go.Ex
