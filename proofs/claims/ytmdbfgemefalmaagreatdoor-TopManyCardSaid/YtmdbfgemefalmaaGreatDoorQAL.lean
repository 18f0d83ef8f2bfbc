/- Part AL of the proof that the law TopMany answers true at every input, under no condition. -/
import Derived.Test.YtmdbfgemefalmaaGreatDoorQAK
import Derived.Deep.LoopGhost
set_option linter.unusedVariables false
set_option maxHeartbeats 2000000
set_option maxRecDepth 100000
namespace Go.X
open Go.Ex
theorem agR{P:Program}{s d t:TypeId}{i:TypeInfo}{w:World}{b o:Nat}{cs:Array Value}{el:TypeId}{lk:Nat×Nat}(hs:P.underlying s=some (.pointer t))(hd:P.underlying d=some .unsafePointer)
 (hi:P.info? t=some i)(hz:i.size≠0)(dj:w.heap[b]?=some (.cells cs el lk))(ho:o<cs.size):(convert s d (.pointer (some ⟨b,o,none⟩))).run P w=.ok (.pointer (some ⟨b,o,none⟩)) w:=by
 unfold convert
 rw[Sem.run_bind,mm hs]
 simp only[Result.andThen]
 rw[Sem.run_bind,mm hd]
 simp only[Result.andThen]
 unfold Conv.unsafePointer
 rw[Sem.run_bind,mm hs]
 simp only[Result.andThen]
 rw[Sem.run_bind,mm hd]
 simp only[Result.andThen]
 rw[Sem.run_bind,vC dj]
 simp only[Result.andThen]
 have FP:(cellsIn b).run P w=.ok (some cs.size) w:=by
  unfold cellsIn
  rw[Sem.run_bind,run_shape]
  simp only[Result.andThen,World.shape?,dj]
  rfl
 rw[Sem.run_bind,FP]
 simp only[Result.andThen]
 rw[Sem.run_bind,gL hi]
 simp only[Result.andThen]
 rw[if_neg]
 ·rfl
 ·simp only[hz,Bool.or_eq_true,decide_eq_true_eq,false_or]
  simp;omega
theorem agS{P:Program}{s d u:TypeId}{i:TypeInfo}{w:World}{b o:Nat}{cs:Array Value}{el:TypeId}{lk:Nat×Nat}(hs:P.underlying s=some .unsafePointer)(hd:P.underlying d=some (.pointer u))
 (hi:P.info? u=some i)(dj:w.heap[b]?=some (.cells cs el lk))(hl:liesAt P P.depth el (cs.size/P.cellsOf el) o u 1=true):(convert s d (.pointer (some ⟨b,o,none⟩))).run P w=.ok (.pointer (some ⟨b,o,none⟩)) w:=by
 unfold convert
 rw[Sem.run_bind,mm hs]
 simp only[Result.andThen]
 rw[Sem.run_bind,mm hd]
 simp only[Result.andThen]
 unfold Conv.unsafePointer
 rw[Sem.run_bind,mm hs]
 simp only[Result.andThen]
 rw[Sem.run_bind,mm hd]
 simp only[Result.andThen]
 rw[Sem.run_bind,vC dj]
 simp only[Result.andThen]
 have hv:(variablesAt ⟨b,o,none⟩ u 1).run P w=.ok true w:=by
  unfold variablesAt
  rw[Sem.run_bind,run_program]
  simp only[Result.andThen]
  rw[Sem.run_bind,run_shape]
  simp only[Result.andThen,World.shape?,dj]
  rw[hl]
  rfl
 rw[Sem.run_bind,gL hi]
 simp only[Result.andThen]
 rw[Sem.run_bind,hv]
 simp
end Go.X
namespace Go.Ex
open Go.X (tE vZ gQ any_beq jD zq qw yF kW fD sJ oX)
variable {P:Program}
def PK(r:Option (Nat×Value))(A:Value->Prop)(B:Prop):Prop:=match r with|some x=>A x.2|none=>B
def lookW(P:Program)(mt:TypeId)(m k:Value)(H:Heap)(K:Value->Bool->Prop):Prop:=
 match P.underlying mt with
 |some (.map kt et)=>(match m with
  |.map (some b)=>∃es clock r,H[b]?=some (.map es clock)/\(∀em w,(Instr.checkKey em 10000 kt k).run P w=.ok () w)/\(∀w,(Instr.findKey kt k es.toList).run P w=.ok r w)/\
   PK r (λv=>SM P [et] v λu=>K u true) (re P et λz=>K z false)
  |_=>False)
 |_=>False
def ac2(P:Program)(mt:TypeId)(m k v:Value)(H:Heap)(K:Heap->Prop):Prop:=
 match P.underlying mt with
 |some (.map kt _)=>(match m with
  |.map (some b)=>∃es clock,H[b]?=some (.map es clock)/\(∀em w,(Instr.checkKey em 10000 kt k).run P w=.ok () w)/\(∀w,(Instr.findKey kt k es.toList).run P w=.ok none w)/\
   K (H.setIfInBounds b (.map (es.push {key:=k,val:=v,born:=clock}) (clock+1)))
  |_=>False)
 |_=>False
def ae8(p:Value)(H:Heap)(K:Value->Heap->Prop):Prop:=
 match p with
 |.pointer (some ⟨b,0,_⟩)=>∃s pos,H[b]?=some (.stringIter s pos)/\gn (decide (pos<s.size))
  (K (.tuple #[.bool true,.int .i64 (pos:Int),.int .i32 (((Utf8.decode s pos).1:Nat):Int)]) (H.setIfInBounds b (.stringIter s (pos+(Utf8.decode s pos).2)))) (K (.tuple #[.bool false]) H)
 |_=>False
def Dg(fn:Func):Prop:=fn.body.isNone=true/\Extern.findNext fn=none/\Extern.find fn=some Extern.AbiNoEscape.same
def Vj(P:Program)(t:TypeId)(p:Option Addr)(H:Heap):Prop:=∃i b o cs el lk,P.info? t=some i/\i.size≠0/\p=some ⟨b,o,none⟩/\H[b]?=some (.cells cs el lk)/\o<cs.size
def Z7(P:Program)(u:TypeId)(p:Option Addr)(H:Heap):Prop:=∃i b o cs el lk,P.info? u=some i/\p=some ⟨b,o,none⟩/\H[b]?=some (.cells cs el lk)/\liesAt P P.depth el (cs.size/P.cellsOf el) o u 1=true
def Tt(H:Heap)(g off n:Nat):Heap:=H.modify g λ
 |.cells c elem (lo,hi)=>.cells c elem (if lo==hi then(off,off+n) else(min lo off,max hi (off+n)))
 |o=>o
def Vi(P:Program)(pt:TypeId)(p:Option Addr)(n:Int)(H:Heap)(K:ByteArray->Heap->Prop):Prop:=
 (n=0/\K ⟨#[]⟩ H)\/∃el g off cs lk l,P.underlying pt=some (.pointer el)/\P.cellsOf el=1/\p=some ⟨g,off,none⟩/\H[g]?=some (.cells cs el lk)/\l≠[]/\n=(l.length:Nat)/\l.length<=9223372036854775807/\off+l.length<=cs.size/\
  (∀(j:Nat)(x:UInt8),l[j]?=some x->dj H ((⟨g,off,none⟩:Addr).add j)=some (.int .u8 x.toNat))/\K ⟨l.toArray⟩ (Tt H g off l.length)
def YS(P:Program)(f:FuncId)(args:Array Value)(H:Heap)(K:Value->Heap->Prop):Prop:=
 match P.funcs[f]? with
 |some fn=>bif fn.body.isSome then Fn P f args H λv H'=>SM P fn.resultTypes.toList v λu=>K u H' else Dg fn/\(match args.toList with|[x]=>K x H|_=>False)
 |none=>False
def MD(P:Program)(g:Value)(vs:List Value)(H:Heap)(K:Value->Heap->Prop):Prop:=
 match g with
 |.func t l1 l2=>(match t with|.func f=>YS P f (l1.toList++vs++l2.toList).toArray H K|_=>False)
 |_=>False
def Wy(P:Program)(t:TypeId)(v:Value)(K:Value->Prop):Prop:=
 match P.underlying t with
 |some (.array n el)=>(match v with
  |.pointer (some a)=>bif(P.info? el).isSome then K (.slice (some a) n n) else False
  |_=>False)
 |_=>rN P t v none none K
def slice3(P:Program)(t:TypeId)(v hv mv:Value)(K:Value->Prop):Prop:=
 match P.underlying t,v,hv,mv with
 |some (.slice el),.slice p _ c,.int _ a,.int _ b=>bif(P.info? el).isSome then 0<=b/\b<=(c:Int)/\0<=a/\a<=(b.toNat:Int)/\K (.slice p a.toNat b.toNat) else False
 |_,_,_,_=>False
def P3(P:Program)(o:Op)(e:Env)(K:Value->Prop):Prop:=
 match o with
 |.slice t x none none none=>o1 e x λv=>Wy P t v K
 |.slice t x none (some hi) (some mx)=>o1 e x λv=>o1 e hi λa=>o1 e mx λb=>slice3 P t v a b K
 |.makeFunc (.func f) first cap=>oL e first.toList [] λl1=>oL e cap.toList [] λl2=>K (.func (.func f) l1.toArray l2.toArray)
 |.call ⟨.builtin .unsafeSliceData,args,_⟩=>oL e args.toList [] λvs=>(match vs with|[.slice p _ c]=>(p.isSome=true->c≠0)/\K (.pointer p)|_=>False)
 |.binOp .neq t x (.tmp k) yt=>o1 e x λa=>o1 e (.tmp k) λb=>(match a,b with
  |.pointer p,.pointer q=>bif Go.X.acN P t then(p=q/\∃b o,q=some ⟨b,o,none⟩)/\K (.bool false) else False
  |_,_=>dF P (.binOp .neq t x (.tmp k) yt) e K)
 |o=>dF P o e K
def K0(P:Program)(o:Op)(e:Env)(H:Heap)(K:Value->Prop):Prop:=
 match o with
 |.lookup mt x k ok=>o1 e x λm=>o1 e k λkv=>lookW P mt m kv H λv b=>(match ok with|true=>K (.tuple #[v,.bool b])|false=>K v)
 |.convert s d x=>(match P.underlying s,P.underlying d with
  |some (.pointer t),some .unsafePointer=>o1 e x λv=>(match v with|.pointer p=>Vj P t p H/\K (.pointer p)|_=>False)
  |some .unsafePointer,some (.pointer u)=>o1 e x λv=>(match v with|.pointer p=>Z7 P u p H/\K (.pointer p)|_=>False)
  |_,_=>vV P (.convert s d x) e H K)
 |o=>vV P o e H K
def Ix(P:Program)(o:Op)(e:Env)(H:Heap)(K:Value->Heap->Prop):Prop:=
 match o with
 |.call {callee:=.value fo,args:=args,..}=>o1 e fo λg=>oL e args.toList [] λvs=>MD P g vs H K
 |.call {callee:=.builtin .unsafeString,args:=args,argTypes:=ts}=>oL e args.toList [] λvs=>(match ts.toList,vs with|[pt,_],[.pointer p,.int .i64 n]=>Vi P pt p n H λs H'=>K (.string s) H'|_,_=>False)
 |.makeMap _ none=>K (.map (some H.size)) (H.push (.map #[] 0))
 |.mapUpdate mt x k v=>o1 e x λm=>o1 e k λkv=>o1 e v λvv=>ac2 P mt m kv vv H λH'=>K undef H'
 |.insert mt x k v=>o1 e x λm=>o1 e k λkv=>o1 e v λvv=>ac2 P mt m kv vv H λH'=>K undef H'
 |.range t x=>o1 e x λv=>(match P.underlying t,v with
  |some .string,.string s=>K (newAt H) (H.push (.stringIter s 0))
  |_,_=>False)
 |.next x true=>o1 e x λp=>ae8 p H K
 |o=>jL P o e H K
theorem S1{mt:TypeId}{m k:Value}{H:Heap}{K:Value->Bool->Prop}(h:lookW P mt m k H K)(ok:Bool):∃v b,K v b/\∀w:World,w.heap=H->(Instr.lookup mt m k ok).run P w=.ok (if ok then .tuple #[v,.bool b] else v) w:=by
 unfold lookW at h
 split at h
 ·rename_i kt et hu
  split at h
  ·rename_i b
   obtain⟨es,clock,r,h1,h2,h3,h4⟩:=h
   have wo:∀w:World,w.heap=H->(getObj b).run P w=.ok (.map es clock) w:=λw hw=>Go.MapKept.run_getObj_map (by rw[hw];exact h1)
   cases r with
   |some x=>
    refine⟨x.2,true,Ln (show SM P [et] x.2 _ from h4),λw hw=>?_⟩
    unfold Instr.lookup
    simp only[Sem.run_bind,mm hu,Result.andThen,wo w hw,Sem.run_pure,h2,h3]
   |none=>
    obtain⟨i,z,hi,hz,hk,FN⟩:=jx (show re P et _ from h4)
    refine⟨z,false,hk,λw hw=>?_⟩
    unfold Instr.lookup
    simp only[Sem.run_bind,mm hu,Result.andThen,wo w hw,Sem.run_pure,h2,h3,FN]
  ·exact h.elim
 ·exact h.elim
theorem Iw{op:Op}{e:Env}{H:Heap}{K:Value->Prop}(h:K0 P op e H K):oB P op e H K:=by
 unfold K0 at h
 split at h
 ·rename_i mt x k ok
  obtain⟨m,hm,h⟩:=ma h
  obtain⟨kv,Ea,h⟩:=ma h
  obtain⟨v,b,hk,hr⟩:=S1 h ok
  refine .inr λo ho=>⟨if ok then .tuple #[v,.bool b] else v,by cases ok<;>exact hk,λτ ha w hw=>?_⟩
  obtain⟨dst,nS,type,pos,after,guard⟩:=o
  simp only at ho
  subst ho
  simp only[execOp,ha x (by simp[Op.operands]) _ hm,ha k (by simp[Op.operands]) _ Ea]
  rw[Sem.run_bind,hr w hw]
  rfl
 ·rename_i s d x
  split at h
  ·rename_i t hs hd
   obtain⟨v,hv,h⟩:=ma h
   split at h
   ·rename_i p
    obtain⟨⟨i,b,o,cs,el,lk,hi,hz,rfl,hb,ho⟩,hk⟩:=h
    exact Go.X.kW (Go.X.oW (λw hw=>Go.X.agR hs hd hi hz (by rw[hw];exact hb) ho) λnS kh τ ha=>by
     obtain⟨dst,nS,type,pos,after,guard⟩:=nS
     simp only at kh
     subst kh
     simp only[execOp,ha x (by simp[Op.operands]) _ hv]) hk
   ·exact h.elim
  ·rename_i u hs hd
   obtain⟨v,hv,h⟩:=ma h
   split at h
   ·rename_i p
    obtain⟨⟨i,b,o,cs,el,lk,hi,rfl,hb,hl⟩,hk⟩:=h
    exact Go.X.kW (Go.X.oW (λw hw=>Go.X.agS hs hd hi (by rw[hw];exact hb) hl) λnS kh τ ha=>by
     obtain⟨dst,nS,type,pos,after,guard⟩:=nS
     simp only at kh
     subst kh
     simp only[execOp,ha x (by simp[Op.operands]) _ hv]) hk
   ·exact h.elim
  ·exact .inl h
 ·exact .inl h
theorem Lq{mt:TypeId}{m k v:Value}{H:Heap}{K:Heap->Prop}(h:ac2 P mt m k v H K):∀w:World,w.heap=H->∃w',(Instr.mapUpdate mt m k v).run P w=.ok () w'/\dV w w'/\K w'.heap:=by
 unfold ac2 at h
 split at h
 ·rename_i kt et hu
  split at h
  ·rename_i b
   obtain⟨es,clock,h1,h2,h3,h4⟩:=h
   intro w hw
   have hb:w.heap[b]?=some (.map es clock):=by rw[hw];exact h1
   refine⟨{w with heap:=w.heap.setIfInBounds b (.map (es.push {key:=k,val:=v,born:=clock}) (clock+1))},?_,⟨rfl,rfl,rfl⟩,by rw[hw];exact h4⟩
   unfold Instr.mapUpdate
   rw[Sem.run_bind,mm hu]
   simp only[Result.andThen]
   rw[Sem.run_bind,Go.MapKept.run_getObj_map hb]
   simp only[Result.andThen]
   rw[Sem.run_bind,h2]
   simp only[Result.andThen]
   rw[Sem.run_bind,h3]
   simp only[Result.andThen]
   exact Go.MapKept.run_setObj_map _ hb
  ·exact h.elim
 ·exact h.elim
theorem tG{op:Op}{e:Env}{K K':Value->Prop}(h:jn P op e K)(hk:∀v,K v->K' v):jn P op e K':=.inr λo ho=>by
 subst ho
 obtain⟨v,hv,hr⟩:=jm h
 exact⟨v,hk _ hv,hr⟩
theorem NC{op:Op}{e:Env}{K:Value->Prop}(h:P3 P op e K):jn P op e K:=by
 unfold P3 at h
 split at h
 ·rename_i t x
  obtain⟨v,hv,h⟩:=ma h
  unfold Wy at h
  split at h
  ·rename_i n el hu
   split at h
   ·rename_i a
    obtain⟨hb,h⟩:=kJ h
    obtain⟨i,hi⟩:=Option.isSome_iff_exists.1 hb
    refine .inr λo ho=>⟨_,h,λτ ha w=>?_⟩
    obtain⟨dst,nS,type,pos,after,guard⟩:=o
    simp only at ho
    subst ho
    simp only[execOp,ha x (by simp[Op.operands]) _ hv,Option.map_none]
    unfold Instr.sliceAt Instr.sliceBounds
    simp[mm hu,Instr.sureAddr,gL hi,Addr.add]
   ·exact h.elim
  ·refine .inl ?_
   simp only[dF,o1,hv,oO]
   exact h
 ·rename_i t x hi mx
  obtain⟨v,hv,h⟩:=ma h
  obtain⟨a,ha',h⟩:=ma h
  obtain⟨b,rb,h⟩:=ma h
  unfold slice3 at h
  split at h
  ·rename_i el p n c k1 a k2 b hu _ _
   obtain⟨hb,h⟩:=kJ h
   obtain⟨i,nN⟩:=Option.isSome_iff_exists.1 hb
   obtain⟨h0,h1,h2,h3,h⟩:=h
   refine .inr λo ho=>⟨_,h,λτ ha w=>?_⟩
   obtain⟨dst,nS,type,pos,after,guard⟩:=o
   simp only at ho
   subst ho
   simp only[execOp,ha x (by simp[Op.operands]) _ hv,ha hi (by simp[Op.operands]) _ ha',ha mx (by simp[Op.operands]) _ rb,Option.map_none,Option.map_some]
   unfold Instr.sliceAt Instr.slice Instr.sliceBounds Instr.sliceBound
   have em:(if b<=0 then p else p.map λq:Addr=>q.add 0)=p:=by cases p<;>simp[Addr.add]
   simp[mm hu,asIntOf,h0,h1,h2,gL nN]
   rw[if_pos (by omega),em]
  ·exact h.elim
 ·rename_i f first cap
  obtain⟨l1,h1,h⟩:=tq h
  obtain⟨l2,h2,h⟩:=tq h
  refine .inr λo ho=>⟨_,h,λτ ha w=>?_⟩
  obtain⟨dst,nS,type,pos,after,guard⟩:=o
  simp only at ho
  subst ho
  have e1:=Go.X.iv h1.symm (τ:=τ) (λy hy=>ha y (by simp[Op.operands];exact .inl (by simpa using hy)))
  have e2:=Go.X.iv h2.symm (τ:=τ) (λy hy=>ha y (by simp[Op.operands];exact .inr (by simpa using hy)))
  simp only[execOp]
  rw[show first.map τ=l1.toArray by rw[<-e1];cases first;simp,show cap.map τ=l2.toArray by rw[<-e2];cases cap;simp]
  rfl
 ·rename_i args ts
  obtain⟨vs,Co,h⟩:=tq h
  simp only[List.nil_append] at h
  split at h
  ·rename_i p l c
   obtain⟨hc,hk⟩:=h
   refine .inr λnS Bd=>⟨_,hk,λτ ha w=>?_⟩
   obtain⟨dst,nS,type,pos,after,guard⟩:=nS
   simp only at Bd
   subst Bd
   have ea:=Go.X.iv Co.symm (τ:=τ) (λy hy=>ha y (by simp[Op.operands,Call.operands];simpa using hy))
   have Js:args.map τ=#[.slice p l c]:=by
    have:(args.map τ).toList=[.slice p l c]:=by rw[<-ea];simp
    rw[<-this]
   simp only[execOp,resolve,Js,pure_bind,invoke,builtin]
   cases p with
   |none=>rfl
   |some a=>
    rw[Sem.run_bind]
    have:(Builtin.unsafeSliceData_ ts type #[.slice (some a) l c]).run P w=.ok (.pointer (some a)) w:=by
     change Sem.run P (if _≠0 then _ else _) w=_
     rw[if_pos (hc rfl)]
     rfl
    rw[this]
    rfl
  ·exact h.elim
 ·rename_i t x k yt
  obtain⟨a,ha,h⟩:=ma h
  obtain⟨b,hb,h⟩:=ma h
  split at h
  ·rename_i p q
   obtain⟨ht,h⟩:=kJ h
   obtain⟨⟨rfl,fv,o,rfl⟩,hk⟩:=h
   unfold Go.X.acN at ht
   split at ht
   ·rename_i el hu
    split at ht
    ·rename_i i hi
     have hz:i.size≠0:=λe=>by rw[e] at ht;cases ht
     have:=Go.X.xU.zb (P:=P) (neg:=true) (oy:=.tmp k) (t:=t) (x:=.pointer (some ⟨fv,o,none⟩)) (y:=.pointer (some ⟨fv,o,none⟩)) (λop ox w=>pL (by simp) (by simp) w)
      (λop ho=>by rcases ho with rfl|rfl<;>rfl) (λw=>Go.X.uQ hu hi hz fv o o w)
     rw[decide_eq_true rfl] at this
     exact tG (Go.X.vW rfl ha hb this) λv hv=>hv▸hk
    ·cases ht
   ·cases ht
  ·exact .inl h
 ·exact .inl h
theorem Iv(hp:j0 P=true){op:Op}{e:Env}{H:Heap}{K:Value->Heap->Prop}(h:Ix P op e H K):ny P op e H K:=by
 unfold Ix at h
 split at h
 ·rename_i fo args ts
  obtain⟨g,hg,h⟩:=ma h
  obtain⟨vs,Co,h⟩:=tq h
  cases g with
  |func t l1 l2=>
   cases t with
   |func f=>
    replace h:YS P f (l1.toList++vs++l2.toList).toArray H K:=h
    unfold YS at h
    split at h
    ·rename_i fn hf
     have Ya:Go.X.CW P f (l1.toList++vs++l2.toList) H K:=by
      cases hb:fn.body.isSome with
      |true=>
       rw[hb] at h
       have h2:Fn P f (l1.toList++vs++l2.toList).toArray H (λv H'=>SM P fn.resultTypes.toList v λu=>K u H'):=h
       exact .inl ⟨fn,hf,hb,h2.mono λv H' hr=>Ln hr⟩
      |false=>
       rw[hb] at h
       obtain⟨⟨hn,X5,Me⟩,h⟩:=(show Dg fn/\_ from h)
       split at h
       ·rename_i x hx
        have uC:l1.toList++vs++l2.toList=[x]:=by simpa using hx
        rw[uC]
        exact Go.X.Fj (k:=.same) hp hf hn X5 Me λw hw=>⟨x,w,rfl,dV.refl w,by rw[hw];exact h⟩
       ·exact h.elim
     refine Go.X.YK hp (f:=f) (xs:=l1.toList++vs++l2.toList) Ya λo ho τ ha w=>?_
     obtain⟨dst,nS,type,pos,after,guard⟩:=o
     simp only at ho
     subst ho
     have ea:=Go.X.iv Co.symm (τ:=τ) (λy hy=>ha y (by simp[Op.operands,Call.operands];simp at hy;exact .inr hy))
     have Js:args.map τ=vs.toArray:=by rw[<-ea];cases args;simp
     have hf:=ha fo (by simp[Op.operands,Call.operands]) _ hg
     simp only[execOp,resolve,Js,hf,Deferred.ofValue,pure_bind,invoke]
     congr 2
     simp
    ·exact h.elim
   |_=>exact h.elim
  |_=>exact h.elim
 ·rename_i args ts
  replace h:=tq h
  obtain⟨vs,Co,h⟩:=h
  simp only[List.nil_append] at h
  split at h
  ·rename_i pt it p n P2
   have ets:ts=#[pt,it]:=by rw[<-P2]
   refine qw (s:=λo=>Builtin.unsafeString_ ts o.type #[.pointer p,.int .i64 n]) (λo w hw=>?_) λo ho τ ha=>?_
   ·subst ets
    rcases h with⟨rfl,hk⟩|⟨el,g,off,cs,lk,l,hp,hc,rfl,hb,BJ,rfl,Cv,hle,dj,hk⟩
    ·exact⟨_,w,Go.X.uP w pt it o.type p,dV.refl w,by rw[hw];exact hk⟩
    ·have Ui:w.heap[g]?=some (.cells cs el lk):=by rw[hw];exact hb
     refine⟨_,_,Go.X.Lh w pt it o.type el hp hc g off cs.size (by simp[World.shape?,Ui]) l BJ hle Cv (λj x hj=>by rw[kA,hw];exact dj j x hj),Go.X.xg _ _ _,?_⟩
     have:(w.freeze ⟨g,off,none⟩ l.length).heap=Tt H g off l.length:=by
      unfold World.freeze Tt
      rw[if_neg (by simpa using BJ)]
      simp only[hw]
      congr 1
     rw[this]
     exact hk
   ·obtain⟨dst,nS,type,pos,after,guard⟩:=o
    simp only at ho
    subst ho
    have ea:=Go.X.iv Co.symm (τ:=τ) (λy hy=>ha y (by simp[Op.operands,Call.operands];simpa using hy))
    have Js:args.map τ=#[.pointer p,.int .i64 n]:=by
     have:(args.map τ).toList=[.pointer p,.int .i64 n]:=by rw[<-ea];simp
     rw[<-this]
    simp only[execOp,resolve,Js,pure_bind,invoke,builtin]
  ·exact h.elim
 ·rename_i t
  refine qw (s:=λ_=>Instr.makeMap t none) (λ_ w hw=>⟨.map (some w.heap.size),w.alloc (.map #[] 0),rfl,dV.alloc _ _,by rw[heap_alloc,hw];exact h⟩) λo ho τ ha=>?_
  obtain⟨dst,nS,type,pos,after,guard⟩:=o
  simp only at ho
  subst ho
  rfl
 ·rename_i mt x k v
  obtain⟨m,hm,h⟩:=ma h
  obtain⟨kv,Ea,h⟩:=ma h
  obtain⟨vv,S9,h⟩:=ma h
  refine yF (Lq h) λo ho τ ha=>?_
  obtain⟨dst,nS,type,pos,after,guard⟩:=o
  simp only at ho
  subst ho
  simp only[execOp,ha x (by simp[Op.operands]) _ hm,ha k (by simp[Op.operands]) _ Ea,ha v (by simp[Op.operands]) _ S9]
 ·rename_i mt x k v
  obtain⟨m,hm,h⟩:=ma h
  obtain⟨kv,Ea,h⟩:=ma h
  obtain⟨vv,S9,h⟩:=ma h
  refine yF (Lq h) λo ho τ ha=>?_
  obtain⟨dst,nS,type,pos,after,guard⟩:=o
  simp only at ho
  subst ho
  simp only[execOp,ha x (by simp[Op.operands]) _ hm,ha k (by simp[Op.operands]) _ Ea,ha v (by simp[Op.operands]) _ S9]
 ·rename_i t x
  obtain⟨v,hv,h⟩:=ma h
  split at h
  ·rename_i s hu
   refine qw (s:=λ_=>Instr.range t (.string s)) (λ_ w hw=>⟨newAt w.heap,w.alloc (.stringIter s 0),?_,dV.alloc _ _,by rw[heap_alloc,hw];exact h⟩) λo ho τ ha=>?_
   ·unfold Instr.range
    rw[Sem.run_bind,mm hu]
    rfl
   ·obtain⟨dst,nS,type,pos,after,guard⟩:=o
    simp only at ho
    subst ho
    simp only[execOp,ha x (by simp[Op.operands]) _ hv]
  ·exact h.elim
 ·rename_i x
  obtain⟨p,hp,h⟩:=ma h
  unfold ae8 at h
  split at h
  ·rename_i b sp
   obtain⟨s,pos,hb,h⟩:=h
   refine qw (s:=λo'=>Instr.next (.pointer (some ⟨b,0,sp⟩)) true o'.type) (λo' w hw=>?_) λo ho τ ha=>?_
   ·have Ui:w.heap[b]?=some (.stringIter s pos):=by rw[hw];exact hb
    have wo:(getObj b).run P w=.ok (.stringIter s pos) w:=by simp[getObj,Sem.run,Ui]
    rcases wa h with⟨lC,hk⟩|⟨lC,hk⟩
    ·rw[decide_eq_true_eq] at lC
     have Rn:(setObj b (.stringIter s (pos+(Utf8.decode s pos).2))).run P w=.ok () {w with heap:=w.heap.setIfInBounds b (.stringIter s (pos+(Utf8.decode s pos).2))}:=by simp[setObj,Sem.run,Ui]
     refine⟨_,{w with heap:=w.heap.setIfInBounds b (.stringIter s (pos+(Utf8.decode s pos).2))},?_,⟨rfl,rfl,rfl⟩,by rw[hw];exact hk⟩
     unfold Instr.next
     simp only
     rw[Sem.run_bind,wo]
     simp only[Result.andThen,if_pos lC]
     rw[Sem.run_bind,Rn]
     rfl
    ·rw[decide_eq_false_iff_not] at lC
     refine⟨_,w,?_,dV.refl w,by rw[hw];exact hk⟩
     unfold Instr.next
     simp only
     rw[Sem.run_bind,wo]
     simp only[Result.andThen,if_neg lC]
     rfl
   ·obtain⟨dst,nS,type,pos,after,guard⟩:=o
    simp only at ho
    subst ho
    simp only[execOp,ha x (by simp[Op.operands]) _ hp]
  ·exact h.elim
 ·exact .inl h
section
variable {N:Nat} {ops:Array Oper} {B:List Nat}
theorem xA{op:Op}{e:Env}{H:Heap}{K K':Value->Prop}(h:oB P op e H K)(hk:∀v,K v->K' v):oB P op e H K':=.inr λo ho=>by
 subst ho
 obtain⟨v,hv,hr⟩:=iy h
 exact⟨v,hk _ hv,hr⟩
theorem jE{g:Bool}{v:Value}{K K':Value->Prop}(hk:∀v,K v->K' v)(h:kH g v K):kH g v K':=Go.X.pS (hk _ (nX h))
def K1(P:Program)(ops:Array Oper):List Oper->Nat->Env->Heap->(Env->Heap->Prop)->Prop
 |[],_,e,H,K=>K e H
 |o::rest,i,e,H,K=>
  match eB ops o e with
  |none=>False
  |some false=>K1 P ops rest (i+1) (put e o.dst undef) H K
  |some true=>match kindOf P o.op with
   |.pure=>P3 P o.op e λv=>kH (mb ops i) v λv=>K1 P ops rest (i+1) (put e o.dst v) H K
   |.read=>K0 P o.op e H λv=>kH (mb ops i) v λv=>K1 P ops rest (i+1) (put e o.dst v) H K
   |.write=>Ix P o.op e H λv H'=>kH (mb ops i) v λv=>K1 P ops rest (i+1) (put e o.dst v) H' K
theorem ae2(hp:j0 P=true){K:Env->Heap->Prop}:∀(l:List Oper)(i:Nat)(e:Env)(H:Heap),K1 P ops l i e H K->nU P ops l i e H K:=by
 intro l
 induction l with
 |nil=>intro i e H h;exact h
 |cons o l ih=>
  intro i e H h
  unfold K1 at h
  unfold nU
  cases hw:eB ops o e with
  |none=>rw[hw] at h;exact h
  |some b=>
   rw[hw] at h
   cases b with
   |false=>exact ih _ _ _ h
   |true=>
    simp only at h⊢
    cases hk:kindOf P o.op with
    |pure=>rw[hk] at h;exact tG (NC h) λv hv=>jE (λv hv=>ih _ _ _ hv) hv
    |read=>rw[hk] at h;exact xA (Iw h) λv hv=>jE (λv hv=>ih _ _ _ hv) hv
    |write=>rw[hk] at h;exact fD hp (Iv hp h) λv H' hv=>jE (λv hv=>ih _ _ _ hv) hv
def Ec(P:Program)(ops:Array Oper)(m:Nat)(H:Heap):List (Nat×Env×Value)->Prop->Prop
 |[],A=>A
 |(r,e,v)::D,A=>match m.testBit r with
  |true=>Ec P ops m H D A
  |false=>(match ops[r]? with|some o=>K0 P o.op e H (λu=>u=v)|none=>False)/\Ec P ops m H D A
theorem CS{m:Nat}{H:Heap}{A A':Prop}(ha:A->A'):∀{D:List (Nat×Env×Value)},Ec P ops m H D A->km P ops m H D A'
 |[],h=>ha h
 |(r,e,v)::D,h=>by
  unfold Ec at h
  unfold km
  cases hb:m.testBit r with
  |true=>rw[hb] at h;exact CS ha h
  |false=>
   rw[hb] at h
   refine⟨?_,CS ha h.2⟩
   have h1:=h.1
   split
   ·rename_i o ho;rw[ho] at h1;exact Iw h1
   ·rename_i ho;rw[ho] at h1;exact h1
def Y1(a:Option (Env->Heap->List (Nat×Env×Value)->Prop))(e:Env)(H:Heap)(D:List (Nat×Env×Value))(X:Prop):Prop:=match a with|none=>X|some f=>X/\f e H D
theorem ME{a:Option (Env->Heap->List (Nat×Env×Value)->Prop)}{e:Env}{H:Heap}{D:List (Nat×Env×Value)}{X:Prop}(h:Y1 a e H D X):X:=by cases a with|none=>exact h|some f=>exact h.1
def wD(P:Program)(ops:Array Oper)(B:List Nat)(A:List Nat->Option (Env->Heap->List (Nat×Env×Value)->Prop)):List Nat->Env->Heap->List (Nat×Env×Value)->(Env->Heap->Prop)->Prop
 |[],e,H,_,K=>K e H
 |i::rest,e,H,D,K=>
  match ops[i]? with
  |none=>False
  |some o=>match eB ops o e with
   |none=>False
   |some false=>wD P ops B A rest (put e o.dst undef) H D K
   |some true=>match kindOf P o.op with
    |.pure=>P3 P o.op e λv=>kH (mb ops i) v λv=>wD P ops B A rest (put e o.dst v) H D K
    |.read=>K0 P o.op e H λv=>kH (mb ops i) v λv=>wD P ops B A rest (put e o.dst v) H (D++[(i,e,v)]) K
    |.write=>Y1 (A (i::rest)) e H D (Ix P o.op e H λv H'=>Ec P ops (B.getD i 0) H' D (kH (mb ops i) v λv=>wD P ops B A rest (put e o.dst v) H' D K))
def wT:List Nat->Option (Env->Heap->List (Nat×Env×Value)->Prop):=λ_=>none
theorem Pd(hp:j0 P=true){A:List Nat->Option (Env->Heap->List (Nat×Env×Value)->Prop)}{K:Env->Heap->Prop}:∀(l:List Nat)(e:Env)(H:Heap)(D:List (Nat×Env×Value)),wD P ops B A l e H D K->sd P ops B (λ_ _ _ _=>True) l e H D K:=by
 intro l
 induction l with
 |nil=>intro e H D h;exact h
 |cons i l ih=>
  intro e H D h
  unfold wD at h
  unfold sd
  cases ho:ops[i]? with
  |none=>rw[ho] at h;exact h
  |some o=>
  rw[ho] at h
  simp only at h⊢
  cases hw:eB ops o e with
  |none=>rw[hw] at h;exact h
  |some b=>
   rw[hw] at h
   cases b with
   |false=>exact ih _ _ _ h
   |true=>
    simp only at h⊢
    cases hk:kindOf P o.op with
    |pure=>rw[hk] at h;exact tG (NC h) λv hv=>jE (λv hv=>ih _ _ _ hv) hv
    |read=>rw[hk] at h;exact xA (Iw h) λv hv=>jE (λv hv=>ih _ _ _ hv) hv
    |write=>rw[hk] at h;exact⟨fD hp (Iv hp (ME (e:=e) (H:=H) (D:=D) (show Y1 _ e H D _ from h))) λv H' hv=>CS (λhv=>jE (λv hv=>ih _ _ _ hv) hv) hv,trivial⟩
def Vh(P:Program)(ops:Array Oper)(K:Env->Heap->Prop)(d:Nat)(l:List Nat):Option (Env->Heap->List (Nat×Env×Value)->Prop):=
 match l with
 |[]=>none
 |c::r=>bif Nat.beq c d then none else bif r.any (Nat.beq d) then some λe H D=>wD P ops (gM ops.toList []) wT (d::(c::r).erase d) e H D K else none
theorem apo(hp:j0 P=true){K:Env->Heap->Prop}{d:Nat}:∀(l:List Nat)(e:Env)(H:Heap)(D:List (Nat×Env×Value)),wD P ops (gM ops.toList []) (Vh P ops K d) l e H D K->sd P ops (gM ops.toList []) (AF P ops K d) l e H D K:=by
 intro l
 induction l with
 |nil=>intro e H D h;exact h
 |cons i l ih=>
  intro e H D h
  have fC:=Pd hp (i::l) e H D h
  unfold wD at h
  unfold sd
  cases ho:ops[i]? with
  |none=>rw[ho] at h;exact h
  |some o=>
  rw[ho] at h
  simp only at h⊢
  cases hw:eB ops o e with
  |none=>rw[hw] at h;exact h
  |some b=>
   rw[hw] at h
   cases b with
   |false=>exact ih _ _ _ h
   |true=>
    simp only at h⊢
    cases hk:kindOf P o.op with
    |pure=>rw[hk] at h;exact tG (NC h) λv hv=>jE (λv hv=>ih _ _ _ hv) hv
    |read=>rw[hk] at h;exact xA (Iw h) λv hv=>jE (λv hv=>ih _ _ _ hv) hv
    |write=>
     rw[hk] at h
     refine⟨fD hp (Iv hp (ME (e:=e) (H:=H) (D:=D) (show Y1 _ e H D _ from h))) λv H' hv=>CS (λhv=>jE (λv hv=>ih _ _ _ hv) hv) hv,λqI=>?_⟩
     have h2:Y1 (bif Nat.beq i d then none else bif l.any (Nat.beq d) then some λe H D=>wD P ops (gM ops.toList []) wT (d::(i::l).erase d) e H D K else none) e H D _:=h
     cases hid:Nat.beq i d with
     |true=>
      obtain rfl:=Nat.eq_of_beq_eq_true hid
      rw[List.erase_cons_head]
      exact fC
     |false=>
      rw[hid] at h2
      have hZ:i≠d:=λe=>by subst e;simp at hid
      have RX:d∈l:=by
       rcases List.mem_cons.1 qI with h|h
       ·exact absurd h.symm hZ
       ·exact h
      rw[any_beq.2 RX] at h2
      exact Pd hp _ _ _ _ h2.2
def agD(P:Program)(ops:Array Oper)(an:Go.X.An)(e:Env)(H:Heap)(K:Env->Heap->Prop):Prop:=
 match an with
 |.ord l=>bif Jt P ops (gM ops.toList []) l then wD P ops (gM ops.toList []) wT l e H [] K else False
 |.fl p d s=>bif tE P ops (gM ops.toList []) p d s then wD P ops (gM ops.toList []) (Vh P ops K d) (p++d::s) e H [] K else False
theorem Wc{Ds:List Deferred}(hp:j0 P=true)(hN:gm N ops=true){an:Go.X.An}{K:Env->Heap->Prop}{Q:Exit->Act->World->Prop}(a₀:Act)(w₀ w:World)(e:Env)
 (hQ:∀a' w' e',Mt N Ds a' e'->dV w₀ w'->fz (lh ops) a₀ a'->K e' w'.heap->Q .normal a' w')(h:agD P ops an e w.heap K)(hm:Mt N Ds a₀ e)(hs:dV w₀ w):
 wpAny P .any ops Q ops.size (Array.replicate ops.size false) a₀ w:=by
 unfold agD at h
 split at h
 ·obtain⟨hd,h⟩:=kJ h
  exact Q4 hp hN hd a₀ w₀ w e hQ (Pd hp _ _ _ _ h) hm hs
 ·rename_i p d s
  obtain⟨lu,h⟩:=kJ h
  have vQ:=apo hp _ _ _ _ h
  cases FR:ops[d]? with
  |none=>unfold tE at lu;rw[FR] at lu;cases lu
  |some od=>
  unfold tE at lu
  rw[FR] at lu
  simp only[Bool.and_eq_true,Bool.not_eq_true'] at lu
  obtain⟨⟨⟨⟨⟨⟨⟨⟨⟨k1,k2⟩,k3⟩,k4⟩,k5⟩,k6⟩,k7⟩,k8⟩,k9⟩,DS⟩:=lu
  have Ji:kindOf P od.op=.write:=by simpa using k1
  have To:od.guard=none:=by cases hg:od.guard with|none=>rfl|some g=>rw[hg] at k2;cases k2
  have X8:d∉p:=λhm=>by rw[any_beq.2 hm] at k7;cases k7
  have oV:∀l1 i l2,p++d::s=l1++i::l2->wS P ops (gM ops.toList []) (λi=>p.any (Nat.beq i)&&zq P ops i) l1 i l2:=λl1 i l2 he=>by
   have:=qd (done:=[]) k5 (by simp) l1 i l2 he
   simpa using this
  have Hf:=λp1 c p2(h:p=p1++c::p2) hw=>vZ k6 p1 c p2 h hw
  obtain⟨tr,post,D,e1,e2,e3,CH,e4,e5,e6,e7⟩:=HW (λ_=>True) (p++d::s) e [] (by simp) vQ
  have Oz:d∈post:=by
   have hm:d∈p++d::s:=by simp
   rw[e1,List.mem_append] at hm
   rcases hm with h|h
   ·exfalso
    obtain⟨x,hx,uv⟩:=List.mem_map.1 h
    obtain⟨xd,xv,xe⟩:=x
    simp only at uv
    subst uv
    exact(e4 _ hx).2 od FR (by unfold eB;rw[To]) Ji
   ·exact h
  refine Ff hp hN oV (JK k4) FR Ji To (λl1 l2 hl c hc=>?_) (λl1 c l2 hl hc j hj=>?_) (λtr c rest oc hl Cq MY ahv=>?_) a₀ w₀ e hQ ops.size _ a₀ w ⟨tr,post,D,ahh e1 e2 e4 (λx hx=>e5 x hx trivial) e6 e7 hm hs,Oz⟩ (xJ _)
  ·have hf:=(oV _ _ _ hl).fresh
   obtain⟨rfl,rfl⟩:=jD hl X8 hf
   exact any_beq.1 (gQ hc).1
  ·obtain⟨h1,h2⟩:=gQ hc
   obtain⟨p1,p2,rfl⟩:=List.append_of_mem (any_beq.1 h1)
   have F8:p1++c::(p2++d::s)=l1++c::l2:=by rw[<-hl];simp
   have f1:=(oV p1 c (p2++d::s) (by simp)).fresh
   have f2:=(oV _ _ _ hl).fresh
   obtain⟨rfl,rfl⟩:=jD F8 f1 f2
   have:=(Hf p1 c p2 rfl h2).2.1
   rw[List.mem_append,List.mem_cons] at hj
   rcases hj with h|h|h
   ·exact .inr (this j (by simp[h]))
   ·exact .inl h
   ·exact .inr (this j (by simp[h]))
  ·obtain⟨r1,r2,rfl⟩:=List.append_of_mem Cq
   have F8:p++d::s=(tr++c::r1)++d::r2:=by rw[hl];simp
   have f2:=(oV _ _ _ F8).fresh
   obtain⟨rfl,rfl⟩:=jD F8 X8 f2
   have uG:zq P ops c=true:=by unfold zq;rw[MY];simp only;rw[ahv];rfl
   have hc:=(Hf tr c r1 rfl uG).1
   have GA:(c::(r1++d::s)).erase d=c::(r1++s):=by
    have FO:d∉c::r1:=λhm=>f2 (by rw[List.mem_append];exact .inr hm)
    rw[show c::(r1++d::s)=(c::r1)++d::s from rfl,List.erase_append_right _ FO,List.erase_cons_head]
    rfl
   rw[GA]
   intro l1 i l2 he
   have:=qd (done:=[]) hc (by simp) l1 i l2 (by simpa using he)
   simpa using this
end
structure gR where
 ord:Nat->Go.X.An
 loop:Nat->Option Live
 join:Nat->Option Live
 cut:Nat->Bool:=λ_=>false
def afa(A:gR)(y:Code):Option Live:=match u4 y with|some i=>A.join i|none=>none
def wC(P:Program)(N:Nat)(A:gR):Code->Env->Ks->Heap->Prop
 |.skip,e,k,H=>k.n e H
 |.region id ops draw,e,k,H=>bif A.cut id then False else
  bif gm N ops then(match draw with
   |false=>K1 P ops ops.toList 0 e H k.n
   |true=>agD P ops (A.ord id) e H k.n) else False
 |.seq x y,e,k,H=>(match afa A y with
  |none=>wC P N A x e {k with n:=λe' H'=>wC P N A y e' k H'} H
  |some l=>eW (S:=LT l) (λJ=>wC P N A x e {k with n:=λe' H'=>ym l e' λs=>J s H'} H)
   (λs H'=>wC P N A y (pV l s (EX e (mE x))) k H'))
 |.cond c x y,e,k,H=>o1 e c λv=>(match v with
  |.bool b=>gn b (wC P N A x e k H) (wC P N A y e k H)
  |_=>False)
 |.block id x,e,k,H=>wC P N A x e {k with x:=λi e' H'=>bif Nat.beq i id then k.n e' H' else k.x i e' H'} H
 |.loop x,e,k,H=>(match u4 x with
  |none=>False
  |some i=>(match A.loop i with
   |none=>False
   |some l=>ym l e λs₀=>lD (S:=LT l) (λL s H'=>wC P N A x (pV l s (EX e (mE x))) {k with n:=λe' mK=>ym l e' λs'=>L s' mK} H') s₀ H))
 |.exit id,e,k,H=>k.x id e H
 |.ret,e,k,H=>k.r e H
 |_,_,_,_=>False
def wF(P:Program)(A:gR)(fn:Func)(args:List Value)(R:Value->Heap->Prop)(H:Heap):Prop:=
 match fn.body with
 |none=>False
 |some c=>bif Nat.ble args.length fn.ntmps then wC P fn.ntmps A c (vf fn.ntmps args) {n:=WM P fn R,x:=λ_ _ _=>False,r:=WM P fn R} H else False
theorem UQ{c:Cs}{v:Value}{K:Ii c->Prop}(h:xC c v K):∃x,v=aip c x/\K x:=by
 cases c with
 |int k=>
  cases v<;>simp only[xC] at h<;>try exact h.elim
  split at h
  ·rename_i k' n hk
   subst hk
   exact⟨_,rfl,h⟩
  ·exact h.elim
 |bool=>cases v<;>simp only[xC] at h<;>first|exact h.elim|exact⟨_,rfl,h⟩
 |str=>cases v<;>simp only[xC] at h<;>first|exact h.elim|exact⟨_,rfl,h⟩
 |ptr=>cases v<;>simp only[xC] at h<;>first|exact h.elim|exact⟨_,rfl,h⟩
 |slice=>cases v<;>simp only[xC] at h<;>first|exact h.elim|exact⟨_,rfl,h⟩
 |raw=>exact⟨v,rfl,h⟩
theorem Pn:∀{l:List Cs}{vs:List Value}{K:ZC l->Prop},CR l vs K->∃x,vs=YC l x/\K x
 |[],[],K,h=>⟨(),rfl,h⟩
 |[],_::_,K,h=>by simp only[CR] at h
 |c::cs,[],K,h=>by simp only[CR] at h
 |c::cs,v::vs,K,h=>by
  obtain⟨x,hx,h1⟩:=UQ (show xC c v _ from h)
  obtain⟨xs,yo,h2⟩:=Pn h1
  exact⟨(x,xs),by rw[hx,yo];rfl,h2⟩
theorem fS{s:Sh}{v:Value}{K:HZ s->Prop}(h:xS s v K):∃x,v=YB s x/\K x:=by
 cases s with
 |one c=>exact UQ (show xC c v K from h)
 |agg l=>
  cases v<;>simp only[xS] at h
  obtain⟨x,hx,h1⟩:=Pn h
  exact⟨x,by unfold YB;simp only;rw[<-hx],h1⟩
theorem zk:∀{l:Live}{e:Env}{K:LT l->Prop},ym l e K->∃s,K s/\∀(b:Env) t v,pV l s b t=some v->b t=some v\/e t=some v
 |[],e,K,h=>⟨(),h,λ_ _ _ h=>.inl h⟩
 |(t,sh)::r,e,K,h=>by
  unfold ym at h
  split at h
  ·rename_i v hv
   obtain⟨x,PY,h1⟩:=fS h
   obtain⟨xs,h2,hx⟩:=zk h1
   refine⟨(x,xs),h2,λb u w hw=>?_⟩
   have hw:put (pV r xs b) (some t) (YB sh x) u=some w:=hw
   rw[kS] at hw
   by_cases hu:u=t
   ·subst hu
    rw[if_pos rfl] at hw
    exact .inr (by rw[hv,<-hw,PY])
   ·rw[if_neg hu] at hw
    exact hx b u w hw
  ·exact h.elim
theorem OC{e:Env}{ds:List Nat}{t:Nat}{v:Value}(h:EX e ds t=some v):e t=some v/\t∉ds:=by
 unfold EX at h
 cases hb:ds.any (Nat.beq t) with
 |true=>rw[hb] at h;cases h
 |false=>
  rw[hb] at h
  refine⟨h,λhm=>?_⟩
  have:ds.any (Nat.beq t)=true:=List.any_eq_true.2 ⟨t,hm,by simp⟩
  rw[hb] at this
  cases this
theorem Mt.meet{N:Nat}{Ds:List Deferred}{a a':Act}{e e':Env}{ds:List Nat}{l:Live}{s:LT l}(h:Mt N Ds a e)(h':Mt N Ds a' e')(hk:fz ds a a')
 (hx:∀(b:Env) t v,pV l s b t=some v->b t=some v\/e' t=some v):Mt N Ds a' (pV l s (EX e ds)):=by
 refine⟨h'.size,h'.defers,λt v hv=>?_⟩
 rcases hx _ t v hv with hv|hv
 ·obtain⟨hv,ht⟩:=OC hv
  rw[hk t ht]
  exact h.val t v hv
 ·exact h'.val t v hv
section
variable {N:Nat} {A:gR}
theorem yG{Ds:List Deferred}(hp:j0 P=true):∀(c:Code)(e:Env)(k:Ks)(a:Act)(w:World)(Q:Exit->Act->World->Prop),wC P N A c e k w.heap->Mt N Ds a e->
 (∀a' w' e',Mt N Ds a' e'->dV w w'->fz (mE c) a a'->(k.n e' w'.heap->Q .normal a' w')/\(∀i,k.x i e' w'.heap->Q (.exit i) a' w')/\(k.r e' w'.heap->Q .ret a' w'))->c.wp P Q a w:=by
 intro c
 induction c with
 |skip=>
  intro e k a w Q h hm hQ
  exact wp_skip ((hQ a w e hm (dV.refl w) (fz.refl _ _)).1 h)
 |region id ops draw=>
  intro e k a w Q h hm hQ
  unfold wC at h
  cases adN:A.cut id with
  |true=>rw[adN] at h;exact h.elim
  |false=>
  rw[adN] at h
  obtain⟨hN,h⟩:=kJ h
  have Zb:∀(w0:World),w0.heap=w.heap->dV w w0->∀a' w' e',Mt N Ds a' e'->dV w0 w'->fz (lh ops) a a'->k.n e' w'.heap->Q .normal a' w':=λw0 _ hs a' w' e' fj fU hk hn=>(hQ a' w' e' fj (hs.trans fU) hk).1 hn
  cases draw with
  |false=>
   simp only at h
   exact wp_region_list (qh hp hN a w (Zb w rfl (dV.refl w)) ops.toList 0 e a w (λo ho=>by simpa using ho) (ae2 hp _ _ _ _ h) hm (dV.refl w) (fz.refl _ _))
  |true=>
   simp only at h
   have ahx:P.follows .mixedOrders=true:=by unfold j0 at hp;rw[Bool.and_eq_true] at hp;exact hp.1
   exact wp_region_any ahx (Wc hp hN a w.drew w.drew e (Zb w.drew rfl (dV.drew w)) h hm (dV.refl _))
 |seq x y ZL XG=>
  intro e k a w Q h hm hQ
  unfold wC at h
  have BK:∀{a':Act},fz (mE x) a a'->fz (mE (.seq x y)) a a':=λhk=>hk.mono (by intro t ht;unfold mE;rw[List.mem_append];exact .inl ht)
  have V7:∀{a' OX:Act},fz (mE y) a' OX->fz (mE (.seq x y)) a' OX:=λhk=>hk.mono (by intro t ht;unfold mE;rw[List.mem_append];exact .inr ht)
  refine wp_seq ?_
  split at h
  ·refine ZL e _ a w _ h hm λa' w' e' fj fU mI=>⟨λhn=>?_,λi hx=>?_,λhr=>?_⟩
   ·exact XG e' k a' w' Q hn fj λOX T3 Uo Be Bc Mb=>hQ OX T3 Uo Be (fU.trans Bc) ((BK mI).trans (V7 Mb))
   ·exact(hQ a' w' e' fj fU (BK mI)).2.1 i hx
   ·exact(hQ a' w' e' fj fU (BK mI)).2.2 hr
  ·rename_i l hl
   obtain⟨J,hJ,iE⟩:=h
   refine ZL e _ a w _ hJ hm λa' w' e' fj fU mI=>⟨λhn=>?_,λi hx=>?_,λhr=>?_⟩
   ·obtain⟨s,hs,hx⟩:=zk hn
    refine XG _ k a' w' Q (iE s _ hs) (hm.meet fj mI hx) λOX T3 Uo Be Bc Mb=>hQ OX T3 Uo Be (fU.trans Bc) ((BK mI).trans (V7 Mb))
   ·exact(hQ a' w' e' fj fU (BK mI)).2.1 i hx
   ·exact(hQ a' w' e' fj fU (BK mI)).2.2 hr
 |cond c x y ZL XG=>
  intro e k a w Q h hm hQ
  unfold wC at h
  obtain⟨v,hv,h⟩:=ma h
  split at h
  ·rename_i b
   have hc:=hm.eval hv
   rcases wa h with⟨rfl,h⟩|⟨rfl,h⟩
   ·exact wp_cond_true hc (ZL e k a w Q h hm λa' w' e' fj fU mI=>hQ a' w' e' fj fU (mI.mono (by intro t ht;unfold mE;rw[List.mem_append];exact .inl ht)))
   ·exact wp_cond_false hc (XG e k a w Q h hm λa' w' e' fj fU mI=>hQ a' w' e' fj fU (mI.mono (by intro t ht;unfold mE;rw[List.mem_append];exact .inr ht)))
  ·exact h.elim
 |block id x ih=>
  intro e k a w Q h hm hQ
  unfold wC at h
  refine wp_block (ih e _ a w _ h hm λa' w' e' fj fU mI=>⟨λhn=>?_,λi hx=>?_,λhr=>?_⟩)
  ·exact(hQ a' w' e' fj fU mI).1 hn
  ·show if i=id then Q .normal a' w' else Q (.exit i) a' w'
   by_cases hi:i=id
   ·subst hi
    rw[if_pos rfl]
    have hx:k.n e' w'.heap:=by simpa using hx
    exact(hQ a' w' e' fj fU mI).1 hx
   ·rw[if_neg hi]
    have hb:Nat.beq i id=false:=by
     cases hb:Nat.beq i id
     ·rfl
     ·exact absurd (Nat.eq_of_beq_eq_true hb) hi
    simp only[hb,cond_false] at hx
    exact(hQ a' w' e' fj fU mI).2.1 i hx
  ·exact(hQ a' w' e' fj fU mI).2.2 hr
 |loop x ih=>
  intro e k a w Q h hm hQ
  unfold wC at h
  split at h
  ·exact h.elim
  ·split at h
   ·exact h.elim
   ·rename_i l _
    obtain⟨s₀,⟨I,⟨n₀,h0⟩,On⟩,PX⟩:=zk h
    refine wp_loop_ghost (λn a' w'=>∃s,I n s w'.heap/\Mt N Ds a' (pV l s (EX e (mE x)))/\dV w w'/\fz (mE x) a a') n₀ ⟨s₀,h0,hm.meet hm (fz.refl _ _) PX,dV.refl w,fz.refl _ _⟩ ?_
    rintro n a' w' ⟨s,hI,fj,fU,mI⟩
    have hb:=On n s w'.heap hI
    refine ih _ _ a' w' _ hb fj λOX T3 Uo Be Bc Mb=>⟨λhn=>?_,λi hx=>?_,λhr=>?_⟩
    ·obtain⟨s',⟨m,lC,Sg⟩,uC⟩:=zk hn
     exact⟨m,lC,s',Sg,hm.meet Be (mI.trans Mb) uC,fU.trans Bc,mI.trans Mb⟩
    ·exact(hQ OX T3 Uo Be (fU.trans Bc) (mI.trans Mb)).2.1 i hx
    ·exact(hQ OX T3 Uo Be (fU.trans Bc) (mI.trans Mb)).2.2 hr
 |rangeFunc=>intro e k a w Q h;exact h.elim
 |exit id=>
  intro e k a w Q h hm hQ
  exact wp_exit ((hQ a w e hm (dV.refl w) (fz.refl _ _)).2.1 id h)
 |scope=>intro e k a w Q h;exact h.elim
 |label=>intro e k a w Q h;exact h.elim
 |goto=>intro e k a w Q h;exact h.elim
 |ret=>
  intro e k a w Q h hm hQ
  exact wp_ret ((hQ a w e hm (dV.refl w) (fz.refl _ _)).2.2 h)
 |refuse=>intro e k a w Q h;exact h.elim
theorem adn{t:TypeId}{a:Addr}{H:Heap}{K:Value->Prop}(h:PM P t a H K):∃v,K v/\∀w,w.heap=H->(loadVar t a).run P w=.ok v w:=by
 unfold PM at h
 have zP:∀d,P.underlying t=some d->eT P t=true->
  (bif Nat.beq (jM P 8 t).length (ir P t)&&(P.info? t).isSome then I7 H a (jM P 8 t) 0 [] λvs=>K (.agg vs.toArray) else False)->
  ∃v,K v/\∀w,w.heap=H->(loadVar t a).run P w=.ok v w:=by
  intro d hu tD h
  cases hb:(Nat.beq (jM P 8 t).length (ir P t)&&(P.info? t).isSome) with
  |false=>rw[hb] at h;exact h.elim
  |true=>
   rw[hb] at h
   simp only[Bool.and_eq_true] at hb
   obtain⟨i,hi⟩:=Option.isSome_iff_exists.1 hb.2
   have pg:(jM P 8 t).length=i.size:=by have:=Nat.eq_of_beq_eq_true hb.1;simpa[ir,hi] using this
   obtain⟨vs,hl,hc,hk⟩:=EL (show I7 H a (jM P 8 t) 0 [] _ from h)
   refine⟨_,hk,λw hw=>?_⟩
   have ju:=run_loadCells_list (P:=P) w a vs (λj v hj=>cell_of hw (by simpa using hc j v hj))
   unfold loadVar
   rw[Sem.run_bind,wI hu,tD]
   simp only[Result.andThen,if_true]
   rw[Sem.run_bind,gL hi]
   simp only[Result.andThen]
   rw[Sem.run_bind,show i.size=vs.length by omega,ju]
   simp
 split at h
 ·exact h.elim
 ·rename_i fs hu;exact zP _ hu (by simp[eT,hu]) h
 ·rename_i n el hu;exact zP _ hu (by simp[eT,hu]) h
 ·rename_i d XZ D6 hu
  have tD:eT P t=false:=by
   unfold eT;rw[hu]
   cases d<;>first|rfl|exact absurd rfl (XZ _)|exact absurd rfl (D6 _ _)
  obtain⟨v,hc,hk⟩:=I8 h
  refine⟨v,hk,λw hw=>?_⟩
  unfold loadVar
  rw[Sem.run_bind,wI hu,tD]
  simp[cell_of hw hc]
theorem yV{e:Env}{H:Heap}{tmps:Array Value}(hm:∀t v,e t=some v->tmps[t]?=some v):∀{l:List ResultVar}{acc:List Value}{K:List Value->Prop},NU P H e l acc K->
 ∃vs,K (acc++vs)/\∀(g:ResultVar->Sem Value),(∀t,g (.tmp t)=pure (tmps.getD t undef))->(∀a t,g (.cell a t)=do loadVar t (<-asAddr (tmps.getD a undef)))->∀w,w.heap=H->(l.mapM g).run P w=.ok vs w
 |[],acc,K,h=>⟨[],by simpa[NU] using h,λg hg _ w _=>by simp⟩
 |.tmp t::r,acc,K,h=>by
  unfold NU at h
  split at h
  ·rename_i v hv
   obtain⟨vs,hk,hr⟩:=yV hm h
   refine⟨v::vs,by simpa using hk,λg hg QP w hw=>?_⟩
   rw[List.mapM_cons,Sem.run_bind,hg]
   have:tmps.getD t undef=v:=by rw[Array.getD_eq_getD_getElem?,hm t v hv];rfl
   simp only[this,Sem.run_pure,Result.andThen]
   rw[Sem.run_bind,hr g hg QP w hw]
   rfl
  ·exact h.elim
 |.cell a t::r,acc,K,h=>by
  unfold NU at h
  split at h
  ·rename_i ad hv
   obtain⟨v,h,hl⟩:=adn h
   obtain⟨vs,hk,hr⟩:=yV hm h
   refine⟨v::vs,by simpa using hk,λg hg QP w hw=>?_⟩
   rw[List.mapM_cons,Sem.run_bind,QP]
   have:tmps.getD a undef=.pointer (some ad):=by rw[Array.getD_eq_getD_getElem?,hm a _ hv];rfl
   rw[this,Sem.run_bind,show(asAddr (.pointer (some ad))).run P w=.ok ad w from rfl]
   simp only[Result.andThen]
   rw[hl w hw]
   dsimp only
   rw[Sem.run_bind,hr g hg QP w hw]
   rfl
  ·exact h.elim
theorem dp(hp:j0 P=true){f:FuncId}{fn:Func}(hf:P.funcs[f]?=some fn){args:List Value}{R:Value->Heap->Prop}{H:Heap}
 (h:wF P A fn args R H):Fn P f args.toArray H R:=by
 intro w hw
 subst hw
 unfold wF at h
 split at h
 ·exact h.elim
 ·rename_i c hb
  obtain⟨hlen,h⟩:=kJ h
  have hlen:args.length<=fn.ntmps:=Nat.le_of_ble_eq_true hlen
  refine calls_of_wp hf hb ?_
  have amD:∀a' w' e',Mt fn.ntmps [] a' e'->dV w w'->WM P fn R e' w'.heap->bodyPost P fn (λe w'=>∃v,e=.returned v/\dV w w'/\R v w'.heap) .ret a' w':=by
   intro a' w' e' fj fU hr
   unfold WM at hr
   obtain⟨vs,hk,ju⟩:=yV (P:=P) fj.val hr
   have xx:(results fn a'.tmps).run P w'=.ok (if h:vs.toArray.size=1 then vs.toArray[0] else .tuple vs.toArray) w':=by
    unfold results
    rw[Sem.run_bind,Array.mapM_eq_mapM_toList,Sem.run_map]
    rw[ju _ (λt=>rfl) (λa t=>rfl) w' rfl]
    rfl
   refine⟨fj.defers,_,xx,_,rfl,fU,?_⟩
   simp only[List.nil_append] at hk
   split at hk
   ·exact hk
   ·rename_i hZ
    rw[dif_neg]
    ·exact hk
    ·intro hs
     simp only[List.size_toArray] at hs
     obtain⟨v,rfl⟩:=List.length_eq_one_iff.1 hs
     exact hZ v rfl
  refine yG (Ds:=[]) hp c _ _ _ w _ h ?_ ?_
  ·refine⟨?_,rfl,λt v hv=>?_⟩
   ·simp;omega
   ·unfold vf at hv
    rw[Array.getElem?_append]
    cases h1:Nat.blt t args.length with
    |true=>
     rw[h1] at hv
     have:t<args.length:=by rw[Nat.blt_eq] at h1;exact h1
     rw[if_pos (by simpa using this)]
     simpa using hv
    |false=>
     rw[h1] at hv
     have iG:¬t<args.length:=by rw[<-Nat.blt_eq,h1];simp
     rw[if_neg (by simpa using iG)]
     cases h2:Nat.blt t fn.ntmps with
     |true=>
      rw[h2] at hv
      have GJ:t<fn.ntmps:=by rw[Nat.blt_eq] at h2;exact h2
      simp only[cond_false,cond_true,Option.some.injEq] at hv
      subst hv
      rw[Array.getElem?_replicate,if_pos (by simp;omega)]
     |false=>rw[h2] at hv;cases hv
  ·intro a' w' e' fj fU _
   refine⟨λhn=>?_,λi hx=>hx.elim,λhr=>amD a' w' e' fj fU hr⟩
   exact amD a' w' e' fj fU hn
end
def RT:List Sh->Type
 |[]=>Unit
 |s::r=>HZ s×RT r
def aio:(l:List Sh)->RT l->List Value
 |[],_=>[]
 |s::r,x=>YB s x.1::aio r x.2
def xR:(l:List Sh)->List Value->(RT l->Prop)->Prop
 |[],[],K=>K ()
 |s::r,v::vs,K=>xS s v λx=>xR r vs λxs=>K (x,xs)
 |_,_,_=>False
def xT(l:List Sh)(v:Value)(K:RT l->Prop):Prop:=match v with|.tuple vs=>xR l vs.toList K|_=>False
theorem UE:∀{l:List Sh}{vs:List Value}{K:RT l->Prop},xR l vs K->∃x,vs=aio l x/\K x
 |[],[],K,h=>⟨(),rfl,h⟩
 |[],_::_,K,h=>by simp only[xR] at h
 |c::cs,[],K,h=>by simp only[xR] at h
 |c::cs,v::vs,K,h=>by
  obtain⟨x,hx,h1⟩:=fS (show xS c v _ from h)
  obtain⟨xs,yo,h2⟩:=UE h1
  exact⟨(x,xs),by rw[hx,yo];rfl,h2⟩
theorem dB{l:List Sh}{v:Value}{K:RT l->Prop}(h:xT l v K):∃x,v=.tuple (aio l x).toArray/\K x:=by
 cases v<;>simp only[xT] at h
 obtain⟨x,hx,h1⟩:=UE h
 exact⟨x,by rw[<-hx],h1⟩
end Go.Ex
