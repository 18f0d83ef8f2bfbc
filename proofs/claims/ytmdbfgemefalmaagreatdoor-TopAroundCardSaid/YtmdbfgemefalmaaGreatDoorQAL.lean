/- Part AL of the proof that the law TopAround answers true at every input, under no condition. -/
import Derived.Test.YtmdbfgemefalmaaGreatDoorQAK
import Derived.Deep.LoopGhost
set_option linter.unusedVariables false
set_option maxHeartbeats 2000000
set_option maxRecDepth 100000
namespace Go.X
open Go.Ex
theorem Sg{P:eQ}{s d t:eK}{i:TypeInfo}{w:fe}{b o:Nat}{cs:Array dB}{W:eK}{h:Nat×Nat}(u:P.underlying s=some (.pointer t))(I:P.underlying d=some .unsafePointer)
 (hi:P.info? t=some i)(Y:i.size≠0)(dL:w.heap[b]?=some (.cells cs W h))(Z:o<cs.size):(convert s d (.pointer (some ⟨b,o,none⟩))).run P w=.ok (.pointer (some ⟨b,o,none⟩)) w:=by
 unfold convert
 rw[Sem.run_bind,fJ u]
 simp only[Result.andThen]
 rw[Sem.run_bind,fJ I]
 simp only[Result.andThen]
 unfold Conv.unsafePointer
 rw[Sem.run_bind,fJ u]
 simp only[Result.andThen]
 rw[Sem.run_bind,fJ I]
 simp only[Result.andThen]
 rw[Sem.run_bind,uB dL]
 simp only[Result.andThen]
 have O:(cellsIn b).run P w=.ok (some cs.size) w:=by
  unfold cellsIn
  rw[Sem.run_bind,run_shape]
  simp only[Result.andThen,World.shape?,dL]
  rfl
 rw[Sem.run_bind,O]
 simp only[Result.andThen]
 rw[Sem.run_bind,jE hi]
 simp only[Result.andThen]
 rw[if_neg]
 .rfl
 .simp only[Y,Bool.or_eq_true,decide_eq_true_eq,false_or]
  simp;omega
theorem Si{P:eQ}{s d u:eK}{i:TypeInfo}{w:fe}{b o:Nat}{cs:Array dB}{h:eK}{I:Nat×Nat}(O:P.underlying s=some .unsafePointer)(W:P.underlying d=some (.pointer u))
 (hi:P.info? u=some i)(dL:w.heap[b]?=some (.cells cs h I))(Y:liesAt P P.depth h (cs.size/P.cellsOf h) o u 1=true):(convert s d (.pointer (some ⟨b,o,none⟩))).run P w=.ok (.pointer (some ⟨b,o,none⟩)) w:=by
 unfold convert
 rw[Sem.run_bind,fJ O]
 simp only[Result.andThen]
 rw[Sem.run_bind,fJ W]
 simp only[Result.andThen]
 unfold Conv.unsafePointer
 rw[Sem.run_bind,fJ O]
 simp only[Result.andThen]
 rw[Sem.run_bind,fJ W]
 simp only[Result.andThen]
 rw[Sem.run_bind,uB dL]
 simp only[Result.andThen]
 have Z:(variablesAt ⟨b,o,none⟩ u 1).run P w=.ok true w:=by
  unfold variablesAt
  rw[Sem.run_bind,run_program]
  simp only[Result.andThen]
  rw[Sem.run_bind,run_shape]
  simp only[Result.andThen,World.shape?,dL]
  rw[Y]
  rfl
 rw[Sem.run_bind,jE hi]
 simp only[Result.andThen]
 rw[Sem.run_bind,Z]
 simp
end Go.X
namespace Go.Ex
open Go.X (sK uU jr any_beq kS xm qj wy mL je qB po)
variable {P:eQ}
def WQ(r:Option (Nat×dB))(A:dB->Prop)(B:Prop):Prop:=match r with|some x=>A x.2|none=>B
def lookW(P:eQ)(mt:eK)(m k:dB)(H:dw)(K:dB->Bool->Prop):Prop:=
 match P.underlying mt with
 |some (.map kt et)=>(match m with
  |.map (some b)=>∃es clock r,H[b]?=some (.map es clock)/\(∀h w,(Instr.checkKey h 10000 kt k).run P w=.ok () w)/\(∀w,(Instr.findKey kt k es.toList).run P w=.ok r w)/\
   WQ r (λv=>GP P [et] v λu=>K u true) (qM P et λz=>K z false)
  |_=>False)
 |_=>False
def PF(P:eQ)(mt:eK)(m k v:dB)(H:dw)(K:dw->Prop):Prop:=
 match P.underlying mt with
 |some (.map kt _)=>(match m with
  |.map (some b)=>∃es clock,H[b]?=some (.map es clock)/\(∀h w,(Instr.checkKey h 10000 kt k).run P w=.ok () w)/\(∀w,(Instr.findKey kt k es.toList).run P w=.ok none w)/\
   K (H.setIfInBounds b (.map (es.push {key:=k,val:=v,born:=clock}) (clock+1)))
  |_=>False)
 |_=>False
def Rv(p:dB)(H:dw)(K:dB->dw->Prop):Prop:=
 match p with
 |.pointer (some ⟨b,0,_⟩)=>∃s h,H[b]?=some (.stringIter s h)/\eL (decide (h<s.size))
  (K (.tuple #[.bool true,.int .i64 (h:Int),.int .i32 (((Utf8.decode s h).1:Nat):Int)]) (H.setIfInBounds b (.stringIter s (h+(Utf8.decode s h).2)))) (K (.tuple #[.bool false]) H)
 |_=>False
def zM(h:Func):Prop:=h.body.isNone=true/\Extern.findNext h=none/\Extern.find h=some Extern.AbiNoEscape.same
def Yo(P:eQ)(t:eK)(p:dC)(H:dw):Prop:=∃i b o cs u h,P.info? t=some i/\i.size≠0/\p=some ⟨b,o,none⟩/\H[b]?=some (.cells cs u h)/\o<cs.size
def YA(P:eQ)(u:eK)(p:dC)(H:dw):Prop:=∃i b o cs h w,P.info? u=some i/\p=some ⟨b,o,none⟩/\H[b]?=some (.cells cs h w)/\liesAt P P.depth h (cs.size/P.cellsOf h) o u 1=true
def KA(H:dw)(g h n:Nat):dw:=H.modify g λ
 |.cells c elem (lo,hi)=>.cells c elem (if lo==hi then(h,h+n) else(min lo h,max hi (h+n)))
 |o=>o
def Yn(P:eQ)(pt:eK)(p:dC)(n:Int)(H:dw)(K:dE->dw->Prop):Prop:=
 (n=0/\K ⟨#[]⟩ H)\/∃u g h cs w l,P.underlying pt=some (.pointer u)/\P.cellsOf u=1/\p=some ⟨g,h,none⟩/\H[g]?=some (.cells cs u w)/\l≠[]/\n=(l.length:Nat)/\l.length<=9223372036854775807/\h+l.length<=cs.size/\
  (∀(j:Nat)(x:UInt8),l[j]?=some x->dL H ((⟨g,h,none⟩:dA).add j)=some (.int .u8 x.toNat))/\K ⟨l.toArray⟩ (KA H g h l.length)
def FH(P:eQ)(f:jt)(args:Array dB)(H:dw)(K:dB->dw->Prop):Prop:=
 match P.funcs[f]? with
 |some h=>bif h.body.isSome then Fn P f args H λv H'=>GP P h.resultTypes.toList v λu=>K u H' else zM h/\(match args.toList with|[x]=>K x H|_=>False)
 |none=>False
def Sn(v:dB)(A B:Prop):Prop:=match v with|.bool b=>eL b A B|_=>False
def Bg(P:eQ)(g:dB)(vs:List dB)(H:dw)(K:dB->dw->Prop):Prop:=
 match g with
 |.func t l1 l2=>(match t with|.func f=>FH P f (l1.toList++vs++l2.toList).toArray H K|_=>False)
 |_=>False
def Mi(P:eQ)(t:eK)(v:dB)(K:dB->Prop):Prop:=
 match P.underlying t with
 |some (.array n el)=>(match v with
  |.pointer (some a)=>bif(P.info? el).isSome then K (.slice (some a) n n) else False
  |_=>False)
 |_=>ri P t v none none K
def slice3(P:eQ)(t:eK)(v h u:dB)(K:dB->Prop):Prop:=
 match P.underlying t,v,h,u with
 |some (.slice el),.slice p _ c,.int _ a,.int _ b=>bif(P.info? el).isSome then 0<=b/\b<=(c:Int)/\0<=a/\a<=(b.toNat:Int)/\K (.slice p a.toNat b.toNat) else False
 |_,_,_,_=>False
def Ik(P:eQ)(o:Op)(e:Env)(K:dB->Prop):Prop:=
 match o with
 |.slice t x none none none=>o1 e x λv=>Mi P t v K
 |.slice t x none (some hi) (some mx)=>o1 e x λv=>o1 e hi λa=>o1 e mx λb=>slice3 P t v a b K
 |.makeFunc (.func f) first cap=>oL e first.toList [] λh=>oL e cap.toList [] λu=>K (.func (.func f) h.toArray u.toArray)
 |.call ⟨.builtin .unsafeSliceData,args,_⟩=>oL e args.toList [] λvs=>(match vs with|[.slice p _ c]=>(p.isSome=true->c≠0)/\K (.pointer p)|_=>False)
 |.binOp .neq t x (.tmp k) yt=>o1 e x λa=>o1 e (.tmp k) λb=>(match a,b with
  |.pointer p,.pointer q=>bif Go.X.Pf P t then(p=q/\∃b o,q=some ⟨b,o,none⟩)/\K (.bool false) else False
  |_,_=>gV P (.binOp .neq t x (.tmp k) yt) e K)
 |o=>gV P o e K
def Eu(P:eQ)(o:Op)(e:Env)(H:dw)(K:dB->Prop):Prop:=
 match o with
 |.lookup mt x k ok=>o1 e x λm=>o1 e k λh=>lookW P mt m h H λv b=>(match ok with|true=>K (.tuple #[v,.bool b])|false=>K v)
 |.convert s d x=>(match P.underlying s,P.underlying d with
  |some (.pointer t),some .unsafePointer=>o1 e x λv=>(match v with|.pointer p=>Yo P t p H/\K (.pointer p)|_=>False)
  |some .unsafePointer,some (.pointer u)=>o1 e x λv=>(match v with|.pointer p=>YA P u p H/\K (.pointer p)|_=>False)
  |_,_=>uQ P (.convert s d x) e H K)
 |o=>uQ P o e H K
def CX(P:eQ)(o:Op)(e:Env)(H:dw)(K:dB->dw->Prop):Prop:=
 match o with
 |.call {callee:=.value fo,args:=args,..}=>o1 e fo λg=>oL e args.toList [] λvs=>Bg P g vs H K
 |.call {callee:=.builtin .unsafeString,args:=args,argTypes:=ts}=>oL e args.toList [] λvs=>(match ts.toList,vs with|[pt,_],[.pointer p,.int .i64 n]=>Yn P pt p n H λs H'=>K (.string s) H'|_,_=>False)
 |.makeMap _ none=>K (.map (some H.size)) (H.push (.map #[] 0))
 |.mapUpdate mt x k v=>o1 e x λm=>o1 e k λh=>o1 e v λu=>PF P mt m h u H λH'=>K undef H'
 |.insert mt x k v=>o1 e x λm=>o1 e k λh=>o1 e v λu=>PF P mt m h u H λH'=>K undef H'
 |.range t x=>o1 e x λv=>(match P.underlying t,v with
  |some .string,.string s=>K (newAt H) (H.push (.stringIter s 0))
  |_,_=>False)
 |.next x true=>o1 e x λp=>Rv p H K
 |o=>kW P o e H K
theorem Kt{mt:eK}{m k:dB}{H:dw}{K:dB->Bool->Prop}(h:lookW P mt m k H K)(ok:Bool):∃v b,K v b/\∀w:fe,w.heap=H->(Instr.lookup mt m k ok).run P w=.ok (if ok then .tuple #[v,.bool b] else v) w:=by
 unfold lookW at h
 split at h
 .rename_i kt O W
  split at h
  .rename_i b
   obtain⟨es,clock,r,h1,Y,Z,h4⟩:=h
   have u:∀w:fe,w.heap=H->(getObj b).run P w=.ok (.map es clock) w:=λw I=>Go.MapKept.run_getObj_map (by rw[I];exact h1)
   cases r with
   |some x=>
    refine⟨x.2,true,ER (show GP P [O] x.2 _ from h4),λw I=>?_⟩
    unfold Instr.lookup
    simp only[Sem.run_bind,fJ W,Result.andThen,u w I,Sem.run_pure,Y,Z]
   |none=>
    obtain⟨i,z,hi,hz,hk,ab⟩:=kM (show qM P O _ from h4)
    refine⟨z,false,hk,λw I=>?_⟩
    unfold Instr.lookup
    simp only[Sem.run_bind,fJ W,Result.andThen,u w I,Sem.run_pure,Y,Z,ab]
  .exact h.elim
 .exact h.elim
theorem CV{op:Op}{e:Env}{H:dw}{K:dB->Prop}(h:Eu P op e H K):oQ P op e H K:=by
 unfold Eu at h
 split at h
 .rename_i mt x k ok
  obtain⟨m,hm,h⟩:=fT h
  obtain⟨kv,ak,h⟩:=fT h
  obtain⟨v,b,Z,hr⟩:=Kt h ok
  refine .inr λo ho=>⟨if ok then .tuple #[v,.bool b] else v,by cases ok<;>exact Z,λτ Y w hw=>?_⟩
  obtain⟨ad,I,ab,ae,W,guard⟩:=o
  simp only at ho
  subst ho
  simp only[execOp,Y x (by simp[Op.operands]) _ hm,Y k (by simp[Op.operands]) _ ak]
  rw[Sem.run_bind,hr w hw]
  rfl
 .rename_i s d x
  split at h
  .rename_i t hs hd
   obtain⟨v,hv,h⟩:=fT h
   split at h
   .rename_i p
    obtain⟨⟨i,b,o,cs,el,am,hi,hz,rfl,hb,ho⟩,Z⟩:=h
    exact Go.X.mL (Go.X.pj (λw hw=>Go.X.Sg hs hd hi hz (by rw[hw];exact hb) ho) λI O τ Y=>by
     obtain⟨ad,I,ab,ae,W,guard⟩:=I
     simp only at O
     subst O
     simp only[execOp,Y x (by simp[Op.operands]) _ hv]) Z
   .exact h.elim
  .rename_i u hs hd
   obtain⟨v,hv,h⟩:=fT h
   split at h
   .rename_i p
    obtain⟨⟨i,b,o,cs,el,am,hi,rfl,hb,hl⟩,Z⟩:=h
    exact Go.X.mL (Go.X.pj (λw hw=>Go.X.Si hs hd hi (by rw[hw];exact hb) hl) λI O τ Y=>by
     obtain⟨ad,I,ab,ae,W,guard⟩:=I
     simp only at O
     subst O
     simp only[execOp,Y x (by simp[Op.operands]) _ hv]) Z
   .exact h.elim
  .exact .inl h
 .exact .inl h
theorem ES{mt:eK}{m k v:dB}{H:dw}{K:dw->Prop}(h:PF P mt m k v H K):∀w:fe,w.heap=H->∃w',(Instr.mapUpdate mt m k v).run P w=.ok () w'/\ik w w'/\K w'.heap:=by
 unfold PF at h
 split at h
 .rename_i kt et O
  split at h
  .rename_i b
   obtain⟨es,clock,W,Y,Z,h4⟩:=h
   intro w u
   have I:w.heap[b]?=some (.map es clock):=by rw[u];exact W
   refine⟨{w with heap:=w.heap.setIfInBounds b (.map (es.push {key:=k,val:=v,born:=clock}) (clock+1))},?_,⟨rfl,rfl,rfl⟩,by rw[u];exact h4⟩
   unfold Instr.mapUpdate
   rw[Sem.run_bind,fJ O]
   simp only[Result.andThen]
   rw[Sem.run_bind,Go.MapKept.run_getObj_map I]
   simp only[Result.andThen]
   rw[Sem.run_bind,Y]
   simp only[Result.andThen]
   rw[Sem.run_bind,Z]
   simp only[Result.andThen]
   exact Go.MapKept.run_setObj_map _ I
  .exact h.elim
 .exact h.elim
theorem sN{u:Op}{e:Env}{K w:dB->Prop}(h:kG P u e K)(I:∀v,K v->w v):kG P u e w:=.inr λo O=>by
 subst O
 obtain⟨v,W,Y⟩:=kb h
 exact⟨v,I _ W,Y⟩
theorem Gv{op:Op}{e:Env}{K:dB->Prop}(h:Ik P op e K):kG P op e K:=by
 unfold Ik at h
 split at h
 .rename_i t x
  obtain⟨v,hv,h⟩:=fT h
  unfold Mi at h
  split at h
  .rename_i n el hu
   split at h
   .rename_i a
    obtain⟨hb,h⟩:=nr h
    obtain⟨i,hi⟩:=Option.isSome_iff_exists.1 hb
    refine .inr λo I=>⟨_,h,λτ u w=>?_⟩
    obtain⟨ad,Y,O,ae,W,guard⟩:=o
    simp only at I
    subst I
    simp only[execOp,u x (by simp[Op.operands]) _ hv,Option.map_none]
    unfold Instr.sliceAt Instr.sliceBounds
    simp[fJ hu,Instr.sureAddr,jE hi,Addr.add]
   .exact h.elim
  .refine .inl ?_
   simp only[gV,o1,hv,oO]
   exact h
 .rename_i t x hi mx
  obtain⟨v,hv,h⟩:=fT h
  obtain⟨a,ao,h⟩:=fT h
  obtain⟨b,ap,h⟩:=fT h
  unfold slice3 at h
  split at h
  .rename_i el p n c k1 a k2 b hu _ _
   obtain⟨hb,h⟩:=nr h
   obtain⟨i,aq⟩:=Option.isSome_iff_exists.1 hb
   obtain⟨h0,h1,h2,h3,h⟩:=h
   refine .inr λo I=>⟨_,h,λτ u w=>?_⟩
   obtain⟨ad,Y,O,ae,W,guard⟩:=o
   simp only at I
   subst I
   simp only[execOp,u x (by simp[Op.operands]) _ hv,u hi (by simp[Op.operands]) _ ao,u mx (by simp[Op.operands]) _ ap,Option.map_none,Option.map_some]
   unfold Instr.sliceAt Instr.slice Instr.sliceBounds Instr.sliceBound
   have em:(if b<=0 then p else p.map λq:dA=>q.add 0)=p:=by cases p<;>simp[Addr.add]
   simp[fJ hu,asIntOf,h0,h1,h2,jE aq]
   rw[if_pos (by omega),em]
  .exact h.elim
 .rename_i f first cap
  obtain⟨l1,h1,h⟩:=sA h
  obtain⟨l2,h2,h⟩:=sA h
  refine .inr λo I=>⟨_,h,λτ u w=>?_⟩
  obtain⟨ad,Y,O,ae,W,guard⟩:=o
  simp only at I
  subst I
  have e1:=Go.X.j9 h1.symm (τ:=τ) (λy hy=>u y (by simp[Op.operands];exact .inl (by simpa using hy)))
  have e2:=Go.X.j9 h2.symm (τ:=τ) (λy hy=>u y (by simp[Op.operands];exact .inr (by simpa using hy)))
  simp only[execOp]
  rw[show first.map τ=l1.toArray by rw[<-e1];cases first;simp,show cap.map τ=l2.toArray by rw[<-e2];cases cap;simp]
  rfl
 .rename_i args ts
  obtain⟨vs,ar,h⟩:=sA h
  simp only[List.nil_append] at h
  split at h
  .rename_i p l c
   obtain⟨hc,hk⟩:=h
   refine .inr λY ai=>⟨_,hk,λτ u w=>?_⟩
   obtain⟨ad,Y,O,ae,W,guard⟩:=Y
   simp only at ai
   subst ai
   have ea:=Go.X.j9 ar.symm (τ:=τ) (λy hy=>u y (by simp[Op.operands,Call.operands];simpa using hy))
   have au:args.map τ=#[.slice p l c]:=by
    have:(args.map τ).toList=[.slice p l c]:=by rw[<-ea];simp
    rw[<-this]
   simp only[execOp,resolve,au,pure_bind,invoke,builtin]
   cases p with
   |none=>rfl
   |some a=>
    rw[Sem.run_bind]
    have:(Builtin.unsafeSliceData_ ts O #[.slice (some a) l c]).run P w=.ok (.pointer (some a)) w:=by
     change Sem.run P (if _≠0 then _ else _) w=_
     rw[if_pos (hc rfl)]
     rfl
    rw[this]
    rfl
  .exact h.elim
 .rename_i t x k yt
  obtain⟨a,u,h⟩:=fT h
  obtain⟨b,hb,h⟩:=fT h
  split at h
  .rename_i p q
   obtain⟨Z,h⟩:=nr h
   obtain⟨⟨rfl,ag,o,rfl⟩,hk⟩:=h
   unfold Go.X.Pf at Z
   split at Z
   .rename_i el hu
    split at Z
    .rename_i i hi
     have hz:i.size≠0:=λe=>by rw[e] at Z;cases Z
     have:=Go.X.wi.xb (P:=P) (neg:=true) (oy:=.tmp k) (t:=t) (x:=.pointer (some ⟨ag,o,none⟩)) (y:=.pointer (some ⟨ag,o,none⟩)) (λop ox w=>pU (by simp) (by simp) w)
      (λop I=>by rcases I with rfl|rfl<;>rfl) (λw=>Go.X.tV hu hi hz ag o o w)
     rw[decide_eq_true rfl] at this
     exact sN (Go.X.uR rfl u hb this) λv hv=>hv▸hk
    .cases Z
   .cases Z
  .exact .inl h
 .exact .inl h
theorem CU(hp:fF P=true){op:Op}{e:Env}{H:dw}{K:dB->dw->Prop}(h:CX P op e H K):og P op e H K:=by
 unfold CX at h
 split at h
 .rename_i fo args ts
  obtain⟨g,hg,h⟩:=fT h
  obtain⟨vs,ai,h⟩:=sA h
  cases g with
  |func t l1 l2=>
   cases t with
   |func f=>
    replace h:FH P f (l1.toList++vs++l2.toList).toArray H K:=h
    unfold FH at h
    split at h
    .rename_i fn hf
     have aC:Go.X.CW P f (l1.toList++vs++l2.toList) H K:=by
      cases hb:fn.body.isSome with
      |true=>
       rw[hb] at h
       have h2:Fn P f (l1.toList++vs++l2.toList).toArray H (λv H'=>GP P fn.resultTypes.toList v λu=>K u H'):=h
       exact .inl ⟨fn,hf,hb,h2.mono λv H' hr=>ER hr⟩
      |false=>
       rw[hb] at h
       obtain⟨⟨hn,aD,aE⟩,h⟩:=(show zM fn/\_ from h)
       split at h
       .rename_i x hx
        have aF:l1.toList++vs++l2.toList=[x]:=by simpa using hx
        rw[aF]
        exact Go.X.Be (k:=.same) hp hf hn aD aE λw Z=>⟨x,w,rfl,ik.refl w,by rw[Z];exact h⟩
       .exact h.elim
     refine Go.X.NP hp (f:=f) (xs:=l1.toList++vs++l2.toList) aC λo O τ W w=>?_
     obtain⟨ab,ac,aa,I,Y,guard⟩:=o
     simp only at O
     subst O
     have ea:=Go.X.j9 ai.symm (τ:=τ) (λy hy=>W y (by simp[Op.operands,Call.operands];simp at hy;exact .inr hy))
     have am:args.map τ=vs.toArray:=by rw[<-ea];cases args;simp
     have hf:=W fo (by simp[Op.operands,Call.operands]) _ hg
     simp only[execOp,resolve,am,hf,Deferred.ofValue,pure_bind,invoke]
     congr 2
     simp
    .exact h.elim
   |_=>exact h.elim
  |_=>exact h.elim
 .rename_i args ts
  replace h:=sA h
  obtain⟨vs,ai,h⟩:=h
  simp only[List.nil_append] at h
  split at h
  .rename_i pt it p n aG
   have aH:ts=#[pt,it]:=by rw[<-aG]
   refine qj (s:=λo=>Builtin.unsafeString_ ts o.type #[.pointer p,.int .i64 n]) (λo w Z=>?_) λo O τ W=>?_
   .subst aH
    rcases h with⟨rfl,hk⟩|⟨el,g,an,cs,aJ,l,hp,hc,rfl,hb,aw,rfl,aK,aL,dL,hk⟩
    .exact⟨_,w,Go.X.tU w pt it o.type p,ik.refl w,by rw[Z];exact hk⟩
    .have ag:w.heap[g]?=some (.cells cs el aJ):=by rw[Z];exact hb
     refine⟨_,_,Go.X.EK w pt it o.type el hp hc g an cs.size (by simp[World.shape?,ag]) l aw aL aK (λj x hj=>by rw[mZ,Z];exact dL j x hj),Go.X.vJ _ _ _,?_⟩
     have:(w.freeze ⟨g,an,none⟩ l.length).heap=KA H g an l.length:=by
      unfold World.freeze KA
      rw[if_neg (by simpa using aw)]
      simp only[Z]
      congr 1
     rw[this]
     exact hk
   .obtain⟨ab,ac,aa,I,Y,guard⟩:=o
    simp only at O
    subst O
    have ea:=Go.X.j9 ai.symm (τ:=τ) (λy hy=>W y (by simp[Op.operands,Call.operands];simpa using hy))
    have am:args.map τ=#[.pointer p,.int .i64 n]:=by
     have:(args.map τ).toList=[.pointer p,.int .i64 n]:=by rw[<-ea];simp
     rw[<-this]
    simp only[execOp,resolve,am,pure_bind,invoke,builtin]
  .exact h.elim
 .rename_i t
  refine qj (s:=λ_=>Instr.makeMap t none) (λ_ w Z=>⟨.map (some w.heap.size),w.alloc (.map #[] 0),rfl,ik.alloc _ _,by rw[heap_alloc,Z];exact h⟩) λo O τ W=>?_
  obtain⟨ab,ac,aa,I,Y,guard⟩:=o
  simp only at O
  subst O
  rfl
 .rename_i mt x k v
  obtain⟨m,hm,h⟩:=fT h
  obtain⟨kv,ao,h⟩:=fT h
  obtain⟨vv,ap,h⟩:=fT h
  refine wy (ES h) λo O τ W=>?_
  obtain⟨ab,ac,aa,I,Y,guard⟩:=o
  simp only at O
  subst O
  simp only[execOp,W x (by simp[Op.operands]) _ hm,W k (by simp[Op.operands]) _ ao,W v (by simp[Op.operands]) _ ap]
 .rename_i mt x k v
  obtain⟨m,hm,h⟩:=fT h
  obtain⟨kv,ao,h⟩:=fT h
  obtain⟨vv,ap,h⟩:=fT h
  refine wy (ES h) λo O τ W=>?_
  obtain⟨ab,ac,aa,I,Y,guard⟩:=o
  simp only at O
  subst O
  simp only[execOp,W x (by simp[Op.operands]) _ hm,W k (by simp[Op.operands]) _ ao,W v (by simp[Op.operands]) _ ap]
 .rename_i t x
  obtain⟨v,hv,h⟩:=fT h
  split at h
  .rename_i s hu
   refine qj (s:=λ_=>Instr.range t (.string s)) (λ_ w Z=>⟨newAt w.heap,w.alloc (.stringIter s 0),?_,ik.alloc _ _,by rw[heap_alloc,Z];exact h⟩) λo O τ W=>?_
   .unfold Instr.range
    rw[Sem.run_bind,fJ hu]
    rfl
   .obtain⟨ab,ac,aa,I,Y,guard⟩:=o
    simp only at O
    subst O
    simp only[execOp,W x (by simp[Op.operands]) _ hv]
  .exact h.elim
 .rename_i x
  obtain⟨p,hp,h⟩:=fT h
  unfold Rv at h
  split at h
  .rename_i b sp
   obtain⟨s,I,hb,h⟩:=h
   refine qj (s:=λo'=>Instr.next (.pointer (some ⟨b,0,sp⟩)) true o'.type) (λo' w Z=>?_) λo O τ W=>?_
   .have ag:w.heap[b]?=some (.stringIter s I):=by rw[Z];exact hb
    have aq:(getObj b).run P w=.ok (.stringIter s I) w:=by simp[getObj,Sem.run,ag]
    rcases uY h with⟨ad,hk⟩|⟨ad,hk⟩
    .rw[decide_eq_true_eq] at ad
     have aM:(setObj b (.stringIter s (I+(Utf8.decode s I).2))).run P w=.ok () {w with heap:=w.heap.setIfInBounds b (.stringIter s (I+(Utf8.decode s I).2))}:=by simp[setObj,Sem.run,ag]
     refine⟨_,{w with heap:=w.heap.setIfInBounds b (.stringIter s (I+(Utf8.decode s I).2))},?_,⟨rfl,rfl,rfl⟩,by rw[Z];exact hk⟩
     unfold Instr.next
     simp only
     rw[Sem.run_bind,aq]
     simp only[Result.andThen,if_pos ad]
     rw[Sem.run_bind,aM]
     rfl
    .rw[decide_eq_false_iff_not] at ad
     refine⟨_,w,?_,ik.refl w,by rw[Z];exact hk⟩
     unfold Instr.next
     simp only
     rw[Sem.run_bind,aq]
     simp only[Result.andThen,if_neg ad]
     rfl
   .obtain⟨ab,ac,aa,I,Y,guard⟩:=o
    simp only at O
    subst O
    simp only[execOp,W x (by simp[Op.operands]) _ hp]
  .exact h.elim
 .exact .inl h
section
variable {N:Nat} {ops:Array Oper} {B:List Nat}
theorem vR{u:Op}{e:Env}{H:dw}{K w:dB->Prop}(h:oQ P u e H K)(I:∀v,K v->w v):oQ P u e H w:=.inr λo O=>by
 subst O
 obtain⟨v,W,Y⟩:=ka h
 exact⟨v,I _ W,Y⟩
theorem kT{g:Bool}{v:dB}{K u:dB->Prop}(w:∀v,K v->u v)(h:mr g v K):mr g v u:=Go.X.gD (w _ (fZ h))
def Gw(P:eQ)(ops:Array Oper):List Oper->Nat->Env->dw->(Env->dw->Prop)->Prop
 |[],_,e,H,K=>K e H
 |o::rest,i,e,H,K=>
  match gJ ops o e with
  |none=>False
  |some false=>Gw P ops rest (i+1) (put e o.dst undef) H K
  |some true=>match kindOf P o.op with
   |.pure=>Ik P o.op e λv=>mr (ni ops i) v λv=>Gw P ops rest (i+1) (put e o.dst v) H K
   |.read=>Eu P o.op e H λv=>mr (ni ops i) v λv=>Gw P ops rest (i+1) (put e o.dst v) H K
   |.write=>CX P o.op e H λv H'=>mr (ni ops i) v λv=>Gw P ops rest (i+1) (put e o.dst v) H' K
theorem UJ(O:fF P=true){K:Env->dw->Prop}:∀(l:List Oper)(i:Nat)(e:Env)(H:dw),Gw P ops l i e H K->oz P ops l i e H K:=by
 intro l
 induction l with
 |nil=>intro i e H h;exact h
 |cons o l w=>
  intro i e H h
  unfold Gw at h
  unfold oz
  cases W:gJ ops o e with
  |none=>rw[W] at h;exact h
  |some b=>
   rw[W] at h
   cases b with
   |false=>exact w _ _ _ h
   |true=>
    simp only at h⊢
    cases I:kindOf P o.op with
    |pure=>rw[I] at h;exact sN (Gv h) λv u=>kT (λv u=>w _ _ _ u) u
    |read=>rw[I] at h;exact vR (CV h) λv u=>kT (λv u=>w _ _ _ u) u
    |write=>rw[I] at h;exact je O (CU O h) λv H' u=>kT (λv u=>w _ _ _ u) u
def zV(P:eQ)(ops:Array Oper)(m:Nat)(H:dw):List (Nat×Env×dB)->Prop->Prop
 |[],A=>A
 |(r,e,v)::D,A=>match m.testBit r with
  |true=>zV P ops m H D A
  |false=>(match ops[r]? with|some o=>Eu P o.op e H (λu=>u=v)|none=>False)/\zV P ops m H D A
theorem zn{m:Nat}{H:dw}{A O:Prop}(w:A->O):∀{D:List (Nat×Env×dB)},zV P ops m H D A->lY P ops m H D O
 |[],h=>w h
 |(r,e,v)::D,h=>by
  unfold zV at h
  unfold lY
  cases W:m.testBit r with
  |true=>rw[W] at h;exact zn w h
  |false=>
   rw[W] at h
   refine⟨?_,zn w h.2⟩
   have u:=h.1
   split
   .rename_i o I;rw[I] at u;exact CV u
   .rename_i I;rw[I] at u;exact u
def N2(a:Option (Env->dw->List (Nat×Env×dB)->Prop))(e:Env)(H:dw)(D:List (Nat×Env×dB))(X:Prop):Prop:=match a with|none=>X|some f=>X/\f e H D
theorem FJ{a:Option (Env->dw->List (Nat×Env×dB)->Prop)}{e:Env}{H:dw}{D:List (Nat×Env×dB)}{X:Prop}(h:N2 a e H D X):X:=by cases a with|none=>exact h|some f=>exact h.1
def wD(P:eQ)(ops:Array Oper)(B:List Nat)(A:List Nat->Option (Env->dw->List (Nat×Env×dB)->Prop)):List Nat->Env->dw->List (Nat×Env×dB)->(Env->dw->Prop)->Prop
 |[],e,H,_,K=>K e H
 |i::rest,e,H,D,K=>
  match ops[i]? with
  |none=>False
  |some o=>match gJ ops o e with
   |none=>False
   |some false=>wD P ops B A rest (put e o.dst undef) H D K
   |some true=>match kindOf P o.op with
    |.pure=>Ik P o.op e λv=>mr (ni ops i) v λv=>wD P ops B A rest (put e o.dst v) H D K
    |.read=>Eu P o.op e H λv=>mr (ni ops i) v λv=>wD P ops B A rest (put e o.dst v) H (D++[(i,e,v)]) K
    |.write=>N2 (A (i::rest)) e H D (CX P o.op e H λv H'=>zV P ops (B.getD i 0) H' D (mr (ni ops i) v λv=>wD P ops B A rest (put e o.dst v) H' D K))
def wT:List Nat->Option (Env->dw->List (Nat×Env×dB)->Prop):=λ_=>none
theorem Ud(O:fF P=true){A:List Nat->Option (Env->dw->List (Nat×Env×dB)->Prop)}{K:Env->dw->Prop}:∀(l:List Nat)(e:Env)(H:dw)(D:List (Nat×Env×dB)),wD P ops B A l e H D K->qd P ops B (λ_ _ _ _=>True) l e H D K:=by
 intro l
 induction l with
 |nil=>intro e H D h;exact h
 |cons i l w=>
  intro e H D h
  unfold wD at h
  unfold qd
  cases W:ops[i]? with
  |none=>rw[W] at h;exact h
  |some o=>
  rw[W] at h
  simp only at h⊢
  cases Y:gJ ops o e with
  |none=>rw[Y] at h;exact h
  |some b=>
   rw[Y] at h
   cases b with
   |false=>exact w _ _ _ h
   |true=>
    simp only at h⊢
    cases I:kindOf P o.op with
    |pure=>rw[I] at h;exact sN (Gv h) λv u=>kT (λv u=>w _ _ _ u) u
    |read=>rw[I] at h;exact vR (CV h) λv u=>kT (λv u=>w _ _ _ u) u
    |write=>rw[I] at h;exact⟨je O (CU O (FJ (e:=e) (H:=H) (D:=D) (show N2 _ e H D _ from h))) λv H' u=>zn (λu=>kT (λv u=>w _ _ _ u) u) u,trivial⟩
def Ym(P:eQ)(ops:Array Oper)(K:Env->dw->Prop)(d:Nat)(l:List Nat):Option (Env->dw->List (Nat×Env×dB)->Prop):=
 match l with
 |[]=>none
 |c::r=>bif Nat.beq c d then none else bif r.any (Nat.beq d) then some λe H D=>wD P ops (iO ops.toList []) wT (d::(c::r).erase d) e H D K else none
theorem Xc(w:fF P=true){K:Env->dw->Prop}{d:Nat}:∀(l:List Nat)(e:Env)(H:dw)(D:List (Nat×Env×dB)),wD P ops (iO ops.toList []) (Ym P ops K d) l e H D K->qd P ops (iO ops.toList []) (AF P ops K d) l e H D K:=by
 intro l
 induction l with
 |nil=>intro e H D h;exact h
 |cons i l I=>
  intro e H D h
  have O:=Ud w (i::l) e H D h
  unfold wD at h
  unfold qd
  cases ho:ops[i]? with
  |none=>rw[ho] at h;exact h
  |some o=>
  rw[ho] at h
  simp only at h⊢
  cases hw:gJ ops o e with
  |none=>rw[hw] at h;exact h
  |some b=>
   rw[hw] at h
   cases b with
   |false=>exact I _ _ _ h
   |true=>
    simp only at h⊢
    cases W:kindOf P o.op with
    |pure=>rw[W] at h;exact sN (Gv h) λv u=>kT (λv u=>I _ _ _ u) u
    |read=>rw[W] at h;exact vR (CV h) λv u=>kT (λv u=>I _ _ _ u) u
    |write=>
     rw[W] at h
     refine⟨je w (CU w (FJ (e:=e) (H:=H) (D:=D) (show N2 _ e H D _ from h))) λv H' u=>zn (λu=>kT (λv u=>I _ _ _ u) u) u,λY=>?_⟩
     have Z:N2 (bif Nat.beq i d then none else bif l.any (Nat.beq d) then some λe H D=>wD P ops (iO ops.toList []) wT (d::(i::l).erase d) e H D K else none) e H D _:=h
     cases hid:Nat.beq i d with
     |true=>
      obtain rfl:=Nat.eq_of_beq_eq_true hid
      rw[List.erase_cons_head]
      exact O
     |false=>
      rw[hid] at Z
      have ac:i≠d:=λe=>by subst e;simp at hid
      have ad:d∈l:=by
       rcases List.mem_cons.1 Y with h|h
       .exact absurd h.symm ac
       .exact h
      rw[any_beq.2 ad] at Z
      exact Ud w _ _ _ _ Z.2
section
variable {P:eQ} {N:Nat} {Ds:List Deferred} {ops:Array Oper} {Q:Exit->Act->fe->Prop} {K:Env->dw->Prop}
theorem KG(hp:fF P=true)(hN:ju N ops=true){l m:List Nat}
 (a₀:Act)(w₀ w:fe)(e₀:Env)(hQ:∀a' w' e',Mt N Ds a' e'->ik w₀ w'->iN (lZ ops) a₀ a'->K e' w'.heap->Q .normal a' w')
 (h:Jd P ops (iO ops.toList []) l m e₀ w.heap K)(hm:Mt N Ds a₀ e₀)(hs:ik w₀ w):
 wpAny P .any ops Q ops.size (Array.replicate ops.size false) a₀ w:=by
 unfold Jd at h
 split at h
 rename_i p x y ao
 obtain⟨h1,h2⟩:=yI _ _ _ _ _ ao
 cases u:Iq P ops (iO ops.toList []) l m p x y<;>rw[u] at h<;>simp only[cond_true,cond_false] at h
 unfold Iq at u
 split at u
 .rename_i c r d s
  simp only[Bool.and_eq_true] at u
  obtain⟨⟨⟨⟨⟨⟨⟨k1,k2⟩,k3⟩,k4⟩,k5⟩,k6⟩,k7⟩,k8⟩:=u
  subst h1 h2
  have ag:∀I i O,p++c::r=I++i::O->qY P ops (iO ops.toList []) (Nat.beq c) I i O:=λI i O he=>by
   have:=nL (done:=[]) k3 (by simp) I i O he
   simpa using this
  have ai:∀I i O,p++d::s=I++i::O->qY P ops (iO ops.toList []) (Nat.beq d) I i O:=λI i O he=>by
   have:=nL (done:=[]) k4 (by simp) I i O he
   simpa using this
  have bw:∀{i:Nat},uZ P ops i=true->∃o,ops[i]?=some o/\kindOf P o.op=.write/\o.guard=none:=λ{i} W=>by
   unfold uZ at W
   split at W
   .rename_i o ho
    rw[Bool.and_eq_true] at W
    exact⟨o,ho,by simpa using W.1,by simpa using W.2⟩
   .cases W
  obtain⟨oc,Z,aa,ab⟩:=bw k6
  obtain⟨od,ac,ad,ae⟩:=bw k7
  have Y:∀{o:Oper}(e:Env),o.guard=none->gJ ops o e=some true:=λe h=>by unfold gJ;rw[h]
  obtain⟨tr,e1,e2,e3,e4,e5⟩:=Wy p e₀ (λi hi=>List.all_eq_true.1 k5 i hi) h
  refine NJ (A:=λ_ _ _ _=>True) hp hN ag ai (xM k1) (xM k2) (λj hj=>?_) Z aa ab ac ad ae a₀ w₀ e₀ hQ ops.size _ a₀ w ⟨tr,e1.symm,?_,?_⟩ (sQ _)
  .have:=List.all_eq_true.1 k8 j hj
   simp only[Bool.or_eq_true] at this
   rcases this with(h|h)|h
   .exact .inl (Nat.eq_of_beq_eq_true h)
   .exact .inr (.inl h)
   .exact .inr (.inr h)
  .exact Ng (by rw[e1]) e2 e3 (by simp) e4 (.inr ⟨c,r,oc,rfl,Z,aa,Y _ ab⟩) hm hs
  .exact Ng (by rw[e1]) e2 e3 (by simp) e5 (.inr ⟨d,s,od,rfl,ac,ad,Y _ ae⟩) hm hs
 .cases u
end
def R1(P:eQ)(ops:Array Oper)(B l m:List Nat)(e:Env)(H:dw)(K:Env->dw->Prop):Prop:=
 match nV l m with
 |(p,x,y)=>bif Iq P ops B l m p x y then wD P ops B wT p e H [] (λh H'=>wD P ops B wT x h H' [] K/\wD P ops B wT y h H' [] K) else False
theorem UI{P:eQ}{ops:Array Oper}{B l m:List Nat}{e:Env}{H:dw}{K:Env->dw->Prop}(u:fF P=true)(h:R1 P ops B l m e H K):Jd P ops B l m e H K:=by
 unfold R1 at h
 unfold Jd
 generalize nV l m=s at h⊢
 obtain⟨p,x,y⟩:=s
 dsimp only at h⊢
 obtain⟨w,h⟩:=nr h
 rw[w]
 exact qB u (λW H'⟨I,O⟩=>⟨Ud u _ _ _ _ I,Ud u _ _ _ _ O⟩) _ (λ_ _ _ _ h=>h) _ _ _ _ (Ud u _ _ _ _ h)
def R2(P:eQ)(ops:Array Oper)(h:Go.X.An)(e:Env)(H:dw)(K:Env->dw->Prop):Prop:=
 match h with
 |.ord l=>bif Bc P ops (iO ops.toList []) l then wD P ops (iO ops.toList []) wT l e H [] K else R1 P ops (iO ops.toList []) (l.take ops.size) (l.drop ops.size) e H K
 |.fl p d s=>bif sK P ops (iO ops.toList []) p d s then wD P ops (iO ops.toList []) (Ym P ops K d) (p++d::s) e H [] K else False
theorem LV{Ds:List Deferred}(hp:fF P=true)(hN:ju N ops=true){an:Go.X.An}{K:Env->dw->Prop}{Q:Exit->Act->fe->Prop}(a₀:Act)(w₀ w:fe)(e:Env)
 (hQ:∀a' w' e',Mt N Ds a' e'->ik w₀ w'->iN (lZ ops) a₀ a'->K e' w'.heap->Q .normal a' w')(h:R2 P ops an e w.heap K)(I:Mt N Ds a₀ e)(hs:ik w₀ w):
 wpAny P .any ops Q ops.size (Array.replicate ops.size false) a₀ w:=by
 unfold R2 at h
 split at h
 .cases hd:Bc P ops (iO ops.toList []) _ with
  |true=>rw[hd] at h;exact Je hp hN hd a₀ w₀ w e hQ (Ud hp _ _ _ _ h) I hs
  |false=>rw[hd] at h;exact KG hp hN a₀ w₀ w e hQ (UI hp h) I hs
 .rename_i p d s
  obtain⟨u,h⟩:=nr h
  have aD:=Xc hp _ _ _ _ h
  cases ab:ops[d]? with
  |none=>unfold sK at u;rw[ab] at u;cases u
  |some od=>
  unfold sK at u
  rw[ab] at u
  simp only[Bool.and_eq_true,Bool.not_eq_true'] at u
  obtain⟨⟨⟨⟨⟨⟨⟨⟨⟨k1,k2⟩,k3⟩,k4⟩,k5⟩,k6⟩,k7⟩,k8⟩,k9⟩,a6⟩:=u
  have ao:kindOf P od.op=.write:=by simpa using k1
  have ap:od.guard=none:=by cases hg:od.guard with|none=>rfl|some g=>rw[hg] at k2;cases k2
  have aq:d∉p:=λI=>by rw[any_beq.2 I] at k7;cases k7
  have Y:∀O i W,p++d::s=O++i::W->qY P ops (iO ops.toList []) (λi=>p.any (Nat.beq i)&&xm P ops i) O i W:=λO i W he=>by
   have:=nL (done:=[]) k5 (by simp) O i W he
   simpa using this
  have ac:=λp1 c p2(h:p=p1++c::p2) hw=>uU k6 p1 c p2 h hw
  obtain⟨tr,ah,D,e1,e2,e3,a7,e4,e5,e6,e7⟩:=Wz (λ_=>True) (p++d::s) e [] (by simp) aD
  have ai:d∈ah:=by
   have I:d∈p++d::s:=by simp
   rw[e1,List.mem_append] at I
   rcases I with h|h
   .exfalso
    obtain⟨x,hx,ar⟩:=List.mem_map.1 h
    obtain⟨xd,xv,xe⟩:=x
    simp only at ar
    subst ar
    exact(e4 _ hx).2 od ab (by unfold gJ;rw[ap]) ao
   .exact h
  refine Bb hp hN Y (xM k4) ab ao ap (λO W Z c hc=>?_) (λO c W Z hc j hj=>?_) (λtr c aZ oc Z aJ aK aB=>?_) a₀ w₀ e hQ ops.size _ a₀ w ⟨tr,ah,D,Ng e1 e2 e4 (λx hx=>e5 x hx trivial) e6 e7 I hs,ai⟩ (sQ _)
  .have hf:=(Y _ _ _ Z).fresh
   obtain⟨rfl,rfl⟩:=kS Z aq hf
   exact any_beq.1 (jr hc).1
  .obtain⟨h1,h2⟩:=jr hc
   obtain⟨p1,p2,rfl⟩:=List.append_of_mem (any_beq.1 h1)
   have ad:p1++c::(p2++d::s)=O++c::W:=by rw[<-Z];simp
   have f1:=(Y p1 c (p2++d::s) (by simp)).fresh
   have f2:=(Y _ _ _ Z).fresh
   obtain⟨rfl,rfl⟩:=kS ad f1 f2
   have:=(ac p1 c p2 rfl h2).2.1
   rw[List.mem_append,List.mem_cons] at hj
   rcases hj with h|h|h
   .exact .inr (this j (by simp[h]))
   .exact .inl h
   .exact .inr (this j (by simp[h]))
  .obtain⟨r1,r2,rfl⟩:=List.append_of_mem aJ
   have ad:p++d::s=(tr++c::r1)++d::r2:=by rw[Z];simp
   have f2:=(Y _ _ _ ad).fresh
   obtain⟨rfl,rfl⟩:=kS ad aq f2
   have aL:xm P ops c=true:=by unfold xm;rw[aK];simp only;rw[aB];rfl
   have hc:=(ac tr c r1 rfl aL).1
   have aM:(c::(r1++d::s)).erase d=c::(r1++s):=by
    have aO:d∉c::r1:=λI=>f2 (by rw[List.mem_append];exact .inr I)
    rw[show c::(r1++d::s)=(c::r1)++d::s from rfl,List.erase_append_right _ aO,List.erase_cons_head]
    rfl
   rw[aM]
   intro O i W he
   have:=nL (done:=[]) hc (by simp) O i W (by simpa using he)
   simpa using this
end
structure HS where
 ord:Nat->Go.X.An
 loop:Nat->Option Live
 join:Nat->Option Live
 cut:Nat->Bool:=λ_=>false
def VB(A:HS)(y:Code):Option Live:=match ua y with|some i=>A.join i|none=>none
def wC(P:eQ)(N:Nat)(A:HS):Code->Env->Ks->dw->Prop
 |.skip,e,k,H=>k.n e H
 |.region id ops u,e,k,H=>bif A.cut id then False else
  bif ju N ops then(match u with
   |false=>Gw P ops ops.toList 0 e H k.n
   |true=>R2 P ops (A.ord id) e H k.n) else False
 |.seq x y,e,k,H=>(match VB A y with
  |none=>wC P N A x e {k with n:=λh H'=>wC P N A y h k H'} H
  |some l=>eA (S:=LT l) (λJ=>wC P N A x e {k with n:=λh H'=>Um l h λs=>J s H'} H)
   (λs H'=>wC P N A y (Rw l s (Cm e (oh x))) k H'))
 |.cond c x y,e,k,H=>o1 e c λv=>(match v with
  |.bool b=>eL b (wC P N A x e k H) (wC P N A y e k H)
  |_=>False)
 |.block id x,e,k,H=>wC P N A x e {k with x:=λi h H'=>bif Nat.beq i id then k.n h H' else k.x i h H'} H
 |.loop x,e,k,H=>(match ua x with
  |none=>False
  |some i=>(match A.loop i with
   |none=>False
   |some l=>Um l e λs₀=>fP (S:=LT l) (λL s H'=>wC P N A x (Rw l s (Cm e (oh x))) {k with n:=λh w=>Um l h λI=>L I w} H') s₀ H))
 |.exit id,e,k,H=>k.x id e H
 |.ret,e,k,H=>k.r e H
 |_,_,_,_=>False
def wF(P:eQ)(A:HS)(h:Func)(args:List dB)(R:dB->dw->Prop)(H:dw):Prop:=
 match h.body with
 |none=>False
 |some c=>bif Nat.ble args.length h.ntmps then wC P h.ntmps A c (vV h.ntmps args) {n:=Pv P h R,x:=λ_ _ _=>False,r:=Pv P h R} H else False
theorem LM{c:Cs}{v:dB}{K:WI c->Prop}(h:xC c v K):∃x,v=TD c x/\K x:=by
 cases c with
 |int k=>
  cases v<;>simp only[xC] at h<;>try exact h.elim
  split at h
  .rename_i w n u
   subst u
   exact⟨_,rfl,h⟩
  .exact h.elim
 |bool=>cases v<;>simp only[xC] at h<;>first|exact h.elim|exact⟨_,rfl,h⟩
 |str=>cases v<;>simp only[xC] at h<;>first|exact h.elim|exact⟨_,rfl,h⟩
 |ptr=>cases v<;>simp only[xC] at h<;>first|exact h.elim|exact⟨_,rfl,h⟩
 |slice=>cases v<;>simp only[xC] at h<;>first|exact h.elim|exact⟨_,rfl,h⟩
 |raw=>exact⟨v,rfl,h⟩
theorem Ie:∀{l:List Cs}{vs:List dB}{K:Ox l->Prop},UG l vs K->∃x,vs=NF l x/\K x
 |[],[],K,h=>⟨(),rfl,h⟩
 |[],_::_,K,h=>by simp only[UG] at h
 |c::cs,[],K,h=>by simp only[UG] at h
 |c::cs,v::vs,K,h=>by
  obtain⟨x,w,I⟩:=LM (show xC c v _ from h)
  obtain⟨xs,u,O⟩:=Ie I
  exact⟨(x,xs),by rw[w,u];rfl,O⟩
theorem nS{s:Sh}{v:dB}{K:Uu s->Prop}(h:xS s v K):∃x,v=KI s x/\K x:=by
 cases s with
 |one c=>exact LM (show xC c v K from h)
 |agg l=>
  cases v<;>simp only[xS] at h
  obtain⟨x,u,w⟩:=Ie h
  exact⟨x,by unfold KI;simp only;rw[<-u],w⟩
theorem zA:∀{l:Live}{e:Env}{K:LT l->Prop},Um l e K->∃s,K s/\∀(b:Env) t v,Rw l s b t=some v->b t=some v\/e t=some v
 |[],e,K,h=>⟨(),h,λ_ _ _ h=>.inl h⟩
 |(t,Y)::r,e,K,h=>by
  unfold Um at h
  split at h
  .rename_i v Z
   obtain⟨x,O,h1⟩:=nS h
   obtain⟨xs,h2,hx⟩:=zA h1
   refine⟨(x,xs),h2,λb u w I=>?_⟩
   have I:put (Rw r xs b) (some t) (KI Y x) u=some w:=I
   rw[mG] at I
   by_cases W:u=t
   .subst W
    rw[if_pos rfl] at I
    exact .inr (by rw[Z,<-I,O])
   .rw[if_neg W] at I
    exact hx b u w I
  .exact h.elim
theorem Hd{e:Env}{u:List Nat}{t:Nat}{v:dB}(h:Cm e u t=some v):e t=some v/\t∉u:=by
 unfold Cm at h
 cases w:u.any (Nat.beq t) with
 |true=>rw[w] at h;cases h
 |false=>
  rw[w] at h
  refine⟨h,λI=>?_⟩
  have:u.any (Nat.beq t)=true:=List.any_eq_true.2 ⟨t,I,by simp⟩
  rw[w] at this
  cases this
theorem Mt.meet{N:Nat}{Ds:List Deferred}{a w:Act}{e I:Env}{O:List Nat}{l:Live}{s:LT l}(h:Mt N Ds a e)(h':Mt N Ds w I)(W:iN O a w)
 (Y:∀(b:Env) t v,Rw l s b t=some v->b t=some v\/I t=some v):Mt N Ds w (Rw l s (Cm e O)):=by
 refine⟨h'.size,h'.defers,λt v u=>?_⟩
 rcases Y _ t v u with u|u
 .obtain⟨u,Z⟩:=Hd u
  rw[W t Z]
  exact h.val t v u
 .exact h'.val t v u
section
variable {N:Nat} {A:HS}
theorem LX{Ds:List Deferred}(hp:fF P=true):∀(c:Code)(e:Env)(k:Ks)(a:Act)(w:fe)(Q:Exit->Act->fe->Prop),wC P N A c e k w.heap->Mt N Ds a e->
 (∀u w' Z,Mt N Ds u Z->ik w w'->iN (oh c) a u->(k.n Z w'.heap->Q .normal u w')/\(∀i,k.x i Z w'.heap->Q (.exit i) u w')/\(k.r Z w'.heap->Q .ret u w'))->c.wp P Q a w:=by
 intro c
 induction c with
 |skip=>
  intro e k a w Q h hm hQ
  exact wp_skip ((hQ a w e hm (ik.refl w) (iN.refl _ _)).1 h)
 |region id ops aB=>
  intro e k a w Q h hm hQ
  unfold wC at h
  cases ar:A.cut id with
  |true=>rw[ar] at h;exact h.elim
  |false=>
  rw[ar] at h
  obtain⟨hN,h⟩:=nr h
  have az:∀(w0:fe),w0.heap=w.heap->ik w w0->∀u w' Z,Mt N Ds u Z->ik w0 w'->iN (lZ ops) a u->k.n Z w'.heap->Q .normal u w':=λw0 _ hs u w' Z Y O hk hn=>(hQ u w' Z Y (hs.trans O) hk).1 hn
  cases aB with
  |false=>
   simp only at h
   exact wp_region_list (qb hp hN a w (az w rfl (ik.refl w)) ops.toList 0 e a w (λo ho=>by simpa using ho) (UJ hp _ _ _ _ h) hm (ik.refl w) (iN.refl _ _))
  |true=>
   simp only at h
   have aD:P.follows .mixedOrders=true:=by unfold fF at hp;rw[Bool.and_eq_true] at hp;exact hp.1
   exact wp_region_any aD (LV hp hN a w.drew w.drew e (az w.drew rfl (ik.drew w)) h hm (ik.refl _))
 |seq x y ao ap=>
  intro e k a w Q h hm hQ
  unfold wC at h
  have ah:∀{u:Act},iN (oh x) a u->iN (oh (.seq x y)) a u:=λhk=>hk.mono (by intro t ht;unfold oh;rw[List.mem_append];exact .inl ht)
  have aA:∀{u af:Act},iN (oh y) u af->iN (oh (.seq x y)) u af:=λhk=>hk.mono (by intro t ht;unfold oh;rw[List.mem_append];exact .inr ht)
  refine wp_seq ?_
  split at h
  .refine ao e _ a w _ h hm λu w' Z Y O W=>⟨λhn=>?_,λi hx=>?_,λhr=>?_⟩
   .exact ap Z k u w' Q hn Y λaf ai aj ad ae ac=>hQ af ai aj ad (O.trans ae) ((ah W).trans (aA ac))
   .exact(hQ u w' Z Y O (ah W)).2.1 i hx
   .exact(hQ u w' Z Y O (ah W)).2.2 hr
  .rename_i l hl
   obtain⟨J,hJ,ay⟩:=h
   refine ao e _ a w _ hJ hm λu w' Z Y O W=>⟨λhn=>?_,λi hx=>?_,λhr=>?_⟩
   .obtain⟨s,hs,hx⟩:=zA hn
    refine ap _ k u w' Q (ay s _ hs) (hm.meet Y W hx) λaf ai aj ad ae ac=>hQ af ai aj ad (O.trans ae) ((ah W).trans (aA ac))
   .exact(hQ u w' Z Y O (ah W)).2.1 i hx
   .exact(hQ u w' Z Y O (ah W)).2.2 hr
 |cond c x y ao ap=>
  intro e k a w Q h hm hQ
  unfold wC at h
  obtain⟨v,hv,h⟩:=fT h
  split at h
  .rename_i b
   have hc:=hm.eval hv
   rcases uY h with⟨rfl,h⟩|⟨rfl,h⟩
   .exact wp_cond_true hc (ao e k a w Q h hm λu w' Z Y O W=>hQ u w' Z Y O (W.mono (by intro t ht;unfold oh;rw[List.mem_append];exact .inl ht)))
   .exact wp_cond_false hc (ap e k a w Q h hm λu w' Z Y O W=>hQ u w' Z Y O (W.mono (by intro t ht;unfold oh;rw[List.mem_append];exact .inr ht)))
  .exact h.elim
 |block id x ih=>
  intro e k a w Q h hm hQ
  unfold wC at h
  refine wp_block (ih e _ a w _ h hm λu w' Z Y O W=>⟨λhn=>?_,λi hx=>?_,λhr=>?_⟩)
  .exact(hQ u w' Z Y O W).1 hn
  .show if i=id then Q .normal u w' else Q (.exit i) u w'
   by_cases hi:i=id
   .subst hi
    rw[if_pos rfl]
    have hx:k.n Z w'.heap:=by simpa using hx
    exact(hQ u w' Z Y O W).1 hx
   .rw[if_neg hi]
    have hb:Nat.beq i id=false:=by
     cases hb:Nat.beq i id
     .rfl
     .exact absurd (Nat.eq_of_beq_eq_true hb) hi
    simp only[hb,cond_false] at hx
    exact(hQ u w' Z Y O W).2.1 i hx
  .exact(hQ u w' Z Y O W).2.2 hr
 |loop x ih=>
  intro e k a w Q h hm hQ
  unfold wC at h
  split at h
  .exact h.elim
  .split at h
   .exact h.elim
   .rename_i l _
    obtain⟨s₀,⟨I,⟨n₀,h0⟩,aw⟩,aH⟩:=zA h
    refine wp_loop_ghost (λn u w'=>∃s,I n s w'.heap/\Mt N Ds u (Rw l s (Cm e (oh x)))/\ik w w'/\iN (oh x) a u) n₀ ⟨s₀,h0,hm.meet hm (iN.refl _ _) aH,ik.refl w,iN.refl _ _⟩ ?_
    rintro n u w' ⟨s,hI,Y,O,W⟩
    have hb:=aw n s w'.heap hI
    refine ih _ _ u w' _ hb Y λaf ai aj ad ae ac=>⟨λhn=>?_,λi hx=>?_,λhr=>?_⟩
    .obtain⟨s',⟨m,aI,aJ⟩,aK⟩:=zA hn
     exact⟨m,aI,s',aJ,hm.meet ad (W.trans ac) aK,O.trans ae,W.trans ac⟩
    .exact(hQ af ai aj ad (O.trans ae) (W.trans ac)).2.1 i hx
    .exact(hQ af ai aj ad (O.trans ae) (W.trans ac)).2.2 hr
 |rangeFunc=>intro e k a w Q h;exact h.elim
 |exit id=>
  intro e k a w Q h hm hQ
  exact wp_exit ((hQ a w e hm (ik.refl w) (iN.refl _ _)).2.1 id h)
 |scope=>intro e k a w Q h;exact h.elim
 |label=>intro e k a w Q h;exact h.elim
 |goto=>intro e k a w Q h;exact h.elim
 |ret=>
  intro e k a w Q h hm hQ
  exact wp_ret ((hQ a w e hm (ik.refl w) (iN.refl _ _)).2.2 h)
 |refuse=>intro e k a w Q h;exact h.elim
theorem PZ{t:eK}{a:dA}{H:dw}{K:dB->Prop}(h:XE P t a H K):∃v,K v/\∀w,w.heap=H->(loadVar t a).run P w=.ok v w:=by
 unfold XE at h
 have I:∀d,P.underlying t=some d->iJ P t=true->
  (bif Nat.beq (kY P 8 t).length (j6 P t)&&(P.info? t).isSome then DA H a (kY P 8 t) 0 [] λvs=>K (.agg vs.toArray) else False)->
  ∃v,K v/\∀w,w.heap=H->(loadVar t a).run P w=.ok v w:=by
  intro d u O h
  cases W:(Nat.beq (kY P 8 t).length (j6 P t)&&(P.info? t).isSome) with
  |false=>rw[W] at h;exact h.elim
  |true=>
   rw[W] at h
   simp only[Bool.and_eq_true] at W
   obtain⟨i,hi⟩:=Option.isSome_iff_exists.1 W.2
   have af:(kY P 8 t).length=i.size:=by have:=Nat.eq_of_beq_eq_true W.1;simpa[j6,hi] using this
   obtain⟨vs,hl,Y,Z⟩:=AU (show DA H a (kY P 8 t) 0 [] _ from h)
   refine⟨_,Z,λw hw=>?_⟩
   have ab:=run_loadCells_list (P:=P) w a vs (λj v hj=>cell_of hw (by simpa using Y j v hj))
   unfold loadVar
   rw[Sem.run_bind,vn u,O]
   simp only[Result.andThen,if_true]
   rw[Sem.run_bind,jE hi]
   simp only[Result.andThen]
   rw[Sem.run_bind,show i.size=vs.length by omega,ab]
   simp
 split at h
 .exact h.elim
 .rename_i fs u;exact I _ u (by simp[iJ,u]) h
 .rename_i n el u;exact I _ u (by simp[iJ,u]) h
 .rename_i d ac ad u
  have O:iJ P t=false:=by
   unfold iJ;rw[u]
   cases d<;>first|rfl|exact absurd rfl (ac _)|exact absurd rfl (ad _ _)
  obtain⟨v,Y,Z⟩:=DC h
  refine⟨v,Z,λw hw=>?_⟩
  unfold loadVar
  rw[Sem.run_bind,vn u,O]
  simp[cell_of hw Y]
theorem Av{e:Env}{H:dw}{u:Array dB}(Y:∀t v,e t=some v->u[t]?=some v):∀{l:List ResultVar}{I:List dB}{K:List dB->Prop},GQ P H e l I K->
 ∃vs,K (I++vs)/\∀(g:ResultVar->Sem dB),(∀t,g (.tmp t)=pure (u.getD t undef))->(∀a t,g (.cell a t)=do loadVar t (<-asAddr (u.getD a undef)))->∀w,w.heap=H->(l.mapM g).run P w=.ok vs w
 |[],I,K,h=>⟨[],by simpa[GQ] using h,λg W _ w _=>by simp⟩
 |.tmp t::r,I,K,h=>by
  unfold GQ at h
  split at h
  .rename_i v hv
   obtain⟨vs,hk,hr⟩:=Av Y h
   refine⟨v::vs,by simpa using hk,λg W O w Z=>?_⟩
   rw[List.mapM_cons,Sem.run_bind,W]
   have:u.getD t undef=v:=by rw[Array.getD_eq_getD_getElem?,Y t v hv];rfl
   simp only[this,Sem.run_pure,Result.andThen]
   rw[Sem.run_bind,hr g W O w Z]
   rfl
  .exact h.elim
 |.cell a t::r,I,K,h=>by
  unfold GQ at h
  split at h
  .rename_i ad hv
   obtain⟨v,h,hl⟩:=PZ h
   obtain⟨vs,hk,hr⟩:=Av Y h
   refine⟨v::vs,by simpa using hk,λg W O w Z=>?_⟩
   rw[List.mapM_cons,Sem.run_bind,O]
   have:u.getD a undef=.pointer (some ad):=by rw[Array.getD_eq_getD_getElem?,Y a _ hv];rfl
   rw[this,Sem.run_bind,show(asAddr (.pointer (some ad))).run P w=.ok ad w from rfl]
   simp only[Result.andThen]
   rw[hl w Z]
   dsimp only
   rw[Sem.run_bind,hr g W O w Z]
   rfl
  .exact h.elim
theorem LW(hp:fF P=true){f:jt}{u:Func}(hf:P.funcs[f]?=some u){args:List dB}{R:dB->dw->Prop}{H:dw}
 (h:wF P A u args R H):Fn P f args.toArray H R:=by
 intro w hw
 subst hw
 unfold wF at h
 split at h
 .exact h.elim
 .rename_i c hb
  obtain⟨aa,h⟩:=nr h
  have aa:args.length<=u.ntmps:=Nat.le_of_ble_eq_true aa
  refine calls_of_wp hf hb ?_
  have ab:∀W w' Z,Mt u.ntmps [] W Z->ik w w'->Pv P u R Z w'.heap->bodyPost P u (λe w'=>∃v,e=.returned v/\ik w w'/\R v w'.heap) .ret W w':=by
   intro W w' Z O Y hr
   unfold Pv at hr
   obtain⟨vs,hk,ag⟩:=Av (P:=P) O.val hr
   have ah:(results u W.tmps).run P w'=.ok (if h:vs.toArray.size=1 then vs.toArray[0] else .tuple vs.toArray) w':=by
    unfold results
    rw[Sem.run_bind,Array.mapM_eq_mapM_toList,Sem.run_map]
    rw[ag _ (λt=>rfl) (λa t=>rfl) w' rfl]
    rfl
   refine⟨O.defers,_,ah,_,rfl,Y,?_⟩
   simp only[List.nil_append] at hk
   split at hk
   .exact hk
   .rename_i ai
    rw[dif_neg]
    .exact hk
    .intro hs
     simp only[List.size_toArray] at hs
     obtain⟨v,rfl⟩:=List.length_eq_one_iff.1 hs
     exact ai v rfl
  refine LX (Ds:=[]) hp c _ _ _ w _ h ?_ ?_
  .refine⟨?_,rfl,λt v I=>?_⟩
   .simp;omega
   .unfold vV at I
    rw[Array.getElem?_append]
    cases h1:Nat.blt t args.length with
    |true=>
     rw[h1] at I
     have:t<args.length:=by rw[Nat.blt_eq] at h1;exact h1
     rw[if_pos (by simpa using this)]
     simpa using I
    |false=>
     rw[h1] at I
     have ak:¬t<args.length:=by rw[<-Nat.blt_eq,h1];simp
     rw[if_neg (by simpa using ak)]
     cases h2:Nat.blt t u.ntmps with
     |true=>
      rw[h2] at I
      have au:t<u.ntmps:=by rw[Nat.blt_eq] at h2;exact h2
      simp only[cond_false,cond_true,Option.some.injEq] at I
      subst I
      rw[Array.getElem?_replicate,if_pos (by simp;omega)]
     |false=>rw[h2] at I;cases I
  .intro W w' Z O Y _
   refine⟨λhn=>?_,λi hx=>hx.elim,λhr=>ab W w' Z O Y hr⟩
   exact ab W w' Z O Y hn
end
def RT:List Sh->Type
 |[]=>Unit
 |s::r=>Uu s×RT r
def TC:(l:List Sh)->RT l->List dB
 |[],_=>[]
 |s::r,x=>KI s x.1::TC r x.2
def xR:(l:List Sh)->List dB->(RT l->Prop)->Prop
 |[],[],K=>K ()
 |s::r,v::vs,K=>xS s v λx=>xR r vs λxs=>K (x,xs)
 |_,_,_=>False
def xT(l:List Sh)(v:dB)(K:RT l->Prop):Prop:=match v with|.tuple vs=>xR l vs.toList K|_=>False
theorem Ly:∀{l:List Sh}{vs:List dB}{K:RT l->Prop},xR l vs K->∃x,vs=TC l x/\K x
 |[],[],K,h=>⟨(),rfl,h⟩
 |[],_::_,K,h=>by simp only[xR] at h
 |c::cs,[],K,h=>by simp only[xR] at h
 |c::cs,v::vs,K,h=>by
  obtain⟨x,w,I⟩:=nS (show xS c v _ from h)
  obtain⟨xs,u,O⟩:=Ly I
  exact⟨(x,xs),by rw[w,u];rfl,O⟩
theorem gI{l:List Sh}{v:dB}{K:RT l->Prop}(h:xT l v K):∃x,v=.tuple (TC l x).toArray/\K x:=by
 cases v<;>simp only[xT] at h
 obtain⟨x,u,w⟩:=Ly h
 exact⟨x,by rw[<-u],w⟩
end Go.Ex
