/- Part AE of the proof that the law TopMany answers true at every input, under no condition. -/
import Derived.Test.YtmdbfgemefalmaaGreatDoorQAD
import Derived.Lib.UnsafeStr
import Derived.Deep.LoopGhost
set_option linter.unusedVariables false
set_option maxHeartbeats 2000000
set_option maxRecDepth 100000
namespace Go.X
open Go.Ex
variable {P:Program} {ρ:ig} {M:Nat} {U:Un} {h:Hp} {H:Heap} {env:Tr V} {e:Env} {K:V->Hp->Bool}
def CW(P:Program)(f:FuncId)(xs:List Value)(H:Heap)(Kp:Value->Heap->Prop):Prop:=
 (∃fn,P.funcs[f]?=some fn/\fn.body.isSome=true/\Ex.Fn P f xs.toArray H Kp)\/
 ∀w:World,w.heap=H->∃u w',(callFunc f xs.toArray).run P w=.ok (.value u) w'/\dV w w'/\Kp u w'.heap
abbrev nk:=FuncId->List V->Hp->(V->Hp->Bool)->Bool
def fY(P:Program)(M:Nat)(cf:nk):Prop:=∀(ρ:ig)(U:Un)(h:Hp)(H:Heap)(f:FuncId)(vs:List V)(xs:List Value)(K:V->Hp->Bool),R ρ M U h H->iz ρ M vs xs->cf f vs h K=true->CW P f xs H (Af ρ M U K)
theorem sw(hp:j0 P=true){f:FuncId}{fn:Func}(hf:P.funcs[f]?=some fn)(hb:fn.body.isSome=true)(args:Array Value)(w:World):(callFunc f args).run P w=.ok (.enter f args) w:=by
 have R3:fn.body.isNone=false:=by cases ZU:fn.body<;>simp_all
 unfold callFunc
 rw[Sem.run_bind,run_program]
 simp only[Result.andThen,hf,tn hp hf,R3,Bool.false_eq_true,if_false]
 first|done|rfl
theorem YK(hp:j0 P=true){f:FuncId}{xs:List Value}{Kp:Value->Heap->Prop}(hc:CW P f xs H Kp){op:Op}(hx:∀o:Oper,o.op=op->∀τ,fc e τ op.operands.toList->∀w,(execOp τ o).run P w=(callFunc f xs.toArray).run P w):
 ny P op e H Kp:=.inr λo a w next Q ho ha hw hn=>by
 unfold Oper.wp
 rw[hx o ho a.eval ha]
 rcases hc with⟨fn,hf,hb,hc⟩|hc
 ·rw[sw hp hf hb]
  refine(hc w hw).mono ?_
  rintro ending w' ⟨v,rfl,hs,hk⟩
  exact hn v w' hs hk
 ·obtain⟨u,w',hr,hs,hk⟩:=hc w hw
  rw[hr]
  exact hn u w' hs hk
noncomputable def Pp(cf:nk)(env:Tr V)(h:Hp)(fo:Operand)(args:List Operand)(K:V->Hp->Bool):Bool:=
 xo env fo λv=>(match v with
  |.fn f first cap=>xL env args λvs=>Cu vs cap λa=>Cu first a λa=>cf f a h K
  |_=>false)
theorem RF(hp:j0 P=true){cf:nk}(oN:fY P M cf)(he:E ρ M env e)(r:R ρ M U h H){fo:Operand}{args:Array Operand}{ts:Array TypeId}(hh:Pp cf env h fo args.toList K=true):Wr P ρ M U H (.call ⟨.value fo,args,ts⟩) e K:=by
 unfold Pp at hh
 obtain⟨v,x,hx,hd,hh⟩:=oF he r.gl hh
 split at hh
 ·rename_i f first cap
  obtain⟨vs,xs,hl,Co,hh⟩:=uB he r.gl hh
  rw[mf,mf] at hh
  cases hd with
  |fn e1 e2 d1 d2=>
  rename_i a1 a2
  have hD:iz ρ M (first++(vs++cap)) (a1++(xs++a2)):=iz.append ⟨e1,d1⟩ (Co.append ⟨e2,d2⟩)
  refine YK hp (oN ρ U h H f _ _ K r hD hh) λo ho τ ha w=>?_
  obtain⟨dst,nS,type,pos,after,guard⟩:=o
  simp only at ho
  subst ho
  have ea:=iv hl (τ:=τ) (λy hy=>ha y (by simp[Op.operands,Call.operands];simp at hy;exact .inr hy))
  have Js:args.map τ=xs.toArray:=by rw[<-ea];cases args;simp
  have hf:=ha fo (by simp[Op.operands,Call.operands]) _ hx
  simp only[execOp,resolve,Js,hf,Deferred.ofValue,pure_bind,invoke]
  congr 2
  simp
 ·cases hh
noncomputable def aaf(P:Program)(cf:nk)(env:Tr V)(h:Hp)(ro:Operand)(name:String)(args:List Operand)(K:V->Hp->Bool):Bool:=
 xo env ro λv=>(match v with
  |.iface t u=>(match P.info? t with
   |some i=>(match i.methods.find? (·.name==name) with
    |some m=>bif m.path.isEmpty then(match m.func,P.underlying t with
     |some (f,true),some (.pointer _)=>xL env args λvs=>cf f (u::vs) h K
     |_,_=>false) else false
    |none=>false)
   |none=>false)
  |_=>false)
theorem UM(hp:j0 P=true){cf:nk}(oN:fY P M cf)(he:E ρ M env e)(r:R ρ M U h H){ro:Operand}{name:String}{args:Array Operand}{ts:Array TypeId}(hh:aaf P cf env h ro name args.toList K=true):Wr P ρ M U H (.call ⟨.invoke ro name,args,ts⟩) e K:=by
 unfold aaf at hh
 obtain⟨v,x,hx,hd,hh⟩:=oF he r.gl hh
 split at hh
 ·rename_i t u
  split at hh
  ·rename_i i hi
   split at hh
   ·rename_i m hm
    obtain⟨amI,hh⟩:=jc hh
    split at hh
    ·rename_i f el hmf hu
     obtain⟨vs,xs,hl,Co,hh⟩:=uB he r.gl hh
     cases hd with
     |iface du=>
     rename_i y
     refine YK hp (oN ρ U h H f _ _ K r (iz.cons du Co) hh) λo ho τ ha w=>?_
     obtain⟨dst,nS,type,pos,after,guard⟩:=o
     simp only at ho
     subst ho
     have ea:=iv hl (τ:=τ) (λy hy=>ha y (by simp[Op.operands,Call.operands];simp at hy;exact .inr hy))
     have Js:args.map τ=xs.toArray:=by rw[<-ea];cases args;simp
     have hr:=ha ro (by simp[Op.operands,Call.operands]) _ hx
     simp only[execOp,resolve,Js,hr,pure_bind,invoke]
     have e0:(#[Value.iface t y]++xs.toArray)[0]?=some (.iface t y):=by simp
     have e1:(#[Value.iface t y]++xs.toArray).extract 1 (#[Value.iface t y]++xs.toArray).size=xs.toArray:=by
      apply Array.ext'
      simp
     have amQ:(method (P.types.size+Made.depth) t y name).run P w=.ok (f,y) w:=by
      have mr:Made.depth≠0:=by decide
      obtain⟨n,hn⟩:∃n,P.types.size+Made.depth=n+1:=⟨P.types.size+Made.depth-1,by omega⟩
      rw[hn,method]
      rw[Sem.run_bind,Ey hi]
      simp only[Result.andThen,hm]
      have ET:m.path.toList=[]:=by
       have:m.path=#[]:=by simpa using amI
       rw[this]
      rw[Sem.run_bind,ET]
      simp only[follow,Sem.run_pure,Result.andThen,hmf]
      rw[Sem.run_bind]
      unfold receiverAt
      rw[Sem.run_bind,mm hu]
      rfl
     rw[e0]
     simp only[e1]
     unfold callMethod
     simp only
     rw[Sem.run_bind,run_program]
     simp only[Result.andThen]
     rw[Sem.run_bind,amQ]
     simp only[Result.andThen]
     congr 2
     simp
    ·cases hh
   ·cases hh
  ·cases hh
 ·cases hh
def Wo(P:Program)(t:TypeId):Bool:=match P.underlying t with|some (.int .u8)=>Nat.beq (P.cellsOf t) 1|_=>false
theorem F5{el:TypeId}(hc:P.cellsOf el=1)(count off n:Nat)(hn:off+n<=count):liesAt P P.depth el count off el n=true:=by
 have hd:P.depth=(2*(P.types.size+Made.depth)+1)+1:=rfl
 rw[hd]
 simp only[liesAt,Bool.or_eq_true]
 left
 rw[hd]
 simp[rowAt,hc,hn,sameLayout,Nat.mod_one]
theorem Lh(w:World)(pt it ty el:TypeId)(hp:P.underlying pt=some (.pointer el))(hc:P.cellsOf el=1)(g off cells:Nat)(uw:w.shape? g=some (el,cells))(l:List UInt8)(h0:l≠[])(hn:off+l.length<=cells)(Cv:l.length<=9223372036854775807)
 (dj:∀(j:Nat) x,l[j]?=some x->w.cell? ((⟨g,off,none⟩:Addr).add j)=some (.int .u8 x.toNat)):
 (Builtin.unsafeString_ #[pt,it] ty #[.pointer (some ⟨g,off,none⟩),.int .i64 l.length]).run P w=.ok (.string ⟨l.toArray⟩) (w.freeze ⟨g,off,none⟩ l.length):=by
 have hl:l.length≠0:=by simpa using h0
 have KT:=Lib.run_loadBytes (P:=P) w l ⟨g,off,none⟩ .empty dj
 have amY:=F5 (P:=P) hc (cells/P.cellsOf el) off l.length (by rw[hc];simpa using hn)
 have aqT:¬(9223372036854775807:Int)<(l.length:Int):=by omega
 have aqM:Builtin.unsafeString_ #[pt,it] ty #[.pointer (some ⟨g,off,none⟩),.int .i64 l.length]=
  (do
   let n<-asInt (.int .i64 l.length)
   if n<0 then runtimePanic (.error "unsafe.String: len out of range")
   if n>IntKind.i64.max then unsupported (.unsafePointer "String: a length above the largest int")
   if n=0 then pure (.string .empty)
   else if<-variablesAt ⟨g,off,none⟩ (<-elemOf pt) n.toNat then do
    let s<-loadBytes ⟨g,off,none⟩ .empty n.toNat
    freeze ⟨g,off,none⟩ n.toNat
    pure (.string s)
   else unsupported (.unsafePointer "String: not so many bytes at ptr")):=rfl
 rw[aqM]
 have ahz:IntKind.i64.max=9223372036854775807:=rfl
 have adF:¬(l.length:Int)<0:=by omega
 simp[asInt,asIntOf,ahz,aqT,adF,hl,elemOf,run_underlying hp,variablesAt,uw,amY,KT]
theorem R.freeze(r:R ρ M U h H){b:Ps}{c:List V}{el es:Nat}{op ro:Bool}(hb:look b h.t=some (.cells c el es op ro)){w:World}(hw:w.heap=H){fv base kap:Nat}(hρ:ρ b=some (fv,base,kap))(off n:Nat)(Da:es≠0):
 R ρ M U {h with t:=ins (.cells c el es op true) b h.t} (w.freeze ⟨fv,off,none⟩ n).heap:=by
 obtain⟨uu,o6,uZ,x2,q1,q2,_,arr,lk,xt,q4,q5,q6,q7,q8⟩:=r.ob b _ hb trivial
 rw[hρ] at q1
 cases q1
 subst xt
 by_cases hn:n=0
 ·have:(w.freeze ⟨fv,off,none⟩ n).heap=H:=by unfold World.freeze;rw[if_pos hn,hw]
  rw[this]
  exact r.wy hb trivial hρ (λ_ _=>rfl) q2 ⟨arr,lk,rfl,q4,q5,q6,(λh=>by cases h),λho=>⟨(q8 ho).1,λ_ he=>absurd he Da⟩⟩
 ·have hf:(w.freeze ⟨fv,off,none⟩ n).heap=H.modify fv λ
   |.cells c elem (lo,hi)=>.cells c elem (if lo==hi then(off,off+n) else(min lo off,max hi (off+n)))
   |o=>o:=by
   unfold World.freeze
   rw[if_neg hn]
   simp only[hw]
   congr 1
  rw[hf]
  refine r.wy hb trivial hρ (x':=.cells arr el (if lk.1==lk.2 then(off,off+n) else(min lk.1 off,max lk.2 (off+n)))) (λi hi=>?_) ?_ ⟨arr,_,rfl,q4,q5,q6,(λh=>by cases h),λho=>⟨(q8 ho).1,λ_ he=>absurd he Da⟩⟩
  ·rw[Array.getElem?_modify,if_neg (λe=>hi e.symm)]
  ·rw[Array.getElem?_modify,if_pos rfl,q2]
   rfl
theorem xg(w:World)(a:Addr)(n:Nat):dV w (w.freeze a n):=by
 unfold World.freeze
 split
 ·exact dV.refl w
 ·exact⟨rfl,rfl,rfl⟩
noncomputable def O9(P:Program)(h:Hp)(ts:List TypeId)(vs:List V)(K:V->Hp->Bool):Bool:=
 match ts,vs with
 |[pt,_],[v,.int .i64 (.ofNat n)]=>(match P.underlying pt with
  |some (.pointer el)=>bif Nat.beq n 0 then(match v with|.sA=>K (.str 0 0) h|.ptr _ _=>K (.str 0 0) h|_=>false) else(match v with
   |.ptr b o=>bif Nat.ble n 9223372036854775807&&Wo P el then rS h b o n λcs=>N9 cs λN=>qL b h.t λob=>(match ob with
    |.cells c De es op ro=>bif Nat.beq De el&&!(Nat.beq es 0) then rQ (.cells c De es op true) b h.t λt=>K (.str n N) ⟨t,h.nx,h.lo,h.hi⟩ else false
    |_=>false) else false
   |_=>false)
  |_=>false)
 |_,_=>false
theorem uP(w:World)(pt it ty:TypeId)(p:Option Addr):(Builtin.unsafeString_ #[pt,it] ty #[.pointer p,.int .i64 0]).run P w=.ok (.string (strOf 0 0)) w:=Lib.run_unsafeString_none w pt it ty p
theorem aaa(r:R ρ M U h H){ts:List TypeId}{vs:List V}{xs:List Value}(hd:iz ρ M vs xs)(hh:O9 P h ts vs K=true)(ty:TypeId):
 ∀w:World,w.heap=H->∃u w',(Builtin.unsafeString_ ts.toArray ty xs.toArray).run P w=.ok u w'/\dV w w'/\Af ρ M U K u w'.heap:=by
 intro w hw
 unfold O9 at hh
 split at hh
 ·rename_i pt it v n
  obtain⟨x,a',rfl,d1,d2⟩:=hd.eh
  obtain⟨y,a2,rfl,d3,d4⟩:=d2.eh
  obtain rfl:=d4.kI
  cases d3
  split at hh
  ·rename_i el hu
   cases hn:Nat.beq n 0 with
   |true=>
    rw[hn] at hh
    have hn:=Nat.eq_of_beq_eq_true hn
    subst hn
    simp only[cond_true] at hh
    split at hh
    ·cases d1
     exact⟨_,w,uP w pt it ty none,dV.refl w,by rw[hw];exact .mk r (.str 0 0) hh⟩
    ·cases d1
     exact⟨_,w,uP w pt it ty _,dV.refl w,by rw[hw];exact .mk r (.str 0 0) hh⟩
    ·cases hh
   |false=>
    rw[hn] at hh
    have hn:n≠0:=λe=>by rw[e] at hn;cases hn
    simp only[cond_false] at hh
    split at hh
    ·rename_i b o
     have h2:=jc hh
     clear hh
     obtain⟨h0,hh⟩:=h2
     simp only[Bool.and_eq_true] at h0
     have Cv:=Nat.le_of_ble_eq_true h0.1
     have QS:=h0.2
     unfold Wo at QS
     split at QS
     ·rename_i rJ
      have GC:=Nat.eq_of_beq_eq_true QS
      cases d1 with
      |ptr hρ=>
      rename_i fv base kap
      obtain⟨cs,us,hh,hl,X7,hc⟩:=qS r hh hρ
      obtain⟨N,hh,he⟩:=Lz hh X7
      obtain⟨ob,hb,hh⟩:=fV hh
      split at hh
      ·rename_i c De es op ro
       have h2:=jc hh
       clear hh
       obtain⟨Tm,hh⟩:=h2
       rw[Bool.and_eq_true] at Tm
       obtain⟨Tm,am1⟩:=Tm
       have Da:es≠0:=λe=>by rw[e] at am1;cases am1
       have Tm:=Nat.eq_of_beq_eq_true Tm
       rw[Tm] at hb hh
       rw[kp] at hh
       obtain⟨uu,o6,uZ,x2,q1,q2,_,arr,lk,xt,q4,q5,q6,q7,q8⟩:=r.ob b _ hb trivial
       rw[hρ] at q1
       cases q1
       subst xt
       have sq:(bl n N).length=n:=JD n N
       have ast:us.length=n:=by rw[<-X7.1,hl]
       rw[hl] at he
       have uw:w.shape? fv=some (el,arr.size):=by unfold World.shape?;rw[hw,q2]
       have Mg:∀(j:Nat) x,(bl n N)[j]?=some x->w.cell? ((⟨fv,base+o,none⟩:Addr).add j)=some (.int .u8 x.toNat):=by
        intro j x hx
        rw[pH]
        refine cell_of hw (hc j _ ?_)
        rw[he]
        unfold mg strOf
        simp[hx]
       have amC:base+o+(bl n N).length<=arr.size:=by
        rw[sq]
        have u0:=hc (n-1) us[n-1] (by simp)
        unfold dj at u0
        simp only[q2] at u0
        have:=(Array.getElem?_eq_some_iff.1 (by simpa using u0)).1
        omega
       have ju:=Lh w pt it ty el hu GC fv (base+o) arr.size uw (bl n N) (by intro e;rw[e] at sq;simp at sq;omega) amC (by rw[sq];exact Cv) Mg
       rw[sq] at ju
       refine⟨_,_,ju,xg _ _ _,?_⟩
       exact .mk (r.freeze hb hw hρ (base+o) n Da) (.str n N) hh
      ·cases hh
     ·cases QS
    ·cases hh
  ·cases hh
 ·cases hh
noncomputable def Nf(P:Program)(h:Hp)(ts:List TypeId)(vs:List V)(K:V->Hp->Bool):Bool:=
 match ts,vs with
 |t::_,[v,.lJ]=>(match P.underlying t with
  |some (.slice el)=>bif(P.info? el).isSome then(match v with|.lJ=>K (.int .i64 (.ofNat 0)) h|.slice ..=>K (.int .i64 (.ofNat 0)) h|.gE ..=>K (.int .i64 (.ofNat 0)) h|_=>false) else false
  |_=>false)
 |_,_=>false
end Go.X
namespace Go.X
open Go.Ex
variable {P:Program} {ρ:ig} {M:Nat} {U:Un} {h:Hp} {H:Heap} {env:Tr V} {e:Env} {K:V->Hp->Bool}
theorem Nc(r:R ρ M U h H){ts:List TypeId}{vs:List V}{xs:List Value}(hd:iz ρ M vs xs)(hh:Nf P h ts vs K=true)(ty:TypeId):
 ∀w:World,w.heap=H->∃u w',(Builtin.copy_ ts.toArray ty xs.toArray).run P w=.ok u w'/\dV w w'/\Af ρ M U K u w'.heap:=by
 intro w hw
 unfold Nf at hh
 split at hh
 ·rename_i t ts' v
  obtain⟨x,a',rfl,d1,d2⟩:=hd.eh
  obtain⟨y,a2,rfl,d3,d4⟩:=d2.eh
  obtain rfl:=d4.kI
  cases d3
  split at hh
  ·rename_i el hu
   obtain⟨hi,hh⟩:=jc hh
   obtain⟨i,hi⟩:=Option.isSome_iff_exists.1 hi
   have go:∀p l c,(Builtin.copy_ (t::ts').toArray ty [Value.slice p l c,.slice none 0 0].toArray).run P w=.ok (.int .i64 (.ofNat 0)) w:=by
    intro p l c
    unfold Builtin.copy_
    simp only[List.getElem?_toArray,List.getElem?_cons_zero,List.getElem?_cons_succ]
    rw[Sem.run_bind,mm hu]
    simp only[Result.andThen]
    rw[Sem.run_bind,show(Builtin.lenOf (.slice none 0 0)).run P w=.ok 0 w from rfl]
    simp only[Result.andThen]
    rw[Sem.run_bind,gL hi]
    simp only[Result.andThen]
    rw[Sem.run_bind,show∀n,(Builtin.firstCells i.size n (.slice none 0 0)).run P w=.ok #[] w fromλ_=>rfl]
    simp only[Result.andThen]
    have:Nat.min 0 l=0:=by simp
    rw[this]
    cases p with
    |none=>rfl
    |some a=>rfl
   split at hh
   ·cases d1;exact⟨_,w,go _ _ _,dV.refl w,by rw[hw];exact .mk r (.int _ _) hh⟩
   ·cases d1;exact⟨_,w,go _ _ _,dV.refl w,by rw[hw];exact .mk r (.int _ _) hh⟩
   ·cases d1;exact⟨_,w,go _ _ _,dV.refl w,by rw[hw];exact .mk r (.int _ _) hh⟩
   ·cases hh
  ·cases hh
 ·cases hh
noncomputable def Pk(P:Program)(h:Hp)(s d:TypeId)(v:V)(K:V->Hp->Bool):Bool:=
 bif Nat.beq s d then(match P.underlying s,v with
  |some (.slice el),.slice b o l c=>(match P.underlying el with
   |some (.int .u8)=>qL b h.t λob=>(match ob with|.cells _ _ _ _ false=>K (.slice b o l c) h|_=>false)
   |_=>false)
  |_,_=>false) else false
theorem Rs(r:R ρ M U h H){s d:TypeId}{o:Operand}{v:V}{x:Value}(hx:mo e o=some x)(dv:Dn ρ M v x)(hh:Pk P h s d v K=true):Wr P ρ M U H (.convert s d o) e K:=by
 unfold Pk at hh
 have h2:=jc hh
 clear hh
 obtain⟨RG,hh⟩:=h2
 have RG:=Nat.eq_of_beq_eq_true RG
 subst RG
 split at hh
 ·rename_i el b o' l c hu
  split at hh
  ·rename_i rJ
   obtain⟨ob,hb,hh⟩:=fV hh
   split at hh
   ·rename_i cs De es op
    cases dv with
    |slice hρ=>
    rename_i fv base kap
    obtain⟨uu,o6,uZ,x2,q1,q2,_,arr,lk,xt,q4,q5,q6,q7,q8⟩:=r.ob b _ hb trivial
    rw[hρ] at q1
    cases q1
    subst xt
    refine qw (s:=λ_=>convert s s (.slice (some ⟨fv,base+o',none⟩) l c)) (λ_ w hw=>⟨.slice (some ⟨fv,base+o',none⟩) l c,w.freeze ⟨fv,arr.size,none⟩ 1,?_,xg _ _ _,?_⟩) λnS ho τ ha=>?_
    ·unfold convert
     rw[Sem.run_bind,mm hu]
     simp only[Result.andThen]
     rw[Sem.run_bind,mm hu]
     simp only[Result.andThen]
     rw[Sem.run_bind,mm rJ]
     simp only[Result.andThen,beq_self_eq_true]
     rw[Sem.run_bind]
     unfold markStringish
     rw[Sem.run_bind,run_shape]
     have uw:w.shape? fv=some (De,arr.size):=by unfold World.shape?;rw[hw,q2]
     simp only[Result.andThen,uw,run_freeze]
     rfl
    ·refine .mk (h':=h) ?_ (.slice hρ) hh
     have hf:(w.freeze ⟨fv,arr.size,none⟩ 1).heap=H.modify fv λ
      |.cells c elem (lo,hi)=>.cells c elem (if lo==hi then(arr.size,arr.size+1) else(min lo arr.size,max hi (arr.size+1)))
      |o=>o:=by
      unfold World.freeze
      rw[if_neg (by omega)]
      simp only[hw]
      congr 1
     rw[hf]
     have XS:ins (.cells cs De es op false) b h.t=h.t:=by
      have:∀(p:Ps)(t:Tr Ob)(x:Ob),look p t=some x->ins x p t=t:=by
       intro p
       induction p with
       |h=>intro t x hl;cases t with|lf=>cases hl|nd l v r=>simp[look] at hl;simp[ins,hl]
       |o p ih=>intro t x hl;cases t with|lf=>cases hl|nd l v r=>simp[ins,ih _ _ hl]
       |i p ih=>intro t x hl;cases t with|lf=>cases hl|nd l v r=>simp[ins,ih _ _ hl]
      exact this _ _ _ hb
     have:=r.wy (o':=.cells cs De es op false) hb trivial hρ (H':=H.modify fv λ
      |.cells c elem (lo,hi)=>.cells c elem (if lo==hi then(arr.size,arr.size+1) else(min lo arr.size,max hi (arr.size+1)))
      |o=>o) (x':=.cells arr De (if lk.1==lk.2 then(arr.size,arr.size+1) else(min lk.1 arr.size,max lk.2 (arr.size+1)))) (λi hi=>by rw[Array.getElem?_modify,if_neg (λe=>hi e.symm)]) (by rw[Array.getElem?_modify,if_pos rfl,q2];rfl)
      ⟨arr,_,rfl,q4,q5,q6,(λhro=>by
       have:=q7 hro
       right
       by_cases h1:lk.1=lk.2
       ·simp[h1]
       ·simp only[beq_iff_eq,h1,if_false];omega),λho=>⟨(q8 ho).1,λh=>by cases h⟩⟩
     rw[XS] at this
     exact this
    ·obtain⟨dst,nS,type,pos,after,guard⟩:=nS
     simp only at ho
     subst ho
     simp only[execOp,ha o (by simp[Op.operands]) _ hx]
   ·cases hh
  ·cases hh
 ·cases hh
noncomputable def Av(P:Program)(h:Hp)(b:Builtin)(ts:List TypeId)(vs:List V)(K:V->Hp->Bool):Bool:=
 match b with
 |.append=>(match vs,ts with|[x,y],[t,u]=>(match P.underlying u with|some (.int _)|none=>false|some _=>afO P h t x y K)|_,_=>false)
 |.copy=>Nf P h ts vs K
 |.unsafeString=>O9 P h ts vs K
 |_=>false
noncomputable def HK(P:Program)(cf:nk)(h:Hp)(op:Op)(env:Tr V)(K:V->Hp->Bool):Bool:=
 match op with
 |.store t x y=>xo env x λv=>(match v with|.ptr b o=>xo env y λu=>HL P h t b o u K|_=>false)
 |.alloc t=>Dq P h t K
 |.box t x=>xo env x λv=>aaj h t v K
 |.makeSlice t l c=>xo env l λvl=>xo env c λvc=>Pm P h t vl vc K
 |.buildSlice t len parts=>Rw env parts.toList λps=>UB P h t len ps K
 |.convert s d x=>xo env x λv=>(match v with|.slice ..=>Pk P h s d v K|_=>HR P h s d v K)
 |.makeMap _ none=>afL h K
 |.mapUpdate t m k x=>xo env m λv=>(match v with|.map m=>xo env k λk=>xo env x λx=>M7 P h t m k x K|_=>false)
 |.insert t m k x=>xo env m λv=>(match v with|.map m=>xo env k λk=>xo env x λx=>M7 P h t m k x K|_=>false)
 |.range t x=>xo env x λv=>HO P h t v K
 |.next it s=>xo env it λv=>(match v with|.ptr b o=>Pl h b o s K|_=>false)
 |.call ⟨.value fo,args,_⟩=>Pp cf env h fo args.toList K
 |.call ⟨.invoke ro name,args,_⟩=>aaf P cf env h ro name args.toList K
 |.call ⟨.builtin b,args,ts⟩=>xL env args.toList λvs=>Av P h b ts.toList vs K
 |_=>false
inductive BW where
 |mk (f:Hp->Tr V->(V->Hp->Bool)->Bool)
noncomputable def aiC(P:Program)(cf:nk)(op:Op):BW:=
 match op with
 |.store t x y=>.mk λh env K=>xo env x λv=>(match v with|.ptr b o=>xo env y λu=>HL P h t b o u K|_=>false)
 |.alloc t=>.mk λh env K=>Dq P h t K
 |.box t x=>.mk λh env K=>xo env x λv=>aaj h t v K
 |.makeSlice t l c=>.mk λh env K=>xo env l λvl=>xo env c λvc=>Pm P h t vl vc K
 |.buildSlice t len parts=>.mk λh env K=>Rw env parts.toList λps=>UB P h t len ps K
 |.convert s d x=>.mk λh env K=>xo env x λv=>(match v with|.slice ..=>Pk P h s d v K|_=>HR P h s d v K)
 |.makeMap _ none=>.mk λh env K=>afL h K
 |.mapUpdate t m k x=>.mk λh env K=>xo env m λv=>(match v with|.map m=>xo env k λk=>xo env x λx=>M7 P h t m k x K|_=>false)
 |.insert t m k x=>.mk λh env K=>xo env m λv=>(match v with|.map m=>xo env k λk=>xo env x λx=>M7 P h t m k x K|_=>false)
 |.range t x=>.mk λh env K=>xo env x λv=>HO P h t v K
 |.next it s=>.mk λh env K=>xo env it λv=>(match v with|.ptr b o=>Pl h b o s K|_=>false)
 |.call ⟨.value fo,args,_⟩=>.mk λh env K=>Pp cf env h fo args.toList K
 |.call ⟨.invoke ro name,args,_⟩=>.mk λh env K=>aaf P cf env h ro name args.toList K
 |.call ⟨.builtin b,args,ts⟩=>.mk λh env K=>xL env args.toList λvs=>Av P h b ts.toList vs K
 |_=>.mk λ_ _ _=>false
noncomputable def Au(P:Program)(cf:nk)(h:Hp)(op:Op)(env:Tr V)(K:V->Hp->Bool):Bool:=BW.rec (motive:=λ_=>Bool) (λf=>f h env K) (aiC P cf op)
theorem Dj(P:Program)(cf:nk)(h:Hp)(op:Op)(env:Tr V)(K:V->Hp->Bool):Au P cf h op env K=HK P cf h op env K:=by
 cases op with
 |call c=>obtain⟨c,a,t⟩:=c;cases c<;>rfl
 |makeMap t o=>cases o<;>rfl
 |_=>rfl
theorem qo(hp:j0 P=true){cf:nk}(oN:fY P M cf)(he:E ρ M env e)(r:R ρ M U h H){op:Op}(hh:Au P cf h op env K=true):Wr P ρ M U H op e K:=by
 have hg:Gl ρ:=r.gl
 rw[Dj] at hh
 unfold HK at hh
 split at hh
 ·obtain⟨v,y,hx,hd,hh⟩:=oF he hg hh
  split at hh
  ·obtain⟨v2,y2,xt,Db,hh⟩:=oF he hg hh
   exact M4 r hx xt hd Db hh
  ·cases hh
 ·exact Ni r hh
 ·obtain⟨v,y,hx,hd,hh⟩:=oF he hg hh
  exact UR r hx hd hh
 ·obtain⟨v,y,hx,hd,hh⟩:=oF he hg hh
  obtain⟨v2,y2,xt,Db,hh⟩:=oF he hg hh
  exact Ry r hx xt hd Db hh
 ·obtain⟨vs,ps,h0,h1,h2,hh⟩:=Dm he hg hh
  exact UA r h0 h1 h2 hh
 ·obtain⟨v,y,hx,hd,hh⟩:=oF he hg hh
  split at hh
  ·exact Rs r hx hd hh
  ·exact Ng r hx hd hh
 ·exact UK r hh
 ·obtain⟨v,y,hx,hd,hh⟩:=oF he hg hh
  split at hh
  ·obtain⟨v2,y2,xt,Db,hh⟩:=oF he hg hh
   obtain⟨v3,y3,PW,RY,hh⟩:=oF he hg hh
   exact(Ki r hx xt PW hd Db RY hh).1
  ·cases hh
 ·obtain⟨v,y,hx,hd,hh⟩:=oF he hg hh
  split at hh
  ·obtain⟨v2,y2,xt,Db,hh⟩:=oF he hg hh
   obtain⟨v3,y3,PW,RY,hh⟩:=oF he hg hh
   exact(Ki r hx xt PW hd Db RY hh).2
  ·cases hh
 ·obtain⟨v,y,hx,hd,hh⟩:=oF he hg hh
  exact M6 r hx hd hh
 ·obtain⟨v,y,hx,hd,hh⟩:=oF he hg hh
  split at hh
  ·exact Rx r hx hd hh
  ·cases hh
 ·exact RF hp oN he r hh
 ·exact UM hp oN he r hh
 ·rename_i b args ts
  obtain⟨vs,xs,hl,Co,hh⟩:=uB he hg hh
  unfold Av at hh
  have ag:∀τ:Operand->Value,fc e τ (Op.call ⟨.builtin b,args,ts⟩).operands.toList->args.map τ=xs.toArray:=λτ ha=>by
   have ea:=iv hl (τ:=τ) (λy hy=>ha y (by simp[Op.operands,Call.operands];simpa using hy))
   rw[<-ea];cases args;simp
  split at hh
  ·split at hh
   ·rename_i x y t u P2
    split at hh
    ·cases hh
    ·cases hh
    ·rename_i d hZ hu
     obtain⟨x',a',rfl,d1,d2⟩:=Co.eh
     obtain⟨y',a2,rfl,d3,d4⟩:=d2.eh
     obtain rfl:=d4.kI
     have aqS:=UU r d1 d3 hh
     rcases ha:args.toList with _|⟨o1',_|⟨o2',_|⟨o3',rr⟩⟩⟩<;>rw[ha] at hl<;>simp at hl
     refine .inl ?_
     simp only[jL,ha,P2,hu]
     simp only[o1,hl.1,hl.2]
     exact aqS
   ·cases hh
  ·refine qw (s:=λo=>Builtin.copy_ ts o.type xs.toArray) (λo w hw=>?_) λo ho τ ha=>?_
   ·have:=Nc r Co hh o.type w hw
    simpa using this
   ·have:=ag τ ha
    obtain⟨dst,nS,type,pos,after,guard⟩:=o
    simp only at ho
    subst ho
    simp only[execOp,resolve,this,pure_bind,invoke,builtin]
  ·refine qw (s:=λo=>Builtin.unsafeString_ ts o.type xs.toArray) (λo w hw=>?_) λo ho τ ha=>?_
   ·have:=aaa r Co hh o.type w hw
    simpa using this
   ·have:=ag τ ha
    obtain⟨dst,nS,type,pos,after,guard⟩:=o
    simp only at ho
    subst ho
    simp only[execOp,resolve,this,pure_bind,invoke,builtin]
  ·cases hh
 ·cases hh
end Go.X
namespace Go.X
open Go.Ex
variable {P:Program} {ρ:ig} {M:Nat} {U:Un} {h:Hp} {H:Heap} {env:Tr V} {e:Env}
noncomputable def TL(p:Ps)(k:Ps->Bool):Bool:=Ps.rec (motive:=λ_=>Bool) (k .h) (λp _=>k (.o p)) (λp _=>k (.i p)) p
theorem aij(p:Ps)(k:Ps->Bool):TL p k=k p:=by cases p<;>rfl
noncomputable def Xe(h:Hp)(k:Hp->Bool):Bool:=Hp.rec (motive:=λ_=>Bool) (λt nx lo hi=>TL nx λnx=>fN lo λlo=>fN hi λhi=>k ⟨t,nx,lo,hi⟩) h
theorem tt(h:Hp)(k:Hp->Bool):Xe h k=k h:=by
 obtain⟨t,nx,lo,hi⟩:=h
 show(TL nx λnx=>fN lo λlo=>fN hi λhi=>k ⟨t,nx,lo,hi⟩)=_
 rw[aij,fW,fW]
abbrev KE:=Tr V->Hp->Bool
noncomputable def hO(env:Tr V)(d:Option Tmp)(v:V)(k:Tr V->Bool):Bool:=match d with|some d=>rQ v (lQ d) env k|none=>k env
theorem uR{d:Option Tmp}{v:V}{x:Value}{k:Tr V->Bool}(hh:hO env d v k=true)(he:E ρ M env e)(hd:Dn ρ M v x):∃eJ,k eJ=true/\E ρ M eJ (put e d x):=by
 unfold hO at hh
 split at hh
 ·rename_i d
  rw[kp] at hh
  refine⟨_,hh,λt u hu=>?_⟩
  rw[gP] at hu
  rw[kS]
  by_cases hp:lQ t=lQ d
  ·rw[if_pos hp] at hu
   cases hu
   rw[if_pos (vI hp)]
   exact⟨x,rfl,hd⟩
  ·rw[if_neg hp] at hu
   rw[if_neg (λe=>hp (by rw[e]))]
   exact he t u hu
 ·exact⟨_,hh,he⟩
noncomputable def po(ops:Array Oper)(o:Oper)(env:Tr V)(k:Bool->Bool):Bool:=
 match o.guard with
 |none=>k true
 |some (j,want)=>match(ops[j]?).bind (·.dst) with
  |none=>k false
  |some d=>qL (lQ d) env λv=>(match v with|.bool b=>fB (b==want) k|.ru _=>k false|_=>false)
theorem sr{ops:Array Oper}{o:Oper}{k:Bool->Bool}(he:E ρ M env e)(hh:po ops o env k=true):∃b,eB ops o e=some b/\k b=true:=by
 unfold po at hh
 unfold eB
 split at hh
 ·rename_i hg;rw[hg];exact⟨true,rfl,hh⟩
 ·rename_i j want hg
  rw[hg]
  simp only
  split at hh
  ·rename_i hj;rw[hj];exact⟨false,rfl,hh⟩
  ·rename_i d hj
   rw[hj]
   simp only
   obtain⟨v,hv,hh⟩:=fV hh
   obtain⟨x,hx,hd⟩:=he d v hv
   rw[hx]
   split at hh
   ·cases hd;rw[pv] at hh;exact⟨_,rfl,hh⟩
   ·cases hd;exact⟨false,rfl,hh⟩
   ·cases hh
theorem pS{g:Bool}{v:Value}{K:Value->Prop}(h:K v):kH g v K:=by
 unfold kH
 split
 ·exact h
 ·split
  ·rename_i b;cases b<;>exact h
  ·exact h
theorem R.bound(r:R ρ M U h H){lo hi:Nat}(h1:lo<=M)(h2:M<=hi):R ρ M U ⟨h.t,h.nx,lo,hi⟩ H:=⟨r.gl,r.YI,r.ob,r.inj,r.un,⟨h1,h2⟩,r.ml⟩
noncomputable def B9(P:Program)(cf:nk)(o:Oper)(env:Tr V)(h:Hp)(K:V->Hp->Bool):Bool:=
 match kindOf P o.op with
 |.pure=>Hp.rec (motive:=λ_=>Bool) (λt nx lo hi=>yd P lo hi o.op env λv lo hi=>K v ⟨t,nx,lo,hi⟩) h
 |.read=>Gq P h o.op env λv=>K v h
 |.write=>Au P cf h o.op env λv h=>Xe h λh=>K v h
inductive BX where
 |mk (f:Tr V->Hp->(V->Hp->Bool)->Bool)
noncomputable def ad5(P:Program)(cf:nk)(o:Oper):BX:=
 match kindOf P o.op with
 |.pure=>BP.rec (motive:=λ_=>BX) (λf=>.mk λenv h K=>Hp.rec (motive:=λ_=>Bool) (λt nx lo hi=>f lo hi env λv lo hi=>K v ⟨t,nx,lo,hi⟩) h) (aiE P o.op)
 |.read=>Vc.rec (motive:=λ_=>BX) (λf=>.mk λenv h K=>f h env λv=>K v h) (aiD P o.op)
 |.write=>BW.rec (motive:=λ_=>BX) (λf=>.mk λenv h K=>f h env λv h=>Xe h λh=>K v h) (aiC P cf o.op)
noncomputable def ye(P:Program)(cf:nk)(o:Oper)(env:Tr V)(h:Hp)(K:V->Hp->Bool):Bool:=BX.rec (motive:=λ_=>Bool) (λf=>f env h K) (ad5 P cf o)
theorem rI(P:Program)(cf:nk)(o:Oper)(env:Tr V)(h:Hp)(K:V->Hp->Bool):ye P cf o env h K=B9 P cf o env h K:=by
 unfold ye ad5 B9
 split
 ·cases h1:aiE P o.op;unfold yd;rw[h1]
 ·cases h1:aiD P o.op;unfold Gq;rw[h1]
 ·cases h1:aiC P cf o.op;unfold Au;rw[h1]
inductive Ac where
 |put (f:Tr V->Hp->(V->Hp->Bool)->Bool) (g:V->Tr V->(Tr V->Bool)->Bool)|no (f:Tr V->Hp->(V->Hp->Bool)->Bool)|gd (o:Oper)
noncomputable def ait(P:Program)(cf:nk)(o:Oper):Ac:=
 match o.guard with
 |some _=>.gd o
 |none=>BX.rec (motive:=λ_=>Ac) (λf=>match o.dst with|some d=>BS.rec (motive:=λ_=>Ac) (λg=>.put f g) (JC (lQ d))|none=>.no f) (ad5 P cf o)
noncomputable def pe(P:Program)(cf:nk)(ops:Array Oper)(l:List Oper)(env:Tr V)(h:Hp)(K:KE):Bool:=
 List.rec (motive:=λ_=>Tr V->Hp->Bool) (λenv h=>K env h)
  (λo _ ih env h=>Ac.rec (motive:=λ_=>Bool) (λf g=>f env h λv h=>g v env λenv=>ih env h) (λf=>f env h λv h=>ih env h)
   (λo=>po ops o env λw=>match w with
    |false=>hO env o.dst (.ru []) λenv=>ih env h
    |true=>ye P cf o env h λv h=>hO env o.dst v λenv=>ih env h) (ait P cf o)) l env h
theorem Rv(P:Program)(cf:nk)(ops:Array Oper)(o:Oper)(l:List Oper)(env:Tr V)(h:Hp)(K:KE):pe P cf ops (o::l) env h K=(po ops o env λw=>match w with
 |false=>hO env o.dst (.ru []) λenv=>pe P cf ops l env h K
 |true=>ye P cf o env h λv h=>hO env o.dst v λenv=>pe P cf ops l env h K):=by
 show Ac.rec (motive:=λ_=>Bool) (λf g=>f env h λv h=>g v env λenv=>pe P cf ops l env h K) (λf=>f env h λv h=>pe P cf ops l env h K)
  (λo=>po ops o env λw=>match w with
   |false=>hO env o.dst (.ru []) λenv=>pe P cf ops l env h K
   |true=>ye P cf o env h λv h=>hO env o.dst v λenv=>pe P cf ops l env h K) (ait P cf o)=_
 obtain⟨dst,op,type,pos,after,guard⟩:=o
 cases guard with
 |some g=>rfl
 |none=>
  unfold ait ye
  cases ad5 P cf ⟨dst,op,type,pos,after,none⟩ with
  |mk f=>
   cases dst with
   |none=>rfl
   |some d=>
    have key:=λ(v:V)(h:Hp)=>ad6 v (lQ d) env λenv=>pe P cf ops l env h K
    obtain⟨g,hb⟩:∃g,JC (lQ d)=.mk g:=by
     cases JC (lQ d) with
     |mk g=>exact⟨g,rfl⟩
    rw[hb] at key
    show Ac.rec (motive:=λ_=>Bool) (λf g=>f env h λv h=>g v env λenv=>pe P cf ops l env h K) (λf=>f env h λv h=>pe P cf ops l env h K)
     (λo=>po ops o env λw=>match w with
      |false=>hO env o.dst (.ru []) λenv=>pe P cf ops l env h K
      |true=>ye P cf o env h λv h=>hO env o.dst v λenv=>pe P cf ops l env h K)
     (BS.rec (motive:=λ_=>Ac) (λg=>.put f g) (JC (lQ d)))=(f env h λv h=>rQ v (lQ d) env λenv=>pe P cf ops l env h K)
    rw[hb]
    show(f env h λv h=>g v env λenv=>pe P cf ops l env h K)=_
    congr 1
    funext v h
    exact key v h
def At(ρ:ig)(M:Nat)(U:Un)(K:KE)(e:Env)(H:Heap):Prop:=∃ρ' env h,Le ρ ρ'/\E ρ' M env e/\R ρ' M U h H/\K env h=true
theorem o3:Dn ρ M (.ru []) undef:=iz.ru .nil
section
variable {cf:nk}
theorem Dk(hp:j0 P=true)(oN:fY P M cf){ops:Array Oper}{K:KE}:∀(l:List Oper)(i:Nat)(ρ:ig)(env:Tr V)(h:Hp)(e:Env)(H:Heap),pe P cf ops l env h K=true->E ρ M env e->R ρ M U h H->
 nU P ops l i e H (At ρ M U K):=by
 intro l
 induction l with
 |nil=>intro i ρ env h e H hh he r;exact⟨ρ,env,h,Le.refl _,he,r,hh⟩
 |cons o l ih=>
  intro i ρ env h e H hh he r
  replace hh:(po ops o env λw=>match w with
   |false=>hO env o.dst (.ru []) λenv=>pe P cf ops l env h K
   |true=>ye P cf o env h λv h=>hO env o.dst v λenv=>pe P cf ops l env h K)=true:=by rw[<-Rv];exact hh
  obtain⟨b,hw,hh⟩:=sr he hh
  unfold nU
  rw[hw]
  have step:∀{ρ':ig}{v:V}{x:Value}{h':Hp}{H':Heap},Le ρ ρ'->R ρ' M U h' H'->Dn ρ' M v x->(hO env o.dst v λenv=>pe P cf ops l env h' K)=true->nU P ops l (i+1) (put e o.dst x) H' (At ρ M U K):=by
   intro ρ' v x h' H' hl r' hd hk
   obtain⟨eJ,hk,jU⟩:=uR hk (he.mono hl) hd
   have:=ih (i+1) ρ' eJ h' _ H' hk jU r'
   have mono:∀(l:List Oper)(i:Nat)(e:Env)(H:Heap)(K K':Env->Heap->Prop),(∀e H,K e H->K' e H)->nU P ops l i e H K->nU P ops l i e H K':=by
    intro l
    induction l with
    |nil=>intro i e H K K' hk h;exact hk _ _ h
    |cons o l Hd=>
     intro i e H K K' hk h
     unfold nU at h⊢
     split
     ·rename_i hw;rw[hw] at h;exact h
     ·rename_i hw;rw[hw] at h;exact Hd _ _ _ _ _ hk h
     ·rename_i hw
      rw[hw] at h
      simp only at h
      split
      ·rename_i hkk;rw[hkk] at h;simp only at h
       exact .inr λo' kh=>by
        obtain⟨v,hv,hr⟩:=jm (o:=o') (by rw[kh];exact h)
        exact⟨v,pS (Hd _ _ _ _ _ hk (nX hv)),by rw[kh] at hr;exact hr⟩
      ·rename_i hkk;rw[hkk] at h;simp only at h
       exact .inr λo' kh=>by
        obtain⟨v,hv,hr⟩:=iy (o:=o') (by rw[kh];exact h)
        exact⟨v,pS (Hd _ _ _ _ _ hk (nX hv)),by rw[kh] at hr;exact hr⟩
      ·rename_i hkk;rw[hkk] at h;simp only at h
       exact fD hp h λu H' q=>pS (Hd _ _ _ _ _ hk (nX q))
   exact mono _ _ _ _ _ _ (λe H⟨ρ2,lK,h2,a,b,c,d⟩=>⟨ρ2,lK,h2,hl.trans a,b,c,d⟩) this
  cases b with
  |false=>exact step (Le.refl _) r o3 hh
  |true=>
   simp only at hh⊢
   simp only[rI] at hh
   unfold B9 at hh
   cases hk:kindOf P o.op with
   |pure=>
    rw[hk] at hh
    simp only at hh⊢
    obtain⟨t,nx,lo,hi⟩:=h
    replace hh:(yd P lo hi o.op env λv lo hi=>hO env o.dst v λenv=>pe P cf ops l env ⟨t,nx,lo,hi⟩ K)=true:=hh
    obtain⟨v,x,Xr,nN,hd,h1,h2,hk,vQ⟩:=sf he r.gl r.bd.1 r.bd.2 hh
    exact oX vQ (pS (step (Le.refl _) (r.bound h1 h2) hd hk))
   |read=>
    rw[hk] at hh
    simp only at hh⊢
    obtain⟨v,x,hd,hk,vQ⟩:=qa he r hh
    exact kW vQ (pS (step (Le.refl _) r hd hk))
   |write=>
    rw[hk] at hh
    simp only at hh⊢
    have:=qo hp oN he r hh
    refine fD hp this ?_
    rintro u H' ⟨ρ',v,h',hl,r',hd,hk⟩
    simp only[tt] at hk
    exact pS (step hl r' hd hk)
end
noncomputable def AB(p q:Ps):Bool:=
 Ps.rec (motive:=λ_=>Ps->Bool) (λq=>Ps.rec (motive:=λ_=>Bool) true (λ_ _=>false) (λ_ _=>false) q)
  (λ_ ih q=>Ps.rec (motive:=λ_=>Bool) false (λq _=>ih q) (λ_ _=>false) q) (λ_ ih q=>Ps.rec (motive:=λ_=>Bool) false (λ_ _=>false) (λq _=>ih q) q) p q
theorem yZ:∀{p q:Ps},AB p q=true->p=q:=by
 intro p
 induction p with
 |h=>intro q h;cases q with|h=>rfl|o q=>cases h|i q=>cases h
 |o p ih=>intro q h;cases q with|h=>cases h|o q=>rw[ih (q:=q) h]|i q=>cases h
 |i p ih=>intro q h;cases q with|h=>cases h|o q=>cases h|i q=>rw[ih (q:=q) h]
def Pz(u v:V):Bool:=
 match u,v with
 |.int k n,.int k' n'=>Hc k k'&&Yy n n'
 |.sym a c,.sym a' c'=>Nat.beq a a'&&Nat.beq c c'
 |.bool a,.bool b=>!(xor a b)
 |.str n N,.str m N'=>Nat.beq n m&&Nat.beq N N'
 |.sA,.sA|.lJ,.lJ|.uU,.uU|.A3,.A3|.zd,.zd=>true
 |_,_=>false
noncomputable def Ah(u v:V):Bool:=
 match u,v with
 |.ptr b o,.ptr b' o'=>AB b b'&&Nat.beq o o'
 |.slice b o l c,.slice b' o' l' c'=>AB b b'&&Nat.beq o o'&&Nat.beq l l'&&Nat.beq c c'
 |.gE b es l d,.gE b' vw l' d'=>AB b b'&&Nat.beq es vw&&Nat.beq l l'&&Nat.beq d d'
 |.map m,.map m'=>AB m m'
 |u,v=>Pz u v
noncomputable def Rm(l m:List V):Bool:=List.rec (motive:=λ_=>List V->Bool) (λm=>match m with|[]=>true|_=>false) (λu _ ih m=>match m with|v::m=>Ah u v&&ih m|[]=>false) l m
noncomputable def Py(u v:V):Bool:=
 match u,v with
 |.agg l,.agg m=>Rm l m
 |u,v=>Ah u v
noncomputable def vS(u v:V):Bool:=
 match u,v with
 |.iface t x,.iface t' y=>Nat.beq t t'&&Py x y
 |.agg l,.agg m=>Rm l m
 |.fn f [] [],.fn g [] []=>Nat.beq f g
 |u,v=>Ah u v
section
variable {x y:Value}
theorem gQ{a b:Bool}(h:(a&&b)=true):a=true/\b=true:=by cases a<;>cases b<;>simp_all
theorem acC{u v:V}(h:Pz u v=true)(hu:Dn ρ M u x)(hv:Dn ρ M v y):x=y:=by
 unfold Pz at h
 split at h
 ·cases hu;cases hv;obtain⟨h1,h2⟩:=gQ h;rw[C6 h1];rw[xB,decide_eq_true_eq] at h2;rw[h2]
 ·cases hu;cases hv;obtain⟨h1,h2⟩:=gQ h;rw[Nat.eq_of_beq_eq_true h1,Nat.eq_of_beq_eq_true h2]
 ·cases hu;cases hv;rename_i a b;cases a<;>cases b<;>first|rfl|cases h
 ·cases hu;cases hv;obtain⟨h1,h2⟩:=gQ h;rw[Nat.eq_of_beq_eq_true h1,Nat.eq_of_beq_eq_true h2]
 all_goals first
  |(cases hu;cases hv;rfl)
  |cases h
theorem Iy{u v:V}(h:Ah u v=true)(hu:Dn ρ M u x)(hv:Dn ρ M v y):x=y:=by
 unfold Ah at h
 split at h
 ·obtain⟨h1,h2⟩:=gQ h
  have e1:=yZ h1
  have e2:=Nat.eq_of_beq_eq_true h2
  subst e1 e2
  cases hu with|ptr q1=>cases hv with|ptr q2=>rw[q1] at q2;cases q2;rfl
 ·obtain⟨h,h4⟩:=gQ h
  obtain⟨h,h3⟩:=gQ h
  obtain⟨h1,h2⟩:=gQ h
  have e1:=yZ h1
  have e2:=Nat.eq_of_beq_eq_true h2
  have e3:=Nat.eq_of_beq_eq_true h3
  have e4:=Nat.eq_of_beq_eq_true h4
  subst e1 e2 e3 e4
  cases hu with|slice q1=>cases hv with|slice q2=>rw[q1] at q2;cases q2;rfl
 ·obtain⟨h,h4⟩:=gQ h
  obtain⟨h,h3⟩:=gQ h
  obtain⟨h1,h2⟩:=gQ h
  have e1:=yZ h1
  have e2:=Nat.eq_of_beq_eq_true h2
  have e3:=Nat.eq_of_beq_eq_true h3
  have e4:=Nat.eq_of_beq_eq_true h4
  subst e1 e2 e3 e4
  cases hu with|gE q1 _=>cases hv with|gE q2 _=>rw[q1] at q2;cases q2;rfl
 ·have e1:=yZ h
  subst e1
  cases hu with|map q1=>cases hv with|map q2=>rw[q1] at q2;cases q2;rfl
 ·exact acC h hu hv
theorem HA:∀{l m:List V},Rm l m=true->∀{a b:List Value},iz ρ M l a->iz ρ M m b->a=b:=by
 intro l
 induction l with
 |nil=>intro m h a b ha hb;cases m with
  |nil=>rw[ha.kI,hb.kI]
  |cons=>cases h
 |cons u l ih=>intro m h a b ha hb;cases m with
  |nil=>cases h
  |cons v m=>
   replace h:(Ah u v&&Rm l m)=true:=h
   obtain⟨h1,h2⟩:=gQ h
   obtain⟨x,a',rfl,d1,d2⟩:=ha.eh
   obtain⟨y,b',rfl,d3,d4⟩:=hb.eh
   rw[Iy h1 d1 d3,ih h2 d2 d4]
theorem acB{u v:V}(h:Py u v=true)(hu:Dn ρ M u x)(hv:Dn ρ M v y):x=y:=by
 unfold Py at h
 split at h
 ·cases hu with|agg l1 d1=>cases hv with|agg l2 d2=>rw[HA h ⟨l1,d1⟩ ⟨l2,d2⟩]
 ·exact Iy h hu hv
theorem agF{u v:V}(h:vS u v=true)(hu:Dn ρ M u x)(hv:Dn ρ M v y):x=y:=by
 unfold vS at h
 split at h
 ·obtain⟨h1,h2⟩:=gQ h
  have e1:=Nat.eq_of_beq_eq_true h1
  subst e1
  cases hu with|iface d1=>cases hv with|iface d2=>rw[acB h2 d1 d2]
 ·cases hu with|agg l1 d1=>cases hv with|agg l2 d2=>rw[HA h ⟨l1,d1⟩ ⟨l2,d2⟩]
 ·have e1:=Nat.eq_of_beq_eq_true h
  subst e1
  cases hu with
  |fn a1 a2 _ _=>
  cases hv with
  |fn b1 b2 _ _=>
  have q1:=List.length_eq_zero_iff.1 a1.symm
  have q2:=List.length_eq_zero_iff.1 a2.symm
  have q3:=List.length_eq_zero_iff.1 b1.symm
  have q4:=List.length_eq_zero_iff.1 b2.symm
  rw[q1,q2,q3,q4]
 ·exact Iy h hu hv
end
abbrev Dl:=List (Nat×Tr V×V)
noncomputable def wA(P:Program)(ops:Array Oper)(m:Nat)(h:Hp)(D:Dl)(k:Bool):Bool:=
 List.rec (motive:=λ_=>Bool) k (λx _ ih=>match m.testBit x.1 with
  |true=>ih
  |false=>match ops[x.1]? with|some o=>Gq P h o.op x.2.1 λu=>bif vS u x.2.2 then ih else false|none=>false) D
inductive DR (ρ:ig) (M:Nat):Dl->List (Nat×Env×Value)->Prop where
 |nil:DR ρ M [] []
 |cons {x:Nat×Tr V×V} {y:Nat×Env×Value} {D D'} (h:x.1=y.1/\E ρ M x.2.1 y.2.1/\Dn ρ M x.2.2 y.2.2) (r:DR ρ M D D'):DR ρ M (x::D) (y::D')
theorem DR.mono{ρ ρ':ig}(hl:Le ρ ρ'){D:Dl}{D':List (Nat×Env×Value)}(h:DR ρ M D D'):DR ρ' M D D':=by
 induction h with
 |nil=>exact .nil
 |cons hx _ ih=>exact .cons ⟨hx.1,hx.2.1.mono hl,hx.2.2.mono hl⟩ ih
theorem DR.snoc{ρ:ig}{M:Nat}{D:Dl}{D':List (Nat×Env×Value)}(h:DR ρ M D D'){x:Nat×Tr V×V}{y:Nat×Env×Value}(hx:x.1=y.1/\E ρ M x.2.1 y.2.1/\Dn ρ M x.2.2 y.2.2):DR ρ M (D++[x]) (D'++[y]):=by
 induction h with
 |nil=>exact .cons hx .nil
 |cons h0 _ ih=>exact .cons h0 ih
theorem sv{ops:Array Oper}{m:Nat}{k:Bool}(r:R ρ M U h H):∀{D:Dl}{D':List (Nat×Env×Value)},DR ρ M D D'->wA P ops m h D k=true->k=true/\∀A:Prop,A->km P ops m H D' A:=by
 intro D
 induction D with
 |nil=>intro D' hd hh;cases hd;exact⟨hh,λA a=>a⟩
 |cons x D ih=>
  intro D' hd hh
  cases hd with
  |cons hx hr=>
  rename_i y D'
  obtain⟨i,ex,v⟩:=x
  obtain⟨j,ey,w⟩:=y
  obtain⟨e1,e2,e3⟩:=hx
  simp only at e1 e2 e3
  subst e1
  replace hh:(match m.testBit i with
   |true=>wA P ops m h D k
   |false=>match ops[i]? with|some o=>Gq P h o.op ex λu=>bif vS u v then wA P ops m h D k else false|none=>false)=true:=hh
  split at hh
  ·rename_i hb
   obtain⟨h1,h2⟩:=ih hr hh
   refine⟨h1,λA a=>?_⟩
   unfold km
   rw[hb]
   exact h2 A a
  ·rename_i hb
   split at hh
   ·rename_i o ho
    obtain⟨u,xu,X7,hh,vQ⟩:=qa e2 r hh
    obtain⟨hs,hh⟩:=jc hh
    obtain⟨h1,h2⟩:=ih hr hh
    refine⟨h1,λA a=>?_⟩
    unfold km
    rw[hb]
    simp only[ho]
    refine⟨?_,h2 A a⟩
    rw[<-agF hs X7 e3]
    exact vQ
   ·cases hh
noncomputable def xD(P:Program)(cf:nk)(ops:Array Oper)(B:List Nat)(l:List Nat)(env:Tr V)(h:Hp)(D:Dl)(K:KE):Bool:=
 List.rec (motive:=λ_=>Tr V->Hp->Dl->Bool) (λenv h _=>K env h)
  (λi _ ih env h D=>match ops[i]? with
   |none=>false
   |some o=>po ops o env λw=>match w with
    |false=>hO env o.dst (.ru []) λenv=>ih env h D
    |true=>match kindOf P o.op with
     |.pure=>ye P cf o env h λv h=>hO env o.dst v λenv=>ih env h D
     |.read=>ye P cf o env h λv h=>hO env o.dst v λeJ=>ih eJ h (D++[(i,env,v)])
     |.write=>ye P cf o env h λv h=>wA P ops (B.getD i 0) h D (hO env o.dst v λenv=>ih env h D)) l env h D
section
variable {cf:nk}
abbrev AL:=List Nat->Env->Heap->List (Nat×Env×Value)->Prop
abbrev AT:AL:=λ_ _ _ _=>True
theorem sJ(hp:j0 P=true){ops:Array Oper}{B:List Nat}{A:AL}{K K':Env->Heap->Prop}(hk:∀e H,K e H->K' e H)(A':AL)(hA:∀l e H D,A l e H D->A' l e H D):∀(l:List Nat)(e:Env)(H:Heap)(D:List (Nat×Env×Value)),sd P ops B A l e H D K->sd P ops B A' l e H D K':=by
 intro l
 induction l with
 |nil=>intro e H D h;exact hk _ _ h
 |cons i l Hd=>
  intro e H D h
  unfold sd at h⊢
  split
  ·rename_i ho;rw[ho] at h;exact h
  ·rename_i o ho
   rw[ho] at h
   simp only at h
   split
   ·rename_i hw;rw[hw] at h;exact h
   ·rename_i hw;rw[hw] at h;exact Hd _ _ _ h
   ·rename_i hw
    rw[hw] at h
    simp only at h
    split
    ·rename_i hkk;rw[hkk] at h;simp only at h
     exact .inr λo' kh=>by
      obtain⟨v,hv,hr⟩:=jm (o:=o') (by rw[kh];exact h)
      exact⟨v,pS (Hd _ _ _ (nX hv)),by rw[kh] at hr;exact hr⟩
    ·rename_i hkk;rw[hkk] at h;simp only at h
     exact .inr λo' kh=>by
      obtain⟨v,hv,hr⟩:=iy (o:=o') (by rw[kh];exact h)
      exact⟨v,pS (Hd _ _ _ (nX hv)),by rw[kh] at hr;exact hr⟩
    ·rename_i hkk;rw[hkk] at h;simp only at h
     refine⟨fD hp h.1 λu H' q=>?_,hA _ _ _ _ h.2⟩
     have Lf:∀(D:List (Nat×Env×Value))(A A':Prop),(A->A')->km P ops (B.getD i 0) H' D A->km P ops (B.getD i 0) H' D A':=by
      intro D
      induction D with
      |nil=>intro A A' f h;exact f h
      |cons x D tY=>
       intro A A' f h
       obtain⟨r,e,v⟩:=x
       unfold km at h⊢
       split
       ·rename_i ht;rw[ht] at h;exact tY _ _ f h
       ·rename_i ht;rw[ht] at h;exact⟨h.1,tY _ _ f h.2⟩
     exact Lf _ _ _ (λq=>pS (Hd _ _ _ (nX q))) q
theorem Nb(hp:j0 P=true)(oN:fY P M cf){ops:Array Oper}{B:List Nat}{K:KE}:∀(l:List Nat)(ρ:ig)(env:Tr V)(h:Hp)(e:Env)(H:Heap)(D:Dl)(D':List (Nat×Env×Value)),xD P cf ops B l env h D K=true->E ρ M env e->R ρ M U h H->DR ρ M D D'->
 sd P ops B AT l e H D' (At ρ M U K):=by
 intro l
 induction l with
 |nil=>intro ρ env h e H D D' hh he r _;exact⟨ρ,env,h,Le.refl _,he,r,hh⟩
 |cons i l ih=>
  intro ρ env h e H D D' hh he r hD
  replace hh:(match ops[i]? with
   |none=>false
   |some o=>po ops o env λw=>match w with
    |false=>hO env o.dst (.ru []) λenv=>xD P cf ops B l env h D K
    |true=>match kindOf P o.op with
     |.pure=>ye P cf o env h λv h=>hO env o.dst v λenv=>xD P cf ops B l env h D K
     |.read=>ye P cf o env h λv h=>hO env o.dst v λeJ=>xD P cf ops B l eJ h (D++[(i,env,v)]) K
     |.write=>ye P cf o env h λv h=>wA P ops (B.getD i 0) h D (hO env o.dst v λenv=>xD P cf ops B l env h D K))=true:=hh
  unfold sd
  split at hh
  ·cases hh
  ·rename_i o ho
   rw[ho]
   simp only
   obtain⟨b,hw,hh⟩:=sr he hh
   rw[hw]
   have step:∀{ρ':ig}{v:V}{x:Value}{h':Hp}{H':Heap}{D:Dl}{D':List (Nat×Env×Value)},Le ρ ρ'->R ρ' M U h' H'->Dn ρ' M v x->(hO env o.dst v λenv=>xD P cf ops B l env h' D K)=true->DR ρ' M D D'->
    sd P ops B AT l (put e o.dst x) H' D' (At ρ M U K):=by
    intro ρ' v x h' H' D D' hl r' hd hk hD
    obtain⟨eJ,hk,jU⟩:=uR hk (he.mono hl) hd
    have:=ih ρ' eJ h' _ H' D D' hk jU r' hD
    exact sJ hp (λe H⟨ρ2,lK,h2,a,b,c,d⟩=>⟨ρ2,lK,h2,hl.trans a,b,c,d⟩) AT (λ_ _ _ _ h=>h) _ _ _ _ this
   cases b with
   |false=>exact step (Le.refl _) r o3 hh hD
   |true=>
    simp only at hh⊢
    simp only[rI] at hh
    unfold B9 at hh
    cases hk:kindOf P o.op with
    |pure=>
     rw[hk] at hh
     simp only at hh⊢
     obtain⟨t,nx,lo,hi⟩:=h
     replace hh:(yd P lo hi o.op env λv lo hi=>hO env o.dst v λenv=>xD P cf ops B l env ⟨t,nx,lo,hi⟩ D K)=true:=hh
     obtain⟨v,x,Xr,nN,hd,h1,h2,hk,vQ⟩:=sf he r.gl r.bd.1 r.bd.2 hh
     exact oX vQ (pS (step (Le.refl _) (r.bound h1 h2) hd hk hD))
    |read=>
     rw[hk] at hh
     simp only at hh⊢
     obtain⟨v,x,hd,hk,vQ⟩:=qa he r hh
     have GI:DR ρ M (D++[(i,env,v)]) (D'++[(i,e,x)]):=hD.snoc ⟨rfl,he,hd⟩
     exact kW vQ (pS (step (Le.refl _) r hd hk GI))
    |write=>
     rw[hk] at hh
     simp only at hh⊢
     have:=qo hp oN he r hh
     refine⟨fD hp this ?_,trivial⟩
     rintro u H' ⟨ρ',v,h',hl,r',hd,hk⟩
     simp only[tt] at hk
     obtain⟨hk,Bb⟩:=sv r' (hD.mono hl) hk
     exact Bb _ (pS (step hl r' hd hk (hD.mono hl)))
end
end Go.X
namespace Go.Ex
section
variable {P:Program} {N:Nat} {Ds:List Deferred} {ops:Array Oper} {Q:Exit->Act->World->Prop} {K:Env->Heap->Prop}
def AF(P:Program)(ops:Array Oper)(K:Env->Heap->Prop)(d:Nat)(l:List Nat)(e:Env)(H:Heap)(D:List (Nat×Env×Value)):Prop:=
 d∈l->sd P ops (gM ops.toList []) (λ_ _ _ _=>True) (d::l.erase d) e H D K
theorem Ff(hp:j0 P=true)(hN:gm N ops=true){X:Nat->Bool}{ord:List Nat}{d:Nat}{od:Oper}(oV:∀l1 i l2,ord=l1++i::l2->wS P ops (gM ops.toList []) X l1 i l2)(fC:∀i<ops.size,i∈ord)
 (FR:ops[d]?=some od)(Ji:kindOf P od.op=.write)(To:od.guard=none)
 (hXd:∀l1 l2,ord=l1++d::l2->∀c,X c=true->c∈l1)
 (hXw:∀l1 c l2,ord=l1++c::l2->X c=true->∀j∈l2,j=d\/((gM ops.toList []).getD j 0).testBit c=true)
 (adN:∀tr c rest oc,ord=tr++c::rest->d∈rest->ops[c]?=some oc->kindOf P oc.op=.write->
  (∀l1 i l2,tr++d::(c::rest).erase d=l1++i::l2->wS P ops (gM ops.toList []) (λi=>Nat.beq d i||tr.any (Nat.beq i)) l1 i l2))
 (a₀:Act)(w₀:World)(e₀:Env)(hQ:∀a' w' e',Mt N Ds a' e'->dV w₀ w'->fz (lh ops) a₀ a'->K e' w'.heap->Q .normal a' w'):
 ∀(fuel:Nat)(listed:Array Bool)(a:Act)(w:World),(∃tr post D,Inv P N Ds (AF P ops K d) ops K ord a₀ w₀ e₀ listed a w tr post D/\d∈post)->
  (List.range ops.size).countP (λi=>!sb listed i)=fuel->wpAny P .any ops Q fuel listed a w:=by
 have bare:∀(e:Env),eB ops od e=some true:=λe=>by unfold eB;rw[To]
 intro fuel
 induction fuel with
 |zero=>
  rintro listed a w ⟨tr,post,D,I,hX⟩ hc
  have hr:=GW I.sz hc
  exact⟨hr,Jp oV hQ ⟨tr,post,D,I⟩ hr⟩
 |succ fuel ih=>
  rintro listed a w ⟨tr,post,D,I,X8⟩ hc
  refine⟨Jp oV hQ ⟨tr,post,D,I⟩,λi hi=>?_⟩
  obtain⟨lC,Jk,o,sG,mr⟩:=Lo I.sz hi
  have xz:=count_set I.sz lC Jk hc
  have aqJ:d∉tr.map (·.1):=by
   obtain⟨m1,m2,rfl⟩:=List.append_of_mem X8
   have:=(oV (tr.map (·.1)++m1) d m2 (by rw[I.split];simp)).fresh
   exactλh=>this (List.mem_append.2 (.inl h))
  have hSd:sb listed d=false:=by
   cases h:sb listed d with
   |false=>rfl
   |true=>exact absurd (I.tW d h) aqJ
  by_cases FP:i∈tr.map (·.1)
  ·obtain⟨x,hx,DT⟩:=List.mem_map.1 FP
   obtain⟨i',v,ei⟩:=x
   simp only at DT
   subst DT
   obtain⟨h1,h2⟩:=P8 (Q:=Q) hN oV I lC sG Jk mr hx
   exact h2 _ (ih _ _ _ ⟨tr,post,D,h1,X8⟩ xz)
  ·have xy:i∈post:=by
    have:=fC i lC
    rw[I.split,List.mem_append] at this
    rcases this with h|h
    ·exact absurd h FP
    ·exact h
   rcases I.head with ET|⟨c,rest,oc,qu,rV,Uh,Ya⟩
   ·rw[ET] at xy;simp at xy
   ·subst qu
    have MY:=oV _ _ _ I.split
    by_cases Fz:i=c
    ·subst Fz
     rw[sG] at rV
     obtain rfl:=Option.some.inj rV
     by_cases hid:i=d
     ·subst hid
      refine vB hp hN oV I lC sG Jk mr Uh Ya λv w' Wh sy D' I'=>Bo hp hN oV fC a₀ w₀ e₀ hQ _ _ _ _ ⟨_,sy,D',I',λc hc=>?_⟩ xz
      rw[List.map_append,List.mem_append]
      exact .inl (hXd _ _ I.split c hc)
     ·refine vB hp hN oV I lC sG Jk mr Uh Ya λv w' Wh sy D' I'=>ih _ _ _ ⟨_,sy,D',I',?_⟩ xz
      have am3:d∈ord:=fC d (Array.getElem?_eq_some_iff.1 FR).1
      rw[I'.split,List.mem_append] at am3
      rcases am3 with h|h
      ·exfalso
       obtain⟨x,hx,uv⟩:=List.mem_map.1 h
       obtain⟨xd,xv,xe⟩:=x
       simp only at uv
       subst uv
       have hl:=(I'.facts _ hx).2 od FR (bare _) Ji
       rw[I0 (by rw[I.sz];exact lC),if_neg (λe=>hid e.symm),hSd] at hl
       cases hl
      ·exact h
    ·by_cases hid:i=d
     ·subst hid
      rw[sG] at FR
      obtain rfl:=Option.some.inj FR
      have B7:i∈rest:=by
       rcases List.mem_cons.1 X8 with h|h
       ·exact absurd h Fz
       ·exact h
      have am9:=adN (tr.map (·.1)) c rest oc I.split B7 rV Uh
      have iE:=I.rest
      unfold sd at iE
      rw[rV] at iE
      simp only[Ya,Uh] at iE
      have hJ:Inv P N Ds (λ_ _ _ _=>True) ops K (tr.map (·.1)++i::(c::rest).erase i) a₀ w₀ e₀ listed a w tr (i::(c::rest).erase i) D:=
       ⟨I.sz,I.down,rfl,I.chain,I.facts,I.reads,iE.2 X8,.inr ⟨i,_,o,rfl,sG,Ji,bare _⟩,I.mt,I.tW,I.tP,I.keeps⟩
      refine vB hp hN am9 hJ lC sG Jk mr Ji (bare _) λv w' Wh sy D' I'=>Bo hp hN am9 (λj hj=>?_) a₀ w₀ e₀ hQ _ _ _ _ ⟨_,sy,D',I',λc hc=>?_⟩ xz
      ·have:=fC j hj
       rw[I.split,List.mem_append] at this
       rw[List.mem_append,List.mem_cons]
       rcases this with h|h
       ·exact .inl h
       ·by_cases q9:j=i
        ·exact .inr (.inl q9)
        ·exact .inr (.inr ((List.mem_erase_of_ne q9).2 h))
      ·rw[Bool.or_eq_true] at hc
       rcases hc with hc|hc
       ·obtain rfl:=Nat.eq_of_beq_eq_true hc
        simp
       ·obtain⟨y,hy,hb⟩:=List.any_eq_true.1 hc
        obtain rfl:=Nat.eq_of_beq_eq_true hb
        rw[List.map_append,List.mem_append]
        exact .inl hy
     ·exfalso
      have B7:i∈rest:=by
       rcases List.mem_cons.1 xy with h|h
       ·exact absurd h Fz
       ·exact h
      have hb:((gM ops.toList []).getD i 0).testBit c=true:=by
       cases hX:X c with
       |false=>exact MY.write hX oc rV Uh i B7
       |true=>
        rcases hXw _ _ _ I.split hX i B7 with h|h
        ·exact absurd h hid
        ·exact h
      exact MY.fresh (I.tW c (qf I.down sG mr hb))
end
end Go.Ex
namespace Go.X
open Go.Ex
variable {P:Program} {ρ:ig} {M:Nat} {U:Un} {h:Hp} {H:Heap} {env:Tr V} {e:Env}
def ade(len:Option Nat)(b:Nat):Value:=match len with|none=>.pointer (some ⟨b,0,none⟩)|some n=>.slice (some ⟨b,0,none⟩) n n
def VO(len:Option Nat)(b:Ps):V:=match len with|none=>.ptr b 0|some n=>.slice b 0 n n
theorem ami{ρ:ig}{M:Nat}{p:Ps}{fv kap:Nat}(h:ρ p=some (fv,0,kap))(len:Option Nat):Dn ρ M (VO len p) (ade len fv):=by
 cases len with
 |none=>have:=Dn.ptr (M:=M) (o:=0) h;exact this
 |some n=>have:=Dn.slice (M:=M) (o:=0) (l:=n) (c:=n) h;exact this
def FG(P:Program)(op:Op)(e:Env)(el:TypeId)(us:List Value)(len:Option Nat):Prop:=
 (∃t i z,op=.alloc t/\P.info? t=some i/\i.zero=some z/\el=t/\us=dD z/\len=none)\/
 (∃t n parts i z ps,op=.buildSlice t n parts/\P.underlying t=some (.slice el)/\P.info? el=some i/\i.zero=some z/\(Nat.ble (n*i.size) 1024&&Nat.beq (dD z).length i.size)=true/\
  parts.toList.map (λx=>(x.1,mo e x.2))=ps.map (λ(x:Nat×Value)=>(x.1,some x.2))/\
  (∀Q:List Value->Prop,Q us->pr (λj=>some (j*i.size,i.size,eT P el)) ((List.replicate n (dD z)).flatten) ps Q)/\len=some n)
theorem FG.run{op:Op}{el:TypeId}{us:List Value}{len:Option Nat}(hn:FG P op e el us len){Kp:Value->Heap->Prop}(hk:Kp (ade len H.size) (gy H us.toArray el)):ny P op e H Kp:=by
 rcases hn with⟨t,i,z,rfl,hi,hz,rfl,rfl,rfl⟩|⟨t,n,parts,i,z,ps,rfl,hu,hi,hz,hb,hl,hf,rfl⟩
 ·refine .inl ?_
  simp only[jL,re,hi,hz]
  exact hk
 ·refine .inl ?_
  simp only[jL,hu,hi]
  refine IT hl _ _ ?_
  simp only[re,hi,hz,hb,cond_true,List.nil_append]
  exact hf _ hk
theorem FG.det{op:Op}{el De:TypeId}{us PC:List Value}{len amm:Option Nat}(h1:FG P op e el us len)(h2:FG P op e De PC amm):el=De/\us=PC/\len=amm:=by
 rcases h1 with⟨t,i,z,rfl,hi,hz,rfl,rfl,rfl⟩|⟨t,n,parts,i,z,ps,rfl,hu,hi,hz,hb,hl,hf,rfl⟩
 ·rcases h2 with⟨t',i',z',he,nN,XK,rfl,rfl,rfl⟩|⟨t',n',agZ,i',z',SP,he,_⟩
  ·cases he
   rw[hi] at nN
   cases nN
   rw[hz] at XK
   cases XK
   exact⟨rfl,rfl,rfl⟩
  ·cases he
 ·rcases h2 with⟨t',i',z',he,_⟩|⟨t',n',agZ,i',z',SP,he,uH,nN,XK,rb,F8,WW,rfl⟩
  ·cases he
  ·cases he
   rw[hu] at uH
   cases uH
   rw[hi] at nN
   cases nN
   rw[hz] at XK
   cases XK
   have Ub:ps=SP:=by
    rw[hl] at F8
    clear hf WW hl
    induction ps generalizing SP with
    |nil=>cases SP with|nil=>rfl|cons=>simp at F8
    |cons p ps ih=>cases SP with
     |nil=>simp at F8
     |cons p' SP=>
      simp only[List.map_cons,List.cons.injEq,Prod.mk.injEq,Option.some.injEq] at F8
      rw[ih SP F8.2,Prod.ext F8.1.1 F8.1.2]
   subst Ub
   obtain⟨c1,e1,f1⟩:=ou (hf (·=us) rfl)
   obtain⟨c2,e2,f2⟩:=ou (WW (·=PC) rfl)
   subst e1 e2
   rw[f1] at f2
   simp only[Option.some.injEq] at f2
   have:c1=c2:=by simpa using f2
   exact⟨rfl,this,rfl⟩
theorem FG.congr{op:Op}{e':Env}{el:TypeId}{us:List Value}{len:Option Nat}(hn:FG P op e el us len)(hc:∀y∈op.operands.toList,mo e' y=mo e y):FG P op e' el us len:=by
 rcases hn with h|⟨t,n,parts,i,z,ps,rfl,hu,hi,hz,hb,hl,hf,rfl⟩
 ·exact .inl h
 ·refine .inr ⟨t,n,parts,i,z,ps,rfl,hu,hi,hz,hb,?_,hf,rfl⟩
  rw[<-hl]
  apply List.map_congr_left
  intro x hx
  rw[hc x.2 (by simp[Op.operands];exact⟨x.1,by simpa using hx⟩)]
def QE:Op->Bool
 |.alloc _|.buildSlice ..=>true
 |_=>false
theorem Di{cf:nk}(he:E ρ M env e)(hg:Gl ρ){op:Op}(hn:QE op=true){K:V->Hp->Bool}(hh:Au P cf h op env K=true):
 ∃el us len cs es,FG P op e el us len/\iz ρ M cs us/\ze h (.cells cs el es false false) (λb h=>K (VO len b) h)=true:=by
 rw[Dj] at hh
 unfold HK at hh
 split at hh<;>first|(cases hn;done)|(cases hh;done)|skip
 ·unfold Dq at hh
  obtain⟨z,y,hz,hh,hq⟩:=kC (ρ:=ρ) (M:=M) hh
  obtain⟨qE,hh⟩:=jc hh
  obtain⟨i,z',hi,XK,pW,_⟩:=jx (hq (·=y) rfl)
  subst pW
  exact⟨_,_,none,_,_,.inl ⟨_,i,_,rfl,hi,XK,rfl,rfl,rfl⟩,mF hz (oo qE),hh⟩
 ·obtain⟨vs,ps,h0,h1,h2,hh⟩:=Dm he hg hh
  unfold UB at hh
  split at hh
  ·rename_i el hu
   split at hh
   ·rename_i i hi
    obtain⟨z,yz,hz,hh,hq⟩:=kC (ρ:=ρ) (M:=M) hh
    obtain⟨hb,hh⟩:=jc hh
    rw[vu] at hh
    simp only[Bool.and_eq_true] at hb
    obtain⟨⟨b1,b2⟩,b3⟩:=hb
    have hd:=mF hz (oo b1)
    obtain⟨cs,us,hh,xW,hf⟩:=vU hh h1 h2 (hd.Gp _)
    obtain⟨i',z',nN,XK,pW,_⟩:=jx (hq (·=yz) rfl)
    subst pW
    rw[hi] at nN
    cases nN
    refine⟨el,us,some _,cs,_,.inr ⟨_,_,_,i,_,ps,rfl,hu,hi,XK,?_,h0,hf,rfl⟩,xW,hh⟩
    rw[<-hd.1,b2,b3]
    rfl
   ·cases hh
  ·cases hh
def zq(P:Program)(ops:Array Oper)(i:Nat):Bool:=match ops[i]? with|some o=>kindOf P o.op==.write|none=>false
def zw(ops:Array Oper)(od:Oper)(j:Nat):Bool:=match ops[j]? with|some o=>(match o.dst with|some t=>!((jr ops od).any (Nat.beq t))|none=>true)|none=>false
def Jv(P:Program)(ops:Array Oper)(B:List Nat)(d:Nat)(od:Oper)(s:List Nat):List Nat->List Nat->Bool
 |_,[]=>true
 |done,c::p2=>(bif zq P ops c then uT P ops B (λi=>Nat.beq d i||done.any (Nat.beq i)) (done++d::c::(p2++s)) 0&&(p2++s).all (λj=>(B.getD j 0).testBit c)&&(c::(p2++s)).all (zw ops od) else true)&&Jv P ops B d od s (done++[c]) p2
def Q5(ops:Array Oper)(od:Oper)(j:Nat):Bool:=match ops[j]?,od.dst with|some o,some t=>(match o.dst with|some t'=>!(Nat.beq t' t)|none=>true)|_,_=>false
def WE(od:Oper):Bool:=od.op.operands.toList.all λy=>match y,od.dst with|.tmp t,some t'=>!(Nat.beq t t')|_,_=>true
theorem NQ{od:Oper}(h:WE od=true):∀y∈od.op.operands.toList,∀t,y=.tmp t->od.dst≠some t:=by
 intro y hy t ht e
 have:=List.all_eq_true.1 h y hy
 rw[ht,e] at this
 simp at this
def tE(P:Program)(ops:Array Oper)(B:List Nat)(p:List Nat)(d:Nat)(s:List Nat):Bool:=
 match ops[d]? with
 |some od=>kindOf P od.op==.write&&od.guard.isNone&&QE od.op&&afH ops (p++d::s)&&uT P ops B (λi=>p.any (Nat.beq i)&&zq P ops i) (p++d::s) 0&&Jv P ops B d od s [] p&&!(p.any (Nat.beq d))&&!(s.any (Nat.beq d))&&p.all (Q5 ops od)&&WE od
 |none=>false
theorem any_beq{l:List Nat}{d:Nat}:l.any (Nat.beq d)=true↔d∈l:=by
 rw[List.any_eq_true]
 constructor
 ·rintro⟨x,hx,h⟩;rw[Nat.eq_of_beq_eq_true h];exact hx
 ·intro h;exact⟨d,h,by simp⟩
theorem jD{c:Nat}:∀{l1 p1 l2 q2:List Nat},l1++c::l2=p1++c::q2->c∉l1->c∉p1->l1=p1/\l2=q2
 |[],[],_,_,h,_,_=>by simp at h;exact⟨rfl,h⟩
 |[],x::p1,_,_,h,_,h2=>by simp at h;exact absurd (by simp[h.1]) h2
 |x::l1,[],_,_,h,h1,_=>by simp at h;exact absurd (by simp[h.1]) h1
 |x::l1,y::p1,l2,q2,h,h1,h2=>by
  simp only[List.cons_append,List.cons.injEq] at h
  obtain⟨e1,e2⟩:=jD h.2 (λm=>h1 (by simp[m])) (λm=>h2 (by simp[m]))
  exact⟨by rw[h.1,e1],e2⟩
theorem vZ{ops:Array Oper}{B:List Nat}{d:Nat}{od:Oper}{s:List Nat}:∀{p done:List Nat},Jv P ops B d od s done p=true->∀p1 c p2,p=p1++c::p2->zq P ops c=true->
 uT P ops B (λi=>Nat.beq d i||(done++p1).any (Nat.beq i)) (done++p1++d::c::(p2++s)) 0=true/\(∀j∈p2++s,(B.getD j 0).testBit c=true)/\∀j∈c::(p2++s),zw ops od j=true
 |[],_,_,p1,c,p2,h,_=>by simp at h
 |x::p,done,hc,p1,c,p2,h,hw=>by
  unfold Jv at hc
  obtain⟨h1,h2⟩:=gQ hc
  cases p1 with
  |nil=>
   simp only[List.nil_append,List.cons.injEq] at h
   obtain⟨rfl,rfl⟩:=h
   rw[hw] at h1
   simp only[cond_true] at h1
   obtain⟨h1,h3⟩:=gQ h1
   obtain⟨h1,h4⟩:=gQ h1
   exact⟨by simpa using h1,List.all_eq_true.1 h4,List.all_eq_true.1 h3⟩
  |cons y p1=>
   simp only[List.cons_append,List.cons.injEq] at h
   obtain⟨rfl,rfl⟩:=h
   have:=vZ h2 p1 c p2 rfl hw
   simpa using this
noncomputable def acJ(P:Program)(ops:Array Oper)(B:List Nat)(d:Nat)(od:Oper)(env:Tr V)(h:Hp)(D:Dl):Bool:=
 Au P (λ_ _ _ _=>false) ⟨.lf,.h,0,0⟩ od.op env (λ_ _=>true)&&wA P ops (B.getD d 0) h D true
noncomputable def MV(P:Program)(cf:nk)(ops:Array Oper)(B:List Nat)(d:Nat)(od:Oper)(l:List Nat)(env:Tr V)(h:Hp)(D:Dl)(K:KE):Bool:=
 List.rec (motive:=λ_=>Tr V->Hp->Dl->Bool) (λ_ _ _=>false)
  (λi r ih env h D=>bif Nat.beq i d then xD P cf ops B (i::r) env h D K else match ops[i]? with
   |none=>false
   |some o=>po ops o env λw=>match w with
    |false=>hO env o.dst (.ru []) λenv=>ih env h D
    |true=>match kindOf P o.op with
     |.pure=>ye P cf o env h λv h=>hO env o.dst v λenv=>ih env h D
     |.read=>ye P cf o env h λv h=>hO env o.dst v λeJ=>ih eJ h (D++[(i,env,v)])
     |.write=>bif acJ P ops B d od env h D then ye P cf o env h λv h=>wA P ops (B.getD i 0) h D (hO env o.dst v λenv=>ih env h D) else false) l env h D
section
variable {cf:nk}
theorem WX(hp:j0 P=true)(oN:fY P M cf){e:Env}{t:Nat}{x:Value}(h:e t=some x):put e (some t) x=e:=by
 funext j
 rw[kS]
 split
 ·rename_i hj;rw[hj,h]
 ·rfl
theorem Qo(hp:j0 P=true)(oN:fY P M cf){e:Env}{d:Option Tmp}{x:Value}{y:Operand}(h:∀t,y=.tmp t->d≠some t):mo (put e d x) y=mo e y:=by
 cases y with
 |tmp t=>exact oh (h t rfl)
 |const v=>rfl
 |global g=>rfl
 |func f=>rfl
theorem Tu(hp:j0 P=true)(oN:fY P M cf){ops:Array Oper}{od:Oper}{j:Nat}{o:Oper}(ho:ops[j]?=some o)(h:zw ops od j=true):(∀t,o.dst=some t->od.dst≠some t)/\∀y∈od.op.operands.toList,∀t,y=.tmp t->o.dst≠some t:=by
 unfold zw at h
 rw[ho] at h
 simp only at h
 cases hd:o.dst with
 |none=>exact⟨(λt h=>by cases h),(λ_ _ _ _ h=>by cases h)⟩
 |some u=>
  rw[hd] at h
  simp only[Bool.not_eq_true'] at h
  have hn:u∉jr ops od:=λhm=>by rw[any_beq.2 hm] at h;cases h
  refine⟨λt ht e=>?_,λy hy t ht e=>?_⟩
  ·cases ht
   exact hn (G4 e)
  ·cases e
   subst ht
   exact hn (tv (P4 hy))
theorem aai(hp:j0 P=true)(oN:fY P M cf){ops:Array Oper}{B:List Nat}{K:KE}{d:Nat}{od:Oper}(FR:ops[d]?=some od)(Ji:kindOf P od.op=.write)(To:od.guard=none)(MW:QE od.op=true){td:Nat}(XM:od.dst=some td){s:List Nat}(hs:∀j∈s,zw ops od j=true)
 {fv:Nat}{el:TypeId}{us:List Value}{len:Option Nat}(hU:U fv=none)(Ox:aiN U):
 ∀(q:List Nat)(ρ:ig)(env:Tr V)(h:Hp)(e:Env)(H:Heap)(D:Dl)(D':List (Nat×Env×Value)),d∉q->(∀j∈q,zw ops od j=true)->MV P cf ops B d od (q++d::s) env h D K=true->
  E ρ M env e->R ρ M (λi=>if i=fv then some (.cells us.toArray el) else U i) h H->FG P od.op e el us len->e td=some (ade len fv)->DR ρ M D D'->
  sd P ops B AT (q++s) e H D' (At ρ M U K):=by
 intro q
 induction q with
 |nil=>
  intro ρ env h e H D D' _ _ hh he r hn aho hD
  replace hh:(bif Nat.beq d d then xD P cf ops B (d::s) env h D K else _)=true:=hh
  rw[show Nat.beq d d=true by simp] at hh
  simp only[cond_true] at hh
  replace hh:(match ops[d]? with
   |none=>false
   |some o=>po ops o env λw=>match w with
    |false=>hO env o.dst (.ru []) λenv=>xD P cf ops B s env h D K
    |true=>match kindOf P o.op with
     |.pure=>ye P cf o env h λv h=>hO env o.dst v λenv=>xD P cf ops B s env h D K
     |.read=>ye P cf o env h λv h=>hO env o.dst v λeJ=>xD P cf ops B s eJ h (D++[(d,env,v)]) K
     |.write=>ye P cf o env h λv h=>wA P ops (B.getD d 0) h D (hO env o.dst v λenv=>xD P cf ops B s env h D K))=true:=hh
  rw[FR] at hh
  simp only at hh
  unfold po at hh
  rw[To] at hh
  simp only[Ji] at hh
  simp only[rI] at hh
  unfold B9 at hh
  rw[Ji] at hh
  simp only at hh
  obtain⟨el2,us2,asn,cs,es,D6,xW,hh⟩:=Di he r.gl MW hh
  obtain⟨rfl,rfl,rfl⟩:=hn.det D6
  obtain⟨nq,hf,hh⟩:=ka hh
  simp only[tt] at hh
  have Ga:H[fv]?=some (.cells us.toArray el):=r.un fv _ (by simp)
  have Vv:R ρ M U h H:=⟨r.gl,r.YI,λb o hb hl=>by
   obtain⟨b1,b2,b3,x,q1,q2,q3,q4⟩:=r.ob b o hb hl
   refine⟨b1,b2,b3,x,q1,q2,?_,q4⟩
   split at q3
   ·cases q3
   ·exact q3,r.inj,λi o hi=>r.un i o (by
   have:i≠fv:=λe=>by rw[e,hU] at hi;cases hi
   simp only[if_neg this]
   exact hi),r.bd,Ox⟩
  have rn:=Vv.new (H':=H) hf (o:=.cells cs el es false false) fv 0 0 (x:=.cells us.toArray el) hU nq
   (λb o' y hb hl hy e=>by
    obtain⟨b1,b2,b3,x,q1,q2,q3,_⟩:=r.ob b o' hb hl
    rw[hy] at q1
    cases q1
    simp only at e
    rw[e] at q3
    simp at q3)
   (λ_ _ _=>rfl) Ga (rD xW _ (0,0) (λj u hu=>by simpa using hu) (by simp[uc,xW.1]) (by simp[uc]) (.inl rfl))
  have hle:=Vv.mq hf (fv,0,0)
  obtain⟨hh,_⟩:=sv rn (hD.mono hle) hh
  rw[XM] at hh
  obtain⟨eJ,hk,jU⟩:=uR hh (he.mono hle) (ami (kz ρ (.i h.nx) (fv,0,0)) len)
  rw[WX hp oN aho] at jU
  have:=Nb hp oN (U:=U) (B:=B) s _ eJ _ e H D D' hk jU rn (hD.mono hle)
  exact sJ hp (λe H⟨ρ2,lK,h2,a,b,c,d⟩=>⟨ρ2,lK,h2,hle.trans a,b,c,d⟩) AT (λ_ _ _ _ h=>h) _ _ _ _ this
 |cons i q ih=>
  intro ρ env h e H D D' zQ hq hh he r hn aho hD
  have hid:i≠d:=λe=>zQ (by simp[e])
  have ahJ:d∉q:=λe=>zQ (by simp[e])
  have hfi:=hq i (by simp)
  have BG:∀j∈q,zw ops od j=true:=λj hj=>hq j (by simp[hj])
  replace hh:(bif Nat.beq i d then xD P cf ops B (i::(q++d::s)) env h D K else match ops[i]? with
   |none=>false
   |some o=>po ops o env λw=>match w with
    |false=>hO env o.dst (.ru []) λenv=>MV P cf ops B d od (q++d::s) env h D K
    |true=>match kindOf P o.op with
     |.pure=>ye P cf o env h λv h=>hO env o.dst v λenv=>MV P cf ops B d od (q++d::s) env h D K
     |.read=>ye P cf o env h λv h=>hO env o.dst v λeJ=>MV P cf ops B d od (q++d::s) eJ h (D++[(i,env,v)]) K
     |.write=>bif acJ P ops B d od env h D then ye P cf o env h λv h=>wA P ops (B.getD i 0) h D (hO env o.dst v λenv=>MV P cf ops B d od (q++d::s) env h D K) else false)=true:=hh
  rw[show Nat.beq i d=false by rw[iL];simp[hid]] at hh
  simp only[cond_false] at hh
  show sd P ops B AT (i::(q++s)) e H D' (At ρ M U K)
  unfold sd
  split at hh
  ·cases hh
  ·rename_i o ho
   rw[ho]
   simp only
   obtain⟨b,hw,hh⟩:=sr he hh
   rw[hw]
   obtain⟨Gz,hf2⟩:=Tu hp oN ho hfi
   have step:∀{ρ':ig}{v:V}{x:Value}{h':Hp}{H':Heap}{D:Dl}{D':List (Nat×Env×Value)},Le ρ ρ'->R ρ' M (λi=>if i=fv then some (.cells us.toArray el) else U i) h' H'->Dn ρ' M v x->(hO env o.dst v λenv=>MV P cf ops B d od (q++d::s) env h' D K)=true->DR ρ' M D D'->
    sd P ops B AT (q++s) (put e o.dst x) H' D' (At ρ M U K):=by
    intro ρ' v x h' H' D D' hl r' hd hk hD
    obtain⟨eJ,hk,jU⟩:=uR hk (he.mono hl) hd
    have Ow:FG P od.op (put e o.dst x) el us len:=hn.congr λy hy=>Qo hp oN λt ht=>hf2 y hy t ht
    have BF:put e o.dst x td=some (ade len fv):=by
     rw[oh (λe=>Gz td e XM)]
     exact aho
    have:=ih ρ' eJ h' _ H' D D' ahJ BG hk jU r' Ow BF hD
    exact sJ hp (λe H⟨ρ2,lK,h2,a,b,c,d⟩=>⟨ρ2,lK,h2,hl.trans a,b,c,d⟩) AT (λ_ _ _ _ h=>h) _ _ _ _ this
   cases b with
   |false=>exact step (Le.refl _) r o3 hh hD
   |true=>
    simp only at hh⊢
    cases hk:kindOf P o.op with
    |pure=>
     rw[hk] at hh
     simp only at hh⊢
     simp only[rI] at hh
     unfold B9 at hh
     rw[hk] at hh
     simp only at hh
     obtain⟨t,nx,lo,hi⟩:=h
     replace hh:(yd P lo hi o.op env λv lo hi=>hO env o.dst v λenv=>MV P cf ops B d od (q++d::s) env ⟨t,nx,lo,hi⟩ D K)=true:=hh
     obtain⟨v,x,Xr,nN,hd,h1,h2,hk,vQ⟩:=sf he r.gl r.bd.1 r.bd.2 hh
     exact oX vQ (pS (step (Le.refl _) (r.bound h1 h2) hd hk hD))
    |read=>
     rw[hk] at hh
     simp only at hh⊢
     simp only[rI] at hh
     unfold B9 at hh
     rw[hk] at hh
     simp only at hh
     obtain⟨v,x,hd,hk,vQ⟩:=qa he r hh
     exact kW vQ (pS (step (Le.refl _) r hd hk (hD.snoc ⟨rfl,he,hd⟩)))
    |write=>
     rw[hk] at hh
     simp only at hh⊢
     obtain⟨_,hh⟩:=jc hh
     simp only[rI] at hh
     unfold B9 at hh
     rw[hk] at hh
     simp only at hh
     have:=qo hp oN he r hh
     refine⟨fD hp this ?_,trivial⟩
     rintro u H' ⟨ρ',v,h',hl,r',hd,hk⟩
     simp only[tt] at hk
     obtain⟨hk,Bb⟩:=sv r' (hD.mono hl) hk
     exact Bb _ (pS (step hl r' hd hk (hD.mono hl)))
theorem Tw(hp:j0 P=true){ops:Array Oper}{B:List Nat}{A A':AL}{K:Env->Heap->Prop}:∀(l:List Nat),(∀m,m<:+l->∀e H D,A m e H D->A' m e H D)->∀(e:Env)(H:Heap)(D:List (Nat×Env×Value)),sd P ops B A l e H D K->sd P ops B A' l e H D K:=by
 intro l
 induction l with
 |nil=>intro _ e H D h;exact h
 |cons i l Hd=>
  intro hA e H D h
  have Hd:=Hd λm hm=>hA m (hm.trans (List.suffix_cons i l))
  unfold sd at h⊢
  split
  ·rename_i ho;rw[ho] at h;exact h
  ·rename_i o ho
   rw[ho] at h
   simp only at h
   split
   ·rename_i hw;rw[hw] at h;exact h
   ·rename_i hw;rw[hw] at h;exact Hd _ _ _ h
   ·rename_i hw
    rw[hw] at h
    simp only at h
    split
    ·rename_i hkk;rw[hkk] at h;simp only at h
     exact .inr λo' kh=>by
      obtain⟨v,hv,hr⟩:=jm (o:=o') (by rw[kh];exact h)
      exact⟨v,pS (Hd _ _ _ (nX hv)),by rw[kh] at hr;exact hr⟩
    ·rename_i hkk;rw[hkk] at h;simp only at h
     exact .inr λo' kh=>by
      obtain⟨v,hv,hr⟩:=iy (o:=o') (by rw[kh];exact h)
      exact⟨v,pS (Hd _ _ _ (nX hv)),by rw[kh] at hr;exact hr⟩
    ·rename_i hkk;rw[hkk] at h;simp only at h
     refine⟨fD hp h.1 λu H' q=>?_,hA _ (List.suffix_refl _) _ _ _ h.2⟩
     have Lf:∀(D:List (Nat×Env×Value))(A A':Prop),(A->A')->km P ops (B.getD i 0) H' D A->km P ops (B.getD i 0) H' D A':=by
      intro D
      induction D with
      |nil=>intro A A' f h;exact f h
      |cons x D tY=>
       intro A A' f h
       obtain⟨r,e,v⟩:=x
       unfold km at h⊢
       split
       ·rename_i ht;rw[ht] at h;exact tY _ _ f h
       ·rename_i ht;rw[ht] at h;exact⟨h.1,tY _ _ f h.2⟩
     exact Lf _ _ _ (λq=>pS (Hd _ _ _ (nX q))) q
theorem Yv(hp:j0 P=true){ops:Array Oper}{K:Env->Heap->Prop}{d:Nat}{s:List Nat}(yX:d∉s){e:Env}{H:Heap}{D:List (Nat×Env×Value)}
 (h:sd P ops (gM ops.toList []) AT (d::s) e H D K):sd P ops (gM ops.toList []) (AF P ops K d) (d::s) e H D K:=by
 have hs:∀e H D,sd P ops (gM ops.toList []) AT s e H D K->sd P ops (gM ops.toList []) (AF P ops K d) s e H D K:=
  Tw hp s λm hm e H D _ hd=>absurd (hm.subset hd) yX
 have h0:=h
 unfold sd at h⊢
 split
 ·rename_i ho;rw[ho] at h;exact h
 ·rename_i o ho
  rw[ho] at h
  simp only at h
  split
  ·rename_i hw;rw[hw] at h;exact h
  ·rename_i hw;rw[hw] at h;exact hs _ _ _ h
  ·rename_i hw
   rw[hw] at h
   simp only at h
   split
   ·rename_i hkk;rw[hkk] at h;simp only at h
    exact .inr λo' kh=>by
     obtain⟨v,hv,hr⟩:=jm (o:=o') (by rw[kh];exact h)
     exact⟨v,pS (hs _ _ _ (nX hv)),by rw[kh] at hr;exact hr⟩
   ·rename_i hkk;rw[hkk] at h;simp only at h
    exact .inr λo' kh=>by
     obtain⟨v,hv,hr⟩:=iy (o:=o') (by rw[kh];exact h)
     exact⟨v,pS (hs _ _ _ (nX hv)),by rw[kh] at hr;exact hr⟩
   ·rename_i hkk;rw[hkk] at h;simp only at h
    refine⟨fD hp h.1 λu H' q=>?_,λ_=>?_⟩
    ·have Lf:∀(D:List (Nat×Env×Value))(A A':Prop),(A->A')->km P ops ((gM ops.toList []).getD d 0) H' D A->km P ops ((gM ops.toList []).getD d 0) H' D A':=by
      intro D
      induction D with
      |nil=>intro A A' f h;exact f h
      |cons x D tY=>
       intro A A' f h
       obtain⟨r,e,v⟩:=x
       unfold km at h⊢
       split
       ·rename_i ht;rw[ht] at h;exact tY _ _ f h
       ·rename_i ht;rw[ht] at h;exact⟨h.1,tY _ _ f h.2⟩
     exact Lf _ _ _ (λq=>pS (hs _ _ _ (nX q))) q
    ·rw[List.erase_cons_head]
     exact h0
theorem SN{d:Option Tmp}{v:V}{x:Value}{k:Tr V->Bool}(hh:hO env d v k=true)(he:E ρ M env e)(hd:Dn ρ M v x):∃eJ,k eJ=true/\E ρ M eJ (put e d x)/\∀t,d≠some t->look (lQ t) eJ=look (lQ t) env:=by
 unfold hO at hh
 split at hh
 ·rename_i d
  rw[kp] at hh
  refine⟨_,hh,λt u hu=>?_,λt ht=>?_⟩
  ·rw[gP] at hu
   rw[kS]
   by_cases hp:lQ t=lQ d
   ·rw[if_pos hp] at hu
    cases hu
    rw[if_pos (vI hp)]
    exact⟨x,rfl,hd⟩
   ·rw[if_neg hp] at hu
    rw[if_neg (λe=>hp (by rw[e]))]
    exact he t u hu
  ·rw[gP,if_neg]
   intro e
   exact ht (by rw[vI e])
 ·exact⟨env,hh,he,λ_ _=>rfl⟩
theorem R.more(r:R ρ M U h H)(x:Obj):R ρ M (λi=>if i=H.size then some x else U i) h (H.push x)/\U H.size=none:=by
 have lC:∀{i o},H[i]?=some o->i<H.size:=λh=>(Array.getElem?_eq_some_iff.1 h).1
 have hu:U H.size=none:=by
  cases hx:U H.size with
  |none=>rfl
  |some o=>have:=lC (r.un _ _ hx);omega
 refine⟨⟨r.gl,r.YI,λb o hb hl=>?_,r.inj,λi o hi=>?_,r.bd,?_⟩,hu⟩
 ·obtain⟨b1,b2,b3,y,q1,q2,q3,q4⟩:=r.ob b o hb hl
  have:=lC q2
  refine⟨b1,b2,b3,y,q1,?_,?_,q4⟩
  ·rw[Array.getElem?_push_lt this]
   rw[<-q2,Array.getElem?_eq_getElem this]
  ·rw[if_neg (by omega)]
   exact q3
 ·split at hi
  ·rename_i e
   cases hi
   subst e
   rw[Array.getElem?_push_size]
  ·have h1:=r.un i o hi
   have:=lC h1
   rw[Array.getElem?_push_lt this,<-h1,Array.getElem?_eq_getElem this]
 ·obtain⟨t,fr,m,hm⟩:=r.ml
  refine⟨t,fr,m,?_⟩
  have lC:=lC (r.un _ _ hm)
  show(if sZ=H.size then some x else U sZ)=_
  rw[if_neg (λe=>by rw[e] at lC;exact Nat.lt_irrefl _ lC)]
  exact hm
theorem aah(hp:j0 P=true)(oN:fY P M cf){ops:Array Oper}{K:KE}{d:Nat}{od:Oper}(FR:ops[d]?=some od)(Ji:kindOf P od.op=.write)(To:od.guard=none)(MW:QE od.op=true)(XS:∀y∈od.op.operands.toList,∀t,y=.tmp t->od.dst≠some t){td:Nat}(XM:od.dst=some td){s:List Nat}(yX:d∉s):
 ∀(q:List Nat)(ρ:ig)(env:Tr V)(h:Hp)(e:Env)(H:Heap)(D:Dl)(D':List (Nat×Env×Value)),d∉q->(∀j∈q,Q5 ops od j=true)->(∀p1 c p2,q=p1++c::p2->zq P ops c=true->∀j∈c::(p2++s),zw ops od j=true)->
  MV P cf ops (gM ops.toList []) d od (q++d::s) env h D K=true->E ρ M env e->(∀v,look (lQ td) env=some v->v=.any)->R ρ M U h H->DR ρ M D D'->
  sd P ops (gM ops.toList []) (AF P ops (At ρ M U K) d) (q++d::s) e H D' (At ρ M U K):=by
 intro q
 induction q with
 |nil=>
  intro ρ env h e H D D' _ _ _ hh he _ r hD
  replace hh:(bif Nat.beq d d then xD P cf ops (gM ops.toList []) (d::s) env h D K else _)=true:=hh
  rw[show Nat.beq d d=true by simp] at hh
  simp only[cond_true] at hh
  have:=Nb hp oN (U:=U) (B:=gM ops.toList []) (d::s) ρ env h e H D D' hh he r hD
  exact Yv hp yX this
 |cons i q ih=>
  intro ρ env h e H D D' zQ hZ FQ rC he Ts r hD
  have hid:i≠d:=λe=>zQ (by simp[e])
  have ahJ:d∉q:=λe=>zQ (by simp[e])
  have aqq:∀j∈q,Q5 ops od j=true:=λj hj=>hZ j (by simp[hj])
  have aqF:∀p1 c p2,q=p1++c::p2->zq P ops c=true->∀j∈c::(p2++s),zw ops od j=true:=λp1 c p2 hq=>FQ (i::p1) c p2 (by rw[hq];rfl)
  have hh:=rC
  replace hh:(bif Nat.beq i d then xD P cf ops (gM ops.toList []) (i::(q++d::s)) env h D K else match ops[i]? with
   |none=>false
   |some o=>po ops o env λw=>match w with
    |false=>hO env o.dst (.ru []) λenv=>MV P cf ops (gM ops.toList []) d od (q++d::s) env h D K
    |true=>match kindOf P o.op with
     |.pure=>ye P cf o env h λv h=>hO env o.dst v λenv=>MV P cf ops (gM ops.toList []) d od (q++d::s) env h D K
     |.read=>ye P cf o env h λv h=>hO env o.dst v λeJ=>MV P cf ops (gM ops.toList []) d od (q++d::s) eJ h (D++[(i,env,v)]) K
     |.write=>bif acJ P ops (gM ops.toList []) d od env h D then ye P cf o env h λv h=>wA P ops ((gM ops.toList []).getD i 0) h D (hO env o.dst v λenv=>MV P cf ops (gM ops.toList []) d od (q++d::s) env h D K) else false)=true:=hh
  rw[show Nat.beq i d=false by rw[iL];simp[hid]] at hh
  simp only[cond_false] at hh
  show sd P ops (gM ops.toList []) (AF P ops (At ρ M U K) d) (i::(q++d::s)) e H D' (At ρ M U K)
  unfold sd
  split at hh
  ·cases hh
  ·rename_i o ho
   rw[ho]
   simp only
   obtain⟨b,hw,hh⟩:=sr he hh
   rw[hw]
   have XY:o.dst≠some td:=by
    have:=hZ i (by simp)
    unfold Q5 at this
    rw[ho,XM] at this
    simp only at this
    intro e
    rw[e] at this
    simp at this
   have step:∀{ρ':ig}{v:V}{x:Value}{h':Hp}{H':Heap}{D:Dl}{D':List (Nat×Env×Value)},Le ρ ρ'->R ρ' M U h' H'->Dn ρ' M v x->(hO env o.dst v λenv=>MV P cf ops (gM ops.toList []) d od (q++d::s) env h' D K)=true->DR ρ' M D D'->
    sd P ops (gM ops.toList []) (AF P ops (At ρ M U K) d) (q++d::s) (put e o.dst x) H' D' (At ρ M U K):=by
    intro ρ' v x h' H' D D' hl r' hd hk hD
    obtain⟨eJ,hk,jU,D9⟩:=SN hk (he.mono hl) hd
    have:=ih ρ' eJ h' _ H' D D' ahJ aqq aqF hk jU (λv hv=>Ts v (by rw[<-D9 td XY];exact hv)) r' hD
    refine sJ hp (λe H⟨ρ2,lK,h2,a,b,c,d⟩=>⟨ρ2,lK,h2,hl.trans a,b,c,d⟩) _ (λl e H D q hd=>?_) _ _ _ _ this
    exact sJ hp (λe H⟨ρ2,lK,h2,a,b,c,d⟩=>⟨ρ2,lK,h2,hl.trans a,b,c,d⟩) AT (λ_ _ _ _ h=>h) _ _ _ _ (q hd)
   cases b with
   |false=>exact step (Le.refl _) r o3 hh hD
   |true=>
    simp only at hh⊢
    cases hk:kindOf P o.op with
    |pure=>
     rw[hk] at hh
     simp only at hh⊢
     simp only[rI] at hh
     unfold B9 at hh
     rw[hk] at hh
     simp only at hh
     obtain⟨t,nx,lo,hi⟩:=h
     replace hh:(yd P lo hi o.op env λv lo hi=>hO env o.dst v λenv=>MV P cf ops (gM ops.toList []) d od (q++d::s) env ⟨t,nx,lo,hi⟩ D K)=true:=hh
     obtain⟨v,x,Xr,nN,hd,h1,h2,hk,vQ⟩:=sf he r.gl r.bd.1 r.bd.2 hh
     exact oX vQ (pS (step (Le.refl _) (r.bound h1 h2) hd hk hD))
    |read=>
     rw[hk] at hh
     simp only at hh⊢
     simp only[rI] at hh
     unfold B9 at hh
     rw[hk] at hh
     simp only at hh
     obtain⟨v,x,hd,hk,vQ⟩:=qa he r hh
     exact kW vQ (pS (step (Le.refl _) r hd hk (hD.snoc ⟨rfl,he,hd⟩)))
    |write=>
     rw[hk] at hh
     simp only at hh⊢
     have h2:=jc hh
     clear hh
     obtain⟨amw,hh⟩:=h2
     simp only[rI] at hh
     unfold B9 at hh
     rw[hk] at hh
     simp only at hh
     have:=qo hp oN he r hh
     refine⟨fD hp this ?_,λ_=>?_⟩
     ·rintro u H' ⟨ρ',v,h',hl,r',hd,hk⟩
      simp only[tt] at hk
      obtain⟨hk,Bb⟩:=sv r' (hD.mono hl) hk
      exact Bb _ (pS (step hl r' hd hk (hD.mono hl)))
     ·have uG:zq P ops i=true:=by unfold zq;rw[ho];simp only;rw[hk];rfl
      have hf:=FQ [] i q rfl uG
      unfold acJ at amw
      obtain⟨t1,t2⟩:=gQ amw
      obtain⟨el,us,len,cs,es,gy,xW,_⟩:=Di he r.gl MW t1
      obtain⟨rm,hub⟩:=r.more (.cells us.toArray el)
      have GA:(i::(q++d::s)).erase d=i::q++s:=by
       rw[show i::(q++d::s)=(i::q)++d::s from rfl,List.erase_append_right _ zQ,List.erase_cons_head]
      rw[GA]
      unfold sd
      rw[FR]
      simp only
      rw[show eB ops od e=some true by unfold eB;rw[To]]
      simp only[Ji]
      refine⟨gy.run (H:=H) ?_,trivial⟩
      obtain⟨_,Bb⟩:=sv rm hD t2
      refine Bb _ (pS ?_)
      refine aai hp oN FR Ji To MW XM (len:=len) (λj hj=>hf j (by simp[hj])) hub r.ml (i::q) ρ env h _ _ D D' zQ (λj hj=>hf j (by
       rcases List.mem_cons.1 hj with h|h
       ·simp[h]
       ·simp[h])) rC ?_ rm ?_ ?_ hD
      ·intro t v hv
       rw[XM,kS]
       by_cases VX:t=td
       ·subst VX
        rw[if_pos rfl,Ts v hv]
        exact⟨_,rfl,.any _⟩
       ·rw[if_neg VX]
        exact he t v hv
      ·exact gy.congr λy hy=>Qo hp oN λt ht=>XS y hy t ht
      ·rw[XM,kS,if_pos rfl]
theorem Jm(hp:j0 P=true)(oN:fY P M cf){N:Nat}{Ds:List Deferred}{ops:Array Oper}(hN:gm N ops=true){p:List Nat}{d:Nat}{s:List Nat}(lu:tE P ops (gM ops.toList []) p d s=true){od:Oper}(FR:ops[d]?=some od){td:Nat}(XM:od.dst=some td){K:KE}
 {Q:Exit->Act->World->Prop}(a₀:Act)(w₀ w:World)(e:Env)(hQ:∀a' w' e',Mt N Ds a' e'->dV w₀ w'->fz (lh ops) a₀ a'->At ρ M U K e' w'.heap->Q .normal a' w')
 (hh:MV P cf ops (gM ops.toList []) d od (p++d::s) env h [] K=true)(he:E ρ M env e)(Ts:∀v,look (lQ td) env=some v->v=.any)(r:R ρ M U h w.heap)(hm:Mt N Ds a₀ e)(hs:dV w₀ w):
 wpAny P .any ops Q ops.size (Array.replicate ops.size false) a₀ w:=by
 unfold tE at lu
 rw[FR] at lu
 simp only[Bool.and_eq_true,Bool.not_eq_true'] at lu
 obtain⟨⟨⟨⟨⟨⟨⟨⟨⟨k1,k2⟩,k3⟩,k4⟩,k5⟩,k6⟩,k7⟩,k8⟩,k9⟩,DS⟩:=lu
 have Ji:kindOf P od.op=.write:=by simpa using k1
 have To:od.guard=none:=by cases hg:od.guard with|none=>rfl|some g=>rw[hg] at k2;cases k2
 have X8:d∉p:=λhm=>by rw[any_beq.2 hm] at k7;cases k7
 have yX:d∉s:=λhm=>by rw[any_beq.2 hm] at k8;cases k8
 have oV:∀l1 i l2,p++d::s=l1++i::l2->wS P ops (gM ops.toList []) (λi=>p.any (Nat.beq i)&&zq P ops i) l1 i l2:=λl1 i l2 he=>by
  have:=qd (done:=[]) k5 (by simp) l1 i l2 he
  simpa using this
 have Hf:=λp1 c p2(h:p=p1++c::p2) hw=>vZ k6 p1 c p2 h hw
 have vQ:=aah (U:=U) hp oN (K:=K) FR Ji To k3 (NQ DS) XM yX p ρ env h e w.heap [] [] X8 (λj hj=>List.all_eq_true.1 k9 j hj) (λp1 c p2 h hw=>(Hf p1 c p2 h hw).2.2) hh he Ts r .nil
 obtain⟨tr,post,D,e1,e2,e3,CH,e4,e5,e6,e7⟩:=HW (λ_=>True) (p++d::s) e [] (by simp) vQ
 have Oz:d∈post:=by
  have hm:d∈p++d::s:=by simp
  rw[e1,List.mem_append] at hm
  rcases hm with h|h
  ·exfalso
   obtain⟨x,hx,uv⟩:=List.mem_map.1 h
   obtain⟨xd,xv,xe⟩:=x
   simp only at uv
   subst uv
   exact(e4 _ hx).2 od FR (by unfold eB;rw[To]) Ji
  ·exact h
 refine Ff hp hN oV (JK k4) FR Ji To (λl1 l2 hl c hc=>?_) (λl1 c l2 hl hc j hj=>?_) (λtr c rest oc hl Cq MY ahv=>?_) a₀ w₀ e hQ ops.size _ a₀ w ⟨tr,post,D,ahh e1 e2 e4 (λx hx=>e5 x hx trivial) e6 e7 hm hs,Oz⟩ (xJ _)
 ·have hf:=(oV _ _ _ hl).fresh
  obtain⟨rfl,rfl⟩:=jD hl X8 hf
  exact any_beq.1 (gQ hc).1
 ·obtain⟨h1,h2⟩:=gQ hc
  obtain⟨p1,p2,rfl⟩:=List.append_of_mem (any_beq.1 h1)
  have F8:p1++c::(p2++d::s)=l1++c::l2:=by rw[<-hl];simp
  have f1:=(oV p1 c (p2++d::s) (by simp)).fresh
  have f2:=(oV _ _ _ hl).fresh
  obtain⟨rfl,rfl⟩:=jD F8 f1 f2
  have:=(Hf p1 c p2 rfl h2).2.1
  rw[List.mem_append,List.mem_cons] at hj
  rcases hj with h|h|h
  ·exact .inr (this j (by simp[h]))
  ·exact .inl h
  ·exact .inr (this j (by simp[h]))
 ·obtain⟨r1,r2,rfl⟩:=List.append_of_mem Cq
  have F8:p++d::s=(tr++c::r1)++d::r2:=by rw[hl];simp
  have f2:=(oV _ _ _ F8).fresh
  obtain⟨rfl,rfl⟩:=jD F8 X8 f2
  have uG:zq P ops c=true:=by unfold zq;rw[MY];simp only;rw[ahv];rfl
  have hc:=(Hf tr c r1 rfl uG).1
  have GA:(c::(r1++d::s)).erase d=c::(r1++s):=by
   have FO:d∉c::r1:=λhm=>f2 (by rw[List.mem_append];exact .inr hm)
   rw[show c::(r1++d::s)=(c::r1)++d::s from rfl,List.erase_append_right _ FO,List.erase_cons_head]
   rfl
  rw[GA]
  intro l1 i l2 he
  have:=qd (done:=[]) hc (by simp) l1 i l2 (by simpa using he)
  simpa using this
end
inductive An where
 |ord (l:List Nat)
 |fl (p:List Nat) (d:Nat) (s:List Nat)
noncomputable def aiv(env:Tr V)(t:Nat)(k:Tr V->Bool):Bool:=bif Qu (lQ t) env then k env else qL (lQ t) env λ_=>rQ .any (lQ t) env k
theorem YO{t:Nat}{k:Tr V->Bool}(he:E ρ M env e)(hh:aiv env t k=true):∃eJ,k eJ=true/\E ρ M eJ e/\∀v,look (lQ t) eJ=some v->v=.any:=by
 unfold aiv at hh
 cases hb:Qu (lQ t) env with
 |true=>
  rw[hb] at hh
  refine⟨env,hh,he,λv hv=>?_⟩
  rw[GY hb] at hv
  cases hv
 |false=>
  rw[hb] at hh
  simp only[cond_false] at hh
  obtain⟨u,hu,hh⟩:=fV hh
  rw[kp] at hh
  refine⟨_,hh,λs v hv=>?_,λv hv=>?_⟩
  ·rw[gP] at hv
   by_cases hp:lQ s=lQ t
   ·rw[if_pos hp] at hv
    cases hv
    obtain⟨x,hx,_⟩:=he t u hu
    rw[vI hp]
    exact⟨x,hx,.any x⟩
   ·rw[if_neg hp] at hv
    exact he s v hv
  ·rw[gP,if_pos rfl] at hv
   cases hv
   rfl
noncomputable def Gu(P:Program)(cf:nk)(ops:Array Oper)(an:An)(env:Tr V)(h:Hp)(K:KE):Bool:=
 match an with
 |.ord l=>bif Jt P ops (gM ops.toList []) l then xD P cf ops (gM ops.toList []) l env h [] K else false
 |.fl p d s=>match ops[d]? with
  |none=>false
  |some od=>match od.dst with
   |none=>false
   |some td=>bif tE P ops (gM ops.toList []) p d s then aiv env td λenv=>MV P cf ops (gM ops.toList []) d od (p++d::s) env h [] K else false
theorem Rz{cf:nk}(hp:j0 P=true)(oN:fY P M cf){N:Nat}{Ds:List Deferred}{ops:Array Oper}(hN:gm N ops=true){an:An}{K:KE}
 {Q:Exit->Act->World->Prop}(a₀:Act)(w₀ w:World)(e:Env)(hQ:∀a' w' e',Mt N Ds a' e'->dV w₀ w'->fz (lh ops) a₀ a'->At ρ M U K e' w'.heap->Q .normal a' w')
 (hh:Gu P cf ops an env h K=true)(he:E ρ M env e)(r:R ρ M U h w.heap)(hm:Mt N Ds a₀ e)(hs:dV w₀ w):
 wpAny P .any ops Q ops.size (Array.replicate ops.size false) a₀ w:=by
 unfold Gu at hh
 split at hh
 ·rename_i l
  have h2:=jc hh
  clear hh
  obtain⟨hd,hh⟩:=h2
  have:=Nb (U:=U) hp oN (ops:=ops) (K:=K) l ρ env h e w.heap [] [] hh he r DR.nil
  exact Q4 hp hN hd a₀ w₀ w e hQ this hm hs
 ·rename_i p d s
  split at hh
  ·cases hh
  ·rename_i od FR
   split at hh
   ·cases hh
   ·rename_i td XM
    have h2:=jc hh
    clear hh
    obtain⟨hf,hh⟩:=h2
    obtain⟨eJ,hh,jU,Ts⟩:=YO he hh
    exact Jm hp oN hN hf FR XM a₀ w₀ w e hQ hh jU Ts r hm hs
end Go.X
