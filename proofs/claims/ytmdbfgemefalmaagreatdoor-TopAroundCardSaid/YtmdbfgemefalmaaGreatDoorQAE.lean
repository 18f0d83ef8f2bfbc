/- Part AE of the proof that the law TopAround answers true at every input, under no condition. -/
import Derived.Test.YtmdbfgemefalmaaGreatDoorQAD
import Derived.Lib.UnsafeStr
import Derived.Deep.LoopGhost
set_option linter.unusedVariables false
set_option maxHeartbeats 2000000
set_option maxRecDepth 100000
namespace Go.X
open Go.Ex
variable {P:eQ} {ρ:jF} {M:Nat} {U:Un} {h:Hp} {H:dw} {env:Tr V} {e:Env} {K:V->Hp->Bool}
def CW(P:eQ)(f:jt)(xs:List dB)(H:dw)(I:dB->dw->Prop):Prop:=
 (∃N,P.funcs[f]?=some N/\N.body.isSome=true/\Ex.Fn P f xs.toArray H I)\/
 ∀w:fe,w.heap=H->∃u w',(callFunc f xs.toArray).run P w=.ok (.value u) w'/\ik w w'/\I u w'.heap
abbrev fQ:=jt->List V->Hp->(V->Hp->Bool)->Bool
def jb(P:eQ)(M:Nat)(u:fQ):Prop:=∀(ρ:jF)(U:Un)(h:Hp)(H:dw)(f:jt)(vs:List V)(xs:List dB)(K:V->Hp->Bool),R ρ M U h H->jZ ρ M vs xs->u f vs h K=true->CW P f xs H (Af ρ M U K)
theorem p9(O:fF P=true){f:jt}{u:Func}(I:P.funcs[f]?=some u)(Y:u.body.isSome=true)(args:Array dB)(w:fe):(callFunc f args).run P w=.ok (.enter f args) w:=by
 have N:u.body.isNone=false:=by cases W:u.body<;>simp_all
 unfold callFunc
 rw[Sem.run_bind,run_program]
 simp only[Result.andThen,I,sy O I,N,Bool.false_eq_true,if_false]
 first|done|rfl
theorem NP(hp:fF P=true){f:jt}{xs:List dB}{Y:dB->dw->Prop}(I:CW P f xs H Y){N:Op}(hx:∀o:Oper,o.op=N->∀τ,iP e τ N.operands.toList->∀w,(execOp τ o).run P w=(callFunc f xs.toArray).run P w):
 og P N e H Y:=.inr λo a w next Q ho ha Z hn=>by
 unfold Oper.wp
 rw[hx o ho a.eval ha]
 rcases I with⟨fn,hf,hb,I⟩|I
 .rw[p9 hp hf hb]
  refine(I w Z).mono ?_
  rintro ab w' ⟨v,rfl,O,W⟩
  exact hn v w' O W
 .obtain⟨u,w',hr,O,W⟩:=I w Z
  rw[hr]
  exact hn u w' O W
noncomputable def Ih(u:fQ)(env:Tr V)(h:Hp)(w:gU)(args:List gU)(K:V->Hp->Bool):Bool:=
 xo env w λv=>(match v with
  |.fn f first cap=>xL env args λvs=>zb vs cap λa=>zb first a λa=>u f a h K
  |_=>false)
theorem JO(hp:fF P=true){N:fQ}(O:jb P M N)(W:E ρ M env e)(r:R ρ M U h H){I:gU}{args:Array gU}{ts:Array eK}(u:Ih N env h I args.toList K=true):Wr P ρ M U H (.call ⟨.value I,args,ts⟩) e K:=by
 unfold Ih at u
 obtain⟨v,x,hx,hd,u⟩:=gv W r.gl u
 split at u
 .rename_i f first cap
  obtain⟨vs,xs,hl,Y,u⟩:=tJ W r.gl u
  rw[ns,ns] at u
  cases hd with
  |fn e1 e2 d1 d2=>
  rename_i a1 a2
  have hD:jZ ρ M (first++(vs++cap)) (a1++(xs++a2)):=jZ.append ⟨e1,d1⟩ (Y.append ⟨e2,d2⟩)
  refine NP hp (O ρ U h H f _ _ K r hD u) λo Z τ ha w=>?_
  obtain⟨au,av,ap,aw,ad,guard⟩:=o
  simp only at Z
  subst Z
  have ea:=j9 hl (τ:=τ) (λy hy=>ha y (by simp[Op.operands,Call.operands];simp at hy;exact .inr hy))
  have ac:args.map τ=xs.toArray:=by rw[<-ea];cases args;simp
  have hf:=ha I (by simp[Op.operands,Call.operands]) _ hx
  simp only[execOp,resolve,ac,hf,Deferred.ofValue,pure_bind,invoke]
  congr 2
  simp
 .cases u
noncomputable def OR(P:eQ)(I:fQ)(env:Tr V)(h:Hp)(N:gU)(w:String)(args:List gU)(K:V->Hp->Bool):Bool:=
 xo env N λv=>(match v with
  |.iface t u=>(match P.info? t with
   |some i=>(match i.methods.find? (·.name==w) with
    |some m=>bif m.path.isEmpty then(match m.func,P.underlying t with
     |some (f,true),some (.pointer _)=>xL env args λvs=>I f (u::vs) h K
     |_,_=>false) else false
    |none=>false)
   |none=>false)
  |_=>false)
theorem LH(hp:fF P=true){cf:fQ}(ab:jb P M cf)(he:E ρ M env e)(r:R ρ M U h H){Y:gU}{N:String}{args:Array gU}{ts:Array eK}(I:OR P cf env h Y N args.toList K=true):Wr P ρ M U H (.call ⟨.invoke Y N,args,ts⟩) e K:=by
 unfold OR at I
 obtain⟨v,x,hx,hd,I⟩:=gv he r.gl I
 split at I
 .rename_i t u
  split at I
  .rename_i i hi
   split at I
   .rename_i m hm
    obtain⟨O,I⟩:=fz I
    split at I
    .rename_i f el ad hu
     obtain⟨vs,xs,hl,ae,I⟩:=tJ he r.gl I
     cases hd with
     |iface du=>
     rename_i y
     refine NP hp (ab ρ U h H f _ _ K r (jZ.cons du ae) I) λo ho τ ha w=>?_
     obtain⟨aC,aD,av,aE,aj,guard⟩:=o
     simp only at ho
     subst ho
     have ea:=j9 hl (τ:=τ) (λy hy=>ha y (by simp[Op.operands,Call.operands];simp at hy;exact .inr hy))
     have ai:args.map τ=xs.toArray:=by rw[<-ea];cases args;simp
     have hr:=ha Y (by simp[Op.operands,Call.operands]) _ hx
     simp only[execOp,resolve,ai,hr,pure_bind,invoke]
     have e0:(#[Value.iface t y]++xs.toArray)[0]?=some (.iface t y):=by simp
     have e1:(#[Value.iface t y]++xs.toArray).extract 1 (#[Value.iface t y]++xs.toArray).size=xs.toArray:=by
      apply Array.ext'
      simp
     have W:(method (P.types.size+Made.depth) t y N).run P w=.ok (f,y) w:=by
      have aA:Made.depth≠0:=by decide
      obtain⟨n,hn⟩:∃n,P.types.size+Made.depth=n+1:=⟨P.types.size+Made.depth-1,by omega⟩
      rw[hn,method]
      rw[Sem.run_bind,Ay hi]
      simp only[Result.andThen,hm]
      have Z:m.path.toList=[]:=by
       have:m.path=#[]:=by simpa using O
       rw[this]
      rw[Sem.run_bind,Z]
      simp only[follow,Sem.run_pure,Result.andThen,ad]
      rw[Sem.run_bind]
      unfold receiverAt
      rw[Sem.run_bind,fJ hu]
      rfl
     rw[e0]
     simp only[e1]
     unfold callMethod
     simp only
     rw[Sem.run_bind,run_program]
     simp only[Result.andThen]
     rw[Sem.run_bind,W]
     simp only[Result.andThen]
     congr 2
     simp
    .cases I
   .cases I
  .cases I
 .cases I
def Rm(P:eQ)(t:eK):Bool:=match P.underlying t with|some (.int .u8)=>Nat.beq (P.cellsOf t) 1|_=>false
theorem BE{w:eK}(N:P.cellsOf w=1)(count u n:Nat)(O:u+n<=count):liesAt P P.depth w count u w n=true:=by
 have I:P.depth=(2*(P.types.size+Made.depth)+1)+1:=rfl
 rw[I]
 simp only[liesAt,Bool.or_eq_true]
 left
 rw[I]
 simp[rowAt,N,O,sameLayout,Nat.mod_one]
theorem EK(w:fe)(pt it ty N:eK)(hp:P.underlying pt=some (.pointer N))(hc:P.cellsOf N=1)(g u I:Nat)(ae:w.shape? g=some (N,I))(l:List UInt8)(h0:l≠[])(hn:u+l.length<=I)(ak:l.length<=9223372036854775807)
 (dL:∀(j:Nat) x,l[j]?=some x->w.cell? ((⟨g,u,none⟩:dA).add j)=some (.int .u8 x.toNat)):
 (Builtin.unsafeString_ #[pt,it] ty #[.pointer (some ⟨g,u,none⟩),.int .i64 l.length]).run P w=.ok (.string ⟨l.toArray⟩) (w.freeze ⟨g,u,none⟩ l.length):=by
 have hl:l.length≠0:=by simpa using h0
 have af:=Lib.run_loadBytes (P:=P) w l ⟨g,u,none⟩ .empty dL
 have O:=BE (P:=P) hc (I/P.cellsOf N) u l.length (by rw[hc];simpa using hn)
 have W:¬(9223372036854775807:Int)<(l.length:Int):=by omega
 have Y:Builtin.unsafeString_ #[pt,it] ty #[.pointer (some ⟨g,u,none⟩),.int .i64 l.length]=
  (do
   let n<-asInt (.int .i64 l.length)
   if n<0 then runtimePanic (.error "unsafe.String: len out of range")
   if n>IntKind.i64.max then unsupported (.unsafePointer "String: a length above the largest int")
   if n=0 then pure (.string .empty)
   else if<-variablesAt ⟨g,u,none⟩ (<-elemOf pt) n.toNat then do
    let s<-loadBytes ⟨g,u,none⟩ .empty n.toNat
    freeze ⟨g,u,none⟩ n.toNat
    pure (.string s)
   else unsupported (.unsafePointer "String: not so many bytes at ptr")):=rfl
 rw[Y]
 have Z:IntKind.i64.max=9223372036854775807:=rfl
 have aa:¬(l.length:Int)<0:=by omega
 simp[asInt,asIntOf,Z,W,aa,hl,elemOf,run_underlying hp,variablesAt,ae,O,af]
theorem R.freeze(r:R ρ M U h H){b:Ps}{c:List V}{Y es:Nat}{op ro:Bool}(Z:look b h.t=some (.cells c Y es op ro)){w:fe}(hw:w.heap=H){I aa kap:Nat}(hρ:ρ b=some (I,aa,kap))(u n:Nat)(W:es≠0):
 R ρ M U {h with t:=ins (.cells c Y es op true) b h.t} (w.freeze ⟨I,u,none⟩ n).heap:=by
 obtain⟨aq,ao,ar,x2,q1,q2,_,O,N,ah,q4,q5,q6,q7,q8⟩:=r.ob b _ Z trivial
 rw[hρ] at q1
 cases q1
 subst ah
 by_cases hn:n=0
 .have:(w.freeze ⟨I,u,none⟩ n).heap=H:=by unfold World.freeze;rw[if_pos hn,hw]
  rw[this]
  exact r.oC Z trivial hρ (λ_ _=>rfl) q2 ⟨O,N,rfl,q4,q5,q6,(λh=>by cases h),λho=>⟨(q8 ho).1,λ_ he=>absurd he W⟩⟩
 .have hf:(w.freeze ⟨I,u,none⟩ n).heap=H.modify I λ
   |.cells c elem (lo,hi)=>.cells c elem (if lo==hi then(u,u+n) else(min lo u,max hi (u+n)))
   |o=>o:=by
   unfold World.freeze
   rw[if_neg hn]
   simp only[hw]
   congr 1
  rw[hf]
  refine r.oC Z trivial hρ (x':=.cells O Y (if N.1==N.2 then(u,u+n) else(min N.1 u,max N.2 (u+n)))) (λi hi=>?_) ?_ ⟨O,_,rfl,q4,q5,q6,(λh=>by cases h),λho=>⟨(q8 ho).1,λ_ he=>absurd he W⟩⟩
  .rw[Array.getElem?_modify,if_neg (λe=>hi e.symm)]
  .rw[Array.getElem?_modify,if_pos rfl,q2]
   rfl
theorem vJ(w:fe)(a:dA)(n:Nat):ik w (w.freeze a n):=by
 unfold World.freeze
 split
 .exact ik.refl w
 .exact⟨rfl,rfl,rfl⟩
noncomputable def W8(P:eQ)(h:Hp)(u:List eK)(vs:List V)(K:V->Hp->Bool):Bool:=
 match u,vs with
 |[pt,_],[v,.int .i64 (.ofNat n)]=>(match P.underlying pt with
  |some (.pointer el)=>bif Nat.beq n 0 then(match v with|.sC=>K (.str 0 0) h|.ptr _ _=>K (.str 0 0) h|_=>false) else(match v with
   |.ptr b o=>bif Nat.ble n 9223372036854775807&&Rm P el then sS h b o n λcs=>Kk cs λN=>qJ b h.t λw=>(match w with
    |.cells c Qj es op ro=>bif Nat.beq Qj el&&!(Nat.beq es 0) then rq (.cells c Qj es op true) b h.t λt=>K (.str n N) ⟨t,h.nx,h.lo,h.hi⟩ else false
    |_=>false) else false
   |_=>false)
  |_=>false)
 |_,_=>false
theorem tU(w:fe)(pt u I:eK)(p:dC):(Builtin.unsafeString_ #[pt,u] I #[.pointer p,.int .i64 0]).run P w=.ok (.string (strOf 0 0)) w:=Lib.run_unsafeString_none w pt u I p
theorem OM(r:R ρ M U h H){ts:List eK}{vs:List V}{xs:List dB}(hd:jZ ρ M vs xs)(I:W8 P h ts vs K=true)(ty:eK):
 ∀w:fe,w.heap=H->∃u w',(Builtin.unsafeString_ ts.toArray ty xs.toArray).run P w=.ok u w'/\ik w w'/\Af ρ M U K u w'.heap:=by
 intro w hw
 unfold W8 at I
 split at I
 .rename_i pt it v n
  obtain⟨x,a',rfl,d1,d2⟩:=hd.il
  obtain⟨y,a2,rfl,d3,d4⟩:=d2.il
  obtain rfl:=d4.mg
  cases d3
  split at I
  .rename_i el hu
   cases Z:Nat.beq n 0 with
   |true=>
    rw[Z] at I
    have Z:=Nat.eq_of_beq_eq_true Z
    subst Z
    simp only[cond_true] at I
    split at I
    .cases d1
     exact⟨_,w,tU w pt it ty none,ik.refl w,by rw[hw];exact .mk r (.str 0 0) I⟩
    .cases d1
     exact⟨_,w,tU w pt it ty _,ik.refl w,by rw[hw];exact .mk r (.str 0 0) I⟩
    .cases I
   |false=>
    rw[Z] at I
    have Z:n≠0:=λe=>by rw[e] at Z;cases Z
    simp only[cond_false] at I
    split at I
    .rename_i b o
     have h2:=fz I
     clear I
     obtain⟨h0,I⟩:=h2
     simp only[Bool.and_eq_true] at h0
     have au:=Nat.le_of_ble_eq_true h0.1
     have ab:=h0.2
     unfold Rm at ab
     split at ab
     .rename_i aR
      have av:=Nat.eq_of_beq_eq_true ab
      cases d1 with
      |ptr hρ=>
      rename_i ad W kap
      obtain⟨cs,us,I,hl,aj,hc⟩:=qE r I hρ
      obtain⟨N,I,he⟩:=E0 I aj
      obtain⟨ob,hb,I⟩:=jl I
      split at I
      .rename_i c aS es op ro
       have h2:=fz I
       clear I
       obtain⟨O,I⟩:=h2
       rw[Bool.and_eq_true] at O
       obtain⟨O,ae⟩:=O
       have aA:es≠0:=λe=>by rw[e] at ae;cases ae
       have O:=Nat.eq_of_beq_eq_true O
       rw[O] at hb I
       rw[lD] at I
       obtain⟨aM,aG,aO,x2,q1,q2,_,af,aT,aD,q4,q5,q6,q7,q8⟩:=r.ob b _ hb trivial
       rw[hρ] at q1
       cases q1
       subst aD
       have aa:(bl n N).length=n:=DY n N
       have aP:us.length=n:=by rw[<-aj.1,hl]
       rw[hl] at he
       have aE:w.shape? ad=some (el,af.size):=by unfold World.shape?;rw[hw,q2]
       have aF:∀(j:Nat) x,(bl n N)[j]?=some x->w.cell? ((⟨ad,W+o,none⟩:dA).add j)=some (.int .u8 x.toNat):=by
        intro j x hx
        rw[pS]
        refine cell_of hw (hc j _ ?_)
        rw[he]
        unfold fV strOf
        simp[hx]
       have ai:W+o+(bl n N).length<=af.size:=by
        rw[aa]
        have Y:=hc (n-1) us[n-1] (by simp)
        unfold dL at Y
        simp only[q2] at Y
        have:=(Array.getElem?_eq_some_iff.1 (by simpa using Y)).1
        omega
       have ag:=EK w pt it ty el hu av ad (W+o) af.size aE (bl n N) (by intro e;rw[e] at aa;simp at aa;omega) ai (by rw[aa];exact au) aF
       rw[aa] at ag
       refine⟨_,_,ag,vJ _ _ _,?_⟩
       exact .mk (r.freeze hb hw hρ (W+o) n aA) (.str n N) I
      .cases I
     .cases ab
    .cases I
  .cases I
 .cases I
noncomputable def Gp(P:eQ)(h:Hp)(u:List eK)(vs:List V)(K:V->Hp->Bool):Bool:=
 match u,vs with
 |t::_,[v,.mH]=>(match P.underlying t with
  |some (.slice el)=>bif(P.info? el).isSome then(match v with|.mH=>K (.int .i64 (.ofNat 0)) h|.slice ..=>K (.int .i64 (.ofNat 0)) h|.jC ..=>K (.int .i64 (.ofNat 0)) h|_=>false) else false
  |_=>false)
 |_,_=>false
end Go.X
namespace Go.X
open Go.Ex
variable {P:eQ} {ρ:jF} {M:Nat} {U:Un} {h:Hp} {H:dw} {env:Tr V} {e:Env} {K:V->Hp->Bool}
theorem Gn(r:R ρ M U h H){Y:List eK}{vs:List V}{xs:List dB}(hd:jZ ρ M vs xs)(I:Gp P h Y vs K=true)(Z:eK):
 ∀w:fe,w.heap=H->∃u w',(Builtin.copy_ Y.toArray Z xs.toArray).run P w=.ok u w'/\ik w w'/\Af ρ M U K u w'.heap:=by
 intro w N
 unfold Gp at I
 split at I
 .rename_i t aa v
  obtain⟨x,a',rfl,O,d2⟩:=hd.il
  obtain⟨y,a2,rfl,d3,d4⟩:=d2.il
  obtain rfl:=d4.mg
  cases d3
  split at I
  .rename_i el hu
   obtain⟨hi,I⟩:=fz I
   obtain⟨i,hi⟩:=Option.isSome_iff_exists.1 hi
   have W:∀p l c,(Builtin.copy_ (t::aa).toArray Z [Value.slice p l c,.slice none 0 0].toArray).run P w=.ok (.int .i64 (.ofNat 0)) w:=by
    intro p l c
    unfold Builtin.copy_
    simp only[List.getElem?_toArray,List.getElem?_cons_zero,List.getElem?_cons_succ]
    rw[Sem.run_bind,fJ hu]
    simp only[Result.andThen]
    rw[Sem.run_bind,show(Builtin.lenOf (.slice none 0 0)).run P w=.ok 0 w from rfl]
    simp only[Result.andThen]
    rw[Sem.run_bind,jE hi]
    simp only[Result.andThen]
    rw[Sem.run_bind,show∀n,(Builtin.firstCells i.size n (.slice none 0 0)).run P w=.ok #[] w fromλ_=>rfl]
    simp only[Result.andThen]
    have:Nat.min 0 l=0:=by simp
    rw[this]
    cases p with
    |none=>rfl
    |some a=>rfl
   split at I
   .cases O;exact⟨_,w,W _ _ _,ik.refl w,by rw[N];exact .mk r (.int _ _) I⟩
   .cases O;exact⟨_,w,W _ _ _,ik.refl w,by rw[N];exact .mk r (.int _ _) I⟩
   .cases O;exact⟨_,w,W _ _ _,ik.refl w,by rw[N];exact .mk r (.int _ _) I⟩
   .cases I
  .cases I
 .cases I
noncomputable def Ia(P:eQ)(h:Hp)(s d:eK)(v:V)(K:V->Hp->Bool):Bool:=
 bif Nat.beq s d then(match P.underlying s,v with
  |some (.slice u),.slice b o l c=>(match P.underlying u with
   |some (.int .u8)=>qJ b h.t λw=>(match w with|.cells _ _ _ _ false=>K (.slice b o l c) h|_=>false)
   |_=>false)
  |_,_=>false) else false
theorem JE(r:R ρ M U h H){s d:eK}{o:gU}{v:V}{x:dB}(hx:nN e o=some x)(dv:Dn ρ M v x)(I:Ia P h s d v K=true):Wr P ρ M U H (.convert s d o) e K:=by
 unfold Ia at I
 have h2:=fz I
 clear I
 obtain⟨Z,I⟩:=h2
 have Z:=Nat.eq_of_beq_eq_true Z
 subst Z
 split at I
 .rename_i el b o' l c hu
  split at I
  .rename_i ah
   obtain⟨ob,hb,I⟩:=jl I
   split at I
   .rename_i cs Y es op
    cases dv with
    |slice hρ=>
    rename_i N aa kap
    obtain⟨az,au,aA,x2,q1,q2,_,u,O,am,q4,q5,q6,q7,q8⟩:=r.ob b _ hb trivial
    rw[hρ] at q1
    cases q1
    subst am
    refine qj (s:=λ_=>convert s s (.slice (some ⟨N,aa+o',none⟩) l c)) (λ_ w hw=>⟨.slice (some ⟨N,aa+o',none⟩) l c,w.freeze ⟨N,u.size,none⟩ 1,?_,vJ _ _ _,?_⟩) λad ho τ ha=>?_
    .unfold convert
     rw[Sem.run_bind,fJ hu]
     simp only[Result.andThen]
     rw[Sem.run_bind,fJ hu]
     simp only[Result.andThen]
     rw[Sem.run_bind,fJ ah]
     simp only[Result.andThen,beq_self_eq_true]
     rw[Sem.run_bind]
     unfold markStringish
     rw[Sem.run_bind,run_shape]
     have ao:w.shape? N=some (Y,u.size):=by unfold World.shape?;rw[hw,q2]
     simp only[Result.andThen,ao,run_freeze]
     rfl
    .refine .mk (h':=h) ?_ (.slice hρ) I
     have hf:(w.freeze ⟨N,u.size,none⟩ 1).heap=H.modify N λ
      |.cells c elem (lo,hi)=>.cells c elem (if lo==hi then(u.size,u.size+1) else(min lo u.size,max hi (u.size+1)))
      |o=>o:=by
      unfold World.freeze
      rw[if_neg (by omega)]
      simp only[hw]
      congr 1
     rw[hf]
     have ac:ins (.cells cs Y es op false) b h.t=h.t:=by
      have:∀(p:Ps)(t:Tr Ob)(x:Ob),look p t=some x->ins x p t=t:=by
       intro p
       induction p with
       |h=>intro t x W;cases t with|lf=>cases W|nd l v r=>simp[look] at W;simp[ins,W]
       |o p ih=>intro t x W;cases t with|lf=>cases W|nd l v r=>simp[ins,ih _ _ W]
       |i p ih=>intro t x W;cases t with|lf=>cases W|nd l v r=>simp[ins,ih _ _ W]
      exact this _ _ _ hb
     have:=r.oC (o':=.cells cs Y es op false) hb trivial hρ (H':=H.modify N λ
      |.cells c elem (lo,hi)=>.cells c elem (if lo==hi then(u.size,u.size+1) else(min lo u.size,max hi (u.size+1)))
      |o=>o) (x':=.cells u Y (if O.1==O.2 then(u.size,u.size+1) else(min O.1 u.size,max O.2 (u.size+1)))) (λi hi=>by rw[Array.getElem?_modify,if_neg (λe=>hi e.symm)]) (by rw[Array.getElem?_modify,if_pos rfl,q2];rfl)
      ⟨u,_,rfl,q4,q5,q6,(λaq=>by
       have:=q7 aq
       right
       by_cases h1:O.1=O.2
       .simp[h1]
       .simp only[beq_iff_eq,h1,if_false];omega),λho=>⟨(q8 ho).1,λh=>by cases h⟩⟩
     rw[ac] at this
     exact this
    .obtain⟨aJ,ad,aI,aK,av,guard⟩:=ad
     simp only at ho
     subst ho
     simp only[execOp,ha o (by simp[Op.operands]) _ hx]
   .cases I
  .cases I
 .cases I
noncomputable def xX(P:eQ)(h:Hp)(b:Builtin)(w:List eK)(vs:List V)(K:V->Hp->Bool):Bool:=
 match b with
 |.append=>(match vs,w with|[x,y],[t,u]=>(match P.underlying u with|some (.int _)|none=>false|some _=>RY P h t x y K)|_,_=>false)
 |.copy=>Gp P h w vs K
 |.unsafeString=>W8 P h w vs K
 |_=>false
noncomputable def CI(P:eQ)(w:fQ)(h:Hp)(I:Op)(env:Tr V)(K:V->Hp->Bool):Bool:=
 match I with
 |.store t x y=>xo env x λv=>(match v with|.ptr b o=>xo env y λu=>CJ P h t b o u K|_=>false)
 |.alloc t=>zT P h t K
 |.box t x=>xo env x λv=>OV h t v K
 |.makeSlice t l c=>xo env l λN=>xo env c λO=>Ic P h t N O K
 |.buildSlice t len parts=>JI env parts.toList λW=>Lu P h t len W K
 |.convert s d x=>xo env x λv=>(match v with|.slice ..=>Ia P h s d v K|_=>CP P h s d v K)
 |.makeMap _ none=>RV h K
 |.mapUpdate t m k x=>xo env m λv=>(match v with|.map m=>xo env k λk=>xo env x λx=>Gh P h t m k x K|_=>false)
 |.insert t m k x=>xo env m λv=>(match v with|.map m=>xo env k λk=>xo env x λx=>Gh P h t m k x K|_=>false)
 |.range t x=>xo env x λv=>CM P h t v K
 |.next it s=>xo env it λv=>(match v with|.ptr b o=>Ib h b o s K|_=>false)
 |.call ⟨.value fo,args,_⟩=>Ih w env h fo args.toList K
 |.call ⟨.invoke ro name,args,_⟩=>OR P w env h ro name args.toList K
 |.call ⟨.builtin b,args,ts⟩=>xL env args.toList λvs=>xX P h b ts.toList vs K
 |_=>false
inductive BW where
 |mk (f:Hp->Tr V->(V->Hp->Bool)->Bool)
noncomputable def TP(P:eQ)(w:fQ)(I:Op):BW:=
 match I with
 |.store t x y=>.mk λh env K=>xo env x λv=>(match v with|.ptr b o=>xo env y λu=>CJ P h t b o u K|_=>false)
 |.alloc t=>.mk λh env K=>zT P h t K
 |.box t x=>.mk λh env K=>xo env x λv=>OV h t v K
 |.makeSlice t l c=>.mk λh env K=>xo env l λN=>xo env c λO=>Ic P h t N O K
 |.buildSlice t len parts=>.mk λh env K=>JI env parts.toList λW=>Lu P h t len W K
 |.convert s d x=>.mk λh env K=>xo env x λv=>(match v with|.slice ..=>Ia P h s d v K|_=>CP P h s d v K)
 |.makeMap _ none=>.mk λh env K=>RV h K
 |.mapUpdate t m k x=>.mk λh env K=>xo env m λv=>(match v with|.map m=>xo env k λk=>xo env x λx=>Gh P h t m k x K|_=>false)
 |.insert t m k x=>.mk λh env K=>xo env m λv=>(match v with|.map m=>xo env k λk=>xo env x λx=>Gh P h t m k x K|_=>false)
 |.range t x=>.mk λh env K=>xo env x λv=>CM P h t v K
 |.next it s=>.mk λh env K=>xo env it λv=>(match v with|.ptr b o=>Ib h b o s K|_=>false)
 |.call ⟨.value fo,args,_⟩=>.mk λh env K=>Ih w env h fo args.toList K
 |.call ⟨.invoke ro name,args,_⟩=>.mk λh env K=>OR P w env h ro name args.toList K
 |.call ⟨.builtin b,args,ts⟩=>.mk λh env K=>xL env args.toList λvs=>xX P h b ts.toList vs K
 |_=>.mk λ_ _ _=>false
noncomputable def xW(P:eQ)(u:fQ)(h:Hp)(w:Op)(env:Tr V)(K:V->Hp->Bool):Bool:=BW.rec (motive:=λ_=>Bool) (λf=>f h env K) (TP P u w)
theorem zP(P:eQ)(w:fQ)(h:Hp)(u:Op)(env:Tr V)(K:V->Hp->Bool):xW P w h u env K=CI P w h u env K:=by
 cases u with
 |call c=>obtain⟨c,a,t⟩:=c;cases c<;>rfl
 |makeMap t o=>cases o<;>rfl
 |_=>rfl
theorem qh(hp:fF P=true){cf:fQ}(aj:jb P M cf)(N:E ρ M env e)(r:R ρ M U h H){op:Op}(I:xW P cf h op env K=true):Wr P ρ M U H op e K:=by
 have O:Gl ρ:=r.gl
 rw[zP] at I
 unfold CI at I
 split at I
 .obtain⟨v,y,W,Y,I⟩:=gv N O I
  split at I
  .obtain⟨v2,y2,Z,aa,I⟩:=gv N O I
   exact Ge r W Z Y aa I
  .cases I
 .exact Gt r I
 .obtain⟨v,y,W,Y,I⟩:=gv N O I
  exact LN r W Y I
 .obtain⟨v,y,W,Y,I⟩:=gv N O I
  obtain⟨v2,y2,Z,aa,I⟩:=gv N O I
  exact JK r W Z Y aa I
 .obtain⟨vs,ps,h0,h1,h2,I⟩:=zR N O I
  exact Lt r h0 h1 h2 I
 .obtain⟨v,y,W,Y,I⟩:=gv N O I
  split at I
  .exact JE r W Y I
  .exact Gq r W Y I
 .exact LF r I
 .obtain⟨v,y,W,Y,I⟩:=gv N O I
  split at I
  .obtain⟨v2,y2,Z,aa,I⟩:=gv N O I
   obtain⟨v3,y3,ac,ad,I⟩:=gv N O I
   exact(El r W Z ac Y aa ad I).1
  .cases I
 .obtain⟨v,y,W,Y,I⟩:=gv N O I
  split at I
  .obtain⟨v2,y2,Z,aa,I⟩:=gv N O I
   obtain⟨v3,y3,ac,ad,I⟩:=gv N O I
   exact(El r W Z ac Y aa ad I).2
  .cases I
 .obtain⟨v,y,W,Y,I⟩:=gv N O I
  exact Gg r W Y I
 .obtain⟨v,y,W,Y,I⟩:=gv N O I
  split at I
  .exact JJ r W Y I
  .cases I
 .exact JO hp aj N r I
 .exact LH hp aj N r I
 .rename_i b args ts
  obtain⟨vs,xs,hl,af,I⟩:=tJ N O I
  unfold xX at I
  have ag:∀τ:gU->dB,iP e τ (Op.call ⟨.builtin b,args,ts⟩).operands.toList->args.map τ=xs.toArray:=λτ ha=>by
   have ea:=j9 hl (τ:=τ) (λy hy=>ha y (by simp[Op.operands,Call.operands];simpa using hy))
   rw[<-ea];cases args;simp
  split at I
  .split at I
   .rename_i x y t u ax
    split at I
    .cases I
    .cases I
    .rename_i d aO hu
     obtain⟨x',a',rfl,d1,d2⟩:=af.il
     obtain⟨y',a2,rfl,d3,d4⟩:=d2.il
     obtain rfl:=d4.mg
     have ao:=LQ r d1 d3 I
     rcases ha:args.toList with _|⟨aP,_|⟨aQ,_|⟨aR,rr⟩⟩⟩<;>rw[ha] at hl<;>simp at hl
     refine .inl ?_
     simp only[kW,ha,ax,hu]
     simp only[o1,hl.1,hl.2]
     exact ao
   .cases I
  .refine qj (s:=λo=>Builtin.copy_ ts o.type xs.toArray) (λo w hw=>?_) λo ho τ ha=>?_
   .have:=Gn r af I o.type w hw
    simpa using this
   .have:=ag τ ha
    obtain⟨ay,az,aq,aA,ai,guard⟩:=o
    simp only at ho
    subst ho
    simp only[execOp,resolve,this,pure_bind,invoke,builtin]
  .refine qj (s:=λo=>Builtin.unsafeString_ ts o.type xs.toArray) (λo w hw=>?_) λo ho τ ha=>?_
   .have:=OM r af I o.type w hw
    simpa using this
   .have:=ag τ ha
    obtain⟨ay,az,aq,aA,ai,guard⟩:=o
    simp only at ho
    subst ho
    simp only[execOp,resolve,this,pure_bind,invoke,builtin]
  .cases I
 .cases I
end Go.X
namespace Go.X
open Go.Ex
variable {P:eQ} {ρ:jF} {M:Nat} {U:Un} {h:Hp} {H:dw} {env:Tr V} {e:Env}
noncomputable def XN(p:Ps)(k:Ps->Bool):Bool:=Ps.rec (motive:=λ_=>Bool) (k .h) (λp _=>k (.o p)) (λp _=>k (.i p)) p
theorem Ty(p:Ps)(k:Ps->Bool):XN p k=k p:=by cases p<;>rfl
noncomputable def MT(h:Hp)(k:Hp->Bool):Bool:=Hp.rec (motive:=λ_=>Bool) (λt u w hi=>XN u λu=>fN w λw=>fN hi λhi=>k ⟨t,u,w,hi⟩) h
theorem sB(h:Hp)(k:Hp->Bool):MT h k=k h:=by
 obtain⟨t,u,w,hi⟩:=h
 show(XN u λu=>fN w λw=>fN hi λhi=>k ⟨t,u,w,hi⟩)=_
 rw[Ty,jm,jm]
abbrev KE:=Tr V->Hp->Bool
noncomputable def jH(env:Tr V)(d:Option Tmp)(v:V)(k:Tr V->Bool):Bool:=match d with|some d=>rq v (mX d) env k|none=>k env
theorem tX{d:Option Tmp}{v:V}{x:dB}{k:Tr V->Bool}(w:jH env d v k=true)(W:E ρ M env e)(Y:Dn ρ M v x):∃I,k I=true/\E ρ M I (put e d x):=by
 unfold jH at w
 split at w
 .rename_i d
  rw[lD] at w
  refine⟨_,w,λt u N=>?_⟩
  rw[jG] at N
  rw[mG]
  by_cases O:mX t=mX d
  .rw[if_pos O] at N
   cases N
   rw[if_pos (uG O)]
   exact⟨x,rfl,Y⟩
  .rw[if_neg O] at N
   rw[if_neg (λe=>O (by rw[e]))]
   exact W t u N
 .exact⟨_,w,W⟩
noncomputable def pE(ops:Array Oper)(o:Oper)(env:Tr V)(k:Bool->Bool):Bool:=
 match o.guard with
 |none=>k true
 |some (j,u)=>match(ops[j]?).bind (·.dst) with
  |none=>k false
  |some d=>qJ (mX d) env λv=>(match v with|.bool b=>fB (b==u) k|.pZ _=>k false|_=>false)
theorem rK{ops:Array Oper}{o:Oper}{k:Bool->Bool}(O:E ρ M env e)(u:pE ops o env k=true):∃b,gJ ops o e=some b/\k b=true:=by
 unfold pE at u
 unfold gJ
 split at u
 .rename_i w;rw[w];exact⟨true,rfl,u⟩
 .rename_i j W w
  rw[w]
  simp only
  split at u
  .rename_i I;rw[I];exact⟨false,rfl,u⟩
  .rename_i d I
   rw[I]
   simp only
   obtain⟨v,Y,u⟩:=jl u
   obtain⟨x,Z,N⟩:=O d v Y
   rw[Z]
   split at u
   .cases N;rw[pI] at u;exact⟨_,rfl,u⟩
   .cases N;exact⟨false,rfl,u⟩
   .cases u
theorem gD{g:Bool}{v:dB}{K:dB->Prop}(h:K v):mr g v K:=by
 unfold mr
 split
 .exact h
 .split
  .rename_i b;cases b<;>exact h
  .exact h
theorem R.bound(r:R ρ M U h H){u hi:Nat}(w:u<=M)(I:M<=hi):R ρ M U ⟨h.t,h.nx,u,hi⟩ H:=⟨r.gl,r.NL,r.ob,r.inj,r.un,⟨w,I⟩,r.ml⟩
noncomputable def yU(P:eQ)(cf:fQ)(o:Oper)(env:Tr V)(h:Hp)(K:V->Hp->Bool):Bool:=
 match kindOf P o.op with
 |.pure=>Hp.rec (motive:=λ_=>Bool) (λt w u hi=>wo P u hi o.op env λv u hi=>K v ⟨t,w,u,hi⟩) h
 |.read=>B0 P h o.op env λv=>K v h
 |.write=>xW P cf h o.op env λv h=>MT h λh=>K v h
inductive BX where
 |mk (f:Tr V->Hp->(V->Hp->Bool)->Bool)
noncomputable def Qv(P:eQ)(cf:fQ)(o:Oper):BX:=
 match kindOf P o.op with
 |.pure=>BP.rec (motive:=λ_=>BX) (λf=>.mk λenv h K=>Hp.rec (motive:=λ_=>Bool) (λt w u hi=>f u hi env λv u hi=>K v ⟨t,w,u,hi⟩) h) (TR P o.op)
 |.read=>Yj.rec (motive:=λ_=>BX) (λf=>.mk λenv h K=>f h env λv=>K v h) (TQ P o.op)
 |.write=>BW.rec (motive:=λ_=>BX) (λf=>.mk λenv h K=>f h env λv h=>MT h λh=>K v h) (TP P cf o.op)
noncomputable def wq(P:eQ)(cf:fQ)(o:Oper)(env:Tr V)(h:Hp)(K:V->Hp->Bool):Bool:=BX.rec (motive:=λ_=>Bool) (λf=>f env h K) (Qv P cf o)
theorem rh(P:eQ)(cf:fQ)(o:Oper)(env:Tr V)(h:Hp)(K:V->Hp->Bool):wq P cf o env h K=yU P cf o env h K:=by
 unfold wq Qv yU
 split
 .cases u:TR P o.op;unfold wo;rw[u]
 .cases u:TQ P o.op;unfold B0;rw[u]
 .cases u:TP P cf o.op;unfold xW;rw[u]
inductive T3 where
 |put (f:Tr V->Hp->(V->Hp->Bool)->Bool) (g:V->Tr V->(Tr V->Bool)->Bool)|no (f:Tr V->Hp->(V->Hp->Bool)->Bool)|gd (o:Oper)
noncomputable def TH(P:eQ)(cf:fQ)(o:Oper):T3:=
 match o.guard with
 |some _=>.gd o
 |none=>BX.rec (motive:=λ_=>T3) (λf=>match o.dst with|some d=>BS.rec (motive:=λ_=>T3) (λg=>.put f g) (DX (mX d))|none=>.no f) (Qv P cf o)
noncomputable def py(P:eQ)(cf:fQ)(ops:Array Oper)(l:List Oper)(env:Tr V)(h:Hp)(K:KE):Bool:=
 List.rec (motive:=λ_=>Tr V->Hp->Bool) (λenv h=>K env h)
  (λo _ u env h=>T3.rec (motive:=λ_=>Bool) (λf g=>f env h λv h=>g v env λenv=>u env h) (λf=>f env h λv h=>u env h)
   (λo=>pE ops o env λw=>match w with
    |false=>jH env o.dst (.pZ []) λenv=>u env h
    |true=>wq P cf o env h λv h=>jH env o.dst v λenv=>u env h) (TH P cf o)) l env h
theorem JH(P:eQ)(cf:fQ)(ops:Array Oper)(o:Oper)(l:List Oper)(env:Tr V)(h:Hp)(K:KE):py P cf ops (o::l) env h K=(pE ops o env λw=>match w with
 |false=>jH env o.dst (.pZ []) λenv=>py P cf ops l env h K
 |true=>wq P cf o env h λv h=>jH env o.dst v λenv=>py P cf ops l env h K):=by
 show T3.rec (motive:=λ_=>Bool) (λf g=>f env h λv h=>g v env λenv=>py P cf ops l env h K) (λf=>f env h λv h=>py P cf ops l env h K)
  (λo=>pE ops o env λw=>match w with
   |false=>jH env o.dst (.pZ []) λenv=>py P cf ops l env h K
   |true=>wq P cf o env h λv h=>jH env o.dst v λenv=>py P cf ops l env h K) (TH P cf o)=_
 obtain⟨I,Z,O,W,u,guard⟩:=o
 cases guard with
 |some g=>rfl
 |none=>
  unfold TH wq
  cases Qv P cf ⟨I,Z,O,W,u,none⟩ with
  |mk f=>
   cases I with
   |none=>rfl
   |some d=>
    have N:=λ(v:V)(h:Hp)=>Qw v (mX d) env λenv=>py P cf ops l env h K
    obtain⟨g,Y⟩:∃g,DX (mX d)=.mk g:=by
     cases DX (mX d) with
     |mk g=>exact⟨g,rfl⟩
    rw[Y] at N
    show T3.rec (motive:=λ_=>Bool) (λf g=>f env h λv h=>g v env λenv=>py P cf ops l env h K) (λf=>f env h λv h=>py P cf ops l env h K)
     (λo=>pE ops o env λw=>match w with
      |false=>jH env o.dst (.pZ []) λenv=>py P cf ops l env h K
      |true=>wq P cf o env h λv h=>jH env o.dst v λenv=>py P cf ops l env h K)
     (BS.rec (motive:=λ_=>T3) (λg=>.put f g) (DX (mX d)))=(f env h λv h=>rq v (mX d) env λenv=>py P cf ops l env h K)
    rw[Y]
    show(f env h λv h=>g v env λenv=>py P cf ops l env h K)=_
    congr 1
    funext v h
    exact N v h
def At(ρ:jF)(M:Nat)(U:Un)(K:KE)(e:Env)(H:dw):Prop:=∃ρ' env h,Le ρ ρ'/\E ρ' M env e/\R ρ' M U h H/\K env h=true
theorem pv:Dn ρ M (.pZ []) undef:=jZ.pZ .nil
section
variable {cf:fQ}
theorem zQ(hp:fF P=true)(ap:jb P M cf){ops:Array Oper}{K:KE}:∀(l:List Oper)(i:Nat)(ρ:jF)(env:Tr V)(h:Hp)(e:Env)(H:dw),py P cf ops l env h K=true->E ρ M env e->R ρ M U h H->
 oz P ops l i e H (At ρ M U K):=by
 intro l
 induction l with
 |nil=>intro i ρ env h e H I Y r;exact⟨ρ,env,h,Le.refl _,Y,r,I⟩
 |cons o l ih=>
  intro i ρ env h e H I Y r
  replace I:(pE ops o env λw=>match w with
   |false=>jH env o.dst (.pZ []) λenv=>py P cf ops l env h K
   |true=>wq P cf o env h λv h=>jH env o.dst v λenv=>py P cf ops l env h K)=true:=by rw[<-JH];exact I
  obtain⟨b,Z,I⟩:=rK Y I
  unfold oz
  rw[Z]
  have step:∀{ρ':jF}{v:V}{x:dB}{h':Hp}{H':dw},Le ρ ρ'->R ρ' M U h' H'->Dn ρ' M v x->(jH env o.dst v λenv=>py P cf ops l env h' K)=true->oz P ops l (i+1) (put e o.dst x) H' (At ρ M U K):=by
   intro ρ' v x h' H' hl r' hd N
   obtain⟨ai,N,aq⟩:=tX N (Y.mono hl) hd
   have:=ih (i+1) ρ' ai h' _ H' N aq r'
   have aj:∀(l:List Oper)(i:Nat)(e:Env)(H:dw)(K K':Env->dw->Prop),(∀e H,K e H->K' e H)->oz P ops l i e H K->oz P ops l i e H K':=by
    intro l
    induction l with
    |nil=>intro i e H K K' N h;exact N _ _ h
    |cons o l ab=>
     intro i e H K K' N h
     unfold oz at h⊢
     split
     .rename_i Z;rw[Z] at h;exact h
     .rename_i Z;rw[Z] at h;exact ab _ _ _ _ _ N h
     .rename_i Z
      rw[Z] at h
      simp only at h
      split
      .rename_i O;rw[O] at h;simp only at h
       exact .inr λo' W=>by
        obtain⟨v,hv,hr⟩:=kb (o:=o') (by rw[W];exact h)
        exact⟨v,gD (ab _ _ _ _ _ N (fZ hv)),by rw[W] at hr;exact hr⟩
      .rename_i O;rw[O] at h;simp only at h
       exact .inr λo' W=>by
        obtain⟨v,hv,hr⟩:=ka (o:=o') (by rw[W];exact h)
        exact⟨v,gD (ab _ _ _ _ _ N (fZ hv)),by rw[W] at hr;exact hr⟩
      .rename_i O;rw[O] at h;simp only at h
       exact je hp h λu H' q=>gD (ab _ _ _ _ _ N (fZ q))
   exact aj _ _ _ _ _ _ (λe H⟨ρ2,am,h2,a,b,c,d⟩=>⟨ρ2,am,h2,hl.trans a,b,c,d⟩) this
  cases b with
  |false=>exact step (Le.refl _) r pv I
  |true=>
   simp only at I⊢
   simp only[rh] at I
   unfold yU at I
   cases N:kindOf P o.op with
   |pure=>
    rw[N] at I
    simp only at I⊢
    obtain⟨t,nx,lo,hi⟩:=h
    replace I:(wo P lo hi o.op env λv lo hi=>jH env o.dst v λenv=>py P cf ops l env ⟨t,nx,lo,hi⟩ K)=true:=I
    obtain⟨v,x,aw,ax,hd,h1,h2,N,ad⟩:=rJ Y r.gl r.bd.1 r.bd.2 I
    exact po ad (gD (step (Le.refl _) (r.bound h1 h2) hd N))
   |read=>
    rw[N] at I
    simp only at I⊢
    obtain⟨v,x,hd,N,ad⟩:=pY Y r I
    exact mL ad (gD (step (Le.refl _) r hd N))
   |write=>
    rw[N] at I
    simp only at I⊢
    have:=qh hp ap Y r I
    refine je hp this ?_
    rintro u H' ⟨ρ',v,h',hl,r',hd,N⟩
    simp only[sB] at N
    exact gD (step hl r' hd N)
end
noncomputable def Ui(p q:Ps):Bool:=
 Ps.rec (motive:=λ_=>Ps->Bool) (λq=>Ps.rec (motive:=λ_=>Bool) true (λ_ _=>false) (λ_ _=>false) q)
  (λ_ u q=>Ps.rec (motive:=λ_=>Bool) false (λq _=>u q) (λ_ _=>false) q) (λ_ u q=>Ps.rec (motive:=λ_=>Bool) false (λ_ _=>false) (λq _=>u q) q) p q
theorem wX:∀{p q:Ps},Ui p q=true->p=q:=by
 intro p
 induction p with
 |h=>intro q h;cases q with|h=>rfl|o q=>cases h|i q=>cases h
 |o p u=>intro q h;cases q with|h=>cases h|o q=>rw[u (q:=q) h]|i q=>cases h
 |i p u=>intro q h;cases q with|h=>cases h|o q=>cases h|i q=>rw[u (q:=q) h]
def Xe(u v:V):Bool:=
 match u,v with
 |.int k n,.int k' n'=>Ck k k'&&ND n n'
 |.sym a c,.sym a' c'=>Nat.beq a a'&&Nat.beq c c'
 |.bool a,.bool b=>!(xor a b)
 |.str n N,.str m N'=>Nat.beq n m&&Nat.beq N N'
 |.sC,.sC|.mH,.mH|.sD,.sD|.yi,.yi|.xf,.xf=>true
 |_,_=>false
noncomputable def Ue(u v:V):Bool:=
 match u,v with
 |.ptr b o,.ptr b' o'=>Ui b b'&&Nat.beq o o'
 |.slice b o l c,.slice b' o' l' c'=>Ui b b'&&Nat.beq o o'&&Nat.beq l l'&&Nat.beq c c'
 |.jC b es l d,.jC b' Ut l' d'=>Ui b b'&&Nat.beq es Ut&&Nat.beq l l'&&Nat.beq d d'
 |.map m,.map m'=>Ui m m'
 |u,v=>Xe u v
noncomputable def Jw(l m:List V):Bool:=List.rec (motive:=λ_=>List V->Bool) (λm=>match m with|[]=>true|_=>false) (λu _ w m=>match m with|v::m=>Ue u v&&w m|[]=>false) l m
noncomputable def Xd(u v:V):Bool:=
 match u,v with
 |.agg l,.agg m=>Jw l m
 |u,v=>Ue u v
noncomputable def vS(u v:V):Bool:=
 match u,v with
 |.iface t x,.iface t' y=>Nat.beq t t'&&Xd x y
 |.agg l,.agg m=>Jw l m
 |.fn f [] [],.fn g [] []=>Nat.beq f g
 |u,v=>Ue u v
section
variable {x y:dB}
theorem jr{a b:Bool}(h:(a&&b)=true):a=true/\b=true:=by cases a<;>cases b<;>simp_all
theorem O0{u v:V}(h:Xe u v=true)(I:Dn ρ M u x)(N:Dn ρ M v y):x=y:=by
 unfold Xe at h
 split at h
 .cases I;cases N;obtain⟨O,w⟩:=jr h;rw[zE O];rw[vT,decide_eq_true_eq] at w;rw[w]
 .cases I;cases N;obtain⟨O,w⟩:=jr h;rw[Nat.eq_of_beq_eq_true O,Nat.eq_of_beq_eq_true w]
 .cases I;cases N;rename_i a b;cases a<;>cases b<;>first|rfl|cases h
 .cases I;cases N;obtain⟨O,w⟩:=jr h;rw[Nat.eq_of_beq_eq_true O,Nat.eq_of_beq_eq_true w]
 all_goals first
  |(cases I;cases N;rfl)
  |cases h
theorem CY{u v:V}(h:Ue u v=true)(O:Dn ρ M u x)(W:Dn ρ M v y):x=y:=by
 unfold Ue at h
 split at h
 .obtain⟨Y,Z⟩:=jr h
  have I:=wX Y
  have e2:=Nat.eq_of_beq_eq_true Z
  subst I e2
  cases O with|ptr N=>cases W with|ptr w=>rw[N] at w;cases w;rfl
 .obtain⟨h,h4⟩:=jr h
  obtain⟨h,h3⟩:=jr h
  obtain⟨Y,Z⟩:=jr h
  have I:=wX Y
  have e2:=Nat.eq_of_beq_eq_true Z
  have e3:=Nat.eq_of_beq_eq_true h3
  have e4:=Nat.eq_of_beq_eq_true h4
  subst I e2 e3 e4
  cases O with|slice N=>cases W with|slice w=>rw[N] at w;cases w;rfl
 .obtain⟨h,h4⟩:=jr h
  obtain⟨h,h3⟩:=jr h
  obtain⟨Y,Z⟩:=jr h
  have I:=wX Y
  have e2:=Nat.eq_of_beq_eq_true Z
  have e3:=Nat.eq_of_beq_eq_true h3
  have e4:=Nat.eq_of_beq_eq_true h4
  subst I e2 e3 e4
  cases O with|jC N _=>cases W with|jC w _=>rw[N] at w;cases w;rfl
 .have I:=wX h
  subst I
  cases O with|map N=>cases W with|map w=>rw[N] at w;cases w;rfl
 .exact O0 h O W
theorem CD:∀{l m:List V},Jw l m=true->∀{a b:List dB},jZ ρ M l a->jZ ρ M m b->a=b:=by
 intro l
 induction l with
 |nil=>intro m h a b w I;cases m with
  |nil=>rw[w.mg,I.mg]
  |cons=>cases h
 |cons u l N=>intro m h a b w I;cases m with
  |nil=>cases h
  |cons v m=>
   replace h:(Ue u v&&Jw l m)=true:=h
   obtain⟨O,W⟩:=jr h
   obtain⟨x,a',rfl,Y,Z⟩:=w.il
   obtain⟨y,b',rfl,d3,d4⟩:=I.il
   rw[CY O Y d3,N W Z d4]
theorem OZ{u v:V}(h:Xd u v=true)(w:Dn ρ M u x)(I:Dn ρ M v y):x=y:=by
 unfold Xd at h
 split at h
 .cases w with|agg N O=>cases I with|agg W Y=>rw[CD h ⟨N,O⟩ ⟨W,Y⟩]
 .exact CY h w I
theorem R3{u v:V}(h:vS u v=true)(w:Dn ρ M u x)(I:Dn ρ M v y):x=y:=by
 unfold vS at h
 split at h
 .obtain⟨Y,Z⟩:=jr h
  have N:=Nat.eq_of_beq_eq_true Y
  subst N
  cases w with|iface O=>cases I with|iface W=>rw[OZ Z O W]
 .cases w with|agg l1 O=>cases I with|agg l2 W=>rw[CD h ⟨l1,O⟩ ⟨l2,W⟩]
 .have N:=Nat.eq_of_beq_eq_true h
  subst N
  cases w with
  |fn a1 a2 _ _=>
  cases I with
  |fn b1 b2 _ _=>
  have q1:=List.length_eq_zero_iff.1 a1.symm
  have q2:=List.length_eq_zero_iff.1 a2.symm
  have q3:=List.length_eq_zero_iff.1 b1.symm
  have q4:=List.length_eq_zero_iff.1 b2.symm
  rw[q1,q2,q3,q4]
 .exact CY h w I
end
abbrev Dl:=List (Nat×Tr V×V)
noncomputable def vi(P:eQ)(ops:Array Oper)(m:Nat)(h:Hp)(D:Dl)(k:Bool):Bool:=
 List.rec (motive:=λ_=>Bool) k (λx _ w=>match m.testBit x.1 with
  |true=>w
  |false=>match ops[x.1]? with|some o=>B0 P h o.op x.2.1 λu=>bif vS u x.2.2 then w else false|none=>false) D
inductive DR (ρ:jF) (M:Nat):Dl->List (Nat×Env×dB)->Prop where
 |nil:DR ρ M [] []
 |cons {x:Nat×Tr V×V} {y:Nat×Env×dB} {D D'} (h:x.1=y.1/\E ρ M x.2.1 y.2.1/\Dn ρ M x.2.2 y.2.2) (r:DR ρ M D D'):DR ρ M (x::D) (y::D')
theorem DR.mono{ρ ρ':jF}(w:Le ρ ρ'){D:Dl}{I:List (Nat×Env×dB)}(h:DR ρ M D I):DR ρ' M D I:=by
 induction h with
 |nil=>exact .nil
 |cons u _ N=>exact .cons ⟨u.1,u.2.1.mono w,u.2.2.mono w⟩ N
theorem DR.snoc{ρ:jF}{M:Nat}{D:Dl}{u:List (Nat×Env×dB)}(h:DR ρ M D u){x:Nat×Tr V×V}{y:Nat×Env×dB}(w:x.1=y.1/\E ρ M x.2.1 y.2.1/\Dn ρ M x.2.2 y.2.2):DR ρ M (D++[x]) (u++[y]):=by
 induction h with
 |nil=>exact .cons w .nil
 |cons I _ N=>exact .cons I N
theorem rO{ops:Array Oper}{m:Nat}{k:Bool}(r:R ρ M U h H):∀{D:Dl}{N:List (Nat×Env×dB)},DR ρ M D N->vi P ops m h D k=true->k=true/\∀A:Prop,A->lY P ops m H N A:=by
 intro D
 induction D with
 |nil=>intro N O I;cases O;exact⟨I,λA a=>a⟩
 |cons x D ih=>
  intro N O I
  cases O with
  |cons hx hr=>
  rename_i y N
  obtain⟨i,ex,v⟩:=x
  obtain⟨j,ey,w⟩:=y
  obtain⟨e1,e2,e3⟩:=hx
  simp only at e1 e2 e3
  subst e1
  replace I:(match m.testBit i with
   |true=>vi P ops m h D k
   |false=>match ops[i]? with|some o=>B0 P h o.op ex λu=>bif vS u v then vi P ops m h D k else false|none=>false)=true:=I
  split at I
  .rename_i W
   obtain⟨Y,Z⟩:=ih hr I
   refine⟨Y,λA a=>?_⟩
   unfold lY
   rw[W]
   exact Z A a
  .rename_i W
   split at I
   .rename_i o ho
    obtain⟨u,xu,af,I,ag⟩:=pY e2 r I
    obtain⟨hs,I⟩:=fz I
    obtain⟨Y,Z⟩:=ih hr I
    refine⟨Y,λA a=>?_⟩
    unfold lY
    rw[W]
    simp only[ho]
    refine⟨?_,Z A a⟩
    rw[<-R3 hs af e3]
    exact ag
   .cases I
noncomputable def xD(P:eQ)(cf:fQ)(ops:Array Oper)(B:List Nat)(l:List Nat)(env:Tr V)(h:Hp)(D:Dl)(K:KE):Bool:=
 List.rec (motive:=λ_=>Tr V->Hp->Dl->Bool) (λenv h _=>K env h)
  (λi _ u env h D=>match ops[i]? with
   |none=>false
   |some o=>pE ops o env λw=>match w with
    |false=>jH env o.dst (.pZ []) λenv=>u env h D
    |true=>match kindOf P o.op with
     |.pure=>wq P cf o env h λv h=>jH env o.dst v λenv=>u env h D
     |.read=>wq P cf o env h λv h=>jH env o.dst v λI=>u I h (D++[(i,env,v)])
     |.write=>wq P cf o env h λv h=>vi P ops (B.getD i 0) h D (jH env o.dst v λenv=>u env h D)) l env h D
section
variable {cf:fQ}
abbrev AL:=List Nat->Env->dw->List (Nat×Env×dB)->Prop
abbrev AT:AL:=λ_ _ _ _=>True
theorem qB(hp:fF P=true){ops:Array Oper}{B:List Nat}{A:AL}{K K':Env->dw->Prop}(hk:∀e H,K e H->K' e H)(N:AL)(hA:∀l e H D,A l e H D->N l e H D):∀(l:List Nat)(e:Env)(H:dw)(D:List (Nat×Env×dB)),qd P ops B A l e H D K->qd P ops B N l e H D K':=by
 intro l
 induction l with
 |nil=>intro e H D h;exact hk _ _ h
 |cons i l O=>
  intro e H D h
  unfold qd at h⊢
  split
  .rename_i ho;rw[ho] at h;exact h
  .rename_i o ho
   rw[ho] at h
   simp only at h
   split
   .rename_i W;rw[W] at h;exact h
   .rename_i W;rw[W] at h;exact O _ _ _ h
   .rename_i W
    rw[W] at h
    simp only at h
    split
    .rename_i w;rw[w] at h;simp only at h
     exact .inr λo' I=>by
      obtain⟨v,hv,Y⟩:=kb (o:=o') (by rw[I];exact h)
      exact⟨v,gD (O _ _ _ (fZ hv)),by rw[I] at Y;exact Y⟩
    .rename_i w;rw[w] at h;simp only at h
     exact .inr λo' I=>by
      obtain⟨v,hv,Y⟩:=ka (o:=o') (by rw[I];exact h)
      exact⟨v,gD (O _ _ _ (fZ hv)),by rw[I] at Y;exact Y⟩
    .rename_i w;rw[w] at h;simp only at h
     refine⟨je hp h.1 λu H' q=>?_,hA _ _ _ _ h.2⟩
     have Z:∀(D:List (Nat×Env×dB))(A N:Prop),(A->N)->lY P ops (B.getD i 0) H' D A->lY P ops (B.getD i 0) H' D N:=by
      intro D
      induction D with
      |nil=>intro A N f h;exact f h
      |cons x D aa=>
       intro A N f h
       obtain⟨r,e,v⟩:=x
       unfold lY at h⊢
       split
       .rename_i ht;rw[ht] at h;exact aa _ _ f h
       .rename_i ht;rw[ht] at h;exact⟨h.1,aa _ _ f h.2⟩
     exact Z _ _ _ (λq=>gD (O _ _ _ (fZ q))) q
theorem Gm(hp:fF P=true)(ai:jb P M cf){ops:Array Oper}{B:List Nat}{K:KE}:∀(l:List Nat)(ρ:jF)(env:Tr V)(h:Hp)(e:Env)(H:dw)(D:Dl)(O:List (Nat×Env×dB)),xD P cf ops B l env h D K=true->E ρ M env e->R ρ M U h H->DR ρ M D O->
 qd P ops B AT l e H O (At ρ M U K):=by
 intro l
 induction l with
 |nil=>intro ρ env h e H D O I W r _;exact⟨ρ,env,h,Le.refl _,W,r,I⟩
 |cons i l ih=>
  intro ρ env h e H D O I W r Z
  replace I:(match ops[i]? with
   |none=>false
   |some o=>pE ops o env λw=>match w with
    |false=>jH env o.dst (.pZ []) λenv=>xD P cf ops B l env h D K
    |true=>match kindOf P o.op with
     |.pure=>wq P cf o env h λv h=>jH env o.dst v λenv=>xD P cf ops B l env h D K
     |.read=>wq P cf o env h λv h=>jH env o.dst v λaa=>xD P cf ops B l aa h (D++[(i,env,v)]) K
     |.write=>wq P cf o env h λv h=>vi P ops (B.getD i 0) h D (jH env o.dst v λenv=>xD P cf ops B l env h D K))=true:=I
  unfold qd
  split at I
  .cases I
  .rename_i o ho
   rw[ho]
   simp only
   obtain⟨b,hw,I⟩:=rK W I
   rw[hw]
   have step:∀{ρ':jF}{v:V}{x:dB}{h':Hp}{H':dw}{D:Dl}{O:List (Nat×Env×dB)},Le ρ ρ'->R ρ' M U h' H'->Dn ρ' M v x->(jH env o.dst v λenv=>xD P cf ops B l env h' D K)=true->DR ρ' M D O->
    qd P ops B AT l (put e o.dst x) H' O (At ρ M U K):=by
    intro ρ' v x h' H' D O hl r' Y N Z
    obtain⟨aa,N,aj⟩:=tX N (W.mono hl) Y
    have:=ih ρ' aa h' _ H' D O N aj r' Z
    exact qB hp (λe H⟨ρ2,af,h2,a,b,c,d⟩=>⟨ρ2,af,h2,hl.trans a,b,c,d⟩) AT (λ_ _ _ _ h=>h) _ _ _ _ this
   cases b with
   |false=>exact step (Le.refl _) r pv I Z
   |true=>
    simp only at I⊢
    simp only[rh] at I
    unfold yU at I
    cases N:kindOf P o.op with
    |pure=>
     rw[N] at I
     simp only at I⊢
     obtain⟨t,nx,lo,hi⟩:=h
     replace I:(wo P lo hi o.op env λv lo hi=>jH env o.dst v λenv=>xD P cf ops B l env ⟨t,nx,lo,hi⟩ D K)=true:=I
     obtain⟨v,x,au,av,Y,h1,h2,N,ac⟩:=rJ W r.gl r.bd.1 r.bd.2 I
     exact po ac (gD (step (Le.refl _) (r.bound h1 h2) Y N Z))
    |read=>
     rw[N] at I
     simp only at I⊢
     obtain⟨v,x,Y,N,ac⟩:=pY W r I
     have ak:DR ρ M (D++[(i,env,v)]) (O++[(i,e,x)]):=Z.snoc ⟨rfl,W,Y⟩
     exact mL ac (gD (step (Le.refl _) r Y N ak))
    |write=>
     rw[N] at I
     simp only at I⊢
     have:=qh hp ai W r I
     refine⟨je hp this ?_,trivial⟩
     rintro u H' ⟨ρ',v,h',hl,r',Y,N⟩
     simp only[sB] at N
     obtain⟨N,am⟩:=rO r' (Z.mono hl) N
     exact am _ (gD (step hl r' Y N (Z.mono hl)))
end
end Go.X
namespace Go.Ex
section
variable {P:eQ} {N:Nat} {Ds:List Deferred} {ops:Array Oper} {Q:Exit->Act->fe->Prop} {K:Env->dw->Prop}
def AF(P:eQ)(ops:Array Oper)(K:Env->dw->Prop)(d:Nat)(l:List Nat)(e:Env)(H:dw)(D:List (Nat×Env×dB)):Prop:=
 d∈l->qd P ops (iO ops.toList []) (λ_ _ _ _=>True) (d::l.erase d) e H D K
theorem Bb(hp:fF P=true)(hN:ju N ops=true){X:Nat->Bool}{ae:List Nat}{d:Nat}{od:Oper}(aa:∀l1 i l2,ae=l1++i::l2->qY P ops (iO ops.toList []) X l1 i l2)(am:∀i<ops.size,i∈ae)
 (au:ops[d]?=some od)(aA:kindOf P od.op=.write)(aW:od.guard=none)
 (aX:∀l1 l2,ae=l1++d::l2->∀c,X c=true->c∈l1)
 (aY:∀l1 c l2,ae=l1++c::l2->X c=true->∀j∈l2,j=d\/((iO ops.toList []).getD j 0).testBit c=true)
 (aP:∀W c u oc,ae=W++c::u->d∈u->ops[c]?=some oc->kindOf P oc.op=.write->
  (∀l1 i l2,W++d::(c::u).erase d=l1++i::l2->qY P ops (iO ops.toList []) (λi=>Nat.beq d i||W.any (Nat.beq i)) l1 i l2))
 (a₀:Act)(w₀:fe)(e₀:Env)(hQ:∀a' w' e',Mt N Ds a' e'->ik w₀ w'->iN (lZ ops) a₀ a'->K e' w'.heap->Q .normal a' w'):
 ∀(af:Nat)(listed:Array Bool)(a:Act)(w:fe),(∃W O D,Inv P N Ds (AF P ops K d) ops K ae a₀ w₀ e₀ listed a w W O D/\d∈O)->
  (List.range ops.size).countP (λi=>!rp listed i)=af->wpAny P .any ops Q af listed a w:=by
 have aq:∀(e:Env),gJ ops od e=some true:=λe=>by unfold gJ;rw[aW]
 intro af
 induction af with
 |zero=>
  rintro listed a w ⟨W,O,D,I,hX⟩ hc
  have hr:=yf I.sz hc
  exact⟨hr,yq aa hQ ⟨W,O,D,I⟩ hr⟩
 |succ af ih=>
  rintro listed a w ⟨W,O,D,I,av⟩ hc
  refine⟨yq aa hQ ⟨W,O,D,I⟩,λi hi=>?_⟩
  obtain⟨ag,an,o,ab,ah⟩:=Aw I.sz hi
  have Y:=count_set I.sz ag an hc
  have aS:d∉W.map (·.1):=by
   obtain⟨m1,m2,rfl⟩:=List.append_of_mem av
   have:=(aa (W.map (·.1)++m1) d m2 (by rw[I.split];simp)).fresh
   exactλh=>this (List.mem_append.2 (.inl h))
  have a4:rp listed d=false:=by
   cases h:rp listed d with
   |false=>rfl
   |true=>exact absurd (I.OI d h) aS
  by_cases aI:i∈W.map (·.1)
  .obtain⟨x,hx,aJ⟩:=List.mem_map.1 aI
   obtain⟨i',v,ei⟩:=x
   simp only at aJ
   subst aJ
   obtain⟨h1,h2⟩:=zo (Q:=Q) hN aa I ag ab an ah hx
   exact h2 _ (ih _ _ _ ⟨W,O,D,h1,av⟩ Y)
  .have ai:i∈O:=by
    have:=am i ag
    rw[I.split,List.mem_append] at this
    rcases this with h|h
    .exact absurd h aI
    .exact h
   rcases I.head with aU|⟨c,u,oc,a5,ao,ap,aC⟩
   .rw[aU] at ai;simp at ai
   .subst a5
    have aK:=aa _ _ _ I.split
    by_cases aD:i=c
    .subst aD
     rw[ab] at ao
     obtain rfl:=Option.some.inj ao
     by_cases hid:i=d
     .subst hid
      refine p8 hp hN aa I ag ab an ah ap aC λv w' aL Z D' I'=>rX hp hN aa am a₀ w₀ e₀ hQ _ _ _ _ ⟨_,Z,D',I',λc hc=>?_⟩ Y
      rw[List.map_append,List.mem_append]
      exact .inl (aX _ _ I.split c hc)
     .refine p8 hp hN aa I ag ab an ah ap aC λv w' aL Z D' I'=>ih _ _ _ ⟨_,Z,D',I',?_⟩ Y
      have aF:d∈ae:=am d (Array.getElem?_eq_some_iff.1 au).1
      rw[I'.split,List.mem_append] at aF
      rcases aF with h|h
      .exfalso
       obtain⟨x,hx,aM⟩:=List.mem_map.1 h
       obtain⟨xd,xv,xe⟩:=x
       simp only at aM
       subst aM
       have hl:=(I'.facts _ hx).2 od au (aq _) aA
       rw[Dx (by rw[I.sz];exact ag),if_neg (λe=>hid e.symm),a4] at hl
       cases hl
      .exact h
    .by_cases hid:i=d
     .subst hid
      rw[ab] at au
      obtain rfl:=Option.some.inj au
      have aw:i∈u:=by
       rcases List.mem_cons.1 av with h|h
       .exact absurd h aD
       .exact h
      have aG:=aP (W.map (·.1)) c u oc I.split aw ao ap
      have ad:=I.rest
      unfold qd at ad
      rw[ao] at ad
      simp only[aC,ap] at ad
      have hJ:Inv P N Ds (λ_ _ _ _=>True) ops K (W.map (·.1)++i::(c::u).erase i) a₀ w₀ e₀ listed a w W (i::(c::u).erase i) D:=
       ⟨I.sz,I.down,rfl,I.chain,I.facts,I.reads,ad.2 av,.inr ⟨i,_,o,rfl,ab,aA,aq _⟩,I.mt,I.OI,I.Rp,I.keeps⟩
      refine p8 hp hN aG hJ ag ab an ah aA (aq _) λv w' aL Z D' I'=>rX hp hN aG (λj hj=>?_) a₀ w₀ e₀ hQ _ _ _ _ ⟨_,Z,D',I',λc hc=>?_⟩ Y
      .have:=am j hj
       rw[I.split,List.mem_append] at this
       rw[List.mem_append,List.mem_cons]
       rcases this with h|h
       .exact .inl h
       .by_cases aO:j=i
        .exact .inr (.inl aO)
        .exact .inr (.inr ((List.mem_erase_of_ne aO).2 h))
      .rw[Bool.or_eq_true] at hc
       rcases hc with hc|hc
       .obtain rfl:=Nat.eq_of_beq_eq_true hc
        simp
       .obtain⟨y,hy,hb⟩:=List.any_eq_true.1 hc
        obtain rfl:=Nat.eq_of_beq_eq_true hb
        rw[List.map_append,List.mem_append]
        exact .inl hy
     .exfalso
      have aw:i∈u:=by
       rcases List.mem_cons.1 ai with h|h
       .exact absurd h aD
       .exact h
      have hb:((iO ops.toList []).getD i 0).testBit c=true:=by
       cases hX:X c with
       |false=>exact aK.write hX oc ao ap i aw
       |true=>
        rcases aY _ _ _ I.split hX i aw with h|h
        .exact absurd h hid
        .exact h
      exact aK.fresh (I.OI c (nO I.down ab ah hb))
end
end Go.Ex
namespace Go.X
open Go.Ex
variable {P:eQ} {ρ:jF} {M:Nat} {U:Un} {h:Hp} {H:dw} {env:Tr V} {e:Env}
def PT(len:Option Nat)(b:Nat):dB:=match len with|none=>.pointer (some ⟨b,0,none⟩)|some n=>.slice (some ⟨b,0,none⟩) n n
def Yv(len:Option Nat)(b:Ps):V:=match len with|none=>.ptr b 0|some n=>.slice b 0 n n
theorem Vt{ρ:jF}{M:Nat}{p:Ps}{u kap:Nat}(h:ρ p=some (u,0,kap))(len:Option Nat):Dn ρ M (Yv len p) (PT len u):=by
 cases len with
 |none=>have:=Dn.ptr (M:=M) (o:=0) h;exact this
 |some n=>have:=Dn.slice (M:=M) (o:=0) (l:=n) (c:=n) h;exact this
def Bq(P:eQ)(w:Op)(e:Env)(u:eK)(I:List dB)(len:Option Nat):Prop:=
 (∃t i z,w=.alloc t/\P.info? t=some i/\i.zero=some z/\u=t/\I=gH z/\len=none)\/
 (∃t n parts i z N,w=.buildSlice t n parts/\P.underlying t=some (.slice u)/\P.info? u=some i/\i.zero=some z/\(Nat.ble (n*i.size) 1024&&Nat.beq (gH z).length i.size)=true/\
  parts.toList.map (λx=>(x.1,nN e x.2))=N.map (λ(x:Nat×dB)=>(x.1,some x.2))/\
  (∀Q:List dB->Prop,Q I->pH (λj=>some (j*i.size,i.size,iJ P u)) ((List.replicate n (gH z)).flatten) N Q)/\len=some n)
theorem Bq.run{w:Op}{I:eK}{N:List dB}{len:Option Nat}(Y:Bq P w e I N len){O:dB->dw->Prop}(W:O (PT len H.size) (eP H N.toArray I)):og P w e H O:=by
 rcases Y with⟨t,i,z,rfl,hi,u,rfl,rfl,rfl⟩|⟨t,n,parts,i,z,ps,rfl,Z,hi,u,hb,hl,hf,rfl⟩
 .refine .inl ?_
  simp only[kW,qM,hi,u]
  exact W
 .refine .inl ?_
  simp only[kW,Z,hi]
  refine Dq hl _ _ ?_
  simp only[qM,hi,u,hb,cond_true,List.nil_append]
  exact hf _ W
theorem Bq.YX{op:Op}{el aa:eK}{us W:List dB}{len Y:Option Nat}(h1:Bq P op e el us len)(h2:Bq P op e aa W Y):el=aa/\us=W/\len=Y:=by
 rcases h1 with⟨t,i,z,rfl,hi,hz,rfl,rfl,rfl⟩|⟨t,n,parts,i,z,ps,rfl,hu,hi,hz,hb,hl,hf,rfl⟩
 .rcases h2 with⟨t',i',z',O,I,N,rfl,rfl,rfl⟩|⟨t',n',Z,i',z',u,O,_⟩
  .cases O
   rw[hi] at I
   cases I
   rw[hz] at N
   cases N
   exact⟨rfl,rfl,rfl⟩
  .cases O
 .rcases h2 with⟨t',i',z',O,_⟩|⟨t',n',Z,i',z',u,O,ab,I,N,aA,w,ac,rfl⟩
  .cases O
  .cases O
   rw[hu] at ab
   cases ab
   rw[hi] at I
   cases I
   rw[hz] at N
   cases N
   have ap:ps=u:=by
    rw[hl] at w
    clear hf ac hl
    induction ps generalizing u with
    |nil=>cases u with|nil=>rfl|cons=>simp at w
    |cons p ps ih=>cases u with
     |nil=>simp at w
     |cons p' u=>
      simp only[List.map_cons,List.cons.injEq,Prod.mk.injEq,Option.some.injEq] at w
      rw[ih u w.2,Prod.ext w.1.1 w.1.2]
   subst ap
   obtain⟨c1,e1,f1⟩:=oP (hf (·=us) rfl)
   obtain⟨c2,e2,f2⟩:=oP (ac (·=W) rfl)
   subst e1 e2
   rw[f1] at f2
   simp only[Option.some.injEq] at f2
   have:c1=c2:=by simpa using f2
   exact⟨rfl,this,rfl⟩
theorem Bq.congr{u:Op}{w:Env}{I:eK}{N:List dB}{len:Option Nat}(O:Bq P u e I N len)(W:∀y∈u.operands.toList,nN w y=nN e y):Bq P u w I N len:=by
 rcases O with h|⟨t,n,parts,i,z,Y,rfl,Z,hi,hz,hb,hl,hf,rfl⟩
 .exact .inl h
 .refine .inr ⟨t,n,parts,i,z,Y,rfl,Z,hi,hz,hb,?_,hf,rfl⟩
  rw[<-hl]
  apply List.map_congr_left
  intro x hx
  rw[W x.2 (by simp[Op.operands];exact⟨x.1,by simpa using hx⟩)]
def I5:Op->Bool
 |.alloc _|.buildSlice ..=>true
 |_=>false
theorem zO{cf:fQ}(he:E ρ M env e)(hg:Gl ρ){Y:Op}(hn:I5 Y=true){K:V->Hp->Bool}(u:xW P cf h Y env K=true):
 ∃N O len cs es,Bq P Y e N O len/\jZ ρ M cs O/\xg h (.cells cs N es false false) (λb h=>K (Yv len b) h)=true:=by
 rw[zP] at u
 unfold CI at u
 split at u<;>first|(cases hn;done)|(cases u;done)|skip
 .unfold zT at u
  obtain⟨z,y,Z,u,hq⟩:=mj (ρ:=ρ) (M:=M) u
  obtain⟨ab,u⟩:=fz u
  obtain⟨i,z',hi,w,I,_⟩:=kM (hq (·=y) rfl)
  subst I
  exact⟨_,_,none,_,_,.inl ⟨_,i,_,rfl,hi,w,rfl,rfl,rfl⟩,nQ Z (oI ab),u⟩
 .obtain⟨vs,ps,h0,h1,h2,u⟩:=zR he hg u
  unfold Lu at u
  split at u
  .rename_i N hu
   split at u
   .rename_i i hi
    obtain⟨z,yz,Z,u,hq⟩:=mj (ρ:=ρ) (M:=M) u
    obtain⟨hb,u⟩:=fz u
    rw[ux] at u
    simp only[Bool.and_eq_true] at hb
    obtain⟨⟨b1,b2⟩,b3⟩:=hb
    have hd:=nQ Z (oI b1)
    obtain⟨cs,O,u,ae,hf⟩:=uP u h1 h2 (hd.BZ _)
    obtain⟨i',z',W,w,I,_⟩:=kM (hq (·=yz) rfl)
    subst I
    rw[hi] at W
    cases W
    refine⟨N,O,some _,cs,_,.inr ⟨_,_,_,i,_,ps,rfl,hu,hi,w,?_,h0,hf,rfl⟩,ae,u⟩
    rw[<-hd.1,b2,b3]
    rfl
   .cases u
  .cases u
def xm(P:eQ)(ops:Array Oper)(i:Nat):Bool:=match ops[i]? with|some o=>kindOf P o.op==.write|none=>false
def xq(ops:Array Oper)(u:Oper)(j:Nat):Bool:=match ops[j]? with|some o=>(match o.dst with|some t=>!((kJ ops u).any (Nat.beq t))|none=>true)|none=>false
def DS(P:eQ)(ops:Array Oper)(B:List Nat)(d:Nat)(u:Oper)(s:List Nat):List Nat->List Nat->Bool
 |_,[]=>true
 |done,c::p2=>(bif xm P ops c then rl P ops B (λi=>Nat.beq d i||done.any (Nat.beq i)) (done++d::c::(p2++s)) 0&&(p2++s).all (λj=>(B.getD j 0).testBit c)&&(c::(p2++s)).all (xq ops u) else true)&&DS P ops B d u s (done++[c]) p2
def Jh(ops:Array Oper)(u:Oper)(j:Nat):Bool:=match ops[j]?,u.dst with|some o,some t=>(match o.dst with|some w=>!(Nat.beq w t)|none=>true)|_,_=>false
def Mn(u:Oper):Bool:=u.op.operands.toList.all λy=>match y,u.dst with|.tmp t,some t'=>!(Nat.beq t t')|_,_=>true
theorem GL{u:Oper}(h:Mn u=true):∀y∈u.op.operands.toList,∀t,y=.tmp t->u.dst≠some t:=by
 intro y w t I e
 have:=List.all_eq_true.1 h y w
 rw[I,e] at this
 simp at this
def sK(P:eQ)(ops:Array Oper)(B:List Nat)(p:List Nat)(d:Nat)(s:List Nat):Bool:=
 match ops[d]? with
 |some u=>kindOf P u.op==.write&&u.guard.isNone&&I5 u.op&&Jx ops (p++d::s)&&rl P ops B (λi=>p.any (Nat.beq i)&&xm P ops i) (p++d::s) 0&&DS P ops B d u s [] p&&!(p.any (Nat.beq d))&&!(s.any (Nat.beq d))&&p.all (Jh ops u)&&Mn u
 |none=>false
theorem any_beq{l:List Nat}{d:Nat}:l.any (Nat.beq d)=true↔d∈l:=by
 rw[List.any_eq_true]
 constructor
 .rintro⟨x,u,h⟩;rw[Nat.eq_of_beq_eq_true h];exact u
 .intro h;exact⟨d,h,by simp⟩
theorem kS{c:Nat}:∀{u w I N:List Nat},u++c::I=w++c::N->c∉u->c∉w->u=w/\I=N
 |[],[],_,_,h,_,_=>by simp at h;exact⟨rfl,h⟩
 |[],x::w,_,_,h,_,h2=>by simp at h;exact absurd (by simp[h.1]) h2
 |x::u,[],_,_,h,h1,_=>by simp at h;exact absurd (by simp[h.1]) h1
 |x::u,y::w,I,N,h,h1,h2=>by
  simp only[List.cons_append,List.cons.injEq] at h
  obtain⟨O,W⟩:=kS h.2 (λm=>h1 (by simp[m])) (λm=>h2 (by simp[m]))
  exact⟨by rw[h.1,O],W⟩
theorem uU{ops:Array Oper}{B:List Nat}{d:Nat}{N:Oper}{s:List Nat}:∀{p done:List Nat},DS P ops B d N s done p=true->∀u c w,p=u++c::w->xm P ops c=true->
 rl P ops B (λi=>Nat.beq d i||(done++u).any (Nat.beq i)) (done++u++d::c::(w++s)) 0=true/\(∀j∈w++s,(B.getD j 0).testBit c=true)/\∀j∈c::(w++s),xq ops N j=true
 |[],_,_,u,c,w,h,_=>by simp at h
 |x::p,done,hc,u,c,w,h,hw=>by
  unfold DS at hc
  obtain⟨I,O⟩:=jr hc
  cases u with
  |nil=>
   simp only[List.nil_append,List.cons.injEq] at h
   obtain⟨rfl,rfl⟩:=h
   rw[hw] at I
   simp only[cond_true] at I
   obtain⟨I,W⟩:=jr I
   obtain⟨I,Y⟩:=jr I
   exact⟨by simpa using I,List.all_eq_true.1 Y,List.all_eq_true.1 W⟩
  |cons y u=>
   simp only[List.cons_append,List.cons.injEq] at h
   obtain⟨rfl,rfl⟩:=h
   have:=uU O u c w rfl hw
   simpa using this
noncomputable def Pb(P:eQ)(ops:Array Oper)(B:List Nat)(d:Nat)(u:Oper)(env:Tr V)(h:Hp)(D:Dl):Bool:=
 xW P (λ_ _ _ _=>false) ⟨.lf,.h,0,0⟩ u.op env (λ_ _=>true)&&vi P ops (B.getD d 0) h D true
noncomputable def F9(P:eQ)(cf:fQ)(ops:Array Oper)(B:List Nat)(d:Nat)(N:Oper)(l:List Nat)(env:Tr V)(h:Hp)(D:Dl)(K:KE):Bool:=
 List.rec (motive:=λ_=>Tr V->Hp->Dl->Bool) (λ_ _ _=>false)
  (λi r u env h D=>bif Nat.beq i d then xD P cf ops B (i::r) env h D K else match ops[i]? with
   |none=>false
   |some o=>pE ops o env λw=>match w with
    |false=>jH env o.dst (.pZ []) λenv=>u env h D
    |true=>match kindOf P o.op with
     |.pure=>wq P cf o env h λv h=>jH env o.dst v λenv=>u env h D
     |.read=>wq P cf o env h λv h=>jH env o.dst v λI=>u I h (D++[(i,env,v)])
     |.write=>bif Pb P ops B d N env h D then wq P cf o env h λv h=>vi P ops (B.getD i 0) h D (jH env o.dst v λenv=>u env h D) else false) l env h D
section
variable {cf:fQ}
theorem ME(I:fF P=true)(w:jb P M cf){e:Env}{t:Nat}{x:dB}(h:e t=some x):put e (some t) x=e:=by
 funext j
 rw[mG]
 split
 .rename_i u;rw[u,h]
 .rfl
theorem IH(w:fF P=true)(u:jb P M cf){e:Env}{d:Option Tmp}{x:dB}{y:gU}(h:∀t,y=.tmp t->d≠some t):nN (put e d x) y=nN e y:=by
 cases y with
 |tmp t=>exact oG (h t rfl)
 |const v=>rfl
 |global g=>rfl
 |func f=>rfl
theorem KB(hp:fF P=true)(aa:jb P M cf){ops:Array Oper}{w:Oper}{j:Nat}{o:Oper}(O:ops[j]?=some o)(h:xq ops w j=true):(∀t,o.dst=some t->w.dst≠some t)/\∀y∈w.op.operands.toList,∀t,y=.tmp t->o.dst≠some t:=by
 unfold xq at h
 rw[O] at h
 simp only at h
 cases W:o.dst with
 |none=>exact⟨(λt h=>by cases h),(λ_ _ _ _ h=>by cases h)⟩
 |some u=>
  rw[W] at h
  simp only[Bool.not_eq_true'] at h
  have N:u∉kJ ops w:=λY=>by rw[any_beq.2 Y] at h;cases h
  refine⟨λt I e=>?_,λy Z t I e=>?_⟩
  .cases I
   exact N (Cg e)
  .cases e
   subst I
   exact N (sE (Il Z))
theorem OU(hp:fF P=true)(ae:jb P M cf){ops:Array Oper}{B:List Nat}{K:KE}{d:Nat}{O:Oper}(aG:ops[d]?=some O)(av:kindOf P O.op=.write)(aH:O.guard=none)(aI:I5 O.op=true){td:Nat}(aw:O.dst=some td){s:List Nat}(hs:∀j∈s,xq ops O j=true)
 {W:Nat}{el:eK}{us:List dB}{len:Option Nat}(hU:U W=none)(aK:T8 U):
 ∀(q:List Nat)(ρ:jF)(env:Tr V)(h:Hp)(e:Env)(H:dw)(D:Dl)(Z:List (Nat×Env×dB)),d∉q->(∀j∈q,xq ops O j=true)->F9 P cf ops B d O (q++d::s) env h D K=true->
  E ρ M env e->R ρ M (λi=>if i=W then some (.cells us.toArray el) else U i) h H->Bq P O.op e el us len->e td=some (PT len W)->DR ρ M D Z->
  qd P ops B AT (q++s) e H Z (At ρ M U K):=by
 intro q
 induction q with
 |nil=>
  intro ρ env h e H D Z _ _ I he r hn ah hD
  replace I:(bif Nat.beq d d then xD P cf ops B (d::s) env h D K else _)=true:=I
  rw[show Nat.beq d d=true by simp] at I
  simp only[cond_true] at I
  replace I:(match ops[d]? with
   |none=>false
   |some o=>pE ops o env λw=>match w with
    |false=>jH env o.dst (.pZ []) λenv=>xD P cf ops B s env h D K
    |true=>match kindOf P o.op with
     |.pure=>wq P cf o env h λv h=>jH env o.dst v λenv=>xD P cf ops B s env h D K
     |.read=>wq P cf o env h λv h=>jH env o.dst v λY=>xD P cf ops B s Y h (D++[(d,env,v)]) K
     |.write=>wq P cf o env h λv h=>vi P ops (B.getD d 0) h D (jH env o.dst v λenv=>xD P cf ops B s env h D K))=true:=I
  rw[aG] at I
  simp only at I
  unfold pE at I
  rw[aH] at I
  simp only[av] at I
  simp only[rh] at I
  unfold yU at I
  rw[av] at I
  simp only at I
  obtain⟨bf,bg,a4,cs,es,aL,ax,I⟩:=zO he r.gl aI I
  obtain⟨rfl,rfl,rfl⟩:=hn.YX aL
  obtain⟨nq,hf,I⟩:=lL I
  simp only[sB] at I
  have aB:H[W]?=some (.cells us.toArray el):=r.un W _ (by simp)
  have ay:R ρ M U h H:=⟨r.gl,r.NL,λb o hb hl=>by
   obtain⟨b1,b2,b3,x,q1,q2,q3,q4⟩:=r.ob b o hb hl
   refine⟨b1,b2,b3,x,q1,q2,?_,q4⟩
   split at q3
   .cases q3
   .exact q3,r.inj,λi o hi=>r.un i o (by
   have:i≠W:=λe=>by rw[e,hU] at hi;cases hi
   simp only[if_neg this]
   exact hi),r.bd,aK⟩
  have rn:=ay.new (H':=H) hf (o:=.cells cs el es false false) W 0 0 (x:=.cells us.toArray el) hU nq
   (λb o' y hb hl hy e=>by
    obtain⟨b1,b2,b3,x,q1,q2,q3,_⟩:=r.ob b o' hb hl
    rw[hy] at q1
    cases q1
    simp only at e
    rw[e] at q3
    simp at q3)
   (λ_ _ _=>rfl) aB (qT ax _ (0,0) (λj u hu=>by simpa using hu) (by simp[tm,ax.1]) (by simp[tm]) (.inl rfl))
  have aj:=ay.mV hf (W,0,0)
  obtain⟨I,_⟩:=rO rn (hD.mono aj) I
  rw[aw] at I
  obtain⟨Y,N,ak⟩:=tX I (he.mono aj) (Vt (lO ρ (.i h.nx) (W,0,0)) len)
  rw[ME hp ae ah] at ak
  have:=Gm hp ae (U:=U) (B:=B) s _ Y _ e H D Z N ak rn (hD.mono aj)
  exact qB hp (λe H⟨ρ2,ai,h2,a,b,c,d⟩=>⟨ρ2,ai,h2,aj.trans a,b,c,d⟩) AT (λ_ _ _ _ h=>h) _ _ _ _ this
 |cons i q ih=>
  intro ρ env h e H D Z az hq I he r hn ah hD
  have hid:i≠d:=λe=>az (by simp[e])
  have aE:d∉q:=λe=>az (by simp[e])
  have aU:=hq i (by simp)
  have aV:∀j∈q,xq ops O j=true:=λj hj=>hq j (by simp[hj])
  replace I:(bif Nat.beq i d then xD P cf ops B (i::(q++d::s)) env h D K else match ops[i]? with
   |none=>false
   |some o=>pE ops o env λw=>match w with
    |false=>jH env o.dst (.pZ []) λenv=>F9 P cf ops B d O (q++d::s) env h D K
    |true=>match kindOf P o.op with
     |.pure=>wq P cf o env h λv h=>jH env o.dst v λenv=>F9 P cf ops B d O (q++d::s) env h D K
     |.read=>wq P cf o env h λv h=>jH env o.dst v λY=>F9 P cf ops B d O (q++d::s) Y h (D++[(i,env,v)]) K
     |.write=>bif Pb P ops B d O env h D then wq P cf o env h λv h=>vi P ops (B.getD i 0) h D (jH env o.dst v λenv=>F9 P cf ops B d O (q++d::s) env h D K) else false)=true:=I
  rw[show Nat.beq i d=false by rw[ki];simp[hid]] at I
  simp only[cond_false] at I
  show qd P ops B AT (i::(q++s)) e H Z (At ρ M U K)
  unfold qd
  split at I
  .cases I
  .rename_i o ho
   rw[ho]
   simp only
   obtain⟨b,hw,I⟩:=rK he I
   rw[hw]
   obtain⟨aX,aY⟩:=KB hp ae ho aU
   have step:∀{ρ':jF}{v:V}{x:dB}{h':Hp}{H':dw}{D:Dl}{Z:List (Nat×Env×dB)},Le ρ ρ'->R ρ' M (λi=>if i=W then some (.cells us.toArray el) else U i) h' H'->Dn ρ' M v x->(jH env o.dst v λenv=>F9 P cf ops B d O (q++d::s) env h' D K)=true->DR ρ' M D Z->
    qd P ops B AT (q++s) (put e o.dst x) H' Z (At ρ M U K):=by
    intro ρ' v x h' H' D Z hl r' hd N hD
    obtain⟨Y,N,ak⟩:=tX N (he.mono hl) hd
    have aZ:Bq P O.op (put e o.dst x) el us len:=hn.congr λy hy=>IH hp ae λt ht=>aY y hy t ht
    have a0:put e o.dst x td=some (PT len W):=by
     rw[oG (λe=>aX td e aw)]
     exact ah
    have:=ih ρ' Y h' _ H' D Z aE aV N ak r' aZ a0 hD
    exact qB hp (λe H⟨ρ2,ai,h2,a,b,c,d⟩=>⟨ρ2,ai,h2,hl.trans a,b,c,d⟩) AT (λ_ _ _ _ h=>h) _ _ _ _ this
   cases b with
   |false=>exact step (Le.refl _) r pv I hD
   |true=>
    simp only at I⊢
    cases N:kindOf P o.op with
    |pure=>
     rw[N] at I
     simp only at I⊢
     simp only[rh] at I
     unfold yU at I
     rw[N] at I
     simp only at I
     obtain⟨t,nx,lo,hi⟩:=h
     replace I:(wo P lo hi o.op env λv lo hi=>jH env o.dst v λenv=>F9 P cf ops B d O (q++d::s) env ⟨t,nx,lo,hi⟩ D K)=true:=I
     obtain⟨v,x,bh,bi,hd,h1,h2,N,ap⟩:=rJ he r.gl r.bd.1 r.bd.2 I
     exact po ap (gD (step (Le.refl _) (r.bound h1 h2) hd N hD))
    |read=>
     rw[N] at I
     simp only at I⊢
     simp only[rh] at I
     unfold yU at I
     rw[N] at I
     simp only at I
     obtain⟨v,x,hd,N,ap⟩:=pY he r I
     exact mL ap (gD (step (Le.refl _) r hd N (hD.snoc ⟨rfl,he,hd⟩)))
    |write=>
     rw[N] at I
     simp only at I⊢
     obtain⟨_,I⟩:=fz I
     simp only[rh] at I
     unfold yU at I
     rw[N] at I
     simp only at I
     have:=qh hp ae he r I
     refine⟨je hp this ?_,trivial⟩
     rintro u H' ⟨ρ',v,h',hl,r',hd,N⟩
     simp only[sB] at N
     obtain⟨N,a3⟩:=rO r' (hD.mono hl) N
     exact a3 _ (gD (step hl r' hd N (hD.mono hl)))
theorem KH(hp:fF P=true){ops:Array Oper}{B:List Nat}{A O:AL}{K:Env->dw->Prop}:∀(l:List Nat),(∀m,m<:+l->∀e H D,A m e H D->O m e H D)->∀(e:Env)(H:dw)(D:List (Nat×Env×dB)),qd P ops B A l e H D K->qd P ops B O l e H D K:=by
 intro l
 induction l with
 |nil=>intro _ e H D h;exact h
 |cons i l w=>
  intro hA e H D h
  have w:=w λm hm=>hA m (hm.trans (List.suffix_cons i l))
  unfold qd at h⊢
  split
  .rename_i ho;rw[ho] at h;exact h
  .rename_i o ho
   rw[ho] at h
   simp only at h
   split
   .rename_i W;rw[W] at h;exact h
   .rename_i W;rw[W] at h;exact w _ _ _ h
   .rename_i W
    rw[W] at h
    simp only at h
    split
    .rename_i I;rw[I] at h;simp only at h
     exact .inr λo' N=>by
      obtain⟨v,hv,Y⟩:=kb (o:=o') (by rw[N];exact h)
      exact⟨v,gD (w _ _ _ (fZ hv)),by rw[N] at Y;exact Y⟩
    .rename_i I;rw[I] at h;simp only at h
     exact .inr λo' N=>by
      obtain⟨v,hv,Y⟩:=ka (o:=o') (by rw[N];exact h)
      exact⟨v,gD (w _ _ _ (fZ hv)),by rw[N] at Y;exact Y⟩
    .rename_i I;rw[I] at h;simp only at h
     refine⟨je hp h.1 λu H' q=>?_,hA _ (List.suffix_refl _) _ _ _ h.2⟩
     have Z:∀(D:List (Nat×Env×dB))(A O:Prop),(A->O)->lY P ops (B.getD i 0) H' D A->lY P ops (B.getD i 0) H' D O:=by
      intro D
      induction D with
      |nil=>intro A O f h;exact f h
      |cons x D aa=>
       intro A O f h
       obtain⟨r,e,v⟩:=x
       unfold lY at h⊢
       split
       .rename_i ht;rw[ht] at h;exact aa _ _ f h
       .rename_i ht;rw[ht] at h;exact⟨h.1,aa _ _ f h.2⟩
     exact Z _ _ _ (λq=>gD (w _ _ _ (fZ q))) q
theorem NB(hp:fF P=true){ops:Array Oper}{K:Env->dw->Prop}{d:Nat}{s:List Nat}(af:d∉s){e:Env}{H:dw}{D:List (Nat×Env×dB)}
 (h:qd P ops (iO ops.toList []) AT (d::s) e H D K):qd P ops (iO ops.toList []) (AF P ops K d) (d::s) e H D K:=by
 have W:∀e H D,qd P ops (iO ops.toList []) AT s e H D K->qd P ops (iO ops.toList []) (AF P ops K d) s e H D K:=
  KH hp s λm hm e H D _ hd=>absurd (hm.subset hd) af
 have h0:=h
 unfold qd at h⊢
 split
 .rename_i ho;rw[ho] at h;exact h
 .rename_i o ho
  rw[ho] at h
  simp only at h
  split
  .rename_i N;rw[N] at h;exact h
  .rename_i N;rw[N] at h;exact W _ _ _ h
  .rename_i N
   rw[N] at h
   simp only at h
   split
   .rename_i w;rw[w] at h;simp only at h
    exact .inr λo' I=>by
     obtain⟨v,hv,O⟩:=kb (o:=o') (by rw[I];exact h)
     exact⟨v,gD (W _ _ _ (fZ hv)),by rw[I] at O;exact O⟩
   .rename_i w;rw[w] at h;simp only at h
    exact .inr λo' I=>by
     obtain⟨v,hv,O⟩:=ka (o:=o') (by rw[I];exact h)
     exact⟨v,gD (W _ _ _ (fZ hv)),by rw[I] at O;exact O⟩
   .rename_i w;rw[w] at h;simp only at h
    refine⟨je hp h.1 λu H' q=>?_,λ_=>?_⟩
    .have Y:∀(D:List (Nat×Env×dB))(A Z:Prop),(A->Z)->lY P ops ((iO ops.toList []).getD d 0) H' D A->lY P ops ((iO ops.toList []).getD d 0) H' D Z:=by
      intro D
      induction D with
      |nil=>intro A Z f h;exact f h
      |cons x D aa=>
       intro A Z f h
       obtain⟨r,e,v⟩:=x
       unfold lY at h⊢
       split
       .rename_i ht;rw[ht] at h;exact aa _ _ f h
       .rename_i ht;rw[ht] at h;exact⟨h.1,aa _ _ f h.2⟩
     exact Y _ _ _ (λq=>gD (W _ _ _ (fZ q))) q
    .rw[List.erase_cons_head]
     exact h0
theorem Ke{d:Option Tmp}{v:V}{x:dB}{k:Tr V->Bool}(I:jH env d v k=true)(W:E ρ M env e)(Y:Dn ρ M v x):∃w,k w=true/\E ρ M w (put e d x)/\∀t,d≠some t->look (mX t) w=look (mX t) env:=by
 unfold jH at I
 split at I
 .rename_i d
  rw[lD] at I
  refine⟨_,I,λt u N=>?_,λt Z=>?_⟩
  .rw[jG] at N
   rw[mG]
   by_cases O:mX t=mX d
   .rw[if_pos O] at N
    cases N
    rw[if_pos (uG O)]
    exact⟨x,rfl,Y⟩
   .rw[if_neg O] at N
    rw[if_neg (λe=>O (by rw[e]))]
    exact W t u N
  .rw[jG,if_neg]
   intro e
   exact Z (by rw[uG e])
 .exact⟨env,I,W,λ_ _=>rfl⟩
theorem R.more(r:R ρ M U h H)(x:Obj):R ρ M (λi=>if i=H.size then some x else U i) h (H.push x)/\U H.size=none:=by
 have u:∀{i o},H[i]?=some o->i<H.size:=λh=>(Array.getElem?_eq_some_iff.1 h).1
 have O:U H.size=none:=by
  cases W:U H.size with
  |none=>rfl
  |some o=>have:=u (r.un _ _ W);omega
 refine⟨⟨r.gl,r.NL,λb o Y Z=>?_,r.inj,λi o hi=>?_,r.bd,?_⟩,O⟩
 .obtain⟨b1,b2,b3,y,q1,w,q3,q4⟩:=r.ob b o Y Z
  have:=u w
  refine⟨b1,b2,b3,y,q1,?_,?_,q4⟩
  .rw[Array.getElem?_push_lt this]
   rw[<-w,Array.getElem?_eq_getElem this]
  .rw[if_neg (by omega)]
   exact q3
 .split at hi
  .rename_i e
   cases hi
   subst e
   rw[Array.getElem?_push_size]
  .have I:=r.un i o hi
   have:=u I
   rw[Array.getElem?_push_lt this,<-I,Array.getElem?_eq_getElem this]
 .obtain⟨t,fr,m,N⟩:=r.ml
  refine⟨t,fr,m,?_⟩
  have u:=u (r.un _ _ N)
  show(if Qe=H.size then some x else U Qe)=_
  rw[if_neg (λe=>by rw[e] at u;exact Nat.lt_irrefl _ u)]
  exact N
theorem OT(hp:fF P=true)(ah:jb P M cf){ops:Array Oper}{K:KE}{d:Nat}{N:Oper}(ax:ops[d]?=some N)(ay:kindOf P N.op=.write)(az:N.guard=none)(aA:I5 N.op=true)(au:∀y∈N.op.operands.toList,∀t,y=.tmp t->N.dst≠some t){td:Nat}(ai:N.dst=some td){s:List Nat}(aK:d∉s):
 ∀(q:List Nat)(ρ:jF)(env:Tr V)(h:Hp)(e:Env)(H:dw)(D:Dl)(W:List (Nat×Env×dB)),d∉q->(∀j∈q,Jh ops N j=true)->(∀p1 c p2,q=p1++c::p2->xm P ops c=true->∀j∈c::(p2++s),xq ops N j=true)->
  F9 P cf ops (iO ops.toList []) d N (q++d::s) env h D K=true->E ρ M env e->(∀v,look (mX td) env=some v->v=.any)->R ρ M U h H->DR ρ M D W->
  qd P ops (iO ops.toList []) (AF P ops (At ρ M U K) d) (q++d::s) e H W (At ρ M U K):=by
 intro q
 induction q with
 |nil=>
  intro ρ env h e H D W _ _ _ I Z _ r Y
  replace I:(bif Nat.beq d d then xD P cf ops (iO ops.toList []) (d::s) env h D K else _)=true:=I
  rw[show Nat.beq d d=true by simp] at I
  simp only[cond_true] at I
  have:=Gm hp ah (U:=U) (B:=iO ops.toList []) (d::s) ρ env h e H D W I Z r Y
  exact NB hp aK this
 |cons i q ih=>
  intro ρ env h e H D W aj aB aC aD Z an r Y
  have hid:i≠d:=λe=>aj (by simp[e])
  have aF:d∉q:=λe=>aj (by simp[e])
  have aG:∀j∈q,Jh ops N j=true:=λj hj=>aB j (by simp[hj])
  have aH:∀p1 c p2,q=p1++c::p2->xm P ops c=true->∀j∈c::(p2++s),xq ops N j=true:=λp1 c p2 hq=>aC (i::p1) c p2 (by rw[hq];rfl)
  have I:=aD
  replace I:(bif Nat.beq i d then xD P cf ops (iO ops.toList []) (i::(q++d::s)) env h D K else match ops[i]? with
   |none=>false
   |some o=>pE ops o env λw=>match w with
    |false=>jH env o.dst (.pZ []) λenv=>F9 P cf ops (iO ops.toList []) d N (q++d::s) env h D K
    |true=>match kindOf P o.op with
     |.pure=>wq P cf o env h λv h=>jH env o.dst v λenv=>F9 P cf ops (iO ops.toList []) d N (q++d::s) env h D K
     |.read=>wq P cf o env h λv h=>jH env o.dst v λad=>F9 P cf ops (iO ops.toList []) d N (q++d::s) ad h (D++[(i,env,v)]) K
     |.write=>bif Pb P ops (iO ops.toList []) d N env h D then wq P cf o env h λv h=>vi P ops ((iO ops.toList []).getD i 0) h D (jH env o.dst v λenv=>F9 P cf ops (iO ops.toList []) d N (q++d::s) env h D K) else false)=true:=I
  rw[show Nat.beq i d=false by rw[ki];simp[hid]] at I
  simp only[cond_false] at I
  show qd P ops (iO ops.toList []) (AF P ops (At ρ M U K) d) (i::(q++d::s)) e H W (At ρ M U K)
  unfold qd
  split at I
  .cases I
  .rename_i o ho
   rw[ho]
   simp only
   obtain⟨b,hw,I⟩:=rK Z I
   rw[hw]
   have aL:o.dst≠some td:=by
    have:=aB i (by simp)
    unfold Jh at this
    rw[ho,ai] at this
    simp only at this
    intro e
    rw[e] at this
    simp at this
   have step:∀{ρ':jF}{v:V}{x:dB}{h':Hp}{H':dw}{D:Dl}{W:List (Nat×Env×dB)},Le ρ ρ'->R ρ' M U h' H'->Dn ρ' M v x->(jH env o.dst v λenv=>F9 P cf ops (iO ops.toList []) d N (q++d::s) env h' D K)=true->DR ρ' M D W->
    qd P ops (iO ops.toList []) (AF P ops (At ρ M U K) d) (q++d::s) (put e o.dst x) H' W (At ρ M U K):=by
    intro ρ' v x h' H' D W hl r' hd O Y
    obtain⟨ad,O,aM,aO⟩:=Ke O (Z.mono hl) hd
    have:=ih ρ' ad h' _ H' D W aF aG aH O aM (λv hv=>an v (by rw[<-aO td aL];exact hv)) r' Y
    refine qB hp (λe H⟨ρ2,af,h2,a,b,c,d⟩=>⟨ρ2,af,h2,hl.trans a,b,c,d⟩) _ (λl e H D q hd=>?_) _ _ _ _ this
    exact qB hp (λe H⟨ρ2,af,h2,a,b,c,d⟩=>⟨ρ2,af,h2,hl.trans a,b,c,d⟩) AT (λ_ _ _ _ h=>h) _ _ _ _ (q hd)
   cases b with
   |false=>exact step (Le.refl _) r pv I Y
   |true=>
    simp only at I⊢
    cases O:kindOf P o.op with
    |pure=>
     rw[O] at I
     simp only at I⊢
     simp only[rh] at I
     unfold yU at I
     rw[O] at I
     simp only at I
     obtain⟨t,nx,lo,hi⟩:=h
     replace I:(wo P lo hi o.op env λv lo hi=>jH env o.dst v λenv=>F9 P cf ops (iO ops.toList []) d N (q++d::s) env ⟨t,nx,lo,hi⟩ D K)=true:=I
     obtain⟨v,x,a6,a7,hd,h1,h2,O,ap⟩:=rJ Z r.gl r.bd.1 r.bd.2 I
     exact po ap (gD (step (Le.refl _) (r.bound h1 h2) hd O Y))
    |read=>
     rw[O] at I
     simp only at I⊢
     simp only[rh] at I
     unfold yU at I
     rw[O] at I
     simp only at I
     obtain⟨v,x,hd,O,ap⟩:=pY Z r I
     exact mL ap (gD (step (Le.refl _) r hd O (Y.snoc ⟨rfl,Z,hd⟩)))
    |write=>
     rw[O] at I
     simp only at I⊢
     have h2:=fz I
     clear I
     obtain⟨aq,I⟩:=h2
     simp only[rh] at I
     unfold yU at I
     rw[O] at I
     simp only at I
     have:=qh hp ah Z r I
     refine⟨je hp this ?_,λ_=>?_⟩
     .rintro u H' ⟨ρ',v,h',hl,r',hd,O⟩
      simp only[sB] at O
      obtain⟨O,ar⟩:=rO r' (Y.mono hl) O
      exact ar _ (gD (step hl r' hd O (Y.mono hl)))
     .have aP:xm P ops i=true:=by unfold xm;rw[ho];simp only;rw[O];rfl
      have hf:=aC [] i q rfl aP
      unfold Pb at aq
      obtain⟨t1,t2⟩:=jr aq
      obtain⟨el,us,len,cs,es,eP,a8,_⟩:=zO Z r.gl aA t1
      obtain⟨rm,aS⟩:=r.more (.cells us.toArray el)
      have aT:(i::(q++d::s)).erase d=i::q++s:=by
       rw[show i::(q++d::s)=(i::q)++d::s from rfl,List.erase_append_right _ aj,List.erase_cons_head]
      rw[aT]
      unfold qd
      rw[ax]
      simp only
      rw[show gJ ops N e=some true by unfold gJ;rw[az]]
      simp only[ay]
      refine⟨eP.run (H:=H) ?_,trivial⟩
      obtain⟨_,ar⟩:=rO rm Y t2
      refine ar _ (gD ?_)
      refine OU hp ah ax ay az aA ai (len:=len) (λj hj=>hf j (by simp[hj])) aS r.ml (i::q) ρ env h _ _ D W aj (λj hj=>hf j (by
       rcases List.mem_cons.1 hj with h|h
       .simp[h]
       .simp[h])) aD ?_ rm ?_ ?_ Y
      .intro t v hv
       rw[ai,mG]
       by_cases aE:t=td
       .subst aE
        rw[if_pos rfl,an v hv]
        exact⟨_,rfl,.any _⟩
       .rw[if_neg aE]
        exact Z t v hv
      .exact eP.congr λy hy=>IH hp ah λt ht=>au y hy t ht
      .rw[ai,mG,if_pos rfl]
theorem DH(hp:fF P=true)(aA:jb P M cf){N:Nat}{Ds:List Deferred}{ops:Array Oper}(hN:ju N ops=true){p:List Nat}{d:Nat}{s:List Nat}(ae:sK P ops (iO ops.toList []) p d s=true){od:Oper}(af:ops[d]?=some od){td:Nat}(aC:od.dst=some td){K:KE}
 {Q:Exit->Act->fe->Prop}(a₀:Act)(w₀ w:fe)(e:Env)(hQ:∀a' w' e',Mt N Ds a' e'->ik w₀ w'->iN (lZ ops) a₀ a'->At ρ M U K e' w'.heap->Q .normal a' w')
 (hh:F9 P cf ops (iO ops.toList []) d od (p++d::s) env h [] K=true)(he:E ρ M env e)(av:∀v,look (mX td) env=some v->v=.any)(r:R ρ M U h w.heap)(u:Mt N Ds a₀ e)(hs:ik w₀ w):
 wpAny P .any ops Q ops.size (Array.replicate ops.size false) a₀ w:=by
 unfold sK at ae
 rw[af] at ae
 simp only[Bool.and_eq_true,Bool.not_eq_true'] at ae
 obtain⟨⟨⟨⟨⟨⟨⟨⟨⟨k1,k2⟩,k3⟩,k4⟩,k5⟩,k6⟩,k7⟩,k8⟩,k9⟩,aH⟩:=ae
 have ai:kindOf P od.op=.write:=by simpa using k1
 have aj:od.guard=none:=by cases hg:od.guard with|none=>rfl|some g=>rw[hg] at k2;cases k2
 have ak:d∉p:=λu=>by rw[any_beq.2 u] at k7;cases k7
 have aI:d∉s:=λu=>by rw[any_beq.2 u] at k8;cases k8
 have Y:∀I i O,p++d::s=I++i::O->qY P ops (iO ops.toList []) (λi=>p.any (Nat.beq i)&&xm P ops i) I i O:=λI i O he=>by
  have:=nL (done:=[]) k5 (by simp) I i O he
  simpa using this
 have W:=λZ c p2(h:p=Z++c::p2) hw=>uU k6 Z c p2 h hw
 have aJ:=OT (U:=U) hp aA (K:=K) af ai aj k3 (GL aH) aC aI p ρ env h e w.heap [] [] ak (λj hj=>List.all_eq_true.1 k9 j hj) (λZ c p2 h hw=>(W Z c p2 h hw).2.2) hh he av r .nil
 obtain⟨tr,am,D,e1,e2,e3,be,e4,e5,e6,e7⟩:=Wz (λ_=>True) (p++d::s) e [] (by simp) aJ
 have an:d∈am:=by
  have u:d∈p++d::s:=by simp
  rw[e1,List.mem_append] at u
  rcases u with h|h
  .exfalso
   obtain⟨x,hx,ar⟩:=List.mem_map.1 h
   obtain⟨xd,xv,xe⟩:=x
   simp only at ar
   subst ar
   exact(e4 _ hx).2 od af (by unfold gJ;rw[aj]) ai
  .exact h
 refine Bb hp hN Y (xM k4) af ai aj (λI O hl c hc=>?_) (λI c O hl hc j hj=>?_) (λtr c a9 oc hl aM aO ay=>?_) a₀ w₀ e hQ ops.size _ a₀ w ⟨tr,am,D,Ng e1 e2 e4 (λx hx=>e5 x hx trivial) e6 e7 u hs,an⟩ (sQ _)
 .have hf:=(Y _ _ _ hl).fresh
  obtain⟨rfl,rfl⟩:=kS hl ak hf
  exact any_beq.1 (jr hc).1
 .obtain⟨h1,h2⟩:=jr hc
  obtain⟨Z,p2,rfl⟩:=List.append_of_mem (any_beq.1 h1)
  have ag:Z++c::(p2++d::s)=I++c::O:=by rw[<-hl];simp
  have f1:=(Y Z c (p2++d::s) (by simp)).fresh
  have f2:=(Y _ _ _ hl).fresh
  obtain⟨rfl,rfl⟩:=kS ag f1 f2
  have:=(W Z c p2 rfl h2).2.1
  rw[List.mem_append,List.mem_cons] at hj
  rcases hj with h|h|h
  .exact .inr (this j (by simp[h]))
  .exact .inl h
  .exact .inr (this j (by simp[h]))
 .obtain⟨r1,r2,rfl⟩:=List.append_of_mem aM
  have ag:p++d::s=(tr++c::r1)++d::r2:=by rw[hl];simp
  have f2:=(Y _ _ _ ag).fresh
  obtain⟨rfl,rfl⟩:=kS ag ak f2
  have aP:xm P ops c=true:=by unfold xm;rw[aO];simp only;rw[ay];rfl
  have hc:=(W tr c r1 rfl aP).1
  have aQ:(c::(r1++d::s)).erase d=c::(r1++s):=by
   have aR:d∉c::r1:=λu=>f2 (by rw[List.mem_append];exact .inr u)
   rw[show c::(r1++d::s)=(c::r1)++d::s from rfl,List.erase_append_right _ aR,List.erase_cons_head]
   rfl
  rw[aQ]
  intro I i O he
  have:=nL (done:=[]) hc (by simp) I i O (by simpa using he)
  simpa using this
end
inductive An where
 |ord (l:List Nat)
 |fl (p:List Nat) (d:Nat) (s:List Nat)
noncomputable def TJ(env:Tr V)(t:Nat)(k:Tr V->Bool):Bool:=bif IK (mX t) env then k env else qJ (mX t) env λ_=>rq .any (mX t) env k
theorem NT{t:Nat}{k:Tr V->Bool}(O:E ρ M env e)(I:TJ env t k=true):∃N,k N=true/\E ρ M N e/\∀v,look (mX t) N=some v->v=.any:=by
 unfold TJ at I
 cases W:IK (mX t) env with
 |true=>
  rw[W] at I
  refine⟨env,I,O,λv w=>?_⟩
  rw[Cd W] at w
  cases w
 |false=>
  rw[W] at I
  simp only[cond_false] at I
  obtain⟨u,Z,I⟩:=jl I
  rw[lD] at I
  refine⟨_,I,λs v w=>?_,λv w=>?_⟩
  .rw[jG] at w
   by_cases Y:mX s=mX t
   .rw[if_pos Y] at w
    cases w
    obtain⟨x,hx,_⟩:=O t u Z
    rw[uG Y]
    exact⟨x,hx,.any x⟩
   .rw[if_neg Y] at w
    exact O s v w
  .rw[jG,if_pos rfl] at w
   cases w
   rfl
noncomputable def B3(P:eQ)(cf:fQ)(ops:Array Oper)(w:An)(env:Tr V)(h:Hp)(K:KE):Bool:=
 match w with
 |.ord l=>bif Bc P ops (iO ops.toList []) l then xD P cf ops (iO ops.toList []) l env h [] K else false
 |.fl p d s=>match ops[d]? with
  |none=>false
  |some u=>match u.dst with
   |none=>false
   |some I=>bif sK P ops (iO ops.toList []) p d s then TJ env I λenv=>F9 P cf ops (iO ops.toList []) d u (p++d::s) env h [] K else false
theorem JL{cf:fQ}(O:fF P=true)(I:jb P M cf){N:Nat}{Ds:List Deferred}{ops:Array Oper}(hN:ju N ops=true){an:An}{K:KE}
 {Q:Exit->Act->fe->Prop}(a₀:Act)(w₀ w:fe)(e:Env)(hQ:∀W w' e',Mt N Ds W e'->ik w₀ w'->iN (lZ ops) a₀ W->At ρ M U K e' w'.heap->Q .normal W w')
 (u:B3 P cf ops an env h K=true)(he:E ρ M env e)(r:R ρ M U h w.heap)(hm:Mt N Ds a₀ e)(hs:ik w₀ w):
 wpAny P .any ops Q ops.size (Array.replicate ops.size false) a₀ w:=by
 unfold B3 at u
 split at u
 .rename_i l
  have Y:=fz u
  clear u
  obtain⟨hd,u⟩:=Y
  have:=Gm (U:=U) O I (ops:=ops) (K:=K) l ρ env h e w.heap [] [] u he r DR.nil
  exact Je O hN hd a₀ w₀ w e hQ this hm hs
 .rename_i p d s
  split at u
  .cases u
  .rename_i od ag
   split at u
   .cases u
   .rename_i td ah
    have Y:=fz u
    clear u
    obtain⟨hf,u⟩:=Y
    obtain⟨ao,u,ai,Z⟩:=NT he u
    exact DH O I hN hf ag ah a₀ w₀ w e hQ u ai Z r hm hs
end Go.X
