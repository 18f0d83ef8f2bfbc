/- Part AD of the proof that the law TopAround answers true at every input, under no condition. -/
import Derived.Test.YtmdbfgemefalmaaGreatDoorQAC
import Derived.DeepKeys3
import Derived.MapKept
set_option linter.unusedVariables false
set_option maxHeartbeats 2000000
set_option maxRecDepth 100000
namespace Go.X
open Go.Ex
variable {P:eQ} {ρ:jF} {M lo hi:Nat} {env:Tr V} {e:Env} {K:KP}
def GW(P:eQ)(t:eK):Bool:=match P.underlying t with|some (.interface _)|none=>false|some _=>true
noncomputable def Rg(v:V)(K:V->Bool):Bool:=
 match v with
 |.mH=>K .sC
 |.slice b o _ c=>bif Nat.beq c 0 then false else K (.ptr b o)
 |.jC b es l d=>bif Nat.beq l 0 then false else fN (d*es) λo=>K (.ptr b o)
 |_=>false
noncomputable def wu(P:eQ)(b:Builtin)(h:List eK)(vs:List V)(K:V->Bool):Bool:=
 match b with
 |.len=>(match vs,h with|[v],[t]=>RW P t v K|_,_=>false)
 |.cap=>(match vs,h with|[v],[t]=>RX P t v K|_,_=>false)
 |.max=>(match vs with|v::r=>RU r v K|[]=>false)
 |.min=>(match vs with|v::r=>RR r v K|[]=>false)
 |.unsafeSliceData=>(match vs with|[v]=>Rg v K|_=>false)
 |_=>false
noncomputable def LA(P:eQ)(lo hi:Nat)(u:Op)(env:Tr V)(K:KP):Bool:=
 match u with
 |.move x=>xo env x λv=>K v lo hi
 |.assign x=>xo env x λv=>K v lo hi
 |.pick c a b=>xo env c λv=>(match v with|.bool t=>(match t with|true=>xo env a λv=>K v lo hi|false=>xo env b λv=>K v lo hi)|_=>false)
 |.nilCheck x=>xo env x λv=>(match v with|.ptr b o=>K (.ptr b o) lo hi|_=>false)
 |.binOp u t x y _=>xo env x λN=>xo env y λO=>OW P u t y N O lo hi K
 |.unOp u _ x=>xo env x λv=>WJ u v λv=>K v lo hi
 |.convert s d x=>xo env x λv=>Ig P s d v λv=>K v lo hi
 |.makeInterface t x=>xo env x λv=>bif GW P t then K (.iface t v) lo hi else false
 |.makeFunc (.func f) first cap=>xL env first.toList λW=>xL env cap.toList λY=>K (.fn f W Y) lo hi
 |.slice t x l h m=>xo env x λv=>Uc env l λw=>Uc env h λI=>(match m with
  |none=>(match v with
   |.ptr b o=>(match l,h with|none,none=>zg P t (.ptr b o) λv=>K v lo hi|_,_=>false)
   |v=>CK P t v w I λv=>K v lo hi)
  |some m=>xo env m λZ=>zh P t v w I (some Z) λv=>K v lo hi)
 |.fieldAddr t x f=>xo env x λv=>zk P t v f λv=>K v lo hi
 |.field t x f=>xo env x λv=>CO P t v f λv=>K v lo hi
 |.indexAddr t x ix=>xo env x λv=>xo env ix λi=>zj P t v i λv=>K v lo hi
 |.index t x ix=>xo env x λv=>xo env ix λi=>CN P t v i λv=>K v lo hi
 |.typeAssert x _ T ok=>xo env x λv=>zm P v T ok λv=>K v lo hi
 |.extract x i=>xo env x λv=>(match v with|.pZ vs=>Dt vs i λv=>K v lo hi|_=>false)
 |.build t parts=>JI env parts.toList λps=>CR P t ps λv=>K v lo hi
 |.call ⟨.builtin b,args,ts⟩=>xL env args.toList λvs=>wu P b ts.toList vs λv=>K v lo hi
 |_=>false
inductive BP where
 |mk (f:Nat->Nat->Tr V->KP->Bool)
noncomputable def TR(P:eQ)(u:Op):BP:=
 match u with
 |.move x=>.mk λlo hi env K=>xo env x λv=>K v lo hi
 |.assign x=>.mk λlo hi env K=>xo env x λv=>K v lo hi
 |.pick c a b=>.mk λlo hi env K=>xo env c λv=>(match v with|.bool t=>(match t with|true=>xo env a λv=>K v lo hi|false=>xo env b λv=>K v lo hi)|_=>false)
 |.nilCheck x=>.mk λlo hi env K=>xo env x λv=>(match v with|.ptr b o=>K (.ptr b o) lo hi|_=>false)
 |.binOp u t x y _=>.mk λlo hi env K=>xo env x λN=>xo env y λO=>OW P u t y N O lo hi K
 |.unOp u _ x=>.mk λlo hi env K=>xo env x λv=>WJ u v λv=>K v lo hi
 |.convert s d x=>.mk λlo hi env K=>xo env x λv=>Ig P s d v λv=>K v lo hi
 |.makeInterface t x=>.mk λlo hi env K=>xo env x λv=>bif GW P t then K (.iface t v) lo hi else false
 |.makeFunc (.func f) first cap=>.mk λlo hi env K=>xL env first.toList λW=>xL env cap.toList λY=>K (.fn f W Y) lo hi
 |.slice t x l h m=>.mk λlo hi env K=>xo env x λv=>Uc env l λw=>Uc env h λI=>(match m with
  |none=>(match v with
   |.ptr b o=>(match l,h with|none,none=>zg P t (.ptr b o) λv=>K v lo hi|_,_=>false)
   |v=>CK P t v w I λv=>K v lo hi)
  |some m=>xo env m λZ=>zh P t v w I (some Z) λv=>K v lo hi)
 |.fieldAddr t x f=>.mk λlo hi env K=>xo env x λv=>zk P t v f λv=>K v lo hi
 |.field t x f=>.mk λlo hi env K=>xo env x λv=>CO P t v f λv=>K v lo hi
 |.indexAddr t x ix=>.mk λlo hi env K=>xo env x λv=>xo env ix λi=>zj P t v i λv=>K v lo hi
 |.index t x ix=>.mk λlo hi env K=>xo env x λv=>xo env ix λi=>CN P t v i λv=>K v lo hi
 |.typeAssert x _ T ok=>.mk λlo hi env K=>xo env x λv=>zm P v T ok λv=>K v lo hi
 |.extract x i=>.mk λlo hi env K=>xo env x λv=>(match v with|.pZ vs=>Dt vs i λv=>K v lo hi|_=>false)
 |.build t parts=>.mk λlo hi env K=>JI env parts.toList λps=>CR P t ps λv=>K v lo hi
 |.call ⟨.builtin b,args,ts⟩=>.mk λlo hi env K=>xL env args.toList λvs=>wu P b ts.toList vs λv=>K v lo hi
 |_=>.mk λ_ _ _ _=>false
noncomputable def wo(P:eQ)(lo hi:Nat)(h:Op)(env:Tr V)(K:KP):Bool:=BP.rec (motive:=λ_=>Bool) (λf=>f lo hi env K) (TR P h)
theorem JG(P:eQ)(lo hi:Nat)(h:Op)(env:Tr V)(K:KP):wo P lo hi h env K=LA P lo hi h env K:=by
 cases h with
 |call c=>obtain⟨c,a,t⟩:=c;cases c<;>rfl
 |makeFunc f a c=>cases f<;>rfl
 |_=>rfl
theorem MS{l:List gU}{xs:List dB}(h:l.map (nN e)=xs.map some):∀(u:List dB)(Q:List dB->Prop),Q (u++xs)->oL e l u Q:=by
 induction l generalizing xs with
 |nil=>intro u Q q;cases xs with
  |nil=>simpa[oL] using q
  |cons=>simp at h
 |cons o l w=>
  intro u Q q
  cases xs with
  |nil=>simp at h
  |cons x xs=>
   simp only[List.map_cons,List.cons.injEq] at h
   unfold oL
   simp only[o1,h.1]
   exact w h.2 _ _ (by simpa using q)
theorem CQ{b:Builtin}{args:Array gU}{ts:Array eK}{vs:List V}{xs:List dB}{K:V->Bool}(Y:args.toList.map (nN e)=xs.map some)(hd:jZ ρ M vs xs)
 (h:wu P b ts.toList vs K=true):P1 P ρ M (.call ⟨.builtin b,args,ts⟩) e K:=by
 unfold wu at h
 have one:∀{v:V},vs=[v]->∃o x,args.toList=[o]/\nN e o=some x/\Dn ρ M v x:=by
  rintro v rfl
  obtain⟨x,a',rfl,I,u⟩:=hd.il
  obtain rfl:=u.mg
  rcases N:args.toList with _|⟨o,_|⟨o2,r⟩⟩<;>rw[N] at Y<;>simp at Y
  exact⟨o,x,rfl,Y,I⟩
 split at h
 .split at h
  .rename_i v t ht
   obtain⟨o,x,N,Z,O⟩:=one rfl
   obtain⟨v,x',I,u,W⟩:=LG O h
   exact⟨v,x',I,u,.inl (by simp only[gV,N,ht,o1,Z];exact W)⟩
  .cases h
 .split at h
  .rename_i v t ht
   obtain⟨o,x,N,Z,O⟩:=one rfl
   obtain⟨v,x',I,u,W⟩:=LK O h
   exact⟨v,x',I,u,.inl (by simp only[gV,N,ht,o1,Z];exact W)⟩
  .cases h
 .split at h
  .obtain⟨x,a',rfl,I,u⟩:=hd.il
   obtain⟨v,x',W,h4,h5⟩:=LD h I u
   exact⟨v,x',W,h4,.inl (by simp only[gV];exact MS Y _ _ h5)⟩
  .cases h
 .split at h
  .obtain⟨x,a',rfl,I,u⟩:=hd.il
   obtain⟨v,x',W,h4,h5⟩:=LC h I u
   exact⟨v,x',W,h4,.inl (by simp only[gV];exact MS Y _ _ h5)⟩
  .cases h
 .split at h
  .rename_i v
   obtain⟨o,x,N,Z,O⟩:=one rfl
   have go:∀{r:dB},(∀T,Ex.Yields P (Builtin.unsafeSliceData_ ts T #[x]) r)->kG P (.call ⟨.builtin .unsafeSliceData,args,ts⟩) e (·=r):=λ{r} hy=>
    .inr λac ad=>⟨r,rfl,λτ am w=>by
     obtain⟨ar,ac,aj,au,an,guard⟩:=ac
     simp only at ad
     subst ad
     have ea:args=#[o]:=by cases args;simpa using N
     subst ea
     have:=am o (by simp[Op.operands,Call.operands]) _ Z
     simp only[execOp,resolve,List.map_toArray,List.map_cons,List.map_nil,this,pure_bind,invoke,builtin]
     rw[Sem.run_bind,hy aj w]
     rfl⟩
   unfold Rg at h
   split at h
   .cases O
    exact⟨_,_,.sC,h,go λT w=>rfl⟩
   .obtain⟨hc,h⟩:=vt h
    cases O with
    |slice hρ=>
    refine⟨_,_,.ptr hρ,h,go λT w=>?_⟩
    rw[ki,decide_eq_false_iff_not] at hc
    change Sem.run P (if _≠0 then _ else _) w=_
    rw[if_pos hc]
    rfl
   .rename_i b es l d
    have u:=vt h
    clear h
    obtain⟨hc,h⟩:=u
    rw[jm] at h
    cases O with
    |jC hρ hk=>
    rename_i av aq kap
    refine⟨_,_,.ptr hρ,h,go λT w=>?_⟩
    rw[ki,decide_eq_false_iff_not] at hc
    have:kap-d≠0:=by omega
    change Sem.run P (if _≠0 then _ else _) w=_
    rw[if_pos this]
    rfl
   .cases h
  .cases h
 .cases h
theorem rJ(Y:E ρ M env e)(Z:Gl ρ)(N:lo<=M)(O:M<=hi){op:Op}(h:wo P lo hi op env K=true):Pu P ρ M op e K:=by
 rw[JG] at h
 unfold LA at h
 split at h
 .rename_i x
  obtain⟨v,y,W,I,hk⟩:=gv Y Z h
  exact .mk N O I hk (.inl (by simp only[gV,o1,W]))
 .rename_i x
  obtain⟨v,y,W,I,hk⟩:=gv Y Z h
  exact .mk N O I hk (.inl (by simp only[gV,o1,W]))
 .obtain⟨v,y,W,I,h⟩:=gv Y Z h
  split at h
  .cases I
   split at h
   .obtain⟨v,y,aa,I,hk⟩:=gv Y Z h
    exact .mk N O I hk (.inl (by simp only[gV,o1,W,eL,aa]))
   .obtain⟨v,y,aa,I,hk⟩:=gv Y Z h
    exact .mk N O I hk (.inl (by simp only[gV,o1,W,eL,aa]))
  .cases h
 .obtain⟨v,y,W,I,h⟩:=gv Y Z h
  split at h
  .cases I with
   |ptr hρ=>exact .mk N O (.ptr hρ) h (.inl (by simp only[gV,o1,W,uL];exact⟨_,rfl,rfl⟩))
  .cases h
 .obtain⟨v,y,W,I,h⟩:=gv Y Z h
  obtain⟨v2,y2,aa,ac,h⟩:=gv Y Z h
  exact LO W aa I ac N O h
 .obtain⟨v,y,W,I,h⟩:=gv Y Z h
  exact(OL W I h).pu N O
 .obtain⟨v,y,W,I,h⟩:=gv Y Z h
  exact(JN W I h).pu N O
 .obtain⟨v,y,W,I,h⟩:=gv Y Z h
  obtain⟨ht,h⟩:=fz h
  refine .mk N O (.iface I) h (.inl ?_)
  simp only[gV,o1,W,DF]
  unfold GW at ht
  split at ht
  .cases ht
  .cases ht
  .rename_i d hn hu
   rw[hu]
   cases d<;>first|exact absurd rfl (hn _)|trivial
 .rename_i f first cap
  obtain⟨l1,a1,h1,d1,h⟩:=tJ Y Z h
  obtain⟨l2,a2,h2,d2,h⟩:=tJ Y Z h
  refine .mk N O (.fn d1.1 d2.1 d1.2 d2.2) h (pq (s:=Instr.makeFunc (.func f) a1.toArray a2.toArray) (λw=>rfl) λo ho τ ha=>?_)
  obtain⟨aM,aO,aA,aP,ay,guard⟩:=o
  simp only at ho
  subst ho
  have e1:=j9 h1 (τ:=τ) (λy hy=>ha y (by simp[Op.operands];exact .inl (by simpa using hy)))
  have e2:=j9 h2 (τ:=τ) (λy hy=>ha y (by simp[Op.operands];exact .inr (by simpa using hy)))
  simp only[execOp]
  rw[show first.map τ=a1.toArray by rw[<-e1];cases first;simp,show cap.map τ=a2.toArray by rw[<-e2];cases cap;simp]
 .rename_i t x l h' m
  obtain⟨v,y,W,I,h⟩:=gv Y Z h
  obtain⟨vl,ul,q1,h,d1,n1⟩:=HY Y Z h
  obtain⟨vh,uh,q2,h,d2,n2⟩:=HY Y Z h
  cases m with
  |none=>
   simp only at h
   split at h
   .split at h
    .exact(Eh W I h).pu N O
    .cases h
   .exact(Gf W I q1 q2 d1 d2 n1 n2 h).pu N O
  |some m=>
   obtain⟨vm,um,hm,dm,h⟩:=gv Y Z h
   refine(Ei (um:=some um) W I (λτ ha=>?_) d2 (λw hw=>by cases hw;exact⟨_,rfl,dm⟩) n1 h).pu N O
   have agree:∀{o:Option gU}{u:Option dB},(∀Q:Option dB->Prop,Q u->oO e o Q)->(∀y,o=some y->y∈(Op.slice t x l h' (some m)).operands.toList)->o.map τ=u:=by
    intro o u hq am
    have:=hq (·=u) rfl
    cases o with
    |none=>simpa[oO] using this
    |some y=>
     simp only[oO,o1] at this
     split at this
     .rename_i z hz;rw[<-this];simp[ha y (am y rfl) _ hz]
     .exact this.elim
   refine⟨agree q1 (λy hy=>by simp[Op.operands,hy]),agree q2 (λy hy=>by simp[Op.operands,hy]),?_⟩
   simp[ha m (by simp[Op.operands]) _ hm]
 .obtain⟨v,y,W,I,h⟩:=gv Y Z h
  exact(Ep W I h).pu N O
 .obtain⟨v,y,W,I,h⟩:=gv Y Z h
  exact(Gj W I h).pu N O
 .obtain⟨v,y,W,I,h⟩:=gv Y Z h
  obtain⟨v2,y2,aa,ac,h⟩:=gv Y Z h
  exact(Eo W aa I ac h).pu N O
 .obtain⟨v,y,W,I,h⟩:=gv Y Z h
  obtain⟨v2,y2,aa,ac,h⟩:=gv Y Z h
  exact(Gi W aa I ac h).pu N O
 .obtain⟨v,y,W,I,h⟩:=gv Y Z h
  exact(Es W I h).pu N O
 .obtain⟨v,y,W,I,h⟩:=gv Y Z h
  split at h
  .cases I with
   |pZ hl hh=>
   obtain⟨u,hu,hk⟩:=qw h
   obtain⟨z,hz,ax⟩:=jZ.get ⟨hl,hh⟩ hu
   refine .mk N O ax hk (.inl ?_)
   simp only[gV,o1,W,xr]
   rw[show∀(a:List dB) i,a.toArray[i]?=a[i]? by intros;simp,hz]
  .cases h
 .rename_i t parts
  obtain⟨vs,ps,h1,h2,h3,h⟩:=zR Y Z h
  obtain⟨v,x,I,hk,hb⟩:=Gs h2 h3 h
  exact .mk N O I hk (.inl (by simp only[gV];exact Dq h1 _ _ (by simpa using hb)))
 .obtain⟨vs,xs,h1,h2,h⟩:=tJ Y Z h
  exact(CQ h1 h2 h).pu N O
 .cases h
end Go.X
namespace Go.X
open Go.Ex
variable {P:eQ} {ρ:jF} {M:Nat} {U:Un} {h:Hp} {H:dw} {env:Tr V} {e:Env} {K:V->Bool}
theorem mL{u:Op}{x:dB}{K:dB->Prop}(h:oQ P u e H (·=x))(w:K x):oQ P u e H K:=.inr λo I=>by
 subst I
 obtain⟨v,rfl,N⟩:=ka h
 exact⟨_,w,N⟩
theorem pj{u:Op}{x:dB}{s:Sem dB}(I:∀w:fe,w.heap=H->s.run P w=.ok x w)(h:∀o:Oper,o.op=u->∀τ,iP e τ u.operands.toList->execOp τ o=do pure (.value (<-s))):
 oQ P u e H (·=x):=.inr λo N=>⟨x,rfl,λτ O w W=>by rw[h o N τ O,Sem.run_bind,I w W];rfl⟩
def WZ(P:eQ)(ρ:jF)(M:Nat)(H:dw)(u:Op)(e:Env)(K:V->Bool):Prop:=∃v x,Dn ρ M v x/\K v=true/\oQ P u e H (·=x)
theorem R.reads(r:R ρ M U h H){b:Ps}{c:List V}{el es:Nat}{op ro:Bool}(hb:look b h.t=some (.cells c el es op ro)){O w kap:Nat}(hρ:ρ b=some (O,w,kap)):
 ∃W:List dB,jZ ρ M c W/\∀(j:Nat) u,W[j]?=some u->dL H ⟨O,w+j,none⟩=some u:=by
 obtain⟨af,aa,ag,x2,Y,q2,_,Z,an,rfl,q4,q5,q6,_⟩:=r.ob b _ hb trivial
 rw[hρ] at Y
 cases Y
 refine⟨(Z.toList.drop w).take c.length,⟨?_,λi v x hv I=>?_⟩,λj u N=>?_⟩
 .simp only[List.length_take,List.length_drop,Array.length_toList];omega
 .obtain⟨y,hy,hd⟩:=q4 i v hv
  rw[List.getElem?_take] at I
  split at I
  .rw[List.getElem?_drop,Array.getElem?_toList,hy] at I;cases I;exact hd
  .cases I
 .rw[List.getElem?_take] at N
  split at N
  .rw[List.getElem?_drop,Array.getElem?_toList] at N
   unfold dL
   simp only
   rw[q2]
   simpa using N
  .cases N
theorem pS{u a n:Nat}:Addr.add ⟨u,a,none⟩ n=⟨u,a+n,none⟩:=by
 unfold Addr.add
 split
 .rename_i h;subst h;rfl
 .rfl
noncomputable def En(P:eQ)(h:Hp)(t:eK)(b:Ps)(o:Nat)(K:V->Bool):Bool:=
 bif(P.underlying t).isSome then(match iJ P t with
  |false=>qJ b h.t λu=>(match u with|.cells c _ _ _ _=>Dt c o K|_=>false)
  |true=>bif(P.info? t).isSome then qJ b h.t λu=>(match u with|.cells c _ _ _ _=>Cv c o λr=>B7 r (j6 P t) λcs=>K (.agg cs)|_=>false) else false) else false
theorem yY{t:eK}{d:TypeDesc}(I:P.underlying t=some d)(u:iJ P t=false){a:dA}{x:dB}{w:fe}(N:w.cell? a=some x):(loadVar t a).run P w=.ok x w:=by
 unfold loadVar
 rw[Sem.run_bind,vn I,u]
 simp[N]
theorem yZ{t:eK}{d:TypeDesc}(O:P.underlying t=some d)(N:iJ P t=true){i:TypeInfo}(hi:P.info? t=some i){a:dA}{vs:List dB}{w:fe}(W:vs.length=i.size)
 (Y:∀(j:Nat) u,vs[j]?=some u->w.cell? (a.add j)=some u):(loadVar t a).run P w=.ok (.agg vs.toArray) w:=by
 have I:=run_loadCells_list (P:=P) w a vs Y
 unfold loadVar
 rw[Sem.run_bind,vn O,N]
 simp only[Result.andThen,if_true]
 rw[Sem.run_bind,jE hi]
 simp only[Result.andThen]
 rw[Sem.run_bind,<-W,I]
 simp
theorem B2(r:R ρ M U h H){t:eK}{b:Ps}{o:Nat}(I:En P h t b o K=true){Y O kap:Nat}(hρ:ρ b=some (Y,O,kap)):
 ∃v x,Dn ρ M v x/\K v=true/\∀w:fe,w.heap=H->(loadVar t ⟨Y,O+o,none⟩).run P w=.ok x w:=by
 unfold En at I
 obtain⟨N,I⟩:=fz I
 obtain⟨d,N⟩:=Option.isSome_iff_exists.1 N
 split at I
 .rename_i W
  obtain⟨ob,hb,I⟩:=jl I
  split at I
  .obtain⟨v,hv,hk⟩:=qw I
   obtain⟨us,hd,hc⟩:=r.reads hb hρ
   obtain⟨x,I,af⟩:=hd.get hv
   exact⟨v,x,af,hk,λw hw=>yY N W (cell_of hw (hc _ _ I))⟩
  .cases I
 .rename_i W
  obtain⟨hi,I⟩:=fz I
  obtain⟨i,hi⟩:=Option.isSome_iff_exists.1 hi
  obtain⟨ob,hb,I⟩:=jl I
  split at I
  .obtain⟨h1,I⟩:=qf I
   obtain⟨h2,hk⟩:=p6 I
   obtain⟨us,hd,hc⟩:=r.reads hb hρ
   have Z:=(hd.drop o).take (j6 P t)
   refine⟨_,_,Z.agg,hk,λw hw=>yZ N W hi ?_ λj u N=>?_⟩
   .rw[<-Z.1,List.length_take]
    have:j6 P t=i.size:=by simp[j6,hi]
    omega
   .rw[List.getElem?_take] at N
    split at N
    .rw[List.getElem?_drop] at N
     rw[pS,Nat.add_assoc]
     exact cell_of hw (hc _ _ N)
    .cases N
  .cases I
noncomputable def Kk(l:List V)(k:Nat->Bool):Bool:=
 List.rec (motive:=λ_=>(Nat->Bool)->Bool) (λk=>k 0) (λv _ u k=>match v with|.int .u8 (.ofNat n)=>bif Nat.blt n 256 then u λN=>fN (n+256*N) k else false|_=>false) l k
theorem E0:∀{l:List V}{k:Nat->Bool},Kk l k=true->∀{u:List dB},jZ ρ M l u->∃N,k N=true/\u=fV (strOf l.length N):=by
 intro l
 induction l with
 |nil=>intro k h u w;exact⟨0,h,by rw[w.mg];rfl⟩
 |cons v l W=>
  intro k h u w
  obtain⟨x,xs,rfl,Y,Z⟩:=w.il
  replace h:(match(generalizing:=false) v with|.int .u8 (.ofNat n)=>bif Nat.blt n 256 then Kk l λN=>fN (n+256*N) k else false|_=>false)=true:=h
  split at h
  .rename_i n
   have h2:=fz h
   clear h
   obtain⟨I,h⟩:=h2
   rw[Nat.blt_eq] at I
   obtain⟨N,O,he⟩:=W h Z
   rw[jm] at O
   refine⟨_,O,?_⟩
   cases Y
   rw[he]
   unfold fV strOf
   simp only[List.length_cons,bl,List.map_cons]
   rw[show(n+256*N)%256=n by omega,show(n+256*N)/256=N by omega]
   congr 2
   simp[Nat.mod_eq_of_lt I]
  .cases h
noncomputable def sS(h:Hp)(b:Ps)(o n:Nat)(k:List V->Bool):Bool:=
 qJ b h.t λu=>(match u with|.cells c _ _ _ _=>Cv c o λr=>B7 r n k|_=>false)
theorem qE(r:R ρ M U h H){b:Ps}{o n:Nat}{k:List V->Bool}(w:sS h b o n k=true){O I kap:Nat}(hρ:ρ b=some (O,I,kap)):
 ∃cs W,k cs=true/\cs.length=n/\jZ ρ M cs W/\∀(j:Nat) u,W[j]?=some u->dL H ⟨O,I+o+j,none⟩=some u:=by
 unfold sS at w
 obtain⟨ob,Y,w⟩:=jl w
 split at w
 .obtain⟨h1,w⟩:=qf w
  obtain⟨h2,Z⟩:=p6 w
  obtain⟨W,hd,hc⟩:=r.reads Y hρ
  refine⟨_,_,Z,by rw[List.length_take];omega,(hd.drop o).take n,λj u N=>?_⟩
  rw[List.getElem?_take] at N
  split at N
  .rw[List.getElem?_drop] at N
   rw[Nat.add_assoc]
   exact hc _ _ N
  .cases N
 .cases w
noncomputable def ON(h:Hp)(v:V)(K:V->Bool):Bool:=
 match v with
 |.mH=>K (.str 0 0)
 |.slice b o l _=>sS h b o l λcs=>Kk cs λN=>K (.str l N)
 |.jC b es l d=>sS h b (d*es) l λcs=>Kk cs λN=>K (.str l N)
 |_=>false
theorem Lq(r:R ρ M U h H){v:V}{x:dB}(O:Dn ρ M v x)(w:ON h v K=true):∃p l c t u,x=.slice p l c/\qZ H p l t/\Dn ρ M u (.string t)/\K u=true:=by
 have go:∀{b o l W I kap},ρ b=some (W,I,kap)->(sS h b o l λcs=>Kk cs λN=>K (.str l N))=true->∃N,qZ H (some ⟨W,I+o,none⟩) l (strOf l N)/\K (.str l N)=true:=by
  intro b o l W I kap hρ w
  obtain⟨cs,us,w,hl,O,hc⟩:=qE r w hρ
  obtain⟨N,Y,he⟩:=E0 w O
  refine⟨N,⟨jx _ _,λj u hu=>?_⟩,Y⟩
  rw[hl] at he
  rw[<-he] at hu
  rw[pS]
  exact hc j u hu
 unfold ON at w
 split at w
 .cases O;exact⟨none,0,0,_,_,rfl,rfl,.str 0 0,w⟩
 .cases O with
  |slice hρ=>obtain⟨N,Z,Y⟩:=go hρ w;exact⟨_,_,_,_,_,rfl,Z,.str _ _,Y⟩
 .cases O with
  |jC hρ _=>obtain⟨N,Z,Y⟩:=go hρ w;exact⟨_,_,_,_,_,rfl,Z,.str _ _,Y⟩
 .cases w
noncomputable def AV(P:eQ)(t:eK)(a b:V):Option Bool:=
 match P.underlying t,a,b with
 |some .string,.str n N,.str m M=>some (Nat.beq n m&&Nat.beq (N%256^n) (M%256^n))
 |some (.struct fs),.agg xs,.agg ys=>bif P.stoodInHeld t then none else EA P xs ys fs.toList
 |some (.array n el),.agg xs,.agg ys=>bif Nat.beq (P.cellsOf el) 1&&(P.info? el).isSome then O2 P el xs ys n 0 else none
 |_,_,_=>none
def Nu(q:Option Bool)(hit next:Bool):Bool:=match q with|some true=>hit|some false=>next|none=>false
noncomputable def RF(P:eQ)(t:eK)(k:V)(l:List (V×V))(hit:Nat->V->Bool)(miss:Bool):Bool:=
 List.rec (motive:=λ_=>Nat->Bool) (λ_=>miss) (λp _ u i=>Nu (AV P t k p.1) (hit i p.2) (u (Nat.succ i))) l 0
def ML(P:eQ)(f:Field):Bool:=match P.underlying f.type with|some (.int _)|some .string|some .bool=>(P.info? f.type).isSome|_=>false
theorem Cj{t:eK}{a b:V}{x y:dB}{z:Bool}(h:AV P t a b=some z)(Z:Dn ρ M a x)(hb:Dn ρ M b y)(w:fe):(Op.equal t x y).run P w=.ok z w:=by
 unfold AV at h
 split at h
 .rename_i I
  cases Z;cases hb
  rw[wM] at h
  have hc:∀x y,vU P t (.string x) (.string y)=some (decide (x=y)):=λx y=>by unfold vU;rw[I]
  rw[<-Option.some.inj h]
  exact(A9 (hc _ _)).2 9999 w
 .rename_i fs xs ys I
  cases Z with
  |agg N h1=>
  cases hb with
  |agg O h2=>
  rename_i W ws
  cases u:P.stoodInHeld t with
  |true=>rw[u] at h;cases h
  |false=>
   rw[u] at h
   have:=x0 (P:=P) (ρ:=ρ) (M:=M) ⟨N,h1⟩ ⟨O,h2⟩ fs.toList z h
   have Y:P.fieldsOf t=fs:=by simp[Program.fieldsOf,I]
   unfold Op.equal
   rw[show Op.maxDepth=9998+1+1 from rfl,run_equalIn_struct w _ t W.toArray ws.toArray (by rw[Y];exact I) u,Y]
   exact sO (xs:=W.toArray) (ys:=ws.toArray) _ w _ z this
 .rename_i n el xs ys I
  cases Z with
  |agg N h1=>
  cases hb with
  |agg O h2=>
  rename_i W ws
  cases u:Nat.beq (P.cellsOf el) 1&&(P.info? el).isSome with
  |false=>rw[u] at h;cases h
  |true=>
   rw[u] at h
   obtain⟨c1,c2⟩:=Bool.and_eq_true_iff.1 u
   have c1:=Nat.eq_of_beq_eq_true c1
   obtain⟨i,hi⟩:=Option.isSome_iff_exists.1 c2
   have:=zZ (P:=P) (ρ:=ρ) (M:=M) ⟨N,h1⟩ ⟨O,h2⟩ n 0 z h
   unfold Op.equal
   rw[show Op.maxDepth=9998+1+1 from rfl,run_equalIn_array w _ W.toArray ws.toArray I hi,List.range_eq_range']
   exact uS (xs:=W.toArray) (ys:=ws.toArray) c1 _ w n 0 z this
 .cases h
def ID(P:eQ)(t:eK):Bool:=match P.underlying t with|some (.int _)|some .string|some .bool=>(P.info? t).isSome|_=>false
noncomputable def rT(P:eQ)(t:eK)(k:V):Bool:=
 match P.underlying t,k with
 |some .string,.str _ _=>true
 |some (.struct fs),.agg xs=>fs.toList.all λf=>ML P f&&(match xs[f.offset]? with|some _=>true|none=>false)
 |some (.array n el),.agg xs=>ID P el&&Nat.beq (P.cellsOf el) 1&&Nat.ble n xs.length
 |_,_=>false
theorem qD{t:eK}{d:TypeDesc}(u:P.underlying t=some d)(I:d=.string\/d=.bool\/∃k,d=.int k)(x:dB)(N:Bool)(n:Nat)(w:fe):(Instr.checkKey N (n+1) t x).run P w=.ok () w:=by
 unfold Instr.checkKey
 rw[Sem.run_bind,fJ u]
 simp only[Result.andThen]
 rcases I with rfl|rfl|⟨k,rfl⟩<;>rfl
theorem ym{t:eK}{k:V}{x:dB}(h:rT P t k=true)(Z:Dn ρ M k x)(em:Bool)(w:fe):(Instr.checkKey em 10000 t x).run P w=.ok () w:=by
 unfold rT at h
 split at h
 .rename_i hu;exact qD hu (.inl rfl) x em 9999 w
 .rename_i fs xs hu
  cases Z with
  |agg hl hh=>
  rename_i N
  rw[show(10000:Nat)=9998+1+1 from rfl,Instr.checkKey]
  rw[Sem.run_bind,fJ hu]
  simp only[Result.andThen]
  rw[<-Array.forIn_toList,Sem.run_bind]
  revert h
  generalize fs.toList=l
  intro h
  suffices hs:(forIn l PUnit.unit λf(_:PUnit)=>(do
   if f.name≠ "_" then Instr.checkKey em (9998+1) f.type (<-part f.type N.toArray f.offset)
   pure (ForInStep.yield PUnit.unit):Sem (ForInStep PUnit))).run P w=.ok PUnit.unit w by rw[hs];rfl
  induction l with
  |nil=>rfl
  |cons f l ih=>
   simp only[List.all_cons,Bool.and_eq_true] at h
   obtain⟨⟨I,hx⟩,hr⟩:=h
   have ag:=ih hr
   rw[List.forIn_cons,Sem.run_bind]
   by_cases hn:f.name= "_"
   .rw[if_neg (by simp[hn])]
    exact ag
   .rw[if_pos hn]
    unfold ML at I
    have ad:∃d,P.underlying f.type=some d/\(d=.string\/d=.bool\/∃k,d=.int k)/\iJ P f.type=false:=by
     split at I
     .rename_i k u;exact⟨_,u,.inr (.inr ⟨_,rfl⟩),by simp[iJ,u]⟩
     .rename_i u;exact⟨_,u,.inl rfl,by simp[iJ,u]⟩
     .rename_i u;exact⟨_,u,.inr (.inl rfl),by simp[iJ,u]⟩
     .cases I
    obtain⟨d,W,Z,ae⟩:=ad
    split at hx
    .rename_i v hv
     obtain⟨y,hy,_⟩:=jZ.get (ρ:=ρ) (M:=M) ⟨hl,hh⟩ hv
     have O:(part f.type N.toArray f.offset).run P w=.ok y w:=by
      unfold part
      rw[Sem.run_bind,vn W,ae]
      simp only[Result.andThen,Bool.false_eq_true,if_false]
      rw[show N.toArray[f.offset]?=some y by simpa using hy]
      rfl
     rw[Sem.run_bind,O]
     simp only[Result.andThen]
     rw[Sem.run_bind,qD W Z y em 9998 w]
     exact ag
    .cases hx
 .rename_i n Y xs hu
  cases Z with
  |agg hl hh=>
  rename_i N
  simp only[Bool.and_eq_true] at h
  obtain⟨⟨I,hc⟩,hn⟩:=h
  have hc:=Nat.eq_of_beq_eq_true hc
  have hn:=Nat.le_of_ble_eq_true hn
  unfold ID at I
  have ad:∃d,P.underlying Y=some d/\(d=.string\/d=.bool\/∃k,d=.int k)/\iJ P Y=false/\(P.info? Y).isSome=true:=by
   split at I
   .rename_i k u;exact⟨_,u,.inr (.inr ⟨_,rfl⟩),by simp[iJ,u],I⟩
   .rename_i u;exact⟨_,u,.inl rfl,by simp[iJ,u],I⟩
   .rename_i u;exact⟨_,u,.inr (.inl rfl),by simp[iJ,u],I⟩
   .cases I
  obtain⟨d,W,Z,ae,hi⟩:=ad
  obtain⟨i,hi⟩:=Option.isSome_iff_exists.1 hi
  have ap:(sizeOf Y).run P w=.ok 1 w:=by
   have:i.size=1:=by rw[<-hc];simp[Program.cellsOf,hi]
   rw[<-this]
   exact jE hi w
  rw[show(10000:Nat)=9998+1+1 from rfl,Instr.checkKey]
  rw[Sem.run_bind,fJ hu]
  simp only[Result.andThen]
  have hr:∀(l:List Nat),(∀j∈l,j<n)->(forIn l PUnit.unit λj(_:PUnit)=>(do
   Instr.checkKey em (9998+1) Y (<-part Y N.toArray (j*(<-sizeOf Y)))
   pure (ForInStep.yield PUnit.unit):Sem (ForInStep PUnit))).run P w=.ok PUnit.unit w:=by
   intro l
   induction l with
   |nil=>intro _;rfl
   |cons j l ih=>
    intro hj
    rw[List.forIn_cons,Sem.run_bind]
    obtain⟨y,hy⟩:∃y,N[j]?=some y:=⟨N[j]'(by have:=hj j (by simp);omega),List.getElem?_eq_getElem _⟩
    have O:(part Y N.toArray (j*1)).run P w=.ok y w:=by
     unfold part
     rw[Sem.run_bind,vn W,ae]
     simp only[Result.andThen,Bool.false_eq_true,if_false]
     rw[show N.toArray[j*1]?=some y by simpa using hy]
     rfl
    rw[Sem.run_bind,ap]
    simp only[Result.andThen]
    rw[Sem.run_bind,O]
    simp only[Result.andThen]
    rw[Sem.run_bind,qD W Z y em 9998 w]
    exact ih λq hq=>hj q (by simp[hq])
  rw[Std.Legacy.Range.forIn_eq_forIn_range']
  rw[Sem.run_bind,hr _ (λj hj=>by
   simp[List.mem_range'] at hj
   omega)]
  rfl
 .cases h
def Bt(ρ:jF)(M:Nat)(l:List (V×V))(es:List MapEntry):Prop:=l.length=es.length/\∀(i:Nat) p e,l[i]?=some p->es[i]?=some e->Dn ρ M p.1 e.key/\Dn ρ M p.2 e.val
theorem yp{t:eK}{k:V}{x:dB}(O:Dn ρ M k x){hit:Nat->V->Bool}{miss:Bool}:∀(l:List (V×V))(es:List MapEntry)(i:Nat),Bt ρ M l es->
 List.rec (motive:=λ_=>Nat->Bool) (λ_=>miss) (λp _ Y i=>Nu (AV P t k p.1) (hit i p.2) (Y (Nat.succ i))) l i=true->
 (miss=true/\∀w,(Instr.findAsking t x es i).run P w=.ok none w)\/∃j v y,hit j v=true/\Dn ρ M v y/\∀w,(Instr.findAsking t x es i).run P w=.ok (some (j,y)) w
 |[],es,i,hm,h=>by
  have:es=[]:=by have:=hm.1;cases es with|nil=>rfl|cons=>simp at this
  subst this
  exact .inl ⟨h,λw=>rfl⟩
 |p::l,es,i,hm,h=>by
  cases es with
  |nil=>have:=hm.1;simp at this
  |cons I es=>
   obtain⟨Z,d2⟩:=hm.2 0 p I rfl rfl
   have W:Bt ρ M l es:=⟨by have:=hm.1;simpa using this,λi p e h1 h2=>hm.2 (i+1) p e (by simpa using h1) (by simpa using h2)⟩
   simp only at h
   cases N:AV P t k p.1 with
   |none=>rw[N] at h;exact absurd h (by simp[Nu])
   |some z=>
    rw[N] at h
    have u:=λw=>Cj N O Z w
    cases z with
    |true=>
     refine .inr ⟨i,p.2,I.val,h,d2,λw=>?_⟩
     unfold Instr.findAsking
     rw[Sem.run_bind,u w]
     rfl
    |false=>
     have step:∀w,(Instr.findAsking t x (I::es) i).run P w=(Instr.findAsking t x es (i+1)).run P w:=λw=>by
      rw[Instr.findAsking,Sem.run_bind,u w]
      rfl
     rcases yp O l es (i+1) W h with⟨a,b⟩|⟨j,v,y,a,b,c⟩
     .exact .inl ⟨a,λw=>by rw[step w,b w]⟩
     .exact .inr ⟨j,v,y,a,b,λw=>by rw[step w,c w]⟩
theorem ug{t:eK}{k:V}{x:dB}(ho:rT P t k=true)(hk:Dn ρ M k x){l:List (V×V)}{es:List MapEntry}(I:Bt ρ M l es)(ad:∀p∈l,rT P t p.1=true)(w:fe):
 (Instr.findKey t x es).run P w=(Instr.findAsking t x es).run P w:=by
 unfold rT at ho
 split at ho
 .rename_i n N O
  cases hk
  have ag:∀(l:List (V×V))(es:List MapEntry)(i:Nat),Bt ρ M l es->(∀p∈l,rT P t p.1=true)->∃r,Instr.findNow .string (.string (strOf n N)) es i=some r/\(Instr.findAsking t (.string (strOf n N)) es i).run P w=.ok r w:=by
   intro l
   induction l with
   |nil=>
    intro es i I _
    have:es=[]:=by have:=I.1;cases es with|nil=>rfl|cons=>simp at this
    subst this
    exact⟨none,rfl,rfl⟩
   |cons p l ih=>
    intro es i I ha
    cases es with
    |nil=>have:=I.1;simp at this
    |cons en es=>
     obtain⟨d1,d2⟩:=I.2 0 p en rfl rfl
     have aj:Bt ρ M l es:=⟨by have:=I.1;simpa using this,λi p e Y Z=>I.2 (i+1) p e (by simpa using Y) (by simpa using Z)⟩
     have hp:=ha p (by simp)
     unfold rT at hp
     rw[O] at hp
     obtain⟨au,ak,ar⟩:=en
     simp only at d1 d2
     cases am:p.1<;>rw[am] at hp d1<;>simp only[Bool.false_eq_true] at hp
     rename_i m W
     cases d1
     obtain⟨r,Y,Z⟩:=ih es (i+1) aj (λq hq=>ha q (by simp[hq]))
     have hq:AV P t (.str n N) (.str m W)=some (Nat.beq n m&&Nat.beq (N%256^n) (W%256^n)):=by unfold AV;rw[O]
     have u:=Cj (ρ:=ρ) (M:=M) hq (.str _ _) (.str _ _) w
     have hs:Instr.sameNow .string (.string (strOf n N)) (.string (strOf m W))=some (Nat.beq n m&&Nat.beq (N%256^n) (W%256^n)):=by
      rw[wM]
      show some (strOf n N==strOf m W)=_
      congr 1
      rw[Bool.eq_iff_iff,Go.MapKept.bytes_beq];simp
     cases hz:(Nat.beq n m&&Nat.beq (N%256^n) (W%256^n)) with
     |true=>
      rw[hz] at hs u
      refine⟨some (i,ak),by simp[Instr.findNow,hs],?_⟩
      unfold Instr.findAsking
      rw[Sem.run_bind,u]
      rfl
     |false=>
      rw[hz] at hs u
      refine⟨r,by simp[Instr.findNow,hs,Y],?_⟩
      rw[Instr.findAsking,Sem.run_bind,u]
      exact Z
  obtain⟨r,Y,Z⟩:=ag l es 0 I ad
  rw[Z]
  exact Go.MapKept.run_findKey O Y
 .rename_i fs xs O
  exact run_findKey_eq w (by rw[O]) x es
 .rename_i n el xs O
  exact run_findKey_eq w (by rw[O]) x es
 .cases ho
end Go.X
namespace Go.X
open Go.Ex
variable {P:eQ} {ρ:jF} {M:Nat} {U:Un} {h:Hp} {H:dw} {env:Tr V} {e:Env} {K:V->Bool}
def Ul(ok:Bool)(v:V)(b:Bool)(K:V->Bool):Bool:=match ok with|true=>K (.pZ [v,.bool b])|false=>K v
noncomputable def zi(P:eQ)(h:Hp)(mt:eK)(v k:V)(ok:Bool)(K:V->Bool):Bool:=
 match P.underlying mt with
 |some (.map kt et)=>bif rT P kt k then(match v with
  |.xf=>rI P et λz=>Ul ok z false K
  |.map m=>qJ m h.t λw=>(match w with
   |.map l=>bif l.all (λp=>rT P kt p.1) then RF P kt k l (λ_ u=>Ul ok u true K)
    (rI P et λz=>Ul ok z false K) else false
   |_=>false)
  |_=>false) else false
 |_=>false
theorem Em(r:R ρ M U h H){mt:eK}{om O:gU}{v k:V}{x y:dB}{ok:Bool}(hx:nN e om=some x)(hy:nN e O=some y)(dv:Dn ρ M v x)(dk:Dn ρ M k y)(I:zi P h mt v k ok K=true):
 WZ P ρ M H (.lookup mt om O ok) e K:=by
 have go:∀{r:dB},(∀w:fe,w.heap=H->(Instr.lookup mt x y ok).run P w=.ok r w)->oQ P (.lookup mt om O ok) e H (·=r):=λ{r} hr=>pj hr λo ho τ ha=>by
  obtain⟨aU,aV,aG,aW,aC,guard⟩:=o
  simp only at ho
  subst ho
  simp only[execOp,ha om (by simp[Op.operands]) _ hx,ha O (by simp[Op.operands]) _ hy]
 unfold zi at I
 split at I
 .rename_i kt et hu
  have h2:=fz I
  clear I
  obtain⟨Y,I⟩:=h2
  let N:Array MapEntry->Sem dB:=λes=>do
   Instr.checkKey es.isEmpty 10000 kt y
   match<-Instr.findKey kt y es.toList with
   |some (_,v)=>do
    let __x<-pure (v,true)
    pure (if ok then .tuple #[__x.1,.bool __x.2] else __x.1)
   |none=>do
    let z<-zeroValue et
    let __x<-pure (z,false)
    pure (if ok then .tuple #[__x.1,.bool __x.2] else __x.1)
  have miss:∀{es:Array MapEntry},(∀w,(Instr.findKey kt y es.toList).run P w=.ok none w)->(∀w:fe,w.heap=H->(Instr.lookup mt x y ok).run P w=(N es).run P w)->(rI P et λz=>Ul ok z false K)=true->WZ P ρ M H (.lookup mt om O ok) e K:=by
   intro es hf Z hz
   obtain⟨z,yz,hd,hk,hq⟩:=mj (ρ:=ρ) (M:=M) hz
   obtain⟨_,_,_,_,ay,ai⟩:=kM (hq (·=yz) rfl)
   rw[ay] at ai
   have W:∀w:fe,w.heap=H->(Instr.lookup mt x y ok).run P w=.ok (if ok then .tuple #[yz,.bool false] else yz) w:=λw hw=>by
    rw[Z w hw]
    simp only[N]
    rw[Sem.run_bind,ym Y dk]
    simp only[Result.andThen]
    rw[Sem.run_bind,hf w]
    simp only[Result.andThen]
    rw[Sem.run_bind,ai w]
    rfl
   cases ok with
   |true=>exact⟨_,_,xy hd false,hk,go W⟩
   |false=>exact⟨_,_,hd,hk,go W⟩
  split at I
  .cases dv
   refine miss (es:=#[]) (λw=>?_) (λw _=>by unfold Instr.lookup;rw[Sem.run_bind,fJ hu];rfl) I
   rw[ug (l:=[]) (es:=[]) Y dk ⟨rfl,λ_ _ _ h=>by simp at h⟩ (λp hp=>by simp at hp) w]
   rfl
  .rename_i m
   obtain⟨ob,hb,I⟩:=jl I
   split at I
   .rename_i l
    obtain⟨aq,I⟩:=fz I
    have ah:∀p∈l,rT P kt p.1=true:=by simpa using aq
    cases dv with
    |map hρ=>
    rename_i aj aM kap
    obtain⟨aO,aD,aP,x2,q1,q2,_,es,clock,rfl,q4,q5⟩:=r.ob m _ hb trivial
    rw[hρ] at q1
    cases q1
    have hm:Bt ρ M l es.toList:=⟨q4,q5⟩
    have Z:∀w:fe,w.heap=H->(Instr.lookup mt (.map (some aj)) y ok).run P w=(N es).run P w:=λw hw=>by
     unfold Instr.lookup
     rw[Sem.run_bind,fJ hu]
     simp only[Result.andThen]
     rw[Sem.run_bind,Go.MapKept.run_getObj_map (es:=es) (clock:=clock) (by rw[hw];exact q2)]
     rfl
    have aa:=λw=>ug Y dk hm ah (P:=P) w
    rcases yp (P:=P) (hit:=λ_ u=>Ul ok u true K) (miss:=rI P et λz=>Ul ok z false K) dk l es.toList 0 hm I with⟨hz,hn⟩|⟨j,u,yu,hk,ak,hr⟩
    .exact miss (es:=es) (λw=>by rw[aa w,hn w]) Z hz
    .have W:∀w:fe,w.heap=H->(Instr.lookup mt (.map (some aj)) y ok).run P w=.ok (if ok then .tuple #[yu,.bool true] else yu) w:=λw hw=>by
      rw[Z w hw]
      simp only[N]
      rw[Sem.run_bind,ym Y dk]
      simp only[Result.andThen]
      rw[Sem.run_bind,aa w,hr w]
      rfl
     cases ok with
     |true=>exact⟨_,_,xy ak true,hk,go W⟩
     |false=>exact⟨_,_,ak,hk,go W⟩
   .cases I
  .cases I
 .cases I
noncomputable def OO(P:eQ)(h:Hp)(s d:eK)(v:V)(K:V->Bool):Bool:=
 match P.underlying s,P.underlying d,v with
 |some (.pointer t),some .unsafePointer,.ptr b o=>(match P.info? t with
  |some i=>bif Nat.beq i.size 0 then false else qJ b h.t λw=>(match w with|.cells c _ _ false _=>Dt c o λ_=>K (.ptr b o)|_=>false)
  |none=>false)
 |some .unsafePointer,some (.pointer u),.ptr b o=>bif(P.info? u).isSome then qJ b h.t λw=>(match w with
  |.cells c el _ false _=>bif liesAt P P.depth el (c.length/P.cellsOf el) o u 1 then K (.ptr b o) else false
  |_=>false) else false
 |_,_,_=>false
theorem JQ{w:fe}{u:Nat}{I:Array dB}{O:eK}{N:Nat×Nat}(W:w.heap[u]?=some (.cells I O N)):(viewAt u).run P w=.ok none w:=by
 unfold viewAt
 rw[Sem.run_bind,run_shape]
 simp only[Result.andThen,World.shape?,W,Option.isSome_some,if_true]
 rfl
theorem uB{w:fe}{u I:Nat}{N:Array dB}{W:eK}{O:Nat×Nat}(Y:w.heap[u]?=some (.cells N W O)):(Conv.seenAt ⟨u,I,none⟩).run P w=.ok ⟨u,I,none⟩ w:=by
 unfold Conv.seenAt
 rw[Sem.run_bind,JQ Y]
 rfl
theorem LB(r:R ρ M U h H){s d:eK}{o:gU}{v:V}{x:dB}(hx:nN e o=some x)(dv:Dn ρ M v x)(I:OO P h s d v K=true):WZ P ρ M H (.convert s d o) e K:=by
 have go:∀{r:dB},(∀w:fe,w.heap=H->(convert s d x).run P w=.ok r w)->oQ P (.convert s d o) e H (·=r):=λ{r} hr=>pj hr λad ho τ ha=>by
  obtain⟨aM,ad,aC,aO,ay,guard⟩:=ad
  simp only at ho
  subst ho
  simp only[execOp,ha o (by simp[Op.operands]) _ hx]
 unfold OO at I
 split at I
 .rename_i t b o' W Y
  split at I
  .rename_i i hi
   obtain⟨hz,I⟩:=vt I
   have hz:i.size≠0:=λe=>by rw[e] at hz;cases hz
   obtain⟨ob,hb,I⟩:=jl I
   split at I
   .rename_i c el es ro
    obtain⟨u,hu,hk⟩:=qw I
    cases dv with
    |ptr hρ=>
    rename_i N ah kap
    obtain⟨ai,ac,aj,x2,Z,q2,_,O,aa,rfl,q4,q5,q6,q7,q8⟩:=r.ob b _ hb trivial
    rw[hρ] at Z
    cases Z
    obtain⟨y,hy,_⟩:=q4 _ _ hu
    have aP:=(Array.getElem?_eq_some_iff.1 hy).1
    refine⟨_,_,.ptr hρ,hk,go λw hw=>?_⟩
    have dL:w.heap[N]?=some (.cells O el aa):=by rw[hw];exact q2
    unfold convert
    rw[Sem.run_bind,fJ W]
    simp only[Result.andThen]
    rw[Sem.run_bind,fJ Y]
    simp only[Result.andThen]
    unfold Conv.unsafePointer
    rw[Sem.run_bind,fJ W]
    simp only[Result.andThen]
    rw[Sem.run_bind,fJ Y]
    simp only[Result.andThen]
    rw[Sem.run_bind,uB dL]
    simp only[Result.andThen]
    have av:(cellsIn N).run P w=.ok (some O.size) w:=by
     unfold cellsIn
     rw[Sem.run_bind,run_shape]
     simp only[Result.andThen,World.shape?,dL]
     rfl
    rw[Sem.run_bind,av]
    simp only[Result.andThen]
    rw[Sem.run_bind,jE hi]
    simp only[Result.andThen]
    rw[if_neg]
    .rfl
    .simp only[hz,Bool.or_eq_true,decide_eq_true_eq,false_or]
     simp;omega
   .cases I
  .cases I
 .rename_i u b o' W Y
  obtain⟨hi,I⟩:=fz I
  obtain⟨i,hi⟩:=Option.isSome_iff_exists.1 hi
  obtain⟨ob,hb,I⟩:=jl I
  split at I
  .rename_i c el es ro
   obtain⟨hl,hk⟩:=fz I
   cases dv with
   |ptr hρ=>
   rename_i N ah kap
   obtain⟨ai,ac,aj,x2,Z,q2,_,O,aa,rfl,q4,q5,q6,q7,q8⟩:=r.ob b _ hb trivial
   rw[hρ] at Z
   cases Z
   have aw:=(q8 rfl).1
   subst aw
   have ax:O.size=c.length:=by rw[<-q6];simp[tm]
   refine⟨_,_,.ptr hρ,hk,go λw hw=>?_⟩
   have dL:w.heap[N]?=some (.cells O el aa):=by rw[hw];exact q2
   unfold convert
   rw[Sem.run_bind,fJ W]
   simp only[Result.andThen]
   rw[Sem.run_bind,fJ Y]
   simp only[Result.andThen]
   unfold Conv.unsafePointer
   rw[Sem.run_bind,fJ W]
   simp only[Result.andThen]
   rw[Sem.run_bind,fJ Y]
   simp only[Result.andThen]
   rw[Sem.run_bind,uB dL]
   simp only[Result.andThen]
   have hv:(variablesAt ⟨N,0+o',none⟩ u 1).run P w=.ok true w:=by
    unfold variablesAt
    rw[Sem.run_bind,run_program]
    simp only[Result.andThen]
    rw[Sem.run_bind,run_shape]
    simp only[Result.andThen,World.shape?,dL,ax]
    rw[show 0+o'=o' by omega,hl]
    rfl
   rw[Sem.run_bind,jE hi]
   simp only[Result.andThen]
   rw[Sem.run_bind,hv]
   simp
  .cases I
 .cases I
noncomputable def Lx(P:eQ)(h:Hp)(u:Op)(env:Tr V)(K:V->Bool):Bool:=
 match u with
 |.load t x=>xo env x λv=>(match v with|.ptr b o=>En P h t b o K|_=>false)
 |.convert s d x=>xo env x λv=>(match P.underlying s,P.underlying d with
  |some (.slice b),some .string=>(match P.underlying b with|some (.int .u8)=>ON h v K|_=>false)
  |_,_=>OO P h s d v K)
 |.lookup mt x k ok=>xo env x λv=>xo env k λk=>zi P h mt v k ok K
 |_=>false
inductive Yj where
 |mk (f:Hp->Tr V->(V->Bool)->Bool)
noncomputable def TQ(P:eQ)(u:Op):Yj:=
 match u with
 |.load t x=>.mk λh env K=>xo env x λv=>(match v with|.ptr b o=>En P h t b o K|_=>false)
 |.convert s d x=>.mk λh env K=>xo env x λv=>(match P.underlying s,P.underlying d with
  |some (.slice b),some .string=>(match P.underlying b with|some (.int .u8)=>ON h v K|_=>false)
  |_,_=>OO P h s d v K)
 |.lookup mt x k ok=>.mk λh env K=>xo env x λv=>xo env k λk=>zi P h mt v k ok K
 |_=>.mk λ_ _ _=>false
noncomputable def B0(P:eQ)(h:Hp)(u:Op)(env:Tr V)(K:V->Bool):Bool:=Yj.rec (motive:=λ_=>Bool) (λf=>f h env K) (TQ P u)
theorem JF(P:eQ)(h:Hp)(u:Op)(env:Tr V)(K:V->Bool):B0 P h u env K=Lx P h u env K:=by
 cases u<;>rfl
theorem pY(W:E ρ M env e)(r:R ρ M U h H){op:Op}(I:B0 P h op env K=true):WZ P ρ M H op e K:=by
 have Y:Gl ρ:=r.gl
 rw[JF] at I
 unfold Lx at I
 split at I
 .rename_i t x
  obtain⟨v,y,N,O,I⟩:=gv W Y I
  split at I
  .rename_i b o'
   cases O with
   |ptr hρ=>
   rename_i ab Z kap
   obtain⟨v,z,ac,hk,hr⟩:=B2 r I hρ
   refine⟨v,z,ac,hk,pj (s:=Instr.loadAt t (.pointer (some ⟨ab,Z+o',none⟩))) (λw hw=>?_) λo ho τ ha=>?_⟩
   .unfold Instr.loadAt
    rw[Sem.run_bind]
    exact hr w hw
   .obtain⟨av,aw,an,ax,ah,guard⟩:=o
    simp only at ho
    subst ho
    simp only[execOp,ha x (by simp[Op.operands]) _ N]
  .cases I
 .rename_i s d x
  obtain⟨v,y,N,O,I⟩:=gv W Y I
  split at I
  .rename_i b hs ae
   split at I
   .rename_i hb
    obtain⟨p,l,c,t,u,rfl,h1,h2,h3⟩:=Lq r O I
    refine⟨u,_,h2,h3,.inl ?_⟩
    simp only[uQ,o1,N,hs,ae,hb]
    exact⟨t,h1,rfl⟩
   .cases I
  .exact LB r N O I
 .obtain⟨v,y,N,O,I⟩:=gv W Y I
  obtain⟨v2,y2,af,ag,I⟩:=gv W Y I
  exact Em r N af O ag I
 .cases I
end Go.X
namespace Go.X
open Go.Ex
variable {P:eQ} {ρ:jF} {M:Nat} {U:Un} {h:Hp} {H:dw} {env:Tr V} {e:Env} {K:V->Hp->Bool}
def ye{α:Type}(cs:List α)(u:Nat):List α->List α
 |[]=>cs
 |v::vs=>ye (cs.set u v) (u+1) vs
theorem qt{α:Type}(vs:List α):∀(cs:List α)(u:Nat),(ye cs u vs).length=cs.length:=by
 induction vs with
 |nil=>intro cs u;rfl
 |cons v vs w=>intro cs u;show(ye (cs.set u v) (u+1) vs).length=_;rw[w];simp
theorem wQ{α:Type}(vs:List α):∀(cs:List α)(u j:Nat),u+vs.length<=cs.length->(ye cs u vs)[j]?=if u<=j/\j<u+vs.length then vs[j-u]? else cs[j]?:=by
 induction vs with
 |nil=>intro cs u j _;rw[if_neg (by simp)];rfl
 |cons v vs N=>
  intro cs u j O
  simp only[List.length_cons] at O⊢
  show(ye (cs.set u v) (u+1) vs)[j]?=_
  rw[N _ _ _ (by simp;omega),List.getElem?_set]
  by_cases w:u+1<=j/\j<u+1+vs.length
  .rw[if_pos w,if_pos (by omega)]
   rw[show j-u=(j-(u+1))+1 by omega,List.getElem?_cons_succ]
  .rw[if_neg w]
   by_cases I:u=j
   .subst I
    rw[if_pos rfl,if_pos (by omega),if_pos (by omega)]
    simp
   .rw[if_neg I,if_neg (by omega)]
theorem Pn{α:Type}(cs vs:List α)(u:Nat)(h:u+vs.length<=cs.length):ye cs u vs=cs.take u++vs++cs.drop (u+vs.length):=by
 apply List.ext_getElem?
 intro j
 rw[wQ _ _ _ _ h]
 simp only[List.getElem?_append,List.length_append,List.length_take,List.getElem?_take,List.getElem?_drop]
 have N:min u cs.length=u:=by omega
 rw[N]
 by_cases w:j<u
 .rw[if_neg (by omega),if_pos (by omega),if_pos w,if_pos w]
 .by_cases I:j<u+vs.length
  .rw[if_pos (by omega),if_pos I,if_neg w]
  .rw[if_neg (by omega),if_neg I]
   congr 1
   omega
theorem tS{u vs:List V}{w:Nat}{k:List V->Bool}(h:nW u w vs k=true):w+vs.length<=u.length/\k (ye u w vs)=true:=by
 unfold nW at h
 obtain⟨N,h⟩:=p6 h
 rw[mY] at h
 obtain⟨I,h⟩:=qf h
 rw[ns,ns] at h
 refine⟨I,?_⟩
 rw[Pn _ _ _ I,List.append_assoc]
 exact h
noncomputable def sV:List V->Bool
 |[]=>true
 |v::r=>Kj v (sV r)
theorem FU{v:V}{r:List V}{x:dB}(h:sV (v::r)=true)(u:Dn ρ M v x):sV r=true/\∀K:Prop,K->Dr x K:=xa (b:=sV r) h u
theorem EH{I w:Nat}{el:eK}{N:Nat×Nat}:∀{vs:List V}{O:List dB}{H:dw}{u:Array dB}{i:Nat}{Y:dw->Prop},H[I]?=some (.cells u el N)->jZ ρ M vs O->sV vs=true->
 w+i+O.length<=u.size->(N.1=N.2\/u.size<=N.1)->
 (∀H',(∀j,j≠I->H'[j]?=H[j]?)->H'.size=H.size->H'[I]?=some (.cells (ye u.toList (w+i) O).toArray el N)->Y H')->EI H ⟨I,w,none⟩ O i Y:=by
 intro vs
 induction vs with
 |nil=>
  intro O H u i Y W Z _ _ _ hk
  rw[Z.mg]
  exact hk H (λ_ _=>rfl) rfl (by rw[Z.mg];simpa[ye] using W)
 |cons v vs ih=>
  intro O H u i Y W Z ho ad ae hk
  obtain⟨x,xs,rfl,hv,hr⟩:=Z.il
  obtain⟨af,ab⟩:=FU ho hv
  simp only[List.length_cons] at ad
  have ag:w+i<u.size:=by omega
  show R8 H (Addr.add ⟨I,w,none⟩ i) x _
  rw[pS]
  refine ab _ ⟨⟨u[w+i],by unfold dL;simp only;rw[W];simp[ag]⟩,?_,?_⟩
  .unfold fH
   simp only
   rw[W]
   simp only[Bool.and_eq_false_iff,decide_eq_false_iff_not]
   omega
  .have ah:=oM H (a:=⟨I,w+i,none⟩) x W rfl
   refine ih ah hr af (by simp;omega) (by simpa using ae) λH' h1 ai h2=>hk H' (λj hj=>?_) ?_ ?_
   .rw[h1 j hj];exact sH _ _ _ _ hj
   .rw[ai];unfold gO;simp
   .rw[h2]
    simp only[Array.toList_setIfInBounds]
    rfl
theorem R.GD(r:R ρ M U h H){b:Ps}{c:List V}{Y es:Nat}{w:Bool}(Z:look b h.t=some (.cells c Y es w false)){N u kap:Nat}(hρ:ρ b=some (N,u,kap))
 {o:Nat}{vs:List V}{O:List dB}(W:jZ ρ M vs O)(ho:sV vs=true)(aa:o+vs.length<=c.length){Kp:dw->Prop}
 (hk:∀H',H'.size=H.size->R ρ M U {h with t:=ins (.cells (ye c o vs) Y es w false) b h.t} H'->Kp H'):EI H ⟨N,u+o,none⟩ O 0 Kp:=by
 obtain⟨aj,ag,ak,x2,q1,q2,_,ay,az,rfl,q4,q5,q6,q7,q8⟩:=r.ob b _ Z trivial
 rw[hρ] at q1
 cases q1
 have ar:O.length=vs.length:=W.1.symm
 refine EH q2 W ho (by omega) (q7 rfl) λH' h1 ae h2=>hk H' ae (r.oC Z trivial hρ h1 h2 ?_)
 refine⟨_,_,rfl,λj v I=>?_,?_,?_,?_,q8⟩
 .simp only[List.getElem?_toArray,Nat.add_zero]
  rw[wQ _ _ _ _ aa] at I
  rw[wQ _ _ _ _ (by simp;omega)]
  split at I
  .rename_i hj
   rw[if_pos (by omega),show u+j-(u+o)=j-o by omega]
   exact W.get I
  .rename_i hj
   rw[if_neg (by omega)]
   obtain⟨y,hy,af⟩:=q4 j v I
   exact⟨y,by simpa using hy,af⟩
 .have:tm (ye c o vs) kap es w=tm c kap es w:=by cases w<;>simp[tm,qt]
  rw[this,qt];exact q5
 .have:tm (ye c o vs) kap es w=tm c kap es w:=by cases w<;>simp[tm,qt]
  rw[this];simp[qt,q6]
 .exactλh=>by simpa[qt] using q7 h
noncomputable def IK{α:Type}(p:Ps)(t:Tr α):Bool:=
 Ps.rec (motive:=λ_=>Tr α->Bool)
  (λt=>Tr.rec (motive:=λ_=>Bool) true (λ_ v _ _ _=>Option.rec (motive:=λ_=>Bool) true (λ_=>false) v) t)
  (λ_ u t=>Tr.rec (motive:=λ_=>Bool) true (λl _ _ _ _=>u l) t)
  (λ_ u t=>Tr.rec (motive:=λ_=>Bool) true (λ_ _ r _ _=>u r) t) p t
theorem Cd{α:Type}:∀{p:Ps}{t:Tr α},IK p t=true->look p t=none:=by
 intro p
 induction p with
 |h=>
  intro t h
  cases t with
  |lf=>rfl
  |nd l v r=>cases v with|none=>rfl|some v=>cases h
 |o p u=>intro t h;cases t with|lf=>rfl|nd l v r=>exact u (t:=l) h
 |i p u=>intro t h;cases t with|lf=>rfl|nd l v r=>exact u (t:=r) h
noncomputable def xg(h:Hp)(u:Ob)(K:Ps->Hp->Bool):Bool:=
 bif IK (.i h.nx) h.t then rq u (.i h.nx) h.t λt=>VD h.nx λq=>K (.i h.nx) ⟨t,q,h.lo,h.hi⟩ else false
theorem lL{w:Ob}{K:Ps->Hp->Bool}(u:xg h w K=true):∃q,look (.i h.nx) h.t=none/\K (.i h.nx) {h with t:=ins w (.i h.nx) h.t,nx:=q}=true:=by
 unfold xg at u
 obtain⟨I,u⟩:=fz u
 rw[lD] at u
 obtain⟨q,N⟩:=Ni u
 exact⟨q,Cd I,N⟩
theorem qT{c:List V}{W:List dB}{Y es kap:Nat}{N:Bool}(hd:jZ ρ M c W)(w:Array dB)(I:Nat×Nat)(O:∀(j:Nat) u,W[j]?=some u->w[j]?=some u)(af:w.size=tm c kap es N)(Z:c.length<=tm c kap es N)
 (aa:I.1=I.2\/w.size<=I.1):K6 ρ M 0 kap (.cells c Y es N false) (.cells w Y I):=by
 refine⟨w,I,rfl,λj v hv=>?_,Z,by omega,λ_=>aa,λ_=>⟨rfl,λh=>by cases h⟩⟩
 obtain⟨x,hx,ab⟩:=hd.get hv
 exact⟨x,by rw[Nat.zero_add];exact O j x hx,ab⟩
def Af(ρ:jF)(M:Nat)(U:Un)(K:V->Hp->Bool)(u:dB)(H':dw):Prop:=∃ρ' v h',Le ρ ρ'/\R ρ' M U h' H'/\Dn ρ' M v u/\K v h'=true
theorem Af.mk{u:dB}{H':dw}{v:V}{h':Hp}(r:R ρ M U h' H')(w:Dn ρ M v u)(I:K v h'=true):Af ρ M U K u H':=⟨ρ,v,h',Le.refl _,r,w,I⟩
def pV(v:V):List V:=match v with|.agg cs=>cs|v=>[v]
theorem nQ{v:V}{x:dB}(h:Dn ρ M v x)(u:v=.any->False):jZ ρ M (pV v) (gH x):=by
 cases h with
 |agg w I=>exact⟨by simpa[pV,gH] using w,by simpa[pV,gH] using I⟩
 |any=>exact(u rfl).elim
 |_=>exact .cons (by constructor<;>assumption) .nil
end Go.X
namespace Go.X
open Go.Ex
variable {P:eQ} {ρ:jF} {M:Nat} {U:Un} {h:Hp} {H:dw} {env:Tr V} {e:Env} {K:V->Hp->Bool}
theorem je{N:Op}{O I:dB->dw->Prop}(W:fF P=true)(Y:og P N e H O)(Z:∀u H',O u H'->I u H'):og P N e H I:=
 .inr λo a w next Q ho ha hw hn=>by
  subst ho
  exact nP W Y ha w hw λv w' hs q=>hn v w' hs (Z _ _ q)
abbrev Wr(P:eQ)(ρ:jF)(M:Nat)(U:Un)(H:dw)(u:Op)(e:Env)(K:V->Hp->Bool):Prop:=og P u e H (Af ρ M U K)
noncomputable def CJ(P:eQ)(h:Hp)(t:eK)(b:Ps)(o:Nat)(u:V)(K:V->Hp->Bool):Bool:=
 qJ b h.t λw=>(match w with
  |.cells c el es op false=>(match iJ P t with
   |true=>(match u with
    |.agg vs=>tw vs λn=>bif Nat.beq n (j6 P t)&&(P.info? t).isSome then(bif sV vs then nW c o vs λc=>rq (.cells c el es op false) b h.t λt=>K .any ⟨t,h.nx,h.lo,h.hi⟩ else false) else false
    |_=>false)
   |false=>bif Nat.beq 1 (j6 P t)&&(P.info? t).isSome then Kj u (Mm c o u λc=>rq (.cells c el es op false) b h.t λt=>K .any ⟨t,h.nx,h.lo,h.hi⟩) else false)
  |_=>false)
theorem Ge(r:R ρ M U h H){t:eK}{Z ox:gU}{b:Ps}{o:Nat}{u:V}{x y:dB}(hx:nN e Z=some x)(hy:nN e ox=some y)(dx:Dn ρ M (.ptr b o) x)(O:Dn ρ M u y)(w:CJ P h t b o u K=true):
 Wr P ρ M U H (.store t Z ox) e K:=by
 unfold CJ at w
 obtain⟨ob,hb,w⟩:=jl w
 split at w
 .rename_i c el es op
  cases dx with
  |ptr hρ=>
  rename_i an ah kap
  refine .inl ?_
  simp only[kW,o1,hx,hy]
  split at w
  .rename_i I
   rw[I]
   split at w
   .rename_i vs
    rw[mY] at w
    obtain⟨N,w⟩:=fz w
    obtain⟨W,w⟩:=fz w
    obtain⟨ab,w⟩:=tS w
    rw[lD] at w
    cases O with
    |agg hl hd=>
    rename_i a
    simp only
    rw[List.size_toArray,<-hl,N]
    simp only[cond_true]
    exact r.GD hb hρ ⟨hl,hd⟩ W ab λH' _ Y=>.mk Y (.any _) w
   .cases w
  .rename_i I
   rw[I]
   obtain⟨N,w⟩:=fz w
   obtain⟨w,ho⟩:=xa w O
   obtain⟨ad,w⟩:=Ao w
   rw[lD] at w
   simp only[N,cond_true]
   obtain⟨w1,w2,Y⟩:=r.write hb hρ ad O
   exact ho _ ⟨w1,w2,.mk Y (.any _) w⟩
 .cases w
def AJ:V->Bool
 |.any=>false
 |_=>true
theorem oI{v:V}(h:AJ v=true):v=.any->False:=by rintro rfl;cases h
noncomputable def zT(P:eQ)(h:Hp)(t:eK)(K:V->Hp->Bool):Bool:=
 rI P t λz=>bif AJ z then xg h (.cells (pV z) t 0 false false) λb h=>K (.ptr b 0) h else false
theorem xh{p:Ps}{kap:Nat}:Dn (ext ρ (.i p) (H.size,0,kap)) M (.ptr (.i p) 0) (newAt H):=by
 have:=Dn.ptr (M:=M) (o:=0) (lO ρ (.i p) (H.size,0,kap))
 exact this
theorem Gt(r:R ρ M U h H){t:eK}(w:zT P h t K=true):Wr P ρ M U H (.alloc t) e K:=by
 unfold zT at w
 obtain⟨z,y,O,w,W⟩:=mj (ρ:=ρ) (M:=M) w
 obtain⟨Y,w⟩:=fz w
 obtain⟨q,I,Z⟩:=lL w
 have N:=nQ O (oI Y)
 refine .inl ?_
 simp only[kW]
 refine W _ ⟨_,_,_,r.mV I _,r.alloc I 0 q (qT N _ (0,0) ?_ ?_ ?_ (.inl rfl)),xh,Z⟩
 .intro j u hu;simpa using hu
 .simp[tm,N.1]
 .simp[tm]
noncomputable def OV(h:Hp)(t:eK)(v:V)(K:V->Hp->Bool):Bool:=
 match v with
 |.agg cs=>xg h (.cells cs t 0 false false) λb h=>K (.ptr b 0) h
 |v=>Kj v (xg h (.cells [v] t 0 false false) λb h=>K (.ptr b 0) h)
theorem LN(r:R ρ M U h H){t:eK}{o:gU}{v:V}{x:dB}(N:nN e o=some x)(O:Dn ρ M v x)(w:OV h t v K=true):Wr P ρ M U H (.box t o) e K:=by
 unfold OV at w
 split at w
 .cases O with
  |agg hl hd=>
  obtain⟨q,I,W⟩:=lL w
  refine .inl ?_
  simp only[kW,o1,N]
  refine⟨_,_,_,r.mV I _,r.alloc I 0 q (qT ⟨hl,hd⟩ _ (0,0) ?_ ?_ ?_ (.inl rfl)),xh,W⟩
  .intro j u Y;simpa using Y
  .simp[tm,hl]
  .simp[tm]
 .obtain⟨w,ho⟩:=xa w O
  obtain⟨q,I,W⟩:=lL w
  refine .inl ?_
  have hn:∀cs,x≠.agg cs:=by
   intro cs e
   subst e
   exact(ho True trivial).elim
  have Z:Af ρ M U K (newAt H) (eP H #[x] t):=by
   refine⟨_,_,_,r.mV I _,r.alloc I 0 q (qT (jZ.cons O .nil) _ (0,0) ?_ ?_ ?_ (.inl rfl)),xh,W⟩
   .intro j u Y;simpa using Y
   .simp[tm]
   .simp[tm]
  simp only[kW,o1,N]
  clear N
  cases x<;>first|exact(hn _ rfl).elim|exact ho _ Z
noncomputable def zN(zs:List V)(n:Nat)(k:List V->Bool):Bool:=Nat.rec (motive:=λ_=>(List V->Bool)->Bool) (λk=>k []) (λ_ u k=>u λr=>zb zs r k) n k
theorem ux(zs:List V):∀(n:Nat)(k:List V->Bool),zN zs n k=k (List.replicate n zs).flatten:=by
 intro n
 induction n with
 |zero=>intro k;rfl
 |succ n u=>
  intro k
  show zN zs n (λr=>zb zs r k)=_
  rw[u,ns,List.replicate_succ,List.flatten_cons]
theorem jZ.BZ{zs:List V}{u:List dB}(w:jZ ρ M zs u):∀n,jZ ρ M (List.replicate n zs).flatten (List.replicate n u).flatten
 |0=>.nil
 |n+1=>by rw[List.replicate_succ,List.flatten_cons,List.replicate_succ,List.flatten_cons];exact w.append (w.BZ n)
theorem sr(z:dB)(n:Nat):j5 z n=(List.replicate n (gH z)).flatten.toArray:=by
 rw[vB,vp (gH z) n _ rfl]
 unfold Builtin.zeroCells
 rw[oS]
 simp
noncomputable def Ic(P:eQ)(h:Hp)(t:eK)(w I:V)(K:V->Hp->Bool):Bool:=
 match P.underlying t,w,I with
 |some (.slice u),.int _ (.ofNat n),.int _ (.ofNat m)=>(match P.info? u with
  |some i=>rI P u λz=>bif AJ z&&Nat.beq (pV z).length i.size&&Nat.blt 0 i.bytes&&Nat.blt 0 i.size&&Nat.ble n m&&Nat.ble (i.bytes*m) 281474976710656 then
   zN (pV z) m λcs=>xg h (.cells cs u i.size false false) λb h=>K (.slice b 0 n m) h else false
  |none=>false)
 |_,_,_=>false
theorem EJ{p:Ps}{kap l c:Nat}:Dn (ext ρ (.i p) (H.size,0,kap)) M (.slice (.i p) 0 l c) (.slice (some ⟨H.size,0,none⟩) l c):=by
 have:=Dn.slice (M:=M) (o:=0) (l:=l) (c:=c) (lO ρ (.i p) (H.size,0,kap))
 exact this
theorem JK(r:R ρ M U h H){t:eK}{W Y:gU}{Z vc:V}{x y:dB}(hx:nN e W=some x)(hy:nN e Y=some y)(dx:Dn ρ M Z x)(dy:Dn ρ M vc y)(w:Ic P h t Z vc K=true):Wr P ρ M U H (.makeSlice t W Y) e K:=by
 unfold Ic at w
 split at w
 .rename_i el k1 n k2 m N
  split at w
  .rename_i i hi
   obtain⟨z,yz,hz,w,hq⟩:=mj (ρ:=ρ) (M:=M) w
   obtain⟨hb,w⟩:=fz w
   rw[ux] at w
   simp only[Bool.and_eq_true] at hb
   obtain⟨⟨⟨⟨⟨b1,b2⟩,b3⟩,b4⟩,O⟩,b6⟩:=hb
   have O:=Nat.le_of_ble_eq_true O
   have b6:=Nat.le_of_ble_eq_true b6
   obtain⟨q,hf,hk⟩:=lL w
   have hd:=nQ hz (oI b1)
   cases dx;cases dy
   refine .inl ?_
   simp only[kW,o1,hx,hy,N,hi]
   refine hq _ ?_
   rw[<-hd.1,b2,b3,b4]
   simp only[Bool.and_self,cond_true]
   refine⟨by simp,by simpa using O,by simp only[Int.ofNat_eq_natCast];rw[<-Int.natCast_mul];omega,?_⟩
   have I:=hd.BZ m
   refine⟨_,_,_,r.mV hf _,r.alloc hf 0 q (qT I _ (0,0) ?_ ?_ ?_ (.inl rfl)),?_,hk⟩
   .intro j u N;rw[show(Int.ofNat m).toNat=m by simp,sr];simpa using N
   .rw[show(Int.ofNat m).toNat=m by simp,sr];simp only[tm,cond_false,List.size_toArray];exact I.1.symm
   .simp[tm]
   .simpa using EJ (ρ:=ρ) (M:=M) (H:=H) (p:=h.nx) (kap:=0) (l:=n) (c:=m)
  .cases w
 .cases w
noncomputable def Lu(P:eQ)(h:Hp)(t:eK)(len:Nat)(w:List (Nat×V))(K:V->Hp->Bool):Bool:=
 match P.underlying t with
 |some (.slice u)=>(match P.info? u with
  |some i=>rI P u λz=>bif AJ z&&Nat.ble (len*i.size) 1024&&Nat.beq (pV z).length i.size then
   zN (pV z) len λcs=>Cr (λj=>some (j*i.size,i.size,iJ P u)) w cs λcs=>xg h (.cells cs u i.size false false) λb h=>K (.slice b 0 len len) h else false
  |none=>false)
 |_=>false
theorem Lt(r:R ρ M U h H){t:eK}{len:Nat}{parts:Array (Nat×gU)}{vs:List (Nat×V)}{O:List (Nat×dB)}(h0:parts.toList.map (λx=>(x.1,nN e x.2))=O.map (λx=>(x.1,some x.2)))
 (h1:O.map (·.1)=vs.map (·.1))(h2:jZ ρ M (vs.map (·.2)) (O.map (·.2)))(w:Lu P h t len vs K=true):Wr P ρ M U H (.buildSlice t len parts) e K:=by
 unfold Lu at w
 split at w
 .rename_i el W
  split at w
  .rename_i i hi
   obtain⟨z,yz,hz,w,hq⟩:=mj (ρ:=ρ) (M:=M) w
   obtain⟨Y,w⟩:=fz w
   rw[ux] at w
   simp only[Bool.and_eq_true] at Y
   obtain⟨⟨b1,b2⟩,b3⟩:=Y
   have Z:=nQ hz (oI b1)
   obtain⟨cs,us,w,I,hf⟩:=uP w h1 h2 (Z.BZ len)
   obtain⟨q,N,hk⟩:=lL w
   refine .inl ?_
   simp only[kW,W,hi]
   refine Dq h0 _ _ ?_
   refine hq _ ?_
   rw[<-Z.1,b2,b3]
   simp only[Bool.and_self,cond_true,List.nil_append]
   refine hf _ ⟨_,_,_,r.mV N _,r.alloc N 0 q (qT I _ (0,0) ?_ ?_ ?_ (.inl rfl)),EJ,hk⟩
   .intro j u W;simpa using W
   .simp[tm,I.1]
   .simp[tm]
  .cases w
 .cases w
noncomputable def strCells(n N:Nat)(k:List V->Bool):Bool:=
 Nat.rec (motive:=λ_=>Nat->(List V->Bool)->Bool) (λ_ k=>k []) (λ_ u N k=>fN (N%256) λb=>fN (N/256) λN=>u N λr=>k (.int .u8 (.ofNat b)::r)) n N k
theorem wN:∀{n N:Nat}{k:List V->Bool},strCells n N k=true->∃cs,k cs=true/\jZ ρ M cs (fV (strOf n N)):=by
 intro n
 induction n with
 |zero=>intro N k u;exact⟨[],u,.nil⟩
 |succ n I=>
  intro N k u
  replace u:(fN (N%256) λb=>fN (N/256) λN=>strCells n N λr=>k (.int .u8 (.ofNat b)::r))=true:=u
  rw[jm,jm] at u
  obtain⟨cs,O,w⟩:=I u
  refine⟨_,O,?_⟩
  unfold fV strOf at w⊢
  simp only[bl,List.map_cons]
  refine .cons ?_ w
  have:(UInt8.ofNat (N%256)).toNat=N%256:=by simp
  rw[this]
  exact .int _ _
noncomputable def CP(P:eQ)(h:Hp)(s d:eK)(v:V)(K:V->Hp->Bool):Bool:=
 match P.underlying s,P.underlying d,v with
 |some _,some (.slice b),.str n N=>(match P.underlying b with
  |some (.int .u8)=>strCells n N λcs=>xg h (.cells cs b 1 true false) λp h=>K (.jC p 1 n 0) h
  |_=>false)
 |_,_,_=>false
theorem Gq(r:R ρ M U h H){s d:eK}{o:gU}{v:V}{x:dB}(Z:nN e o=some x)(dx:Dn ρ M v x)(w:CP P h s d v K=true):Wr P ρ M U H (.convert s d o) e K:=by
 unfold CP at w
 split at w
 .rename_i b n N hs hd
  split at w
  .rename_i hb
   obtain⟨cs,w,O⟩:=wN (ρ:=ρ) (M:=M) w
   obtain⟨q,W,hk⟩:=lL w
   cases dx
   refine .inl ?_
   simp only[kW,o1,Z,hs,hd,hb,jx]
   intro cap af
   have I:(fV (strOf n N)).length=n:=by rw[show(fV (strOf n N)).length=(strOf n N).size by unfold fV;rw[List.length_map,Array.length_toList];rfl,jx]
   refine⟨_,_,_,r.mV W _,r.alloc W cap q (qT O _ (cap,cap+1) ?_ ?_ ?_ (.inr ?_)),?_,hk⟩
   .intro j u Y
    rw[Array.getElem?_append]
    have hj:j<n:=by rw[<-I];exact(List.getElem?_eq_some_iff.1 Y).1
    rw[if_pos (by simp[I,hj])]
    simpa using Y
   .simp only[tm,cond_true,Array.size_append,List.size_toArray,Array.size_replicate,I];omega
   .simp only[tm,cond_true];rw[O.1,I];omega
   .simp only[Array.size_append,List.size_toArray,Array.size_replicate,I];omega
   .have:=Dn.jC (M:=M) (es:=1) (l:=n) (d:=0) (lO ρ (.i h.nx) (H.size,0,cap)) (by omega)
    simpa using this
  .cases w
 .cases w
end Go.X
namespace Go.X
open Go.Ex
variable {P:eQ} {ρ:jF} {M:Nat} {U:Un} {h:Hp} {H:dw} {env:Tr V} {e:Env} {K:V->Hp->Bool}
noncomputable def R9(h:Hp)(u:Nat)(v:V)(k:Nat->List V->Bool):Bool:=
 match v with
 |.str m N=>bif Nat.beq u 1 then strCells m N λcs=>k m cs else false
 |.mH=>k 0 []
 |.slice b o l _=>sS h b o (l*u) λcs=>k l cs
 |.jC b es l d=>sS h b (d*es) (l*u) λcs=>k l cs
 |_=>false
theorem Mh(r:R ρ M U h H){O:Nat}{v:V}{y:dB}{k:Nat->List V->Bool}(Z:Dn ρ M v y)(w:R9 h O v k=true):
 ∃n cs new,k n cs=true/\jZ ρ M cs new/\oo H O y n new/\new.length=n*O:=by
 unfold R9 at w
 split at w
 .rename_i m N
  obtain⟨hs,w⟩:=fz w
  have hs:=Nat.eq_of_beq_eq_true hs
  obtain⟨cs,W,I⟩:=wN (ρ:=ρ) (M:=M) w
  cases Z
  refine⟨m,cs,_,W,I,⟨(jx _ _).symm,hs,rfl⟩,?_⟩
  rw[hs,Nat.mul_one,show(fV (strOf m N)).length=(strOf m N).size by unfold fV;rw[List.length_map,Array.length_toList];rfl,jx]
 .cases Z;exact⟨0,[],[],w,.nil,⟨rfl,rfl,rfl⟩,by simp⟩
 .rename_i b o l c
  cases Z with
  |slice hρ=>
  obtain⟨cs,us,W,Y,I,hc⟩:=qE r w hρ
  refine⟨l,cs,us,W,I,⟨rfl,by rw[<-I.1,Y],λj u hu=>?_⟩,by rw[<-I.1,Y]⟩
  rw[pS]
  exact hc j u hu
 .rename_i b es l d
  cases Z with
  |jC hρ _=>
  obtain⟨cs,us,W,Y,I,hc⟩:=qE r w hρ
  refine⟨l,cs,us,W,I,⟨rfl,by rw[<-I.1,Y],λj u hu=>?_⟩,by rw[<-I.1,Y]⟩
  rw[pS]
  exact hc j u hu
 .cases w
noncomputable def Cn(h:Hp)(I u bytes:Nat)(l n:Nat)(w new:List V)(K:V->Hp->Bool):Bool:=
 bif Nat.ble ((l+n)*bytes) 140737488355328&&!(Nat.beq bytes 0) then
  zb w new λcs=>xg h (.cells cs I u true false) λp h=>fN (l+n) λm=>K (.jC p u m 0) h else false
theorem yn(r:R ρ M U h H){el w bytes l n:Nat}{O new:List V}{z:dB}{Z ws:List dB}(hz:(gH z).length=w)(ho:jZ ρ M O Z)(hn:jZ ρ M new ws)(W:Z.length=l*w)(Y:ws.length=n*w)
 (I:Cn h el w bytes l n O new K=true):(l+n)*bytes<=140737488355328/\bytes≠0/\
  ∀cap,l+n<=cap->Af ρ M U K (.slice (some ⟨H.size,0,none⟩) (l+n) cap) (eP H (Z.toArray++ws.toArray++j5 z (cap-(l+n))) el):=by
 unfold Cn at I
 obtain⟨N,I⟩:=fz I
 rw[ns] at I
 simp only[Bool.and_eq_true,Bool.not_eq_true'] at N
 obtain⟨q,hf,hk⟩:=lL I
 rw[jm] at hk
 refine⟨Nat.le_of_ble_eq_true N.1,λe=>by rw[e] at N;exact absurd N.2 (by simp),λcap ak=>?_⟩
 have hd:=ho.append hn
 have ae:(j5 z (cap-(l+n))).size=(cap-(l+n))*w:=by
  rw[sr];simp[hz,Nat.mul_comm]
 have af:l*w+n*w+(cap-(l+n))*w=cap*w:=by
  rw[<-Nat.add_mul,<-Nat.add_mul];congr 1;omega
 refine⟨_,_,_,r.mV hf _,r.alloc hf cap q (qT hd _ (0,0) ?_ ?_ ?_ (.inl rfl)),?_,hk⟩
 .intro j u hu
  rw[Array.getElem?_append]
  have hj:=(List.getElem?_eq_some_iff.1 hu).1
  rw[if_pos (by simpa using hj)]
  simpa using hu
 .simp only[tm,cond_true,Array.size_append,List.size_toArray,W,Y,ae];exact af
 .simp only[tm,cond_true]
  rw[hd.1]
  simp only[List.length_append,W,Y]
  omega
 .have:=Dn.jC (M:=M) (es:=w) (l:=l+n) (d:=0) (lO ρ (.i h.nx) (H.size,0,cap)) (by omega)
  simpa using this
noncomputable def RY(P:eQ)(h:Hp)(t:eK)(O W:V)(K:V->Hp->Bool):Bool:=
 match P.underlying t with
 |some (.slice w)=>(match P.info? w with
  |some i=>rI P w λz=>bif AJ z&&Nat.beq (pV z).length i.size&&Nat.blt 0 i.size then R9 h i.size W λn u=>(match O with
   |.mH=>bif Nat.beq n 0 then K .mH h else Cn h w i.size i.bytes 0 n [] u K
   |.slice b o l c=>bif Nat.beq n 0&&Nat.ble l c then K (.slice b o l c) h else
    bif Nat.ble (l+n) c then(qJ b h.t λN=>(match N with
     |.cells cs Qj es op false=>bif sV u then nW cs (o+l*i.size) u λcs=>rq (.cells cs Qj es op false) b h.t λt=>fN (l+n) λm=>K (.slice b o m c) ⟨t,h.nx,h.lo,h.hi⟩ else false
     |_=>false))
    else sS h b o (l*i.size) λI=>Cn h w i.size i.bytes l n I u K
   |.jC b es l d=>bif Nat.beq n 0 then K (.jC b es l d) h else
    bif Nat.beq es i.size then(qJ b h.t λN=>(match N with
     |.cells cs Qj Ut true false=>bif sV u&&Nat.beq Qj w&&Nat.beq Ut es then tw cs λm=>
      bif Nat.ble ((d+l+n)*es) m then nW cs ((d+l)*es) u λcs=>rq (.cells cs Qj Ut true false) b h.t λt=>fN (l+n) λm=>K (.jC b es m d) ⟨t,h.nx,h.lo,h.hi⟩
      else Cv cs (d*es) λr=>B7 r (l*es) λI=>rq .dead b h.t λt=>Cn ⟨t,h.nx,h.lo,h.hi⟩ w i.size i.bytes l n I u K else false
     |_=>false)) else false
   |_=>false) else false
  |none=>false)
 |_=>false
theorem LQ(r:R ρ M U h H){t:eK}{vx vy:V}{x y:dB}(dx:Dn ρ M vx x)(dy:Dn ρ M vy y)(w:RY P h t vx vy K=true):N8 P t x y H (Af ρ M U K):=by
 unfold RY at w
 split at w
 .rename_i el hu
  split at w
  .rename_i i hi
   have aa:=mj (ρ:=ρ) (M:=M) w
   clear w
   obtain⟨z,yz,hz,aa,hq⟩:=aa
   obtain⟨hb,aa⟩:=fz aa
   simp only[Bool.and_eq_true] at hb
   obtain⟨⟨b1,b2⟩,b3⟩:=hb
   have aO:=nQ hz (oI b1)
   have an:(gH yz).length=i.size:=by rw[<-aO.1];exact Nat.eq_of_beq_eq_true b2
   have bf:0<i.size:=by rw[Nat.blt_eq] at b3;exact b3
   obtain⟨n,aP,new,w,N,ao,ab⟩:=Mh r dy aa
   clear aa
   unfold N8
   rw[hu]
   simp only[hi]
   split at w
   .cases dx
    simp only
    refine hq _ ⟨n,new,ao,?_⟩
    cases I:Nat.beq n 0 with
    |true=>
     rw[I] at w
     have I:=Nat.eq_of_beq_eq_true I
     exact .inl ⟨by omega,I,.mk r .mH w⟩
    |false=>
     rw[I] at w
     have I:n≠0:=λe=>by rw[e] at I;cases I
     obtain⟨c1,c2,c3⟩:=yn r an .nil N (by simp) ab w
     refine .inr ⟨by omega,c1,c2,[],by simp,rfl,λcap O=>?_⟩
     exact c3 cap O
   .rename_i b o l c
    cases dx with
    |slice hρ=>
    rename_i au W kap
    simp only
    refine hq _ ⟨n,new,ao,?_⟩
    cases I:(Nat.beq n 0&&Nat.ble l c) with
    |true=>
     rw[I] at w
     simp only[Bool.and_eq_true] at I
     have ag:=Nat.eq_of_beq_eq_true I.1
     have bq:=Nat.le_of_ble_eq_true I.2
     have eP:new=[]:=by cases new with|nil=>rfl|cons=>simp[ag] at ab
     subst eP
     subst ag
     exact .inl ⟨by omega,.mk r (.slice hρ) w⟩
    |false=>
     rw[I] at w
     simp only[cond_false] at w
     cases O:Nat.ble (l+n) c with
     |true=>
      rw[O] at w
      have O:=Nat.le_of_ble_eq_true O
      simp only[cond_true] at w
      obtain⟨ob,hb,w⟩:=jl w
      split at w
      .obtain⟨h1,w⟩:=fz w
       obtain⟨h2,w⟩:=tS w
       rw[lD,jm] at w
       refine .inl ⟨O,?_⟩
       simp only
       rw[uE]
       exact r.GD hb hρ N h1 h2 λH' _ r'=>.mk r' (.slice hρ) w
      .cases w
     |false=>
      rw[O] at w
      have O:¬l+n<=c:=λe=>by rw[Nat.ble_eq_true_of_le e] at O;cases O
      simp only[cond_false] at w
      obtain⟨br,us,w,ah,ac,aQ⟩:=qE r w hρ
      obtain⟨c1,c2,c3⟩:=yn r an ac N (by rw[<-ac.1,ah]) ab w
      refine .inr ⟨by omega,c1,c2,us,by rw[<-ac.1,ah],λj u hu=>?_,c3⟩
      rw[pS]
      exact aQ j u hu
   .rename_i b es l d
    cases dx with
    |jC hρ aG=>
    rename_i au W kap
    simp only
    refine hq _ ⟨n,new,ao,?_⟩
    cases I:Nat.beq n 0 with
    |true=>
     rw[I] at w
     have ag:=Nat.eq_of_beq_eq_true I
     have eP:new=[]:=by cases new with|nil=>rfl|cons=>simp[ag] at ab
     subst eP
     subst ag
     exact .inl ⟨by omega,.mk r (.jC hρ aG) w⟩
    |false=>
     rw[I] at w
     simp only[cond_false] at w
     have h2:=fz w
     clear w
     obtain⟨Y,w⟩:=h2
     have Y:=Nat.eq_of_beq_eq_true Y
     obtain⟨ob,hb,w⟩:=jl w
     split at w
     .rename_i cs aR bu
      have h2:=fz w
      clear w
      obtain⟨h1,w⟩:=h2
      simp only[Bool.and_eq_true] at h1
      obtain⟨⟨h1,av⟩,Z⟩:=h1
      have av:=Nat.eq_of_beq_eq_true av
      have Z:=Nat.eq_of_beq_eq_true Z
      rw[mY] at w
      obtain⟨bh,a8,bi,x2,q1,q2,qU,aA,aT,aU,q4,q5,q6,q7,q8⟩:=r.ob b _ hb trivial
      rw[hρ] at q1
      cases q1
      subst aU
      simp only[tm,cond_true] at q5 q6
      cases O:Nat.ble ((d+l+n)*es) cs.length with
      |true=>
       rw[O] at w
       have O:=Nat.le_of_ble_eq_true O
       simp only[cond_true] at w
       obtain⟨h2,w⟩:=tS w
       rw[lD,jm] at w
       have aw:d+l+n<=kap:=by
        have:(d+l+n)*es<=kap*es:=by rw[Z] at q5;omega
        exact Nat.le_of_mul_le_mul_right this (by omega)
       refine .inl ⟨by omega,?_⟩
       simp only
       rw[uE,show d*es+l*i.size=(d+l)*es by rw[Nat.add_mul,Y]]
       exact r.GD hb hρ N h1 h2 λH' _ r'=>.mk r' (.jC hρ (by omega)) w
      |false=>
       rw[O] at w
       simp only[cond_false] at w
       obtain⟨g1,w⟩:=qf w
       obtain⟨g2,w⟩:=p6 w
       rw[lD] at w
       have rk:=r.kill b
       obtain⟨us,aX,aY⟩:=r.reads hb hρ
       have ac:=(aX.drop (d*es)).take (l*es)
       have ah:((us.drop (d*es)).take (l*es)).length=l*i.size:=by rw[<-ac.1,List.length_take,<-Y];omega
       by_cases ax:l+n<=kap-d
       .refine .inl ⟨ax,?_⟩
        simp only
        rw[pS]
        unfold Cn at w
        obtain⟨_,w⟩:=fz w
        rw[ns] at w
        obtain⟨q,hf,hk⟩:=lL w
        rw[jm] at hk
        have e1:d*es+(kap-d)*es=kap*es:=by rw[<-Nat.add_mul];congr 1;omega
        have e2:(l+n)*es<=(kap-d)*es:=Nat.mul_le_mul_right _ ax
        rw[Nat.add_mul] at e2
        have ay:new.length=n*es:=by rw[ab,Y]
        have aw:W+d*es+l*es+0+new.length<=aA.size:=by rw[ay];rw[Z] at q6;omega
        rw[<-Y]
        refine EH q2 N h1 aw (q7 rfl) λH' hH bv hx=>?_
        have eP:=rk.new (H':=H') hf (o:=.cells ((cs.drop (d*es)).take (l*es)++aP) el i.size true false) au (W+d*es) (kap-d) (x:=.cells (ye aA.toList (W+d*es+l*es+0) new).toArray aR aT) qU q
         (λb' o' y a4 aB a5 e=>by
          have af:look b' (ins .dead b h.t)=some o':=a4
          rw[jG] at af
          split at af
          .cases af;exact aB
          .rename_i a6;exact a6 (r.inj b' b _ _ _ _ af hb aB trivial a5 hρ e))
         (λj hj _=>hH j hj) hx ?_
        .refine⟨_,_,_,rk.mV hf _,eP,?_,hk⟩
         have:=Dn.jC (M:=M) (es:=i.size) (l:=l+n) (d:=0) (lO ρ (.i h.nx) (au,W+d*es,kap-d)) (by omega)
         simpa using this
        .rw[<-av]
         refine⟨_,_,rfl,λj v hv=>?_,?_,?_,λbw=>by simpa[qt] using q7 rfl,λh=>by cases h⟩
         .simp only[List.getElem?_toArray]
          rw[wQ _ _ _ _ (by simpa using aw)]
          have a7:((cs.drop (d*es)).take (l*es)).length=l*es:=by rw[List.length_take];omega
          rw[List.getElem?_append] at hv
          by_cases hj:j<l*es
          .rw[if_pos (by omega)] at hv
           rw[if_neg (by omega)]
           rw[List.getElem?_take,if_pos hj,List.getElem?_drop] at hv
           obtain⟨y2,ak,az⟩:=q4 _ v hv
           exact⟨y2,by rw[Array.getElem?_toList,Nat.add_assoc];exact ak,az⟩
          .rw[if_neg (by omega),a7] at hv
           obtain⟨y2,ak,az⟩:=N.get hv
           have bx:=(List.getElem?_eq_some_iff.1 ak).1
           rw[if_pos (by omega)]
           exact⟨y2,by rw[show W+d*es+j-(W+d*es+l*es+0)=j-l*es by omega];exact ak,az⟩
         .simp only[tm,cond_true,List.length_append,List.length_take,List.length_drop]
          rw[N.1,ay,<-Y]
          omega
         .simp only[tm,cond_true,List.size_toArray,qt,Array.length_toList]
          rw[<-Y]
          rw[Z] at q6
          omega
       .obtain⟨c1,c2,c3⟩:=yn rk an ac N ah ab w
        refine .inr ⟨by omega,c1,c2,_,ah,λj u hu=>?_,c3⟩
        rw[pS]
        rw[List.getElem?_take] at hu
        split at hu
        .rw[List.getElem?_drop] at hu
         rw[Nat.add_assoc]
         exact aY _ _ hu
        .cases hu
     .cases w
   .cases w
  .cases w
 .cases w
end Go.X
namespace Go.X
open Go.Ex
variable {P:eQ} {ρ:jF} {M:Nat} {U:Un} {h:Hp} {H:dw} {env:Tr V} {e:Env} {K:V->Hp->Bool}
theorem qj{u:Op}{N:dB->dw->Prop}{s:Oper->Sem dB}(O:∀(o:Oper)(w:fe),w.heap=H->∃v w',(s o).run P w=.ok v w'/\ik w w'/\N v w'.heap)
 (W:∀o:Oper,o.op=u->∀τ,iP e τ u.operands.toList->execOp τ o=do pure (.value (<-s o))):og P u e H N:=.inr λo a w next Q Y Z hw hn=>by
 obtain⟨v,w',hr,I,hk⟩:=O o w hw
 unfold Oper.wp
 rw[W o Y a.eval Z,Sem.run_bind,hr]
 exact hn v w' I hk
theorem wy{u:Op}{N:dB->dw->Prop}{s:Sem Unit}(O:∀w:fe,w.heap=H->∃w',s.run P w=.ok () w'/\ik w w'/\N undef w'.heap)
 (W:∀o:Oper,o.op=u->∀τ,iP e τ u.operands.toList->execOp τ o=do s;pure .skip):og P u e H N:=.inr λo a w next Q Y Z hw hn=>by
 obtain⟨w',hr,I,hk⟩:=O w hw
 unfold Oper.wp
 rw[W o Y a.eval Z,Sem.run_bind,hr]
 exact hn undef w' I hk
noncomputable def RV(h:Hp)(K:V->Hp->Bool):Bool:=xg h (.map []) λb h=>K (.map b) h
theorem LF(r:R ρ M U h H){t:eK}(O:RV h K=true):Wr P ρ M U H (.makeMap t none) e K:=by
 obtain⟨q,u,W⟩:=lL O
 refine qj (s:=λ_=>Instr.makeMap t none) (λ_ w Y=>⟨.map (some w.heap.size),w.alloc (.map #[] 0),rfl,ik.alloc _ _,?_⟩) λo I τ ha=>?_
 .rw[heap_alloc,Y]
  exact⟨_,_,_,r.mV u _,r.alloc (o:=.map []) u 0 q ⟨#[],0,rfl,rfl,λ_ _ _ h=>by simp at h⟩,.map (lO ρ (.i h.nx) (H.size,0,0)),W⟩
 .obtain⟨aa,ab,Z,ac,N,guard⟩:=o
  simp only at I
  subst I
  rfl
noncomputable def Gh(P:eQ)(h:Hp)(mt:eK)(m:Ps)(k v:V)(K:V->Hp->Bool):Bool:=
 match P.underlying mt with
 |some (.map kt _)=>bif rT P kt k then qJ m h.t λu=>(match u with
  |.map l=>bif l.all (λp=>rT P kt p.1) then RF P kt k l (λ_ _=>false) (zb l [(k,v)] λl=>rq (.map l) m h.t λt=>K .any ⟨t,h.nx,h.lo,h.hi⟩) else false
  |_=>false) else false
 |_=>false
theorem Lz(r:R ρ M U h H){mt:eK}{m:Ps}{k v:V}{x y z:dB}(dx:Dn ρ M (.map m) x)(Y:Dn ρ M k y)(dz:Dn ρ M v z)(I:Gh P h mt m k v K=true):
 ∀w:fe,w.heap=H->∃w',(Instr.mapUpdate mt x y z).run P w=.ok () w'/\ik w w'/\Af ρ M U K undef w'.heap:=by
 intro w hw
 unfold Gh at I
 split at I
 .rename_i kt et hu
  obtain⟨ab,I⟩:=fz I
  obtain⟨ob,hb,I⟩:=jl I
  split at I
  .rename_i l
   obtain⟨ae,I⟩:=fz I
   have Z:∀p∈l,rT P kt p.1=true:=by simpa using ae
   cases dx with
   |map hρ=>
   rename_i ac av kap
   obtain⟨aw,ao,ax,x2,q1,q2,_,es,clock,aj,q4,q5⟩:=r.ob m _ hb trivial
   rw[hρ] at q1
   cases q1
   subst aj
   have hm:Bt ρ M l es.toList:=⟨q4,q5⟩
   have aa:=ug ab Y hm Z (P:=P) w
   have W:w.heap[ac]?=some (.map es clock):=by rw[hw];exact q2
   rcases yp (P:=P) (hit:=λ_ _=>false) (miss:=zb l [(k,v)] λl=>rq (Ob.map l) m h.t λt=>K .any ⟨t,h.nx,h.lo,h.hi⟩) Y l es.toList 0 hm I with⟨hz,hn⟩|⟨j,u,yu,hk,_⟩
   .rw[ns,lD] at hz
    have gO:=Go.MapKept.heap_set (o':=.map (es.push {key:=y,val:=z,born:=clock}) (clock+1)) W
    refine⟨{w with heap:=w.heap.setIfInBounds ac (.map (es.push {key:=y,val:=z,born:=clock}) (clock+1))},?_,⟨rfl,rfl,rfl⟩,?_⟩
    .unfold Instr.mapUpdate
     rw[Sem.run_bind,fJ hu]
     simp only[Result.andThen]
     rw[Sem.run_bind,Go.MapKept.run_getObj_map W]
     simp only[Result.andThen]
     rw[Sem.run_bind,ym ab Y]
     simp only[Result.andThen]
     rw[Sem.run_bind,aa,hn w]
     simp only[Result.andThen]
     exact Go.MapKept.run_setObj_map _ W
    .refine .mk (r.oC (o':=.map (l++[(k,v)])) hb trivial hρ (λi hi=>by rw[gO.2 i hi,hw]) gO.1 ⟨_,_,rfl,?_,λi p en N O=>?_⟩) (.any _) hz
     .simp[q4]
     .rw[List.getElem?_append] at N
      rw[Array.toList_push,List.getElem?_append] at O
      by_cases hi:i<l.length
      .rw[if_pos hi] at N
       rw[if_pos (by omega)] at O
       exact q5 i p en N O
      .rw[if_neg hi] at N
       rw[if_neg (by omega)] at O
       have ad:i-l.length=0:=by
        have:=(List.getElem?_eq_some_iff.1 N).1
        simp at this
        omega
       rw[ad] at N
       rw[<-q4,ad] at O
       simp at N O
       subst N O
       exact⟨Y,dz⟩
   .cases hk
  .cases I
 .cases I
theorem El(r:R ρ M U h H){mt:eK}{w ok I:gU}{m:Ps}{k v:V}{x y z:dB}(Y:nN e w=some x)(Z:nN e ok=some y)(hz:nN e I=some z)(dx:Dn ρ M (.map m) x)(dy:Dn ρ M k y)(dz:Dn ρ M v z)
 (hh:Gh P h mt m k v K=true):Wr P ρ M U H (.mapUpdate mt w ok I) e K/\Wr P ρ M U H (.insert mt w ok I) e K:=by
 have hr:=Lz r dx dy dz hh
 constructor
 .refine wy hr λo N τ u=>?_
  obtain⟨ac,ad,W,ae,O,guard⟩:=o
  simp only at N
  subst N
  simp only[execOp,u w (by simp[Op.operands]) _ Y,u ok (by simp[Op.operands]) _ Z,u I (by simp[Op.operands]) _ hz]
 .refine wy hr λo N τ u=>?_
  obtain⟨ac,ad,W,ae,O,guard⟩:=o
  simp only at N
  subst N
  simp only[execOp,u w (by simp[Op.operands]) _ Y,u ok (by simp[Op.operands]) _ Z,u I (by simp[Op.operands]) _ hz]
def UN(P:eQ)(t:eK):Bool:=match P.underlying t with|some .string=>true|_=>false
noncomputable def CM(P:eQ)(h:Hp)(t:eK)(v:V)(K:V->Hp->Bool):Bool:=
 match v with
 |.str n N=>bif UN P t then xg h (.iter n N 0) λb h=>K (.ptr b 0) h else false
 |_=>false
theorem Gg(r:R ρ M U h H){t:eK}{o:gU}{v:V}{x:dB}(Z:nN e o=some x)(dv:Dn ρ M v x)(u:CM P h t v K=true):Wr P ρ M U H (.range t o) e K:=by
 unfold CM at u
 split at u
 .rename_i n N
  obtain⟨I,u⟩:=fz u
  obtain⟨q,O,hk⟩:=lL u
  cases dv
  unfold UN at I
  split at I
  .rename_i hu
   refine qj (s:=λ_=>Instr.range t (.string (strOf n N))) (λ_ w hw=>⟨.pointer (some ⟨w.heap.size,0,none⟩),w.alloc (.stringIter (strOf n N) 0),?_,ik.alloc _ _,?_⟩) λo' W τ ha=>?_
   .unfold Instr.range
    rw[Sem.run_bind,fJ hu]
    rfl
   .rw[heap_alloc,hw]
    exact⟨_,_,_,r.mV O _,r.alloc (o:=.iter n N 0) O 0 q ⟨rfl,rfl⟩,xh,hk⟩
   .obtain⟨ag,ah,af,ai,Y,guard⟩:=o'
    simp only at W
    subst W
    simp only[execOp,ha o (by simp[Op.operands]) _ Z]
  .cases I
 .cases u
noncomputable def Ib(h:Hp)(b:Ps)(o:Nat)(w:Bool)(K:V->Hp->Bool):Bool:=
 bif w&&Nat.beq o 0 then qJ b h.t λI=>(match I with
  |.iter n N u=>bif Nat.blt u n then fN ((N/256^u)%256) λc=>bif Nat.blt c 128 then fN (u+1) λp=>rq (.iter n N p) b h.t λt=>K (.pZ [.bool true,.int .i64 (.ofNat u),.int .i32 (.ofNat c)]) ⟨t,h.nx,h.lo,h.hi⟩ else
   (match Utf8.decode (strOf n N) u with|(c,d)=>fN c λc=>fN (u+d) λp=>rq (.iter n N p) b h.t λt=>K (.pZ [.bool true,.int .i64 (.ofNat u),.int .i32 (.ofNat c)]) ⟨t,h.nx,h.lo,h.hi⟩)
   else K (.pZ [.bool false]) h
  |_=>false) else false
theorem decode_ascii{n N u:Nat}(w:u<n)(I:(N/256^u)%256<128):Utf8.decode (strOf n N) u=((N/256^u)%256,1):=by
 have O:((strOf n N).get! (u+0)).toNat=(N/256^u)%256:=by
  have W:=Hz n N u w
  have Y:(strOf n N).data.toList=bl n N:=by simp[strOf]
  have Z:(strOf n N).data[u]?=some (UInt8.ofNat ((N/256^u)%256)):=by rw[<-Array.getElem?_toList,Y];exact W
  have h4:(strOf n N).get! (u+0)=UInt8.ofNat ((N/256^u)%256):=by
   show(strOf n N).data[u]! =_
   rw[getElem!_def,Z]
  rw[h4]
  simp
 unfold Utf8.decode
 simp only[O]
 rw[if_pos I]
theorem JJ(r:R ρ M U h H){oi:gU}{b:Ps}{o:Nat}{x:dB}{W:Bool}(hx:nN e oi=some x)(dx:Dn ρ M (.ptr b o) x)(I:Ib h b o W K=true):Wr P ρ M U H (.next oi W) e K:=by
 unfold Ib at I
 have h2:=fz I
 clear I
 obtain⟨h0,I⟩:=h2
 simp only[Bool.and_eq_true] at h0
 have ho:=Nat.eq_of_beq_eq_true h0.2
 obtain⟨ob,hb,I⟩:=jl I
 split at I
 .rename_i n N u
  cases dx with
  |ptr hρ=>
  rename_i O ax kap
  obtain⟨ay,ap,az,x2,q1,q2,_,am,ac⟩:=r.ob b _ hb trivial
  rw[hρ] at q1
  cases q1
  subst am ac
  subst ho
  have go:(∀(o':Oper)(w:fe),w.heap=H->∃v w',(Instr.next (.pointer (some ⟨O,0,none⟩)) true o'.type).run P w=.ok v w'/\ik w w'/\Af ρ M U K v w'.heap)->Wr P ρ M U H (.next oi W) e K:=λhr=>
   qj (s:=λo'=>Instr.next (.pointer (some ⟨O,0,none⟩)) W o'.type) (by rw[h0.1];exact hr) λo' ae τ ha=>by
    obtain⟨aH,aI,aE,aF,aq,guard⟩:=o'
    simp only at ae
    subst ae
    simp only[execOp,ha oi (by simp[Op.operands]) _ hx]
  refine go λo' w hw=>?_
  have Z:w.heap[O]?=some (.stringIter (strOf n N) u):=by rw[hw];exact q2
  have aa:(getObj O).run P w=.ok (.stringIter (strOf n N) u) w:=by simp[getObj,Sem.run,Z]
  cases Y:Nat.blt u n with
  |true=>
   rw[Y] at I
   rw[Nat.blt_eq] at Y
   simp only[cond_true,jm] at I
   have af:∀c d,Utf8.decode (strOf n N) u=(c,d)->K (.pZ [.bool true,.int .i64 (.ofNat u),.int .i32 (.ofNat c)]) ⟨ins (.iter n N (u+d)) b h.t,h.nx,h.lo,h.hi⟩=true->∃v w',(Instr.next (.pointer (some ⟨O,0,none⟩)) true o'.type).run P w=.ok v w'/\ik w w'/\Af ρ M U K v w'.heap:=by
    intro c d ai hk
    have gO:=Go.MapKept.heap_set (o':=.stringIter (strOf n N) (u+d)) Z
    have an:(setObj O (.stringIter (strOf n N) (u+d))).run P w=.ok () {w with heap:=w.heap.setIfInBounds O (.stringIter (strOf n N) (u+d))}:=by simp[setObj,Sem.run,Z]
    refine⟨.tuple #[.bool true,.int .i64 (.ofNat u),.int .i32 (.ofNat c)],{w with heap:=w.heap.setIfInBounds O (.stringIter (strOf n N) (u+d))},?_,⟨rfl,rfl,rfl⟩,?_⟩
    .unfold Instr.next
     simp only
     rw[Sem.run_bind,aa]
     simp only[Result.andThen,jx,if_pos Y,ai]
     rw[Sem.run_bind,an]
     rfl
    .refine .mk (r.oC (o':=.iter n N (u+d)) hb trivial hρ (λi hi=>by rw[gO.2 i hi,hw]) gO.1 ⟨rfl,rfl⟩) ?_ hk
     exact(jZ.cons (.bool true) (.cons (.int _ _) (.cons (.int _ _) .nil))).pZ
   cases hc:Nat.blt ((N/256^u)%256) 128 with
   |true=>
    rw[hc] at I
    rw[Nat.blt_eq] at hc
    simp only[cond_true] at I
    rw[lD] at I
    exact af _ _ (decode_ascii Y hc) I
   |false=>
    rw[hc] at I
    simp only[cond_false] at I
    cases hd:Utf8.decode (strOf n N) u with
    |mk c d=>
    rw[hd] at I
    simp only[lD] at I
    exact af c d hd I
  |false=>
   rw[Y] at I
   have Y:¬u<n:=λe=>by rw[<-Nat.blt_eq,Y] at e;cases e
   simp only[cond_false] at I
   refine⟨.tuple #[.bool false],w,?_,ik.refl w,?_⟩
   .unfold Instr.next
    simp only
    rw[Sem.run_bind,aa]
    simp only[Result.andThen,jx,if_neg Y]
    rfl
   .rw[hw]
    exact .mk r (jZ.cons (.bool false) .nil).pZ I
 .cases I
end Go.X
