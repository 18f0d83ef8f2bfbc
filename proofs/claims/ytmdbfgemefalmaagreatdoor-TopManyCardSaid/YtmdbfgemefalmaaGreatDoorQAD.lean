/- Part AD of the proof that the law TopMany answers true at every input, under no condition. -/
import Derived.Test.YtmdbfgemefalmaaGreatDoorQAC
import Derived.DeepKeys3
import Derived.MapKept
set_option linter.unusedVariables false
set_option maxHeartbeats 2000000
set_option maxRecDepth 100000
namespace Go.X
open Go.Ex
variable {P:Program} {ρ:ig} {M lo hi:Nat} {env:Tr V} {e:Env} {K:KP}
def NZ(P:Program)(t:TypeId):Bool:=match P.underlying t with|some (.interface _)|none=>false|some _=>true
noncomputable def aem(v:V)(K:V->Bool):Bool:=
 match v with
 |.lJ=>K .sA
 |.slice b o _ c=>bif Nat.beq c 0 then false else K (.ptr b o)
 |.gE b es l d=>bif Nat.beq l 0 then false else fN (d*es) λo=>K (.ptr b o)
 |_=>false
noncomputable def yf(P:Program)(b:Builtin)(ts:List TypeId)(vs:List V)(K:V->Bool):Bool:=
 match b with
 |.len=>(match vs,ts with|[v],[t]=>afM P t v K|_,_=>false)
 |.cap=>(match vs,ts with|[v],[t]=>afN P t v K|_,_=>false)
 |.max=>(match vs with|v::r=>afK r v K|[]=>false)
 |.min=>(match vs with|v::r=>afJ r v K|[]=>false)
 |.unsafeSliceData=>(match vs with|[v]=>aem v K|_=>false)
 |_=>false
noncomputable def UG(P:Program)(lo hi:Nat)(op:Op)(env:Tr V)(K:KP):Bool:=
 match op with
 |.move x=>xo env x λv=>K v lo hi
 |.assign x=>xo env x λv=>K v lo hi
 |.pick c a b=>xo env c λv=>(match v with|.bool t=>(match t with|true=>xo env a λv=>K v lo hi|false=>xo env b λv=>K v lo hi)|_=>false)
 |.nilCheck x=>xo env x λv=>(match v with|.ptr b o=>K (.ptr b o) lo hi|_=>false)
 |.binOp op t x y _=>xo env x λvx=>xo env y λvy=>aak P op t y vx vy lo hi K
 |.unOp op _ x=>xo env x λv=>Ij op v λv=>K v lo hi
 |.convert s d x=>xo env x λv=>Po P s d v λv=>K v lo hi
 |.makeInterface t x=>xo env x λv=>bif NZ P t then K (.iface t v) lo hi else false
 |.makeFunc (.func f) first cap=>xL env first.toList λl1=>xL env cap.toList λl2=>K (.fn f l1 l2) lo hi
 |.slice t x l h m=>xo env x λv=>Ag env l λvl=>Ag env h λvh=>(match m with
  |none=>(match v with
   |.ptr b o=>(match l,h with|none,none=>CB P t (.ptr b o) λv=>K v lo hi|_,_=>false)
   |v=>HM P t v vl vh λv=>K v lo hi)
  |some m=>xo env m λvm=>CC P t v vl vh (some vm) λv=>K v lo hi)
 |.fieldAddr t x f=>xo env x λv=>CF P t v f λv=>K v lo hi
 |.field t x f=>xo env x λv=>HQ P t v f λv=>K v lo hi
 |.indexAddr t x ix=>xo env x λv=>xo env ix λi=>CE P t v i λv=>K v lo hi
 |.index t x ix=>xo env x λv=>xo env ix λi=>HP P t v i λv=>K v lo hi
 |.typeAssert x _ T ok=>xo env x λv=>CG P v T ok λv=>K v lo hi
 |.extract x i=>xo env x λv=>(match v with|.ru vs=>IV vs i λv=>K v lo hi|_=>false)
 |.build t parts=>Rw env parts.toList λps=>HT P t ps λv=>K v lo hi
 |.call ⟨.builtin b,args,ts⟩=>xL env args.toList λvs=>yf P b ts.toList vs λv=>K v lo hi
 |_=>false
inductive BP where
 |mk (f:Nat->Nat->Tr V->KP->Bool)
noncomputable def aiE(P:Program)(op:Op):BP:=
 match op with
 |.move x=>.mk λlo hi env K=>xo env x λv=>K v lo hi
 |.assign x=>.mk λlo hi env K=>xo env x λv=>K v lo hi
 |.pick c a b=>.mk λlo hi env K=>xo env c λv=>(match v with|.bool t=>(match t with|true=>xo env a λv=>K v lo hi|false=>xo env b λv=>K v lo hi)|_=>false)
 |.nilCheck x=>.mk λlo hi env K=>xo env x λv=>(match v with|.ptr b o=>K (.ptr b o) lo hi|_=>false)
 |.binOp op t x y _=>.mk λlo hi env K=>xo env x λvx=>xo env y λvy=>aak P op t y vx vy lo hi K
 |.unOp op _ x=>.mk λlo hi env K=>xo env x λv=>Ij op v λv=>K v lo hi
 |.convert s d x=>.mk λlo hi env K=>xo env x λv=>Po P s d v λv=>K v lo hi
 |.makeInterface t x=>.mk λlo hi env K=>xo env x λv=>bif NZ P t then K (.iface t v) lo hi else false
 |.makeFunc (.func f) first cap=>.mk λlo hi env K=>xL env first.toList λl1=>xL env cap.toList λl2=>K (.fn f l1 l2) lo hi
 |.slice t x l h m=>.mk λlo hi env K=>xo env x λv=>Ag env l λvl=>Ag env h λvh=>(match m with
  |none=>(match v with
   |.ptr b o=>(match l,h with|none,none=>CB P t (.ptr b o) λv=>K v lo hi|_,_=>false)
   |v=>HM P t v vl vh λv=>K v lo hi)
  |some m=>xo env m λvm=>CC P t v vl vh (some vm) λv=>K v lo hi)
 |.fieldAddr t x f=>.mk λlo hi env K=>xo env x λv=>CF P t v f λv=>K v lo hi
 |.field t x f=>.mk λlo hi env K=>xo env x λv=>HQ P t v f λv=>K v lo hi
 |.indexAddr t x ix=>.mk λlo hi env K=>xo env x λv=>xo env ix λi=>CE P t v i λv=>K v lo hi
 |.index t x ix=>.mk λlo hi env K=>xo env x λv=>xo env ix λi=>HP P t v i λv=>K v lo hi
 |.typeAssert x _ T ok=>.mk λlo hi env K=>xo env x λv=>CG P v T ok λv=>K v lo hi
 |.extract x i=>.mk λlo hi env K=>xo env x λv=>(match v with|.ru vs=>IV vs i λv=>K v lo hi|_=>false)
 |.build t parts=>.mk λlo hi env K=>Rw env parts.toList λps=>HT P t ps λv=>K v lo hi
 |.call ⟨.builtin b,args,ts⟩=>.mk λlo hi env K=>xL env args.toList λvs=>yf P b ts.toList vs λv=>K v lo hi
 |_=>.mk λ_ _ _ _=>false
noncomputable def yd(P:Program)(lo hi:Nat)(op:Op)(env:Tr V)(K:KP):Bool:=BP.rec (motive:=λ_=>Bool) (λf=>f lo hi env K) (aiE P op)
theorem Ru(P:Program)(lo hi:Nat)(op:Op)(env:Tr V)(K:KP):yd P lo hi op env K=UG P lo hi op env K:=by
 cases op with
 |call c=>obtain⟨c,a,t⟩:=c;cases c<;>rfl
 |makeFunc f a c=>cases f<;>rfl
 |_=>rfl
theorem Xc{l:List Operand}{xs:List Value}(h:l.map (mo e)=xs.map some):∀(acc:List Value)(Q:List Value->Prop),Q (acc++xs)->oL e l acc Q:=by
 induction l generalizing xs with
 |nil=>intro acc Q q;cases xs with
  |nil=>simpa[oL] using q
  |cons=>simp at h
 |cons o l ih=>
  intro acc Q q
  cases xs with
  |nil=>simp at h
  |cons x xs=>
   simp only[List.map_cons,List.cons.injEq] at h
   unfold oL
   simp only[o1,h.1]
   exact ih h.2 _ _ (by simpa using q)
theorem HS{b:Builtin}{args:Array Operand}{ts:Array TypeId}{vs:List V}{xs:List Value}{K:V->Bool}(hl:args.toList.map (mo e)=xs.map some)(hd:iz ρ M vs xs)
 (h:yf P b ts.toList vs K=true):P1 P ρ M (.call ⟨.builtin b,args,ts⟩) e K:=by
 unfold yf at h
 have one:∀{v:V},vs=[v]->∃o x,args.toList=[o]/\mo e o=some x/\Dn ρ M v x:=by
  rintro v rfl
  obtain⟨x,a',rfl,h1,h2⟩:=hd.eh
  obtain rfl:=h2.kI
  rcases ha:args.toList with _|⟨o,_|⟨o2,r⟩⟩<;>rw[ha] at hl<;>simp at hl
  exact⟨o,x,rfl,hl,h1⟩
 split at h
 ·split at h
  ·rename_i v t ht
   obtain⟨o,x,ha,ho,hv⟩:=one rfl
   obtain⟨v,x',h1,h2,h3⟩:=UL hv h
   exact⟨v,x',h1,h2,.inl (by simp only[dF,ha,ht,o1,ho];exact h3)⟩
  ·cases h
 ·split at h
  ·rename_i v t ht
   obtain⟨o,x,ha,ho,hv⟩:=one rfl
   obtain⟨v,x',h1,h2,h3⟩:=UP hv h
   exact⟨v,x',h1,h2,.inl (by simp only[dF,ha,ht,o1,ho];exact h3)⟩
  ·cases h
 ·split at h
  ·obtain⟨x,a',rfl,h1,h2⟩:=hd.eh
   obtain⟨v,x',h3,h4,h5⟩:=UJ h h1 h2
   exact⟨v,x',h3,h4,.inl (by simp only[dF];exact Xc hl _ _ h5)⟩
  ·cases h
 ·split at h
  ·obtain⟨x,a',rfl,h1,h2⟩:=hd.eh
   obtain⟨v,x',h3,h4,h5⟩:=UI h h1 h2
   exact⟨v,x',h3,h4,.inl (by simp only[dF];exact Xc hl _ _ h5)⟩
  ·cases h
 ·split at h
  ·rename_i v
   obtain⟨o,x,ha,ho,hv⟩:=one rfl
   have go:∀{r:Value},(∀T,Ex.Yields P (Builtin.unsafeSliceData_ ts T #[x]) r)->jn P (.call ⟨.builtin .unsafeSliceData,args,ts⟩) e (·=r):=λ{r} hy=>
    .inr λnS Bd=>⟨r,rfl,λτ tD w=>by
     obtain⟨dst,nS,type,pos,after,guard⟩:=nS
     simp only at Bd
     subst Bd
     have ea:args=#[o]:=by cases args;simpa using ha
     subst ea
     have:=tD o (by simp[Op.operands,Call.operands]) _ ho
     simp only[execOp,resolve,List.map_toArray,List.map_cons,List.map_nil,this,pure_bind,invoke,builtin]
     rw[Sem.run_bind,hy type w]
     rfl⟩
   unfold aem at h
   split at h
   ·cases hv
    exact⟨_,_,.sA,h,go λT w=>rfl⟩
   ·obtain⟨hc,h⟩:=wO h
    cases hv with
    |slice hρ=>
    refine⟨_,_,.ptr hρ,h,go λT w=>?_⟩
    rw[iL,decide_eq_false_iff_not] at hc
    change Sem.run P (if _≠0 then _ else _) w=_
    rw[if_pos hc]
    rfl
   ·rename_i b es l d
    have h2:=wO h
    clear h
    obtain⟨hc,h⟩:=h2
    rw[fW] at h
    cases hv with
    |gE hρ hk=>
    rename_i fv base kap
    refine⟨_,_,.ptr hρ,h,go λT w=>?_⟩
    rw[iL,decide_eq_false_iff_not] at hc
    have:kap-d≠0:=by omega
    change Sem.run P (if _≠0 then _ else _) w=_
    rw[if_pos this]
    rfl
   ·cases h
  ·cases h
 ·cases h
theorem sf(he:E ρ M env e)(hg:Gl ρ)(mc:lo<=M)(lx:M<=hi){op:Op}(h:yd P lo hi op env K=true):Pu P ρ M op e K:=by
 rw[Ru] at h
 unfold UG at h
 split at h
 ·rename_i x
  obtain⟨v,y,hx,hd,hk⟩:=oF he hg h
  exact .mk mc lx hd hk (.inl (by simp only[dF,o1,hx]))
 ·rename_i x
  obtain⟨v,y,hx,hd,hk⟩:=oF he hg h
  exact .mk mc lx hd hk (.inl (by simp only[dF,o1,hx]))
 ·obtain⟨v,y,hx,hd,h⟩:=oF he hg h
  split at h
  ·cases hd
   split at h
   ·obtain⟨v,y,xt,hd,hk⟩:=oF he hg h
    exact .mk mc lx hd hk (.inl (by simp only[dF,o1,hx,gn,xt]))
   ·obtain⟨v,y,xt,hd,hk⟩:=oF he hg h
    exact .mk mc lx hd hk (.inl (by simp only[dF,o1,hx,gn,xt]))
  ·cases h
 ·obtain⟨v,y,hx,hd,h⟩:=oF he hg h
  split at h
  ·cases hd with
   |ptr hρ=>exact .mk mc lx (.ptr hρ) h (.inl (by simp only[dF,o1,hx,vN];exact⟨_,rfl,rfl⟩))
  ·cases h
 ·obtain⟨v,y,hx,hd,h⟩:=oF he hg h
  obtain⟨v2,y2,xt,Db,h⟩:=oF he hg h
  exact US hx xt hd Db mc lx h
 ·obtain⟨v,y,hx,hd,h⟩:=oF he hg h
  exact(Z9 hx hd h).pu mc lx
 ·obtain⟨v,y,hx,hd,h⟩:=oF he hg h
  exact(RE hx hd h).pu mc lx
 ·obtain⟨v,y,hx,hd,h⟩:=oF he hg h
  obtain⟨ht,h⟩:=jc h
  refine .mk mc lx (.iface hd) h (.inl ?_)
  simp only[dF,o1,hx,Jc]
  unfold NZ at ht
  split at ht
  ·cases ht
  ·cases ht
  ·rename_i d hn hu
   rw[hu]
   cases d<;>first|exact absurd rfl (hn _)|trivial
 ·rename_i f first cap
  obtain⟨l1,a1,h1,d1,h⟩:=uB he hg h
  obtain⟨l2,a2,h2,d2,h⟩:=uB he hg h
  refine .mk mc lx (.fn d1.1 d2.1 d1.2 d2.2) h (oY (s:=Instr.makeFunc (.func f) a1.toArray a2.toArray) (λw=>rfl) λo ho τ ha=>?_)
  obtain⟨dst,nS,type,pos,after,guard⟩:=o
  simp only at ho
  subst ho
  have e1:=iv h1 (τ:=τ) (λy hy=>ha y (by simp[Op.operands];exact .inl (by simpa using hy)))
  have e2:=iv h2 (τ:=τ) (λy hy=>ha y (by simp[Op.operands];exact .inr (by simpa using hy)))
  simp only[execOp]
  rw[show first.map τ=a1.toArray by rw[<-e1];cases first;simp,show cap.map τ=a2.toArray by rw[<-e2];cases cap;simp]
 ·rename_i t x l h' m
  obtain⟨v,y,hx,hd,h⟩:=oF he hg h
  obtain⟨vl,ul,q1,h,d1,n1⟩:=Ph he hg h
  obtain⟨vh,uh,q2,h,d2,n2⟩:=Ph he hg h
  cases m with
  |none=>
   simp only at h
   split at h
   ·split at h
    ·exact(Ke hx hd h).pu mc lx
    ·cases h
   ·exact(M5 hx hd q1 q2 d1 d2 n1 n2 h).pu mc lx
  |some m=>
   obtain⟨vm,um,hm,dm,h⟩:=oF he hg h
   refine(Kf (um:=some um) hx hd (λτ ha=>?_) d2 (λw hw=>by cases hw;exact⟨_,rfl,dm⟩) n1 h).pu mc lx
   have agree:∀{o:Option Operand}{u:Option Value},(∀Q:Option Value->Prop,Q u->oO e o Q)->(∀y,o=some y->y∈(Op.slice t x l h' (some m)).operands.toList)->o.map τ=u:=by
    intro o u hq qI
    have:=hq (·=u) rfl
    cases o with
    |none=>simpa[oO] using this
    |some y=>
     simp only[oO,o1] at this
     split at this
     ·rename_i z hz;rw[<-this];simp[ha y (qI y rfl) _ hz]
     ·exact this.elim
   refine⟨agree q1 (λy hy=>by simp[Op.operands,hy]),agree q2 (λy hy=>by simp[Op.operands,hy]),?_⟩
   simp[ha m (by simp[Op.operands]) _ hm]
 ·obtain⟨v,y,hx,hd,h⟩:=oF he hg h
  exact(Km hx hd h).pu mc lx
 ·obtain⟨v,y,hx,hd,h⟩:=oF he hg h
  exact(M9 hx hd h).pu mc lx
 ·obtain⟨v,y,hx,hd,h⟩:=oF he hg h
  obtain⟨v2,y2,xt,Db,h⟩:=oF he hg h
  exact(Kl hx xt hd Db h).pu mc lx
 ·obtain⟨v,y,hx,hd,h⟩:=oF he hg h
  obtain⟨v2,y2,xt,Db,h⟩:=oF he hg h
  exact(M8 hx xt hd Db h).pu mc lx
 ·obtain⟨v,y,hx,hd,h⟩:=oF he hg h
  exact(Kq hx hd h).pu mc lx
 ·obtain⟨v,y,hx,hd,h⟩:=oF he hg h
  split at h
  ·cases hd with
   |ru hl hh=>
   obtain⟨u,hu,hk⟩:=qF h
   obtain⟨z,hz,RV⟩:=iz.get ⟨hl,hh⟩ hu
   refine .mk mc lx RV hk (.inl ?_)
   simp only[dF,o1,hx,zx]
   rw[show∀(a:List Value) i,a.toArray[i]?=a[i]? by intros;simp,hz]
  ·cases h
 ·rename_i t parts
  obtain⟨vs,ps,h1,h2,h3,h⟩:=Dm he hg h
  obtain⟨v,x,hd,hk,hb⟩:=Nh h2 h3 h
  exact .mk mc lx hd hk (.inl (by simp only[dF];exact IT h1 _ _ (by simpa using hb)))
 ·obtain⟨vs,xs,h1,h2,h⟩:=uB he hg h
  exact(HS h1 h2 h).pu mc lx
 ·cases h
end Go.X
namespace Go.X
open Go.Ex
variable {P:Program} {ρ:ig} {M:Nat} {U:Un} {h:Hp} {H:Heap} {env:Tr V} {e:Env} {K:V->Bool}
theorem kW{op:Op}{x:Value}{K:Value->Prop}(h:oB P op e H (·=x))(hk:K x):oB P op e H K:=.inr λo ho=>by
 subst ho
 obtain⟨v,rfl,hr⟩:=iy h
 exact⟨_,hk,hr⟩
theorem oW{op:Op}{x:Value}{s:Sem Value}(hs:∀w:World,w.heap=H->s.run P w=.ok x w)(h:∀o:Oper,o.op=op->∀τ,fc e τ op.operands.toList->execOp τ o=do pure (.value (<-s))):
 oB P op e H (·=x):=.inr λo ho=>⟨x,rfl,λτ ha w hw=>by rw[h o ho τ ha,Sem.run_bind,hs w hw];rfl⟩
def OW(P:Program)(ρ:ig)(M:Nat)(H:Heap)(op:Op)(e:Env)(K:V->Bool):Prop:=∃v x,Dn ρ M v x/\K v=true/\oB P op e H (·=x)
theorem R.reads(r:R ρ M U h H){b:Ps}{c:List V}{el es:Nat}{op ro:Bool}(hb:look b h.t=some (.cells c el es op ro)){fv base kap:Nat}(hρ:ρ b=some (fv,base,kap)):
 ∃us:List Value,iz ρ M c us/\∀(j:Nat) u,us[j]?=some u->dj H ⟨fv,base+j,none⟩=some u:=by
 obtain⟨uu,o6,uZ,x2,q1,q2,_,arr,lk,rfl,q4,q5,q6,_⟩:=r.ob b _ hb trivial
 rw[hρ] at q1
 cases q1
 refine⟨(arr.toList.drop base).take c.length,⟨?_,λi v x hv hx=>?_⟩,λj u hu=>?_⟩
 ·simp only[List.length_take,List.length_drop,Array.length_toList];omega
 ·obtain⟨y,hy,hd⟩:=q4 i v hv
  rw[List.getElem?_take] at hx
  split at hx
  ·rw[List.getElem?_drop,Array.getElem?_toList,hy] at hx;cases hx;exact hd
  ·cases hx
 ·rw[List.getElem?_take] at hu
  split at hu
  ·rw[List.getElem?_drop,Array.getElem?_toList] at hu
   unfold dj
   simp only
   rw[q2]
   simpa using hu
  ·cases hu
theorem pH{fv a n:Nat}:Addr.add ⟨fv,a,none⟩ n=⟨fv,a+n,none⟩:=by
 unfold Addr.add
 split
 ·rename_i h;subst h;rfl
 ·rfl
noncomputable def Kk(P:Program)(h:Hp)(t:TypeId)(b:Ps)(o:Nat)(K:V->Bool):Bool:=
 bif(P.underlying t).isSome then(match eT P t with
  |false=>qL b h.t λob=>(match ob with|.cells c _ _ _ _=>IV c o K|_=>false)
  |true=>bif(P.info? t).isSome then qL b h.t λob=>(match ob with|.cells c _ _ _ _=>Hr c o λr=>GR r (ir P t) λcs=>K (.agg cs)|_=>false) else false) else false
theorem Cj{t:TypeId}{d:TypeDesc}(hu:P.underlying t=some d)(tD:eT P t=false){a:Addr}{x:Value}{w:World}(hc:w.cell? a=some x):(loadVar t a).run P w=.ok x w:=by
 unfold loadVar
 rw[Sem.run_bind,wI hu,tD]
 simp[hc]
theorem Ck{t:TypeId}{d:TypeDesc}(hu:P.underlying t=some d)(tD:eT P t=true){i:TypeInfo}(hi:P.info? t=some i){a:Addr}{vs:List Value}{w:World}(hl:vs.length=i.size)
 (hc:∀(j:Nat) u,vs[j]?=some u->w.cell? (a.add j)=some u):(loadVar t a).run P w=.ok (.agg vs.toArray) w:=by
 have ju:=run_loadCells_list (P:=P) w a vs hc
 unfold loadVar
 rw[Sem.run_bind,wI hu,tD]
 simp only[Result.andThen,if_true]
 rw[Sem.run_bind,gL hi]
 simp only[Result.andThen]
 rw[Sem.run_bind,<-hl,ju]
 simp
theorem Gt(r:R ρ M U h H){t:TypeId}{b:Ps}{o:Nat}(hx:Kk P h t b o K=true){fv base kap:Nat}(hρ:ρ b=some (fv,base,kap)):
 ∃v x,Dn ρ M v x/\K v=true/\∀w:World,w.heap=H->(loadVar t ⟨fv,base+o,none⟩).run P w=.ok x w:=by
 unfold Kk at hx
 obtain⟨hu,hx⟩:=jc hx
 obtain⟨d,hu⟩:=Option.isSome_iff_exists.1 hu
 split at hx
 ·rename_i tD
  obtain⟨ob,hb,hx⟩:=fV hx
  split at hx
  ·obtain⟨v,hv,hk⟩:=qF hx
   obtain⟨us,hd,hc⟩:=r.reads hb hρ
   obtain⟨x,hx,Oy⟩:=hd.get hv
   exact⟨v,x,Oy,hk,λw hw=>Cj hu tD (cell_of hw (hc _ _ hx))⟩
  ·cases hx
 ·rename_i tD
  obtain⟨hi,hx⟩:=jc hx
  obtain⟨i,hi⟩:=Option.isSome_iff_exists.1 hi
  obtain⟨ob,hb,hx⟩:=fV hx
  split at hx
  ·obtain⟨h1,hx⟩:=qk hx
   obtain⟨h2,hk⟩:=qb hx
   obtain⟨us,hd,hc⟩:=r.reads hb hρ
   have Db:=(hd.drop o).take (ir P t)
   refine⟨_,_,Db.agg,hk,λw hw=>Ck hu tD hi ?_ λj u hu=>?_⟩
   ·rw[<-Db.1,List.length_take]
    have:ir P t=i.size:=by simp[ir,hi]
    omega
   ·rw[List.getElem?_take] at hu
    split at hu
    ·rw[List.getElem?_drop] at hu
     rw[pH,Nat.add_assoc]
     exact cell_of hw (hc _ _ hu)
    ·cases hu
  ·cases hx
noncomputable def N9(l:List V)(k:Nat->Bool):Bool:=
 List.rec (motive:=λ_=>(Nat->Bool)->Bool) (λk=>k 0) (λv _ ih k=>match v with|.int .u8 (.ofNat n)=>bif Nat.blt n 256 then ih λN=>fN (n+256*N) k else false|_=>false) l k
theorem Lz:∀{l:List V}{k:Nat->Bool},N9 l k=true->∀{us:List Value},iz ρ M l us->∃N,k N=true/\us=mg (strOf l.length N):=by
 intro l
 induction l with
 |nil=>intro k h us hd;exact⟨0,h,by rw[hd.kI];rfl⟩
 |cons v l ih=>
  intro k h us hd
  obtain⟨x,xs,rfl,hv,hr⟩:=hd.eh
  replace h:(match(generalizing:=false) v with|.int .u8 (.ofNat n)=>bif Nat.blt n 256 then N9 l λN=>fN (n+256*N) k else false|_=>false)=true:=h
  split at h
  ·rename_i n
   have h2:=jc h
   clear h
   obtain⟨hn,h⟩:=h2
   rw[Nat.blt_eq] at hn
   obtain⟨N,hk,he⟩:=ih h hr
   rw[fW] at hk
   refine⟨_,hk,?_⟩
   cases hv
   rw[he]
   unfold mg strOf
   simp only[List.length_cons,bl,List.map_cons]
   rw[show(n+256*N)%256=n by omega,show(n+256*N)/256=N by omega]
   congr 2
   simp[Nat.mod_eq_of_lt hn]
  ·cases h
noncomputable def rS(h:Hp)(b:Ps)(o n:Nat)(k:List V->Bool):Bool:=
 qL b h.t λob=>(match ob with|.cells c _ _ _ _=>Hr c o λr=>GR r n k|_=>false)
theorem qS(r:R ρ M U h H){b:Ps}{o n:Nat}{k:List V->Bool}(hx:rS h b o n k=true){fv base kap:Nat}(hρ:ρ b=some (fv,base,kap)):
 ∃cs us,k cs=true/\cs.length=n/\iz ρ M cs us/\∀(j:Nat) u,us[j]?=some u->dj H ⟨fv,base+o+j,none⟩=some u:=by
 unfold rS at hx
 obtain⟨ob,hb,hx⟩:=fV hx
 split at hx
 ·obtain⟨h1,hx⟩:=qk hx
  obtain⟨h2,hk⟩:=qb hx
  obtain⟨us,hd,hc⟩:=r.reads hb hρ
  refine⟨_,_,hk,by rw[List.length_take];omega,(hd.drop o).take n,λj u hu=>?_⟩
  rw[List.getElem?_take] at hu
  split at hu
  ·rw[List.getElem?_drop] at hu
   rw[Nat.add_assoc]
   exact hc _ _ hu
  ·cases hu
 ·cases hx
noncomputable def aab(h:Hp)(v:V)(K:V->Bool):Bool:=
 match v with
 |.lJ=>K (.str 0 0)
 |.slice b o l _=>rS h b o l λcs=>N9 cs λN=>K (.str l N)
 |.gE b es l d=>rS h b (d*es) l λcs=>N9 cs λN=>K (.str l N)
 |_=>false
theorem Uy(r:R ρ M U h H){v:V}{x:Value}(hd:Dn ρ M v x)(hx:aab h v K=true):∃p l c t u,x=.slice p l c/\tU H p l t/\Dn ρ M u (.string t)/\K u=true:=by
 have go:∀{b o l fv base kap},ρ b=some (fv,base,kap)->(rS h b o l λcs=>N9 cs λN=>K (.str l N))=true->∃N,tU H (some ⟨fv,base+o,none⟩) l (strOf l N)/\K (.str l N)=true:=by
  intro b o l fv base kap hρ hx
  obtain⟨cs,us,hx,hl,hd,hc⟩:=qS r hx hρ
  obtain⟨N,hk,he⟩:=Lz hx hd
  refine⟨N,⟨gi _ _,λj u hu=>?_⟩,hk⟩
  rw[hl] at he
  rw[<-he] at hu
  rw[pH]
  exact hc j u hu
 unfold aab at hx
 split at hx
 ·cases hd;exact⟨none,0,0,_,_,rfl,rfl,.str 0 0,hx⟩
 ·cases hd with
  |slice hρ=>obtain⟨N,hb,hk⟩:=go hρ hx;exact⟨_,_,_,_,_,rfl,hb,.str _ _,hk⟩
 ·cases hd with
  |gE hρ _=>obtain⟨N,hb,hk⟩:=go hρ hx;exact⟨_,_,_,_,_,rfl,hb,.str _ _,hk⟩
 ·cases hx
noncomputable def EM(P:Program)(t:TypeId)(a b:V):Option Bool:=
 match P.underlying t,a,b with
 |some .string,.str n N,.str m M=>some (Nat.beq n m&&Nat.beq (N%256^n) (M%256^n))
 |some (.struct fs),.agg xs,.agg ys=>bif P.stoodInHeld t then none else K5 P xs ys fs.toList
 |some (.array n el),.agg xs,.agg ys=>bif Nat.beq (P.cellsOf el) 1&&(P.info? el).isSome then acE P el xs ys n 0 else none
 |_,_,_=>none
def Ym(q:Option Bool)(hit next:Bool):Bool:=match q with|some true=>hit|some false=>next|none=>false
noncomputable def afy(P:Program)(t:TypeId)(k:V)(l:List (V×V))(hit:Nat->V->Bool)(miss:Bool):Bool:=
 List.rec (motive:=λ_=>Nat->Bool) (λ_=>miss) (λp _ ih i=>Ym (EM P t k p.1) (hit i p.2) (ih (Nat.succ i))) l 0
def W1(P:Program)(f:Field):Bool:=match P.underlying f.type with|some (.int _)|some .string|some .bool=>(P.info? f.type).isSome|_=>false
theorem Hb{t:TypeId}{a b:V}{x y:Value}{z:Bool}(h:EM P t a b=some z)(ha:Dn ρ M a x)(hb:Dn ρ M b y)(w:World):(Op.equal t x y).run P w=.ok z w:=by
 unfold EM at h
 split at h
 ·rename_i hu
  cases ha;cases hb
  rw[yM] at h
  have hc:∀x y,xI P t (.string x) (.string y)=some (decide (x=y)):=λx y=>by unfold xI;rw[hu]
  rw[<-Option.some.inj h]
  exact(E9 (hc _ _)).2 9999 w
 ·rename_i fs xs ys hu
  cases ha with
  |agg u3 h1=>
  cases hb with
  |agg rR h2=>
  rename_i us ws
  cases hs:P.stoodInHeld t with
  |true=>rw[hs] at h;cases h
  |false=>
   rw[hs] at h
   have:=AQ (P:=P) (ρ:=ρ) (M:=M) ⟨u3,h1⟩ ⟨rR,h2⟩ fs.toList z h
   have yW:P.fieldsOf t=fs:=by simp[Program.fieldsOf,hu]
   unfold Op.equal
   rw[show Op.maxDepth=9998+1+1 from rfl,run_equalIn_struct w _ t us.toArray ws.toArray (by rw[yW];exact hu) hs,yW]
   exact xE (xs:=us.toArray) (ys:=ws.toArray) _ w _ z this
 ·rename_i n el xs ys hu
  cases ha with
  |agg u3 h1=>
  cases hb with
  |agg rR h2=>
  rename_i us ws
  cases hs:Nat.beq (P.cellsOf el) 1&&(P.info? el).isSome with
  |false=>rw[hs] at h;cases h
  |true=>
   rw[hs] at h
   obtain⟨c1,c2⟩:=Bool.and_eq_true_iff.1 hs
   have c1:=Nat.eq_of_beq_eq_true c1
   obtain⟨i,hi⟩:=Option.isSome_iff_exists.1 c2
   have:=Eh (P:=P) (ρ:=ρ) (M:=M) ⟨u3,h1⟩ ⟨rR,h2⟩ n 0 z h
   unfold Op.equal
   rw[show Op.maxDepth=9998+1+1 from rfl,run_equalIn_array w _ us.toArray ws.toArray hu hi,List.range_eq_range']
   exact Bm (xs:=us.toArray) (ys:=ws.toArray) c1 _ w n 0 z this
 ·cases h
def Ql(P:Program)(t:TypeId):Bool:=match P.underlying t with|some (.int _)|some .string|some .bool=>(P.info? t).isSome|_=>false
noncomputable def sF(P:Program)(t:TypeId)(k:V):Bool:=
 match P.underlying t,k with
 |some .string,.str _ _=>true
 |some (.struct fs),.agg xs=>fs.toList.all λf=>W1 P f&&(match xs[f.offset]? with|some _=>true|none=>false)
 |some (.array n el),.agg xs=>Ql P el&&Nat.beq (P.cellsOf el) 1&&Nat.ble n xs.length
 |_,_=>false
theorem qR{t:TypeId}{d:TypeDesc}(hu:P.underlying t=some d)(hd:d=.string\/d=.bool\/∃k,d=.int k)(x:Value)(em:Bool)(n:Nat)(w:World):(Instr.checkKey em (n+1) t x).run P w=.ok () w:=by
 unfold Instr.checkKey
 rw[Sem.run_bind,mm hu]
 simp only[Result.andThen]
 rcases hd with rfl|rfl|⟨k,rfl⟩<;>rfl
theorem Ba{t:TypeId}{k:V}{x:Value}(h:sF P t k=true)(hd:Dn ρ M k x)(em:Bool)(w:World):(Instr.checkKey em 10000 t x).run P w=.ok () w:=by
 unfold sF at h
 split at h
 ·rename_i hu;exact qR hu (.inl rfl) x em 9999 w
 ·rename_i fs xs hu
  cases hd with
  |agg hl hh=>
  rename_i us
  rw[show(10000:Nat)=9998+1+1 from rfl,Instr.checkKey]
  rw[Sem.run_bind,mm hu]
  simp only[Result.andThen]
  rw[<-Array.forIn_toList,Sem.run_bind]
  revert h
  generalize fs.toList=l
  intro h
  suffices hs:(forIn l PUnit.unit λf(_:PUnit)=>(do
   if f.name≠ "_" then Instr.checkKey em (9998+1) f.type (<-part f.type us.toArray f.offset)
   pure (ForInStep.yield PUnit.unit):Sem (ForInStep PUnit))).run P w=.ok PUnit.unit w by rw[hs];rfl
  induction l with
  |nil=>rfl
  |cons f l ih=>
   simp only[List.all_cons,Bool.and_eq_true] at h
   obtain⟨⟨hp,hx⟩,hr⟩:=h
   have Br:=ih hr
   rw[List.forIn_cons,Sem.run_bind]
   by_cases hn:f.name= "_"
   ·rw[if_neg (by simp[hn])]
    exact Br
   ·rw[if_pos hn]
    unfold W1 at hp
    have uI:∃d,P.underlying f.type=some d/\(d=.string\/d=.bool\/∃k,d=.int k)/\eT P f.type=false:=by
     split at hp
     ·rename_i k hk;exact⟨_,hk,.inr (.inr ⟨_,rfl⟩),by simp[eT,hk]⟩
     ·rename_i hk;exact⟨_,hk,.inl rfl,by simp[eT,hk]⟩
     ·rename_i hk;exact⟨_,hk,.inr (.inl rfl),by simp[eT,hk]⟩
     ·cases hp
    obtain⟨d,ZN,hd,tD⟩:=uI
    split at hx
    ·rename_i v hv
     obtain⟨y,hy,_⟩:=iz.get (ρ:=ρ) (M:=M) ⟨hl,hh⟩ hv
     have XU:(part f.type us.toArray f.offset).run P w=.ok y w:=by
      unfold part
      rw[Sem.run_bind,wI ZN,tD]
      simp only[Result.andThen,Bool.false_eq_true,if_false]
      rw[show us.toArray[f.offset]?=some y by simpa using hy]
      rfl
     rw[Sem.run_bind,XU]
     simp only[Result.andThen]
     rw[Sem.run_bind,qR ZN hd y em 9998 w]
     exact Br
    ·cases hx
 ·rename_i n el xs hu
  cases hd with
  |agg hl hh=>
  rename_i us
  simp only[Bool.and_eq_true] at h
  obtain⟨⟨hp,hc⟩,hn⟩:=h
  have hc:=Nat.eq_of_beq_eq_true hc
  have hn:=Nat.le_of_ble_eq_true hn
  unfold Ql at hp
  have uI:∃d,P.underlying el=some d/\(d=.string\/d=.bool\/∃k,d=.int k)/\eT P el=false/\(P.info? el).isSome=true:=by
   split at hp
   ·rename_i k hk;exact⟨_,hk,.inr (.inr ⟨_,rfl⟩),by simp[eT,hk],hp⟩
   ·rename_i hk;exact⟨_,hk,.inl rfl,by simp[eT,hk],hp⟩
   ·rename_i hk;exact⟨_,hk,.inr (.inl rfl),by simp[eT,hk],hp⟩
   ·cases hp
  obtain⟨d,ZN,hd,tD,hi⟩:=uI
  obtain⟨i,hi⟩:=Option.isSome_iff_exists.1 hi
  have pg:(sizeOf el).run P w=.ok 1 w:=by
   have:i.size=1:=by rw[<-hc];simp[Program.cellsOf,hi]
   rw[<-this]
   exact gL hi w
  rw[show(10000:Nat)=9998+1+1 from rfl,Instr.checkKey]
  rw[Sem.run_bind,mm hu]
  simp only[Result.andThen]
  have hr:∀(l:List Nat),(∀j∈l,j<n)->(forIn l PUnit.unit λj(_:PUnit)=>(do
   Instr.checkKey em (9998+1) el (<-part el us.toArray (j*(<-sizeOf el)))
   pure (ForInStep.yield PUnit.unit):Sem (ForInStep PUnit))).run P w=.ok PUnit.unit w:=by
   intro l
   induction l with
   |nil=>intro _;rfl
   |cons j l ih=>
    intro hj
    rw[List.forIn_cons,Sem.run_bind]
    obtain⟨y,hy⟩:∃y,us[j]?=some y:=⟨us[j]'(by have:=hj j (by simp);omega),List.getElem?_eq_getElem _⟩
    have XU:(part el us.toArray (j*1)).run P w=.ok y w:=by
     unfold part
     rw[Sem.run_bind,wI ZN,tD]
     simp only[Result.andThen,Bool.false_eq_true,if_false]
     rw[show us.toArray[j*1]?=some y by simpa using hy]
     rfl
    rw[Sem.run_bind,pg]
    simp only[Result.andThen]
    rw[Sem.run_bind,XU]
    simp only[Result.andThen]
    rw[Sem.run_bind,qR ZN hd y em 9998 w]
    exact ih λq hq=>hj q (by simp[hq])
  rw[Std.Legacy.Range.forIn_eq_forIn_range']
  rw[Sem.run_bind,hr _ (λj hj=>by
   simp[List.mem_range'] at hj
   omega)]
  rfl
 ·cases h
def FI(ρ:ig)(M:Nat)(l:List (V×V))(es:List MapEntry):Prop:=l.length=es.length/\∀(i:Nat) p e,l[i]?=some p->es[i]?=some e->Dn ρ M p.1 e.key/\Dn ρ M p.2 e.val
theorem Bi{t:TypeId}{k:V}{x:Value}(hk:Dn ρ M k x){hit:Nat->V->Bool}{miss:Bool}:∀(l:List (V×V))(es:List MapEntry)(i:Nat),FI ρ M l es->
 List.rec (motive:=λ_=>Nat->Bool) (λ_=>miss) (λp _ ih i=>Ym (EM P t k p.1) (hit i p.2) (ih (Nat.succ i))) l i=true->
 (miss=true/\∀w,(Instr.findAsking t x es i).run P w=.ok none w)\/∃j v y,hit j v=true/\Dn ρ M v y/\∀w,(Instr.findAsking t x es i).run P w=.ok (some (j,y)) w
 |[],es,i,hm,h=>by
  have:es=[]:=by have:=hm.1;cases es with|nil=>rfl|cons=>simp at this
  subst this
  exact .inl ⟨h,λw=>rfl⟩
 |p::l,es,i,hm,h=>by
  cases es with
  |nil=>have:=hm.1;simp at this
  |cons en es=>
   obtain⟨d1,d2⟩:=hm.2 0 p en rfl rfl
   have fj:FI ρ M l es:=⟨by have:=hm.1;simpa using this,λi p e h1 h2=>hm.2 (i+1) p e (by simpa using h1) (by simpa using h2)⟩
   simp only at h
   cases hq:EM P t k p.1 with
   |none=>rw[hq] at h;exact absurd h (by simp[Ym])
   |some z=>
    rw[hq] at h
    have ju:=λw=>Hb hq hk d1 w
    cases z with
    |true=>
     refine .inr ⟨i,p.2,en.val,h,d2,λw=>?_⟩
     unfold Instr.findAsking
     rw[Sem.run_bind,ju w]
     rfl
    |false=>
     have step:∀w,(Instr.findAsking t x (en::es) i).run P w=(Instr.findAsking t x es (i+1)).run P w:=λw=>by
      rw[Instr.findAsking,Sem.run_bind,ju w]
      rfl
     rcases Bi hk l es (i+1) fj h with⟨a,b⟩|⟨j,v,y,a,b,c⟩
     ·exact .inl ⟨a,λw=>by rw[step w,b w]⟩
     ·exact .inr ⟨j,v,y,a,b,λw=>by rw[step w,c w]⟩
theorem ve{t:TypeId}{k:V}{x:Value}(ho:sF P t k=true)(hk:Dn ρ M k x){l:List (V×V)}{es:List MapEntry}(hm:FI ρ M l es)(fC:∀p∈l,sF P t p.1=true)(w:World):
 (Instr.findKey t x es).run P w=(Instr.findAsking t x es).run P w:=by
 unfold sF at ho
 split at ho
 ·rename_i n N hu
  cases hk
  have aux:∀(l:List (V×V))(es:List MapEntry)(i:Nat),FI ρ M l es->(∀p∈l,sF P t p.1=true)->∃r,Instr.findNow .string (.string (strOf n N)) es i=some r/\(Instr.findAsking t (.string (strOf n N)) es i).run P w=.ok r w:=by
   intro l
   induction l with
   |nil=>
    intro es i hm _
    have:es=[]:=by have:=hm.1;cases es with|nil=>rfl|cons=>simp at this
    subst this
    exact⟨none,rfl,rfl⟩
   |cons p l ih=>
    intro es i hm ha
    cases es with
    |nil=>have:=hm.1;simp at this
    |cons en es=>
     obtain⟨d1,d2⟩:=hm.2 0 p en rfl rfl
     have fj:FI ρ M l es:=⟨by have:=hm.1;simpa using this,λi p e h1 h2=>hm.2 (i+1) p e (by simpa using h1) (by simpa using h2)⟩
     have hp:=ha p (by simp)
     unfold sF at hp
     rw[hu] at hp
     obtain⟨key,val,born⟩:=en
     simp only at d1 d2
     cases BH:p.1<;>rw[BH] at hp d1<;>simp only[Bool.false_eq_true] at hp
     rename_i m m2
     cases d1
     obtain⟨r,h1,h2⟩:=ih es (i+1) fj (λq hq=>ha q (by simp[hq]))
     have hq:EM P t (.str n N) (.str m m2)=some (Nat.beq n m&&Nat.beq (N%256^n) (m2%256^n)):=by unfold EM;rw[hu]
     have ju:=Hb (ρ:=ρ) (M:=M) hq (.str _ _) (.str _ _) w
     have hs:Instr.sameNow .string (.string (strOf n N)) (.string (strOf m m2))=some (Nat.beq n m&&Nat.beq (N%256^n) (m2%256^n)):=by
      rw[yM]
      show some (strOf n N==strOf m m2)=_
      congr 1
      rw[Bool.eq_iff_iff,Go.MapKept.bytes_beq];simp
     cases hz:(Nat.beq n m&&Nat.beq (N%256^n) (m2%256^n)) with
     |true=>
      rw[hz] at hs ju
      refine⟨some (i,val),by simp[Instr.findNow,hs],?_⟩
      unfold Instr.findAsking
      rw[Sem.run_bind,ju]
      rfl
     |false=>
      rw[hz] at hs ju
      refine⟨r,by simp[Instr.findNow,hs,h1],?_⟩
      rw[Instr.findAsking,Sem.run_bind,ju]
      exact h2
  obtain⟨r,h1,h2⟩:=aux l es 0 hm fC
  rw[h2]
  exact Go.MapKept.run_findKey hu h1
 ·rename_i fs xs hu
  exact run_findKey_eq w (by rw[hu]) x es
 ·rename_i n el xs hu
  exact run_findKey_eq w (by rw[hu]) x es
 ·cases ho
end Go.X
namespace Go.X
open Go.Ex
variable {P:Program} {ρ:ig} {M:Nat} {U:Un} {h:Hp} {H:Heap} {env:Tr V} {e:Env} {K:V->Bool}
def AD(ok:Bool)(v:V)(b:Bool)(K:V->Bool):Bool:=match ok with|true=>K (.ru [v,.bool b])|false=>K v
noncomputable def CD(P:Program)(h:Hp)(mt:TypeId)(v k:V)(ok:Bool)(K:V->Bool):Bool:=
 match P.underlying mt with
 |some (.map kt et)=>bif sF P kt k then(match v with
  |.zd=>se P et λz=>AD ok z false K
  |.map m=>qL m h.t λob=>(match ob with
   |.map l=>bif l.all (λp=>sF P kt p.1) then afy P kt k l (λ_ u=>AD ok u true K)
    (se P et λz=>AD ok z false K) else false
   |_=>false)
  |_=>false) else false
 |_=>false
theorem Kj(r:R ρ M U h H){mt:TypeId}{om DM:Operand}{v k:V}{x y:Value}{ok:Bool}(hx:mo e om=some x)(hy:mo e DM=some y)(dv:Dn ρ M v x)(dk:Dn ρ M k y)(hh:CD P h mt v k ok K=true):
 OW P ρ M H (.lookup mt om DM ok) e K:=by
 have go:∀{r:Value},(∀w:World,w.heap=H->(Instr.lookup mt x y ok).run P w=.ok r w)->oB P (.lookup mt om DM ok) e H (·=r):=λ{r} hr=>oW hr λo ho τ ha=>by
  obtain⟨dst,nS,type,pos,after,guard⟩:=o
  simp only at ho
  subst ho
  simp only[execOp,ha om (by simp[Op.operands]) _ hx,ha DM (by simp[Op.operands]) _ hy]
 unfold CD at hh
 split at hh
 ·rename_i kt et hu
  have h2:=jc hh
  clear hh
  obtain⟨yB,hh⟩:=h2
  let tail:Array MapEntry->Sem Value:=λes=>do
   Instr.checkKey es.isEmpty 10000 kt y
   match<-Instr.findKey kt y es.toList with
   |some (_,v)=>do
    let __x<-pure (v,true)
    pure (if ok then .tuple #[__x.1,.bool __x.2] else __x.1)
   |none=>do
    let z<-zeroValue et
    let __x<-pure (z,false)
    pure (if ok then .tuple #[__x.1,.bool __x.2] else __x.1)
  have miss:∀{es:Array MapEntry},(∀w,(Instr.findKey kt y es.toList).run P w=.ok none w)->(∀w:World,w.heap=H->(Instr.lookup mt x y ok).run P w=(tail es).run P w)->(se P et λz=>AD ok z false K)=true->OW P ρ M H (.lookup mt om DM ok) e K:=by
   intro es hf Da hz
   obtain⟨z,yz,hd,hk,hq⟩:=kC (ρ:=ρ) (M:=M) hz
   obtain⟨_,_,_,_,pW,FN⟩:=jx (hq (·=yz) rfl)
   rw[pW] at FN
   have run:∀w:World,w.heap=H->(Instr.lookup mt x y ok).run P w=.ok (if ok then .tuple #[yz,.bool false] else yz) w:=λw hw=>by
    rw[Da w hw]
    simp only[tail]
    rw[Sem.run_bind,Ba yB dk]
    simp only[Result.andThen]
    rw[Sem.run_bind,hf w]
    simp only[Result.andThen]
    rw[Sem.run_bind,FN w]
    rfl
   cases ok with
   |true=>exact⟨_,_,zE hd false,hk,go run⟩
   |false=>exact⟨_,_,hd,hk,go run⟩
  split at hh
  ·cases dv
   refine miss (es:=#[]) (λw=>?_) (λw _=>by unfold Instr.lookup;rw[Sem.run_bind,mm hu];rfl) hh
   rw[ve (l:=[]) (es:=[]) yB dk ⟨rfl,λ_ _ _ h=>by simp at h⟩ (λp hp=>by simp at hp) w]
   rfl
  ·rename_i m
   obtain⟨ob,hb,hh⟩:=fV hh
   split at hh
   ·rename_i l
    obtain⟨fC,hh⟩:=jc hh
    have Yg:∀p∈l,sF P kt p.1=true:=by simpa using fC
    cases dv with
    |map hρ=>
    rename_i fv base kap
    obtain⟨uu,o6,uZ,x2,q1,q2,_,es,clock,rfl,q4,q5⟩:=r.ob m _ hb trivial
    rw[hρ] at q1
    cases q1
    have hm:FI ρ M l es.toList:=⟨q4,q5⟩
    have Da:∀w:World,w.heap=H->(Instr.lookup mt (.map (some fv)) y ok).run P w=(tail es).run P w:=λw hw=>by
     unfold Instr.lookup
     rw[Sem.run_bind,mm hu]
     simp only[Result.andThen]
     rw[Sem.run_bind,Go.MapKept.run_getObj_map (es:=es) (clock:=clock) (by rw[hw];exact q2)]
     rfl
    have QQ:=λw=>ve yB dk hm Yg (P:=P) w
    rcases Bi (P:=P) (hit:=λ_ u=>AD ok u true K) (miss:=se P et λz=>AD ok z false K) dk l es.toList 0 hm hh with⟨hz,hn⟩|⟨j,u,yu,hk,X7,hr⟩
    ·exact miss (es:=es) (λw=>by rw[QQ w,hn w]) Da hz
    ·have run:∀w:World,w.heap=H->(Instr.lookup mt (.map (some fv)) y ok).run P w=.ok (if ok then .tuple #[yu,.bool true] else yu) w:=λw hw=>by
      rw[Da w hw]
      simp only[tail]
      rw[Sem.run_bind,Ba yB dk]
      simp only[Result.andThen]
      rw[Sem.run_bind,QQ w,hr w]
      rfl
     cases ok with
     |true=>exact⟨_,_,zE X7 true,hk,go run⟩
     |false=>exact⟨_,_,X7,hk,go run⟩
   ·cases hh
  ·cases hh
 ·cases hh
noncomputable def aac(P:Program)(h:Hp)(s d:TypeId)(v:V)(K:V->Bool):Bool:=
 match P.underlying s,P.underlying d,v with
 |some (.pointer t),some .unsafePointer,.ptr b o=>(match P.info? t with
  |some i=>bif Nat.beq i.size 0 then false else qL b h.t λob=>(match ob with|.cells c _ _ false _=>IV c o λ_=>K (.ptr b o)|_=>false)
  |none=>false)
 |some .unsafePointer,some (.pointer u),.ptr b o=>bif(P.info? u).isSome then qL b h.t λob=>(match ob with
  |.cells c el _ false _=>bif liesAt P P.depth el (c.length/P.cellsOf el) o u 1 then K (.ptr b o) else false
  |_=>false) else false
 |_,_,_=>false
theorem Su{w:World}{fv:Nat}{arr:Array Value}{el:TypeId}{lk:Nat×Nat}(hb:w.heap[fv]?=some (.cells arr el lk)):(viewAt fv).run P w=.ok none w:=by
 unfold viewAt
 rw[Sem.run_bind,run_shape]
 simp only[Result.andThen,World.shape?,hb,Option.isSome_some,if_true]
 rfl
theorem vC{w:World}{fv off:Nat}{arr:Array Value}{el:TypeId}{lk:Nat×Nat}(hb:w.heap[fv]?=some (.cells arr el lk)):(Conv.seenAt ⟨fv,off,none⟩).run P w=.ok ⟨fv,off,none⟩ w:=by
 unfold Conv.seenAt
 rw[Sem.run_bind,Su hb]
 rfl
theorem UH(r:R ρ M U h H){s d:TypeId}{o:Operand}{v:V}{x:Value}(hx:mo e o=some x)(dv:Dn ρ M v x)(hh:aac P h s d v K=true):OW P ρ M H (.convert s d o) e K:=by
 have go:∀{r:Value},(∀w:World,w.heap=H->(convert s d x).run P w=.ok r w)->oB P (.convert s d o) e H (·=r):=λ{r} hr=>oW hr λnS ho τ ha=>by
  obtain⟨dst,nS,type,pos,after,guard⟩:=nS
  simp only at ho
  subst ho
  simp only[execOp,ha o (by simp[Op.operands]) _ hx]
 unfold aac at hh
 split at hh
 ·rename_i t b o' hs hd
  split at hh
  ·rename_i i hi
   obtain⟨hz,hh⟩:=wO hh
   have hz:i.size≠0:=λe=>by rw[e] at hz;cases hz
   obtain⟨ob,hb,hh⟩:=fV hh
   split at hh
   ·rename_i c el es ro
    obtain⟨u,hu,hk⟩:=qF hh
    cases dv with
    |ptr hρ=>
    rename_i fv base kap
    obtain⟨uu,o6,uZ,x2,q1,q2,_,arr,lk,rfl,q4,q5,q6,q7,q8⟩:=r.ob b _ hb trivial
    rw[hρ] at q1
    cases q1
    obtain⟨y,hy,_⟩:=q4 _ _ hu
    have lC:=(Array.getElem?_eq_some_iff.1 hy).1
    refine⟨_,_,.ptr hρ,hk,go λw hw=>?_⟩
    have dj:w.heap[fv]?=some (.cells arr el lk):=by rw[hw];exact q2
    unfold convert
    rw[Sem.run_bind,mm hs]
    simp only[Result.andThen]
    rw[Sem.run_bind,mm hd]
    simp only[Result.andThen]
    unfold Conv.unsafePointer
    rw[Sem.run_bind,mm hs]
    simp only[Result.andThen]
    rw[Sem.run_bind,mm hd]
    simp only[Result.andThen]
    rw[Sem.run_bind,vC dj]
    simp only[Result.andThen]
    have FP:(cellsIn fv).run P w=.ok (some arr.size) w:=by
     unfold cellsIn
     rw[Sem.run_bind,run_shape]
     simp only[Result.andThen,World.shape?,dj]
     rfl
    rw[Sem.run_bind,FP]
    simp only[Result.andThen]
    rw[Sem.run_bind,gL hi]
    simp only[Result.andThen]
    rw[if_neg]
    ·rfl
    ·simp only[hz,Bool.or_eq_true,decide_eq_true_eq,false_or]
     simp;omega
   ·cases hh
  ·cases hh
 ·rename_i u b o' hs hd
  obtain⟨hi,hh⟩:=jc hh
  obtain⟨i,hi⟩:=Option.isSome_iff_exists.1 hi
  obtain⟨ob,hb,hh⟩:=fV hh
  split at hh
  ·rename_i c el es ro
   obtain⟨hl,hk⟩:=jc hh
   cases dv with
   |ptr hρ=>
   rename_i fv base kap
   obtain⟨uu,o6,uZ,x2,q1,q2,_,arr,lk,rfl,q4,q5,q6,q7,q8⟩:=r.ob b _ hb trivial
   rw[hρ] at q1
   cases q1
   have qK:=(q8 rfl).1
   subst qK
   have pg:arr.size=c.length:=by rw[<-q6];simp[uc]
   refine⟨_,_,.ptr hρ,hk,go λw hw=>?_⟩
   have dj:w.heap[fv]?=some (.cells arr el lk):=by rw[hw];exact q2
   unfold convert
   rw[Sem.run_bind,mm hs]
   simp only[Result.andThen]
   rw[Sem.run_bind,mm hd]
   simp only[Result.andThen]
   unfold Conv.unsafePointer
   rw[Sem.run_bind,mm hs]
   simp only[Result.andThen]
   rw[Sem.run_bind,mm hd]
   simp only[Result.andThen]
   rw[Sem.run_bind,vC dj]
   simp only[Result.andThen]
   have hv:(variablesAt ⟨fv,0+o',none⟩ u 1).run P w=.ok true w:=by
    unfold variablesAt
    rw[Sem.run_bind,run_program]
    simp only[Result.andThen]
    rw[Sem.run_bind,run_shape]
    simp only[Result.andThen,World.shape?,dj,pg]
    rw[show 0+o'=o' by omega,hl]
    rfl
   rw[Sem.run_bind,gL hi]
   simp only[Result.andThen]
   rw[Sem.run_bind,hv]
   simp
  ·cases hh
 ·cases hh
noncomputable def UD(P:Program)(h:Hp)(op:Op)(env:Tr V)(K:V->Bool):Bool:=
 match op with
 |.load t x=>xo env x λv=>(match v with|.ptr b o=>Kk P h t b o K|_=>false)
 |.convert s d x=>xo env x λv=>(match P.underlying s,P.underlying d with
  |some (.slice b),some .string=>(match P.underlying b with|some (.int .u8)=>aab h v K|_=>false)
  |_,_=>aac P h s d v K)
 |.lookup mt x k ok=>xo env x λv=>xo env k λk=>CD P h mt v k ok K
 |_=>false
inductive Vc where
 |mk (f:Hp->Tr V->(V->Bool)->Bool)
noncomputable def aiD(P:Program)(op:Op):Vc:=
 match op with
 |.load t x=>.mk λh env K=>xo env x λv=>(match v with|.ptr b o=>Kk P h t b o K|_=>false)
 |.convert s d x=>.mk λh env K=>xo env x λv=>(match P.underlying s,P.underlying d with
  |some (.slice b),some .string=>(match P.underlying b with|some (.int .u8)=>aab h v K|_=>false)
  |_,_=>aac P h s d v K)
 |.lookup mt x k ok=>.mk λh env K=>xo env x λv=>xo env k λk=>CD P h mt v k ok K
 |_=>.mk λ_ _ _=>false
noncomputable def Gq(P:Program)(h:Hp)(op:Op)(env:Tr V)(K:V->Bool):Bool:=Vc.rec (motive:=λ_=>Bool) (λf=>f h env K) (aiD P op)
theorem Rt(P:Program)(h:Hp)(op:Op)(env:Tr V)(K:V->Bool):Gq P h op env K=UD P h op env K:=by
 cases op<;>rfl
theorem qa(he:E ρ M env e)(r:R ρ M U h H){op:Op}(hh:Gq P h op env K=true):OW P ρ M H op e K:=by
 have hg:Gl ρ:=r.gl
 rw[Rt] at hh
 unfold UD at hh
 split at hh
 ·rename_i t x
  obtain⟨v,y,hx,hd,hh⟩:=oF he hg hh
  split at hh
  ·rename_i b o'
   cases hd with
   |ptr hρ=>
   rename_i fv base kap
   obtain⟨v,z,RV,hk,hr⟩:=Gt r hh hρ
   refine⟨v,z,RV,hk,oW (s:=Instr.loadAt t (.pointer (some ⟨fv,base+o',none⟩))) (λw hw=>?_) λo ho τ ha=>?_⟩
   ·unfold Instr.loadAt
    rw[Sem.run_bind]
    exact hr w hw
   ·obtain⟨dst,nS,type,pos,after,guard⟩:=o
    simp only at ho
    subst ho
    simp only[execOp,ha x (by simp[Op.operands]) _ hx]
  ·cases hh
 ·rename_i s d x
  obtain⟨v,y,hx,hd,hh⟩:=oF he hg hh
  split at hh
  ·rename_i b hs ZT
   split at hh
   ·rename_i hb
    obtain⟨p,l,c,t,u,rfl,h1,h2,h3⟩:=Uy r hd hh
    refine⟨u,_,h2,h3,.inl ?_⟩
    simp only[vV,o1,hx,hs,ZT,hb]
    exact⟨t,h1,rfl⟩
   ·cases hh
  ·exact UH r hx hd hh
 ·obtain⟨v,y,hx,hd,hh⟩:=oF he hg hh
  obtain⟨v2,y2,xt,Db,hh⟩:=oF he hg hh
  exact Kj r hx xt hd Db hh
 ·cases hh
end Go.X
namespace Go.X
open Go.Ex
variable {P:Program} {ρ:ig} {M:Nat} {U:Un} {h:Hp} {H:Heap} {env:Tr V} {e:Env} {K:V->Hp->Bool}
def AZ{α:Type}(cs:List α)(off:Nat):List α->List α
 |[]=>cs
 |v::vs=>AZ (cs.set off v) (off+1) vs
theorem qA{α:Type}(vs:List α):∀(cs:List α)(off:Nat),(AZ cs off vs).length=cs.length:=by
 induction vs with
 |nil=>intro cs off;rfl
 |cons v vs ih=>intro cs off;show(AZ (cs.set off v) (off+1) vs).length=_;rw[ih];simp
theorem yR{α:Type}(vs:List α):∀(cs:List α)(off j:Nat),off+vs.length<=cs.length->(AZ cs off vs)[j]?=if off<=j/\j<off+vs.length then vs[j-off]? else cs[j]?:=by
 induction vs with
 |nil=>intro cs off j _;rw[if_neg (by simp)];rfl
 |cons v vs ih=>
  intro cs off j hl
  simp only[List.length_cons] at hl⊢
  show(AZ (cs.set off v) (off+1) vs)[j]?=_
  rw[ih _ _ _ (by simp;omega),List.getElem?_set]
  by_cases h1:off+1<=j/\j<off+1+vs.length
  ·rw[if_pos h1,if_pos (by omega)]
   rw[show j-off=(j-(off+1))+1 by omega,List.getElem?_cons_succ]
  ·rw[if_neg h1]
   by_cases h2:off=j
   ·subst h2
    rw[if_pos rfl,if_pos (by omega),if_pos (by omega)]
    simp
   ·rw[if_neg h2,if_neg (by omega)]
theorem acV{α:Type}(cs vs:List α)(off:Nat)(h:off+vs.length<=cs.length):AZ cs off vs=cs.take off++vs++cs.drop (off+vs.length):=by
 apply List.ext_getElem?
 intro j
 rw[yR _ _ _ _ h]
 simp only[List.getElem?_append,List.length_append,List.length_take,List.getElem?_take,List.getElem?_drop]
 have m2:min off cs.length=off:=by omega
 rw[m2]
 by_cases h1:j<off
 ·rw[if_neg (by omega),if_pos (by omega),if_pos h1,if_pos h1]
 ·by_cases h3:j<off+vs.length
  ·rw[if_pos (by omega),if_pos h3,if_neg h1]
  ·rw[if_neg (by omega),if_neg h3]
   congr 1
   omega
theorem uN{cells vs:List V}{off:Nat}{k:List V->Bool}(h:mW cells off vs k=true):off+vs.length<=cells.length/\k (AZ cells off vs)=true:=by
 unfold mW at h
 obtain⟨h1,h⟩:=qb h
 rw[lR] at h
 obtain⟨h2,h⟩:=qk h
 rw[mf,mf] at h
 refine⟨h2,?_⟩
 rw[acV _ _ _ h2,List.append_assoc]
 exact h
noncomputable def tJ:List V->Bool
 |[]=>true
 |v::r=>SU v (tJ r)
theorem ML{v:V}{r:List V}{x:Value}(h:tJ (v::r)=true)(hd:Dn ρ M v x):tJ r=true/\∀K:Prop,K->A1 x K:=za (b:=tJ r) h hd
theorem Lc{fv off:Nat}{el:TypeId}{lk:Nat×Nat}:∀{vs:List V}{us:List Value}{H:Heap}{arr:Array Value}{i:Nat}{Kp:Heap->Prop},H[fv]?=some (.cells arr el lk)->iz ρ M vs us->tJ vs=true->
 off+i+us.length<=arr.size->(lk.1=lk.2\/arr.size<=lk.1)->
 (∀H',(∀j,j≠fv->H'[j]?=H[j]?)->H'.size=H.size->H'[fv]?=some (.cells (AZ arr.toList (off+i) us).toArray el lk)->Kp H')->Ld H ⟨fv,off,none⟩ us i Kp:=by
 intro vs
 induction vs with
 |nil=>
  intro us H arr i Kp hb hd _ _ _ hk
  rw[hd.kI]
  exact hk H (λ_ _=>rfl) rfl (by rw[hd.kI];simpa[AZ] using hb)
 |cons v vs ih=>
  intro us H arr i Kp hb hd ho hle FQ hk
  obtain⟨x,xs,rfl,hv,hr⟩:=hd.eh
  obtain⟨ho2,ur⟩:=ML ho hv
  simp only[List.length_cons] at hle
  have lC:off+i<arr.size:=by omega
  show xn H (Addr.add ⟨fv,off,none⟩ i) x _
  rw[pH]
  refine ur _ ⟨⟨arr[off+i],by unfold dj;simp only;rw[hb];simp[lC]⟩,?_,?_⟩
  ·unfold gO
   simp only
   rw[hb]
   simp only[Bool.and_eq_false_iff,decide_eq_false_iff_not]
   omega
  ·have Tq:=ot H (a:=⟨fv,off+i,none⟩) x hb rfl
   refine ih Tq hr ho2 (by simp;omega) (by simpa using FQ) λH' h1 TJ h2=>hk H' (λj hj=>?_) ?_ ?_
   ·rw[h1 j hj];exact tC _ _ _ _ hj
   ·rw[TJ];unfold nQ;simp
   ·rw[h2]
    simp only[Array.toList_setIfInBounds]
    rfl
theorem R.NJ(r:R ρ M U h H){b:Ps}{c:List V}{el es:Nat}{op:Bool}(hb:look b h.t=some (.cells c el es op false)){fv base kap:Nat}(hρ:ρ b=some (fv,base,kap))
 {o:Nat}{vs:List V}{us:List Value}(hd:iz ρ M vs us)(ho:tJ vs=true)(hle:o+vs.length<=c.length){Kp:Heap->Prop}
 (hk:∀H',H'.size=H.size->R ρ M U {h with t:=ins (.cells (AZ c o vs) el es op false) b h.t} H'->Kp H'):Ld H ⟨fv,base+o,none⟩ us 0 Kp:=by
 obtain⟨uu,o6,uZ,x2,q1,q2,_,arr,lk,rfl,q4,q5,q6,q7,q8⟩:=r.ob b _ hb trivial
 rw[hρ] at q1
 cases q1
 have hlen:us.length=vs.length:=hd.1.symm
 refine Lc q2 hd ho (by omega) (q7 rfl) λH' h1 TJ h2=>hk H' TJ (r.wy hb trivial hρ h1 h2 ?_)
 refine⟨_,_,rfl,λj v hv=>?_,?_,?_,?_,q8⟩
 ·simp only[List.getElem?_toArray,Nat.add_zero]
  rw[yR _ _ _ _ hle] at hv
  rw[yR _ _ _ _ (by simp;omega)]
  split at hv
  ·rename_i hj
   rw[if_pos (by omega),show base+j-(base+o)=j-o by omega]
   exact hd.get hv
  ·rename_i hj
   rw[if_neg (by omega)]
   obtain⟨y,hy,rP⟩:=q4 j v hv
   exact⟨y,by simpa using hy,rP⟩
 ·have:uc (AZ c o vs) kap es op=uc c kap es op:=by cases op<;>simp[uc,qA]
  rw[this,qA];exact q5
 ·have:uc (AZ c o vs) kap es op=uc c kap es op:=by cases op<;>simp[uc,qA]
  rw[this];simp[qA,q6]
 ·exactλh=>by simpa[qA] using q7 h
noncomputable def Qu{α:Type}(p:Ps)(t:Tr α):Bool:=
 Ps.rec (motive:=λ_=>Tr α->Bool)
  (λt=>Tr.rec (motive:=λ_=>Bool) true (λ_ v _ _ _=>Option.rec (motive:=λ_=>Bool) true (λ_=>false) v) t)
  (λ_ ih t=>Tr.rec (motive:=λ_=>Bool) true (λl _ _ _ _=>ih l) t)
  (λ_ ih t=>Tr.rec (motive:=λ_=>Bool) true (λ_ _ r _ _=>ih r) t) p t
theorem GY{α:Type}:∀{p:Ps}{t:Tr α},Qu p t=true->look p t=none:=by
 intro p
 induction p with
 |h=>
  intro t h
  cases t with
  |lf=>rfl
  |nd l v r=>cases v with|none=>rfl|some v=>cases h
 |o p ih=>intro t h;cases t with|lf=>rfl|nd l v r=>exact ih (t:=l) h
 |i p ih=>intro t h;cases t with|lf=>rfl|nd l v r=>exact ih (t:=r) h
noncomputable def ze(h:Hp)(ob:Ob)(K:Ps->Hp->Bool):Bool:=
 bif Qu (.i h.nx) h.t then rQ ob (.i h.nx) h.t λt=>ams h.nx λq=>K (.i h.nx) ⟨t,q,h.lo,h.hi⟩ else false
theorem ka{ob:Ob}{K:Ps->Hp->Bool}(hh:ze h ob K=true):∃q,look (.i h.nx) h.t=none/\K (.i h.nx) {h with t:=ins ob (.i h.nx) h.t,nx:=q}=true:=by
 unfold ze at hh
 obtain⟨h1,hh⟩:=jc hh
 rw[kp] at hh
 obtain⟨q,hq⟩:=XF hh
 exact⟨q,GY h1,hq⟩
theorem rD{c:List V}{us:List Value}{el es kap:Nat}{op:Bool}(hd:iz ρ M c us)(arr:Array Value)(lk:Nat×Nat)(aht:∀(j:Nat) u,us[j]?=some u->arr[j]?=some u)(pg:arr.size=uc c kap es op)(hle:c.length<=uc c kap es op)
 (FQ:lk.1=lk.2\/arr.size<=lk.1):TT ρ M 0 kap (.cells c el es op false) (.cells arr el lk):=by
 refine⟨arr,lk,rfl,λj v hv=>?_,hle,by omega,λ_=>FQ,λ_=>⟨rfl,λh=>by cases h⟩⟩
 obtain⟨x,hx,Oy⟩:=hd.get hv
 exact⟨x,by rw[Nat.zero_add];exact aht j x hx,Oy⟩
def Af(ρ:ig)(M:Nat)(U:Un)(K:V->Hp->Bool)(u:Value)(H':Heap):Prop:=∃ρ' v h',Le ρ ρ'/\R ρ' M U h' H'/\Dn ρ' M v u/\K v h'=true
theorem Af.mk{u:Value}{H':Heap}{v:V}{h':Hp}(r:R ρ M U h' H')(hd:Dn ρ M v u)(hk:K v h'=true):Af ρ M U K u H':=⟨ρ,v,h',Le.refl _,r,hd,hk⟩
def pN(v:V):List V:=match v with|.agg cs=>cs|v=>[v]
theorem mF{v:V}{x:Value}(h:Dn ρ M v x)(hn:v=.any->False):iz ρ M (pN v) (dD x):=by
 cases h with
 |agg hl hh=>exact⟨by simpa[pN,dD] using hl,by simpa[pN,dD] using hh⟩
 |any=>exact(hn rfl).elim
 |_=>exact .cons (by constructor<;>assumption) .nil
end Go.X
namespace Go.X
open Go.Ex
variable {P:Program} {ρ:ig} {M:Nat} {U:Un} {h:Hp} {H:Heap} {env:Tr V} {e:Env} {K:V->Hp->Bool}
theorem fD{op:Op}{Kp Ic:Value->Heap->Prop}(hp:j0 P=true)(hh:ny P op e H Kp)(hk:∀u H',Kp u H'->Ic u H'):ny P op e H Ic:=
 .inr λo a w next Q ho ha hw hn=>by
  subst ho
  exact mD hp hh ha w hw λv w' hs q=>hn v w' hs (hk _ _ q)
abbrev Wr(P:Program)(ρ:ig)(M:Nat)(U:Un)(H:Heap)(op:Op)(e:Env)(K:V->Hp->Bool):Prop:=ny P op e H (Af ρ M U K)
noncomputable def HL(P:Program)(h:Hp)(t:TypeId)(b:Ps)(o:Nat)(u:V)(K:V->Hp->Bool):Bool:=
 qL b h.t λob=>(match ob with
  |.cells c el es op false=>(match eT P t with
   |true=>(match u with
    |.agg vs=>uf vs λn=>bif Nat.beq n (ir P t)&&(P.info? t).isSome then(bif tJ vs then mW c o vs λc=>rQ (.cells c el es op false) b h.t λt=>K .any ⟨t,h.nx,h.lo,h.hi⟩ else false) else false
    |_=>false)
   |false=>bif Nat.beq 1 (ir P t)&&(P.info? t).isSome then SU u (WC c o u λc=>rQ (.cells c el es op false) b h.t λt=>K .any ⟨t,h.nx,h.lo,h.hi⟩) else false)
  |_=>false)
theorem M4(r:R ρ M U h H){t:TypeId}{oa ox:Operand}{b:Ps}{o:Nat}{u:V}{x y:Value}(hx:mo e oa=some x)(hy:mo e ox=some y)(dx:Dn ρ M (.ptr b o) x)(dy:Dn ρ M u y)(hh:HL P h t b o u K=true):
 Wr P ρ M U H (.store t oa ox) e K:=by
 unfold HL at hh
 obtain⟨ob,hb,hh⟩:=fV hh
 split at hh
 ·rename_i c el es op
  cases dx with
  |ptr hρ=>
  rename_i fv base kap
  refine .inl ?_
  simp only[jL,o1,hx,hy]
  split at hh
  ·rename_i tD
   rw[tD]
   split at hh
   ·rename_i vs
    rw[lR] at hh
    obtain⟨pg,hh⟩:=jc hh
    obtain⟨ur,hh⟩:=jc hh
    obtain⟨hle,hh⟩:=uN hh
    rw[kp] at hh
    cases dy with
    |agg hl hd=>
    rename_i a
    simp only
    rw[List.size_toArray,<-hl,pg]
    simp only[cond_true]
    exact r.NJ hb hρ ⟨hl,hd⟩ ur hle λH' _ r'=>.mk r' (.any _) hh
   ·cases hh
  ·rename_i tD
   rw[tD]
   obtain⟨pg,hh⟩:=jc hh
   obtain⟨hh,ho⟩:=za hh dy
   obtain⟨lC,hh⟩:=Eu hh
   rw[kp] at hh
   simp only[pg,cond_true]
   obtain⟨w1,w2,r'⟩:=r.write hb hρ lC dy
   exact ho _ ⟨w1,w2,.mk r' (.any _) hh⟩
 ·cases hh
def ED:V->Bool
 |.any=>false
 |_=>true
theorem oo{v:V}(h:ED v=true):v=.any->False:=by rintro rfl;cases h
noncomputable def Dq(P:Program)(h:Hp)(t:TypeId)(K:V->Hp->Bool):Bool:=
 se P t λz=>bif ED z then ze h (.cells (pN z) t 0 false false) λb h=>K (.ptr b 0) h else false
theorem zf{p:Ps}{kap:Nat}:Dn (ext ρ (.i p) (H.size,0,kap)) M (.ptr (.i p) 0) (newAt H):=by
 have:=Dn.ptr (M:=M) (o:=0) (kz ρ (.i p) (H.size,0,kap))
 exact this
theorem Ni(r:R ρ M U h H){t:TypeId}(hh:Dq P h t K=true):Wr P ρ M U H (.alloc t) e K:=by
 unfold Dq at hh
 obtain⟨z,y,hz,hh,hq⟩:=kC (ρ:=ρ) (M:=M) hh
 obtain⟨hn,hh⟩:=jc hh
 obtain⟨q,hf,hk⟩:=ka hh
 have hd:=mF hz (oo hn)
 refine .inl ?_
 simp only[jL]
 refine hq _ ⟨_,_,_,r.mq hf _,r.alloc hf 0 q (rD hd _ (0,0) ?_ ?_ ?_ (.inl rfl)),zf,hk⟩
 ·intro j u hu;simpa using hu
 ·simp[uc,hd.1]
 ·simp[uc]
noncomputable def aaj(h:Hp)(t:TypeId)(v:V)(K:V->Hp->Bool):Bool:=
 match v with
 |.agg cs=>ze h (.cells cs t 0 false false) λb h=>K (.ptr b 0) h
 |v=>SU v (ze h (.cells [v] t 0 false false) λb h=>K (.ptr b 0) h)
theorem UR(r:R ρ M U h H){t:TypeId}{o:Operand}{v:V}{x:Value}(hx:mo e o=some x)(dx:Dn ρ M v x)(hh:aaj h t v K=true):Wr P ρ M U H (.box t o) e K:=by
 unfold aaj at hh
 split at hh
 ·cases dx with
  |agg hl hd=>
  obtain⟨q,hf,hk⟩:=ka hh
  refine .inl ?_
  simp only[jL,o1,hx]
  refine⟨_,_,_,r.mq hf _,r.alloc hf 0 q (rD ⟨hl,hd⟩ _ (0,0) ?_ ?_ ?_ (.inl rfl)),zf,hk⟩
  ·intro j u hu;simpa using hu
  ·simp[uc,hl]
  ·simp[uc]
 ·obtain⟨hh,ho⟩:=za hh dx
  obtain⟨q,hf,hk⟩:=ka hh
  refine .inl ?_
  have hn:∀cs,x≠.agg cs:=by
   intro cs e
   subst e
   exact(ho True trivial).elim
  have main:Af ρ M U K (newAt H) (gy H #[x] t):=by
   refine⟨_,_,_,r.mq hf _,r.alloc hf 0 q (rD (iz.cons dx .nil) _ (0,0) ?_ ?_ ?_ (.inl rfl)),zf,hk⟩
   ·intro j u hu;simpa using hu
   ·simp[uc]
   ·simp[uc]
  simp only[jL,o1,hx]
  clear hx
  cases x<;>first|exact(hn _ rfl).elim|exact ho _ main
noncomputable def Dh(zs:List V)(n:Nat)(k:List V->Bool):Bool:=Nat.rec (motive:=λ_=>(List V->Bool)->Bool) (λk=>k []) (λ_ ih k=>ih λr=>Cu zs r k) n k
theorem vu(zs:List V):∀(n:Nat)(k:List V->Bool),Dh zs n k=k (List.replicate n zs).flatten:=by
 intro n
 induction n with
 |zero=>intro k;rfl
 |succ n ih=>
  intro k
  show Dh zs n (λr=>Cu zs r k)=_
  rw[ih,mf,List.replicate_succ,List.flatten_cons]
theorem iz.Gp{zs:List V}{us:List Value}(hd:iz ρ M zs us):∀n,iz ρ M (List.replicate n zs).flatten (List.replicate n us).flatten
 |0=>.nil
 |n+1=>by rw[List.replicate_succ,List.flatten_cons,List.replicate_succ,List.flatten_cons];exact hd.append (hd.Gp n)
theorem sY(z:Value)(n:Nat):iq z n=(List.replicate n (dD z)).flatten.toArray:=by
 rw[xa,wM (dD z) n _ rfl]
 unfold Builtin.zeroCells
 rw[oD]
 simp
noncomputable def Pm(P:Program)(h:Hp)(t:TypeId)(vl vc:V)(K:V->Hp->Bool):Bool:=
 match P.underlying t,vl,vc with
 |some (.slice el),.int _ (.ofNat n),.int _ (.ofNat m)=>(match P.info? el with
  |some i=>se P el λz=>bif ED z&&Nat.beq (pN z).length i.size&&Nat.blt 0 i.bytes&&Nat.blt 0 i.size&&Nat.ble n m&&Nat.ble (i.bytes*m) 281474976710656 then
   Dh (pN z) m λcs=>ze h (.cells cs el i.size false false) λb h=>K (.slice b 0 n m) h else false
  |none=>false)
 |_,_,_=>false
theorem Lg{p:Ps}{kap l c:Nat}:Dn (ext ρ (.i p) (H.size,0,kap)) M (.slice (.i p) 0 l c) (.slice (some ⟨H.size,0,none⟩) l c):=by
 have:=Dn.slice (M:=M) (o:=0) (l:=l) (c:=c) (kz ρ (.i p) (H.size,0,kap))
 exact this
theorem Ry(r:R ρ M U h H){t:TypeId}{ol oc:Operand}{vl vc:V}{x y:Value}(hx:mo e ol=some x)(hy:mo e oc=some y)(dx:Dn ρ M vl x)(dy:Dn ρ M vc y)(hh:Pm P h t vl vc K=true):Wr P ρ M U H (.makeSlice t ol oc) e K:=by
 unfold Pm at hh
 split at hh
 ·rename_i el k1 n k2 m hu
  split at hh
  ·rename_i i hi
   obtain⟨z,yz,hz,hh,hq⟩:=kC (ρ:=ρ) (M:=M) hh
   obtain⟨hb,hh⟩:=jc hh
   rw[vu] at hh
   simp only[Bool.and_eq_true] at hb
   obtain⟨⟨⟨⟨⟨b1,b2⟩,b3⟩,b4⟩,b5⟩,b6⟩:=hb
   have b5:=Nat.le_of_ble_eq_true b5
   have b6:=Nat.le_of_ble_eq_true b6
   obtain⟨q,hf,hk⟩:=ka hh
   have hd:=mF hz (oo b1)
   cases dx;cases dy
   refine .inl ?_
   simp only[jL,o1,hx,hy,hu,hi]
   refine hq _ ?_
   rw[<-hd.1,b2,b3,b4]
   simp only[Bool.and_self,cond_true]
   refine⟨by simp,by simpa using b5,by simp only[Int.ofNat_eq_natCast];rw[<-Int.natCast_mul];omega,?_⟩
   have ZT:=hd.Gp m
   refine⟨_,_,_,r.mq hf _,r.alloc hf 0 q (rD ZT _ (0,0) ?_ ?_ ?_ (.inl rfl)),?_,hk⟩
   ·intro j u hu;rw[show(Int.ofNat m).toNat=m by simp,sY];simpa using hu
   ·rw[show(Int.ofNat m).toNat=m by simp,sY];simp only[uc,cond_false,List.size_toArray];exact ZT.1.symm
   ·simp[uc]
   ·simpa using Lg (ρ:=ρ) (M:=M) (H:=H) (p:=h.nx) (kap:=0) (l:=n) (c:=m)
  ·cases hh
 ·cases hh
noncomputable def UB(P:Program)(h:Hp)(t:TypeId)(len:Nat)(ps:List (Nat×V))(K:V->Hp->Bool):Bool:=
 match P.underlying t with
 |some (.slice el)=>(match P.info? el with
  |some i=>se P el λz=>bif ED z&&Nat.ble (len*i.size) 1024&&Nat.beq (pN z).length i.size then
   Dh (pN z) len λcs=>Hl (λj=>some (j*i.size,i.size,eT P el)) ps cs λcs=>ze h (.cells cs el i.size false false) λb h=>K (.slice b 0 len len) h else false
  |none=>false)
 |_=>false
theorem UA(r:R ρ M U h H){t:TypeId}{len:Nat}{parts:Array (Nat×Operand)}{vs:List (Nat×V)}{ps:List (Nat×Value)}(h0:parts.toList.map (λx=>(x.1,mo e x.2))=ps.map (λx=>(x.1,some x.2)))
 (h1:ps.map (·.1)=vs.map (·.1))(h2:iz ρ M (vs.map (·.2)) (ps.map (·.2)))(hh:UB P h t len vs K=true):Wr P ρ M U H (.buildSlice t len parts) e K:=by
 unfold UB at hh
 split at hh
 ·rename_i el hu
  split at hh
  ·rename_i i hi
   obtain⟨z,yz,hz,hh,hq⟩:=kC (ρ:=ρ) (M:=M) hh
   obtain⟨hb,hh⟩:=jc hh
   rw[vu] at hh
   simp only[Bool.and_eq_true] at hb
   obtain⟨⟨b1,b2⟩,b3⟩:=hb
   have hd:=mF hz (oo b1)
   obtain⟨cs,us,hh,xW,hf⟩:=vU hh h1 h2 (hd.Gp len)
   obtain⟨q,FQ,hk⟩:=ka hh
   refine .inl ?_
   simp only[jL,hu,hi]
   refine IT h0 _ _ ?_
   refine hq _ ?_
   rw[<-hd.1,b2,b3]
   simp only[Bool.and_self,cond_true,List.nil_append]
   refine hf _ ⟨_,_,_,r.mq FQ _,r.alloc FQ 0 q (rD xW _ (0,0) ?_ ?_ ?_ (.inl rfl)),Lg,hk⟩
   ·intro j u hu;simpa using hu
   ·simp[uc,xW.1]
   ·simp[uc]
  ·cases hh
 ·cases hh
noncomputable def strCells(n N:Nat)(k:List V->Bool):Bool:=
 Nat.rec (motive:=λ_=>Nat->(List V->Bool)->Bool) (λ_ k=>k []) (λ_ ih N k=>fN (N%256) λb=>fN (N/256) λN=>ih N λr=>k (.int .u8 (.ofNat b)::r)) n N k
theorem yN:∀{n N:Nat}{k:List V->Bool},strCells n N k=true->∃cs,k cs=true/\iz ρ M cs (mg (strOf n N)):=by
 intro n
 induction n with
 |zero=>intro N k hh;exact⟨[],hh,.nil⟩
 |succ n ih=>
  intro N k hh
  replace hh:(fN (N%256) λb=>fN (N/256) λN=>strCells n N λr=>k (.int .u8 (.ofNat b)::r))=true:=hh
  rw[fW,fW] at hh
  obtain⟨cs,hk,hd⟩:=ih hh
  refine⟨_,hk,?_⟩
  unfold mg strOf at hd⊢
  simp only[bl,List.map_cons]
  refine .cons ?_ hd
  have:(UInt8.ofNat (N%256)).toNat=N%256:=by simp
  rw[this]
  exact .int _ _
noncomputable def HR(P:Program)(h:Hp)(s d:TypeId)(v:V)(K:V->Hp->Bool):Bool:=
 match P.underlying s,P.underlying d,v with
 |some _,some (.slice b),.str n N=>(match P.underlying b with
  |some (.int .u8)=>strCells n N λcs=>ze h (.cells cs b 1 true false) λp h=>K (.gE p 1 n 0) h
  |_=>false)
 |_,_,_=>false
theorem Ng(r:R ρ M U h H){s d:TypeId}{o:Operand}{v:V}{x:Value}(hx:mo e o=some x)(dx:Dn ρ M v x)(hh:HR P h s d v K=true):Wr P ρ M U H (.convert s d o) e K:=by
 unfold HR at hh
 split at hh
 ·rename_i b n N hs hd
  split at hh
  ·rename_i hb
   obtain⟨cs,hh,xW⟩:=yN (ρ:=ρ) (M:=M) hh
   obtain⟨q,hf,hk⟩:=ka hh
   cases dx
   refine .inl ?_
   simp only[jL,o1,hx,hs,hd,hb,gi]
   intro cap pK
   have hl:(mg (strOf n N)).length=n:=by rw[show(mg (strOf n N)).length=(strOf n N).size by unfold mg;rw[List.length_map,Array.length_toList];rfl,gi]
   refine⟨_,_,_,r.mq hf _,r.alloc hf cap q (rD xW _ (cap,cap+1) ?_ ?_ ?_ (.inr ?_)),?_,hk⟩
   ·intro j u hu
    rw[Array.getElem?_append]
    have hj:j<n:=by rw[<-hl];exact(List.getElem?_eq_some_iff.1 hu).1
    rw[if_pos (by simp[hl,hj])]
    simpa using hu
   ·simp only[uc,cond_true,Array.size_append,List.size_toArray,Array.size_replicate,hl];omega
   ·simp only[uc,cond_true];rw[xW.1,hl];omega
   ·simp only[Array.size_append,List.size_toArray,Array.size_replicate,hl];omega
   ·have:=Dn.gE (M:=M) (es:=1) (l:=n) (d:=0) (kz ρ (.i h.nx) (H.size,0,cap)) (by omega)
    simpa using this
  ·cases hh
 ·cases hh
end Go.X
namespace Go.X
open Go.Ex
variable {P:Program} {ρ:ig} {M:Nat} {U:Un} {h:Hp} {H:Heap} {env:Tr V} {e:Env} {K:V->Hp->Bool}
noncomputable def agK(h:Hp)(size:Nat)(v:V)(k:Nat->List V->Bool):Bool:=
 match v with
 |.str m N=>bif Nat.beq size 1 then strCells m N λcs=>k m cs else false
 |.lJ=>k 0 []
 |.slice b o l _=>rS h b o (l*size) λcs=>k l cs
 |.gE b es l d=>rS h b (d*es) (l*size) λcs=>k l cs
 |_=>false
theorem Ww(r:R ρ M U h H){size:Nat}{v:V}{y:Value}{k:Nat->List V->Bool}(dv:Dn ρ M v y)(hh:agK h size v k=true):
 ∃n cs new,k n cs=true/\iz ρ M cs new/\appended H size y n new/\new.length=n*size:=by
 unfold agK at hh
 split at hh
 ·rename_i m N
  obtain⟨hs,hh⟩:=jc hh
  have hs:=Nat.eq_of_beq_eq_true hs
  obtain⟨cs,hk,hd⟩:=yN (ρ:=ρ) (M:=M) hh
  cases dv
  refine⟨m,cs,_,hk,hd,⟨(gi _ _).symm,hs,rfl⟩,?_⟩
  rw[hs,Nat.mul_one,show(mg (strOf m N)).length=(strOf m N).size by unfold mg;rw[List.length_map,Array.length_toList];rfl,gi]
 ·cases dv;exact⟨0,[],[],hh,.nil,⟨rfl,rfl,rfl⟩,by simp⟩
 ·rename_i b o l c
  cases dv with
  |slice hρ=>
  obtain⟨cs,us,hk,hl,hd,hc⟩:=qS r hh hρ
  refine⟨l,cs,us,hk,hd,⟨rfl,by rw[<-hd.1,hl],λj u hu=>?_⟩,by rw[<-hd.1,hl]⟩
  rw[pH]
  exact hc j u hu
 ·rename_i b es l d
  cases dv with
  |gE hρ _=>
  obtain⟨cs,us,hk,hl,hd,hc⟩:=qS r hh hρ
  refine⟨l,cs,us,hk,hd,⟨rfl,by rw[<-hd.1,hl],λj u hu=>?_⟩,by rw[<-hd.1,hl]⟩
  rw[pH]
  exact hc j u hu
 ·cases hh
noncomputable def Hh(h:Hp)(el size bytes:Nat)(l n:Nat)(oP new:List V)(K:V->Hp->Bool):Bool:=
 bif Nat.ble ((l+n)*bytes) 140737488355328&&!(Nat.beq bytes 0) then
  Cu oP new λcs=>ze h (.cells cs el size true false) λp h=>fN (l+n) λm=>K (.gE p size m 0) h else false
theorem Bg(r:R ρ M U h H){el size bytes l n:Nat}{oP new:List V}{z:Value}{us ws:List Value}(hz:(dD z).length=size)(ho:iz ρ M oP us)(hn:iz ρ M new ws)(C9:us.length=l*size)(Jh:ws.length=n*size)
 (hh:Hh h el size bytes l n oP new K=true):(l+n)*bytes<=140737488355328/\bytes≠0/\
  ∀cap,l+n<=cap->Af ρ M U K (.slice (some ⟨H.size,0,none⟩) (l+n) cap) (gy H (us.toArray++ws.toArray++iq z (cap-(l+n))) el):=by
 unfold Hh at hh
 obtain⟨hb,hh⟩:=jc hh
 rw[mf] at hh
 simp only[Bool.and_eq_true,Bool.not_eq_true'] at hb
 obtain⟨q,hf,hk⟩:=ka hh
 rw[fW] at hk
 refine⟨Nat.le_of_ble_eq_true hb.1,λe=>by rw[e] at hb;exact absurd hb.2 (by simp),λcap pK=>?_⟩
 have hd:=ho.append hn
 have T9:(iq z (cap-(l+n))).size=(cap-(l+n))*size:=by
  rw[sY];simp[hz,Nat.mul_comm]
 have pg:l*size+n*size+(cap-(l+n))*size=cap*size:=by
  rw[<-Nat.add_mul,<-Nat.add_mul];congr 1;omega
 refine⟨_,_,_,r.mq hf _,r.alloc hf cap q (rD hd _ (0,0) ?_ ?_ ?_ (.inl rfl)),?_,hk⟩
 ·intro j u hu
  rw[Array.getElem?_append]
  have hj:=(List.getElem?_eq_some_iff.1 hu).1
  rw[if_pos (by simpa using hj)]
  simpa using hu
 ·simp only[uc,cond_true,Array.size_append,List.size_toArray,C9,Jh,T9];exact pg
 ·simp only[uc,cond_true]
  rw[hd.1]
  simp only[List.length_append,C9,Jh]
  omega
 ·have:=Dn.gE (M:=M) (es:=size) (l:=l+n) (d:=0) (kz ρ (.i h.nx) (H.size,0,cap)) (by omega)
  simpa using this
noncomputable def afO(P:Program)(h:Hp)(t:TypeId)(vx vy:V)(K:V->Hp->Bool):Bool:=
 match P.underlying t with
 |some (.slice el)=>(match P.info? el with
  |some i=>se P el λz=>bif ED z&&Nat.beq (pN z).length i.size&&Nat.blt 0 i.size then agK h i.size vy λn src=>(match vx with
   |.lJ=>bif Nat.beq n 0 then K .lJ h else Hh h el i.size i.bytes 0 n [] src K
   |.slice b o l c=>bif Nat.beq n 0&&Nat.ble l c then K (.slice b o l c) h else
    bif Nat.ble (l+n) c then(qL b h.t λob=>(match ob with
     |.cells cs De es op false=>bif tJ src then mW cs (o+l*i.size) src λcs=>rQ (.cells cs De es op false) b h.t λt=>fN (l+n) λm=>K (.slice b o m c) ⟨t,h.nx,h.lo,h.hi⟩ else false
     |_=>false))
    else rS h b o (l*i.size) λoP=>Hh h el i.size i.bytes l n oP src K
   |.gE b es l d=>bif Nat.beq n 0 then K (.gE b es l d) h else
    bif Nat.beq es i.size then(qL b h.t λob=>(match ob with
     |.cells cs De vw true false=>bif tJ src&&Nat.beq De el&&Nat.beq vw es then uf cs λm=>
      bif Nat.ble ((d+l+n)*es) m then mW cs ((d+l)*es) src λcs=>rQ (.cells cs De vw true false) b h.t λt=>fN (l+n) λm=>K (.gE b es m d) ⟨t,h.nx,h.lo,h.hi⟩
      else Hr cs (d*es) λr=>GR r (l*es) λoP=>rQ .dead b h.t λt=>Hh ⟨t,h.nx,h.lo,h.hi⟩ el i.size i.bytes l n oP src K else false
     |_=>false)) else false
   |_=>false) else false
  |none=>false)
 |_=>false
theorem UU(r:R ρ M U h H){t:TypeId}{vx vy:V}{x y:Value}(dx:Dn ρ M vx x)(dy:Dn ρ M vy y)(hh:afO P h t vx vy K=true):Y5 P t x y H (Af ρ M U K):=by
 unfold afO at hh
 split at hh
 ·rename_i el hu
  split at hh
  ·rename_i i hi
   have rC:=kC (ρ:=ρ) (M:=M) hh
   clear hh
   obtain⟨z,yz,hz,rC,hq⟩:=rC
   obtain⟨hb,rC⟩:=jc rC
   simp only[Bool.and_eq_true] at hb
   obtain⟨⟨b1,b2⟩,b3⟩:=hb
   have hzd:=mF hz (oo b1)
   have T9:(dD yz).length=i.size:=by rw[<-hzd.1];exact Nat.eq_of_beq_eq_true b2
   have zr:0<i.size:=by rw[Nat.blt_eq] at b3;exact b3
   obtain⟨n,src,new,hh,L9,Uk,Jh⟩:=Ww r dy rC
   clear rC
   unfold Y5
   rw[hu]
   simp only[hi]
   split at hh
   ·cases dx
    simp only
    refine hq _ ⟨n,new,Uk,?_⟩
    cases hn:Nat.beq n 0 with
    |true=>
     rw[hn] at hh
     have hn:=Nat.eq_of_beq_eq_true hn
     exact .inl ⟨by omega,hn,.mk r .lJ hh⟩
    |false=>
     rw[hn] at hh
     have hn:n≠0:=λe=>by rw[e] at hn;cases hn
     obtain⟨c1,c2,c3⟩:=Bg r T9 .nil L9 (by simp) Jh hh
     refine .inr ⟨by omega,c1,c2,[],by simp,rfl,λcap hc=>?_⟩
     exact c3 cap hc
   ·rename_i b o l c
    cases dx with
    |slice hρ=>
    rename_i fv base kap
    simp only
    refine hq _ ⟨n,new,Uk,?_⟩
    cases hn:(Nat.beq n 0&&Nat.ble l c) with
    |true=>
     rw[hn] at hh
     simp only[Bool.and_eq_true] at hn
     have D7:=Nat.eq_of_beq_eq_true hn.1
     have qX:=Nat.le_of_ble_eq_true hn.2
     have gy:new=[]:=by cases new with|nil=>rfl|cons=>simp[D7] at Jh
     subst gy
     subst D7
     exact .inl ⟨by omega,.mk r (.slice hρ) hh⟩
    |false=>
     rw[hn] at hh
     simp only[cond_false] at hh
     cases hc:Nat.ble (l+n) c with
     |true=>
      rw[hc] at hh
      have hc:=Nat.le_of_ble_eq_true hc
      simp only[cond_true] at hh
      obtain⟨ob,hb,hh⟩:=fV hh
      split at hh
      ·obtain⟨h1,hh⟩:=jc hh
       obtain⟨h2,hh⟩:=uN hh
       rw[kp,fW] at hh
       refine .inl ⟨hc,?_⟩
       simp only
       rw[vH]
       exact r.NJ hb hρ L9 h1 h2 λH' _ r'=>.mk r' (.slice hρ) hh
      ·cases hh
     |false=>
      rw[hc] at hh
      have hc:¬l+n<=c:=λe=>by rw[Nat.ble_eq_true_of_le e] at hc;cases hc
      simp only[cond_false] at hh
      obtain⟨oP,us,hh,C9,XY,MY⟩:=qS r hh hρ
      obtain⟨c1,c2,c3⟩:=Bg r T9 XY L9 (by rw[<-XY.1,C9]) Jh hh
      refine .inr ⟨by omega,c1,c2,us,by rw[<-XY.1,C9],λj u hu=>?_,c3⟩
      rw[pH]
      exact MY j u hu
   ·rename_i b es l d
    cases dx with
    |gE hρ ahD=>
    rename_i fv base kap
    simp only
    refine hq _ ⟨n,new,Uk,?_⟩
    cases hn:Nat.beq n 0 with
    |true=>
     rw[hn] at hh
     have D7:=Nat.eq_of_beq_eq_true hn
     have gy:new=[]:=by cases new with|nil=>rfl|cons=>simp[D7] at Jh
     subst gy
     subst D7
     exact .inl ⟨by omega,.mk r (.gE hρ ahD) hh⟩
    |false=>
     rw[hn] at hh
     simp only[cond_false] at hh
     have h2:=jc hh
     clear hh
     obtain⟨Da,hh⟩:=h2
     have Da:=Nat.eq_of_beq_eq_true Da
     obtain⟨ob,hb,hh⟩:=fV hh
     split at hh
     ·rename_i cs De vw
      have h2:=jc hh
      clear hh
      obtain⟨h1,hh⟩:=h2
      simp only[Bool.and_eq_true] at h1
      obtain⟨⟨h1,rJ⟩,X6⟩:=h1
      have rJ:=Nat.eq_of_beq_eq_true rJ
      have X6:=Nat.eq_of_beq_eq_true X6
      rw[lR] at hh
      obtain⟨uu,o6,uZ,x2,q1,q2,qU,arr,lk,xt,q4,q5,q6,q7,q8⟩:=r.ob b _ hb trivial
      rw[hρ] at q1
      cases q1
      subst xt
      simp only[uc,cond_true] at q5 q6
      cases hc:Nat.ble ((d+l+n)*es) cs.length with
      |true=>
       rw[hc] at hh
       have hc:=Nat.le_of_ble_eq_true hc
       simp only[cond_true] at hh
       obtain⟨h2,hh⟩:=uN hh
       rw[kp,fW] at hh
       have hle:d+l+n<=kap:=by
        have:(d+l+n)*es<=kap*es:=by rw[X6] at q5;omega
        exact Nat.le_of_mul_le_mul_right this (by omega)
       refine .inl ⟨by omega,?_⟩
       simp only
       rw[vH,show d*es+l*i.size=(d+l)*es by rw[Nat.add_mul,Da]]
       exact r.NJ hb hρ L9 h1 h2 λH' _ r'=>.mk r' (.gE hρ (by omega)) hh
      |false=>
       rw[hc] at hh
       simp only[cond_false] at hh
       obtain⟨g1,hh⟩:=qk hh
       obtain⟨g2,hh⟩:=qb hh
       rw[kp] at hh
       have rk:=r.kill b
       obtain⟨us,ZN,huc⟩:=r.reads hb hρ
       have XY:=(ZN.drop (d*es)).take (l*es)
       have C9:((us.drop (d*es)).take (l*es)).length=l*i.size:=by rw[<-XY.1,List.length_take,<-Da];omega
       by_cases pK:l+n<=kap-d
       ·refine .inl ⟨pK,?_⟩
        simp only
        rw[pH]
        unfold Hh at hh
        obtain⟨_,hh⟩:=jc hh
        rw[mf] at hh
        obtain⟨q,hf,hk⟩:=ka hh
        rw[fW] at hk
        have e1:d*es+(kap-d)*es=kap*es:=by rw[<-Nat.add_mul];congr 1;omega
        have e2:(l+n)*es<=(kap-d)*es:=Nat.mul_le_mul_right _ pK
        rw[Nat.add_mul] at e2
        have amP:new.length=n*es:=by rw[Jh,Da]
        have hle:base+d*es+l*es+0+new.length<=arr.size:=by rw[amP];rw[X6] at q6;omega
        rw[<-Da]
        refine Lc q2 L9 h1 hle (q7 rfl) λH' hH hHs hx=>?_
        have gy:=rk.new (H':=H') hf (o:=.cells ((cs.drop (d*es)).take (l*es)++src) el i.size true false) fv (base+d*es) (kap-d) (x:=.cells (AZ arr.toList (base+d*es+l*es+0) new).toArray De lk) qU q
         (λb' o' y rb F8 hy' e=>by
          have adO:look b' (ins .dead b h.t)=some o':=rb
          rw[gP] at adO
          split at adO
          ·cases adO;exact F8
          ·rename_i hZ;exact hZ (r.inj b' b _ _ _ _ adO hb F8 trivial hy' hρ e))
         (λj hj _=>hH j hj) hx ?_
        ·refine⟨_,_,_,rk.mq hf _,gy,?_,hk⟩
         have:=Dn.gE (M:=M) (es:=i.size) (l:=l+n) (d:=0) (kz ρ (.i h.nx) (fv,base+d*es,kap-d)) (by omega)
         simpa using this
        ·rw[<-rJ]
         refine⟨_,_,rfl,λj v hv=>?_,?_,?_,λhro=>by simpa[qA] using q7 rfl,λh=>by cases h⟩
         ·simp only[List.getElem?_toArray]
          rw[yR _ _ _ _ (by simpa using hle)]
          have mc:((cs.drop (d*es)).take (l*es)).length=l*es:=by rw[List.length_take];omega
          rw[List.getElem?_append] at hv
          by_cases hj:j<l*es
          ·rw[if_pos (by omega)] at hv
           rw[if_neg (by omega)]
           rw[List.getElem?_take,if_pos hj,List.getElem?_drop] at hv
           obtain⟨y2,JZ,Db⟩:=q4 _ v hv
           exact⟨y2,by rw[Array.getElem?_toList,Nat.add_assoc];exact JZ,Db⟩
          ·rw[if_neg (by omega),mc] at hv
           obtain⟨y2,JZ,Db⟩:=L9.get hv
           have yC:=(List.getElem?_eq_some_iff.1 JZ).1
           rw[if_pos (by omega)]
           exact⟨y2,by rw[show base+d*es+j-(base+d*es+l*es+0)=j-l*es by omega];exact JZ,Db⟩
         ·simp only[uc,cond_true,List.length_append,List.length_take,List.length_drop]
          rw[L9.1,amP,<-Da]
          omega
         ·simp only[uc,cond_true,List.size_toArray,qA,Array.length_toList]
          rw[<-Da]
          rw[X6] at q6
          omega
       ·obtain⟨c1,c2,c3⟩:=Bg rk T9 XY L9 C9 Jh hh
        refine .inr ⟨by omega,c1,c2,_,C9,λj u hu=>?_,c3⟩
        rw[pH]
        rw[List.getElem?_take] at hu
        split at hu
        ·rw[List.getElem?_drop] at hu
         rw[Nat.add_assoc]
         exact huc _ _ hu
        ·cases hu
     ·cases hh
   ·cases hh
  ·cases hh
 ·cases hh
end Go.X
namespace Go.X
open Go.Ex
variable {P:Program} {ρ:ig} {M:Nat} {U:Un} {h:Hp} {H:Heap} {env:Tr V} {e:Env} {K:V->Hp->Bool}
theorem qw{op:Op}{Kp:Value->Heap->Prop}{s:Oper->Sem Value}(hs:∀(o:Oper)(w:World),w.heap=H->∃v w',(s o).run P w=.ok v w'/\dV w w'/\Kp v w'.heap)
 (hx:∀o:Oper,o.op=op->∀τ,fc e τ op.operands.toList->execOp τ o=do pure (.value (<-s o))):ny P op e H Kp:=.inr λo a w next Q ho ha hw hn=>by
 obtain⟨v,w',hr,ahq,hk⟩:=hs o w hw
 unfold Oper.wp
 rw[hx o ho a.eval ha,Sem.run_bind,hr]
 exact hn v w' ahq hk
theorem yF{op:Op}{Kp:Value->Heap->Prop}{s:Sem Unit}(hs:∀w:World,w.heap=H->∃w',s.run P w=.ok () w'/\dV w w'/\Kp undef w'.heap)
 (hx:∀o:Oper,o.op=op->∀τ,fc e τ op.operands.toList->execOp τ o=do s;pure .skip):ny P op e H Kp:=.inr λo a w next Q ho ha hw hn=>by
 obtain⟨w',hr,ahq,hk⟩:=hs w hw
 unfold Oper.wp
 rw[hx o ho a.eval ha,Sem.run_bind,hr]
 exact hn undef w' ahq hk
noncomputable def afL(h:Hp)(K:V->Hp->Bool):Bool:=ze h (.map []) λb h=>K (.map b) h
theorem UK(r:R ρ M U h H){t:TypeId}(hh:afL h K=true):Wr P ρ M U H (.makeMap t none) e K:=by
 obtain⟨q,hf,hk⟩:=ka hh
 refine qw (s:=λ_=>Instr.makeMap t none) (λ_ w hw=>⟨.map (some w.heap.size),w.alloc (.map #[] 0),rfl,dV.alloc _ _,?_⟩) λo ho τ ha=>?_
 ·rw[heap_alloc,hw]
  exact⟨_,_,_,r.mq hf _,r.alloc (o:=.map []) hf 0 q ⟨#[],0,rfl,rfl,λ_ _ _ h=>by simp at h⟩,.map (kz ρ (.i h.nx) (H.size,0,0)),hk⟩
 ·obtain⟨dst,nS,type,pos,after,guard⟩:=o
  simp only at ho
  subst ho
  rfl
noncomputable def M7(P:Program)(h:Hp)(mt:TypeId)(m:Ps)(k v:V)(K:V->Hp->Bool):Bool:=
 match P.underlying mt with
 |some (.map kt _)=>bif sF P kt k then qL m h.t λob=>(match ob with
  |.map l=>bif l.all (λp=>sF P kt p.1) then afy P kt k l (λ_ _=>false) (Cu l [(k,v)] λl=>rQ (.map l) m h.t λt=>K .any ⟨t,h.nx,h.lo,h.hi⟩) else false
  |_=>false) else false
 |_=>false
theorem UF(r:R ρ M U h H){mt:TypeId}{m:Ps}{k v:V}{x y z:Value}(dx:Dn ρ M (.map m) x)(dy:Dn ρ M k y)(dz:Dn ρ M v z)(hh:M7 P h mt m k v K=true):
 ∀w:World,w.heap=H->∃w',(Instr.mapUpdate mt x y z).run P w=.ok () w'/\dV w w'/\Af ρ M U K undef w'.heap:=by
 intro w hw
 unfold M7 at hh
 split at hh
 ·rename_i kt et hu
  obtain⟨yB,hh⟩:=jc hh
  obtain⟨ob,hb,hh⟩:=fV hh
  split at hh
  ·rename_i l
   obtain⟨fC,hh⟩:=jc hh
   have Yg:∀p∈l,sF P kt p.1=true:=by simpa using fC
   cases dx with
   |map hρ=>
   rename_i fv base kap
   obtain⟨uu,o6,uZ,x2,q1,q2,_,es,clock,xt,q4,q5⟩:=r.ob m _ hb trivial
   rw[hρ] at q1
   cases q1
   subst xt
   have hm:FI ρ M l es.toList:=⟨q4,q5⟩
   have QQ:=ve yB dy hm Yg (P:=P) w
   have Ui:w.heap[fv]?=some (.map es clock):=by rw[hw];exact q2
   rcases Bi (P:=P) (hit:=λ_ _=>false) (miss:=Cu l [(k,v)] λl=>rQ (Ob.map l) m h.t λt=>K .any ⟨t,h.nx,h.lo,h.hi⟩) dy l es.toList 0 hm hh with⟨hz,hn⟩|⟨j,u,yu,hk,_⟩
   ·rw[mf,kp] at hz
    have nQ:=Go.MapKept.heap_set (o':=.map (es.push {key:=y,val:=z,born:=clock}) (clock+1)) Ui
    refine⟨{w with heap:=w.heap.setIfInBounds fv (.map (es.push {key:=y,val:=z,born:=clock}) (clock+1))},?_,⟨rfl,rfl,rfl⟩,?_⟩
    ·unfold Instr.mapUpdate
     rw[Sem.run_bind,mm hu]
     simp only[Result.andThen]
     rw[Sem.run_bind,Go.MapKept.run_getObj_map Ui]
     simp only[Result.andThen]
     rw[Sem.run_bind,Ba yB dy]
     simp only[Result.andThen]
     rw[Sem.run_bind,QQ,hn w]
     simp only[Result.andThen]
     exact Go.MapKept.run_setObj_map _ Ui
    ·refine .mk (r.wy (o':=.map (l++[(k,v)])) hb trivial hρ (λi hi=>by rw[nQ.2 i hi,hw]) nQ.1 ⟨_,_,rfl,?_,λi p en hp he=>?_⟩) (.any _) hz
     ·simp[q4]
     ·rw[List.getElem?_append] at hp
      rw[Array.toList_push,List.getElem?_append] at he
      by_cases hi:i<l.length
      ·rw[if_pos hi] at hp
       rw[if_pos (by omega)] at he
       exact q5 i p en hp he
      ·rw[if_neg hi] at hp
       rw[if_neg (by omega)] at he
       have WU:i-l.length=0:=by
        have:=(List.getElem?_eq_some_iff.1 hp).1
        simp at this
        omega
       rw[WU] at hp
       rw[<-q4,WU] at he
       simp at hp he
       subst hp he
       exact⟨dy,dz⟩
   ·cases hk
  ·cases hh
 ·cases hh
theorem Ki(r:R ρ M U h H){mt:TypeId}{om ok ov:Operand}{m:Ps}{k v:V}{x y z:Value}(hx:mo e om=some x)(hy:mo e ok=some y)(hz:mo e ov=some z)(dx:Dn ρ M (.map m) x)(dy:Dn ρ M k y)(dz:Dn ρ M v z)
 (hh:M7 P h mt m k v K=true):Wr P ρ M U H (.mapUpdate mt om ok ov) e K/\Wr P ρ M U H (.insert mt om ok ov) e K:=by
 have hr:=UF r dx dy dz hh
 constructor
 ·refine yF hr λo ho τ ha=>?_
  obtain⟨dst,nS,type,pos,after,guard⟩:=o
  simp only at ho
  subst ho
  simp only[execOp,ha om (by simp[Op.operands]) _ hx,ha ok (by simp[Op.operands]) _ hy,ha ov (by simp[Op.operands]) _ hz]
 ·refine yF hr λo ho τ ha=>?_
  obtain⟨dst,nS,type,pos,after,guard⟩:=o
  simp only at ho
  subst ho
  simp only[execOp,ha om (by simp[Op.operands]) _ hx,ha ok (by simp[Op.operands]) _ hy,ha ov (by simp[Op.operands]) _ hz]
def alK(P:Program)(t:TypeId):Bool:=match P.underlying t with|some .string=>true|_=>false
noncomputable def HO(P:Program)(h:Hp)(t:TypeId)(v:V)(K:V->Hp->Bool):Bool:=
 match v with
 |.str n N=>bif alK P t then ze h (.iter n N 0) λb h=>K (.ptr b 0) h else false
 |_=>false
theorem M6(r:R ρ M U h H){t:TypeId}{o:Operand}{v:V}{x:Value}(hx:mo e o=some x)(dv:Dn ρ M v x)(hh:HO P h t v K=true):Wr P ρ M U H (.range t o) e K:=by
 unfold HO at hh
 split at hh
 ·rename_i n N
  obtain⟨ht,hh⟩:=jc hh
  obtain⟨q,hf,hk⟩:=ka hh
  cases dv
  unfold alK at ht
  split at ht
  ·rename_i hu
   refine qw (s:=λ_=>Instr.range t (.string (strOf n N))) (λ_ w hw=>⟨.pointer (some ⟨w.heap.size,0,none⟩),w.alloc (.stringIter (strOf n N) 0),?_,dV.alloc _ _,?_⟩) λo' ho τ ha=>?_
   ·unfold Instr.range
    rw[Sem.run_bind,mm hu]
    rfl
   ·rw[heap_alloc,hw]
    exact⟨_,_,_,r.mq hf _,r.alloc (o:=.iter n N 0) hf 0 q ⟨rfl,rfl⟩,zf,hk⟩
   ·obtain⟨dst,nS,type,pos,after,guard⟩:=o'
    simp only at ho
    subst ho
    simp only[execOp,ha o (by simp[Op.operands]) _ hx]
  ·cases ht
 ·cases hh
noncomputable def Pl(h:Hp)(b:Ps)(o:Nat)(isStr:Bool)(K:V->Hp->Bool):Bool:=
 bif isStr&&Nat.beq o 0 then qL b h.t λob=>(match ob with
  |.iter n N pos=>bif Nat.blt pos n then fN ((N/256^pos)%256) λc=>bif Nat.blt c 128 then fN (pos+1) λp=>rQ (.iter n N p) b h.t λt=>K (.ru [.bool true,.int .i64 (.ofNat pos),.int .i32 (.ofNat c)]) ⟨t,h.nx,h.lo,h.hi⟩ else false
   else K (.ru [.bool false]) h
  |_=>false) else false
theorem decode_ascii{n N pos:Nat}(hp:pos<n)(hc:(N/256^pos)%256<128):Utf8.decode (strOf n N) pos=((N/256^pos)%256,1):=by
 have hg:((strOf n N).get! (pos+0)).toNat=(N/256^pos)%256:=by
  have h1:=OO n N pos hp
  have h2:(strOf n N).data.toList=bl n N:=by simp[strOf]
  have h3:(strOf n N).data[pos]?=some (UInt8.ofNat ((N/256^pos)%256)):=by rw[<-Array.getElem?_toList,h2];exact h1
  have h4:(strOf n N).get! (pos+0)=UInt8.ofNat ((N/256^pos)%256):=by
   show(strOf n N).data[pos]! =_
   rw[getElem!_def,h3]
  rw[h4]
  simp
 unfold Utf8.decode
 simp only[hg]
 rw[if_pos hc]
theorem Rx(r:R ρ M U h H){oi:Operand}{b:Ps}{o:Nat}{x:Value}{isStr:Bool}(hx:mo e oi=some x)(dx:Dn ρ M (.ptr b o) x)(hh:Pl h b o isStr K=true):Wr P ρ M U H (.next oi isStr) e K:=by
 unfold Pl at hh
 have h2:=jc hh
 clear hh
 obtain⟨h0,hh⟩:=h2
 simp only[Bool.and_eq_true] at h0
 have ho:=Nat.eq_of_beq_eq_true h0.2
 obtain⟨ob,hb,hh⟩:=fV hh
 split at hh
 ·rename_i n N pos
  cases dx with
  |ptr hρ=>
  rename_i fv base kap
  obtain⟨uu,o6,uZ,x2,q1,q2,_,xt,am6⟩:=r.ob b _ hb trivial
  rw[hρ] at q1
  cases q1
  subst xt am6
  subst ho
  have go:(∀(o':Oper)(w:World),w.heap=H->∃v w',(Instr.next (.pointer (some ⟨fv,0,none⟩)) true o'.type).run P w=.ok v w'/\dV w w'/\Af ρ M U K v w'.heap)->Wr P ρ M U H (.next oi isStr) e K:=λhr=>
   qw (s:=λo'=>Instr.next (.pointer (some ⟨fv,0,none⟩)) isStr o'.type) (by rw[h0.1];exact hr) λo' kh τ ha=>by
    obtain⟨dst,nS,type,pos',after,guard⟩:=o'
    simp only at kh
    subst kh
    simp only[execOp,ha oi (by simp[Op.operands]) _ hx]
  refine go λo' w hw=>?_
  have Ui:w.heap[fv]?=some (.stringIter (strOf n N) pos):=by rw[hw];exact q2
  have wo:(getObj fv).run P w=.ok (.stringIter (strOf n N) pos) w:=by simp[getObj,Sem.run,Ui]
  cases hp:Nat.blt pos n with
  |true=>
   rw[hp] at hh
   rw[Nat.blt_eq] at hp
   simp only[cond_true,fW] at hh
   obtain⟨hc,hh⟩:=jc hh
   rw[Nat.blt_eq] at hc
   rw[kp] at hh
   have nQ:=Go.MapKept.heap_set (o':=.stringIter (strOf n N) (pos+1)) Ui
   have Rn:(setObj fv (.stringIter (strOf n N) (pos+1))).run P w=.ok () {w with heap:=w.heap.setIfInBounds fv (.stringIter (strOf n N) (pos+1))}:=by simp[setObj,Sem.run,Ui]
   refine⟨.tuple #[.bool true,.int .i64 (.ofNat pos),.int .i32 (.ofNat ((N/256^pos)%256))],{w with heap:=w.heap.setIfInBounds fv (.stringIter (strOf n N) (pos+1))},?_,⟨rfl,rfl,rfl⟩,?_⟩
   ·unfold Instr.next
    simp only
    rw[Sem.run_bind,wo]
    simp only[Result.andThen,gi,if_pos hp,decode_ascii hp hc]
    rw[Sem.run_bind,Rn]
    rfl
   ·refine .mk (r.wy (o':=.iter n N (pos+1)) hb trivial hρ (λi hi=>by rw[nQ.2 i hi,hw]) nQ.1 ⟨rfl,rfl⟩) ?_ hh
    exact(iz.cons (.bool true) (.cons (.int _ _) (.cons (.int _ _) .nil))).ru
  |false=>
   rw[hp] at hh
   have hp:¬pos<n:=λe=>by rw[<-Nat.blt_eq,hp] at e;cases e
   simp only[cond_false] at hh
   refine⟨.tuple #[.bool false],w,?_,dV.refl w,?_⟩
   ·unfold Instr.next
    simp only
    rw[Sem.run_bind,wo]
    simp only[Result.andThen,gi,if_neg hp]
    rfl
   ·rw[hw]
    exact .mk r (iz.cons (.bool false) .nil).ru hh
 ·cases hh
end Go.X
