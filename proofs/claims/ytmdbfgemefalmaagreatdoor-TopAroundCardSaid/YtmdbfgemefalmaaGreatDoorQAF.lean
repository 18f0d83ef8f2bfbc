/- Part AF of the proof that the law TopAround answers true at every input, under no condition. -/
import Derived.Test.YtmdbfgemefalmaaGreatDoorQAE
import Derived.Scope
import Derived.Lib.Bytealg
import Derived.Lib.MakeNoZero
import Derived.Laws.LoneSync
import Derived.Shelf.Strings.Search2
import Derived.Defers
import Derived.RangeFuncLeaves
import Derived.RangeFuncRecord
import Derived.TacticsIn
set_option linter.unusedVariables false
set_option maxHeartbeats 2000000
set_option maxRecDepth 100000
namespace Go.X
open Go.Ex
variable {P:eQ} {M:Nat} {U:Un}
inductive Xt where
 |n|x (id:Nat)|r
def Xt.to':Xt->Exit
 |.n=>.normal
 |.x i=>.exit i
 |.r=>.ret
abbrev KC:=Xt->Tr V->Hp->Bool
noncomputable def yX(w:Xt)(u:Tr V)(h:Hp)(k:KC)(next:Bool):Bool:=match w with|.n=>next|.x i=>k (.x i) u h|.r=>k .r u h
noncomputable def Hv(id:Nat)(w:Xt)(u:Tr V)(h:Hp)(k:KC):Bool:=match w with|.n=>k .n u h|.x i=>bif Nat.beq i id then k .n u h else k (.x i) u h|.r=>k .r u h
noncomputable def GG(P:eQ)(cf:fQ)(ord:Nat->An)(N:Nat)(w:Code->Tr V->Hp->KC->Bool)(c:Code)(u:Tr V)(h:Hp)(k:KC):Bool:=
 match c with
 |.skip=>k .n u h
 |.region id ops O=>(match O with
  |false=>bif ju N ops then py P cf ops ops.toList u h λu h=>k .n u h else false
  |true=>bif ju N ops then B3 P cf ops (ord id) u h λu h=>k .n u h else false)
 |.seq x y=>w x u h λI u h=>yX I u h k (w y u h k)
 |.cond c x y=>xo u c λv=>(match v with|.bool b=>(match b with|true=>w x u h k|false=>w y u h k)|_=>false)
 |.block id x=>w x u h λI u h=>Hv id I u h k
 |.loop x=>w x u h λI u h=>yX I u h k (w (.loop x) u h k)
 |.exit id=>k (.x id) u h
 |.ret=>k .r u h
 |.scope x=>w x u h k
 |_=>false
inductive BC where
 |mk (f:(Code->Tr V->Hp->KC->Bool)->Tr V->Hp->KC->Bool)
noncomputable def XZ(P:eQ)(cf:fQ)(ord:Nat->An)(N:Nat)(c:Code):BC:=
 match c with
 |.skip=>.mk λ_ u h k=>k .n u h
 |.region id ops O=>(match O with
  |false=>(match ju N ops with|true=>.mk λ_ u h k=>py P cf ops ops.toList u h λu h=>k .n u h|false=>.mk λ_ _ _ _=>false)
  |true=>(match ju N ops with|true=>.mk λ_ u h k=>B3 P cf ops (ord id) u h λu h=>k .n u h|false=>.mk λ_ _ _ _=>false))
 |.seq x y=>.mk λw u h k=>w x u h λI u h=>yX I u h k (w y u h k)
 |.cond c x y=>.mk λw u h k=>xo u c λv=>(match v with|.bool b=>(match b with|true=>w x u h k|false=>w y u h k)|_=>false)
 |.block id x=>.mk λw u h k=>w x u h λI u h=>Hv id I u h k
 |.loop x=>.mk λw u h k=>w x u h λI u h=>yX I u h k (w (.loop x) u h k)
 |.exit id=>.mk λ_ u h k=>k (.x id) u h
 |.ret=>.mk λ_ u h k=>k .r u h
 |.scope x=>.mk λw u h k=>w x u h k
 |_=>.mk λ_ _ _ _=>false
noncomputable def Ro(P:eQ)(cf:fQ)(ord:Nat->An)(N:Nat)(u:Code->Tr V->Hp->KC->Bool)(c:Code)(w:Tr V)(h:Hp)(k:KC):Bool:=BC.rec (motive:=λ_=>Bool) (λf=>f u w h k) (XZ P cf ord N c)
theorem Mf(P:eQ)(cf:fQ)(ord:Nat->An)(N:Nat)(w:Code->Tr V->Hp->KC->Bool)(c:Code)(u:Tr V)(h:Hp)(k:KC):Ro P cf ord N w c u h k=GG P cf ord N w c u h k:=by
 cases c with
 |region id ops I=>
  cases I with
  |false=>
   show BC.rec (motive:=λ_=>Bool) (λf=>f w u h k) (match ju N ops with|true=>.mk λ_ u h k=>py P cf ops ops.toList u h λu h=>k .n u h|false=>.mk λ_ _ _ _=>false)=bif ju N ops then py P cf ops ops.toList u h λu h=>k .n u h else false
   generalize ju N ops=b
   cases b<;>rfl
  |true=>
   show BC.rec (motive:=λ_=>Bool) (λf=>f w u h k) (match ju N ops with|true=>.mk λ_ u h k=>B3 P cf ops (ord id) u h λu h=>k .n u h|false=>.mk λ_ _ _ _=>false)=bif ju N ops then B3 P cf ops (ord id) u h λu h=>k .n u h else false
   generalize ju N ops=b
   cases b<;>rfl
 |_=>rfl
noncomputable def xC(P:eQ)(cf:fQ)(ord:Nat->An)(N:Nat)(n:Nat):Code->Tr V->Hp->KC->Bool:=
 Nat.rec (motive:=λ_=>Code->Tr V->Hp->KC->Bool) (λ_ _ _ _=>false) (λ_ h=>Ro P cf ord N h) n
theorem Ii(P:eQ)(cf:fQ)(ord:Nat->An)(N n:Nat)(c:Code)(u:Tr V)(h:Hp)(k:KC):xC P cf ord N (n+1) c u h k=GG P cf ord N (xC P cf ord N n) c u h k:=Mf ..
def Goal(ρ:jF)(M:Nat)(U:Un)(N:Nat)(Ds:List Deferred)(w:fe)(k:KC)(Q:Exit->Act->fe->Prop):Prop:=
 ∀I u h ρ' e O w',k I u h=true->Le ρ ρ'->E ρ' M u e->R ρ' M U h w'.heap->Mt N Ds O e->ik w w'->Q I.to' O w'
section
variable {cf:fQ} {ord:Nat->An} {N:Nat} {Ds:List Deferred}
theorem zS(hp:fF P=true)(az:jb P M cf):∀(n:Nat)(c:Code)(aa:Tr V)(h:Hp)(k:KC),xC P cf ord N n c aa h k=true->∀(ρ:jF)(e:Env)(a:Act)(w:fe)(Q:Exit->Act->fe->Prop),E ρ M aa e->R ρ M U h w.heap->Mt N Ds a e->
 Goal ρ M U N Ds w k Q->c.wp P Q a w:=by
 intro n
 induction n using Nat.strongRecOn with
 |_ n ih=>
 intro c aa h k I ρ e a w Q he r hm hg
 cases n with
 |zero=>cases I
 |succ n=>
 rw[Ii] at I
 unfold GG at I
 split at I
 .exact wp_skip (hg .n _ _ ρ e a w I (Le.refl _) he r hm (ik.refl w))
 .rename_i id ops aJ
  split at I
  .obtain⟨hN,I⟩:=fz I
   have:=zQ (U:=U) hp az (ops:=ops) (K:=λaa h=>k .n aa h) ops.toList 0 ρ aa h e w.heap I he r
   refine wp_region_list (qb hp hN a w (λa' w' e' O W _⟨ρ',Z,h',hl,Y,r',u⟩=>hg .n _ _ ρ' e' a' w' u hl Y r' O W) ops.toList 0 e a w (λo ho=>by simpa using ho) this hm (ik.refl w) (iN.refl _ _))
  .obtain⟨hN,I⟩:=fz I
   have aB:P.follows .mixedOrders=true:=by unfold fF at hp;rw[Bool.and_eq_true] at hp;exact hp.1
   exact wp_region_any aB (JL (U:=U) hp az hN a w.drew w.drew e (λa' w' e' O W _⟨ρ',Z,h',hl,Y,r',u⟩=>hg .n _ _ ρ' e' a' w' u hl Y r' O ((ik.drew w).trans W)) I he r hm (ik.refl _))
 .rename_i x y
  refine wp_seq (ih n (by omega) x aa h _ I ρ e a w _ he r hm ?_)
  intro ex Z h' ρ' e' a' w' u hl Y r' O W
  dsimp only at u
  unfold yX at u
  split at u
  .exact ih n (by omega) y Z h' k u ρ' e' a' w' Q Y r' O λaE ao h2 ρ2 e2 a2 w2 aF ai aj r2 ak am=>hg aE ao h2 ρ2 e2 a2 w2 aF (hl.trans ai) aj r2 ak (W.trans am)
  .exact hg _ _ _ ρ' e' a' w' u hl Y r' O W
  .exact hg _ _ _ ρ' e' a' w' u hl Y r' O W
 .rename_i c x y
  obtain⟨v,y',hx,hd,I⟩:=gv he r.gl I
  split at I
  .cases hd
   split at I
   .exact wp_cond_true (hm.eval hx) (ih n (by omega) x aa h k I ρ e a w Q he r hm hg)
   .exact wp_cond_false (hm.eval hx) (ih n (by omega) y aa h k I ρ e a w Q he r hm hg)
  .cases I
 .rename_i id x
  refine wp_block (ih n (by omega) x aa h _ I ρ e a w _ he r hm ?_)
  intro ex Z h' ρ' e' a' w' u hl Y r' O W
  dsimp only at u
  unfold Hv at u
  split at u
  .exact hg .n _ _ ρ' e' a' w' u hl Y r' O W
  .rename_i i
   show if i=id then Q .normal a' w' else Q (.exit i) a' w'
   by_cases hi:i=id
   .subst hi
    rw[if_pos rfl]
    rw[show Nat.beq i i=true by simp] at u
    exact hg .n _ _ ρ' e' a' w' u hl Y r' O W
   .rw[if_neg hi]
    rw[ki,decide_eq_false hi] at u
    exact hg (.x i) _ _ ρ' e' a' w' u hl Y r' O W
  .exact hg .r _ _ ρ' e' a' w' u hl Y r' O W
 .rename_i x
  refine wp_loop_ghost (λm a' w'=>m<=n+1/\∃Z h' ρ' e',xC P cf ord N m (.loop x) Z h' k=true/\Le ρ ρ'/\E ρ' M Z e'/\R ρ' M U h' w'.heap/\Mt N Ds a' e'/\ik w w') (n+1)
   ⟨Nat.le_refl _,aa,h,ρ,e,I,Le.refl _,he,r,hm,ik.refl w⟩ ?_
  rintro m a1 w1 ⟨aR,aD,h1,ρ1,e1,av,aw,aH,r1,aI,ax⟩
  cases m with
  |zero=>cases av
  |succ m=>
  rw[Ii] at av
  refine ih m (by omega) x aD h1 _ av ρ1 e1 a1 w1 _ aH r1 aI ?_
  intro ex ao h2 ρ2 e2 a2 w2 u ai aj r2 ak am
  dsimp only at u
  unfold yX at u
  split at u
  .exact⟨m,by omega,by omega,ao,h2,ρ2,e2,u,aw.trans ai,aj,r2,ak,ax.trans am⟩
  .exact hg _ _ _ ρ2 e2 a2 w2 u (aw.trans ai) aj r2 ak (ax.trans am)
  .exact hg _ _ _ ρ2 e2 a2 w2 u (aw.trans ai) aj r2 ak (ax.trans am)
 .exact wp_exit (hg (.x _) _ _ ρ e a w I (Le.refl _) he r hm (ik.refl w))
 .exact wp_ret (hg .r _ _ ρ e a w I (Le.refl _) he r hm (ik.refl w))
 .refine wp_scope_straight (ih n (by omega) _ aa h k I ρ e a w _ he r hm ?_)
  intro ex Z h' ρ' e' a' w' u hl Y r' O W
  have:=hg ex Z h' ρ' e' a' w' u hl Y r' O W
  cases ex<;>exact this
 .cases I
end
noncomputable def NU(P:eQ)(h:Hp)(t:eK)(p:V)(k:V->Bool):Bool:=match p with|.ptr b o=>En P h t b o k|_=>false
noncomputable def vC(P:eQ)(u:Tr V)(h:Hp)(l:List ResultVar)(k:List V->Bool):Bool:=
 List.rec (motive:=λ_=>(List V->Bool)->Bool) (λk=>k [])
  (λI _ w k=>match I with
   |.tmp t=>qJ (mX t) u λv=>w λr=>k (v::r)
   |.cell a t=>qJ (mX a) u λp=>NU P h t p λv=>w λr=>k (v::r)) l k
def y1(l:List V)(K:V->Hp->Bool)(h:Hp):Bool:=match l with|[v]=>K v h|l=>K (.pZ l) h
theorem tI{ρ:jF}{O:Tr V}{h:Hp}{H:dw}{e:Env}{I:Array dB}(he:E ρ M O e)(r:R ρ M U h H)(hm:∀t v,e t=some v->I[t]?=some v):∀{l:List ResultVar}{k:List V->Bool},vC P O h l k=true->
 ∃vs xs,k vs=true/\jZ ρ M vs xs/\∀(g:ResultVar->Sem dB),(∀t,g (.tmp t)=pure (I.getD t undef))->(∀a t,g (.cell a t)=do loadVar t (<-asAddr (I.getD a undef)))->∀w,w.heap=H->(l.mapM g).run P w=.ok xs w:=by
 intro l
 induction l with
 |nil=>intro k u;exact⟨[],[],u,.nil,λg _ _ w _=>by simp⟩
 |cons rv l ih=>
  intro k u
  cases rv with
  |tmp t=>
   obtain⟨v,hv,u⟩:=jl (p:=mX t) (t:=O) (k:=λv=>vC P O h l λr=>k (v::r)) u
   obtain⟨x,hx,hd⟩:=he t v hv
   obtain⟨vs,xs,hk,hl,hr⟩:=ih u
   refine⟨v::vs,x::xs,hk,.cons hd hl,λg Y W w Z=>?_⟩
   rw[List.mapM_cons,Sem.run_bind,Y]
   have:I.getD t undef=x:=by rw[Array.getD_eq_getD_getElem?,hm t x hx];rfl
   simp only[this,Sem.run_pure,Result.andThen]
   rw[Sem.run_bind,hr g Y W w Z]
   rfl
  |cell a t=>
   obtain⟨p,hv,u⟩:=jl (p:=mX a) (t:=O) (k:=λp=>NU P h t p λv=>vC P O h l λr=>k (v::r)) u
   obtain⟨x,hx,hd⟩:=he a p hv
   unfold NU at u
   split at u
   .rename_i b o
    cases hd with
    |ptr hρ=>
    rename_i an ai kap
    obtain⟨v,y,ao,u,aa⟩:=B2 r u hρ
    obtain⟨vs,xs,hk,hl,hr⟩:=ih u
    refine⟨v::vs,y::xs,hk,.cons ao hl,λg Y W w Z=>?_⟩
    rw[List.mapM_cons,Sem.run_bind,W]
    have:I.getD a undef=.pointer (some ⟨an,ai+o,none⟩):=by rw[Array.getD_eq_getD_getElem?,hm a _ hx];rfl
    rw[this,Sem.run_bind,show∀ad,(asAddr (.pointer (some ad))).run P w=.ok ad w fromλ_=>rfl]
    simp only[Result.andThen]
    rw[aa w Z]
    dsimp only
    rw[Sem.run_bind,hr g Y W w Z]
    rfl
   .cases u
theorem wU{ρ:jF}{vs:List V}{xs:List dB}{K:V->Hp->Bool}{h:Hp}(w:jZ ρ M vs xs)(u:y1 vs K h=true):∃v,Dn ρ M v (if h:xs.toArray.size=1 then xs.toArray[0] else .tuple xs.toArray)/\K v h=true:=by
 unfold y1 at u
 split at u
 .obtain⟨x,Z,rfl,W,Y⟩:=w.il
  obtain rfl:=Y.mg
  exact⟨_,by simpa using W,u⟩
 .rename_i I
  refine⟨_,?_,u⟩
  rw[dif_neg]
  .exact w.pZ
  .intro O
   simp only[List.size_toArray] at O
   obtain⟨x,rfl⟩:=List.length_eq_one_iff.1 O
   have:=w.1
   obtain⟨v,rfl⟩:=List.length_eq_one_iff.1 (show vs.length=1 by simpa using this)
   exact I v rfl
noncomputable def CB(vs:List V)(i:Nat)(h:Tr V)(k:Tr V->Bool):Bool:=
 List.rec (motive:=λ_=>Nat->Tr V->Bool) (λ_ h=>k h) (λv _ u i h=>rq v (mX i) h λh=>u (Nat.succ i) h) vs i h
theorem u0{ρ:jF}{k:Tr V->Bool}:∀{vs:List V}{i:Nat}{h:Tr V},CB vs i h k=true->∀{xs:List dB}{e:Env},jZ ρ M vs xs->E ρ M h e->(∀j x,xs[j]?=some x->e (i+j)=some x)->∃I,k I=true/\E ρ M I e:=by
 intro vs
 induction vs with
 |nil=>intro i h w xs e _ W _;exact⟨h,w,W⟩
 |cons v vs ih=>
  intro i h w xs e hd W Z
  obtain⟨x,xs,rfl,h1,h2⟩:=hd.il
  replace w:(rq v (mX i) h λh=>CB vs (Nat.succ i) h k)=true:=w
  rw[lD] at w
  refine ih w h2 (λt u O=>?_) (λj y hy=>by have:=Z (j+1) y (by simpa using hy);rwa[show i+(j+1)=i.succ+j by omega] at this)
  rw[jG] at O
  by_cases Y:mX t=mX i
  .rw[if_pos Y] at O
   cases O
   have ht:=uG Y
   subst ht
   exact⟨x,by have:=Z 0 x rfl;simpa using this,h1⟩
  .rw[if_neg Y] at O
   exact W t u O
noncomputable def yd(P:eQ)(tF:jt->Nat->An)(L:Nat)(I:fQ):fQ:=λf vs h K=>
 match P.funcs[f]? with
 |none=>false
 |some w=>(match w.body with
  |none=>false
  |some c=>tw vs λn=>bif Nat.ble n w.ntmps then CB vs 0 .lf λu=>
   xC P I (tF f) w.ntmps L c u h λO u h=>(match O with|.x _=>false|.n=>vC P u h w.results.toList λr=>y1 r K h|.r=>vC P u h w.results.toList λr=>y1 r K h) else false)
def yG(P:eQ)(M:Nat)(I:fQ):Prop:=∀(ρ:jF)(U:Un)(h:Hp)(H:dw)(f:jt)(vs:List V)(xs:List dB)(K:V->Hp->Bool),R ρ M U h H->jZ ρ M vs xs->I f vs h K=true->
 ∃u c,P.funcs[f]?=some u/\u.body=some c/\∀w:fe,w.heap=H->c.wp P (bodyPost P u λe w'=>∃v,e=.returned v/\ik w w'/\Af ρ M U K v w'.heap) {tmps:=xs.toArray++Array.replicate (u.ntmps-xs.toArray.size) undef,defers:=[]} w
abbrev ve:=fQ->fQ->fQ
def vA(P:eQ)(M:Nat)(w:ve):Prop:=∀u I,jb P M u->yG P M I->∀(ρ:jF)(U:Un)(h:Hp)(H:dw)(f:jt)(vs:List V)(xs:List dB)(K:V->Hp->Bool),R ρ M U h H->jZ ρ M vs xs->w u I f vs h K=true->CW P f xs H (Af ρ M U K)
noncomputable def UO(P:eQ)(tF:jt->Nat->An)(I:jt->Bool)(w:ve)(L:Nat)(u:fQ):fQ:=λf vs h K=>
 bif I f then w u (yd P tF L u) f vs h K else yd P tF L u f vs h K
noncomputable def xF(P:eQ)(tF:jt->Nat->An)(u:jt->Bool)(h:ve)(L n:Nat):fQ:=Nat.rec (motive:=λ_=>fQ) (λ_ _ _ _=>false) (λ_ w=>UO P tF u h L w) n
theorem WO{n m:Nat}{xs:List dB}(O:m<=n)(W:xs.length=m):Mt n [] {tmps:=xs.toArray++Array.replicate (n-xs.toArray.size) undef,defers:=[]} (vV n xs):=by
 refine⟨by simp;omega,rfl,λt v h=>?_⟩
 unfold vV at h
 rw[Array.getElem?_append]
 cases u:Nat.blt t xs.length with
 |true=>
  rw[u] at h
  have:t<xs.length:=by rw[Nat.blt_eq] at u;exact u
  rw[if_pos (by simpa using this)]
  simpa using h
 |false=>
  rw[u] at h
  have I:¬t<xs.length:=by rw[<-Nat.blt_eq,u];simp
  rw[if_neg (by simpa using I)]
  cases w:Nat.blt t n with
  |true=>
   rw[w] at h
   have Y:t<n:=by rw[Nat.blt_eq] at w;exact w
   simp only[cond_false,cond_true,Option.some.injEq] at h
   subst h
   rw[Array.getElem?_replicate,if_pos (by simp;omega)]
  |false=>rw[w] at h;cases h
theorem B8(hp:fF P=true){tF:jt->Nat->An}{L:Nat}{Z:fQ}(ih:jb P M Z):yG P M (yd P tF L Z):=by
 intro ρ U h H f vs xs K r hd u
 unfold yd at u
 split at u
 .cases u
 .rename_i O hf
  split at u
  .cases u
  .rename_i c hb
   rw[mY] at u
   obtain⟨W,u⟩:=fz u
   have W:=Nat.le_of_ble_eq_true W
   refine⟨O,c,hf,hb,λw hw=>?_⟩
   have ag:xs.length=vs.length:=hd.1.symm
   obtain⟨ah,u,he⟩:=u0 (ρ:=ρ) (M:=M) u (e:=vV O.ntmps xs) hd (λt v hv=>by rw[kf] at hv;cases hv) (λj x hx=>by
    have hj:=(List.getElem?_eq_some_iff.1 hx).1
    unfold vV
    rw[Nat.zero_add,show Nat.blt j xs.length=true by rw[Nat.blt_eq];exact hj]
    exact hx)
   refine zS (U:=U) (Ds:=[]) hp ih L c ah h _ u ρ (vV O.ntmps xs) _ w _ he (by rw[hw];exact r) ?_ ?_
   .exact WO W ag
   .intro ex ac h' ρ' e' a' w' I hl am r' aa ao
    have ab:(vC P ac h' O.results.toList λr=>y1 r K h')=true->bodyPost P O (λe w'=>∃v,e=.returned v/\ik w w'/\Af ρ M U K v w'.heap) .ret a' w':=by
     intro I
     obtain⟨aC,Y,I,ap,ad⟩:=tI (P:=P) am r' aa.val I
     obtain⟨v,aq,I⟩:=wU ap I
     have ae:(results O a'.tmps).run P w'=.ok (if h:Y.toArray.size=1 then Y.toArray[0] else .tuple Y.toArray) w':=by
      unfold results
      rw[Sem.run_bind,Array.mapM_eq_mapM_toList,Sem.run_map]
      rw[ad _ (λt=>rfl) (λa t=>rfl) w' rfl]
      rfl
     exact⟨aa.defers,_,ae,_,rfl,ao,ρ',v,h',hl,r',aq,I⟩
    cases ex with
    |n=>exact ab I
    |x i=>cases I
    |r=>exact ab I
theorem yG.cw{u:fQ}(Y:yG P M u):jb P M u:=by
 intro ρ U h H f vs xs K r Z hh
 obtain⟨fn,c,I,O,hw⟩:=Y ρ U h H f vs xs K r Z hh
 exact .inl ⟨fn,I,by rw[O];rfl,λw W=>calls_of_wp I O (hw w W)⟩
theorem Er(Y:fF P=true){tF:jt->Nat->An}{I:jt->Bool}{u:ve}(O:vA P M u){L:Nat}:∀n,jb P M (xF P tF I u L n):=by
 intro n
 induction n with
 |zero=>intro ρ U h H f vs xs K _ _ w;cases w
 |succ n W=>
  intro ρ U h H f vs xs K r Z w
  replace w:(bif I f then u (xF P tF I u L n) (yd P tF L (xF P tF I u L n)) f vs h K else yd P tF L (xF P tF I u L n) f vs h K)=true:=w
  cases ho:I f with
  |true=>
   rw[ho] at w
   exact O _ _ W (B8 Y W) ρ U h H f vs xs K r Z w
  |false=>
   rw[ho] at w
   exact(B8 Y W).cw ρ U h H f vs xs K r Z w
end Go.X
namespace Go.X
open Go.Ex
variable {P:eQ} {ρ:jF} {M:Nat} {U:Un} {h:Hp} {H:dw}
inductive Nt where
 |same|byte|count|AK (el:eK)|P0|Pg|WV|QH|AQ (on:Bool)|AP (rel:Bool)
def Nz(u:Func):Nt->Array dB->Sem dB
 |.same=>Extern.AbiNoEscape.same
 |.byte=>Extern.BytealgIndexByte.indexByte
 |.count=>Extern.BytealgCount.count
 |.AK _=>Extern.BytealgMakeNoZero.makeNoZero u.params u.resultTypes
 |.P0=>Extern.Atomic.loadT (.int .u32)
 |.Pg=>Extern.Atomic.storeT
 |.WV=>Extern.Atomic.casT (.int .i32)
 |.QH=>Extern.Atomic.update (Op.intArith .add) .i32 true
 |.AQ true=>λ_=>do mark .enable;pure Extern.Race.none_
 |.AQ false=>λ_=>do mark .disable;pure Extern.Race.none_
 |.AP false=>Extern.Race.marked .acquire
 |.AP true=>Extern.Race.marked .releaseMerge
def XP(P:eQ)(u:Func):Nt->Prop
 |.AK el=>∃t,u.resultTypes=#[t]/\P.underlying t=some (.slice el)
 |_=>True
structure wc(P:eQ)(f:jt)(k:Nt):Prop where
 is:∃fn,P.funcs[f]?=some fn/\fn.body.isNone=true/\Extern.findNext fn=none/\Extern.find fn=some (Nz fn k)/\XP P fn k
theorem GN{α:Type}(m:Mark)(s:Sem α)(w:fe):(do mark m;s).run P w=s.run P w:=by
 rw[Sem.run_bind]
 rfl
theorem Be(Y:fF P=true){f:jt}{I:Func}{k:Nt}(N:P.funcs[f]?=some I)(Z:I.body.isNone=true)(hn:Extern.findNext I=none)(O:Extern.find I=some (Nz I k)){xs:List dB}{W:dB->dw->Prop}
 (hk:∀w:fe,w.heap=H->∃u w',(Nz I k xs.toArray).run P w=.ok u w'/\ik w w'/\W u w'.heap):CW P f xs H W:=by
 refine .inr λw hw=>?_
 obtain⟨u,w',hr,hs,hq⟩:=hk w hw
 refine⟨u,w',?_,hs,hq⟩
 unfold callFunc
 rw[Sem.run_bind,run_program]
 simp only[Result.andThen,N,sy Y N,Z,Bool.false_eq_true,if_false,if_true]
 rw[GN]
 simp only[hn,O]
 rw[Sem.run_bind,hr]
 rfl
noncomputable def XG(c:Nat)(n:Nat):Nat->Nat->(Int->Bool)->Bool:=
 Nat.rec (motive:=λ_=>Nat->Nat->(Int->Bool)->Bool) (λ_ _ k=>k (-1))
  (λ_ u i N k=>bif Nat.beq (N%256) c then fN i λi=>k (Int.ofNat i) else fN (N/256) λN=>fN (Nat.succ i) λi=>u i N k) n
def Ur(c:UInt8):List UInt8->Nat->Int
 |[],_=>-1
 |b::r,i=>if b==c then(i:Int) else Ur c r (i+1)
theorem yh{a c:Nat}(u:a<256)(w:c<256):(UInt8.ofNat a==UInt8.ofNat c)=Nat.beq a c:=by
 rw[ki]
 by_cases h:a=c
 .subst h;simp
 .have:UInt8.ofNat a≠UInt8.ofNat c:=λe=>h (by
   have:=congrArg UInt8.toNat e
   simpa[Nat.mod_eq_of_lt u,Nat.mod_eq_of_lt w] using this)
  simp[h,this]
theorem Nl{c:Nat}(u:c<256):∀(n i N:Nat)(k:Int->Bool),XG c n i N k=k (Ur (UInt8.ofNat c) (bl n N) i)
 |0,i,N,k=>rfl
 |n+1,i,N,k=>by
  show(bif Nat.beq (N%256) c then fN i λi=>k (Int.ofNat i) else fN (N/256) λN=>fN (Nat.succ i) λi=>XG c n i N k)=k (if(UInt8.ofNat (N%256)==UInt8.ofNat c)=true then(i:Int) else Ur (UInt8.ofNat c) (bl n (N/256)) (i+1))
  rw[yh (Nat.mod_lt _ (by omega)) u]
  cases Nat.beq (N%256) c with
  |true=>simp[jm]
  |false=>simp only[cond_false,jm,Bool.false_eq_true,if_false];exact Nl u n (i+1) (N/256) k
theorem Nj(c:UInt8):∀(l:List UInt8)(i:Nat),Ur c l i=if Lib.indexByte l c=-1 then-1 else Lib.indexByte l c+i
 |[],i=>by simp[Ur,Lib.indexByte]
 |b::r,i=>by
  have I:=Lib.indexByte_ge r c
  unfold Ur Lib.indexByte
  cases h:b==c with
  |true=>simp
  |false=>
   simp only[Bool.false_eq_true,if_false]
   rw[Nj c r (i+1)]
   by_cases u:Lib.indexByte r c=-1
   .simp[u]
   .have w:¬(Lib.indexByte r c==-1)=true:=by simpa using u
    rw[if_neg u,if_neg w,if_neg (by omega)]
    omega
noncomputable def WU(c:Nat)(n:Nat):Nat->Nat->(Nat->Bool)->Bool:=
 Nat.rec (motive:=λ_=>Nat->Nat->(Nat->Bool)->Bool) (λi _ k=>k i)
  (λ_ u i N k=>fN (N/256) λw=>bif Nat.beq (N%256) c then fN (Nat.succ i) λi=>u i w k else u i w k) n
theorem Hm{c:Nat}(u:c<256):∀(n i N:Nat)(k:Nat->Bool),WU c n i N k=k ((bl n N).foldl (λn x=>if x==UInt8.ofNat c then n+1 else n) i)
 |0,i,N,k=>rfl
 |n+1,i,N,k=>by
  show(fN (N/256) λw=>bif Nat.beq (N%256) c then fN (Nat.succ i) λi=>WU c n i w k else WU c n i w k)=_
  simp only[bl,List.foldl_cons]
  rw[yh (Nat.mod_lt _ (by omega)) u,jm]
  cases Nat.beq (N%256) c with
  |true=>simp only[cond_true,jm,if_true];exact Hm u n (i+1) (N/256) k
  |false=>simp only[cond_false,Bool.false_eq_true,if_false];exact Hm u n i (N/256) k
theorem A0(c:UInt8):∀(l:List UInt8)(n:Nat),l.foldl (λn x=>if x==c then n+1 else n) n=n+Lib.countByte l c
 |[],n=>by simp[Lib.countByte]
 |b::l,n=>by
  rw[List.foldl_cons,A0 c l]
  unfold Lib.countByte
  rw[List.count_cons]
  cases b==c<;>simp<;>omega
noncomputable def rZ(h:Hp)(b:Ps)(K:List V->eK->Nat->Bool->Bool):Bool:=qJ b h.t λu=>(match u with|.cells c el es op false=>K c el es op|_=>false)
noncomputable def wW(h:Hp)(b:Ps)(o:Nat)(c:List V)(u:eK)(es:Nat)(w:Bool)(v:V)(K:Hp->Bool):Bool:=Mm c o v λc=>rq (.cells c u es w false) b h.t λt=>K ⟨t,h.nx,h.lo,h.hi⟩
noncomputable def Yl(v:V)(h:Hp)(K:V->Hp->Bool):Bool:=match v with|.int .u32 n=>K (.int .u32 n) h|_=>false
noncomputable def Yk(v:V)(K:Bool):Bool:=match v with|.int _ _=>K|_=>false
noncomputable def UH(h:Hp)(b:Ps)(o:Nat)(c:List V)(u:eK)(es:Nat)(w:Bool)(x:Int)(v:V)(y:V)(K:V->Hp->Bool):Bool:=
 match v with
 |.int .i32 z=>bif ND z x then wW h b o c u es w y λh=>K (.bool true) h else K (.bool false) h
 |_=>false
noncomputable def Rh(h:Hp)(b:Ps)(o:Nat)(c:List V)(u:eK)(es:Nat)(w:Bool)(y:Int)(v:V)(K:V->Hp->Bool):Bool:=
 match v with
 |.int .i32 z=>fI (IntKind.i32.wrap (z+y)) λz=>wW h b o c u es w (.int .i32 z) λh=>K (.int .i32 z) h
 |_=>false
noncomputable def WL(k:Nt)(vs:List V)(h:Hp)(K:V->Hp->Bool):Bool:=
 match k,vs with
 |.same,[v]=>K v h
 |.byte,[.str n N,.int .u8 (.ofNat c)]=>bif Nat.blt c 256 then XG c n 0 N λi=>K (.int .i64 i) h else false
 |.count,[.str n N,.int .u8 (.ofNat c)]=>bif Nat.blt c 256 then WU c n 0 N λi=>K (.int .i64 (Int.ofNat i)) h else false
 |.AK u,[.int .i64 (.ofNat n)]=>bif Nat.blt n 1000000000 then zN [.any] n λcs=>xg h (.cells cs u 1 true false) λp h=>K (.jC p 1 n 0) h else false
 |.P0,[.ptr b o]=>rZ h b λc _ _ _=>Dt c o λv=>Yl v h K
 |.Pg,[.ptr b o,v]=>Yk v (rZ h b λc u es w=>wW h b o c u es w v λh=>K (.pZ []) h)
 |.WV,[.ptr b o,.int .i32 x,.int .i32 y]=>rZ h b λc u es w=>Dt c o λv=>UH h b o c u es w x v (.int .i32 y) K
 |.QH,[.ptr b o,.int .i32 y]=>rZ h b λc u es w=>Dt c o λv=>Rh h b o c u es w y v K
 |.AQ _,[]=>K (.pZ []) h
 |.AP _,[.ptr _ _]=>K (.pZ []) h
 |_,_=>false
theorem pW{b:Ps}{K:List V->eK->Nat->Bool->Bool}(u:rZ h b K=true):∃c w es I,look b h.t=some (.cells c w es I false)/\K c w es I=true:=by
 unfold rZ at u
 obtain⟨O,N,u⟩:=jl u
 split at u
 .exact⟨_,_,_,_,N,u⟩
 .cases u
theorem tY(r:R ρ M U h H){b:Ps}{o:Nat}{c:List V}{O:eK}{es:Nat}{W:Bool}(Y:look b h.t=some (.cells c O es W false)){I w kap:Nat}(hρ:ρ b=some (I,w,kap)){v:V}{x:dB}(Z:Dn ρ M v x){K:Hp->Bool}(N:wW h b o c O es W v K=true):
 (∃u,dL H ⟨I,w+o,none⟩=some u)/\fH H ⟨I,w+o,none⟩=false/\∃h',K h'=true/\R ρ M U h' (gO H ⟨I,w+o,none⟩ x):=by
 unfold wW at N
 obtain⟨hj,N⟩:=Ao N
 rw[lD] at N
 obtain⟨a1,a2,a3⟩:=r.write Y hρ hj Z
 exact⟨a1,a2,_,N,a3⟩
theorem OP(hp:fF P=true){f:jt}{k:Nt}(hk:wc P f k)(r:R ρ M U h H){vs:List V}{xs:List dB}(hd:jZ ρ M vs xs){K:V->Hp->Bool}(I:WL k vs h K=true):CW P f xs H (Af ρ M U K):=by
 obtain⟨fn,hf,hb,hn,Z,aB⟩:=hk.is
 have W:(fn.name== "runtime.NumGoroutine")=false:=sy hp hf
 unfold WL at I
 split at I
 .obtain⟨x,a,rfl,h1,Y⟩:=hd.il
  obtain rfl:=Y.mg
  exact Be hp hf hb hn Z λw O=>⟨x,w,rfl,ik.refl w,.mk (O▸r) h1 I⟩
 .rename_i n N c
  have Y:=fz I
  clear I
  obtain⟨hc,I⟩:=Y
  have hc:c<256:=by rw[Nat.blt_eq] at hc;exact hc
  obtain⟨x,a,rfl,h1,Y⟩:=hd.il
  obtain⟨y,a,rfl,h3,h4⟩:=Y.il
  obtain rfl:=h4.mg
  cases h1
  cases h3
  rw[Nl hc] at I
  refine Be hp hf hb hn Z λw O=>⟨.int .i64 (Lib.indexByte (bl n N) (UInt8.ofNat c)),w,Lib.run_indexByteString (P:=P) (strOf n N) (Int.ofNat c) w,ik.refl w,.mk (O▸r) (.int .i64 _) ?_⟩
  rw[Nj] at I
  have:Lib.indexByte (bl n N) (UInt8.ofNat c)=if Lib.indexByte (bl n N) (UInt8.ofNat c)=-1 then-1 else Lib.indexByte (bl n N) (UInt8.ofNat c)+(0:Nat):=by
   split<;>omega
  rw[this]
  exact I
 .rename_i n N c
  have Y:=fz I
  clear I
  obtain⟨hc,I⟩:=Y
  have hc:c<256:=by rw[Nat.blt_eq] at hc;exact hc
  obtain⟨x,a,rfl,h1,Y⟩:=hd.il
  obtain⟨y,a,rfl,h3,h4⟩:=Y.il
  obtain rfl:=h4.mg
  cases h1
  cases h3
  rw[Hm hc,A0,Nat.zero_add] at I
  exact Be hp hf hb hn Z λw O=>⟨.int .i64 (Int.ofNat (Lib.countByte (bl n N) (UInt8.ofNat c))),w,Lib.run_countString (P:=P) (strOf n N) (Int.ofNat c) w,ik.refl w,.mk (O▸r) (.int .i64 _) I⟩
 .rename_i el n
  have Y:=fz I
  clear I
  obtain⟨hc,I⟩:=Y
  have hc:n<1000000000:=by rw[Nat.blt_eq] at hc;exact hc
  obtain⟨x,a,rfl,h1,Y⟩:=hd.il
  obtain rfl:=Y.mg
  cases h1
  rw[ux] at I
  obtain⟨q,hq,I⟩:=lL I
  obtain⟨t,ht,hu⟩:=aB
  refine Be hp hf hb hn Z λw O=>?_
  obtain⟨cs,hr,aQ,_⟩:=Lib.run_makeNoZero (P:=P) w fn.params t el hu n (by omega)
  refine⟨_,_,by show((Extern.BytealgMakeNoZero.makeNoZero fn.params fn.resultTypes) #[.int .i64 (n:Int)]).run P w=_;rw[ht];exact hr,((ik.drew w).trans (ik.drew _)).trans (ik.alloc _ _),?_⟩
  subst O
  have aD:K6 ρ M 0 cs.size (.cells (List.replicate n [V.any]).flatten el 1 true false) (.cells cs el):=by
   refine⟨cs,(0,0),rfl,λj v hv=>?_,?_,?_,λ_=>.inl rfl,λh=>by cases h⟩
   .have hj:j<n:=by have:=(List.getElem?_eq_some_iff.1 hv).1;simpa using this
    have hv:v=.any:=by
     have:=List.mem_of_getElem? hv
     simp at this
     exact this.2
    subst hv
    exact⟨cs[j]'(by omega),by rw[Nat.zero_add];exact Array.getElem?_eq_getElem _,.any _⟩
   .simp only[tm,cond_true];simp;omega
   .simp only[tm,cond_true];omega
  refine⟨_,_,_,r.mV hq (w.heap.size,0,cs.size),r.alloc hq cs.size q aD,?_,I⟩
  have:=Dn.jC (M:=M) (es:=1) (l:=n) (d:=0) (lO ρ (.i h.nx) (w.heap.size,0,cs.size)) (by omega)
  simpa using this
 .rename_i b o
  have h9:=pW I
  clear I
  obtain⟨c,el,es,op,ab,h9⟩:=h9
  obtain⟨v,hv,I⟩:=qw h9
  clear h9
  obtain⟨x,a,rfl,h1,Y⟩:=hd.il
  obtain rfl:=Y.mg
  cases h1 with
  |ptr hρ=>
  rename_i ar an kap
  obtain⟨x,hx,aE⟩:=r.read ab hρ hv
  unfold Yl at I
  split at I
  .cases aE
   exact .inr λw O=>⟨_,w,run_call_load hf W hb hn .u32 Z (cell_of O hx),ik.refl w,.mk (O▸r) (.int _ _) I⟩
  .cases I
 .rename_i b o v
  unfold Yk at I
  split at I
  .rename_i kk n
   obtain⟨c,el,es,op,ab,I⟩:=pW I
   obtain⟨x,a,rfl,h1,Y⟩:=hd.il
   obtain⟨y,a,rfl,h3,h4⟩:=Y.il
   obtain rfl:=h4.mg
   cases h1 with
   |ptr hρ=>
   rename_i ar an kap
   obtain⟨⟨u,hu⟩,ak,h',ap,r'⟩:=tY r ab hρ h3 I
   cases h3
   refine .inr λw O=>⟨_,_,run_call_store hf W hb hn Z (cell_of O hu) (by rw[qy,O,ak]),ik.setCell _ _ _,?_⟩
   rw[nX,O]
   exact .mk r' pv ap
  .cases I
 .rename_i b o x y
  have h9:=pW I
  clear I
  obtain⟨c,el,es,op,ab,h9⟩:=h9
  obtain⟨v,hv,I⟩:=qw h9
  clear h9
  obtain⟨x1,a,rfl,h1,Y⟩:=hd.il
  obtain⟨x2,a,rfl,h3,h4⟩:=Y.il
  obtain⟨x3,a,rfl,h5,h6⟩:=h4.il
  obtain rfl:=h6.mg
  cases h1 with
  |ptr hρ=>
  rename_i ar an kap
  cases h3
  cases h5
  obtain⟨u,hu,ax⟩:=r.read ab hρ hv
  have ak:fH H ⟨ar,an+o,none⟩=false:=(r.write ab hρ (List.getElem?_eq_some_iff.1 hv).1 (.int .i32 y)).2.1
  unfold UH at I
  split at I
  .rename_i z
   cases ax
   cases he:ND z x with
   |true=>
    rw[he] at I
    simp only[cond_true] at I
    have ay:z=x:=by rw[vT,decide_eq_true_eq] at he;exact he
    subst ay
    obtain⟨_,_,h',ap,r'⟩:=tY r ab hρ (.int .i32 y) I
    refine .inr λw O=>⟨_,_,run_call_cas_hit hf W hb hn .i32 Z (cell_of O hu) (by rw[qy,O,ak]),ik.setCell _ _ _,?_⟩
    rw[nX,O]
    exact .mk r' (.bool true) ap
   |false=>
    rw[he] at I
    simp only[cond_false] at I
    have ay:¬z=x:=by rw[vT,decide_eq_false_iff_not] at he;exact he
    exact .inr λw O=>⟨_,w,run_call_cas_miss hf W hb hn .i32 Z (cell_of O hu) (by rw[qy,O,ak]) ay,ik.refl w,.mk (O▸r) (.bool false) I⟩
  .cases I
 .rename_i b o y
  have h9:=pW I
  clear I
  obtain⟨c,el,es,op,ab,h9⟩:=h9
  obtain⟨v,hv,I⟩:=qw h9
  clear h9
  obtain⟨x1,a,rfl,h1,Y⟩:=hd.il
  obtain⟨x2,a,rfl,h3,h4⟩:=Y.il
  obtain rfl:=h4.mg
  cases h1 with
  |ptr hρ=>
  rename_i ar an kap
  cases h3
  obtain⟨u,hu,ax⟩:=r.read ab hρ hv
  unfold Rh at I
  split at I
  .rename_i z
   cases ax
   rw[A6] at I
   obtain⟨_,ak,h',ap,r'⟩:=tY r ab hρ (.int .i32 _) I
   refine .inr λw O=>⟨_,_,run_call_add hf W hb hn .i32 Z (cell_of O hu) (by rw[qy,O,ak]) rfl,ik.setCell _ _ _,?_⟩
   rw[nX,O]
   exact .mk r' (.int .i32 _) ap
  .cases I
 .rename_i on
  obtain rfl:=hd.mg
  refine .inr λw O=>⟨.tuple #[],w,?_,ik.refl w,.mk (O▸r) pv I⟩
  cases on with
  |true=>exact run_call_mark0 hf W hb hn .enable Z w
  |false=>exact run_call_mark0 hf W hb hn .disable Z w
 .rename_i aG b o
  obtain⟨x1,a,rfl,h1,Y⟩:=hd.il
  obtain rfl:=Y.mg
  cases h1 with
  |ptr hρ=>
  refine .inr λw O=>⟨.tuple #[],w,?_,ik.refl w,.mk (O▸r) pv I⟩
  cases aG with
  |true=>exact run_call_marked hf W hb hn .releaseMerge Z _ w
  |false=>exact run_call_marked hf W hb hn .acquire Z _ w
 .cases I
noncomputable def MX(l:List (jt×Nt)):ve:=λ_ _ f vs h K=>
 List.rec (motive:=λ_=>Bool) false (λx _ u=>bif Nat.beq x.1 f then WL x.2 vs h K else u) l
theorem MW(O:fF P=true){l:List (jt×Nt)}(I:∀x∈l,wc P x.1 x.2):vA P M (MX l):=by
 intro N W _ _ ρ U h H f vs xs K r Y u
 induction l with
 |nil=>cases u
 |cons x l Z=>
  replace u:(bif Nat.beq x.1 f then WL x.2 vs h K else MX l N W f vs h K)=true:=u
  cases w:Nat.beq x.1 f with
  |true=>
   rw[w] at u
   have:=Nat.eq_of_beq_eq_true w
   subst this
   exact OP O (I x (by simp)) r Y u
  |false=>
   rw[w] at u
   exact Z (λy hy=>I y (by simp[hy])) u
end Go.X
namespace Go.X
open Go.Ex
variable {P:eQ} {ρ:jF} {M:Nat} {U:Un} {h:Hp} {H:dw}
def fE(u v:V):Bool:=
 match u,v with
 |.int k n,.int k' n'=>Ck k k'&&ND n n'
 |.bool a,.bool b=>!(xor a b)
 |.str n N,.str m N'=>Nat.beq n m&&Nat.beq N N'
 |.sC,.sC|.mH,.mH|.sD,.sD|.yi,.yi|.xf,.xf|.any,.any|.QC,.QC=>true
 |_,_=>false
def flat:V->Bool
 |.int _ _|.bool _|.str _ _|.sC|.mH|.sD|.yi|.xf|.any|.QC=>true
 |_=>false
theorem DM{u v:V}(h:fE u v=true):u=v/\flat u=true:=by
 unfold fE at h
 split at h
 .obtain⟨I,w⟩:=jr h;rw[vT,decide_eq_true_eq] at w;exact⟨by rw[zE I,w],rfl⟩
 .rename_i a b;cases a<;>cases b<;>first|exact⟨rfl,rfl⟩|cases h
 .obtain⟨I,w⟩:=jr h;exact⟨by rw[Nat.eq_of_beq_eq_true I,Nat.eq_of_beq_eq_true w],rfl⟩
 all_goals first
  |exact⟨rfl,rfl⟩
  |cases h
theorem DI{ρ ρ':jF}{v:V}{x:dB}(u:flat v=true)(h:Dn ρ M v x):Dn ρ' M v x:=by
 cases h with
 |int=>exact .int _ _
 |bool=>exact .bool _
 |str=>exact .str _ _
 |sC=>exact .sC
 |mH=>exact .mH
 |sD=>exact .sD
 |yi=>exact .yi
 |xf=>exact .xf
 |any=>exact .any _
 |QC=>exact .QC _
 |_=>cases u
noncomputable def lE(l m:List V):Bool:=List.rec (motive:=λ_=>List V->Bool) (λm=>match m with|[]=>true|_=>false) (λu _ w m=>match m with|v::m=>fE u v&&w m|[]=>false) l m
theorem SV:∀{l m:List V},lE l m=true->l=m/\∀v∈l,flat v=true:=by
 intro l
 induction l with
 |nil=>intro m h;cases m with
  |nil=>exact⟨rfl,by simp⟩
  |cons=>cases h
 |cons u l N=>intro m h;cases m with
  |nil=>cases h
  |cons v m=>
   obtain⟨O,W⟩:=jr (show(fE u v&&lE l m)=true from h)
   obtain⟨rfl,Y⟩:=DM O
   obtain⟨rfl,Z⟩:=N W
   exact⟨rfl,λw I=>by rcases List.mem_cons.1 I with rfl|I;exact Y;exact Z w I⟩
noncomputable def oE(a b:Option Ob):Bool:=
 match a,b with
 |none,none=>true
 |some (.cells c el es op ro),some (.cells c' Qj Ut YN YI)=>lE c c'&&Nat.beq el Qj&&Nat.beq es Ut&&!(xor op YN)&&!(xor ro YI)
 |_,_=>false
def DJ:Ob->Prop
 |.cells c _ _ _ _=>∀v∈c,flat v=true
 |_=>False
theorem SF{a b:Option Ob}(h:oE a b=true):a=b/\∀o,a=some o->DJ o:=by
 unfold oE at h
 split at h
 .exact⟨rfl,λo h=>by cases h⟩
 .rename_i c el es I N c' ah ai u w
  obtain⟨h,O⟩:=jr h
  obtain⟨h,W⟩:=jr h
  obtain⟨h,Y⟩:=jr h
  obtain⟨Z,h2⟩:=jr h
  obtain⟨rfl,hf⟩:=SV Z
  have e2:=Nat.eq_of_beq_eq_true h2
  have e3:=Nat.eq_of_beq_eq_true Y
  subst e2 e3
  have e4:I=u:=by cases I<;>cases u<;>first|rfl|cases W
  have e5:N=w:=by cases N<;>cases w<;>first|rfl|cases O
  subst e4 e5
  exact⟨rfl,λo ho=>by cases ho;exact hf⟩
 .cases h
noncomputable def JU(a b:Tr Ob):Bool:=
 Tr.rec (motive:=λ_=>Tr Ob->Bool) (λb=>Tr.rec (motive:=λ_=>Bool) true (λ_ _ _ _ _=>false) b)
  (λ_ v _ u w b=>Tr.rec (motive:=λ_=>Bool) false (λl I r _ _=>u l&&oE v I&&w r) b) a b
theorem C3:∀{a b:Tr Ob},JU a b=true->a=b/\∀p o,look p a=some o->DJ o:=by
 intro a
 induction a with
 |lf=>intro b h;cases b with
  |lf=>exact⟨rfl,λp o h=>by rw[kf] at h;cases h⟩
  |nd=>cases h
 |nd l v r w I=>intro b h;cases b with
  |lf=>cases h
  |nd N O W=>
   obtain⟨h,Y⟩:=jr (show(JU l N&&oE v O&&JU r W)=true from h)
   obtain⟨Z,h2⟩:=jr h
   obtain⟨rfl,f1⟩:=w Z
   obtain⟨rfl,f2⟩:=SF h2
   obtain⟨rfl,f3⟩:=I Y
   refine⟨rfl,λp o u=>?_⟩
   cases p with
   |h=>exact f2 o u
   |o p=>exact f1 p o u
   |i p=>exact f3 p o u
noncomputable def vo(t:Tr Ob):Tr Ob:=Tr.rec (motive:=λ_=>Tr Ob) .lf (λl _ _ _ _=>l) t
theorem AR(q:Ps)(t:Tr Ob):look q (vo t)=look (.o q) t:=by
 cases t with
 |lf=>exact kf q
 |nd l v r=>rfl
theorem CW.mono{f:jt}{xs:List dB}{Y I:dB->dw->Prop}(h:CW P f xs H Y)(Z:∀u H',Y u H'->I u H'):CW P f xs H I:=by
 rcases h with⟨fn,hf,hb,h⟩|h
 .exact .inl ⟨fn,hf,hb,λw N=>(h w N).mono λe w'⟨v,he,O,W⟩=>⟨v,he,O,Z _ _ W⟩⟩
 .exact .inr λw N=>let⟨u,w',hr,O,W⟩:=h w N;⟨u,w',hr,O,Z _ _ W⟩
theorem K6.RE{ρ ρ':jF}{u kap:Nat}{o:Ob}{x:Obj}(w:DJ o)(h:K6 ρ M u kap o x):K6 ρ' M u kap o x:=by
 cases o with
 |cells c el es op ro=>
  obtain⟨I,N,W,Y,Z⟩:=h
  exact⟨I,N,W,λj v O=>let⟨y,hy,hd⟩:=Y j v O;⟨y,hy,DI (w v (List.mem_of_getElem? O)) hd⟩,Z⟩
 |_=>exact w.elim
noncomputable def Fp(G:Tr Ob)(u hi:Nat):Hp:=⟨.nd G none .lf,.h,u,hi⟩
noncomputable def wV(G:Tr Ob)(u:V):V->Hp->Bool:=λv w=>fE v u&&JU (vo w.t) G
theorem PV{cf:fQ}(ax:jb P M cf){f:jt}{vs:List V}{G:Tr Ob}{lo hi:Nat}{an:V}(ap:cf f vs (Fp G lo hi) (wV G an)=true)(hG:JU G G=true)(ay:∀v∈vs,flat v=true)
 {xs:List dB}(r:R ρ M U h H)(hd:jZ ρ M vs xs)(Y:∀q o,look q G=some o->look (.o q) h.t=some o)(aA:lo<=h.lo)(aB:h.hi<=hi){K:V->Hp->Bool}(hk:K an h=true):CW P f xs H (Af ρ M U K):=by
 classical
 have ab:=(C3 hG).2
 have I:∀o,DJ o->live o:=λo ho=>by cases o<;>first|trivial|exact ho.elim
 let ρ0:jF:=λp=>match p with|.o q=>ρ (.o q)|_=>none
 let ad:Nat->Prop:=λi=>∃q o N w kap,look q G=some o/\ρ (.o q)=some (N,w,kap)/\N=i
 let U0:Un:=λi=>if ad i then none else H[i]?
 have ag:∀b o,look b (Fp G lo hi).t=some o->∃q,b=.o q/\look q G=some o:=by
  intro b o Z
  cases b with
  |h=>cases Z
  |o q=>exact⟨q,rfl,Z⟩
  |i q=>have:look q (Tr.lf:Tr Ob)=some o:=Z;rw[kf] at this;cases this
 have r0:R ρ0 M U0 (Fp G lo hi) H:=by
  refine⟨λg=>r.gl g,λp hp=>absurd rfl hp,λb o Z hl=>?_,λb b' o o' x x' h1 h2 l1 l2 e1 e2 e=>?_,λi o hi=>?_,?_,?_⟩
  .obtain⟨q,rfl,O⟩:=ag b o Z
   obtain⟨N,w,kap,x,W,q2,q3,q4⟩:=r.ob (.o q) o (Y q o O) hl
   exact⟨N,w,kap,x,W,q2,if_pos ⟨q,o,N,w,kap,O,W,rfl⟩,q4.RE (ab q o O)⟩
  .obtain⟨q,rfl,O⟩:=ag b o h1
   obtain⟨q',rfl,aC⟩:=ag b' o' h2
   exact r.inj _ _ _ _ _ _ (Y q o O) (Y q' o' aC) l1 l2 e1 e2 e
  .simp only[U0] at hi
   split at hi
   .cases hi
   .exact hi
  .exact⟨Nat.le_trans aA r.bd.1,Nat.le_trans r.bd.2 aB⟩
  .obtain⟨t,fr,m,hm⟩:=r.ml
   refine⟨t,fr,m,?_⟩
   show(if ad Qe then none else H[Qe]?)=_
   rw[if_neg]
   .exact r.un _ _ hm
   .rintro⟨q,o',ac,ae,aj,O,hρ,hi⟩
    obtain⟨N,w,kap,x,W,q2,q3,q4⟩:=r.ob _ _ (Y q o' O) (I _ (ab q o' O))
    rw[hρ] at W
    cases W
    rw[hi,hm] at q3
    cases q3
 have aE:jZ ρ0 M vs xs:=⟨hd.1,λi v x hv hx=>DI (ay v (List.mem_of_getElem? hv)) (hd.2 i v x hv hx)⟩
 refine(ax ρ0 U0 _ H f vs xs _ r0 aE ap).mono λu H'⟨ρ1,v,h1,hl,r1,aG,ao⟩=>?_
 unfold wV at ao
 obtain⟨k1,k2⟩:=jr ao
 obtain⟨rfl,aH⟩:=DM k1
 have e2:=(C3 k2).1
 refine⟨ρ,v,h,Le.refl _,⟨r.gl,r.NL,λb o Z ak=>?_,r.inj,λi o hi=>?_,r.bd,r.ml⟩,DI aH aG,hk⟩
 .obtain⟨N,w,kap,x,W,q2,q3,q4⟩:=r.ob b o Z ak
  by_cases hg:ad N
  .obtain⟨q,o',ac,ae,aj,O,hρ,rfl⟩:=hg
   have aJ:=r.inj _ _ _ _ _ _ Z (Y q o' O) ak (I _ (ab q o' O)) W hρ rfl
   subst aJ
   have:o=o':=by have:=Y q o' O;rw[Z] at this;exact Option.some.inj this
   subst this
   have aK:look (.o q) h1.t=some o:=by rw[<-AR,e2];exact O
   obtain⟨a5,aO,a6,x1,s1,s2,s3,s4⟩:=r1.ob _ _ aK ak
   have:=hl (.o q) (ac,w,kap) W
   rw[this] at s1
   cases s1
   exact⟨_,_,_,x1,W,s2,q3,s4.RE (ab q o O)⟩
  .have:U0 N=some x:=by simp only[U0];rw[if_neg hg];exact q2
   exact⟨N,w,kap,x,W,r1.un _ _ this,q3,q4⟩
 .have aM:¬ad i:=by
   rintro⟨q,o',ac,ae,aj,O,hρ,rfl⟩
   obtain⟨N,w,kap,x,W,q2,q3,q4⟩:=r.ob _ _ (Y q o' O) (I _ (ab q o' O))
   rw[hρ] at W
   cases W
   rw[hi] at q3
   cases q3
  exact r1.un i o (by simp only[U0];rw[if_neg aM];exact r.un i o hi)
end Go.X
namespace Go.X
open Go.Ex
variable {P:eQ} {ρ:jF} {M:Nat} {U:Un} {h:Hp} {H:dw}
noncomputable def XF(m p S:Nat)(n:Nat):Nat->Nat->(Int->Bool)->Bool:=
 Nat.rec (motive:=λ_=>Nat->Nat->(Int->Bool)->Bool) (λ_ _ k=>k (-1))
  (λn u i N k=>bif Nat.ble m (Nat.succ n)&&Nat.beq (N%p) S then fN i λi=>k (Int.ofNat i) else fN (N/256) λN=>fN (Nat.succ i) λi=>u i N k) n
theorem MJ:∀(m n S N:Nat),(bl m S).isPrefixOf (bl n N)=(Nat.ble m n&&Nat.beq (N%256^m) (S%256^m))
 |0,n,S,N=>by
  have:Nat.ble 0 n=true:=by simp
  simp[bl,Nat.mod_one,this]
 |m+1,0,S,N=>by
  have:Nat.ble (m+1) 0=false:=by cases h:Nat.ble (m+1) 0 with
   |false=>rfl
   |true=>have:=Nat.le_of_ble_eq_true h;omega
  rw[this]
  rfl
 |m+1,n+1,S,N=>by
  have W:Nat.ble (m+1) (n+1)=Nat.ble m n:=by
   cases h:Nat.ble m n with
   |true=>have:=Nat.le_of_ble_eq_true h;exact Nat.ble_eq_true_of_le (by omega)
   |false=>cases I:Nat.ble (m+1) (n+1) with
    |false=>rfl
    |true=>have:=Nat.le_of_ble_eq_true I;rw[Nat.ble_eq_true_of_le (by omega)] at h;cases h
  have u:∀N,N%256^(m+1)=N%256+256*((N/256)%256^m):=λN=>by
   rw[Nat.pow_succ,Nat.mul_comm,Nat.mod_mul]
  show(UInt8.ofNat (S%256)==UInt8.ofNat (N%256)&&(bl m (S/256)).isPrefixOf (bl n (N/256)))=_
  rw[MJ m n,W,yh (Nat.mod_lt _ (by omega)) (Nat.mod_lt _ (by omega)),u N,u S,ki,ki,ki]
  have Y:N%256<256:=Nat.mod_lt _ (by omega)
  have I:S%256<256:=Nat.mod_lt _ (by omega)
  by_cases w:S%256=N%256
  .by_cases O:N/256%256^m=S/256%256^m
   .rw[w,O];simp
   .have:¬(N%256+256*(N/256%256^m)=S%256+256*(S/256%256^m)):=by omega
    simp[w,O]
    intro _
    omega
  .have:¬(N%256+256*(N/256%256^m)=S%256+256*(S/256%256^m)):=by omega
   simp[w,this]
def Uq(u:List UInt8):List UInt8->Nat->Int
 |[],_=>-1
 |b::l,i=>if u.isPrefixOf (b::l) then(i:Int) else Uq u l (i+1)
theorem Nc(u:List UInt8)(I:u≠[]):∀(l:List UInt8)(i:Nat),Uq u l i=if Lib.index l u=-1 then-1 else Lib.index l u+i
 |[],i=>by cases u with
  |nil=>exact absurd rfl I
  |cons a t=>simp[Uq,Lib.index]
 |b::l,i=>by
  have O:=Lib.index_ge l u
  unfold Uq Lib.index
  cases h:u.isPrefixOf (b::l) with
  |true=>simp
  |false=>
   simp only[Bool.false_eq_true,if_false]
   rw[Nc u I l (i+1)]
   by_cases w:Lib.index l u=-1
   .simp[w]
   .have N:¬(Lib.index l u==-1)=true:=by simpa using w
    rw[if_neg w,if_neg N,if_neg (by omega)]
    omega
theorem Nf{m S:Nat}(u:S%256^m=S):∀(n i N:Nat)(k:Int->Bool),XF m (256^m) S n i N k=k (Uq (bl m S) (bl n N) i)
 |0,i,N,k=>rfl
 |n+1,i,N,k=>by
  show(bif Nat.ble m (Nat.succ n)&&Nat.beq (N%256^m) S then fN i λi=>k (Int.ofNat i) else fN (N/256) λN=>fN (Nat.succ i) λi=>XF m (256^m) S n i N k)=k (if(bl m S).isPrefixOf (bl (n+1) N)=true then(i:Int) else Uq (bl m S) (bl n (N/256)) (i+1))
  rw[MJ,u]
  cases Nat.ble m (n+1)&&Nat.beq (N%256^m) S with
  |true=>simp[jm]
  |false=>simp only[cond_false,jm,Bool.false_eq_true,if_false];exact Nf u n (i+1) (N/256) k
structure WD(P:eQ)(f:jt):Prop where
 body:∃fn,P.funcs[f]?=some fn/\fn.body.isSome=true
 calls:∀(s sub:dE)(m:Int)(w:fe),s.size<4294967281->w.cell? ⟨Qe,0,none⟩=some (.int .i64 m)->Calls P f #[.string s,.string sub] w λe w'=>e=.returned (.int .i64 (Lib.index s.data.toList sub.data.toList))/\w'=w
noncomputable def W9(vs:List V)(h:Hp)(K:V->Hp->Bool):Bool:=
 match vs with
 |[.str n N,.str m S]=>bif Nat.blt n 1000000000&&Nat.ble 1 m then fN (256^m) λp=>fN (S%p) λS=>XF m p S n 0 N λi=>K (.int .i64 i) h else false
 |_=>false
theorem OQ{f:jt}(Y:WD P f)(r:R ρ M U h H){vs:List V}{xs:List dB}(hd:jZ ρ M vs xs){K:V->Hp->Bool}(u:W9 vs h K=true):CW P f xs H (Af ρ M U K):=by
 unfold W9 at u
 split at u
 .rename_i n N m S
  have O:=fz u
  clear u
  obtain⟨Z,u⟩:=O
  simp only[Bool.and_eq_true,Nat.blt_eq] at Z
  obtain⟨hn,hm⟩:=Z
  have hm:=Nat.le_of_ble_eq_true hm
  obtain⟨t,fr,q,I⟩:=r.ml
  have I:=r.un _ _ I
  rw[jm,jm,Nf (Nat.mod_mod _ _)] at u
  have ab:dL H ⟨Qe,0,none⟩=some (.int .i64 q):=by unfold dL;simp only;rw[I];rfl
  obtain⟨x,a,rfl,h1,O⟩:=hd.il
  obtain⟨y,a,rfl,h3,h4⟩:=O.il
  obtain rfl:=h4.mg
  cases h1
  cases h3
  have W:bl m (S%256^m)=bl m S:=(DZ m _ _).2 (Nat.mod_mod _ _)
  have ac:bl m S≠[]:=λe=>by have:=congrArg List.length e;rw[DY] at this;simp at this;omega
  rw[W,Nc _ ac] at u
  obtain⟨fn,hf,ad⟩:=Y.body
  refine .inl ⟨fn,hf,ad,λw hw=>?_⟩
  refine(Y.calls (strOf n N) (strOf m S) q w (by rw[jx];omega) (cell_of hw ab)).mono ?_
  rintro e w' ⟨rfl,rfl⟩
  refine⟨_,rfl,ik.refl _,?_⟩
  rw[hw]
  refine .mk r (.int .i64 _) ?_
  have:Lib.index (bl n N) (bl m S)=if Lib.index (bl n N) (bl m S)=-1 then-1 else Lib.index (bl n N) (bl m S)+(0:Nat):=by split<;>omega
  show K (V.int .i64 (Lib.index (bl n N) (bl m S))) h=true
  rw[this]
  exact u
 .cases u
noncomputable def Oa(n:Nat)(p:Nat->Bool):Bool:=Nat.rec (motive:=λ_=>Bool) true (λi u=>u&&p i) n
theorem xN{p:Nat->Bool}:∀{n:Nat},Oa n p=true->∀i,i<n->p i=true
 |0,_,i,hi=>by omega
 |n+1,h,i,hi=>by
  obtain⟨u,w⟩:=jr (show(Oa n p&&p n)=true from h)
  rcases Nat.lt_or_ge i n with h|h
  .exact xN u i h
  .rw[show i=n by omega];exact w
noncomputable def Ej(hi:Nat)(mask:Nat)(vs:List V)(h:Hp)(K:V->Hp->Bool):Bool:=
 match vs with
 |[.int .i32 (.ofNat r)]=>bif Nat.blt r 128&&Nat.ble h.hi hi then fB (mask.testBit r) λb=>K (.bool b) h else false
 |_=>false
def D6(P:eQ)(M:Nat)(f:jt)(hi mask:Nat):Prop:=∃u:fQ,jb P M u/\∀r,r<128->u f [.int .i32 (.ofNat r)] (Fp .lf 0 hi) (wV .lf (.bool (mask.testBit r)))=true
theorem xZ{f:jt}{hi mask:Nat}(W:D6 P M f hi mask)(r:R ρ M U h H){vs:List V}{xs:List dB}(Y:jZ ρ M vs xs){K:V->Hp->Bool}(u:Ej hi mask vs h K=true):CW P f xs H (Af ρ M U K):=by
 unfold Ej at u
 split at u
 .rename_i n
  have Z:=fz u
  clear u
  obtain⟨I,u⟩:=Z
  simp only[Bool.and_eq_true,Nat.blt_eq] at I
  obtain⟨hn,hm⟩:=I
  rw[pI] at u
  obtain⟨cf,N,w⟩:=W
  exact PV N (w n hn) rfl (by simp[flat]) r Y (λq o O=>by rw[kf] at O;cases O) (Nat.zero_le _) (Nat.le_of_ble_eq_true hm) u
 .cases u
noncomputable def Vu{α:Type}(p:Ps)(t:Tr α):Option α:=
 Ps.rec (motive:=λ_=>Tr α->Option α) (λt=>Tr.rec (motive:=λ_=>Option α) none (λ_ v _ _ _=>v) t) (λ_ u t=>Tr.rec (motive:=λ_=>Option α) none (λl _ _ _ _=>u l) t)
  (λ_ u t=>Tr.rec (motive:=λ_=>Option α) none (λ_ _ r _ _=>u r) t) p t
noncomputable def VI(l:List (Nat×An))(i:Nat):An:=List.rec (motive:=λ_=>An) (.ord []) (λx _ u=>bif Nat.beq x.1 i then x.2 else u) l
noncomputable def VO(t:Tr (List (Nat×An)))(f:jt)(id:Nat):An:=match Vu (mX f) t with|some l=>VI l id|none=>.ord []
noncomputable def Cf(f₀:jt)(x:List V->Hp->(V->Hp->Bool)->Bool)(n:ve):ve:=λu w f vs h K=>bif Nat.beq f f₀ then x vs h K else n u w f vs h K
theorem xi{f₀:jt}{x:List V->Hp->(V->Hp->Bool)->Bool}{n:ve}(O:∀(ρ:jF)(U:Un)(h:Hp)(H:dw)(vs:List V)(xs:List dB)(K:V->Hp->Bool),R ρ M U h H->jZ ρ M vs xs->x vs h K=true->CW P f₀ xs H (Af ρ M U K))(W:vA P M n):vA P M (Cf f₀ x n):=by
 intro I Y Z hb ρ U h H f vs xs K r N u
 unfold Cf at u
 cases w:Nat.beq f f₀ with
 |true=>
  rw[w] at u
  rw[Nat.eq_of_beq_eq_true w]
  exact O ρ U h H vs xs K r N u
 |false=>
  rw[w] at u
  exact W I Y Z hb ρ U h H f vs xs K r N u
end Go.X
namespace Go.X
open Go.Ex
variable {P:eQ} {ρ:jF} {M:Nat} {U:Un} {h:Hp} {H:dw} {env:Tr V} {e:Env}
abbrev DL:=List (jt×List V)
inductive QY (ρ:jF) (M:Nat):DL->List Deferred->Prop where
 |nil:QY ρ M [] []
 |cons {f:jt} {vs:List V} {d:Deferred} {D:DL} {Ds:List Deferred} (h:d.target=.fn (.func f) #[]) (hd:jZ ρ M vs d.args.toList) (r:QY ρ M D Ds):QY ρ M ((f,vs)::D) (d::Ds)
theorem QY.mono{ρ ρ':jF}(w:Le ρ ρ'){D:DL}{Ds:List Deferred}(h:QY ρ M D Ds):QY ρ' M D Ds:=by
 induction h with
 |nil=>exact .nil
 |cons h u _ I=>exact .cons h ⟨u.1,λi v x a b=>(u.2 i v x a b).mono w⟩ I
abbrev KD:=Xt->Tr V->Hp->DL->Bool
def DD(l:List Oper):Option Call:=match l.getLast? with
 |some o=>(match o.op with|.defer c=>(match o.guard,o.dst with|none,none=>some c|_,_=>none)|_=>none)
 |none=>none
noncomputable def Gk(c:Call)(env:Tr V)(K:jt->List V->Bool):Bool:=match c.callee with|.value (.func f)=>xL env c.args.toList λvs=>K f vs|_=>false
noncomputable def UP(u:Xt)(env:Tr V)(h:Hp)(D:DL)(k:KD)(next:Bool):Bool:=match u with|.n=>next|.x i=>k (.x i) env h D|.r=>k .r env h D
noncomputable def stepG(P:eQ)(cf:fQ)(ord:Nat->An)(N:Nat)(u:Code->Tr V->Hp->DL->KD->Bool)(c:Code)(env:Tr V)(h:Hp)(D:DL)(k:KD):Bool:=
 match c with
 |.skip=>k .n env h D
 |.ret=>k .r env h D
 |.seq x y=>u x env h D λw env h D=>UP w env h D k (u y env h D k)
 |.cond c x y=>xo env c λv=>(match v with|.bool b=>(match b with|true=>u x env h D k|false=>u y env h D k)|_=>false)
 |.region id ops false=>(match DD ops.toList with
  |some cl=>bif ju N ops then py P cf ops ops.toList.dropLast env h λenv h=>Gk cl env λf vs=>k .n env h ((f,vs)::D) else false
  |none=>xC P cf ord N 2 (.region id ops false) env h λw env h=>k w env h D)
 |.region id ops true=>xC P cf ord N 2 (.region id ops true) env h λw env h=>k w env h D
 |_=>false
noncomputable def xG(P:eQ)(cf:fQ)(ord:Nat->An)(N n:Nat):Code->Tr V->Hp->DL->KD->Bool:=
 Nat.rec (motive:=λ_=>Code->Tr V->Hp->DL->KD->Bool) (λ_ _ _ _ _=>false) (λ_ u=>stepG P cf ord N u) n
def WG(ρ:jF)(M:Nat)(U:Un)(N:Nat)(w:fe)(k:KD)(Q:Exit->Act->fe->Prop):Prop:=
 ∀u env h D ρ' e Ds I w',k u env h D=true->Le ρ ρ'->E ρ' M env e->R ρ' M U h w'.heap->QY ρ' M D Ds->Mt N Ds I e->ik w w'->Q u.to' I w'
section
variable {cf:fQ} {ord:Nat->An} {N:Nat}
theorem qA{Ds:List Deferred}{ops:Array Oper}{Q:Exit->Act->fe->Prop}{K:Env->dw->Prop}{m:List Oper}(O:fF P=true)(W:ju N ops=true)(w₀:fe)
 (Y:∀a' w' e',Mt N Ds a' e'->ik w₀ w'->K e' w'.heap->wpList P ops Q m a' w'):
 ∀(l:List Oper)(i:Nat)(e:Env)(a:Act)(w:fe),(∀o∈l,o∈ops)->oz P ops l i e w.heap K->Mt N Ds a e->ik w₀ w->wpList P ops Q (l++m) a w
 |[],i,e,a,w,_,h,hm,hs=>Y a w e hm hs h
 |o::rest,i,e,a,w,hl,h,hm,hs=>by
  have ho:o∈ops:=hl o (by simp)
  have u:∀o∈rest,o∈ops:=λo' h'=>hl o' (by simp[h'])
  have Z:=uT W ho
  unfold oz at h
  split at h
  .exact h.elim
  .rename_i hw
   show wpList P ops Q (o::(rest++m)) a w
   unfold wpList
   rw[if_neg (by rw[jM hw (λt _=>hm.val t)];simp)]
   exact qA O W w₀ Y rest (i+1) _ _ w u h (hm.put _ Z _) hs
  .rename_i hw
   show wpList P ops Q (o::(rest++m)) a w
   unfold wpList
   rw[if_pos (jM hw (λt _=>hm.val t))]
   refine .inl ?_
   split at h
   .obtain⟨v,I,hr⟩:=kb h
    have I:=fZ I
    unfold Oper.wp
    rw[hr a.eval (hm.ot _) w]
    exact qA O W w₀ Y rest (i+1) _ _ w u I (hm.put _ Z _) hs
   .obtain⟨v,I,hr⟩:=ka h
    have I:=fZ I
    unfold Oper.wp
    rw[hr a.eval (hm.ot _) w rfl]
    exact qA O W w₀ Y rest (i+1) _ _ w u I (hm.put _ Z _) hs
   .refine nP O h (hm.ot _) w rfl ?_
    intro v w' ae I
    exact qA O W w₀ Y rest (i+1) _ _ w' u (fZ I) (hm.put _ Z _) (hs.trans ae)
theorem Fm{l:List Oper}{c:Call}(h:DD l=some c):∃o,l=l.dropLast++[o]/\o.op=.defer c/\o.guard=none/\o.dst=none:=by
 unfold DD at h
 split at h
 .rename_i o u
  split at h
  .rename_i c' I
   split at h
   .rename_i O W
    cases h
    refine⟨o,?_,I,O,W⟩
    have w:l≠[]:=λe=>by rw[e] at u;cases u
    rw[List.getLast?_eq_some_getLast w] at u
    have:=List.dropLast_concat_getLast w
    rw[Option.some.inj u] at this
    exact this.symm
   .cases h
  .cases h
 .cases h
theorem LI(hp:fF P=true)(ap:jb P M cf):∀(n:Nat)(c:Code)(env:Tr V)(h:Hp)(D:DL)(k:KD),xG P cf ord N n c env h D k=true->∀(ρ:jF)(e:Env)(Ds:List Deferred)(a:Act)(w:fe)(Q:Exit->Act->fe->Prop),E ρ M env e->R ρ M U h w.heap->QY ρ M D Ds->Mt N Ds a e->
 WG ρ M U N w k Q->c.wp P Q a w:=by
 intro n
 induction n with
 |zero=>intro c env h D k u;cases u
 |succ n ih=>
  intro c env h D k u ρ e Ds a w Q he r hD hm hg
  replace u:stepG P cf ord N (xG P cf ord N n) c env h D k=true:=u
  have ah:∀c,xC P cf ord N 2 c env h (λex env h=>k ex env h D)=true->c.wp P Q a w:=λc u=>
   zS (U:=U) hp ap 2 c env h _ u ρ e a w Q he r hm λex env h ρ' e Z w' O hl W r' I Y=>hg ex env h D ρ' e Ds Z w' O hl W r' (hD.mono hl) I Y
  unfold stepG at u
  split at u
  .exact wp_skip (hg .n _ _ _ ρ e Ds a w u (Le.refl _) he r hD hm (ik.refl w))
  .exact wp_ret (hg .r _ _ _ ρ e Ds a w u (Le.refl _) he r hD hm (ik.refl w))
  .rename_i x y
   refine wp_seq (ih x env h D _ u ρ e Ds a w _ he r hD hm ?_)
   intro ex ag h' D' ρ' e' aj Z w' O hl W r' ak I Y
   dsimp only at O
   unfold UP at O
   split at O
   .exact ih y ag h' D' k O ρ' e' aj Z w' Q W r' ak I λay au h2 D2 ρ2 e2 az a2 w2 aA aB aC r2 aD aE aF=>hg ay au h2 D2 ρ2 e2 az a2 w2 aA (hl.trans aB) aC r2 aD aE (Y.trans aF)
   .exact hg _ _ _ _ ρ' e' aj Z w' O hl W r' ak I Y
   .exact hg _ _ _ _ ρ' e' aj Z w' O hl W r' ak I Y
  .rename_i c x y
   obtain⟨v,y',hx,hd,u⟩:=gv he r.gl u
   split at u
   .cases hd
    split at u
    .exact wp_cond_true (hm.eval hx) (ih x env h D k u ρ e Ds a w Q he r hD hm hg)
    .exact wp_cond_false (hm.eval hx) (ih y env h D k u ρ e Ds a w Q he r hD hm hg)
   .cases u
  .rename_i id ops
   split at u
   .rename_i cl aH
    have h2:=fz u
    clear u
    obtain⟨hN,u⟩:=h2
    obtain⟨o,ao,aq,aI,aJ⟩:=Fm aH
    have aw:∀o'∈ops.toList.dropLast,o'∈ops:=λo' aK=>by simpa using List.dropLast_subset _ aK
    have aL:=zQ (U:=U) hp ap (ops:=ops) (K:=λenv h=>Gk cl env λf vs=>k .n env h ((f,vs)::D)) ops.toList.dropLast 0 ρ env h e w.heap u he r
    refine wp_region_list ?_
    rw[ao]
    refine qA hp hN w (m:=[o]) ?_ _ 0 e a w aw aL hm (ik.refl w)
    rintro Z w' e' I Y ⟨ρ',ag,h',hl,W,r',O⟩
    unfold Gk at O
    split at O
    .rename_i f hc
     obtain⟨vs,xs,aM,aO,O⟩:=tJ W r'.gl O
     unfold wpList
     rw[if_pos (by unfold Region.wanted;rw[aI])]
     refine .inl ?_
     have ea:=j9 aM (τ:=Z.eval) (λy hy=>by
      have:=I.ot o.op.operands.toList y
      exact this (by rw[aq];simp[Op.operands,Call.operands];simp at hy;exact .inr hy))
     have aQ:cl.args.map Z.eval=xs.toArray:=by rw[<-ea];cases cl.args;simp
     have ax:(execOp Z.eval o).run P w'=.ok (.defer {target:=.fn (.func f) #[],args:=xs.toArray}) w':=by
      unfold execOp
      rw[aq]
      simp only[resolve,hc,aQ]
      show Result.ok (Next.defer {target:=.fn (.func f) #[],args:=#[]++xs.toArray}) w'=_
      rw[Array.empty_append]
     unfold Oper.wp
     rw[ax,Oper.upon_defer,aJ]
     refine hg .n ag h' ((f,vs)::D) ρ' e' _ _ w' O hl W r' (.cons (d:={target:=.fn (.func f) #[],args:=xs.toArray}) rfl (by simpa using aO) (hD.mono hl)) ?_ Y
     exact⟨I.size,by show _::Z.defers=_;rw[I.defers],I.val⟩
    .cases O
   .exact ah _ u
  .exact ah _ u
  .cases u
end
noncomputable def EM(u:fQ)(D:DL)(h:Hp)(k:Hp->Bool):Bool:=List.rec (motive:=λ_=>Hp->Bool) (λh=>k h) (λd _ w h=>u d.1 d.2 h λ_ h=>w h) D h
theorem Kc(hp:fF P=true){Z:fQ}(hb:yG P M Z){fn:Func}{W:Array dB}{Rr:Ending->fe->Prop}{k:Hp->Bool}:∀(D:DL)(h:Hp)(ρ:jF)(Ds:List Deferred)(w:fe),EM Z D h k=true->R ρ M U h w.heap->QY ρ M D Ds->
 (∀ρ' h' w',Le ρ ρ'->R ρ' M U h' w'.heap->ik w w'->k h'=true->Leaves P fn W Rr [] .returning w')->Leaves P fn W Rr Ds .returning w:=by
 intro D
 induction D with
 |nil=>intro h ρ Ds w Y r hD I;cases hD;exact I ρ h w (Le.refl _) r (ik.refl w) Y
 |cons d D ih=>
  intro h ρ Ds w Y r hD I
  replace Y:(Z d.1 d.2 h λ_ h=>EM Z D h k)=true:=Y
  cases hD with
  |cons ht hd hr=>
  rename_i f vs d' Ds
  obtain⟨tg,O⟩:=d'
  simp only at ht hd
  subst ht
  obtain⟨aA,c,hf,hc,hw⟩:=hb ρ U h w.heap f vs O.toList _ r hd Y
  have hw:=hw w rfl
  refine leaves_cons (f:=f) (args:=O) (by simp) ?_ ?_
  .show(callFunc f (O++#[])).run P w=_
   rw[Array.append_empty]
   exact p9 hp hf (by rw[hc];rfl) O w
  .refine(callsD_of_wp hf hc (by simpa using hw)).mono ?_
   rintro e u' w' ⟨rfl,v,rfl,hs,ρ',u,h',hl,r',_,hk⟩
   exact ih h' ρ' Ds w' hk r' (hr.mono hl) λρ2 h2 w2 aj r2 ak am=>I ρ2 h2 w2 (hl.trans aj) r2 (hs.trans ak) am
noncomputable def LJ(P:eQ)(tF:jt->Nat->An)(f:jt)(w I:fQ)(vs:List V)(h:Hp)(K:V->Hp->Bool):Bool:=
 match P.funcs[f]? with
 |none=>false
 |some u=>(match u.body with
  |none=>false
  |some c=>tw vs λn=>bif Nat.ble n u.ntmps then CB vs 0 .lf λenv=>
   xG P w (tF f) u.ntmps 50 c env h [] λO env h D=>(match O with|.x _=>false|.n=>EM I D h λh=>vC P env h u.results.toList λr=>y1 r K h|.r=>EM I D h λh=>vC P env h u.results.toList λr=>y1 r K h) else false)
theorem JM(hp:fF P=true){tF:jt->Nat->An}{aa bd:fQ}(ih:jb P M aa)(hb:yG P M bd){f:jt}(r:R ρ M U h H){vs:List V}{xs:List dB}(hd:jZ ρ M vs xs){K:V->Hp->Bool}(u:LJ P tF f aa bd vs h K=true):CW P f xs H (Af ρ M U K):=by
 unfold LJ at u
 split at u
 .cases u
 .rename_i O hf
  split at u
  .cases u
  .rename_i c ab
   rw[mY] at u
   obtain⟨W,u⟩:=fz u
   have W:=Nat.le_of_ble_eq_true W
   refine .inl ⟨O,hf,by rw[ab];rfl,λw hw=>?_⟩
   have ao:xs.length=vs.length:=hd.1.symm
   obtain⟨env,u,he⟩:=u0 (ρ:=ρ) (M:=M) u (e:=vV O.ntmps xs) hd (λt v hv=>by rw[kf] at hv;cases hv) (λj x hx=>by
    have hj:=(List.getElem?_eq_some_iff.1 hx).1
    unfold vV
    rw[Nat.zero_add,show Nat.blt j xs.length=true by rw[Nat.blt_eq];exact hj]
    exact hx)
   refine calls_of_wp_defers hf ab ?_
   refine LI (U:=U) hp ih 50 c env h [] _ u ρ (vV O.ntmps xs) [] _ w _ he (by rw[hw];exact r) .nil (WO W ao) ?_
   intro ex ag h' D ρ' e' Ds Z w' I hl ar r' au ac av
   have ad:(EM bd D h' λh=>vC P ag h O.results.toList λr=>y1 r K h)=true->bodyPostD P O (λe w'=>∃v,e=.returned v/\ik w w'/\Af ρ M U K v w'.heap) .ret Z w':=by
    intro I
    show Leaves P O Z.tmps _ Z.defers .returning w'
    rw[ac.defers]
    refine Kc hp hb D h' ρ' Ds w' I r' au λρ2 h2 w2 ae r2 ax ay=>?_
    obtain⟨aK,Y,I,az,ai⟩:=tI (P:=P) (ar.mono ae) r2 ac.val ay
    obtain⟨v,aA,I⟩:=wU az I
    have aj:(results O Z.tmps).run P w2=.ok (if h:Y.toArray.size=1 then Y.toArray[0] else .tuple Y.toArray) w2:=by
     unfold results
     rw[Sem.run_bind,Array.mapM_eq_mapM_toList,Sem.run_map]
     rw[ai _ (λt=>rfl) (λa t=>rfl) w2 rfl]
     rfl
    exact⟨_,aj,_,rfl,av.trans ax,ρ2,v,h2,hl.trans ae,r2,aA,I⟩
   cases ex with
   |n=>exact ad I
   |x i=>cases I
   |r=>exact ad I
end Go.X
namespace Go.X
open Go.Ex
variable {P:eQ} {ρ:jF} {M:Nat} {U:Un} {h:Hp} {H:dw} {env:Tr V} {e:Env}
def FW(u:Option Nat):Fence:={Fence.wide with round:=u}
theorem B5{O:Option Nat}{n:Nat}{o:Oper}{a:Act}{w:fe}{next:Act->fe->Prop}{Q:Exit->Act->fe->Prop}(u:∀c,o.op≠.defer c)(h:o.wp P a w next Q):o.wpIn (FW O) n P a w next Q:=by
 refine⟨λ_ _=>trivial,?_⟩
 rw[Oper.semAt_eq _ _ _ u]
 unfold Oper.wp at h
 revert h
 generalize(execOp a.eval o).run P w=I
 intro h
 cases I with
 |ok W w'=>
  cases W with
  |enter f args=>exact⟨λu=>(by cases u),callsIn_wide.2 h⟩
  |row row args=>
   have Y:Rows P row args w' _:=h
   refine⟨λu=>(by cases u),λc cs _=>?_⟩
   obtain⟨v,Z,r,s⟩:=Y c cs
   exact⟨v,Z,r,stepsIn_wide.2 s⟩
  |round=>exact h.elim
  |_=>exact h
 |halt x w'=>cases x<;>first|exact h|exact h.elim
def E5(o:Oper):Bool:=match o.op with|.defer _=>false|_=>true
theorem E4{o:Oper}(h:E5 o=true):∀c,o.op≠.defer c:=λc u=>by unfold E5 at h;rw[u] at h;cases h
section
variable {cf:fQ} {N:Nat}
theorem ui{ro:Option Nat}{n:Nat}{Ds:List Deferred}{ops:Array Oper}{Q:Exit->Act->fe->Prop}{K:Env->dw->Prop}(W:fF P=true)(Y:ju N ops=true)(w₀:fe)
 (Z:∀a' w' e',Mt N Ds a' e'->ik w₀ w'->K e' w'.heap->Q .normal a' w'):
 ∀(l:List Oper)(i:Nat)(e:Env)(a:Act)(w:fe),(∀o∈l,o∈ops)->(∀o∈l,E5 o=true)->oz P ops l i e w.heap K->Mt N Ds a e->ik w₀ w->wpListIn (FW ro) n P ops Q l a w
 |[],i,e,a,w,_,_,h,hm,hs=>Z a w e hm hs h
 |o::rest,i,e,a,w,hl,XK,h,hm,hs=>by
  have ho:o∈ops:=hl o (by simp)
  have u:∀o∈rest,o∈ops:=λo' h'=>hl o' (by simp[h'])
  have I:∀o∈rest,E5 o=true:=λo' h'=>XK o' (by simp[h'])
  have af:=E4 (XK o (by simp))
  have hd:=uT Y ho
  unfold oz at h
  split at h
  .exact h.elim
  .rename_i hw
   unfold wpListIn
   rw[if_neg (by rw[jM hw (λt _=>hm.val t)];simp)]
   exact⟨λ_ _=>trivial,ui W Y w₀ Z rest (i+1) _ _ w u I h (hm.put _ hd _) hs⟩
  .rename_i hw
   unfold wpListIn
   rw[if_pos (jM hw (λt _=>hm.val t))]
   refine B5 af ?_
   split at h
   .obtain⟨v,O,hr⟩:=kb h
    have O:=fZ O
    unfold Oper.wp
    rw[hr a.eval (hm.ot _) w]
    exact ui W Y w₀ Z rest (i+1) _ _ w u I O (hm.put _ hd _) hs
   .obtain⟨v,O,hr⟩:=ka h
    have O:=fZ O
    unfold Oper.wp
    rw[hr a.eval (hm.ot _) w rfl]
    exact ui W Y w₀ Z rest (i+1) _ _ w u I O (hm.put _ hd _) hs
   .refine nP W h (hm.ot _) w rfl ?_
    intro v w' ag O
    exact ui W Y w₀ Z rest (i+1) _ _ w' u I (fZ O) (hm.put _ hd _) (hs.trans ag)
noncomputable def GF(P:eQ)(cf:fQ)(N:Nat)(u:Code->Tr V->Hp->KC->Bool)(c:Code)(env:Tr V)(h:Hp)(k:KC):Bool:=
 match c with
 |.skip=>k .n env h
 |.region _ ops false=>bif ju N ops&&ops.toList.all E5 then py P cf ops ops.toList env h λenv h=>k .n env h else false
 |.seq x y=>u x env h λw env h=>yX w env h k (u y env h k)
 |.cond c x y=>xo env c λv=>(match v with|.bool b=>(match b with|true=>u x env h k|false=>u y env h k)|_=>false)
 |.block id x=>u x env h λw env h=>Hv id w env h k
 |_=>false
noncomputable def WK(P:eQ)(cf:fQ)(N n:Nat):Code->Tr V->Hp->KC->Bool:=
 Nat.rec (motive:=λ_=>Code->Tr V->Hp->KC->Bool) (λ_ _ _ _=>false) (λ_ u=>GF P cf N u) n
theorem B1(hp:fF P=true)(ao:jb P M cf){ro:Option Nat}{m:Nat}{Ds:List Deferred}:∀(n:Nat)(c:Code)(env:Tr V)(h:Hp)(k:KC),WK P cf N n c env h k=true->∀(ρ:jF)(e:Env)(a:Act)(w:fe)(Q:Exit->Act->fe->Prop),E ρ M env e->R ρ M U h w.heap->Mt N Ds a e->
 Goal ρ M U N Ds w k Q->c.wpIn (FW ro) m P Q a w:=by
 intro n
 induction n with
 |zero=>intro c env h k u;cases u
 |succ n ih=>
  intro c env h k u ρ e a w Q he r hm hg
  replace u:GF P cf N (WK P cf N n) c env h k=true:=u
  unfold GF at u
  split at u
  .exact wpIn_skip (hg .n _ _ ρ e a w u (Le.refl _) he r hm (ik.refl w))
  .rename_i id ops
   have h2:=fz u
   clear u
   obtain⟨hN,u⟩:=h2
   obtain⟨hN,ap⟩:=jr hN
   have:=zQ (U:=U) hp ao (ops:=ops) (K:=λenv h=>k .n env h) ops.toList 0 ρ env h e w.heap u he r
   refine wpIn_region_list (ui hp hN w (λZ w' e' O W⟨ρ',ag,h',hl,Y,r',I⟩=>hg .n _ _ ρ' e' Z w' I hl Y r' O W) ops.toList 0 e a w (λo ho=>by simpa using ho) (λo ho=>List.all_eq_true.1 ap o ho) this hm (ik.refl w))
  .rename_i x y
   refine wpIn_seq (ih x env h _ u ρ e a w _ he r hm ?_)
   intro ex ag h' ρ' e' Z w' I hl Y r' O W
   dsimp only at I
   unfold yX at I
   split at I
   .exact ih y ag h' k I ρ' e' Z w' Q Y r' O λaq am h2 ρ2 e2 a2 w2 ar au av r2 aw ax=>hg aq am h2 ρ2 e2 a2 w2 ar (hl.trans au) av r2 aw (W.trans ax)
   .exact hg _ _ _ ρ' e' Z w' I hl Y r' O W
   .exact hg _ _ _ ρ' e' Z w' I hl Y r' O W
  .rename_i c x y
   obtain⟨v,y',hx,hd,u⟩:=gv he r.gl u
   split at u
   .cases hd
    split at u
    .exact wpIn_cond_true (hm.eval hx) (ih x env h k u ρ e a w Q he r hm hg)
    .exact wpIn_cond_false (hm.eval hx) (ih y env h k u ρ e a w Q he r hm hg)
   .cases u
  .rename_i id x
   refine wpIn_block (ih x env h _ u ρ e a w _ he r hm ?_)
   intro ex ag h' ρ' e' Z w' I hl Y r' O W
   dsimp only at I
   unfold Hv at I
   split at I
   .exact hg .n _ _ ρ' e' Z w' I hl Y r' O W
   .rename_i i
    show if i=id then Q .normal Z w' else Q (.exit i) Z w'
    by_cases hi:i=id
    .subst hi
     rw[if_pos rfl]
     rw[show Nat.beq i i=true by simp] at I
     exact hg .n _ _ ρ' e' Z w' I hl Y r' O W
    .rw[if_neg hi]
     rw[ki,decide_eq_false hi] at I
     exact hg (.x i) _ _ ρ' e' Z w' I hl Y r' O W
   .exact hg .r _ _ ρ' e' Z w' I hl Y r' O W
  .cases u
end
theorem R.PG(r:R ρ M U h H){l:Nat}{x:Obj}(w:U l=some x)(Y:∀cs t I,x≠.cells cs t I)(y:Obj):R ρ M (λi=>if i=l then some y else U i) h (H.setIfInBounds l y):=by
 have Z:l<H.size:=(Array.getElem?_eq_some_iff.1 (r.un l x w)).1
 refine⟨r.gl,r.NL,λb o hb hv=>?_,r.inj,λi o hi=>?_,r.bd,?_⟩
 .obtain⟨b1,b2,b3,z,q1,q2,O,q4⟩:=r.ob b o hb hv
  have u:b1≠l:=λe=>by rw[e,w] at O;cases O
  exact⟨b1,b2,b3,z,q1,by rw[Array.getElem?_setIfInBounds_ne (Ne.symm u)];exact q2,by rw[if_neg u];exact O,q4⟩
 .by_cases e:i=l
  .subst e
   rw[if_pos rfl] at hi
   cases hi
   simp[Z]
  .rw[if_neg e] at hi
   rw[Array.getElem?_setIfInBounds_ne (Ne.symm e)]
   exact r.un i o hi
 .obtain⟨t,I,m,W⟩:=r.ml
  refine⟨t,I,m,?_⟩
  show(if Qe=l then some y else U Qe)=_
  rw[if_neg (λe=>by rw[e,w] at W;cases W;exact Y _ _ _ rfl)]
  exact W
theorem R.Rj{u:Un}(r:R ρ M U h H)(w:T8 u)(I:∀i,U i=none->u i=none)(O:∀i o,u i=some o->H[i]?=some o):R ρ M u h H:=
 ⟨r.gl,r.NL,λb o W Y=>let⟨Z,b2,b3,z,q1,q2,q3,q4⟩:=r.ob b o W Y;⟨Z,b2,b3,z,q1,q2,I _ q3,q4⟩,r.inj,O,r.bd,w⟩
theorem Db(w:fe)(l:Nat)(o:Obj):ik w (w.putObj l o):=⟨rfl,rfl,rfl⟩
theorem R.IN(r:R ρ M U h H){p:Ps}(hp:look (.i p) h.t=none)(x:Nat×Nat×Nat)(q:Ps):R (ext ρ (.i p) x) M U {h with t:=ins .dead (.i p) h.t,nx:=q} H:=by
 have w:=r.mV hp x
 have I:∀{b:Ps}{o:Ob},look b (ins .dead (.i p) h.t)=some o->live o->b≠.i p/\look b h.t=some o:=by
  intro b o u O
  rw[jG] at u
  by_cases e:b=.i p
  .rw[if_pos e] at u;cases u;exact O.elim
  .rw[if_neg e] at u;exact⟨e,u⟩
 refine⟨λg=>w _ _ (r.gl g),λp' W=>?_,λb o u O=>?_,λb1 b2 o1 o2 x1 x2 h1 h2 l1 l2 Y Z e=>?_,r.un,r.bd,r.ml⟩
 .show look (.i p') (ins .dead (.i p) h.t)≠none
  rw[jG]
  split
  .simp
  .rename_i af
   apply r.NL p'
   unfold ext at W
   rwa[if_neg af] at W
 .obtain⟨_,ag⟩:=I u O
  obtain⟨b1,b2,b3,z,q1,q2,q3,q4⟩:=r.ob b o ag O
  exact⟨b1,b2,b3,z,w _ _ q1,q2,q3,q4.mono w⟩
 .obtain⟨n1,ah⟩:=I h1 l1
  obtain⟨n2,ai⟩:=I h2 l2
  unfold ext at Y Z
  rw[if_neg n1] at Y
  rw[if_neg n2] at Z
  exact r.inj _ _ _ _ _ _ ah ai l1 l2 Y Z e
noncomputable def SY(l:List (Tmp×V))(env:Tr V)(k:Tr V->Bool):Bool:=List.rec (motive:=λ_=>Tr V->Bool) (λenv=>k env) (λx _ u env=>rq x.2 (mX x.1) env u) l env
theorem Nh{ρ:jF}{N:Nat}{Ds:List Deferred}{k:Tr V->Bool}:∀(w:List Tmp)(vs:List V)(xs:List dB)(env:Tr V)(e:Env)(tmps:Array dB),SY (w.zip vs) env k=true->vs.length=w.length->jZ ρ M vs xs->E ρ M env e->Mt N Ds {tmps:=tmps,defers:=Ds} e->w.all (Nat.blt · N)=true->
 ∃O e',k O=true/\E ρ M O e'/\Mt N Ds {tmps:=(w.zip xs).foldl (λtmps x=>tmps.setIfInBounds x.1 x.2) tmps,defers:=Ds} e':=by
 intro w
 induction w with
 |nil=>intro vs xs env e tmps I _ _ he W _;exact⟨env,e,I,he,W⟩
 |cons p w ih=>
  intro vs xs env e tmps I hl hd he W Y
  cases vs with
  |nil=>simp at hl
  |cons v vs=>
   obtain⟨x,xs,rfl,h1,h2⟩:=hd.il
   replace I:(rq v (mX p) env λenv=>SY (w.zip vs) env k)=true:=I
   rw[lD] at I
   simp only[List.all_cons,Bool.and_eq_true,Nat.blt_eq] at Y
   have ag:Mt N Ds {tmps:=tmps.setIfInBounds p x,defers:=Ds} (put e (some p) x):=by
    refine⟨by simpa using W.size,rfl,λt v hv=>?_⟩
    rw[mG] at hv
    have ah:tmps.size=N:=W.size
    split at hv
    .rename_i e1
     cases hv
     subst e1
     simp[ah,Y.1]
    .rename_i e1
     have:=W.val t v hv
     show(tmps.setIfInBounds p x)[t]?=some v
     rw[Array.getElem?_setIfInBounds_ne (Ne.symm e1)]
     exact this
   refine ih vs xs _ (put e (some p) x) _ I (by simpa using hl) h2 (λt u Z=>?_) ag Y.2
   rw[jG] at Z
   rw[mG]
   by_cases hq:mX t=mX p
   .rw[if_pos hq] at Z
    cases Z
    rw[if_pos (uG hq)]
    exact⟨x,rfl,h1⟩
   .rw[if_neg hq] at Z
    rw[if_neg (λe=>hq (by rw[e]))]
    exact he t u Z
noncomputable def Pr(P:eQ)(cf:fQ)(N:Nat)(w:List Tmp)(u I:Code)(env:Tr V)(vs:List V)(h:Hp)(K:V->Hp->Bool):Bool:=
 tw vs λn=>bif Nat.beq n w.length&&w.all (Nat.blt · N) then SY (w.zip vs) env λenv=>WK P cf N 50 u env h λO env h=>(match O with
  |.n=>WK P cf N 50 I env h λO _ h=>(match O with|.n=>K (.bool true) h|_=>false)
  |_=>false) else false
def tt(f:jt)(tmps:Array dB)(u:Array Tmp)(assign body:Code)(r:Nat):Loop:={state:=.ready,pending:=none,fn:=f,tmps:=tmps,params:=u,assign:=assign,body:=body,defers:=r}
theorem Kd{cf:fQ}(hp:fF P=true)(ae:jb P M cf){N:Nat}{f:jt}{tmps:Array dB}{O:Array Tmp}{u I:Code}{Y l m:Nat}{env:Tr V}{e:Env}(he:E ρ M env e)(hm:Mt N [] {tmps:=tmps,defers:=[]} e)
 {w:fe}(hU:U l=some (.loop (tt f tmps O u I Y)))(r:R ρ M U h w.heap){vs:List V}{xs:List dB}(hd:jZ ρ M vs xs){K:V->Hp->Bool}(W:Pr P cf N O.toList u I env vs h K=true):
 (Instr.yield l xs.toArray).run P w=.ok (.round l f ((O.zip xs.toArray).foldl (λtmps(t,a)=>tmps.setIfInBounds t a) tmps) u I) w/\
 RoundIn (FW none) m P l f ((O.zip xs.toArray).foldl (λtmps(t,a)=>tmps.setIfInBounds t a) tmps) u I w λe w'=>∃v,e=.returned v/\ik w w'/\Af ρ M U K v w'.heap:=by
 unfold Pr at W
 rw[mY] at W
 have h2:=fz W
 clear W
 obtain⟨hc,W⟩:=h2
 obtain⟨hc,aj⟩:=jr hc
 have hc:=Nat.eq_of_beq_eq_true hc
 have ak:=r.un l _ hU
 refine⟨run_yield (r:=tt f tmps O u I Y) ak (by show xs.toArray.size=O.size;rw[List.size_toArray,<-hd.1,hc];simp),?_⟩
 obtain⟨af,e1,W,am,an⟩:=Nh (Ds:=[]) O.toList vs xs env e tmps W hc hd he hm aj
 have hz:(O.zip xs.toArray).foldl (λtmps(x:Tmp×dB)=>tmps.setIfInBounds x.1 x.2) tmps=(O.toList.zip xs).foldl (λtmps x=>tmps.setIfInBounds x.1 x.2) tmps:=by
  rw[<-Array.foldl_toList,Array.toList_zip]
 refine roundIn_of_wpIn (F:=FW none) trivial ?_
 show u.wpIn (FW (some l)) m P _ _ w
 rw[show(O.zip xs.toArray).foldl (λtmps(t,a)=>tmps.setIfInBounds t a) tmps=(O.toList.zip xs).foldl (λtmps x=>tmps.setIfInBounds x.1 x.2) tmps from hz]
 refine B1 (U:=U) (Ds:=[]) hp ae 50 u af h _ W ρ e1 _ w _ am r an ?_
 intro ex ag h2 ρ2 e2 a2 w2 Z ao ap r2 ar au
 dsimp only at Z
 split at Z
 .have av:=r2.un l _ hU
  refine⟨_,run_beginRound av rfl,?_⟩
  have r3:R ρ2 M (λi=>if i=l then some (.loop {tt f tmps O u I Y with state:=.busy}) else U i) h2 (w2.putObj l (.loop {tt f tmps O u I Y with state:=.busy})).heap:=r2.PG hU (λ_ _ _ h=>by cases h) _
  show I.wpIn (FW (some l)) m P _ _ _
  refine B1 (U:=λi=>if i=l then some (.loop {tt f tmps O u I Y with state:=.busy}) else U i) (Ds:=[]) hp ae 50 I ag h2 _ Z ρ2 e2 a2 _ _ ap r3 ar ?_
  intro ex aK h4 ρ4 e4 a4 w4 aa ax aM r4 aO az
  dsimp only at aa
  split at aa
  .have aA:=r4.un l _ (by rw[if_pos rfl])
   refine⟨_,_,run_endRound none aA,.bool true,rfl,au.trans ((Db _ _ _).trans (az.trans (Db _ _ _))),ρ4,.bool true,h4,ao.trans ax,?_,.bool true,aa⟩
   have r5:=r4.PG (l:=l) (by rw[if_pos rfl]) (λ_ _ _ h=>by cases h) (.loop (tt f tmps O u I Y))
   refine(show R ρ4 M _ h4 (w4.putObj l (.loop (tt f tmps O u I Y))).heap from r5).Rj r.ml (λi hi=>?_) (λi o hi=>?_)
   .by_cases e:i=l
    .subst e;rw[if_pos rfl] at hi;cases hi
    .rw[if_neg e,if_neg e] at hi
     exact hi
   .refine r5.un i o ?_
    by_cases e:i=l
    .subst e;rw[if_pos rfl,<-hU];exact hi
    .rw[if_neg e,if_neg e];exact hi
  .cases aa
 .cases Z
end Go.X
namespace Go.X
open Go.Ex
variable {P:eQ} {ρ:jF} {M:Nat} {U:Un} {h:Hp} {H:dw} {env:Tr V} {e:Env}
abbrev Uw:=List V->Hp->(V->Hp->Bool)->Bool
noncomputable def I2(p0:Ps)(v:V):Bool:=match v with|.Lm p=>Ui p p0|_=>false
theorem Ky{p0:Ps}{v:V}(h:I2 p0 v=true):v=.Lm p0:=by
 unfold I2 at h
 split at h
 .rw[wX h]
 .cases h
noncomputable def yK(p0:Ps)(u:Op)(env:Tr V)(yes:List gU->Bool)(no:Bool):Bool:=
 match u with
 |.call ⟨.value (.tmp t),args,_⟩=>qJ (mX t) env λv=>bif I2 p0 v then yes args.toList else no
 |_=>no
noncomputable def yH(P:eQ)(cf:fQ)(p0:Ps)(zu:Uw)(ops:Array Oper)(l:List Oper)(env:Tr V)(h:Hp)(K:KE):Bool:=
 List.rec (motive:=λ_=>Tr V->Hp->Bool) (λenv h=>K env h)
  (λo _ u env h=>pE ops o env λw=>match w with
   |false=>jH env o.dst (.pZ []) λenv=>u env h
   |true=>yK p0 o.op env (λargs=>xL env args λvs=>zu vs h λv h=>MT h λh=>jH env o.dst v λenv=>u env h)
    (wq P cf o env h λv h=>jH env o.dst v λenv=>u env h)) l env h
def Oh(P:eQ)(M:Nat)(U:Un)(ρ0:jF)(l:Nat)(zu:Uw):Prop:=∀(ρ:jF)(h:Hp)(w:fe)(vs:List V)(xs:List dB)(K:V->Hp->Bool)(m:Nat),Le ρ0 ρ->R ρ M U h w.heap->jZ ρ M vs xs->zu vs h K=true->
 ∃f I u O,(Instr.yield l xs.toArray).run P w=.ok (.round l f I u O) w/\RoundIn (FW none) m P l f I u O w λe w'=>∃v,e=.returned v/\ik w w'/\Af ρ M U K v w'.heap
section
variable {cf:fQ} {N:Nat} {p0:Ps} {l0 b0 k0:Nat} {zu:Uw} {ρ0:jF}
theorem JD(hp:fF P=true)(aB:jb P M cf)(hρ:ρ0 p0=some (l0,b0,k0))(hr:Oh P M U ρ0 l0 zu){Ds:List Deferred}{m:Nat}{ops:Array Oper}{Q:Exit->Act->fe->Prop}{K:KE}(hN:ju N ops=true):∀(l:List Oper)(ρ:jF)(env:Tr V)(h:Hp)(e:Env)(a:Act)(w:fe),(∀o∈l,o∈ops)->(∀o∈l,E5 o=true)->
 yH P cf p0 zu ops l env h K=true->Le ρ0 ρ->E ρ M env e->R ρ M U h w.heap->Mt N Ds a e->
 (∀env h ρ' e a' w',K env h=true->Le ρ ρ'->E ρ' M env e->R ρ' M U h w'.heap->Mt N Ds a' e->ik w w'->Q .normal a' w')->wpListIn (FW none) m P ops Q l a w:=by
 intro l
 induction l with
 |nil=>intro ρ env h e a w _ _ I h0 he r hm hg;exact hg env h ρ e a w I (Le.refl _) he r hm (ik.refl w)
 |cons o l ih=>
  intro ρ env h e a w hl ak I h0 he r hm hg
  have ho:o∈ops:=hl o (by simp)
  have aj:∀o∈l,o∈ops:=λo' h'=>hl o' (by simp[h'])
  have ap:∀o∈l,E5 o=true:=λo' h'=>ak o' (by simp[h'])
  have am:=E4 (ak o (by simp))
  have hd:=uT hN ho
  replace I:(pE ops o env λw=>match w with
   |false=>jH env o.dst (.pZ []) λenv=>yH P cf p0 zu ops l env h K
   |true=>yK p0 o.op env (λargs=>xL env args λvs=>zu vs h λv h=>MT h λh=>jH env o.dst v λenv=>yH P cf p0 zu ops l env h K)
    (wq P cf o env h λv h=>jH env o.dst v λenv=>yH P cf p0 zu ops l env h K))=true:=I
  obtain⟨b,hw,I⟩:=rK he I
  have step:∀{ρ':jF}{v:V}{x:dB}{h':Hp}{w':fe},Le ρ ρ'->R ρ' M U h' w'.heap->Dn ρ' M v x->(jH env o.dst v λenv=>yH P cf p0 zu ops l env h' K)=true->ik w w'->wpListIn (FW none) m P ops Q l (a.put o.dst x) w':=by
   intro ρ' v x h' w' Y r' W O hs
   obtain⟨au,O,aF⟩:=tX O (he.mono Y) W
   exact ih ρ' au h' _ _ w' aj ap O (h0.trans Y) aF r' (hm.put _ hd _) λav h2 ρ2 e2 a2 w2 aG aH aI r2 aJ aK=>hg av h2 ρ2 e2 a2 w2 aG (Y.trans aH) aI r2 aJ (hs.trans aK)
  unfold wpListIn
  cases b with
  |false=>
   rw[if_neg (by rw[jM hw (λt _=>hm.val t)];simp)]
   exact⟨λ_ _=>trivial,step (Le.refl _) r pv I (ik.refl w)⟩
  |true=>
   rw[if_pos (jM hw (λt _=>hm.val t))]
   simp only at I
   have ac:(wq P cf o env h λv h=>jH env o.dst v λenv=>yH P cf p0 zu ops l env h K)=true->o.wpIn (FW none) m P a w (wpListIn (FW none) m P ops Q l) Q:=by
    intro I
    refine B5 am ?_
    simp only[rh] at I
    unfold yU at I
    cases O:kindOf P o.op with
    |pure=>
     rw[O] at I
     simp only at I
     obtain⟨t,nx,lo,hi⟩:=h
     replace I:(wo P lo hi o.op env λv lo hi=>jH env o.dst v λenv=>yH P cf p0 zu ops l env ⟨t,nx,lo,hi⟩ K)=true:=I
     obtain⟨v,x,ba,bb,W,h1,h2,O,af⟩:=rJ he r.gl r.bd.1 r.bd.2 I
     obtain⟨x',rfl,Z⟩:=kb af
     unfold Oper.wp
     rw[Z a.eval (hm.ot _) w]
     exact step (Le.refl _) (r.bound h1 h2) W O (ik.refl w)
    |read=>
     rw[O] at I
     simp only at I
     obtain⟨v,x,W,O,af⟩:=pY he r I
     obtain⟨x',rfl,Z⟩:=ka af
     unfold Oper.wp
     rw[Z a.eval (hm.ot _) w rfl]
     exact step (Le.refl _) r W O (ik.refl w)
    |write=>
     rw[O] at I
     simp only at I
     have:=qh hp aB he r I
     refine nP hp this (hm.ot _) w rfl ?_
     rintro u w' aL ⟨ρ',v,h',Y,r',W,O⟩
     simp only[sB] at O
     exact step Y r' W O aL
   unfold yK at I
   split at I
   .rename_i t args ts an
    have h9:=jl I
    clear I
    obtain⟨v,hv,I⟩:=h9
    cases hy:I2 p0 v with
    |false=>rw[hy] at I;exact ac I
    |true=>
     rw[hy] at I
     simp only[cond_true] at I
     obtain rfl:=Ky hy
     obtain⟨x,hx,W⟩:=he t _ hv
     obtain⟨vs,xs,aM,aO,I⟩:=tJ he r.gl I
     cases W with
     |Lm hρ'=>
     rename_i l1 a7 kap
     have e1:=h0 _ _ hρ
     rw[hρ'] at e1
     cases e1
     obtain⟨f,ay,ag,az,Z,ah⟩:=hr ρ h w vs xs _ (m-1) h0 r aO I
     have ea:=j9 aM (τ:=a.eval) (λy hy=>hm.ot o.op.operands.toList y (by rw[an];simp[Op.operands,Call.operands];simp at hy;exact .inr hy))
     have aQ:args.map a.eval=xs.toArray:=by rw[<-ea];cases args;simp
     have ht:a.eval (.tmp t)=.func (.yield l0) #[] #[]:=by
      have:=hm.eval (x:=.tmp t) (v:=.func (.yield l0) #[] #[]) hx
      exact this
     refine⟨λ_ _=>trivial,?_⟩
     rw[Oper.semAt_eq _ _ _ am]
     have aR:(execOp a.eval o).run P w=.ok (.round l0 f ay ag az) w:=by
      unfold execOp
      rw[an]
      simp only[resolve,aQ,ht,Deferred.ofValue,pure_bind,invoke]
      rw[Array.empty_append]
      exact Z
     rw[aR,Oper.uponIn_round]
     refine⟨λhd=>(by cases hd),RoundIn.mono (ah) ?_⟩
     rintro en w' ⟨v,rfl,hs,ρ',v',h',Y,r',aS,O⟩
     simp only[sB] at O
     exact step Y r' aS O hs
   .exact ac I
noncomputable def Md(P:eQ)(cf:fQ)(p0:Ps)(zu:Uw)(N:Nat)(u:Code->Tr V->Hp->KC->Bool)(c:Code)(env:Tr V)(h:Hp)(k:KC):Bool:=
 match c with
 |.skip=>k .n env h
 |.region _ ops false=>bif ju N ops&&ops.toList.all E5 then yH P cf p0 zu ops ops.toList env h λenv h=>k .n env h else false
 |.seq x y=>u x env h λw env h=>yX w env h k (u y env h k)
 |.cond c x y=>xo env c λv=>(match v with|.bool b=>(match b with|true=>u x env h k|false=>u y env h k)|_=>false)
 |.block id x=>u x env h λw env h=>Hv id w env h k
 |.loop x=>u x env h λw env h=>yX w env h k (u (.loop x) env h k)
 |.exit id=>k (.x id) env h
 |.ret=>k .r env h
 |_=>false
noncomputable def xY(P:eQ)(cf:fQ)(p0:Ps)(zu:Uw)(N n:Nat):Code->Tr V->Hp->KC->Bool:=
 Nat.rec (motive:=λ_=>Code->Tr V->Hp->KC->Bool) (λ_ _ _ _=>false) (λ_ u=>Md P cf p0 zu N u) n
theorem HZ(P:eQ)(cf:fQ)(p0:Ps)(zu:Uw)(N n:Nat)(c:Code)(env:Tr V)(h:Hp)(k:KC):xY P cf p0 zu N (n+1) c env h k=Md P cf p0 zu N (xY P cf p0 zu N n) c env h k:=rfl
theorem Lp(hp:fF P=true)(aB:jb P M cf)(hρ:ρ0 p0=some (l0,b0,k0))(hr:Oh P M U ρ0 l0 zu){Ds:List Deferred}:∀(n:Nat)(c:Code)(env:Tr V)(h:Hp)(k:KC),xY P cf p0 zu N n c env h k=true->∀(ρ:jF)(e:Env)(a:Act)(w:fe)(Q:Exit->Act->fe->Prop),Le ρ0 ρ->E ρ M env e->R ρ M U h w.heap->Mt N Ds a e->
 Goal ρ M U N Ds w k Q->c.wp P Q a w:=by
 intro n
 induction n using Nat.strongRecOn with
 |_ n ih=>
 intro c env h k I ρ e a w Q h0 he r hm Z
 cases n with
 |zero=>cases I
 |succ n=>
 rw[HZ] at I
 unfold Md at I
 split at I
 .exact wp_skip (Z .n _ _ ρ e a w I (Le.refl _) he r hm (ik.refl w))
 .rename_i id ops
  have h2:=fz I
  clear I
  obtain⟨hN,I⟩:=h2
  obtain⟨hN,aC⟩:=jr hN
  refine(wpIn_wide (n:=0)).1 (show(Code.region id ops false).wpIn (FW none) 0 P Q a w from wpIn_region_list ?_)
  exact JD hp aB hρ hr hN ops.toList ρ env h e a w (λo ho=>by simpa using ho) (λo ho=>List.all_eq_true.1 aC o ho) I h0 he r hm λenv h ρ' e a' w' u hl O r' W Y=>Z .n env h ρ' e a' w' u hl O r' W Y
 .rename_i x y
  refine wp_seq (ih n (by omega) x env h _ I ρ e a w _ h0 he r hm ?_)
  intro ex ad h' ρ' e' a' w' u hl O r' W Y
  dsimp only at u
  unfold yX at u
  split at u
  .exact ih n (by omega) y ad h' k u ρ' e' a' w' Q (h0.trans hl) O r' W λaE an h2 ρ2 e2 a2 w2 aF ah ai r2 aj ak=>Z aE an h2 ρ2 e2 a2 w2 aF (hl.trans ah) ai r2 aj (Y.trans ak)
  .exact Z _ _ _ ρ' e' a' w' u hl O r' W Y
  .exact Z _ _ _ ρ' e' a' w' u hl O r' W Y
 .rename_i c x y
  obtain⟨v,y',hx,hd,I⟩:=gv he r.gl I
  split at I
  .cases hd
   split at I
   .exact wp_cond_true (hm.eval hx) (ih n (by omega) x env h k I ρ e a w Q h0 he r hm Z)
   .exact wp_cond_false (hm.eval hx) (ih n (by omega) y env h k I ρ e a w Q h0 he r hm Z)
  .cases I
 .rename_i id x
  refine wp_block (ih n (by omega) x env h _ I ρ e a w _ h0 he r hm ?_)
  intro ex ad h' ρ' e' a' w' u hl O r' W Y
  dsimp only at u
  unfold Hv at u
  split at u
  .exact Z .n _ _ ρ' e' a' w' u hl O r' W Y
  .rename_i i
   show if i=id then Q .normal a' w' else Q (.exit i) a' w'
   by_cases hi:i=id
   .subst hi
    rw[if_pos rfl]
    rw[show Nat.beq i i=true by simp] at u
    exact Z .n _ _ ρ' e' a' w' u hl O r' W Y
   .rw[if_neg hi]
    rw[ki,decide_eq_false hi] at u
    exact Z (.x i) _ _ ρ' e' a' w' u hl O r' W Y
  .exact Z .r _ _ ρ' e' a' w' u hl O r' W Y
 .rename_i x
  refine wp_loop_ghost (λm a' w'=>m<=n+1/\∃ad h' ρ' e',xY P cf p0 zu N m (.loop x) ad h' k=true/\Le ρ ρ'/\E ρ' M ad e'/\R ρ' M U h' w'.heap/\Mt N Ds a' e'/\ik w w') (n+1)
   ⟨Nat.le_refl _,env,h,ρ,e,I,Le.refl _,he,r,hm,ik.refl w⟩ ?_
  rintro m a1 w1 ⟨aR,aA,h1,ρ1,e1,av,ao,aH,r1,aI,aw⟩
  cases m with
  |zero=>cases av
  |succ m=>
  rw[HZ] at av
  refine ih m (by omega) x aA h1 _ av ρ1 e1 a1 w1 _ (h0.trans ao) aH r1 aI ?_
  intro ex an h2 ρ2 e2 a2 w2 u ah ai r2 aj ak
  dsimp only at u
  unfold yX at u
  split at u
  .exact⟨m,by omega,by omega,an,h2,ρ2,e2,u,ao.trans ah,ai,r2,aj,aw.trans ak⟩
  .exact Z _ _ _ ρ2 e2 a2 w2 u (ao.trans ah) ai r2 aj (aw.trans ak)
  .exact Z _ _ _ ρ2 e2 a2 w2 u (ao.trans ah) ai r2 aj (aw.trans ak)
 .exact wp_exit (Z (.x _) _ _ ρ e a w I (Le.refl _) he r hm (ik.refl w))
 .exact wp_ret (Z .r _ _ ρ e a w I (Le.refl _) he r hm (ik.refl w))
 .cases I
end
end Go.X
namespace Go.X
open Go.Ex
variable {P:eQ} {ρ:jF} {M:Nat} {U:Un} {h:Hp} {H:dw} {env:Tr V} {e:Env}
inductive St (U:Un):Bool->Un->List Deferred->Prop where
 |no:St U false U []
 |yes {U':Un} {r:Nat} (h1:U' r=some (.deferred (some []))) (h2:U r=none) (h3:∀i o,U i=some o->U' i=some o):St U true U' [{target:=.collected r,args:=#[]}]
abbrev KS:=Xt->Tr V->Hp->Bool->Bool
noncomputable def RQ(P:eQ)(cf:fQ)(N:Nat)(g:gU)(Y:List Tmp)(u O:Code)(env:Tr V)(h:Hp)(k:Hp->Bool):Bool:=
 xo env g λv=>match v with
 |.fn f first cap=>xg h .dead λp h=>match P.funcs[f]? with
  |none=>false
  |some w=>(match w.body with
   |none=>false
   |some c=>zb [.Lm p] cap λl=>zb first l λvs=>tw vs λn=>bif Nat.ble n w.ntmps then CB vs 0 .lf λW=>
    xY P cf p (Pr P cf N Y u O env) w.ntmps 10000 c W h λZ I h=>(match Z with|.x _=>false|.n=>vC P I h w.results.toList λ_=>k h|.r=>vC P I h w.results.toList λ_=>k h) else false)
 |_=>false
noncomputable def UQ(u:Xt)(env:Tr V)(h:Hp)(D:Bool)(k:KS)(next:Bool):Bool:=match u with|.n=>next|.x i=>k (.x i) env h D|.r=>k .r env h D
noncomputable def VM(id:Nat)(u:Xt)(env:Tr V)(h:Hp)(D:Bool)(k:KS):Bool:=match u with|.n=>k .n env h D|.x i=>bif Nat.beq i id then k .n env h D else k (.x i) env h D|.r=>k .r env h D
noncomputable def Me(P:eQ)(cf:fQ)(ord:Nat->An)(N:Nat)(u:Code->Tr V->Hp->Bool->KS->Bool)(c:Code)(env:Tr V)(h:Hp)(D:Bool)(k:KS):Bool:=
 match c with
 |.seq x y=>u x env h D λw env h D=>UQ w env h D k (u y env h D k)
 |.block id x=>u x env h D λw env h D=>VM id w env h D k
 |.rangeFunc g ps assign body=>(match D with|true=>false|false=>RQ P cf N g ps.toList assign body env h λh=>k .n env h true)
 |c=>xC P cf ord N 10000 c env h λw env h=>k w env h D
noncomputable def xS(P:eQ)(cf:fQ)(ord:Nat->An)(N n:Nat):Code->Tr V->Hp->Bool->KS->Bool:=
 Nat.rec (motive:=λ_=>Code->Tr V->Hp->Bool->KS->Bool) (λ_ _ _ _ _=>false) (λ_ u=>Me P cf ord N u) n
def WE(ρ:jF)(M:Nat)(U:Un)(N:Nat)(w:fe)(k:KS)(Q:Exit->Act->fe->Prop):Prop:=
 ∀u env h D ρ' e I Ds O w',k u env h D=true->Le ρ ρ'->E ρ' M env e->R ρ' M I h w'.heap->St U D I Ds->Mt N Ds O e->ik w w'->Q u.to' O w'
section
variable {cf:fQ} {ord:Nat->An} {N:Nat}
theorem Lw(hp:fF P=true)(az:jb P M cf){g:gU}{ps:Array Tmp}{u I:Code}{k:Hp->Bool}{e:Env}{a:Act}{w:fe}{Q:Exit->Act->fe->Prop}(he:E ρ M env e)(r:R ρ M U h w.heap)(hm:Mt N [] a e)(O:RQ P cf N g ps.toList u I env h k=true)
 (hg:∀h ρ' U' Ds a' w',k h=true->Le ρ ρ'->R ρ' M U' h w'.heap->St U true U' Ds->Mt N Ds a' e->ik w w'->Q .normal a' w'):(Code.rangeFunc g ps u I).wp P Q a w:=by
 unfold RQ at O
 obtain⟨v,y,hx,hd,O⟩:=gv he r.gl O
 split at O
 .rename_i f first cap
  obtain⟨q,aA,O⟩:=lL O
  split at O
  .cases O
  .rename_i fn hf
   split at O
   .cases O
   .rename_i c hb
    rw[ns,ns,mY] at O
    have h2:=fz O
    clear O
    obtain⟨aj,O⟩:=h2
    have aj:=Nat.le_of_ble_eq_true aj
    cases hd with
    |fn e1 e2 d1 d2=>
    rename_i a1 a2
    refine(wpIn_wide (n:=0)).1 (wpIn_rangeFunc (F:=Fence.wide) λW _=>?_)
    obtain⟨Z,ad⟩:∃Z,Z=w.heap.size:=⟨_,rfl⟩
    obtain⟨l,hl⟩:∃l,l=w.heap.size+1:=⟨_,rfl⟩
    obtain⟨rc,aB⟩:∃rc,rc=tt W a.tmps ps u I Z:=⟨_,rfl⟩
    obtain⟨Y,am⟩:∃Y,Y=(w.alloc (.deferred (some []))).alloc (.loop rc):=⟨_,rfl⟩
    obtain⟨yv,aC⟩:∃yv:dB,yv=.func (.yield l) #[] #[]:=⟨_,rfl⟩
    obtain⟨aa,an⟩:∃aa:List dB,aa=a1++([yv]++a2):=⟨_,rfl⟩
    have aY:a.eval g=.func (.func f) a1.toArray a2.toArray:=hm.eval hx
    have aI:(Instr.enterLoop W a.tmps ps u I Fence.wide.round).run P w=.ok (l,[{target:=.collected Z,args:=#[]}]) Y:=by
     rw[am,aB,hl,ad]
     exact run_enterLoop_outer W a.tmps ps u I
    have aJ:(resolve a.eval (rangeCall g l) 0).run P Y=.ok {target:=.fn (.func f) a2.toArray,args:=a1.toArray++#[yv]} Y:=by
     have hy:a.eval (.const (.func (.yield l) #[] #[]))=yv:=aC.symm
     unfold resolve
     simp only[List.map_toArray,List.map_cons,List.map_nil,aY,hy]
     rfl
    obtain⟨r1,u1⟩:=r.more (.deferred (some []))
    obtain⟨r2,u2⟩:=r1.more (.loop rc)
    have aZ:(w.heap.push (.deferred (some []))).size=l:=by rw[hl];simp
    obtain⟨U2,ag⟩:∃U2:Un,U2=λi=>if i=l then some (.loop rc) else if i=Z then some (.deferred (some [])) else U i:=⟨_,rfl⟩
    have aD:R ρ M U2 h Y.heap:=by
     rw[ag,am,ad,<-aZ]
     exact r2
    have r3:R (ext ρ (.i h.nx) (l,0,0)) M U2 {h with t:=ins .dead (.i h.nx) h.t,nx:=q} Y.heap:=aD.IN aA (l,0,0) q
    have ac:=aD.mV aA (l,0,0)
    have hρl:ext ρ (.i h.nx) (l,0,0) (.i h.nx)=some (l,0,0):=lO _ _ _
    have hD:jZ (ext ρ (.i h.nx) (l,0,0)) M (first++([.Lm (.i h.nx)]++cap)) aa:=by
     rw[an]
     refine jZ.append ⟨e1,λi v x p q=>(d1 i v x p q).mono ac⟩ (jZ.append (.cons ?_ .nil) ⟨e2,λi v x p q=>(d2 i v x p q).mono ac⟩)
     rw[aC]
     exact .Lm hρl
    obtain⟨aK,O,a4⟩:=u0 (ρ:=ext ρ (.i h.nx) (l,0,0)) (M:=M) O (e:=vV fn.ntmps aa) hD (λt v hv=>by rw[kf] at hv;cases hv) (λj x hx=>by
     have hj:=(List.getElem?_eq_some_iff.1 hx).1
     unfold vV
     rw[Nat.zero_add,show Nat.blt j aa.length=true by rw[Nat.blt_eq];exact hj]
     exact hx)
    have aw:(a1.toArray++#[yv])++a2.toArray=aa.toArray:=by rw[an];simp
    refine⟨l,_,Y,_,Y,f,aa.toArray,Y,aI,aJ,λ_ _=>trivial,?_,λhd=>(by cases hd),callsIn_wide.2 ?_⟩
    .show(callFunc f ((a1.toArray++#[yv])++a2.toArray)).run P Y=_
     rw[aw]
     exact p9 hp hf (by rw[hb];rfl) _ Y
    .refine calls_of_wp hf hb ?_
     have ao:U2 l=some (.loop (tt W a.tmps ps u I Z)):=by rw[ag,aB];simp only[if_pos]
     have aL:Oh P M U2 (ext ρ (.i h.nx) (l,0,0)) l (Pr P cf N ps.toList u I env):=by
      intro ρ' h' w' vs xs K m aM r' a5 a6
      obtain⟨q1,q2⟩:=Kd (U:=U2) (m:=m) hp az (he.mono (ac.trans aM)) (show Mt N [] {tmps:=a.tmps,defers:=[]} e from⟨hm.size,rfl,hm.val⟩) ao r' a5 a6
      exact⟨_,_,_,_,q1,q2⟩
     have aO:aa.length=(first++([V.Lm (.i h.nx)]++cap)).length:=hD.1.symm
     refine Lp (U:=U2) (Ds:=[]) hp az hρl aL 10000 c aK _ _ O _ _ _ Y _ (Le.refl _) a4 r3 (WO aj aO) ?_
     intro ex aP h3 ρ3 e3 a3 w3 ap a8 a9 r4 aE ba
     have aF:(vC P aP h3 fn.results.toList λ_=>k h3)=true->bodyPost P fn (rangePost Fence.wide 0 P l Q {a with defers:=[{target:=.collected Z,args:=#[]}]++a.defers}) .ret a3 w3:=by
      intro hk
      obtain⟨bC,aq,hk,bw,aS⟩:=tI (P:=P) a9 r4 aE.val hk
      have ay:∃v,(results fn a3.tmps).run P w3=.ok v w3:=by
       unfold results
       refine⟨if h:aq.toArray.size=1 then aq.toArray[0] else .tuple aq.toArray,?_⟩
       rw[Sem.run_bind,Array.mapM_eq_mapM_toList,Sem.run_map]
       rw[aS _ (λt=>rfl) (λa t=>rfl) w3 rfl]
       rfl
      obtain⟨v,hv⟩:=ay
      refine⟨aE.defers,v,hv,?_⟩
      have bb:=r4.un l _ ao
      refine⟨none,w3.putObj l (.loop {tt W a.tmps ps u I Z with state:=.exhausted}),run_endLoop bb (by show LoopState.ready≠.busy;simp),?_⟩
      have r5:=r4.PG ao (λ_ _ _ h=>by cases h) (.loop {tt W a.tmps ps u I Z with state:=.exhausted})
      have bc:Z≠l:=by rw[ad,hl];omega
      refine hg h3 ρ3 _ _ _ _ hk (ac.trans a8) (show R ρ3 M _ h3 (w3.putObj l (.loop {tt W a.tmps ps u I Z with state:=.exhausted})).heap from r5) (.yes (r:=Z) ?_ (by rw[ad];exact u1) (λi o hi=>?_)) ?_ ?_
      .simp only[if_neg bc,ag,if_pos]
      .have bD:i<w.heap.size:=(Array.getElem?_eq_some_iff.1 (r.un i o hi)).1
       have n1:i≠l:=by rw[hl];omega
       have n2:i≠Z:=by rw[ad];omega
       simp only[ag,if_neg n1,if_neg n2,hi]
      .exact⟨hm.size,by show[_]++a.defers=_;rw[hm.defers];rfl,hm.val⟩
      .have s1:ik w Y:=by rw[am];exact(ik.alloc w _).trans (ik.alloc _ _)
       exact s1.trans (ba.trans (Db _ _ _))
     cases ex with
     |n=>exact aF ap
     |x i=>cases ap
     |r=>exact aF ap
 .cases O
theorem Lr(hp:fF P=true)(aq:jb P M cf):∀(n:Nat)(c:Code)(env:Tr V)(h:Hp)(D:Bool)(k:KS),xS P cf ord N n c env h D k=true->∀(ρ:jF)(e:Env)(U':Un)(Ds:List Deferred)(a:Act)(w:fe)(Q:Exit->Act->fe->Prop),E ρ M env e->R ρ M U' h w.heap->St U D U' Ds->Mt N Ds a e->
 WE ρ M U N w k Q->c.wp P Q a w:=by
 intro n
 induction n with
 |zero=>intro c env h D k hh;cases hh
 |succ n ih=>
  intro c env h D k hh ρ e U' Ds a w Q he r hD hm hg
  replace hh:Me P cf ord N (xS P cf ord N n) c env h D k=true:=hh
  unfold Me at hh
  split at hh
  .rename_i x y
   refine wp_seq (ih x env h D _ hh ρ e U' Ds a w _ he r hD hm ?_)
   intro ex aj h' D' ρ' e' U2 Z a' w' u Y I r' aa O W
   dsimp only at u
   unfold UQ at u
   split at u
   .exact ih y aj h' D' k u ρ' e' U2 Z a' w' Q I r' aa O λaB av h2 D2 ρ2 e2 U3 ak a2 w2 aC aD aE r2 aF am an=>hg aB av h2 D2 ρ2 e2 U3 ak a2 w2 aC (Y.trans aD) aE r2 aF am (W.trans an)
   .exact hg _ _ _ _ ρ' e' U2 Z a' w' u Y I r' aa O W
   .exact hg _ _ _ _ ρ' e' U2 Z a' w' u Y I r' aa O W
  .rename_i id x
   refine wp_block (ih x env h D _ hh ρ e U' Ds a w _ he r hD hm ?_)
   intro ex aj h' D' ρ' e' U2 Z a' w' u Y I r' aa O W
   dsimp only at u
   unfold VM at u
   split at u
   .exact hg .n _ _ _ ρ' e' U2 Z a' w' u Y I r' aa O W
   .rename_i i
    show if i=id then Q .normal a' w' else Q (.exit i) a' w'
    by_cases hi:i=id
    .subst hi
     rw[if_pos rfl]
     rw[show Nat.beq i i=true by simp] at u
     exact hg .n _ _ _ ρ' e' U2 Z a' w' u Y I r' aa O W
    .rw[if_neg hi]
     rw[ki,decide_eq_false hi] at u
     exact hg (.x i) _ _ _ ρ' e' U2 Z a' w' u Y I r' aa O W
   .exact hg .r _ _ _ ρ' e' U2 Z a' w' u Y I r' aa O W
  .rename_i g ps aG aK
   split at hh
   .cases hh
   .cases hD
    exact Lw hp aq he r hm hh λh2 ρ2 U2 ak a2 w2 u Y r2 hS am an=>hg .n env h2 true ρ2 e U2 ak a2 w2 u Y (he.mono Y) r2 hS am an
  .exact zS (U:=U') hp aq 10000 _ env h _ hh ρ e a w Q he r hm λex env h ρ' e' a' w' u Y I r' O W=>hg ex env h D ρ' e' U' Ds a' w' u Y I r' hD O W
end
noncomputable def CL(P:eQ)(tF:jt->Nat->An)(f:jt)(w:fQ)(vs:List V)(h:Hp)(K:V->Hp->Bool):Bool:=
 match P.funcs[f]? with
 |none=>false
 |some u=>(match u.body with
  |none=>false
  |some c=>tw vs λn=>bif Nat.ble n u.ntmps then CB vs 0 .lf λenv=>
   xS P w (tF f) u.ntmps 100 c env h false λI env h _=>(match I with|.x _=>false|.n=>vC P env h u.results.toList λr=>y1 r K h|.r=>vC P env h u.results.toList λr=>y1 r K h) else false)
theorem Ek(hp:fF P=true){tF:jt->Nat->An}{af:fQ}(ih:jb P M af){f:jt}(r:R ρ M U h H){vs:List V}{xs:List dB}(hd:jZ ρ M vs xs){K:V->Hp->Bool}(u:CL P tF f af vs h K=true):CW P f xs H (Af ρ M U K):=by
 unfold CL at u
 split at u
 .cases u
 .rename_i O hf
  split at u
  .cases u
  .rename_i c ag
   rw[mY] at u
   obtain⟨Y,u⟩:=fz u
   have Y:=Nat.le_of_ble_eq_true Y
   refine .inl ⟨O,hf,by rw[ag];rfl,λw hw=>?_⟩
   have av:xs.length=vs.length:=hd.1.symm
   obtain⟨env,u,he⟩:=u0 (ρ:=ρ) (M:=M) u (e:=vV O.ntmps xs) hd (λt v hv=>by rw[kf] at hv;cases hv) (λj x hx=>by
    have hj:=(List.getElem?_eq_some_iff.1 hx).1
    unfold vV
    rw[Nat.zero_add,show Nat.blt j xs.length=true by rw[Nat.blt_eq];exact hj]
    exact hx)
   refine callsIn_wide.1 (callsIn_of_wp_marks (F:=Fence.wide) (n:=0) hf ag trivial ((wpIn_wide (n:=0)).2 ?_))
   refine Lr (U:=U) hp ih 100 c env h false _ u ρ (vV O.ntmps xs) U [] _ w _ he (by rw[hw];exact r) .no (WO Y av) ?_
   intro ex am h' D ρ' e' U' Ds Z w' hk hl ah r' az aa ai
   have aj:(vC P am h' O.results.toList λr=>y1 r K h')=true->bodyPostM Fence.wide 0 P O (λe w'=>∃v,e=.returned v/\ik w w'/\Af ρ M U K v w'.heap) .ret Z w':=by
    intro ak
    obtain⟨aV,ab,aA,aB,ao⟩:=tI (P:=P) ah r' aa.val ak
    obtain⟨v,aC,aD⟩:=wU aB aA
    show LeavesInM Fence.wide 0 P O Z.tmps _ Z.defers .returning w'
    rw[aa.defers]
    cases az with
    |no=>
     have W:(results O Z.tmps).run P w'=.ok (if h:ab.toArray.size=1 then ab.toArray[0] else .tuple ab.toArray) w':=by
      unfold results
      rw[Sem.run_bind,Array.mapM_eq_mapM_toList,Sem.run_map]
      rw[ao _ (λt=>rfl) (λa t=>rfl) w' rfl]
      rfl
     exact⟨_,W,_,rfl,ai,ρ',v,h',hl,r',aC,aD⟩
    |yes h1 h2 h3=>
    rename_i I
    have aH:=r'.un I _ h1
    refine⟨by simp,.inl ⟨I,w'.putObj I (.deferred none),rfl,run_takeDeferred aH,?_⟩⟩
    have r5:=r'.PG h1 (λ_ _ _ h=>by cases h) (.deferred none)
    have r6:R ρ' M U h' (w'.putObj I (.deferred none)).heap:=by
     refine(show R ρ' M _ h' (w'.putObj I (.deferred none)).heap from r5).Rj r.ml (λi hi=>?_) (λi o hi=>?_)
     .by_cases e:i=I
      .subst e;exact h2
      .rw[if_neg e] at hi
       cases hu:U i with
       |none=>rfl
       |some o=>rw[h3 i o hu] at hi;cases hi
     .refine r5.un i o ?_
      have:i≠I:=λe=>by rw[e,h2] at hi;cases hi
      rw[if_neg this]
      exact h3 i o hi
    obtain⟨aW,ac,aK,ap,ae⟩:=tI (P:=P) ah r6 aa.val (k:=λr=>y1 r K h') ak
    obtain⟨v2,aq,aL⟩:=wU ap aK
    have W:(results O Z.tmps).run P (w'.putObj I (.deferred none))=.ok (if h:ac.toArray.size=1 then ac.toArray[0] else .tuple ac.toArray) (w'.putObj I (.deferred none)):=by
     unfold results
     rw[Sem.run_bind,Array.mapM_eq_mapM_toList,Sem.run_map]
     rw[ae _ (λt=>rfl) (λa t=>rfl) _ rfl]
     rfl
    exact⟨_,W,_,rfl,ai.trans (Db _ _ _),ρ',v2,h',hl,r6,aq,aL⟩
   cases ex with
   |n=>exact aj hk
   |x i=>cases hk
   |r=>exact aj hk
end Go.X
namespace Go.X
open Go.Ex
variable {P:eQ} {M:Nat}
noncomputable def natDef(P:eQ)(tF:jt->Nat->An)(f₀:jt)(n:ve):ve:=λu w f vs h K=>bif Nat.beq f f₀ then LJ P tF f₀ u w vs h K else n u w f vs h K
theorem Km(Y:fF P=true){tF:jt->Nat->An}{f₀:jt}{n:ve}(Z:vA P M n):vA P M (natDef P tF f₀ n):=by
 intro I bd N O ρ U h H f vs xs K r W u
 unfold natDef at u
 cases w:Nat.beq f f₀ with
 |true=>
  rw[w] at u
  rw[Nat.eq_of_beq_eq_true w]
  exact JM Y N O r W u
 |false=>
  rw[w] at u
  exact Z I bd N O ρ U h H f vs xs K r W u
noncomputable def AM(P:eQ)(tF:jt->Nat->An)(f₀:jt)(n:ve):ve:=λu w f vs h K=>bif Nat.beq f f₀ then CL P tF f₀ u vs h K else n u w f vs h K
theorem E2(W:fF P=true){tF:jt->Nat->An}{f₀:jt}{n:ve}(Y:vA P M n):vA P M (AM P tF f₀ n):=by
 intro I Z N hb ρ U h H f vs xs K r O u
 unfold AM at u
 cases w:Nat.beq f f₀ with
 |true=>
  rw[w] at u
  rw[Nat.eq_of_beq_eq_true w]
  exact Ek W N r O u
 |false=>
  rw[w] at u
  exact Y I Z N hb ρ U h H f vs xs K r O u
end Go.X
