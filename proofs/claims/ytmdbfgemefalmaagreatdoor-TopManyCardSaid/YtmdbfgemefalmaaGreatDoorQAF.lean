/- Part AF of the proof that the law TopMany answers true at every input, under no condition. -/
import Derived.Test.YtmdbfgemefalmaaGreatDoorQAE
import Derived.Lib.Bytealg
import Derived.Lib.MakeNoZero
import Derived.Laws.LoneSync
import Derived.Shelf.Strings.Search2
import Derived.Defers
import Derived.RangeFuncLeaves
import Derived.RangeFuncRecord
import Derived.TacticsIn
set_option linter.unusedVariables false
set_option maxHeartbeats 2000000
set_option maxRecDepth 100000
namespace Go.X
open Go.Ex
variable {P:Program} {M:Nat} {U:Un}
inductive Xt where
 |n|x (id:Nat)|r
def Xt.to':Xt->Exit
 |.n=>.normal
 |.x i=>.exit i
 |.r=>.ret
abbrev KC:=Xt->Tr V->Hp->Bool
noncomputable def Ci(ex:Xt)(env:Tr V)(h:Hp)(k:KC)(next:Bool):Bool:=match ex with|.n=>next|.x i=>k (.x i) env h|.r=>k .r env h
noncomputable def ON(id:Nat)(ex:Xt)(env:Tr V)(h:Hp)(k:KC):Bool:=match ex with|.n=>k .n env h|.x i=>bif Nat.beq i id then k .n env h else k (.x i) env h|.r=>k .r env h
noncomputable def NL(P:Program)(cf:nk)(ord:Nat->An)(N:Nat)(rec:Code->Tr V->Hp->KC->Bool)(c:Code)(env:Tr V)(h:Hp)(k:KC):Bool:=
 match c with
 |.skip=>k .n env h
 |.region id ops draw=>(match draw with
  |false=>bif gm N ops then pe P cf ops ops.toList env h λenv h=>k .n env h else false
  |true=>bif gm N ops then Gu P cf ops (ord id) env h λenv h=>k .n env h else false)
 |.seq x y=>rec x env h λex env h=>Ci ex env h k (rec y env h k)
 |.cond c x y=>xo env c λv=>(match v with|.bool b=>(match b with|true=>rec x env h k|false=>rec y env h k)|_=>false)
 |.block id x=>rec x env h λex env h=>ON id ex env h k
 |.loop x=>rec x env h λex env h=>Ci ex env h k (rec (.loop x) env h k)
 |.exit id=>k (.x id) env h
 |.ret=>k .r env h
 |_=>false
inductive BC where
 |mk (f:(Code->Tr V->Hp->KC->Bool)->Tr V->Hp->KC->Bool)
noncomputable def arc(P:Program)(cf:nk)(ord:Nat->An)(N:Nat)(c:Code):BC:=
 match c with
 |.skip=>.mk λ_ env h k=>k .n env h
 |.region id ops draw=>(match draw with
  |false=>(match gm N ops with|true=>.mk λ_ env h k=>pe P cf ops ops.toList env h λenv h=>k .n env h|false=>.mk λ_ _ _ _=>false)
  |true=>(match gm N ops with|true=>.mk λ_ env h k=>Gu P cf ops (ord id) env h λenv h=>k .n env h|false=>.mk λ_ _ _ _=>false))
 |.seq x y=>.mk λrec env h k=>rec x env h λex env h=>Ci ex env h k (rec y env h k)
 |.cond c x y=>.mk λrec env h k=>xo env c λv=>(match v with|.bool b=>(match b with|true=>rec x env h k|false=>rec y env h k)|_=>false)
 |.block id x=>.mk λrec env h k=>rec x env h λex env h=>ON id ex env h k
 |.loop x=>.mk λrec env h k=>rec x env h λex env h=>Ci ex env h k (rec (.loop x) env h k)
 |.exit id=>.mk λ_ env h k=>k (.x id) env h
 |.ret=>.mk λ_ env h k=>k .r env h
 |_=>.mk λ_ _ _ _=>false
noncomputable def ae6(P:Program)(cf:nk)(ord:Nat->An)(N:Nat)(rec:Code->Tr V->Hp->KC->Bool)(c:Code)(env:Tr V)(h:Hp)(k:KC):Bool:=BC.rec (motive:=λ_=>Bool) (λf=>f rec env h k) (arc P cf ord N c)
theorem Wt(P:Program)(cf:nk)(ord:Nat->An)(N:Nat)(rec:Code->Tr V->Hp->KC->Bool)(c:Code)(env:Tr V)(h:Hp)(k:KC):ae6 P cf ord N rec c env h k=NL P cf ord N rec c env h k:=by
 cases c with
 |region id ops draw=>
  cases draw with
  |false=>
   show BC.rec (motive:=λ_=>Bool) (λf=>f rec env h k) (match gm N ops with|true=>.mk λ_ env h k=>pe P cf ops ops.toList env h λenv h=>k .n env h|false=>.mk λ_ _ _ _=>false)=bif gm N ops then pe P cf ops ops.toList env h λenv h=>k .n env h else false
   generalize gm N ops=b
   cases b<;>rfl
  |true=>
   show BC.rec (motive:=λ_=>Bool) (λf=>f rec env h k) (match gm N ops with|true=>.mk λ_ env h k=>Gu P cf ops (ord id) env h λenv h=>k .n env h|false=>.mk λ_ _ _ _=>false)=bif gm N ops then Gu P cf ops (ord id) env h λenv h=>k .n env h else false
   generalize gm N ops=b
   cases b<;>rfl
 |_=>rfl
noncomputable def xC(P:Program)(cf:nk)(ord:Nat->An)(N:Nat)(n:Nat):Code->Tr V->Hp->KC->Bool:=
 Nat.rec (motive:=λ_=>Code->Tr V->Hp->KC->Bool) (λ_ _ _ _=>false) (λ_ ih=>ae6 P cf ord N ih) n
theorem Pq(P:Program)(cf:nk)(ord:Nat->An)(N n:Nat)(c:Code)(env:Tr V)(h:Hp)(k:KC):xC P cf ord N (n+1) c env h k=NL P cf ord N (xC P cf ord N n) c env h k:=Wt ..
def Goal(ρ:ig)(M:Nat)(U:Un)(N:Nat)(Ds:List Deferred)(w:World)(k:KC)(Q:Exit->Act->World->Prop):Prop:=
 ∀ex env h ρ' e a' w',k ex env h=true->Le ρ ρ'->E ρ' M env e->R ρ' M U h w'.heap->Mt N Ds a' e->dV w w'->Q ex.to' a' w'
section
variable {cf:nk} {ord:Nat->An} {N:Nat} {Ds:List Deferred}
theorem Dp(hp:j0 P=true)(oN:fY P M cf):∀(n:Nat)(c:Code)(env:Tr V)(h:Hp)(k:KC),xC P cf ord N n c env h k=true->∀(ρ:ig)(e:Env)(a:Act)(w:World)(Q:Exit->Act->World->Prop),E ρ M env e->R ρ M U h w.heap->Mt N Ds a e->
 Goal ρ M U N Ds w k Q->c.wp P Q a w:=by
 intro n
 induction n using Nat.strongRecOn with
 |_ n ih=>
 intro c env h k hh ρ e a w Q he r hm hg
 cases n with
 |zero=>cases hh
 |succ n=>
 rw[Pq] at hh
 unfold NL at hh
 split at hh
 ·exact wp_skip (hg .n _ _ ρ e a w hh (Le.refl _) he r hm (dV.refl w))
 ·rename_i id ops draw
  split at hh
  ·obtain⟨hN,hh⟩:=jc hh
   have:=Dk (U:=U) hp oN (ops:=ops) (K:=λenv h=>k .n env h) ops.toList 0 ρ env h e w.heap hh he r
   refine wp_region_list (qh hp hN a w (λa' w' e' fj fU _⟨ρ',eJ,h',hl,jU,r',hk⟩=>hg .n _ _ ρ' e' a' w' hk hl jU r' fj fU) ops.toList 0 e a w (λo ho=>by simpa using ho) this hm (dV.refl w) (fz.refl _ _))
  ·obtain⟨hN,hh⟩:=jc hh
   have ahx:P.follows .mixedOrders=true:=by unfold j0 at hp;rw[Bool.and_eq_true] at hp;exact hp.1
   exact wp_region_any ahx (Rz (U:=U) hp oN hN a w.drew w.drew e (λa' w' e' fj fU _⟨ρ',eJ,h',hl,jU,r',hk⟩=>hg .n _ _ ρ' e' a' w' hk hl jU r' fj ((dV.drew w).trans fU)) hh he r hm (dV.refl _))
 ·rename_i x y
  refine wp_seq (ih n (by omega) x env h _ hh ρ e a w _ he r hm ?_)
  intro ex eJ h' ρ' e' a' w' hk hl jU r' fj fU
  dsimp only at hk
  unfold Ci at hk
  split at hk
  ·exact ih n (by omega) y eJ h' k hk ρ' e' a' w' Q jU r' fj λte lK h2 ρ2 e2 a2 w2 Ar rR EW r2 xV wK=>hg te lK h2 ρ2 e2 a2 w2 Ar (hl.trans rR) EW r2 xV (fU.trans wK)
  ·exact hg _ _ _ ρ' e' a' w' hk hl jU r' fj fU
  ·exact hg _ _ _ ρ' e' a' w' hk hl jU r' fj fU
 ·rename_i c x y
  obtain⟨v,y',hx,hd,hh⟩:=oF he r.gl hh
  split at hh
  ·cases hd
   split at hh
   ·exact wp_cond_true (hm.eval hx) (ih n (by omega) x env h k hh ρ e a w Q he r hm hg)
   ·exact wp_cond_false (hm.eval hx) (ih n (by omega) y env h k hh ρ e a w Q he r hm hg)
  ·cases hh
 ·rename_i id x
  refine wp_block (ih n (by omega) x env h _ hh ρ e a w _ he r hm ?_)
  intro ex eJ h' ρ' e' a' w' hk hl jU r' fj fU
  dsimp only at hk
  unfold ON at hk
  split at hk
  ·exact hg .n _ _ ρ' e' a' w' hk hl jU r' fj fU
  ·rename_i i
   show if i=id then Q .normal a' w' else Q (.exit i) a' w'
   by_cases hi:i=id
   ·subst hi
    rw[if_pos rfl]
    rw[show Nat.beq i i=true by simp] at hk
    exact hg .n _ _ ρ' e' a' w' hk hl jU r' fj fU
   ·rw[if_neg hi]
    rw[iL,decide_eq_false hi] at hk
    exact hg (.x i) _ _ ρ' e' a' w' hk hl jU r' fj fU
  ·exact hg .r _ _ ρ' e' a' w' hk hl jU r' fj fU
 ·rename_i x
  refine wp_loop_ghost (λm a' w'=>m<=n+1/\∃eJ h' ρ' e',xC P cf ord N m (.loop x) eJ h' k=true/\Le ρ ρ'/\E ρ' M eJ e'/\R ρ' M U h' w'.heap/\Mt N Ds a' e'/\dV w w') (n+1)
   ⟨Nat.le_refl _,env,h,ρ,e,hh,Le.refl _,he,r,hm,dV.refl w⟩ ?_
  rintro m a1 w1 ⟨hmn,Yz,h1,ρ1,e1,pX,u3,Ug,r1,qW,QG⟩
  cases m with
  |zero=>cases pX
  |succ m=>
  rw[Pq] at pX
  refine ih m (by omega) x Yz h1 _ pX ρ1 e1 a1 w1 _ Ug r1 qW ?_
  intro ex lK h2 ρ2 e2 a2 w2 hk rR EW r2 xV wK
  dsimp only at hk
  unfold Ci at hk
  split at hk
  ·exact⟨m,by omega,by omega,lK,h2,ρ2,e2,hk,u3.trans rR,EW,r2,xV,QG.trans wK⟩
  ·exact hg _ _ _ ρ2 e2 a2 w2 hk (u3.trans rR) EW r2 xV (QG.trans wK)
  ·exact hg _ _ _ ρ2 e2 a2 w2 hk (u3.trans rR) EW r2 xV (QG.trans wK)
 ·exact wp_exit (hg (.x _) _ _ ρ e a w hh (Le.refl _) he r hm (dV.refl w))
 ·exact wp_ret (hg .r _ _ ρ e a w hh (Le.refl _) he r hm (dV.refl w))
 ·cases hh
end
noncomputable def YP(P:Program)(h:Hp)(t:TypeId)(p:V)(k:V->Bool):Bool:=match p with|.ptr b o=>Kk P h t b o k|_=>false
noncomputable def xb(P:Program)(env:Tr V)(h:Hp)(l:List ResultVar)(k:List V->Bool):Bool:=
 List.rec (motive:=λ_=>(List V->Bool)->Bool) (λk=>k [])
  (λrv _ ih k=>match rv with
   |.tmp t=>qL (lQ t) env λv=>ih λr=>k (v::r)
   |.cell a t=>qL (lQ a) env λp=>YP P h t p λv=>ih λr=>k (v::r)) l k
def Cm(l:List V)(K:V->Hp->Bool)(h:Hp):Bool:=match l with|[v]=>K v h|l=>K (.ru l) h
theorem uA{ρ:ig}{env:Tr V}{h:Hp}{H:Heap}{e:Env}{tmps:Array Value}(he:E ρ M env e)(r:R ρ M U h H)(hm:∀t v,e t=some v->tmps[t]?=some v):∀{l:List ResultVar}{k:List V->Bool},xb P env h l k=true->
 ∃vs xs,k vs=true/\iz ρ M vs xs/\∀(g:ResultVar->Sem Value),(∀t,g (.tmp t)=pure (tmps.getD t undef))->(∀a t,g (.cell a t)=do loadVar t (<-asAddr (tmps.getD a undef)))->∀w,w.heap=H->(l.mapM g).run P w=.ok xs w:=by
 intro l
 induction l with
 |nil=>intro k hh;exact⟨[],[],hh,.nil,λg _ _ w _=>by simp⟩
 |cons rv l ih=>
  intro k hh
  cases rv with
  |tmp t=>
   obtain⟨v,hv,hh⟩:=fV (p:=lQ t) (t:=env) (k:=λv=>xb P env h l λr=>k (v::r)) hh
   obtain⟨x,hx,hd⟩:=he t v hv
   obtain⟨vs,xs,hk,hl,hr⟩:=ih hh
   refine⟨v::vs,x::xs,hk,.cons hd hl,λg hg QP w hw=>?_⟩
   rw[List.mapM_cons,Sem.run_bind,hg]
   have:tmps.getD t undef=x:=by rw[Array.getD_eq_getD_getElem?,hm t x hx];rfl
   simp only[this,Sem.run_pure,Result.andThen]
   rw[Sem.run_bind,hr g hg QP w hw]
   rfl
  |cell a t=>
   obtain⟨p,hv,hh⟩:=fV (p:=lQ a) (t:=env) (k:=λp=>YP P h t p λv=>xb P env h l λr=>k (v::r)) hh
   obtain⟨x,hx,hd⟩:=he a p hv
   unfold YP at hh
   split at hh
   ·rename_i b o
    cases hd with
    |ptr hρ=>
    rename_i fv base kap
    obtain⟨v,y,Tn,hh,amW⟩:=Gt r hh hρ
    obtain⟨vs,xs,hk,hl,hr⟩:=ih hh
    refine⟨v::vs,y::xs,hk,.cons Tn hl,λg hg QP w hw=>?_⟩
    rw[List.mapM_cons,Sem.run_bind,QP]
    have:tmps.getD a undef=.pointer (some ⟨fv,base+o,none⟩):=by rw[Array.getD_eq_getD_getElem?,hm a _ hx];rfl
    rw[this,Sem.run_bind,show∀ad,(asAddr (.pointer (some ad))).run P w=.ok ad w fromλ_=>rfl]
    simp only[Result.andThen]
    rw[amW w hw]
    dsimp only
    rw[Sem.run_bind,hr g hg QP w hw]
    rfl
   ·cases hh
theorem yU{ρ:ig}{vs:List V}{xs:List Value}{K:V->Hp->Bool}{h:Hp}(hd:iz ρ M vs xs)(hh:Cm vs K h=true):∃v,Dn ρ M v (if h:xs.toArray.size=1 then xs.toArray[0] else .tuple xs.toArray)/\K v h=true:=by
 unfold Cm at hh
 split at hh
 ·obtain⟨x,a',rfl,h1,h2⟩:=hd.eh
  obtain rfl:=h2.kI
  exact⟨_,by simpa using h1,hh⟩
 ·rename_i hZ
  refine⟨_,?_,hh⟩
  rw[dif_neg]
  ·exact hd.ru
  ·intro hs
   simp only[List.size_toArray] at hs
   obtain⟨x,rfl⟩:=List.length_eq_one_iff.1 hs
   have:=hd.1
   obtain⟨v,rfl⟩:=List.length_eq_one_iff.1 (show vs.length=1 by simpa using this)
   exact hZ v rfl
noncomputable def Hy(vs:List V)(i:Nat)(env:Tr V)(k:Tr V->Bool):Bool:=
 List.rec (motive:=λ_=>Nat->Tr V->Bool) (λ_ env=>k env) (λv _ ih i env=>rQ v (lQ i) env λenv=>ih (Nat.succ i) env) vs i env
theorem wc{ρ:ig}{k:Tr V->Bool}:∀{vs:List V}{i:Nat}{env:Tr V},Hy vs i env k=true->∀{xs:List Value}{e:Env},iz ρ M vs xs->E ρ M env e->(∀j x,xs[j]?=some x->e (i+j)=some x)->∃eJ,k eJ=true/\E ρ M eJ e:=by
 intro vs
 induction vs with
 |nil=>intro i env hh xs e _ he _;exact⟨env,hh,he⟩
 |cons v vs ih=>
  intro i env hh xs e hd he hx
  obtain⟨x,xs,rfl,h1,h2⟩:=hd.eh
  replace hh:(rQ v (lQ i) env λenv=>Hy vs (Nat.succ i) env k)=true:=hh
  rw[kp] at hh
  refine ih hh h2 (λt u hu=>?_) (λj y hy=>by have:=hx (j+1) y (by simpa using hy);rwa[show i+(j+1)=i.succ+j by omega] at this)
  rw[gP] at hu
  by_cases hp:lQ t=lQ i
  ·rw[if_pos hp] at hu
   cases hu
   have ht:=vI hp
   subst ht
   exact⟨x,by have:=hx 0 x rfl;simpa using this,h1⟩
  ·rw[if_neg hp] at hu
   exact he t u hu
noncomputable def AX(P:Program)(gD:FuncId->Nat->An)(L:Nat)(rec:nk):nk:=λf vs h K=>
 match P.funcs[f]? with
 |none=>false
 |some fn=>(match fn.body with
  |none=>false
  |some c=>uf vs λn=>bif Nat.ble n fn.ntmps then Hy vs 0 .lf λenv=>
   xC P rec (gD f) fn.ntmps L c env h λex env h=>(match ex with|.x _=>false|.n=>xb P env h fn.results.toList λr=>Cm r K h|.r=>xb P env h fn.results.toList λr=>Cm r K h) else false)
def By(P:Program)(M:Nat)(bd:nk):Prop:=∀(ρ:ig)(U:Un)(h:Hp)(H:Heap)(f:FuncId)(vs:List V)(xs:List Value)(K:V->Hp->Bool),R ρ M U h H->iz ρ M vs xs->bd f vs h K=true->
 ∃fn c,P.funcs[f]?=some fn/\fn.body=some c/\∀w:World,w.heap=H->c.wp P (bodyPost P fn λe w'=>∃v,e=.returned v/\dV w w'/\Af ρ M U K v w'.heap) {tmps:=xs.toArray++Array.replicate (fn.ntmps-xs.toArray.size) undef,defers:=[]} w
abbrev wu:=nk->nk->nk
def wV(P:Program)(M:Nat)(nat:wu):Prop:=∀rec bd,fY P M rec->By P M bd->∀(ρ:ig)(U:Un)(h:Hp)(H:Heap)(f:FuncId)(vs:List V)(xs:List Value)(K:V->Hp->Bool),R ρ M U h H->iz ρ M vs xs->nat rec bd f vs h K=true->CW P f xs H (Af ρ M U K)
noncomputable def alL(P:Program)(gD:FuncId->Nat->An)(ov:FuncId->Bool)(nat:wu)(L:Nat)(rec:nk):nk:=λf vs h K=>
 bif ov f then nat rec (AX P gD L rec) f vs h K else AX P gD L rec f vs h K
noncomputable def xF(P:Program)(gD:FuncId->Nat->An)(ov:FuncId->Bool)(nat:wu)(L n:Nat):nk:=Nat.rec (motive:=λ_=>nk) (λ_ _ _ _=>false) (λ_ ih=>alL P gD ov nat L ih) n
theorem JN{n m:Nat}{xs:List Value}(hle:m<=n)(He:xs.length=m):Mt n [] {tmps:=xs.toArray++Array.replicate (n-xs.toArray.size) undef,defers:=[]} (vf n xs):=by
 refine⟨by simp;omega,rfl,λt v hv=>?_⟩
 unfold vf at hv
 rw[Array.getElem?_append]
 cases h1:Nat.blt t xs.length with
 |true=>
  rw[h1] at hv
  have:t<xs.length:=by rw[Nat.blt_eq] at h1;exact h1
  rw[if_pos (by simpa using this)]
  simpa using hv
 |false=>
  rw[h1] at hv
  have iG:¬t<xs.length:=by rw[<-Nat.blt_eq,h1];simp
  rw[if_neg (by simpa using iG)]
  cases h2:Nat.blt t n with
  |true=>
   rw[h2] at hv
   have GJ:t<n:=by rw[Nat.blt_eq] at h2;exact h2
   simp only[cond_false,cond_true,Option.some.injEq] at hv
   subst hv
   rw[Array.getElem?_replicate,if_pos (by simp;omega)]
  |false=>rw[h2] at hv;cases hv
theorem GS(hp:j0 P=true){gD:FuncId->Nat->An}{L:Nat}{rec:nk}(ih:fY P M rec):By P M (AX P gD L rec):=by
 intro ρ U h H f vs xs K r hd hh
 unfold AX at hh
 split at hh
 ·cases hh
 ·rename_i fn hf
  split at hh
  ·cases hh
  ·rename_i c hb
   rw[lR] at hh
   obtain⟨hle,hh⟩:=jc hh
   have hle:=Nat.le_of_ble_eq_true hle
   refine⟨fn,c,hf,hb,λw hw=>?_⟩
   have He:xs.length=vs.length:=hd.1.symm
   obtain⟨env,hh,he⟩:=wc (ρ:=ρ) (M:=M) hh (e:=vf fn.ntmps xs) hd (λt v hv=>by rw[js] at hv;cases hv) (λj x hx=>by
    have hj:=(List.getElem?_eq_some_iff.1 hx).1
    unfold vf
    rw[Nat.zero_add,show Nat.blt j xs.length=true by rw[Nat.blt_eq];exact hj]
    exact hx)
   refine Dp (U:=U) (Ds:=[]) hp ih L c env h _ hh ρ (vf fn.ntmps xs) _ w _ he (by rw[hw];exact r) ?_ ?_
   ·exact JN hle He
   ·intro ex eJ h' ρ' e' a' w' hk hl jU r' fj fU
    have fin:(xb P eJ h' fn.results.toList λr=>Cm r K h')=true->bodyPost P fn (λe w'=>∃v,e=.returned v/\dV w w'/\Af ρ M U K v w'.heap) .ret a' w':=by
     intro hk
     obtain⟨Px,M3,hk,Cq,ju⟩:=uA (P:=P) jU r' fj.val hk
     obtain⟨v,Tn,hk⟩:=yU Cq hk
     have xx:(results fn a'.tmps).run P w'=.ok (if h:M3.toArray.size=1 then M3.toArray[0] else .tuple M3.toArray) w':=by
      unfold results
      rw[Sem.run_bind,Array.mapM_eq_mapM_toList,Sem.run_map]
      rw[ju _ (λt=>rfl) (λa t=>rfl) w' rfl]
      rfl
     exact⟨fj.defers,_,xx,_,rfl,fU,ρ',v,h',hl,r',Tn,hk⟩
    cases ex with
    |n=>exact fin hk
    |x i=>cases hk
    |r=>exact fin hk
theorem By.cw{bd:nk}(hb:By P M bd):fY P M bd:=by
 intro ρ U h H f vs xs K r hd hh
 obtain⟨fn,c,hf,hc,hw⟩:=hb ρ U h H f vs xs K r hd hh
 exact .inl ⟨fn,hf,by rw[hc];rfl,λw hhw=>calls_of_wp hf hc (hw w hhw)⟩
theorem Ko(hp:j0 P=true){gD:FuncId->Nat->An}{ov:FuncId->Bool}{nat:wu}(ahw:wV P M nat){L:Nat}:∀n,fY P M (xF P gD ov nat L n):=by
 intro n
 induction n with
 |zero=>intro ρ U h H f vs xs K _ _ hh;cases hh
 |succ n ih=>
  intro ρ U h H f vs xs K r hd hh
  replace hh:(bif ov f then nat (xF P gD ov nat L n) (AX P gD L (xF P gD ov nat L n)) f vs h K else AX P gD L (xF P gD ov nat L n) f vs h K)=true:=hh
  cases ho:ov f with
  |true=>
   rw[ho] at hh
   exact ahw _ _ ih (GS hp ih) ρ U h H f vs xs K r hd hh
  |false=>
   rw[ho] at hh
   exact(GS hp ih).cw ρ U h H f vs xs K r hd hh
end Go.X
namespace Go.X
open Go.Ex
variable {P:Program} {ρ:ig} {M:Nat} {U:Un} {h:Hp} {H:Heap}
inductive Nt where
 |same|byte|count|EE (el:TypeId)|ado|acO|Nw|aeh|EI (on:Bool)|EH (rel:Bool)
def Yt(fn:Func):Nt->Array Value->Sem Value
 |.same=>Extern.AbiNoEscape.same
 |.byte=>Extern.BytealgIndexByte.indexByte
 |.count=>Extern.BytealgCount.count
 |.EE _=>Extern.BytealgMakeNoZero.makeNoZero fn.params fn.resultTypes
 |.ado=>Extern.Atomic.loadT (.int .u32)
 |.acO=>Extern.Atomic.storeT
 |.Nw=>Extern.Atomic.casT (.int .i32)
 |.aeh=>Extern.Atomic.update (Op.intArith .add) .i32 true
 |.EI true=>λ_=>do mark .enable;pure Extern.Race.none_
 |.EI false=>λ_=>do mark .disable;pure Extern.Race.none_
 |.EH false=>Extern.Race.marked .acquire
 |.EH true=>Extern.Race.marked .releaseMerge
def aq2(P:Program)(fn:Func):Nt->Prop
 |.EE el=>∃t,fn.resultTypes=#[t]/\P.underlying t=some (.slice el)
 |_=>True
structure xQ(P:Program)(f:FuncId)(k:Nt):Prop where
 is:∃fn,P.funcs[f]?=some fn/\fn.body.isNone=true/\Extern.findNext fn=none/\Extern.find fn=some (Yt fn k)/\aq2 P fn k
theorem NS{α:Type}(m:Mark)(s:Sem α)(w:World):(do mark m;s).run P w=s.run P w:=by
 rw[Sem.run_bind]
 rfl
theorem Fj(hp:j0 P=true){f:FuncId}{fn:Func}{k:Nt}(hf:P.funcs[f]?=some fn)(hb:fn.body.isNone=true)(hn:Extern.findNext fn=none)(Me:Extern.find fn=some (Yt fn k)){xs:List Value}{Kp:Value->Heap->Prop}
 (hk:∀w:World,w.heap=H->∃u w',(Yt fn k xs.toArray).run P w=.ok u w'/\dV w w'/\Kp u w'.heap):CW P f xs H Kp:=by
 refine .inr λw hw=>?_
 obtain⟨u,w',hr,hs,hq⟩:=hk w hw
 refine⟨u,w',?_,hs,hq⟩
 unfold callFunc
 rw[Sem.run_bind,run_program]
 simp only[Result.andThen,hf,tn hp hf,hb,Bool.false_eq_true,if_false,if_true]
 rw[NS]
 simp only[hn,Me]
 rw[Sem.run_bind,hr]
 rfl
noncomputable def PT(c:Nat)(n:Nat):Nat->Nat->(Int->Bool)->Bool:=
 Nat.rec (motive:=λ_=>Nat->Nat->(Int->Bool)->Bool) (λ_ _ k=>k (-1))
  (λ_ ih i N k=>bif Nat.beq (N%256) c then fN i λi=>k (Int.ofNat i) else fN (N/256) λN=>fN (Nat.succ i) λi=>ih i N k) n
def Bv(c:UInt8):List UInt8->Nat->Int
 |[],_=>-1
 |b::r,i=>if b==c then(i:Int) else Bv c r (i+1)
theorem A2{a c:Nat}(ha:a<256)(hc:c<256):(UInt8.ofNat a==UInt8.ofNat c)=Nat.beq a c:=by
 rw[iL]
 by_cases h:a=c
 ·subst h;simp
 ·have:UInt8.ofNat a≠UInt8.ofNat c:=λe=>h (by
   have:=congrArg UInt8.toNat e
   simpa[Nat.mod_eq_of_lt ha,Nat.mod_eq_of_lt hc] using this)
  simp[h,this]
theorem XI{c:Nat}(hc:c<256):∀(n i N:Nat)(k:Int->Bool),PT c n i N k=k (Bv (UInt8.ofNat c) (bl n N) i)
 |0,i,N,k=>rfl
 |n+1,i,N,k=>by
  show(bif Nat.beq (N%256) c then fN i λi=>k (Int.ofNat i) else fN (N/256) λN=>fN (Nat.succ i) λi=>PT c n i N k)=k (if(UInt8.ofNat (N%256)==UInt8.ofNat c)=true then(i:Int) else Bv (UInt8.ofNat c) (bl n (N/256)) (i+1))
  rw[A2 (Nat.mod_lt _ (by omega)) hc]
  cases Nat.beq (N%256) c with
  |true=>simp[fW]
  |false=>simp only[cond_false,fW,Bool.false_eq_true,if_false];exact XI hc n (i+1) (N/256) k
theorem XH(c:UInt8):∀(l:List UInt8)(i:Nat),Bv c l i=if Lib.indexByte l c=-1 then-1 else Lib.indexByte l c+i
 |[],i=>by simp[Bv,Lib.indexByte]
 |b::r,i=>by
  have hr:=Lib.indexByte_ge r c
  unfold Bv Lib.indexByte
  cases h:b==c with
  |true=>simp
  |false=>
   simp only[Bool.false_eq_true,if_false]
   rw[XH c r (i+1)]
   by_cases h1:Lib.indexByte r c=-1
   ·simp[h1]
   ·have h2:¬(Lib.indexByte r c==-1)=true:=by simpa using h1
    rw[if_neg h1,if_neg h2,if_neg (by omega)]
    omega
noncomputable def Ns(c:Nat)(n:Nat):Nat->Nat->(Nat->Bool)->Bool:=
 Nat.rec (motive:=λ_=>Nat->Nat->(Nat->Bool)->Bool) (λi _ k=>k i)
  (λ_ ih i N k=>fN (N/256) λN'=>bif Nat.beq (N%256) c then fN (Nat.succ i) λi=>ih i N' k else ih i N' k) n
theorem OH{c:Nat}(hc:c<256):∀(n i N:Nat)(k:Nat->Bool),Ns c n i N k=k ((bl n N).foldl (λn x=>if x==UInt8.ofNat c then n+1 else n) i)
 |0,i,N,k=>rfl
 |n+1,i,N,k=>by
  show(fN (N/256) λN'=>bif Nat.beq (N%256) c then fN (Nat.succ i) λi=>Ns c n i N' k else Ns c n i N' k)=_
  simp only[bl,List.foldl_cons]
  rw[A2 (Nat.mod_lt _ (by omega)) hc,fW]
  cases Nat.beq (N%256) c with
  |true=>simp only[cond_true,fW,if_true];exact OH hc n (i+1) (N/256) k
  |false=>simp only[cond_false,Bool.false_eq_true,if_false];exact OH hc n i (N/256) k
theorem E1(c:UInt8):∀(l:List UInt8)(n:Nat),l.foldl (λn x=>if x==c then n+1 else n) n=n+Lib.countByte l c
 |[],n=>by simp[Lib.countByte]
 |b::l,n=>by
  rw[List.foldl_cons,E1 c l]
  unfold Lib.countByte
  rw[List.count_cons]
  cases b==c<;>simp<;>omega
noncomputable def sM(h:Hp)(b:Ps)(K:List V->TypeId->Nat->Bool->Bool):Bool:=qL b h.t λob=>(match ob with|.cells c el es op false=>K c el es op|_=>false)
noncomputable def yY(h:Hp)(b:Ps)(o:Nat)(c:List V)(el:TypeId)(es:Nat)(op:Bool)(v:V)(K:Hp->Bool):Bool:=WC c o v λc=>rQ (.cells c el es op false) b h.t λt=>K ⟨t,h.nx,h.lo,h.hi⟩
noncomputable def Vg(v:V)(h:Hp)(K:V->Hp->Bool):Bool:=match v with|.int .u32 n=>K (.int .u32 n) h|_=>false
noncomputable def Vf(v:V)(K:Bool):Bool:=match v with|.int _ _=>K|_=>false
noncomputable def aiV(h:Hp)(b:Ps)(o:Nat)(c:List V)(el:TypeId)(es:Nat)(op:Bool)(x:Int)(v:V)(y:V)(K:V->Hp->Bool):Bool:=
 match v with
 |.int .i32 z=>bif Yy z x then yY h b o c el es op y λh=>K (.bool true) h else K (.bool false) h
 |_=>false
noncomputable def aen(h:Hp)(b:Ps)(o:Nat)(c:List V)(el:TypeId)(es:Nat)(op:Bool)(y:Int)(v:V)(K:V->Hp->Bool):Bool:=
 match v with
 |.int .i32 z=>fI (IntKind.i32.wrap (z+y)) λz=>yY h b o c el es op (.int .i32 z) λh=>K (.int .i32 z) h
 |_=>false
noncomputable def Il(k:Nt)(vs:List V)(h:Hp)(K:V->Hp->Bool):Bool:=
 match k,vs with
 |.same,[v]=>K v h
 |.byte,[.str n N,.int .u8 (.ofNat c)]=>bif Nat.blt c 256 then PT c n 0 N λi=>K (.int .i64 i) h else false
 |.count,[.str n N,.int .u8 (.ofNat c)]=>bif Nat.blt c 256 then Ns c n 0 N λi=>K (.int .i64 (Int.ofNat i)) h else false
 |.EE el,[.int .i64 (.ofNat n)]=>bif Nat.blt n 1000000000 then Dh [.any] n λcs=>ze h (.cells cs el 1 true false) λp h=>K (.gE p 1 n 0) h else false
 |.ado,[.ptr b o]=>sM h b λc _ _ _=>IV c o λv=>Vg v h K
 |.acO,[.ptr b o,v]=>Vf v (sM h b λc el es op=>yY h b o c el es op v λh=>K (.ru []) h)
 |.Nw,[.ptr b o,.int .i32 x,.int .i32 y]=>sM h b λc el es op=>IV c o λv=>aiV h b o c el es op x v (.int .i32 y) K
 |.aeh,[.ptr b o,.int .i32 y]=>sM h b λc el es op=>IV c o λv=>aen h b o c el es op y v K
 |.EI _,[]=>K (.ru []) h
 |.EH _,[.ptr _ _]=>K (.ru []) h
 |_,_=>false
theorem pO{b:Ps}{K:List V->TypeId->Nat->Bool->Bool}(hh:sM h b K=true):∃c el es op,look b h.t=some (.cells c el es op false)/\K c el es op=true:=by
 unfold sM at hh
 obtain⟨ob,hb,hh⟩:=fV hh
 split at hh
 ·exact⟨_,_,_,_,hb,hh⟩
 ·cases hh
theorem uS(r:R ρ M U h H){b:Ps}{o:Nat}{c:List V}{el:TypeId}{es:Nat}{op:Bool}(hb:look b h.t=some (.cells c el es op false)){fv base kap:Nat}(hρ:ρ b=some (fv,base,kap)){v:V}{x:Value}(hv:Dn ρ M v x){K:Hp->Bool}(hh:yY h b o c el es op v K=true):
 (∃u,dj H ⟨fv,base+o,none⟩=some u)/\gO H ⟨fv,base+o,none⟩=false/\∃h',K h'=true/\R ρ M U h' (nQ H ⟨fv,base+o,none⟩ x):=by
 unfold yY at hh
 obtain⟨hj,hh⟩:=Eu hh
 rw[kp] at hh
 obtain⟨a1,a2,a3⟩:=r.write hb hρ hj hv
 exact⟨a1,a2,_,hh,a3⟩
theorem aad(hp:j0 P=true){f:FuncId}{k:Nt}(hk:xQ P f k)(r:R ρ M U h H){vs:List V}{xs:List Value}(hd:iz ρ M vs xs){K:V->Hp->Bool}(hh:Il k vs h K=true):CW P f xs H (Af ρ M U K):=by
 obtain⟨fn,hf,hb,hn,Me,rJ⟩:=hk.is
 have zu:(fn.name== "runtime.NumGoroutine")=false:=tn hp hf
 unfold Il at hh
 split at hh
 ·obtain⟨x,a,rfl,h1,h2⟩:=hd.eh
  obtain rfl:=h2.kI
  exact Fj hp hf hb hn Me λw hw=>⟨x,w,rfl,dV.refl w,.mk (hw▸r) h1 hh⟩
 ·rename_i n N c
  have h2:=jc hh
  clear hh
  obtain⟨hc,hh⟩:=h2
  have hc:c<256:=by rw[Nat.blt_eq] at hc;exact hc
  obtain⟨x,a,rfl,h1,h2⟩:=hd.eh
  obtain⟨y,a,rfl,h3,h4⟩:=h2.eh
  obtain rfl:=h4.kI
  cases h1
  cases h3
  rw[XI hc] at hh
  refine Fj hp hf hb hn Me λw hw=>⟨.int .i64 (Lib.indexByte (bl n N) (UInt8.ofNat c)),w,Lib.run_indexByteString (P:=P) (strOf n N) (Int.ofNat c) w,dV.refl w,.mk (hw▸r) (.int .i64 _) ?_⟩
  rw[XH] at hh
  have:Lib.indexByte (bl n N) (UInt8.ofNat c)=if Lib.indexByte (bl n N) (UInt8.ofNat c)=-1 then-1 else Lib.indexByte (bl n N) (UInt8.ofNat c)+(0:Nat):=by
   split<;>omega
  rw[this]
  exact hh
 ·rename_i n N c
  have h2:=jc hh
  clear hh
  obtain⟨hc,hh⟩:=h2
  have hc:c<256:=by rw[Nat.blt_eq] at hc;exact hc
  obtain⟨x,a,rfl,h1,h2⟩:=hd.eh
  obtain⟨y,a,rfl,h3,h4⟩:=h2.eh
  obtain rfl:=h4.kI
  cases h1
  cases h3
  rw[OH hc,E1,Nat.zero_add] at hh
  exact Fj hp hf hb hn Me λw hw=>⟨.int .i64 (Int.ofNat (Lib.countByte (bl n N) (UInt8.ofNat c))),w,Lib.run_countString (P:=P) (strOf n N) (Int.ofNat c) w,dV.refl w,.mk (hw▸r) (.int .i64 _) hh⟩
 ·rename_i el n
  have h2:=jc hh
  clear hh
  obtain⟨hc,hh⟩:=h2
  have hc:n<1000000000:=by rw[Nat.blt_eq] at hc;exact hc
  obtain⟨x,a,rfl,h1,h2⟩:=hd.eh
  obtain rfl:=h2.kI
  cases h1
  rw[vu] at hh
  obtain⟨q,hq,hh⟩:=ka hh
  obtain⟨t,ht,hu⟩:=rJ
  refine Fj hp hf hb hn Me λw hw=>?_
  obtain⟨cs,hr,hle,_⟩:=Lib.run_makeNoZero (P:=P) w fn.params t el hu n (by omega)
  refine⟨_,_,by show((Extern.BytealgMakeNoZero.makeNoZero fn.params fn.resultTypes) #[.int .i64 (n:Int)]).run P w=_;rw[ht];exact hr,((dV.drew w).trans (dV.drew _)).trans (dV.alloc _ _),?_⟩
  subst hw
  have ZP:TT ρ M 0 cs.size (.cells (List.replicate n [V.any]).flatten el 1 true false) (.cells cs el):=by
   refine⟨cs,(0,0),rfl,λj v hv=>?_,?_,?_,λ_=>.inl rfl,λh=>by cases h⟩
   ·have hj:j<n:=by have:=(List.getElem?_eq_some_iff.1 hv).1;simpa using this
    have hv:v=.any:=by
     have:=List.mem_of_getElem? hv
     simp at this
     exact this.2
    subst hv
    exact⟨cs[j]'(by omega),by rw[Nat.zero_add];exact Array.getElem?_eq_getElem _,.any _⟩
   ·simp only[uc,cond_true];simp;omega
   ·simp only[uc,cond_true];omega
  refine⟨_,_,_,r.mq hq (w.heap.size,0,cs.size),r.alloc hq cs.size q ZP,?_,hh⟩
  have:=Dn.gE (M:=M) (es:=1) (l:=n) (d:=0) (kz ρ (.i h.nx) (w.heap.size,0,cs.size)) (by omega)
  simpa using this
 ·rename_i b o
  have h9:=pO hh
  clear hh
  obtain⟨c,el,es,op,rb,h9⟩:=h9
  obtain⟨v,hv,hh⟩:=qF h9
  clear h9
  obtain⟨x,a,rfl,h1,h2⟩:=hd.eh
  obtain rfl:=h2.kI
  cases h1 with
  |ptr hρ=>
  rename_i fv base kap
  obtain⟨x,hx,Oy⟩:=r.read rb hρ hv
  unfold Vg at hh
  split at hh
  ·cases Oy
   exact .inr λw hw=>⟨_,w,run_call_load hf zu hb hn .u32 Me (cell_of hw hx),dV.refl w,.mk (hw▸r) (.int _ _) hh⟩
  ·cases hh
 ·rename_i b o v
  unfold Vf at hh
  split at hh
  ·rename_i kk n
   obtain⟨c,el,es,op,rb,hh⟩:=pO hh
   obtain⟨x,a,rfl,h1,h2⟩:=hd.eh
   obtain⟨y,a,rfl,h3,h4⟩:=h2.eh
   obtain rfl:=h4.kI
   cases h1 with
   |ptr hρ=>
   rename_i fv base kap
   obtain⟨⟨u,hu⟩,X4,h',mI,r'⟩:=uS r rb hρ h3 hh
   cases h3
   refine .inr λw hw=>⟨_,_,run_call_store hf zu hb hn Me (cell_of hw hu) (by rw[qM,hw,X4]),dV.setCell _ _ _,?_⟩
   rw[mX,hw]
   exact .mk r' o3 mI
  ·cases hh
 ·rename_i b o x y
  have h9:=pO hh
  clear hh
  obtain⟨c,el,es,op,rb,h9⟩:=h9
  obtain⟨v,hv,hh⟩:=qF h9
  clear h9
  obtain⟨x1,a,rfl,h1,h2⟩:=hd.eh
  obtain⟨x2,a,rfl,h3,h4⟩:=h2.eh
  obtain⟨x3,a,rfl,h5,h6⟩:=h4.eh
  obtain rfl:=h6.kI
  cases h1 with
  |ptr hρ=>
  rename_i fv base kap
  cases h3
  cases h5
  obtain⟨u,hu,X7⟩:=r.read rb hρ hv
  have X4:gO H ⟨fv,base+o,none⟩=false:=(r.write rb hρ (List.getElem?_eq_some_iff.1 hv).1 (.int .i32 y)).2.1
  unfold aiV at hh
  split at hh
  ·rename_i z
   cases X7
   cases he:Yy z x with
   |true=>
    rw[he] at hh
    simp only[cond_true] at hh
    have PU:z=x:=by rw[xB,decide_eq_true_eq] at he;exact he
    subst PU
    obtain⟨_,_,h',mI,r'⟩:=uS r rb hρ (.int .i32 y) hh
    refine .inr λw hw=>⟨_,_,run_call_cas_hit hf zu hb hn .i32 Me (cell_of hw hu) (by rw[qM,hw,X4]),dV.setCell _ _ _,?_⟩
    rw[mX,hw]
    exact .mk r' (.bool true) mI
   |false=>
    rw[he] at hh
    simp only[cond_false] at hh
    have PU:¬z=x:=by rw[xB,decide_eq_false_iff_not] at he;exact he
    exact .inr λw hw=>⟨_,w,run_call_cas_miss hf zu hb hn .i32 Me (cell_of hw hu) (by rw[qM,hw,X4]) PU,dV.refl w,.mk (hw▸r) (.bool false) hh⟩
  ·cases hh
 ·rename_i b o y
  have h9:=pO hh
  clear hh
  obtain⟨c,el,es,op,rb,h9⟩:=h9
  obtain⟨v,hv,hh⟩:=qF h9
  clear h9
  obtain⟨x1,a,rfl,h1,h2⟩:=hd.eh
  obtain⟨x2,a,rfl,h3,h4⟩:=h2.eh
  obtain rfl:=h4.kI
  cases h1 with
  |ptr hρ=>
  rename_i fv base kap
  cases h3
  obtain⟨u,hu,X7⟩:=r.read rb hρ hv
  unfold aen at hh
  split at hh
  ·rename_i z
   cases X7
   rw[E7] at hh
   obtain⟨_,X4,h',mI,r'⟩:=uS r rb hρ (.int .i32 _) hh
   refine .inr λw hw=>⟨_,_,run_call_add hf zu hb hn .i32 Me (cell_of hw hu) (by rw[qM,hw,X4]) rfl,dV.setCell _ _ _,?_⟩
   rw[mX,hw]
   exact .mk r' (.int .i32 _) mI
  ·cases hh
 ·rename_i on
  obtain rfl:=hd.kI
  refine .inr λw hw=>⟨.tuple #[],w,?_,dV.refl w,.mk (hw▸r) o3 hh⟩
  cases on with
  |true=>exact run_call_mark0 hf zu hb hn .enable Me w
  |false=>exact run_call_mark0 hf zu hb hn .disable Me w
 ·rename_i rel b o
  obtain⟨x1,a,rfl,h1,h2⟩:=hd.eh
  obtain rfl:=h2.kI
  cases h1 with
  |ptr hρ=>
  refine .inr λw hw=>⟨.tuple #[],w,?_,dV.refl w,.mk (hw▸r) o3 hh⟩
  cases rel with
  |true=>exact run_call_marked hf zu hb hn .releaseMerge Me _ w
  |false=>exact run_call_marked hf zu hb hn .acquire Me _ w
 ·cases hh
noncomputable def Xi(l:List (FuncId×Nt)):wu:=λ_ _ f vs h K=>
 List.rec (motive:=λ_=>Bool) false (λx _ ih=>bif Nat.beq x.1 f then Il x.2 vs h K else ih) l
theorem Xh(hp:j0 P=true){l:List (FuncId×Nt)}(hl:∀x∈l,xQ P x.1 x.2):wV P M (Xi l):=by
 intro rec bd _ _ ρ U h H f vs xs K r hd hh
 induction l with
 |nil=>cases hh
 |cons x l ih=>
  replace hh:(bif Nat.beq x.1 f then Il x.2 vs h K else Xi l rec bd f vs h K)=true:=hh
  cases hb:Nat.beq x.1 f with
  |true=>
   rw[hb] at hh
   have:=Nat.eq_of_beq_eq_true hb
   subst this
   exact aad hp (hl x (by simp)) r hd hh
  |false=>
   rw[hb] at hh
   exact ih (λy hy=>hl y (by simp[hy])) hh
end Go.X
namespace Go.X
open Go.Ex
variable {P:Program} {ρ:ig} {M:Nat} {U:Un} {h:Hp} {H:Heap}
def fE(u v:V):Bool:=
 match u,v with
 |.int k n,.int k' n'=>Hc k k'&&Yy n n'
 |.bool a,.bool b=>!(xor a b)
 |.str n N,.str m N'=>Nat.beq n m&&Nat.beq N N'
 |.sA,.sA|.lJ,.lJ|.uU,.uU|.A3,.A3|.zd,.zd|.any,.any|.OR,.OR=>true
 |_,_=>false
def flat:V->Bool
 |.int _ _|.bool _|.str _ _|.sA|.lJ|.uU|.A3|.zd|.any|.OR=>true
 |_=>false
theorem OE{u v:V}(h:fE u v=true):u=v/\flat u=true:=by
 unfold fE at h
 split at h
 ·obtain⟨h1,h2⟩:=gQ h;rw[xB,decide_eq_true_eq] at h2;exact⟨by rw[C6 h1,h2],rfl⟩
 ·rename_i a b;cases a<;>cases b<;>first|exact⟨rfl,rfl⟩|cases h
 ·obtain⟨h1,h2⟩:=gQ h;exact⟨by rw[Nat.eq_of_beq_eq_true h1,Nat.eq_of_beq_eq_true h2],rfl⟩
 all_goals first
  |exact⟨rfl,rfl⟩
  |cases h
theorem Jn{ρ ρ':ig}{v:V}{x:Value}(hf:flat v=true)(h:Dn ρ M v x):Dn ρ' M v x:=by
 cases h with
 |int=>exact .int _ _
 |bool=>exact .bool _
 |str=>exact .str _ _
 |sA=>exact .sA
 |lJ=>exact .lJ
 |uU=>exact .uU
 |A3=>exact .A3
 |zd=>exact .zd
 |any=>exact .any _
 |OR=>exact .OR _
 |_=>cases hf
noncomputable def lE(l m:List V):Bool:=List.rec (motive:=λ_=>List V->Bool) (λm=>match m with|[]=>true|_=>false) (λu _ ih m=>match m with|v::m=>fE u v&&ih m|[]=>false) l m
theorem ahf:∀{l m:List V},lE l m=true->l=m/\∀v∈l,flat v=true:=by
 intro l
 induction l with
 |nil=>intro m h;cases m with
  |nil=>exact⟨rfl,by simp⟩
  |cons=>cases h
 |cons u l ih=>intro m h;cases m with
  |nil=>cases h
  |cons v m=>
   obtain⟨h1,h2⟩:=gQ (show(fE u v&&lE l m)=true from h)
   obtain⟨rfl,hf⟩:=OE h1
   obtain⟨rfl,hl⟩:=ih h2
   exact⟨rfl,λw hw=>by rcases List.mem_cons.1 hw with rfl|hw;exact hf;exact hl w hw⟩
noncomputable def oE(a b:Option Ob):Bool:=
 match a,b with
 |none,none=>true
 |some (.cells c el es op ro),some (.cells c' De vw nS Is)=>lE c c'&&Nat.beq el De&&Nat.beq es vw&&!(xor op nS)&&!(xor ro Is)
 |_,_=>false
def Jo:Ob->Prop
 |.cells c _ _ _ _=>∀v∈c,flat v=true
 |_=>False
theorem ag3{a b:Option Ob}(h:oE a b=true):a=b/\∀o,a=some o->Jo o:=by
 unfold oE at h
 split at h
 ·exact⟨rfl,λo h=>by cases h⟩
 ·rename_i c el es op ro c' De vw nS Is
  obtain⟨h,h5⟩:=gQ h
  obtain⟨h,h4⟩:=gQ h
  obtain⟨h,h3⟩:=gQ h
  obtain⟨h1,h2⟩:=gQ h
  obtain⟨rfl,hf⟩:=ahf h1
  have e2:=Nat.eq_of_beq_eq_true h2
  have e3:=Nat.eq_of_beq_eq_true h3
  subst e2 e3
  have e4:op=nS:=by cases op<;>cases nS<;>first|rfl|cases h4
  have e5:ro=Is:=by cases ro<;>cases Is<;>first|rfl|cases h5
  subst e4 e5
  exact⟨rfl,λo ho=>by cases ho;exact hf⟩
 ·cases h
noncomputable def wQ(a b:Tr Ob):Bool:=
 Tr.rec (motive:=λ_=>Tr Ob->Bool) (λb=>Tr.rec (motive:=λ_=>Bool) true (λ_ _ _ _ _=>false) b)
  (λ_ v _ Hd Br b=>Tr.rec (motive:=λ_=>Bool) false (λl v' r _ _=>Hd l&&oE v v'&&Br r) b) a b
theorem IE:∀{a b:Tr Ob},wQ a b=true->a=b/\∀p o,look p a=some o->Jo o:=by
 intro a
 induction a with
 |lf=>intro b h;cases b with
  |lf=>exact⟨rfl,λp o h=>by rw[js] at h;cases h⟩
  |nd=>cases h
 |nd l v r Hd Br=>intro b h;cases b with
  |lf=>cases h
  |nd l' v' r'=>
   obtain⟨h,h3⟩:=gQ (show(wQ l l'&&oE v v'&&wQ r r')=true from h)
   obtain⟨h1,h2⟩:=gQ h
   obtain⟨rfl,f1⟩:=Hd h1
   obtain⟨rfl,f2⟩:=ag3 h2
   obtain⟨rfl,f3⟩:=Br h3
   refine⟨rfl,λp o ho=>?_⟩
   cases p with
   |h=>exact f2 o ho
   |o p=>exact f1 p o ho
   |i p=>exact f3 p o ho
noncomputable def QU(t:Tr Ob):Tr Ob:=Tr.rec (motive:=λ_=>Tr Ob) .lf (λl _ _ _ _=>l) t
theorem EJ(q:Ps)(t:Tr Ob):look q (QU t)=look (.o q) t:=by
 cases t with
 |lf=>exact js q
 |nd l v r=>rfl
theorem CW.mono{f:FuncId}{xs:List Value}{Kp Ic:Value->Heap->Prop}(h:CW P f xs H Kp)(hk:∀u H',Kp u H'->Ic u H'):CW P f xs H Ic:=by
 rcases h with⟨fn,hf,hb,h⟩|h
 ·exact .inl ⟨fn,hf,hb,λw hw=>(h w hw).mono λe w'⟨v,he,hs,hq⟩=>⟨v,he,hs,hk _ _ hq⟩⟩
 ·exact .inr λw hw=>let⟨u,w',hr,hs,hq⟩:=h w hw;⟨u,w',hr,hs,hk _ _ hq⟩
theorem TT.afx{ρ ρ':ig}{base kap:Nat}{o:Ob}{x:Obj}(hf:Jo o)(h:TT ρ M base kap o x):TT ρ' M base kap o x:=by
 cases o with
 |cells c el es op ro=>
  obtain⟨arr,lk,h1,h2,h3⟩:=h
  exact⟨arr,lk,h1,λj v hv=>let⟨y,hy,hd⟩:=h2 j v hv;⟨y,hy,Jn (hf v (List.mem_of_getElem? hv)) hd⟩,h3⟩
 |_=>exact hf.elim
noncomputable def Te(G:Tr Ob)(lo hi:Nat):Hp:=⟨.nd G none .lf,.h,lo,hi⟩
noncomputable def wH(G:Tr Ob)(res:V):V->Hp->Bool:=λv h1=>fE v res&&wQ (QU h1.t) G
theorem adg{cf:nk}(oN:fY P M cf){f:FuncId}{vs:List V}{G:Tr Ob}{lo hi:Nat}{res:V}(ju:cf f vs (Te G lo hi) (wH G res)=true)(hG:wQ G G=true)(Co:∀v∈vs,flat v=true)
 {xs:List Value}(r:R ρ M U h H)(hd:iz ρ M vs xs)(tD:∀q o,look q G=some o->look (.o q) h.t=some o)(mc:lo<=h.lo)(lx:h.hi<=hi){K:V->Hp->Bool}(hk:K res h=true):CW P f xs H (Af ρ M U K):=by
 classical
 have Uf:=(IE hG).2
 have A7:∀o,Jo o->live o:=λo ho=>by cases o<;>first|trivial|exact ho.elim
 let ρ0:ig:=λp=>match p with|.o q=>ρ (.o q)|_=>none
 let JY:Nat->Prop:=λi=>∃q o fv base kap,look q G=some o/\ρ (.o q)=some (fv,base,kap)/\fv=i
 let U0:Un:=λi=>if JY i then none else H[i]?
 have D9:∀b o,look b (Te G lo hi).t=some o->∃q,b=.o q/\look q G=some o:=by
  intro b o hb
  cases b with
  |h=>cases hb
  |o q=>exact⟨q,rfl,hb⟩
  |i q=>have:look q (Tr.lf:Tr Ob)=some o:=hb;rw[js] at this;cases this
 have r0:R ρ0 M U0 (Te G lo hi) H:=by
  refine⟨λg=>r.gl g,λp hp=>absurd rfl hp,λb o hb hl=>?_,λb b' o o' x x' h1 h2 l1 l2 e1 e2 e=>?_,λi o hi=>?_,?_,?_⟩
  ·obtain⟨q,rfl,hq⟩:=D9 b o hb
   obtain⟨fv,base,kap,x,q1,q2,q3,q4⟩:=r.ob (.o q) o (tD q o hq) hl
   exact⟨fv,base,kap,x,q1,q2,if_pos ⟨q,o,fv,base,kap,hq,q1,rfl⟩,q4.afx (Uf q o hq)⟩
  ·obtain⟨q,rfl,hq⟩:=D9 b o h1
   obtain⟨q',rfl,BG⟩:=D9 b' o' h2
   exact r.inj _ _ _ _ _ _ (tD q o hq) (tD q' o' BG) l1 l2 e1 e2 e
  ·simp only[U0] at hi
   split at hi
   ·cases hi
   ·exact hi
  ·exact⟨Nat.le_trans mc r.bd.1,Nat.le_trans r.bd.2 lx⟩
  ·obtain⟨t,fr,m,hm⟩:=r.ml
   refine⟨t,fr,m,?_⟩
   show(if JY sZ then none else H[sZ]?)=_
   rw[if_neg]
   ·exact r.un _ _ hm
   ·rintro⟨q,o',aiF,afE,amp,hq,hρ,hi⟩
    obtain⟨fv,base,kap,x,q1,q2,q3,q4⟩:=r.ob _ _ (tD q o' hq) (A7 _ (Uf q o' hq))
    rw[hρ] at q1
    cases q1
    rw[hi,hm] at q3
    cases q3
 have GB:iz ρ0 M vs xs:=⟨hd.1,λi v x hv hx=>Jn (Co v (List.mem_of_getElem? hv)) (hd.2 i v x hv hx)⟩
 refine(oN ρ0 U0 _ H f vs xs _ r0 GB ju).mono λu H'⟨ρ1,v,h1,hl,r1,Tn,ZR⟩=>?_
 unfold wH at ZR
 obtain⟨k1,k2⟩:=gQ ZR
 obtain⟨rfl,hfv⟩:=OE k1
 have e2:=(IE k2).1
 refine⟨ρ,v,h,Le.refl _,⟨r.gl,r.YI,λb o hb yA=>?_,r.inj,λi o hi=>?_,r.bd,r.ml⟩,Jn hfv Tn,hk⟩
 ·obtain⟨fv,base,kap,x,q1,q2,q3,q4⟩:=r.ob b o hb yA
  by_cases hg:JY fv
  ·obtain⟨q,o',aiF,afE,amp,hq,hρ,rfl⟩:=hg
   have rb:=r.inj _ _ _ _ _ _ hb (tD q o' hq) yA (A7 _ (Uf q o' hq)) q1 hρ rfl
   subst rb
   have:o=o':=by have:=tD q o' hq;rw[hb] at this;exact Option.some.inj this
   subst this
   have qg:look (.o q) h1.t=some o:=by rw[<-EJ,e2];exact hq
   obtain⟨asM,ar9,asp,x1,s1,s2,s3,s4⟩:=r1.ob _ _ qg yA
   have:=hl (.o q) (aiF,base,kap) q1
   rw[this] at s1
   cases s1
   exact⟨_,_,_,x1,q1,s2,q3,s4.afx (Uf q o hq)⟩
  ·have:U0 fv=some x:=by simp only[U0];rw[if_neg hg];exact q2
   exact⟨fv,base,kap,x,q1,r1.un _ _ this,q3,q4⟩
 ·have ZQ:¬JY i:=by
   rintro⟨q,o',aiF,afE,amp,hq,hρ,rfl⟩
   obtain⟨fv,base,kap,x,q1,q2,q3,q4⟩:=r.ob _ _ (tD q o' hq) (A7 _ (Uf q o' hq))
   rw[hρ] at q1
   cases q1
   rw[hi] at q3
   cases q3
  exact r1.un i o (by simp only[U0];rw[if_neg ZQ];exact r.un i o hi)
end Go.X
namespace Go.X
open Go.Ex
variable {P:Program} {ρ:ig} {M:Nat} {U:Un} {h:Hp} {H:Heap}
noncomputable def PR(m p S:Nat)(n:Nat):Nat->Nat->(Int->Bool)->Bool:=
 Nat.rec (motive:=λ_=>Nat->Nat->(Int->Bool)->Bool) (λ_ _ k=>k (-1))
  (λn ih i N k=>bif Nat.ble m (Nat.succ n)&&Nat.beq (N%p) S then fN i λi=>k (Int.ofNat i) else fN (N/256) λN=>fN (Nat.succ i) λi=>ih i N k) n
theorem W0:∀(m n S N:Nat),(bl m S).isPrefixOf (bl n N)=(Nat.ble m n&&Nat.beq (N%256^m) (S%256^m))
 |0,n,S,N=>by
  have:Nat.ble 0 n=true:=by simp
  simp[bl,Nat.mod_one,this]
 |m+1,0,S,N=>by
  have:Nat.ble (m+1) 0=false:=by cases h:Nat.ble (m+1) 0 with
   |false=>rfl
   |true=>have:=Nat.le_of_ble_eq_true h;omega
  rw[this]
  rfl
 |m+1,n+1,S,N=>by
  have hm:Nat.ble (m+1) (n+1)=Nat.ble m n:=by
   cases h:Nat.ble m n with
   |true=>have:=Nat.le_of_ble_eq_true h;exact Nat.ble_eq_true_of_le (by omega)
   |false=>cases h2:Nat.ble (m+1) (n+1) with
    |false=>rfl
    |true=>have:=Nat.le_of_ble_eq_true h2;rw[Nat.ble_eq_true_of_le (by omega)] at h;cases h
  have key:∀N,N%256^(m+1)=N%256+256*((N/256)%256^m):=λN=>by
   rw[Nat.pow_succ,Nat.mul_comm,Nat.mod_mul]
  show(UInt8.ofNat (S%256)==UInt8.ofNat (N%256)&&(bl m (S/256)).isPrefixOf (bl n (N/256)))=_
  rw[W0 m n,hm,A2 (Nat.mod_lt _ (by omega)) (Nat.mod_lt _ (by omega)),key N,key S,iL,iL,iL]
  have h1:N%256<256:=Nat.mod_lt _ (by omega)
  have h2:S%256<256:=Nat.mod_lt _ (by omega)
  by_cases e1:S%256=N%256
  ·by_cases e2:N/256%256^m=S/256%256^m
   ·rw[e1,e2];simp
   ·have:¬(N%256+256*(N/256%256^m)=S%256+256*(S/256%256^m)):=by omega
    simp[e1,e2]
    intro _
    omega
  ·have:¬(N%256+256*(N/256%256^m)=S%256+256*(S/256%256^m)):=by omega
   simp[e1,this]
def A9(sub:List UInt8):List UInt8->Nat->Int
 |[],_=>-1
 |b::l,i=>if sub.isPrefixOf (b::l) then(i:Int) else A9 sub l (i+1)
theorem XB(sub:List UInt8)(hs:sub≠[]):∀(l:List UInt8)(i:Nat),A9 sub l i=if Lib.index l sub=-1 then-1 else Lib.index l sub+i
 |[],i=>by cases sub with
  |nil=>exact absurd rfl hs
  |cons a t=>simp[A9,Lib.index]
 |b::l,i=>by
  have hr:=Lib.index_ge l sub
  unfold A9 Lib.index
  cases h:sub.isPrefixOf (b::l) with
  |true=>simp
  |false=>
   simp only[Bool.false_eq_true,if_false]
   rw[XB sub hs l (i+1)]
   by_cases h1:Lib.index l sub=-1
   ·simp[h1]
   ·have h2:¬(Lib.index l sub==-1)=true:=by simpa using h1
    rw[if_neg h1,if_neg h2,if_neg (by omega)]
    omega
theorem XC{m S:Nat}(hS:S%256^m=S):∀(n i N:Nat)(k:Int->Bool),PR m (256^m) S n i N k=k (A9 (bl m S) (bl n N) i)
 |0,i,N,k=>rfl
 |n+1,i,N,k=>by
  show(bif Nat.ble m (Nat.succ n)&&Nat.beq (N%256^m) S then fN i λi=>k (Int.ofNat i) else fN (N/256) λN=>fN (Nat.succ i) λi=>PR m (256^m) S n i N k)=k (if(bl m S).isPrefixOf (bl (n+1) N)=true then(i:Int) else A9 (bl m S) (bl n (N/256)) (i+1))
  rw[W0,hS]
  cases Nat.ble m (n+1)&&Nat.beq (N%256^m) S with
  |true=>simp[fW]
  |false=>simp only[cond_false,fW,Bool.false_eq_true,if_false];exact XC hS n (i+1) (N/256) k
structure aoS(P:Program)(f:FuncId):Prop where
 body:∃fn,P.funcs[f]?=some fn/\fn.body.isSome=true
 calls:∀(s sub:ByteArray)(m:Int)(w:World),s.size<4294967281->w.cell? ⟨sZ,0,none⟩=some (.int .i64 m)->Calls P f #[.string s,.string sub] w λe w'=>e=.returned (.int .i64 (Lib.index s.data.toList sub.data.toList))/\w'=w
noncomputable def Pa(vs:List V)(h:Hp)(K:V->Hp->Bool):Bool:=
 match vs with
 |[.str n N,.str m S]=>bif Nat.blt n 1000000000&&Nat.ble 1 m then fN (256^m) λp=>fN (S%p) λS=>PR m p S n 0 N λi=>K (.int .i64 i) h else false
 |_=>false
theorem aae{f:FuncId}(hx:aoS P f)(r:R ρ M U h H){vs:List V}{xs:List Value}(hd:iz ρ M vs xs){K:V->Hp->Bool}(hh:Pa vs h K=true):CW P f xs H (Af ρ M U K):=by
 unfold Pa at hh
 split at hh
 ·rename_i n N m S
  have h2:=jc hh
  clear hh
  obtain⟨hc,hh⟩:=h2
  simp only[Bool.and_eq_true,Nat.blt_eq] at hc
  obtain⟨hn,hm⟩:=hc
  have hm:=Nat.le_of_ble_eq_true hm
  obtain⟨t,fr,q,Ox⟩:=r.ml
  have Ox:=r.un _ _ Ox
  rw[fW,fW,XC (Nat.mod_mod _ _)] at hh
  have pX:dj H ⟨sZ,0,none⟩=some (.int .i64 q):=by unfold dj;simp only;rw[Ox];rfl
  obtain⟨x,a,rfl,h1,h2⟩:=hd.eh
  obtain⟨y,a,rfl,h3,h4⟩:=h2.eh
  obtain rfl:=h4.kI
  cases h1
  cases h3
  have ap9:bl m (S%256^m)=bl m S:=(JE m _ _).2 (Nat.mod_mod _ _)
  have hZ:bl m S≠[]:=λe=>by have:=congrArg List.length e;rw[JD] at this;simp at this;omega
  rw[ap9,XB _ hZ] at hh
  obtain⟨fn,hf,Uj⟩:=hx.body
  refine .inl ⟨fn,hf,Uj,λw hw=>?_⟩
  refine(hx.calls (strOf n N) (strOf m S) q w (by rw[gi];omega) (cell_of hw pX)).mono ?_
  rintro e w' ⟨rfl,rfl⟩
  refine⟨_,rfl,dV.refl _,?_⟩
  rw[hw]
  refine .mk r (.int .i64 _) ?_
  have:Lib.index (bl n N) (bl m S)=if Lib.index (bl n N) (bl m S)=-1 then-1 else Lib.index (bl n N) (bl m S)+(0:Nat):=by split<;>omega
  show K (V.int .i64 (Lib.index (bl n N) (bl m S))) h=true
  rw[this]
  exact hh
 ·cases hh
noncomputable def Y7(n:Nat)(p:Nat->Bool):Bool:=Nat.rec (motive:=λ_=>Bool) true (λi ih=>ih&&p i) n
theorem zO{p:Nat->Bool}:∀{n:Nat},Y7 n p=true->∀i,i<n->p i=true
 |0,_,i,hi=>by omega
 |n+1,h,i,hi=>by
  obtain⟨h1,h2⟩:=gQ (show(Y7 n p&&p n)=true from h)
  rcases Nat.lt_or_ge i n with h|h
  ·exact zO h1 i h
  ·rw[show i=n by omega];exact h2
noncomputable def Kg(hi:Nat)(mask:Nat)(vs:List V)(h:Hp)(K:V->Hp->Bool):Bool:=
 match vs with
 |[.int .i32 (.ofNat r)]=>bif Nat.blt r 128&&Nat.ble h.hi hi then fB (mask.testBit r) λb=>K (.bool b) h else false
 |_=>false
def JQ(P:Program)(M:Nat)(f:FuncId)(hi mask:Nat):Prop:=∃cf:nk,fY P M cf/\∀r,r<128->cf f [.int .i32 (.ofNat r)] (Te .lf 0 hi) (wH .lf (.bool (mask.testBit r)))=true
theorem Aw{f:FuncId}{hi mask:Nat}(hx:JQ P M f hi mask)(r:R ρ M U h H){vs:List V}{xs:List Value}(hd:iz ρ M vs xs){K:V->Hp->Bool}(hh:Kg hi mask vs h K=true):CW P f xs H (Af ρ M U K):=by
 unfold Kg at hh
 split at hh
 ·rename_i n
  have h2:=jc hh
  clear hh
  obtain⟨hc,hh⟩:=h2
  simp only[Bool.and_eq_true,Nat.blt_eq] at hc
  obtain⟨hn,hm⟩:=hc
  rw[pv] at hh
  obtain⟨cf,oN,ju⟩:=hx
  exact adg oN (ju n hn) rfl (by simp[flat]) r hd (λq o hq=>by rw[js] at hq;cases hq) (Nat.zero_le _) (Nat.le_of_ble_eq_true hm) hh
 ·cases hh
noncomputable def amj{α:Type}(p:Ps)(t:Tr α):Option α:=
 Ps.rec (motive:=λ_=>Tr α->Option α) (λt=>Tr.rec (motive:=λ_=>Option α) none (λ_ v _ _ _=>v) t) (λ_ ih t=>Tr.rec (motive:=λ_=>Option α) none (λl _ _ _ _=>ih l) t)
  (λ_ ih t=>Tr.rec (motive:=λ_=>Option α) none (λ_ _ r _ _=>ih r) t) p t
noncomputable def ang(l:List (Nat×An))(i:Nat):An:=List.rec (motive:=λ_=>An) (.ord []) (λx _ ih=>bif Nat.beq x.1 i then x.2 else ih) l
noncomputable def anx(t:Tr (List (Nat×An)))(f:FuncId)(id:Nat):An:=match amj (lQ f) t with|some l=>ang l id|none=>.ord []
noncomputable def G1(f₀:FuncId)(x:List V->Hp->(V->Hp->Bool)->Bool)(n:wu):wu:=λrec bd f vs h K=>bif Nat.beq f f₀ then x vs h K else n rec bd f vs h K
theorem zi{f₀:FuncId}{x:List V->Hp->(V->Hp->Bool)->Bool}{n:wu}(hx:∀(ρ:ig)(U:Un)(h:Hp)(H:Heap)(vs:List V)(xs:List Value)(K:V->Hp->Bool),R ρ M U h H->iz ρ M vs xs->x vs h K=true->CW P f₀ xs H (Af ρ M U K))(hn:wV P M n):wV P M (G1 f₀ x n):=by
 intro rec bd hr hb ρ U h H f vs xs K r hd hh
 unfold G1 at hh
 cases he:Nat.beq f f₀ with
 |true=>
  rw[he] at hh
  rw[Nat.eq_of_beq_eq_true he]
  exact hx ρ U h H vs xs K r hd hh
 |false=>
  rw[he] at hh
  exact hn rec bd hr hb ρ U h H f vs xs K r hd hh
end Go.X
namespace Go.X
open Go.Ex
variable {P:Program} {ρ:ig} {M:Nat} {U:Un} {h:Hp} {H:Heap} {env:Tr V} {e:Env}
abbrev DL:=List (FuncId×List V)
inductive tL (ρ:ig) (M:Nat):DL->List Deferred->Prop where
 |nil:tL ρ M [] []
 |cons {f:FuncId} {vs:List V} {d:Deferred} {D:DL} {Ds:List Deferred} (h:d.target=.fn (.func f) #[]) (hd:iz ρ M vs d.args.toList) (r:tL ρ M D Ds):tL ρ M ((f,vs)::D) (d::Ds)
theorem tL.mono{ρ ρ':ig}(hl:Le ρ ρ'){D:DL}{Ds:List Deferred}(h:tL ρ M D Ds):tL ρ' M D Ds:=by
 induction h with
 |nil=>exact .nil
 |cons h hd _ ih=>exact .cons h ⟨hd.1,λi v x a b=>(hd.2 i v x a b).mono hl⟩ ih
abbrev KD:=Xt->Tr V->Hp->DL->Bool
def I9(l:List Oper):Option Call:=match l.getLast? with
 |some o=>(match o.op with|.defer c=>(match o.guard,o.dst with|none,none=>some c|_,_=>none)|_=>none)
 |none=>none
noncomputable def Na(c:Call)(env:Tr V)(K:FuncId->List V->Bool):Bool:=match c.callee with|.value (.func f)=>xL env c.args.toList λvs=>K f vs|_=>false
noncomputable def alM(ex:Xt)(env:Tr V)(h:Hp)(D:DL)(k:KD)(next:Bool):Bool:=match ex with|.n=>next|.x i=>k (.x i) env h D|.r=>k .r env h D
noncomputable def stepG(P:Program)(cf:nk)(ord:Nat->An)(N:Nat)(rec:Code->Tr V->Hp->DL->KD->Bool)(c:Code)(env:Tr V)(h:Hp)(D:DL)(k:KD):Bool:=
 match c with
 |.skip=>k .n env h D
 |.ret=>k .r env h D
 |.seq x y=>rec x env h D λex env h D=>alM ex env h D k (rec y env h D k)
 |.cond c x y=>xo env c λv=>(match v with|.bool b=>(match b with|true=>rec x env h D k|false=>rec y env h D k)|_=>false)
 |.region id ops false=>(match I9 ops.toList with
  |some cl=>bif gm N ops then pe P cf ops ops.toList.dropLast env h λenv h=>Na cl env λf vs=>k .n env h ((f,vs)::D) else false
  |none=>xC P cf ord N 2 (.region id ops false) env h λex env h=>k ex env h D)
 |.region id ops true=>xC P cf ord N 2 (.region id ops true) env h λex env h=>k ex env h D
 |_=>false
noncomputable def xG(P:Program)(cf:nk)(ord:Nat->An)(N n:Nat):Code->Tr V->Hp->DL->KD->Bool:=
 Nat.rec (motive:=λ_=>Code->Tr V->Hp->DL->KD->Bool) (λ_ _ _ _ _=>false) (λ_ ih=>stepG P cf ord N ih) n
def aoV(ρ:ig)(M:Nat)(U:Un)(N:Nat)(w:World)(k:KD)(Q:Exit->Act->World->Prop):Prop:=
 ∀ex env h D ρ' e Ds a' w',k ex env h D=true->Le ρ ρ'->E ρ' M env e->R ρ' M U h w'.heap->tL ρ' M D Ds->Mt N Ds a' e->dV w w'->Q ex.to' a' w'
section
variable {cf:nk} {ord:Nat->An} {N:Nat}
theorem qP{Ds:List Deferred}{ops:Array Oper}{Q:Exit->Act->World->Prop}{K:Env->Heap->Prop}{m:List Oper}(hp:j0 P=true)(hN:gm N ops=true)(w₀:World)
 (hQ:∀a' w' e',Mt N Ds a' e'->dV w₀ w'->K e' w'.heap->wpList P ops Q m a' w'):
 ∀(l:List Oper)(i:Nat)(e:Env)(a:Act)(w:World),(∀o∈l,o∈ops)->nU P ops l i e w.heap K->Mt N Ds a e->dV w₀ w->wpList P ops Q (l++m) a w
 |[],i,e,a,w,_,h,hm,hs=>hQ a w e hm hs h
 |o::rest,i,e,a,w,hl,h,hm,hs=>by
  have ho:o∈ops:=hl o (by simp)
  have iE:∀o∈rest,o∈ops:=λo' h'=>hl o' (by simp[h'])
  have hd:=vX hN ho
  unfold nU at h
  split at h
  ·exact h.elim
  ·rename_i hw
   show wpList P ops Q (o::(rest++m)) a w
   unfold wpList
   rw[if_neg (by rw[ib hw (λt _=>hm.val t)];simp)]
   exact qP hp hN w₀ hQ rest (i+1) _ _ w iE h (hm.put _ hd _) hs
  ·rename_i hw
   show wpList P ops Q (o::(rest++m)) a w
   unfold wpList
   rw[if_pos (ib hw (λt _=>hm.val t))]
   refine .inl ?_
   split at h
   ·obtain⟨v,hv,hr⟩:=jm h
    have hv:=nX hv
    unfold Oper.wp
    rw[hr a.eval (hm.nE _) w]
    exact qP hp hN w₀ hQ rest (i+1) _ _ w iE hv (hm.put _ hd _) hs
   ·obtain⟨v,hv,hr⟩:=iy h
    have hv:=nX hv
    unfold Oper.wp
    rw[hr a.eval (hm.nE _) w rfl]
    exact qP hp hN w₀ hQ rest (i+1) _ _ w iE hv (hm.put _ hd _) hs
   ·refine mD hp h (hm.nE _) w rfl ?_
    intro v w' fU hv
    exact qP hp hN w₀ hQ rest (i+1) _ _ w' iE (nX hv) (hm.put _ hd _) (hs.trans fU)
theorem LU{l:List Oper}{c:Call}(h:I9 l=some c):∃o,l=l.dropLast++[o]/\o.op=.defer c/\o.guard=none/\o.dst=none:=by
 unfold I9 at h
 split at h
 ·rename_i o ho
  split at h
  ·rename_i c' hc
   split at h
   ·rename_i hg hd
    cases h
    refine⟨o,?_,hc,hg,hd⟩
    have hZ:l≠[]:=λe=>by rw[e] at ho;cases ho
    rw[List.getLast?_eq_some_getLast hZ] at ho
    have:=List.dropLast_concat_getLast hZ
    rw[Option.some.inj ho] at this
    exact this.symm
   ·cases h
  ·cases h
 ·cases h
theorem UN(hp:j0 P=true)(oN:fY P M cf):∀(n:Nat)(c:Code)(env:Tr V)(h:Hp)(D:DL)(k:KD),xG P cf ord N n c env h D k=true->∀(ρ:ig)(e:Env)(Ds:List Deferred)(a:Act)(w:World)(Q:Exit->Act->World->Prop),E ρ M env e->R ρ M U h w.heap->tL ρ M D Ds->Mt N Ds a e->
 aoV ρ M U N w k Q->c.wp P Q a w:=by
 intro n
 induction n with
 |zero=>intro c env h D k hh;cases hh
 |succ n ih=>
  intro c env h D k hh ρ e Ds a w Q he r hD hm hg
  replace hh:stepG P cf ord N (xG P cf ord N n) c env h D k=true:=hh
  have plain:∀c,xC P cf ord N 2 c env h (λex env h=>k ex env h D)=true->c.wp P Q a w:=λc hh=>
   Dp (U:=U) hp oN 2 c env h _ hh ρ e a w Q he r hm λex env h ρ' e a' w' hk hl jU r' fj fU=>hg ex env h D ρ' e Ds a' w' hk hl jU r' (hD.mono hl) fj fU
  unfold stepG at hh
  split at hh
  ·exact wp_skip (hg .n _ _ _ ρ e Ds a w hh (Le.refl _) he r hD hm (dV.refl w))
  ·exact wp_ret (hg .r _ _ _ ρ e Ds a w hh (Le.refl _) he r hD hm (dV.refl w))
  ·rename_i x y
   refine wp_seq (ih x env h D _ hh ρ e Ds a w _ he r hD hm ?_)
   intro ex eJ h' D' ρ' e' Ut a' w' hk hl jU r' Ka fj fU
   dsimp only at hk
   unfold alM at hk
   split at hk
   ·exact ih y eJ h' D' k hk ρ' e' Ut a' w' Q jU r' Ka fj λte lK h2 D2 ρ2 e2 Ih a2 w2 Ar rR EW r2 GI xV wK=>hg te lK h2 D2 ρ2 e2 Ih a2 w2 Ar (hl.trans rR) EW r2 GI xV (fU.trans wK)
   ·exact hg _ _ _ _ ρ' e' Ut a' w' hk hl jU r' Ka fj fU
   ·exact hg _ _ _ _ ρ' e' Ut a' w' hk hl jU r' Ka fj fU
  ·rename_i c x y
   obtain⟨v,y',hx,hd,hh⟩:=oF he r.gl hh
   split at hh
   ·cases hd
    split at hh
    ·exact wp_cond_true (hm.eval hx) (ih x env h D k hh ρ e Ds a w Q he r hD hm hg)
    ·exact wp_cond_false (hm.eval hx) (ih y env h D k hh ρ e Ds a w Q he r hD hm hg)
   ·cases hh
  ·rename_i id ops
   split at hh
   ·rename_i cl Mg
    have h2:=jc hh
    clear hh
    obtain⟨hN,hh⟩:=h2
    obtain⟨o,amX,Bd,RQ,yX⟩:=LU Mg
    have qI:∀o'∈ops.toList.dropLast,o'∈ops:=λo' kh=>by simpa using List.dropLast_subset _ kh
    have vQ:=Dk (U:=U) hp oN (ops:=ops) (K:=λenv h=>Na cl env λf vs=>k .n env h ((f,vs)::D)) ops.toList.dropLast 0 ρ env h e w.heap hh he r
    refine wp_region_list ?_
    rw[amX]
    refine qP hp hN w (m:=[o]) ?_ _ 0 e a w qI vQ hm (dV.refl w)
    rintro a' w' e' fj fU ⟨ρ',eJ,h',hl,jU,r',hk⟩
    unfold Na at hk
    split at hk
    ·rename_i f hc
     obtain⟨vs,xs,yo,Co,hk⟩:=uB jU r'.gl hk
     unfold wpList
     rw[if_pos (by unfold Region.wanted;rw[RQ])]
     refine .inl ?_
     have ea:=iv yo (τ:=a'.eval) (λy hy=>by
      have:=fj.nE o.op.operands.toList y
      exact this (by rw[Bd];simp[Op.operands,Call.operands];simp at hy;exact .inr hy))
     have Js:cl.args.map a'.eval=xs.toArray:=by rw[<-ea];cases cl.args;simp
     have ju:(execOp a'.eval o).run P w'=.ok (.defer {target:=.fn (.func f) #[],args:=xs.toArray}) w':=by
      unfold execOp
      rw[Bd]
      simp only[resolve,hc,Js]
      show Result.ok (Next.defer {target:=.fn (.func f) #[],args:=#[]++xs.toArray}) w'=_
      rw[Array.empty_append]
     unfold Oper.wp
     rw[ju,Oper.upon_defer,yX]
     refine hg .n eJ h' ((f,vs)::D) ρ' e' _ _ w' hk hl jU r' (.cons (d:={target:=.fn (.func f) #[],args:=xs.toArray}) rfl (by simpa using Co) (hD.mono hl)) ?_ fU
     exact⟨fj.size,by show _::a'.defers=_;rw[fj.defers],fj.val⟩
    ·cases hk
   ·exact plain _ hh
  ·exact plain _ hh
  ·cases hh
end
noncomputable def Lj(bd:nk)(D:DL)(h:Hp)(k:Hp->Bool):Bool:=List.rec (motive:=λ_=>Hp->Bool) (λh=>k h) (λd _ ih h=>bd d.1 d.2 h λ_ h=>ih h) D h
theorem SK(hp:j0 P=true){bd:nk}(hb:By P M bd){fn:Func}{tmps:Array Value}{Rr:Ending->World->Prop}{k:Hp->Bool}:∀(D:DL)(h:Hp)(ρ:ig)(Ds:List Deferred)(w:World),Lj bd D h k=true->R ρ M U h w.heap->tL ρ M D Ds->
 (∀ρ' h' w',Le ρ ρ'->R ρ' M U h' w'.heap->dV w w'->k h'=true->Leaves P fn tmps Rr [] .returning w')->Leaves P fn tmps Rr Ds .returning w:=by
 intro D
 induction D with
 |nil=>intro h ρ Ds w hh r hD Tl;cases hD;exact Tl ρ h w (Le.refl _) r (dV.refl w) hh
 |cons d D ih=>
  intro h ρ Ds w hh r hD Tl
  replace hh:(bd d.1 d.2 h λ_ h=>Lj bd D h k)=true:=hh
  cases hD with
  |cons ht hd hr=>
  rename_i f vs d' Ds
  obtain⟨tg,OV⟩:=d'
  simp only at ht hd
  subst ht
  obtain⟨ZG,c,hf,hc,hw⟩:=hb ρ U h w.heap f vs OV.toList _ r hd hh
  have hw:=hw w rfl
  refine leaves_cons (f:=f) (args:=OV) (by simp) ?_ ?_
  ·show(callFunc f (OV++#[])).run P w=_
   rw[Array.append_empty]
   exact sw hp hf (by rw[hc];rfl) OV w
  ·refine(callsD_of_wp hf hc (by simpa using hw)).mono ?_
   rintro e u' w' ⟨rfl,v,rfl,hs,ρ',u,h',hl,r',_,hk⟩
   exact ih h' ρ' Ds w' hk r' (hr.mono hl) λρ2 h2 w2 rR r2 wK Ar=>Tl ρ2 h2 w2 (hl.trans rR) r2 (hs.trans wK) Ar
noncomputable def UO(P:Program)(gD:FuncId->Nat->An)(f:FuncId)(rec bd:nk)(vs:List V)(h:Hp)(K:V->Hp->Bool):Bool:=
 match P.funcs[f]? with
 |none=>false
 |some fn=>(match fn.body with
  |none=>false
  |some c=>uf vs λn=>bif Nat.ble n fn.ntmps then Hy vs 0 .lf λenv=>
   xG P rec (gD f) fn.ntmps 50 c env h [] λex env h D=>(match ex with|.x _=>false|.n=>Lj bd D h λh=>xb P env h fn.results.toList λr=>Cm r K h|.r=>Lj bd D h λh=>xb P env h fn.results.toList λr=>Cm r K h) else false)
theorem RA(hp:j0 P=true){gD:FuncId->Nat->An}{rec bd:nk}(ih:fY P M rec)(hb:By P M bd){f:FuncId}(r:R ρ M U h H){vs:List V}{xs:List Value}(hd:iz ρ M vs xs){K:V->Hp->Bool}(hh:UO P gD f rec bd vs h K=true):CW P f xs H (Af ρ M U K):=by
 unfold UO at hh
 split at hh
 ·cases hh
 ·rename_i fn hf
  split at hh
  ·cases hh
  ·rename_i c Uj
   rw[lR] at hh
   obtain⟨hle,hh⟩:=jc hh
   have hle:=Nat.le_of_ble_eq_true hle
   refine .inl ⟨fn,hf,by rw[Uj];rfl,λw hw=>?_⟩
   have He:xs.length=vs.length:=hd.1.symm
   obtain⟨env,hh,he⟩:=wc (ρ:=ρ) (M:=M) hh (e:=vf fn.ntmps xs) hd (λt v hv=>by rw[js] at hv;cases hv) (λj x hx=>by
    have hj:=(List.getElem?_eq_some_iff.1 hx).1
    unfold vf
    rw[Nat.zero_add,show Nat.blt j xs.length=true by rw[Nat.blt_eq];exact hj]
    exact hx)
   refine calls_of_wp_defers hf Uj ?_
   refine UN (U:=U) hp ih 50 c env h [] _ hh ρ (vf fn.ntmps xs) [] _ w _ he (by rw[hw];exact r) .nil (JN hle He) ?_
   intro ex eJ h' D ρ' e' Ds a' w' hk hl jU r' Ka fj fU
   have fin:(Lj bd D h' λh=>xb P eJ h fn.results.toList λr=>Cm r K h)=true->bodyPostD P fn (λe w'=>∃v,e=.returned v/\dV w w'/\Af ρ M U K v w'.heap) .ret a' w':=by
    intro hk
    show Leaves P fn a'.tmps _ a'.defers .returning w'
    rw[fj.defers]
    refine SK hp hb D h' ρ' Ds w' hk r' Ka λρ2 h2 w2 rR r2 wK Ar=>?_
    obtain⟨Px,M3,hk,Cq,ju⟩:=uA (P:=P) (jU.mono rR) r2 fj.val Ar
    obtain⟨v,Tn,hk⟩:=yU Cq hk
    have xx:(results fn a'.tmps).run P w2=.ok (if h:M3.toArray.size=1 then M3.toArray[0] else .tuple M3.toArray) w2:=by
     unfold results
     rw[Sem.run_bind,Array.mapM_eq_mapM_toList,Sem.run_map]
     rw[ju _ (λt=>rfl) (λa t=>rfl) w2 rfl]
     rfl
    exact⟨_,xx,_,rfl,fU.trans wK,ρ2,v,h2,hl.trans rR,r2,Tn,hk⟩
   cases ex with
   |n=>exact fin hk
   |x i=>cases hk
   |r=>exact fin hk
end Go.X
namespace Go.X
open Go.Ex
variable {P:Program} {ρ:ig} {M:Nat} {U:Un} {h:Hp} {H:Heap} {env:Tr V} {e:Env}
def FW(ro:Option Nat):Fence:={Fence.wide with round:=ro}
theorem GL{ro:Option Nat}{n:Nat}{o:Oper}{a:Act}{w:World}{next:Act->World->Prop}{Q:Exit->Act->World->Prop}(hd:∀c,o.op≠.defer c)(h:o.wp P a w next Q):o.wpIn (FW ro) n P a w next Q:=by
 refine⟨λ_ _=>trivial,?_⟩
 rw[Oper.semAt_eq _ _ _ hd]
 unfold Oper.wp at h
 revert h
 generalize(execOp a.eval o).run P w=res
 intro h
 cases res with
 |ok nx w'=>
  cases nx with
  |enter f args=>exact⟨λhd=>(by cases hd),callsIn_wide.2 h⟩
  |row row args=>
   have h2:Rows P row args w' _:=h
   refine⟨λhd=>(by cases hd),λc cs _=>?_⟩
   obtain⟨v,w2,r,s⟩:=h2 c cs
   exact⟨v,w2,r,stepsIn_wide.2 s⟩
  |round=>exact h.elim
  |_=>exact h
 |halt x w'=>cases x<;>first|exact h|exact h.elim
def IW(o:Oper):Bool:=match o.op with|.defer _=>false|_=>true
theorem LD{o:Oper}(h:IW o=true):∀c,o.op≠.defer c:=λc hc=>by unfold IW at h;rw[hc] at h;cases h
section
variable {cf:nk} {N:Nat}
theorem sI{ro:Option Nat}{n:Nat}{Ds:List Deferred}{ops:Array Oper}{Q:Exit->Act->World->Prop}{K:Env->Heap->Prop}(hp:j0 P=true)(hN:gm N ops=true)(w₀:World)
 (hQ:∀a' w' e',Mt N Ds a' e'->dV w₀ w'->K e' w'.heap->Q .normal a' w'):
 ∀(l:List Oper)(i:Nat)(e:Env)(a:Act)(w:World),(∀o∈l,o∈ops)->(∀o∈l,IW o=true)->nU P ops l i e w.heap K->Mt N Ds a e->dV w₀ w->wpListIn (FW ro) n P ops Q l a w
 |[],i,e,a,w,_,_,h,hm,hs=>hQ a w e hm hs h
 |o::rest,i,e,a,w,hl,FO,h,hm,hs=>by
  have ho:o∈ops:=hl o (by simp)
  have iE:∀o∈rest,o∈ops:=λo' h'=>hl o' (by simp[h'])
  have Th:∀o∈rest,IW o=true:=λo' h'=>FO o' (by simp[h'])
  have wL:=LD (FO o (by simp))
  have hd:=vX hN ho
  unfold nU at h
  split at h
  ·exact h.elim
  ·rename_i hw
   unfold wpListIn
   rw[if_neg (by rw[ib hw (λt _=>hm.val t)];simp)]
   exact⟨λ_ _=>trivial,sI hp hN w₀ hQ rest (i+1) _ _ w iE Th h (hm.put _ hd _) hs⟩
  ·rename_i hw
   unfold wpListIn
   rw[if_pos (ib hw (λt _=>hm.val t))]
   refine GL wL ?_
   split at h
   ·obtain⟨v,hv,hr⟩:=jm h
    have hv:=nX hv
    unfold Oper.wp
    rw[hr a.eval (hm.nE _) w]
    exact sI hp hN w₀ hQ rest (i+1) _ _ w iE Th hv (hm.put _ hd _) hs
   ·obtain⟨v,hv,hr⟩:=iy h
    have hv:=nX hv
    unfold Oper.wp
    rw[hr a.eval (hm.nE _) w rfl]
    exact sI hp hN w₀ hQ rest (i+1) _ _ w iE Th hv (hm.put _ hd _) hs
   ·refine mD hp h (hm.nE _) w rfl ?_
    intro v w' fU hv
    exact sI hp hN w₀ hQ rest (i+1) _ _ w' iE Th (nX hv) (hm.put _ hd _) (hs.trans fU)
noncomputable def NK(P:Program)(cf:nk)(N:Nat)(rec:Code->Tr V->Hp->KC->Bool)(c:Code)(env:Tr V)(h:Hp)(k:KC):Bool:=
 match c with
 |.skip=>k .n env h
 |.region _ ops false=>bif gm N ops&&ops.toList.all IW then pe P cf ops ops.toList env h λenv h=>k .n env h else false
 |.seq x y=>rec x env h λex env h=>Ci ex env h k (rec y env h k)
 |.cond c x y=>xo env c λv=>(match v with|.bool b=>(match b with|true=>rec x env h k|false=>rec y env h k)|_=>false)
 |.block id x=>rec x env h λex env h=>ON id ex env h k
 |_=>false
noncomputable def Ik(P:Program)(cf:nk)(N n:Nat):Code->Tr V->Hp->KC->Bool:=
 Nat.rec (motive:=λ_=>Code->Tr V->Hp->KC->Bool) (λ_ _ _ _=>false) (λ_ ih=>NK P cf N ih) n
theorem Gs(hp:j0 P=true)(oN:fY P M cf){ro:Option Nat}{m:Nat}{Ds:List Deferred}:∀(n:Nat)(c:Code)(env:Tr V)(h:Hp)(k:KC),Ik P cf N n c env h k=true->∀(ρ:ig)(e:Env)(a:Act)(w:World)(Q:Exit->Act->World->Prop),E ρ M env e->R ρ M U h w.heap->Mt N Ds a e->
 Goal ρ M U N Ds w k Q->c.wpIn (FW ro) m P Q a w:=by
 intro n
 induction n with
 |zero=>intro c env h k hh;cases hh
 |succ n ih=>
  intro c env h k hh ρ e a w Q he r hm hg
  replace hh:NK P cf N (Ik P cf N n) c env h k=true:=hh
  unfold NK at hh
  split at hh
  ·exact wpIn_skip (hg .n _ _ ρ e a w hh (Le.refl _) he r hm (dV.refl w))
  ·rename_i id ops
   have h2:=jc hh
   clear hh
   obtain⟨hN,hh⟩:=h2
   obtain⟨hN,FO⟩:=gQ hN
   have:=Dk (U:=U) hp oN (ops:=ops) (K:=λenv h=>k .n env h) ops.toList 0 ρ env h e w.heap hh he r
   refine wpIn_region_list (sI hp hN w (λa' w' e' fj fU⟨ρ',eJ,h',hl,jU,r',hk⟩=>hg .n _ _ ρ' e' a' w' hk hl jU r' fj fU) ops.toList 0 e a w (λo ho=>by simpa using ho) (λo ho=>List.all_eq_true.1 FO o ho) this hm (dV.refl w))
  ·rename_i x y
   refine wpIn_seq (ih x env h _ hh ρ e a w _ he r hm ?_)
   intro ex eJ h' ρ' e' a' w' hk hl jU r' fj fU
   dsimp only at hk
   unfold Ci at hk
   split at hk
   ·exact ih y eJ h' k hk ρ' e' a' w' Q jU r' fj λte lK h2 ρ2 e2 a2 w2 Ar rR EW r2 xV wK=>hg te lK h2 ρ2 e2 a2 w2 Ar (hl.trans rR) EW r2 xV (fU.trans wK)
   ·exact hg _ _ _ ρ' e' a' w' hk hl jU r' fj fU
   ·exact hg _ _ _ ρ' e' a' w' hk hl jU r' fj fU
  ·rename_i c x y
   obtain⟨v,y',hx,hd,hh⟩:=oF he r.gl hh
   split at hh
   ·cases hd
    split at hh
    ·exact wpIn_cond_true (hm.eval hx) (ih x env h k hh ρ e a w Q he r hm hg)
    ·exact wpIn_cond_false (hm.eval hx) (ih y env h k hh ρ e a w Q he r hm hg)
   ·cases hh
  ·rename_i id x
   refine wpIn_block (ih x env h _ hh ρ e a w _ he r hm ?_)
   intro ex eJ h' ρ' e' a' w' hk hl jU r' fj fU
   dsimp only at hk
   unfold ON at hk
   split at hk
   ·exact hg .n _ _ ρ' e' a' w' hk hl jU r' fj fU
   ·rename_i i
    show if i=id then Q .normal a' w' else Q (.exit i) a' w'
    by_cases hi:i=id
    ·subst hi
     rw[if_pos rfl]
     rw[show Nat.beq i i=true by simp] at hk
     exact hg .n _ _ ρ' e' a' w' hk hl jU r' fj fU
    ·rw[if_neg hi]
     rw[iL,decide_eq_false hi] at hk
     exact hg (.x i) _ _ ρ' e' a' w' hk hl jU r' fj fU
   ·exact hg .r _ _ ρ' e' a' w' hk hl jU r' fj fU
  ·cases hh
end
theorem R.ac3(r:R ρ M U h H){l:Nat}{x:Obj}(hl:U l=some x)(RI:∀cs t fr,x≠.cells cs t fr)(y:Obj):R ρ M (λi=>if i=l then some y else U i) h (H.setIfInBounds l y):=by
 have lC:l<H.size:=(Array.getElem?_eq_some_iff.1 (r.un l x hl)).1
 refine⟨r.gl,r.YI,λb o hb hv=>?_,r.inj,λi o hi=>?_,r.bd,?_⟩
 ·obtain⟨b1,b2,b3,z,q1,q2,q3,q4⟩:=r.ob b o hb hv
  have hZ:b1≠l:=λe=>by rw[e,hl] at q3;cases q3
  exact⟨b1,b2,b3,z,q1,by rw[Array.getElem?_setIfInBounds_ne (Ne.symm hZ)];exact q2,by rw[if_neg hZ];exact q3,q4⟩
 ·by_cases e:i=l
  ·subst e
   rw[if_pos rfl] at hi
   cases hi
   simp[lC]
  ·rw[if_neg e] at hi
   rw[Array.getElem?_setIfInBounds_ne (Ne.symm e)]
   exact r.un i o hi
 ·obtain⟨t,fr,m,hm⟩:=r.ml
  refine⟨t,fr,m,?_⟩
  show(if sZ=l then some y else U sZ)=_
  rw[if_neg (λe=>by rw[e,hl] at hm;cases hm;exact RI _ _ _ rfl)]
  exact hm
theorem R.ae1{U':Un}(r:R ρ M U h H)(Ox:aiN U')(h1:∀i,U i=none->U' i=none)(h2:∀i o,U' i=some o->H[i]?=some o):R ρ M U' h H:=
 ⟨r.gl,r.YI,λb o hb hv=>let⟨b1,b2,b3,z,q1,q2,q3,q4⟩:=r.ob b o hb hv;⟨b1,b2,b3,z,q1,q2,h1 _ q3,q4⟩,r.inj,h2,r.bd,Ox⟩
theorem tj(w:World)(l:Nat)(o:Obj):dV w (w.putObj l o):=⟨rfl,rfl,rfl⟩
theorem R.ac8(r:R ρ M U h H){p:Ps}(hp:look (.i p) h.t=none)(x:Nat×Nat×Nat)(q:Ps):R (ext ρ (.i p) x) M U {h with t:=ins .dead (.i p) h.t,nx:=q} H:=by
 have hle:=r.mq hp x
 have key:∀{b:Ps}{o:Ob},look b (ins .dead (.i p) h.t)=some o->live o->b≠.i p/\look b h.t=some o:=by
  intro b o hb hl
  rw[gP] at hb
  by_cases e:b=.i p
  ·rw[if_pos e] at hb;cases hb;exact hl.elim
  ·rw[if_neg e] at hb;exact⟨e,hb⟩
 refine⟨λg=>hle _ _ (r.gl g),λp' Ud=>?_,λb o hb hl=>?_,λb1 b2 o1 o2 x1 x2 h1 h2 l1 l2 e1 e2 e=>?_,r.un,r.bd,r.ml⟩
 ·show look (.i p') (ins .dead (.i p) h.t)≠none
  rw[gP]
  split
  ·simp
  ·rename_i hZ
   apply r.YI p'
   unfold ext at Ud
   rwa[if_neg hZ] at Ud
 ·obtain⟨_,rb⟩:=key hb hl
  obtain⟨b1,b2,b3,z,q1,q2,q3,q4⟩:=r.ob b o rb hl
  exact⟨b1,b2,b3,z,hle _ _ q1,q2,q3,q4.mono hle⟩
 ·obtain⟨n1,vj⟩:=key h1 l1
  obtain⟨n2,GJ⟩:=key h2 l2
  unfold ext at e1 e2
  rw[if_neg n1] at e1
  rw[if_neg n2] at e2
  exact r.inj _ _ _ _ _ _ vj GJ l1 l2 e1 e2 e
noncomputable def ahj(l:List (Tmp×V))(env:Tr V)(k:Tr V->Bool):Bool:=List.rec (motive:=λ_=>Tr V->Bool) (λenv=>k env) (λx _ ih env=>rQ x.2 (lQ x.1) env ih) l env
theorem XD{ρ:ig}{N:Nat}{Ds:List Deferred}{k:Tr V->Bool}:∀(ps:List Tmp)(vs:List V)(xs:List Value)(env:Tr V)(e:Env)(tmps:Array Value),ahj (ps.zip vs) env k=true->vs.length=ps.length->iz ρ M vs xs->E ρ M env e->Mt N Ds {tmps:=tmps,defers:=Ds} e->ps.all (Nat.blt · N)=true->
 ∃eJ e',k eJ=true/\E ρ M eJ e'/\Mt N Ds {tmps:=(ps.zip xs).foldl (λtmps x=>tmps.setIfInBounds x.1 x.2) tmps,defers:=Ds} e':=by
 intro ps
 induction ps with
 |nil=>intro vs xs env e tmps hh _ _ he hm _;exact⟨env,e,hh,he,hm⟩
 |cons p ps ih=>
  intro vs xs env e tmps hh hl hd he hm lC
  cases vs with
  |nil=>simp at hl
  |cons v vs=>
   obtain⟨x,xs,rfl,h1,h2⟩:=hd.eh
   replace hh:(rQ v (lQ p) env λenv=>ahj (ps.zip vs) env k)=true:=hh
   rw[kp] at hh
   simp only[List.all_cons,Bool.and_eq_true,Nat.blt_eq] at lC
   have fj:Mt N Ds {tmps:=tmps.setIfInBounds p x,defers:=Ds} (put e (some p) x):=by
    refine⟨by simpa using hm.size,rfl,λt v hv=>?_⟩
    rw[kS] at hv
    have pg:tmps.size=N:=hm.size
    split at hv
    ·rename_i e1
     cases hv
     subst e1
     simp[pg,lC.1]
    ·rename_i e1
     have:=hm.val t v hv
     show(tmps.setIfInBounds p x)[t]?=some v
     rw[Array.getElem?_setIfInBounds_ne (Ne.symm e1)]
     exact this
   refine ih vs xs _ (put e (some p) x) _ hh (by simpa using hl) h2 (λt u hu=>?_) fj lC.2
   rw[gP] at hu
   rw[kS]
   by_cases hq:lQ t=lQ p
   ·rw[if_pos hq] at hu
    cases hu
    rw[if_pos (vI hq)]
    exact⟨x,rfl,h1⟩
   ·rw[if_neg hq] at hu
    rw[if_neg (λe=>hq (by rw[e]))]
    exact he t u hu
noncomputable def acY(P:Program)(cf:nk)(N:Nat)(ps:List Tmp)(assign body:Code)(env:Tr V)(vs:List V)(h:Hp)(K:V->Hp->Bool):Bool:=
 uf vs λn=>bif Nat.beq n ps.length&&ps.all (Nat.blt · N) then ahj (ps.zip vs) env λenv=>Ik P cf N 50 assign env h λex env h=>(match ex with
  |.n=>Ik P cf N 50 body env h λex _ h=>(match ex with|.n=>K (.bool true) h|_=>false)
  |_=>false) else false
def ry(f:FuncId)(tmps:Array Value)(ps:Array Tmp)(assign body:Code)(r:Nat):Loop:={state:=.ready,pending:=none,fn:=f,tmps:=tmps,params:=ps,assign:=assign,body:=body,defers:=r}
theorem SL{cf:nk}(hp:j0 P=true)(oN:fY P M cf){N:Nat}{f:FuncId}{tmps:Array Value}{ps:Array Tmp}{assign body:Code}{dr l m:Nat}{env:Tr V}{e:Env}(he:E ρ M env e)(hm:Mt N [] {tmps:=tmps,defers:=[]} e)
 {w:World}(hU:U l=some (.loop (ry f tmps ps assign body dr)))(r:R ρ M U h w.heap){vs:List V}{xs:List Value}(hd:iz ρ M vs xs){K:V->Hp->Bool}(hh:acY P cf N ps.toList assign body env vs h K=true):
 (Instr.yield l xs.toArray).run P w=.ok (.round l f ((ps.zip xs.toArray).foldl (λtmps(t,a)=>tmps.setIfInBounds t a) tmps) assign body) w/\
 RoundIn (FW none) m P l f ((ps.zip xs.toArray).foldl (λtmps(t,a)=>tmps.setIfInBounds t a) tmps) assign body w λe w'=>∃v,e=.returned v/\dV w w'/\Af ρ M U K v w'.heap:=by
 unfold acY at hh
 rw[lR] at hh
 have h2:=jc hh
 clear hh
 obtain⟨hc,hh⟩:=h2
 obtain⟨hc,lC⟩:=gQ hc
 have hc:=Nat.eq_of_beq_eq_true hc
 have Ky:=r.un l _ hU
 refine⟨run_yield (r:=ry f tmps ps assign body dr) Ky (by show xs.toArray.size=ps.size;rw[List.size_toArray,<-hd.1,hc];simp),?_⟩
 obtain⟨Yz,e1,hh,Ug,qW⟩:=XD (Ds:=[]) ps.toList vs xs env e tmps hh hc hd he hm lC
 have hz:(ps.zip xs.toArray).foldl (λtmps(x:Tmp×Value)=>tmps.setIfInBounds x.1 x.2) tmps=(ps.toList.zip xs).foldl (λtmps x=>tmps.setIfInBounds x.1 x.2) tmps:=by
  rw[<-Array.foldl_toList,Array.toList_zip]
 refine roundIn_of_wpIn (F:=FW none) trivial ?_
 show assign.wpIn (FW (some l)) m P _ _ w
 rw[show(ps.zip xs.toArray).foldl (λtmps(t,a)=>tmps.setIfInBounds t a) tmps=(ps.toList.zip xs).foldl (λtmps x=>tmps.setIfInBounds x.1 x.2) tmps from hz]
 refine Gs (U:=U) (Ds:=[]) hp oN 50 assign Yz h _ hh ρ e1 _ w _ Ug r qW ?_
 intro ex lK h2 ρ2 e2 a2 w2 Ar rR EW r2 xV wK
 dsimp only at Ar
 split at Ar
 ·have hw2:=r2.un l _ hU
  refine⟨_,run_beginRound hw2 rfl,?_⟩
  have r3:R ρ2 M (λi=>if i=l then some (.loop {ry f tmps ps assign body dr with state:=.busy}) else U i) h2 (w2.putObj l (.loop {ry f tmps ps assign body dr with state:=.busy})).heap:=r2.ac3 hU (λ_ _ _ h=>by cases h) _
  show body.wpIn (FW (some l)) m P _ _ _
  refine Gs (U:=λi=>if i=l then some (.loop {ry f tmps ps assign body dr with state:=.busy}) else U i) (Ds:=[]) hp oN 50 body lK h2 _ Ar ρ2 e2 a2 _ _ EW r3 xV ?_
  intro ex asL h4 ρ4 e4 a4 w4 BL hl4 he4 r4 hm4 hs4
  dsimp only at BL
  split at BL
  ·have hw4:=r4.un l _ (by rw[if_pos rfl])
   refine⟨_,_,run_endRound none hw4,.bool true,rfl,wK.trans ((tj _ _ _).trans (hs4.trans (tj _ _ _))),ρ4,.bool true,h4,rR.trans hl4,?_,.bool true,BL⟩
   have r5:=r4.ac3 (l:=l) (by rw[if_pos rfl]) (λ_ _ _ h=>by cases h) (.loop (ry f tmps ps assign body dr))
   refine(show R ρ4 M _ h4 (w4.putObj l (.loop (ry f tmps ps assign body dr))).heap from r5).ae1 r.ml (λi hi=>?_) (λi o hi=>?_)
   ·by_cases e:i=l
    ·subst e;rw[if_pos rfl] at hi;cases hi
    ·rw[if_neg e,if_neg e] at hi
     exact hi
   ·refine r5.un i o ?_
    by_cases e:i=l
    ·subst e;rw[if_pos rfl,<-hU];exact hi
    ·rw[if_neg e,if_neg e];exact hi
  ·cases BL
 ·cases Ar
end Go.X
namespace Go.X
open Go.Ex
variable {P:Program} {ρ:ig} {M:Nat} {U:Un} {h:Hp} {H:Heap} {env:Tr V} {e:Env}
abbrev CP:=List V->Hp->(V->Hp->Bool)->Bool
noncomputable def QC(p0:Ps)(v:V):Bool:=match v with|.Uu p=>AB p p0|_=>false
theorem S8{p0:Ps}{v:V}(h:QC p0 v=true):v=.Uu p0:=by
 unfold QC at h
 split at h
 ·rw[yZ h]
 ·cases h
noncomputable def yK(p0:Ps)(op:Op)(env:Tr V)(yes:List Operand->Bool)(no:Bool):Bool:=
 match op with
 |.call ⟨.value (.tmp t),args,_⟩=>qL (lQ t) env λv=>bif QC p0 v then yes args.toList else no
 |_=>no
noncomputable def Bz(P:Program)(cf:nk)(p0:Ps)(CY:CP)(ops:Array Oper)(l:List Oper)(env:Tr V)(h:Hp)(K:KE):Bool:=
 List.rec (motive:=λ_=>Tr V->Hp->Bool) (λenv h=>K env h)
  (λo _ ih env h=>po ops o env λw=>match w with
   |false=>hO env o.dst (.ru []) λenv=>ih env h
   |true=>yK p0 o.op env (λargs=>xL env args λvs=>CY vs h λv h=>Xe h λh=>hO env o.dst v λenv=>ih env h)
    (ye P cf o env h λv h=>hO env o.dst v λenv=>ih env h)) l env h
def Zg(P:Program)(M:Nat)(U:Un)(ρ0:ig)(l:Nat)(CY:CP):Prop:=∀(ρ:ig)(h:Hp)(w:World)(vs:List V)(xs:List Value)(K:V->Hp->Bool)(m:Nat),Le ρ0 ρ->R ρ M U h w.heap->iz ρ M vs xs->CY vs h K=true->
 ∃f tmps assign body,(Instr.yield l xs.toArray).run P w=.ok (.round l f tmps assign body) w/\RoundIn (FW none) m P l f tmps assign body w λe w'=>∃v,e=.returned v/\dV w w'/\Af ρ M U K v w'.heap
section
variable {cf:nk} {N:Nat} {p0:Ps} {l0 b0 k0:Nat} {CY:CP} {ρ0:ig}
theorem Rq(hp:j0 P=true)(oN:fY P M cf)(hρ:ρ0 p0=some (l0,b0,k0))(hr:Zg P M U ρ0 l0 CY){Ds:List Deferred}{m:Nat}{ops:Array Oper}{Q:Exit->Act->World->Prop}{K:KE}(hN:gm N ops=true):∀(l:List Oper)(ρ:ig)(env:Tr V)(h:Hp)(e:Env)(a:Act)(w:World),(∀o∈l,o∈ops)->(∀o∈l,IW o=true)->
 Bz P cf p0 CY ops l env h K=true->Le ρ0 ρ->E ρ M env e->R ρ M U h w.heap->Mt N Ds a e->
 (∀env h ρ' e a' w',K env h=true->Le ρ ρ'->E ρ' M env e->R ρ' M U h w'.heap->Mt N Ds a' e->dV w w'->Q .normal a' w')->wpListIn (FW none) m P ops Q l a w:=by
 intro l
 induction l with
 |nil=>intro ρ env h e a w _ _ hh h0 he r hm hg;exact hg env h ρ e a w hh (Le.refl _) he r hm (dV.refl w)
 |cons o l ih=>
  intro ρ env h e a w hl FO hh h0 he r hm hg
  have ho:o∈ops:=hl o (by simp)
  have iE:∀o∈l,o∈ops:=λo' h'=>hl o' (by simp[h'])
  have Th:∀o∈l,IW o=true:=λo' h'=>FO o' (by simp[h'])
  have wL:=LD (FO o (by simp))
  have hd:=vX hN ho
  replace hh:(po ops o env λw=>match w with
   |false=>hO env o.dst (.ru []) λenv=>Bz P cf p0 CY ops l env h K
   |true=>yK p0 o.op env (λargs=>xL env args λvs=>CY vs h λv h=>Xe h λh=>hO env o.dst v λenv=>Bz P cf p0 CY ops l env h K)
    (ye P cf o env h λv h=>hO env o.dst v λenv=>Bz P cf p0 CY ops l env h K))=true:=hh
  obtain⟨b,hw,hh⟩:=sr he hh
  have step:∀{ρ':ig}{v:V}{x:Value}{h':Hp}{w':World},Le ρ ρ'->R ρ' M U h' w'.heap->Dn ρ' M v x->(hO env o.dst v λenv=>Bz P cf p0 CY ops l env h' K)=true->dV w w'->wpListIn (FW none) m P ops Q l (a.put o.dst x) w':=by
   intro ρ' v x h' w' hle r' Oy hk hs
   obtain⟨eJ,hk,jU⟩:=uR hk (he.mono hle) Oy
   exact ih ρ' eJ h' _ _ w' iE Th hk (h0.trans hle) jU r' (hm.put _ hd _) λlK h2 ρ2 e2 a2 w2 Ar rR EW r2 xV wK=>hg lK h2 ρ2 e2 a2 w2 Ar (hle.trans rR) EW r2 xV (hs.trans wK)
  unfold wpListIn
  cases b with
  |false=>
   rw[if_neg (by rw[ib hw (λt _=>hm.val t)];simp)]
   exact⟨λ_ _=>trivial,step (Le.refl _) r o3 hh (dV.refl w)⟩
  |true=>
   rw[if_pos (ib hw (λt _=>hm.val t))]
   simp only at hh
   have other:(ye P cf o env h λv h=>hO env o.dst v λenv=>Bz P cf p0 CY ops l env h K)=true->o.wpIn (FW none) m P a w (wpListIn (FW none) m P ops Q l) Q:=by
    intro hh
    refine GL wL ?_
    simp only[rI] at hh
    unfold B9 at hh
    cases hk:kindOf P o.op with
    |pure=>
     rw[hk] at hh
     simp only at hh
     obtain⟨t,nx,lo,hi⟩:=h
     replace hh:(yd P lo hi o.op env λv lo hi=>hO env o.dst v λenv=>Bz P cf p0 CY ops l env ⟨t,nx,lo,hi⟩ K)=true:=hh
     obtain⟨v,x,Xr,nN,Oy,h1,h2,hk,vQ⟩:=sf he r.gl r.bd.1 r.bd.2 hh
     obtain⟨x',rfl,ju⟩:=jm vQ
     unfold Oper.wp
     rw[ju a.eval (hm.nE _) w]
     exact step (Le.refl _) (r.bound h1 h2) Oy hk (dV.refl w)
    |read=>
     rw[hk] at hh
     simp only at hh
     obtain⟨v,x,Oy,hk,vQ⟩:=qa he r hh
     obtain⟨x',rfl,ju⟩:=iy vQ
     unfold Oper.wp
     rw[ju a.eval (hm.nE _) w rfl]
     exact step (Le.refl _) r Oy hk (dV.refl w)
    |write=>
     rw[hk] at hh
     simp only at hh
     have:=qo hp oN he r hh
     refine mD hp this (hm.nE _) w rfl ?_
     rintro u w' fU ⟨ρ',v,h',hle,r',Oy,hk⟩
     simp only[tt] at hk
     exact step hle r' Oy hk fU
   unfold yK at hh
   split at hh
   ·rename_i t args ts Bd
    have h9:=fV hh
    clear hh
    obtain⟨v,hv,hh⟩:=h9
    cases hy:QC p0 v with
    |false=>rw[hy] at hh;exact other hh
    |true=>
     rw[hy] at hh
     simp only[cond_true] at hh
     obtain rfl:=S8 hy
     obtain⟨x,hx,Oy⟩:=he t _ hv
     obtain⟨vs,xs,yo,Co,hh⟩:=uB he r.gl hh
     cases Oy with
     |Uu hρ'=>
     rename_i l1 base kap
     have e1:=h0 _ _ hρ
     rw[hρ'] at e1
     cases e1
     obtain⟨f,tmps,assign,body,ju,On⟩:=hr ρ h w vs xs _ (m-1) h0 r Co hh
     have ea:=iv yo (τ:=a.eval) (λy hy=>hm.nE o.op.operands.toList y (by rw[Bd];simp[Op.operands,Call.operands];simp at hy;exact .inr hy))
     have Js:args.map a.eval=xs.toArray:=by rw[<-ea];cases args;simp
     have ht:a.eval (.tmp t)=.func (.yield l0) #[] #[]:=by
      have:=hm.eval (x:=.tmp t) (v:=.func (.yield l0) #[] #[]) hx
      exact this
     refine⟨λ_ _=>trivial,?_⟩
     rw[Oper.semAt_eq _ _ _ wL]
     have hex:(execOp a.eval o).run P w=.ok (.round l0 f tmps assign body) w:=by
      unfold execOp
      rw[Bd]
      simp only[resolve,Js,ht,Deferred.ofValue,pure_bind,invoke]
      rw[Array.empty_append]
      exact ju
     rw[hex,Oper.uponIn_round]
     refine⟨λhd=>(by cases hd),RoundIn.mono (On) ?_⟩
     rintro en w' ⟨v,rfl,hs,ρ',v',h',hle,r',Tn,hk⟩
     simp only[tt] at hk
     exact step hle r' Tn hk hs
   ·exact other hh
noncomputable def Wq(P:Program)(cf:nk)(p0:Ps)(CY:CP)(N:Nat)(rec:Code->Tr V->Hp->KC->Bool)(c:Code)(env:Tr V)(h:Hp)(k:KC):Bool:=
 match c with
 |.skip=>k .n env h
 |.region _ ops false=>bif gm N ops&&ops.toList.all IW then Bz P cf p0 CY ops ops.toList env h λenv h=>k .n env h else false
 |.seq x y=>rec x env h λex env h=>Ci ex env h k (rec y env h k)
 |.cond c x y=>xo env c λv=>(match v with|.bool b=>(match b with|true=>rec x env h k|false=>rec y env h k)|_=>false)
 |.block id x=>rec x env h λex env h=>ON id ex env h k
 |.loop x=>rec x env h λex env h=>Ci ex env h k (rec (.loop x) env h k)
 |.exit id=>k (.x id) env h
 |.ret=>k .r env h
 |_=>false
noncomputable def xY(P:Program)(cf:nk)(p0:Ps)(CY:CP)(N n:Nat):Code->Tr V->Hp->KC->Bool:=
 Nat.rec (motive:=λ_=>Code->Tr V->Hp->KC->Bool) (λ_ _ _ _=>false) (λ_ ih=>Wq P cf p0 CY N ih) n
theorem Pj(P:Program)(cf:nk)(p0:Ps)(CY:CP)(N n:Nat)(c:Code)(env:Tr V)(h:Hp)(k:KC):xY P cf p0 CY N (n+1) c env h k=Wq P cf p0 CY N (xY P cf p0 CY N n) c env h k:=rfl
theorem Ux(hp:j0 P=true)(oN:fY P M cf)(hρ:ρ0 p0=some (l0,b0,k0))(hr:Zg P M U ρ0 l0 CY){Ds:List Deferred}:∀(n:Nat)(c:Code)(env:Tr V)(h:Hp)(k:KC),xY P cf p0 CY N n c env h k=true->∀(ρ:ig)(e:Env)(a:Act)(w:World)(Q:Exit->Act->World->Prop),Le ρ0 ρ->E ρ M env e->R ρ M U h w.heap->Mt N Ds a e->
 Goal ρ M U N Ds w k Q->c.wp P Q a w:=by
 intro n
 induction n using Nat.strongRecOn with
 |_ n ih=>
 intro c env h k hh ρ e a w Q h0 he r hm hg
 cases n with
 |zero=>cases hh
 |succ n=>
 rw[Pj] at hh
 unfold Wq at hh
 split at hh
 ·exact wp_skip (hg .n _ _ ρ e a w hh (Le.refl _) he r hm (dV.refl w))
 ·rename_i id ops
  have h2:=jc hh
  clear hh
  obtain⟨hN,hh⟩:=h2
  obtain⟨hN,FO⟩:=gQ hN
  refine(wpIn_wide (n:=0)).1 (show(Code.region id ops false).wpIn (FW none) 0 P Q a w from wpIn_region_list ?_)
  exact Rq hp oN hρ hr hN ops.toList ρ env h e a w (λo ho=>by simpa using ho) (λo ho=>List.all_eq_true.1 FO o ho) hh h0 he r hm λenv h ρ' e a' w' hk hl jU r' fj fU=>hg .n env h ρ' e a' w' hk hl jU r' fj fU
 ·rename_i x y
  refine wp_seq (ih n (by omega) x env h _ hh ρ e a w _ h0 he r hm ?_)
  intro ex eJ h' ρ' e' a' w' hk hl jU r' fj fU
  dsimp only at hk
  unfold Ci at hk
  split at hk
  ·exact ih n (by omega) y eJ h' k hk ρ' e' a' w' Q (h0.trans hl) jU r' fj λte lK h2 ρ2 e2 a2 w2 Ar rR EW r2 xV wK=>hg te lK h2 ρ2 e2 a2 w2 Ar (hl.trans rR) EW r2 xV (fU.trans wK)
  ·exact hg _ _ _ ρ' e' a' w' hk hl jU r' fj fU
  ·exact hg _ _ _ ρ' e' a' w' hk hl jU r' fj fU
 ·rename_i c x y
  obtain⟨v,y',hx,hd,hh⟩:=oF he r.gl hh
  split at hh
  ·cases hd
   split at hh
   ·exact wp_cond_true (hm.eval hx) (ih n (by omega) x env h k hh ρ e a w Q h0 he r hm hg)
   ·exact wp_cond_false (hm.eval hx) (ih n (by omega) y env h k hh ρ e a w Q h0 he r hm hg)
  ·cases hh
 ·rename_i id x
  refine wp_block (ih n (by omega) x env h _ hh ρ e a w _ h0 he r hm ?_)
  intro ex eJ h' ρ' e' a' w' hk hl jU r' fj fU
  dsimp only at hk
  unfold ON at hk
  split at hk
  ·exact hg .n _ _ ρ' e' a' w' hk hl jU r' fj fU
  ·rename_i i
   show if i=id then Q .normal a' w' else Q (.exit i) a' w'
   by_cases hi:i=id
   ·subst hi
    rw[if_pos rfl]
    rw[show Nat.beq i i=true by simp] at hk
    exact hg .n _ _ ρ' e' a' w' hk hl jU r' fj fU
   ·rw[if_neg hi]
    rw[iL,decide_eq_false hi] at hk
    exact hg (.x i) _ _ ρ' e' a' w' hk hl jU r' fj fU
  ·exact hg .r _ _ ρ' e' a' w' hk hl jU r' fj fU
 ·rename_i x
  refine wp_loop_ghost (λm a' w'=>m<=n+1/\∃eJ h' ρ' e',xY P cf p0 CY N m (.loop x) eJ h' k=true/\Le ρ ρ'/\E ρ' M eJ e'/\R ρ' M U h' w'.heap/\Mt N Ds a' e'/\dV w w') (n+1)
   ⟨Nat.le_refl _,env,h,ρ,e,hh,Le.refl _,he,r,hm,dV.refl w⟩ ?_
  rintro m a1 w1 ⟨hmn,Yz,h1,ρ1,e1,pX,u3,Ug,r1,qW,QG⟩
  cases m with
  |zero=>cases pX
  |succ m=>
  rw[Pj] at pX
  refine ih m (by omega) x Yz h1 _ pX ρ1 e1 a1 w1 _ (h0.trans u3) Ug r1 qW ?_
  intro ex lK h2 ρ2 e2 a2 w2 hk rR EW r2 xV wK
  dsimp only at hk
  unfold Ci at hk
  split at hk
  ·exact⟨m,by omega,by omega,lK,h2,ρ2,e2,hk,u3.trans rR,EW,r2,xV,QG.trans wK⟩
  ·exact hg _ _ _ ρ2 e2 a2 w2 hk (u3.trans rR) EW r2 xV (QG.trans wK)
  ·exact hg _ _ _ ρ2 e2 a2 w2 hk (u3.trans rR) EW r2 xV (QG.trans wK)
 ·exact wp_exit (hg (.x _) _ _ ρ e a w hh (Le.refl _) he r hm (dV.refl w))
 ·exact wp_ret (hg .r _ _ ρ e a w hh (Le.refl _) he r hm (dV.refl w))
 ·cases hh
end
end Go.X
namespace Go.X
open Go.Ex
variable {P:Program} {ρ:ig} {M:Nat} {U:Un} {h:Hp} {H:Heap} {env:Tr V} {e:Env}
inductive St (U:Un):Bool->Un->List Deferred->Prop where
 |no:St U false U []
 |yes {U':Un} {r:Nat} (h1:U' r=some (.deferred (some []))) (h2:U r=none) (h3:∀i o,U i=some o->U' i=some o):St U true U' [{target:=.collected r,args:=#[]}]
abbrev KS:=Xt->Tr V->Hp->Bool->Bool
noncomputable def afI(P:Program)(cf:nk)(N:Nat)(g:Operand)(ps:List Tmp)(assign body:Code)(env:Tr V)(h:Hp)(k:Hp->Bool):Bool:=
 xo env g λv=>match v with
 |.fn f first cap=>ze h .dead λp h=>match P.funcs[f]? with
  |none=>false
  |some fn=>(match fn.body with
   |none=>false
   |some c=>Cu [.Uu p] cap λl=>Cu first l λvs=>uf vs λn=>bif Nat.ble n fn.ntmps then Hy vs 0 .lf λlK=>
    xY P cf p (acY P cf N ps assign body env) fn.ntmps 10000 c lK h λex adV h=>(match ex with|.x _=>false|.n=>xb P adV h fn.results.toList λ_=>k h|.r=>xb P adV h fn.results.toList λ_=>k h) else false)
 |_=>false
noncomputable def alN(ex:Xt)(env:Tr V)(h:Hp)(D:Bool)(k:KS)(next:Bool):Bool:=match ex with|.n=>next|.x i=>k (.x i) env h D|.r=>k .r env h D
noncomputable def anu(id:Nat)(ex:Xt)(env:Tr V)(h:Hp)(D:Bool)(k:KS):Bool:=match ex with|.n=>k .n env h D|.x i=>bif Nat.beq i id then k .n env h D else k (.x i) env h D|.r=>k .r env h D
noncomputable def Ws(P:Program)(cf:nk)(ord:Nat->An)(N:Nat)(rec:Code->Tr V->Hp->Bool->KS->Bool)(c:Code)(env:Tr V)(h:Hp)(D:Bool)(k:KS):Bool:=
 match c with
 |.seq x y=>rec x env h D λex env h D=>alN ex env h D k (rec y env h D k)
 |.block id x=>rec x env h D λex env h D=>anu id ex env h D k
 |.rangeFunc g ps assign body=>(match D with|true=>false|false=>afI P cf N g ps.toList assign body env h λh=>k .n env h true)
 |c=>xC P cf ord N 10000 c env h λex env h=>k ex env h D
noncomputable def xS(P:Program)(cf:nk)(ord:Nat->An)(N n:Nat):Code->Tr V->Hp->Bool->KS->Bool:=
 Nat.rec (motive:=λ_=>Code->Tr V->Hp->Bool->KS->Bool) (λ_ _ _ _ _=>false) (λ_ ih=>Ws P cf ord N ih) n
def aoU(ρ:ig)(M:Nat)(U:Un)(N:Nat)(w:World)(k:KS)(Q:Exit->Act->World->Prop):Prop:=
 ∀ex env h D ρ' e U' Ds a' w',k ex env h D=true->Le ρ ρ'->E ρ' M env e->R ρ' M U' h w'.heap->St U D U' Ds->Mt N Ds a' e->dV w w'->Q ex.to' a' w'
section
variable {cf:nk} {ord:Nat->An} {N:Nat}
theorem UC(hp:j0 P=true)(oN:fY P M cf){g:Operand}{ps:Array Tmp}{assign body:Code}{k:Hp->Bool}{e:Env}{a:Act}{w:World}{Q:Exit->Act->World->Prop}(he:E ρ M env e)(r:R ρ M U h w.heap)(hm:Mt N [] a e)(hh:afI P cf N g ps.toList assign body env h k=true)
 (hg:∀h ρ' U' Ds a' w',k h=true->Le ρ ρ'->R ρ' M U' h w'.heap->St U true U' Ds->Mt N Ds a' e->dV w w'->Q .normal a' w'):(Code.rangeFunc g ps assign body).wp P Q a w:=by
 unfold afI at hh
 obtain⟨v,y,hx,hd,hh⟩:=oF he r.gl hh
 split at hh
 ·rename_i f first cap
  obtain⟨q,FQ,hh⟩:=ka hh
  split at hh
  ·cases hh
  ·rename_i fn hf
   split at hh
   ·cases hh
   ·rename_i c hb
    rw[mf,mf,lR] at hh
    have h2:=jc hh
    clear hh
    obtain⟨hle,hh⟩:=h2
    have hle:=Nat.le_of_ble_eq_true hle
    cases hd with
    |fn e1 e2 d1 d2=>
    rename_i a1 a2
    refine(wpIn_wide (n:=0)).1 (wpIn_rangeFunc (F:=Fence.wide) λCr _=>?_)
    obtain⟨dr,Cq⟩:∃dr,dr=w.heap.size:=⟨_,rfl⟩
    obtain⟨l,hl⟩:∃l,l=w.heap.size+1:=⟨_,rfl⟩
    obtain⟨rc,QI⟩:∃rc,rc=ry Cr a.tmps ps assign body dr:=⟨_,rfl⟩
    obtain⟨w1,yw⟩:∃w1,w1=(w.alloc (.deferred (some []))).alloc (.loop rc):=⟨_,rfl⟩
    obtain⟨yv,VV⟩:∃yv:Value,yv=.func (.yield l) #[] #[]:=⟨_,rfl⟩
    obtain⟨TY,amv⟩:∃TY:List Value,TY=a1++([yv]++a2):=⟨_,rfl⟩
    have vQ:a.eval g=.func (.func f) a1.toArray a2.toArray:=hm.eval hx
    have ahI:(Instr.enterLoop Cr a.tmps ps assign body Fence.wide.round).run P w=.ok (l,[{target:=.collected dr,args:=#[]}]) w1:=by
     rw[yw,QI,hl,Cq]
     exact run_enterLoop_outer Cr a.tmps ps assign body
    have xx:(resolve a.eval (rangeCall g l) 0).run P w1=.ok {target:=.fn (.func f) a2.toArray,args:=a1.toArray++#[yv]} w1:=by
     have hy:a.eval (.const (.func (.yield l) #[] #[]))=yv:=VV.symm
     unfold resolve
     simp only[List.map_toArray,List.map_cons,List.map_nil,vQ,hy]
     rfl
    obtain⟨r1,u1⟩:=r.more (.deferred (some []))
    obtain⟨r2,u2⟩:=r1.more (.loop rc)
    have pg:(w.heap.push (.deferred (some []))).size=l:=by rw[hl];simp
    obtain⟨U2,Nj⟩:∃U2:Un,U2=λi=>if i=l then some (.loop rc) else if i=dr then some (.deferred (some [])) else U i:=⟨_,rfl⟩
    have Vw:R ρ M U2 h w1.heap:=by
     rw[Nj,yw,Cq,<-pg]
     exact r2
    have r3:R (ext ρ (.i h.nx) (l,0,0)) M U2 {h with t:=ins .dead (.i h.nx) h.t,nx:=q} w1.heap:=Vw.ac8 FQ (l,0,0) q
    have adH:=Vw.mq FQ (l,0,0)
    have hρl:ext ρ (.i h.nx) (l,0,0) (.i h.nx)=some (l,0,0):=kz _ _ _
    have hD:iz (ext ρ (.i h.nx) (l,0,0)) M (first++([.Uu (.i h.nx)]++cap)) TY:=by
     rw[amv]
     refine iz.append ⟨e1,λi v x p q=>(d1 i v x p q).mono adH⟩ (iz.append (.cons ?_ .nil) ⟨e2,λi v x p q=>(d2 i v x p q).mono adH⟩)
     rw[VV]
     exact .Uu hρl
    obtain⟨lK,hh,EW⟩:=wc (ρ:=ext ρ (.i h.nx) (l,0,0)) (M:=M) hh (e:=vf fn.ntmps TY) hD (λt v hv=>by rw[js] at hv;cases hv) (λj x hx=>by
     have hj:=(List.getElem?_eq_some_iff.1 hx).1
     unfold vf
     rw[Nat.zero_add,show Nat.blt j TY.length=true by rw[Nat.blt_eq];exact hj]
     exact hx)
    have afu:(a1.toArray++#[yv])++a2.toArray=TY.toArray:=by rw[amv];simp
    refine⟨l,_,w1,_,w1,f,TY.toArray,w1,ahI,xx,λ_ _=>trivial,?_,λhd=>(by cases hd),callsIn_wide.2 ?_⟩
    ·show(callFunc f ((a1.toArray++#[yv])++a2.toArray)).run P w1=_
     rw[afu]
     exact sw hp hf (by rw[hb];rfl) _ w1
    ·refine calls_of_wp hf hb ?_
     have Sd:U2 l=some (.loop (ry Cr a.tmps ps assign body dr)):=by rw[Nj,QI];simp only[if_pos]
     have aqd:Zg P M U2 (ext ρ (.i h.nx) (l,0,0)) l (acY P cf N ps.toList assign body env):=by
      intro ρ' h' w' vs xs K m ahC r' ZT mI
      obtain⟨q1,q2⟩:=SL (U:=U2) (m:=m) hp oN (he.mono (adH.trans ahC)) (show Mt N [] {tmps:=a.tmps,defers:=[]} e from⟨hm.size,rfl,hm.val⟩) Sd r' ZT mI
      exact⟨_,_,_,_,q1,q2⟩
     have hlen:TY.length=(first++([V.Uu (.i h.nx)]++cap)).length:=hD.1.symm
     refine Ux (U:=U2) (Ds:=[]) hp oN hρl aqd 10000 c lK _ _ hh _ _ _ w1 _ (Le.refl _) EW r3 (JN hle hlen) ?_
     intro ex adV h3 ρ3 e3 a3 w3 Ue Ma he3 r4 RJ DY
     have fin:(xb P adV h3 fn.results.toList λ_=>k h3)=true->bodyPost P fn (rangePost Fence.wide 0 P l Q {a with defers:=[{target:=.collected dr,args:=#[]}]++a.defers}) .ret a3 w3:=by
      intro hk
      obtain⟨Px,M3,hk,asE,ju⟩:=uA (P:=P) he3 r4 RJ.val hk
      have amE:∃v,(results fn a3.tmps).run P w3=.ok v w3:=by
       unfold results
       refine⟨if h:M3.toArray.size=1 then M3.toArray[0] else .tuple M3.toArray,?_⟩
       rw[Sem.run_bind,Array.mapM_eq_mapM_toList,Sem.run_map]
       rw[ju _ (λt=>rfl) (λa t=>rfl) w3 rfl]
       rfl
      obtain⟨v,hv⟩:=amE
      refine⟨RJ.defers,v,hv,?_⟩
      have hw3:=r4.un l _ Sd
      refine⟨none,w3.putObj l (.loop {ry Cr a.tmps ps assign body dr with state:=.exhausted}),run_endLoop hw3 (by show LoopState.ready≠.busy;simp),?_⟩
      have r5:=r4.ac3 Sd (λ_ _ _ h=>by cases h) (.loop {ry Cr a.tmps ps assign body dr with state:=.exhausted})
      have hZ:dr≠l:=by rw[Cq,hl];omega
      refine hg h3 ρ3 _ _ _ _ hk (adH.trans Ma) (show R ρ3 M _ h3 (w3.putObj l (.loop {ry Cr a.tmps ps assign body dr with state:=.exhausted})).heap from r5) (.yes (r:=dr) ?_ (by rw[Cq];exact u1) (λi o hi=>?_)) ?_ ?_
      ·simp only[if_neg hZ,Nj,if_pos]
      ·have lC:i<w.heap.size:=(Array.getElem?_eq_some_iff.1 (r.un i o hi)).1
       have n1:i≠l:=by rw[hl];omega
       have n2:i≠dr:=by rw[Cq];omega
       simp only[Nj,if_neg n1,if_neg n2,hi]
      ·exact⟨hm.size,by show[_]++a.defers=_;rw[hm.defers];rfl,hm.val⟩
      ·have s1:dV w w1:=by rw[yw];exact(dV.alloc w _).trans (dV.alloc _ _)
       exact s1.trans (DY.trans (tj _ _ _))
     cases ex with
     |n=>exact fin Ue
     |x i=>cases Ue
     |r=>exact fin Ue
 ·cases hh
theorem Uz(hp:j0 P=true)(oN:fY P M cf):∀(n:Nat)(c:Code)(env:Tr V)(h:Hp)(D:Bool)(k:KS),xS P cf ord N n c env h D k=true->∀(ρ:ig)(e:Env)(U':Un)(Ds:List Deferred)(a:Act)(w:World)(Q:Exit->Act->World->Prop),E ρ M env e->R ρ M U' h w.heap->St U D U' Ds->Mt N Ds a e->
 aoU ρ M U N w k Q->c.wp P Q a w:=by
 intro n
 induction n with
 |zero=>intro c env h D k hh;cases hh
 |succ n ih=>
  intro c env h D k hh ρ e U' Ds a w Q he r hD hm hg
  replace hh:Ws P cf ord N (xS P cf ord N n) c env h D k=true:=hh
  unfold Ws at hh
  split at hh
  ·rename_i x y
   refine wp_seq (ih x env h D _ hh ρ e U' Ds a w _ he r hD hm ?_)
   intro ex eJ h' D' ρ' e' U2 Ut a' w' hk hl jU r' Ka fj fU
   dsimp only at hk
   unfold alN at hk
   split at hk
   ·exact ih y eJ h' D' k hk ρ' e' U2 Ut a' w' Q jU r' Ka fj λte lK h2 D2 ρ2 e2 U3 Ih a2 w2 Ar rR EW r2 GI xV wK=>hg te lK h2 D2 ρ2 e2 U3 Ih a2 w2 Ar (hl.trans rR) EW r2 GI xV (fU.trans wK)
   ·exact hg _ _ _ _ ρ' e' U2 Ut a' w' hk hl jU r' Ka fj fU
   ·exact hg _ _ _ _ ρ' e' U2 Ut a' w' hk hl jU r' Ka fj fU
  ·rename_i id x
   refine wp_block (ih x env h D _ hh ρ e U' Ds a w _ he r hD hm ?_)
   intro ex eJ h' D' ρ' e' U2 Ut a' w' hk hl jU r' Ka fj fU
   dsimp only at hk
   unfold anu at hk
   split at hk
   ·exact hg .n _ _ _ ρ' e' U2 Ut a' w' hk hl jU r' Ka fj fU
   ·rename_i i
    show if i=id then Q .normal a' w' else Q (.exit i) a' w'
    by_cases hi:i=id
    ·subst hi
     rw[if_pos rfl]
     rw[show Nat.beq i i=true by simp] at hk
     exact hg .n _ _ _ ρ' e' U2 Ut a' w' hk hl jU r' Ka fj fU
    ·rw[if_neg hi]
     rw[iL,decide_eq_false hi] at hk
     exact hg (.x i) _ _ _ ρ' e' U2 Ut a' w' hk hl jU r' Ka fj fU
   ·exact hg .r _ _ _ ρ' e' U2 Ut a' w' hk hl jU r' Ka fj fU
  ·rename_i g ps assign body
   split at hh
   ·cases hh
   ·cases hD
    exact UC hp oN he r hm hh λh2 ρ2 U2 Ih a2 w2 hk hl r2 hS xV wK=>hg .n env h2 true ρ2 e U2 Ih a2 w2 hk hl (he.mono hl) r2 hS xV wK
  ·exact Dp (U:=U') hp oN 10000 _ env h _ hh ρ e a w Q he r hm λex env h ρ' e' a' w' hk hl jU r' fj fU=>hg ex env h D ρ' e' U' Ds a' w' hk hl jU r' hD fj fU
end
noncomputable def HN(P:Program)(gD:FuncId->Nat->An)(f:FuncId)(rec:nk)(vs:List V)(h:Hp)(K:V->Hp->Bool):Bool:=
 match P.funcs[f]? with
 |none=>false
 |some fn=>(match fn.body with
  |none=>false
  |some c=>uf vs λn=>bif Nat.ble n fn.ntmps then Hy vs 0 .lf λenv=>
   xS P rec (gD f) fn.ntmps 100 c env h false λex env h _=>(match ex with|.x _=>false|.n=>xb P env h fn.results.toList λr=>Cm r K h|.r=>xb P env h fn.results.toList λr=>Cm r K h) else false)
theorem Kh(hp:j0 P=true){gD:FuncId->Nat->An}{rec:nk}(ih:fY P M rec){f:FuncId}(r:R ρ M U h H){vs:List V}{xs:List Value}(hd:iz ρ M vs xs){K:V->Hp->Bool}(hh:HN P gD f rec vs h K=true):CW P f xs H (Af ρ M U K):=by
 unfold HN at hh
 split at hh
 ·cases hh
 ·rename_i fn hf
  split at hh
  ·cases hh
  ·rename_i c Uj
   rw[lR] at hh
   obtain⟨hle,hh⟩:=jc hh
   have hle:=Nat.le_of_ble_eq_true hle
   refine .inl ⟨fn,hf,by rw[Uj];rfl,λw hw=>?_⟩
   have He:xs.length=vs.length:=hd.1.symm
   obtain⟨env,hh,he⟩:=wc (ρ:=ρ) (M:=M) hh (e:=vf fn.ntmps xs) hd (λt v hv=>by rw[js] at hv;cases hv) (λj x hx=>by
    have hj:=(List.getElem?_eq_some_iff.1 hx).1
    unfold vf
    rw[Nat.zero_add,show Nat.blt j xs.length=true by rw[Nat.blt_eq];exact hj]
    exact hx)
   refine callsIn_wide.1 (callsIn_of_wp_marks (F:=Fence.wide) (n:=0) hf Uj trivial ((wpIn_wide (n:=0)).2 ?_))
   refine Uz (U:=U) hp ih 100 c env h false _ hh ρ (vf fn.ntmps xs) U [] _ w _ he (by rw[hw];exact r) .no (JN hle He) ?_
   intro ex eJ h' D ρ' e' U' Ds a' w' hk hl jU r' Ka fj fU
   have fin:(xb P eJ h' fn.results.toList λr=>Cm r K h')=true->bodyPostM Fence.wide 0 P fn (λe w'=>∃v,e=.returned v/\dV w w'/\Af ρ M U K v w'.heap) .ret a' w':=by
    intro V8
    obtain⟨Px,M3,ZR,Cq,ju⟩:=uA (P:=P) jU r' fj.val V8
    obtain⟨v,Tn,BL⟩:=yU Cq ZR
    show LeavesInM Fence.wide 0 P fn a'.tmps _ a'.defers .returning w'
    rw[fj.defers]
    cases Ka with
    |no=>
     have xx:(results fn a'.tmps).run P w'=.ok (if h:M3.toArray.size=1 then M3.toArray[0] else .tuple M3.toArray) w':=by
      unfold results
      rw[Sem.run_bind,Array.mapM_eq_mapM_toList,Sem.run_map]
      rw[ju _ (λt=>rfl) (λa t=>rfl) w' rfl]
      rfl
     exact⟨_,xx,_,rfl,fU,ρ',v,h',hl,r',Tn,BL⟩
    |yes h1 h2 h3=>
    rename_i dr
    have LY:=r'.un dr _ h1
    refine⟨by simp,.inl ⟨dr,w'.putObj dr (.deferred none),rfl,run_takeDeferred LY,?_⟩⟩
    have r5:=r'.ac3 h1 (λ_ _ _ h=>by cases h) (.deferred none)
    have r6:R ρ' M U h' (w'.putObj dr (.deferred none)).heap:=by
     refine(show R ρ' M _ h' (w'.putObj dr (.deferred none)).heap from r5).ae1 r.ml (λi hi=>?_) (λi o hi=>?_)
     ·by_cases e:i=dr
      ·subst e;exact h2
      ·rw[if_neg e] at hi
       cases hu:U i with
       |none=>rfl
       |some o=>rw[h3 i o hu] at hi;cases hi
     ·refine r5.un i o ?_
      have:i≠dr:=λe=>by rw[e,h2] at hi;cases hi
      rw[if_neg this]
      exact h3 i o hi
    obtain⟨vs2,TY,Ar,aqK,amB⟩:=uA (P:=P) jU r6 fj.val (k:=λr=>Cm r K h') V8
    obtain⟨v2,aqI,Ue⟩:=yU aqK Ar
    have xx:(results fn a'.tmps).run P (w'.putObj dr (.deferred none))=.ok (if h:TY.toArray.size=1 then TY.toArray[0] else .tuple TY.toArray) (w'.putObj dr (.deferred none)):=by
     unfold results
     rw[Sem.run_bind,Array.mapM_eq_mapM_toList,Sem.run_map]
     rw[amB _ (λt=>rfl) (λa t=>rfl) _ rfl]
     rfl
    exact⟨_,xx,_,rfl,fU.trans (tj _ _ _),ρ',v2,h',hl,r6,aqI,Ue⟩
   cases ex with
   |n=>exact fin hk
   |x i=>cases hk
   |r=>exact fin hk
end Go.X
namespace Go.X
open Go.Ex
variable {P:Program} {M:Nat}
noncomputable def natDef(P:Program)(gD:FuncId->Nat->An)(f₀:FuncId)(n:wu):wu:=λrec bd f vs h K=>bif Nat.beq f f₀ then UO P gD f₀ rec bd vs h K else n rec bd f vs h K
theorem SX(hp:j0 P=true){gD:FuncId->Nat->An}{f₀:FuncId}{n:wu}(hn:wV P M n):wV P M (natDef P gD f₀ n):=by
 intro rec bd hr hb ρ U h H f vs xs K r hd hh
 unfold natDef at hh
 cases he:Nat.beq f f₀ with
 |true=>
  rw[he] at hh
  rw[Nat.eq_of_beq_eq_true he]
  exact RA hp hr hb r hd hh
 |false=>
  rw[he] at hh
  exact hn rec bd hr hb ρ U h H f vs xs K r hd hh
noncomputable def EF(P:Program)(gD:FuncId->Nat->An)(f₀:FuncId)(n:wu):wu:=λrec bd f vs h K=>bif Nat.beq f f₀ then HN P gD f₀ rec vs h K else n rec bd f vs h K
theorem LB(hp:j0 P=true){gD:FuncId->Nat->An}{f₀:FuncId}{n:wu}(hn:wV P M n):wV P M (EF P gD f₀ n):=by
 intro rec bd hr hb ρ U h H f vs xs K r hd hh
 unfold EF at hh
 cases he:Nat.beq f f₀ with
 |true=>
  rw[he] at hh
  rw[Nat.eq_of_beq_eq_true he]
  exact Kh hp hr r hd hh
 |false=>
  rw[he] at hh
  exact hn rec bd hr hb ρ U h H f vs xs K r hd hh
end Go.X
