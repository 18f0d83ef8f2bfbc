/- Part AR of the proof that the law TopAround answers true at every input, under no condition. -/
import Derived.Test.YtmdbfgemefalmaaGreatDoorQAQ
import Derived.Lib.CountLaws
set_option linter.unusedVariables false
set_option maxHeartbeats 2000000
set_option maxRecDepth 100000
namespace Go.Ex
def yE:Bool->Fo->Prop
 |rt,.nil=>rt=true
 |rt,.lf k _ _ f=>k≠3/\yE rt f
 |rt,.el _ _ _ f=>rt=false/\yE true f
theorem MG{a b r:By}(h:a.isPrefixOf r=false):(a++b).isPrefixOf r=false:=by
 cases h':(a++b).isPrefixOf r with
 |false=>rfl
 |true=>
  have:=List.isPrefixOf_iff_prefix.2 ((List.prefix_append a b).trans (List.isPrefixOf_iff_prefix.1 h'))
  rw[this] at h;cases h
theorem wH{Ls:List (List At)}{d:Nat}{pt W:Bool}{f:Fo}(h:ze Ls d pt f)(Y:yE W f)(Z:f≠.nil)(s:By):(∃t,iV f++s=60::t)/\[60,33,68].isPrefixOf (iV f++s)=false/\[60,63,120].isPrefixOf (iV f++s)=false:=by
 cases f with
 |nil=>exact absurd rfl Z
 |lf k l v q=>
  have hm:∀q∈vO,q.1≠3->3<=(uy q.1 q.2.1 q.2.2).length/\(uy q.1 q.2.1 q.2.2).head?=some 60/\[60,33,68].isPrefixOf (uy q.1 q.2.1 q.2.2)=false/\[60,63,120].isPrefixOf (uy q.1 q.2.1 q.2.2)=false:=by decide
  obtain⟨I,u,w,N⟩:=hm _ h.1 Y.1
  dsimp only at I u w N
  rw[show iV (.lf k l v q)++s=uy k l v++(iV q++s) by simp[iV]]
  refine⟨?_,by rw[zw [60,33,68] _ _ I];exact w,by rw[zw [60,63,120] _ _ I];exact N⟩
  cases O:uy k l v with
  |nil=>rw[O] at u;cases u
  |cons a b=>rw[O] at u;cases u;exact⟨_,rfl⟩
 |el nm al kd q=>
  obtain⟨I,u,w,-,h5⟩:=G4 _ (yx h.1)
  obtain⟨x,y,e⟩:∃x y,qn nm.1 nm.2=x::y:=by cases hq:qn nm.1 nm.2 with|nil=>exact absurd hq h5|cons x y=>exact⟨x,y,rfl⟩
  rw[e] at u w
  have e:iV (.el nm al kd q)++s=60::x::(y++(nz al++C8 (KK kd))++(KJ nm kd++(iV q++s))):=by rw[vE];simp[GH,e]
  rw[e]
  have g2:(33:UInt8)≠x:=λh=>u h.symm
  have g3:(63:UInt8)≠x:=λh=>w h.symm
  exact⟨⟨_,rfl⟩,by simp[List.isPrefixOf,g2],by simp[List.isPrefixOf,g3]⟩
theorem Gz:∀(f:Fo){Ls:List (List At)}{d:Nat}{pt u:Bool},ze Ls d pt f->yE u f->∀s:By,Lg s->Lg (iV f++s)
 |.nil,_,_,_,_,_,_,s,hs=>hs
 |.lf k l v f,Ls,d,pt,u,h,ht,s,hs=>by
  have N:∀q∈vO,q.1≠3->∀b∈uy q.1 q.2.1 q.2.2,b.toNat<128:=by decide
  rw[show iV (.lf k l v f)++s=uy k l v++(iV f++s) by simp[iV]]
  exact(Gz f h.2.2 ht.2 s hs).app (N _ h.1 ht.1)
 |.el nm al kd f,Ls,d,pt,u,h,ht,s,hs=>by
  obtain⟨w,O,_,_,W,Y⟩:=h
  have I:=Gz f Y ht.2 s hs
  rw[vE]
  refine Lg.app ?_ (zq w O.m _)
  cases kd with
  |nil=>exact I
  |_=>
   show Lg ((iV _++vq nm)++(iV f++s))
   rw[List.append_assoc];exact vD _ _ _ _ W _ (I.app (zH w)) (by simp[vq])
end Go.Ex
namespace Go.Proofs.fv
open Go.Ex Go.X
section
variable {H H':dw} {x g:Nat} {k:RC} {d:RI} {t:List TN} {o:By} {L:List Lv} {root:Bool}
theorem RS.re{I:RC}{u:Bool}(h:RS H x g k d t o L root)(f:Fr (λi=>i=x) H H')(N:H'[x]?=some (.cells (Ed I d g u).toArray iX (0,0))):RS H' x g I d t o L u where
 fi:=N
 tr:=h.tr.eO f λi hi e=>h.nx.2.1 (e▸hi)
 at':=λy w=>⟨(h.at' y w).1.eO f λi hi e=>h.nx.2.2.2 (e▸(h.at' y w).2 i hi),(h.at' y w).2⟩
 qq:=h.qq
 bu:=h.bu.eO f λi hi e=>h.nx.2.2.1 (e▸hi)
 bc:=h.bc
 sc:=h.sc.eO f λi hi e=>h.nx.1 (e▸hi)
 nx:=h.nx
 ng:=h.ng
 nt:=h.nt
 na:=λi hi=>⟨(h.na i hi).1,Nat.lt_of_lt_of_le (h.na i hi).2 f.size⟩
 ac:=h.ac
structure TS(S s:By)(all:List Nd)(n:Nat)(f:Fo)(t:List TN)(root:Bool):Prop where
 at':TA S n (iV f++s)
 ok:∃pt,ze [] 1 pt f
 top:yE root f
 yC:t.map TN.n++mI [] 1 f=all
theorem JV(ht:gG H)(ai:30<=k.l1)(aj:6<=k.l3)(h:RS H x g k d t [] [] root)(h7:∀i,d.own x i->7<i){S s:By}(hs:Lg s){aa:List Nd}(ab:aa.length<=1000){n:Nat}{f:Fo}(c:TS S s aa n f t root)(h0:f≠.nil){R:Int->Int->dw->Prop}
 (hR:∀n2 f2 d2 t2 Y H',n<n2->TS S s aa n2 f2 t2 Y->RS H' x g k d2 t2 [] [] Y->Gr (d.own x) (d2.own x) H H'->R (n2:Int) 0 H'):iR.C (some ⟨x,0,none⟩) (eJ S) (n:Int) H R:=by
 apply iR.calls
 unfold iR.W
 obtain⟨pt,ak⟩:=c.ok
 have aX:t.length<=1000:=by have:=congrArg List.length c.yC;rw[List.length_append,List.length_map] at this;omega
 have ha:=c.yC
 have u:=c.at'
 cases f with
 |nil=>exact absurd rfl h0
 |lf kd l v q=>
  obtain⟨N,-,hq⟩:=ak
  obtain⟨Z,I⟩:=c.top
  have aY:kd=4\/kd=5:=by rcases G6 _ N Z with h|h;exact .inl h.1;exact .inr h.1
  have aZ:0<(uy kd l v).length:=by
   have hm:∀q∈vO,q.1≠3->0<(uy q.1 q.2.1 q.2.2).length:=by decide
   exact hm _ N Z
  rw[show iV (.lf kd l v q)=uy kd l v++iV q from rfl,List.append_assoc] at u
  refine xQ ht (Rx N Z) u (λh=>by omega) λp c H2 s2 hb f2=>eZ (ke (Fr.refl _ _) kd l v p 0 c false λH4 O f4 g4=>?_)
  have w:=f2.dF f4
  refine dD (λ_ _=>False) (eI (λh=>h rfl) (dD (λs H'=>s=(true,())/\H4=H') ⟨_,eD O 0,eE (λh=>⟨rfl,rfl⟩) λh=>⟨_,eD O 0,by rw[decide_eq_true (by omega)],rfl⟩⟩ ?_)) λ_ _ h=>h.elim
  rintro _ _ ⟨rfl,rfl⟩
  refine eN rfl (O.ld (CA (eH ht w) (h.fC w) h7 (by omega) (by simp) ⟨N,Z⟩ 1 λd2 H6 r6 g6=>hR _ q d2 _ root H6 (by omega) ⟨u.step,⟨_,hq⟩,I,?_⟩ r6 ((Gr.of w).trans g6)))
  rw[<-ha]
  simp[mI,K9,Cq]
 |el nm al kd q=>
  obtain⟨N,h2,hN,hd,Z,hq⟩:=ak
  obtain⟨rfl,I⟩:=c.top
  rw[vE] at u
  have a0:0<(GH nm al (KK kd)).length:=by unfold GH;simp
  refine xQ ht (.start (KK kd) (yx N) h2.m) u (λh=>by omega) λp c H2 s2 hb f2=>eZ (ke (Fr.refl _ _) 2 (qn nm.1 nm.2) [] p al.length c (KK kd) λH4 O f4 g4=>?_)
  have w:=f2.dF f4
  have r4:=h.fC w
  refine dD (λ_ _=>False) (eI (λh=>h rfl) (dD (λs H'=>s=(false,())/\H4=H') ⟨_,eD O 0,eI (by decide) ⟨_,eD O 0,rfl,rfl⟩⟩ ?_)) λ_ _ h=>h.elim
  rintro _ _ ⟨rfl,rfl⟩
  refine dH rfl (dD (λs H'=>s=(true,())/\H4=H') ⟨_,eD O 0,fD rfl ⟨_,rfl,_,r4.cell 12,rfl,rfl⟩⟩ ?_)
  rintro _ _ ⟨rfl,rfl⟩
  refine eN rfl ⟨_,rfl,hP (o:=12) r4.fi (by simp[Ed]) λH5 b5 f5=>?_⟩
  have r5:RS H5 x g k d t [] [] true:=r4.re f5 (by rw[b5];simp[Ed])
  have bx:x≠Array.size H2:=λe=>by have:=h.lt (.inl rfl);have:=f2.size;omega
  have aB:uq H5 (Array.size H2) 2 (qn nm.1 nm.2) [] p al.length c (KK kd):=f5.fi O λe=>bx e.symm
  have am:Gr (d.own x) (d.own x) H H5:=⟨(w.mono λ_ h=>h.elim).trans f5 λi hi=>.inl (.inl hi),λ_ h=>.inl h⟩
  have t5:=fM ht am.fr λi hi hh=>by have:=h7 i hh;omega
  have s5:=(s2.fC f4).eO f5 λi hi e=>by have:=hb i hi;have:=h.lt (.inl rfl);omega
  refine aB.ld (Jg t5 ai aj r5 h7 (by simp) N h2 hN hd Z (Nat.zero_le _) (by rw[<-ha] at ab;simp[mI,Nr,Cq] at ab⊢;omega) u.step (Gz q hq I s hs) (Hq ai aj _ (Nat.le_refl _) N) s5.cells (λi hi=>⟨s5.gE hi,λhh=>by have:=hb i hi;have:=h.lt hh;omega⟩) λd3 t3 H3 r3 g3 e3=>hR _ q d3 t3 true H3 (by omega) ⟨u.step.step,⟨_,hq⟩,I,?_⟩ r3 (am.trans g3))
  rw[e3,<-ha]
  simp[Nr,Cq,mI]
end
end Go.Proofs.fv
namespace Go.Ex
def sX(b:Bool):By:=bif b then tD else[]
def xO(b:Bool):By:=bif b then 10::y9 else[]
def FV(b:Bool):By:=bif b then[32,10,9] else[]
end Go.Ex
namespace Go.Proofs.fv
open Go.Ex Go.X
theorem Ai{v:dB}{vs:List dB}{a:dA}{i:Nat}{H:dw}{K:dw->Prop}(h:j0 v (a.add i) H λH'=>lj vs a (i+1) H' K):lj (v::vs) a i H K:=h
theorem L0{f:Fo}(h:yE false f):f≠.nil:=by rintro rfl;cases h
theorem QI{H:dw}(Z:gG H)(u w I:Bool){f:Fo}{s S:By}(N:S=sX u++(xO w++(FV I++(iV f++s))))(O:S.length<=1048576){pt:Bool}(W:ze [] 1 pt f)(h:yE false f){R:Int->Int->dw->Prop}(Y:∀H',Fr fa H H'->R (((sX u).length:Nat):Int) 0 H'):mi.C (eJ S) H R:=by
 have ta:TA S 0 S:=⟨rfl,Nat.zero_le _,O⟩
 cases u with
 |true=>exact T1 Z _ ⟨N,Nat.zero_le _,O⟩ Y
 |false=>
  refine T0 ta ?_ Y
  subst N
  cases w with
  |true=>rfl
  |false=>
   cases I with
   |true=>rfl
   |false=>exact MG (a:=[60,63,120]) (b:=[109,108]) (wH W h (L0 h) s).2.2
theorem TY{H:dw}(ht:gG H){x g:Nat}{k:RC}{d:RI}{t:List TN}(bc:30<=k.l1)(bd:6<=k.l3)(h:RS H x g k d t [] [] false)(h7:∀i,d.own x i->7<i)(b2 b4 b8:Bool){f:Fo}{s S:By}(hS:S=sX b2++(xO b4++(FV b8++(iV f++s))))(hl:S.length<=1048576)(hs:∀c∈s,OE c){pt:Bool}(ar:ze [] 1 pt f)(ad:yE false f)(aE:(t.map TN.n++mI [] 1 f).length<=1000){R:Int->dw->Prop}
 (hR:∀Z O Y H',RS H' x g Z O Y [] [] true->Gr (d.own x) (O.own x) H H'->Y.map TN.n=t.map TN.n++mI [] 1 f->R 0 H'):im.C (some ⟨x,0,none⟩) (eJ S) H R:=by
 apply im.calls
 unfold im.W
 generalize hA:t.map TN.n++mI [] 1 f=ak at aE hR
 have bj:TA S 0 S:=⟨rfl,Nat.zero_le _,hl⟩
 have bk:Lg s:=.inr λb hb=>(hs b hb).1
 have aW:=L0 ad
 have bm:=wH ar ad aW s
 refine QI ht b2 b4 b8 hS hl ar ad λH1 f1=>?_
 have aF:TA S (sX b2).length (xO b4++(FV b8++(iV f++s))):=bj.at (sX b2) hS (by omega)
 refine dD (λN H'=>N=(0,())/\∃Z O Y,RS H' x g Z O Y [] [] true/\Gr (d.own x) (O.own x) H H'/\Y.map TN.n=ak) ?_ ?_
 .have start:∃sp r,xO b4++(FV b8++(iV f++s))=sp++r/\(∀c∈sp,OE c)/\BG vN r/\(r=y9++(FV b8++(iV f++s))\/r=iV f++s):=by
   obtain⟨u,hu⟩:=bm.1
   cases b4 with
   |true=>exact⟨[10],_,rfl,by decide,.mk (by decide),.inl rfl⟩
   |false=>exact⟨FV b8,_,rfl,by cases b8<;>decide,by rw[hu];exact .mk (by decide),.inr rfl⟩
  obtain⟨sp,r,hr,bn,bo,bp⟩:=start
  rw[hr] at aF
  refine mn (eH ht f1) sp r aF bn bo λH2 f2=>?_
  have aX:=f1.dF f2
  refine eW (λm st H'=>∃(n:Nat)(dc:Bool)(Z:RC)(O:RI)(Y:List TN)(f':Fo)(I:Bool),st=((n:Int),0,dc,())/\m=S.length-n/\RS H' x g Z O Y [] [] I/\Gr (d.own x) (O.own x) H H'/\30<=Z.l1/\6<=Z.l3/\(dc=false/\I=false/\f'=f/\Y=t/\TA S n (y9++(FV b8++(iV f++s)))\/∃N,(N=s/\f'≠.nil\/N=[]/\f'=.nil)/\TS S N ak n f' Y I)) (S.length-((sX b2).length+sp.length)) ⟨(sX b2).length+sp.length,false,k,d,t,f,false,rfl,rfl,h.fC aX,Gr.of aX,bc,bd,?_⟩ ?_
  .have aY:=aF.step
   rcases bp with rfl|rfl
   .exact .inl ⟨rfl,rfl,rfl,rfl,aY⟩
   .exact .inr ⟨s,.inl ⟨rfl,aW⟩,⟨aY,⟨_,ar⟩,ad,hA⟩⟩
  rintro m _ H3 ⟨n,dc,Z,O,Y,f',I,rfl,rfl,r3,g3,an,ao,hc⟩
  dsimp only
  have t3:=fM ht g3.fr λi hi hh=>by have:=h7 i hh;omega
  have zt:=jP ht
  have bu:∀i,O.own x i->7<i:=λi hi=>(g3.up i hi).elim (h7 i) λhh=>by omega
  have on:∀{H6:dw}{n2:Nat}{dc:Bool}{k2:RC}{d2:RI}{t2:List TN}{f2:Fo}{w:Bool}(q:By),(∀c∈q,OE c)->TA S n2 (q++(iV f2++s))->n<n2->RS H6 x g k2 d2 t2 [] [] w->Gr (d.own x) (d2.own x) H H6->30<=k2.l1->6<=k2.l3->(∃pt,ze [] 1 pt f2)->yE w f2->t2.map TN.n++mI [] 1 f2=ak->gy.C (eJ S) (n2:Int) H6 λbw aZ=>∃mm,mm<S.length-n/\∃(n:Nat)(a0:Bool)(Z:RC)(O:RI)(Y:List TN)(f':Fo)(I:Bool),((bw,0,dc,()):Int×Int×Bool×Unit)=((n:Int),0,a0,())/\mm=S.length-n/\RS aZ x g Z O Y [] [] I/\Gr (d.own x) (O.own x) H aZ/\30<=Z.l1/\6<=Z.l3/\(a0=false/\I=false/\f'=f/\Y=t/\TA S n (y9++(FV b8++(iV f++s)))\/∃N,(N=s/\f'≠.nil\/N=[]/\f'=.nil)/\TS S N ak n f' Y I):=by
   intro H6 n2 dc k2 d2 t2 f2 w q hq ta hn r2 g2 l1 l3 ⟨pt,aJ⟩ ap aK
   have t6:=fM ht g2.fr λi hi hh=>by have:=h7 i hh;omega
   have aa:=ta.len
   by_cases aq:f2=.nil
   .subst aq
    have aL:TA S n2 ((q++s)++[]):=by simpa[iV] using ta
    have aa:=aL.len
    refine mn t6 (q++s) [] aL (λc hc=>(List.mem_append.1 hc).elim (hq c) (hs c)) (.inl rfl) λH7 f7=>⟨_,?_,n2+(q++s).length,dc,k2,d2,t2,.nil,w,rfl,rfl,r2.fC f7,g2.trans (Gr.of f7),l1,l3,.inr ⟨[],.inr ⟨rfl,rfl⟩,⟨aL.step,⟨_,aJ⟩,ap,aK⟩⟩⟩
    simp only[List.append_nil] at aa
    have:=h.fi
    rcases Nat.lt_or_ge n S.length with h|h<;>omega
   .obtain⟨⟨u,hu⟩,-⟩:=wH aJ ap aq s
    refine mn t6 q (iV f2++s) ta hq (by rw[hu];exact .mk (by decide)) λH7 f7=>⟨_,?_,n2+q.length,dc,k2,d2,t2,f2,w,rfl,rfl,r2.fC f7,g2.trans (Gr.of f7),l1,l3,.inr ⟨s,.inl ⟨rfl,aq⟩,⟨ta.step,⟨_,aJ⟩,ap,aK⟩⟩⟩
    rw[hu] at aa
    simp only[List.length_append,List.length_cons] at aa
    omega
  rcases hc with⟨rfl,rfl,rfl,rfl,ta⟩|⟨N,a3,c⟩
  .
   have bT:=ta.sz
   refine dD (λ_ H'=>H3=H') (fD rfl (fD (by rw[fc];have:=ta.len;rw[List.length_append] at this;have:y9.length=52:=rfl;omega) rfl)) ?_
   rintro _ _ rfl
   refine dD (λN H'=>N=(((n+y9.length:Nat):Int),0,true,())/\∃k2,RS H' x g k2 O Y [] [] false/\Gr (d.own x) (O.own x) H H'/\30<=k2.l1/\6<=k2.l3) (HP t3 _ ta λH4 f4=>eZ ?_) ?_
   .refine mP (cs:=#[.string eS,.slice none 0 0,.slice none 0 0]) (t:=gL) (vs:=[.string (eJ [120]),.slice none 0 0,.slice none 0 0]) (Fr.refl _ _) rfl λH5 b5 f5 g5=>?_
    refine eI (by decide) (dD (λN H'=>N=(false,())/\H5=H') (eI (λh=>h rfl) (dH rfl ⟨_,rfl,_,(r3.fC (f4.dF f5)).cell 12,rfl,rfl⟩)) ?_)
    rintro _ _ ⟨rfl,rfl⟩
    refine dH rfl (mQ _ _ _ _ _ _ _ (λj hj=>eD b5 j) (mQ _ _ _ _ _ _ _ (λj hj=>eD b5 j) (vL _ λrb H6 f6=>⟨mQ _ _ _ _ _ _ _ (λj hj=>eD (f6.fi b5 λh=>h) j) rfl,_,rfl,?_⟩)))
    have a4:=(f4.dF f5).dF f6
    have r6:=r3.fC a4
    refine Ai (hP (o:=5) r6.fi (by simp[Ed]) λH7 b7 f7=>Ai (hP (o:=6) b7 (by simp[Ed]) λH8 b8 f8=>Ai (hP (o:=7) b8 (by simp[Ed]) λH9 b9 f9=>?_)))
    refine⟨_,rfl,hP (o:=8) b9 (by simp[Ed]) λbU bH a5=>⟨rfl,{Z with dn:=[120],rb:=rb},?_,?_,an,ao⟩⟩
    .refine r6.re (((f7.trans f8 λi hi=>.inl hi).trans f9 λi hi=>.inl hi).trans a5 λi hi=>.inl hi) ?_
     rw[bH];simp[Ed]
    .have f0:=((f7.trans f8 λi hi=>.inl hi).trans f9 λi hi=>.inl hi).trans a5 λi hi=>.inl hi
     exact(g3.trans (Gr.of a4)).trans ⟨f0.mono λi hi=>.inl hi,λ_ h=>.inl h⟩
   .rintro _ H4 ⟨rfl,k2,r4,g4,l1,l3⟩
    exact on (FV b8) (by cases b8<;>decide) ta.step (by have:y9.length=52:=rfl;omega) r4 g4 l1 l3 ⟨_,ar⟩ ad hA
  .by_cases hf:f'=.nil
   .obtain⟨rfl,-⟩:N=[]/\True:=by rcases a3 with⟨-,h⟩|⟨h,-⟩;exact absurd hf h;exact⟨h,trivial⟩
    subst hf
    have aa:=c.at'.len
    simp only[iV,List.append_nil,List.length_nil] at aa
    have bI:I=true:=c.top
    subst bI
    have au:=c.yC
    simp only[mI,List.append_nil] at au
    exact dD (λ_ _=>False) (fD rfl (eI (by rw[fc];omega) ⟨rfl,Z,O,Y,r3,g3,au⟩)) λ_ _ h=>h.elim
   .obtain⟨rfl,-⟩:N=s/\True:=by rcases a3 with⟨h,-⟩|⟨-,h⟩;exact⟨h,trivial⟩;exact absurd h hf
    obtain⟨bV,bJ⟩:=c.ok
    obtain⟨⟨u,hu⟩,hp,-⟩:=wH bJ c.top hf N
    have aa:=c.at'.len
    rw[hu,List.length_cons] at aa
    refine dD (λ_ H'=>H3=H') (fD rfl (fD (by rw[fc];omega) rfl)) ?_
    rintro _ _ rfl
    refine dD (λst H'=>∃n2 f2 d2 t2 w,st=(((n2:Nat):Int),0,dc,())/\n<n2/\TS S N ak n2 f2 t2 w/\RS H' x g Z d2 t2 [] [] w/\Gr (d.own x) (d2.own x) H H') (HO c.at' (MG (a:=[60,33,68]) (b:=[79,67,84,89,80,69]) hp) λH4 f4=>eZ (mP (vs:=[.string eS,.slice none 0 0,.slice none 0 0]) (Fr.refl _ _) rfl λH5 b5 f5 g5=>fD rfl (JV (eH t3 (f4.dF f5)) an ao (r3.fC (f4.dF f5)) bu bk aE c hf λn2 f2 d2 t2 w H6 hn c2 r6 g6=>⟨n2,f2,d2,t2,w,rfl,hn,c2,r6,(g3.trans (Gr.of (f4.dF f5))).trans g6⟩))) ?_
    rintro _ H4 ⟨n2,f2,d2,t2,w,rfl,hn,c2,r4,g4⟩
    exact on [] (by simp) c2.at' hn r4 g4 an ao c2.ok c2.top c2.yC
 .rintro _ H2 ⟨rfl,Z,O,Y,r2,g2,e2⟩
  refine dD (λN H'=>N=(0,())/\H2=H') (dD (λN H'=>N=(false,())/\H2=H') (fD rfl ⟨_,rfl,_,r2.cell 12,rfl,rfl⟩) ?_) ?_
  .rintro _ _ ⟨rfl,rfl⟩
   exact dH rfl ⟨rfl,rfl⟩
  .rintro _ _ ⟨rfl,rfl⟩
   exact hR Z O Y H2 r2 g2 e2
end Go.Proofs.fv
namespace Go.Ex
inductive yD:By->Prop where
 |nil:yD []
 |TW {c:UInt8} {t:By} (h:c.toNat<128) (ht:yD t):yD (c::t)
 |two {t:By} (ht:yD t):yD (195::169::t)
theorem yD.app{a b:By}(w:yD a)(I:yD b):yD (a++b):=by
 induction w with
 |nil=>exact I
 |TW h _ u=>exact .TW h u
 |two _ u=>exact .two u
theorem yD.of{a:By}(h:∀c∈a,c.toNat<128):yD a:=by
 induction a with
 |nil=>exact .nil
 |cons c t u=>exact .TW (h c (by simp)) (u λx w=>h x (by simp[w]))
theorem yD.drop:∀(n:Nat){b:By},yD b->(∀i(hi:i<b.length),i<n->b[i].toNat<128)->yD (b.drop n)
 |0,_,h,_=>h
 |n+1,_,h,hn=>by
  cases h with
  |nil=>exact .nil
  |TW h u=>exact u.drop n λi hi w=>hn (i+1) (by simpa using hi) (by omega)
  |two u=>exact absurd (show(195:UInt8).toNat<128 from hn 0 (by simp) (by omega)) (by decide)
theorem Bh{bs:By}{H:dw}{p:dC}(h:eY H p (sn bs)){j:Nat}(u:j<bs.length):∃a,p=some a/\dL H (a.add j)=some (.int .u8 (bs[j].toNat:Int)):=by
 cases p with
 |none=>have h:sn bs=[]:=h;have:=congrArg List.length h;rw[pX,List.length_nil] at this;omega
 |some a=>exact⟨a,rfl,h j _ (by unfold sn;rw[List.getElem?_map,List.getElem?_eq_getElem u];rfl)⟩
theorem xE{bs:By}{H:dw}{p:dC}{l:Nat}(h:eY H p (sn bs))(w:l=bs.length)(n:Nat)(I:n<=l):eY H (if l=n then p else Option.map (λq:dA=>q.add n) p) (sn (bs.drop n)):=by
 subst w
 by_cases e:bs.length=n
 .rw[List.drop_eq_nil_of_le (by omega)]
  split
  .cases p with|none=>rfl|some a=>exactλj v u=>by simp[sn] at u
  .omega
 .rw[if_neg e]
  obtain⟨a,rfl,-⟩:=Bh h (j:=0) (by omega)
  intro j v u
  rw[Addr.add_add]
  refine h (n+j) v ?_
  unfold sn at u⊢
  rw[List.map_drop,List.getElem?_drop] at u
  exact u
def Hi(b:Nat->Nat)(n W:Nat):Prop:=W<2^64/\∀i,i<n->(b i).testBit 7=true->W.testBit (8*i+7)=true
theorem sI{b:Nat->Nat}{n W:Nat}(Y:n<8)(Z:b n<256)(h:Hi b n W){s:Int}(N:s=((8*n:Nat):Int)):∃w:Nat,uI .u64 (W:Int) (mU .u64 (IntKind.u64.wrap (b n:Int)) s)=(w:Int)/\Hi b (n+1) w:=by
 subst N
 rw[fL (by omega),rP,pR h.1 (Nat.mod_lt _ (by decide))]
 refine⟨_,rfl,Nat.or_lt_two_pow h.1 (Nat.mod_lt _ (by decide)),λi hi u=>?_⟩
 rw[Nat.testBit_or]
 rcases Nat.lt_or_ge i n with I|O
 .rw[h.2 i I u];rfl
 .obtain rfl:i=n:=by omega
  rw[Nat.testBit_mod_two_pow,Nat.testBit_shiftLeft,decide_eq_true (show 8*i+7<64 by omega),decide_eq_true (show 8*i+7>=8*i by omega),Nat.add_sub_cancel_left,u]
  simp
theorem Qc{b:Nat->Nat}{W:Nat}(h:Hi b 8 W)(w:∀i,b i<256)(I:W&&&9259542123273814144=0):∀i,i<8->b i<128:=by
 intro i hi
 rcases Nat.lt_or_ge (b i) 128 with u|u
 .exact u
 .have t:(b i).testBit 7=true:=by
   rw[Nat.testBit_eq_decide_div_mod_eq]
   have:=w i
   have:b i/2^7=1:=by omega
   rw[this];rfl
  have:=congrArg (λx=>Nat.testBit x (8*i+7)) I
  simp only[Nat.testBit_and,h.2 i hi t,Bool.true_and,Nat.zero_testBit] at this
  have m:∀i,i<8->Nat.testBit 9259542123273814144 (8*i+7)=true:=by decide
  rw[m i hi] at this
  cases this
theorem or_zero{a b m:Nat}(h:(a|||b)&&&m=0):a&&&m=0/\b&&&m=0:=by
 constructor<;>
 .apply Nat.eq_of_testBit_eq
  intro i
  have:=congrArg (λx=>Nat.testBit x i) h
  simp only[Nat.testBit_and,Nat.testBit_or,Nat.zero_testBit] at this⊢
  cases u:a.testBit i<;>cases w:b.testBit i<;>cases I:m.testBit i<;>simp_all
end Go.Ex
namespace Go.Proofs.fv
open Go.Ex Go.X
theorem su{H:dw}{p:dC}{c l:Nat}{bs:By}(h:eY H p (sn bs))(hl:l=bs.length)(h8:8<=l){R:Int->dw->Prop}(hR:∀W:Nat,W<2^64->(W&&&9259542123273814144=0->∀i(hi:i<bs.length),i<8->bs[i].toNat<128)->R (W:Int) H):gK.C p l c H R:=by
 apply gK.calls
 unfold gK.W
 let b:Nat->Nat:=λi=>(bs[i]?.getD 0).toNat
 have w:∀i,b i<256:=λi=>UInt8.toNat_lt _
 have u:∀(j:Int)(K:Int->Prop),0<=j->j<8->K (b j.toNat:Int)->∃x:dA,p=some x/\0<=j/\j<(l:Int)/\vP H (x.add j.toNat) K:=λj K N Y hk=>by
  obtain⟨a,rfl,O⟩:=Bh h (j:=j.toNat) (by omega)
  refine⟨a,rfl,N,by omega,_,O,?_⟩
  have:b j.toNat=(bs[j.toNat]'(by omega)).toNat:=by show(bs[j.toNat]?.getD 0).toNat=_;rw[List.getElem?_eq_getElem (by omega)];rfl
  rw[<-this];exact hk
 refine u 0 _ (by decide) (by decide) (u 1 _ (by decide) (by decide) ⟨by decide,u 2 _ (by decide) (by decide) ⟨by decide,u 3 _ (by decide) (by decide) ⟨by decide,u 4 _ (by decide) (by decide) ⟨by decide,u 5 _ (by decide) (by decide) ⟨by decide,u 6 _ (by decide) (by decide) ⟨by decide,u 7 _ (by decide) (by decide) ⟨by decide,eZ ?_⟩⟩⟩⟩⟩⟩⟩)
 have N:Hi b 1 (b 0):=⟨by have:=w 0;omega,λi hi I=>by rw[show i=0 by omega] at I⊢;exact I⟩
 obtain⟨W1,e1,Y⟩:=sI (by decide) (w 1) N (s:=8) rfl
 obtain⟨W2,e2,O⟩:=sI (by decide) (w 2) Y (s:=16) rfl
 obtain⟨W3,e3,h3⟩:=sI (by decide) (w 3) O (s:=24) rfl
 obtain⟨W4,e4,h4⟩:=sI (by decide) (w 4) h3 (s:=32) rfl
 obtain⟨W5,e5,h5⟩:=sI (by decide) (w 5) h4 (s:=40) rfl
 obtain⟨W6,e6,h6⟩:=sI (by decide) (w 6) h5 (s:=48) rfl
 obtain⟨W7,e7,Z⟩:=sI (by decide) (w 7) h6 (s:=56) rfl
 have e0:IntKind.u64.wrap (b 0:Int)=(b 0:Int):=fL (by have:=w 0;omega)
 show R (uI .u64 (uI .u64 (uI .u64 (uI .u64 (uI .u64 (uI .u64 (uI .u64 (IntKind.u64.wrap (b 0:Int)) (mU .u64 (IntKind.u64.wrap (b 1:Int)) 8)) (mU .u64 (IntKind.u64.wrap (b 2:Int)) 16)) (mU .u64 (IntKind.u64.wrap (b 3:Int)) 24)) (mU .u64 (IntKind.u64.wrap (b 4:Int)) 32)) (mU .u64 (IntKind.u64.wrap (b 5:Int)) 40)) (mU .u64 (IntKind.u64.wrap (b 6:Int)) 48)) (mU .u64 (IntKind.u64.wrap (b 7:Int)) 56)) H
 rw[e0,e1,e2,e3,e4,e5,e6,e7]
 refine hR W7 Z.1 λhm i hi aa=>?_
 have:=Qc Z w hm i aa
 have e:b i=(bs[i]).toNat:=by show(bs[i]?.getD 0).toNat=_;rw[List.getElem?_eq_getElem hi];rfl
 omega
theorem Ns{H:dw}(h:gG H):dL H ((⟨ru,0,none⟩:dA).add (jy (195:Int).toNat 1))=some (.int .u8 2):=by
 have e:(oA S0)[195]?=some (.int .u8 2):=by kernel_rfl
 rw[show(⟨ru,0,none⟩:dA).add (jy (195:Int).toNat 1)=(⟨0,0,none⟩:dA).add 195 from rfl,dO h.h0]
 exact e
theorem MA{H:dw}(h:gG H):dL H (((⟨jV,0,none⟩:dA).add (jy (0:Int).toNat 2)).add 0)=some (.int .u8 128)/\dL H (((⟨jV,0,none⟩:dA).add (jy (0:Int).toNat 2)).add 1)=some (.int .u8 191):=by
 have e:(oA Lb)[0]?=some (.int .u8 128)/\(oA Lb)[1]?=some (.int .u8 191):=⟨by kernel_rfl,by kernel_rfl⟩
 rw[show((⟨jV,0,none⟩:dA).add (jy (0:Int).toNat 2)).add 0=(⟨1,0,none⟩:dA).add 0 from rfl,show((⟨jV,0,none⟩:dA).add (jy (0:Int).toNat 2)).add 1=(⟨1,0,none⟩:dA).add 1 from rfl,dO h.h1,dO h.h1]
 exact e
theorem O3{H:dw}(ht:gG H){p:dC}{l c:Nat}{bs:By}(h:eY H p (sn bs))(hl:l=bs.length)(hc:l<=c)(hu:yD bs){R:Bool->dw->Prop}(hR:∀H',Fr fa H H'->R true H'):mB.C p l c H R:=by
 apply mB.calls
 unfold mB.W
 refine⟨by omega,by omega,by omega,by omega,dD (λ_ H'=>Fr fa H H') (eW (λn s H'=>∃p' ai,s=((p',n,n),())/\n=List.length ai/\eY H' p' (sn ai)/\yD ai/\Fr fa H H') l ⟨p,bs,by simp,hl,h,hu,Fr.refl _ _⟩ ?_) λ_ H' f=>hR H' f⟩
 rintro n _ w ⟨p',bs,rfl,hl,h,hu,f1⟩
 have ht:=eH ht f1
 dsimp only
 refine eE (λh0=>?_) (λh0=>f1)
 have cut:∀{p:dC}{l:Nat}{bs:By}(i:Nat),eY w p (sn bs)->l=bs.length->i<=l->yD bs->(∀k(I:k<bs.length),k<i->bs[k].toNat<128)->eY w (if l=i then p else Option.map (λq:dA=>q.add i) p) (sn (bs.drop i))/\l-i=(bs.drop i).length/\yD (bs.drop i):=λi h hl hi hu ha=>
  ⟨xE h hl _ hi,by rw[List.length_drop];omega,yD.drop _ hu ha⟩
 obtain⟨a,e,hv⟩:=Bh h (j:=0) (by omega)
 cases hu with
 |nil=>simp at hl;omega
 |@two t Z=>
  have hv:dL w (a.add 0)=some (.int .u8 195):=hv
  refine⟨a,e,by omega,h0,_,hv,?_⟩
  refine dD (λs H'=>s=((p',n,n),())/\w=H') (eI (by decide) ⟨rfl,rfl⟩) ?_
  rintro _ _ ⟨rfl,rfl⟩
  dsimp only
  refine⟨by decide,by decide,_,Ns ht,eZ ⟨by decide,by decide,by decide,?_⟩⟩
  refine⟨_,(MA ht).1,_,(MA ht).2,dN λH2 h2=>?_⟩
  have f2:Fr fa w H2:=h2▸Fr.new w _ _
  refine tR (cs:=#[.int .u8 0,.int .u8 0]) (t:=pF) (h2▸eU) rfl λH3 b3 f3=>?_
  have aB:Fr fa w H3:=f2.fresh f3 λi hi=>by omega
  have h3:=h.fC aB
  obtain⟨a1,e1,ad⟩:=Bh h3 (j:=1) (by simp)
  have ad:dL H3 (a1.add 1)=some (.int .u8 169):=ad
  simp only[List.length_cons] at hl
  refine fD rfl (dD (λ_ H'=>H3=H') (dD (λs H'=>s=(false,())/\H3=H') (eI (by omega) ⟨a1,e1,by decide,by omega,_,ad,_,eD b3 0,eI (by decide) ⟨_,eD b3 1,a1,e1,by decide,by omega,_,ad,by rfl,rfl⟩⟩) ?_) ?_)
  .rintro _ _ ⟨rfl,rfl⟩
   exact dH rfl rfl
  .rintro _ _ rfl
   exact⟨by decide,by omega,n-2,by omega,_,t,rfl,by omega,xE h3 (by simp;omega) 2 (by omega),Z,f1.dF aB⟩
 |@TW c0 t aC Z=>
  have hv:dL w (a.add 0)=some (.int .u8 (c0.toNat:Int)):=hv
  simp only[List.length_cons] at hl
  refine⟨a,e,by omega,h0,_,hv,dD (λ_ _=>False) (fD (by omega) ⟨by omega,by omega,?_⟩) (λ_ _ h=>h.elim)⟩
  obtain⟨c1,l1,u1⟩:=cut (bs:=c0::t) 1 h (by simp;omega) (by omega) (.TW aC Z) (λk I Y=>by obtain rfl:k=0:=(by omega);exact aC)
  have c1:eY w _ (sn t):=c1
  have l1:n-1=t.length:=l1
  refine dD (λs H'=>w=H'/\(s.1=true->9<n/\∀k(I:k<t.length),k<8->t[k].toNat<128)) (eE (λY=>su c1 l1 (by omega) λW hW hm=>⟨rfl,λN=>⟨by omega,?_⟩⟩) λY=>⟨rfl,λh=>by cases h⟩) ?_
  .have N:=of_decide_eq_true N
   rw[show(9259542123273814144:Int)=((9259542123273814144:Nat):Int) from rfl,lQ hW (by decide)] at N
   exact hm (Int.natCast_eq_zero.1 N)
  rintro⟨b,⟨⟩⟩ _ ⟨rfl,hb⟩
  cases b with
  |false=>exact dH rfl ⟨n-1,by omega,_,t,rfl,l1,c1,Z,f1⟩
  |true=>
   obtain⟨h9,hb⟩:=hb rfl
   obtain⟨c2,l2,u2⟩:=cut 8 c1 l1 (by omega) Z hb
   refine eN rfl ⟨by omega,by omega,dD (λs H'=>w=H'/\(s.1=true->25<n/\∀k(I:k<(t.drop 8).length),k<16->(t.drop 8)[k].toNat<128)) (eE (λY=>?_) λY=>⟨rfl,λh=>by cases h⟩) ?_⟩
   .have Y:(16:Int)<((n-1-8:Nat):Int):=Y
    refine⟨by omega,by omega,su c2 l2 (by omega) λW hW hm=>su (xE c2 l2 8 (by omega)) (by rw[List.length_drop];omega) (by omega) λW' aD aU=>⟨rfl,λN=>⟨by omega,?_⟩⟩⟩
    have N:=of_decide_eq_true N
    rw[pR hW aD,show(9259542123273814144:Int)=((9259542123273814144:Nat):Int) from rfl,lQ (Nat.or_lt_two_pow hW aD) (by decide)] at N
    obtain⟨z1,z2⟩:=or_zero (Int.natCast_eq_zero.1 N)
    intro k I am
    rcases Nat.lt_or_ge k 8 with h8|h8
    .exact hm z1 k I h8
    .have:=aU z2 (k-8) (by rw[List.length_drop];omega) (by omega)
     rw[List.getElem_drop] at this
     simpa[show 8+(k-8)=k by omega] using this
   .rintro⟨b,⟨⟩⟩ _ ⟨rfl,an⟩
    cases b with
    |false=>exact dH rfl ⟨n-1-8,by omega,_,_,rfl,l2,c2,u2,f1⟩
    |true=>
     obtain⟨be,an⟩:=an rfl
     obtain⟨c4,l4,u4⟩:=cut 16 c2 l2 (by omega) u2 an
     refine eN rfl ⟨by omega,by omega,eW (λm s H'=>∃aa u,s=((aa,m,m),())/\m<n/\m=List.length u/\eY w aa (sn u)/\yD u/\w=H') _ ⟨_,_,rfl,by omega,l4,c4,u4,rfl⟩ ?_⟩
     rintro m _ _ ⟨aa,u,rfl,aE,O,ab,ao,rfl⟩
     dsimp only
     refine dD (λ_ H'=>w=H'/\32<m/\∀k(I:k<u.length),k<32->u[k].toNat<128) (eE (λY=>?_) λY=>⟨m,aE,aa,u,rfl,O,ab,ao,f1⟩) ?_
     .have cc:=λ(i:Nat)(hi:i<=m)=>xE ab O i hi
      refine⟨by omega,by omega,by omega,by omega,by omega,by omega,su ab O (by omega) λW0 ap m0=>su (cc 8 (by omega)) (by rw[List.length_drop];show _-_=_;omega) (by omega) λW1 aq m1=>su (cc 16 (by omega)) (by rw[List.length_drop];show _-_=_;omega) (by omega) λW2 ar m2=>su (cc 24 (by omega)) (by rw[List.length_drop];show _-_=_;omega) (by omega) λW3 au m3=>eE (λN=>⟨rfl,by omega,?_⟩) λ_=>⟨m,aE,aa,u,rfl,O,ab,ao,f1⟩⟩
      rw[pR ap aq,pR ar au,pR (Nat.or_lt_two_pow ap aq) (Nat.or_lt_two_pow ar au),show(9259542123273814144:Int)=((9259542123273814144:Nat):Int) from rfl,lQ (Nat.or_lt_two_pow (Nat.or_lt_two_pow ap aq) (Nat.or_lt_two_pow ar au)) (by decide)] at N
      obtain⟨z1,z2⟩:=or_zero (Int.natCast_eq_zero.1 N)
      obtain⟨q0,q1⟩:=or_zero z1
      obtain⟨q2,q3⟩:=or_zero z2
      have av:∀{i k:Nat}(I:k<u.length),i<=k->k<i+8->(∀k(I:k<(u.drop i).length),k<8->(u.drop i)[k].toNat<128)->u[k].toNat<128:=λ{i k} I Y h2 h=>by
       have:=h (k-i) (by rw[List.length_drop];omega) (by omega)
       rw[List.getElem_drop] at this
       simpa[show i+(k-i)=k by omega] using this
      intro k I aV
      rcases Nat.lt_or_ge k 8 with h8|h8
      .exact m0 q0 k I h8
      rcases Nat.lt_or_ge k 16 with am|am
      .exact av I h8 (by omega) (m1 q1)
      rcases Nat.lt_or_ge k 24 with aF|aF
      .exact av I am (by omega) (m2 q2)
      .exact av I aF (by omega) (m3 q3)
     .rintro _ _ ⟨rfl,aV,aO⟩
      obtain⟨c5,l5,u5⟩:=cut 32 ab O (by omega) ao aO
      exact⟨by omega,by omega,m-32,by omega,_,_,rfl,by omega,l5,c5,u5,rfl⟩
end Go.Proofs.fv
namespace Go.X
open Go.Ex Go.Proofs
def SP:Nat:=340282366920938463463374607427473253888
theorem U5:ov za 103 ((List.range 128).map λn=>([.f (.I .i32 (.ofNat n))],[.B (SP.testBit n)]))=true:=by kernel_rfl
theorem U6:ov KQ 103 [([.f (.I .i32 233)],[.B true])]=true:=by kernel_rfl
end Go.X
namespace Go.Ex
theorem Jp{H:dw}{p:dC}{bs:By}(h:eY H p (sn bs)):qZ H p bs.length (eJ bs):=by
 cases p with
 |none=>
  have h:sn bs=[]:=h
  have:=congrArg List.length h
  rw[pX,List.length_nil] at this
  rw[List.eq_nil_of_length_eq_zero this];rfl
 |some a=>exact⟨fc _,by rw[qF];exact h⟩
def Lf(c:UInt8):Prop:=c.toNat<128->Go.X.SP.testBit c.toNat=true
instance(c:UInt8):Decidable (Lf c):=inferInstanceAs (Decidable (_->_))
theorem Qn(s:dE)(i:Nat)(u:s.data.toList[i]?=some 195)(h:s.data.toList[i+1]?=some 169):Utf8.decode s i=(233,2):=by
 have w:=(List.getElem?_eq_some_iff.1 h).1
 have I:i+1<s.size:=by simpa using w
 rw[Go.Lib.decode_at,get_at s i _ u,get_at s (i+1) _ h]
 unfold Go.Lib.decodeN
 rw[if_neg (by decide),if_pos ⟨by decide,by omega,by decide⟩]
 rfl
theorem vQ{s r:By}(h:∀x∈s,x≠13):Go.Lib.index s (13::r)=-1:=Go.Lib.index_none λj w=>by
 unfold Go.Lib.occAt
 cases e:s.drop j with
 |nil=>rfl
 |cons y t=>
  have u:y≠13:=h y (List.mem_of_mem_drop (i:=j) (by rw[e];exact List.mem_cons_self ..))
  simp[List.isPrefixOf,Ne.symm u]
theorem IL(m:By):∀u:By,(∀x∈u,x≠13)->pG u (13::m)=true
 |[],_=>rfl
 |c::u,h=>by
  have w:=h c (by simp)
  have I:=IL m u λx N=>h x (by simp[N])
  unfold pG
  rw[I]
  simp[List.isPrefixOf,Ne.symm w]
theorem IC{s u new:By}(h:Go.Lib.index s u=-1):Go.Lib.replaceAll s u new=s:=by
 unfold Go.Lib.replaceAll Go.Lib.replace
 split
 .rfl
 .unfold Go.Lib.replaceNum
  rw[if_pos (.inl (by decide)),Go.Lib.count_miss h]
  rfl
theorem Pw(u r:By)(I:∀x∈u,x≠13)(N:∀x∈r,x≠13):Go.Lib.count (u++([13,10]++r)) [13,10]=1/\Go.Lib.replaceAll (u++([13,10]++r)) [13,10] [10]=u++(10::r):=by
 have hi:Go.Lib.index (u++([13,10]++r)) [13,10]=((u.length:Nat):Int):=AX [13,10] r (by simp) u (IL _ u I)
 have h:(u++([13,10]++r)).drop (u.length+([13,10]:By).length)=r:=by rw[<-List.append_assoc,<-List.length_append,List.drop_left]
 have w:Go.Lib.count (u++([13,10]++r)) [13,10]=1:=by
  rw[Go.Lib.count_hit (by simp) hi,h,Go.Lib.count_miss (vQ N)]
 refine⟨w,?_⟩
 unfold Go.Lib.replaceAll Go.Lib.replace
 rw[if_neg (by decide)]
 unfold Go.Lib.replaceNum
 rw[if_pos (.inl (by decide)),w,Go.Lib.replaceK_hit _ _ _ _ _ hi,h]
 rw[List.take_left]
 simp[Go.Lib.replaceK]
def pA(b:Bool):By:=bif b then[13,10,32] else[]
def qX(b:Bool):By:=bif b then[10,32] else[]
def lR(b:Bool):By:=bif b then[239,187,191] else[]
end Go.Ex
namespace Go.Proofs.fv
open Go.Ex Go.X
section
variable {H:dw}
theorem Q2(h:gG H){n:Nat}(u:n<128){R:Bool->dw->Prop}(w:∀H',Fr fa H H'->R (SP.testBit n) H'):vK.C (n:Int) H R:=
 (gX kH U5 ⟨_,Tryz.func103,by kernel_rfl⟩ (List.mem_map.2 ⟨n,List.mem_range.2 u,rfl⟩) h).mono λv H'⟨I,N⟩=>⟨_,I,w H' N⟩
theorem Oz(h:gG H){R:Bool->dw->Prop}(u:∀H',Fr fa H H'->R true H'):vK.C 233 H R:=
 (gX sR U6 ⟨_,Tryz.func103,by kernel_rfl⟩ (List.mem_singleton.2 rfl) h).mono λv H'⟨w,I⟩=>⟨_,w,u H' I⟩
theorem K5(ht:gG H){p:dC}{l c:Nat}{bs:By}(h:eY H p (sn bs))(hl:l=bs.length)(hc:l<=c)(hu:yD bs)(ha:∀x∈bs,Lf x){R:Bool->dw->Prop}(hR:∀H',Fr fa H H'->R true H'):
 mE.C p l c H R:=by
 subst hl
 apply mE.calls
 unfold mE.W
 refine dD (λ_ H'=>Fr fa H H') ⟨eJ bs,Jp h,dN λH1 h1=>?_⟩ (λ_ H' f=>O3 (eH ht f) (h.fC f) rfl hc hu λw f2=>hR _ (f.dF f2))
 subst h1
 refine eW (λn _ H'=>∃q r,q<=bs.length/\n=bs.length-q/\bs.drop q=r/\yD r/\H'[Array.size H]?=some (.stringIter (eJ bs) q)/\Fr fa H H') bs.length ⟨0,bs,by omega,rfl,rfl,hu,oH _ _,Fr.push _ _⟩ ?_
 rintro n _ H' ⟨q,r,hq,rfl,Z,ae,hb,f⟩
 refine⟨_,_,hb,eE (λh0=>?_) λh0=>f⟩
 rw[fc] at h0
 have aa:=eR hb
 have I:∀j,bs[q+j]?=r[j]?:=λj=>by rw[<-Z,List.getElem?_drop]
 have u:bs.length-q=r.length:=by rw[<-Z,List.length_drop]
 cases ae with
 |nil=>rw[List.length_nil] at u;omega
 |@TW x t hx N=>
  have e0:=I 0
  have hm:x∈bs:=List.mem_of_getElem? e0
  rw[Cw _ q x (by rw[iM];exact e0) hx]
  refine dN λw O=>eZ ?_
  have Y:w[Array.size H]?=some (.stringIter (eJ bs) (q+1)):=O▸qu aa _
  have f2:Fr fa H w:=O▸f.fresh (Fr.Ap _ _ _) λi hi=>by omega
  refine Q2 (eH ht f2) hx λH3 f3=>?_
  rw[ha x hm hx]
  rw[List.length_cons] at u
  exact dH rfl ⟨bs.length-(q+1),by omega,q+1,t,by omega,rfl,by rw[<-List.drop_drop,Z];rfl,N,f3.fi Y λh=>h,f2.dF f3⟩
 |@two t N=>
  rw[Qn _ q (by rw[iM];exact I 0) (by rw[iM];exact I 1)]
  refine dN λw O=>eZ ?_
  have Y:w[Array.size H]?=some (.stringIter (eJ bs) (q+2)):=O▸qu aa _
  have f2:Fr fa H w:=O▸f.fresh (Fr.Ap _ _ _) λi hi=>by omega
  refine Oz (eH ht f2) λH3 f3=>?_
  simp only[List.length_cons] at u
  exact dH rfl ⟨bs.length-(q+2),by omega,q+2,t,by omega,rfl,by rw[<-List.drop_drop,Z];rfl,N,f3.fi Y λh=>h,f2.dF f3⟩
theorem Jz(O:gG H)(s h new:By)(hs:s.length<=1048577)(I:1<=h.length)(N:Go.Lib.count s h<=1)(W:new.length<=1){R:dE->dw->Prop}(Y:∀H',Fr fa H H'->R (eJ (Go.Lib.replaceAll s h new)) H'):strings_ReplaceAll.C (eJ s) (eJ h) (eJ new) H R:=by
 intro w Z
 subst Z
 obtain⟨m,hm⟩:=(tP O).cell
 have N:Go.Lib.countB (eJ s) (eJ h)<=1:=N
 have ac:Go.Lib.countB (eJ s) (eJ h)*(eJ new).size<=1*1:=Nat.mul_le_mul N (by rw[fc];exact W)
 refine(Tryz.strings_ReplaceAll (eJ s) (eJ h) (eJ new) m w (by rw[fc];omega) (by rw[mZ];exact hm) (by rw[fc];exact I) (by rw[fc];omega)).mono λe w'⟨I,u⟩=>?_
 exact⟨_,I,⟨u.os,u.tape,u.output⟩,_,rfl,Y _ ⟨u.size,λk hk _=>u.block k hk⟩⟩
end
theorem QK{H:dw}{b k c:Nat}(u:Bool){bs:By}(h:eY H (some ⟨b,0,none⟩) (sn (lR u++bs)))(Z:(lR u++bs).length<=c)(h0:bs≠[])(O:bs.head?≠some 239)(hk:H[k]?=some (.cells #[.int .u8 239,.int .u8 187,.int .u8 191] lI (0,0)))
 {R:dC->Nat->Nat->dw->Prop}(hR:∀p c',eY H p (sn bs)->bs.length<=c'->R p bs.length c' H):bytes_TrimPrefix.C (some ⟨b,0,none⟩) (lR u++bs).length c (some ⟨k,0,none⟩) 3 3 H R:=by
 intro w hw
 subst hw
 have e1:Go.Lib.BytesIn w (some ⟨b,0,none⟩) (lR u++bs).length ((lR u++bs).map λx=>(x.toNat:Int)):=Go.Lib.BytesIn.of_cells λi hi=>by
  obtain⟨a,ha,hv⟩:=Bh h hi
  cases ha
  rw[mZ,hv,List.getD_eq_getElem?_getD,List.getElem?_map,List.getElem?_eq_getElem hi]
  rfl
 have e2:Go.Lib.BytesIn w (some ⟨k,0,none⟩) 3 [239,187,191]:=Go.Lib.BytesIn.of_cells λi hi=>by
  rw[mZ,dO hk]
  rcases i with _|_|_|i<;>first|rfl|omega
 refine(Tryz.bytes_TrimPrefix_all _ _ _ c 3 3 _ _ w (by simp) rfl Z e1 e2).mono λe w'⟨I,h2⟩=>?_
 subst h2
 have hl:=List.length_pos_iff.2 h0
 cases u with
 |false=>
  have W:Go.Lib.trimPrefixV (some ⟨b,0,none⟩) (lR false++bs).length c ((lR false++bs).map λx=>(x.toNat:Int)) [239,187,191]=.slice (some ⟨b,0,none⟩) bs.length c:=by
   have Y:Go.Lib.hasPrefix (Go.Lib.bytesOf ((lR false++bs).map λx=>(x.toNat:Int))) (Go.Lib.bytesOf [239,187,191])=false:=by
    cases bs with
    |nil=>exact absurd rfl h0
    |cons x r=>
     have hx:x≠239:=λe=>O (by rw[e];rfl)
     simp only[Go.Lib.bytesOf,lR,cond_false,List.nil_append,List.map_cons,Go.Lib.hasPrefix]
     simp[List.isPrefixOf,Ne.symm hx]
   unfold Go.Lib.trimPrefixV Go.Lib.bytesTrimPrefix
   simp only[Y]
   rfl
  rw[W] at I
  exact⟨_,I,ik.refl _,_,_,_,rfl,hR _ _ h Z⟩
 |true=>
  have W:Go.Lib.trimPrefixV (some ⟨b,0,none⟩) (lR true++bs).length c ((lR true++bs).map λx=>(x.toNat:Int)) [239,187,191]=.slice (some ⟨b,3,none⟩) bs.length (c-3):=by
   have Y:Go.Lib.hasPrefix (Go.Lib.bytesOf ((lR true++bs).map λx=>(x.toNat:Int))) (Go.Lib.bytesOf [239,187,191])=true:=by
    simp only[Go.Lib.bytesOf,lR,cond_true,List.cons_append,List.map_cons,Go.Lib.hasPrefix]
    rfl
   have N:(lR true++bs).length=bs.length+3:=by simp[lR]
   unfold Go.Lib.trimPrefixV Go.Lib.bytesTrimPrefix
   simp only[Y]
   have:c≠3:=by omega
   simp[Go.Lib.sliceFrom,this,N]
  rw[W] at I
  have N:(lR true++bs).length=bs.length+3:=by simp[lR]
  have:=xE h rfl 3 (by omega)
  rw[if_neg (by omega)] at this
  exact⟨_,I,ik.refl _,_,_,_,rfl,hR _ _ this (by omega)⟩
theorem Og{H:dw}(Z:gG H){b c:Nat}(Y w:Bool){u:By}(h:eY H (some ⟨b,0,none⟩) (sn (lR Y++(u++pA w))))(hc:(lR Y++(u++pA w)).length<=c)(hl:u.length<=1048573)(h0:∃x r,u=x::r/\x≠239)(hu:yD u)(ha:∀x∈u,Lf x/\x≠13){R:dE->Int->dw->Prop}(hR:∀H',Fr fa H H'->R (eJ (u++qX w)) 0 H'):
 nH.C (some ⟨b,0,none⟩) (lR Y++(u++pA w)).length c H R:=by
 apply nH.calls
 unfold nH.W
 obtain⟨x,r,rfl,hx⟩:=h0
 refine dN λH1 h1=>?_
 have f1:Fr fa H H1:=h1▸Fr.new H _ _
 have hE:∀b,yD (pA b)/\∀x∈pA b,Lf x:=λb=>⟨.of (by cases b<;>decide),by cases b<;>decide⟩
 refine QK Y (h.fC f1) hc (by simp) (by simpa using hx) (h1▸eU) λp c' hp ae=>?_
 refine K5 (eH Z f1) hp rfl ae (hu.app (hE w).1) (λy I=>(List.mem_append.1 I).elim (λh=>(ha y h).1) ((hE w).2 y)) λH2 f2=>dH rfl ⟨eJ (x::r++pA w),Jp (hp.fC f2),?_⟩
 apply oD.calls
 unfold oD.W
 have N:=f1.dF f2
 have O:∀y∈x::r,y≠13:=λy I=>(ha y I).2
 have e1:Go.Lib.count (x::r++pA w) [13,10]<=1/\Go.Lib.replaceAll (x::r++pA w) [13,10] [10]=x::r++qX w:=by
  cases w with
  |true=>
   have:=Pw (x::r) [32] O (by decide)
   exact⟨Nat.le_of_eq this.1,this.2⟩
  |false=>
   have:Go.Lib.index (x::r++pA false) [13,10]=-1:=vQ (by simpa[pA] using O)
   rw[Go.Lib.count_miss this,IC this]
   exact⟨Nat.zero_le _,rfl⟩
 have e2:Go.Lib.index (x::r++qX w) [13]=-1:=vQ λy I=>(List.mem_append.1 I).elim (O y) λI=>(by cases w<;>decide:∀y∈qX w,y≠13) y I
 have z1:(pA w).length<=3/\(qX w).length<=3:=by cases w<;>decide
 refine Jz (eH Z N) (x::r++pA w) [13,10] [10] (by rw[List.length_append];omega) (by decide) e1.1 (by decide) λH3 f3=>?_
 rw[e1.2]
 refine Jz (eH Z (N.dF f3)) (x::r++qX w) [13] [10] (by rw[List.length_append];omega) (by decide) (by rw[Go.Lib.count_miss e2];decide) (by decide) λH4 f4=>?_
 rw[IC e2]
 exact hR H4 ((N.dF f3).dF f4)
end Go.Proofs.fv
namespace Go.Ex
def NM:TN:=K9 1 0 [] []
def kL:Nd:=⟨1,0,[],[],[],[],[]⟩
end Go.Ex
namespace Go.Proofs.fv
open Go.Ex Go.X
theorem QO{H:dw}{R:Bool->dw->Prop}(N:∀H',Fr fa H H'->R true H'):pf.C 100000 30 3000 30 H R:=by
 apply pf.calls
 unfold pf.W
 refine dN λh u=>?_
 have f1:Fr fa H h:=u▸Fr.new H _ _
 have w:h[Array.size H]?=some (.cells #[.int .i64 100000,.int .i64 30,.int .i64 3000,.int .i64 30] iG (0,0)):=u▸eU
 have one:∀{n I hi:Int}{R:Bool->dw->Prop},I<=n->n<=hi->R true h->lk.C n I hi h R:=λu O Y=>lk.calls (fD u (by rw[decide_eq_true O];exact Y))
 exact⟨_,eD w 0,one (by decide) (by decide) (eN rfl ⟨_,eD w 1,one (by decide) (by decide) (eN rfl ⟨_,eD w 2,one (by decide) (by decide) (eN rfl ⟨_,eD w 3,one (by decide) (by decide) (N h f1)⟩)⟩)⟩)⟩
theorem YH{H:dw}{u O g:Nat}{k:RC}(w:k.dn=[]/\k.rb=O)(W:H[u]?=some (.cells (wj NM).toArray eC (0,0)))(Y:zd H g (λk=>k=g) [] none 0)(Z:u≠g){H':dw}{cs:Array dB}(aa:cs=#[.slice (some ⟨u,0,none⟩) 1 1,.int .i64 k.l0,.int .i64 k.l1,.int .i64 3000,.int .i64 k.l3,.string eS,.slice none 0 0,.slice none 0 0,.pointer (some ⟨O,0,none⟩),.pointer (some ⟨g,0,none⟩),.pointer none,.slice none 0 0,.bool false])(hH:H'=eP H cs iX):
 RS H' (Array.size H) g k ⟨some ⟨u,0,none⟩,1,1,none,none,0,0,λk=>k=g,none,0,λ_=>False⟩ [NM] [] [] false:=by
 obtain⟨h1,rfl⟩:=w
 have f:Fr fa H H':=hH▸Fr.new H _ _
 have ln:=eR W
 have lg:=Y.hl g rfl
 have N:∀k,eB (some ⟨u,0,none⟩) k->k=u:=λk⟨a,ha,e⟩=>by cases ha;exact e.symm
 refine⟨?_,⟨rfl,.inr ⟨u,_,rfl,f.fi W λh=>h,rfl,Nat.le_refl 1,λi hi=>?_⟩⟩,λy I=>?_,.inl rfl,Sl.nil _ _,(λh=>by cases h),Y.fC f,⟨?_,?_,fm _,λh=>h⟩,?_,λk w=>⟨fm _,λh=>h⟩,λk w=>w.elim,λy I=>by rw[List.mem_singleton] at I;rw[I];exact⟨Nat.le_refl _,λ_=>⟨rfl,rfl⟩⟩⟩
 .rw[hH,aa]
  have:=eU (H:=H) (cs:=#[.slice (some ⟨u,0,none⟩) 1 1,.int .i64 k.l0,.int .i64 k.l1,.int .i64 3000,.int .i64 k.l3,.string eS,.slice none 0 0,.slice none 0 0,.pointer (some ⟨k.rb,0,none⟩),.pointer (some ⟨g,0,none⟩),.pointer none,.slice none 0 0,.bool false]) (t:=iX)
  rw[this,Ed,h1];rfl
 .simp[rN]
 .rw[List.mem_singleton] at I
  subst I
  exact⟨rfl,λk w=>absurd w (fm k)⟩
 .intro e;have e:Array.size H=g:=e;omega
 .intro e;have:=N _ e;omega
 .rintro k rfl
  exact⟨λh=>Z (N _ h).symm,fm _,λh=>h⟩
structure QZ(b2 b4 b8:Bool)(f:Fo)(s S:By):Prop where
 e:S=sX b2++(xO b4++(FV b8++(iV f++s)))
 l:S.length<=100000
 s:∀c∈s,OE c
 ok:∃pt,ze [] 1 pt f
 top:yE false f
 sz:(mI [] 1 f).length<=900
def YE(h:dw)(f:Fo)(R:dC->Nat->Nat->Int->dw->Prop):Prop:=∀p l c t H',jK 7 H' eC (rN t) p l c->(∀y∈t,eY H' y.q (gk y.n.gh)/\Bv y/\∀k,eB y.q k->k<Array.size H')->t.map TN.n=kL::mI [] 1 f->(∀k,eB p k->Array.size h<=k)->Fr fa h H'->R p l c 0 H'
theorem Mq{u H:dw}(ht:gG u)(W:Fr fa u H){w rb g:Nat}(h1:Array.size u<=w/\Array.size u<=g)(hn:H[w]?=some (.cells (wj NM).toArray eC (0,0)))(hg:zd H g (λk=>k=g) [] none 0)(aj:w≠g){b2 b4 b8:Bool}{f:Fo}{s S:By}(I:QZ b2 b4 b8 f s S){R:dC->Nat->Nat->Int->dw->Prop}(hR:YE u f R):
 eG (eP H #[.slice (some ⟨w,0,none⟩) 1 1,.int .i64 100000,.int .i64 30,.int .i64 3000,.int .i64 30,.string dM,.slice none 0 0,.slice none 0 0,.pointer (some ⟨rb,0,none⟩),.pointer (some ⟨g,0,none⟩),.pointer none,.slice none 0 0,.bool false] iX) λH7:dw=>im.C (some ⟨Array.size H,0,none⟩) (eJ S) H7 λao H8=>eL (decide (ao≠0)) (False) (∃ab:dA,some ⟨Array.size H,0,none⟩=some ab/\fU H8 (ab.add 0) λY Z aa=>R (Y) Z aa (0) H8):=by
 refine dN λH7 h7=>?_
 have f7:Fr fa H H7:=h7▸Fr.new H _ _
 have r:=YH (k:=⟨100000,30,30,[],rb⟩) ⟨rfl,rfl⟩ hn hg aj rfl h7
 have O:∀i,RI.own ⟨some ⟨w,0,none⟩,1,1,none,none,0,0,λk=>k=g,none,0,λ_=>False⟩ (Array.size H) i->Array.size u<=i:=λi hi=>by
  rcases hi with rfl|hi|⟨a,ha,e⟩|hi|hi
  .exact W.size
  .have hi:i=g:=hi;omega
  .cases ha;have e:w=i:=e;omega
  .exact absurd hi (fm i)
  .exact hi.elim
 obtain⟨pt,ok⟩:=I.ok
 have:=I.l
 have:=I.sz
 have zt:=jP ht
 refine TY (eH ht (W.dF f7)) (show(30:Int)<=30 by decide) (show(6:Int)<=30 by decide) r (λi hi=>by have:=O i hi;omega) b2 b4 b8 I.e (by omega) I.s ok I.top (by simp;omega) λk' d' t' H' N g' e'=>eI (λh=>h rfl) ⟨_,rfl,_,_,_,N.cell 0,?_⟩
 have f':Fr fa u H':=(W.dF f7).fresh g'.fr O
 refine hR _ _ _ t' H' N.tr (λy hy=>⟨(N.at' y hy).1,N.ac y hy,λk hk=>(N.na k ((N.at' y hy).2 k hk)).2⟩) e' (λk hk=>?_) f'
 rcases g'.up k (.inr (.inr (.inl hk))) with h|h
 .exact O k h
 .have:=f7.size;have:=W.size;omega
theorem Oj{H:dw}(ht:gG H){b c:Nat}(b1 b2 b4 b8 I:Bool){f:Fo}{u:By}(h:eY H (some ⟨b,0,none⟩) (sn (lR b1++(u++pA I))))(hc:(lR b1++(u++pA I)).length<=c)(hl:(lR b1++(u++pA I)).length<=100000)(h0:∃x r,u=x::r/\x≠239)(hu:yD u)(ha:∀x∈u,Lf x/\x≠13)(hS:QZ b2 b4 b8 f (qX I) (u++qX I)){R:dC->Nat->Nat->Int->dw->Prop}(hR:YE H f R):
 nI.C (some ⟨b,0,none⟩) (lR b1++(u++pA I)).length c 100000 30 3000 30 H R:=by
 apply nI.calls
 unfold nI.W
 refine dN λH1 h1=>?_
 have f1:Fr fa H H1:=h1▸Fr.new H _ _
 have ah:H1[Array.size H]?=some (.cells #[.int .i64 100000,.int .i64 30,.int .i64 3000,.int .i64 30] iG (0,0)):=h1▸eU
 have N:∀{H':dw}{K:Int->Int->Int->Int->Prop},Fr fa H1 H'->K 100000 30 3000 30->kh H' ⟨Array.size H,0,none⟩ K:=λf hk=>qx _ _ _ _ (λj hj=>eD (f.fi ah λh=>h) j) hk
 have aO:u.length<=100000:=by simp only[List.length_append] at hl;omega
 refine N (Fr.refl _ _) (QO λH2 f2=>dH rfl ⟨_,eD (f2.fi ah λh=>h) 0,eI (by omega) (Og (eH ht (f1.dF f2)) b1 I (h.fC (f1.dF f2)) hc (by omega) h0 hu ha λH3 f3=>eI (λh=>h rfl) ?_)⟩)
 have w:=f2.dF f3
 have aa:=f1.dF w
 have z3:=aa.size
 refine N w ⟨?_,?_⟩
 .refine vL _ λrb H4 O=>⟨N (w.dF O) rfl,Bp λH5 s5 f5=>⟨N ((w.dF O).dF f5) rfl,dN λH6 h6=>?_⟩,dN λH9 h9=>?_⟩
  .have f6:Fr fa H5 H6:=h6▸Fr.new H5 _ _
   have z5:=f5.size
   have z4:=O.size
   have lg:=s5.hl _ rfl
   exact⟨N (((w.dF O).dF f5).dF f6) rfl,Mq ht (((aa.dF O).dF f5).dF f6) ⟨by omega,by omega⟩ (h6▸eU) (s5.fC f6) (by omega) hS hR⟩
  .have Y:Fr fa H4 H9:=h9▸Fr.new H4 _ _
   have z4:=O.size
   have lb:Array.size H4<Array.size H9:=by rw[h9,gi];omega
   refine⟨N ((w.dF O).dF Y) rfl,Bp λaP ay ac=>⟨N (((w.dF O).dF Y).dF ac) rfl,?_⟩⟩
   exact Mq ht (((aa.dF O).dF Y).dF ac) ⟨by omega,by omega⟩ (ac.fi (h9▸eU) λh=>h) ay (by omega) hS hR
 .refine dN λai ad=>?_
  have Y:Fr fa H3 ai:=ad▸Fr.new H3 _ _
  have lb:Array.size H3<Array.size ai:=by rw[ad,gi];omega
  refine⟨N (w.dF Y) rfl,vL _ λrb aQ Z=>⟨N ((w.dF Y).dF Z) rfl,Bp λaR az ae=>⟨N (((w.dF Y).dF Z).dF ae) rfl,?_⟩⟩⟩
  have aS:=Z.size
  exact Mq ht (((aa.dF Y).dF Z).dF ae) ⟨by omega,by omega⟩ (ae.fi (Z.fi (ad▸eU) λh=>h) λh=>h) az (by omega) hS hR
end Go.Proofs.fv
namespace Go.Ex
inductive Wk:List (List At)->Nd->List Nd->Prop where
 |nil (Ls:List (List At)) (p:Nd):Wk Ls p []
 |lf {Ls:List (List At)} {p:Nd} {k:Int} {l v:By} {d:Nat} {r:List Nd} (h1:1<=d/\d<=Ls.length+1) (hp:(d:Int)<=p.d+1/\(p.d<d->p.k=1\/p.k=2)) (hm:(k,l,v)∈vO) (ht:k=3->1<d/\¬(p.k=3/\p.d=d)) (hr:Wk (Ls.take (d-1)) ⟨k,d,[],l,[],v,[]⟩ r):Wk Ls p (⟨k,d,[],l,[],v,[]⟩::r)
 |el {Ls:List (List At)} {p:Nd} {nm:By×By} {al:List (By×By×By)} {d:Nat} {r:List Nd} (h1:1<=d/\d<=Ls.length+1) (hp:(d:Int)<=p.d+1/\(p.d<d->p.k=1\/p.k=2)) (hd:d<=30) (hm:nm∈xV) (ha:zf al) (hn:wg (Ls.take (d-1)++[mS (al.map jv)]) nm.1 (al.map jv)) (hr:Wk (Ls.take (d-1)++[mS (al.map jv)]) (uj (Ls.take (d-1)) nm al d) r):Wk Ls p (uj (Ls.take (d-1)) nm al d::r)
theorem pz{k:Int}{l v:By}(h:(k,l,v)∈vO):k≠2/\k≠1:=by
 have u:∀q∈vO,q.1≠2/\q.1≠1:=by decide
 exact u _ h
theorem ze.R0{Ls:List (List At)}{d:Nat}{pt:Bool}:∀{f:Fo},ze Ls d pt f->ze Ls d false f
 |.nil,_=>trivial
 |.lf _ _ _ _,h=>⟨h.1,λ_=>rfl,h.2.2⟩
 |.el _ _ _ _,h=>h
theorem Wk.He:∀(n:Nat){Ls:List (List At)}{p:Nd}{L:List Nd}{e:Nat},L.length<=n->1<=e->e<=Ls.length+1->(∀h∈L.head?,h.d<=e)->Wk Ls p L->
 ∃f O I Z,L=mI (Ls.take (e-1)) e f++O/\ze (Ls.take (e-1)) e (p.k==3&&p.d==e) f/\Wk I Z O/\I.take (e-1)=Ls.take (e-1)/\e-1<=I.length/\∀h∈O.head?,h.d<e:=by
 intro n
 induction n with
 |zero=>
  intro Ls p L e hL N h2 _ hw
  have:L=[]:=List.eq_nil_of_length_eq_zero (by omega)
  subst this
  exact⟨.nil,[],Ls,p,rfl,trivial,.nil _ _,rfl,by omega,λh u=>by cases u⟩
 |succ n ih=>
  intro Ls p L e hL N h2 ag hw
  cases hw with
  |nil=>exact⟨.nil,[],Ls,p,rfl,trivial,.nil _ _,rfl,by omega,λh u=>by cases u⟩
  |@lf _ _ k l v d r aa hp hm ht W=>
   have hd:(d:Int)<=e:=ag _ rfl
   rcases Nat.lt_or_ge d e with ar|au
   .exact⟨.nil,_,Ls,p,rfl,trivial,.lf aa hp hm ht W,rfl,by omega,λh u=>by cases u;show(d:Int)<e;omega⟩
   .obtain rfl:d=e:=by omega
    have w:(Ls.take (d-1)).length=d-1:=by rw[List.length_take];omega
    have hq:∀h∈r.head?,h.d<=d:=λh u=>by
     cases W with
     |nil=>cases u
     |lf N=>cases u;have:=N.2;rw[w] at this;show((_:Nat):Int)<=_;omega
     |el N=>cases u;have:=N.2;rw[w] at this;show((_:Nat):Int)<=_;omega
    obtain⟨f,O,I,Z,Y,e2,e3,e4,e5,e6⟩:=ih (by simpa using hL) N (by rw[w];omega) hq W
    have ae:(Ls.take (d-1)).take (d-1)=Ls.take (d-1):=by rw[List.take_take,Nat.min_self]
    rw[ae] at Y e2 e4
    refine⟨.lf k l v f,O,I,Z,by rw[Y];rfl,⟨hm,λh3=>?_,?_⟩,e3,e4,e5,e6⟩
    .have:=(ht h3).2
     cases hb:(p.k==3&&p.d==(d:Int)) with
     |false=>rfl
     |true=>rw[Bool.and_eq_true,beq_iff_eq,beq_iff_eq] at hb;exact absurd hb this
    .have:((d:Int)==(d:Int))=true:=by simp
     simpa[this] using e2
  |@el _ _ nm al d r aa hp af hm ha hn W=>
   have hd:(d:Int)<=e:=ag _ rfl
   rcases Nat.lt_or_ge d e with ar|au
   .exact⟨.nil,_,Ls,p,rfl,trivial,.el aa hp af hm ha hn W,rfl,by omega,λh u=>by cases u;show(d:Int)<e;omega⟩
   .obtain rfl:d=e:=by omega
    have w:(Ls.take (d-1)++[mS (al.map jv)]).length=d:=by rw[List.length_append,List.length_take,List.length_singleton];omega
    have hq:∀h∈r.head?,h.d<=((d+1:Nat):Int):=λh u=>by
     cases W with
     |nil=>cases u
     |lf N=>cases u;have:=N.2;rw[w] at this;show((_:Nat):Int)<=_;omega
     |el N=>cases u;have:=N.2;rw[w] at this;show((_:Nat):Int)<=_;omega
    have az:r.length<=n:=by simpa using hL
    obtain⟨fk,L1,aA,p1,Y,e2,e3,e4,e5,e6⟩:=ih az (by omega) (by rw[w];omega) hq W
    have ae:(Ls.take (d-1)++[mS (al.map jv)]).take (d+1-1)=Ls.take (d-1)++[mS (al.map jv)]:=List.take_of_length_le (by omega)
    rw[ae] at Y e2 e4
    have ao:aA.take (d-1)=Ls.take (d-1):=by
     have:=congrArg (List.take (d-1)) e4
     rw[List.take_take,show min (d-1) (d+1-1)=d-1 by omega,List.take_left' (by rw[List.length_take];omega)] at this
     exact this
    have aB:L1.length<=n:=by have:=congrArg List.length Y;rw[List.length_append] at this;omega
    obtain⟨f,O,I,Z,g1,g2,g3,g4,g5,g6⟩:=ih aB N (by omega) (λh u=>by have:=e6 h u;omega) e3
    rw[ao] at g1 g2 g4
    refine⟨.el nm al fk f,O,I,Z,?_,⟨hm,ha,hn,af,e2.R0,g2.R0⟩,g3,g4,g5,g6⟩
    rw[Y,g1]
    show _=uj _ _ _ _::_++_
    simp
def I4(n:Nd):Bool:=n.k==2&&n.d==1
theorem rR:∀(f:Fo){Ls:List (List At)}{e:Nat},∀n∈mI Ls e f,(e:Int)<=n.d
 |.nil,_,_,n,h=>by cases h
 |.lf k l v f,Ls,e,n,h=>by
  rcases List.mem_cons.1 h with rfl|h
  .exact Int.le_refl _
  .exact rR f n h
 |.el nm al kd f,Ls,e,n,h=>by
  rcases List.mem_cons.1 h with rfl|h
  .exact Int.le_refl _
  .rcases List.mem_append.1 h with h|h
   .have:=rR kd n h;omega
   .exact rR f n h
def Rt:Bool->List Nd->Prop
 |rt,[]=>rt=true
 |rt,n::r=>(I4 n=true->rt=false)/\Rt (rt||I4 n) r
theorem Rt.skip:∀{A B:List Nd}{u:Bool},(∀n∈A,I4 n=false)->Rt u (A++B)->Rt u B
 |[],_,_,_,h=>h
 |n::A,B,u,ha,h=>by
  have w:=h.2
  rw[ha n (by simp),Bool.or_false] at w
  exact Rt.skip (λm I=>ha m (by simp[I])) w
theorem Gy:∀(f:Fo){u:Bool}{Ls:List (List At)}{pt:Bool},ze Ls 1 pt f->(∀n∈mI Ls 1 f,n.k=3->1<n.d)->Rt u (mI Ls 1 f)->yE u f
 |.nil,u,_,_,_,_,h=>h
 |.lf k l v f,u,Ls,_,ok,h3,h=>by
  have N:k≠3:=λe=>by have:=h3 _ (List.mem_cons_self ..) e;exact absurd this (by show¬(1:Int)<((1:Nat):Int);omega)
  have w:=h.2
  have hi:I4 ⟨k,((1:Nat):Int),[],l,[],v,[]⟩=false:=by show(k==2&&_)=false;rw[beq_eq_false_iff_ne.2 (pz ok.1).1];rfl
  rw[hi,Bool.or_false] at w
  exact⟨N,Gy f ok.2.2 (λn I=>h3 n (List.mem_cons_of_mem _ I)) w⟩
 |.el nm al kd f,u,Ls,_,ok,h3,h=>by
  have hi:I4 (uj Ls nm al ((1:Nat):Int))=true:=rfl
  have w:=h.2
  rw[hi,Bool.or_true] at w
  exact⟨h.1 hi,Gy f ok.2.2.2.2.2 (λn I=>h3 n (List.mem_cons_of_mem _ (List.mem_append_right _ I))) (w.skip λn I=>by
   have:=rR kd n I
   unfold I4
   rw[beq_eq_false_iff_ne.2 (show n.d≠1 by omega),Bool.and_false])⟩
structure Eb(L:List Nd):Prop where
 w:Wk [] kL L
 r:Rt false L
 n:L.length<=31
theorem Wk.Xg{Ls:List (List At)}{p:Nd}{L:List Nd}(h:Wk Ls p L):∀n∈L,n.k=3->1<n.d:=by
 induction h with
 |nil=>intro n u;cases u
 |lf N O W Y Z w=>
  intro n u
  rcases List.mem_cons.1 u with rfl|u
  .intro I;have:=(Y I).1;show(1:Int)<((_:Nat):Int);omega
  .exact w n u
 |el N O hd W ha u Z w=>
  intro n u
  rcases List.mem_cons.1 u with rfl|u
  .intro I;exact absurd I (by show¬(2:Int)=3;decide)
  .exact w n u
theorem Eb.He{L:List Nd}(h:Eb L):∃f,L=mI [] 1 f/\ze [] 1 false f/\yE false f:=by
 have Y:∀x∈L.head?,x.d<=((1:Nat):Int):=λx N=>by
  have Z:=h.w
  cases Z with
  |nil=>cases N
  |lf u=>cases N;have:=u.2;show((_:Nat):Int)<=_;simp at this;omega
  |el u=>cases N;have:=u.2;show((_:Nat):Int)<=_;simp at this;omega
 obtain⟨f,L',ac,p',I,W,e3,-,-,O⟩:=Wk.He L.length (Nat.le_refl _) (Nat.le_refl 1) (by simp) Y h.w
 have:L'=[]:=by
  cases e3 with
  |nil=>rfl
  |lf u=>have:=O _ rfl;have:=u.1;have e:((_:Nat):Int)<((1:Nat):Int):=O _ rfl;omega
  |el u=>have:=u.1;have e:((_:Nat):Int)<((1:Nat):Int):=O _ rfl;omega
 subst this
 rw[List.append_nil] at I
 have I:L=mI [] 1 f:=I
 subst I
 exact⟨f,rfl,W.R0,Gy f W h.w.Xg h.r⟩
def Tx(u:By):Prop:=yD u/\∀x∈u,Lf x/\x≠13
theorem Tx.app{a b:By}(h:Tx a)(u:Tx b):Tx (a++b):=⟨h.1.app u.1,λx w=>(List.mem_append.1 w).elim (h.2 x) (u.2 x)⟩
theorem Tx.of{u:By}(h:∀x∈u,x.toNat<128/\Lf x/\x≠13):Tx u:=⟨.of λx w=>(h x w).1,λx w=>(h x w).2⟩
theorem Tx.cons{c:UInt8}{u:By}(w:c.toNat<128/\Lf c/\c≠13)(h:Tx u):Tx (c::u):=Tx.app (a:=[c]) (.of (by simpa using w)) h
theorem LZ{q:By×By}(h:q∈xV):Tx (qn q.1 q.2)/\(qn q.1 q.2).length<=3:=by
 have u:∀q∈xV,(∀x∈qn q.1 q.2,x.toNat<128/\Lf x/\x≠13)/\(qn q.1 q.2).length<=3:=by decide
 exact⟨.of (u _ h).1,(u _ h).2⟩
theorem EG:∀al:List (By×By×By),(∀q∈al,q∈qK)->Tx (nz al)/\(nz al).length<=30*al.length
 |[],_=>⟨.of (by simp[nz]),by simp[nz]⟩
 |q::al,h=>by
  have u:∀q∈qK,(∀x∈(32::(oY q++(61::34::(yB q++[34]))):By),x.toNat<128/\Lf x/\x≠13)/\(32::(oY q++(61::34::(yB q++[34]))):By).length<=30:=by decide
  have e:nz (q::al)=(32::(oY q++(61::34::(yB q++[34]))):By)++nz al:=by unfold nz;simp
  obtain⟨w,O⟩:=EG al λq I=>h q (by simp[I])
  obtain⟨N,W⟩:=u q (h q (by simp))
  rw[e]
  exact⟨(Tx.of N).app w,by have:(q::al).length=al.length+1:=rfl;rw[List.length_append];omega⟩
theorem Rk{k:Int}{l v:By}(h:(k,l,v)∈vO):Tx (uy k l v)/\(uy k l v).length<=30:=by
 have N:∀q∈vO,(uy q.1 q.2.1 q.2.2).length<=30/\(∀x∈uy q.1 q.2.1 q.2.2,Lf x/\x≠13)/\((∀x∈uy q.1 q.2.1 q.2.2,x.toNat<128)\/uy q.1 q.2.1 q.2.2=[195,169,93,93,38,103,116,59]):=by decide
 obtain⟨w,I,u⟩:=N _ h
 dsimp only at w I u
 refine⟨⟨?_,I⟩,w⟩
 rcases u with u|u
 .exact .of u
 .rw[u];exact .two (.of (by decide))
theorem vF:∀(f:Fo){Ls:List (List At)}{d:Nat}{pt:Bool},ze Ls d pt f->Tx (iV f)/\(iV f).length<=200*(mI Ls d f).length
 |.nil,_,_,_,_=>⟨.of (by simp[iV]),Nat.zero_le _⟩
 |.lf k l v f,Ls,d,pt,h=>by
  obtain⟨u,W⟩:=Rk h.1
  obtain⟨I,Y⟩:=vF f h.2.2
  rw[show iV (.lf k l v f)=uy k l v++iV f from rfl]
  refine⟨u.app I,?_⟩
  rw[List.length_append,show(mI Ls d (.lf k l v f)).length=(mI Ls d f).length+1 from rfl]
  omega
 |.el nm al kd f,Ls,d,pt,h=>by
  obtain⟨Z,N,-,-,hk,hf⟩:=h
  obtain⟨u,W⟩:=LZ Z
  obtain⟨a1,a2⟩:=EG al N.m
  obtain⟨k1,k2⟩:=vF kd hk
  obtain⟨I,Y⟩:=vF f hf
  have h6:=N.n.2.2
  have e:=vE nm al kd f []
  rw[List.append_nil,List.append_nil] at e
  have O:Tx (KJ nm kd)/\(KJ nm kd).length<=(iV kd).length+6:=by
   have w:Tx (vq nm)/\(vq nm).length<=6:=⟨(Tx.of (by decide)).app (u.app (.of (by decide))),by unfold vq;simp only[List.length_append,List.length_cons,List.length_nil];omega⟩
   cases kd with
   |nil=>exact⟨.of (by simp[KJ]),by simp[KJ]⟩
   |_=>exact⟨k1.app w.1,by show(iV _++vq nm).length<=_;rw[List.length_append];omega⟩
  have eS:Tx (GH nm al (KK kd))/\(GH nm al (KK kd)).length<=190:=by
   have w:∀e,Tx (C8 e)/\(C8 e).length<=2:=λe=>by cases e<;>exact⟨.of (by decide),by decide⟩
   refine⟨.cons (by decide) (u.app (a1.app (w _).1)),?_⟩
   have:=(w (KK kd)).2
   unfold GH
   simp only[List.length_append,List.length_cons]
   omega
  rw[e]
  refine⟨eS.1.app (O.1.app I),?_⟩
  have en:(mI Ls d (.el nm al kd f)).length=(mI (Ls++[mS (al.map jv)]) (d+1) kd).length+(mI Ls d f).length+1:=by
   show(_::(_++_):List Nd).length=_
   rw[List.length_cons,List.length_append]
  rw[en]
  simp only[List.length_append]
  have:=eS.2
  have:=O.2
  omega
theorem Ql(Y I N O h:Bool){f:Fo}(W:ze [] 1 false f)(w:yE false f)(hn:(mI [] 1 f).length<=31):
 ∃u,u=sX I++(xO N++(FV O++iV f))/\Tx u/\(lR Y++(u++pA h)).length<=100000/\(∃x r,u=x::r/\x≠239)/\(u++qX h).length<=100000:=by
 obtain⟨h1,h2⟩:=vF f W
 have Z:∀b,Tx (sX b)/\(sX b).length<=60:=λb=>by cases b<;>exact⟨.of (by decide),by decide⟩
 have c2:∀b,Tx (xO b)/\(xO b).length<=60:=λb=>by cases b<;>exact⟨.of (by decide),by decide⟩
 have c3:∀b,Tx (FV b)/\(FV b).length<=60:=λb=>by cases b<;>exact⟨.of (by decide),by decide⟩
 have c4:∀b,(lR b).length<=60:=λb=>by cases b<;>decide
 have c5:∀b,(pA b).length<=60/\(qX b).length<=60:=λb=>by cases b<;>decide
 have:=(Z I).2;have:=(c2 N).2;have:=(c3 O).2;have:=c4 Y;have:=c5 h
 refine⟨_,rfl,(Z I).1.app ((c2 N).1.app ((c3 O).1.app h1)),by simp only[List.length_append];omega,?_,by simp only[List.length_append];omega⟩
 obtain⟨⟨t,ht⟩,-⟩:=wH W w (by rintro rfl;cases w) []
 rw[List.append_nil] at ht
 rw[ht]
 cases I with
 |true=>exact⟨_,_,rfl,by decide⟩
 |false=>cases N with
  |true=>exact⟨_,_,rfl,by decide⟩
  |false=>cases O with
   |true=>exact⟨_,_,rfl,by decide⟩
   |false=>exact⟨_,_,rfl,by decide⟩
def HG(L:List Nd)(Ls:List (List At))(i:Nat):Prop:=(i=0/\Ls=[])\/∃p,1<=i/\(kL::L)[i-1]?=some p/\Wk Ls p (L.drop (i-1))/\Ls.length<=30/\p.d<=31
structure Nx(a b:Nd):Prop where
 lo:1<=b.d/\b.d<=31/\a.d<=31
 up:b.d<=a.d+1/\(a.d<b.d->a.k=1\/a.k=2)
 k:b.k≠1
 t:b.k=3->1<b.d/\¬(a.k=3/\a.d=b.d)
inductive Nk (L:List Nd) (Ls:List (List At)) (i:Nat) (n:Nd):Prop where
 |doc (hi:i=0) (hn:n=kL) (hL:Ls=[]) (hs:HG L [] 1)
 |lf {k:Int} {l v:By} {d:Nat} (hn:n=⟨k,d,[],l,[],v,[]⟩) (hm:(k,l,v)∈vO) (h1:1<=d/\d<=Ls.length+1) (hs:HG L (Ls.take (d-1)) (i+1))
 |el {nm:By×By} {al:List (By×By×By)} {d:Nat} (hn:n=uj (Ls.take (d-1)) nm al d) (h1:1<=d/\d<=Ls.length+1) (hm:nm∈xV) (ha:zf al) (ho:wg (Ls.take (d-1)++[mS (al.map jv)]) nm.1 (al.map jv)) (hs:HG L (Ls.take (d-1)++[mS (al.map jv)]) (i+1))
theorem tQ{L:List Nd}(hw:Wk [] kL L){Ls:List (List At)}{i:Nat}{n:Nd}(h:HG L Ls i)(w:(kL::L)[i]?=some n):Nk L Ls i n/\(1<=i->∃a,(kL::L)[i-1]?=some a/\Nx a n):=by
 rcases h with⟨rfl,rfl⟩|⟨p,h1,hp,u,ai,I⟩
 .cases w
  exact⟨.doc rfl rfl rfl (.inr ⟨kL,Nat.le_refl 1,rfl,hw,Nat.zero_le _,by decide⟩),λh=>by omega⟩
 .obtain⟨j,rfl⟩:∃j,i=j+1:=⟨i-1,by omega⟩
  simp only[Nat.add_sub_cancel,List.getElem?_cons_succ] at w hp u⊢
  obtain⟨hj,w⟩:=List.getElem?_eq_some_iff.1 w
  have hd:L.drop j=n::L.drop (j+1):=by rw[List.drop_eq_getElem_cons hj,w]
  have Z:∀m:Nd,m=n->(kL::L)[j+1+1-1]?=some m:=λm e=>by rw[Nat.add_sub_cancel,List.getElem?_cons_succ,List.getElem?_eq_getElem hj,w,e]
  rw[hd] at u
  cases u with
  |@lf _ _ k l v d r N O W ht u=>
   have e:L.drop (j+1)=L.drop (j+1+1-1):=rfl
   refine⟨.lf rfl W N (.inr ⟨_,by omega,Z _ rfl,u,by rw[List.length_take];omega,by show((d:Nat):Int)<=31;omega⟩),λ_=>⟨p,hp,⟨⟨by show(1:Int)<=(d:Int);omega,by show(d:Int)<=31;omega,I⟩,O,(pz W).2,λY=>⟨by have:=(ht Y).1;show(1:Int)<(d:Int);omega,(ht Y).2⟩⟩⟩⟩
  |@el _ _ nm al d r N O af W ha ho u=>
   refine⟨.el rfl N W ha ho (.inr ⟨_,by omega,Z _ rfl,u,by rw[List.length_append,List.length_take,List.length_singleton];omega,by show((d:Nat):Int)<=31;omega⟩),λ_=>⟨p,hp,⟨⟨by show(1:Int)<=(d:Int);omega,by show(d:Int)<=31;omega,I⟩,O,by show¬(2:Int)=1;decide,λY=>by cases Y⟩⟩⟩
end Go.Ex
namespace Go.Proofs.fv
open Go.Ex Go.X
structure D5(H:dw)(p:dC)(l c:Nat)(t:List TN):Prop where
 s:jK 7 H eC (rN t) p l c
 a:∀y∈t,eY H y.q (gk y.n.gh)/\Bv y/\∀k,eB y.q k->k<Array.size H
section
variable {H H':dw} {p:dC} {l c:Nat} {t:List TN}
theorem D5.len(h:D5 H p l c t):t.length=l:=qQ h.s
theorem D5.fC(h:D5 H p l c t)(f:Fr fa H H'):D5 H' p l c t:=⟨h.s.fC f,λy u=>⟨(h.a y u).1.fC f,(h.a y u).2.1,λk w=>Nat.lt_of_lt_of_le ((h.a y u).2.2 k w) f.size⟩⟩
theorem D5.at(h:D5 H p l c t){i:Nat}{y:TN}(u:t[i]?=some y):∃a,p=some a/\∀j,j<7->dL H ((a.add (i*7)).add j)=(wj y)[j]?:=by
 obtain⟨W,w⟩:=jK.at (L:=t.map wj) (wL t) h.s (by decide)
 obtain⟨hi,u⟩:=List.getElem?_eq_some_iff.1 u
 obtain⟨a,I,N⟩:=w i (by rw[List.length_map];exact hi)
 exact⟨a,I,λj O=>by rw[N j O,List.getElem_map,u]⟩
theorem D5.ld(h:D5 H p l c t){i:Nat}{y:TN}(w:t[i]?=some y){K:Int->Int->dE->dE->dE->dE->dC->Nat->Nat->Prop}(I:K y.n.k y.n.d (eJ y.n.p) (eJ y.n.l) (eJ y.n.u) (eJ y.n.v) y.q y.n.gh.length y.c):
 ∃x:dA,p=some x/\0<=(i:Int)/\(i:Int)<(l:Int)/\fx H (x.add ((i:Int).toNat*7)) K:=by
 obtain⟨a,N,O⟩:=h.at w
 have hi:=(List.getElem?_eq_some_iff.1 w).1
 have:=h.len
 exact⟨a,N,by omega,by omega,ja _ _ _ _ _ _ _ _ _ (λj W=>by rw[Int.toNat_natCast];exact O j W) I⟩
theorem oa(y:TN){K:dw->Prop}(h:∀H',js H' (Array.size H) y.n y.q y.c->Fr fa H H'->K H'):
 eG (eP H #[.int .i64 0,.int .i64 0,.string dM,.string dM,.string dM,.string dM,.slice none 0 0] eC) λw=>lj [.int .i64 y.n.k,.int .i64 y.n.d,.string (eJ y.n.p),.string (eJ y.n.l),.string (eJ y.n.u),.string (eJ y.n.v),.slice y.q y.n.gh.length y.c] ⟨Array.size H,0,none⟩ 0 w K:=
 eZ (mP (cs:=#[.int .i64 0,.int .i64 0,.string eS,.string eS,.string eS,.string eS,.slice none 0 0]) (t:=eC) (vs:=wj y) (Fr.refl fa _) rfl λH' b f _=>h H' b f)
theorem js.fC{b:Nat}{n:Nd}{q:dC}{c:Nat}(h:js H b n q c)(f:Fr fa H H'):js H' b n q c:=f.fi h λh=>h
theorem js.ld{b:Nat}{n:Nd}{q:dC}{c:Nat}(h:js H b n q c){K:Int->Int->dE->dE->dE->dE->dC->Nat->Nat->Prop}(w:K n.k n.d (eJ n.p) (eJ n.l) (eJ n.u) (eJ n.v) q n.gh.length c):fx H ⟨b,0,none⟩ K:=
 ja _ _ _ _ _ _ _ _ _ (λj I=>h.cell j) w
theorem J0(h:D5 H p l c t)(hl:l<=1000){i:Nat}{y:TN}(hy:t[i]?=some y)(h0:i=0->y.n=kL)(h1:1<=i->∃z,t[i-1]?=some z/\Nx z.n y.n){R:Bool->dw->Prop}(O:∀H',Fr fa H H'->R true H'):lU.C p l c (i:Int) H R:=by
 apply lU.calls
 unfold lU.W
 have ap:=(List.getElem?_eq_some_iff.1 hy).1
 have ai:=h.len
 refine h.ld hy (oa y λY Z f2=>?_)
 by_cases hi:i=0
 .have e:=h0 hi
  subst hi
  refine dD (λ_ _=>False) (dD (λs H'=>s=(true,())/\Y=H') (fD rfl ⟨rfl,rfl⟩) ?_) λ_ _ h=>h.elim
  rintro _ _ ⟨rfl,rfl⟩
  refine eN rfl (fD rfl ⟨_,Z.cell 0,fD (by rw[e];rfl) ⟨_,Z.cell 1,?_⟩⟩)
  rw[e]
  exact O Y f2
 .obtain⟨z,hz,nx⟩:=h1 (by omega)
  refine dD (λ_ H'=>Y=H') (dD (λs H'=>s=(false,())/\Y=H') (eI (by omega) ⟨_,Z.cell 0,?_,rfl⟩) ?_) ?_
  .rw[decide_eq_false nx.k]
  .rintro _ _ ⟨rfl,rfl⟩
   exact dH rfl rfl
  rintro _ _ rfl
  have ew:IntKind.i64.wrap ((i:Int)-1)=((i-1:Nat):Int):=by rw[mR (by omega) (by omega)];omega
  rw[ew]
  refine(h.fC f2).ld hz (oa z λH6 w f6=>?_)
  have u:=Z.fC f6
  have n1:=nx.lo
  have n2:=nx.up
  have n3:=nx.t
  refine dD (λ_ H'=>H6=H') (dD (λs H'=>s=(false,())/\H6=H') ⟨_,u.cell 1,eI (by omega) ⟨_,u.cell 1,eI (by omega) ⟨_,u.cell 1,_,w.cell 1,?_,rfl⟩⟩⟩ ?_) ?_
  .rw[mR (by omega) (by omega),decide_eq_false (by omega)]
  .rintro _ _ ⟨rfl,rfl⟩
   refine dH rfl (dD (λs H'=>s=(false,())/\H6=H') ⟨_,u.cell 1,_,w.cell 1,eE (λhd=>⟨_,w.cell 0,eE (λhk=>⟨_,w.cell 0,?_,rfl⟩) λ_=>⟨rfl,rfl⟩⟩) λ_=>⟨rfl,rfl⟩⟩ ?_)
   .have:=n2.2 hd
    rw[decide_eq_false (by omega)]
   .rintro _ _ ⟨rfl,rfl⟩
    exact dH rfl rfl
  rintro _ _ rfl
  have I:=f2.dF f6
  refine⟨_,u.cell 0,eE (λ_=>O _ I) λhk=>?_⟩
  have hk:y.n.k=3:=Decidable.of_not_not hk
  have n4:=n3 hk
  refine⟨_,u.cell 1,fD n4.1 ⟨_,w.cell 0,eE (λ_=>O _ I) λN=>⟨_,w.cell 1,_,u.cell 1,?_⟩⟩⟩
  have N:z.n.k=3:=Decidable.of_not_not N
  show R (decide (z.n.d≠y.n.d)) H6
  rw[decide_eq_true (p:=z.n.d≠y.n.d) (λe=>n4.2 ⟨N,e⟩)]
  exact O _ I
end
end Go.Proofs.fv
namespace Go.Ex
theorem Hs{H:dw}{p:dC}{xs ys:List dB}(h:eY H p (xs++ys)):eY H p xs:=by
 cases p with
 |none=>exact(List.append_eq_nil_iff.1 h).1
 |some a=>exactλj v u=>h j v (by rw[List.getElem?_append_left (List.getElem?_eq_some_iff.1 u).1];exact u)
def rA(a:At):At:={a with u:=[]}
theorem FF(L:List (List At))(al:List (By×By×By)):((al.map jv).map (ie L)).map rA=al.map jv:=by
 rw[List.map_map,List.map_map]
 exact List.map_congr_left λq _=>rfl
theorem I1(L:List (List At))(al:List (By×By×By)):((al.map jv).map (ie L)).map j4=(al.map jv).map j4:=by
 rw[List.map_map]
 exact List.map_congr_left λq _=>rfl
end Go.Ex
namespace Go.Proofs.fv
open Go.Ex Go.X
theorem Oy{H:dw}{q:dC}{c:Nat}{xs:List At}(h:eY H q (gk xs))(hl:xs.length<=1000){R:dC->Nat->Nat->dw->Prop}(Y:∀u c' H',jK 4 H' eF (gk xs) u xs.length c'->(∀k,eB u k->Array.size H<=k)->Fr fa H H'->R u xs.length c' H'):lh.C q xs.length c H R:=by
 apply lh.calls
 unfold lh.W
 cases q with
 |none=>
  have h:gk xs=[]:=h
  have e:xs=[]:=by cases xs with|nil=>rfl|cons a xs=>cases h
  subst e
  exact eN rfl (Y none 0 H (jK.nil _ _ _) (λk I=>absurd I (fm k)) (Fr.refl _ _))
 |some x=>
  refine dH rfl (dN λZ h1=>?_)
  have f1:Fr fa H Z:=h1▸Fr.new H _ _
  have s1:jK 4 Z eF [] (some ⟨Array.size H,0,none⟩) 0 0:=⟨rfl,.inr ⟨_,_,rfl,h1▸eU,rfl,Nat.le_refl 0,λi hi=>by omega⟩⟩
  have w:(gk xs).length=xs.length*4:=by unfold gk;rw[oN _ (zJ xs),List.length_map]
  have nb:∀k,eB (some ⟨Array.size H,0,none⟩) k->Array.size H<=k:=λk⟨a,ha,e⟩=>by cases ha;have e:Array.size H=k:=e;omega
  refine QF (new:=gk xs) (n:=xs.length) s1 rfl ⟨rfl,w,(h.fC f1)⟩ w (λv N=>by
   obtain⟨x,hx,N⟩:=List.mem_flatten.1 N
   obtain⟨a,_,rfl⟩:=List.mem_map.1 hx
   exact sU a v N) (by omega) (by decide) λu c' H' O f' ac=>?_
  rw[Nat.zero_add] at O⊢
  rw[List.nil_append] at O
  exact Y u c' H' O (λk I=>(ac k I).elim (nb k) λh=>Nat.le_trans f1.size h) (f1.fresh f' nb)
theorem Ov{H:dw}{q q':dC}{c c':Nat}{xs:List At}(h:eY H q (gk xs))(h':eY H q' (gk xs))(hl:xs.length<=1000){R:Bool->dw->Prop}(O:R true H):kZ.C q xs.length c q' xs.length c' H R:=by
 apply kZ.calls
 unfold kZ.W
 refine eI (λh=>h rfl) (dD (λ_ H'=>H=H') (eW (λt(s:Int×Unit) H'=>∃i:Nat,s.1=(i:Int)/\i<=xs.length/\t=xs.length-i/\H=H') xs.length ⟨0,rfl,by omega,rfl,rfl⟩ ?_) λ_ H' e=>e▸O)
 rintro t ⟨_,_⟩ _ ⟨i,rfl,hi,rfl,rfl⟩
 refine eE (λu=>?_) λ_=>rfl
 have u:i<xs.length:=by have u:(i:Int)<(xs.length:Int):=u;omega
 obtain⟨a,Y,I⟩:=kj h u
 obtain⟨Z,N,w⟩:=kj h' u
 refine⟨a,Y,by omega,by omega,_,I 0 (by decide),_,I 1 (by decide),_,I 2 (by decide),_,I 3 (by decide),Z,N,by omega,by omega,_,w 0 (by decide),_,w 1 (by decide),_,w 2 (by decide),_,w 3 (by decide),dH (by simp) ⟨_,by omega,i+1,qN i (by omega),by omega,rfl,rfl⟩⟩
theorem Ma{H:dw}(ht:gG H){g:Nat}{F:Nat->Prop}{L:List Lv}{sp:dC}{sc:Nat}(aD:zd H g F L sp sc)(hl:L.length<=1000)(h7:∀k,F k->7<k){nm:By×By}(a6:nm∈xV){al:List (By×By×By)}(ha:zf al)(a7:wg (L.map Lv.d++[mS (al.map jv)]) nm.1 (al.map jv)){d:Int}{n:Nd}(hn:n=uj (L.map Lv.d) nm al d){q:dC}{c:Nat}(hq:eY H q (gk n.gh))(b3:n.gh.length<=c)(aE:∀k,eB q k->k<Array.size H/\¬F k)
 {R:Bool->dw->Prop}(hR:∀F' N c' q' m H',zd H' g F' (L++[⟨mS (al.map jv),q',m⟩]) N c'->Gr F F' H H'->R true H'):kR.C n.k n.d (eJ n.p) (eJ n.l) (eJ n.u) (eJ n.v) q n.gh.length c (some ⟨g,0,none⟩) H R:=by
 obtain⟨n1,n2,n6⟩:=ha.n
 have O:n.gh=(al.map jv).map (ie (L.map Lv.d++[mS (al.map jv)])):=by rw[hn];rfl
 have aS:n.gh.length<=6:=by rw[O,List.length_map,List.length_map];exact n6
 have aT:n.gh.map rA=al.map jv:=by rw[O];exact FF _ _
 have aU:(n.gh.map j4).Nodup:=by rw[O,I1];exact n2
 have a9:∀a∈n.gh,(a.p,a.l,a.v)∈qK:=λa h=>by
  rw[O] at h
  obtain⟨b,hb,rfl⟩:=List.mem_map.1 h
  exact(Cz ha.m b hb).2
 have hv:n.v=[]:=by rw[hn];rfl
 have ba:(n.p,n.l)=nm:=by rw[hn];rfl
 apply kR.calls
 unfold kR.W
 refine dN λH1 h1=>?_
 have f1:Fr fa H H1:=h1▸Fr.new H _ _
 have b1:js H1 (Array.size H) n q c:=h1▸eU
 have z1:=eR b1
 have zt:=jP ht
 refine dD (λs H'=>s=(true,())/\Fr fa H1 H') ⟨_,b1.cell 2,_,b1.cell 3,Ch (q:=(n.p,n.l)) (eH ht f1) (by rw[ba];exact List.mem_append_left _ a6) λH3 f3=>eN rfl ⟨_,(b1.fC f3).cell 5,?_,f3⟩⟩ ?_
 .rw[hv];rfl
 rintro _ H2 ⟨rfl,f2⟩
 have b2:=b1.fC f2
 have aF:=f1.dF f2
 have z2:=f2.size
 refine b2.ld (oa ⟨n,q,c⟩ λH5 b5 f5=>⟨_,_,_,(b2.fC f5).cell 6,Oy (hq.fC (aF.dF f5)) (by omega) λN c' H6 s6 aG f6=>?_⟩)
 have b6:js H6 (Array.size H2) n q c:=b5.fC f6
 have z5:Array.size H2<Array.size H5:=eR b5
 have z6:=f6.size
 refine hP (o:=6) b6 (by simp[oe]) λH7 b7 f7=>?_
 have b7:js H7 (Array.size H2) n N c':=by rw[js,b7];simp[oe]
 have s7:=s6.eO f7 λk w e=>by have:=aG k w;omega
 have aH:Fr fa H2 H7:=(f5.dF f6).fresh f7 λi hi=>by omega
 have aI:=aF.dF aH
 have z7:=f7.size
 have ap:js H7 (Array.size H) n q c:=b2.fC aH
 have I:∀k,eB N k->Array.size H5<=k/\k<Array.size H7:=λk w=>⟨aG k w,s7.gE w⟩
 refine dD (λs H'=>s=(true,())/\jK 4 H' eF (gk (al.map jv)) N n.gh.length c'/\Fr (eB N) H7 H') ⟨_,_,_,ap.cell 6,eW (λm s H'=>∃i:Nat,s=(true,(i:Int),())/\i<=n.gh.length/\m=n.gh.length-i/\jK 4 H' eF (gk (oC rA i n.gh)) N n.gh.length c'/\Fr (eB N) H7 H') n.gh.length ⟨0,rfl,by omega,rfl,s7,Fr.refl _ _⟩ ?_⟩ ?_
 .rintro m _ Y ⟨i,rfl,hi,rfl,s9,f9⟩
  dsimp only
  refine eE (λZ=>?_) λb4=>?_
  rotate_left
  .have:i=n.gh.length:=by omega
   rw[this,wA,aT] at s9
   exact⟨rfl,s9,f9⟩
  have Z:i<n.gh.length:=by omega
  have ae:Fr fa H Y:=aI.fresh f9 λk w=>by have:=I k w;omega
  have q9:=hq.fC ae
  obtain⟨a,bf,bg⟩:=kj q9 Z
  have hx:=uz (f:=rA) Z
  have bh:(oC rA i n.gh).length=n.gh.length:=sv
  have hm:=a9 _ (List.getElem_mem Z)
  have z9:=f9.size
  have ai:js Y (Array.size H) n q c:=f9.fi ap λw=>by have:=I _ w;omega
  have bi:js Y (Array.size H2) n N c':=f9.fi b7 λw=>by have:=I _ w;omega
  have aA:=rL (f:=rA) Z
  have bj:∀m∈n.gh.take i,j4 n.gh[i]≠j4 m:=λm hm e=>by
   have bk:n.gh.take (i+1)=n.gh.take i++[n.gh[i]]:=by rw[List.take_add_one];simp[Z]
   have a0:(n.gh.take i++[n.gh[i]]).map j4=(n.gh.map j4).take (i+1):=by rw[<-bk,List.map_take]
   have:=(List.take_sublist (i+1) (n.gh.map j4)).nodup aU
   rw[<-a0,List.map_append,List.nodup_append] at this
   exact this.2.2 _ (List.mem_map_of_mem hm) _ (by simp) e.symm
  generalize n.gh[i]=x at*
  refine dD (λs H'=>s=(true,())/\jK 4 H' eF (gk (oC rA (i+1) n.gh)) N n.gh.length c'/\Fr (eB N) H7 H') ⟨a,bf,by omega,by omega,rf.ld (a:=x) (by rw[Int.toNat_natCast];exact bg) (sT x λca bm aq=>⟨_,_,_,(bi.fC aq).cell 6,?_⟩)⟩ ?_
  .refine v7 (s9.fC aq) bh hx [] λaf aJ aK=>?_
   have aj:rf af (Array.size Y) x:=aK.fi bm λw=>by have:=s9.gE w;omega
   have ab:Fr (eB N) Y af:=(aq.mono λ_ h=>h.elim).trans aK λk w=>.inl w
   have aL:gG af:=fM (eH ht ae) ab λj hj w=>by have:=I _ w;omega
   have a3:js af (Array.size H) n q c:=ab.fi ai λw=>by have:=I _ w;omega
   have bn:=q9.eO ab λk w ar=>by have:=(aE k w).1;have:=I k ar;omega
   have bo:(oC rA i n.gh).set i {x with u:=[]}=oC rA (i+1) n.gh:=aA.symm
   rw[bo] at aJ
   refine dD (λs H'=>s=(true,())/\Fr fa af H') (eN rfl ⟨_,aj.at 0,_,aj.at 1,Ch (q:=(x.p,x.l)) aL (zL (q:=(x.p,x.l,x.v)) hm) λcb au=>eN rfl ⟨_,rf.at (au.fi aj λh=>h) 3,KO (q:=(x.p,x.l,x.v)) (eH aL au) hm λcc bp=>⟨rfl,au.dF bp⟩⟩⟩) ?_
   rintro _ bq ⟨rfl,ag⟩
   refine eN rfl ⟨_,_,_,(a3.fC ag).cell 6,by omega,by omega,?_⟩
   have ec:(if c=0 then q else Option.map (λq:dA=>q.add (0*4)) q)=q:=Qp c q
   rw[ec,Int.toNat_natCast]
   have br:(n.gh.take i).length=i:=by rw[List.length_take];omega
   have bu:eY bq q (gk (n.gh.take i)):=by
    have aM:=bn.fC ag
    have e:gk n.gh=gk (n.gh.take i)++gk (n.gh.drop i):=by unfold gk;rw[<-List.flatten_append,<-List.map_append,List.take_append_drop]
    rw[e] at aM
    exact Hs aM
   have:=RN (c:=c-0) bu (by omega) (cl:=.func (.func 130) #[] #[.pointer (some ⟨Array.size Y,0,none⟩)]) (λm hm H' f' K hK=>KW (cap:=[.pointer (some ⟨Array.size Y,0,none⟩)]) (Q1 (f'.fi (ag.fi aj λh=>h) λh=>h) (bj m hm) λbv bw=>hK bv bw)) (R:=λbx aO=>(λs H'=>s=(true,())/\jK 4 H' eF (gk (oC rA (i+1) n.gh)) N n.gh.length c'/\Fr (eB N) H7 H') ((!bx,()):Bool×Unit) aO) λaO aP=>⟨rfl,aJ.fC (ag.dF aP),(f9.trans ab λk w=>.inl w).trans ((ag.dF aP).mono λ_ h=>h.elim) λk w=>.inl w⟩
   rw[br] at this
   exact this
  .rintro _ cd ⟨rfl,bz,bA⟩
   exact⟨n.gh.length-(i+1),by omega,i+1,by show(_,_,_)=_;rw[qN i (by omega)],by omega,rfl,bz,bA⟩
 rintro _ H8 ⟨rfl,s8,f8⟩
 have ak:Fr fa H H8:=aI.fresh f8 λk w=>by have:=I k w;omega
 have z8:=f8.size
 have ce:=ak.size
 have av:(al.map jv).length=n.gh.length:=by rw[O,List.length_map (ie _)]
 have b8:js H8 (Array.size H2) {n with gh:=al.map jv} N c':=by
  have:=f8.fi b7 λw=>by have:=I _ w;omega
  rw[js,this]
  simp[oe,<-av]
 have bC:js H8 (Array.size H) n q c:=f8.fi ap λw=>by have:=I _ w;omega
 rw[<-av] at s8
 have lF:=aD.hl
 refine eN rfl (Br (eH ht ak) (aD.fC ak) (by omega) b8 s8 ⟨λhh=>by have:=lF _ hh;omega,λk w=>⟨λhh=>by have:=lF _ hh;have:=I k w;omega,by have:=I k w;omega,by have:=I k w;omega⟩,by omega,h7⟩ (Cz ha.m) n2 (by rw[av];exact aS) (by rw[show({n with gh:=al.map jv}:Nd).p=nm.1 by rw[hn];rfl];exact a7) λF' p2 c2 q2 m Y bD b9 s9 f9 bF=>fD rfl ?_)
 have bG:∀k,(F k\/k=Array.size H2\/eB N k)->F k\/Array.size H<=k:=λk w=>by
  rcases w with h|h|h
  .exact .inl h
  .exact .inr (by omega)
  .exact .inr (by have:=I k h;omega)
 have ae:Fr F H Y:=(ak.mono λ_ h=>h.elim:Fr F H H8).trans f9 bG
 have ai:js Y (Array.size H) n q c:=f9.fi bC λw=>by
  rcases w with h|h|h
  .have:=lF _ h;omega
  .omega
  .have:=I _ h;omega
 have q9:=hq.eO ae λk w ar=>(aE k w).2 ar
 have eu:n.u=(kC n.p (L.map Lv.d++[mS (al.map jv)])).1:=by rw[hn];rfl
 refine⟨_,b9.cell 4,_,ai.cell 4,fD (by show eJ _=eJ _;rw[eu]) ⟨_,_,_,b9.cell 6,_,_,_,ai.cell 6,?_⟩⟩
 have e9:(al.map jv).map (ie (L.map Lv.d++[mS (al.map jv)]))=n.gh:=O.symm
 dsimp only at s9⊢
 rw[e9] at s9⊢
 exact Ov s9.cells q9 (by omega) (hR F' p2 c2 q2 m Y bD ⟨ae,λk w=>(bF k w).imp id λh=>by omega⟩)
end Go.Proofs.fv
namespace Go.Ex
theorem Sl.cut{H:dw}{t:eK}{xs:List dB}{p:dC}{l c:Nat}(h:Sl H t xs p (l+1) c):Sl H t (xs.take l) p l c:=by
 have Z:=h.1
 refine⟨by rw[List.length_take];omega,?_⟩
 rcases h.2 with⟨_,W,_⟩|⟨b,cs,I,O,u,Y,w⟩
 .omega
 .exact .inr ⟨b,cs,I,O,u,by omega,λi hi=>by rw[w i (by omega),List.getElem?_take_of_lt hi]⟩
def Rs(m:Nat):List dB:=(List.range m).map λi:Nat=>.int .i64 ((i:Int)+1)
theorem Dm(m:Nat):(Rs m).length=m:=by simp[Rs]
theorem AE(m:Nat):Rs (m+1)=Rs m++[.int .i64 ((m:Int)+1)]:=by simp[Rs,List.range_succ]
theorem MP(m:Nat):(Rs (m+1)).take m=Rs m:=by rw[AE,List.take_left' (Dm m)]
end Go.Ex
namespace Go.Proofs.fv
open Go.Ex Go.X
structure MI(H:dw)(g N:Nat)(L:List Lv)(op:dC)(ol oc:Nat)(G:Nat->Prop)(sp:dC)(sc:Nat)(H':dw):Prop where
 o:Sl H' gP (Rs L.length) op ol oc
 s:zd H' g G L sp sc
 g:∀k,G k->Array.size H<=k/\k<N/\¬eB op k
 n:∀k,eB op k->Array.size H<=k/\k<N
 f:Fr fa H H'
section
variable {H H' Bw:dw} {g N N':Nat} {L:List Lv} {op:dC} {Vd oc:Nat} {G:Nat->Prop} {sp:dC} {sc:Nat}
theorem MI.fC(h:MI H g N L op Vd oc G sp sc H')(f:Fr fa H' Bw):MI H g N L op Vd oc G sp sc Bw:=⟨h.o.eO f λ_ _ h=>h,h.s.fC f,h.g,h.n,h.f.dF f⟩
theorem MI.mono(h:MI H g N L op Vd oc G sp sc H')(w:Array.size H'<=N'):MI H g N' L op Vd oc G sp sc H':=⟨h.o,h.s,λk u=>⟨(h.g k u).1,Nat.lt_of_lt_of_le (h.s.hl k u) w,(h.g k u).2.2⟩,λk u=>⟨(h.n k u).1,Nat.lt_of_lt_of_le (h.o.gE u) w⟩,h.f⟩
theorem MI.nb(h:MI H g N L op Vd oc G sp sc H'):¬G N/\¬eB op N:=⟨λu=>by have:=(h.g _ u).2.1;omega,λu=>by have:=(h.n _ u).2;omega⟩
end
theorem QL{H:dw}(ht:gG H){p:dC}{l c:Nat}{t:List TN}(h:D5 H p l c t){Z:List Nd}(hT:t.map TN.n=kL::Z)(hD:Eb Z){R:Bool->dw->Prop}(hR:∀H',Fr fa H H'->R true H'):o9.C p l c H R:=by
 apply o9.calls
 unfold o9.W
 have bI:=h.len
 have bJ:t.length<=32/\1<=t.length:=by have:=congrArg List.length hT;have:=hD.n;simp only[List.length_map,List.length_cons] at*;omega
 have zt:=jP ht
 have aC:∀{i:Nat}{y:TN},t[i]?=some y->(kL::Z)[i]?=some y.n:=λ{i y} hy=>by rw[<-hT,List.getElem?_map,hy];rfl
 have be:∀{i:Nat}{n:Nd},(kL::Z)[i]?=some n->∃y,t[i]?=some y/\y.n=n:=λ{i n} O=>by
  rw[<-hT,List.getElem?_map] at O
  cases hy:t[i]? with
  |none=>rw[hy] at O;cases O
  |some y=>rw[hy] at O;cases O;exact⟨y,rfl,rfl⟩
 refine dD (λ_ H'=>H=H') (dD (λs H'=>s=(false,())/\H=H') (eI (by omega) ⟨?_,rfl⟩) ?_) ?_
 .rw[decide_eq_false (by omega)]
 .rintro _ _ ⟨rfl,rfl⟩
  exact dH rfl rfl
 rintro _ _ rfl
 refine Bp λH3 s3 f3=>?_
 generalize hg:Array.size H=g at s3
 refine dD (λs H'=>s=(1,())/\Fr fa H H') (eW (λm s H'=>∃(i:Nat)(L:List Lv)(op:dC)(oc:Nat)(G:Nat->Prop)(sp:dC)(sc:Nat)(rt:Bool),i<=t.length/\m=t.length-i/\s=((bif rt then 1 else 0:Int),(op,L.length,oc),(i:Int),())/\MI H g (Array.size H') L op L.length oc G sp sc H'/\HG Z (L.map Lv.d) i/\Rt rt ((kL::Z).drop i)) t.length
  ⟨0,[],none,0,λk=>k=g,none,0,false,by omega,rfl,rfl,⟨Sl.nil _ _,s3,λk I=>⟨by have I:k=g:=I;omega,s3.hl k I,fm k⟩,λk I=>absurd I (fm k),f3⟩,.inl ⟨rfl,rfl⟩,⟨λe=>(by cases e),hD.r⟩⟩ ?_) ?_
 .rintro m _ H5 ⟨i,L,op,oc,G,sp,sc,rt,hi,rfl,rfl,u,aT,ai⟩
  dsimp only
  refine eE (λaU=>?_) λbf=>?_
  rotate_left
  .have bf:i=t.length:=by omega
   rw[List.drop_eq_nil_of_le (by rw[<-hT,List.length_map];omega)] at ai
   have ai:rt=true:=ai
   subst ai
   exact⟨rfl,u.f⟩
  have aU:i<t.length:=by omega
  obtain⟨y,hy⟩:∃y,t[i]?=some y:=⟨_,List.getElem?_eq_getElem aU⟩
  obtain⟨I,bg⟩:=tQ hD.w aT (aC hy)
  have h5:=h.fC u.f
  have z5:=u.f.size
  have a8:(kL::Z).drop i=y.n::(kL::Z).drop (i+1):=by
   obtain⟨h1,h2⟩:=List.getElem?_eq_some_iff.1 (aC hy)
   rw[List.drop_eq_getElem_cons h1,h2]
  rw[a8] at ai
  obtain⟨bi,aj⟩:=ai
  obtain⟨Y,ad,bU⟩:∃Y:Nat,y.n.d=(Y:Int)/\Y<=L.length+1:=by
   cases I with
   |doc hi O hL hs=>exact⟨0,by rw[O];rfl,by omega⟩
   |lf O hm h1 hs=>exact⟨_,by rw[O],by rw[List.length_map] at h1;omega⟩
   |el O h1 hm ha ho hs=>exact⟨_,by rw[O];rfl,by rw[List.length_map] at h1;omega⟩
  have bL:L.length<=30:=by
   rcases aT with⟨_,h⟩|⟨_,_,_,_,h,_⟩
   .rw[List.map_eq_nil_iff.1 h];exact Nat.zero_le _
   .rw[List.length_map] at h;exact h
  refine dD (λs H'=>∃(L':List Lv)(op:dC)(oc:Nat)(G:Nat->Prop)(sp:dC)(sc:Nat)(ag:Bool),s=((bif ag then 1 else 0:Int),(op,L'.length,oc),())/\MI H g (Array.size H') L' op L'.length oc G sp sc H'/\HG Z (L'.map Lv.d) (i+1)/\Rt ag ((kL::Z).drop (i+1))) (h5.ld hy (oa y λH8 b8 f8=>?_)) ?_
  rotate_left
  .rintro _ H6 ⟨L',op,oc,G,sp,sc,ag,rfl,bm,bn,bo⟩
   exact⟨t.length-(i+1),by omega,i+1,L',op,oc,G,sp,sc,ag,by omega,rfl,by show(_,_,_,_)=_;rw[qN i (by omega)],bm,bn,bo⟩
  refine J0 ((h5.fC f8)) (by omega) hy (λe=>?_) (λe=>?_) λH9 f9=>dH rfl ?_
  .have:=aC hy;rw[e] at this;exact(Option.some.inj this).symm
  .obtain⟨a,ha,hx⟩:=bg e
   obtain⟨z,hz,rfl⟩:=be ha
   exact⟨z,hz,hx⟩
  have b9:=b8.fC f9
  have l9:Array.size H5<Array.size H9:=eR b9
  have br:=f8.dF f9
  have bu:=u.fC br
  refine dD (λs H'=>∃(op:dC)(oc:Nat)(G:Nat->Prop)(sp:dC)(sc:Nat),s=((op,(L.take (Y-1)).length,oc),())/\MI H g (Array.size H5) (L.take (Y-1)) op (L.take (Y-1)).length oc G sp sc H'/\js H' (Array.size H5) y.n y.q y.c) ?_ ?_
  .refine eW (λm s H'=>∃(op:dC)(oc:Nat)(G:Nat->Prop)(sp:dC)(sc:Nat),s=((op,m,oc),())/\m<=L.length/\Y-1<=m/\MI H g (Array.size H5) (L.take m) op m oc G sp sc H'/\js H' (Array.size H5) y.n y.q y.c) L.length ⟨op,oc,G,sp,sc,rfl,Nat.le_refl _,by omega,by rw[List.take_length];exact bu,b9⟩ ?_
   rintro m _ aD ⟨op,oc,G,sp,sc,rfl,bV,bW,u,aE⟩
   dsimp only
   have aF:(L.take m).length=m:=by rw[List.length_take];omega
   have aV:m=Y-1->∃(ap:dC)(aq:Nat)(G:Nat->Prop)(sp:dC)(sc:Nat),(((op,m,oc),()):(dC×Nat×Nat)×Unit)=((ap,(L.take (Y-1)).length,aq),())/\MI H g (Array.size H5) (L.take (Y-1)) ap (L.take (Y-1)).length aq G sp sc aD/\js aD (Array.size H5) y.n y.q y.c:=λe=>by
    subst e
    rw[aF]
    exact⟨op,oc,G,sp,sc,rfl,u,aE⟩
   refine dD (λ_ H'=>aD=H'/\Y<=m/\0<m) (eE (λh0=>?_) λh0=>aV (by omega)) ?_
   .have h0:0<m:=by omega
    obtain⟨k,rfl⟩:∃k,m=k+1:=⟨m-1,by omega⟩
    have ew:IntKind.i64.wrap (((k+1:Nat):Int)-1)=(k:Int):=by rw[mR (by omega) (by omega)];omega
    have ho:=u.o
    rw[aF] at ho
    obtain⟨a,ha,hc⟩:=ho.rd.get (i:=k) (v:=.int .i64 ((k:Int)+1)) (by rw[AE,List.getElem?_append_right (by rw[Dm];exact Nat.le_refl k),Dm,Nat.sub_self];rfl)
    rw[ew]
    refine⟨a,ha,by omega,by omega,_,hc,_,aE.cell 1,eE (λhd=>⟨rfl,by rw[ad] at hd;omega,h0⟩) λhd=>aV (by rw[ad] at hd;omega)⟩
   .rintro _ _ ⟨rfl,bX,h0⟩
    obtain⟨k,rfl⟩:∃k,m=k+1:=⟨m-1,by omega⟩
    have ew:IntKind.i64.wrap (((k+1:Nat):Int)-1)=(k:Int):=by rw[mR (by omega) (by omega)];omega
    have bQ:=u.o.cap
    rw[ew]
    refine⟨by omega,by omega,?_⟩
    have aW:=u.s
    have bv:L.take (k+1)=L.take k++[L[k]]:=by rw[List.take_add_one];simp[show k<L.length by omega]
    rw[bv] at aW
    refine HI aW (by rw[List.length_take];omega) λbY bw aH=>⟨k,by omega,op,oc,G,sp,sc,?_,by omega,by omega,⟨?_,bw,u.g,u.n,u.f.fresh aH λq hq=>by subst hq;exact(u.g _ u.s.hf).1⟩,aH.fi aE λe=>by have:=(u.g _ u.s.hf).2.1;omega⟩
    .rw[Qp];simp
    .have ho:=u.o
     rw[aF] at ho
     have:=ho.cut.eO aH λq hq e=>(u.g q (e▸u.s.hf)).2.2 hq
     rw[MP] at this
     rw[List.length_take,Nat.min_eq_left (by omega)]
     exact this
  rintro _ bx ⟨op,oc,G,sp,sc,rfl,u,ar⟩
  dsimp only
  have aX:(L.take (Y-1)).map Lv.d=(L.map Lv.d).take (Y-1):=List.map_take
  have bZ:(L.take (Y-1)).length<=30:=by rw[List.length_take];omega
  refine⟨_,ar.cell 0,?_⟩
  have done:I4 y.n=false->HG Z ((L.take (Y-1)).map Lv.d) (i+1)->∀ab,Fr fa bx ab->∃(L':List Lv)(ap:dC)(aq:Nat)(G:Nat->Prop)(sp:dC)(sc:Nat)(ag:Bool),(((bif rt then 1 else 0:Int),(op,(L.take (Y-1)).length,oc),()):Int×(dC×Nat×Nat)×Unit)=((bif ag then 1 else 0:Int),(ap,L'.length,aq),())/\MI H g (Array.size ab) L' ap L'.length aq G sp sc ab/\HG Z (L'.map Lv.d) (i+1)/\Rt ag ((kL::Z).drop (i+1)):=λbz hs ab au=>
   ⟨L.take (Y-1),op,oc,G,sp,sc,rt,rfl,(u.fC au).mono (Nat.le_refl _),hs,by rw[bz,Bool.or_false] at aj;exact aj⟩
  have aI:=eH ht u.f
  cases I with
  |doc bA O hL hs=>
   obtain⟨hq,hc⟩:=(h.a y (List.mem_of_getElem? hy)).2.1.2 (by rw[O];decide)
   refine fD (by rw[O];decide) (ar.ld ?_)
   have bB:L=[]:=List.map_eq_nil_iff.1 hL
   have d:=done (by rw[O];rfl) (by rw[bA,bB,List.take_nil];exact hs)
   rw[O,hq,hc]
   exact K1 aI λab au=>dH rfl (d ab au)
  |@lf k lo v dd O hm h1 hs=>
   obtain⟨hq,hc⟩:=(h.a y (List.mem_of_getElem? hy)).2.1.2 (by rw[O];exact(pz hm).1)
   refine fD (by rw[O];exact(pz hm).1) (ar.ld ?_)
   have e:dd=Y:=by rw[O] at ad;exact Int.ofNat.inj ad
   subst e
   have d:=done (by rw[O];show(k==2&&_)=false;rw[beq_eq_false_iff_ne.2 (pz hm).1];rfl) (by rw[aX];exact hs)
   rw[O,hq,hc]
   exact K0 (q:=(k,lo,v)) aI hm _ λab au=>dH rfl (d ab au)
  |@el nm al dd O h1 hm ha ho hs=>
   have e:dd=Y:=by rw[O] at ad;exact Int.ofNat.inj ad
   subst e
   have aY:=h.a y (List.mem_of_getElem? hy)
   have bC:=h.fC u.f
   refine eI (by rw[O];exactλh=>h rfl) (ar.ld ?_)
   rw[<-aX] at O ho hs
   have aZ:∀k,eB y.q k->k<Array.size H:=aY.2.2
   refine Ma aI u.s (by omega) (λk I=>by have:=(u.g k I).1;omega) hm ha ho O (bC.a y (List.mem_of_getElem? hy)).1 aY.2.1.1 (λk I=>⟨Nat.lt_of_lt_of_le (aZ k I) u.f.size,λhh=>by have:=(u.g k hh).1;have:=aZ k I;omega⟩) λF' p' c' q' m bD a0 av=>dH rfl ?_
   have nb:=u.nb
   have a3:js bD (Array.size H5) y.n y.q y.c:=av.fr.fi ar nb.1
   have b0:=av.fr.size
   have b1:=u.f.size
   refine⟨_,a3.cell 1,Bk (u.o.eO av.fr λk I hG=>(u.g k hG).2.2 I) rfl ⟨by simp,by simp⟩ (by show((L.take (dd-1)).length+1)*8<=140737488355328;omega) (by decide) λp2 c2 az aK aL hp=>?_⟩
   have bG:js az (Array.size H5) y.n y.q y.c:=aL.fi a3 nb.2
   have d1:∀k,F' k->Array.size H<=k/\¬eB op k:=λk I=>by
    rcases av.up k I with hh|hh
    .exact⟨(u.g k hh).1,(u.g k hh).2.2⟩
    .exact⟨by omega,λhb=>by have:=u.o.gE hb;omega⟩
   have aO:zd az g F' (L.take (dd-1)++[⟨mS (al.map jv),q',m⟩]) p' c':=a0.eO aL λk I hb=>(d1 k I).2 hb
   have aP:(L.take (dd-1)++[⟨mS (al.map jv),q',m⟩]:List Lv).length=(L.take (dd-1)).length+1:=by simp
   have a4:MI H g (Array.size az) (L.take (dd-1)++[⟨mS (al.map jv),q',m⟩]) p2 (L.take (dd-1)++[⟨mS (al.map jv),q',m⟩]:List Lv).length c2 F' p' c' az:=by
    refine⟨?_,aO,λk I=>⟨(d1 k I).1,aO.hl k I,λhb=>?_⟩,λk I=>⟨?_,?_⟩,(u.f.fresh av.fr λk I=>(u.g k I).1).fresh aL λk I=>(u.n k I).1⟩
    .rw[aP,AE]
     rw[ad] at aK
     have BG:((L.take (dd-1)).length:Int)+1=(dd:Int):=by rw[List.length_take];rw[List.length_map] at h1;omega
     rw[BG];exact aK
    .rcases hp k hb with hh|hh
     .exact(d1 k I).2 hh
     .have:=a0.hl k I;omega
    .rcases hp k I with hh|hh
     .exact(u.n k hh).1
     .omega
    .exact aK.gE I
   have a5:HG Z ((L.take (dd-1)++[⟨mS (al.map jv),q',m⟩]:List Lv).map Lv.d) (i+1):=by rw[List.map_append];exact hs
   refine⟨_,bG.cell 1,eE (λhd=>eZ ?_) λhd=>?_⟩
   .have aA:I4 y.n=true:=by show(y.n.k==2&&y.n.d==1)=true;rw[hd,O];rfl
    have:=bi aA
    subst this
    rw[aA] at aj
    exact⟨_,p2,c2,F',p',c',true,by rw[aP];rfl,a4,a5,aj⟩
   .have aA:I4 y.n=false:=by show(y.n.k==2&&y.n.d==1)=false;rw[beq_eq_false_iff_ne.2 hd,Bool.and_false]
    rw[aA,Bool.or_false] at aj
    exact⟨_,p2,c2,F',p',c',rt,by rw[aP],a4,a5,aj⟩
 .rintro _ H4 ⟨rfl,f4⟩
  exact hR _ f4
end Go.Proofs.fv
namespace Go.Ex
def wk(s:By):By:=(48+UInt8.ofNat s.length)::58::s
def OF(a:At):By:=wk a.p++(wk a.l++wk a.v)
def pk(l:List At):By:=l.flatMap OF
def Uv(a:At):Prop:=a.p.length<10/\a.l.length<10/\a.v.length<10
theorem TU:∀q∈qK,q.1.length<10/\q.2.1.length<10/\q.2.2.length<10:=by decide
theorem IE{xs:List At}{i:Nat}(h:i<xs.length):pk (xs.take (i+1))=pk (xs.take i)++OF xs[i]:=by
 have u:xs.take (i+1)=xs.take i++[xs[i]]:=by rw[List.take_add_one];simp[h]
 unfold pk
 rw[u,List.flatMap_append,List.flatMap_singleton]
theorem Dk{xs:List At}(u:∀a∈xs,Uv a):∀i,(pk (xs.take i)).length<=40*i
 |0=>by simp[pk]
 |i+1=>by
  have I:=Dk u i
  rcases Nat.lt_or_ge i xs.length with h|w
  .obtain⟨O,W,Y⟩:=u _ (List.getElem_mem h)
   have:(OF xs[i]).length<=36:=by unfold OF wk;simp only[List.length_append,List.length_cons];omega
   rw[IE h,List.length_append]
   omega
  .rw[List.take_of_length_le (by omega)];rw[List.take_of_length_le w] at I;omega
end Go.Ex
namespace Go.Proofs.fv
open Go.Ex Go.X
def BB(N:Nat)(H:dw)(b:Nat)(bs:By):Prop:=∃q p l c,H[b]?=some (.cells #[.pointer q,.slice p l c] ic (0,0))/\(q=none\/q=some ⟨b,0,none⟩)/\Sl H lI (sn bs) p l c/\(p.isSome=true->c≠0)/\¬eB p b/\N<=b/\∀k,eB p k->N<=k
section
variable {N:Nat} {H H':dw} {b:Nat} {bs:By}
theorem BB.fC(h:BB N H b bs)(f:Fr fa H H'):BB N H' b bs:=by
 obtain⟨q,p,l,c,u,w,I,O⟩:=h
 exact⟨q,p,l,c,f.fi u λh=>h,w,I.eO f λ_ _ h=>h,O⟩
theorem BB.write(h:BB N H b bs)(hN:N<=Array.size H)(s:By)(h0:s≠[])(O:(bs++s).length<=1048576){R:Int->dB->dw->Prop}
 (hR:∀n v H',BB N H' b (bs++s)->Fr (λk=>N<=k) H H'->(∀k cs t,k≠b->t≠lI->H[k]?=some (.cells cs t (0,0))->H'[k]?=some (.cells cs t (0,0)))->R n v H'):ff.C (some ⟨b,0,none⟩) (eJ s) H R:=by
 obtain⟨q,p,l,c,W,h2,Y,h4,h5,Z,h7⟩:=h
 refine sd W (o:=0) Hu rfl h2 rfl Y h5 s (by omega) λn v p' l' c' H' b' w hp np f=>?_
 have ao:=eR W
 refine hR n v H' ⟨some ⟨b,0,none⟩,p',l',c',by rw[b'];simp,.inr rfl,w,λap=>?_,np,Z,λk u=>?_⟩ (f.mono λk u=>u.elim (λe=>e▸Z) (h7 k)) λk cs t u ht I=>f.fi I λhh=>hh.elim u λhb=>?_
 .have I:=w.cap
  have O:=w.1
  rw[pX,List.length_append] at O
  have:=List.length_pos_iff.2 h0
  omega
 .rcases hp k u with h|h
  .exact h7 k h
  .omega
 .exact Y.ne I (Ne.symm ht) hb
end
theorem Kh{H:dw}(ht:gG H){q:dC}{c:Nat}{xs:List At}(h:eY H q (gk xs))(hx:∀a∈xs,Uv a)(hl:xs.length<=6){R:dE->dw->Prop}(hR:∀H',Fr fa H H'->R (eJ (pk xs)) H'):jS.C q xs.length c H R:=by
 apply jS.calls
 unfold jS.W
 refine dN λH1 h1=>?_
 have f1:Fr fa H H1:=h1▸Fr.new H _ _
 have b1:BB (Array.size H) H1 (Array.size H) []:=⟨none,none,0,0,h1▸eU,.inl rfl,Sl.nil _ _,(λh=>by cases h),fm _,Nat.le_refl _,λk O=>absurd O (fm k)⟩
 generalize hN:Array.size H=N at b1
 have Z:=Dk hx
 refine dD (λ_ H'=>BB N H' N (pk xs)/\Fr fa H H') (eW (λm s H'=>∃i:Nat,s=((i:Int),())/\i<=xs.length/\m=xs.length-i/\BB N H' N (pk (xs.take i))/\Fr fa H H') xs.length ⟨0,rfl,by omega,rfl,b1,f1⟩ ?_) ?_
 .rintro m _ H3 ⟨i,rfl,hi,rfl,Y,f3⟩
  dsimp only
  refine eE (λu=>?_) λap=>⟨?_,f3⟩
  rotate_left
  .rw[show i=xs.length by omega,List.take_length] at Y;exact Y
  have u:i<xs.length:=by omega
  obtain⟨a,ha,hc⟩:=kj (h.fC f3) u
  have w:=hx _ (List.getElem_mem u)
  have aa:=Z i
  have aq:=IE u
  generalize xs[i]=x at*
  refine dD (λ_ H'=>BB N H' N (pk (xs.take (i+1)))/\Fr fa H H') ⟨a,ha,by omega,by omega,rf.ld (a:=x) (by rw[Int.toNat_natCast];exact hc) (sT x λI b6 f6=>⟨_,b6.at 0,_,b6.at 1,_,b6.at 3,dN λH7 h7=>?_⟩)⟩ ?_
  .have f7:Fr fa I H7:=h7▸Fr.new I _ _
   have ab:=f6.dF f7
   have c7:H7[Array.size I]?=some (.cells #[.string (eJ x.p),.string (eJ x.l),.string (eJ x.v)] fp (0,0)):=h7▸eU
   have z3:=f3.size
   have z6:=f6.size
   have aX:N<Array.size H3:=by obtain⟨_,_,_,_,hb,_⟩:=Y;exact eR hb
   have aw:Array.size I≠N:=by omega
   obtain⟨s1,s2,s3⟩:=w
   have one:∀j,j<3->∃s,([x.p,x.l,x.v]:List By)[j]?=some s/\s.length<10:=λj hj=>by
    rcases j with _|_|_|j
    .exact⟨_,rfl,s1⟩
    .exact⟨_,rfl,s2⟩
    .exact⟨_,rfl,s3⟩
    .omega
   have ax:∀j:Nat,((([x.p,x.l,x.v]:List By).take j).flatMap wk).length<=36:=λj=>by
    rcases j with _|_|_|_|j<;>simp[wk]<;>omega
   refine eW (λm s H'=>∃j:Nat,s=((j:Int),())/\j<=3/\m=3-j/\BB N H' N (pk (xs.take i)++(([x.p,x.l,x.v]:List By).take j).flatMap wk)/\H'[Array.size I]?=some (.cells #[.string (eJ x.p),.string (eJ x.l),.string (eJ x.v)] fp (0,0))/\Fr fa H H') 3 ⟨0,rfl,by omega,rfl,by simpa using Y.fC ab,c7,f3.dF ab⟩ ?_
   rintro m _ H8 ⟨j,rfl,hj,rfl,b8,c8,f8⟩
   dsimp only
   refine eE (λu=>?_) λap=>⟨?_,f8⟩
   rotate_left
   .rw[show j=3 by omega] at b8
    rw[aq]
    simpa[OF] using b8
   have u:j<3:=by have u:(j:Int)<((3:Nat):Int):=u;omega
   obtain⟨s,w,ai⟩:=one j u
   have az:dL H8 ((⟨Array.size I,0,none⟩:dA).add j)=some (.string (eJ s)):=by
    rw[dO c8,Nat.zero_add]
    rcases j with _|_|_|j
    .cases w;rfl
    .cases w;rfl
    .cases w;rfl
    .omega
   refine⟨_,rfl,by omega,by omega,_,by rw[Int.toNat_natCast];exact az,?_⟩
   dsimp only
   rw[fc]
   refine QV (eH ht f8) ai λH9 f9=>⟨by show 1+1<=9223372036854775807;decide,?_,?_⟩
   .rw[show(eJ [48+UInt8.ofNat s.length]++rG)=eJ ([48+UInt8.ofNat s.length]++[58]) from fj _ [58],fc];simp;omega
   .rw[show(eJ [48+UInt8.ofNat s.length]++rG)++eJ s=eJ (wk s) by rw[show rG=eJ [58] from rfl,fj,fj];rfl]
    have aY:=ax j
    have ac:(wk s).length<=11:=by unfold wk;simp only[List.length_cons];omega
    have ad:=f8.dF f9
    refine(b8.fC f9).write (by have:=ad.size;omega) (wk s) (by simp[wk]) (by simp only[List.length_append];omega) λn v aZ aA aB aC=>⟨3-(j+1),by omega,j+1,by rw[qN j (by omega)],by omega,rfl,?_,aC _ _ _ aw (by decide) (f9.fi c8 λh=>h),ad.fresh aB λk O=>by omega⟩
    rw[List.take_add_one,w]
    simpa using aA
  .rintro _ H4 ⟨b4,f4⟩
   exact⟨xs.length-(i+1),by omega,i+1,by rw[qN i (by omega)],by omega,rfl,b4,f4⟩
 .rintro _ H2 ⟨b2,f2⟩
  have aa:=Z xs.length
  rw[List.take_length] at aa
  obtain⟨q,p,l,c,g1,g2,g3,g4,g5,g6,g7⟩:=b2
  have ac:=g3.1
  rw[pX] at ac
  exact yT g1 (o:=0) rfl g3 g4 (by omega) λH3 f3=>hR H3 (f2.fresh f3 λk O=>by have:=g7 k O;omega)
theorem Qo{s r:By}(h:s.length<10):Go.Lib.cut (wk s++r) [58]=([48+UInt8.ofNat s.length],s++r,true):=by
 have e:wk s++r=[48+UInt8.ofNat s.length]++([58]++(s++r)):=rfl
 have u:∀n,n<10->pG [48+UInt8.ofNat n] [58]=true:=by decide
 rw[e]
 exact Hk _ (by simp) (u _ h)
theorem EE{H:dw}(ht:gG H){xs:List At}(hx:∀a∈xs,Uv a)(hl:xs.length<=6){R:dC->Nat->Nat->dw->Prop}(hR:∀p c H',jK 4 H' eF (gk (xs.map rA)) p xs.length c->(∀k,eB p k->Array.size H<=k)->Fr fa H H'->R p xs.length c H'):jW.C (eJ (pk xs)) H R:=by
 apply jW.calls
 unfold jW.W
 have av:=Dk hx xs.length
 rw[List.take_length] at av
 have aD:∀i,(pk (xs.drop i)).length<=240:=λi=>by
  have e:pk xs=pk (xs.take i)++pk (xs.drop i):=by unfold pk;rw[<-List.flatMap_append,List.take_append_drop]
  rw[e,List.length_append] at av
  omega
 refine dD (λs H'=>∃p c,s=((p,xs.length,c),())/\jK 4 H' eF (gk (xs.map rA)) p xs.length c/\(∀k,eB p k->Array.size H<=k)/\Fr fa H H') (eW (λm s H'=>∃(i:Nat)(p:dC)(c:Nat),s=(eJ (pk (xs.drop i)),(p,i,c),())/\i<=xs.length/\m=xs.length-i/\jK 4 H' eF (gk ((xs.take i).map rA)) p i c/\(∀k,eB p k->Array.size H<=k)/\Fr fa H H') xs.length ⟨0,none,0,rfl,by omega,rfl,jK.nil _ _ _,λk Y=>absurd Y (fm k),Fr.refl _ _⟩ ?_) ?_
 .rintro m _ Z ⟨i,p,c,rfl,hi,rfl,s2,hp,f2⟩
  dsimp only
  refine eE (λaE=>?_) λhe=>?_
  rotate_left
  .have he:eJ (pk (xs.drop i))=eJ []:=Decidable.of_not_not he
   have he:=gm he
   have:i=xs.length:=by
    rcases Nat.lt_or_ge i xs.length with aa|aw
    .rw[List.drop_eq_getElem_cons aa] at he
     have he:OF xs[i]++pk (xs.drop (i+1))=[]:=he
     exact absurd (List.append_eq_nil_iff.1 he).1 (by simp[OF,wk])
    .omega
   subst this
   rw[List.take_length] at s2
   exact⟨p,c,rfl,s2,hp,f2⟩
  have aa:i<xs.length:=by
   rcases Nat.lt_or_ge i xs.length with aa|aw
   .exact aa
   .exact absurd (show eJ (pk (xs.drop i))=dM by rw[List.drop_eq_nil_of_le aw];rfl) aE
  have aF:pk (xs.drop i)=OF xs[i]++pk (xs.drop (i+1)):=by rw[List.drop_eq_getElem_cons aa];rfl
  obtain⟨s1,aG,s3⟩:=hx _ (List.getElem_mem aa)
  have ac:=aD i
  have aH:xs.take (i+1)=xs.take i++[xs[i]]:=by rw[List.take_add_one];simp[aa]
  rw[aF] at ac⊢
  generalize ao:pk (xs.drop (i+1))=u at*
  generalize xs[i]=x at*
  refine dN λH3 h3=>?_
  have f3:Fr fa Z H3:=h3▸Fr.new Z _ _
  have c3:H3[Array.size Z]?=some (.cells #[.string eS,.string eS,.string eS] kQ (0,0)):=h3▸eU
  have one:∀{s r:By}{H5:dw}{cs:Array dB}{i:Nat}{K:dE->dw->Prop},s.length<10->(wk s++r).length<=1000->gG H5->H5[Array.size Z]?=some (.cells cs kQ (0,0))->cs.size=3->i<3->(∀H8,H8[Array.size Z]?=some (.cells (cs.setIfInBounds i (.string (eJ s))) kQ (0,0))->Fr (λk=>k=Array.size Z) H5 H8->K (eJ r) H8)->
   strings_Cut.C (eJ (wk s++r)) rG H5 λaq w aP H6=>oF.C aq H6 λar aQ H7=>eG (min (max ar 0) (w.size:Int)) λO:Int=>0<=O/\O<=(w.size:Int)/\0<=O/\O<=(w.size:Int)/\0<=(i:Int)/\(i:Int)<((3:Nat):Int)/\j0 (.string (w.extract 0 O.toNat)) ((⟨Array.size Z,0,none⟩:dA).add (jy (i:Int).toNat 1)) H7 λH8=>K (w.extract O.toNat w.size) H8:=by
   intro s r H5 cs i K hs hl t5 c5 a8 hi hK
   refine HQ t5 (wk s++r) [58] (by omega) ?_
   rw[Qo hs]
   refine Q5 t5 hs λH7 f7=>eZ ?_
   have e:min (max (s.length:Int) 0) ((eJ (s++r)).size:Int)=(s.length:Int):=by rw[fc,List.length_append];omega
   dsimp only
   rw[e,fc]
   refine⟨by omega,by rw[List.length_append];omega,by omega,by rw[List.length_append];omega,by omega,by omega,?_⟩
   rw[Int.toNat_natCast,Int.toNat_natCast,zx,zx]
   have e1:((s++r).drop 0).take (s.length-0)=s:=by rw[List.drop_zero,Nat.sub_zero,List.take_left]
   have e2:((s++r).drop s.length).take ((s++r).length-s.length)=r:=by rw[List.drop_left,List.length_append,Nat.add_sub_cancel_left,List.take_length]
   rw[e1,e2]
   exact hP (o:=i) (f7.fi c5 λh=>h) (by omega) λH8 b8 f8=>hK H8 b8 ((f7.mono λ_ h=>h.elim).trans f8 λk Y=>.inl Y)
  have t3:=eH ht (f2.dF f3)
  have zt:=jP ht
  have z2:=f2.size
  have e0:OF x++u=wk x.p++(wk x.l++(wk x.v++u)):=by simp[OF]
  rw[e0] at ac⊢
  simp only[List.length_append] at ac
  refine dD (λs H'=>s=(eJ u,())/\H'[Array.size Z]?=some (.cells #[.string (eJ x.p),.string (eJ x.l),.string (eJ x.v)] kQ (0,0))/\Fr (λk=>k=Array.size Z) H3 H') ?_ ?_
  .obtain⟨I,hI⟩:∃I:Nat->dE×Int×Unit->dw->Prop,I=(λm s H'=>Fr (λk=>k=Array.size Z) H3 H'/\(m=3/\s=(eJ (wk x.p++(wk x.l++(wk x.v++u))),0,())/\H'[Array.size Z]?=some (.cells #[.string eS,.string eS,.string eS] kQ (0,0))\/m=2/\s=(eJ (wk x.l++(wk x.v++u)),1,())/\H'[Array.size Z]?=some (.cells #[.string (eJ x.p),.string eS,.string eS] kQ (0,0))\/m=1/\s=(eJ (wk x.v++u),2,())/\H'[Array.size Z]?=some (.cells #[.string (eJ x.p),.string (eJ x.l),.string eS] kQ (0,0))\/m=0/\s=(eJ u,3,())/\H'[Array.size Z]?=some (.cells #[.string (eJ x.p),.string (eJ x.l),.string (eJ x.v)] kQ (0,0)))):=⟨_,rfl⟩
   refine eW I 3 (by rw[hI];exact⟨Fr.refl _ _,.inl ⟨rfl,rfl,c3⟩⟩) ?_
   intro m s5 H5 hc
   rw[hI] at hc
   obtain⟨f5,hc⟩:=hc
   have t5:gG H5:=fM t3 f5 λj hj e=>by omega
   rcases hc with⟨rfl,rfl,c5⟩|⟨rfl,rfl,c5⟩|⟨rfl,rfl,c5⟩|⟨rfl,rfl,c5⟩
   .refine fD (show(0:Int)<3 by decide) ?_
    exact one (s:=x.p) (r:=wk x.l++(wk x.v++u)) (i:=0) (K:=λs H'=>∃m,m<3/\I m (s,IntKind.i64.wrap ((0:Int)+1),()) H') s1 (by simp only[List.length_append];omega) t5 c5 rfl (by decide) λH8 c8 f8=>⟨2,by decide,by rw[hI];exact⟨f5.trans f8 λk Y=>.inl Y,.inr (.inl ⟨rfl,rfl,c8⟩)⟩⟩
   .refine fD (show(1:Int)<3 by decide) ?_
    exact one (s:=x.l) (r:=wk x.v++u) (i:=1) (K:=λs H'=>∃m,m<2/\I m (s,IntKind.i64.wrap ((1:Int)+1),()) H') aG (by simp only[List.length_append];omega) t5 c5 rfl (by decide) λH8 c8 f8=>⟨1,by decide,by rw[hI];exact⟨f5.trans f8 λk Y=>.inl Y,.inr (.inr (.inl ⟨rfl,rfl,c8⟩))⟩⟩
   .refine fD (show(2:Int)<3 by decide) ?_
    exact one (s:=x.v) (r:=u) (i:=2) (K:=λs H'=>∃m,m<1/\I m (s,IntKind.i64.wrap ((2:Int)+1),()) H') s3 (by simp only[List.length_append];omega) t5 c5 rfl (by decide) λH8 c8 f8=>⟨0,by decide,by rw[hI];exact⟨f5.trans f8 λk Y=>.inl Y,.inr (.inr (.inr ⟨rfl,rfl,c8⟩))⟩⟩
   .exact eI (show¬(3:Int)<3 by decide) ⟨rfl,c5,f5⟩
  .rintro _ H4 ⟨rfl,c4,f4⟩
   refine⟨by decide,by decide,_,(dO c4 0 0).trans rfl,by decide,by decide,_,(dO c4 0 1).trans rfl,by decide,by decide,_,(dO c4 0 2).trans rfl,dN λH9 h9=>?_⟩
   have s4:=(s2.fC f3).eO f4 λk Y e=>by have:=s2.gE Y;omega
   refine sb (new:=v8 (rA x)) s4 h9 rfl rfl (sU _) (by omega) (by decide) λp' c' a9 aM aO aA=>?_
   have z4:=f4.size
   have z3:=f3.size
   refine⟨xs.length-(i+1),by omega,i+1,p',c',by rw[ao],by omega,rfl,?_,λk Y=>(aA k Y).elim (hp k) λh=>by omega,(((f2.dF f3).fresh f4 λk Y=>by omega).fresh aO hp)⟩
   rw[aH,List.map_append,List.map_singleton,<-sa]
   exact aM
 .rintro _ H1 ⟨p,c,rfl,s1,hp,f1⟩
  exact hR p c H1 s1 hp f1
end Go.Proofs.fv
