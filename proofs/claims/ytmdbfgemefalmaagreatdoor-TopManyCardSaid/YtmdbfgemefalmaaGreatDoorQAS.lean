/- Part AS of the proof that the law TopMany answers true at every input, under no condition. -/
import Derived.Test.YtmdbfgemefalmaaGreatDoorQAR
import Derived.Lib.CountLaws
set_option linter.unusedVariables false
set_option maxHeartbeats 2000000
set_option maxRecDepth 100000
namespace Go.Ex
def IQ(pre:Bool)(dep:Int):List Nd:=if pre then[⟨3,dep,eS,iT [120]⟩] else[]
theorem XE(k:Nat)(L:List Nat)(h:∀d M,L=d::M->d<k):LW k L=[]/\FU k L=L:=by
 cases L with
 |nil=>exact⟨rfl,rfl⟩
 |cons d M=>have:=h d M rfl;unfold LW FU;rw[List.takeWhile_cons_of_neg (by simpa using this),List.dropWhile_cons_of_neg (by simpa using this)];exact⟨rfl,rfl⟩
theorem aeb(k:Nat)(L:List Nat){d:Nat}(h:d∈FU k L):d∈L:=(List.dropWhile_sublist _).subset h
theorem Xs(k:Nat)(L:List Nat):FM true k L=120::FM false k L:=rfl
end Go.Ex
namespace Go.Proofs.iQ
open Go.Ex
theorem RS.write{H:Heap}{x g:Nat}{k:RC}{G:Nat->Prop}{d:RD}{t:List Nd}{o:List UInt8}{lv:Nat}{root:Bool}(h:RS H x g k G d t o lv root){s:List UInt8}(hs:s≠[])(hl:(o++s).length<=1048576){R:Int->Value->Heap->Prop}
 (hR:∀n v d' H',RS H' x g k G d' t (o++s) lv root->Gr (gk x G d) (gk x G d') H H'->R n v H'):fx.C (some ((⟨x,0,none⟩:Addr).add 10)) (iT s) H R:=by
 rw[show(⟨x,0,none⟩:Addr).add 10=⟨x,10,none⟩ from iM x 0 10]
 refine oG h.fv TD (o:=10) rfl h.qq rfl h.bu h.nx.2.2 s (by omega) λn v p' l' c' H' b' s' DH yb f'=>?_
 have aql:∀i,(i=x\/fw d.p i)->gk x G d i:=λi hi=>hi.elim .inl λhh=>.inr (.inr (.inr hh))
 refine hR n v ⟨d.tp,d.tl,d.tc,some ⟨x,10,none⟩,p',l',c'⟩ H' ⟨?_,h.tr.fy f' λi hi hh=>?_,.inr rfl,s',λhp hc=>?_,h.sc.fy f' λi hi hh=>?_,⟨h.nx.1,h.nx.2.1,yb⟩,λi hi=>⟨(h.ng i hi).1,λhh=>?_⟩,λi hi hh=>?_⟩ ⟨f'.mono aql,λi hi=>?_⟩
 ·rw[b'];simp[WQ]
 ·rcases hh with rfl|hh
  ·exact h.nx.2.1 hi
  ·exact h.nt i hi hh
 ·have h1:=s'.1
  have h2:=s'.cap
  rw[tI] at h1
  have:=List.length_pos_iff.2 hs
  simp only[List.length_append] at h1
  have hc:c'=0:=hc
  omega
 ·rcases hh with rfl|hh
  ·exact h.nx.1 hi
  ·exact(h.ng i hi).2 hh
 ·rcases DH i hh with h'|h'
  ·exact(h.ng i hi).2 h'
  ·have:=h.lt (.inr (.inl hi));omega
 ·rcases DH i hh with h'|h'
  ·exact h.nt i hi h'
  ·have:=h.tr.iK hi;omega
 ·rcases hi with hi|hi|hi|hi
  ·exact .inl (.inl hi)
  ·exact .inl (.inr (.inl hi))
  ·exact .inl (.inr (.inr (.inl hi)))
  ·exact(DH i hi).imp (λhh=>.inr (.inr (.inr hh))) id
end Go.Proofs.iQ
namespace Go.Proofs.iQ
open Go.Ex
def aoW(x g:Nat)(kk:RC)(root:Bool)(S:ByteArray)(k:Nat)(L:List Nat):Prop:=
 Ok k L->(∀d∈L,(d:Int)+2<=kk.l1)->k<=1000->
  ∀(pre:Bool)(p:List UInt8),S=iT (p++FM pre k L)->∀{H:Heap}{G:Nat->Prop}{d:RD}{t:List Nd},RS H x g kk G d t [] (k+1) root->jX H->(∀i,gk x G d i->6<i)->
  ∀e,e=t++IQ pre ((k:Int)+2)++Fe (LW k L)->e.length<=900000->
  gq.C (some ⟨x,0,none⟩) S (p.length:Int) ((k+2:Nat):Int) (iT [Xg k]) H λa c H3=>c=0/\∃G3 d3,RS H3 x g kk G3 d3 e [] (k+1) root/\Gr (gk x G d) (gk x G3 d3) H H3/\∃q:List UInt8,a=(q.length:Int)/\S=iT (q++CO k (FU k L))
theorem Jw{x g:Nat}{kk:RC}{root:Bool}(Ma:0<=kk.l3)(u3:kk.l1<=1000){S:ByteArray}(hS:S.size<=1048576):∀(N k:Nat)(L:List Nat),L.length<N->aoW x g kk root S k L:=by
 intro N
 induction N with
 |zero=>intro k L hN;omega
 |succ N ih=>
 intro k L hN lu mr hk pre p hSp H G d t h hm h6 e he rJ
 apply gq.calls
 unfold gq.W
 refine fJ (λn s H'=>∃(NX:Bool)(p':List UInt8)(o:List UInt8)(L':List Nat)(t':List Nd)(G':Nat->Prop)(d':RD),s=((p'.length:Int),())/\n=2*L'.length+NX.toNat/\S=iT (p'++FM NX k L')/\Ok k L'/\L'.length<=L.length/\(∀d∈L',(d:Int)+2<=kk.l1)/\(NX=true->o=[])/\o.length<=1/\
  RS H' x g kk G' d' t' o (k+1) root/\Gr (gk x G d) (gk x G' d') H H'/\e=t'++MZ o ((k:Int)+2)++IQ NX ((k:Int)+2)++Fe (LW k L')/\FU k L'=FU k L) _ ⟨pre,p,[],L,t,G,d,rfl,rfl,hSp,lu,Nat.le_refl _,mr,λ_=>rfl,by simp,h,Gr.refl _ _,by rw[he];simp[MZ],rfl⟩ ?_
 rintro n _ H' ⟨NX,p',o,L',t',G',d',rfl,rfl,sE,Cp,Zn,QR,RH,ho1,r',g',jU,rb⟩
 have ek:((k+2:Nat):Int)=(k:Int)+2:=by omega
 have W6:∀{Ig:Nat->Prop}{Ju:RD}{mK:Heap},Gr (gk x G d) (gk x Ig Ju) H mK->∀i,gk x Ig Ju i->6<i:=λTK i hi=>(TK.up i hi).elim (h6 i) λhh=>by have:=h6 x (.inl rfl);have:=h.lt (i:=x) (.inl rfl);omega
 have fj:jX H':=hm.fy g'.fr λhh=>by have:=h6 6 hh;omega
 have hlen:(p'++FM NX k L').length<=1048576:=by have:=hS;rw[sE,jv] at this;exact this
 have BF:t'.length<=900000:=by have:=congrArg List.length jU;simp only[List.length_append] at this;omega
 cases NX with
 |true=>
  obtain rfl:=RH rfl
  obtain⟨r,pY,D0,hr3⟩:=Xu k L'
  have nx:=λ{R} h=>asP (R:=R) fj p' _ (Pc.text r hr3) (by rw[<-pY];exact hlen) h
  rw[<-pY,<-sE] at nx
  refine nx λH2 f2=>db λH3 h3=>?_
  have f3:Fr gz H2 H3:=h3▸Fr.new H2 _ _
  refine o9 (cs:=(Wk 0 eS eS).toArray) (h3▸eV) rfl λH4 b4 f4=>?_
  have b4:ph H4 (Array.size H2) 1 eS (iT [120]):=b4
  have oA:Fr gz H' H4:=(f2.eZ f3).fresh f4 λi hi=>by have:=f2.size;omega
  have r4:=r'.oP oA
  refine eG (eG (e8 (by decide) (eY rfl (e8 (by decide) (eG ⟨_,b4.cell 0,eG (kY rfl (iR rfl ⟨_,rfl,_,b4.cell 2,?_⟩))⟩)))))
  refine r4.write (s:=[120]) (by simp) (by simp) λn v d9 H9 r9 g9=>e8 (λh=>h rfl) ⟨2*L'.length,by simp,false,p'++[120],[120],L',t',G',d9,?_,by simp,?_,Cp,Zn,QR,(λh=>by cases h),by simp,by simpa using r9,(g'.trans (Gr.of oA)).trans g9,?_,rb⟩
  ·simp
  ·rw[sE,Xs];simp
  ·rw[jU];simp[MZ,IQ]
 |false=>
  by_cases hd:∃M,L'=k::M
  ·obtain⟨M,rfl⟩:=hd
   have nx:=λ{R} h=>asP (R:=R) fj p' _ (Pc.start 98 (FM true (k+1) M) (.inr rfl)) (by rw[<-I4];exact hlen) h
   rw[<-I4,<-sE] at nx
   refine nx λH2 f2=>db λH3 h3=>?_
   have f3:Fr gz H2 H3:=h3▸Fr.new H2 _ _
   refine o9 (cs:=(Wk 0 eS eS).toArray) (h3▸eV) rfl λH4 b4 f4=>?_
   have b4:ph H4 (Array.size H2) 2 (iT [98]) eS:=b4
   have oA:Fr gz H' H4:=(f2.eZ f3).fresh f4 λi hi=>by have:=f2.size;omega
   have r4:=r'.oP oA
   have g4:=g'.trans (Gr.of oA)
   have Lp:e=((t'++MZ o ((k+2:Nat):Int)++[⟨2,((k+2:Nat):Int),iT [98],eS⟩])++IQ true (((k+1:Nat):Int)+2)++Fe (LW (k+1) M))++Fe (LW k (FU (k+1) M)):=by
    rw[jU,adB,LV k M,o0,adY,ek]
    simp only[IQ,Bool.false_eq_true,if_false,if_true,List.append_nil,List.append_assoc,List.cons_append,List.nil_append]
    rw[show((k+1:Nat):Int)+2=(k:Int)+3 by omega]
   have hle:(((t'++MZ o ((k+2:Nat):Int)++[⟨2,((k+2:Nat):Int),iT [98],eS⟩]:List Nd))++IQ true (((k+1:Nat):Int)+2)++Fe (LW (k+1) M)).length<=900000:=by
    have:=congrArg List.length Lp
    rw[List.length_append] at this
    omega
   have Fy:=QR k (List.mem_cons_self ..)
   have hML:M.length+1<=L.length:=Zn
   refine eG (eG (e8 (by decide) (eY rfl (e8 (by decide) (eG ⟨_,b4.cell 0,eG (e8 (by decide) (e8 (by decide) (eY rfl (e8 (by decide) (eG (e8 (by decide) (eY rfl (kY rfl (b4.ld ?_)))))))))⟩)))))
   refine zC r4 (fj.oP oA) (W6 g4) (by omega) (by omega) (by omega) (.inr rfl) (dep:=k+2) (by omega) (by omega) Ma
    (T:=λa t3=>t3=((t'++MZ o ((k+2:Nat):Int)++[⟨2,((k+2:Nat):Int),iT [98],eS⟩])++IQ true (((k+1:Nat):Int)+2)++Fe (LW (k+1) M))/\∃q:List UInt8,a=(q.length:Int)/\S=iT (q++CO (k+1) (FU (k+1) M))) ?_ ?_
   ·intro H5 G5 d5 r5 g5
    have c:=ih (k+1) M (by omega) Cp.2 (λd hd=>QR d (List.mem_cons_of_mem _ hd)) (by omega) true (p'++[60,98,62]) (by rw[sE,I4];simp) r5 ((fj.oP oA).fy g5.fr λhh=>by have:=W6 g4 6 hh;omega) (W6 (g4.trans g5)) _ rfl hle
    have en:Xg (k+1)=98:=by simp[Xg]
    have ep:(((p'++[60,98,62]:List UInt8).length:Nat):Int)=((p'.length+3:Nat):Int):=by simp
    rw[en,ep] at c
    exact gq.mz c λa ec H6⟨ZS,G3,d3,q1,q2,q3⟩=>⟨ZS,G3,d3,_,q1,q2,rfl,q3⟩
   ·rintro a G6 d6 t6 H6 r6 g6 ⟨rfl,q,rfl,hq⟩
    refine e8 (λh=>h rfl) ⟨2*(FU (k+1) M).length,?_,false,q,[],FU (k+1) M,_,G6,d6,rfl,by simp,hq,Y2 k M _ Cp.2,?_,λd hd=>QR d (List.mem_cons_of_mem _ (aeb _ _ hd)),λ_=>rfl,by simp,r6,g4.trans g6,?_,?_⟩
    ·have:=Ri (k+1) M
     simp only[List.length_cons]
     omega
    ·have:=Ri (k+1) M
     omega
    ·rw[Lp];simp[MZ,IQ]
    ·rw[<-MF,<-aec,rb]
  ·have hc:∀d M,L'=d::M->d<k:=λd M e=>by
    subst e
    have:=Cp.1
    have:d≠k:=λe=>hd ⟨M,by rw[e]⟩
    omega
   obtain⟨hi,ZU⟩:=XE k L' hc
   have nx:=λ{R} h=>asP (R:=R) fj p' _ (Pc.stop (Xg k) (CO k L') (ag6 k)) (by rw[<-A8 k L' hc];exact hlen) h
   rw[<-A8 k L' hc,<-sE] at nx
   refine nx λH2 f2=>db λH3 h3=>?_
   have f3:Fr gz H2 H3:=h3▸Fr.new H2 _ _
   refine o9 (cs:=(Wk 0 eS eS).toArray) (h3▸eV) rfl λH4 b4 f4=>?_
   have b4:ph H4 (Array.size H2) 3 (iT [Xg k]) eS:=b4
   have oA:Fr gz H' H4:=(f2.eZ f3).fresh f4 λi hi=>by have:=f2.size;omega
   have r4:=r'.oP oA
   have g4:=g'.trans (Gr.of oA)
   refine eG (eG (e8 (by decide) (eY rfl (e8 (by decide) (eG ⟨_,b4.cell 0,eG (e8 (by decide) (e8 (by decide) (eY rfl (e8 (by decide) (eG (e8 (by decide) (eY rfl (e8 (by decide) ⟨_,b4.cell 1,e8 (by simp) ?_⟩))))))))⟩)))))
   refine E2 r4 (by omega) (by omega) _ λd9 H9 r9 g9=>⟨rfl,G',d9,?_,g4.trans g9,p'++[60,47,Xg k,62],by simp,?_⟩
   ·have:e=t'++MZ o ((k+2:Nat):Int):=by rw[jU,hi,ek];simp[IQ,Fe]
    rw[this];exact r9
   ·rw[sE,A8 k L' hc,<-rb,ZU];simp
end Go.Proofs.iQ
namespace Go.Ex
def wZ(H:Heap)(p:Option Addr)(l:Nat):Prop:=∀j,j<l->∃(a:Addr)(v:Int),p=some a/\dj H (a.add j)=some (.int .u8 v)/\0<=v/\v<128
theorem wZ.cut{H:Heap}{p:Option Addr}{l:Nat}(h:wZ H p l)(n:Nat)(hn:n<=l):wZ H (if l=n then p else Option.map (λq:Addr=>q.add n) p) (l-n):=by
 intro j hj
 obtain⟨a,v,rfl,h1,h2⟩:=h (n+j) (by omega)
 rw[if_neg (by omega)]
 exact⟨a.add n,v,rfl,by rw[Addr.add_add];exact h1,h2⟩
end Go.Ex
namespace Go.Proofs.iQ
open Go.Ex
theorem oe{H:Heap}{p:Option Addr}{l c:Nat}(h:wZ H p l)(h8:8<=l){R:Int->Heap->Prop}(hR:∀x,R x H):lq.C p l c H R:=by
 apply lq.calls
 unfold lq.W
 have hb:∀(j:Int)(K:Int->Prop),0<=j->j<8->(∀v,K v)->∃x:Addr,p=some x/\0<=j/\j<(l:Int)/\F6 H (x.add j.toNat) K:=λj K h0 h1 hk=>by
  obtain⟨a,v,rfl,h2,_⟩:=h j.toNat (by omega)
  exact⟨a,rfl,h0,by omega,v,h2,hk v⟩
 refine hb 0 _ (by decide) (by decide) λx0=>hb 1 _ (by decide) (by decide) λx1=>⟨by decide,hb 2 _ (by decide) (by decide) λx2=>⟨by decide,hb 3 _ (by decide) (by decide) λx3=>⟨by decide,hb 4 _ (by decide) (by decide) λx4=>⟨by decide,hb 5 _ (by decide) (by decide) λx5=>⟨by decide,hb 6 _ (by decide) (by decide) λx6=>⟨by decide,hb 7 _ (by decide) (by decide) λx7=>⟨by decide,db λx hx=>hR x⟩⟩⟩⟩⟩⟩⟩
theorem Sy{H:Heap}{p:Option Addr}{l c:Nat}(h:wZ H p l)(hc:l<=c){R:Bool->Heap->Prop}(hR:R true H):gU.C p l c H R:=by
 apply gU.calls
 unfold gU.W
 refine⟨by omega,by omega,by omega,by omega,eG (fJ (λn s H'=>∃p' l',s=((p',l',l'),())/\l'=n/\wZ H p' l'/\H=H') l ⟨p,l,by simp,rfl,h,rfl⟩ ?_)⟩
 rintro n _ _ ⟨p',l',rfl,rfl,h',rfl⟩
 refine ft (λh0=>?_) (λh0=>hR)
 have h0:0<l':=by have h0:(0:Int)<(l':Int):=h0;omega
 obtain⟨a,v,e,hv,KJ,KI⟩:=h' 0 h0
 refine⟨a,e,by omega,by show(0:Int)<(l':Int);omega,v,hv,dW (λ_ _=>False) (kY (by omega) ⟨by omega,by show(1:Int)<=(l':Int);omega,?_⟩) (λ_ _ h=>h.elim)⟩
 have c1:=h'.cut (1:Int).toNat (by omega)
 refine dW (λs H'=>H=H'/\(s.1=true->9<l')) (ft (λh1=>oe c1 ?_ λx=>⟨rfl,λ_=>?_⟩) λh1=>⟨rfl,λh=>by cases h⟩) ?_
 ·have h1:(8:Int)<((l'-(1:Int).toNat:Nat):Int):=h1;omega
 ·have h1:(8:Int)<((l'-(1:Int).toNat:Nat):Int):=h1;omega
 rintro⟨b,⟨⟩⟩ _ ⟨rfl,hb⟩
 cases b with
 |false=>exact eY rfl ⟨l'-(1:Int).toNat,by omega,_,_,rfl,rfl,c1,rfl⟩
 |true=>
  have hb:=hb rfl
  have c2:=c1.cut (8:Int).toNat (by omega)
  have c3:=λh=>c2.cut (8:Int).toNat h
  have c4:=λh=>c2.cut (16:Int).toNat h
  refine iR rfl ⟨by omega,by show(8:Int)<=((l'-(1:Int).toNat:Nat):Int);omega,dW (λs H'=>H=H'/\(s.1=true->25<l')) (ft (λh1=>?_) λh1=>⟨rfl,λh=>by cases h⟩) ?_⟩
  ·have h1:(16:Int)<(((l'-(1:Int).toNat)-(8:Int).toNat:Nat):Int):=h1
   refine⟨by omega,by show(8:Int)<=(((l'-(1:Int).toNat)-(8:Int).toNat:Nat):Int);omega,oe c2 (by omega) λx=>oe (c3 (by omega)) (by omega) λy=>⟨rfl,λ_=>by omega⟩⟩
  ·rintro⟨b,⟨⟩⟩ _ ⟨rfl,rb⟩
   cases b with
   |false=>exact eY rfl ⟨l'-(1:Int).toNat-(8:Int).toNat,by omega,_,_,rfl,rfl,c2,rfl⟩
   |true=>
    have rb:=rb rfl
    refine iR rfl ⟨by omega,by show(16:Int)<=(((l'-(1:Int).toNat)-(8:Int).toNat:Nat):Int);omega,fJ (λm s H'=>∃PH MX,s=((PH,MX,MX),())/\MX=m/\MX<l'/\wZ H PH MX/\H=H') _ ⟨_,l'-(1:Int).toNat-(8:Int).toNat-(16:Int).toNat,rfl,rfl,by omega,c4 (by omega),rfl⟩ ?_⟩
    rintro m _ _ ⟨PH,MX,rfl,rfl,hl,sU,rfl⟩
    refine dW (λ_ H'=>H=H'/\32<MX) (ft (λh1=>?_) λh1=>⟨MX,hl,_,_,rfl,rfl,sU,rfl⟩) ?_
    ·have h1:(32:Int)<(MX:Int):=h1
     refine⟨by omega,by show(8:Int)<=(MX:Int);omega,by omega,by show(16:Int)<=(MX:Int);omega,by omega,by show(24:Int)<=(MX:Int);omega,oe sU (by omega) λx=>oe (sU.cut (8:Int).toNat (by omega)) (by omega) λy=>oe (sU.cut (16:Int).toNat (by omega)) (by omega) λz=>oe (sU.cut (24:Int).toNat (by omega)) (by omega) λu=>ft (λ_=>⟨rfl,by omega⟩) λ_=>⟨MX,hl,_,_,rfl,rfl,sU,rfl⟩⟩
    ·rintro _ _ ⟨rfl,Zw⟩
     exact⟨by omega,by show(32:Int)<=(MX:Int);omega,MX-(32:Int).toNat,by omega,_,MX-(32:Int).toNat,rfl,rfl,by omega,sU.cut (32:Int).toNat (by omega),rfl⟩
end Go.Proofs.iQ
namespace Go.Ex
def Al(b:UInt8):Prop:=b=60\/b=47\/b=62\/b=97\/b=98\/b=120
theorem Al.lt{b:UInt8}(h:Al b):b.toNat<128/\32<=b.toNat/\b≠13/\b≠38:=by rcases h with rfl|rfl|rfl|rfl|rfl|rfl<;>decide
theorem EN{s r:List UInt8}(h:∀x∈s,x≠13):Go.Lib.index s (13::r)=-1:=Go.Lib.index_none λj hj=>by
 unfold Go.Lib.occAt
 cases e:s.drop j with
 |nil=>rfl
 |cons y t=>
  have hy:y≠13:=h y (List.mem_of_mem_drop (i:=j) (by rw[e];exact List.mem_cons_self ..))
  simp[List.isPrefixOf,Ne.symm hy]
theorem F3{s oP new:List UInt8}(h:Go.Lib.index s oP=-1):Go.Lib.replaceAll s oP new=s:=by
 unfold Go.Lib.replaceAll Go.Lib.replace
 split
 ·rfl
 ·unfold Go.Lib.replaceNum
  rw[if_pos (.inl (by decide)),Go.Lib.count_miss h]
  rfl
theorem YT{bs:List UInt8}{H:Heap}{a:Addr}(h:jZ H (some a) (zJ bs)){j:Nat}{x:UInt8}(hj:bs[j]?=some x):dj H (a.add j)=some (.int .u8 (x.toNat:Int)):=
 h j _ (by unfold zJ;rw[List.getElem?_map,hj];rfl)
theorem jZ.oP{H H':Heap}{a:Addr}{vs:List Value}(h:jZ H (some a) vs)(f:Fr gz H H'):jZ H' (some a) vs:=λj v hj=>f.cell (h j v hj) λh=>h
theorem wZ.of{H:Heap}{a:Addr}{bs:List UInt8}(h:jZ H (some a) (zJ bs))(hb:∀x∈bs,x.toNat<128):wZ H (some a) bs.length:=λj hj=>
 ⟨a,_,rfl,YT h (List.getElem?_eq_getElem hj),by omega,by have:=hb _ (List.getElem_mem hj);omega⟩
end Go.Ex
namespace Go.Proofs.iQ
open Go.Ex
theorem uk{H:Heap}(s oP new:ByteArray)(hm:jX H)(hs:s.size<=1048576)(h1:1<=oP.size)(hi:Go.Lib.index s.data.toList oP.data.toList=-1){R:ByteArray->Heap->Prop}(hR:∀H',Fr gz H H'->R s H'):strings_ReplaceAll.C s oP new H R:=by
 intro w hw
 subst hw
 obtain⟨m,hm⟩:=hm.cell
 have hc:Go.Lib.countB s oP=0:=Go.Lib.countB_miss _ _ hi
 refine(Tryz.strings_ReplaceAll s oP new m w (by omega) (by rw[kA];exact hm) h1 (by rw[hc];omega)).mono λe w'⟨h1,h2⟩=>?_
 refine⟨_,h1,⟨h2.os,h2.tape,h2.output⟩,_,rfl,?_⟩
 have:=hR _ ⟨h2.size,λk hk _=>h2.block k hk⟩
 rw[F3 hi]
 exact this
theorem Cy{H:Heap}{b k c:Nat}{bs:List UInt8}(h:jZ H (some ⟨b,0,none⟩) (zJ bs))(hc:bs.length<=c){x:UInt8}{r:List UInt8}(hx:bs=x::r)(aqU:x≠239)(hk:H[k]?=some (.cells #[.int .u8 239,.int .u8 187,.int .u8 191] iD (0,0)))
 {R:Option Addr->Nat->Nat->Heap->Prop}(hR:R (some ⟨b,0,none⟩) bs.length c H):bytes_TrimPrefix.C (some ⟨b,0,none⟩) bs.length c (some ⟨k,0,none⟩) 3 3 H R:=by
 intro w hw
 subst hw
 have e1:Go.Lib.BytesIn w (some ⟨b,0,none⟩) bs.length (bs.map λx=>(x.toNat:Int)):=Go.Lib.BytesIn.of_cells λi hi=>by
  rw[kA,YT h (List.getElem?_eq_getElem hi),List.getD_eq_getElem?_getD,List.getElem?_map,List.getElem?_eq_getElem hi]
  rfl
 have e2:Go.Lib.BytesIn w (some ⟨k,0,none⟩) 3 [239,187,191]:=Go.Lib.BytesIn.of_cells λi hi=>by
  rw[kA,dh hk]
  rcases i with _|_|_|i<;>first|rfl|omega
 refine(Tryz.bytes_TrimPrefix_all _ _ _ c 3 3 _ _ w (by simp) rfl hc e1 e2).mono λe w'⟨h1,h2⟩=>?_
 subst h2
 have ev:Go.Lib.trimPrefixV (some ⟨b,0,none⟩) bs.length c (bs.map λx=>(x.toNat:Int)) [239,187,191]=.slice (some ⟨b,0,none⟩) bs.length c:=by
  have hp:Go.Lib.hasPrefix (Go.Lib.bytesOf (bs.map λx=>(x.toNat:Int))) (Go.Lib.bytesOf [239,187,191])=false:=by
   subst hx
   simp only[Go.Lib.bytesOf,List.map_cons,Go.Lib.hasPrefix]
   simp[List.isPrefixOf,Ne.symm aqU]
  unfold Go.Lib.trimPrefixV Go.Lib.bytesTrimPrefix
  simp only[hp]
  rfl
 rw[ev] at h1
 exact⟨_,h1,dV.refl _,_,_,_,rfl,hR⟩
theorem B4{H:Heap}{b c:Nat}{bs:List UInt8}(h:jZ H (some ⟨b,0,none⟩) (zJ bs))(hc:bs.length<=c)(ha:∀x∈bs,x.toNat<128/\32<=x.toNat){R:Bool->Heap->Prop}(hR:∀H',Fr gz H H'->R true H'):
 gh.C (some ⟨b,0,none⟩) bs.length c H R:=by
 apply gh.calls
 unfold gh.W
 refine dW (λ_ H'=>Fr gz H H') ⟨iT bs,⟨jv _,by rw[kX];exact h⟩,db λH1 h1=>?_⟩ (λ_ H' f=>Sy (wZ.of (h.oP f) λx hx=>(ha x hx).1) hc (hR _ f))
 subst h1
 refine fJ (λn _ H'=>∃q,q<=bs.length/\n=bs.length-q/\H'[Array.size H]?=some (.stringIter (iT bs) q)/\Fr gz H H') bs.length ⟨0,by omega,rfl,kE _ _,Fr.push _ _⟩ ?_
 rintro n _ H' ⟨q,hq,rfl,hb,f⟩
 refine⟨_,_,hb,ft (λh0=>?_) λh0=>f⟩
 rw[jv] at h0
 have hx:=List.getElem?_eq_getElem h0
 have BE:=ha _ (List.getElem_mem h0)
 rw[vY _ q bs[q] (by rw[dq];exact hx) BE.1]
 refine db λH2 h2=>db λr hr=>?_
 subst hr
 have lC:=fe hb
 have Tq:H2[Array.size H]?=some (.stringIter (iT bs) (q+1)):=h2▸mn lC _
 have f2:Fr gz H H2:=h2▸f.fresh (Fr.uO _ _ _) λi hi=>by omega
 refine TW _ λH3 f3=>?_
 have:(Jy.any λp=>decide (p.1<=(bs[q].toNat:Int))&&decide ((bs[q].toNat:Int)<=p.2))=true:=List.any_eq_true.2 ⟨(32,55295),by simp[Jy],by simp;omega⟩
 rw[this]
 exact eY rfl ⟨bs.length-(q+1),by omega,q+1,by omega,rfl,f3.fv Tq λh=>h,f2.eZ f3⟩
theorem TQ{H:Heap}(hm:jX H){b c:Nat}{bs:List UInt8}(h:jZ H (some ⟨b,0,none⟩) (zJ bs))(hc:bs.length<=c)(hl:bs.length<=1048576){x:UInt8}{r:List UInt8}(hx:bs=x::r)(ha:∀x∈bs,Al x){R:ByteArray->Int->Heap->Prop}(hR:∀H',Fr gz H H'->R (iT bs) 0 H'):
 iZ.C (some ⟨b,0,none⟩) bs.length c H R:=by
 apply iZ.calls
 unfold iZ.W
 have Um:∀x∈(iT bs).data.toList,x≠13:=λy hy=>by rw[dq] at hy;exact(ha y hy).lt.2.2.1
 refine db λH1 h1=>?_
 have f1:Fr gz H H1:=h1▸Fr.new H _ _
 refine Cy (h.oP f1) hc hx ?_ (h1▸eV) (B4 (h.oP f1) hc (λy hy=>⟨(ha y hy).lt.1,(ha y hy).lt.2.1⟩) λH2 f2=>eY rfl ⟨iT bs,⟨jv _,by rw[kX];exact(h.oP f1).oP f2⟩,?_⟩)
 ·have:=(ha x (by rw[hx];exact List.mem_cons_self ..)).lt.1
  rintro rfl
  exact absurd this (by decide)
 ·have f12:=f1.eZ f2
  apply jz.calls
  unfold jz.W
  refine uk _ _ _ (hm.oP f12) (by rw[jv];omega) (by decide) (EN Um) λH3 f3=>uk _ _ _ (hm.oP (f12.eZ f3)) (by rw[jv];omega) (by decide) (EN Um) λH4 f4=>hR H4 ((f12.eZ f3).eZ f4)
end Go.Proofs.iQ
namespace Go.Ex
def whole(L:List Nat):List UInt8:=60::97::62::(ti 0 L++Bn)
def eI(L:List Nat):List Nd:=⟨1,0,eS,eS⟩::⟨2,1,iT [97],eS⟩::Fe L
theorem jo(L:List Nat):(eI L).length=2*L.length+2:=by unfold eI;simp[adX]
theorem amr:∀L:List Nat,LW 0 L=L
 |[]=>rfl
 |d::L=>by unfold LW;rw[List.takeWhile_cons_of_pos (by simp)];exact congrArg _ (amr L)
theorem OI:∀n,∀b∈cls n,Al b
 |0,b,h=>by cases h
 |n+1,b,h=>by
  simp only[cls,List.mem_cons] at h
  rcases h with rfl|rfl|rfl|rfl|h
  ·exact .inl rfl
  ·exact .inr (.inl rfl)
  ·exact .inr (.inr (.inr (.inr (.inl rfl))))
  ·exact .inr (.inr (.inl rfl))
  ·exact OI n b h
theorem Wg:∀(L:List Nat)(k:Nat),∀b∈ti k L,Al b
 |[],k,b,h=>OI k b h
 |d::L,k,b,h=>by
  simp only[ti,List.mem_append,List.mem_cons] at h
  rcases h with h|rfl|rfl|rfl|rfl|h
  ·exact OI _ b h
  ·exact .inl rfl
  ·exact .inr (.inr (.inr (.inr (.inl rfl))))
  ·exact .inr (.inr (.inl rfl))
  ·exact .inr (.inr (.inr (.inr (.inr rfl))))
  ·exact Wg L _ b h
theorem Wb(L:List Nat):∀b∈whole L,Al b:=λb h=>by
 simp only[whole,Bn,List.mem_cons,List.mem_append,List.not_mem_nil,or_false] at h
 rcases h with rfl|rfl|rfl|h|rfl|rfl|rfl|rfl
 ·exact .inl rfl
 ·exact .inr (.inr (.inr (.inl rfl)))
 ·exact .inr (.inr (.inl rfl))
 ·exact Wg L 0 b h
 ·exact .inl rfl
 ·exact .inr (.inl rfl)
 ·exact .inr (.inr (.inr (.inl rfl)))
 ·exact .inr (.inr (.inl rfl))
theorem Qx(l:List UInt8):(iT l).extract (0:Int).toNat (iT l).size=iT l:=tw [] l
end Go.Ex
namespace Go.Proofs.iQ
open Go.Ex
theorem Zd{H:Heap}(r:List UInt8){R:Int->Int->Heap->Prop}(hR:∀H',Fr gz H H'->R 0 0 H'):iF.C (iT (60::97::r)) H R:=by
 apply iF.calls
 unfold iF.W
 have hp:Go.Lib.hasPrefix (60::97::r) (⟨#[60,63,120,109,108]⟩:ByteArray).data.toList=false:=rfl
 have e0:(iT (60::97::r)).extract (0:Int).toNat (iT (60::97::r)).size=iT (60::97::r):=Qx _
 have el:(iT (60::97::r)).data.toList=60::97::r:=dq _
 generalize iT (60::97::r)=S at*
 refine db λH1 h1=>?_
 have f1:Fr gz H H1:=h1▸Fr.new H _ _
 have c1:∀j,dj H1 ((⟨Array.size H,0,none⟩:Addr).add j)=(#[.string S,.int .i64 0,.bool false,.string eS,.slice none 0 0,.slice none 0 0]:Array Value)[j]?:=λj=>by
  rw[dh (h1▸eV),Nat.zero_add]
 refine eG (dW (λs H'=>s=(true,())/\H1=H') ?_ ?_)
 ·apply dG.calls
  unfold dG.W
  refine eG (dW (λs H'=>s=(true,())/\H1=H') ⟨_,rfl,_,c1 2,eY rfl ⟨_,rfl,_,c1 0,_,rfl,_,c1 1,by omega,by omega,?_⟩⟩ ?_)
  ·rw[e0]
   refine nj _ _ ⟨?_,rfl⟩
   rw[el,hp];rfl
  ·rintro _ _ ⟨rfl,rfl⟩
   exact iR rfl (iR rfl ⟨rfl,rfl⟩)
 ·rintro _ _ ⟨rfl,rfl⟩
  exact iR rfl (hR _ f1)
theorem JS{H:Heap}(r:List UInt8){R:ByteArray->Option Addr->Nat->Nat->Option Addr->Nat->Nat->Int->Int->Heap->Prop}(hR:∀H',Fr gz H H'->R eS none 0 0 none 0 0 0 6 H'):eU.C (iT (60::97::r)) 0 H R:=by
 apply eU.calls
 unfold eU.W
 have hp:Go.Lib.hasPrefix (60::97::r) (⟨#[60,33,68,79,67,84,89,80,69]⟩:ByteArray).data.toList=false:=rfl
 have e0:(iT (60::97::r)).extract (0:Int).toNat (iT (60::97::r)).size=iT (60::97::r):=Qx _
 have el:(iT (60::97::r)).data.toList=60::97::r:=dq _
 generalize iT (60::97::r)=S at*
 refine db λH1 h1=>?_
 have f1:Fr gz H H1:=h1▸Fr.new H _ _
 refine eG (dW (λs H'=>s=(true,())/\H1=H') (e8 (by omega) (e8 (by omega) ⟨by omega,by omega,?_⟩)) ?_)
 ·rw[e0]
  refine nj _ _ ⟨?_,rfl⟩
  rw[el,hp];rfl
 ·rintro _ _ ⟨rfl,rfl⟩
  refine iR rfl (o9 (cs:=#[.string eS,.slice none 0 0,.slice none 0 0]) (h1▸eV) rfl λH2 b2 f2=>?_)
  refine vP eS none 0 0 none 0 0 (λj hj=>?_) (hR H2 (f1.fresh f2 λi hi=>by omega))
  rw[dh b2,Nat.zero_add];simp
theorem HD{H:Heap}{R:Option Addr->Heap->Prop}(hR:∀q H',Fr gz H H'->R q H'):jG.C eS none 0 0 none 0 0 H R:=by
 apply jG.calls
 unfold jG.W
 refine db λH1 h1=>db λH2 h2=>db λH3 h3=>?_
 have f1:Fr gz H H1:=h1▸Fr.new H _ _
 have f2:Fr gz H1 H2:=h2▸Fr.push _ _
 have f3:Fr gz H2 H3:=h3▸Fr.new H2 _ _
 have b1:H1[Array.size H]?=some (.cells #[.string eS,.slice none 0 0,.slice none 0 0] iI (0,0)):=h1▸eV
 have b3:=f3.fv (f2.fv b1 λh=>h) λh=>h
 refine eG ⟨_,_,_,by rw[dh b3];rfl,fJ (λn s H'=>n=0/\s=(0,())/\H3=H') 0 ⟨rfl,rfl,rfl⟩ ?_⟩
 rintro n _ _ ⟨rfl,rfl,rfl⟩
 exact e8 (by decide) (hR _ _ ((f1.eZ f2).eZ f3))
theorem RS.agU{H:Heap}{x g:Nat}{k:RC}{G:Nat->Prop}{d:RD}{t:List Nd}{o:List UInt8}{lv:Nat}{root:Bool}(h:RS H x g k G d t o lv root){K:Heap->Prop}
 (hK:∀H',RS H' x g k G d t o lv true->Fr (λi=>i=x) H H'->K H'):sV (.bool true) ((⟨x,0,none⟩:Addr).add 12) H K:=
 kQ h.fv (by simp[WQ]) λH' b f=>hK H' ⟨by rw[b];simp[WQ],h.tr.fy f λi hi e=>h.nx.2.1 (e▸hi),h.qq,h.bu.fy f λi hi e=>h.nx.2.2 (e▸hi),h.bc,h.sc.fy f λi hi e=>h.nx.1 (e▸hi),h.nx,h.ng,h.nt⟩ f
end Go.Proofs.iQ
namespace Go.Proofs.iQ
open Go.Ex
theorem N0{H:Heap}{x g:Nat}{k:RC}{G:Nat->Prop}{d:RD}{L:List Nat}(h:RS H x g k G d [⟨1,0,eS,eS⟩] [] 0 false)(hm:jX H)(h6:∀i,gk x G d i->6<i)(u3:1<=k.l1/\k.l1<=1000)(Ma:0<=k.l3)(lu:Ok 0 L)(hd:∀d∈L,(d:Int)+2<=k.l1)(hL:L.length<=100000)(hS:(whole L).length<=1048576)
 {R:Int->Int->Heap->Prop}(hR:∀G3 d3 H3,RS H3 x g k G3 d3 (eI L) [] 0 true->Gr (gk x G d) (gk x G3 d3) H H3->R ((iT (whole L)).size:Int) 0 H3):
 nr.C (some ⟨x,0,none⟩) (iT (whole L)) 0 H R:=by
 apply nr.calls
 unfold nr.W
 have hw:whole L=60::97::62::FM false 0 L:=rfl
 have hs:(iT (whole L)).size<=1048576:=by rw[jv];exact hS
 have nx:=λ{R} h=>asP (R:=R) hm [] _ (Pc.start 97 (FM false 0 L) (.inl rfl)) (by rw[List.nil_append,<-hw];exact hS) h
 have sE:iT (whole L)=iT ([60,97,62]++FM false 0 L):=rfl
 rw[<-hw,List.nil_append] at nx
 generalize iT (whole L)=S at*
 refine nx λH2 f2=>db λH3 h3=>?_
 have f3:Fr gz H2 H3:=h3▸Fr.new H2 _ _
 refine o9 (cs:=(Wk 0 eS eS).toArray) (h3▸eV) rfl λH4 b4 f4=>?_
 have b4:ph H4 (Array.size H2) 2 (iT [97]) eS:=b4
 have oA:Fr gz H H4:=(f2.eZ f3).fresh f4 λi hi=>by have:=f2.size;omega
 have r4:=h.oP oA
 refine dW (λ_ _=>False) (e8 (λh=>h rfl) (eG ⟨_,b4.cell 0,e8 (by decide) ⟨_,b4.cell 0,eY rfl (eG ⟨_,b4.cell 0,kY rfl ⟨_,rfl,_,r4.cell 12,iR rfl ⟨_,rfl,?_⟩⟩⟩)⟩⟩)) (λ_ _ h=>h.elim)
 refine r4.agU λH5 r5 f5=>?_
 have xH:x<Array.size H:=h.lt (.inl rfl)
 have b5:ph H5 (Array.size H2) 2 (iT [97]) eS:=f5.fv b4 (by have:=f2.size;omega)
 have g5:Gr (gk x G d) (gk x G d) H H5:=(Gr.of oA).trans ⟨f5.mono λi hi=>.inl hi,λi hi=>.inl hi⟩
 have W6:∀{Ig:Nat->Prop}{Ju:RD}{mK:Heap},Gr (gk x G d) (gk x Ig Ju) H mK->∀i,gk x Ig Ju i->6<i:=λTK i hi=>(TK.up i hi).elim (h6 i) λhh=>by have:=h6 x (.inl rfl);omega
 have m5:jX H5:=hm.fy g5.fr λhh=>by have:=h6 6 hh;omega
 refine b5.ld (zC r5 m5 h6 (by simp) (by simp) (by omega) (.inl rfl) (dep:=1) u3.1 (by omega) Ma
  (T:=λa t3=>t3=eI L/\a=(S.size:Int)) ?_ ?_)
 ·intro H6 G6 d6 r6 g6
  have c:=Jw (root:=true) Ma u3.2 hs (L.length+1) 0 L (by omega) lu hd (by omega) false [60,97,62] sE r6 (m5.fy g6.fr λhh=>by have:=h6 6 hh;omega) (W6 (g5.trans g6)) (eI L) (by rw[amr];rfl) (by rw[jo];omega)
  exact gq.mz c λa ec H7⟨ZS,G3,d3,q1,q2,q,q3,q4⟩=>⟨ZS,G3,d3,_,q1,q2,rfl,by
   rw[q3,q4,jv];simp[CO]⟩
 ·rintro a G7 d7 t7 H7 r7 g7 ⟨rfl,rfl⟩
  exact hR G7 d7 H7 r7 (g5.trans g7)
theorem Y6{H:Heap}{x g:Nat}{k:RC}{G:Nat->Prop}{d:RD}{L:List Nat}(h:RS H x g k G d [⟨1,0,eS,eS⟩] [] 0 false)(hm:jX H)(h6:∀i,gk x G d i->6<i)(u3:1<=k.l1/\k.l1<=1000)(Ma:0<=k.l3)(lu:Ok 0 L)(hd:∀d∈L,(d:Int)+2<=k.l1)(hL:L.length<=100000)(hS:(whole L).length<=1048576)
 {R:Int->Heap->Prop}(hR:∀G3 d3 H3,RS H3 x g k G3 d3 (eI L) [] 0 true->Gr (gk x G d) (gk x G3 d3) H H3->R 0 H3):
 nf.C (some ⟨x,0,none⟩) (iT (whole L)) H R:=by
 apply nf.calls
 unfold nf.W
 have hw:whole L=60::97::(62::FM false 0 L):=rfl
 have c1:=λ{H R} h=>Zd (H:=H) (R:=R) (62::FM false 0 L) h
 have c2:=λ{H R} h=>JS (H:=H) (R:=R) (62::FM false 0 L) h
 have c3:=λ{H R} h=>vp (H:=H) (R:=R) [] 60 (97::62::FM false 0 L) (by rw[List.nil_append,<-hw];exact hS) (by decide) (by decide) h
 have c4:=λ{H R} h=>OY (H:=H) (R:=R) (iT (whole L)) h
 have hz:(0:Int)<((iT (whole L)).size:Int):=by rw[jv,hw];simp;omega
 rw[List.nil_append] at c3
 rw[<-hw] at c1 c2 c3
 have c5:=λ{H G d R} h hm h6 hR=>N0 (H:=H) (x:=x) (g:=g) (k:=k) (G:=G) (d:=d) (L:=L) (R:=R) h hm h6 u3 Ma lu hd hL hS hR
 generalize iT (whole L)=S at*
 refine c1 λH1 f1=>dW (λs H'=>s=(0,())/\∃G3 d3,RS H' x g k G3 d3 (eI L) [] 0 true/\Gr (gk x G d) (gk x G3 d3) H H') (c3 λH3 f3=>?_) ?_
 ·refine fJ (λn s H'=>(n=1/\s=(0,0,false,())/\Fr gz H H')\/(n=0/\s=((S.size:Int),0,false,())/\∃G3 d3,RS H' x g k G3 d3 (eI L) [] 0 true/\Gr (gk x G d) (gk x G3 d3) H H')) 1 (.inl ⟨rfl,rfl,f1.eZ f3⟩) ?_
  rintro n _ H4 (⟨rfl,rfl,f4⟩|⟨rfl,rfl,G3,d3,r4,g4⟩)
  ·refine dW (λ_ H'=>H4=H') (kY rfl (kY hz rfl)) ?_
   rintro _ _ rfl
   refine eG (c2 λH5 f5=>db λH6 Zu=>o9 (cs:=#[.string eS,.slice none 0 0,.slice none 0 0]) (Zu▸eV) rfl λH7 b7 f7=>kY rfl ?_)
   have vk:Fr gz H H7:=((f4.eZ f5).eZ (Zu▸Fr.new H5 _ _:Fr gz H5 H6)).fresh f7 λi hi=>by have:=f4.size;have:=f5.size;omega
   refine c5 (h.oP vk) (hm.oP vk) h6 λG8 d8 H8 r8 g8=>c4 λH9 f9=>?_
   exact⟨0,by omega,.inr ⟨rfl,rfl,G8,d8,r8.oP f9,((Gr.of vk).trans g8).trans (Gr.of f9)⟩⟩
  ·refine dW (λ_ _=>False) (kY rfl (e8 (by omega) ⟨rfl,G3,d3,r4,g4⟩)) (λ_ _ h=>h.elim)
 ·rintro _ H2 ⟨rfl,G3,d3,r2,g2⟩
  exact eG (eG (kY rfl ⟨_,rfl,_,r2.cell 12,eY rfl (hR G3 d3 H2 r2 g2)⟩))
end Go.Proofs.iQ
namespace Go.Proofs.iQ
open Go.Ex
theorem Am{H:Heap}{n lo hi:Int}(h0:lo<=n)(h1:n<=hi){R:Bool->Heap->Prop}(hR:R true H):fa.C n lo hi H R:=by
 apply fa.calls
 unfold fa.W
 refine kY h0 ?_
 rw[decide_eq_true h1]
 exact hR
theorem TR{H:Heap}{l0 l1 l2 l3:Int}(h0:0<=l0/\l0<=1048576)(h1:1<=l1/\l1<=200)(h2:0<=l2/\l2<=1048576)(h3:0<=l3/\l3<=100){R:Bool->Heap->Prop}(hR:∀H',Fr gz H H'->R true H'):j6.C l0 l1 l2 l3 H R:=by
 apply j6.calls
 unfold j6.W
 refine db λH1 g1=>?_
 have c1:∀j,dj H1 ((⟨Array.size H,0,none⟩:Addr).add j)=(#[.int .i64 l0,.int .i64 l1,.int .i64 l2,.int .i64 l3]:Array Value)[j]?:=λj=>by
  rw[dh (g1▸eV),Nat.zero_add]
 exact⟨_,c1 0,Am h0.1 h0.2 (iR rfl ⟨_,c1 1,Am h1.1 h1.2 (iR rfl ⟨_,c1 2,Am h2.1 h2.2 (iR rfl ⟨_,c1 3,Am h3.1 h3.2 (hR _ (g1▸Fr.new H _ _))⟩)⟩)⟩)⟩
def K8(l0 l1 l2 l3:Int)(nb g:Nat)(q:Option Addr)(S:ByteArray)(R:Option Addr->Nat->Nat->Int->Heap->Prop)(H6:Heap):Prop:=
 eX (gy H6 #[.slice (some ⟨nb,0,none⟩) 1 1,.int .i64 l0,.int .i64 l1,.int .i64 l2,.int .i64 l3,.string (⟨#[]⟩:ByteArray),.slice none 0 0,.slice none 0 0,.pointer q,.pointer (some ⟨g,0,none⟩),.pointer none,.slice none 0 0,.bool false] ji) λH7:Heap=>
 nf.C (some ⟨Array.size H6,0,none⟩) S H7 λuE H8=>
 gn (decide (uE≠0)) (False) (∃uD:Addr,some ⟨Array.size H6,0,none⟩=some uD/\eO H8 (uD.add 0) λyp yq yr=>R (yp) yq yr (0) H8)
theorem FZ{H H6:Heap}{l0 l1 l2 l3:Int}{nb g:Nat}{q:Option Addr}{L:List Nat}{G:Nat->Prop}(f:Fr gz H H6)(hm:jX H)(h7:6<Array.size H)(sc:kN H6 g G 0)(hG:∀i,G i->Array.size H<=i)(nd:gT H6 nb ⟨1,0,eS,eS⟩)(hn:Array.size H<=nb)(ZQ:¬G nb)
 (u3:1<=l1/\l1<=1000)(Ma:0<=l3)(lu:Ok 0 L)(hd:∀d∈L,(d:Int)+2<=l1)(hL:L.length<=100000)(hS:(whole L).length<=1048576)
 {R:Option Addr->Nat->Nat->Int->Heap->Prop}(hR:∀p l c H',rF 7 H' eH (nP (eI L)) p l c->Fr gz H H'->R p l c 0 H'):K8 l0 l1 l2 l3 nb g q (iT (whole L)) R H6:=by
 unfold K8
 refine db λH7 g7=>?_
 have f7:Fr gz H6 H7:=g7▸Fr.new H6 _ _
 have lnb:nb<Array.size H6:=fe nd
 have lG:∀i,G i->i<Array.size H6:=λi hi=>by obtain⟨_,_,_,_,_,_,h5⟩:=sc;exact h5 i hi
 have bi:∀i,fw (some (⟨nb,0,none⟩:Addr)) i->i=nb:=λi⟨a,ha,e⟩=>by cases ha;exact e.symm
 have bn:∀i,¬fw none i:=λi⟨a,ha,_⟩=>by cases ha
 have nd7:=f7.fv nd λh=>h
 have r7:RS H7 (Array.size H6) g ⟨l0,l1,l2,l3,q⟩ G ⟨some ⟨nb,0,none⟩,1,1,none,none,0,0⟩ [⟨1,0,eS,eS⟩] [] 0 false:=by
  refine⟨?_,⟨rfl,.inr ⟨nb,_,rfl,nd7,rfl,Nat.le_refl _,λi hi=>by simp[nP]⟩⟩,.inl rfl,Sl.nil _ _,(λh=>by cases h),sc.fy f7 (λ_ _ h=>h),⟨λh=>?_,λh=>?_,bn _⟩,λi hi=>⟨λhb=>?_,bn _⟩,λi _=>bn i⟩
  ·exact g7▸eV
  ·have:=lG _ h;omega
  ·have:=bi _ h;omega
  ·exact ZQ (bi _ hb▸hi)
 have own:∀i,gk (Array.size H6) G ⟨some ⟨nb,0,none⟩,1,1,none,none,0,0⟩ i->Array.size H<=i:=λi hi=>by
  rcases hi with rfl|hi|hi|hi
  ·exact f.size
  ·exact hG i hi
  ·rw[bi _ hi];exact hn
  ·exact absurd hi (bn _)
 refine Y6 r7 ((hm.oP f).oP f7) (λi hi=>by have:=own i hi;omega) u3 Ma lu hd hL hS λG3 d3 H3 r3 g3=>?_
 refine e8 (λh=>h rfl) ⟨_,rfl,_,_,_,r3.cell 0,hR _ _ _ _ r3.tr ?_⟩
 exact(f.eZ f7).fresh g3.fr own
theorem TM{H:Heap}(hm:jX H)(h7:6<Array.size H){l0 l1 l2 l3:Int}(h0:0<=l0/\l0<=1048576)(h1:1<=l1/\l1<=200)(h2:0<=l2/\l2<=1048576)(h3:0<=l3/\l3<=100){L:List Nat}{b c:Nat}(hb:jZ H (some ⟨b,0,none⟩) (zJ (whole L)))(hc:(whole L).length<=c)(hS:((whole L).length:Int)<=l0)
 (lu:Ok 0 L)(hd:∀d∈L,(d:Int)+2<=l1)(hL:L.length<=100000){R:Option Addr->Nat->Nat->Int->Heap->Prop}(hR:∀p l c H',rF 7 H' eH (nP (eI L)) p l c->Fr gz H H'->R p l c 0 H'):
 gB.C (some ⟨b,0,none⟩) (whole L).length c l0 l1 l2 l3 H R:=by
 apply gB.calls
 unfold gB.W
 refine db λH1 g1=>?_
 have f1:Fr gz H H1:=g1▸Fr.new H _ _
 have b1:H1[Array.size H]?=some (.cells #[.int .i64 l0,.int .i64 l1,.int .i64 l2,.int .i64 l3] ie (0,0)):=g1▸eV
 have ld:∀{H':Heap}{K:Int->Int->Int->Int->Prop},Fr gz H1 H'->K l0 l1 l2 l3->jt H' ⟨Array.size H,0,none⟩ K:=λf hk=>qH l0 l1 l2 l3 (λj hj=>by rw[dh (f.fv b1 λh=>h),Nat.zero_add];simp) hk
 refine ld (Fr.refl _ _) (TR h0 h1 h2 h3 λH2 f2=>eY rfl ⟨_,(dh (f2.fv b1 λh=>h) 0 0).trans rfl,e8 (by omega) ?_⟩)
 have sX:=f1.eZ f2
 refine TQ (hm.oP sX) (hb.oP sX) hc (by omega) rfl (Wb L) λH3 f3=>e8 (λh=>h rfl) (ld (f2.eZ f3) ?_)
 have xX:=sX.eZ f3
 have f13:=f2.eZ f3
 have S7:∀{H':Heap},Fr gz H H'->Array.size H<=Array.size H':=λf=>f.size
 have tail:=λ{H6 nb g q G} f sc hG nd hn ZQ=>FZ (H:=H) (H6:=H6) (l0:=l0) (l1:=l1) (l2:=l2) (l3:=l3) (nb:=nb) (g:=g) (q:=q) (L:=L) (G:=G) f hm h7 sc hG nd hn ZQ ⟨h1.1,by omega⟩ h3.1 lu hd hL (by omega) hR
 refine⟨HD λq H4 f4=>⟨ld (f13.eZ f4) rfl,sR λg G H5 s5 f5 n5=>⟨ld ((f13.eZ f4).eZ f5) rfl,db λH6 g6=>?_⟩,db λH9 g9=>?_⟩,db λgS g13=>?_⟩
 ·have f6:Fr gz H5 H6:=g6▸Fr.new H5 _ _
  have oA:=xX.eZ f4
  have FT:=oA.eZ f5
  have l5:∀i,G i->i<Array.size H5:=λi hi=>by obtain⟨_,_,_,_,_,_,h5⟩:=s5;exact h5 i hi
  exact⟨ld (((f13.eZ f4).eZ f5).eZ f6) rfl,tail (FT.eZ f6) (s5.fy f6 λ_ _ h=>h) (λi hi=>Nat.le_trans oA.size (n5 i hi)) (g6▸eV) FT.size (λhh=>by have:=l5 _ hh;omega)⟩
 ·have f9:Fr gz H4 H9:=g9▸Fr.new H4 _ _
  have oA:=xX.eZ f4
  have n9:gT H9 (Array.size H4) ⟨1,0,eS,eS⟩:=g9▸eV
  have l9:Array.size H4<Array.size H9:=fe n9
  refine⟨ld ((f13.eZ f4).eZ f9) rfl,sR λg G de vD f10 C2=>⟨ld (((f13.eZ f4).eZ f9).eZ f10) rfl,tail ((oA.eZ f9).eZ f10) vD (λi hi=>Nat.le_trans (oA.eZ f9).size (C2 i hi)) (f10.fv n9 λh=>h) oA.size (λhh=>by have:=C2 _ hh;omega)⟩⟩
 ·have Mk:Fr gz H3 gS:=g13▸Fr.new H3 _ _
  have pU:gT gS (Array.size H3) ⟨1,0,eS,eS⟩:=g13▸eV
  have l13:Array.size H3<Array.size gS:=fe pU
  refine⟨ld (f13.eZ Mk) rfl,HD λq gK f14=>⟨ld ((f13.eZ Mk).eZ f14) rfl,sR λg G jY Aq f15 AN=>⟨ld (((f13.eZ Mk).eZ f14).eZ f15) rfl,tail (((xX.eZ Mk).eZ f14).eZ f15) Aq (λi hi=>Nat.le_trans ((xX.eZ Mk).eZ f14).size (AN i hi)) (f15.fv (f14.fv pU λh=>h) λh=>h) xX.size (λhh=>by have:=AN _ hh;have:=f14.size;omega)⟩⟩⟩
end Go.Proofs.iQ
namespace Go.Ex
abbrev Mu:Nd:=⟨1,0,eS,eS⟩
def Ia(n:Nd):Prop:=(n.k=2/\(n.loc=iT [97]\/n.loc=iT [98])/\n.val=eS)\/(n.k=3/\n.loc=eS/\n.val=iT [120])
def Nx(a b:Nd):Prop:=1<=b.d/\b.d<=201/\b.d<=a.d+1/\(b.d<=a.d\/a.k=1\/a.k=2)/\(b.k=3->1<b.d/\a.k≠3)
structure kZ(t:List Nd):Prop where
 len:2<=t.length/\t.length<=100000
 head:t[0]?=some Mu
 nd:∀i n,t[i+1]?=some n->Ia n/\(n.d=1↔i=0)
 nx:∀i a b,t[i]?=some a->t[i+1]?=some b->Nx a b
theorem YE:∀(L:List Nat)(i:Nat)(n:Nd),(Fe L)[i]?=some n->Ia n/\n.d≠1
 |[],i,n,h=>by simp[Fe] at h
 |d::L,0,n,h=>by rw[o0] at h;cases h;exact⟨.inl ⟨rfl,.inr rfl,rfl⟩,by show(d:Int)+2≠1;omega⟩
 |d::L,1,n,h=>by rw[o0] at h;cases h;exact⟨.inr ⟨rfl,rfl,rfl⟩,by show(d:Int)+3≠1;omega⟩
 |d::L,i+2,n,h=>by rw[o0] at h;exact YE L i n h
theorem YD:∀(L:List Nat)(k:Nat),Ok k L->(∀d∈L,d<=198)->∀z:Nd,(z.d=(k:Int)+2/\z.k=3\/z.d=(k:Int)+1/\z.k=2)->∀(i:Nat)(a b:Nd),(z::Fe L)[i]?=some a->(z::Fe L)[i+1]?=some b->Nx a b
 |[],k,_,_,z,_,i,a,b,_,hb=>by simp[Fe] at hb
 |d::L,k,lu,hd,z,hz,i,a,b,ha,hb=>by
  have Ji:=lu.1
  have h8:=hd d (List.mem_cons_self ..)
  rw[o0] at ha hb
  match i,ha,hb with
  |0,ha,hb=>
   cases ha;cases hb
   refine⟨by show(1:Int)<=(d:Int)+2;omega,by show(d:Int)+2<=201;omega,by show(d:Int)+2<=z.d+1;omega,?_,λh=>by cases h⟩
   rcases hz with⟨h1,h2⟩|⟨h1,h2⟩
   ·left;show(d:Int)+2<=z.d;omega
   ·right;right;exact h2
  |1,ha,hb=>
   cases ha;cases hb
   exact⟨by show(1:Int)<=(d:Int)+3;omega,by show(d:Int)+3<=201;omega,by show(d:Int)+3<=(d:Int)+2+1;omega,.inr (.inr rfl),λ_=>⟨by show(1:Int)<(d:Int)+3;omega,by show(2:Int)≠3;decide⟩⟩
  |i+2,ha,hb=>exact YD L (d+1) lu.2 (λe he=>hd e (List.mem_cons_of_mem _ he)) ⟨3,(d:Int)+3,eS,iT [120]⟩ (.inl ⟨by show(d:Int)+3=((d+1:Nat):Int)+2;omega,rfl⟩) i a b ha hb
theorem Df{L:List Nat}(lu:Ok 0 L)(hd:∀d∈L,d<=198)(hL:L.length<=40000):kZ (eI L) where
 len:=by rw[jo];omega
 head:=rfl
 nd i n h:=by
  rcases i with _|i
  ·cases h;exact⟨.inl ⟨rfl,.inl rfl,rfl⟩,by simp⟩
  ·obtain⟨h1,h2⟩:=YE L i n h
   exact⟨h1,by simp[h2]⟩
 nx i a b ha hb:=by
  rcases i with _|i
  ·cases ha;cases hb
   exact⟨by decide,by decide,by decide,.inr (.inl rfl),λh=>by cases h⟩
  ·exact YD L 0 lu hd ⟨2,1,iT [97],eS⟩ (.inr ⟨rfl,rfl⟩) i a b ha hb
theorem zh{H:Heap}{ty:TypeId}{t:List Nd}{p:Option Addr}{l c:Nat}(h:rF 7 H ty (nP t) p l c):t.length=l/\∀(i:Nat)(n:Nd),t[i]?=some n->∃a,p=some a/\∀j,j<7->dj H ((a.add (i*7)).add j)=(pI n)[j]?:=by
 obtain⟨h1,h2⟩:=h.at (L:=t.map pI) (λx hx=>by obtain⟨n,_,rfl⟩:=List.mem_map.1 hx;rfl) (by decide)
 rw[List.length_map] at h1
 refine⟨h1,λi n hn=>?_⟩
 obtain⟨hi,hn⟩:=List.getElem?_eq_some_iff.1 hn
 obtain⟨a,ha,hc⟩:=h2 i (by rw[List.length_map];exact hi)
 refine⟨a,ha,λj hj=>?_⟩
 rw[hc j hj,List.getElem_map,hn]
end Go.Ex
namespace Go.Proofs.iQ
open Go.Ex
theorem OJ{H:Heap}(bs:List UInt8)(ha:∀x∈bs,x.toNat<128/\32<=x.toNat){R:Bool->Heap->Prop}(hR:∀H',Fr gz H H'->R true H'):gX.C (iT bs) H R:=by
 apply gX.calls
 unfold gX.W
 intro c hc
 refine db λH1 h1=>?_
 subst h1
 rw[jv] at hc⊢
 refine B4 (bs:=bs) (λj v hj=>?_) hc ha λH2 f2=>hR H2 ((Fr.push H _).eZ f2)
 have lC:=(List.getElem?_eq_some_iff.1 hj).1
 rw[dh (kE _ _),Nat.zero_add,kX,Array.getElem?_append_left (by simpa using lC)]
 simpa using hj
theorem K9{H:Heap}(hm:jX H){x:UInt8}(hx:x=97\/x=98){R:Bool->Heap->Prop}(hR:∀H',Fr gz H H'->R true H'):gW.C eS (iT [x]) H R:=by
 apply gW.calls
 unfold gW.W
 apply jy.calls
 unfold jy.W
 refine kY rfl (Bx hm hx λH1 f1=>iR rfl (kY rfl ?_))
 rw[decide_eq_true rfl]
 exact hR _ f1
theorem OS{H:Heap}{n:Nd}(hn:n=Mu\/(n.k=3/\n.loc=eS/\n.val=iT [120])){R:Bool->Heap->Prop}(hR:∀H',Fr gz H H'->R true H'):gY.C n.k n.d eS n.loc eS n.val none 0 0 H R:=by
 apply gY.calls
 unfold gY.W
 refine db λH1 h1=>?_
 have f1:Fr gz H H1:=h1▸Fr.new H _ _
 have b1:gT H1 (Array.size H) n:=h1▸eV
 have hv:∃bs,n.val=iT bs/\∀x∈bs,x.toNat<128/\32<=x.toNat:=by
  rcases hn with rfl|⟨_,_,h⟩
  ·exact⟨[],rfl,λx h=>by cases h⟩
  ·exact⟨[120],h,λx h=>by simp at h;subst h;decide⟩
 obtain⟨bs,hbs,hb⟩:=hv
 refine dW (λ_ H'=>Fr gz H1 H') (dW (λs H'=>s=(false,())/\Fr gz H1 H') ⟨_,b1.cell 2,e8 (λh=>h rfl) ⟨_,b1.cell 4,e8 (λh=>h rfl) ⟨_,_,_,b1.cell 6,e8 (by decide) ⟨_,b1.cell 5,?_⟩⟩⟩⟩ ?_) ?_
 ·rw[hbs];exact OJ bs hb λH2 f2=>⟨rfl,f2⟩
 ·rintro _ H2 ⟨rfl,f2⟩;exact eY rfl f2
 ·intro _ H2 f2
  have b2:=f2.fv b1 λh=>h
  have hR:=hR H2 (f1.eZ f2)
  rcases hn with rfl|⟨h3,hl,hv⟩
  ·exact⟨_,gT.cell b2 0,kY rfl ⟨_,gT.cell b2 3,kY rfl ⟨_,gT.cell b2 5,hR⟩⟩⟩
  ·refine⟨_,gT.cell b2 0,e8 (by rw[h3];decide) (kY h3 ⟨_,gT.cell b2 3,kY hl ⟨_,gT.cell b2 5,?_⟩⟩)⟩
   rw[hv]
   show R (decide (iT [120]≠(⟨#[]⟩:ByteArray))) H2
   rw[show decide (iT [120]≠(⟨#[]⟩:ByteArray))=true by decide]
   exact hR
theorem NF{H:Heap}(hm:jX H){g l:Nat}{F:Nat->Prop}(DW:kN H g F l)(hl:l<=1000000)(hF:∀k,F k->6<k){n:Nd}{x:UInt8}(hx:x=97\/x=98)(hk:n.k=2)(ahB:n.loc=iT [x])(hv:n.val=eS)
 {R:Bool->Heap->Prop}(hR:∀F' H',kN H' g F' (l+1)->Gr F F' H H'->R true H'):eQ.C n.k n.d eS n.loc eS n.val none 0 0 (some ⟨g,0,none⟩) H R:=by
 apply eQ.calls
 unfold eQ.W
 refine db λH1 h1=>?_
 have f1:Fr gz H H1:=h1▸Fr.new H _ _
 have b1:gT H1 (Array.size H) n:=h1▸eV
 refine dW (λs H'=>s=(true,())/\Fr gz H1 H') ⟨_,b1.cell 2,_,b1.cell 3,?_⟩ ?_
 ·rw[ahB]
  refine K9 (hm.oP f1) hx λH2 f2=>iR rfl ⟨_,gT.cell (f2.fv b1 λh=>h) 5,?_,f2⟩
  rw[hv,decide_eq_true rfl]
 rintro _ H2 ⟨rfl,f2⟩
 have b2:gT H2 (Array.size H) n:=f2.fv b1 λh=>h
 have sX:=f1.eZ f2
 refine nW _ _ _ _ _ _ _ _ _ (λj hj=>b2.cell j) (db λH4 h4=>?_)
 have f4:Fr gz H2 H4:=h4▸Fr.new H2 _ _
 refine o9 (cs:=(pI ⟨0,0,eS,eS⟩).toArray) (h4▸eV) rfl λH5 b5 f5=>?_
 have b5:gT H5 (Array.size H2) n:=b5
 have FT:Fr gz H H5:=(sX.eZ f4).fresh f5 λi hi=>by have:=sX.size;omega
 have l1:Array.size H<Array.size H2:=fe b2
 have b5':gT H5 (Array.size H) n:=f5.fv (f4.fv b2 λh=>h) (by omega)
 refine⟨_,_,_,b5'.cell 6,?_⟩
 apply fH.calls
 unfold fH.W
 refine iR rfl (kQ b5 (by simp[pI]) λH7 b7 f7=>?_)
 have b7:gT H7 (Array.size H2) n:=by rw[gT,b7];simp[pI]
 have vk:Fr gz H H7:=FT.fresh f7 λi hi=>by omega
 have b7':gT H7 (Array.size H) n:=f7.fv b5' (by omega)
 refine dW (λs H'=>s=(true,())/\H7=H') ⟨_,_,_,b7'.cell 6,fJ (λm s H'=>m=0/\s=(true,0,())/\H7=H') 0 ⟨rfl,rfl,rfl⟩ ?_⟩ ?_
 ·rintro m _ _ ⟨rfl,rfl,rfl⟩
  exact e8 (by decide) ⟨rfl,rfl⟩
 rintro _ _ ⟨rfl,rfl⟩
 have lF:∀i,F i->i<Array.size H:=λi hi=>by obtain⟨_,_,_,_,_,_,h5⟩:=DW;exact h5 i hi
 refine iR rfl (tT (DW.fy vk λ_ _ h=>h) (by omega) b7 (λhh=>by have:=lF _ hh;omega) λF' fg wE g11 Ur DO=>?_)
 have c11:gT fg (Array.size H) n:=g11.fr.fv b7' λhh=>by have:=lF _ hh;omega
 refine kY rfl ⟨_,Ur.cell 4,_,c11.cell 4,kY rfl ⟨_,_,_,Ur.cell 6,_,_,_,c11.cell 6,?_⟩⟩
 apply fF.calls
 unfold fF.W
 refine e8 (λh=>h rfl) (eG (fJ (λm s H'=>m=0/\s=(0,())/\fg=H') 0 ⟨rfl,rfl,rfl⟩ ?_))
 rintro m _ _ ⟨rfl,rfl,rfl⟩
 exact e8 (by decide) (hR F' fg wE ((Gr.of vk).trans g11))
end Go.Proofs.iQ
namespace Go.Ex
theorem Ia.k{n:Nd}(h:Ia n):n.k=2\/n.k=3:=h.imp (·.1) (·.1)
theorem kZ.at{t:List Nd}(h:kZ t){i:Nat}(hi:i<t.length):∃n,t[i]?=some n:=⟨_,List.getElem?_eq_getElem hi⟩
end Go.Ex
namespace Go.Proofs.iQ
open Go.Ex
theorem zg{H:Heap}{t:List Nd}{p:Option Addr}{l c:Nat}(h:rF 7 H eH (nP t) p l c){i:Nat}{n:Nd}(hi:t[i]?=some n){K:Int->Int->ByteArray->ByteArray->ByteArray->ByteArray->Option Addr->Nat->Nat->Prop}(hk:K n.k n.d eS n.loc eS n.val none 0 0):
 ∃x:Addr,p=some x/\0<=(i:Int)/\(i:Int)<(l:Int)/\kK H (x.add ((i:Int).toNat*7)) K:=by
 obtain⟨hl,oV⟩:=zh h
 obtain⟨a,ha,hc⟩:=oV i n hi
 have:=(List.getElem?_eq_some_iff.1 hi).1
 exact⟨a,ha,by omega,by omega,nW _ _ _ _ _ _ _ _ _ (λj hj=>by rw[Int.toNat_natCast,hc j hj];rfl) hk⟩
theorem Lb{H:Heap}{t:List Nd}{p:Option Addr}{l c:Nat}(h:rF 7 H eH (nP t) p l c)(ht:kZ t){i:Nat}{n:Nd}(hi:t[i]?=some n){R:Bool->Heap->Prop}(hR:∀H',Fr gz H H'->R true H'):
 fO.C p l c (i:Int) H R:=by
 apply fO.calls
 unfold fO.W
 refine zg h hi (db λH1 h1=>?_)
 have f1:Fr gz H H1:=h1▸Fr.new H _ _
 refine o9 (cs:=(pI ⟨0,0,eS,eS⟩).toArray) (h1▸eV) rfl λH2 b2 f2=>?_
 have b2:gT H2 (Array.size H) n:=b2
 have sX:Fr gz H H2:=f1.fresh f2 λi hi=>by omega
 have lC:=(List.getElem?_eq_some_iff.1 hi).1
 have hlen:=ht.len
 rcases i with _|i
 ·rw[ht.head] at hi
  cases hi
  refine dW (λ_ _=>False) (eG (kY rfl (iR rfl (kY rfl ⟨_,gT.cell b2 0,kY rfl ⟨_,gT.cell b2 1,hR _ sX⟩⟩)))) (λ_ _ h=>h.elim)
 ·obtain⟨m,hm⟩:=ht.at (i:=i) (by omega)
  obtain⟨hn,hd1⟩:=ht.nd i n hi
  obtain⟨x1,x2,x3,x4,x5⟩:=ht.nx i m n hm hi
  have hk:=hn.k
  refine dW (λ_ H'=>H2=H') (eG (e8 (by omega) ⟨_,b2.cell 0,e8 (by show¬n.k=1;omega) rfl⟩)) ?_
  rintro _ _ rfl
  have ew:IntKind.i64.wrap (((i+1:Nat):Int)-1)=(i:Int):=by rw[dM (by omega) (by omega)];omega
  rw[ew]
  refine zg (h.oP sX) hm (db λH3 h3=>?_)
  have f3:Fr gz H2 H3:=h3▸Fr.new H2 _ _
  have l2:Array.size H<Array.size H2:=fe b2
  refine o9 (cs:=(pI ⟨0,0,eS,eS⟩).toArray) (h3▸eV) rfl λH4 b4 f4=>?_
  have b4:gT H4 (Array.size H2) m:=b4
  have c4:gT H4 (Array.size H) n:=f4.fv (f3.fv b2 λh=>h) (by omega)
  have oA:Fr gz H H4:=(sX.eZ f3).fresh f4 λi hi=>by omega
  have qW:m.k=1->i=0:=λe=>by
   rcases i with _|i
   ·rfl
   ·have:=(ht.nd i m hm).1.k;omega
  have hmd:-1<=m.d/\m.d<=201:=by
   rcases i with _|i
   ·rw[ht.head] at hm;cases hm;decide
   ·obtain⟨z,hz⟩:=ht.at (i:=i) (by omega)
    have:=ht.nx i z m hz hm
    exact⟨by have:=this.1;omega,this.2.1⟩
  refine dW (λ_ H'=>H4=H') (dW (λs H'=>s=(false,())/\H4=H') ⟨_,c4.cell 1,e8 (by show¬n.d<1;omega) ⟨_,c4.cell 1,e8 (by show¬201<n.d;omega) ⟨_,c4.cell 1,_,b4.cell 1,?_,rfl⟩⟩⟩ ?_) ?_
  ·rw[dM (by show _<=m.d+1;omega) (by show m.d+1<=_;omega),decide_eq_false (by show¬m.d+1<n.d;omega)]
  ·rintro _ _ ⟨rfl,rfl⟩
   refine eY rfl (dW (λs H'=>s=(false,())/\H4=H') ⟨_,c4.cell 1,_,b4.cell 1,ft (λlC=>⟨_,b4.cell 0,ft (λh1=>⟨_,b4.cell 0,?_,rfl⟩) λ_=>⟨rfl,rfl⟩⟩) λ_=>⟨rfl,rfl⟩⟩ ?_)
   ·have lC:m.d<n.d:=lC
    have h1:m.k≠1:=h1
    have h2:m.k=2:=by omega
    rw[decide_eq_false (by show¬m.k≠2;omega)]
   ·rintro _ _ ⟨rfl,rfl⟩
    exact eY rfl rfl
  ·rintro _ _ rfl
   refine⟨_,c4.cell 0,ft (λ_=>hR _ oA) λh3=>⟨_,c4.cell 1,?_⟩⟩
   have h3:n.k=3:=Decidable.of_not_not h3
   obtain⟨y1,y2⟩:=x5 h3
   exact kY y1 ⟨_,b4.cell 0,kY y2 (hR _ oA)⟩
end Go.Proofs.iQ
namespace Go.Ex
theorem Sl.cut{H:Heap}{t:TypeId}{xs:List Value}{p:Option Addr}{l c:Nat}(h:Sl H t xs p (l+1) c):Sl H t (xs.take l) p l c:=by
 have h1:=h.1
 refine⟨by rw[List.length_take];omega,?_⟩
 rcases h.2 with⟨_,BJ,_⟩|⟨b,cs,hp,hb,pg,qX,xW⟩
 ·omega
 ·exact .inr ⟨b,cs,hp,hb,pg,by omega,λi hi=>by rw[xW i (by omega),List.getElem?_take_of_lt hi]⟩
abbrev wJ(l:List Int):List Value:=l.map (Value.int .i64)
end Go.Ex
namespace Go.Proofs.iQ
open Go.Ex
def TU(H:Heap)(g i:Nat)(p:Option Addr)(l c:Nat)(H':Heap):Prop:=∃(st:List Int)(G:Nat->Prop),Sl H' gv (wJ st) p l c/\st.length<=i/\kN H' g G st.length/\
 (∀k,G k->Array.size H<=k/\¬fw p k)/\(∀k,fw p k->Array.size H<=k)/\Fr gz H H'
theorem TU.oP{H H' mK:Heap}{g i:Nat}{p:Option Addr}{l c:Nat}(h:TU H g i p l c H')(f:Fr gz H' mK):TU H g i p l c mK:=by
 obtain⟨st,G,h1,h2,h3,h4,h5,h6⟩:=h
 exact⟨st,G,h1.fy f λ_ _ h=>h,h2,h3.fy f λ_ _ h=>h,h4,h5,h6.eZ f⟩
def U9(H:Heap)(g i N:Nat)(n:Nd)(p:Option Addr)(l c:Nat)(H':Heap):Prop:=∃(st:List Int)(G:Nat->Prop),Sl H' gv (wJ st) p l c/\st.length<=i/\kN H' g G st.length/\
 (∀k,G k->Array.size H<=k/\k<N/\¬fw p k)/\(∀k,fw p k->Array.size H<=k/\k<N)/\Fr gz H H'/\gT H' N n/\Array.size H<=N
theorem HC{H:Heap}(D8:jX H)(h7:6<Array.size H){t:List Nd}{p:Option Addr}{l c:Nat}(h:rF 7 H eH (nP t) p l c)(ht:kZ t){R:Bool->Heap->Prop}(hR:∀H',Fr gz H H'->R true H'):jB.C p l c H R:=by
 apply jB.calls
 unfold jB.W
 have hlen:=ht.len
 have hl:=(zh h).1
 refine dW (λ_ H'=>H=H') (dW (λs H'=>s=(false,())/\H=H') (e8 (by omega) ⟨?_,rfl⟩) ?_) ?_
 ·rw[decide_eq_false (by omega)]
 ·rintro _ _ ⟨rfl,rfl⟩
  exact eY rfl rfl
 rintro _ _ rfl
 refine sR λg G0 H3 s3 f3 n3=>?_
 have nil:∀i,¬fw none i:=λi⟨_,h,_⟩=>by cases h
 have gg:∀{H':Heap}{G l},kN H' g G l->g<Array.size H':=λs=>by obtain⟨_,_,_,_,_,h4,h5⟩:=s;exact h5 _ h4
 have gG:∀{H':Heap}{G l},kN H' g G l->G g:=λs=>by obtain⟨_,_,_,_,_,h4,h5⟩:=s;exact h4
 have lG:∀{H':Heap}{G l},kN H' g G l->∀k,G k->k<Array.size H':=λs=>by obtain⟨_,_,_,_,_,h4,h5⟩:=s;exact h5
 refine dW (λs H'=>s=(1,())/\Fr gz H H') (fJ (λn s H'=>∃(i:Nat)(op:Option Addr)(ol oc:Nat),i<=t.length/\n=t.length-i/\s=((if i<=1 then 0 else 1:Int),(op,ol,oc),(i:Int),())/\TU H g i op ol oc H') t.length ⟨0,none,0,0,by omega,rfl,rfl,[],G0,Sl.nil _ _,by simp,s3,(λk hk=>⟨n3 k hk,nil k⟩),(λk hk=>absurd hk (nil k)),f3⟩ ?_) ?_
 ·rintro n _ H5 ⟨i,op,ol,oc,hi,rfl,rfl,hI⟩
  refine ft (λlC=>?_) λiG=>?_
  ·have lC:i<t.length:=by have lC:(i:Int)<(l:Int):=lC;omega
   obtain⟨n,hn⟩:=ht.at lC
   refine dW (λs H'=>∃(op:Option Addr)(ol oc:Nat),s=((if i+1<=1 then 0 else 1:Int),(op,ol,oc),())/\TU H g (i+1) op ol oc H') ?_ ?_
   ·have FT:Fr gz H H5:=by obtain⟨_,_,_,_,_,_,_,h6⟩:=hI;exact h6
    refine zg (h.oP FT) hn (db λH7 g7=>?_)
    have f7:Fr gz H5 H7:=g7▸Fr.new H5 _ _
    refine o9 (cs:=(pI ⟨0,0,eS,eS⟩).toArray) (g7▸eV) rfl λH8 b8 f8=>?_
    have b8:gT H8 (Array.size H5) n:=b8
    have f58:Fr gz H5 H8:=f7.fresh f8 λi hi=>by omega
    refine Lb ((h.oP FT).oP f58) ht hn λH9 f9=>eY rfl ?_
    have b9:gT H9 (Array.size H5) n:=f9.fv b8 λh=>h
    have hI5:=hI
    have Zo:=hI.oP (f58.eZ f9)
    have l9:Array.size H5<Array.size H9:=fe b9
    have Zo:U9 H g i (Array.size H5) n op ol oc H9:=by
     obtain⟨st,G,h1,h2,h3,h4,h5,h6⟩:=hI
     have l3:=lG h3
     have f59:=f58.eZ f9
     exact⟨st,G,h1.fy f59 λ_ _ h=>h,h2,h3.fy f59 λ_ _ h=>h,λk hk=>⟨(h4 k hk).1,l3 k hk,(h4 k hk).2⟩,λk hk=>⟨h5 k hk,h1.iK hk⟩,FT.eZ f59,b9,FT.size⟩
    refine dW (λs H'=>∃(op:Option Addr)(ol oc:Nat),s=((op,ol,oc),())/\U9 H g i (Array.size H5) n op ol oc H') ?_ ?_
    ·refine fJ (λm s H'=>∃(op:Option Addr)(ol oc:Nat),ol=m/\s=((op,ol,oc),())/\U9 H g i (Array.size H5) n op ol oc H') ol ⟨op,ol,oc,rfl,rfl,Zo⟩ ?_
     rintro m _ fg ⟨op,ol,oc,rfl,rfl,hI⟩
     refine dW (λ_ H'=>fg=H'/\0<ol) (ft (λh0=>?_) λ_=>⟨op,ol,oc,rfl,hI⟩) ?_
     ·have h0:0<ol:=by have h0:(0:Int)<(ol:Int):=h0;omega
      have Sg:=hI
      obtain⟨st,G,h1,h2,h3,h4,h5,h6,h8,h9⟩:=hI
      have hsl:st.length=ol:=by have:=h1.1;simpa using this
      have ew:IntKind.i64.wrap ((ol:Int)-1)=((ol-1:Nat):Int):=by rw[dM (by omega) (by omega)];omega
      obtain⟨a,ha,hc⟩:=h1.rd.get (i:=ol-1) (v:=.int .i64 st[ol-1]) (by rw[List.getElem?_map,List.getElem?_eq_getElem (by omega)];rfl)
      show∃AI:Addr,op=some AI/\0<=IntKind.i64.wrap ((ol:Int)-1)/\IntKind.i64.wrap ((ol:Int)-1)<(ol:Int)/\ff fg (AI.add ((IntKind.i64.wrap ((ol:Int)-1)).toNat)) _
      rw[ew]
      refine⟨a,ha,by omega,by omega,_,hc,_,h8.cell 1,ft (λ_=>⟨rfl,h0⟩) λ_=>⟨op,ol,oc,rfl,Sg⟩⟩
     ·rintro _ _ ⟨rfl,h0⟩
      obtain⟨st,G,h1,h2,h3,h4,h5,h6,h8,h9⟩:=hI
      have hsl:st.length=ol:=by have:=h1.1;simpa using this
      obtain⟨k,rfl⟩:∃k,ol=k+1:=⟨ol-1,by omega⟩
      have ew:IntKind.i64.wrap (((k+1:Nat):Int)-1)=(k:Int):=by rw[dM (by omega) (by omega)];omega
      have pK:=h1.cap
      show 0<=IntKind.i64.wrap (((k+1:Nat):Int)-1)/\IntKind.i64.wrap (((k+1:Nat):Int)-1)<=(oc:Int)/\_
      rw[ew]
      refine⟨by omega,by omega,?_⟩
      rw[hsl] at h3
      refine FE h3 (by omega) λgS A0 f13=>⟨k,by omega,op,k,oc,rfl,?_,st.take k,G,?_,?_,?_,h4,h5,?_,?_,h9⟩
      ·show(((if oc=0 then op else Option.map (λq:Addr=>q.add 0) op),((k:Int).toNat)-0,oc-0),())=((op,k,oc),())
       rw[ais];simp
      ·have:=h1.cut.fy f13 λq hq e=>(h4 q (e▸gG h3)).2.2 hq
       rw[wJ,List.map_take];exact this
      ·rw[List.length_take];omega
      ·rw[List.length_take,Nat.min_eq_left (by omega)];exact A0
      ·exact h6.fresh f13 λq hq=>by subst hq;exact(h4 _ (gG h3)).1
      ·exact f13.fv h8 λe=>by have:=(h4 _ (gG h3)).2.1;omega
    ·rintro _ de ⟨op,ol,oc,rfl,st,G,h1,h2,h3,h4,h5,h6,h8,h9⟩
     have hsl:st.length=ol:=by have:=h1.1;simpa using this
     have l10:Array.size H5<Array.size de:=fe h8
     refine⟨_,h8.cell 0,ft (λhk=>?_) λhk=>?_⟩
     ·have hk:n.k≠2:=hk
      have Mc:i≠1/\(n=Mu\/(n.k=3/\n.loc=eS/\n.val=iT [120])):=by
       rcases i with _|i
       ·rw[ht.head] at hn;cases hn;exact⟨by omega,.inl rfl⟩
       ·obtain⟨o1,o2⟩:=ht.nd i n hn
        rcases o1 with o1|o1
        ·exact absurd o1.1 hk
        ·refine⟨λe=>?_,.inr o1⟩
         obtain rfl:i=0:=by omega
         have:=(ht.nx 0 _ n ht.head hn).2.2.2.2 o1.1
         have:=o2.2 rfl
         omega
      refine nW _ _ _ _ _ _ _ _ _ (λj hj=>h8.cell j) (OS Mc.2 λgK f14=>eY rfl ⟨op,ol,oc,?_,st,G,h1.fy f14 λ_ _ h=>h,by omega,h3.fy f14 λ_ _ h=>h,λk hk=>⟨(h4 k hk).1,(h4 k hk).2.2⟩,λk hk=>(h5 k hk).1,h6.eZ f14⟩)
      have:(if i<=1 then 0 else 1:Int)=(if i+1<=1 then 0 else 1:Int):=by
       have:=Mc.1
       by_cases h:i=0
       ·subst h;rfl
       ·rw[if_neg (by omega),if_neg (by omega)]
      rw[this]
     ·have hk:n.k=2:=Decidable.of_not_not hk
      have Mc:1<=i/\(n.d=1↔i=1)/\(n.loc=iT [97]\/n.loc=iT [98])/\n.val=eS:=by
       rcases i with _|i
       ·rw[ht.head] at hn;cases hn;cases hk
       ·obtain⟨o1,o2⟩:=ht.nd i n hn
        rcases o1 with o1|o1
        ·exact⟨by omega,by rw[o2];omega,o1.2⟩
        ·rw[hk] at o1;exact absurd o1.1 (by decide)
      obtain⟨x,hx,ahB⟩:∃x:UInt8,(x=97\/x=98)/\n.loc=iT [x]:=Mc.2.2.1.elim (λh=>⟨97,.inl rfl,h⟩) λh=>⟨98,.inr rfl,h⟩
      refine nW _ _ _ _ _ _ _ _ _ (λj hj=>h8.cell j) (NF (D8.oP h6) h3 (by omega) (λk hk=>by have:=(h4 k hk).1;omega) hx hk ahB Mc.2.2.2 λF' jY Aq g15=>eY rfl ?_)
      have tf:gT jY (Array.size H5) n:=g15.fr.fv h8 λhh=>by have:=(h4 _ hh).2.1;omega
      have VR:=lG Aq
      have Ve:=g15.fr.size
      refine⟨_,tf.cell 1,zN (h1.fy g15.fr λk hk hG=>(h4 k hG).2.2 hk) rfl ⟨by simp,by simp⟩ (by show(ol+1)*8<=140737488355328;omega) (by decide) λp' c' pd ZK f17 hp=>?_⟩
      have zX:gT pd (Array.size H5) n:=f17.fv tf λhh=>by have:=(h5 _ hh).2;omega
      have key:TU H g (i+1) p' (ol+1) c' pd:=by
       have d1:∀k,F' k->Array.size H<=k/\¬fw op k:=λk hk=>by
        rcases g15.up k hk with hh|hh
        ·exact⟨(h4 k hh).1,(h4 k hh).2.2⟩
        ·exact⟨by omega,λhb=>by have:=(h5 k hb).2;omega⟩
       refine⟨st++[n.d],F',by rw[wJ,List.map_append];exact ZK,by simp;omega,?_,λk hk=>⟨(d1 k hk).1,λhb=>?_⟩,λk hk=>?_,?_⟩
       ·rw[List.length_append];exact Aq.fy f17 λk hk hb=>(d1 k hk).2 hb
       ·rcases hp k hb with hh|hh
        ·exact(d1 k hk).2 hh
        ·have:=VR k hk;omega
       ·rcases hp k hk with hh|hh
        ·exact(h5 k hh).1
        ·have:=h6.size;omega
       ·exact(h6.fresh g15.fr λk hk=>(h4 k hk).1).fresh f17 λk hk=>(h5 k hk).1
      refine⟨_,zX.cell 1,ft (λhd=>?_) λhd=>?_⟩
      ·have hd:i=1:=Mc.2.1.1 hd
       refine db λr hr=>⟨p',ol+1,c',?_,key⟩
       subst hd hr
       rfl
      ·have hd:i≠1:=λe=>hd (Mc.2.1.2 e)
       refine⟨p',ol+1,c',?_,key⟩
       have:(if i<=1 then 0 else 1:Int)=(if i+1<=1 then 0 else 1:Int):=by rw[if_neg (by omega),if_neg (by omega)]
       rw[this]
   ·rintro _ H6 ⟨op,ol,oc,rfl,hI⟩
    have:IntKind.i64.wrap ((i:Int)+1)=((i+1:Nat):Int):=by rw[dM (by omega) (by omega)];omega
    exact⟨t.length-(i+1),by omega,i+1,op,ol,oc,by omega,rfl,by rw[<-this],hI⟩
  ·have iG:i=t.length:=by have iG:¬(i:Int)<(l:Int):=iG;omega
   refine⟨?_,?_⟩
   ·rw[if_neg (by omega)]
   ·obtain⟨_,_,_,_,_,_,_,h6⟩:=hI;exact h6
 ·rintro _ H4 ⟨rfl,f4⟩
  exact hR _ f4
end Go.Proofs.iQ
