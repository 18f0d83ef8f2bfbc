/- Part AV of the proof that the law TopMany answers true at every input, under no condition. -/
import Derived.Test.YtmdbfgemefalmaaGreatDoorQAU
set_option linter.unusedVariables false
set_option maxHeartbeats 2000000
set_option maxRecDepth 100000
namespace Go.Ex
def kD:Nat->List Nat->List Bool
 |o,[]=>List.replicate o false
 |o,d::D=>List.replicate (o-d) false++true::kD (d+1) D
def Ad:Nat->List Nat->Prop
 |_,[]=>True
 |o,d::D=>1<=d/\d<=o/\Ad (d+1) D
theorem acQ{o d:Nat}(h:d<o)(D:List Nat):kD o (d::D)=false::kD (o-1) (d::D):=by
 unfold kD
 rw[show o-d=(o-1-d)+1 by omega,List.replicate_succ]
 rfl
theorem Qb(d:Nat)(D:List Nat):kD d (d::D)=true::kD (d+1) D:=by
 rw[show kD d (d::D)=List.replicate (d-d) false++true::kD (d+1) D from rfl,Nat.sub_self]
 rfl
theorem acR(o:Nat):kD (o+1) []=false::kD o []:=by
 rw[show kD (o+1) []=List.replicate (o+1) false from rfl,List.replicate_succ];rfl
def Pos(m:List Bool)(e:Nat):Prop:=(∀k,0<k->k<=m.length->1<=eK m k)/\eK m m.length=(e:Int)
theorem qO(m x:List Bool){k:Nat}(h:k<=m.length):eK (m++x) k=eK m k:=by
 unfold eK rk
 rw[List.take_append_of_le_length h]
theorem zA(m:List Bool)(b:Bool):eK (m++[b]) (m.length+1)=eK m m.length+(if b=true then 1 else-1):=by
 rw[lS (by simp),qO m [b] (Nat.le_refl _)]
 simp
theorem Pos.up{m:List Bool}{e:Nat}(h:Pos m e):Pos (m++[true]) (e+1):=by
 have hs:=zA m true
 rw[h.2] at hs
 have he:eK (m++[true]) (m.length+1)=((e+1:Nat):Int):=by rw[hs];simp
 refine⟨λk h0 hk=>?_,by rw[List.length_append];exact he⟩
 rw[List.length_append] at hk
 simp only[List.length_singleton] at hk
 rcases Nat.lt_or_ge k (m.length+1) with mI|mI
 ·rw[qO _ _ (by omega)];exact h.1 k h0 (by omega)
 ·rw[show k=m.length+1 by omega,he];omega
theorem Pos.dn{m:List Bool}{e:Nat}(h:Pos m (e+1))(h0:1<=e):Pos (m++[false]) e:=by
 have hs:=zA m false
 rw[h.2] at hs
 have he:eK (m++[false]) (m.length+1)=(e:Int):=by rw[hs];simp;omega
 refine⟨λk h0 hk=>?_,by rw[List.length_append];exact he⟩
 rw[List.length_append] at hk
 simp only[List.length_singleton] at hk
 rcases Nat.lt_or_ge k (m.length+1) with mI|mI
 ·rw[qO _ _ (by omega)];exact h.1 k h0 (by omega)
 ·rw[show k=m.length+1 by omega,he];omega
theorem Pos.UX:∀(n:Nat){m:List Bool}{e:Nat},Pos m (e+n)->1<=e->Pos (m++List.replicate n false) e
 |0,m,e,h,_=>by simpa using h
 |n+1,m,e,h,h0=>by
  have h1:=Pos.dn (m:=m) (e:=e+n) (by rw[show e+n+1=e+(n+1) by omega];exact h) (by omega)
  have:=Pos.UX n h1 h0
  rw[List.append_assoc] at this
  rw[List.replicate_succ]
  exact this
structure Shp(m:List Bool)(c:Nat)(D:List Nat):Prop where
 pos:Pos m 1
 UY:m.count true=c+D.length
 at_:∀k(hk:k<D.length),∃(p:Nat)(hp:p<m.length),m[p]=true/\rk m p true=c+k/\eK m (p+1)=(D[k]:Int)+1
theorem Qa:∀(D:List Nat)(o:Nat)(pre:List Bool),1<=o->Pos pre o->Ad o D->∃m,pre++kD o D=m++[false]/\Shp m (pre.count true) D
 |[],o,pre,ho,hp,_=>by
  refine⟨pre++List.replicate (o-1) false,?_,Pos.UX (o-1) (by rw[show 1+(o-1)=o by omega];exact hp) (Nat.le_refl _),?_,λk hk=>absurd hk (Nat.not_lt_zero k)⟩
  ·rw[List.append_assoc,<-List.replicate_succ',show o-1+1=o by omega];rfl
  ·simp[List.count_replicate]
 |d::D,o,pre,ho,hp,lu=>by
  obtain⟨h1,h2,h3⟩:=lu
  have qD:Pos (pre++List.replicate (o-d) false) d:=Pos.UX (o-d) (by rw[show d+(o-d)=o by omega];exact hp) h1
  have XV:=qD.up
  obtain⟨m,hm,hs⟩:=Qa D (d+1) _ (by omega) XV h3
  have hc:(pre++List.replicate (o-d) false++[true]).count true=pre.count true+1:=by simp[List.count_append,List.count_replicate]
  have e0:pre++kD o (d::D)=m++[false]:=by
   rw[<-hm]
   show pre++(List.replicate (o-d) false++true::kD (d+1) D)=_
   simp
  have Ox:(pre++List.replicate (o-d) false).length+1<=m.length:=by
   have h:=congrArg List.length hm
   simp only[List.length_append,List.length_singleton] at h⊢
   have:1<=(kD (d+1) D).length:=by
    cases D with
    |nil=>simp[kD]
    |cons e D=>simp[kD];omega
   omega
  have yy:m=pre++List.replicate (o-d) false++[true]++m.drop ((pre++List.replicate (o-d) false).length+1):=by
   have ht:m.take ((pre++List.replicate (o-d) false).length+1)=pre++List.replicate (o-d) false++[true]:=by
    have h:=congrArg (List.take ((pre++List.replicate (o-d) false).length+1)) hm
    rw[List.take_append_of_le_length (by simp;omega),List.take_of_length_le (by simp;omega),List.take_append_of_le_length Ox] at h
    exact h.symm
   rw[<-ht,List.take_append_drop]
  refine⟨m,e0,hs.pos,by rw[hs.UY,hc,List.length_cons];omega,λk hk=>?_⟩
  rcases k with _|k
  ·refine⟨(pre++List.replicate (o-d) false).length,by omega,?_,?_,?_⟩
   ·rw[List.getElem_of_eq yy,List.getElem_append_left (by simp),List.getElem_append_right (by omega)]
    simp
   ·unfold rk
    rw[yy,List.append_assoc,List.take_left]
    simp[List.count_append,List.count_replicate]
   ·rw[yy,qO _ _ (by simp;omega),show(pre++List.replicate (o-d) false).length+1=(pre++List.replicate (o-d) false++[true]).length by simp;omega,XV.2]
    simp
  ·obtain⟨p,hp,q1,q2,q3⟩:=hs.at_ k (by simpa using hk)
   exact⟨p,hp,q1,by rw[q2,hc];omega,q3⟩
theorem yQ{D:List Nat}(h:Ad 1 D):∃m,kD 0 (0::D)=m++[false]/\Shp m 0 (0::D):=by
 have hp:Pos [true] 1:=⟨λk h0 hk=>by
  obtain rfl:k=1:=by simp at hk;omega
  decide,by decide⟩
 obtain⟨m,hm,hs⟩:=Qa D 1 [true] (by omega) hp h
 have hl:1<=m.length:=by
  have h:=congrArg List.length hm
  simp only[List.length_append,List.length_singleton] at h
  have:1<=(kD 1 D).length:=by
   cases D with
   |nil=>simp[kD]
   |cons e D=>simp[kD];omega
  omega
 have yy:∃r,m=true::r:=by
  cases m with
  |nil=>simp at hl
  |cons b r=>simp at hm;exact⟨r,by rw[hm.1]⟩
 obtain⟨r,rfl⟩:=yy
 refine⟨true::r,by rw[Qb];exact hm,hs.pos,by rw[hs.UY];simp;omega,λk hk=>?_⟩
 rcases k with _|k
 ·exact⟨0,by simp,rfl,rfl,by simp[eK,rk]⟩
 ·obtain⟨p,hp,q1,q2,q3⟩:=hs.at_ k (by simpa using hk)
  exact⟨p,hp,q1,by rw[q2];simp;omega,q3⟩
end Go.Ex
namespace Go.Ex
def kM(t:List Nd):List Nat:=t.map λn=>n.d.toNat
def Ib:Nat->List Nat->Prop
 |_,[]=>True
 |o,d::D=>d<=o/\Ib (d+1) D
theorem Ad.e:∀{D:List Nat}{o:Nat},Ad o D->Ib o D
 |[],_,_=>trivial
 |_::_,_,h=>⟨h.2.1,h.2.2.e⟩
theorem CV:∀(D:List Nat)(o:Nat),Ib o D->(kD o D).length=o+2*D.length
 |[],o,_=>by simp[kD]
 |d::D,o,h=>by
  have:=CV D (d+1) h.2
  have h1:=h.1
  show(List.replicate (o-d) false++true::kD (d+1) D).length=_
  simp[this]
  omega
theorem Xd:∀(t:List Nd)(z:Nd),0<=z.d->(∀i a b,(z::t)[i]?=some a->(z::t)[i+1]?=some b->Nx a b)->Ad (z.d.toNat+1) (kM t)
 |[],_,_,_=>trivial
 |n::t,z,hz,h=>by
  obtain⟨h1,h2,h3,_⟩:=h 0 z n rfl rfl
  refine⟨by show 1<=n.d.toNat;omega,by show n.d.toNat<=z.d.toNat+1;omega,Xd t n (by omega) λi a b ha hb=>h (i+1) a b ha hb⟩
theorem kZ.kM{t:List Nd}(h:kZ t):∃D,kM t=0::D/\Ad 1 D:=by
 have hl:=h.len
 have hh:=h.head
 match t,hh,h with
 |z::r,hh,h=>
  cases hh
  exact⟨Go.Ex.kM r,rfl,Xd r Mu (by decide) h.nx⟩
 |[],hh,_=>cases hh
theorem kZ.d0{t:List Nd}(h:kZ t){i:Nat}{n:Nd}(hn:t[i]?=some n):0<=n.d/\n.d<=201:=by
 rcases i with _|i
 ·rw[h.head] at hn;cases hn;decide
 ·obtain⟨z,hz⟩:=h.at (i:=i) (by have:=(List.getElem?_eq_some_iff.1 hn).1;omega)
  obtain⟨h1,h2,_⟩:=h.nx i z n hz hn
  omega
end Go.Ex
namespace Go.Proofs.iQ
open Go.Ex
theorem NO{H:Heap}{t:List Nd}{p:Option Addr}{l c:Nat}(h:rF 7 H eH (nP t) p l c)(ht:kZ t){R:Option Addr->Nat->Nat->Heap->Prop}
 (hR:∀p l c H',Sl H' eC ((kD 0 (kM t)).map Value.bool) p l c->Fr gz H H'->R p l c H'):fX.C p l c H R:=by
 apply fX.calls
 unfold fX.W
 obtain⟨D,hD,lu⟩:=ht.kM
 have hlen:=ht.len
 have hl:=(zh h).1
 have amK:Ib 0 (kM t):=by rw[hD];exact⟨Nat.le_refl _,lu.e⟩
 have Ox:(kD 0 (kM t)).length=2*t.length:=by rw[CV _ _ amK];simp[kM]
 have nil:∀i,¬fw none i:=λi⟨_,h,_⟩=>by cases h
 generalize hm:kD 0 (kM t)=m at*
 have push:∀{H':Heap}{a r:List Bool}{b:Bool}{p:Option Addr}{l c:Nat}{K:Option Addr->Nat->Nat->Heap->Prop},Sl H' eC (a.map Value.bool) p l c->a++b::r=m->(∀k,fw p k->Array.size H<=k)->Fr gz H H'->
  (∀p' c' mK,Sl mK eC ((a++[b]).map Value.bool) p' (l+1) c'->(∀k,fw p' k->Array.size H<=k)->Fr (λk=>Array.size H<=k) H' mK->(∀k,fw p' k->fw p k\/Array.size H'<=k)->Fr (fw p) H' mK->K p' (l+1) c' mK)->
  eX (gy H' #[.bool b] eC) λH1:Heap=>jN eC 1 1 (.bool false) p l c (.slice (some ⟨Array.size H',0,none⟩) 1 1) H1 K:=λ{H' a r b p l c K} s e hp f hk=>by
  have hal:a.length=l:=by have:=s.1;simpa using this
  have aqO:a.length+1<=m.length:=by rw[<-e];simp
  refine zN s rfl ⟨by simp,by simp⟩ (by omega) (by decide) λp' c' mK s' f' Ud=>hk p' c' mK (by rw[List.map_append];exact s') (λk hk=>(Ud k hk).elim (hp k) λhh=>by have:=f.size;omega) (f'.mono hp) Ud f'
 refine dW (λs H'=>∃(a:List Bool)(o:Nat)(p:Option Addr)(l c:Nat),s=((p,l,c),(o:Int),())/\Sl H' eC (a.map Value.bool) p l c/\a++kD o []=m/\(∀k,fw p k->Array.size H<=k)/\Fr gz H H') ?_ ?_
 ·refine fJ (λn s H'=>∃(i:Nat)(a:List Bool)(o:Nat)(p:Option Addr)(l c:Nat),i<=t.length/\n=t.length-i/\s=((p,l,c),(o:Int),(i:Int),())/\Sl H' eC (a.map Value.bool) p l c/\a++kD o ((kM t).drop i)=m/\Ib o ((kM t).drop i)/\o<=202/\(∀k,fw p k->Array.size H<=k)/\Fr gz H H') t.length
   ⟨0,[],0,none,0,0,by omega,rfl,rfl,Sl.nil _ _,by rw[List.drop_zero];exact hm,by rw[List.drop_zero];exact amK,by omega,λk hk=>absurd hk (nil k),Fr.refl _ _⟩ ?_
  rintro n _ H2 ⟨i,a,o,q,ql,qc,hi,rfl,rfl,s2,e2,k2,ho,hq,f2⟩
  refine ft (λlC=>?_) λiG=>?_
  ·have lC:i<t.length:=by have lC:(i:Int)<(l:Int):=lC;omega
   obtain⟨n,hn⟩:=ht.at lC
   have GB:=ht.d0 hn
   have afr:(kM t).drop i=n.d.toNat::(kM t).drop (i+1):=by
    have nN:i<(kM t).length:=by simp[kM];exact lC
    rw[List.drop_eq_getElem_cons nN]
    have:t[i]=n:=by rw[List.getElem?_eq_getElem lC] at hn;exact Option.some.inj hn
    simp[kM,this]
   refine dW (λs H'=>∃(a:List Bool)(p:Option Addr)(l c:Nat),s=((p,l,c),((n.d.toNat+1:Nat):Int),())/\Sl H' eC (a.map Value.bool) p l c/\a++kD (n.d.toNat+1) ((kM t).drop (i+1))=m/\(∀k,fw p k->Array.size H<=k)/\Fr gz H H') ?_ ?_
   ·refine zg (h.oP f2) hn (db λH4 g4=>?_)
    have f4:Fr gz H2 H4:=g4▸Fr.new H2 _ _
    refine o9 (cs:=(pI ⟨0,0,eS,eS⟩).toArray) (g4▸eV) rfl λH5 b5 f5=>?_
    have b5:gT H5 (Array.size H2) n:=b5
    have f25:Fr gz H2 H5:=f4.fresh f5 λi hi=>by omega
    have z2:=f2.size
    have l5:Array.size H2<Array.size H5:=fe b5
    rw[afr] at e2 k2
    refine dW (λs H'=>∃(a:List Bool)(p:Option Addr)(l c:Nat),s=((p,l,c),(n.d.toNat:Int),())/\Sl H' eC (a.map Value.bool) p l c/\a++kD n.d.toNat (n.d.toNat::(kM t).drop (i+1))=m/\(∀k,fw p k->Array.size H<=k)/\Fr gz H H') ?_ ?_
    ·refine fJ (λn' s H'=>∃(a:List Bool)(o:Nat)(p:Option Addr)(l c:Nat),n'=o-n.d.toNat/\n.d.toNat<=o/\o<=202/\s=((p,l,c),(o:Int),())/\Sl H' eC (a.map Value.bool) p l c/\a++kD o (n.d.toNat::(kM t).drop (i+1))=m/\(∀k,fw p k->Array.size H<=k/\k≠Array.size H2)/\Fr gz H H'/\gT H' (Array.size H2) n) _
      ⟨a,o,q,ql,qc,rfl,k2.1,ho,rfl,s2.fy f25 λ_ _ h=>h,e2,λk hk=>⟨hq k hk,λe=>by have:=s2.iK hk;omega⟩,f2.eZ f25,b5⟩ ?_
     rintro _ _ H7 ⟨a,o,p,l,c,rfl,FR,ho,rfl,s7,e7,hp,f7,b7⟩
     refine⟨_,b7.cell 1,ft (λlC=>?_) λiG=>⟨a,p,l,c,?_,s7,?_,λk hk=>(hp k hk).1,f7⟩⟩
     ·have lC:n.d<(o:Int):=lC
      have lC:n.d.toNat<o:=by omega
      rw[acQ lC] at e7
      refine push s7 e7 (λk hk=>(hp k hk).1) f7 λp' c' H9 s9 qC f9 PD f9'=>db λr hr=>⟨o-1-n.d.toNat,by omega,a++[false],o-1,p',l+1,c',rfl,by omega,by omega,?_,s9,by rw[List.append_assoc];exact e7,λk hk=>⟨qC k hk,λe=>?_⟩,f7.fresh f9 λk hk=>hk,f9'.fv b7 λhh=>(hp _ hh).2 rfl⟩
      ·have hr:r=IntKind.i64.wrap ((o:Int)-1):=hr
       rw[hr,dM (by omega) (by omega),show(o:Int)-1=((o-1:Nat):Int) by omega]
      ·have:=fe b7
       rcases PD k hk with hh|hh
       ·exact(hp k hh).2 e
       ·omega
     ·have iG:¬n.d<(o:Int):=iG
      rw[show o=n.d.toNat by omega]
     ·have iG:¬n.d<(o:Int):=iG
      rw[show o=n.d.toNat by omega] at e7
      exact e7
    ·rintro _ H6 ⟨a,p,l,c,rfl,s6,e6,hp,f6⟩
     rw[Qb] at e6
     refine push s6 e6 hp f6 λp' c' H9 s9 qC f9 PD _=>db λr hr=>⟨a++[true],p',l+1,c',?_,s9,by rw[List.append_assoc];exact e6,qC,f6.fresh f9 λk hk=>hk⟩
     have hr:r=IntKind.i64.wrap ((n.d.toNat:Int)+1):=hr
     rw[hr,dM (by omega) (by omega),show(n.d.toNat:Int)+1=((n.d.toNat+1:Nat):Int) by omega]
   ·rintro _ H3 ⟨a,p,l,c,rfl,s3,e3,hp,f3⟩
    have:IntKind.i64.wrap ((i:Int)+1)=((i+1:Nat):Int):=by rw[dM (by omega) (by omega)];omega
    rw[afr] at k2
    exact⟨t.length-(i+1),by omega,i+1,a,n.d.toNat+1,p,l,c,by omega,rfl,by rw[<-this],s3,e3,k2.2,by omega,hp,f3⟩
  ·have iG:i=t.length:=by have iG:¬(i:Int)<(l:Int):=iG;omega
   refine⟨a,o,q,ql,qc,rfl,s2,?_,hq,f2⟩
   rw[List.drop_eq_nil_of_le (by simp[kM];omega)] at e2
   exact e2
 ·rintro _ H1 ⟨a,o,p,l,c,rfl,s1,e1,hp,f1⟩
  refine dW (λs H'=>∃(p:Option Addr)(l c:Nat),s=((p,l,c),())/\Sl H' eC (m.map Value.bool) p l c/\Fr gz H H') ?_ ?_
  ·refine fJ (λn' s H'=>∃(a:List Bool)(p:Option Addr)(l c:Nat),s=((p,l,c),(n':Int),())/\Sl H' eC (a.map Value.bool) p l c/\a++kD n' []=m/\n'<=4194304/\(∀k,fw p k->Array.size H<=k)/\Fr gz H H') o
    ⟨a,p,l,c,rfl,s1,e1,?_,hp,f1⟩ ?_
   ·have:=congrArg List.length e1
    simp[kD] at this
    omega
   rintro o _ H7 ⟨a,p,l,c,rfl,s7,e7,ho,hp,f7⟩
   refine ft (λlC=>?_) λiG=>⟨p,l,c,rfl,?_,f7⟩
   ·have lC:(0:Int)<(o:Int):=lC
    obtain⟨o,rfl⟩:∃o',o=o'+1:=⟨o-1,by omega⟩
    rw[acR] at e7
    refine push s7 e7 hp f7 λp' c' H9 s9 qC f9 PD _=>db λr hr=>⟨o,by omega,a++[false],p',l+1,c',?_,s9,by rw[List.append_assoc];exact e7,by omega,qC,f7.fresh f9 λk hk=>hk⟩
    have hr:r=IntKind.i64.wrap (((o+1:Nat):Int)-1):=hr
    rw[hr,dM (by omega) (by omega),show((o+1:Nat):Int)-1=(o:Int) by omega]
   ·have iG:¬(0:Int)<(o:Int):=iG
    obtain rfl:o=0:=by omega
    have:a=m:=by simpa[kD] using e7
    rw[<-this];exact s7
  ·rintro _ H' ⟨p,l,c,rfl,s,f⟩
   exact hR p l c H' s f
end Go.Proofs.iQ
namespace Go.Ex
def LC(k:Int)(l:ByteArray):Value:=.agg #[.int .i64 k,.string eS,.string l,.string eS]
def uY:Nat->Value
 |0=>LC 1 eS
 |1=>LC 2 (iT [97])
 |2=>LC 2 (iT [98])
 |_=>LC 3 eS
def entry(j:Nat):MapEntry:={key:=uY j,val:=.iface 3 (.int .i64 (j:Int)),born:=j}
def Hn(n:Nat):Array MapEntry:=((List.range n).map entry).toArray
theorem Yw(n:Nat):(Hn n).push (entry n)=Hn (n+1):=by
 unfold Hn
 rw[List.range_succ,List.map_append]
 simp
def tR:List Nd:=[⟨1,0,eS,eS⟩,⟨2,0,iT [97],eS⟩,⟨2,0,iT [98],eS⟩,⟨3,0,eS,eS⟩]
def tg(n:Nd):Nat:=if n.k=1 then 0 else if n.k=3 then 3 else if n.loc=iT [97] then 1 else 2
def tX(n:Nd):Prop:=n=Mu\/Ia n
theorem Eo(n:Nd):tg n<4:=by unfold tg;split;· decide
                            split;· decide
                            split<;>decide
theorem ND{n:Nd}(h:tX n):uY (tg n)=LC n.k n.loc/\tR[tg n]?=some ⟨n.k,0,n.loc,eS⟩:=by
 rcases h with rfl|⟨hk,hl,_⟩|⟨hk,hl,_⟩
 ·exact⟨rfl,rfl⟩
 ·rcases hl with hl|hl
  ·have:tg n=1:=by unfold tg;rw[if_neg (by omega),if_neg (by omega),if_pos hl]
   rw[this,hk,hl];exact⟨rfl,rfl⟩
  ·have:tg n=2:=by unfold tg;rw[if_neg (by omega),if_neg (by omega),if_neg (by rw[hl];decide)]
   rw[this,hk,hl];exact⟨rfl,rfl⟩
 ·have:tg n=3:=by unfold tg;rw[if_neg (by omega),if_pos hk]
  rw[this,hk,hl];exact⟨rfl,rfl⟩
theorem kZ.tX{t:List Nd}(h:kZ t){i:Nat}{n:Nd}(hn:t[i]?=some n):tX n:=by
 rcases i with _|i
 ·rw[h.head] at hn;cases hn;exact .inl rfl
 ·exact .inr (h.nd i n hn).1
structure aiK(t:List Nd):Prop where
 len:4<=t.length
 fst:∀i n,t[i]?=some n->i<4->tg n=i
theorem afG{H H1:Heap}{el bytes t1:Nat}{z v:Value}{xs:List Value}{p:Option Addr}{l c:Nat}{K:Option Addr->Nat->Nat->Heap->Prop}(hs:Sl H el xs p l c)(h1:H1=gy H #[v] t1)(hz:dD z=[z])(ur:One v)(hb:(l+1)*bytes<=140737488355328)(qK:bytes≠0)
 (hK:∀p' c' H',Sl H' el (xs++[v]) p' (l+1) c'->Fr (fw p) H H'->(∀k,fw p' k->fw p k\/Array.size H<=k)->K p' (l+1) c' H'):
 jN el 1 bytes z p l c (.slice (some ⟨Array.size H,0,none⟩) 1 1) H1 K:=by
 subst h1
 exact zN (t1:=t1) hs hz ur hb qK hK
theorem rF.ty{s:Nat}{H:Heap}{t:TypeId}{xs:List Value}{p:Option Addr}{l c:Nat}(h:rF s H t xs p l c){k:Nat}(hk:fw p k):∃cs,H[k]?=some (.cells cs t (0,0)):=by
 obtain⟨a,ha,rfl⟩:=hk
 rcases h.2 with⟨hp,_⟩|⟨b,cs,hp,hb,_⟩
 ·rw[hp] at ha;cases ha
 ·rw[hp] at ha;cases ha;exact⟨cs,hb⟩
theorem oR{H:Heap}{k:Nat}{cs As:Array Value}{t u:TypeId}{f f':Nat×Nat}(h:H[k]?=some (.cells cs t f))(h':H[k]?=some (.cells As u f'))(hZ:t≠u):False:=by
 rw[h] at h';cases h';exact hZ rfl
theorem AU{H:Heap}{k:Nat}{cs:Array Value}{t:TypeId}{f:Nat×Nat}{es:Array MapEntry}{ck:Nat}(h:H[k]?=some (.cells cs t f))(h':H[k]?=some (.map es ck)):False:=by
 rw[h] at h';cases h'
end Go.Ex
namespace Go.Proofs.iQ
open Go.Ex
theorem aq9(em)(w:World):(Instr.checkKey em 10000 jT (uY 0)).run Tryz.prog w=.ok () w:=by kernel_rfl
theorem aq8(em)(w:World):(Instr.checkKey em 10000 jT (uY 1)).run Tryz.prog w=.ok () w:=by kernel_rfl
theorem aq7(em)(w:World):(Instr.checkKey em 10000 jT (uY 2)).run Tryz.prog w=.ok () w:=by kernel_rfl
theorem aq6(em)(w:World):(Instr.checkKey em 10000 jT (uY 3)).run Tryz.prog w=.ok () w:=by kernel_rfl
theorem apY(w:World):(Instr.findKey jT (uY 0) (Hn 0).toList).run Tryz.prog w=.ok none w:=by kernel_rfl
theorem apX(w:World):(Instr.findKey jT (uY 1) (Hn 1).toList).run Tryz.prog w=.ok none w:=by kernel_rfl
theorem apW(w:World):(Instr.findKey jT (uY 2) (Hn 2).toList).run Tryz.prog w=.ok none w:=by kernel_rfl
theorem apV(w:World):(Instr.findKey jT (uY 3) (Hn 3).toList).run Tryz.prog w=.ok none w:=by kernel_rfl
theorem ari(w:World):(Instr.findKey jT (uY 0) (Hn 4).toList).run Tryz.prog w=.ok (some (0,.iface gv (.int .i64 0))) w:=by kernel_rfl
theorem arh(w:World):(Instr.findKey jT (uY 1) (Hn 4).toList).run Tryz.prog w=.ok (some (1,.iface gv (.int .i64 1))) w:=by kernel_rfl
theorem arf(w:World):(Instr.findKey jT (uY 2) (Hn 4).toList).run Tryz.prog w=.ok (some (2,.iface gv (.int .i64 2))) w:=by kernel_rfl
theorem are(w:World):(Instr.findKey jT (uY 3) (Hn 4).toList).run Tryz.prog w=.ok (some (3,.iface gv (.int .i64 3))) w:=by kernel_rfl
theorem aq5{g:Nat}(h:g<4)(em)(w:World):(Instr.checkKey em 10000 jT (uY g)).run Tryz.prog w=.ok () w:=by
 rcases(show g=0\/g=1\/g=2\/g=3 by omega) with rfl|rfl|rfl|rfl
 ·exact aq9 em w
 ·exact aq8 em w
 ·exact aq7 em w
 ·exact aq6 em w
theorem noK{g:Nat}(h:g<4)(w:World):(Instr.findKey jT (uY g) (Hn g).toList).run Tryz.prog w=.ok none w:=by
 rcases(show g=0\/g=1\/g=2\/g=3 by omega) with rfl|rfl|rfl|rfl
 ·exact apY w
 ·exact apX w
 ·exact apW w
 ·exact apV w
theorem atK{g:Nat}(h:g<4)(w:World):(Instr.findKey jT (uY g) (Hn 4).toList).run Tryz.prog w=.ok (some (g,.iface gv (.int .i64 (g:Int)))) w:=by
 rcases(show g=0\/g=1\/g=2\/g=3 by omega) with rfl|rfl|rfl|rfl
 ·exact ari w
 ·exact arh w
 ·exact arf w
 ·exact are w
theorem N2{H:Heap}{R:ByteArray->Heap->Prop}(hR:∀H',Fr gz H H'->R eS H'):dT.C none 0 0 H R:=by
 apply dT.calls
 unfold dT.W
 refine db λH1 h1=>?_
 have f1:Fr gz H H1:=h1▸Fr.new H _ _
 have b1:H1[Array.size H]?=some (.cells #[.pointer none,.slice none 0 0] lz (0,0)):=h1▸eV
 refine eG (fJ (λn s H'=>n=0/\s=(0,())/\H1=H') 0 ⟨rfl,rfl,rfl⟩ ?_)
 rintro n _ _ ⟨rfl,rfl,rfl⟩
 exact e8 (by decide) (rE b1 (o:=0) rfl (bs:=[]) (Sl.nil _ _) (λh=>by cases h) (by decide) λH2 f2=>hR H2 (f1.trans f2 λk⟨_,h,_⟩=>by cases h))
structure BI(H:Heap)(t:List Nd)(B M i nn:Nat)(np:Option Addr)(nc:Nat)(tp:Option Addr)(tl tc:Nat)(xp:Option Addr)(xl xc:Nat)(ap:Option Addr)(al ac:Nat)(H':Heap):Prop where
 fv:H'[B]?=some (.cells #[.pointer none,.pointer none,.pointer none,.slice np nn nc,.pointer none] iH (0,0))
 map:H'[M]?=some (.map (Hn nn) nn)
 yg:rF 7 H' eH (nP (tR.take nn)) np nn nc
 tN:Sl H' gv (((t.take i).map tg).map A4) tp tl tc
 wN:Sl H' dZ ((t.take i).map λn=>.string n.val) xp xl xc
 zZ:Sl H' dZ (List.replicate i (.string eS)) ap al ac
 wh:∀k,fw xp k->¬fw ap k
 new:Array.size H<=B/\Array.size H<=M/\∀k,fw np k\/fw tp k\/fw xp k\/fw ap k->Array.size H<=k
 fr:Fr gz H H'
def afF(N5:Nat)(pC:Option Addr)(pD pE:Nat)(mT:Option Addr)(mU mV:Nat)(nA:Option Addr)(nC nD:Nat)(J18:((Option Addr×Nat×Nat)×(Option Addr×Nat×Nat)×(Option Addr×Nat×Nat)×Unit)->Heap->Prop)(T8:Int)(fg:Heap):Prop:=
 eX (gy fg #[.int .i64 T8] gv) λlW:Heap=>jN gv 1 8 (.int .i64 0) pC pD pE (.slice (some ⟨Array.size fg,0,none⟩) 1 1) lW λDt Du Dv pd=>im pd ((⟨N5,0,none⟩:Addr).add 5) λFV=>eO pd ((⟨N5,0,none⟩:Addr).add 6) λsi sj sn=>
 eX (gy pd #[.string FV] dZ) λuo:Heap=>(eO uo ((⟨N5,0,none⟩:Addr).add 6) λqp qs qt=>(.slice qp qs qt:Value)=.slice si sj sn)/\jN dZ 1 16 (.string (⟨#[]⟩:ByteArray)) mT mU mV (.slice (some ⟨Array.size pd,0,none⟩) 1 1) uo λGv Dr Gw pk=>(eO pk ((⟨N5,0,none⟩:Addr).add 6) λqp qs qt=>(.slice qp qs qt:Value)=.slice si sj sn)/\dT.C (si) sj sn pk λZE xZ=>
 eX (gy xZ #[.string ZE] dZ) λrG:Heap=>jN dZ 1 16 (.string (⟨#[]⟩:ByteArray)) nA nC nD (.slice (some ⟨Array.size xZ,0,none⟩) 1 1) rG λKr Kt Ku ux=>J18 ((Dt,Du,Dv),(Gv,Dr,Gw),(Kr,Kt,Ku),()) ux
theorem Ft{H fg:Heap}{t:List Nd}{B M i nn N5:Nat}{np tp xp ap:Option Addr}{nc tl tc xl xc al ac:Nat}(s:BI H t B M i nn np nc tp tl tc xp xl xc ap al ac fg){n:Nd}(hn:t[i]?=some n)(hi:i<=100000)(b5:gT fg N5 n)(h5:¬fw np N5){J:((Option Addr×Nat×Nat)×(Option Addr×Nat×Nat)×(Option Addr×Nat×Nat)×Unit)->Heap->Prop}
 (hJ:∀xk Ap xm Z8 wx tM Aa CN Ab H',BI H t B M (i+1) nn np nc xk Ap xm Z8 wx tM Aa CN Ab H'->J ((xk,Ap,xm),(Z8,wx,tM),(Aa,CN,Ab),()) H'):afF N5 tp tl tc xp xl xc ap al ac J ((tg n:Nat):Int) fg:=by
 have lC:=(List.getElem?_eq_some_iff.1 hn).1
 have tk:t.take (i+1)=t.take i++[n]:=by rw[List.take_add_one,hn];rfl
 have el:(t.take i).length=i:=by rw[List.length_take];omega
 have e1:tl=i:=by have:=s.tN.1;simp at this;omega
 have e2:xl=i:=by have:=s.wN.1;simp at this;omega
 have e3:al=i:=by have:=s.zZ.1;simp at this;omega
 subst e1 e2 e3
 unfold afF
 have z:=s.fr.size
 refine zN s.tN rfl ⟨by simp,by simp⟩ (by omega) (by decide) λxk xm pd ZK f17 I1=>?_
 have dt:∀{k:Nat}{cs:Array Value}{u:TypeId}{f:Nat×Nat},fg[k]?=some (.cells cs u f)->gv≠u->¬fw tp k:=λh hZ hk=>by obtain⟨_,h'⟩:=s.tN.ty hk;exact oR h' h hZ
 have zX:gT pd N5 n:=f17.fv b5 (dt b5 (by decide))
 have rK:=s.wN.fy f17 λk hk=>by obtain⟨_,h'⟩:=s.wN.ty hk;exact dt h' (by decide)
 have a17:=s.zZ.fy f17 λk hk=>by obtain⟨_,h'⟩:=s.zZ.ty hk;exact dt h' (by decide)
 have JL:=s.yg.fy f17 λk hk=>by obtain⟨_,h'⟩:=s.yg.ty hk;exact dt h' (by decide)
 have d17:=f17.fv s.fv (dt s.fv (by decide))
 have m17:=f17.fv s.map λhk=>by obtain⟨_,h'⟩:=s.tN.ty hk;exact AU h' s.map
 refine⟨_,zX.cell 5,_,_,_,zX.cell 6,db λuo Zx=>⟨⟨_,_,_,gT.cell ((Zx▸Fr.new pd _ _:Fr gz pd uo).fv zX λh=>h) 6,rfl⟩,?_⟩⟩
 refine afG rK Zx rfl ⟨by simp,by simp⟩ (by omega) (by decide) λZ8 tM pk CX f19 DJ=>?_
 have dx:∀{k:Nat}{cs:Array Value}{u:TypeId}{f:Nat×Nat},pd[k]?=some (.cells cs u f)->dZ≠u->¬fw xp k:=λh hZ hk=>by obtain⟨_,h'⟩:=rK.ty hk;exact oR h' h hZ
 have b19:gT pk N5 n:=f19.fv zX (dx zX (by decide))
 have t19:=ZK.fy f19 λk hk=>by obtain⟨_,h'⟩:=ZK.ty hk;exact dx h' (by decide)
 have U7:=a17.fy f19 λk hk hx=>s.wh k hx hk
 have Od:=JL.fy f19 λk hk=>by obtain⟨_,h'⟩:=JL.ty hk;exact dx h' (by decide)
 have d19:=f19.fv d17 (dx d17 (by decide))
 have m19:=f19.fv m17 λhk=>by obtain⟨_,h'⟩:=rK.ty hk;exact AU h' m17
 refine⟨⟨_,_,_,b19.cell 6,rfl⟩,N2 λxZ f20=>?_⟩
 have z17:=f17.size
 have z19:=f19.size
 have z20:=f20.size
 refine zN (U7.fy f20 λ_ _ h=>h) rfl ⟨by simp,by simp⟩ (by omega) (by decide) λAa Ab ux ZJ f22 VD=>?_
 have Hm:Fr (fw ap) pk ux:=(f20.mono λ_ h=>h.elim).trans f22 λk hk=>.inl hk
 have da:∀{k:Nat}{cs:Array Value}{u:TypeId}{f:Nat×Nat},pk[k]?=some (.cells cs u f)->dZ≠u->¬fw ap k:=λh hZ hk=>by obtain⟨_,h'⟩:=U7.ty hk;exact oR h' h hZ
 have aiU:∀k,fw Z8 k->¬fw ap k:=λk hk ha=>by
  rcases DJ k hk with hh|hh
  ·exact s.wh k hh ha
  ·have:=a17.iK ha;omega
 have z22:=f22.size
 refine hJ _ _ _ _ _ _ _ _ _ ux ⟨Hm.fv d19 (da d19 (by decide)),Hm.fv m19 (λhk=>by obtain⟨_,h'⟩:=U7.ty hk;exact AU h' m19),Od.fy Hm (λk hk=>by obtain⟨_,h'⟩:=Od.ty hk;exact da h' (by decide)),?_,?_,?_,λk hk ha=>?_,⟨s.new.1,s.new.2.1,λk hk=>?_⟩,?_⟩
 ·rw[tk,List.map_append,List.map_append]
  exact t19.fy Hm λk hk=>by obtain⟨_,h'⟩:=t19.ty hk;exact da h' (by decide)
 ·rw[tk,List.map_append]
  exact CX.fy Hm aiU
 ·rw[List.replicate_succ']
  exact ZJ
 ·rcases VD k ha with hh|hh
  ·exact aiU k hk hh
  ·have:=CX.iK hk;omega
 ·rcases hk with hk|hk|hk|hk
  ·exact s.new.2.2 k (.inl hk)
  ·rcases I1 k hk with hh|hh
   ·exact s.new.2.2 k (.inr (.inl hh))
   ·omega
  ·rcases DJ k hk with hh|hh
   ·exact s.new.2.2 k (.inr (.inr (.inl hh)))
   ·omega
  ·rcases VD k hk with hh|hh
   ·exact s.new.2.2 k (.inr (.inr (.inr hh)))
   ·omega
 ·exact((s.fr.fresh f17 λk hk=>s.new.2.2 k (.inr (.inl hk))).fresh f19 λk hk=>s.new.2.2 k (.inr (.inr (.inl hk)))).fresh Hm λk hk=>s.new.2.2 k (.inr (.inr (.inr hk)))
end Go.Proofs.iQ
namespace Go.Proofs.iQ
open Go.Ex
theorem SY{H de fZ:Heap}{t:List Nd}{B M i nn N5:Nat}{np tp xp ap:Option Addr}{nc tl tc xl xc al ac:Nat}(s:BI H t B M i nn np nc tp tl tc xp xl xc ap al ac de){n:Nd}(hn:tX n)(qE:tg n=nn)(b5:gT de N5 n)(h5:¬fw np N5)(hB:N5≠B)(hM:N5≠M)
 (Kb:fZ=Array.setIfInBounds de M (.map ((Hn nn).push {key:=.agg #[.int .i64 n.k,.string eS,.string n.loc,.string eS],val:=.iface gv (.int .i64 (nn:Int)),born:=nn}) (nn+1)))
 {J:Heap->Prop}(hJ:∀yb PJ H',BI H t B M i (nn+1) yb PJ tp tl tc xp xl xc ap al ac H'->gT H' N5 n->¬fw yb N5->J H'):
 ∃yk:Addr,some (⟨B,0,none⟩:Addr)=some yk/\eO fZ (yk.add 3) λrf rh ri=>ff fZ ((⟨N5,0,none⟩:Addr).add 0) λJW=>im fZ ((⟨N5,0,none⟩:Addr).add 2) λJU=>im fZ ((⟨N5,0,none⟩:Addr).add 3) λPv=>im fZ ((⟨N5,0,none⟩:Addr).add 4) λx67=>
 eX (gy fZ #[.int .i64 JW,.int .i64 0,.string JU,.string Pv,.string x67,.string (⟨#[]⟩:ByteArray),.slice none 0 0] eH) λgS:Heap=>(eO gS (yk.add 3) λDB DC DD=>(.slice DB DC DD:Value)=.slice rf rh ri)/\jN eH 7 104 (.agg #[.int .i64 0,.int .i64 0,.string (⟨#[]⟩:ByteArray),.string (⟨#[]⟩:ByteArray),.string (⟨#[]⟩:ByteArray),.string (⟨#[]⟩:ByteArray),.slice none 0 0]) rf rh ri (.slice (some ⟨Array.size fZ,0,none⟩) 1 1) gS λDw Dx Dy gK=>
 ∃T1:Addr,some (⟨B,0,none⟩:Addr)=some T1/\sV (.slice Dw Dx Dy) (T1.add 3) gK J:=by
 have hk:=ND hn
 rw[qE] at hk
 have lM:=fe s.map
 have m12:fZ[M]?=some (.map (Hn (nn+1)) (nn+1)):=by
  rw[Kb,mn lM,<-Yw]
  have:entry nn={key:=.agg #[.int .i64 n.k,.string eS,.string n.loc,.string eS],val:=.iface gv (.int .i64 (nn:Int)),born:=nn}:=by
   unfold entry
   rw[hk.1]
   rfl
  rw[this]
 have f12:Fr (λk=>k=M) de fZ:=Kb▸Fr.uO _ _ _
 have nM:∀{k:Nat}{cs:Array Value}{u:TypeId}{f:Nat×Nat},de[k]?=some (.cells cs u f)->k≠M:=λh e=>AU (e▸h) s.map
 have d12:=f12.fv s.fv (nM s.fv)
 have TG:gT fZ N5 n:=f12.fv b5 (nM b5)
 have JM:=s.yg.fy f12 λk hk=>by obtain⟨_,h'⟩:=s.yg.ty hk;exact nM h'
 have t12:=s.tN.fy f12 λk hk=>by obtain⟨_,h'⟩:=s.tN.ty hk;exact nM h'
 have lX:=s.wN.fy f12 λk hk=>by obtain⟨_,h'⟩:=s.wN.ty hk;exact nM h'
 have a12:=s.zZ.fy f12 λk hk=>by obtain⟨_,h'⟩:=s.zZ.ty hk;exact nM h'
 have asB:nn<4:=qE▸Eo n
 refine⟨_,rfl,_,_,_,(dh d12 0 3).trans rfl,_,TG.cell 0,_,TG.cell 2,_,TG.cell 3,_,TG.cell 4,db λgS Um=>?_⟩
 have f13:Fr gz fZ gS:=Um▸Fr.new fZ _ _
 refine⟨⟨_,_,_,(dh (f13.fv d12 λh=>h) 0 3).trans rfl,rfl⟩,Rl (new:=pI ⟨n.k,0,n.loc,eS⟩) JM Um rfl (C1 _) (C0 _) (by omega) (by decide) λp' c' gK IL f14 DK=>?_⟩
 have dn:∀{k:Nat}{cs:Array Value}{u:TypeId}{f:Nat×Nat},fZ[k]?=some (.cells cs u f)->eH≠u->¬fw np k:=λh hZ hk=>by obtain⟨_,h'⟩:=JM.ty hk;exact oR h' h hZ
 have d14:=f14.fv d12 (dn d12 (by decide))
 have l12:=f12.size
 have lB:=fe d12
 have l5:=fe TG
 have pB:¬fw p' B:=λhh=>(DK B hh).elim (dn d12 (by decide)) λhh=>by omega
 refine⟨_,rfl,kQ d14 (by simp) λjY d15 f15=>?_⟩
 have fb:∀{k:Nat}{x:Obj},fZ[k]?=some x->¬fw np k->k≠B->jY[k]?=some x:=λh h1 h2=>f15.fv (f14.fv h h1) h2
 have Xz:∀{k:Nat},(∃cs u,fZ[k]?=some (.cells cs u (0,0))/\eH≠u/\u≠iH)->¬fw np k/\k≠B:=λ⟨cs,u,h,h1,h2⟩=>⟨dn h h1,λe=>oR (e▸h) d12 h2⟩
 have Q1:Fr (λk=>fw np k\/k=B) fZ jY:=(f14.mono λk h=>.inl h).trans f15 λk h=>.inl (.inr h)
 refine hJ p' c' jY ⟨?_,fb m12 (λhk=>by obtain⟨_,h'⟩:=JM.ty hk;exact AU h' m12) (λe=>AU (e▸d12:fZ[M]?=_) m12),?_,?_,?_,?_,s.wh,⟨s.new.1,s.new.2.1,λk hk=>?_⟩,?_⟩ (fb TG h5 hB) λhh=>?_
 ·rw[d15];simp
 ·have:tR.take (nn+1)=tR.take nn++[⟨n.k,0,n.loc,eS⟩]:=by rw[List.take_add_one,hk.2];rfl
  rw[this,<-vO]
  exact IL.fy f15 λk hk e=>pB (e▸hk)
 ·exact t12.fy Q1 λk hk=>by obtain⟨_,h'⟩:=t12.ty hk;have:=Xz ⟨_,_,h',by decide,by decide⟩;exactλhh=>hh.elim this.1 this.2
 ·exact lX.fy Q1 λk hk=>by obtain⟨_,h'⟩:=lX.ty hk;have:=Xz ⟨_,_,h',by decide,by decide⟩;exactλhh=>hh.elim this.1 this.2
 ·exact a12.fy Q1 λk hk=>by obtain⟨_,h'⟩:=a12.ty hk;have:=Xz ⟨_,_,h',by decide,by decide⟩;exactλhh=>hh.elim this.1 this.2
 ·rcases hk with hk|hk
  ·rcases DK k hk with hh|hh
   ·exact s.new.2.2 k (.inl hh)
   ·have:=s.fr.size;omega
  ·exact s.new.2.2 k (.inr hk)
 ·refine(s.fr.fresh f12 λk hk=>hk▸s.new.2.1).fresh Q1 λk hk=>hk.elim (λh=>s.new.2.2 k (.inl h)) λh=>h▸s.new.1
 ·rcases DK _ hh with h|h
  ·exact h5 h
  ·omega
end Go.Proofs.iQ
namespace Go.Proofs.iQ
open Go.Ex
structure oT(H:Heap)(b gs gw N U:Nat)(t:List Nd):Prop where
 fv:∃gp ga np nc,H[b]?=some (.cells #[.pointer (some ⟨gs,0,none⟩),.pointer (some ⟨gw,0,none⟩),.pointer (some ⟨gp,0,none⟩),.slice np 4 nc,.pointer (some ⟨ga,0,none⟩)] iH (0,0))/\
  rF 7 H eH (nP tR) np 4 nc/\vr N U H gp (t.map Nd.val)/\vr N U H ga (List.replicate t.length eS)/\∀k,fw np k->k≠gs/\k≠gw/\k<U
 pb:∃F,PB H gs (kD 0 (kM t)) F/\¬F gw/\∀k,F k->k<U
 wb:∃F,WB H gw (t.map tg) 4 F/\¬F gs/\∀k,F k->k<U
 ne:b≠gs/\b≠gw/\b<U
 lt:gs<N/\gw<N
 Z0:CA H
 nd:mG≠gs/\mG≠gw/\mG<U
 up:U<=Array.size H
abbrev gF(gs gw:Nat):Nat->Prop:=λk=>k=gs\/k=gw
theorem YJ{H H':Heap}{F:Nat->Prop}(h:CA H)(f:Fr F H H')(hn:¬F mG):CA H':=λi hi=>f.cell (h i hi) λhh=>hn (by rw[ke] at hh;exact hh)
theorem PB.fy{H H':Heap}{g:Nat}{m:List Bool}{F G:Nat->Prop}(h:PB H g m F)(f:Fr G H H')(hd:∀k,F k->¬G k):PB H' g m F:=by
 obtain⟨a,b,c,p⟩:=h
 exact⟨a,b,c,p.fy f hd⟩
theorem oT.step{H H':Heap}{b gs gw N U:Nat}{t:List Nd}(s:oT H b gs gw N U t){G:Nat->Prop}(f:Fr G H H')(hG:∀k,G k->k=gs\/k=gw\/U<=k)(hp:∃F,PB H' gs (kD 0 (kM t)) F/\¬F gw/\∀k,F k->k<U)(hw:∃F,WB H' gw (t.map tg) 4 F/\¬F gs/\∀k,F k->k<U):oT H' b gs gw N U t:=by
 obtain⟨gp,ga,np,nc,h1,h2,h3,h4,h5⟩:=s.fv
 have hN:∀k,G k->k<N\/U<=k:=λk hk=>by have:=hG k hk;have:=s.lt;omega
 exact⟨⟨gp,ga,np,nc,f.fv h1 (λh=>by have:=hG _ h;have:=s.ne;omega),h2.fy f λk hk h=>by have:=hG k h;have:=h5 k hk;omega,h3.fy f hN,h4.fy f hN,h5⟩,hp,hw,s.ne,s.lt,YJ s.Z0 f λh=>by have:=hG _ h;have:=s.nd;omega,s.nd,Nat.le_trans s.up f.size⟩
theorem oT.fy{H H':Heap}{b gs gw N U:Nat}{t:List Nd}(s:oT H b gs gw N U t){G:Nat->Prop}(f:Fr G H H')(hG:∀k,G k->U<=k):oT H' b gs gw N U t:=by
 obtain⟨F,p,hF,uF⟩:=s.pb
 obtain⟨W,w,hW,uW⟩:=s.wb
 exact s.step f (λk hk=>.inr (.inr (hG k hk))) ⟨F,p.fy f λk hk h=>by have:=uF k hk;have:=hG k h;omega,hF,uF⟩ ⟨W,w.fy f λk hk h=>by have:=uW k hk;have:=hG k h;omega,hW,uW⟩
theorem oT.oP{H H':Heap}{b gs gw N U:Nat}{t:List Nd}(s:oT H b gs gw N U t)(f:Fr gz H H'):oT H' b gs gw N U t:=s.fy f λ_ h=>h.elim
theorem oT.ps{H:Heap}{b gs gw N U:Nat}{t:List Nd}(s:oT H b gs gw N U t):∃F,PS H H gs (kD 0 (kM t)) F/\¬F gw/\∀k,F k->k<U:=by
 obtain⟨F,p,hF⟩:=s.pb
 exact⟨F,⟨p,Fr.refl _ _,s.Z0,s.nd.1⟩,hF⟩
theorem oT.shape{H H':Heap}{b gs gw N U:Nat}{t:List Nd}{F:Nat->Prop}(s:oT H b gs gw N U t)(hF:¬F gw/\∀k,F k->k<U)(p:PS H H' gs (kD 0 (kM t)) F):oT H' b gs gw N U t:=by
 obtain⟨W,w,hW⟩:=s.wb
 exact s.step p.fr (λ_ h=>.inl h) ⟨F,p.pb,hF⟩ ⟨W,w.fy p.fr λk hk e=>hW.1 (e▸hk),hW⟩
theorem oT.agC{H H':Heap}{b gs gw N U:Nat}{t:List Nd}{W:Nat->Prop}(s:oT H b gs gw N U t)(hW:¬W gs/\∀k,W k->k<U)(w:WB H' gw (t.map tg) 4 W)(f:Fr (λk=>k=gw) H H'):oT H' b gs gw N U t:=by
 obtain⟨F,p,hF⟩:=s.pb
 exact s.step f (λ_ h=>.inr (.inl h)) ⟨F,p.fy f λk hk e=>hF.1 (e▸hk),hF⟩ ⟨W,w,hW⟩
theorem Zj{H:Heap}{b:Nat}{ty:TypeId}(hb:H[b]?=some (.cells #[.int .i64 0,.int .i64 0,.int .i64 0,.int .i64 0] ty (0,0))){R:Int->Heap->Prop}(hR:R 0 H):mZ.C (some ⟨b,0,none⟩) 4 4 H R:=by
 apply mZ.calls
 unfold mZ.W
 have c:∀j,j<4->dj H ((⟨b,0,none⟩:Addr).add j)=some (.int .i64 0):=λj hj=>by
  rw[dh hb,Nat.zero_add]
  rcases j with _|_|_|_|j<;>first|rfl|omega
 refine eG (e8 (by omega) ⟨_,rfl,by omega,by omega,_,c 0 (by omega),eG (fJ (λn s H'=>∃i:Nat,i<=4/\n=4-i/\s=(0,(i:Int),())/\H=H') 3 ⟨1,by omega,rfl,rfl,rfl⟩ ?_)⟩)
 rintro n _ _ ⟨i,hi,rfl,rfl,rfl⟩
 refine ft (λlC=>?_) λ_=>hR
 have lC:i<4:=by have lC:(i:Int)<((4:Nat):Int):=lC;omega
 refine⟨_,rfl,by show(0:Int)<=(i:Int);omega,by show(i:Int)<((4:Nat):Int);omega,_,by rw[Int.toNat_natCast];exact c i lC,db λm hm=>db λk hk=>⟨4-(i+1),by omega,i+1,by omega,rfl,?_,rfl⟩⟩
 have hk:k=IntKind.i64.wrap ((i:Int)+1):=hk
 have hm:m=max (0:Int) 0:=hm
 rw[hk,hm,dM (by omega) (by omega)]
 rfl
theorem Qv:∀{l l':List Nat},l.map (λx:Nat=>(x:Int))=l'.map (λx:Nat=>(x:Int))->l=l'
 |[],[],_=>rfl
 |[],_::_,h=>by cases h
 |_::_,[],h=>by cases h
 |a::l,b::l',h=>by
  simp only[List.map_cons,List.cons.injEq] at h
  rw[Qv h.2,show a=b by omega]
theorem MB{ss:List ByteArray}{b:Nat}(h:∀s∈ss,s.size<=b):(xO ss).size<=ss.length*b:=by
 have:=WZ h (k:=ss.length) (Nat.le_refl _)
 rwa[vK ss (Nat.le_refl _)] at this
end Go.Proofs.iQ
namespace Go.Proofs.iQ
open Go.Ex
theorem TX{H:Heap}(D8:jX H)(h7:6<Array.size H)(X9:CA H){t:List Nd}{p:Option Addr}{l c:Nat}(h:rF 7 H eH (nP t) p l c)(ht:kZ t)(hg:aiK t){R:Option Addr->Int->Heap->Prop}
 (hR:∀b gs gw N U H',oT H' b gs gw N U t->Fr gz H H'->Array.size H<=gs->Array.size H<=gw->R (some ⟨b,0,none⟩) 0 H'):jh.C p l c H R:=by
 apply jh.calls
 unfold jh.W
 have hlen:=ht.len
 have hl:=(zh h).1
 have h4:=hg.len
 have nil:∀i,¬fw none i:=λi⟨_,h,_⟩=>by cases h
 refine HC D8 h7 h ht λH1 f1=>eY rfl (db λH2 g2=>db λH3 g3=>?_)
 have f2:Fr gz H1 H2:=g2▸Fr.new H1 _ _
 have f3:Fr gz H2 H3:=g3▸Fr.push _ _
 have xX:=(f1.eZ f2).eZ f3
 have b2:H2[Array.size H1]?=some (.cells #[.pointer none,.pointer none,.pointer none,.slice none 0 0,.pointer none] iH (0,0)):=g2▸eV
 have m3:H3[Array.size H2]?=some (.map (Hn 0) 0):=g3▸kE _ _
 have z1:=f1.size
 have z2:=f2.size
 have asm:Array.size H1<Array.size H2:=fe b2
 generalize hB:Array.size H1=B at*
 generalize hM:Array.size H2=M at*
 refine dW (λs H'=>∃np nc tp tl tc xp xl xc ap al ac,s=((tp,tl,tc),(xp,xl,xc),(ap,al,ac),())/\BI H t B M t.length 4 np nc tp tl tc xp xl xc ap al ac H') ?_ ?_
 ·refine fJ (λn s H'=>∃i np nc tp tl tc xp xl xc ap al ac,i<=t.length/\n=t.length-i/\s=((tp,tl,tc),(xp,xl,xc),(ap,al,ac),(i:Int),())/\BI H t B M i (min i 4) np nc tp tl tc xp xl xc ap al ac H') t.length
   ⟨0,none,0,none,0,0,none,0,0,none,0,0,by omega,rfl,rfl,f3.fv b2 (λh=>h),m3,rF.nil _ _ _,Sl.nil _ _,Sl.nil _ _,Sl.nil _ _,λk hk=>absurd hk (nil k),⟨by omega,by omega,λk hk=>by rcases hk with hk|hk|hk|hk<;>exact absurd hk (nil k)⟩,xX⟩ ?_
  rintro n _ H5 ⟨i,np,nc,tp,tl,tc,xp,xl,xc,ap,al,ac,hi,rfl,rfl,s5⟩
  refine ft (λlC=>?_) λiG=>?_
  ·have lC:i<t.length:=by have lC:(i:Int)<(l:Int):=lC;omega
   obtain⟨n,hn⟩:=ht.at lC
   have ahE:=ht.tX hn
   have hk:=ND ahE
   refine dW (λs H'=>∃np nc tp tl tc xp xl xc ap al ac,s=((tp,tl,tc),(xp,xl,xc),(ap,al,ac),())/\BI H t B M (i+1) (min (i+1) 4) np nc tp tl tc xp xl xc ap al ac H') ?_ ?_
   ·refine zg (h.oP s5.fr) hn (db λH7 g7=>?_)
    have f7:Fr gz H5 H7:=g7▸Fr.new H5 _ _
    refine o9 (cs:=(pI ⟨0,0,eS,eS⟩).toArray) (g7▸eV) rfl λH8 b8 f8=>?_
    have b8:gT H8 (Array.size H5) n:=b8
    have f58:Fr gz H5 H8:=f7.fresh f8 λi hi=>by omega
    refine⟨_,b8.cell 0,_,b8.cell 2,_,b8.cell 3,_,b8.cell 4,db λH9 g9=>?_⟩
    have f9:Fr gz H8 H9:=g9▸Fr.new H8 _ _
    refine o9 (cs:=#[.int .i64 0,.string eS,.string eS,.string eS]) (g9▸eV) rfl λde Rj f10=>?_
    have ank:Fr gz H8 de:=f9.fresh f10 λi hi=>by omega
    have OF:=f58.eZ ank
    have DS:∀j,j<4->dj de ((⟨Array.size H8,0,none⟩:Addr).add j)=([.int .i64 n.k,.string eS,.string n.loc,.string eS]:List Value)[j]?:=λj hj=>by rw[dh Rj,Nat.zero_add];simp
    have C2:gT de (Array.size H5) n:=ank.fv b8 λh=>h
    have l5:∀k,(∃x,H5[k]?=some x)->k<Array.size H5:=λk⟨x,hx⟩=>fe hx
    have vD:BI H t B M i (min i 4) np nc tp tl tc xp xl xc ap al ac de:=⟨OF.fv s5.fv λh=>h,OF.fv s5.map λh=>h,s5.yg.fy OF λ_ _ h=>h,s5.tN.fy OF λ_ _ h=>h,s5.wN.fy OF λ_ _ h=>h,s5.zZ.fy OF λ_ _ h=>h,s5.wh,s5.new,s5.fr.eZ OF⟩
    have Zv:¬fw np (Array.size H5):=λhh=>by have:=s5.yg.iK hh;omega
    have h5B:Array.size H5≠B:=λe=>by have:=fe s5.fv;omega
    have h5M:Array.size H5≠M:=λe=>by have:=fe s5.map;omega
    refine EK _ _ _ _ DS ?_
    have Nu:=λem w=>aq5 (Eo n) em w
    rw[hk.1] at Nu
    by_cases h4i:i<4
    ·have Qi:=hg.fst i n hn h4i
     have ahy:min i 4=i:=by omega
     rw[ahy] at vD
     have no:=λw=>noK (Eo n) w
     rw[hk.1,Qi] at no
     refine⟨Hn i,i,none,vD.map,Nu,no,?_⟩
     refine⟨0,false,.inr ⟨rfl,rfl,.inl rfl⟩,eG (iR rfl ⟨_,rfl,_,_,_,(dh vD.fv 0 3).trans rfl,db λT8 aqA=>EK _ _ _ _ DS ⟨Hn i,i,vD.map,Nu,no,db λfZ Kb=>?_⟩⟩)⟩
     subst aqA
     refine SY vD ahE Qi C2 Zv h5B h5M Kb λyb PJ jY Aq AN Yj=>?_
     have:=Ft (J:=λs H'=>∃np nc tp tl tc xp xl xc ap al ac,s=((tp,tl,tc),(xp,xl,xc),(ap,al,ac),())/\BI H t B M (i+1) (min (i+1) 4) np nc tp tl tc xp xl xc ap al ac H') Aq hn (by omega) AN Yj λxk Ap xm Z8 wx tM Aa CN Ab H' s'=>⟨yb,PJ,xk,Ap,xm,Z8,wx,tM,Aa,CN,Ab,rfl,by rw[show min (i+1) 4=i+1 by omega];exact s'⟩
     rw[Qi] at this
     exact this
    ·have ahy:min i 4=4:=by omega
     rw[ahy] at vD
     have at_:=λw=>atK (Eo n) w
     rw[hk.1] at at_
     refine⟨Hn 4,4,some (tg n,.iface gv (.int .i64 ((tg n:Nat):Int))),vD.map,Nu,at_,?_⟩
     refine⟨_,rfl,((tg n:Nat):Int),true,.inl ⟨rfl,rfl⟩,eG (eY rfl ?_)⟩
     exact Ft (J:=λs H'=>∃np nc tp tl tc xp xl xc ap al ac,s=((tp,tl,tc),(xp,xl,xc),(ap,al,ac),())/\BI H t B M (i+1) (min (i+1) 4) np nc tp tl tc xp xl xc ap al ac H') vD hn (by omega) C2 Zv λxk Ap xm Z8 wx tM Aa CN Ab H' s'=>⟨np,nc,xk,Ap,xm,Z8,wx,tM,Aa,CN,Ab,rfl,by rw[show min (i+1) 4=4 by omega];exact s'⟩
   ·rintro _ H6 ⟨np,nc,tp,tl,tc,xp,xl,xc,ap,al,ac,rfl,s6⟩
    have:IntKind.i64.wrap ((i:Int)+1)=((i+1:Nat):Int):=by rw[dM (by omega) (by omega)];omega
    exact⟨t.length-(i+1),by omega,i+1,np,nc,tp,tl,tc,xp,xl,xc,ap,al,ac,by omega,rfl,by rw[<-this],s6⟩
  ·have iG:i=t.length:=by have iG:¬(i:Int)<(l:Int):=iG;omega
   subst iG
   rw[show min t.length 4=4 by omega] at s5
   exact⟨np,nc,tp,tl,tc,xp,xl,xc,ap,al,ac,rfl,s5⟩
 rintro _ H4 ⟨np,nc,tp,tl,tc,xp,xl,xc,ap,al,ac,rfl,s4⟩
 have Ip:=s4.tN
 have Io:=s4.wN
 have U6:=s4.zZ
 rw[List.take_length] at Ip Io
 have PI:rF 7 H4 eH (nP tR) np 4 nc:=s4.yg
 have etl:tl=t.length:=by have:=Ip.1;simp at this;omega
 have exl:xl=t.length:=by have:=Io.1;simp at this;omega
 have eal:al=t.length:=by have:=U6.1;simp at this;omega
 obtain⟨D,hD,lu⟩:=ht.kM
 obtain⟨m',fj,aqb⟩:=yQ lu
 have ahK:Z5 (kD 0 (kM t)):=by
  rw[hD,fj]
  have hp:=aqb.pos
  have hs:=zA m' false
  rw[hp.2] at hs
  refine⟨λk hk=>?_,by rw[List.length_append,List.length_singleton,hs];rfl⟩
  rw[List.length_append,List.length_singleton] at hk
  rcases Nat.lt_or_ge k (m'.length+1) with mI|mI
  ·rw[qO _ _ (by omega)]
   rcases Nat.eq_zero_or_pos k with rfl|h0
   ·rw[nv];omega
   ·have:=hp.1 k h0 (by omega);omega
  ·rw[show k=m'.length+1 by omega,hs];decide
 have Ox:(kD 0 (kM t)).length=2*t.length:=by rw[CV _ _ (by rw[hD];exact⟨Nat.le_refl _,lu.e⟩)];simp[kM]
 have lB4:=fe s4.fv
 refine db λH35 Zz=>?_
 have f35:Fr gz H4 H35:=Zz▸Fr.new H4 _ _
 have c35:H35[Array.size H4]?=some (.cells #[.int .i64 0,.int .i64 0,.int .i64 0,.int .i64 0] mS (0,0)):=Zz▸eV
 have l35:=fe c35
 generalize hC:Array.size H4=C at*
 refine NO (h.oP (s4.fr.eZ f35)) ht λq ql qc H36 Vu f36=>?_
 have eql:ql=2*t.length:=by have:=Vu.1;rw[List.length_map,Ox] at this;omega
 refine EA (X9.oP ((s4.fr.eZ f35).eZ f36)) Vu.rd (by omega) (λhb=>absurd ahK hb) λ_ gs F H37 alU hF RP f37=>?_
 have z36:=f36.size
 have z37:=f37.size
 have f437:Fr gz H4 H37:=(f35.eZ f36).eZ f37
 have d37:=f437.fv s4.fv λh=>h
 have U1:=(f36.eZ f37).fv c35 λh=>h
 have nB:B≠C:=by omega
 have gsF:F gs:=by obtain⟨_,_,_,_,_,_,_,_,_,h1,_⟩:=alU;exact h1
 have asK:=(hF gs gsF).2
 refine⟨_,rfl,kQ d37 (by simp) λH38 d38 f38=>⟨by omega,by omega,kQ (o:=0) (f38.fv U1 λe=>nB e.symm) (by simp) λZ4 N4 f39=>?_⟩⟩
 have N4:Z4[C]?=some (.cells #[.int .i64 0,.int .i64 0,.int .i64 0,.int .i64 0] mS (0,0)):=by rw[N4];simp
 have d39:=f39.fv d38 nB
 simp only[List.setIfInBounds_toArray,List.set_cons_zero] at d39
 have E8:Fr (λk=>k=B\/k=C) H37 Z4:=(f38.mono λ_ h=>.inl h).trans f39 λk h=>.inl (.inr h)
 have z39:=E8.size
 have I3:∀{k:Nat}{cs:Array Value}{u:TypeId}{f:Nat×Nat},H4[k]?=some (.cells cs u f)->u≠iH->¬(k=B\/k=C):=λh hu e=>by
  rcases e with rfl|rfl
  ·exact oR h s4.fv hu
  ·have:=fe h;omega
 have alI:=(Ip.fy f437 λ_ _ h=>h).fy E8 λk hk=>by obtain⟨_,h'⟩:=Ip.ty hk;exact I3 h' (by decide)
 have alF:=(Io.fy f437 λ_ _ h=>h).fy E8 λk hk=>by obtain⟨_,h'⟩:=Io.ty hk;exact I3 h' (by decide)
 have anw:=(U6.fy f437 λ_ _ h=>h).fy E8 λk hk=>by obtain⟨_,h'⟩:=U6.ty hk;exact I3 h' (by decide)
 have amf:=(PI.fy f437 λ_ _ h=>h).fy E8 λk hk=>by obtain⟨_,h'⟩:=PI.ty hk;exact I3 h' (by decide)
 have apS:=alU.fy E8 λk hk e=>by have:=(hF k hk).1;omega
 have aqW:Fr gz H Z4:=(s4.fr.eZ f437).fresh E8 λk hk=>by rcases hk with rfl|rfl<;>omega
 refine⟨_,rfl,_,_,_,(dh d39 0 3).trans rfl,?_⟩
 have e39:((t.map tg).map A4)=((t.map tg).map λx:Nat=>(x:Int)).map (Value.int .i64):=by simp only[List.map_map];rfl
 rw[e39] at alI
 refine Gd alI.rd (by omega) _ (λhb=>?_) λl' s' gw Va el es fU hv alB f40=>?_
 ·rcases hb with hb|hb|⟨z,hz,hb⟩
  ·exact absurd hb (by decide)
  ·exact absurd hb (by decide)
  ·obtain⟨x,hx,rfl⟩:=List.mem_map.1 hz
   obtain⟨n,hn,rfl⟩:=List.mem_map.1 hx
   have:=Eo n
   omega
 obtain rfl:=Qv el
 obtain rfl:s'=4:=by have es:((4:Nat):Int)=(s':Int):=es;omega
 have Zy:=alB.own.1
 have asJ:Array.size Z4<=gw:=Zy.1
 have asI:gw<Array.size Va:=Zy.2
 have d40:=f40.fv d39 λh=>h
 have c40:=f40.fv N4 λh=>h
 refine⟨_,rfl,kQ d40 (by simp) λH41 d41 f41=>⟨by omega,by omega,kQ (o:=1) (f41.fv c40 λe=>nB e.symm) (by simp) λAe NW f42=>?_⟩⟩
 have NW:Ae[C]?=some (.cells #[.int .i64 0,.int .i64 0,.int .i64 0,.int .i64 0] mS (0,0)):=by rw[NW];simp
 have d42:=f42.fv d41 nB
 simp only[List.setIfInBounds_toArray,List.set_cons_zero,List.set_cons_succ] at d42
 have Yq:Fr (λk=>k=B\/k=C) Va Ae:=(f41.mono λ_ h=>.inl h).trans f42 λk h=>.inl (.inr h)
 have QZ:Fr (λk=>k=B\/k=C) Z4 Ae:=(f40.mono λ_ h=>h.elim).trans Yq λk h=>.inl h
 have z42:=Yq.size
 have z40:=f40.size
 have U8:∀{k:Nat}{cs:Array Value}{u:TypeId}{f:Nat×Nat},Z4[k]?=some (.cells cs u f)->u≠iH->u≠mS->¬(k=B\/k=C):=λh hu uH e=>by
  rcases e with rfl|rfl
  ·exact oR h d39 hu
  ·exact oR h N4 uH
 have agI:=alF.fy QZ λk hk=>by obtain⟨_,h'⟩:=alF.ty hk;exact U8 h' (by decide) (by decide)
 have anv:=anw.fy QZ λk hk=>by obtain⟨_,h'⟩:=anw.ty hk;exact U8 h' (by decide) (by decide)
 have ame:=amf.fy QZ λk hk=>by obtain⟨_,h'⟩:=amf.ty hk;exact U8 h' (by decide) (by decide)
 have ex:(t.map λn=>Value.string n.val)=(t.map Nd.val).map Value.string:=by rw[List.map_map];rfl
 rw[ex] at agI
 have xw:∀s∈t.map Nd.val,s.size<=1:=λs hs=>by
  obtain⟨n,hn,rfl⟩:=List.mem_map.1 hs
  obtain⟨i,hi⟩:=List.getElem?_of_mem hn
  rcases ht.tX hi with rfl|⟨_,_,h⟩|⟨_,_,h⟩
  ·decide
  ·rw[h];decide
  ·rw[h];decide
 have oU:=MB xw
 rw[List.length_map] at oU
 refine y9 agI.rd agI.cap (by omega) (by omega) λgp H43 p43 f43=>?_
 have d43:=f43.fv d42 λh=>h
 have c43:=f43.fv NW λh=>h
 refine⟨_,rfl,kQ d43 (by simp) λH44 d44 f44=>⟨by omega,by omega,kQ (o:=2) (f44.fv c43 λe=>nB e.symm) (by simp) λIe Nz f45=>?_⟩⟩
 have Nz:Ie[C]?=some (.cells #[.int .i64 0,.int .i64 0,.int .i64 0,.int .i64 0] mS (0,0)):=by rw[Nz];simp
 have d45:=f45.fv d44 nB
 simp only[List.setIfInBounds_toArray,List.set_cons_zero,List.set_cons_succ] at d45
 have Yp:Fr (λk=>k=B\/k=C) H43 Ie:=(f44.mono λ_ h=>.inl h).trans f45 λk h=>.inl (.inr h)
 have QX:Fr (λk=>k=B\/k=C) Ae Ie:=(f43.mono λ_ h=>h.elim).trans Yp λk h=>.inl h
 have z43:=f43.size
 have z45:=Yp.size
 have N42:∀{k:Nat}{cs:Array Value}{u:TypeId}{f:Nat×Nat},Ae[k]?=some (.cells cs u f)->u≠iH->u≠mS->¬(k=B\/k=C):=λh hu uH e=>by
  rcases e with rfl|rfl
  ·exact oR h d42 hu
  ·exact oR h NW uH
 have aiG:=anv.fy QX λk hk=>by obtain⟨_,h'⟩:=anv.ty hk;exact N42 h' (by decide) (by decide)
 have amd:=ame.fy QX λk hk=>by obtain⟨_,h'⟩:=ame.ty hk;exact N42 h' (by decide) (by decide)
 have ahb:∀k,(k=B\/k=C)->k<Array.size Ae\/Array.size H43<=k:=λk hk=>by rcases hk with rfl|rfl<;>exact .inl (by omega)
 have p45:=p43.fy Yp ahb
 have ea:List.replicate t.length (Value.string eS)=(List.replicate t.length eS).map Value.string:=by simp
 rw[ea] at aiG
 have ar6:=MB (ss:=List.replicate t.length eS) (b:=0) λs hs=>by rw[List.eq_of_mem_replicate hs];decide
 refine y9 aiG.rd aiG.cap (by omega) (by omega) λga H46 p46 f46=>?_
 have d46:=f46.fv d45 λh=>h
 have c46:=f46.fv Nz λh=>h
 refine⟨_,rfl,kQ d46 (by simp) λH47 d47 f47=>⟨by omega,by omega,kQ (o:=3) (f47.fv c46 λe=>nB e.symm) (by simp) λZ3 UZ f48=>?_⟩⟩
 have UZ:Z3[C]?=some (.cells #[.int .i64 0,.int .i64 0,.int .i64 0,.int .i64 0] mS (0,0)):=by rw[UZ];simp
 have d48:=f48.fv d47 nB
 simp only[List.setIfInBounds_toArray,List.set_cons_zero,List.set_cons_succ] at d48
 have Yo:Fr (λk=>k=B\/k=C) H46 Z3:=(f47.mono λ_ h=>.inl h).trans f48 λk h=>.inl (.inr h)
 have QW:Fr (λk=>k=B\/k=C) Ie Z3:=(f46.mono λ_ h=>h.elim).trans Yo λk h=>.inl h
 have N45:∀{k:Nat}{cs:Array Value}{u:TypeId}{f:Nat×Nat},Ie[k]?=some (.cells cs u f)->u≠iH->u≠mS->¬(k=B\/k=C):=λh hu uH e=>by
  rcases e with rfl|rfl
  ·exact oR h d45 hu
  ·exact oR h Nz uH
 have apZ:=amd.fy QW λk hk=>by obtain⟨_,h'⟩:=amd.ty hk;exact N45 h' (by decide) (by decide)
 have afz:Fr (λk=>k=B\/k=C) Z4 Z3:=(QZ.trans QX λk h=>.inl h).trans QW λk h=>.inl h
 have ano:Fr (λk=>k=B\/k=C) Va Z3:=(Yq.trans QX λk h=>.inl h).trans QW λk h=>.inl h
 have anm:Fr gz H Z3:=aqW.fresh afz λk hk=>by rcases hk with rfl|rfl<;>omega
 have gl:=air X9
 have hz:=s4.fr.size
 have z46:=f46.size
 have z48:=Yo.size
 refine Zj UZ (e8 (λh=>h rfl) (hR B gs gw (Array.size Ae) (Array.size Z3) Z3 ⟨⟨gp,ga,np,nc,d48,apZ,(p45.fy QW ahb).mono (Nat.le_refl _) (by omega),(p46.fy Yo λk hk=>?_).mono (by omega) (by omega),λk hk=>?_⟩,⟨F,apS.fy afz λk hk e=>?_,λhh=>?_,λk hk=>?_⟩,⟨_,alB.fy ano λk hk e=>?_,λhh=>?_,λk hk=>?_⟩,⟨by omega,by omega,by omega⟩,⟨by omega,by omega⟩,X9.oP anm,⟨by omega,by omega,by omega⟩,Nat.le_refl _⟩ anm (by omega) (by omega)))
 ·have:=ahb k hk;rcases hk with rfl|rfl<;>omega
 ·have:=PI.iK hk;omega
 ·have:=(hF k hk).1;omega
 ·have:=(hF _ hh).2;omega
 ·have:=(hF k hk).2;omega
 ·have:=hk.1;omega
 ·have:=hh.1;omega
 ·have:=hk.2;omega
end Go.Proofs.iQ
namespace Go.Ex
theorem agM{t:List Nd}(ht:kZ t){i:Nat}{n:Nd}(hn:t[i]?=some n):∃(p:Nat)(hp:p<(kD 0 (kM t)).length),(kD 0 (kM t))[p]=true/\rk (kD 0 (kM t)) p true=i/\eK (kD 0 (kM t)) (p+1)=n.d+1:=by
 obtain⟨D,hD,lu⟩:=ht.kM
 obtain⟨m,hm,hs⟩:=yQ lu
 have hi:i<(kM t).length:=by have:=(List.getElem?_eq_some_iff.1 hn).1;simp[kM];exact this
 have hd:(kM t)[i]=n.d.toNat:=by
  have h:=(List.getElem?_eq_some_iff.1 hn).2
  simp[kM,h]
 have GB:=ht.d0 hn
 simp only[hD] at hi hd⊢
 obtain⟨p,hp,q1,q2,q3⟩:=hs.at_ i hi
 simp only[hm]
 refine⟨p,by simp;omega,by rw[List.getElem_append_left hp];exact q1,?_,?_⟩
 ·unfold rk at q2⊢
  rw[List.take_append_of_le_length (by omega)]
  omega
 ·rw[qO _ _ (by omega),q3,hd];omega
theorem IJ{t:List Nd}(ht:kZ t):(kD 0 (kM t)).count true=t.length/\(kD 0 (kM t)).length=2*t.length:=by
 obtain⟨D,hD,lu⟩:=ht.kM
 obtain⟨m,hm,hs⟩:=yQ lu
 have hl:(kM t).length=t.length:=by simp[kM]
 refine⟨?_,?_⟩
 ·rw[hD] at hl⊢
  rw[hm,List.count_append,hs.UY,hl]
  simp
 ·rw[CV _ _ (by rw[hD];exact⟨Nat.le_refl _,lu.e⟩),hl];omega
end Go.Ex
namespace Go.Proofs.iQ
open Go.Ex
theorem oT.Ch{H:Heap}{b gs gw N U:Nat}{t:List Nd}(s:oT H b gs gw N U t):gs<U/\gw<U:=by
 obtain⟨F,⟨_,_,_,_,_,_,_,_,_,h,_⟩,_,hl⟩:=s.pb
 obtain⟨W,w,_,hw⟩:=s.wb
 exact⟨hl _ h,hw _ w.own.1⟩
theorem xi{H:Heap}{b gs gw N U:Nat}{t:List Nd}(s:oT H b gs gw N U t)(ht:kZ t){i:Nat}{n:Nd}(hn:t[i]?=some n){R:Int->Heap->Prop}
 (hR:∀(p:Nat) H',p<(kD 0 (kM t)).length->Qq (kD 0 (kM t)) (p:Int)=true->rk (kD 0 (kM t)) p true=i->eK (kD 0 (kM t)) (p+1)=n.d+1->oT H' b gs gw N U t->Fr (gF gs gw) H H'->R (p:Int) H'):jR.C (some ⟨gs,0,none⟩) (i:Int) H R:=by
 obtain⟨p,hp,q1,q2,q3⟩:=agM ht hn
 obtain⟨F,ps,hF⟩:=s.ps
 refine ps.place _ λx H' hx SP=>?_
 rcases hx with⟨p',Ud,r1,r2,rfl⟩|⟨hx,_⟩
 ·obtain rfl:=vF hp Ud q1 r1 (by omega)
  exact hR p H' hp (by rw[qB hp];exact q1) q2 q3 (s.shape hF SP) (SP.fr.mono λ_ h=>.inl h)
 ·have:=oS hp q1
  omega
theorem B0{H:Heap}{b gs gw N U:Nat}{t:List Nd}(s:oT H b gs gw N U t){p:Nat}(hp:p<(kD 0 (kM t)).length){R:Int->Heap->Prop}
 (hR:∀H',oT H' b gs gw N U t->Fr (gF gs gw) H H'->R (eK (kD 0 (kM t)) (p+1)) H'):jO.C (some ⟨gs,0,none⟩) (p:Int) H R:=by
 obtain⟨F,ps,hF⟩:=s.ps
 refine ps.aim _ λH' SP=>?_
 rw[if_pos ⟨by omega,by omega⟩,show((p:Int)+1).toNat=p+1 by omega]
 exact hR H' (s.shape hF SP) (SP.fr.mono λ_ h=>.inl h)
theorem Iz{H:Heap}{R:Option Addr->Nat->Nat->Heap->Prop}(hR:R none 0 0 H):dK.C eS H R:=by
 apply dK.calls
 unfold dK.W
 refine eG (fJ (λn s H'=>n=0/\s=(eS,(none,0,0),())/\H=H') 0 ⟨rfl,rfl,rfl⟩ ?_)
 rintro n _ _ ⟨rfl,rfl,rfl⟩
 exact e8 (by decide) hR
theorem Hv{H:Heap}{b gs gw N U:Nat}{t:List Nd}(s:oT H b gs gw N U t)(ht:kZ t){i:Nat}{n:Nd}(hn:t[i]?=some n){R:Int->Int->ByteArray->ByteArray->ByteArray->ByteArray->Option Addr->Nat->Nat->Heap->Prop}
 (hR:∀H',oT H' b gs gw N U t->Fr (gF gs gw) H H'->R n.k n.d eS n.loc eS n.val none 0 0 H'):dw.C (some ⟨b,0,none⟩) (i:Int) H R:=by
 apply dw.calls
 unfold dw.W
 have lC:=(List.getElem?_eq_some_iff.1 hn).1
 have GB:=ht.d0 hn
 have hk:=ND (ht.tX hn)
 refine db λH1 g1=>db λH2 g2=>?_
 have f1:Fr gz H H1:=g1▸Fr.new H _ _
 have f2:Fr gz H1 H2:=g2▸Fr.new H1 _ _
 have n1:gT H1 (Array.size H) ⟨0,0,eS,eS⟩:=g1▸eV
 have n2:gT H2 (Array.size H1) ⟨0,0,eS,eS⟩:=g2▸eV
 have s2:=(s.oP f1).oP f2
 have z1:=fe n1
 have hz:=s.Ch
 have hu:=s.up
 have sX:=f1.eZ f2
 have ng:∀{k:Nat},Array.size H<=k->¬gF gs gw k:=λhk h=>by rcases h with rfl|rfl<;>omega
 have Hw:∀{H' mK:Heap}{b:Nat},Fr (gF gs gw) H H'->Fr (λk=>k=b) H' mK->Array.size H<=b->Fr (gF gs gw) H mK:=λf f' hb=>f.trans f' λk hk=>.inr (hk▸hb)
 have sk:∀{H' mK:Heap}{b':Nat},oT H' b gs gw N U t->Fr (λk=>k=b') H' mK->Array.size H<=b'->oT mK b gs gw N U t:=λs f hb=>s.fy f λk hk=>by omega
 refine dW (λ_ H'=>oT H' b gs gw N U t/\Fr (gF gs gw) H H'/\gT H' (Array.size H) ⟨0,0,eS,eS⟩/\gT H' (Array.size H1) ⟨n.k,0,n.loc,eS⟩) ?_ ?_
 ·obtain⟨gp,ga,np,nc,h1,_⟩:=s2.fv
  obtain⟨W,w,hW⟩:=s2.wb
  refine⟨_,rfl,_,(dh h1 0 1).trans rfl,B3 w _ (λi' nN H4 e w4 f4=>?_) λho=>by rw[List.length_map] at ho;omega⟩
  obtain rfl:i=i':=by omega
  have s4:=s2.agC hW w4 f4
  obtain⟨gp,ga,np,nc,h1,h2,_⟩:=s4.fv
  have T5:(t.map tg)[i]=tg n:=by rw[List.getElem_map,(List.getElem?_eq_some_iff.1 hn).2]
  rw[T5]
  have oA:Fr (gF gs gw) H H4:=(sX.mono λ_ h=>h.elim).trans f4 λk h=>.inl (.inr h)
  have f24:Fr (gF gs gw) H2 H4:=f4.mono λk h=>.inr h
  have tS:gT H4 (Array.size H) ⟨0,0,eS,eS⟩:=f24.fv (f2.fv n1 λh=>h) (ng (Nat.le_refl _))
  have n24:gT H4 (Array.size H1) ⟨0,0,eS,eS⟩:=f24.fv n2 (ng (by omega))
  refine dW (λq H'=>q=(true,())/\H4=H') (kY rfl ⟨_,rfl,_,_,_,(dh h1 0 3).trans rfl,?_,rfl⟩) ?_
  ·have:=Eo n
   rw[decide_eq_true (by omega)]
  rintro _ _ ⟨rfl,rfl⟩
  refine iR rfl ⟨_,rfl,_,_,_,(dh h1 0 3).trans rfl,zg h2 hk.2 (o9 n24 rfl λH6 b6 f6=>?_)⟩
  exact⟨sk s4 f6 (by omega),Hw oA f6 (by omega),f6.fv tS (by omega),b6⟩
 ·rintro _ H3 ⟨s3,f3,m3,k3⟩
  obtain⟨gp,ga,np,nc,h1,_⟩:=s3.fv
  have c0:=(dh h1 0 0).trans rfl
  refine⟨_,rfl,_,c0,_,rfl,_,c0,xi s3 ht hn λp H7 hp ho hr he s7 f7=>?_⟩
  obtain⟨gp,ga,np,nc,h1,_⟩:=s7.fv
  refine⟨⟨_,(dh h1 0 0).trans rfl,rfl⟩,B0 s7 hp λH8 s8 f8=>?_⟩
  have f38:Fr (gF gs gw) H3 H8:=f7.trans f8 λk h=>.inl h
  have ta:Fr (gF gs gw) H H8:=f3.trans f38 λk h=>.inl h
  have m8:=f38.fv m3 (ng (Nat.le_refl _))
  have k8:=f38.fv k3 (ng (by omega))
  rw[he,dM (by omega) (by omega),show n.d+1-1=n.d by omega]
  refine kQ (o:=1) k8 (by simp[pI]) λH9 k9 f9=>?_
  have k9:gT H9 (Array.size H1) ⟨n.k,n.d,n.loc,eS⟩:=by rw[gT,k9];simp[pI]
  have m9:=f9.fv m8 (by omega)
  have s9:=sk s8 f9 (by omega)
  have Ml:=Hw ta f9 (by omega)
  obtain⟨gp,ga,np,nc,h1,_,qC,_⟩:=s9.fv
  refine⟨_,rfl,_,(dh h1 0 2).trans rfl,rY qC.agY s9.Z0 _ (λi' nN de e f10=>?_) λho=>by rw[List.length_map] at ho;omega⟩
  obtain rfl:i=i':=by omega
  have ev:(t.map Nd.val)[i]=n.val:=by rw[List.getElem_map,(List.getElem?_eq_some_iff.1 hn).2]
  rw[ev]
  have vD:=s9.oP f10
  have ail:Fr (gF gs gw) H de:=Ml.trans f10 λk h=>h.elim
  refine kQ (o:=5) (f10.fv k9 λh=>h) (by simp[pI]) λfg PQ f11=>?_
  have PQ:gT fg (Array.size H1) n:=by rw[gT,PQ];simp[pI]
  have m11:=f11.fv (f10.fv m9 λh=>h) (by omega)
  have wE:=sk vD f11 (by omega)
  have Bk:=Hw ail f11 (by omega)
  obtain⟨gp,ga,np,nc,h1,_,_,XW,_⟩:=wE.fv
  refine⟨_,rfl,_,(dh h1 0 4).trans rfl,rY XW.agY wE.Z0 _ (λi' nN fZ e f12=>?_) λho=>by rw[List.length_replicate] at ho;omega⟩
  rw[List.getElem_replicate]
  refine Iz (kQ (o:=6) (f12.fv PQ λh=>h) (by simp[pI]) λgK DQ f14=>?_)
  have DQ:gT gK (Array.size H1) n:=by rw[gT,DQ];simp[pI]
  have m14:=f14.fv (f12.fv m11 λh=>h) (by omega)
  have IL:=sk (wE.oP f12) f14 (by omega)
  have aq0:=Hw (Bk.trans f12 λk h=>h.elim) f14 (by omega)
  refine nW _ _ _ _ _ _ _ _ _ (λj hj=>DQ.cell j) (o9 m14 rfl λjY m15 f15=>?_)
  have m15:gT jY (Array.size H) n:=m15
  exact nW _ _ _ _ _ _ _ _ _ (λj hj=>m15.cell j) (hR jY (sk IL f15 (Nat.le_refl _)) (Hw aq0 f15 (Nat.le_refl _)))
end Go.Proofs.iQ
namespace Go.Proofs.iQ
open Go.Ex
theorem HH{H:Heap}{b gs gw N U:Nat}{t:List Nd}(s:oT H b gs gw N U t)(ht:kZ t){R:Int->Heap->Prop}(hR:R (t.length:Int) H):dQ.C (some ⟨b,0,none⟩) H R:=by
 apply dQ.calls
 unfold dQ.W
 obtain⟨gp,ga,np,nc,h1,_⟩:=s.fv
 obtain⟨F,ps,_⟩:=s.ps
 have hl:=(IJ ht).2
 have hlen:=ht.len
 refine eY rfl ⟨_,rfl,_,(dh h1 0 0).trans rfl,ps.len ⟨by decide,db λx hx=>?_⟩⟩
 have hx:x=IntKind.i64.wrap (Int.tdiv ((kD 0 (kM t)).length:Int) 2):=hx
 have e:Int.tdiv ((kD 0 (kM t)).length:Int) 2=(t.length:Int):=by
  rw[hl,Int.tdiv_eq_ediv_of_nonneg (by omega)];omega
 rw[hx,e,dM (by omega) (by omega)]
 exact hR
theorem Pg{H:Heap}{b gs gw N U:Nat}{t:List Nd}(s:oT H b gs gw N U t)(ht:kZ t){R:Option Addr->Nat->Nat->Heap->Prop}
 (hR:∀p l c H',rF 7 H' eH (nP t) p l c->oT H' b gs gw N U t->Fr (gF gs gw) H H'->(∀k,fw p k->Array.size H<=k)->R p l c H'):dL.C (some ⟨b,0,none⟩) H R:=by
 apply dL.calls
 unfold dL.W
 have hlen:=ht.len
 have hz:=s.Ch
 have hu:=s.up
 have nil:∀i,¬fw none i:=λi⟨_,h,_⟩=>by cases h
 refine sR λg G0 H1 s1 f1 n1=>?_
 have gG:∀{H':Heap}{G l},kN H' g G l->G g:=λs=>by obtain⟨_,_,_,_,_,h4,h5⟩:=s;exact h4
 have lG:∀{H':Heap}{G l},kN H' g G l->∀k,G k->k<Array.size H':=λs=>by obtain⟨_,_,_,_,_,h4,h5⟩:=s;exact h5
 have ng:∀{k:Nat},Array.size H<=k->¬gF gs gw k:=λhk h=>by rcases h with rfl|rfl<;>omega
 refine dW (λs H'=>∃p l c,s=((p,l,c),())/\rF 7 H' eH (nP t) p l c/\oT H' b gs gw N U t/\Fr (gF gs gw) H H'/\(∀k,fw p k->Array.size H<=k)) ?_ ?_
 ·refine HH (s.oP f1) ht (fJ (λn s H'=>∃(i:Nat)(p:Option Addr)(l c lv:Nat)(G:Nat->Prop),i<=t.length/\n=t.length-i/\s=((p,l,c),(i:Int),())/\rF 7 H' eH (nP (t.take i)) p l c/\l=i/\kN H' g G lv/\lv<=i/\oT H' b gs gw N U t/\Fr (gF gs gw) H H'/\(∀k,fw p k->Array.size H<=k)/\∀k,G k->Array.size H<=k/\¬fw p k) t.length
   ⟨0,none,0,0,0,G0,by omega,rfl,rfl,rF.nil _ _ _,rfl,s1,by omega,s.oP f1,f1.mono λ_ h=>h.elim,λk hk=>absurd hk (nil k),λk hk=>⟨n1 k hk,nil k⟩⟩ ?_)
  rintro n _ H4 ⟨i,p,l,c,lv,G,hi,rfl,rfl,s4,rfl,AA,yA,d4,f4,Jf,ZW⟩
  refine ft (λlC=>?_) λiG=>?_
  ·have lC:l<t.length:=by have lC:(l:Int)<(t.length:Int):=lC;omega
   obtain⟨n,hn⟩:=ht.at lC
   have ahE:=ht.tX hn
   refine dW (λs H'=>∃(p:Option Addr)(l' c lv:Nat)(G:Nat->Prop),s=((p,l',c),())/\rF 7 H' eH (nP (t.take (l+1))) p l' c/\l'=l+1/\kN H' g G lv/\lv<=l+1/\oT H' b gs gw N U t/\Fr (gF gs gw) H H'/\(∀k,fw p k->Array.size H<=k)/\∀k,G k->Array.size H<=k/\¬fw p k) ?_ ?_
   ·refine Hv d4 ht hn λH6 d6 f6=>db λH7 g7=>?_
    have f7:Fr gz H6 H7:=g7▸Fr.new H6 _ _
    refine o9 (cs:=(pI ⟨0,0,eS,eS⟩).toArray) (g7▸eV) rfl λH8 b8 f8=>?_
    have b8:gT H8 (Array.size H6) n:=b8
    have f68:Fr gz H6 H8:=f7.fresh f8 λi hi=>by omega
    have z4:=f4.size
    have z6:=f6.size
    have f48:Fr (gF gs gw) H4 H8:=f6.trans f68 λ_ h=>h.elim
    have s8:=s4.fy f48 λk hk=>ng (Jf k hk)
    have sc8:=AA.fy f48 λk hk=>ng (ZW k hk).1
    have l4p:=λk hk=>s4.iK (k:=k) hk
    have PN:=lG AA
    have d8:=d6.oP f68
    have ta:Fr (gF gs gw) H H8:=f4.trans f48 λk h=>.inl h
    refine dW (λ_ H'=>∃lv,kN H' g G lv/\lv<=l/\Fr (λk=>k=g) H8 H') ?_ ?_
    ·refine fJ (λm s H'=>kN H' g G m/\m<=l/\Fr (λk=>k=g) H8 H') lv ⟨sc8,yA,Fr.refl _ _⟩ ?_
     rintro m _ de ⟨sc,hm,f10⟩
     have Rj:gT de (Array.size H6) n:=f10.fv b8 λe=>by have:=PN _ (gG AA);omega
     refine⟨_,Rj.cell 1,FJ sc ⟨⟨_,Rj.cell 1,rfl⟩,ft (λiG=>?_) λ_=>⟨m,sc,hm,f10⟩⟩⟩
     have iG:max n.d 1<=(m:Int):=iG
     obtain⟨m,rfl⟩:∃m',m=m'+1:=⟨m-1,by omega⟩
     exact FE sc (by omega) λfZ apM f12=>⟨m,by omega,apM,by omega,f10.trans f12 λk h=>.inl h⟩
    ·rintro _ H9 ⟨lv,PG,asz,f9⟩
     have gN:Array.size H<=g:=(ZW _ (gG AA)).1
     have g4:g<Array.size H4:=PN _ (gG AA)
     have b9:gT H9 (Array.size H6) n:=f9.fv b8 λe=>by omega
     have s9:=s8.fy f9 λk hk e=>(ZW _ (gG AA)).2 (e▸hk)
     have d9:=d8.fy f9 λk hk=>by omega
     have Ml:Fr (gF gs gw) H H9:=ta.trans f9 λk h=>.inr (by omega)
     have z9:=f9.size
     have z68:=f68.size
     refine dW (λ_ H'=>∃lv G',kN H' g G' lv/\lv<=l+1/\gT H' (Array.size H6) n/\rF 7 H' eH (nP (t.take l)) p l c/\oT H' b gs gw N U t/\Fr (gF gs gw) H H'/\(∀k,G' k->Array.size H<=k/\¬fw p k/\k<Array.size H')/\Array.size H9<=Array.size H') ⟨_,b9.cell 0,ft (λhk=>?_) λhk=>⟨lv,G,PG,by omega,b9,s9,d9,Ml,λk hk=>⟨(ZW k hk).1,(ZW k hk).2,lG PG k hk⟩,Nat.le_refl _⟩⟩ ?_
     ·refine tT PG (by omega) b9 (λhh=>by have:=PN _ hh;omega) λG' gK alP g14 zY _=>⟨lv+1,G',alP,by omega,zY,s9.fy g14.fr λk hk h=>(ZW k h).2 hk,d9.fy g14.fr λk hk=>by have:=(ZW k hk).1;omega,Ml.trans g14.fr λk h=>.inr (ZW k h).1,λk hk=>⟨?_,λhh=>?_,lG alP k hk⟩,g14.fr.size⟩
      ·rcases g14.up k hk with h|h
       ·exact(ZW k h).1
       ·omega
      ·rcases g14.up k hk with h|h
       ·exact(ZW k h).2 hh
       ·have:=l4p k hh;omega
     ·rintro _ gS ⟨JX,G',apL,amU,wv,A0,d13,f13,adQ,z13⟩
      refine nW _ _ _ _ _ _ _ _ _ (λj hj=>wv.cell j) (db λjY Yj=>?_)
      refine Rl (new:=pI n) A0 Yj rfl (C1 _) (C0 _) (by show(l+1)*104<=_;omega) (by decide) λp' c' lW WH f16 VE=>?_
      have tk:t.take (l+1)=t.take l++[n]:=by rw[List.take_add_one,hn];rfl
      refine⟨p',l+1,c',JX,G',rfl,by rw[tk,<-vO];exact WH,rfl,apL.fy f16 λk hk=>(adQ k hk).2.1,amU,d13.fy f16 λk hk=>by have:=Jf k hk;omega,f13.trans f16 λk hk=>.inr (Jf k hk),λk hk=>?_,λk hk=>⟨(adQ k hk).1,λhh=>?_⟩⟩
      ·rcases VE k hk with h|h
       ·exact Jf k h
       ·omega
      ·rcases VE k hh with h|h
       ·exact(adQ k hk).2.1 h
       ·have:=(adQ k hk).2.2;omega
   ·rintro _ H5 ⟨p,l',c,lv,G,rfl,s5,rfl,sc5,aqr,d5,f5,KQ,hG5⟩
    have:IntKind.i64.wrap ((l:Int)+1)=((l+1:Nat):Int):=by rw[dM (by omega) (by omega)];omega
    exact⟨t.length-(l+1),by omega,l+1,p,l+1,c,lv,G,by omega,rfl,by rw[<-this],s5,rfl,sc5,aqr,d5,f5,KQ,hG5⟩
  ·have iG:l=t.length:=by have iG:¬(l:Int)<(t.length:Int):=iG;omega
   subst iG
   rw[List.take_length] at s4
   exact⟨p,_,c,rfl,s4,d4,f4,Jf⟩
 ·rintro _ H2 ⟨p,l,c,rfl,s2,d2,f2,XV⟩
  exact hR p l c H2 s2 d2 f2 XV
end Go.Proofs.iQ
namespace Go.Proofs.iQ
open Go.Ex
theorem AV{H H':Heap}{F:Nat->Prop}(h:Go.X.sO H)(f:Fr F H H')(hF:∀i,i<=7->¬F i):Go.X.sO H':=by
 obtain⟨h0,h1,h5,h7,t,fr,m,h6⟩:=h
 exact⟨f.fv h0 (hF _ (by decide)),f.fv h1 (hF _ (by decide)),f.fv h5 (hF _ (by decide)),f.fv h7 (hF _ (by decide)),t,fr,m,f.fv h6 (hF _ (by decide))⟩
theorem yL{H H':Heap}(h:Go.X.sO H)(f:Fr gz H H'):Go.X.sO H':=AV h f λ_ _ h=>h
theorem La{H:Heap}(h:Go.X.sO H):jX H:=h.ml
theorem aej{H:Heap}(ht:Go.X.sO H){R:ByteArray->Heap->Prop}(hR:∀H',Fr gz H H'->R (iT [120]) H'):Ed.C (iT [120]) H R:=by
 have e:iT [120]=Go.X.strOf 1 120:=by kernel_rfl
 rw[e] at hR⊢
 exact(Go.X.acL ht).mono λv H'⟨h1,h2,h3⟩=>⟨_,h1,hR H' ⟨h2,λk hk _=>h3 k hk⟩⟩
theorem SA{H:Heap}(ht:Go.X.sO H){R:Bool->Heap->Prop}(hR:∀H',Fr gz H H'->R true H'):ui.C H R:=
 (Go.X.acK ht).mono λv H'⟨h1,h2,h3⟩=>⟨_,h1,hR H' ⟨h2,λk hk _=>h3 k hk⟩⟩
end Go.Proofs.iQ
namespace Go.Ex
def BN(k:Nat):List Nd:=⟨2,1,iT [97],eS⟩::(List.range k).map λi:Nat=>⟨2,(i:Int)+2,iT [98],eS⟩
theorem P7(k:Nat):(BN k).length=k+1:=by simp[BN]
theorem Wp(k:Nat):BN (k+1)=BN k++[⟨2,(k:Int)+2,iT [98],eS⟩]:=by simp[BN,List.range_succ]
end Go.Ex
namespace Go.Proofs.iQ
open Go.Ex
def yl(n:Nd):Value:=.iface eH (.agg (pI n).toArray)
theorem aed{H:Heap}{t:List Nd}{p:Option Addr}{l c:Nat}(h:rF 7 H eH (nP t) p l c){i:Nat}{n:Nd}(hi:t[i]?=some n){R:Int->Int->ByteArray->ByteArray->ByteArray->ByteArray->Option Addr->Nat->Nat->Bool->Heap->Prop}
 (hR:∀H',Fr gz H H'->R n.k n.d eS n.loc eS n.val none 0 0 true H'):lg.C p l c (i:Int) H R:=by
 apply lg.calls
 unfold lg.W
 have hl:=(zh h).1
 have lC:=(List.getElem?_eq_some_iff.1 hi).1
 refine db λH1 h1=>?_
 have f1:Fr gz H H1:=h1▸Fr.new H _ _
 have b1:gT H1 (Array.size H) ⟨0,0,eS,eS⟩:=h1▸eV
 refine dW (λ_ H'=>H1=H') (dW (λs H'=>s=(false,())/\H1=H') (e8 (by omega) ⟨by rw[decide_eq_false (by omega)],rfl⟩) ?_) ?_
 ·rintro _ _ ⟨rfl,rfl⟩
  exact eY rfl rfl
 rintro _ _ rfl
 refine zg (h.oP f1) hi (o9 b1 rfl λH4 b4 f4=>?_)
 have b4:gT H4 (Array.size H) n:=b4
 exact nW _ _ _ _ _ _ _ _ _ (λj hj=>b4.cell j) (hR H4 (f1.fresh f4 λi hi=>by omega))
theorem MT{H:Heap}{t:List Nd}{p:Option Addr}{l c:Nat}(h:rF 7 H eH (nP t) p l c)(hlen:t.length<=100000){i:Nat}{n:Nd}(hi:t[i]?=some n){R:Int->Heap->Prop}
 (hR:∀(e:Nat) H',i<e->e<=t.length->(∀j m,i<j->j<e->t[j]?=some m->n.d<m.d)->(∀m,t[e]?=some m->m.d<=n.d)->Fr gz H H'->R (e:Int) H'):jC.C p l c (i:Int) H R:=by
 apply jC.calls
 unfold jC.W
 have hl:=(zh h).1
 have lC:=(List.getElem?_eq_some_iff.1 hi).1
 refine aed h hi λH1 f1=>db λH2 g2=>?_
 have f2:Fr gz H1 H2:=g2▸Fr.new H1 _ _
 refine o9 (cs:=(pI ⟨0,0,eS,eS⟩).toArray) (g2▸eV) rfl λH3 b3 f3=>eY rfl ?_
 have b3:gT H3 (Array.size H1) n:=b3
 have xX:Fr gz H H3:=(f1.eZ f2).fresh f3 λi hi=>by have:=f1.size;omega
 have h3:=h.oP xX
 refine dW (λs H'=>∃e:Nat,s=((e:Int),())/\H3=H'/\i<e/\e<=t.length/\(∀j m,i<j->j<e->t[j]?=some m->n.d<m.d)/\(∀m,t[e]?=some m->m.d<=n.d)) (db λk hk=>?_) ?_
 ·have hk:k=((i+1:Nat):Int):=by rw[hk,dM (by omega) (by omega)];omega
  subst hk
  refine fJ (λm s H'=>∃e:Nat,s=((e:Int),())/\m=t.length-e/\H3=H'/\i<e/\e<=t.length/\(∀j m,i<j->j<e->t[j]?=some m->n.d<m.d)) (t.length-(i+1)) ⟨i+1,rfl,rfl,rfl,by omega,by omega,λj m h1 h2 _=>by omega⟩ ?_
  rintro m _ _ ⟨e,rfl,rfl,rfl,ZS,Ug,fC⟩
  refine dW (λ_ H'=>H3=H'/\∃m,t[e]?=some m/\n.d<m.d) (ft (λlC=>?_) λiG=>⟨e,rfl,rfl,ZS,Ug,fC,λm hm=>?_⟩) ?_
  ·have lC:e<t.length:=by have lC:(e:Int)<(l:Int):=lC;omega
   obtain⟨m,hm⟩:∃m,t[e]?=some m:=⟨_,List.getElem?_eq_getElem lC⟩
   obtain⟨a,ha,hc⟩:=(zh h3).2 e m hm
   refine⟨a,ha,by show(0:Int)<=(e:Int);omega,by show(e:Int)<(l:Int);omega,_,?_,_,b3.cell 1,ft (λhd=>⟨rfl,m,hm,hd⟩) λhd=>⟨e,rfl,rfl,ZS,Ug,fC,λm' fj=>?_⟩⟩
   ·show dj H3 ((a.add ((e:Int).toNat*7)).add 1)=some (.int .i64 m.d)
    rw[Int.toNat_natCast,hc 1 (by omega)]
    rfl
   ·rw[hm] at fj;cases fj
    have hd:¬n.d<m.d:=hd
    omega
  ·have iG:¬(e:Int)<(l:Int):=iG
   have:=(List.getElem?_eq_some_iff.1 hm).1
   omega
  ·rintro _ _ ⟨rfl,m,hm,hd⟩
   have:=(List.getElem?_eq_some_iff.1 hm).1
   refine db λk hk=>⟨t.length-(e+1),by omega,e+1,?_,rfl,rfl,by omega,by omega,λj m' h1 h2 h3=>?_⟩
   ·have hk:k=IntKind.i64.wrap ((e:Int)+1):=hk
    rw[hk,dM (by omega) (by omega),show(e:Int)+1=((e+1:Nat):Int) by omega]
   ·rcases Nat.lt_or_ge j e with hj|hj
    ·exact fC j m' h1 hj h3
    ·obtain rfl:j=e:=by omega
     rw[hm] at h3;cases h3;exact hd
 ·rintro _ _ ⟨e,rfl,rfl,ZS,Ug,fC,Mf⟩
  exact hR e H3 ZS Ug fC Mf xX
theorem O3{H:Heap}(hm:Go.X.sO H){n:Nd}{s:List UInt8}(hn:(n=Mu/\s=[])\/(n.k=2/\∃x:UInt8,n.loc=iT [x]/\s=[60,x])\/(n.k=3/\n.val=iT [120]/\s=[120])){R:ByteArray->Heap->Prop}(hR:∀H',Fr gz H H'->R (iT s) H'):
 j8.C n.k n.d eS n.loc eS n.val none 0 0 H R:=by
 apply j8.calls
 unfold j8.W
 refine db λH1 h1=>?_
 have f1:Fr gz H H1:=h1▸Fr.new H _ _
 have b1:gT H1 (Array.size H) n:=h1▸eV
 refine eG ⟨_,b1.cell 0,?_⟩
 rcases hn with⟨rfl,rfl⟩|⟨hk,x,hl,rfl⟩|⟨hk,hv,rfl⟩
 ·exact e8 (by decide) (e8 (by decide) (e8 (by decide) (e8 (by decide) (hR H1 f1))))
 ·refine kY hk ⟨_,b1.cell 2,_,b1.cell 3,?_⟩
  apply jk.calls
  unfold jk.W
  have e:(⟨#[60]⟩:ByteArray)++n.loc=iT [60,x]:=by rw[hl];exact tz [60] [x]
  refine kY rfl ⟨by rw[hl,jv];simp[ByteArray.size],?_⟩
  rw[e]
  refine eG ⟨_,_,_,b1.cell 6,fJ (λm s H'=>m=0/\s=(iT [60,x],0,())/\H1=H') 0 ⟨rfl,rfl,rfl⟩ ?_⟩
  rintro m _ _ ⟨rfl,rfl,rfl⟩
  exact e8 (by show¬(0:Int)<((0:Nat):Int);decide) (hR H1 f1)
 ·refine e8 (by rw[hk];decide) (kY hk ⟨_,b1.cell 5,?_⟩)
  rw[hv]
  exact aej (yL hm f1) λH2 f2=>hR H2 (f1.eZ f2)
end Go.Proofs.iQ
namespace Go.Ex
def nm(n:Nd):List UInt8:=n.loc.data.toList
def kx(dep:Int):List Nd->List UInt8×List Nd
 |[]=>([],[])
 |n::r=>if n.d<dep then([],n::r) else(60::47::(nm n++62::(kx dep r).1),(kx dep r).2)
theorem SQ{dep:Int}{n:Nd}(h:n.d<dep)(r:List Nd):kx dep (n::r)=([],n::r):=by conv=>lhs;unfold kx;rw[if_pos h]
theorem ac4{dep:Int}{n:Nd}(h:¬n.d<dep)(r:List Nd):kx dep (n::r)=(60::47::(nm n++62::(kx dep r).1),(kx dep r).2):=by conv=>lhs;unfold kx;rw[if_neg h]
theorem yO(k:Nat):(BN (k+1)).reverse=⟨2,(k:Int)+2,iT [98],eS⟩::(BN k).reverse:=by rw[Wp,List.reverse_append];rfl
theorem Qk:∀(k d:Nat),d<=k->kx ((d:Int)+2) (BN k).reverse=(cls (k-d),(BN d).reverse)
 |0,d,h=>by
  obtain rfl:d=0:=by omega
  rfl
 |k+1,d,h=>by
  rw[yO]
  unfold kx
  by_cases hd:d=k+1
  ·subst hd
   rw[if_pos (by show(k:Int)+2<((k+1:Nat):Int)+2;omega),Nat.sub_self,yO]
   rfl
  ·rw[if_neg (by show¬(k:Int)+2<(d:Int)+2;omega),Qk k d (by omega),show k+1-d=(k-d)+1 by omega]
   rfl
theorem Lr:∀(k:Nat),kx 0 (BN k).reverse=(cls k++Bn,[])
 |0=>rfl
 |k+1=>by
  rw[yO]
  unfold kx
  rw[if_neg (by show¬(k:Int)+2<0;omega),Lr k]
  rfl
theorem SS(k:Nat)(d:Int)(h:(k:Int)+1<d):kx d (BN k).reverse=([],(BN k).reverse):=by
 cases k with
 |zero=>unfold BN kx;simp;omega
 |succ k=>rw[yO];unfold kx;rw[if_pos (by show(k:Int)+2<d;omega)]
structure WD where
 q:Option Addr
 bp:Option Addr
 bl:Nat
 bc:Nat
 op:Option Addr
 ol:Nat
 oc:Nat
def wi(w:Nat)(d:WD):Nat->Prop:=λk=>k=w\/fw d.bp k\/fw d.op k
end Go.Ex
namespace Go.Proofs.iQ
open Go.Ex
theorem TC:ZD oJ 3 0:=⟨by decide,by kernel_rfl⟩
structure WS(H:Heap)(w:Nat)(d:WD)(a:List UInt8)(st:List Nd):Prop where
 fv:H[w]?=some (.cells #[.pointer d.q,.slice d.bp d.bl d.bc,.slice d.op d.ol d.oc] oJ (0,0))
 qq:d.q=none\/d.q=some ⟨w,0,none⟩
 bu:Sl H iD (zJ a) d.bp d.bl d.bc
 op:Sl H gV (st.map yl) d.op d.ol d.oc
theorem WS.wh{H:Heap}{w:Nat}{d:WD}{a:List UInt8}{st:List Nd}(s:WS H w d a st):¬fw d.bp w/\¬fw d.op w/\∀k,fw d.bp k->¬fw d.op k:=
 ⟨λh=>by obtain⟨_,h'⟩:=s.bu.ty h;exact oR h' s.fv (by decide),λh=>by obtain⟨_,h'⟩:=s.op.ty h;exact oR h' s.fv (by decide),λk h h'=>by obtain⟨_,a⟩:=s.bu.ty h;obtain⟨_,b⟩:=s.op.ty h';exact oR a b (by decide)⟩
theorem WS.fy{H H':Heap}{w:Nat}{d:WD}{a:List UInt8}{st:List Nd}{F:Nat->Prop}(s:WS H w d a st)(f:Fr F H H')(hd:∀k,wi w d k->¬F k):WS H' w d a st:=
 ⟨f.fv s.fv (hd _ (.inl rfl)),s.qq,s.bu.fy f λk hk=>hd k (.inr (.inl hk)),s.op.fy f λk hk=>hd k (.inr (.inr hk))⟩
theorem WS.oP{H H':Heap}{w:Nat}{d:WD}{a:List UInt8}{st:List Nd}(s:WS H w d a st)(f:Fr gz H H'):WS H' w d a st:=s.fy f λ_ _ h=>h
theorem WS.lt{H:Heap}{w:Nat}{d:WD}{a:List UInt8}{st:List Nd}(s:WS H w d a st){k:Nat}(hk:wi w d k):k<Array.size H:=by
 rcases hk with rfl|h|h
 ·exact fe s.fv
 ·exact s.bu.iK h
 ·exact s.op.iK h
theorem WS.write{H:Heap}{w:Nat}{d:WD}{a:List UInt8}{st:List Nd}(s:WS H w d a st)(r:List UInt8)(hl:(a++r).length<=1048576){R:Int->Value->Heap->Prop}
 (hR:∀n v d' H',WS H' w d' (a++r) st->Gr (wi w d) (wi w d') H H'->R n v H'):fx.C (some ((⟨w,0,none⟩:Addr).add 0)) (iT r) H R:=by
 rw[show(⟨w,0,none⟩:Addr).add 0=⟨w,0,none⟩ from iM w 0 0]
 obtain⟨d1,d2,d3⟩:=s.wh
 refine oG s.fv TC (o:=0) rfl s.qq rfl s.bu d1 r (by omega) λn v p' l' c' H' b' s' DH yb f'=>?_
 refine hR n v ⟨some ⟨w,0,none⟩,p',l',c',d.op,d.ol,d.oc⟩ H' ⟨?_,.inr rfl,s',s.op.fy f' λk hk h=>?_⟩ ⟨f'.mono λk h=>h.elim .inl λh=>.inr (.inl h),λk hk=>?_⟩
 ·rw[b'];simp
 ·rcases h with rfl|h
  ·exact d2 hk
  ·exact d3 k h hk
 ·rcases hk with h|h|h
  ·exact .inl (.inl h)
  ·exact(DH k h).imp (λh=>.inr (.inl h)) id
  ·exact .inl (.inr (.inr h))
theorem Fp{H:Heap}{w:Nat}{d:WD}{a:List UInt8}{rs:List Nd}(s:WS H w d a rs.reverse){dep:Int}(hl:(a++(kx dep rs).1).length<=1048576)(Bb:rs.length<=100000)(hn:∀n∈rs,n.loc.size<=1000){R:Heap->Prop}
 (hR:∀d' H',WS H' w d' (a++(kx dep rs).1) (kx dep rs).2.reverse->Gr (wi w d) (wi w d') H H'->R H'):nL.C (some ⟨w,0,none⟩) dep H R:=by
 apply nL.calls
 unfold nL.W
 refine fJ (λm _ H'=>∃(a':List UInt8)(WI:List Nd)(d':WD),m=WI.length/\WI.length<=100000/\(∀n∈WI,n.loc.size<=1000)/\a'++(kx dep WI).1=a++(kx dep rs).1/\(kx dep WI).2=(kx dep rs).2/\WS H' w d' a' WI.reverse/\Gr (wi w d) (wi w d') H H') rs.length ⟨a,rs,d,rfl,Bb,hn,rfl,rfl,s,Gr.refl _ _⟩ ?_
 rintro m _ H1 ⟨a',WI,d',rfl,tB,Ow,e1,e2,s1,g1⟩
 have c2:∀{H':Heap}{Ju:WD}{a st},WS H' w Ju a st->dj H' ((⟨w,0,none⟩:Addr).add 2)=some (.slice Ju.op Ju.ol Ju.oc):=λs=>(dh s.fv 0 2).trans rfl
 have C9:WI.length=d'.ol:=by have:=s1.op.1;simpa using this
 refine⟨_,rfl,_,_,_,c2 s1,ft (λh0=>?_) λh0=>?_⟩
 ·have h0:0<d'.ol:=by have h0:(0:Int)<(d'.ol:Int):=h0;omega
  obtain⟨n,r,rfl⟩:∃n r,WI=n::r:=by
   cases WI with
   |nil=>simp at C9;omega
   |cons n r=>exact⟨n,r,rfl⟩
  simp only[List.length_cons] at C9 tB
  have ew:IntKind.i64.wrap ((d'.ol:Int)-1)=((d'.ol-1:Nat):Int):=by rw[dM (by omega) (by omega)];omega
  obtain⟨pa,D3,Y9⟩:=s1.op.rd.get (i:=d'.ol-1) (v:=yl n) (by
   rw[List.getElem?_map,List.reverse_cons,List.getElem?_append_right (by rw[List.length_reverse];omega),List.length_reverse,show d'.ol-1-r.length=0 by omega];rfl)
  refine⟨_,rfl,_,_,_,c2 s1,_,rfl,_,_,_,c2 s1,?_⟩
  dsimp only
  rw[ew]
  refine⟨pa,D3,by omega,by omega,_,by rw[Int.toNat_natCast];exact Y9,n.k,n.d,eS,n.loc,eS,n.val,none,0,0,true,.inl ⟨rfl,rfl⟩,db λH2 h2=>?_⟩
  have f2:Fr gz H1 H2:=h2▸Fr.new H1 _ _
  have s2:=s1.oP f2
  refine⟨⟨_,_,_,c2 s2,rfl⟩,⟨_,_,_,c2 s2,rfl⟩,⟨_,f2.cell (by rw[Int.toNat_natCast];exact Y9) λh=>h,rfl⟩,o9 (cs:=(pI ⟨0,0,eS,eS⟩).toArray) (h2▸eV) rfl λH3 b3 f3=>?_⟩
  have b3:gT H3 (Array.size H1) n:=b3
  have f13:Fr gz H1 H3:=f2.fresh f3 λi hi=>by omega
  have s3:=s1.oP f13
  have g3:=g1.trans (Gr.of f13)
  refine dW (λ_ H'=>H3=H'/\¬n.d<dep) (eY rfl ⟨_,b3.cell 1,ft (λhd=>?_) λhd=>⟨rfl,hd⟩⟩) ?_
  ·have hd:n.d<dep:=hd
   rw[SQ hd] at e1 e2
   rw[List.append_nil] at e1
   exact hR d' H3 (by rw[<-e1,<-e2];exact s3) g3
  ·rintro _ _ ⟨rfl,hd⟩
   rw[ac4 hd] at e1 e2
   refine⟨_,rfl,_,b3.cell 2,_,b3.cell 3,?_⟩
   apply jk.calls
   unfold jk.W
   have hns:=Ow n (List.mem_cons_self ..)
   have aq1:n.loc=iT (nm n):=rfl
   have et:((⟨#[60,47]⟩:ByteArray)++n.loc)++(⟨#[62]⟩:ByteArray)=iT (60::47::(nm n++[62])):=by
    rw[aq1]
    have h1:(⟨#[60,47]⟩:ByteArray)++iT (nm n)=iT ([60,47]++nm n):=tz [60,47] (nm n)
    rw[h1]
    exact tz ([60,47]++nm n) [62]
   have e1s:((⟨#[60,47]⟩:ByteArray)++n.loc).size=2+n.loc.size:=ByteArray.size_append
   refine kY rfl ⟨by show 2+n.loc.size<=_;omega,by rw[e1s];show 2+n.loc.size+1<=_;omega,?_⟩
   rw[et]
   have Nr:(a'++60::47::(nm n++[62]))++(kx dep r).1=a++(kx dep rs).1:=by rw[<-e1];simp
   refine s3.write _ (by have:=congrArg List.length Nr;simp only[List.length_append] at this hl⊢;omega) λn' v' d5 H6 s6 g6=>?_
   have aqm:d5.ol=r.length+1:=by have:=s6.op.1;simp at this;omega
   have ew6:IntKind.i64.wrap ((d5.ol:Int)-1)=((r.length:Nat):Int):=by rw[dM (by omega) (by omega)];omega
   have pK:=s6.op.cap
   obtain⟨x1,x2,x3⟩:=s6.wh
   refine⟨_,rfl,_,_,_,c2 s6,_,rfl,_,_,_,c2 s6,?_⟩
   dsimp only
   rw[ew6]
   refine⟨by omega,by omega,_,rfl,kQ s6.fv (by simp) λH7 b7 f7=>⟨r.length,by simp,a'++60::47::(nm n++[62]),r,⟨d5.q,d5.bp,d5.bl,d5.bc,d5.op,r.length,d5.oc⟩,rfl,by omega,λm hm=>Ow m (List.mem_cons_of_mem _ hm),Nr,e2,⟨?_,s6.qq,s6.bu.fy f7 λk hk e=>x1 (e▸hk),?_⟩,⟨((g3.trans g6).fr).trans f7 λk hk=>(g3.trans g6).up k (.inl hk),λk hk=>(g3.trans g6).up k hk⟩⟩⟩
   ·rw[b7,ais];simp
   ·have hs:=s6.op
    rw[aqm] at hs
    have:=hs.cut.fy f7 λk hk e=>x2 (e▸hk)
    have et:(List.map yl (n::r).reverse).take r.length=List.map yl r.reverse:=by
     rw[List.reverse_cons,List.map_append,List.take_append_of_le_length (by simp),List.take_of_length_le (by simp)]
    rw[et] at this
    exact this
 ·have h0:¬(0:Int)<(d'.ol:Int):=h0
  have:WI=[]:=List.eq_nil_of_length_eq_zero (by omega)
  subst this
  have e0:kx dep []=([],[]):=rfl
  rw[e0] at e1 e2
  rw[List.append_nil] at e1
  exact hR d' H1 (by rw[<-e1,<-e2];exact s1) g1
end Go.Proofs.iQ
namespace Go.Ex
theorem YF:∀(L:List Nat)(j d:Nat)(M:List Nat),L.drop j=d::M->(Fe L)[2*j]?=some ⟨2,(d:Int)+2,iT [98],eS⟩/\(Fe L)[2*j+1]?=some ⟨3,(d:Int)+3,eS,iT [120]⟩
 |[],j,d,M,h=>by simp at h
 |e::L,0,d,M,h=>by
  rw[List.drop_zero] at h
  cases h
  rw[o0]
  exact⟨rfl,rfl⟩
 |e::L,j+1,d,M,h=>by
  rw[o0]
  have:=YF L j d M (by simpa using h)
  rw[show 2*(j+1)=2*j+2 by omega]
  exact this
theorem zD{L:List Nat}{j d:Nat}{M:List Nat}(h:L.drop j=d::M):(eI L)[2+2*j]?=some ⟨2,(d:Int)+2,iT [98],eS⟩/\(eI L)[3+2*j]?=some ⟨3,(d:Int)+3,eS,iT [120]⟩:=by
 obtain⟨h1,h2⟩:=YF L j d M h
 unfold eI
 rw[show 2+2*j=2*j+2 by omega,show 3+2*j=(2*j+1)+2 by omega]
 exact⟨h1,h2⟩
def Z1(L:List Nat)(i:Nat)(a:List UInt8)(rs:List Nd):Prop:=
 (i<=1/\a=[]/\rs=[])\/(∃j k,i=2+2*j/\j<=L.length/\rs=(BN k).reverse/\Ok k (L.drop j)/\a++(ti k (L.drop j)++Bn)=whole L/\k<=1000)\/
 (∃j d M,i=3+2*j/\L.drop j=d::M/\rs=(BN (d+1)).reverse/\Ok (d+1) M/\a++(120::(ti (d+1) M++Bn))=whole L/\d<=999)
def NdT(n:Nd)(s:List UInt8):Prop:=(n=Mu/\s=[])\/(n.k=2/\∃x:UInt8,n.loc=iT [x]/\s=[60,x])\/(n.k=3/\n.val=iT [120]/\s=[120])
theorem Z1.len{L:List Nat}{i:Nat}{a:List UInt8}{rs:List Nd}(h:Z1 L i a rs):a.length<=(whole L).length/\rs.length<=1001/\∀n∈rs,n.loc.size<=1000:=by
 have hs:∀k,∀n∈(BN k).reverse,n.loc.size<=1000:=λk n hn=>by
  rw[List.mem_reverse] at hn
  unfold BN at hn
  rcases List.mem_cons.1 hn with rfl|hn
  ·decide
  ·obtain⟨i,_,rfl⟩:=List.mem_map.1 hn
   show(iT [98]).size<=1000
   decide
 rcases h with⟨_,rfl,rfl⟩|⟨j,k,_,_,rfl,_,e,hk⟩|⟨j,d,M,_,_,rfl,_,e,hk⟩
 ·exact⟨by simp,by simp,λn hn=>by cases hn⟩
 ·exact⟨by rw[<-e];simp,by rw[List.length_reverse,P7];omega,hs k⟩
 ·exact⟨by rw[<-e];simp,by rw[List.length_reverse,P7];omega,hs (d+1)⟩
theorem Z1.step{L:List Nat}(lu:Ok 0 L)(hd:∀d∈L,d<=198)(hZ:L≠[]){i:Nat}{a:List UInt8}{rs:List Nd}(h:Z1 L i a rs){n:Nd}(hn:(eI L)[i]?=some n):
 ∃s,NdT n s/\Z1 L (i+1) (a++(kx n.d rs).1++s++(if n.k=2 then[62] else[])) (if n.k=2 then n::(kx n.d rs).2 else(kx n.d rs).2)/\(n.k=2->∃m,(eI L)[i+1]?=some m/\n.d<m.d):=by
 rcases h with⟨hi,rfl,rfl⟩|⟨j,k,rfl,hj,rfl,Cp,e,hk⟩|⟨j,d,M,rfl,Cq,rfl,Cp,e,hk⟩
 ·rcases(show i=0\/i=1 by omega) with rfl|rfl
  ·cases hn
   exact⟨[],.inl ⟨rfl,rfl⟩,.inl ⟨by omega,rfl,rfl⟩,λh=>by cases h⟩
  ·cases hn
   refine⟨[60,97],.inr (.inl ⟨rfl,97,rfl,rfl⟩),.inr (.inl ⟨0,0,rfl,by omega,rfl,lu,rfl,by omega⟩),λ_=>?_⟩
   cases L with
   |nil=>exact absurd rfl hZ
   |cons d M=>exact⟨_,(zD (L:=d::M) (j:=0) rfl).1,by show(1:Int)<(d:Int)+2;omega⟩
 ·cases hL:L.drop j with
  |nil=>
   have lC:=(List.getElem?_eq_some_iff.1 hn).1
   rw[jo] at lC
   have:=congrArg List.length hL
   simp at this
   omega
  |cons d M=>
   rw[hL] at Cp e
   obtain⟨h1,h2⟩:=zD hL
   rw[h1] at hn
   cases hn
   have Ji:=Cp.1
   have hd8:=hd d (List.mem_of_mem_drop (i:=j) (by rw[hL];exact List.mem_cons_self ..))
   have ep:kx ((d:Int)+2) (BN k).reverse=(cls (k-d),(BN d).reverse):=Qk k d Ji
   refine⟨[60,98],.inr (.inl ⟨rfl,98,rfl,rfl⟩),.inr (.inr ⟨j,d,M,by omega,hL,?_,Cp.2,?_,by omega⟩),λ_=>⟨_,by rw[show 2+2*j+1=3+2*j by omega];exact h2,by show(d:Int)+2<(d:Int)+3;omega⟩⟩
   ·show⟨2,(d:Int)+2,iT [98],eS⟩::(kx ((d:Int)+2) (BN k).reverse).2=_
    rw[ep,yO]
   ·show(a++(kx ((d:Int)+2) (BN k).reverse).1++[60,98]++[62])++_=_
    rw[ep,<-e]
    show _=a++((cls (k-d)++60::98::62::120::ti (d+1) M)++Bn)
    simp
 ·obtain⟨h1,h2⟩:=zD Cq
  rw[h2] at hn
  cases hn
  have ep:kx ((d:Int)+3) (BN (d+1)).reverse=([],(BN (d+1)).reverse):=SS _ _ (by omega)
  refine⟨[120],.inr (.inr ⟨rfl,rfl,rfl⟩),.inr (.inl ⟨j+1,d+1,by omega,?_,?_,?_,?_,by omega⟩),λh=>by cases h⟩
  ·have:=congrArg List.length Cq
   simp at this
   omega
  ·show(kx ((d:Int)+3) (BN (d+1)).reverse).2=_
   rw[ep]
  ·have:L.drop (j+1)=M:=by rw[<-List.drop_drop,Cq];rfl
   rw[this];exact Cp
  ·have:L.drop (j+1)=M:=by rw[<-List.drop_drop,Cq];rfl
   rw[this]
   show(a++(kx ((d:Int)+3) (BN (d+1)).reverse).1++[120]++[])++_=_
   rw[ep,<-e]
   simp
theorem Z1.fin{L:List Nat}{a:List UInt8}{rs:List Nd}(h:Z1 L (eI L).length a rs):∃k,rs=(BN k).reverse/\a++(cls k++Bn)=whole L:=by
 rw[jo] at h
 rcases h with⟨hi,_⟩|⟨j,k,hi,hj,rfl,Cp,e,hk⟩|⟨j,d,M,hi,Cq,rfl,Cp,e,hk⟩
 ·omega
 ·obtain rfl:j=L.length:=by omega
  rw[List.drop_length] at e
  exact⟨k,rfl,e⟩
 ·have:=congrArg List.length Cq
  simp at this
  omega
end Go.Ex
namespace Go.Proofs.iQ
open Go.Ex
theorem O2{H:Heap}(ZO:Go.X.sO H)(h7:6<Array.size H){L:List Nat}(lu:Ok 0 L)(hd:∀d∈L,d<=198)(hZ:L≠[])(hL:L.length<=40000)(hS:(whole L).length<=1048576){p:Option Addr}{l c:Nat}(h:rF 7 H eH (nP (eI L)) p l c)
 {R:ByteArray->Int->Heap->Prop}(hR:∀H',Fr gz H H'->R (iT (whole L)) 0 H'):j7.C p l c 0 H R:=by
 have ht:=Df lu hd hL
 have D8:=La ZO
 apply j7.calls
 unfold j7.W
 have hl:=(zh h).1
 have hlen:=ht.len
 generalize T2:eI L=t at*
 refine dW (λ_ H'=>Fr gz H H') (HC D8 h7 h ht λH2 f2=>eY rfl (dW (λs H'=>s=(false,())/\H2=H') (e8 (by omega) ⟨by rw[decide_eq_false (by omega)],rfl⟩) ?_)) ?_
 ·rintro _ _ ⟨rfl,rfl⟩
  exact eY rfl f2
 intro _ H1 f1
 refine db λH4 g4=>?_
 have f4:Fr gz H1 H4:=g4▸Fr.new H1 _ _
 have b4:H4[Array.size H1]?=some (.cells #[.pointer none,.slice none 0 0,.slice none 0 0] oJ (0,0)):=g4▸eV
 have oA:=f1.eZ f4
 have nil:∀i,¬fw none i:=λi⟨_,h,_⟩=>by cases h
 generalize hw:Array.size H1=w at*
 have VW:Array.size H<=w:=by have:=f1.size;omega
 have w4:WS H4 w ⟨none,none,0,0,none,0,0⟩ [] []:=⟨b4,.inl rfl,Sl.nil _ _,Sl.nil _ _⟩
 have apU:∀k,wi w ⟨none,none,0,0,none,0,0⟩ k->Array.size H<=k:=λk hk=>by
  rcases hk with rfl|hk|hk
  ·exact VW
  ·exact absurd hk (nil k)
  ·exact absurd hk (nil k)
 refine dW (λ_ H'=>∃d a rs,Z1 L t.length a rs/\WS H' w d a rs.reverse/\(∀k,wi w d k->Array.size H<=k)/\Fr gz H H') ?_ ?_
 ·refine MT (h.oP oA) (by omega) ht.head λe H6 ZS Ug fC Mf f6=>?_
  have hee:e=t.length:=by
   rcases Nat.lt_or_ge e t.length with lC|iG
   ·exfalso
    obtain⟨m,hm⟩:=ht.at lC
    have h1:=Mf m hm
    obtain⟨e',rfl⟩:∃e',e=e'+1:=⟨e-1,by omega⟩
    obtain⟨z,hz⟩:=ht.at (i:=e') (by omega)
    have h2:=(ht.nx e' z m hz hm).1
    have h1:m.d<=0:=h1
    omega
   ·omega
  subst hee
  refine fJ (λn s H'=>∃(i:Nat)(d:WD)(a:List UInt8)(rs:List Nd),i<=t.length/\n=t.length-i/\s=((i:Int),())/\Z1 L i a rs/\WS H' w d a rs.reverse/\(∀k,wi w d k->Array.size H<=k)/\Fr gz H H') t.length
   ⟨0,_,[],[],by omega,rfl,rfl,.inl ⟨by omega,rfl,rfl⟩,w4.oP f6,apU,oA.eZ f6⟩ ?_
  rintro n _ H7 ⟨i,d,a,rs,hi,rfl,rfl,hP,s7,ag0,f7⟩
  refine ft (λlC=>?_) λiG=>?_
  ·have lC:i<t.length:=by have lC:(i:Int)<(t.length:Int):=lC;omega
   obtain⟨n,hn⟩:=ht.at lC
   obtain⟨s,hs,GG,hch⟩:=hP.step lu hd hZ (by rw[T2];exact hn)
   have QL:=GG.len
   have X2:=hP.len
   have am5:(a++(kx n.d rs).1++s).length<=1048576/\(a++(kx n.d rs).1).length<=1048576:=by
    have:=QL.1
    simp only[List.length_append] at this⊢
    omega
   refine dW (λ_ H'=>∃(d:WD)(a:List UInt8)(rs:List Nd),Z1 L (i+1) a rs/\WS H' w d a rs.reverse/\(∀k,wi w d k->Array.size H<=k)/\Fr gz H H') ?_ ?_
   ·refine zg (h.oP f7) hn (db λH9 g9=>?_)
    have f9:Fr gz H7 H9:=g9▸Fr.new H7 _ _
    refine o9 (cs:=(pI ⟨0,0,eS,eS⟩).toArray) (g9▸eV) rfl λde Rj f10=>?_
    have Rj:gT de (Array.size H7) n:=Rj
    have anl:Fr gz H7 de:=f9.fresh f10 λi hi=>by omega
    have z7:=f7.size
    have lt7:∀k,wi w d k->k<Array.size H7:=λk hk=>s7.lt hk
    refine⟨_,Rj.cell 1,Fp (s7.oP anl) am5.2 (by omega) X2.2.2 λd1 fg wE g11=>⟨_,rfl,?_⟩⟩
    have Ur:gT fg (Array.size H7) n:=g11.fr.fv Rj λhh=>by have:=lt7 _ hh;omega
    have l10:=fe Rj
    have T4:∀k,wi w d1 k->Array.size H<=k/\k≠Array.size H7:=λk hk=>by
     rcases g11.up k hk with hh|hh
     ·exact⟨ag0 k hh,by have:=lt7 k hh;omega⟩
     ·omega
    have Bk:Fr gz H fg:=(f7.eZ anl).fresh g11.fr ag0
    refine nW _ _ _ _ _ _ _ _ _ (λj hj=>Ur.cell j) (O3 (yL ZO Bk) hs λfZ f12=>?_)
    have TG:gT fZ (Array.size H7) n:=f12.fv Ur λh=>h
    refine(wE.oP f12).write s am5.1 λn1 v1 d2 gS A0 g13=>?_
    have z11:=Bk.size
    have z12:=f12.size
    have wv:gT gS (Array.size H7) n:=g13.fr.fv TG λhh=>(T4 _ hh).2 rfl
    have l12:=fe TG
    have Ak:∀k,wi w d2 k->Array.size H<=k/\k≠Array.size H7:=λk hk=>by
     rcases g13.up k hk with hh|hh
     ·exact T4 k hh
     ·omega
    have adT:Fr gz H gS:=(Bk.eZ f12).fresh g13.fr λk hk=>(T4 k hk).1
    refine⟨_,wv.cell 0,ft (λhk=>?_) λhk=>?_⟩
    ·have hk:n.k≠2:=hk
     rw[if_neg hk,if_neg hk,List.append_nil] at GG
     exact⟨d2,_,_,GG,A0,λk hk=>(Ak k hk).1,adT⟩
    ·have hk:n.k=2:=Decidable.of_not_not hk
     rw[if_pos hk,if_pos hk] at GG
     rw[if_pos hk,if_pos hk] at QL
     obtain⟨m,hm,hmd⟩:=hch hk
     rw[T2] at hm
     refine MT (h.oP adT) (by omega) hn λe gK ZS Ug fC Mf f14=>e8 (λhe=>?_) ⟨_,rfl,?_⟩
     ·have he:(e:Int)=IntKind.i64.wrap ((i:Int)+1):=he
      rw[dM (by omega) (by omega)] at he
      obtain rfl:e=i+1:=by omega
      have:=Mf m hm
      omega
     refine(A0.oP f14).write [62] (by have:=QL.1;simp only[List.length_append] at this⊢;omega) λn2 v2 d3 jY Aq g15=>?_
     have zY:gT gK (Array.size H7) n:=f14.fv wv λh=>h
     have tf:gT jY (Array.size H7) n:=g15.fr.fv zY λhh=>(Ak _ hh).2 rfl
     have l14:=fe zY
     have z13:=adT.size
     have z14:=f14.size
     have Im:∀k,wi w d3 k->Array.size H<=k/\k≠Array.size H7:=λk hk=>by
      rcases g15.up k hk with hh|hh
      ·exact Ak k hh
      ·omega
     have ans:Fr gz H jY:=(adT.eZ f14).fresh g15.fr λk hk=>(Ak k hk).1
     have c2:∀{H':Heap}{Ju:WD}{a st},WS H' w Ju a st->dj H' ((⟨w,0,none⟩:Addr).add 2)=some (.slice Ju.op Ju.ol Ju.oc):=λs=>(dh s.fv 0 2).trans rfl
     refine⟨_,rfl,_,_,_,c2 Aq,nW _ _ _ _ _ _ _ _ _ (λj hj=>tf.cell j) (db λlW g16=>⟨⟨_,_,_,c2 (Aq.oP (g16▸Fr.new jY _ _:Fr gz jY lW)),rfl⟩,?_⟩)⟩
     have C9:(kx n.d rs).2.length=d3.ol:=by have:=Aq.op.1;simpa using this
     have asv:(kx n.d rs).2.length<=1001:=by have:=QL.2.1;simp only[List.length_cons] at this;omega
     refine afG (v:=yl n) Aq.op g16 rfl ⟨by simp[yl],by simp[yl]⟩ (by show(d3.ol+1)*16<=_;omega) (by decide) λp' c' pd ZK f17 I1=>?_
     obtain⟨x1,x2,x3⟩:=Aq.wh
     have w17:=f17.fv Aq.fv x2
     have Ve:=ans.size
     have pw:¬fw p' w:=λhh=>(I1 w hh).elim x2 λhh=>by have:=fe Aq.fv;omega
     refine⟨_,rfl,kQ w17 (by simp) λuo Pt f18=>?_⟩
     refine⟨⟨d3.q,d3.bp,d3.bl,d3.bc,p',d3.ol+1,c'⟩,_,_,GG,⟨?_,Aq.qq,?_,?_⟩,λk hk=>?_,?_⟩
     ·rw[Pt];simp
     ·exact(Aq.bu.fy f17 x3).fy f18 λk hk e=>x1 (e▸hk)
     ·have:=ZK.fy f18 λk hk e=>pw (e▸hk)
      rw[List.reverse_cons,List.map_append]
      exact this
     ·rcases hk with hk|hk|hk
      ·exact(Im k (.inl hk)).1
      ·exact(Im k (.inr (.inl hk))).1
      ·rcases I1 k hk with hh|hh
       ·exact(Im k (.inr (.inr hh))).1
       ·omega
     ·exact(ans.fresh f17 λk hk=>(Im k (.inr (.inr hk))).1).fresh f18 λk hk=>hk▸VW
   ·rintro _ H8 ⟨d,a,rs,hP,s8,apT,f8⟩
    refine db λk hk=>⟨t.length-(i+1),by omega,i+1,d,a,rs,by omega,rfl,?_,hP,s8,apT,f8⟩
    have hk:k=IntKind.i64.wrap ((i:Int)+1):=hk
    rw[hk,dM (by omega) (by omega),show(i:Int)+1=((i+1:Nat):Int) by omega]
  ·have iG:i=t.length:=by have iG:¬(i:Int)<(t.length:Int):=iG;omega
   subst iG
   exact⟨d,a,rs,hP,s7,ag0,f7⟩
 ·rintro _ H5 ⟨d,a,rs,hP,s5,alW,f5⟩
  have X2:=hP.len
  rw[<-T2] at hP
  obtain⟨k,rfl,Tl⟩:=hP.fin
  have ep:=Lr k
  refine Fp s5 (by rw[ep,Tl];exact hS) (by omega) X2.2.2 λd1 pk CX g19=>⟨_,rfl,?_⟩
  rw[ep] at CX
  simp only[Tl] at CX
  have aqZ:Fr gz H pk:=f5.fresh g19.fr alW
  have sq:(whole L).length=d1.bl:=by have:=CX.bu.1;rwa[tI] at this
  have pK:=CX.bu.cap
  rw[show(⟨w,0,none⟩:Addr).add 0=⟨w,0,none⟩ from iM w 0 0]
  refine rE CX.fv (o:=0) rfl CX.bu (λ_=>?_) (by omega) λxZ f20=>hR xZ (aqZ.fresh f20 λk hk=>?_)
  ·have:0<(whole L).length:=by simp[whole]
   omega
  ·rcases g19.up k (.inr (.inl hk)) with hh|hh
   ·exact alW k hh
   ·have:=f5.size;omega
end Go.Proofs.iQ
