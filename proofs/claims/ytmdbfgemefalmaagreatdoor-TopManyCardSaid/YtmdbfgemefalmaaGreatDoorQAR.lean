/- Part AR of the proof that the law TopMany answers true at every input, under no condition. -/
import Derived.Test.YtmdbfgemefalmaaGreatDoorQAQ
import Derived.Lib.DecodeN
import Derived.KernelRfl
set_option linter.unusedVariables false
set_option maxHeartbeats 2000000
set_option maxRecDepth 100000
namespace Go.Ex
structure Gr(F F':Nat->Prop)(H H':Heap):Prop where
 fr:Fr F H H'
 up:∀k,F' k->F k\/Array.size H<=k
theorem Gr.refl(F:Nat->Prop)(H:Heap):Gr F F H H:=⟨Fr.refl _ _,λ_ h=>.inl h⟩
theorem Gr.trans{F F' F'':Nat->Prop}{H H' mK:Heap}(h:Gr F F' H H')(k:Gr F' F'' H' mK):Gr F F'' H mK:=
 ⟨h.fr.trans k.fr h.up,λi hi=>(k.up i hi).elim (h.up i) λhh=>.inr (Nat.le_trans h.fr.size hh)⟩
theorem Gr.of{F:Nat->Prop}{H H':Heap}(h:Fr gz H H'):Gr F F H H':=⟨h.mono λ_ h=>h.elim,λ_ h=>.inl h⟩
theorem AY{v:Value}{b o:Nat}{H:Heap}{cs:Array Value}{t:TypeId}{K:Heap->Prop}(hb:H[b]?=some (.cells cs t (0,0)))(ho:o<cs.size)
 (h:∀H',H'[b]?=some (.cells (cs.setIfInBounds o v) t (0,0))->Fr (λk=>k=b) H H'->K H'):
 (∃u,dj H ((⟨b,0,none⟩:Addr).add o)=some u)/\gO H ((⟨b,0,none⟩:Addr).add o)=false/\K (nQ H ((⟨b,0,none⟩:Addr).add o) v):=by
 refine⟨⟨cs[o],?_⟩,mQ hb 0 o,h _ ?_ ?_⟩
 ·rw[dh hb,Nat.zero_add];exact Array.getElem?_eq_getElem ho
 ·have:=kG hb 0 o v;rwa[Nat.zero_add] at this
 ·have:=Fr.set H ((⟨b,0,none⟩:Addr).add o) v;rwa[ke] at this
theorem dM{n:Int}(h0:-9223372036854775808<=n)(h1:n<=9223372036854775807):IntKind.i64.wrap n=n:=wrap_i64 h0 h1
theorem ais(c:Nat)(p:Option Addr):(if c=0 then p else Option.map (λq:Addr=>q.add 0) p)=p:=by
 split
 ·rfl
 ·cases p with
  |none=>rfl
  |some a=>simp[Go.Ex.add_zero]
end Go.Ex
namespace Go.Proofs.iQ
open Go.Ex
theorem Wv{b:Nat}{t:TypeId}:∀{vs:List Value}{cs:Array Value}{i:Nat}{H:Heap}{K:Heap->Prop},H[b]?=some (.cells cs t (0,0))->i+vs.length<=cs.size->
 (∀H' As,H'[b]?=some (.cells As t (0,0))->As.size=cs.size->(∀j,j<i->As[j]?=cs[j]?)->(∀j,j<vs.length->As[i+j]?=vs[j]?)->(∀j,i+vs.length<=j->As[j]?=cs[j]?)->Fr (λk=>k=b) H H'->K H')->
 nR vs ⟨b,0,none⟩ i H K
 |[],cs,i,H,K,hb,_,h=>h H cs hb rfl (λ_ _=>rfl) (λj hj=>absurd hj (Nat.not_lt_zero j)) (λ_ _=>rfl) (Fr.refl _ _)
 |v::r,cs,i,H,K,hb,hl,h=>by
  simp only[List.length_cons] at hl
  refine AY hb (by omega) λH1 h1 f1=>Wv h1 (by rw[Array.size_setIfInBounds];omega) λH' As h2 hs mc X0 lx f2=>?_
  rw[Array.size_setIfInBounds] at hs
  refine h H' As h2 hs (λj hj=>?_) (λj hj=>?_) (λj hj=>?_) (f1.trans f2 λk hk=>.inl hk)
  ·rw[mc j (by omega),Array.getElem?_setIfInBounds_ne (by omega)]
  ·cases j with
   |zero=>rw[mc _ (by omega),Nat.add_zero,Array.getElem?_setIfInBounds_self_of_lt (by omega)];rfl
   |succ j=>
    have:=X0 j (by simpa using hj)
    rw[show i+(j+1)=i+1+j by omega,this];rfl
  ·simp only[List.length_cons] at hj
   rw[lx j (by omega),Array.getElem?_setIfInBounds_ne (by omega)]
theorem o9{b:Nat}{t:TypeId}{vs:List Value}{cs:Array Value}{H:Heap}{K:Heap->Prop}(hb:H[b]?=some (.cells cs t (0,0)))(hl:vs.length=cs.size)
 (h:∀H',H'[b]?=some (.cells vs.toArray t (0,0))->Fr (λk=>k=b) H H'->K H'):nR vs ⟨b,0,none⟩ 0 H K:=by
 refine Wv hb (by omega) λH' As h1 hs _ hm _ f=>h H' ?_ f
 have e:As=vs.toArray:=by
  apply Array.ext_getElem?
  intro j
  have e2:vs.toArray[j]?=vs[j]?:=by simp
  rw[e2]
  rcases Nat.lt_or_ge j vs.length with hj|hj
  ·have:=hm j hj;rwa[Nat.zero_add] at this
  ·rw[Array.getElem?_eq_none (by omega),List.getElem?_eq_none hj]
 rw[h1,e]
abbrev PL:Value:=.iface rM (.slice none 0 0)
def kN(H:Heap)(g:Nat)(F:Nat->Prop)(l:Nat):Prop:=∃p c,H[g]?=some (.cells #[.slice p l c] uL (0,0))/\Sl H gV (List.replicate l PL) p l c/\
 (∀k,fw p k->F k/\k≠g)/\F g/\∀k,F k->k<Array.size H
theorem kN.fy{H H':Heap}{g l:Nat}{F G:Nat->Prop}(h:kN H g F l)(hf:Fr G H H')(hd:∀k,F k->¬G k):kN H' g F l:=by
 obtain⟨p,c,h1,h2,h3,h4,h5⟩:=h
 exact⟨p,c,hf.fv h1 (hd _ h4),h2.fy hf (λk hk=>hd _ (h3 k hk).1),h3,h4,λk hk=>Nat.lt_of_lt_of_le (h5 k hk) hf.size⟩
theorem sR{H:Heap}{R:Option Addr->Heap->Prop}(hR:∀g F H',kN H' g F 0->Fr gz H H'->(∀k,F k->Array.size H<=k)->R (some ⟨g,0,none⟩) H'):fh.C H R:=by
 apply fh.calls
 unfold fh.W
 refine db λH1 h1=>?_
 subst h1
 refine hR _ (λk=>k=Array.size H) _ ⟨none,0,eV,Sl.nil _ _,?_,rfl,λk hk=>?_⟩ (Fr.new _ _ _) (λk hk=>by omega)
 ·rintro k ⟨a,ha,_⟩;cases ha
 ·rw[gC];omega
theorem FJ{H:Heap}{g l:Nat}{F:Nat->Prop}(h:kN H g F l){R:Int->Heap->Prop}(hR:R (l:Int) H):mJ.C (some ⟨g,0,none⟩) H R:=by
 obtain⟨p,c,h1,-⟩:=h
 apply mJ.calls
 unfold mJ.W
 exact eY rfl ⟨_,rfl,_,_,_,(dh h1 0 0).trans rfl,db λx hx=>by subst hx;exact hR⟩
theorem FE{H:Heap}{g l:Nat}{F:Nat->Prop}(h:kN H g F (l+1))(hl:l<=1048576){R:Bool->Heap->Prop}(hR:∀H',kN H' g F l->Fr (λk=>k=g) H H'->R true H'):lV.C (some ⟨g,0,none⟩) H R:=by
 apply lV.calls
 unfold lV.W
 refine FJ h ?_
 obtain⟨p,c,h1,h2,h3,h4,h5⟩:=h
 have hc:=(dh h1 0 0).trans rfl
 have pK:=h2.cap
 refine e8 (by omega) ⟨_,rfl,_,_,_,hc,_,rfl,_,_,_,hc,?_⟩
 have e1:IntKind.i64.wrap (((l+1:Nat):Int)-1)=(l:Int):=by rw[dM (by omega) (by omega)];omega
 show 0<=IntKind.i64.wrap (((l+1:Nat):Int)-1)/\IntKind.i64.wrap (((l+1:Nat):Int)-1)<=(c:Int)/\_
 rw[e1]
 refine⟨by omega,by omega,_,rfl,AY h1 (by simp) λH1 k1 f1=>hR H1 ⟨p,c,?_,?_,h3,h4,λk hk=>Nat.lt_of_lt_of_le (h5 k hk) f1.size⟩ f1⟩
 ·rw[k1,ais];simp
 ·have hs:=h2.fy f1 (λk hk=>(h3 k hk).2)
  refine⟨by simp,?_⟩
  rcases hs.2 with⟨_,BJ,_⟩|⟨b,cs,hp,hb,pg,qX,xW⟩
  ·omega
  ·refine .inr ⟨b,cs,hp,hb,pg,by omega,λi hi=>?_⟩
   rw[xW i (by omega)]
   simp only[List.getElem?_replicate]
   rw[if_pos (by omega),if_pos hi]
theorem TS{H:Heap}{g l:Nat}{F:Nat->Prop}(h:kN H g F l)(hl:l<=1048576){ap:Option Addr}{ac:Nat}{R:Int->Heap->Prop}(hR:∀F' H',kN H' g F' (l+1)->Gr F F' H H'->R 0 H'):pn.C (some ⟨g,0,none⟩) ap 0 ac H R:=by
 apply pn.calls
 unfold pn.W
 obtain⟨p,c,h1,h2,h3,h4,h5⟩:=h
 refine eY rfl (dW (λs H'=>s=((none,0,0),())/\H'=H) ?_ ?_)
 ·refine fJ (λ_ q H'=>q=((none,0,0),0,())/\H'=H) 0 ⟨rfl,rfl⟩ ?_
  rintro n q H' ⟨rfl,rfl⟩
  exact e8 (by decide) ⟨rfl,rfl⟩
 ·rintro s H' ⟨rfl,rfl⟩
  refine⟨_,rfl,_,_,_,(dh h1 0 0).trans rfl,zN h2 rfl ⟨by simp,by simp⟩ (by omega) (by decide) λp' c' H1 k1 f1 hp=>?_⟩
  have g1:=f1.fv h1 (λhk=>(h3 _ hk).2 rfl)
  refine⟨_,rfl,AY g1 (by simp) λH2 k2 f2=>?_⟩
  have hZ:∀k,fw p' k->k≠g:=λk hk=>by
   rintro rfl
   rcases hp _ hk with h|h
   ·exact(h3 _ h).2 rfl
   ·have:=h5 _ h4;omega
  refine hR (λk=>F k\/fw p' k) H2 ⟨p',c',by rw[k2];simp,?_,λk hk=>⟨.inr hk,hZ k hk⟩,.inl h4,λk hk=>?_⟩ ⟨?_,λk hk=>?_⟩
  ·have:=k1.fy f2 hZ
   rwa[<-List.replicate_succ'] at this
  ·rcases hk with hk|hk
   ·exact Nat.lt_of_lt_of_le (h5 k hk) (Nat.le_trans f1.size f2.size)
   ·exact Nat.lt_of_lt_of_le (k1.iK hk) f2.size
  ·exact(f1.mono λk hk=>(h3 k hk).1).trans f2 λk hk=>.inl (hk▸h4)
  ·rcases hk with hk|hk
   ·exact .inl hk
   ·exact(hp k hk).imp (λh=>(h3 k h).1) id
end Go.Proofs.iQ
namespace Go.Ex
abbrev eS:ByteArray:=⟨#[]⟩
theorem Fr.push(H:Heap)(x:Obj):Fr gz H (H.push x):=⟨by simp,λk hk _=>by rw[Array.getElem?_push,if_neg (by omega)]⟩
theorem Fr.back{F:Nat->Prop}{H H':Heap}{b:Nat}(h:Fr (λk=>F k\/k=b) H H')(hb:H'[b]?=H[b]?):Fr F H H':=
 ⟨h.size,λk hk hn=>by
  by_cases e:k=b
  ·subst e;exact hb
  ·exact h.fy k hk λhh=>hh.elim hn e⟩
structure Nd where
 k:Int
 d:Int
 loc:ByteArray
 val:ByteArray
def pI(n:Nd):List Value:=[.int .i64 n.k,.int .i64 n.d,.string eS,.string n.loc,.string eS,.string n.val,.slice none 0 0]
theorem yc:¬(0:Int)<((0:Nat):Int):=by decide
end Go.Ex
namespace Go.Proofs.iQ
open Go.Ex
abbrev gT(H:Heap)(b:Nat)(n:Nd):Prop:=H[b]?=some (.cells (pI n).toArray eH (0,0))
theorem gT.cell{H:Heap}{b:Nat}{n:Nd}(h:gT H b n)(j:Nat):dj H ((⟨b,0,none⟩:Addr).add j)=(pI n)[j]?:=by
 rw[dh h,Nat.zero_add];simp
theorem Of{H:Heap}{g l:Nat}{F:Nat->Prop}(h:kN H g F l){k:Nat}(hk:k<l){R:Option Addr->Nat->Nat->Heap->Prop}(hR:R none 0 0 H):mH.C (some ⟨g,0,none⟩) (k:Int) H R:=by
 apply mH.calls
 unfold mH.W
 obtain⟨p,c,h1,h2,h3,h4,h5⟩:=h
 obtain⟨a,rfl,ha⟩:=h2.rd.get (i:=k) (v:=PL) (by rw[List.getElem?_replicate,if_pos hk])
 exact⟨_,rfl,_,_,_,(dh h1 0 0).trans rfl,a,rfl,by omega,by omega,PL,ha,none,0,0,true,.inl ⟨rfl,rfl⟩,hR⟩
theorem Ze{H:Heap}{g l:Nat}{F:Nat->Prop}(h:kN H g F l)(hl:l<=1048577){R:ByteArray->Bool->Heap->Prop}(hR:R eS true H):dc.C (some ⟨g,0,none⟩) eS H R:=by
 apply dc.calls
 unfold dc.W
 have h0:=h
 obtain⟨p,c,h1,-⟩:=h
 refine eY rfl (dW (λ_ H'=>H=H') ?_ ?_)
 ·refine⟨_,rfl,_,_,_,(dh h1 0 0).trans rfl,db λi hi=>?_⟩
  rw[dM (by omega) (by omega)] at hi
  subst hi
  refine fJ (λt(q:Int×Unit) H'=>H=H'/\t<=l/\q.1=(t:Int)-1) l ⟨rfl,Nat.le_refl _,rfl⟩ ?_
  rintro t ⟨i,_⟩ H' ⟨rfl,ht,hi⟩
  simp only at hi
  subst hi
  refine ft (λh=>?_) (λ_=>rfl)
  refine dW (λ_ H'=>H=H') ?_ ?_
  ·show mH.C _ ((t:Int)-1) _ _
   rw[show(t:Int)-1=((t-1:Nat):Int) by omega]
   refine Of h0 (by omega) (fJ (λ_(q:Int×Unit) H'=>H=H'/\q.1=0) 0 ⟨rfl,rfl⟩ ?_)
   rintro n ⟨i,_⟩ H' ⟨rfl,hi⟩
   simp only at hi
   subst hi
   exact e8 yc rfl
  ·rintro _ H' rfl
   refine db λi hi=>⟨t-1,by omega,rfl,by omega,?_⟩
   rw[hi,dM (by omega) (by omega)]
   omega
 ·rintro _ H' rfl
  exact e8 (by decide) hR
theorem tT{H:Heap}{g l b:Nat}{F:Nat->Prop}{n:Nd}(h:kN H g F l)(hl:l<=1048576)(hb:gT H b n)(hn:¬F b){R:Int->Heap->Prop}
 (hR:∀F' H',kN H' g F' (l+1)->Gr F F' H H'->gT H' b n->¬F' b->R 0 H'):jP.C (some ⟨g,0,none⟩) (some ⟨b,0,none⟩) H R:=by
 apply jP.calls
 unfold jP.W
 refine dW (λ_ H'=>H=H') ?_ ?_
 ·refine⟨_,rfl,_,_,_,hb.cell 6,fJ (λ_(q:Int×Unit) H'=>H=H'/\q.1=0) 0 ⟨rfl,rfl⟩ ?_⟩
  rintro n ⟨i,_⟩ H' ⟨rfl,hi⟩
  simp only at hi
  subst hi
  exact e8 yc rfl
 rintro _ H' rfl
 refine⟨_,rfl,_,_,_,hb.cell 6,TS h hl λF1 H1 s1 g1=>e8 (by decide) ?_⟩
 have qg:gT H1 b n:=g1.fr.fv hb hn
 have XZ:¬F1 b:=λhh=>by
  rcases g1.up b hh with h|h
  ·exact hn h
  ·have:=fe hb;omega
 refine⟨_,rfl,_,qg.cell 2,Ze s1 (Nat.succ_le_succ hl) ?_⟩
 refine dW (λs H'=>s=(true,())/\kN H' g F1 (l+1)/\Fr gz H1 H'/\gT H' b n) ?_ ?_
 ·refine iR rfl ⟨_,rfl,_,qg.cell 2,_,rfl,AY qg (by simp[pI]) λH2 k2 f2=>⟨by decide,?_⟩⟩
  have e:gT H2 b n:=by rw[gT,k2];simp[pI]
  have f:Fr gz H1 H2:=Fr.back (f2.mono λ_ h=>.inr h) (e.trans qg.symm)
  exact⟨s1.fy f λ_ _ h=>h,f,e⟩
 rintro _ H2 ⟨rfl,s2,f2,b2⟩
 refine db λH3 h3=>?_
 have f3:Fr gz H2 H3:=h3▸Fr.push H2 _
 have b3:gT H3 b n:=f3.fv b2 λh=>h
 refine dW (λs H'=>s=(true,())/\H3=H') ?_ ?_
 ·refine⟨_,rfl,_,_,_,b3.cell 6,fJ (λ_(q:Bool×Int×Unit) H'=>H3=H'/\q=(true,0,())) 0 ⟨rfl,rfl⟩ ?_⟩
  rintro m q H' ⟨rfl,rfl⟩
  exact e8 yc ⟨rfl,rfl⟩
 rintro _ H' ⟨rfl,rfl⟩
 exact eY rfl (hR F1 _ (s2.fy f3 λ_ _ h=>h) (g1.trans (Gr.of (f2.eZ f3))) b3 XZ)
end Go.Proofs.iQ
namespace Go.Ex
def iT(l:List UInt8):ByteArray:=⟨l.toArray⟩
theorem tz(a b:List UInt8):iT a++iT b=iT (a++b):=by
 apply ByteArray.ext
 rw[ByteArray.data_append]
 unfold iT
 simp
theorem jv(a:List UInt8):(iT a).size=a.length:=by unfold iT ByteArray.size;simp
theorem dq(a:List UInt8):(iT a).data.toList=a:=by unfold iT;simp
theorem Xj(s:ByteArray):iT s.data.toList=s:=rfl
theorem zj(l:List UInt8)(a b:Nat):(iT l).extract a b=iT ((l.drop a).take (b-a)):=by
 apply ByteArray.ext
 rw[ByteArray.data_extract]
 apply Array.ext'
 simp only[iT,Array.toList_extract,List.extract_eq_take_drop]
theorem tw(p r:List UInt8):(iT (p++r)).extract p.length (iT (p++r)).size=iT r:=by
 rw[zj,jv,List.drop_left,List.take_of_length_le (by simp)]
theorem adf(p m r:List UInt8):(iT (p++(m++r))).extract p.length (p.length+m.length)=iT m:=by
 rw[zj,List.drop_left,Nat.add_sub_cancel_left,List.take_left]
theorem get_at(s:ByteArray)(i:Nat)(x:UInt8)(h:s.data.toList[i]?=some x):s.get! i=x:=by
 show s.data[i]! =x
 obtain⟨hi,h⟩:=List.getElem?_eq_some_iff.1 h
 rw[getElem!_pos s.data i (by simpa using hi)]
 simpa using h
theorem vY(s:ByteArray)(i:Nat)(x:UInt8)(h:s.data.toList[i]?=some x)(hx:x.toNat<128):Utf8.decode s i=(x.toNat,1):=by
 rw[Go.Lib.decode_at,get_at s i x h]
 simp[Go.Lib.decodeN,hx]
end Go.Ex
namespace Go.Proofs.iQ
open Go.Ex
def jX(H:Heap):Prop:=∃t fr m,H[6]?=some (.cells #[.int .i64 m] t fr)
theorem jX.cell{H:Heap}(h:jX H):∃m,dj H ⟨6,0,none⟩=some (.int .i64 m):=by
 obtain⟨t,fr,m,h⟩:=h
 exact⟨m,by rw[kc h];rfl⟩
theorem nj{H:Heap}(s p:ByteArray){R:Bool->Heap->Prop}(hR:R (Go.Lib.hasPrefix s.data.toList p.data.toList) H):strings_HasPrefix.C s p H R:=by
 intro w hw
 subst hw
 refine(Tryz.strings_HasPrefix s p w).mono λe w'⟨h1,h2⟩=>?_
 subst h2
 exact⟨_,h1,dV.refl _,_,rfl,hR⟩
theorem B6{H:Heap}(s:ByteArray)(x:UInt8)(h:s.data.toList[0]?=some x)(hx:x.toNat<128){R:Int->Int->Heap->Prop}(hR:R (x.toNat:Int) 1 H):mA.C s H R:=by
 intro w hw
 subst hw
 refine(Tryz.utf8_DecodeRuneInString_ascii s x w h hx).mono λe w'⟨h1,h2⟩=>?_
 subst h2
 exact⟨_,h1,dV.refl _,_,_,rfl,hR⟩
theorem wW{H:Heap}(s p:ByteArray)(hm:jX H)(hs:s.size<4294967281){R:Bool->Heap->Prop}(hR:R (Go.Lib.contains s.data.toList p.data.toList) H):strings_Contains.C s p H R:=by
 intro w hw
 subst hw
 obtain⟨m,hm⟩:=hm.cell
 refine(Tryz.strings_Contains s p m w hs (by rw[kA];exact hm)).mono λe w'⟨h1,h2⟩=>?_
 subst h2
 exact⟨_,h1,dV.refl _,_,rfl,hR⟩
theorem Gn{H:Heap}(s p:ByteArray)(hs:s.size<4294967281)(hp:p.size<4294967281)(has:∀(j:Nat)(b:UInt8),s.data.toList[j]?=some b->b.toNat<128)(Uk:∀(j:Nat)(b:UInt8),p.data.toList[j]?=some b->b.toNat<128)
 {R:Int->Heap->Prop}(hR:∀H',Fr gz H H'->R (Go.Lib.indexAny s.data.toList p.data.toList) H'):strings_IndexAny.C s p H R:=by
 intro w hw
 subst hw
 refine(Tryz.strings_IndexAny_laid s p w hs hp has Uk).mono λe w'⟨h1,h2⟩=>?_
 exact⟨_,h1,⟨h2.os,h2.tape,h2.output⟩,_,rfl,hR _ ⟨h2.size,λk hk _=>h2.block k hk⟩⟩
end Go.Proofs.iQ
namespace Go.Proofs.iQ
open Go.Ex
def AR.C(I:ByteArray)(H:Heap)(R:Int->Heap->Prop):Prop:=Ex.Fn Tryz.prog 370 #[.string I] H λv H'=>∃r0:Int,v=.int .u64 r0/\R r0 H'
def o7.gD:gR:={ord:=λ_=>.ord [],loop:=λi=>bif Nat.beq i 1 then some [(0,.one .str)] else none,join:=λi=>bif Nat.beq i 6 then some [(24,.one .bool)] else bif Nat.beq i 11 then some [(0,.one .str)] else bif Nat.beq i 28 then some [] else none,cut:=λi=>[6,11].any (Nat.beq i)}
def o7.W(ab:ByteArray)(R:Bool->Heap->Prop)(H0:Heap):Prop:=
 eW (S:=Unit) (λad=>
 lD (S:=(ByteArray×Unit)) (λL1 q1 H2=>(λ(I:ByteArray)=>
 gn (decide ((0:Int)<(I.size:Int))) (0<=(0:Int)/\(0:Int)<(I.size:Int)/\
 eX (bt I (0:Int)) λae:Int=>
 eW (S:=(ByteArray×Unit)) (λaf=>
 gn (decide (ae<128)) (0<=(1:Int)/\(1:Int)<=(I.size:Int)/\
 eW (S:=(Bool×Unit)) (λJ6=>
 gn (decide ((8:Int)<(((I.extract ((1:Int).toNat) I.size).size:Int)))) (AR.C (I.extract ((1:Int).toNat) I.size) H2 λah H5=>J6 (decide ((lN .u64 ah 9259542123273814144)=0),()) H5) (J6 (false,()) H2))
 (λs6 H4=>(λ(ai:Bool)=>
 gn ai (False) (L1 (I.extract ((1:Int).toNat) I.size,()) H4)) s6.1)) (af (I,()) H2))
 (λaj H3=>(λ(I:ByteArray)=>False) aj.1)) (ad () H2)) q1.1) (ab,()) H0)
 (λ_ H1=>R true H1)
theorem o7.eq(I:ByteArray)(R:Bool->Heap->Prop)(H0:Heap):
 wF Tryz.prog o7.gD Tryz.f334 [.string I] (λv H'=>xS (.one .bool) v λr=>R r H') H0=o7.W I R H0:=by kernel_rfl
theorem o7.calls{I}{R}{H0}(h:o7.W I R H0):o7.C I H0 R:=
 (dp eF Tryz.func334 (by rw[o7.eq];exact h)).mono λv H' h=>by obtain⟨x,hv,hk⟩:=fS h;exact⟨x,hv,hk⟩
end Go.Proofs.iQ
namespace Go.Ex
theorem mn{H:Heap}{b:Nat}(hb:b<Array.size H)(x:Obj):(Array.setIfInBounds H b x)[b]?=some x:=Array.getElem?_setIfInBounds_self_of_lt hb
theorem Fr.uO(H:Heap)(b:Nat)(x:Obj):Fr (λk=>k=b) H (Array.setIfInBounds H b x):=⟨by simp,λk _ hn=>Array.getElem?_setIfInBounds_ne (λh=>hn h.symm)⟩
theorem kE(H:Heap)(x:Obj):(H.push x)[Array.size H]?=some x:=by simp
theorem Fr.fresh{F:Nat->Prop}{H H' mK:Heap}(h:Fr gz H H')(k:Fr F H' mK)(hF:∀i,F i->Array.size H<=i):Fr gz H mK:=h.trans k λi hi=>.inr (hF i hi)
def alJ(t:List (Int×Int)):List Value:=t.flatMap λq=>[.int .i32 q.1,.int .i32 q.2]
theorem P5:∀(t:List (Int×Int))(i j:Nat)(hi:i<t.length),j<2->(alJ t)[i*2+j]?=([.int .i32 t[i].1,.int .i32 t[i].2]:List Value)[j]?
 |q::t,0,j,hi,hj=>by rcases j with _|_|j<;>first|rfl|omega
 |q::t,i+1,j,hi,hj=>by
  have:=P5 t i j (by simpa using hi) hj
  rw[show(i+1)*2+j=(i*2+j)+2 by omega]
  exact this
end Go.Ex
namespace Go.Proofs.iQ
open Go.Ex
theorem jX.fy{H H':Heap}{F:Nat->Prop}(h:jX H)(hf:Fr F H H')(h6:¬F 6):jX H':=by
 obtain⟨t,fr,m,h⟩:=h
 exact⟨t,fr,m,hf.fv h h6⟩
theorem jX.oP{H H':Heap}(h:jX H)(hf:Fr gz H H'):jX H':=h.fy hf λh=>h
theorem Jb{H:Heap}{b:Nat}(vA:List (Int×Int))(hb:H[b]?=some (.cells (alJ vA).toArray lP (0,0)))(hl:vA.length<=1000)(r:Int){R:Bool->Heap->Prop}
 (hR:∀H',Fr gz H H'->R (vA.any λq=>decide (q.1<=r)&&decide (r<=q.2)) H'):jj.C r (some ⟨b,0,none⟩) vA.length vA.length H R:=by
 apply jj.calls
 unfold jj.W
 refine eG (fJ (λn s H'=>∃i:Nat,i<=vA.length/\s=((i:Int),())/\n=vA.length-i/\(∀q∈vA.take i,(decide (q.1<=r)&&decide (r<=q.2))=false)/\Fr gz H H') vA.length ⟨0,by omega,rfl,rfl,(λq hq=>by simp at hq),Fr.refl _ _⟩ ?_)
 rintro n _ H' ⟨i,hi,rfl,rfl,wL,f⟩
 have rb:=f.fv hb λh=>h
 refine ft (λh0=>?_) (λh0=>?_)
 ·have h0:i<vA.length:=by have h0:(i:Int)<(vA.length:Int):=h0;omega
  have oV:∀j,j<2->dj H' (((⟨b,0,none⟩:Addr).add (i*2)).add j)=([.int .i32 vA[i].1,.int .i32 vA[i].2]:List Value)[j]?:=λj hj=>by
   rw[Addr.add_add,dh rb,Nat.zero_add,<-P5 vA i j h0 hj];simp
  refine eG ⟨_,rfl,by omega,by show(i:Int)<(vA.length:Int);omega,Xx vA[i].1 vA[i].2 oV (db λH1 h1=>?_)⟩
  have f1:Fr gz H' H1:=h1▸Fr.new H' _ _
  refine o9 (cs:=#[.int .i32 0,.int .i32 0]) (h1▸eV) rfl λH2 b2 f2=>?_
  have sX:Fr gz H H2:=(f.eZ f1).fresh f2 λk hk=>by have:=f.size;omega
  have c2:∀j,dj H2 ((⟨Array.size H',0,none⟩:Addr).add j)=([.int .i32 vA[i].1,.int .i32 vA[i].2]:List Value)[j]?:=λj=>by rw[dh b2,Nat.zero_add];simp
  refine dW (λs H3=>s=(decide (vA[i].1<=r)&&decide (r<=vA[i].2),())/\H2=H3) ⟨_,c2 0,ft (λh=>⟨_,c2 1,by simp[h],rfl⟩) λh=>⟨by simp[h],rfl⟩⟩ ?_
  rintro _ _ ⟨rfl,rfl⟩
  cases hq:(decide (vA[i].1<=r)&&decide (r<=vA[i].2)) with
  |true=>
   have:(vA.any λq=>decide (q.1<=r)&&decide (r<=q.2))=true:=List.any_eq_true.2 ⟨vA[i],List.getElem_mem _,hq⟩
   have hR:=hR H2 sX
   rw[this] at hR
   exact iR rfl hR
  |false=>
   refine eY rfl ⟨vA.length-(i+1),by omega,i+1,by omega,?_,rfl,λq hm=>?_,sX⟩
   ·have:IntKind.i64.wrap ((i:Int)+1)=((i+1:Nat):Int):=by rw[dM (by omega) (by omega)];omega
    rw[this]
   ·rw[List.take_add_one,List.mem_append] at hm
    rcases hm with hm|hm
    ·exact wL q hm
    ·rw[List.getElem?_eq_getElem h0] at hm
     simp at hm
     exact hm▸hq
 ·have h0:i=vA.length:=by have h0:¬(i:Int)<(vA.length:Int):=h0;omega
  subst h0
  have:(vA.any λq=>decide (q.1<=r)&&decide (r<=q.2))=false:=by
   rw[List.any_eq_false]
   intro q hq
   rw[List.take_length] at wL
   simpa using wL q hq
  have hR:=hR H' f
  rw[this] at hR
  exact hR
def Jy:List (Int×Int):=[(9,10),(13,13),(32,55295),(57344,65533),(65536,1114111)]
def CT:List (Int×Int):=[(58,58),(65,90),(95,95),(97,122),(192,214),(216,246),(248,767),(880,893),(895,8191),(8204,8205),(8304,8591),(11264,12271),(12289,55295),(63744,64975),(65008,65533),(65536,983039)]
def W2:List (Int×Int):=[(45,46),(48,57),(183,183),(768,879),(8255,8256)]
theorem TW{H:Heap}(r:Int){R:Bool->Heap->Prop}(hR:∀H',Fr gz H H'->R (Jy.any λq=>decide (q.1<=r)&&decide (r<=q.2)) H'):gZ.C r H R:=by
 apply gZ.calls
 unfold gZ.W
 apply gI.calls
 unfold gI.W
 refine db λH1 h1=>Jb Jy (h1▸eV) (by decide) r λH2 f2=>hR H2 ((h1▸Fr.new H _ _:Fr gz H H1).eZ f2)
theorem FD{H:Heap}(r:Int){R:Bool->Heap->Prop}(hR:∀H',Fr gz H H'->R (CT.any λq=>decide (q.1<=r)&&decide (r<=q.2)) H'):eL.C r H R:=by
 apply eL.calls
 unfold eL.W
 apply fA.calls
 unfold fA.W
 refine db λH1 h1=>Jb CT (h1▸eV) (by decide) r λH2 f2=>hR H2 ((h1▸Fr.new H _ _:Fr gz H H1).eZ f2)
theorem HE{H:Heap}(r:Int){R:Bool->Heap->Prop}(hR:∀H',Fr gz H H'->R ((CT.any λq=>decide (q.1<=r)&&decide (r<=q.2))||(W2.any λq=>decide (q.1<=r)&&decide (r<=q.2))) H'):eN.C r H R:=by
 apply eN.calls
 unfold eN.W
 refine FD r λH1 f1=>?_
 cases hs:(CT.any λq=>decide (q.1<=r)&&decide (r<=q.2)) with
 |true=>have:=hR H1 f1;rw[hs] at this;exact iR rfl this
 |false=>
  refine eY rfl ?_
  apply gH.calls
  unfold gH.W
  refine db λH2 h2=>Jb W2 (h2▸eV) (by decide) r λH3 f3=>?_
  have:=hR H3 (f1.eZ ((h2▸Fr.new H1 _ _:Fr gz H1 H2).eZ f3))
  rw[hs] at this
  exact this
theorem MQ{H:Heap}(hm:jX H){x:UInt8}(hx:x=97\/x=98){R:Bool->Heap->Prop}(hR:∀H',Fr gz H H'->R true H'):eN.C (x.toNat:Int) H R:=
 HE _ λH' f=>by rcases hx with rfl|rfl<;>exact hR H' f
theorem aek{H:Heap}(hm:jX H){R:Bool->Heap->Prop}(hR:∀H',Fr gz H H'->R false H'):eN.C 62 H R:=HE _ λH' f=>hR H' f
theorem TO{H:Heap}{x:UInt8}(hx:x=97\/x=98){R:Bool->Heap->Prop}(hR:∀H',Fr gz H H'->R true H'):eL.C (x.toNat:Int) H R:=
 FD _ λH' f=>by rcases hx with rfl|rfl<;>exact hR H' f
theorem Sv{H:Heap}{x:UInt8}(hx:x=97\/x=98){R:Bool->Heap->Prop}(hR:R true H):o7.C (iT [x]) H R:=by
 apply o7.calls
 unfold o7.W
 refine eG (fJ (λn s H'=>H=H'/\((n=1/\s=(iT [x],()))\/(n=0/\s=(iT [],())))) 1 ⟨rfl,.inl ⟨rfl,rfl⟩⟩ ?_)
 rintro n s _ ⟨rfl,⟨rfl,rfl⟩|⟨rfl,rfl⟩⟩
 ·refine kY (by show(0:Int)<((iT [x]).size:Int);rw[jv];simp) ⟨by omega,by show(0:Int)<((iT [x]).size:Int);rw[jv];simp,db λc hc=>dW (λ_ _=>False) (kY ?_ ⟨by omega,by show(1:Int)<=((iT [x]).size:Int);rw[jv];simp,?_⟩) λ_ _ h=>h.elim⟩
  ·rw[hc];rcases hx with rfl|rfl<;>decide
  ·have e:(iT [x]).extract (1:Int).toNat (iT [x]).size=iT []:=by rw[zj,jv];rfl
   refine dW (λs H'=>s=(false,())/\H=H') (e8 ?_ ⟨rfl,rfl⟩) ?_
   ·show¬(8:Int)<(((iT [x]).extract (1:Int).toNat (iT [x]).size).size:Int)
    rw[e];decide
   ·rintro _ _ ⟨rfl,rfl⟩
    exact eY rfl ⟨0,by omega,rfl,.inr ⟨rfl,by rw[<-e]⟩⟩
 ·exact e8 (by decide) hR
theorem FH{H:Heap}(hm:jX H){x:UInt8}(hx:x=97\/x=98){R:Bool->Heap->Prop}(hR:∀H',Fr gz H H'->R true H'):fK.C (iT [x]) H R:=by
 apply fK.calls
 unfold fK.W
 have BE:x.toNat<128:=by rcases hx with rfl|rfl<;>decide
 refine dW (λ_ H'=>Fr gz H H') (db λH1 h1=>?_) (λ_ H' f=>kY (λe=>by have:=congrArg ByteArray.size e;rw[jv] at this;simp[ByteArray.size] at this) (Sv hx (hR _ f)))
 subst h1
 refine fJ (λn _ H'=>∃q,q<=1/\n=1-q/\H'[Array.size H]?=some (.stringIter (iT [x]) q)/\Fr gz H H') 1 ⟨0,by omega,rfl,kE _ _,Fr.push _ _⟩ ?_
 rintro n _ H' ⟨q,hq,rfl,hb,f⟩
 refine⟨_,_,hb,ft (λh0=>?_) λh0=>f⟩
 have h0:q=0:=by rw[jv] at h0;simp at h0;exact h0
 subst h0
 rw[vY _ 0 x (by rw[dq];rfl) BE]
 refine db λH2 h2=>db λk hk=>db λc hc=>?_
 subst hk hc
 have lC:=fe hb
 have Tq:H2[Array.size H]?=some (.stringIter (iT [x]) 1):=h2▸mn lC _
 have f2:Fr gz H H2:=h2▸f.fresh (Fr.uO _ _ _) λi hi=>by omega
 refine dW (λs H3=>s=(false,())/\Fr gz H2 H3) (kY (by decide) (TO hx λH3 f3=>eY rfl (MQ (hm.oP (f2.eZ f3)) hx λH4 f4=>⟨rfl,f3.eZ f4⟩))) ?_
 rintro _ H3 ⟨rfl,f3⟩
 exact eY rfl ⟨0,by omega,1,by omega,rfl,f3.fv Tq λh=>h,f2.eZ f3⟩
theorem O5{H:Heap}(hm:jX H){x:UInt8}(hx:x=97\/x=98){R:Bool->Heap->Prop}(hR:∀H',Fr gz H H'->R true H'):eD.C (iT [x]) H R:=by
 apply eD.calls
 unfold eD.W
 refine FH hm hx λH1 f1=>iR rfl (wW _ _ (hm.oP f1) (by rw[jv];simp) ?_)
 rw[dq]
 rcases hx with rfl|rfl<;>exact hR _ f1
theorem ZB{H:Heap}(s p:ByteArray)(hm:jX H)(hs:s.size<4294967281){R:ByteArray->ByteArray->Bool->Heap->Prop}(hR:R (iT (Go.Lib.cut s.data.toList p.data.toList).1) (iT (Go.Lib.cut s.data.toList p.data.toList).2.1) (Go.Lib.cut s.data.toList p.data.toList).2.2 H):strings_Cut.C s p H R:=by
 intro w hw
 subst hw
 obtain⟨m,hm⟩:=hm.cell
 refine(Tryz.strings_Cut s p m w hs (by rw[kA];exact hm)).mono λe w'⟨h1,n,h2⟩=>?_
 subst h2
 exact⟨_,h1,⟨rfl,rfl,rfl⟩,_,_,_,rfl,hR⟩
theorem Bx{H:Heap}(hm:jX H){x:UInt8}(hx:x=97\/x=98){R:ByteArray->ByteArray->Bool->Heap->Prop}(hR:∀H',Fr gz H H'->R eS (iT [x]) true H'):eM.C (iT [x]) H R:=by
 apply eM.calls
 unfold eM.W
 refine ZB _ _ hm (by rw[jv];simp) ?_
 have e:Go.Lib.cut (iT [x]).data.toList (⟨#[58]⟩:ByteArray).data.toList=([x],[],false):=by rw[dq];rcases hx with rfl|rfl<;>rfl
 rw[e]
 refine dW (λs H'=>s=(eS,iT [x],())/\H=H') (iR rfl ⟨rfl,rfl⟩) ?_
 rintro _ _ ⟨rfl,rfl⟩
 refine dW (λ_ H'=>Fr gz H H') (dW (λs H'=>s=(false,())/\Fr gz H H') (O5 hm hx λH1 f1=>eY rfl (eY rfl ⟨rfl,f1⟩)) ?_) (λ_ H' f=>hR H' f)
 rintro _ H' ⟨rfl,f⟩
 exact eY rfl f
end Go.Proofs.iQ
namespace Go.Proofs.iQ
open Go.Ex
theorem Zf{H:Heap}{x:UInt8}(h:x≠32/\x≠9/\x≠13/\x≠10){R:Bool->Heap->Prop}(hR:R false H):fR.C (x.toNat:Int) H R:=by
 apply fR.calls
 unfold fR.W
 have e:∀y:UInt8,x≠y->¬((x.toNat:Int)=(y.toNat:Int)):=λy hy e=>hy (UInt8.toNat_inj.1 (by omega))
 refine e8 (e 32 h.1) (e8 (e 9 h.2.1) (e8 (e 13 h.2.2.1) ?_))
 have:=e 10 h.2.2.2
 rw[show decide ((x.toNat:Int)=10)=false from decide_eq_false this]
 exact hR
theorem vp{H:Heap}(p:List UInt8)(x:UInt8)(r:List UInt8)(hs:(p++x::r).length<=1048576)(hx:x.toNat<128)(h:x≠32/\x≠9/\x≠13/\x≠10){R:Int->Heap->Prop}
 (hR:∀H',Fr gz H H'->R (p.length:Int) H'):mj.C (iT (p++x::r)) (p.length:Int) H R:=by
 apply mj.calls
 unfold mj.W
 refine dW (λ_ _=>False) ⟨by omega,by rw[jv];simp;omega,?_⟩ (λ_ _ h=>h.elim)
 rw[Int.toNat_natCast,tw]
 refine db λH1 h1=>?_
 subst h1
 refine fJ (λ_ _ H'=>H'=H.push (.stringIter (iT (x::r)) 0)) 0 rfl ?_
 rintro n _ H' rfl
 refine⟨_,_,kE _ _,kY (by rw[jv];simp) ?_⟩
 rw[vY _ 0 x (by rw[dq];rfl) hx]
 have f:Fr gz H (Array.setIfInBounds (H.push (.stringIter (iT (x::r)) 0)) (Array.size H) (.stringIter (iT (x::r)) (0+1))):=(Fr.push H _).fresh (Fr.uO _ _ _) λi hi=>by omega
 refine db λH2 h2=>db λk hk=>db λq hq=>?_
 subst h2 hk hq
 refine Zf h (iR rfl (db λy hy=>?_))
 have e:y=(p.length:Int):=by
  simp only[List.length_append,List.length_cons] at hs
  rw[hy,dM (by omega) (by omega)];omega
 rw[e]
 exact hR _ f
theorem OY{H:Heap}(s:ByteArray){R:Int->Heap->Prop}(hR:∀H',Fr gz H H'->R (s.size:Int) H'):mj.C s (s.size:Int) H R:=by
 apply mj.calls
 unfold mj.W
 refine dW (λ_ H'=>Fr gz H H') ⟨by omega,by omega,?_⟩ (λ_ H' h=>db λy hy=>by subst hy;exact hR _ h)
 rw[Int.toNat_natCast]
 have e:s.extract s.size s.size=eS:=by
  have:=zj s.data.toList s.size s.size
  rw[Xj] at this
  rw[this];simp[iT]
 rw[e]
 refine db λH1 h1=>?_
 subst h1
 refine fJ (λ_ _ H'=>H'=H.push (.stringIter eS 0)) 0 rfl ?_
 rintro n _ H' rfl
 exact⟨_,_,kE _ _,e8 (by decide) (Fr.push _ _)⟩
theorem MM{H:Heap}(hm:jX H)(p:List UInt8)(x:UInt8)(r:List UInt8)(hs:(p++x::62::r).length<=1048576)(hx:x=97\/x=98){R:Int->Heap->Prop}
 (hR:∀H',Fr gz H H'->R ((p.length+1:Nat):Int) H'):e9.C (iT (p++x::62::r)) (p.length:Int) H R:=by
 apply e9.calls
 unfold e9.W
 have fU:=hs
 simp only[List.length_append,List.length_cons] at fU
 have BE:x.toNat<128:=by rcases hx with rfl|rfl<;>decide
 refine dW (λ_ _=>False) ⟨by omega,by rw[jv];simp;omega,?_⟩ (λ_ _ h=>h.elim)
 rw[Int.toNat_natCast,tw]
 refine db λH1 h1=>?_
 subst h1
 refine fJ (λn _ H'=>∃q,q<=1/\n=1-q/\H'[Array.size H]?=some (.stringIter (iT (x::62::r)) q)/\Fr gz H H') 1 ⟨0,by omega,rfl,kE _ _,Fr.push _ _⟩ ?_
 rintro n _ H' ⟨q,hq,rfl,hb,hf⟩
 refine⟨_,_,hb,kY (by rw[jv];simp;omega) ?_⟩
 have lC:=fe hb
 have dec:∀(y:UInt8)(t:List UInt8),y.toNat<128->(x::62::r).drop q=y::t->Utf8.decode (iT (x::62::r)) q=(y.toNat,1):=λy t hy e=>
  vY _ q y (by rw[dq];have:=congrArg (·[0]?) e;simpa using this) hy
 have Vr:∀(y:UInt8)(t:List UInt8),(x::62::r).drop q=y::t->(iT (p++x::62::r)).extract (p.length+q) (iT (p++x::62::r)).size=iT (y::t):=λy t e=>by
  rw[zj,jv,List.drop_append,List.drop_eq_nil_of_le (by omega),List.nil_append,show p.length+q-p.length=q by omega,e,List.take_of_length_le]
  have:=congrArg List.length e
  simp only[List.length_drop,List.length_cons] at this
  simp only[List.length_append,List.length_cons]
  omega
 have ek:IntKind.i64.wrap ((p.length:Int)+(q:Int))=((p.length+q:Nat):Int):=by rw[dM (by omega) (by omega)];omega
 rcases(show q=0\/q=1 by omega) with rfl|rfl
 ·rw[dec x (62::r) BE rfl]
  refine db λH2 h2=>db λk hk=>db λc hc=>?_
  subst hk hc
  have Tq:H2[Array.size H]?=some (.stringIter (iT (x::62::r)) 1):=h2▸mn lC _
  have f2:Fr gz H H2:=h2▸hf.fresh (Fr.uO _ _ _) λi hi=>by omega
  rw[ek]
  refine⟨by omega,by rw[jv];simp only[List.length_append,List.length_cons];omega,?_⟩
  rw[Int.toNat_natCast,Vr x (62::r) rfl]
  refine B6 _ x (by rw[dq];rfl) BE (dW (λs H'=>s=(false,())/\Fr gz H2 H') ?_ ?_)
  ·refine MQ (hm.oP f2) hx λH3 f3=>eY rfl (e8 (by rcases hx with rfl|rfl<;>decide) ⟨rfl,f3⟩)
  ·rintro _ H3 ⟨rfl,f3⟩
   exact eY rfl ⟨0,by omega,1,by omega,rfl,f3.fv Tq (λh=>h),f2.eZ f3⟩
 ·rw[dec 62 r (by decide) rfl]
  refine db λH2 h2=>db λk hk=>db λc hc=>?_
  subst hk hc
  have f2:Fr gz H H2:=h2▸hf.fresh (Fr.uO _ _ _) λi hi=>by omega
  rw[ek]
  refine⟨by omega,by rw[jv];simp only[List.length_append,List.length_cons];omega,?_⟩
  rw[Int.toNat_natCast,Vr 62 r rfl]
  refine B6 _ 62 (by rw[dq];rfl) (by decide) (dW (λs H'=>s=(true,())/\Fr gz H2 H') ?_ ?_)
  ·exact aek (hm.oP f2) λH3 f3=>iR rfl ⟨rfl,f3⟩
  ·rintro _ H3 ⟨rfl,f3⟩
   exact iR rfl (db λy hy=>by rw[hy];exact hR _ (f2.eZ f3))
end Go.Proofs.iQ
namespace Go.Ex
theorem IX(p m r:List UInt8)(a b:Nat)(ha:a=p.length)(hb:b=p.length+m.length):(iT (p++(m++r))).extract a b=iT m:=by subst ha hb;exact adf p m r
def Wk(k:Int)(nm tx:ByteArray):List Value:=[.int .i64 k,.string nm,.string tx,.slice none 0 0,.bool false]
end Go.Ex
namespace Go.Proofs.iQ
open Go.Ex
abbrev ph(H:Heap)(b:Nat)(k:Int)(nm tx:ByteArray):Prop:=H[b]?=some (.cells (Wk k nm tx).toArray dE (0,0))
theorem ph.cell{H:Heap}{b:Nat}{k:Int}{nm tx:ByteArray}(h:ph H b k nm tx)(j:Nat):dj H ((⟨b,0,none⟩:Addr).add j)=(Wk k nm tx)[j]?:=by
 rw[dh h,Nat.zero_add];simp
theorem ph.ld{H:Heap}{b:Nat}{k:Int}{nm tx:ByteArray}(h:ph H b k nm tx){K:Int->ByteArray->ByteArray->Option Addr->Nat->Nat->Bool->Prop}(hk:K k nm tx none 0 0 false):eE H ⟨b,0,none⟩ K:=
 LL _ _ _ _ _ _ _ (λj hj=>h.cell j) hk
theorem NM{H:Heap}(hm:jX H)(p:List UInt8)(x:UInt8)(r:List UInt8)(hs:(p++60::x::62::r).length<=1048576)(hx:x=97\/x=98)
 {R:Int->ByteArray->ByteArray->Option Addr->Nat->Nat->Bool->Int->Bool->Heap->Prop}(hR:∀H',Fr gz H H'->R 2 (iT [x]) eS none 0 0 false ((p.length+3:Nat):Int) true H'):
 fP.C (iT (p++60::x::62::r)) (p.length:Int) H R:=by
 apply fP.calls
 unfold fP.W
 have e0:p++60::x::62::r=(p++[60])++x::62::r:=by simp
 have e1:p++60::x::62::r=(p++[60])++([x]++62::r):=by simp
 have e2:p++60::x::62::r=(p++[60,x])++62::r:=by simp
 have hl:(p++60::x::62::r).length=p.length+r.length+3:=by simp;omega
 have w1:IntKind.i64.wrap ((p.length:Int)+1)=((p++[60]).length:Int):=by rw[dM (by omega) (by omega)];simp
 refine db λH1 h1=>?_
 have f1:Fr gz H H1:=h1▸Fr.new H _ _
 have b1:ph H1 (Array.size H) 0 eS eS:=h1▸eV
 rw[w1]
 have hL:((p++[60]).length+1:Nat)<=(iT (p++60::x::62::r)).size:=by rw[jv,hl];simp;omega
 have c1:(iT (p++60::x::62::r)).extract (p++[60]).length ((p++[60]).length+1)=iT [x]:=by rw[e1];exact IX _ _ _ _ _ rfl rfl
 have c2:(iT (p++60::x::62::r)).extract (p++[60,x]).length (iT (p++60::x::62::r)).size=iT (62::r):=by rw[e2];exact tw _ _
 have sp:∀{H2:Heap}{R2:Int->Heap->Prop},(∀H3,Fr gz H2 H3->R2 ((p++[60,x]).length:Int) H3)->mj.C (iT (p++60::x::62::r)) ((p++[60,x]).length:Int) H2 R2:=λh=>by
  rw[e2];exact vp _ 62 r (by rw[<-e2];exact hs) (by decide) (by decide) h
 have wd:∀{H2:Heap}{R2:Int->Heap->Prop},jX H2->(∀H3,Fr gz H2 H3->R2 (((p++[60]).length+1:Nat):Int) H3)->e9.C (iT (p++60::x::62::r)) ((p++[60]).length:Int) H2 R2:=λhm h=>by
  rw[e0];exact MM hm _ x r (by rw[<-e0];exact hs) hx h
 generalize hS:iT (p++60::x::62::r)=S at*
 refine wd (hm.oP f1) λH2 f2=>⟨by omega,by omega,by omega,by omega,?_⟩
 rw[Int.toNat_natCast,Int.toNat_natCast,c1]
 have b2:ph H2 (Array.size H) 0 eS eS:=f2.fv b1 λh=>h
 refine db λH3 h3=>?_
 have f3:Fr gz H2 H3:=h3▸Fr.new H2 _ _
 have l2:Array.size H<Array.size H2:=fe b2
 refine o9 (cs:=(Wk 0 eS eS).toArray) (h3▸eV) rfl λH4 b4 f4=>?_
 have oA:Fr gz H H4:=((f1.eZ f2).eZ f3).fresh f4 λi hi=>by omega
 have b4:ph H4 (Array.size H2) 2 (iT [x]) eS:=b4
 have a4:ph H4 (Array.size H) 0 eS eS:=f4.fv (f3.fv b2 λh=>h) (by omega)
 refine⟨_,b4.cell 1,FH (hm.oP oA) hx λH5 f5=>eY rfl ?_⟩
 have FT:=oA.eZ f5
 refine fJ (λ_ q H'=>q=((((p++[60]).length+1:Nat):Int),())/\H5=H') 0 ⟨rfl,rfl⟩ ?_
 rintro n q H' ⟨rfl,rfl⟩
 show mj.C S (((p++[60]).length+1:Nat):Int) _ _
 have e3:(p++[60]).length+1=(p++[60,x]).length:=by simp
 rw[e3]
 refine sp λH6 f6=>⟨by omega,by simp at hL⊢;omega,?_⟩
 rw[Int.toNat_natCast,c2]
 refine nj _ _ (eY (by rw[dq];rfl) ⟨by omega,by simp at hL⊢;omega,nj _ _ (iR (by rw[dq];rfl) ?_)⟩)
 have b6:ph H6 (Array.size H2) 2 (iT [x]) eS:=f6.fv (f5.fv b4 λh=>h) λh=>h
 have a6:ph H6 (Array.size H) 0 eS eS:=f6.fv (f5.fv a4 λh=>h) λh=>h
 refine b6.ld (o9 a6 rfl λH7 b7 f7=>db λy hy=>?_)
 have b7:ph H7 (Array.size H) 2 (iT [x]) eS:=b7
 refine b7.ld ?_
 have ey:y=((p.length+3:Nat):Int):=by rw[hy,dM (by simp;omega) (by simp;omega)];simp;omega
 rw[ey]
 exact hR _ ((FT.eZ f6).fresh f7 λi hi=>by omega)
end Go.Proofs.iQ
namespace Go.Proofs.iQ
open Go.Ex
theorem YA{H:Heap}(hm:jX H)(p:List UInt8)(x:UInt8)(r:List UInt8)(hs:(p++60::47::x::62::r).length<=1048576)(hx:x=97\/x=98)
 {R:Int->ByteArray->ByteArray->Option Addr->Nat->Nat->Bool->Int->Bool->Heap->Prop}(hR:∀H',Fr gz H H'->R 3 (iT [x]) eS none 0 0 false ((p.length+4:Nat):Int) true H'):
 iY.C (iT (p++60::47::x::62::r)) (p.length:Int) H R:=by
 apply iY.calls
 unfold iY.W
 have e0:p++60::47::x::62::r=(p++[60,47])++x::62::r:=by simp
 have e1:p++60::47::x::62::r=(p++[60,47])++([x]++62::r):=by simp
 have e2:p++60::47::x::62::r=(p++[60,47,x])++62::r:=by simp
 have hl:(p++60::47::x::62::r).length=p.length+r.length+4:=by simp;omega
 have w1:IntKind.i64.wrap ((p.length:Int)+2)=((p++[60,47]).length:Int):=by rw[dM (by omega) (by omega)];simp
 refine db λH1 h1=>db λa ha=>?_
 rw[w1] at ha
 subst ha
 have f1:Fr gz H H1:=h1▸Fr.new H _ _
 have b1:ph H1 (Array.size H) 0 eS eS:=h1▸eV
 have hL:((p++[60,47]).length+2:Nat)<=(iT (p++60::47::x::62::r)).size:=by rw[jv,hl];simp
 have c1:(iT (p++60::47::x::62::r)).extract (p++[60,47]).length ((p++[60,47]).length+1)=iT [x]:=by rw[e1];exact IX _ _ _ _ _ rfl rfl
 have c2:(iT (p++60::47::x::62::r)).extract (p++[60,47,x]).length (iT (p++60::47::x::62::r)).size=iT (62::r):=by rw[e2];exact tw _ _
 have sp:∀{H2:Heap}{R2:Int->Heap->Prop},(∀H3,Fr gz H2 H3->R2 ((p++[60,47,x]).length:Int) H3)->mj.C (iT (p++60::47::x::62::r)) ((p++[60,47,x]).length:Int) H2 R2:=λh=>by
  rw[e2];exact vp _ 62 r (by rw[<-e2];exact hs) (by decide) (by decide) h
 have wd:∀{H2:Heap}{R2:Int->Heap->Prop},jX H2->(∀H3,Fr gz H2 H3->R2 (((p++[60,47]).length+1:Nat):Int) H3)->e9.C (iT (p++60::47::x::62::r)) ((p++[60,47]).length:Int) H2 R2:=λhm h=>by
  rw[e0];exact MM hm _ x r (by rw[<-e0];exact hs) hx h
 generalize hS:iT (p++60::47::x::62::r)=S at*
 refine wd (hm.oP f1) λH2 f2=>⟨by omega,by omega,by omega,by omega,?_⟩
 rw[Int.toNat_natCast,Int.toNat_natCast,c1]
 have b2:ph H2 (Array.size H) 0 eS eS:=f2.fv b1 λh=>h
 refine db λH3 h3=>?_
 have f3:Fr gz H2 H3:=h3▸Fr.new H2 _ _
 have l2:Array.size H<Array.size H2:=fe b2
 refine o9 (cs:=(Wk 0 eS eS).toArray) (h3▸eV) rfl λH4 b4 f4=>?_
 have oA:Fr gz H H4:=((f1.eZ f2).eZ f3).fresh f4 λi hi=>by omega
 have b4:ph H4 (Array.size H2) 3 (iT [x]) eS:=b4
 have a4:ph H4 (Array.size H) 0 eS eS:=f4.fv (f3.fv b2 λh=>h) (by omega)
 have e3:(p++[60,47]).length+1=(p++[60,47,x]).length:=by simp
 rw[e3]
 refine sp λH5 f5=>?_
 have b5:ph H5 (Array.size H2) 3 (iT [x]) eS:=f5.fv b4 λh=>h
 have FT:=oA.eZ f5
 refine b5.ld ⟨_,b5.cell 1,FH (hm.oP FT) hx λH6 f6=>?_⟩
 have b6:ph H6 (Array.size H2) 3 (iT [x]) eS:=f6.fv b5 λh=>h
 have a6:ph H6 (Array.size H) 0 eS eS:=f6.fv (f5.fv a4 λh=>h) λh=>h
 refine⟨b6.ld rfl,iR rfl ⟨by omega,by simp at hL⊢;omega,?_⟩⟩
 rw[Int.toNat_natCast,c2]
 refine nj _ _ ⟨b6.ld rfl,o9 a6 rfl λH7 b7 f7=>db λy hy=>?_⟩
 have b7:ph H7 (Array.size H) 3 (iT [x]) eS:=b7
 refine b7.ld ?_
 have ey:y=((p.length+4:Nat):Int):=by rw[hy,dM (by simp;omega) (by simp;omega)];simp;omega
 rw[ey,dq]
 exact hR _ ((FT.eZ f6).fresh f7 λi hi=>by omega)
theorem NY{H:Heap}(hm:jX H)(p:List UInt8)(r:List UInt8)(hs:(p++120::60::r).length<=1048576)(ha:∀b∈r,b.toNat<128)
 {R:Int->ByteArray->ByteArray->Option Addr->Nat->Nat->Bool->Int->Bool->Heap->Prop}(hR:∀H',Fr gz H H'->R 1 eS (iT [120]) none 0 0 false ((p.length+1:Nat):Int) true H'):
 fQ.C (iT (p++120::60::r)) (p.length:Int) H R:=by
 apply fQ.calls
 unfold fQ.W
 have e1:p++120::60::r=p++([120]++60::r):=by simp
 have hl:(p++120::60::r).length=p.length+r.length+2:=by simp;omega
 have hz:(iT (p++120::60::r)).size=p.length+r.length+2:=by rw[jv,hl]
 have c1:(iT (p++120::60::r)).extract p.length (p.length+1)=iT [120]:=by rw[e1];exact IX _ _ _ _ _ rfl rfl
 have c2:(iT (p++120::60::r)).extract p.length (iT (p++120::60::r)).size=iT (120::60::r):=tw _ _
 generalize hS:iT (p++120::60::r)=S at*
 refine db λH1 h1=>db λy0 hy0=>?_
 have f1:Fr gz H H1:=h1▸Fr.new H _ _
 have b1:ph H1 (Array.size H) 0 eS eS:=h1▸eV
 refine dW (λs H'=>s=(((p.length+1:Nat):Int),())/\Fr gz H1 H') ⟨by omega,by omega,?_⟩ ?_
 ·rw[Int.toNat_natCast,c2]
  refine Gn _ _ (by rw[jv,List.length_cons,List.length_cons];omega) (by decide) (λj b hb=>?_) (λj b hb=>?_) λH2 f2=>?_
  ·rw[dq] at hb
   have:=List.mem_of_getElem? hb
   simp only[List.mem_cons] at this
   rcases this with rfl|rfl|h
   ·decide
   ·decide
   ·exact ha b h
  ·have:=List.mem_of_getElem? hb
   simp at this
   rcases this with rfl|rfl<;>decide
  ·have ei:Go.Lib.indexAny (iT (120::60::r)).data.toList (⟨#[60,38]⟩:ByteArray).data.toList=1:=by rw[dq];rfl
   rw[ei]
   refine kY (by decide) (db λy hy=>⟨?_,f2⟩)
   rw[hy,dM (by omega) (by omega)];rfl
 ·rintro _ H2 ⟨rfl,f2⟩
  refine⟨by omega,by omega,by omega,by omega,?_⟩
  rw[Int.toNat_natCast,Int.toNat_natCast,c1]
  have b2:ph H2 (Array.size H) 0 eS eS:=f2.fv b1 λh=>h
  have l2:Array.size H<Array.size H2:=fe b2
  refine db λH3 h3=>?_
  have f3:Fr gz H2 H3:=h3▸Fr.new H2 _ _
  refine o9 (cs:=(Wk 0 eS eS).toArray) (h3▸eV) rfl λH4 b4 f4=>?_
  have oA:Fr gz H H4:=((f1.eZ f2).eZ f3).fresh f4 λi hi=>by omega
  have b4:ph H4 (Array.size H2) 1 eS (iT [120]):=b4
  have a4:ph H4 (Array.size H) 0 eS eS:=f4.fv (f3.fv b2 λh=>h) (by omega)
  refine b4.ld ⟨_,b4.cell 2,wW _ _ (hm.oP oA) (by decide) ⟨b4.ld rfl,o9 a4 rfl λH7 b7 f7=>?_⟩⟩
  have b7:ph H7 (Array.size H) 1 eS (iT [120]):=b7
  refine b7.ld ?_
  exact hR _ (oA.fresh f7 λi hi=>by omega)
end Go.Proofs.iQ
namespace Go.Ex
theorem bt0(c:UInt8)(l:List UInt8):bt (iT (c::l)) 0=(c.toNat:Int):=by
 have:=aiB (s:=iT (c::l)) (i:=0) (by rw[jv];simp)
 simp only[dq,List.getElem_cons_zero] at this
 exact this
inductive Pc:List UInt8->Int->ByteArray->ByteArray->Nat->Prop
 |start (x:UInt8) (r:List UInt8) (hx:x=97\/x=98):Pc (60::x::62::r) 2 (iT [x]) eS 3
 |stop (x:UInt8) (r:List UInt8) (hx:x=97\/x=98):Pc (60::47::x::62::r) 3 (iT [x]) eS 4
 |text (r:List UInt8) (ha:∀b∈r,b.toNat<128):Pc (120::60::r) 1 eS (iT [120]) 1
end Go.Ex
namespace Go.Proofs.iQ
open Go.Ex
theorem W9{H:Heap}(hm:jX H)(p l:List UInt8){k:Int}{nm tx:ByteArray}{n:Nat}(hp:Pc l k nm tx n)(hs:(p++l).length<=1048576)
 {R:Int->ByteArray->ByteArray->Option Addr->Nat->Nat->Bool->Int->Bool->Heap->Prop}(hR:∀H',Fr gz H H'->R k nm tx none 0 0 false ((p.length+n:Nat):Int) true H'):
 iX.C (iT (p++l)) (p.length:Int) H R:=by
 apply iX.calls
 unfold iX.W
 have hz:(iT (p++l)).size=p.length+l.length:=by rw[jv];simp
 have c2:(iT (p++l)).extract p.length (iT (p++l)).size=iT l:=tw _ _
 refine db λH1 h1=>?_
 have f1:Fr gz H H1:=h1▸Fr.new H _ _
 have b1:ph H1 (Array.size H) 0 eS eS:=h1▸eV
 have fin:∀{H2:Heap}{K:Heap->Prop},Fr gz H1 H2->(∀H3,ph H3 (Array.size H) k nm tx->Fr gz H H3->K H3)->nR [.int .i64 k,.string nm,.string tx,.slice none 0 0,.bool false] ⟨Array.size H,0,none⟩ 0 H2 K:=λf2 hk=>
  o9 (cs:=(Wk 0 eS eS).toArray) (f2.fv b1 λh=>h) rfl λH3 b3 f3=>hk H3 b3 ((f1.eZ f2).fresh f3 λi hi=>by omega)
 cases hp with
 |start x r hx=>
  have st:=λ{R2} h=>NM (R:=R2) (hm.oP f1) p x r hs hx h
  generalize hS:iT (p++60::x::62::r)=S at*
  refine⟨by omega,by omega,?_⟩
  rw[Int.toNat_natCast,c2]
  have hp:∀q:List UInt8,Go.Lib.hasPrefix (60::x::62::r) q=q.isPrefixOf (60::x::62::r):=λq=>rfl
  refine nj _ _ (eY (by rw[dq,hp];rcases hx with rfl|rfl<;>rfl) (nj _ _ (eY (by rw[dq,hp];rcases hx with rfl|rfl<;>rfl)
   (nj _ _ (eY (by rw[dq,hp];rcases hx with rfl|rfl<;>rfl) (nj _ _ (eY (by rw[dq,hp];rcases hx with rfl|rfl<;>rfl) ⟨by omega,by rw[jv];simp;omega,?_⟩)))))))
  rw[bt0]
  refine kY rfl (st λH2 f2=>fin f2 λH3 b3 f3=>b3.ld (hR _ f3))
 |stop x r hx=>
  have st:=λ{R2} h=>YA (R:=R2) (hm.oP f1) p x r hs hx h
  generalize hS:iT (p++60::47::x::62::r)=S at*
  refine⟨by omega,by omega,?_⟩
  rw[Int.toNat_natCast,c2]
  exact nj _ _ (eY (by rw[dq];rfl) (nj _ _ (eY (by rw[dq];rfl)
   (nj _ _ (eY (by rw[dq];rfl) (nj _ _ (iR (by rw[dq];rfl) (st λH2 f2=>fin f2 λH3 b3 f3=>b3.ld (hR _ f3)))))))))
 |text r ha=>
  have st:=λ{R2} h=>NY (R:=R2) (hm.oP f1) p r hs ha h
  generalize hS:iT (p++120::60::r)=S at*
  refine⟨by omega,by omega,?_⟩
  rw[Int.toNat_natCast,c2]
  refine nj _ _ (eY (by rw[dq];rfl) (nj _ _ (eY (by rw[dq];rfl)
   (nj _ _ (eY (by rw[dq];rfl) (nj _ _ (eY (by rw[dq];rfl) ⟨by omega,by rw[jv];simp;omega,?_⟩)))))))
  rw[bt0]
  refine e8 (by decide) ⟨by omega,by rw[jv];simp;omega,e8 (by decide) (st λH2 f2=>fin f2 λH3 b3 f3=>b3.ld (hR _ f3))⟩
theorem asP{H:Heap}(hm:jX H)(p l:List UInt8){k:Int}{nm tx:ByteArray}{n:Nat}(hp:Pc l k nm tx n)(hs:(p++l).length<=1048576)
 {R:Int->ByteArray->ByteArray->Option Addr->Nat->Nat->Bool->Int->Int->Heap->Prop}(hR:∀H',Fr gz H H'->R k nm tx none 0 0 false ((p.length+n:Nat):Int) 0 H'):
 gf.C (iT (p++l)) (p.length:Int) H R:=by
 apply gf.calls
 unfold gf.W
 have hz:(iT (p++l)).size=p.length+l.length:=by rw[jv];simp
 have hl:0<l.length:=by cases hp<;>simp
 refine db λH1 h1=>?_
 have f1:Fr gz H H1:=h1▸Fr.new H _ _
 have b1:ph H1 (Array.size H) 0 eS eS:=h1▸eV
 refine dW (λ_ H'=>H1=H') (dW (λs H'=>s=(false,())/\H1=H') (e8 (by omega) ⟨?_,rfl⟩) ?_) ?_
 ·rw[hz,decide_eq_false (by omega)]
 ·rintro _ H' ⟨rfl,rfl⟩
  exact eY rfl (e8 (by omega) rfl)
 rintro _ H' rfl
 refine W9 (hm.oP f1) p l hp hs λH2 f2=>?_
 have b2:ph H2 (Array.size H) 0 eS eS:=f2.fv b1 λh=>h
 have l2:Array.size H<Array.size H2:=fe b2
 refine db λH3 h3=>?_
 have f3:Fr gz H2 H3:=h3▸Fr.new H2 _ _
 refine o9 (cs:=(Wk 0 eS eS).toArray) (h3▸eV) rfl λH4 b4 f4=>eY rfl ?_
 have oA:Fr gz H H4:=((f1.eZ f2).eZ f3).fresh f4 λi hi=>by omega
 have b4:ph H4 (Array.size H2) k nm tx:=b4
 have a4:ph H4 (Array.size H) 0 eS eS:=f4.fv (f3.fv b2 λh=>h) (by omega)
 refine b4.ld (o9 a4 rfl λH5 b5 f5=>?_)
 have b5:ph H5 (Array.size H) k nm tx:=b5
 exact b5.ld (hR _ (oA.fresh f5 λi hi=>by omega))
end Go.Proofs.iQ
namespace Go.Ex
theorem sN{H:Heap}{b:Nat}{vs:List Value}{t:TypeId}{fr:Nat×Nat}(h:H[b]?=some (.cells vs.toArray t fr))(j:Nat):dj H ((⟨b,0,none⟩:Addr).add j)=vs[j]?:=by
 rw[dh h,Nat.zero_add];simp
end Go.Ex
namespace Go.Proofs.iQ
open Go.Ex
theorem kQ{v:Value}{b o:Nat}{H:Heap}{cs:Array Value}{t:TypeId}{K:Heap->Prop}(hb:H[b]?=some (.cells cs t (0,0)))(ho:o<cs.size)
 (h:∀H',H'[b]?=some (.cells (cs.setIfInBounds o v) t (0,0))->Fr (λk=>k=b) H H'->K H'):sV v ((⟨b,0,none⟩:Addr).add o) H K:=AY hb ho h
theorem Oc{H:Heap}(hm:jX H){x:UInt8}(hx:x=97\/x=98){k:Int}{R:Bool->Heap->Prop}(hR:∀H',Fr gz H H'->R true H'):hE.C k (iT [x]) eS none 0 0 false H R:=by
 apply hE.calls
 unfold hE.W
 refine db λH1 h1=>?_
 have f1:Fr gz H H1:=h1▸Fr.new H _ _
 have b1:ph H1 (Array.size H) k (iT [x]) eS:=h1▸eV
 refine⟨_,b1.cell 1,Bx (hm.oP f1) hx λH2 f2=>db λH3 h3=>?_⟩
 have f3:Fr gz H2 H3:=h3▸Fr.push H2 _
 have b3:ph H3 (Array.size H) k (iT [x]) eS:=f3.fv (f2.fv b1 λh=>h) λh=>h
 refine dW (λs H'=>s=(true,())/\H3=H') ⟨_,_,_,b3.cell 3,fJ (λ_ q H'=>q=(true,0,())/\H3=H') 0 ⟨rfl,rfl⟩ ?_⟩ ?_
 ·rintro n q H' ⟨rfl,rfl⟩
  exact e8 yc ⟨rfl,rfl⟩
 ·rintro _ H' ⟨rfl,rfl⟩
  exact hR _ ((f1.eZ f2).eZ f3)
theorem It{H:Heap}{k:Int}{nm tx:ByteArray}{d0:ByteArray}{d1:Option Addr}{CK CL:Nat}{d2:Option Addr}{CJ:Nat}{rp:Option Addr}{l0 l1 l2 l3:Int}{R:Option Addr->Nat->Nat->Int->Heap->Prop}
 (hR:∀H',Fr gz H H'->R none 0 0 0 H'):eR.C k nm tx none 0 0 false d0 d1 CK CL d2 0 CJ rp l0 l1 l2 l3 H R:=by
 apply eR.calls
 unfold eR.W
 refine db λH1 h1=>db λH2 h2=>db λH3 h3=>?_
 have f1:Fr gz H H1:=h1▸Fr.new H _ _
 have f2:Fr gz H1 H2:=h2▸Fr.new H1 _ _
 have f3:Fr gz H2 H3:=h3▸Fr.new H2 _ _
 have b1:ph H1 (Array.size H) k nm tx:=h1▸eV
 have b3:ph H3 (Array.size H) k nm tx:=f3.fv (f2.fv b1 λh=>h) λh=>h
 have c2:H2[Array.size H1]?=some (.cells #[.string d0,.slice d1 CK CL,.slice d2 0 CJ] iI (0,0)):=h2▸eV
 have c3:=f3.fv c2 λh=>h
 refine dW (λs H'=>s=((none,0,0),())/\H3=H') ⟨_,_,_,b3.cell 3,fJ (λ_ q H'=>q=((none,0,0),0,())/\H3=H') 0 ⟨rfl,rfl⟩ ?_⟩ ?_
 ·rintro n q H' ⟨rfl,rfl⟩
  exact e8 yc ⟨rfl,rfl⟩
 rintro _ H' ⟨rfl,rfl⟩
 refine dW (λs H'=>s=((none,0,0),())/\H3=H') ⟨_,_,_,(dh c3 0 2).trans rfl,fJ (λ_ q H'=>q=((none,0,0),0,())/\H3=H') 0 ⟨rfl,rfl⟩ ?_⟩ ?_
 ·rintro n q H' ⟨rfl,rfl⟩
  exact e8 yc ⟨rfl,rfl⟩
 rintro _ H' ⟨rfl,rfl⟩
 exact hR _ ((f1.eZ f2).eZ f3)
theorem FC{H:Heap}(hm:jX H){x:UInt8}(hx:x=97\/x=98){g l:Nat}{F:Nat->Prop}(DW:kN H g F l)(hl:l<=1048576)(hF:∀k,F k->6<k){k:Int}{d0:ByteArray}{d1:Option Addr}{CK CL:Nat}{d2:Option Addr}{CJ:Nat}{rp:Option Addr}{l0 l1 l2 l3:Int}(h3:0<=l3)
 {R:Int->Int->ByteArray->ByteArray->ByteArray->ByteArray->Option Addr->Nat->Nat->Int->Heap->Prop}
 (hR:∀F' H',kN H' g F' (l+1)->Gr F F' H H'->R 2 0 eS (iT [x]) eS eS none 0 0 0 H'):gj.C k (iT [x]) eS none 0 0 false d0 d1 CK CL d2 0 CJ rp (some ⟨g,0,none⟩) l0 l1 l2 l3 H R:=by
 apply gj.calls
 unfold gj.W
 refine db λH1 h1=>db λH2 h2=>db λH3 SD=>db λH4 h4=>?_
 have f1:Fr gz H H1:=h1▸Fr.new H _ _
 have f2:Fr gz H1 H2:=h2▸Fr.new H1 _ _
 have f3:Fr gz H2 H3:=SD▸Fr.new H2 _ _
 have f4:Fr gz H3 H4:=h4▸Fr.new H3 _ _
 have b1:ph H1 (Array.size H) k (iT [x]) eS:=h1▸eV
 have c2:H2[Array.size H1]?=some (.cells #[.string d0,.slice d1 CK CL,.slice d2 0 CJ] iI (0,0)):=h2▸eV
 have c3:H3[Array.size H2]?=some (.cells #[.int .i64 l0,.int .i64 l1,.int .i64 l2,.int .i64 l3] ie (0,0)):=SD▸eV
 have c4:gT H4 (Array.size H3) ⟨0,0,eS,eS⟩:=h4▸eV
 have oA:Fr gz H H4:=((f1.eZ f2).eZ f3).eZ f4
 have s2:Array.size H<Array.size H1:=fe b1
 have s3:Array.size H1<Array.size H2:=fe c2
 have s4:Array.size H2<Array.size H3:=fe c3
 have s5:Array.size H3<Array.size H4:=fe c4
 have own:∀{H':Heap},Fr gz H4 H'->ph H' (Array.size H) k (iT [x]) eS/\H'[Array.size H1]?=some (.cells #[.string d0,.slice d1 CK CL,.slice d2 0 CJ] iI (0,0))/\H'[Array.size H2]?=some (.cells #[.int .i64 l0,.int .i64 l1,.int .i64 l2,.int .i64 l3] ie (0,0))/\gT H' (Array.size H3) ⟨0,0,eS,eS⟩:=λf=>
  have e {b:Nat} {y:Obj} {A B:Heap} (h:A[b]?=some y) (g:Fr gz A B):B[b]?=some y:=g.fv h λh=>h
  ⟨e (e (e (e b1 f2) f3) f4) f,e (e (e c2 f3) f4) f,e (e c3 f4) f,e c4 f⟩
 obtain⟨p1,p2,p3,p4⟩:=own (Fr.refl gz H4)
 refine⟨_,_,_,p1.cell 3,_,(dh p3 0 3).trans rfl,e8 (by omega) (p1.ld (Oc (hm.oP oA) hx λH5 f5=>eY rfl ?_))⟩
 obtain⟨p1,p2,p3,p4⟩:=own f5
 refine p1.ld (vP _ _ _ _ _ _ _ (λj _=>sN p2 j) (qH _ _ _ _ (λj _=>sN p3 j) ?_))
 refine It λH6 f6=>e8 (by decide) (db λH7 h7=>?_)
 have f7:Fr gz H6 H7:=h7▸Fr.new H6 _ _
 have f46:=f5.eZ f6
 obtain⟨p1,p2,p3,p4⟩:=own f46
 have s6:Array.size H3<Array.size H6:=fe p4
 refine o9 (cs:=(pI ⟨0,0,eS,eS⟩).toArray) (h7▸eV) rfl λH8 b8 f8=>?_
 have b8:gT H8 (Array.size H6) ⟨2,0,eS,eS⟩:=b8
 have f48:Fr gz H4 H8:=(f46.eZ f7).fresh f8 λi hi=>by have:=f46.size;omega
 obtain⟨p1,p2,p3,p4⟩:=own f48
 refine⟨_,p1.cell 1,Bx ((hm.oP oA).oP f48) hx λH9 f9=>?_⟩
 have b9:gT H9 (Array.size H6) ⟨2,0,eS,eS⟩:=f9.fv b8 λh=>h
 refine kQ (o:=2) b9 (by simp[pI]) λde Rj f10=>?_
 have Rj:gT de (Array.size H6) ⟨2,0,eS,eS⟩:=by rw[gT,Rj];simp[pI]
 refine kQ (o:=3) Rj (by simp[pI]) λfg Ur f11=>?_
 have Ur:gT fg (Array.size H6) ⟨2,0,iT [x],eS⟩:=by rw[gT,Ur];simp[pI]
 have f411:Fr gz H4 fg:=((f48.eZ f9).fresh f10 λi hi=>by have:=f46.size;omega).fresh f11 λi hi=>by have:=f46.size;omega
 have Bk:=oA.eZ f411
 refine dW (λ_ H'=>fg=H') (fJ (λ_ q H'=>q=(0,())/\fg=H') 0 ⟨rfl,rfl⟩ ?_) ?_
 ·rintro n q H' ⟨rfl,rfl⟩
  exact e8 yc rfl
 rintro _ H' rfl
 have apN:=DW.fy Bk λ_ _ h=>h
 have Si:∀k,F k->k<Array.size H:=by obtain⟨_,_,_,_,_,_,h⟩:=DW;exact h
 refine tT apN hl Ur (λh=>by have:=Si _ h;have:=f46.size;omega) λF' fZ wj g12 TG JM=>e8 (by decide) ?_
 have Ul:∀k,F' k->F k\/Array.size fg<=k:=g12.up
 have a12:gT fZ (Array.size H3) ⟨0,0,eS,eS⟩:=g12.fr.fv (own f411).2.2.2 λh=>by have:=Si _ h;omega
 refine nW _ _ _ _ _ _ _ _ _ (λj hj=>TG.cell j) (o9 a12 rfl λgS wv f13=>?_)
 have wv:gT gS (Array.size H3) ⟨2,0,iT [x],eS⟩:=wv
 have z11:=f411.size
 refine nW _ _ _ _ _ _ _ _ _ (λj hj=>wv.cell j) (hR F' gS (wj.fy f13 λi hi e=>?_) ⟨?_,λi hi=>?_⟩)
 ·rcases Ul i hi with h|h
  ·have:=Si _ h;omega
  ·omega
 ·exact((Bk.mono λ_ h=>h.elim:Fr F H fg).trans g12.fr λi hi=>.inl hi).trans f13 λi hi=>.inr (by omega)
 ·rcases Ul i hi with h|h
  ·exact .inl h
  ·exact .inr (Nat.le_trans Bk.size h)
end Go.Proofs.iQ
namespace Go.Ex
def zJ(l:List UInt8):List Value:=l.map λb=>.int .u8 (b.toNat:Int)
theorem tI(l:List UInt8):(zJ l).length=l.length:=by unfold zJ;simp
theorem ad3(a b:List UInt8):zJ (a++b)=zJ a++zJ b:=by unfold zJ;simp
theorem kX(l:List UInt8):mg (iT l)=zJ l:=by unfold mg zJ iT;simp
theorem ad2(l:List UInt8):∀v∈zJ l,One v:=by
 intro v hv
 obtain⟨b,_,rfl⟩:=List.mem_map.1 hv
 exact⟨by simp,by simp⟩
theorem BU{H:Heap}{b o:Nat}{cs:Array Value}{t:TypeId}{fr:Nat×Nat}(h:H[b]?=some (.cells cs t fr)){v:Value}(hv:cs[o]?=some v):dj H ⟨b,o,none⟩=some v:=by rw[kc h];exact hv
theorem apG{cs:Array Value}{o:Nat}{v:Value}(h:o<cs.size):(cs.setIfInBounds o v)[o]?=some v:=Array.getElem?_setIfInBounds_self_of_lt h
theorem agO{cs:Array Value}{o j:Nat}{v:Value}(h:o≠j):(cs.setIfInBounds o v)[j]?=cs[j]?:=Array.getElem?_setIfInBounds_ne h
end Go.Ex
namespace Go.Proofs.iQ
open Go.Ex
theorem aiz:(Tryz.prog.info? lz).map (λi=>Nat.beq i.size 0)=some false:=by kernel_rfl
theorem ad4:∃i,Tryz.prog.info? lz=some i/\i.size≠0:=by
 have h:=aiz
 cases hi:Tryz.prog.info? lz with
 |none=>rw[hi] at h;cases h
 |some i=>rw[hi] at h;exact⟨i,rfl,λe=>by simp[e] at h⟩
theorem amc:Dg Tryz.f210:=⟨by kernel_rfl,by kernel_rfl,by kernel_rfl⟩
def ZD(T:TypeId)(n o:Nat):Prop:=o+1<n/\liesAt Tryz.prog Tryz.prog.depth T (n/Tryz.prog.cellsOf T) o lz 1=true
theorem TD:ZD ji 13 10:=⟨by decide,by kernel_rfl⟩
theorem OM:ZD lz 2 0:=⟨by decide,by kernel_rfl⟩
theorem Fk{H:Heap}{b o:Nat}{cs:Array Value}{T:TypeId}(hb:H[b]?=some (.cells cs T (0,0)))(hk:ZD T cs.size o){q:Option Addr}(h0:cs[o]?=some (.pointer q))(hq:q=none\/q=some ⟨b,o,none⟩)
 {R:Heap->Prop}(hR:∀H',H'[b]?=some (.cells (cs.setIfInBounds o (.pointer (some ⟨b,o,none⟩))) T (0,0))->Fr (λk=>k=b) H H'->R H'):gJ.C (some ⟨b,o,none⟩) H R:=by
 apply gJ.calls
 unfold gJ.W
 obtain⟨i,hi,hz⟩:=ad4
 have ho:o<cs.size:=by have:=hk.1;omega
 have e0:(⟨b,o,none⟩:Addr).add 0=⟨b,o,none⟩:=iM b o 0
 refine⟨_,rfl,q,by rw[e0];exact BU hb h0,?_⟩
 rcases hq with rfl|rfl
 ·refine iR rfl ⟨⟨i,b,o,cs,T,(0,0),hi,hz,rfl,hb,ho⟩,amc,⟨i,b,o,cs,T,(0,0),hi,rfl,hb,hk.2⟩,_,rfl,?_⟩
  refine⟨⟨_,by rw[e0];exact BU hb h0⟩,by rw[e0];exact qJ hb o,hR _ ?_ ?_⟩
  ·rw[e0];exact ot hb o _
  ·have:=Fr.set H ((⟨b,o,none⟩:Addr).add 0) (.pointer (some ⟨b,o,none⟩));rwa[ke] at this
 ·refine eY rfl ⟨_,rfl,_,by rw[e0];exact BU hb h0,⟨rfl,b,o,rfl⟩,hR H ?_ (Fr.refl _ _)⟩
  have:cs.setIfInBounds o (.pointer (some ⟨b,o,none⟩))=cs:=by
   apply Array.ext_getElem?
   intro j
   by_cases e:o=j
   ·subst e;rw[apG ho,h0]
   ·rw[agO e]
  rw[this];exact hb
theorem oG{H:Heap}{b o:Nat}{cs:Array Value}{T:TypeId}(hb:H[b]?=some (.cells cs T (0,0)))(hk:ZD T cs.size o){q:Option Addr}(h0:cs[o]?=some (.pointer q))(hq:q=none\/q=some ⟨b,o,none⟩)
 {p:Option Addr}{l c:Nat}(h1:cs[o+1]?=some (.slice p l c)){bs:List UInt8}(hs:Sl H iD (zJ bs) p l c)(hn:¬fw p b)(s:List UInt8)(hlen:(bs++s).length<=140737488355328)
 {R:Int->Value->Heap->Prop}(hR:∀n v p' l' c' H',H'[b]?=some (.cells ((cs.setIfInBounds o (.pointer (some ⟨b,o,none⟩))).setIfInBounds (o+1) (.slice p' l' c')) T (0,0))->Sl H' iD (zJ (bs++s)) p' l' c'->
  (∀k,fw p' k->fw p k\/Array.size H<=k)->¬fw p' b->Fr (λk=>k=b\/fw p k) H H'->R n v H'):fx.C (some ⟨b,o,none⟩) (iT s) H R:=by
 apply fx.calls
 unfold fx.W
 have ho:=hk.1
 refine Fk hb hk h0 hq λH1 b1 f1=>?_
 have e1:(⟨b,o,none⟩:Addr).add 1=⟨b,o+1,none⟩:=iM b o 1
 have QG:=hs.fy f1 λk hk e=>hn (e▸hk)
 refine⟨_,rfl,p,l,c,by rw[e1];exact BU b1 (by rw[agO (by omega)];exact h1),?_⟩
 have sq:(zJ bs).length=l:=hs.1
 rw[tI] at sq
 refine zM (n:=s.length) (new:=zJ s) QG rfl ⟨by rw[jv],rfl,(kX s).symm⟩ (tI s) (ad2 s) (by simp at hlen;omega) (by decide) λp' c' H2 s2 f2 hp=>?_
 have b2:=f2.fv b1 λh=>hn h
 have Ow:¬fw p' b:=λh=>(hp b h).elim hn λh=>by have:=fe b1;omega
 refine⟨_,rfl,⟨⟨_,by rw[e1];exact BU b2 (by rw[agO (by omega)];exact h1)⟩,by rw[e1];exact qJ b2 _,?_⟩⟩
 refine db λy hy=>?_
 have f3:Fr (λk=>k=b) H2 (nQ H2 ((⟨b,o,none⟩:Addr).add 1) (.slice p' (l+s.length) c')):=by
  have:=Fr.set H2 ((⟨b,o,none⟩:Addr).add 1) (.slice p' (l+s.length) c');rwa[ke] at this
 refine hR _ _ p' (l+s.length) c' _ ?_ ?_ (λk hk=>(hp k hk).imp id λh=>Nat.le_trans f1.size h) Ow ?_
 ·rw[e1];exact ot b2 _ _
 ·have:=s2.fy f3 λk hk e=>Ow (e▸hk)
  rwa[<-ad3] at this
 ·refine((f1.mono λk h=>.inl h).trans (f2.mono λk h=>?_) λk h=>.inl h).trans f3 λk h=>.inl (.inl h)
  exact .inr h
theorem Zm{H:Heap}{b o:Nat}{cs:Array Value}{T:TypeId}{fr:Nat×Nat}(hb:H[b]?=some (.cells cs T fr)){p:Option Addr}{l c:Nat}(h1:cs[o+1]?=some (.slice p l c)){R:Int->Heap->Prop}(hR:R (l:Int) H):
 lH.C (some ⟨b,o,none⟩) H R:=by
 apply lH.calls
 unfold lH.W
 have e1:(⟨b,o,none⟩:Addr).add 1=⟨b,o+1,none⟩:=iM b o 1
 exact⟨_,rfl,p,l,c,by rw[e1];exact BU hb h1,db λy hy=>by subst hy;exact hR⟩
end Go.Proofs.iQ
namespace Go.Ex
theorem Fr.lk(H:Heap)(g off n:Nat):Fr (λk=>k=g) H (Tt H g off n):=by
 refine⟨by unfold Tt;simp,λk _ hn=>?_⟩
 unfold Tt
 rw[Array.getElem?_modify,if_neg (λe=>hn e.symm)]
end Go.Ex
namespace Go.Proofs.iQ
open Go.Ex
theorem agG:Tryz.prog.underlying El=some (.pointer iD):=by kernel_rfl
theorem agH:Tryz.prog.cellsOf iD=1:=by kernel_rfl
theorem rE{H:Heap}{b o:Nat}{cs:Array Value}{T:TypeId}{fr:Nat×Nat}(hb:H[b]?=some (.cells cs T fr)){p:Option Addr}{l c:Nat}(h1:cs[o+1]?=some (.slice p l c)){bs:List UInt8}(hs:Sl H iD (zJ bs) p l c)
 (hc:p.isSome=true->c≠0)(Cv:bs.length<=9223372036854775807){R:ByteArray->Heap->Prop}(hR:∀H',Fr (fw p) H H'->R (iT bs) H'):gA.C (some ⟨b,o,none⟩) H R:=by
 apply gA.calls
 unfold gA.W
 have e1:(⟨b,o,none⟩:Addr).add 1=⟨b,o+1,none⟩:=iM b o 1
 have dj:dj H ((⟨b,o,none⟩:Addr).add 1)=some (.slice p l c):=by rw[e1];exact BU hb h1
 have hl:bs.length=l:=by have:=hs.1;rwa[tI] at this
 refine⟨_,rfl,p,l,c,dj,hc,_,rfl,p,l,c,dj,?_⟩
 by_cases h0:bs=[]
 ·subst h0
  exact .inl ⟨by simp at hl;omega,hR H (Fr.refl _ _)⟩
 ·have zr:0<bs.length:=List.length_pos_iff.2 h0
  rcases hs.2 with⟨_,BJ,_⟩|⟨g,As,rfl,hg,pg,qX,xW⟩
  ·omega
  ·refine .inr ⟨iD,g,0,As,(0,0),bs,agG,agH,rfl,hg,h0,by omega,Cv,by omega,λj x hj=>?_,hR _ ?_⟩
   ·have lC:=(List.getElem?_eq_some_iff.1 hj).1
    rw[dh hg,Nat.zero_add,xW j (by omega)]
    unfold zJ
    rw[List.getElem?_map,hj]
    rfl
   ·exact(Fr.lk H g 0 bs.length).mono λk hk=>⟨_,rfl,hk.symm⟩
theorem O0{H:Heap}{b o:Nat}{cs:Array Value}{T:TypeId}(hb:H[b]?=some (.cells cs T (0,0)))(ho:o+1<cs.size)
 {R:Heap->Prop}(hR:∀H',H'[b]?=some (.cells ((cs.setIfInBounds o (.pointer none)).setIfInBounds (o+1) (.slice none 0 0)) T (0,0))->Fr (λk=>k=b) H H'->R H'):jw.C (some ⟨b,o,none⟩) H R:=by
 apply jw.calls
 unfold jw.W
 have e0:(⟨b,o,none⟩:Addr).add 0=⟨b,o,none⟩:=iM b o 0
 have e1:(⟨b,o,none⟩:Addr).add 1=⟨b,o+1,none⟩:=iM b o 1
 have st:∀{H:Heap}{cs:Array Value}(o:Nat)(v:Value),H[b]?=some (.cells cs T (0,0))->o<cs.size->(∃u,dj H ⟨b,o,none⟩=some u)/\gO H ⟨b,o,none⟩=false/\(nQ H ⟨b,o,none⟩ v)[b]?=some (.cells (cs.setIfInBounds o v) T (0,0))/\Fr (λk=>k=b) H (nQ H ⟨b,o,none⟩ v):=
  λo v hb ho=>⟨⟨_,BU hb (Array.getElem?_eq_getElem ho)⟩,qJ hb o,ot hb o v,Fr.set _ (⟨b,o,none⟩:Addr) v⟩
 obtain⟨a1,a2,a3,a4⟩:=st o (.pointer none) hb (by omega)
 obtain⟨c1,c2,c3,c4⟩:=st (o+1) (.slice none 0 0) a3 (by rw[Array.size_setIfInBounds];exact ho)
 refine⟨_,rfl,?_⟩
 rw[e0]
 refine⟨a1,a2,_,rfl,?_⟩
 rw[e1]
 exact⟨c1,c2,hR _ c3 (a4.trans c4 λk h=>.inl h)⟩
end Go.Proofs.iQ
namespace Go.Ex
theorem afw{s:Nat}:∀(L:List (List Value))(_:∀x∈L,x.length=s){i j:Nat}(hi:i<L.length),j<s->L.flatten[i*s+j]?=L[i][j]?
 |[],_,i,_,hi,_=>absurd hi (Nat.not_lt_zero i)
 |x::r,h,0,j,_,hj=>by
  have hx:=h x (by simp)
  rw[List.flatten_cons,Nat.zero_mul,Nat.zero_add,List.getElem?_append_left (by omega)]
  simp
 |x::r,h,i+1,j,hi,hj=>by
  have hx:=h x (by simp)
  have ih:=afw r (λy hy=>h y (by simp[hy])) (i:=i) (j:=j) (by simpa using hi) hj
  have e:(i+1)*s+j=s+(i*s+j):=by rw[Nat.succ_mul];omega
  rw[List.flatten_cons,List.getElem?_append_right (by omega),hx,e,Nat.add_sub_cancel_left,ih]
  simp
theorem vT{s:Nat}:∀(L:List (List Value))(_:∀x∈L,x.length=s),L.flatten.length=L.length*s
 |[],_=>by simp
 |x::r,h=>by
  have hx:=h x (by simp)
  rw[List.flatten_cons,List.length_append,hx,vT r (λy hy=>h y (by simp[hy])),List.length_cons,Nat.succ_mul]
  omega
def rF(s:Nat)(H:Heap)(t:TypeId)(xs:List Value)(p:Option Addr)(l c:Nat):Prop:=
 xs.length=l*s/\((p=none/\l=0/\c=0)\/∃b cs,p=some ⟨b,0,none⟩/\H[b]?=some (.cells cs t (0,0))/\cs.size=c*s/\l<=c/\∀i,i<l*s->cs[i]?=xs[i]?)
section
variable {s:Nat} {H H':Heap} {t:TypeId} {xs:List Value} {p:Option Addr} {l c:Nat}
theorem rF.nil(s:Nat)(H:Heap)(t:TypeId):rF s H t [] none 0 0:=⟨by simp,.inl ⟨rfl,rfl,rfl⟩⟩
theorem rF.fy{F:Nat->Prop}(h:rF s H t xs p l c)(hf:Fr F H H')(hn:∀k,fw p k->¬F k):rF s H' t xs p l c:=by
 refine⟨h.1,?_⟩
 rcases h.2 with h0|⟨b,cs,hp,hb,h1,h2,h3⟩
 ·exact .inl h0
 ·exact .inr ⟨b,cs,hp,hf.fv hb (hn b ⟨_,hp,rfl⟩),h1,h2,h3⟩
theorem rF.oP(h:rF s H t xs p l c)(hf:Fr gz H H'):rF s H' t xs p l c:=h.fy hf λ_ _ h=>h
theorem rF.iK(h:rF s H t xs p l c){k:Nat}(hk:fw p k):k<Array.size H:=by
 obtain⟨a,ha,rfl⟩:=hk
 rcases h.2 with⟨hp,_⟩|⟨b,cs,hp,hb,_⟩
 ·rw[hp] at ha;cases ha
 ·rw[hp] at ha;cases ha;exact fe hb
theorem rF.cells(h:rF s H t xs p l c):jZ H p xs:=by
 rcases h.2 with⟨rfl,rfl,rfl⟩|⟨b,cs,rfl,hb,_,_,hc⟩
 ·exact List.eq_nil_of_length_eq_zero (by simpa using h.1)
 ·intro j v hj
  have lC:=(List.getElem?_eq_some_iff.1 hj).1
  rw[dh hb,Nat.zero_add,hc j (by rw[<-h.1];exact lC)]
  exact hj
theorem rF.at{L:List (List Value)}(hx:∀x∈L,x.length=s)(h:rF s H t L.flatten p l c)(hs:0<s):L.length=l/\∀i(hi:i<L.length),∃a,p=some a/\∀j,j<s->dj H ((a.add (i*s)).add j)=L[i][j]?:=by
 have hl:L.length=l:=by
  have:=h.1
  rw[vT L hx] at this
  exact Nat.eq_of_mul_eq_mul_right hs this
 refine⟨hl,λi hi=>?_⟩
 rcases h.2 with⟨rfl,rfl,rfl⟩|⟨b,cs,rfl,hb,_,_,hc⟩
 ·omega
 ·refine⟨_,rfl,λj hj=>?_⟩
  have lC:i*s+j<l*s:=by
   have:(i+1)*s<=l*s:=Nat.mul_le_mul_right s (by omega)
   rw[Nat.succ_mul] at this
   omega
  rw[iM,iM,kc hb,Nat.zero_add,hc _ lC,afw L hx hi hj]
theorem HJ{z:Value}(hz:(dD z).length=s)(n:Nat):(iq z n).size=n*s:=by
 unfold iq
 simp[hz]
theorem arj{el bytes:Nat}{z y:Value}{n:Nat}{new:List Value}{K:Option Addr->Nat->Nat->Heap->Prop}(hs:rF s H el xs p l c)(hz:(dD z).length=s)
 (Uk:appended H s y n new)(hn:new.length=n*s)(ur:∀v∈new,One v)(hb:(l+n)*bytes<=140737488355328)(qK:bytes≠0)
 (hK:∀p' c' H',rF s H' el (xs++new) p' (l+n) c'->Fr (fw p) H H'->(∀k,fw p' k->fw p k\/Array.size H<=k)->K p' (l+n) c' H'):jN el s bytes z p l c y H K:=by
 refine⟨n,new,Uk,?_⟩
 have He:(xs++new).length=(l+n)*s:=by rw[List.length_append,hs.1,hn,Nat.add_mul]
 rcases Nat.lt_or_ge c (l+n) with hg|EV
 ·refine .inr ⟨hg,hb,qK,xs,hs.1,hs.cells,?_⟩
  intro cap pK
  have xW:(l+n)*s<=cap*s:=Nat.mul_le_mul_right s pK
  refine hK _ _ _ ⟨He,.inr ⟨_,_,rfl,eV,?_,pK,?_⟩⟩ ((Fr.new H _ _).mono λ_ h=>h.elim) ?_
  ·rw[Array.size_append,Array.size_append,HJ hz,List.size_toArray,List.size_toArray,hs.1,hn,Nat.sub_mul,Nat.add_mul]
   rw[Nat.add_mul] at xW
   omega
  ·intro i hi
   rw[<-Array.getElem?_toList]
   simp only[Array.toList_append]
   rw[List.getElem?_append_left (by simpa using(by rw[<-He] at hi;simpa using hi))]
  ·rintro k ⟨a,ha,rfl⟩
   cases ha
   exact .inr (Nat.le_refl _)
 ·refine .inl ⟨EV,?_⟩
  rcases hs.2 with⟨rfl,rfl,rfl⟩|⟨b,cs,rfl,sC,pg,qX,hc⟩
  ·have h0:n=0:=by omega
   subst h0
   refine⟨rfl,?_⟩
   have ET:new=[]:=List.eq_nil_of_length_eq_zero (by simpa using hn)
   subst ET
   have:=hK none 0 H (by simpa using hs) (Fr.refl _ _) (λk hk=>.inl hk)
   simpa using this
  ·simp only
   rw[iM,Nat.zero_add]
   have xW:(l+n)*s<=c*s:=Nat.mul_le_mul_right s EV
   rw[Nat.add_mul] at xW
   refine II sC ur (by rw[hn,pg];omega) ?_
   intro H' As rb fU zv gy FQ
   refine hK _ _ H' ⟨He,.inr ⟨b,As,rfl,rb,by rw[fU,pg],EV,?_⟩⟩ (FQ.mono λk hk=>⟨_,rfl,hk.symm⟩) (λk hk=>.inl hk)
   intro i hi
   rw[Nat.add_mul] at hi
   rcases Nat.lt_or_ge i (l*s) with h|h
   ·rw[zv i (by omega),hc i h,List.getElem?_append_left (by rw[hs.1];exact h)]
   ·have:=gy (i-l*s) (by omega)
    rw[show l*s+0+(i-l*s)=i by omega] at this
    rw[this,List.getElem?_append_right (by rw[hs.1];exact h),hs.1]
theorem Rl{H1:Heap}{el t1 bytes:Nat}{z:Value}{new:List Value}{K:Option Addr->Nat->Nat->Heap->Prop}(hs:rF s H el xs p l c)(h1:H1=gy H new.toArray t1)(hz:(dD z).length=s)(hn:new.length=s)(ur:∀v∈new,One v)
 (hb:(l+1)*bytes<=140737488355328)(qK:bytes≠0)
 (hK:∀p' c' H',rF s H' el (xs++new) p' (l+1) c'->Fr (fw p) H H'->(∀k,fw p' k->fw p k\/Array.size H<=k)->K p' (l+1) c' H'):
 jN el s bytes z p l c (.slice (some ⟨Array.size H,0,none⟩) 1 1) H1 K:=by
 have hf:Fr gz H H1:=by rw[h1];exact Fr.new H _ t1
 refine arj (new:=new) (n:=1) (hs.oP hf) hz ⟨rfl,by rw[hn,Nat.one_mul],?_⟩ (by rw[hn,Nat.one_mul]) ur hb qK λp' c' H' a b d=>hK p' c' H' a ((hf.mono λ_ h=>h.elim).trans b λk hk=>.inl hk) λk hk=>?_
 ·intro j u hj
  rw[dh (by rw[h1];exact eV),Nat.zero_add]
  simpa using hj
 ·rcases d k hk with h|h
  ·exact .inl h
  ·have:=hf.size
   exact .inr (by omega)
end
def nP(t:List Nd):List Value:=(t.map pI).flatten
theorem C1(n:Nd):(pI n).length=7:=rfl
theorem vO(t:List Nd)(n:Nd):nP t++pI n=nP (t++[n]):=by unfold nP;simp
theorem C0(n:Nd):∀v∈pI n,One v:=by
 intro v hv
 simp only[pI,List.mem_cons,List.not_mem_nil,or_false] at hv
 rcases hv with rfl|rfl|rfl|rfl|rfl|rfl|rfl<;>exact⟨by simp,by simp⟩
end Go.Ex
namespace Go.Ex
structure RC where
 l0:Int
 l1:Int
 l2:Int
 l3:Int
 r:Option Addr
structure RD where
 tp:Option Addr
 tl:Nat
 tc:Nat
 q:Option Addr
 p:Option Addr
 l:Nat
 c:Nat
def WQ(k:RC)(d:RD)(g:Nat)(root:Bool):List Value:=[.slice d.tp d.tl d.tc,.int .i64 k.l0,.int .i64 k.l1,.int .i64 k.l2,.int .i64 k.l3,.string eS,.slice none 0 0,.slice none 0 0,.pointer k.r,.pointer (some ⟨g,0,none⟩),.pointer d.q,.slice d.p d.l d.c,.bool root]
end Go.Ex
namespace Go.Proofs.iQ
open Go.Ex
structure RS(H:Heap)(x g:Nat)(k:RC)(G:Nat->Prop)(d:RD)(t:List Nd)(o:List UInt8)(lv:Nat)(root:Bool):Prop where
 fv:H[x]?=some (.cells (WQ k d g root).toArray ji (0,0))
 tr:rF 7 H eH (nP t) d.tp d.tl d.tc
 qq:d.q=none\/d.q=some ⟨x,10,none⟩
 bu:Sl H iD (zJ o) d.p d.l d.c
 bc:d.p.isSome=true->d.c≠0
 sc:kN H g G lv
 nx:¬G x/\¬fw d.tp x/\¬fw d.p x
 ng:∀k,G k->¬fw d.tp k/\¬fw d.p k
 nt:∀k,fw d.tp k->¬fw d.p k
def gk(x:Nat)(G:Nat->Prop)(d:RD):Nat->Prop:=λk=>k=x\/G k\/fw d.tp k\/fw d.p k
theorem RS.fy{H H':Heap}{x g:Nat}{k:RC}{G:Nat->Prop}{d:RD}{t:List Nd}{o:List UInt8}{lv:Nat}{root:Bool}{F:Nat->Prop}(h:RS H x g k G d t o lv root)(f:Fr F H H')(hd:∀i,gk x G d i->¬F i):RS H' x g k G d t o lv root where
 fv:=f.fv h.fv (hd _ (.inl rfl))
 tr:=h.tr.fy f λi hi=>hd i (.inr (.inr (.inl hi)))
 qq:=h.qq
 bu:=h.bu.fy f λi hi=>hd i (.inr (.inr (.inr hi)))
 bc:=h.bc
 sc:=h.sc.fy f λi hi=>hd i (.inr (.inl hi))
 nx:=h.nx
 ng:=h.ng
 nt:=h.nt
theorem RS.oP{H H':Heap}{x g:Nat}{k:RC}{G:Nat->Prop}{d:RD}{t:List Nd}{o:List UInt8}{lv:Nat}{root:Bool}(h:RS H x g k G d t o lv root)(f:Fr gz H H'):RS H' x g k G d t o lv root:=h.fy f λ_ _ h=>h
theorem RS.lt{H:Heap}{x g:Nat}{k:RC}{G:Nat->Prop}{d:RD}{t:List Nd}{o:List UInt8}{lv:Nat}{root:Bool}(h:RS H x g k G d t o lv root){i:Nat}(hi:gk x G d i):i<Array.size H:=by
 rcases hi with rfl|hi|hi|hi
 ·exact fe h.fv
 ·obtain⟨_,_,_,_,_,_,h5⟩:=h.sc;exact h5 i hi
 ·exact h.tr.iK hi
 ·exact h.bu.iK hi
theorem RS.cell{H:Heap}{x g:Nat}{k:RC}{G:Nat->Prop}{d:RD}{t:List Nd}{o:List UInt8}{lv:Nat}{root:Bool}(h:RS H x g k G d t o lv root)(j:Nat):dj H ((⟨x,0,none⟩:Addr).add j)=(WQ k d g root)[j]?:=sN h.fv j
def MZ(o:List UInt8)(dep:Int):List Nd:=if o=[] then[] else[⟨3,dep,eS,iT o⟩]
theorem E2{H:Heap}{x g:Nat}{k:RC}{G:Nat->Prop}{d:RD}{t:List Nd}{o:List UInt8}{lv:Nat}{root:Bool}(h:RS H x g k G d t o lv root)(ht:t.length<=1048576)(ho:o.length<=1048576)(dep:Int){R:Heap->Prop}
 (hR:∀d' H',RS H' x g k G d' (t++MZ o dep) [] lv root->Gr (gk x G d) (gk x G d') H H'->R H'):mM.C (some ⟨x,0,none⟩) dep H R:=by
 apply mM.calls
 unfold mM.W
 have Us:(⟨x,0,none⟩:Addr).add 10=⟨x,10,none⟩:=by rw[iM]
 have hl:o.length=d.l:=by have:=h.bu.1;rwa[tI] at this
 refine⟨_,rfl,?_⟩
 rw[Us]
 refine Zm h.fv (o:=10) rfl (ft (λh0=>?_) (λh0=>?_))
 ·have hZ:o≠[]:=λe=>by subst e;simp at hl;omega
  have PX:∀{H':Heap},Fr (fw d.p) H H'->H'[x]?=some (.cells (WQ k d g root).toArray ji (0,0)):=λf=>f.fv h.fv h.nx.2.2
  have Ua:t.length=d.tl:=by have:=h.tr.1;unfold nP at this;rw[vT (s:=7) _ (λv hv=>by obtain⟨n,_,rfl⟩:=List.mem_map.1 hv;rfl),List.length_map] at this;omega
  refine⟨_,rfl,_,_,_,h.cell 0,_,rfl,?_⟩
  rw[Us]
  refine rE h.fv (o:=10) rfl h.bu h.bc (by omega) λH2 f2=>?_
  have b2:=PX f2
  refine⟨⟨_,_,_,sN b2 0,rfl⟩,db λH3 h3=>?_⟩
  have f3:Fr gz H2 H3:=h3▸Fr.new H2 _ _
  have b3:=f3.fv b2 λh=>h
  refine⟨⟨_,_,_,sN b3 0,rfl⟩,?_⟩
  have t2:=h.tr.fy f2 λi hi=>h.nt i hi
  refine Rl (new:=pI ⟨3,dep,eS,iT o⟩) t2 h3 rfl (C1 _) (C0 _) (by omega) (by decide) λp' c' H4 s4 f4 Jf=>?_
  have s4:rF 7 H4 eH (nP (t++[⟨3,dep,eS,iT o⟩])) p' (d.tl+1) c':=by rw[<-vO];exact s4
  have b4:=f4.fv b2 h.nx.2.1
  have z2:=f2.size
  have z4:=f4.size
  have He:x<Array.size H:=fe h.fv
  have np:¬fw p' x:=λhh=>(Jf x hh).elim h.nx.2.1 λhh=>by omega
  refine⟨_,rfl,kQ b4 (by simp[WQ]) λH5 b5 f5=>⟨_,rfl,?_⟩⟩
  rw[Us]
  refine O0 b5 (by simp[WQ]) λH6 b6 f6=>?_
  have f56:Fr (λi=>i=x) H4 H6:=f5.trans f6 λi hi=>.inl hi
  have Mm:Fr (gk x G d) H H6:=((f2.mono λi hi=>.inr (.inr (.inr hi))).trans f4 λi hi=>.inl (.inr (.inr (.inl hi)))).trans f56 λi hi=>.inl (.inl hi)
  have hG:∀i,G i->i<Array.size H:=λi hi=>h.lt (.inr (.inl hi))
  have nil:∀i,¬fw none i:=λi⟨_,h,_⟩=>by cases h
  refine hR ⟨p',d.tl+1,c',none,none,0,0⟩ H6 ⟨?_,?_,.inl rfl,Sl.nil _ _,(λh=>by cases h),?_,⟨h.nx.1,np,nil x⟩,λi hi=>⟨λhh=>?_,nil i⟩,λi _=>nil i⟩ ⟨Mm,λi hi=>?_⟩
  ·rw[b6];simp[WQ]
  ·have:MZ o dep=[⟨3,dep,eS,iT o⟩]:=by unfold MZ;rw[if_neg hZ]
   rw[this]
   exact s4.fy f56 λi hi e=>np (e▸hi)
  ·have c4:=(h.sc.fy f2 λi hi=>(h.ng i hi).2).fy f4 λi hi=>(h.ng i hi).1
   exact c4.fy f56 λi hi e=>h.nx.1 (e▸hi)
  ·rcases Jf i hh with h'|h'
   ·exact(h.ng i hi).1 h'
   ·have:=hG i hi;omega
  ·rcases hi with rfl|hi|hi|hi
   ·exact .inl (.inl rfl)
   ·exact .inl (.inr (.inl hi))
   ·rcases Jf i hi with h'|h'
    ·exact .inl (.inr (.inr (.inl h')))
    ·exact .inr (by omega)
   ·exact absurd hi (nil i)
 ·have:o=[]:=List.eq_nil_of_length_eq_zero (by omega)
  subst this
  refine hR d H ?_ (Gr.refl _ _)
  simpa[MZ] using h
end Go.Proofs.iQ
namespace Go.Ex
def cls:Nat->List UInt8
 |0=>[]
 |n+1=>60::47::98::62::cls n
def ti:Nat->List Nat->List UInt8
 |k,[]=>cls k
 |k,d::L=>cls (k-d)++60::98::62::120::ti (d+1) L
def Ok:Nat->List Nat->Prop
 |_,[]=>True
 |k,d::L=>d<=k/\Ok (d+1) L
abbrev Bn:List UInt8:=[60,47,97,62]
theorem acI(k:Nat)(L:List Nat):ti k (k::L)=60::98::62::120::ti (k+1) L:=by
 rw[show ti k (k::L)=cls (k-k)++60::98::62::120::ti (k+1) L from rfl,Nat.sub_self];rfl
theorem Sz(k:Nat):∀(L:List Nat),(∀d M,L=d::M->d<=k)->ti (k+1) L=60::47::98::62::ti k L
 |[],_=>rfl
 |d::M,h=>by
  have hd:=h d M rfl
  unfold ti
  rw[show k+1-d=(k-d)+1 by omega]
  rfl
theorem Bt:∀(n:Nat),∀b∈cls n,b.toNat<128
 |0,_,h=>by cases h
 |n+1,b,h=>by
  simp only[cls,List.mem_cons] at h
  rcases h with rfl|rfl|rfl|rfl|h
  ·decide
  ·decide
  ·decide
  ·decide
  ·exact Bt n b h
theorem GP:∀(L:List Nat)(k:Nat),∀b∈ti k L,b.toNat<128
 |[],k,b,h=>Bt k b h
 |d::L,k,b,h=>by
  simp only[ti,List.mem_append,List.mem_cons] at h
  rcases h with h|rfl|rfl|rfl|rfl|h
  ·exact Bt _ b h
  ·decide
  ·decide
  ·decide
  ·decide
  ·exact GP L _ b h
theorem My(n:Nat)(r:List UInt8)(h:∃q,r=60::q):∃q,cls n++r=60::q:=by
 cases n with
 |zero=>exact h
 |succ n=>exact⟨_,rfl⟩
theorem Wf(k:Nat)(L:List Nat):∃q,ti k L++Bn=60::q:=by
 cases L with
 |nil=>exact My k _ ⟨_,rfl⟩
 |cons d L=>unfold ti;rw[List.append_assoc];exact My _ _ ⟨_,rfl⟩
def LW(k:Nat)(L:List Nat):List Nat:=L.takeWhile (Nat.ble k)
def FU(k:Nat)(L:List Nat):List Nat:=L.dropWhile (Nat.ble k)
theorem adB(k:Nat)(L:List Nat):LW k (k::L)=k::LW k L:=by unfold LW;rw[List.takeWhile_cons_of_pos (by simp)]
theorem aec(k:Nat)(L:List Nat):FU k (k::L)=FU k L:=by unfold FU;rw[List.dropWhile_cons_of_pos (by simp)]
theorem LV(k:Nat):∀L:List Nat,LW k L=LW (k+1) L++LW k (FU (k+1) L)
 |[]=>rfl
 |d::L=>by
  unfold LW FU
  by_cases h:k+1<=d
  ·rw[List.takeWhile_cons_of_pos (by simpa using(by omega:k<=d)),List.takeWhile_cons_of_pos (by simpa using h),List.dropWhile_cons_of_pos (by simpa using h),List.cons_append]
   exact congrArg _ (LV k L)
  ·rw[List.takeWhile_cons_of_neg (p:=Nat.ble (k+1)) (by simpa using h),List.dropWhile_cons_of_neg (by simpa using h),List.nil_append]
theorem MF(k:Nat):∀L:List Nat,FU k L=FU k (FU (k+1) L)
 |[]=>rfl
 |d::L=>by
  unfold FU
  by_cases h:k+1<=d
  ·rw[List.dropWhile_cons_of_pos (by simpa using(by omega:k<=d)),List.dropWhile_cons_of_pos (p:=Nat.ble (k+1)) (by simpa using h)]
   exact MF k L
  ·rw[List.dropWhile_cons_of_neg (p:=Nat.ble (k+1)) (by simpa using h)]
theorem Ri(k:Nat)(L:List Nat):(FU k L).length<=L.length:=List.Sublist.length_le (List.dropWhile_sublist _)
theorem Y2(k:Nat):∀(L:List Nat)(j:Nat),Ok j L->Ok k (FU (k+1) L)
 |[],_,_=>trivial
 |d::L,j,h=>by
  unfold FU
  by_cases hd:k+1<=d
  ·rw[List.dropWhile_cons_of_pos (by simpa using hd)];exact Y2 k L _ h.2
  ·rw[List.dropWhile_cons_of_neg (by simpa using hd)];exact⟨by omega,h.2⟩
def Fe(L:List Nat):List Nd:=(L.map λd:Nat=>[(⟨2,(d:Int)+2,iT [98],eS⟩:Nd),⟨3,(d:Int)+3,eS,iT [120]⟩]).flatten
theorem adY(L M:List Nat):Fe (L++M)=Fe L++Fe M:=by unfold Fe;simp
theorem o0(d:Nat)(L:List Nat):Fe (d::L)=⟨2,(d:Int)+2,iT [98],eS⟩::⟨3,(d:Int)+3,eS,iT [120]⟩::Fe L:=by unfold Fe;simp
theorem adX(L:List Nat):(Fe L).length=2*L.length:=by
 induction L with
 |nil=>rfl
 |cons d L ih=>rw[o0];simp[ih];omega
end Go.Ex
namespace Go.Proofs.iQ
open Go.Ex
theorem RS.set{H H':Heap}{x g:Nat}{k:RC}{G:Nat->Prop}{d:RD}{t:List Nd}{o:List UInt8}{lv:Nat}{root:Bool}(h:RS H x g k G d t o lv root){G':Nat->Prop}{JX:Nat}(f:Fr G H H')(s:kN H' g G' JX)(up:∀i,G' i->G i\/Array.size H<=i):RS H' x g k G' d t o JX root where
 fv:=f.fv h.fv h.nx.1
 tr:=h.tr.fy f λi hi hg=>(h.ng i hg).1 hi
 qq:=h.qq
 bu:=h.bu.fy f λi hi hg=>(h.ng i hg).2 hi
 bc:=h.bc
 sc:=s
 nx:=⟨λhx=>(up x hx).elim h.nx.1 λhh=>by have:=h.lt (.inl rfl);omega,h.nx.2.1,h.nx.2.2⟩
 ng:=λi hi=>(up i hi).elim (h.ng i) λhh=>⟨λhb=>by have:=h.tr.iK hb;omega,λhb=>by have:=h.bu.iK hb;omega⟩
 nt:=h.nt
theorem RS.gr{H H':Heap}{x:Nat}{G G':Nat->Prop}{d:RD}(g1:Gr G G' H H'):Gr (gk x G d) (gk x G' d) H H':=
 ⟨g1.fr.mono λi hi=>.inr (.inl hi),λi hi=>by
  rcases hi with h|h|h|h
  ·exact .inl (.inl h)
  ·exact(g1.up i h).imp (λh=>.inr (.inl h)) id
  ·exact .inl (.inr (.inr (.inl h)))
  ·exact .inl (.inr (.inr (.inr h)))⟩
theorem RS.push{H H3:Heap}{x g:Nat}{k:RC}{G:Nat->Prop}{d:RD}{t:List Nd}{o:List UInt8}{lv:Nat}{root:Bool}(h:RS H x g k G d t o lv root)(n:Nd)(h3:H3=gy H (pI n).toArray eH)(ht:t.length<=1048576){z:Value}(hz:(dD z).length=7){K:Heap->Prop}
 (hK:∀d' H',RS H' x g k G d' (t++[n]) o lv root->Gr (gk x G d) (gk x G d') H H'->K H'):
 jN eH 7 104 z d.tp d.tl d.tc (.slice (some ⟨Array.size H,0,none⟩) 1 1) H3 λp l c H4=>∃y:Addr,some (⟨x,0,none⟩:Addr)=some y/\sV (.slice p l c) (y.add 0) H4 K:=by
 have Ua:t.length=d.tl:=by have:=h.tr.1;unfold nP at this;rw[vT (s:=7) _ (λv hv=>by obtain⟨n,_,rfl⟩:=List.mem_map.1 hv;rfl),List.length_map] at this;omega
 refine Rl (new:=pI n) h.tr h3 hz (C1 _) (C0 _) (by omega) (by decide) λp' c' H4 s4 f4 Jf=>?_
 have s4:rF 7 H4 eH (nP (t++[n])) p' (d.tl+1) c':=by rw[<-vO];exact s4
 have b4:=f4.fv h.fv h.nx.2.1
 have He:x<Array.size H:=fe h.fv
 have np:¬fw p' x:=λhh=>(Jf x hh).elim h.nx.2.1 λhh=>by omega
 refine⟨_,rfl,kQ b4 (by simp[WQ]) λH5 b5 f5=>?_⟩
 have FT:Fr (λi=>i=x\/fw d.tp i) H H5:=(f4.mono λi hi=>.inr hi).trans f5 λi hi=>.inl (.inl hi)
 have new:∀i,fw p' i->i<Array.size H->fw d.tp i:=λi hi hl=>(Jf i hi).elim id λhh=>by omega
 refine hK ⟨p',d.tl+1,c',d.q,d.p,d.l,d.c⟩ H5 ⟨?_,s4.fy f5 λi hi e=>np (e▸hi),h.qq,h.bu.fy FT λi hi hh=>?_,h.bc,h.sc.fy FT λi hi hh=>?_,⟨h.nx.1,np,h.nx.2.2⟩,λi hi=>⟨λhh=>?_,(h.ng i hi).2⟩,λi hi hh=>?_⟩ ⟨FT.mono λi hi=>?_,λi hi=>?_⟩
 ·rw[b5];simp[WQ]
 ·rcases hh with rfl|hh
  ·exact h.nx.2.2 hi
  ·exact h.nt i hh hi
 ·rcases hh with rfl|hh
  ·exact h.nx.1 hi
  ·exact(h.ng i hi).1 hh
 ·exact(h.ng i hi).1 (new i hh (h.lt (.inr (.inl hi))))
 ·exact h.nt i (new i hi (h.bu.iK hh)) hh
 ·rcases hi with hi|hi
  ·exact .inl hi
  ·exact .inr (.inr (.inl hi))
 ·rcases hi with hi|hi|hi|hi
  ·exact .inl (.inl hi)
  ·exact .inl (.inr (.inl hi))
  ·rcases Jf i hi with hh|hh
   ·exact .inl (.inr (.inr (.inl hh)))
   ·exact .inr hh
  ·exact .inl (.inr (.inr (.inr hi)))
end Go.Proofs.iQ
namespace Go.Proofs.iQ
open Go.Ex
def YG(x nb tb:Nat)(S:ByteArray)(a0 dep:Int)(R:Int->Int->Heap->Prop)(H5:Heap):Prop:=
 sV (.int .i64 dep) ((⟨nb,0,none⟩:Addr).add 1) H5 λH6=>
 ∃rz:Addr,(some (⟨x,0,none⟩:Addr))=some rz/\eO H6 (rz.add 0) λBA BB rj=>kK H6 ⟨nb,0,none⟩ λKH KG KF KB KA Kz yh yi yj=>
 eX (gy H6 #[.int .i64 KH,.int .i64 KG,.string KF,.string KB,.string KA,.string Kz,.slice yh yi yj] eH) λH7:Heap=>(eO H7 (rz.add 0) λDE DF DG=>(.slice DE DF DG:Value)=.slice BA BB rj)/\jN eH 7 104 (.agg #[.int .i64 0,.int .i64 0,.string (⟨#[]⟩:ByteArray),.string (⟨#[]⟩:ByteArray),.string (⟨#[]⟩:ByteArray),.string (⟨#[]⟩:ByteArray),.slice none 0 0]) BA BB rj (.slice (some ⟨Array.size H6,0,none⟩) 1 1) H7 λrf rh ri H8=>
 ∃uq:Addr,(some (⟨x,0,none⟩:Addr))=some uq/\sV (.slice rf rh ri) (uq.add 0) H8 λH9=>
 eW (S:=(Int×Int×Unit)) (λwg=>S3 H9 ((⟨tb,0,none⟩:Addr).add 4) λJU=>
 gn (!JU) (im H9 ((⟨tb,0,none⟩:Addr).add 1) λT0=>
 gq.C ((some (⟨x,0,none⟩:Addr))) S (a0) (IntKind.i64.wrap (dep+1)) T0 H9 λKx Kw fg=>wg ((Kx:Int),(Kw:Int),()) fg) (wg ((a0:Int),((0:Int):Int),()) H9))
 (λwE de=>(λ(at3:Int)(Fm:Int)=>
 ∃Kv:Addr,(some (⟨x,0,none⟩:Addr))=some Kv/\lj de (Kv.add 9) λFV=>
 lV.C (FV) de λTZ fZ=>R (at3) (Fm) fZ) wE.1 wE.2.1)
theorem zC{H:Heap}{x g:Nat}{k:RC}{G:Nat->Prop}{d:RD}{t:List Nd}{o:List UInt8}{lv:Nat}{root:Bool}(h:RS H x g k G d t o lv root)(hm:jX H)(h6:∀i,gk x G d i->6<i)(ht:t.length<=1000000)(ho:o.length<=1048576)(yA:lv<=1000000)
 {c:UInt8}(hc:c=97\/c=98){S:ByteArray}{a0:Int}{dep:Nat}(mr:(dep:Int)<=k.l1)(GB:dep<=1000000)(Ma:0<=k.l3){T:Int->List Nd->Prop}
 (hC:∀H2 G2 d2,RS H2 x g k G2 d2 (t++MZ o dep++[⟨2,dep,iT [c],eS⟩]) [] (lv+1) root->Gr (gk x G d) (gk x G2 d2) H H2->
  gq.C (some ⟨x,0,none⟩) S a0 ((dep+1:Nat):Int) (iT [c]) H2 λa e H3=>e=0/\∃G3 d3 t3,RS H3 x g k G3 d3 t3 [] (lv+1) root/\Gr (gk x G2 d2) (gk x G3 d3) H2 H3/\T a t3)
 {R:Int->Int->Heap->Prop}(hR:∀a G3 d3 t3 H3,RS H3 x g k G3 d3 t3 [] lv root->Gr (gk x G d) (gk x G3 d3) H H3->T a t3->R a 0 H3):
 jQ.C (some ⟨x,0,none⟩) 2 (iT [c]) eS none 0 0 false S a0 (dep:Int) H R:=by
 apply jQ.calls
 unfold jQ.W
 refine db λH1 h1=>?_
 have f1:Fr gz H H1:=h1▸Fr.new H _ _
 have b1:ph H1 (Array.size H) 2 (iT [c]) eS:=h1▸eV
 have z1:Array.size H<Array.size H1:=fe b1
 have Xa:∀i,gk x G d i->i<Array.size H:=λi hi=>h.lt hi
 refine E2 (h.oP f1) (by omega) ho dep λd' H2 r2 g2=>?_
 have b2:ph H2 (Array.size H) 2 (iT [c]) eS:=g2.fr.fv b1 λhh=>by have:=Xa _ hh;omega
 have Nn:Gr (gk x G d) (gk x G d') H H2:=(Gr.of f1).trans g2
 have m2:jX H2:=hm.fy Nn.fr λhh=>by have:=h6 6 hh;omega
 have hG6:∀i,G i->6<i:=λi hi=>h6 i (.inr (.inl hi))
 refine⟨_,rfl,_,by rw[Addr.add_add];exact r2.cell 2,e8 (by omega) (b2.ld ?_)⟩
 refine⟨_,rfl,vP eS none 0 0 none 0 0 (λj hj=>?_) ⟨_,rfl,_,r2.cell 8,_,rfl,_,r2.cell 9,_,rfl,qH k.l0 k.l1 k.l2 k.l3 (λj hj=>?_) ?_⟩⟩
 ·rw[Addr.add_add,r2.cell];rcases j with _|_|_|j<;>first|rfl|omega
 ·rw[Addr.add_add,r2.cell];rcases j with _|_|_|_|j<;>first|rfl|omega
 have tail:∀(nb:Nat)(H5:Heap)(G5:Nat->Prop),gT H5 nb ⟨2,0,iT [c],eS⟩->RS H5 x g k G5 d' (t++MZ o dep) [] (lv+1) root->Gr (gk x G d) (gk x G5 d') H H5->ph H5 (Array.size H) 2 (iT [c]) eS->¬gk x G5 d' nb->¬gk x G5 d' (Array.size H)->Array.size H<nb->YG x nb (Array.size H) S a0 dep R H5:=by
  intro nb H5 G5 n5 r5 g5 b5 hn hZ lC
  unfold YG
  refine kQ (o:=1) n5 (by simp[pI]) λH6 n6 f6=>?_
  have n6:gT H6 nb ⟨2,dep,iT [c],eS⟩:=by rw[gT,n6];simp[pI]
  have r6:=r5.fy f6 λi hi e=>hn (e▸hi)
  have b6:ph H6 (Array.size H) 2 (iT [c]) eS:=f6.fv b5 (by omega)
  have g6:Gr (gk x G d) (gk x G5 d') H H6:=⟨g5.fr.trans f6 λi hi=>.inr (by omega),g5.up⟩
  have hlen:(t++MZ o dep).length<=1048576:=by unfold MZ;rw[List.length_append];split<;>simp<;>omega
  refine⟨_,rfl,_,_,_,r6.cell 0,nW _ _ _ _ _ _ _ _ _ (λj hj=>n6.cell j) (db λH7 h7=>?_)⟩
  have f7:Fr gz H6 H7:=h7▸Fr.new H6 _ _
  refine⟨⟨_,_,_,(r6.oP f7).cell 0,rfl⟩,r6.push ⟨2,dep,iT [c],eS⟩ h7 hlen rfl λd9 H9 r9 g9=>?_⟩
  have ZA:=g6.trans g9
  have b9:ph H9 (Array.size H) 2 (iT [c]) eS:=g9.fr.fv b6 λhh=>hZ hh
  refine dW (λs H'=>∃a,s=(a,0,())/\∃G3 d3 t3,RS H' x g k G3 d3 t3 [] (lv+1) root/\Gr (gk x G5 d9) (gk x G3 d3) H9 H'/\T a t3) ⟨_,b9.cell 4,iR rfl ⟨_,b9.cell 1,?_⟩⟩ ?_
  ·rw[show IntKind.i64.wrap ((dep:Int)+1)=((dep+1:Nat):Int) by rw[dM (by omega) (by omega)];omega]
   exact gq.mz (hC H9 G5 d9 r9 ZA) λa e H'⟨he,G3,d3,t3,q1,q2,q3⟩=>⟨a,by rw[he],G3,d3,t3,q1,q2,q3⟩
  ·rintro _ H' ⟨a,rfl,G3,d3,t3,q1,q2,q3⟩
   refine⟨_,rfl,_,q1.cell 9,FE q1.sc (by omega) λH8 s8 f8=>?_⟩
   have fG:Fr G3 H' H8:=f8.mono λi hi=>by obtain⟨_,_,_,_,_,h4,_⟩:=q1.sc;exact hi▸h4
   have r8:=q1.set fG s8 λi hi=>.inl hi
   exact hR a G3 d3 t3 H8 r8 ((ZA.trans q2).trans (RS.gr ⟨fG,λi hi=>.inl hi⟩)) q3
 have apR:=r2.sc
 have Zp:∀i,G i->6<i:=hG6
 have Vq:∀{H':Heap}{G'}{Ju t' o' l'}{K:ByteArray->Option Addr->Nat->Nat->Option Addr->Nat->Nat->Prop},RS H' x g k G' Ju t' o' l' root->K eS none 0 0 none 0 0->xq H' ((⟨x,0,none⟩:Addr).add 5) K:=λr hk=>
  vP eS none 0 0 none 0 0 (λj hj=>by rw[Addr.add_add,r.cell];rcases j with _|_|_|j<;>first|rfl|omega) hk
 have ae7:∀{H':Heap}{G'}{Ju t' o' l'}{K:Int->Int->Int->Int->Prop},RS H' x g k G' Ju t' o' l' root->K k.l0 k.l1 k.l2 k.l3->jt H' ((⟨x,0,none⟩:Addr).add 1) K:=λr hk=>
  qH k.l0 k.l1 k.l2 k.l3 (λj hj=>by rw[Addr.add_add,r.cell];rcases j with _|_|_|_|j<;>first|rfl|omega) hk
 have z2:Array.size H1<=Array.size H2:=g2.fr.size
 have DP:∀i,gk x G d' i->i<Array.size H2:=λi hi=>r2.lt hi
 have Ay:∀i,gk x G d' i->i≠Array.size H:=λi hi e=>by
  rcases g2.up i hi with hh|hh
  ·have:=Xa i hh;omega
  ·omega
 have alX:∀{F':Nat->Prop}{n:Nat},(∀i,F' i->G i\/n<=i)->Array.size H+1<=n->¬gk x F' d' (Array.size H):=λup hn hh=>by
  rcases hh with hh|hh|hh|hh
  ·exact Ay x (.inl rfl) hh.symm
  ·rcases up _ hh with hh|hh
   ·exact Ay _ (.inr (.inl hh)) rfl
   ·omega
  ·exact Ay _ (.inr (.inr (.inl hh))) rfl
  ·exact Ay _ (.inr (.inr (.inr hh))) rfl
 refine⟨FC m2 hc apR (by omega) Zp Ma λF' H3 s3 g3=>?_,?_⟩
 ·refine db λH4 h4=>?_
  have f4:Fr gz H3 H4:=h4▸Fr.new H3 _ _
  have r3:=r2.set g3.fr s3 g3.up
  have r4:=r3.oP f4
  have b3:ph H3 (Array.size H) 2 (iT [c]) eS:=g3.fr.fv b2 λhh=>Ay _ (.inr (.inl hh)) rfl
  have b4:ph H4 (Array.size H) 2 (iT [c]) eS:=f4.fv b3 λh=>h
  refine⟨b4.ld rfl,Vq r4 rfl,⟨_,r4.cell 8,rfl⟩,⟨_,r4.cell 9,rfl⟩,ae7 r4 rfl,o9 (cs:=(pI ⟨0,0,eS,eS⟩).toArray) (h4▸eV) rfl λH5 b5 f5=>e8 (by decide) ?_⟩
  have l3:∀i,gk x F' d' i->i<Array.size H3:=λi hi=>r3.lt hi
  have lb:Array.size H<Array.size H3:=fe b3
  refine tail (Array.size H3) H5 F' b5 (r4.fy f5 λi hi e=>by have:=l3 i hi;omega) ((Nn.trans (RS.gr g3)).trans (Gr.of (f4.fresh f5 λi hi=>by omega))) (f5.fv b4 (by omega)) (λhh=>by have:=l3 _ hh;omega) (alX g3.up (fe b2)) lb
 ·refine db λH4 h4=>?_
  have f4:Fr gz H2 H4:=h4▸Fr.new H2 _ _
  have r4:=r2.oP f4
  have b4:ph H4 (Array.size H) 2 (iT [c]) eS:=f4.fv b2 λh=>h
  have n4:gT H4 (Array.size H2) ⟨0,0,eS,eS⟩:=h4▸eV
  refine⟨b4.ld rfl,Vq r4 rfl,⟨_,r4.cell 8,rfl⟩,⟨_,r4.cell 9,rfl⟩,ae7 r4 rfl,FC (m2.oP f4) hc r4.sc (by omega) Zp Ma λF' H3 s3 g3=>?_⟩
  have r3:=r4.set g3.fr s3 g3.up
  have b3:ph H3 (Array.size H) 2 (iT [c]) eS:=g3.fr.fv b4 λhh=>Ay _ (.inr (.inl hh)) rfl
  have n3:gT H3 (Array.size H2) ⟨0,0,eS,eS⟩:=g3.fr.fv n4 λhh=>by have:=DP _ (.inr (.inl hh));omega
  have z4:Array.size H2<Array.size H4:=fe n4
  have lb:Array.size H<Array.size H2:=fe b2
  have nn:¬gk x F' d' (Array.size H2):=λhh=>by
   rcases hh with hh|hh|hh|hh
   ·have:=DP x (.inl rfl);omega
   ·rcases g3.up _ hh with hh|hh
    ·have:=DP _ (.inr (.inl hh));omega
    ·omega
   ·have:=DP _ (.inr (.inr (.inl hh)));omega
   ·have:=DP _ (.inr (.inr (.inr hh)));omega
  refine o9 n3 rfl λH5 b5 f5=>e8 (by decide) ?_
  exact tail (Array.size H2) H5 F' b5 (r3.fy f5 λi hi e=>nn (e▸hi)) ⟨((Nn.trans (Gr.of f4)).trans (RS.gr g3)).fr.trans f5 (λi hi=>.inr (by omega)),((Nn.trans (Gr.of f4)).trans (RS.gr g3)).up⟩ (f5.fv b3 (by omega)) nn (alX g3.up (by omega)) lb
end Go.Proofs.iQ
namespace Go.Ex
def FM(pre:Bool)(k:Nat)(L:List Nat):List UInt8:=(if pre then[120] else[])++(ti k L++Bn)
def Xg(k:Nat):UInt8:=if k=0 then 97 else 98
def CO(k:Nat)(L:List Nat):List UInt8:=if k=0 then[] else ti (k-1) L++Bn
theorem ag6(k:Nat):Xg k=97\/Xg k=98:=by unfold Xg;split<;>simp
theorem A8(k:Nat)(L:List Nat)(h:∀d M,L=d::M->d<k):FM false k L=60::47::Xg k::62::CO k L:=by
 unfold FM CO Xg
 rcases k with _|k
 ·cases L with
  |nil=>rfl
  |cons d M=>have:=h d M rfl;omega
 ·rw[Sz k L λd M e=>by have:=h d M e;omega]
  simp
theorem I4(k:Nat)(L:List Nat):FM false k (k::L)=60::98::62::FM true (k+1) L:=by
 unfold FM;rw[acI];simp
theorem Xu(k:Nat)(L:List Nat):∃r,FM true k L=120::60::r/\FM false k L=60::r/\∀b∈r,b.toNat<128:=by
 obtain⟨q,hq⟩:=Wf k L
 refine⟨q,by unfold FM;rw[hq];rfl,by unfold FM;rw[hq];rfl,λb hb=>?_⟩
 have:b∈ti k L++Bn:=by rw[hq];exact List.mem_cons_of_mem _ hb
 rcases List.mem_append.1 this with h|h
 ·exact GP L k b h
 ·simp[Bn] at h;rcases h with rfl|rfl|rfl|rfl<;>decide
end Go.Ex
