/- Part AM of the proof that the law TopMany answers true at every input, under no condition. -/
import Derived.Test.YtmdbfgemefalmaaGreatDoorQAL
import Derived.Lib.TrailingZeros
set_option linter.unusedVariables false
set_option maxHeartbeats 2000000
set_option maxRecDepth 100000
namespace Go.Ex
section
variable {H H':Heap} {b k o n:Nat} {cs:Array Value} {t:TypeId} {fr:Nat×Nat} {v:Value}
theorem iM(b o n:Nat):(⟨b,o,none⟩:Addr).add n=⟨b,o+n,none⟩:=by
 unfold Addr.add
 split
 ·rename_i h;subst h;rfl
 ·rfl
theorem kc(h:H[b]?=some (.cells cs t fr))(o:Nat):dj H ⟨b,o,none⟩=cs[o]?:=by
 unfold dj
 simp only[h]
 rfl
theorem dh(h:H[b]?=some (.cells cs t fr))(o n:Nat):dj H ((⟨b,o,none⟩:Addr).add n)=cs[o+n]?:=by
 rw[iM,kc h]
theorem qJ(h:H[b]?=some (.cells cs t (0,0)))(o:Nat):gO H ⟨b,o,none⟩=false:=by
 unfold gO
 simp only[h]
 simp
theorem mQ(h:H[b]?=some (.cells cs t (0,0)))(o n:Nat):gO H ((⟨b,o,none⟩:Addr).add n)=false:=by
 rw[iM,qJ h]
theorem ot(h:H[b]?=some (.cells cs t fr))(o:Nat)(v:Value):(nQ H ⟨b,o,none⟩ v)[b]?=some (.cells (cs.setIfInBounds o v) t fr):=by
 unfold nQ
 rw[Array.getElem?_modify]
 simp[h]
theorem kG(h:H[b]?=some (.cells cs t fr))(o n:Nat)(v:Value):(nQ H ((⟨b,o,none⟩:Addr).add n) v)[b]?=some (.cells (cs.setIfInBounds (o+n) v) t fr):=by
 rw[iM,ot h]
theorem tC{a:Addr}(hk:k≠a.block)(v:Value):(nQ H a v)[k]?=H[k]?:=by
 unfold nQ
 rw[Array.getElem?_modify,if_neg (λe=>hk e.symm)]
theorem Ta(a:Addr)(v:Value):Array.size (nQ H a v)=Array.size H:=by
 unfold nQ
 exact Array.size_modify ..
theorem eV:(gy H cs t)[Array.size H]?=some (.cells cs t (0,0)):=by unfold gy;simp
theorem Ou(hk:k<Array.size H):(gy H cs t)[k]?=H[k]?:=by
 unfold gy
 rw[Array.getElem?_push,if_neg (by omega)]
theorem gC:Array.size (gy H cs t)=Array.size H+1:=by unfold gy;simp
theorem fe{x:Obj}(h:H[b]?=some x):b<Array.size H:=(Array.getElem?_eq_some_iff.1 h).1
end
structure Fr(F:Nat->Prop)(H H':Heap):Prop where
 size:Array.size H<=Array.size H'
 fy:∀k,k<Array.size H->¬F k->H'[k]?=H[k]?
abbrev gz:Nat->Prop:=λ_=>False
theorem Fr.refl(F:Nat->Prop)(H:Heap):Fr F H H:=⟨Nat.le_refl _,λ_ _ _=>rfl⟩
theorem Fr.trans{F G:Nat->Prop}{H H' mK:Heap}(h:Fr F H H')(k:Fr G H' mK)(hg:∀i,G i->F i\/Array.size H<=i):Fr F H mK:=
 ⟨Nat.le_trans h.size k.size,λi hi hf=>by
  rw[k.fy i (Nat.lt_of_lt_of_le hi h.size) (λhgi=>?_),h.fy i hi hf]
  rcases hg i hgi with h|h
  ·exact hf h
  ·omega⟩
theorem Fr.mono{F G:Nat->Prop}{H H':Heap}(h:Fr F H H')(hg:∀i,F i->G i):Fr G H H':=⟨h.size,λi hi hn=>h.fy i hi (λhf=>hn (hg i hf))⟩
theorem Fr.new(H:Heap)(cs:Array Value)(t:TypeId):Fr gz H (gy H cs t):=⟨by rw[gC];omega,λ_ hk _=>Ou hk⟩
theorem Fr.set(H:Heap)(a:Addr)(v:Value):Fr (λk=>k=a.block) H (nQ H a v):=⟨by rw[Ta];exact Nat.le_refl _,λ_ _ hn=>tC hn v⟩
theorem Fr.fv{F:Nat->Prop}{H H':Heap}(h:Fr F H H'){k:Nat}{x:Obj}(hk:H[k]?=some x)(hf:¬F k):H'[k]?=some x:=by rw[h.fy k (fe hk) hf,hk]
def Rd(H:Heap)(xs:List Value)(p:Option Addr)(l:Nat):Prop:=xs.length=l/\∀i,i<l->∃a,p=some a/\dj H (a.add i)=xs[i]?
def fw(p:Option Addr)(k:Nat):Prop:=∃a,p=some a/\a.block=k
def Sl(H:Heap)(t:TypeId)(xs:List Value)(p:Option Addr)(l c:Nat):Prop:=
 xs.length=l/\((p=none/\l=0/\c=0)\/∃b cs,p=some ⟨b,0,none⟩/\H[b]?=some (.cells cs t (0,0))/\cs.size=c/\l<=c/\∀i,i<l->cs[i]?=xs[i]?)
section
variable {H H':Heap} {t:TypeId} {xs:List Value} {p:Option Addr} {l c:Nat}
theorem Sl.nil(H:Heap)(t:TypeId):Sl H t [] none 0 0:=⟨rfl,.inl ⟨rfl,rfl,rfl⟩⟩
theorem Sl.rd(h:Sl H t xs p l c):Rd H xs p l:=by
 refine⟨h.1,λi hi=>?_⟩
 rcases h.2 with⟨_,hl,_⟩|⟨b,cs,hp,hb,_,_,hc⟩
 ·omega
 ·exact⟨_,hp,by rw[dh hb,Nat.zero_add];exact hc i hi⟩
theorem Sl.cap(h:Sl H t xs p l c):l<=c:=by
 rcases h.2 with⟨_,hl,hc⟩|⟨b,cs,hp,hb,_,qX,hc⟩<;>omega
theorem Rd.get(h:Rd H xs p l){i:Nat}{v:Value}(hi:xs[i]?=some v):∃a,p=some a/\dj H (a.add i)=some v:=by
 have lC:i<l:=by
  have:=(List.getElem?_eq_some_iff.1 hi).1
  rw[h.1] at this
  exact this
 obtain⟨a,hp,hc⟩:=h.2 i lC
 exact⟨a,hp,by rw[hc,hi]⟩
theorem Sl.iK(h:Sl H t xs p l c){k:Nat}(hk:fw p k):k<Array.size H:=by
 obtain⟨a,rfl,rfl⟩:=hk
 rcases h.2 with⟨hp,_⟩|⟨b,cs,hp,hb,_⟩
 ·cases hp
 ·cases hp;exact fe hb
theorem Sl.fy{F:Nat->Prop}(h:Sl H t xs p l c)(hf:Fr F H H')(hn:∀k,fw p k->¬F k):Sl H' t xs p l c:=by
 refine⟨h.1,?_⟩
 rcases h.2 with h|⟨b,cs,rfl,hb,hr⟩
 ·exact .inl h
 ·exact .inr ⟨b,cs,rfl,hf.fv hb (hn b ⟨_,rfl,rfl⟩),hr⟩
theorem Sl.ty(h:Sl H t xs p l c){k:Nat}(hk:fw p k):∃cs,H[k]?=some (.cells cs t (0,0)):=by
 obtain⟨a,rfl,rfl⟩:=hk
 rcases h.2 with⟨hp,_⟩|⟨b,cs,hp,hb,_⟩
 ·cases hp
 ·cases hp;exact⟨cs,hb⟩
theorem Sl.ne(h:Sl H t xs p l c){k:Nat}{cs:Array Value}{u:TypeId}{fr:Nat×Nat}(hk:H[k]?=some (.cells cs u fr))(hZ:t≠u):¬fw p k:=by
 intro hb
 obtain⟨As,h'⟩:=h.ty hb
 rw[hk] at h'
 injection h' with h'
 injection h' with _ h'
 exact hZ h'.symm
theorem Sl.ne'{u:TypeId}{ys:List Value}{q:Option Addr}{m d:Nat}(h:Sl H t xs p l c)(h':Sl H u ys q m d)(hZ:t≠u):∀k,fw p k->¬fw q k:=by
 intro k hk hq
 obtain⟨cs,hc⟩:=h'.ty hq
 exact h.ne hc hZ hk
theorem Sl.store(h:Sl H t xs p l c){i:Nat}(hi:i<l)(v:Value):∃a,p=some a/\(∃u,dj H (a.add i)=some u)/\gO H (a.add i)=false/\
 Sl (nQ H (a.add i) v) t (xs.set i v) p l c/\Fr (fw p) H (nQ H (a.add i) v):=by
 rcases h.2 with⟨_,hl,_⟩|⟨b,cs,rfl,hb,hs,qX,hc⟩
 ·omega
 ·refine⟨_,rfl,?_,mQ hb 0 i,⟨by simp[h.1],.inr ⟨b,cs.setIfInBounds i v,rfl,?_,by simp[hs],qX,?_⟩⟩,?_⟩
  ·rw[dh hb,Nat.zero_add,hc i hi]
   exact⟨xs[i]'(by rw[h.1];exact hi),List.getElem?_eq_getElem _⟩
  ·rw[kG hb,Nat.zero_add]
  ·intro j hj
   rw[Array.getElem?_setIfInBounds,List.getElem?_set,hs,h.1]
   by_cases B8:i=j
   ·subst B8;simp[hi,show i<c by omega]
   ·simp[B8,hc j hj]
  ·refine(Fr.set H _ v).mono λk hk=>?_
   rw[iM] at hk
   exact⟨_,rfl,hk.symm⟩
theorem uy{z:Value}(hz:dD z=[z])(n:Nat):iq z n=Array.replicate n z:=by
 unfold iq
 rw[hz]
 apply Array.ext'
 simp only[List.length_cons,List.length_nil,Nat.zero_add,Nat.mul_one,Nat.mod_one,Array.toList_map,Array.toList_range,Array.toList_replicate]
 apply List.ext_getElem
 ·simp
 ·intro i h1 h2;simp
theorem Sl.made(H:Heap)(t:TypeId){z:Value}(hz:dD z=[z])(n:Nat):Sl (gy H (iq z n) t) t (List.replicate n z) (some ⟨Array.size H,0,none⟩) n n:=by
 refine⟨by simp,.inr ⟨_,Array.replicate n z,rfl,?_,by simp,Nat.le_refl _,?_⟩⟩
 ·rw[<-uy hz];exact eV
 ·intro i hi;simp[hi]
theorem Sl.lit(H:Heap)(t:TypeId)(xs:List Value):Sl (gy H xs.toArray t) t xs (some ⟨Array.size H,0,none⟩) xs.length xs.length:=
 ⟨rfl,.inr ⟨_,xs.toArray,rfl,eV,by simp,Nat.le_refl _,λi _=>by simp⟩⟩
theorem IU{v:Value}{K:Prop}(h1:∀c,v≠.agg c)(h2:∀c,v≠.tuple c)(h:K):A1 v K:=by
 unfold A1
 cases v<;>first|exact h|exact absurd rfl (h1 _)|exact absurd rfl (h2 _)
def One(v:Value):Prop:=(∀c,v≠.agg c)/\∀c,v≠.tuple c
theorem II{b:Nat}{t:TypeId}:∀{vs:List Value}{H:Heap}{cs:Array Value}{o i:Nat}{K:Heap->Prop},H[b]?=some (.cells cs t (0,0))->(∀v∈vs,One v)->o+i+vs.length<=cs.size->
 (∀H' As,H'[b]?=some (.cells As t (0,0))->As.size=cs.size->(∀j,j<o+i->As[j]?=cs[j]?)->(∀j,j<vs.length->As[o+i+j]?=vs[j]?)->Fr (λk=>k=b) H H'->K H')->Ld H ⟨b,o,none⟩ vs i K
 |[],H,cs,o,i,K,hb,_,_,hK=>hK H cs hb rfl (λ_ _=>rfl) (λj hj=>absurd hj (by simp)) (Fr.refl _ _)
 |v::vs,H,cs,o,i,K,hb,h1,hlen,hK=>by
  have ur:=h1 v (by simp)
  have lC:o+i<cs.size:=by simp at hlen;omega
  unfold Ld xn
  refine IU ur.1 ur.2 ⟨⟨cs[o+i],by rw[dh hb];exact Array.getElem?_eq_getElem lC⟩,mQ hb o i,?_⟩
  refine II (kG hb o i v) (λu hu=>h1 u (by simp[hu])) (by simp at hlen⊢;omega) ?_
  intro H' As rb fU zv gy FQ
  refine hK H' As rb (by rw[fU];simp) ?_ ?_ ?_
  ·intro j hj
   rw[zv j (by omega),Array.getElem?_setIfInBounds,if_neg (by omega)]
  ·intro j hj
   cases j with
   |zero=>
    rw[Nat.add_zero,zv (o+i) (by omega),Array.getElem?_setIfInBounds]
    simp[lC]
   |succ j=>
    have:=gy j (by simp at hj;omega)
    rw[show o+i+(j+1)=o+(i+1)+j by omega,this]
    simp
  ·refine Fr.trans ((Fr.set H _ v).mono λk hk=>?_) FQ (λk hk=>.inl hk)
   rw[iM] at hk
   exact hk
theorem zM{el bytes:Nat}{z y:Value}{n:Nat}{new:List Value}{K:Option Addr->Nat->Nat->Heap->Prop}(hs:Sl H el xs p l c)(hz:dD z=[z])
 (Uk:appended H 1 y n new)(hn:new.length=n)(ur:∀v∈new,One v)(hb:(l+n)*bytes<=140737488355328)(qK:bytes≠0)
 (hK:∀p' c' H',Sl H' el (xs++new) p' (l+n) c'->Fr (fw p) H H'->(∀k,fw p' k->fw p k\/Array.size H<=k)->K p' (l+n) c' H'):jN el 1 bytes z p l c y H K:=by
 refine⟨n,new,Uk,?_⟩
 rcases Nat.lt_or_ge c (l+n) with hg|EV
 ·refine .inr ⟨hg,hb,qK,xs,by rw[hs.1,Nat.mul_one],?_,?_⟩
  ·have ra:=hs.rd
   cases p with
   |none=>
    rcases hs.2 with⟨_,hl,_⟩|⟨b,cs,hp,_⟩
    ·exact List.eq_nil_of_length_eq_zero (by rw[hs.1,hl])
    ·cases hp
   |some a=>
    intro j v hj
    obtain⟨a',ha,hc⟩:=ra.get hj
    cases ha
    exact hc
  ·intro cap pK
   refine hK _ _ _ ⟨by simp[hs.1,hn],.inr ⟨_,_,rfl,eV,?_,pK,?_⟩⟩ ((Fr.new H _ _).mono λ_ h=>h.elim) ?_
   ·rw[uy hz]
    simp[hs.1,hn]
    omega
   ·intro i hi
    rw[uy hz]
    have hlen:i<(xs++new).length:=by simp[hs.1,hn];exact hi
    rw[<-Array.getElem?_toList]
    simp only[Array.toList_append,Array.toList_replicate]
    rw[List.getElem?_append_left (by simpa using hlen)]
   ·rintro k ⟨a,ha,rfl⟩
    cases ha
    exact .inr (Nat.le_refl _)
 ·refine .inl ⟨EV,?_⟩
  rcases hs.2 with⟨rfl,rfl,rfl⟩|⟨b,cs,rfl,sC,pg,qX,hc⟩
  ·have h0:n=0:=by omega
   subst h0
   refine⟨rfl,?_⟩
   have ET:new=[]:=List.eq_nil_of_length_eq_zero hn
   subst ET
   have:=hK none 0 H (by simpa using hs) (Fr.refl _ _) (λk hk=>.inl hk)
   simpa using this
  ·simp only
   rw[Nat.mul_one,iM,Nat.zero_add]
   refine II sC ur (by rw[hn,pg];omega) ?_
   intro H' As rb fU zv gy FQ
   refine hK _ _ H' ⟨by simp[hs.1,hn],.inr ⟨b,As,rfl,rb,by rw[fU,pg],EV,?_⟩⟩ (FQ.mono λk hk=>⟨_,rfl,hk.symm⟩) (λk hk=>.inl hk)
   intro i hi
   rcases Nat.lt_or_ge i l with h|h
   ·rw[zv i (by omega),hc i h,List.getElem?_append_left (by rw[hs.1];exact h)]
   ·have:=gy (i-l) (by omega)
    rw[show l+0+(i-l)=i by omega] at this
    rw[this,List.getElem?_append_right (by rw[hs.1];exact h),hs.1]
theorem zN{el bytes t1:Nat}{z v:Value}{K:Option Addr->Nat->Nat->Heap->Prop}(hs:Sl H el xs p l c)(hz:dD z=[z])(ur:One v)(hb:(l+1)*bytes<=140737488355328)(qK:bytes≠0)
 (hK:∀p' c' H',Sl H' el (xs++[v]) p' (l+1) c'->Fr (fw p) H H'->(∀k,fw p' k->fw p k\/Array.size H<=k)->K p' (l+1) c' H'):
 eX (gy H #[v] t1) λH1:Heap=>jN el 1 bytes z p l c (.slice (some ⟨Array.size H,0,none⟩) 1 1) H1 K:=by
 refine db λH1 hH1=>?_
 subst hH1
 have hf:=Fr.new H #[v] t1
 refine zM (new:=[v]) (hs.fy hf (λ_ _ h=>h)) hz ?_ rfl (by simpa using ur) hb qK ?_
 ·refine⟨rfl,rfl,?_⟩
  intro j u hj
  rw[dh eV,Nat.zero_add]
  simpa using hj
 ·intro p' c' H' h1 h2 h3
  refine hK p' c' H' h1 (Fr.trans (hf.mono λ_ h=>h.elim) h2 (λk hk=>.inl hk)) λk hk=>?_
  rcases h3 k hk with h|h
  ·exact .inl h
  ·rw[gC] at h;exact .inr (by omega)
end
end Go.Ex
namespace Go.Ex
theorem ke(a:Addr)(n:Nat):(a.add n).block=a.block:=by
 unfold Addr.add
 split<;>rfl
theorem u5{H:Heap}{a:Addr}{v:Value}(h:dj H a=some v):a.block<Array.size H:=by
 unfold dj at h
 split at h
 ·rename_i hb
  exact fe hb
 ·cases h
theorem Mh{H H':Heap}{a:Addr}(h:H'[a.block]?=H[a.block]?):dj H' a=dj H a:=by
 unfold dj
 rw[h]
theorem Fr.cell{F:Nat->Prop}{H H':Heap}(h:Fr F H H'){a:Addr}{v:Value}(hc:dj H a=some v)(hf:¬F a.block):dj H' a=some v:=by
 rw[Mh (h.fy _ (u5 hc) hf),hc]
theorem Rd.fy{H H':Heap}{xs:List Value}{p:Option Addr}{l:Nat}{F:Nat->Prop}(h:Rd H xs p l)(hf:Fr F H H')(hn:∀k,k<Array.size H->fw p k->¬F k):Rd H' xs p l:=by
 refine⟨h.1,λi hi=>?_⟩
 obtain⟨a,hp,hc⟩:=h.2 i hi
 refine⟨a,hp,?_⟩
 have hx:xs[i]?=some (xs[i]'(by rw[h.1];exact hi)):=List.getElem?_eq_getElem _
 rw[hx] at hc⊢
 have lC:=u5 hc
 rw[ke] at lC
 exact hf.cell hc (by rw[ke];exact hn _ lC ⟨a,hp,rfl⟩)
theorem Rd.oP{H H':Heap}{xs:List Value}{p:Option Addr}{l:Nat}(h:Rd H xs p l)(hf:Fr gz H H'):Rd H' xs p l:=h.fy hf λ_ _ _ h=>h
end Go.Ex
namespace Go.Ex
theorem Fr.eZ{H H' mK:Heap}(h:Fr gz H H')(k:Fr gz H' mK):Fr gz H mK:=h.trans k λ_ h=>h.elim
end Go.Ex
namespace Go.Ex
theorem wrap_i64{n:Int}(h0:-9223372036854775808<=n)(h1:n<=9223372036854775807):IntKind.i64.wrap n=n:=by
 unfold IntKind.wrap;simp[IntKind.bits,IntKind.signed];omega
theorem wrap_u64{n:Int}(h0:0<=n)(h1:n<=18446744073709551615):IntKind.u64.wrap n=n:=by
 unfold IntKind.wrap;simp[IntKind.bits,IntKind.signed];omega
theorem wrap_u8{n:Int}(h0:0<=n)(h1:n<=255):IntKind.u8.wrap n=n:=by
 unfold IntKind.wrap;simp[IntKind.bits,IntKind.signed];omega
theorem iR{b:Bool}{A B:Prop}(hb:b=true)(h:A):gn b A B:=by subst hb;exact h
theorem eY{b:Bool}{A B:Prop}(hb:b=false)(h:B):gn b A B:=by subst hb;exact h
theorem ft{p:Prop}[Decidable p]{A B:Prop}(h1:p->A)(h2:¬p->B):gn (decide p) A B:=ik (λh=>h1 (of_decide_eq_true h)) (λh=>h2 (of_decide_eq_false h))
theorem kY{p:Prop}[Decidable p]{A B:Prop}(hp:p)(h:A):gn (decide p) A B:=iR (decide_eq_true hp) h
theorem e8{p:Prop}[Decidable p]{A B:Prop}(hp:¬p)(h:B):gn (decide p) A B:=eY (decide_eq_false hp) h
theorem fJ{S:Type}{b:(S->Heap->Prop)->S->Heap->Prop}{s₀:S}{H₀:Heap}(I:Nat->S->Heap->Prop)(n:Nat)(h0:I n s₀ H₀)
 (hr:∀n s H,I n s H->b (λs' H'=>∃m,m<n/\I m s' H') s H):lD b s₀ H₀:=⟨I,⟨n,h0⟩,hr⟩
theorem dW{S:Type}{f:(S->Heap->Prop)->Prop}{k:S->Heap->Prop}(J:S->Heap->Prop)(h1:f J)(h2:∀s H,J s H->k s H):eW f k:=⟨J,h1,h2⟩
theorem eG{S:Type}{f:(S->Heap->Prop)->Prop}{k:S->Heap->Prop}(h:f k):eW f k:=⟨k,h,λ_ _ h=>h⟩
theorem aiB{s:ByteArray}{i:Nat}(h:i<s.size):bt s (i:Int)=((s.data.toList[i]'(by rw[Array.length_toList];exact h)).toNat:Int):=by
 unfold bt
 rw[Int.toNat_natCast,List.getD_eq_getElem?_getD,List.getElem?_eq_getElem (by rw[Array.length_toList];exact h)]
 rfl
end Go.Ex
namespace Go.Ex
theorem vg:IntKind.u64.bits=64:=rfl
theorem ofInt_u64(a:Nat):BitVec.ofInt 64 (a:Int)=BitVec.ofNat 64 a:=BitVec.ofInt_natCast 64 a
theorem Eb(a:Nat):IntKind.u64.wrap (a:Int)=((a%2^64:Nat):Int):=by
 unfold IntKind.wrap;simp[IntKind.bits,IntKind.signed]
theorem mY{a:Nat}(h:a<2^64):IntKind.u64.wrap (a:Int)=(a:Int):=by rw[Eb,Nat.mod_eq_of_lt h]
theorem CZ{a b:Nat}(ha:a<2^64)(hb:b<2^64):BT .u64 a b=((a|||b:Nat):Int):=by
 unfold BT
 rw[vg,ofInt_u64,ofInt_u64,BitVec.toNat_or,BitVec.toNat_ofNat,BitVec.toNat_ofNat,Nat.mod_eq_of_lt ha,Nat.mod_eq_of_lt hb,mY (Nat.or_lt_two_pow ha hb)]
theorem lT{a b:Nat}(ha:a<2^64)(hb:b<2^64):lN .u64 a b=((a&&&b:Nat):Int):=by
 unfold lN
 rw[vg,ofInt_u64,ofInt_u64,BitVec.toNat_and,BitVec.toNat_ofNat,BitVec.toNat_ofNat,Nat.mod_eq_of_lt ha,Nat.mod_eq_of_lt hb,mY (Nat.and_lt_two_pow a hb)]
theorem Uv{a b:Nat}(ha:a<2^64)(hb:b<2^64):Rp .u64 a b=((a^^^b:Nat):Int):=by
 unfold Rp
 rw[vg,ofInt_u64,ofInt_u64,BitVec.toNat_xor,BitVec.toNat_ofNat,BitVec.toNat_ofNat,Nat.mod_eq_of_lt ha,Nat.mod_eq_of_lt hb,mY (Nat.xor_lt_two_pow ha hb)]
theorem Xf{a:Nat}(ha:a<2^64):SW .u64 a=((2^64-1-a:Nat):Int):=by
 have h1:SW .u64 (a:Int)=Rp .u64 ((2^64-1:Nat):Int) a:=rfl
 rw[h1,Uv (by decide) ha]
 congr 1
 apply Nat.eq_of_testBit_eq
 intro i
 rw[Nat.testBit_xor,Nat.testBit_two_pow_sub_one]
 have:=Nat.testBit_two_pow_sub_succ (x:=a) (n:=64) ha i
 rw[show 2^64-1-a=2^64-(a+1) by omega,this]
 by_cases hi:i<64
 ·simp[hi]
 ·simp only[hi,decide_false,Bool.false_xor,Bool.false_and]
  exact Nat.testBit_lt_two_pow (Nat.lt_of_lt_of_le ha (Nat.pow_le_pow_right (by decide) (by omega)))
theorem uM(a s:Nat):pf .u64 a s=((a<<<s%2^64:Nat):Int):=by
 unfold pf
 rw[vg,Int.toNat_natCast]
 have:(a:Int)*2^min s 64=((a*2^min s 64:Nat):Int):=by push_cast;rfl
 rw[this,Eb,Nat.shiftLeft_eq]
 congr 1
 rcases Nat.le_total s 64 with h|h
 ·rw[Nat.min_eq_left h]
 ·rw[Nat.min_eq_right h,Nat.mul_mod_left]
  have:2^s=2^(s-64)*2^64:=by rw[<-Nat.pow_add];congr 1;omega
  rw[this,<-Nat.mul_assoc,Nat.mul_mod_left]
theorem jF{a:Nat}(ha:a<2^64)(s:Nat):kP .u64 a s=((a>>>s:Nat):Int):=by
 unfold kP
 rw[vg,Int.toNat_natCast]
 have:(2:Int)^min s 64=((2^min s 64:Nat):Int):=by push_cast;rfl
 rw[this]
 have e:Int.fdiv (a:Int) ((2^min s 64:Nat):Int)=((a/2^min s 64:Nat):Int):=by
  rw[Int.fdiv_eq_ediv_of_nonneg _ (Int.natCast_nonneg _)]
  rfl
 rw[e,Nat.shiftRight_eq_div_pow]
 congr 1
 rcases Nat.le_total s 64 with h|h
 ·rw[Nat.min_eq_left h]
 ·rw[Nat.min_eq_right h,Nat.div_eq_of_lt ha,Nat.div_eq_of_lt (Nat.lt_of_lt_of_le ha (Nat.pow_le_pow_right (by decide) h))]
theorem Es(a s:Nat):a<<<s%2^64<2^64:=Nat.mod_lt _ (by decide)
theorem rO{a:Nat}(ha:a<2^64)(s:Nat):a>>>s<2^64:=by
 rw[Nat.shiftRight_eq_div_pow]
 exact Nat.lt_of_le_of_lt (Nat.div_le_self _ _) ha
def ki(n:Nat):Nat:=if n=0 then 0 else n.log2+1
theorem asN{n k:Nat}:ki n<=k↔n<2^k:=by
 unfold ki
 split
 ·rename_i h;subst h;simp[Nat.pow_pos]
 ·rename_i h
  rw[<-Nat.log2_lt h]
  omega
theorem C3(n:Nat):n<2^ki n:=asN.1 (Nat.le_refl _)
theorem ad9{n w:Nat}(h:∀k,w<=k↔n<2^k):ki n=w:=by
 have h1:=(asN (n:=n) (k:=w)).2 ((h w).1 (Nat.le_refl _))
 have h2:=(h (ki n)).2 (C3 n)
 omega
theorem Fs(n s:Nat):ki (n>>>s)=ki n-s:=by
 apply ad9
 intro k
 rw[Nat.shiftRight_eq_div_pow,Nat.div_lt_iff_lt_mul (Nat.pow_pos (by decide)),<-Nat.pow_add,<-asN]
 omega
theorem Rf{n:Nat}(h:n<2^64):ki n<=64:=asN.2 h
end Go.Ex
namespace Go.Ex
def qQ(b:Nat):Nat->Nat->Nat
 |0,_=>0
 |n+1,x=>x%b+qQ b n (x/b)
def pop(x:Nat):Nat:=qQ 2 64 x
theorem and_cons{k a d m:Nat}(hd:d<2^k):a&&&(d+2^k*m)=(a%2^k&&&d)+2^k*(a/2^k&&&m):=by
 have h1:=Nat.mod_add_div (a&&&(d+2^k*m)) (2^k)
 rw[Nat.and_mod_two_pow,Nat.and_div_two_pow,Nat.add_mul_mod_self_left,Nat.mod_eq_of_lt hd,Nat.add_mul_div_left _ _ (Nat.pow_pos (by decide)),Nat.div_eq_of_lt hd,Nat.zero_add] at h1
 exact h1.symm
def mask(k d:Nat):Nat->Nat
 |0=>0
 |n+1=>d+2^k*mask k d n
theorem A6(k d n:Nat):mask k d (n+1)=d+2^k*mask k d n:=rfl
theorem Xl:mask 2 1 32=6148914691236517205:=by decide+kernel
theorem Xk:mask 4 3 16=3689348814741910323:=by decide+kernel
theorem aha:mask 8 15 8=1085102592571150095:=by decide+kernel
def f1(n x:Nat):Nat:=(x/2&&&mask 2 1 n)+(x&&&mask 2 1 n)
def f2(n x:Nat):Nat:=(x/4&&&mask 4 3 n)+(x&&&mask 4 3 n)
def f3(n x:Nat):Nat:=(x/16+x)&&&mask 8 15 n
theorem and_one(a:Nat):a%2^2&&&1=a%2:=by rw[Nat.and_one_is_mod];omega
theorem Hz(a:Nat):a%2^4&&&3=a%4:=by rw[show 3=2^2-1 from rfl,Nat.and_two_pow_sub_one_eq_mod];omega
theorem MJ(a:Nat):a%2^8&&&15=a%16:=by rw[show 15=2^4-1 from rfl,Nat.and_two_pow_sub_one_eq_mod];omega
theorem adS(n x:Nat):f1 (n+1) x=(x%2+x/2%2)+4*f1 n (x/4):=by
 unfold f1
 rw[A6,and_cons (by decide),and_cons (by decide),and_one,and_one,show x/2/2^2=x/4/2 by omega]
 have:(2:Nat)^2=4:=rfl
 rw[this]
 omega
theorem Q0(n x:Nat):f2 (n+1) x=(x%4+x/4%4)+16*f2 n (x/16):=by
 unfold f2
 rw[A6,and_cons (by decide),and_cons (by decide),Hz,Hz,show x/4/2^4=x/16/4 by omega]
 have:(2:Nat)^4=16:=rfl
 rw[this]
 omega
theorem Ra:∀n x,qQ 4 n (f1 n x)=qQ 2 (2*n) x
 |0,_=>rfl
 |n+1,x=>by
  have e:2*(n+1)=(2*n+1)+1:=by omega
  rw[e]
  unfold qQ
  rw[adS,show(x%2+x/2%2+4*f1 n (x/4))%4=x%2+x/2%2 by omega,show(x%2+x/2%2+4*f1 n (x/4))/4=f1 n (x/4) by omega,Ra n (x/4)]
  conv=>rhs;rhs;unfold qQ
  rw[show x/2/2=x/4 by omega]
  omega
theorem Q9:∀n x,qQ 16 n (f2 n x)=qQ 4 (2*n) x
 |0,_=>rfl
 |n+1,x=>by
  have e:2*(n+1)=(2*n+1)+1:=by omega
  rw[e]
  unfold qQ
  rw[Q0,show(x%4+x/4%4+16*f2 n (x/16))%16=x%4+x/4%4 by omega,show(x%4+x/4%4+16*f2 n (x/16))/16=f2 n (x/16) by omega,Q9 n (x/16)]
  conv=>rhs;rhs;unfold qQ
  rw[show x/4/4=x/16 by omega]
  omega
def Zl:Nat->Nat->Prop
 |0,x=>x=0
 |n+1,x=>x%16<=6/\Zl n (x/16)
theorem Oe:∀n x,Zl n (f2 n x)
 |0,_=>by simp[Zl,f2,mask]
 |n+1,x=>by
  unfold Zl
  rw[Q0,show(x%4+x/4%4+16*f2 n (x/16))%16=x%4+x/4%4 by omega,show(x%4+x/4%4+16*f2 n (x/16))/16=f2 n (x/16) by omega]
  exact⟨by omega,Oe n _⟩
theorem adl{n x:Nat}(h:Zl n x):x%16<=6:=by
 cases n with
 |zero=>simp only[Zl] at h;omega
 |succ n=>exact h.1
theorem QY{n z:Nat}(h:Zl (2*(n+1)) z):f3 (n+1) z=(z%16+z/16%16)+256*f3 n (z/256)/\Zl (2*n) (z/256)/\z%16+z/16%16<=12:=by
 have e:2*(n+1)=(2*n+1)+1:=by omega
 rw[e] at h
 obtain⟨h0,h1,h2⟩:z%16<=6/\z/16%16<=6/\Zl (2*n) (z/16/16):=h
 have h3:=adl h2
 have h4:z/16/16=z/256:=by omega
 rw[h4] at h2 h3
 refine⟨?_,h2,by omega⟩
 unfold f3
 rw[A6,and_cons (by decide),MJ]
 have:(2:Nat)^8=256:=rfl
 rw[this,show(z/16+z)/256=z/256/16+z/256 by omega]
 omega
theorem Q8:∀n z,Zl (2*n) z->qQ 256 n (f3 n z)=qQ 16 (2*n) z
 |0,_,_=>rfl
 |n+1,z,h=>by
  obtain⟨e1,h2,Kb⟩:=QY h
  have e:2*(n+1)=(2*n+1)+1:=by omega
  rw[e]
  unfold qQ
  rw[e1,show(z%16+z/16%16+256*f3 n (z/256))%256=z%16+z/16%16 by omega,show(z%16+z/16%16+256*f3 n (z/256))/256=f3 n (z/256) by omega,Q8 n _ h2]
  conv=>rhs;rhs;unfold qQ
  rw[show z/16/16=z/256 by omega]
  omega
def O6:Nat->Nat->Prop
 |0,x=>x=0
 |n+1,x=>x%256<=12/\O6 n (x/256)
theorem Xo:∀n z,Zl (2*n) z->O6 n (f3 n z)
 |0,z,h=>by simp[O6,f3,mask]
 |n+1,z,h=>by
  obtain⟨e1,h2,Kb⟩:=QY h
  unfold O6
  rw[e1,show(z%16+z/16%16+256*f3 n (z/256))%256=z%16+z/16%16 by omega,show(z%16+z/16%16+256*f3 n (z/256))/256=f3 n (z/256) by omega]
  exact⟨Kb,Xo n _ h2⟩
theorem kU{n w:Nat}(h:O6 (n+1) w):∃c w',c<=12/\O6 n w'/\w=c+256*w'/\qQ 256 (n+1) w=c+qQ 256 n w':=
 ⟨w%256,w/256,h.1,h.2,by omega,rfl⟩
theorem apF{w:Nat}(h:O6 8 w):w<2^60/\w+w/256<2^61/\(w+w/256)+(w+w/256)/65536<2^62/\
 ((w+w/256)+(w+w/256)/65536)+((w+w/256)+(w+w/256)/65536)/4294967296<2^63/\
 (((w+w/256)+(w+w/256)/65536)+((w+w/256)+(w+w/256)/65536)/4294967296)%128=qQ 256 8 w:=by
 obtain⟨c0,w1,b0,h,e0,d0⟩:=kU h
 obtain⟨c1,w2,b1,h,e1,d1⟩:=kU h
 obtain⟨c2,w3,b2,h,e2,d2⟩:=kU h
 obtain⟨c3,w4,b3,h,e3,d3⟩:=kU h
 obtain⟨c4,w5,b4,h,e4,d4⟩:=kU h
 obtain⟨c5,w6,b5,h,e5,d5⟩:=kU h
 obtain⟨c6,w7,b6,h,e6,d6⟩:=kU h
 obtain⟨c7,w8,b7,h,e7,d7⟩:=kU h
 have h:w8=0:=h
 subst h
 have d8:qQ 256 8 w=c0+c1+c2+c3+c4+c5+c6+c7:=by
  rw[d0,d1,d2,d3,d4,d5,d6,d7]
  simp only[qQ]
  omega
 rw[d8]
 clear d0 d1 d2 d3 d4 d5 d6 d7 d8
 have q1:w/256=w1:=by omega
 rw[q1]
 have q2:(w+w1)/65536=w2+w3:=by omega
 rw[q2]
 have t7:w7<=12:=by omega
 have t6:w6<=3084:=by omega
 have t5:w5<=789516:=by omega
 have t4:w4<=202116108:=by omega
 have q3:(w+w1+(w2+w3))/4294967296=w4+w5+w6+w7:=by
  have k3:w3=c3+256*w4:=e3
  have k2:w2=c2+256*c3+65536*w4:=by omega
  have k1:w1=c1+256*c2+65536*c3+16777216*w4:=by omega
  have k0:w=c0+256*c1+65536*c2+16777216*c3+4294967296*w4:=by omega
  have j1:w1=c1+256*c2+65536*c3+16777216*c4+4294967296*w5:=by omega
  have j2:w2=c2+256*c3+65536*c4+16777216*c5+4294967296*w6:=by omega
  have j3:w3=c3+256*c4+65536*c5+16777216*c6+4294967296*w7:=by omega
  rw[k0,j1,j2,j3]
  clear k0 k1 k2 k3 j1 j2 j3 q1 q2 e0 e1 e2 e3 e4 e5 e6 e7 t4 t5 t6 t7
  generalize hL:c0+256*c1+65536*c2+16777216*c3+(c1+256*c2+65536*c3+16777216*c4)+(c2+256*c3+65536*c4+16777216*c5+(c3+256*c4+65536*c5+16777216*c6))=L
  have hLb:L<4294967296:=by omega
  have:c0+256*c1+65536*c2+16777216*c3+4294967296*w4+(c1+256*c2+65536*c3+16777216*c4+4294967296*w5)+(c2+256*c3+65536*c4+16777216*c5+4294967296*w6+(c3+256*c4+65536*c5+16777216*c6+4294967296*w7))=L+4294967296*(w4+w5+w6+w7):=by omega
  rw[this,Nat.add_mul_div_left _ _ (by decide),Nat.div_eq_of_lt hLb,Nat.zero_add]
 rw[q3]
 clear q1 q2 q3
 refine⟨by omega,by omega,by omega,by omega,?_⟩
 generalize hS:w+w1+(w2+w3)+(w4+w5+w6+w7)=S
 have:S=(c0+c1+c2+c3+c4+c5+c6+c7)+256*(w1+w2+w3+w4+w5+w6+w7):=by omega
 clear hS e0 e1 e2 e3 e4 e5 e6 e7 t4 t5 t6 t7
 generalize w1+w2+w3+w4+w5+w6+w7=T at this
 omega
theorem apE{x:Nat}:qQ 256 8 (f3 8 (f2 16 (f1 32 x)))=pop x:=by
 rw[Q8 8 _ (Oe 16 _),Q9 16,Ra 32]
 rfl
def ni:List Bool->Nat
 |[]=>0
 |b::l=>b.toNat+2*ni l
theorem py:∀l:List Bool,ni l<2^l.length
 |[]=>by simp[ni]
 |b::l=>by
  have:=py l
  have:=Bool.toNat_lt b
  simp only[ni,List.length_cons,Nat.pow_succ]
  omega
theorem Bp:∀(n:Nat)(l:List Bool),l.length<=n->qQ 2 n (ni l)=l.count true
 |0,[],_=>rfl
 |0,_::_,h=>by simp at h
 |n+1,[],_=>by
  have:=Bp n [] (by simp)
  simp only[qQ,ni] at this⊢
  simpa using this
 |n+1,b::l,h=>by
  have:=Bp n l (by simp at h;omega)
  have hb:=Bool.toNat_lt b
  simp only[qQ,ni]
  rw[show(b.toNat+2*ni l)%2=b.toNat by omega,show(b.toNat+2*ni l)/2=ni l by omega,this,List.count_cons]
  cases b<;>simp
  omega
theorem Ls{l:List Bool}(h:l.length<=64):pop (ni l)=l.count true:=Bp 64 l h
theorem oQ:∀(l r:List Bool),ni (l++r)=ni l+2^l.length*ni r
 |[],r=>by simp[ni]
 |b::l,r=>by
  simp only[List.cons_append,ni,List.length_cons,Nat.pow_succ,oQ l r]
  rw[Nat.mul_add,Nat.mul_comm (2^l.length) 2,Nat.mul_assoc]
  omega
theorem Sw(l:List Bool)(r:Nat):ni l%2^r=ni (l.take r):=by
 rcases Nat.le_total l.length r with h|h
 ·rw[List.take_of_length_le h,Nat.mod_eq_of_lt (Nat.lt_of_lt_of_le (py l) (Nat.pow_le_pow_right (by decide) h))]
 ·conv=>lhs;rw[<-List.take_append_drop r l]
  have hlen:(l.take r).length=r:=by simp;omega
  rw[oQ,hlen,Nat.add_mul_mod_self_left,Nat.mod_eq_of_lt]
  have:=py (l.take r)
  rwa[hlen] at this
theorem px:∀(l:List Bool)(i:Nat),(ni l).testBit i=l.getD i false
 |[],i=>by simp[ni]
 |b::l,0=>by
  have:=Bool.toNat_lt b
  simp only[ni,Nat.testBit_zero,List.getD_cons_zero]
  rw[show(b.toNat+2*ni l)%2=b.toNat by omega]
  cases b<;>simp
 |b::l,i+1=>by
  have:=Bool.toNat_lt b
  rw[Nat.testBit_succ,ni,show(b.toNat+2*ni l)/2=ni l by omega,px l i]
  simp
theorem Sx(l:List Bool):ni (l++[true])=ni l|||2^l.length/\ni (l++[false])=ni l:=by
 constructor
 ·have:=Nat.two_pow_add_eq_or_of_lt (py l) 1
  rw[Nat.mul_one] at this
  rw[oQ,Nat.or_comm,<-this]
  simp[ni]
  omega
 ·rw[oQ]
  simp[ni]
theorem Wd{l:List Bool}(h:l.length=64):2^64-1-ni l=ni (l.map not):=by
 have:∀l:List Bool,ni l+ni (l.map not)+1=2^l.length:=by
  intro l
  induction l with
  |nil=>rfl
  |cons b l ih=>
   simp only[List.map_cons,ni,List.length_cons,Nat.pow_succ]
   cases b<;>simp<;>omega
 have:=this l
 rw[h] at this
 omega
def Uq:List Bool->List Bool
 |[]=>[]
 |true::l=>false::l
 |false::l=>false::Uq l
theorem Rc:∀l:List Bool,(Uq l).length=l.length
 |[]=>rfl
 |true::l=>rfl
 |false::l=>by simp[Uq,Rc l]
theorem K3:∀{l:List Bool},true∈l->ni l&&&(ni l-1)=ni (Uq l)
 |[],h=>by simp at h
 |true::l,_=>by
  show(1+2*ni l)&&&(1+2*ni l-1)=0+2*ni l
  apply Nat.eq_of_testBit_eq
  intro i
  rw[Nat.testBit_and]
  cases i with
  |zero=>simp[Nat.testBit_zero]
  |succ i=>
   rw[Nat.testBit_succ,Nat.testBit_succ,Nat.testBit_succ,show(1+2*ni l)/2=ni l by omega,show(1+2*ni l-1)/2=ni l by omega,show(0+2*ni l)/2=ni l by omega,Bool.and_self]
 |false::l,h=>by
  have hm:true∈l:=by simpa using h
  have zr:0<ni l:=by
   rcases Nat.eq_zero_or_pos (ni l) with h0|h0
   ·obtain⟨i,hi,he⟩:=List.getElem_of_mem hm
    have:=px l i
    rw[h0,List.getD_eq_getElem?_getD,List.getElem?_eq_getElem hi,he] at this
    simp at this
   ·exact h0
  show(0+2*ni l)&&&(0+2*ni l-1)=0+2*ni (Uq l)
  rw[<-K3 hm]
  apply Nat.eq_of_testBit_eq
  intro i
  rw[Nat.testBit_and]
  cases i with
  |zero=>
   rw[Nat.testBit_zero,Nat.testBit_zero,Nat.testBit_zero,show(0+2*ni l)%2=0 by omega,show(0+2*(ni l&&&(ni l-1)))%2=0 by omega]
   simp
  |succ i=>
   rw[Nat.testBit_succ,Nat.testBit_succ,Nat.testBit_succ,show(0+2*ni l)/2=ni l by omega,show(0+2*ni l-1)/2=ni l-1 by omega,show(0+2*(ni l&&&(ni l-1)))/2=ni l&&&(ni l-1) by omega,Nat.testBit_and]
def nth:List Bool->Nat->Nat
 |[],_=>0
 |true::l,0=>0
 |true::l,t+1=>1+nth l t
 |false::l,t=>1+nth l t
theorem Qt:∀(l:List Bool)(t:Nat),t+1<l.count true->nth (Uq l) t=nth l (t+1)
 |[],_,h=>by simp at h
 |true::l,t,_=>by simp[Uq,nth]
 |false::l,t,h=>by
  simp only[Uq,nth]
  rw[Qt l t (by simpa using h)]
theorem Ht:∀(l:List Bool),(Uq l).count true=l.count true-1
 |[]=>rfl
 |true::l=>by simp[Uq]
 |false::l=>by simp[Uq,Ht l]
theorem EC:∀(l:List Bool)(t:Nat),t<l.count true->∃h:nth l t<l.length,l[nth l t]=true/\(l.take (nth l t)).count true=t
 |[],_,h=>by simp at h
 |true::l,0,_=>⟨by simp[nth],by simp[nth],by simp[nth]⟩
 |true::l,t+1,h=>by
  obtain⟨h1,h2,h3⟩:=EC l t (by simpa using h)
  refine⟨by simp[nth];omega,?_,?_⟩
  ·simp only[nth,Nat.add_comm 1,List.getElem_cons_succ];exact h2
  ·simp only[nth,Nat.add_comm 1,List.take_succ_cons,List.count_cons_self,h3]
 |false::l,t,h=>by
  obtain⟨h1,h2,h3⟩:=EC l t (by simpa using h)
  refine⟨by simp[nth];omega,?_,?_⟩
  ·simp only[nth,Nat.add_comm 1,List.getElem_cons_succ];exact h2
  ·simp only[nth,Nat.add_comm 1,List.take_succ_cons]
   rw[List.count_cons_of_ne (by decide),h3]
theorem Mw:∀(f:Nat)(l:List Bool),true∈l->l.length<=f->Go.Lib.ctzFrom f (ni l)=nth l 0
 |0,l,h,hf=>by
  have:l=[]:=List.eq_nil_of_length_eq_zero (by omega)
  subst this
  simp at h
 |f+1,[],h,_=>by simp at h
 |f+1,true::l,_,_=>by
  have hv:ni (true::l)=1+2*ni l:=rfl
  unfold Go.Lib.ctzFrom
  rw[hv,if_pos (by omega)]
  rfl
 |f+1,false::l,h,hf=>by
  have hv:ni (false::l)=0+2*ni l:=rfl
  unfold Go.Lib.ctzFrom
  rw[hv,if_neg (by omega),show(0+2*ni l)/2=ni l by omega,show nth (false::l) 0=1+nth l 0 from rfl,Mw f l (by simpa using h) (by simp at hf;omega)]
end Go.Ex
namespace Go.Ex
theorem MI{H:Heap}{xs:List Value}{p:Option Addr}{l c:Nat}(h:Rd H xs p l):appended H 1 (.slice p l c) l xs:=by
 cases p with
 |none=>
  have hl:l=0:=by
   rcases Nat.eq_zero_or_pos l with h0|h0
   ·exact h0
   ·obtain⟨a,ha,_⟩:=h.2 0 h0
    cases ha
  exact⟨rfl,hl,List.eq_nil_of_length_eq_zero (by rw[h.1,hl])⟩
 |some a=>
  refine⟨rfl,by rw[h.1,Nat.mul_one],λj v hj=>?_⟩
  obtain⟨a',ha,hc⟩:=h.get hj
  cases ha
  exact hc
def wq(ws:List Nat)(p:Nat):Bool:=(ws.getD (p/64) 0).testBit (p%64)
def nJ(ws:List Nat):Prop:=∀x∈ws,x<2^64
theorem nJ.getD{ws:List Nat}(h:nJ ws)(i:Nat):ws.getD i 0<2^64:=by
 rw[List.getD_eq_getElem?_getD]
 cases e:ws[i]? with
 |none=>simp
 |some x=>exact h x (List.mem_of_getElem? e)
theorem nJ.set{ws:List Nat}(h:nJ ws)(i:Nat){v:Nat}(hv:v<2^64):nJ (ws.set i v):=by
 intro x hx
 rcases List.mem_or_eq_of_mem_set hx with h'|rfl
 ·exact h x h'
 ·exact hv
theorem nJ.Gp(n:Nat):nJ (List.replicate n 0):=by
 intro x hx
 rw[List.mem_replicate] at hx
 rw[hx.2]
 decide
theorem vR{ws:List Nat}{i:Nat}(hi:i<ws.length)(v j:Nat):(ws.set i v).getD j 0=if j=i then v else ws.getD j 0:=by
 rw[List.getD_eq_getElem?_getD,List.getElem?_set,List.getD_eq_getElem?_getD]
 by_cases h:i=j
 ·subst h;simp[hi]
 ·rw[if_neg h,if_neg (λe=>h e.symm)]
theorem vb{ws:List Nat}{i:Nat}(h:i<ws.length):ws.getD i 0=ws[i]:=by rw[List.getD_eq_getElem?_getD,List.getElem?_eq_getElem h];rfl
def ac7(ws:List Nat)(b wd x:Nat):List Nat:=
 if 64<b%64+wd then(ws.set (b/64) (ws.getD (b/64) 0|||x<<<(b%64)%2^64)).set (b/64+1) (ws.getD (b/64+1) 0|||x>>>(64-b%64))
 else ws.set (b/64) (ws.getD (b/64) 0|||x<<<(b%64)%2^64)
theorem W7{ws:List Nat}{b wd x:Nat}(DU:wd<=64)(h0:0<wd)(hx:x<2^wd)(hl:b+wd<=64*ws.length)(p:Nat):wq (ac7 ws b wd x) p=(wq ws p||(decide (b<=p)&&x.testBit (p-b))):=by
 have OR:∀q,wd<=q->x.testBit q=false:=λq hq=>Nat.testBit_lt_two_pow (Nat.lt_of_lt_of_le hx (Nat.pow_le_pow_right (by decide) hq))
 have hb:=Nat.div_add_mod b 64
 have hp:=Nat.div_add_mod p 64
 have aqh:p%64<64:=Nat.mod_lt _ (by decide)
 have am7:b%64<64:=Nat.mod_lt _ (by decide)
 have first:wq (ws.set (b/64) (ws.getD (b/64) 0|||x<<<(b%64)%2^64)) p=if p/64=b/64 then(wq ws p||(decide (b<=p)&&x.testBit (p-b))) else wq ws p:=by
  unfold wq
  rw[vR (by omega)]
  split
  ·rename_i e
   rw[Nat.testBit_or,Nat.testBit_mod_two_pow,Nat.testBit_shiftLeft,e]
   by_cases iG:b<=p
   ·rw[show decide (p%64>=b%64)=true by simp;omega,show decide (b<=p)=true by simp;omega,show p%64-b%64=p-b by omega]
    simp[aqh]
   ·rw[show decide (p%64>=b%64)=false by simp;omega,show decide (b<=p)=false by simp;omega]
    simp
  ·rfl
 unfold ac7
 split
 ·rename_i hc
  by_cases e1:p/64=b/64+1
  ·unfold wq
   rw[vR (by simp;omega),if_pos e1,Nat.testBit_or,Nat.testBit_shiftRight,e1,show decide (b<=p)=true by simp;omega,show 64-b%64+p%64=p-b by omega]
   simp
  ·have:wq ((ws.set (b/64) (ws.getD (b/64) 0|||x<<<(b%64)%2^64)).set (b/64+1) (ws.getD (b/64+1) 0|||x>>>(64-b%64))) p=wq (ws.set (b/64) (ws.getD (b/64) 0|||x<<<(b%64)%2^64)) p:=by
    unfold wq
    rw[vR (by simp;omega),if_neg e1]
   rw[this,first]
   split
   ·rfl
   ·rename_i hZ
    by_cases iG:b<=p
    ·rw[OR (p-b) (by omega)];simp
    ·rw[show decide (b<=p)=false by simp;omega];simp
 ·rename_i hc
  rw[first]
  split
  ·rfl
  ·rename_i hZ
   by_cases iG:b<=p
   ·rw[OR (p-b) (by omega)];simp
   ·rw[show decide (b<=p)=false by simp;omega];simp
def IN(ws:List Nat)(b wd:Nat):Nat:=
 if wd<64 then(if 64<b%64+wd then ws.getD (b/64) 0>>>(b%64)|||ws.getD (b/64+1) 0<<<(64-b%64)%2^64 else ws.getD (b/64) 0>>>(b%64))&&&(2^wd-1)
 else(if 64<b%64+wd then ws.getD (b/64) 0>>>(b%64)|||ws.getD (b/64+1) 0<<<(64-b%64)%2^64 else ws.getD (b/64) 0>>>(b%64))
theorem NV{ws:List Nat}(h:nJ ws){b wd:Nat}(DU:wd<=64)(i:Nat):(IN ws b wd).testBit i=(decide (i<wd)&&wq ws (b+i)):=by
 have hb:=Nat.div_add_mod b 64
 have am7:b%64<64:=Nat.mod_lt _ (by decide)
 have OR:∀{v q:Nat},v<2^64->64<=q->v.testBit q=false:=λhv hq=>Nat.testBit_lt_two_pow (Nat.lt_of_lt_of_le hv (Nat.pow_le_pow_right (by decide) hq))
 have body:i<wd->(if 64<b%64+wd then ws.getD (b/64) 0>>>(b%64)|||ws.getD (b/64+1) 0<<<(64-b%64)%2^64 else ws.getD (b/64) 0>>>(b%64)).testBit i=wq ws (b+i):=by
  intro hi
  unfold wq
  by_cases hs:b%64+i<64
  ·rw[show(b+i)/64=b/64 by omega,show(b+i)%64=b%64+i by omega]
   split
   ·rw[Nat.testBit_or,Nat.testBit_shiftRight,Nat.testBit_mod_two_pow,Nat.testBit_shiftLeft,show decide (i>=64-b%64)=false by simp;omega]
    simp
   ·rw[Nat.testBit_shiftRight]
  ·rw[if_pos (by omega),show(b+i)/64=b/64+1 by omega,show(b+i)%64=i-(64-b%64) by omega]
   rw[Nat.testBit_or,Nat.testBit_shiftRight,OR (h.getD _) (by omega),Nat.testBit_mod_two_pow,Nat.testBit_shiftLeft,show decide (i>=64-b%64)=true by simp;omega,show decide (i<64)=true by simp;omega]
   simp
 have whole:(if 64<b%64+wd then ws.getD (b/64) 0>>>(b%64)|||ws.getD (b/64+1) 0<<<(64-b%64)%2^64 else ws.getD (b/64) 0>>>(b%64))<2^64:=by
  split
  ·exact Nat.or_lt_two_pow (rO (h.getD _) _) (Es _ _)
  ·exact rO (h.getD _) _
 unfold IN
 split
 ·rename_i lC
  rw[Nat.testBit_and,Nat.testBit_two_pow_sub_one]
  by_cases hi:i<wd
  ·rw[body hi];simp[hi]
  ·simp[hi]
 ·by_cases hi:i<wd
  ·rw[body hi];simp[hi]
  ·rw[OR whole (by omega)];simp[hi]
def rZ(l:List Nat)(wd i:Nat)(ws:List Nat):Prop:=∀p,wq ws p=(decide (p<i*wd)&&(l.getD (p/wd) 0).testBit (p%wd))
theorem OP(n p:Nat):wq (List.replicate n 0) p=false:=by
 unfold wq
 have:(List.replicate n 0).getD (p/64) 0=0:=by
  rw[List.getD_eq_getElem?_getD,List.getElem?_replicate]
  split<;>rfl
 rw[this]
 simp
theorem Lu(l:List Nat)(wd n:Nat):rZ l wd 0 (List.replicate n 0):=by
 intro p
 rw[OP]
 simp
theorem Lv{l:List Nat}{wd i:Nat}{ws:List Nat}(h:rZ l wd i ws)(DU:wd<=64)(h0:0<wd)(hi:i<l.length)(hx:l[i]<2^wd)(hl:(i+1)*wd<=64*ws.length):rZ l wd (i+1) (ac7 ws (i*wd) wd l[i]):=by
 intro p
 have hm:(i+1)*wd=i*wd+wd:=Nat.succ_mul i wd
 rw[W7 DU h0 hx (by omega),h p]
 by_cases h1:p<i*wd
 ·rw[show decide (p<i*wd)=true by simp;omega,show decide (i*wd<=p)=false by simp;omega,show decide (p<(i+1)*wd)=true by simp;omega]
  simp
 ·rw[show decide (p<i*wd)=false by simp;omega,show decide (i*wd<=p)=true by simp;omega]
  by_cases h2:p<(i+1)*wd
  ·have hd:p/wd=i:=Nat.div_eq_of_lt_le (by omega) h2
   have hr:p%wd=p-i*wd:=by
    have:=Nat.div_add_mod p wd
    rw[hd,Nat.mul_comm] at this
    omega
   rw[show decide (p<(i+1)*wd)=true by simp;omega,hd,hr,List.getD_eq_getElem?_getD,List.getElem?_eq_getElem hi]
   simp
  ·rw[show decide (p<(i+1)*wd)=false by simp;omega,Nat.testBit_lt_two_pow (Nat.lt_of_lt_of_le hx (Nat.pow_le_pow_right (by decide) (by omega)))]
   simp
theorem Lw{l:List Nat}{i j:Nat}{ws:List Nat}(h:rZ l 0 i ws):rZ l 0 j ws:=by
 intro p
 rw[h p]
 simp
theorem N3{l:List Nat}{wd:Nat}{ws:List Nat}(h:rZ l wd l.length ws)(ha:nJ ws)(DU:wd<=64){k:Nat}(hk:k<l.length)(hx:l[k]<2^wd):IN ws (k*wd) wd=l[k]:=by
 apply Nat.eq_of_testBit_eq
 intro i
 rw[NV ha DU,h]
 by_cases hi:i<wd
 ·have hd:(k*wd+i)/wd=k:=by
   rw[Nat.add_comm,Nat.add_mul_div_right _ _ (by omega),Nat.div_eq_of_lt hi]
   omega
  have hr:(k*wd+i)%wd=i:=by
   rw[Nat.add_comm,Nat.add_mul_mod_self_right,Nat.mod_eq_of_lt hi]
  have lC:k*wd+i<l.length*wd:=by
   have:(k+1)*wd<=l.length*wd:=Nat.mul_le_mul_right _ (by omega)
   have:(k+1)*wd=k*wd+wd:=Nat.succ_mul k wd
   omega
  rw[hd,hr,List.getD_eq_getElem?_getD,List.getElem?_eq_getElem hk]
  simp[hi,lC]
 ·rw[Nat.testBit_lt_two_pow (x:=l[k]) (Nat.lt_of_lt_of_le hx (Nat.pow_le_pow_right (by decide) (by omega)))]
  simp[hi]
def Cn(l:List Nat):Nat:=l.foldl max 0
theorem A5(l:List Nat)(x:Nat):Cn (l++[x])=max (Cn l) x:=by unfold Cn;rw[List.foldl_append];rfl
theorem G9{l:List Nat}{i:Nat}(h:i<l.length):Cn (l.take (i+1))=max (Cn (l.take i)) l[i]:=by
 rw[List.take_succ_eq_append_getElem h,A5]
theorem Qy{l:List Nat}{b:Nat}(h:∀x∈l,x<=b):Cn l<=b:=by
 rcases List.eq_nil_or_concat l with rfl|⟨l',c,rfl⟩
 ·exact Nat.zero_le _
 ·rw[List.concat_eq_append] at h⊢
  rw[A5]
  have:=Qy (l:=l') λx hx=>h x (by simp[hx])
  have:=h c (by simp)
  omega
 termination_by l.length
theorem QA{l:List Nat}{x:Nat}(h:x∈l):x<=Cn l:=by
 rcases List.eq_nil_or_concat l with rfl|⟨l',c,rfl⟩
 ·cases h
 ·rw[List.concat_eq_append] at h⊢
  rw[A5]
  rcases List.mem_append.1 h with h|h
  ·have:=QA h
   omega
  ·rw[List.mem_singleton] at h
   omega
 termination_by l.length
def wide(l:List Nat):Nat:=ki (Cn l)
theorem Qz{l:List Nat}{x:Nat}(h:x∈l):x<2^wide l:=Nat.lt_of_le_of_lt (QA h) (C3 _)
theorem Iu{l:List Nat}(h:nJ l):wide l<=64:=asN.2 (by have:=Qy (l:=l) (b:=2^64-1) λx hx=>by have:=h x hx;omega
                                                     omega)
end Go.Ex
