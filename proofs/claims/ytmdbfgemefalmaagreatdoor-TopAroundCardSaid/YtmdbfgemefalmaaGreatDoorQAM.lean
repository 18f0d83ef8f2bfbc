/- Part AM of the proof that the law TopAround answers true at every input, under no condition. -/
import Derived.Test.YtmdbfgemefalmaaGreatDoorQAL
import Derived.Lib.TrailingZeros
set_option linter.unusedVariables false
set_option maxHeartbeats 2000000
set_option maxRecDepth 100000
namespace Go.Ex
section
variable {H H':dw} {b k o n:Nat} {cs:Array dB} {t:eK} {fr:Nat×Nat} {v:dB}
theorem ly(b o n:Nat):(⟨b,o,none⟩:dA).add n=⟨b,o+n,none⟩:=by
 unfold Addr.add
 split
 .rename_i h;subst h;rfl
 .rfl
theorem xn(h:H[b]?=some (.cells cs t fr))(o:Nat):dL H ⟨b,o,none⟩=cs[o]?:=by
 unfold dL
 simp only[h]
 rfl
theorem dO(h:H[b]?=some (.cells cs t fr))(o n:Nat):dL H ((⟨b,o,none⟩:dA).add n)=cs[o+n]?:=by
 rw[ly,xn h]
theorem sJ(h:H[b]?=some (.cells cs t (0,0)))(o:Nat):fH H ⟨b,o,none⟩=false:=by
 unfold fH
 simp only[h]
 simp
theorem fK(h:H[b]?=some (.cells cs t (0,0)))(o n:Nat):fH H ((⟨b,o,none⟩:dA).add n)=false:=by
 rw[ly,sJ h]
theorem oM(h:H[b]?=some (.cells cs t fr))(o:Nat)(v:dB):(gO H ⟨b,o,none⟩ v)[b]?=some (.cells (cs.setIfInBounds o v) t fr):=by
 unfold gO
 rw[Array.getElem?_modify]
 simp[h]
theorem lu(h:H[b]?=some (.cells cs t fr))(o n:Nat)(v:dB):(gO H ((⟨b,o,none⟩:dA).add n) v)[b]?=some (.cells (cs.setIfInBounds (o+n) v) t fr):=by
 rw[ly,oM h]
theorem sH{a:dA}(h:k≠a.block)(v:dB):(gO H a v)[k]?=H[k]?:=by
 unfold gO
 rw[Array.getElem?_modify,if_neg (λe=>h e.symm)]
theorem Kz(a:dA)(v:dB):Array.size (gO H a v)=Array.size H:=by
 unfold gO
 exact Array.size_modify ..
theorem eU:(eP H cs t)[Array.size H]?=some (.cells cs t (0,0)):=by unfold eP;simp
theorem Hc(h:k<Array.size H):(eP H cs t)[k]?=H[k]?:=by
 unfold eP
 rw[Array.getElem?_push,if_neg (by omega)]
theorem gi:Array.size (eP H cs t)=Array.size H+1:=by unfold eP;simp
theorem eR{x:Obj}(h:H[b]?=some x):b<Array.size H:=(Array.getElem?_eq_some_iff.1 h).1
end
structure Fr(F:Nat->Prop)(H H':dw):Prop where
 size:Array.size H<=Array.size H'
 eO:∀k,k<Array.size H->¬F k->H'[k]?=H[k]?
abbrev fa:Nat->Prop:=λ_=>False
theorem Fr.refl(F:Nat->Prop)(H:dw):Fr F H H:=⟨Nat.le_refl _,λ_ _ _=>rfl⟩
theorem Fr.trans{F G:Nat->Prop}{H H' u:dw}(h:Fr F H H')(k:Fr G H' u)(N:∀i,G i->F i\/Array.size H<=i):Fr F H u:=
 ⟨Nat.le_trans h.size k.size,λi hi w=>by
  rw[k.eO i (Nat.lt_of_lt_of_le hi h.size) (λI=>?_),h.eO i hi w]
  rcases N i I with h|h
  .exact w h
  .omega⟩
theorem Fr.mono{F G:Nat->Prop}{H H':dw}(h:Fr F H H')(u:∀i,F i->G i):Fr G H H':=⟨h.size,λi hi w=>h.eO i hi (λI=>w (u i I))⟩
theorem Fr.new(H:dw)(cs:Array dB)(t:eK):Fr fa H (eP H cs t):=⟨by rw[gi];omega,λ_ h _=>Hc h⟩
theorem Fr.set(H:dw)(a:dA)(v:dB):Fr (λk=>k=a.block) H (gO H a v):=⟨by rw[Kz];exact Nat.le_refl _,λ_ _ h=>sH h v⟩
theorem Fr.fi{F:Nat->Prop}{H H':dw}(h:Fr F H H'){k:Nat}{x:Obj}(u:H[k]?=some x)(w:¬F k):H'[k]?=some x:=by rw[h.eO k (eR u) w,u]
def Rd(H:dw)(xs:List dB)(p:dC)(l:Nat):Prop:=xs.length=l/\∀i,i<l->∃a,p=some a/\dL H (a.add i)=xs[i]?
def eB(p:dC)(k:Nat):Prop:=∃a,p=some a/\a.block=k
def Sl(H:dw)(t:eK)(xs:List dB)(p:dC)(l c:Nat):Prop:=
 xs.length=l/\((p=none/\l=0/\c=0)\/∃b cs,p=some ⟨b,0,none⟩/\H[b]?=some (.cells cs t (0,0))/\cs.size=c/\l<=c/\∀i,i<l->cs[i]?=xs[i]?)
section
variable {H H':dw} {t:eK} {xs:List dB} {p:dC} {l c:Nat}
theorem Sl.nil(H:dw)(t:eK):Sl H t [] none 0 0:=⟨rfl,.inl ⟨rfl,rfl,rfl⟩⟩
theorem Sl.rd(h:Sl H t xs p l c):Rd H xs p l:=by
 refine⟨h.1,λi hi=>?_⟩
 rcases h.2 with⟨_,N,_⟩|⟨b,cs,u,w,_,_,I⟩
 .omega
 .exact⟨_,u,by rw[dO w,Nat.zero_add];exact I i hi⟩
theorem Sl.cap(h:Sl H t xs p l c):l<=c:=by
 rcases h.2 with⟨_,I,u⟩|⟨b,cs,N,O,_,w,u⟩<;>omega
theorem Rd.get(h:Rd H xs p l){i:Nat}{v:dB}(hi:xs[i]?=some v):∃a,p=some a/\dL H (a.add i)=some v:=by
 have u:i<l:=by
  have:=(List.getElem?_eq_some_iff.1 hi).1
  rw[h.1] at this
  exact this
 obtain⟨a,w,I⟩:=h.2 i u
 exact⟨a,w,by rw[I,hi]⟩
theorem Sl.gE(h:Sl H t xs p l c){k:Nat}(w:eB p k):k<Array.size H:=by
 obtain⟨a,rfl,rfl⟩:=w
 rcases h.2 with⟨u,_⟩|⟨b,cs,u,I,_⟩
 .cases u
 .cases u;exact eR I
theorem Sl.eO{F:Nat->Prop}(h:Sl H t xs p l c)(u:Fr F H H')(w:∀k,eB p k->¬F k):Sl H' t xs p l c:=by
 refine⟨h.1,?_⟩
 rcases h.2 with h|⟨b,cs,rfl,I,N⟩
 .exact .inl h
 .exact .inr ⟨b,cs,rfl,u.fi I (w b ⟨_,rfl,rfl⟩),N⟩
theorem Sl.ty(h:Sl H t xs p l c){k:Nat}(w:eB p k):∃cs,H[k]?=some (.cells cs t (0,0)):=by
 obtain⟨a,rfl,rfl⟩:=w
 rcases h.2 with⟨u,_⟩|⟨b,cs,u,I,_⟩
 .cases u
 .cases u;exact⟨cs,I⟩
theorem Sl.ne(h:Sl H t xs p l c){k:Nat}{cs:Array dB}{u:eK}{fr:Nat×Nat}(I:H[k]?=some (.cells cs u fr))(w:t≠u):¬eB p k:=by
 intro N
 obtain⟨O,h'⟩:=h.ty N
 rw[I] at h'
 injection h' with h'
 injection h' with _ h'
 exact w h'.symm
theorem Sl.ne'{u:eK}{ys:List dB}{q:dC}{m d:Nat}(h:Sl H t xs p l c)(h':Sl H u ys q m d)(w:t≠u):∀k,eB p k->¬eB q k:=by
 intro k I N
 obtain⟨cs,O⟩:=h'.ty N
 exact h.ne O w I
theorem Sl.store(h:Sl H t xs p l c){i:Nat}(hi:i<l)(v:dB):∃a,p=some a/\(∃u,dL H (a.add i)=some u)/\fH H (a.add i)=false/\
 Sl (gO H (a.add i) v) t (xs.set i v) p l c/\Fr (eB p) H (gO H (a.add i) v):=by
 rcases h.2 with⟨_,hl,_⟩|⟨b,cs,rfl,I,N,O,W⟩
 .omega
 .refine⟨_,rfl,?_,fK I 0 i,⟨by simp[h.1],.inr ⟨b,cs.setIfInBounds i v,rfl,?_,by simp[N],O,?_⟩⟩,?_⟩
  .rw[dO I,Nat.zero_add,W i hi]
   exact⟨xs[i]'(by rw[h.1];exact hi),List.getElem?_eq_getElem _⟩
  .rw[lu I,Nat.zero_add]
  .intro j Z
   rw[Array.getElem?_setIfInBounds,List.getElem?_set,N,h.1]
   by_cases w:i=j
   .subst w;simp[hi,show i<c by omega]
   .simp[w,W j Z]
  .refine(Fr.set H _ v).mono λk Y=>?_
   rw[ly] at Y
   exact⟨_,rfl,Y.symm⟩
theorem tH{z:dB}(h:gH z=[z])(n:Nat):j5 z n=Array.replicate n z:=by
 unfold j5
 rw[h]
 apply Array.ext'
 simp only[List.length_cons,List.length_nil,Nat.zero_add,Nat.mul_one,Nat.mod_one,Array.toList_map,Array.toList_range,Array.toList_replicate]
 apply List.ext_getElem
 .simp
 .intro i u w;simp
theorem Sl.made(H:dw)(t:eK){z:dB}(h:gH z=[z])(n:Nat):Sl (eP H (j5 z n) t) t (List.replicate n z) (some ⟨Array.size H,0,none⟩) n n:=by
 refine⟨by simp,.inr ⟨_,Array.replicate n z,rfl,?_,by simp,Nat.le_refl _,?_⟩⟩
 .rw[<-tH h];exact eU
 .intro i hi;simp[hi]
theorem Sl.lit(H:dw)(t:eK)(xs:List dB):Sl (eP H xs.toArray t) t xs (some ⟨Array.size H,0,none⟩) xs.length xs.length:=
 ⟨rfl,.inr ⟨_,xs.toArray,rfl,eU,by simp,Nat.le_refl _,λi _=>by simp⟩⟩
theorem PN{v:dB}{K:Prop}(u:∀c,v≠.agg c)(w:∀c,v≠.tuple c)(h:K):Dr v K:=by
 unfold Dr
 cases v<;>first|exact h|exact absurd rfl (u _)|exact absurd rfl (w _)
def One(v:dB):Prop:=(∀c,v≠.agg c)/\∀c,v≠.tuple c
theorem C9{b:Nat}{t:eK}:∀{vs:List dB}{H:dw}{cs:Array dB}{o i:Nat}{K:dw->Prop},H[b]?=some (.cells cs t (0,0))->(∀v∈vs,One v)->o+i+vs.length<=cs.size->
 (∀H' h,H'[b]?=some (.cells h t (0,0))->h.size=cs.size->(∀j,j<o+i->h[j]?=cs[j]?)->(∀j,j<vs.length->h[o+i+j]?=vs[j]?)->Fr (λk=>k=b) H H'->K H')->EI H ⟨b,o,none⟩ vs i K
 |[],H,cs,o,i,K,hb,_,_,hK=>hK H cs hb rfl (λ_ _=>rfl) (λj N=>absurd N (by simp)) (Fr.refl _ _)
 |v::vs,H,cs,o,i,K,hb,h1,hlen,hK=>by
  have w:=h1 v (by simp)
  have W:o+i<cs.size:=by simp at hlen;omega
  unfold EI R8
  refine PN w.1 w.2 ⟨⟨cs[o+i],by rw[dO hb];exact Array.getElem?_eq_getElem W⟩,fK hb o i,?_⟩
  refine C9 (lu hb o i v) (λu hu=>h1 u (by simp[hu])) (by simp at hlen⊢;omega) ?_
  intro H' h Y Z I eP aa
  refine hK H' h Y (by rw[Z];simp) ?_ ?_ ?_
  .intro j N
   rw[I j (by omega),Array.getElem?_setIfInBounds,if_neg (by omega)]
  .intro j N
   cases j with
   |zero=>
    rw[Nat.add_zero,I (o+i) (by omega),Array.getElem?_setIfInBounds]
    simp[W]
   |succ j=>
    have:=eP j (by simp at N;omega)
    rw[show o+i+(j+1)=o+(i+1)+j by omega,this]
    simp
  .refine Fr.trans ((Fr.set H _ v).mono λk O=>?_) aa (λk O=>.inl O)
   rw[ly] at O
   exact O
theorem xK{W bytes:Nat}{z y:dB}{n:Nat}{new:List dB}{K:dC->Nat->Nat->dw->Prop}(u:Sl H W xs p l c)(hz:gH z=[z])
 (ai:oo H 1 y n new)(w:new.length=n)(Y:∀v∈new,One v)(hb:(l+n)*bytes<=140737488355328)(aj:bytes≠0)
 (Z:∀p' c' H',Sl H' W (xs++new) p' (l+n) c'->Fr (eB p) H H'->(∀k,eB p' k->eB p k\/Array.size H<=k)->K p' (l+n) c' H'):ji W 1 bytes z p l c y H K:=by
 refine⟨n,new,ai,?_⟩
 rcases Nat.lt_or_ge c (l+n) with hg|I
 .refine .inr ⟨hg,hb,aj,xs,by rw[u.1,Nat.mul_one],?_,?_⟩
  .have ak:=u.rd
   cases p with
   |none=>
    rcases u.2 with⟨_,hl,_⟩|⟨b,cs,hp,_⟩
    .exact List.eq_nil_of_length_eq_zero (by rw[u.1,hl])
    .cases hp
   |some a=>
    intro j v hj
    obtain⟨a',ha,hc⟩:=ak.get hj
    cases ha
    exact hc
  .intro cap ad
   refine Z _ _ _ ⟨by simp[u.1,w],.inr ⟨_,_,rfl,eU,?_,ad,?_⟩⟩ ((Fr.new H _ _).mono λ_ h=>h.elim) ?_
   .rw[tH hz]
    simp[u.1,w]
    omega
   .intro i hi
    rw[tH hz]
    have ae:i<(xs++new).length:=by simp[u.1,w];exact hi
    rw[<-Array.getElem?_toList]
    simp only[Array.toList_append,Array.toList_replicate]
    rw[List.getElem?_append_left (by simpa using ae)]
   .rintro k ⟨a,ha,rfl⟩
    cases ha
    exact .inr (Nat.le_refl _)
 .refine .inl ⟨I,?_⟩
  rcases u.2 with⟨rfl,rfl,rfl⟩|⟨b,cs,rfl,am,O,az,hc⟩
  .have h0:n=0:=by omega
   subst h0
   refine⟨rfl,?_⟩
   have af:new=[]:=List.eq_nil_of_length_eq_zero w
   subst af
   have:=Z none 0 H (by simpa using u) (Fr.refl _ _) (λk N=>.inl N)
   simpa using this
  .simp only
   rw[Nat.mul_one,ly,Nat.zero_add]
   refine C9 am Y (by rw[w,O];omega) ?_
   intro H' an ao ap ag eP aq
   refine Z _ _ H' ⟨by simp[u.1,w],.inr ⟨b,an,rfl,ao,by rw[ap,O],I,?_⟩⟩ (aq.mono λk N=>⟨_,rfl,N.symm⟩) (λk N=>.inl N)
   intro i hi
   rcases Nat.lt_or_ge i l with h|h
   .rw[ag i (by omega),hc i h,List.getElem?_append_left (by rw[u.1];exact h)]
   .have:=eP (i-l) (by omega)
    rw[show l+0+(i-l)=i by omega] at this
    rw[this,List.getElem?_append_right (by rw[u.1];exact h),u.1]
theorem Bk{I bytes t1:Nat}{z v:dB}{K:dC->Nat->Nat->dw->Prop}(hs:Sl H I xs p l c)(hz:gH z=[z])(N:One v)(hb:(l+1)*bytes<=140737488355328)(W:bytes≠0)
 (hK:∀w c' H',Sl H' I (xs++[v]) w (l+1) c'->Fr (eB p) H H'->(∀k,eB w k->eB p k\/Array.size H<=k)->K w (l+1) c' H'):
 eG (eP H #[v] t1) λY:dw=>ji I 1 bytes z p l c (.slice (some ⟨Array.size H,0,none⟩) 1 1) Y K:=by
 refine dN λY Z=>?_
 subst Z
 have hf:=Fr.new H #[v] t1
 refine xK (new:=[v]) (hs.eO hf (λ_ _ h=>h)) hz ?_ rfl (by simpa using N) hb W ?_
 .refine⟨rfl,rfl,?_⟩
  intro j u hj
  rw[dO eU,Nat.zero_add]
  simpa using hj
 .intro w c' H' h1 h2 h3
  refine hK w c' H' h1 (Fr.trans (hf.mono λ_ h=>h.elim) h2 (λk O=>.inl O)) λk O=>?_
  rcases h3 k O with h|h
  .exact .inl h
  .rw[gi] at h;exact .inr (by omega)
end
theorem kO(a:dA)(n:Nat):(a.add n).block=a.block:=by
 unfold Addr.add
 split<;>rfl
theorem ub{H:dw}{a:dA}{v:dB}(h:dL H a=some v):a.block<Array.size H:=by
 unfold dL at h
 split at h
 .rename_i u
  exact eR u
 .cases h
theorem Fq{H H':dw}{a:dA}(h:H'[a.block]?=H[a.block]?):dL H' a=dL H a:=by
 unfold dL
 rw[h]
theorem Fr.cell{F:Nat->Prop}{H H':dw}(h:Fr F H H'){a:dA}{v:dB}(u:dL H a=some v)(w:¬F a.block):dL H' a=some v:=by
 rw[Fq (h.eO _ (ub u) w),u]
theorem Rd.eO{H H':dw}{xs:List dB}{p:dC}{l:Nat}{F:Nat->Prop}(h:Rd H xs p l)(N:Fr F H H')(O:∀k,k<Array.size H->eB p k->¬F k):Rd H' xs p l:=by
 refine⟨h.1,λi hi=>?_⟩
 obtain⟨a,I,w⟩:=h.2 i hi
 refine⟨a,I,?_⟩
 have W:xs[i]?=some (xs[i]'(by rw[h.1];exact hi)):=List.getElem?_eq_getElem _
 rw[W] at w⊢
 have u:=ub w
 rw[kO] at u
 exact N.cell w (by rw[kO];exact O _ u ⟨a,I,rfl⟩)
theorem Rd.fC{H H':dw}{xs:List dB}{p:dC}{l:Nat}(h:Rd H xs p l)(u:Fr fa H H'):Rd H' xs p l:=h.eO u λ_ _ _ h=>h
theorem Fr.dF{H H' u:dw}(h:Fr fa H H')(k:Fr fa H' u):Fr fa H u:=h.trans k λ_ h=>h.elim
theorem wrap_i64{n:Int}(h:-9223372036854775808<=n)(u:n<=9223372036854775807):IntKind.i64.wrap n=n:=by
 unfold IntKind.wrap;simp[IntKind.bits,IntKind.signed];omega
theorem wrap_u64{n:Int}(h:0<=n)(u:n<=18446744073709551615):IntKind.u64.wrap n=n:=by
 unfold IntKind.wrap;simp[IntKind.bits,IntKind.signed];omega
theorem wrap_u8{n:Int}(h:0<=n)(u:n<=255):IntKind.u8.wrap n=n:=by
 unfold IntKind.wrap;simp[IntKind.bits,IntKind.signed];omega
theorem tK(n:Int):0<=IntKind.u64.wrap n/\IntKind.u64.wrap n<=18446744073709551615:=by
 unfold IntKind.wrap;simp[IntKind.bits,IntKind.signed];omega
theorem eN{b:Bool}{A B:Prop}(u:b=true)(h:A):eL b A B:=by subst u;exact h
theorem dH{b:Bool}{A B:Prop}(u:b=false)(h:B):eL b A B:=by subst u;exact h
theorem eE{p:Prop}[Decidable p]{A B:Prop}(u:p->A)(w:¬p->B):eL (decide p) A B:=jI (λh=>u (of_decide_eq_true h)) (λh=>w (of_decide_eq_false h))
theorem fD{p:Prop}[Decidable p]{A B:Prop}(u:p)(h:A):eL (decide p) A B:=eN (decide_eq_true u) h
theorem eI{p:Prop}[Decidable p]{A B:Prop}(u:¬p)(h:B):eL (decide p) A B:=dH (decide_eq_false u) h
theorem eW{S:Type}{b:(S->dw->Prop)->S->dw->Prop}{s₀:S}{H₀:dw}(I:Nat->S->dw->Prop)(n:Nat)(h:I n s₀ H₀)
 (u:∀n s H,I n s H->b (λw H'=>∃m,m<n/\I m w H') s H):fP b s₀ H₀:=⟨I,⟨n,h⟩,u⟩
theorem dD{S:Type}{f:(S->dw->Prop)->Prop}{k:S->dw->Prop}(J:S->dw->Prop)(h:f J)(u:∀s H,J s H->k s H):eA f k:=⟨J,h,u⟩
theorem fg{S:Type}{f:(S->dw->Prop)->Prop}{k:S->dw->Prop}(h:f k):eA f k:=⟨k,h,λ_ _ h=>h⟩
theorem DW{s:dE}{i:Nat}(h:i<s.size):bt s (i:Int)=((s.data.toList[i]'(by rw[Array.length_toList];exact h)).toNat:Int):=by
 unfold bt
 rw[Int.toNat_natCast,List.getD_eq_getElem?_getD,List.getElem?_eq_getElem (by rw[Array.length_toList];exact h)]
 rfl
theorem uk:IntKind.u64.bits=64:=rfl
theorem ofInt_u64(a:Nat):BitVec.ofInt 64 (a:Int)=BitVec.ofNat 64 a:=BitVec.ofInt_natCast 64 a
theorem zU(a:Nat):IntKind.u64.wrap (a:Int)=((a%2^64:Nat):Int):=by
 unfold IntKind.wrap;simp[IntKind.bits,IntKind.signed]
theorem fL{a:Nat}(h:a<2^64):IntKind.u64.wrap (a:Int)=(a:Int):=by rw[zU,Nat.mod_eq_of_lt h]
theorem pR{a b:Nat}(h:a<2^64)(u:b<2^64):uI .u64 a b=((a|||b:Nat):Int):=by
 unfold uI
 rw[uk,ofInt_u64,ofInt_u64,BitVec.toNat_or,BitVec.toNat_ofNat,BitVec.toNat_ofNat,Nat.mod_eq_of_lt h,Nat.mod_eq_of_lt u,fL (Nat.or_lt_two_pow h u)]
theorem lQ{a b:Nat}(u:a<2^64)(h:b<2^64):lx .u64 a b=((a&&&b:Nat):Int):=by
 unfold lx
 rw[uk,ofInt_u64,ofInt_u64,BitVec.toNat_and,BitVec.toNat_ofNat,BitVec.toNat_ofNat,Nat.mod_eq_of_lt u,Nat.mod_eq_of_lt h,fL (Nat.and_lt_two_pow a h)]
theorem Ln{a b:Nat}(h:a<2^64)(u:b<2^64):JB .u64 a b=((a^^^b:Nat):Int):=by
 unfold JB
 rw[uk,ofInt_u64,ofInt_u64,BitVec.toNat_xor,BitVec.toNat_ofNat,BitVec.toNat_ofNat,Nat.mod_eq_of_lt h,Nat.mod_eq_of_lt u,fL (Nat.xor_lt_two_pow h u)]
theorem MU{a:Nat}(h:a<2^64):Kl .u64 a=((2^64-1-a:Nat):Int):=by
 have u:Kl .u64 (a:Int)=JB .u64 ((2^64-1:Nat):Int) a:=rfl
 rw[u,Ln (by decide) h]
 congr 1
 apply Nat.eq_of_testBit_eq
 intro i
 rw[Nat.testBit_xor,Nat.testBit_two_pow_sub_one]
 have:=Nat.testBit_two_pow_sub_succ (x:=a) (n:=64) h i
 rw[show 2^64-1-a=2^64-(a+1) by omega,this]
 by_cases hi:i<64
 .simp[hi]
 .simp only[hi,decide_false,Bool.false_xor,Bool.false_and]
  exact Nat.testBit_lt_two_pow (Nat.lt_of_lt_of_le h (Nat.pow_le_pow_right (by decide) (by omega)))
theorem rP(a s:Nat):mU .u64 a s=((a<<<s%2^64:Nat):Int):=by
 unfold mU
 rw[uk,Int.toNat_natCast]
 have:(a:Int)*2^min s 64=((a*2^min s 64:Nat):Int):=by push_cast;rfl
 rw[this,zU,Nat.shiftLeft_eq]
 congr 1
 rcases Nat.le_total s 64 with h|h
 .rw[Nat.min_eq_left h]
 .rw[Nat.min_eq_right h,Nat.mul_mod_left]
  have:2^s=2^(s-64)*2^64:=by rw[<-Nat.pow_add];congr 1;omega
  rw[this,<-Nat.mul_assoc,Nat.mul_mod_left]
theorem kU{a:Nat}(u:a<2^64)(s:Nat):mu .u64 a s=((a>>>s:Nat):Int):=by
 unfold mu
 rw[uk,Int.toNat_natCast]
 have:(2:Int)^min s 64=((2^min s 64:Nat):Int):=by push_cast;rfl
 rw[this]
 have e:Int.fdiv (a:Int) ((2^min s 64:Nat):Int)=((a/2^min s 64:Nat):Int):=by
  rw[Int.fdiv_eq_ediv_of_nonneg _ (Int.natCast_nonneg _)]
  rfl
 rw[e,Nat.shiftRight_eq_div_pow]
 congr 1
 rcases Nat.le_total s 64 with h|h
 .rw[Nat.min_eq_left h]
 .rw[Nat.min_eq_right h,Nat.div_eq_of_lt u,Nat.div_eq_of_lt (Nat.lt_of_lt_of_le u (Nat.pow_le_pow_right (by decide) h))]
theorem Al(a s:Nat):a<<<s%2^64<2^64:=Nat.mod_lt _ (by decide)
theorem rj{a:Nat}(h:a<2^64)(s:Nat):a>>>s<2^64:=by
 rw[Nat.shiftRight_eq_div_pow]
 exact Nat.lt_of_le_of_lt (Nat.div_le_self _ _) h
def ma(n:Nat):Nat:=if n=0 then 0 else n.log2+1
theorem nj{n k:Nat}:ma n<=k↔n<2^k:=by
 unfold ma
 split
 .rename_i h;subst h;simp[Nat.pow_pos]
 .rename_i h
  rw[<-Nat.log2_lt h]
  omega
theorem zB(n:Nat):n<2^ma n:=nj.1 (Nat.le_refl _)
theorem QA{n w:Nat}(h:∀k,w<=k↔n<2^k):ma n=w:=by
 have u:=(nj (n:=n) (k:=w)).2 ((h w).1 (Nat.le_refl _))
 have I:=(h (ma n)).2 (zB n)
 omega
theorem Bi(n s:Nat):ma (n>>>s)=ma n-s:=by
 apply QA
 intro k
 rw[Nat.shiftRight_eq_div_pow,Nat.div_lt_iff_lt_mul (Nat.pow_pos (by decide)),<-Nat.pow_add,<-nj]
 omega
theorem Jq{n:Nat}(h:n<2^64):ma n<=64:=nj.2 h
def qC(b:Nat):Nat->Nat->Nat
 |0,_=>0
 |n+1,x=>x%b+qC b n (x/b)
def pop(x:Nat):Nat:=qC 2 64 x
theorem and_cons{k a d m:Nat}(h:d<2^k):a&&&(d+2^k*m)=(a%2^k&&&d)+2^k*(a/2^k&&&m):=by
 have u:=Nat.mod_add_div (a&&&(d+2^k*m)) (2^k)
 rw[Nat.and_mod_two_pow,Nat.and_div_two_pow,Nat.add_mul_mod_self_left,Nat.mod_eq_of_lt h,Nat.add_mul_div_left _ _ (Nat.pow_pos (by decide)),Nat.div_eq_of_lt h,Nat.zero_add] at u
 exact u.symm
def mask(k d:Nat):Nat->Nat
 |0=>0
 |n+1=>d+2^k*mask k d n
theorem yl(k d n:Nat):mask k d (n+1)=d+2^k*mask k d n:=rfl
theorem M3:mask 2 1 32=6148914691236517205:=by decide+kernel
theorem M1:mask 4 3 16=3689348814741910323:=by decide+kernel
theorem SO:mask 8 15 8=1085102592571150095:=by decide+kernel
def f1(n x:Nat):Nat:=(x/2&&&mask 2 1 n)+(x&&&mask 2 1 n)
def f2(n x:Nat):Nat:=(x/4&&&mask 4 3 n)+(x&&&mask 4 3 n)
def f3(n x:Nat):Nat:=(x/16+x)&&&mask 8 15 n
theorem and_one(a:Nat):a%2^2&&&1=a%2:=by rw[Nat.and_one_is_mod];omega
theorem CC(a:Nat):a%2^4&&&3=a%4:=by rw[show 3=2^2-1 from rfl,Nat.and_two_pow_sub_one_eq_mod];omega
theorem FQ(a:Nat):a%2^8&&&15=a%16:=by rw[show 15=2^4-1 from rfl,Nat.and_two_pow_sub_one_eq_mod];omega
theorem Qh(n x:Nat):f1 (n+1) x=(x%2+x/2%2)+4*f1 n (x/4):=by
 unfold f1
 rw[yl,and_cons (by decide),and_cons (by decide),and_one,and_one,show x/2/2^2=x/4/2 by omega]
 have:(2:Nat)^2=4:=rfl
 rw[this]
 omega
theorem Jb(n x:Nat):f2 (n+1) x=(x%4+x/4%4)+16*f2 n (x/16):=by
 unfold f2
 rw[yl,and_cons (by decide),and_cons (by decide),CC,CC,show x/4/2^4=x/16/4 by omega]
 have:(2:Nat)^4=16:=rfl
 rw[this]
 omega
theorem Jk:∀n x,qC 4 n (f1 n x)=qC 2 (2*n) x
 |0,_=>rfl
 |n+1,x=>by
  have e:2*(n+1)=(2*n+1)+1:=by omega
  rw[e]
  unfold qC
  rw[Qh,show(x%2+x/2%2+4*f1 n (x/4))%4=x%2+x/2%2 by omega,show(x%2+x/2%2+4*f1 n (x/4))/4=f1 n (x/4) by omega,Jk n (x/4)]
  conv=>rhs;rhs;unfold qC
  rw[show x/2/2=x/4 by omega]
  omega
theorem Jj:∀n x,qC 16 n (f2 n x)=qC 4 (2*n) x
 |0,_=>rfl
 |n+1,x=>by
  have e:2*(n+1)=(2*n+1)+1:=by omega
  rw[e]
  unfold qC
  rw[Jb,show(x%4+x/4%4+16*f2 n (x/16))%16=x%4+x/4%4 by omega,show(x%4+x/4%4+16*f2 n (x/16))/16=f2 n (x/16) by omega,Jj n (x/16)]
  conv=>rhs;rhs;unfold qC
  rw[show x/4/4=x/16 by omega]
  omega
def Oo:Nat->Nat->Prop
 |0,x=>x=0
 |n+1,x=>x%16<=6/\Oo n (x/16)
theorem G5:∀n x,Oo n (f2 n x)
 |0,_=>by simp[Oo,f2,mask]
 |n+1,x=>by
  unfold Oo
  rw[Jb,show(x%4+x/4%4+16*f2 n (x/16))%16=x%4+x/4%4 by omega,show(x%4+x/4%4+16*f2 n (x/16))/16=f2 n (x/16) by omega]
  exact⟨by omega,G5 n _⟩
theorem PY{n x:Nat}(h:Oo n x):x%16<=6:=by
 cases n with
 |zero=>simp only[Oo] at h;omega
 |succ n=>exact h.1
theorem Ja{n z:Nat}(h:Oo (2*(n+1)) z):f3 (n+1) z=(z%16+z/16%16)+256*f3 n (z/256)/\Oo (2*n) (z/256)/\z%16+z/16%16<=12:=by
 have e:2*(n+1)=(2*n+1)+1:=by omega
 rw[e] at h
 obtain⟨N,O,u⟩:z%16<=6/\z/16%16<=6/\Oo (2*n) (z/16/16):=h
 have w:=PY u
 have I:z/16/16=z/256:=by omega
 rw[I] at u w
 refine⟨?_,u,by omega⟩
 unfold f3
 rw[yl,and_cons (by decide),FQ]
 have:(2:Nat)^8=256:=rfl
 rw[this,show(z/16+z)/256=z/256/16+z/256 by omega]
 omega
theorem Ji:∀n z,Oo (2*n) z->qC 256 n (f3 n z)=qC 16 (2*n) z
 |0,_,_=>rfl
 |n+1,z,h=>by
  obtain⟨u,w,I⟩:=Ja h
  have e:2*(n+1)=(2*n+1)+1:=by omega
  rw[e]
  unfold qC
  rw[u,show(z%16+z/16%16+256*f3 n (z/256))%256=z%16+z/16%16 by omega,show(z%16+z/16%16+256*f3 n (z/256))/256=f3 n (z/256) by omega,Ji n _ w]
  conv=>rhs;rhs;unfold qC
  rw[show z/16/16=z/256 by omega]
  omega
def HK:Nat->Nat->Prop
 |0,x=>x=0
 |n+1,x=>x%256<=12/\HK n (x/256)
theorem M5:∀n z,Oo (2*n) z->HK n (f3 n z)
 |0,z,h=>by simp[HK,f3,mask]
 |n+1,z,h=>by
  obtain⟨w,I,u⟩:=Ja h
  unfold HK
  rw[w,show(z%16+z/16%16+256*f3 n (z/256))%256=z%16+z/16%16 by omega,show(z%16+z/16%16+256*f3 n (z/256))/256=f3 n (z/256) by omega]
  exact⟨u,M5 n _ I⟩
theorem mK{n w:Nat}(h:HK (n+1) w):∃c w',c<=12/\HK n w'/\w=c+256*w'/\qC 256 (n+1) w=c+qC 256 n w':=
 ⟨w%256,w/256,h.1,h.2,by omega,rfl⟩
theorem Xs{w:Nat}(h:HK 8 w):w<2^60/\w+w/256<2^61/\(w+w/256)+(w+w/256)/65536<2^62/\
 ((w+w/256)+(w+w/256)/65536)+((w+w/256)+(w+w/256)/65536)/4294967296<2^63/\
 (((w+w/256)+(w+w/256)/65536)+((w+w/256)+(w+w/256)/65536)/4294967296)%128=qC 256 8 w:=by
 obtain⟨c0,Y,b0,h,e0,d0⟩:=mK h
 obtain⟨W,w2,b1,h,e1,d1⟩:=mK h
 obtain⟨I,w3,b2,h,e2,d2⟩:=mK h
 obtain⟨u,N,b3,h,e3,d3⟩:=mK h
 obtain⟨O,Z,b4,h,e4,d4⟩:=mK h
 obtain⟨c5,w6,b5,h,e5,d5⟩:=mK h
 obtain⟨c6,w7,b6,h,e6,d6⟩:=mK h
 obtain⟨c7,w8,b7,h,e7,d7⟩:=mK h
 have h:w8=0:=h
 subst h
 have d8:qC 256 8 w=c0+W+I+u+O+c5+c6+c7:=by
  rw[d0,d1,d2,d3,d4,d5,d6,d7]
  simp only[qC]
  omega
 rw[d8]
 clear d0 d1 d2 d3 d4 d5 d6 d7 d8
 have q1:w/256=Y:=by omega
 rw[q1]
 have q2:(w+Y)/65536=w2+w3:=by omega
 rw[q2]
 have t7:w7<=12:=by omega
 have t6:w6<=3084:=by omega
 have t5:Z<=789516:=by omega
 have t4:N<=202116108:=by omega
 have q3:(w+Y+(w2+w3))/4294967296=N+Z+w6+w7:=by
  have k3:w3=u+256*N:=e3
  have k2:w2=I+256*u+65536*N:=by omega
  have k1:Y=W+256*I+65536*u+16777216*N:=by omega
  have k0:w=c0+256*W+65536*I+16777216*u+4294967296*N:=by omega
  have j1:Y=W+256*I+65536*u+16777216*O+4294967296*Z:=by omega
  have j2:w2=I+256*u+65536*O+16777216*c5+4294967296*w6:=by omega
  have j3:w3=u+256*O+65536*c5+16777216*c6+4294967296*w7:=by omega
  rw[k0,j1,j2,j3]
  clear k0 k1 k2 k3 j1 j2 j3 q1 q2 e0 e1 e2 e3 e4 e5 e6 e7 t4 t5 t6 t7
  generalize hL:c0+256*W+65536*I+16777216*u+(W+256*I+65536*u+16777216*O)+(I+256*u+65536*O+16777216*c5+(u+256*O+65536*c5+16777216*c6))=L
  have aO:L<4294967296:=by omega
  have:c0+256*W+65536*I+16777216*u+4294967296*N+(W+256*I+65536*u+16777216*O+4294967296*Z)+(I+256*u+65536*O+16777216*c5+4294967296*w6+(u+256*O+65536*c5+16777216*c6+4294967296*w7))=L+4294967296*(N+Z+w6+w7):=by omega
  rw[this,Nat.add_mul_div_left _ _ (by decide),Nat.div_eq_of_lt aO,Nat.zero_add]
 rw[q3]
 clear q1 q2 q3
 refine⟨by omega,by omega,by omega,by omega,?_⟩
 generalize hS:w+Y+(w2+w3)+(N+Z+w6+w7)=S
 have:S=(c0+W+I+u+O+c5+c6+c7)+256*(Y+w2+w3+N+Z+w6+w7):=by omega
 clear hS e0 e1 e2 e3 e4 e5 e6 e7 t4 t5 t6 t7
 generalize Y+w2+w3+N+Z+w6+w7=T at this
 omega
theorem Xr{x:Nat}:qC 256 8 (f3 8 (f2 16 (f1 32 x)))=pop x:=by
 rw[Ji 8 _ (G5 16 _),Jj 16,Jk 32]
 rfl
def fY:List Bool->Nat
 |[]=>0
 |b::l=>b.toNat+2*fY l
theorem pL:∀l:List Bool,fY l<2^l.length
 |[]=>by simp[fY]
 |b::l=>by
  have:=pL l
  have:=Bool.toNat_lt b
  simp only[fY,List.length_cons,Nat.pow_succ]
  omega
theorem yy:∀(n:Nat)(l:List Bool),l.length<=n->qC 2 n (fY l)=l.count true
 |0,[],_=>rfl
 |0,_::_,h=>by simp at h
 |n+1,[],_=>by
  have:=yy n [] (by simp)
  simp only[qC,fY] at this⊢
  simpa using this
 |n+1,b::l,h=>by
  have:=yy n l (by simp at h;omega)
  have u:=Bool.toNat_lt b
  simp only[qC,fY]
  rw[show(b.toNat+2*fY l)%2=b.toNat by omega,show(b.toNat+2*fY l)/2=fY l by omega,this,List.count_cons]
  cases b<;>simp
  omega
theorem EU{l:List Bool}(h:l.length<=64):pop (fY l)=l.count true:=yy 64 l h
theorem o7:∀(l r:List Bool),fY (l++r)=fY l+2^l.length*fY r
 |[],r=>by simp[fY]
 |b::l,r=>by
  simp only[List.cons_append,fY,List.length_cons,Nat.pow_succ,o7 l r]
  rw[Nat.mul_add,Nat.mul_comm (2^l.length) 2,Nat.mul_assoc]
  omega
theorem JR(l:List Bool)(r:Nat):fY l%2^r=fY (l.take r):=by
 rcases Nat.le_total l.length r with h|h
 .rw[List.take_of_length_le h,Nat.mod_eq_of_lt (Nat.lt_of_lt_of_le (pL l) (Nat.pow_le_pow_right (by decide) h))]
 .conv=>lhs;rw[<-List.take_append_drop r l]
  have u:(l.take r).length=r:=by simp;omega
  rw[o7,u,Nat.add_mul_mod_self_left,Nat.mod_eq_of_lt]
  have:=pL (l.take r)
  rwa[u] at this
theorem pK:∀(l:List Bool)(i:Nat),(fY l).testBit i=l.getD i false
 |[],i=>by simp[fY]
 |b::l,0=>by
  have:=Bool.toNat_lt b
  simp only[fY,Nat.testBit_zero,List.getD_cons_zero]
  rw[show(b.toNat+2*fY l)%2=b.toNat by omega]
  cases b<;>simp
 |b::l,i+1=>by
  have:=Bool.toNat_lt b
  rw[Nat.testBit_succ,fY,show(b.toNat+2*fY l)/2=fY l by omega,pK l i]
  simp
theorem JS(l:List Bool):fY (l++[true])=fY l|||2^l.length/\fY (l++[false])=fY l:=by
 constructor
 .have:=Nat.two_pow_add_eq_or_of_lt (pL l) 1
  rw[Nat.mul_one] at this
  rw[o7,Nat.or_comm,<-this]
  simp[fY]
  omega
 .rw[o7]
  simp[fY]
theorem LY{l:List Bool}(h:l.length=64):2^64-1-fY l=fY (l.map not):=by
 have:∀l:List Bool,fY l+fY (l.map not)+1=2^l.length:=by
  intro l
  induction l with
  |nil=>rfl
  |cons b l u=>
   simp only[List.map_cons,fY,List.length_cons,Nat.pow_succ]
   cases b<;>simp<;>omega
 have:=this l
 rw[h] at this
 omega
def Ld:List Bool->List Bool
 |[]=>[]
 |true::l=>false::l
 |false::l=>false::Ld l
theorem Jn:∀l:List Bool,(Ld l).length=l.length
 |[]=>rfl
 |true::l=>rfl
 |false::l=>by simp[Ld,Jn l]
theorem Ey:∀{l:List Bool},true∈l->fY l&&&(fY l-1)=fY (Ld l)
 |[],h=>by simp at h
 |true::l,_=>by
  show(1+2*fY l)&&&(1+2*fY l-1)=0+2*fY l
  apply Nat.eq_of_testBit_eq
  intro i
  rw[Nat.testBit_and]
  cases i with
  |zero=>simp[Nat.testBit_zero]
  |succ i=>
   rw[Nat.testBit_succ,Nat.testBit_succ,Nat.testBit_succ,show(1+2*fY l)/2=fY l by omega,show(1+2*fY l-1)/2=fY l by omega,show(0+2*fY l)/2=fY l by omega,Bool.and_self]
 |false::l,h=>by
  have w:true∈l:=by simpa using h
  have I:0<fY l:=by
   rcases Nat.eq_zero_or_pos (fY l) with u|u
   .obtain⟨i,hi,N⟩:=List.getElem_of_mem w
    have:=pK l i
    rw[u,List.getD_eq_getElem?_getD,List.getElem?_eq_getElem hi,N] at this
    simp at this
   .exact u
  show(0+2*fY l)&&&(0+2*fY l-1)=0+2*fY (Ld l)
  rw[<-Ey w]
  apply Nat.eq_of_testBit_eq
  intro i
  rw[Nat.testBit_and]
  cases i with
  |zero=>
   rw[Nat.testBit_zero,Nat.testBit_zero,Nat.testBit_zero,show(0+2*fY l)%2=0 by omega,show(0+2*(fY l&&&(fY l-1)))%2=0 by omega]
   simp
  |succ i=>
   rw[Nat.testBit_succ,Nat.testBit_succ,Nat.testBit_succ,show(0+2*fY l)/2=fY l by omega,show(0+2*fY l-1)/2=fY l-1 by omega,show(0+2*(fY l&&&(fY l-1)))/2=fY l&&&(fY l-1) by omega,Nat.testBit_and]
def nth:List Bool->Nat->Nat
 |[],_=>0
 |true::l,0=>0
 |true::l,t+1=>1+nth l t
 |false::l,t=>1+nth l t
theorem IJ:∀(l:List Bool)(t:Nat),t+1<l.count true->nth (Ld l) t=nth l (t+1)
 |[],_,h=>by simp at h
 |true::l,t,_=>by simp[Ld,nth]
 |false::l,t,h=>by
  simp only[Ld,nth]
  rw[IJ l t (by simpa using h)]
theorem Cx:∀(l:List Bool),(Ld l).count true=l.count true-1
 |[]=>rfl
 |true::l=>by simp[Ld]
 |false::l=>by simp[Ld,Cx l]
theorem AH:∀(l:List Bool)(t:Nat),t<l.count true->∃h:nth l t<l.length,l[nth l t]=true/\(l.take (nth l t)).count true=t
 |[],_,h=>by simp at h
 |true::l,0,_=>⟨by simp[nth],by simp[nth],by simp[nth]⟩
 |true::l,t+1,h=>by
  obtain⟨I,u,w⟩:=AH l t (by simpa using h)
  refine⟨by simp[nth];omega,?_,?_⟩
  .simp only[nth,Nat.add_comm 1,List.getElem_cons_succ];exact u
  .simp only[nth,Nat.add_comm 1,List.take_succ_cons,List.count_cons_self,w]
 |false::l,t,h=>by
  obtain⟨I,u,w⟩:=AH l t (by simpa using h)
  refine⟨by simp[nth];omega,?_,?_⟩
  .simp only[nth,Nat.add_comm 1,List.getElem_cons_succ];exact u
  .simp only[nth,Nat.add_comm 1,List.take_succ_cons]
   rw[List.count_cons_of_ne (by decide),w]
theorem FB:∀(f:Nat)(l:List Bool),true∈l->l.length<=f->Go.Lib.ctzFrom f (fY l)=nth l 0
 |0,l,h,hf=>by
  have:l=[]:=List.eq_nil_of_length_eq_zero (by omega)
  subst this
  simp at h
 |f+1,[],h,_=>by simp at h
 |f+1,true::l,_,_=>by
  have u:fY (true::l)=1+2*fY l:=rfl
  unfold Go.Lib.ctzFrom
  rw[u,if_pos (by omega)]
  rfl
 |f+1,false::l,h,hf=>by
  have u:fY (false::l)=0+2*fY l:=rfl
  unfold Go.Lib.ctzFrom
  rw[u,if_neg (by omega),show(0+2*fY l)/2=fY l by omega,show nth (false::l) 0=1+nth l 0 from rfl,FB f l (by simpa using h) (by simp at hf;omega)]
theorem FP{H:dw}{xs:List dB}{p:dC}{l c:Nat}(h:Rd H xs p l):oo H 1 (.slice p l c) l xs:=by
 cases p with
 |none=>
  have I:l=0:=by
   rcases Nat.eq_zero_or_pos l with u|u
   .exact u
   .obtain⟨a,w,_⟩:=h.2 0 u
    cases w
  exact⟨rfl,I,List.eq_nil_of_length_eq_zero (by rw[h.1,I])⟩
 |some a=>
  refine⟨rfl,by rw[h.1,Nat.mul_one],λj v N=>?_⟩
  obtain⟨W,w,O⟩:=h.get N
  cases w
  exact O
def vd(ws:List Nat)(p:Nat):Bool:=(ws.getD (p/64) 0).testBit (p%64)
def ou(ws:List Nat):Prop:=∀x∈ws,x<2^64
theorem ou.getD{ws:List Nat}(h:ou ws)(i:Nat):ws.getD i 0<2^64:=by
 rw[List.getD_eq_getElem?_getD]
 cases e:ws[i]? with
 |none=>simp
 |some x=>exact h x (List.mem_of_getElem? e)
theorem ou.set{ws:List Nat}(h:ou ws)(i:Nat){v:Nat}(u:v<2^64):ou (ws.set i v):=by
 intro x w
 rcases List.mem_or_eq_of_mem_set w with h'|rfl
 .exact h x h'
 .exact u
theorem ou.BZ(n:Nat):ou (List.replicate n 0):=by
 intro x h
 rw[List.mem_replicate] at h
 rw[h.2]
 decide
theorem uO{ws:List Nat}{i:Nat}(hi:i<ws.length)(v j:Nat):(ws.set i v).getD j 0=if j=i then v else ws.getD j 0:=by
 rw[List.getD_eq_getElem?_getD,List.getElem?_set,List.getD_eq_getElem?_getD]
 by_cases h:i=j
 .subst h;simp[hi]
 .rw[if_neg h,if_neg (λe=>h e.symm)]
theorem ue{ws:List Nat}{i:Nat}(h:i<ws.length):ws.getD i 0=ws[i]:=by rw[List.getD_eq_getElem?_getD,List.getElem?_eq_getElem h];rfl
def PM(ws:List Nat)(b h x:Nat):List Nat:=
 if 64<b%64+h then(ws.set (b/64) (ws.getD (b/64) 0|||x<<<(b%64)%2^64)).set (b/64+1) (ws.getD (b/64+1) 0|||x>>>(64-b%64))
 else ws.set (b/64) (ws.getD (b/64) 0|||x<<<(b%64)%2^64)
theorem MO{ws:List Nat}{b h x:Nat}(ab:h<=64)(h0:0<h)(W:x<2^h)(hl:b+h<=64*ws.length)(p:Nat):vd (PM ws b h x) p=(vd ws p||(decide (b<=p)&&x.testBit (p-b))):=by
 have u:∀q,h<=q->x.testBit q=false:=λq Y=>Nat.testBit_lt_two_pow (Nat.lt_of_lt_of_le W (Nat.pow_le_pow_right (by decide) Y))
 have hb:=Nat.div_add_mod b 64
 have hp:=Nat.div_add_mod p 64
 have I:p%64<64:=Nat.mod_lt _ (by decide)
 have Z:b%64<64:=Nat.mod_lt _ (by decide)
 have first:vd (ws.set (b/64) (ws.getD (b/64) 0|||x<<<(b%64)%2^64)) p=if p/64=b/64 then(vd ws p||(decide (b<=p)&&x.testBit (p-b))) else vd ws p:=by
  unfold vd
  rw[uO (by omega)]
  split
  .rename_i e
   rw[Nat.testBit_or,Nat.testBit_mod_two_pow,Nat.testBit_shiftLeft,e]
   by_cases w:b<=p
   .rw[show decide (p%64>=b%64)=true by simp;omega,show decide (b<=p)=true by simp;omega,show p%64-b%64=p-b by omega]
    simp[I]
   .rw[show decide (p%64>=b%64)=false by simp;omega,show decide (b<=p)=false by simp;omega]
    simp
  .rfl
 unfold PM
 split
 .rename_i hc
  by_cases N:p/64=b/64+1
  .unfold vd
   rw[uO (by simp;omega),if_pos N,Nat.testBit_or,Nat.testBit_shiftRight,N,show decide (b<=p)=true by simp;omega,show 64-b%64+p%64=p-b by omega]
   simp
  .have:vd ((ws.set (b/64) (ws.getD (b/64) 0|||x<<<(b%64)%2^64)).set (b/64+1) (ws.getD (b/64+1) 0|||x>>>(64-b%64))) p=vd (ws.set (b/64) (ws.getD (b/64) 0|||x<<<(b%64)%2^64)) p:=by
    unfold vd
    rw[uO (by simp;omega),if_neg N]
   rw[this,first]
   split
   .rfl
   .rename_i O
    by_cases w:b<=p
    .rw[u (p-b) (by omega)];simp
    .rw[show decide (b<=p)=false by simp;omega];simp
 .rename_i hc
  rw[first]
  split
  .rfl
  .rename_i O
   by_cases w:b<=p
   .rw[u (p-b) (by omega)];simp
   .rw[show decide (b<=p)=false by simp;omega];simp
def Dg(ws:List Nat)(b h:Nat):Nat:=
 if h<64 then(if 64<b%64+h then ws.getD (b/64) 0>>>(b%64)|||ws.getD (b/64+1) 0<<<(64-b%64)%2^64 else ws.getD (b/64) 0>>>(b%64))&&&(2^h-1)
 else(if 64<b%64+h then ws.getD (b/64) 0>>>(b%64)|||ws.getD (b/64+1) 0<<<(64-b%64)%2^64 else ws.getD (b/64) 0>>>(b%64))
theorem GS{ws:List Nat}(h:ou ws){b u:Nat}(Z:u<=64)(i:Nat):(Dg ws b u).testBit i=(decide (i<u)&&vd ws (b+i)):=by
 have hb:=Nat.div_add_mod b 64
 have O:b%64<64:=Nat.mod_lt _ (by decide)
 have N:∀{v q:Nat},v<2^64->64<=q->v.testBit q=false:=λW Y=>Nat.testBit_lt_two_pow (Nat.lt_of_lt_of_le W (Nat.pow_le_pow_right (by decide) Y))
 have w:i<u->(if 64<b%64+u then ws.getD (b/64) 0>>>(b%64)|||ws.getD (b/64+1) 0<<<(64-b%64)%2^64 else ws.getD (b/64) 0>>>(b%64)).testBit i=vd ws (b+i):=by
  intro hi
  unfold vd
  by_cases hs:b%64+i<64
  .rw[show(b+i)/64=b/64 by omega,show(b+i)%64=b%64+i by omega]
   split
   .rw[Nat.testBit_or,Nat.testBit_shiftRight,Nat.testBit_mod_two_pow,Nat.testBit_shiftLeft,show decide (i>=64-b%64)=false by simp;omega]
    simp
   .rw[Nat.testBit_shiftRight]
  .rw[if_pos (by omega),show(b+i)/64=b/64+1 by omega,show(b+i)%64=i-(64-b%64) by omega]
   rw[Nat.testBit_or,Nat.testBit_shiftRight,N (h.getD _) (by omega),Nat.testBit_mod_two_pow,Nat.testBit_shiftLeft,show decide (i>=64-b%64)=true by simp;omega,show decide (i<64)=true by simp;omega]
   simp
 have I:(if 64<b%64+u then ws.getD (b/64) 0>>>(b%64)|||ws.getD (b/64+1) 0<<<(64-b%64)%2^64 else ws.getD (b/64) 0>>>(b%64))<2^64:=by
  split
  .exact Nat.or_lt_two_pow (rj (h.getD _) _) (Al _ _)
  .exact rj (h.getD _) _
 unfold Dg
 split
 .rename_i aa
  rw[Nat.testBit_and,Nat.testBit_two_pow_sub_one]
  by_cases hi:i<u
  .rw[w hi];simp[hi]
  .simp[hi]
 .by_cases hi:i<u
  .rw[w hi];simp[hi]
  .rw[N I (by omega)];simp[hi]
def rD(l:List Nat)(h i:Nat)(ws:List Nat):Prop:=∀p,vd ws p=(decide (p<i*h)&&(l.getD (p/h) 0).testBit (p%h))
theorem HA(n p:Nat):vd (List.replicate n 0) p=false:=by
 unfold vd
 have:(List.replicate n 0).getD (p/64) 0=0:=by
  rw[List.getD_eq_getElem?_getD,List.getElem?_replicate]
  split<;>rfl
 rw[this]
 simp
theorem EW(l:List Nat)(h n:Nat):rD l h 0 (List.replicate n 0):=by
 intro p
 rw[HA]
 simp
theorem EX{l:List Nat}{u i:Nat}{ws:List Nat}(h:rD l u i ws)(w:u<=64)(O:0<u)(hi:i<l.length)(I:l[i]<2^u)(Z:(i+1)*u<=64*ws.length):rD l u (i+1) (PM ws (i*u) u l[i]):=by
 intro p
 have hm:(i+1)*u=i*u+u:=Nat.succ_mul i u
 rw[MO w O I (by omega),h p]
 by_cases h1:p<i*u
 .rw[show decide (p<i*u)=true by simp;omega,show decide (i*u<=p)=false by simp;omega,show decide (p<(i+1)*u)=true by simp;omega]
  simp
 .rw[show decide (p<i*u)=false by simp;omega,show decide (i*u<=p)=true by simp;omega]
  by_cases W:p<(i+1)*u
  .have N:p/u=i:=Nat.div_eq_of_lt_le (by omega) W
   have Y:p%u=p-i*u:=by
    have:=Nat.div_add_mod p u
    rw[N,Nat.mul_comm] at this
    omega
   rw[show decide (p<(i+1)*u)=true by simp;omega,N,Y,List.getD_eq_getElem?_getD,List.getElem?_eq_getElem hi]
   simp
  .rw[show decide (p<(i+1)*u)=false by simp;omega,Nat.testBit_lt_two_pow (Nat.lt_of_lt_of_le I (Nat.pow_le_pow_right (by decide) (by omega)))]
   simp
theorem EY{l:List Nat}{i j:Nat}{ws:List Nat}(h:rD l 0 i ws):rD l 0 j ws:=by
 intro p
 rw[h p]
 simp
theorem G0{l:List Nat}{u:Nat}{ws:List Nat}(h:rD l u l.length ws)(N:ou ws)(w:u<=64){k:Nat}(O:k<l.length)(W:l[k]<2^u):Dg ws (k*u) u=l[k]:=by
 apply Nat.eq_of_testBit_eq
 intro i
 rw[GS N w,h]
 by_cases hi:i<u
 .have Y:(k*u+i)/u=k:=by
   rw[Nat.add_comm,Nat.add_mul_div_right _ _ (by omega),Nat.div_eq_of_lt hi]
   omega
  have Z:(k*u+i)%u=i:=by
   rw[Nat.add_comm,Nat.add_mul_mod_self_right,Nat.mod_eq_of_lt hi]
  have I:k*u+i<l.length*u:=by
   have:(k+1)*u<=l.length*u:=Nat.mul_le_mul_right _ (by omega)
   have:(k+1)*u=k*u+u:=Nat.succ_mul k u
   omega
  rw[Y,Z,List.getD_eq_getElem?_getD,List.getElem?_eq_getElem O]
  simp[hi,I]
 .rw[Nat.testBit_lt_two_pow (x:=l[k]) (Nat.lt_of_lt_of_le W (Nat.pow_le_pow_right (by decide) (by omega)))]
  simp[hi]
def y7(l:List Nat):Nat:=l.foldl max 0
theorem yk(l:List Nat)(x:Nat):y7 (l++[x])=max (y7 l) x:=by unfold y7;rw[List.foldl_append];rfl
theorem Ci{l:List Nat}{i:Nat}(h:i<l.length):y7 (l.take (i+1))=max (y7 (l.take i)) l[i]:=by
 rw[List.take_succ_eq_append_getElem h,yk]
theorem IV{l:List Nat}{b:Nat}(h:∀x∈l,x<=b):y7 l<=b:=by
 rcases List.eq_nil_or_concat l with rfl|⟨u,c,rfl⟩
 .exact Nat.zero_le _
 .rw[List.concat_eq_append] at h⊢
  rw[yk]
  have:=IV (l:=u) λx w=>h x (by simp[w])
  have:=h c (by simp)
  omega
 termination_by l.length
theorem IX{l:List Nat}{x:Nat}(h:x∈l):x<=y7 l:=by
 rcases List.eq_nil_or_concat l with rfl|⟨u,c,rfl⟩
 .cases h
 .rw[List.concat_eq_append] at h⊢
  rw[yk]
  rcases List.mem_append.1 h with h|h
  .have:=IX h
   omega
  .rw[List.mem_singleton] at h
   omega
 termination_by l.length
def wide(l:List Nat):Nat:=ma (y7 l)
theorem IW{l:List Nat}{x:Nat}(h:x∈l):x<2^wide l:=Nat.lt_of_le_of_lt (IX h) (zB _)
theorem CT{l:List Nat}(h:ou l):wide l<=64:=nj.2 (by have:=IV (l:=l) (b:=2^64-1) λx u=>by have:=h x u;omega
                                                    omega)
end Go.Ex
