/- Part AS of the proof that the law TopAround answers true at every input, under no condition. -/
import Derived.Test.YtmdbfgemefalmaaGreatDoorQAR
import Derived.Below
import Derived.SliceStrings
import Derived.ChangeSlices
import Derived.Deep.Grids
import Derived.SizedLaws
set_option linter.unusedVariables false
set_option maxHeartbeats 2000000
set_option maxRecDepth 100000
namespace Go.Ex
def vZ(ss:List dE):dE:=⟨(ss.map (·.data.toList)).flatten.toArray⟩
theorem KR(ss:List dE):(vZ ss).size=(ss.map (·.size)).sum:=by
 unfold vZ ByteArray.size
 simp only[List.size_toArray,List.length_flatten,List.map_map]
 congr 1
theorem Kx:∀xs:List (List UInt8),Go.Lib.join xs []=xs.flatten
 |[]=>rfl
 |x::r=>by
  rw[Go.Lib.join_cons,List.flatten_cons]
  unfold Go.Lib.joinTail
  simp
end Go.Ex
namespace Go.Proofs.fv
open Go.Ex
theorem K7{H:dw}{ss:List dE}{p:dC}{n c:Nat}(O:Rd H (ss.map Value.string) p n)(aa:n<=c)(hn:n<=1048576)(hs:(vZ ss).size<=140737488355328){R:dE->dw->Prop}(hR:∀H',Fr fa H H'->R (vZ ss) H'):strings_Join.C p n c ⟨#[]⟩ H R:=by
 intro w hw
 subst hw
 have hl:ss.length=n:=by have:=O.1;simpa using this
 have he:(⟨(Go.Lib.join (ss.map (·.data.toList)) dM.data.toList).toArray⟩:dE)=vZ ss:=by
  unfold vZ
  rw[Kx]
 have ab:(Go.Lib.join (ss.map (·.data.toList)) dM.data.toList).length<=140737488355328:=by
  have h:(vZ ss).size=(Go.Lib.join (ss.map (·.data.toList)) dM.data.toList).length:=by
   rw[<-he]
   unfold ByteArray.size
   simp
  omega
 rcases Nat.eq_zero_or_pos n with Y|Y
 .subst Y
  have ac:ss=[]:=List.eq_nil_of_length_eq_zero hl
  subst ac
  refine(Tryz.strings_Join_none p c ⟨#[]⟩ w).mono λe w'⟨W,I⟩=>?_
  subst I
  exact⟨_,W,ik.refl _,_,rfl,hR _ (Fr.refl _ _)⟩
 .obtain⟨a,rfl,u⟩:=O.2 0 Y
  rw[List.getElem?_eq_getElem (by rw[O.1];exact Y)] at u
  have Z:a.spot=none:=by
   have W:(a.add 0).spot=a.spot:=by
    unfold Addr.add
    rw[if_pos rfl]
   rw[<-W]
   unfold dL at u
   split at u
   .split at u
    .cases u
    .rename_i I
     cases hs:(a.add 0).spot with
     |none=>rfl
     |some x=>rw[hs] at I;exact absurd rfl I
   .cases u
  have N:=ub u
  rw[kO] at N
  obtain⟨b,o,sp⟩:=a
  simp only at Z N
  subst Z
  subst hl
  refine(Tryz.strings_Join b o c ss ⟨#[]⟩ w (λj x hj=>?_) N (by omega) aa ab).mono λe w'⟨W,I⟩=>?_
  .obtain⟨a',ha,hc⟩:=O.get (i:=j) (v:=.string x) (by rw[List.getElem?_map,hj];rfl)
   cases ha
   rw[ly] at hc
   rw[mZ]
   exact hc
  .rw[he] at W
   exact⟨_,W,⟨I.os,I.tape,I.output⟩,_,rfl,hR _ ⟨I.size,λk hk _=>I.block k hk⟩⟩
end Go.Proofs.fv
namespace Go.Ex
def pre(ss:List dE)(k:Nat):Nat:=((ss.take k).map (·.size)).sum
theorem MF(ss:List dE):pre ss 0=0:=rfl
theorem wY{ss:List dE}{k:Nat}(h:k<ss.length):pre ss (k+1)=pre ss k+ss[k].size:=by
 unfold pre
 rw[List.take_succ_eq_append_getElem h,List.map_append,List.sum_append]
 simp
theorem uH(ss:List dE){k:Nat}(h:ss.length<=k):pre ss k=(vZ ss).size:=by
 unfold pre
 rw[List.take_of_length_le h,KR]
theorem wZ(ss:List dE){a b:Nat}(h:a<=b):pre ss a<=pre ss b:=by
 induction b with
 |zero=>rw[show a=0 by omega];exact Nat.le_refl _
 |succ b w=>
  rcases Nat.eq_or_lt_of_le h with e|e
  .subst e;exact Nat.le_refl _
  .have:=w (by omega)
   rcases Nat.lt_or_ge b ss.length with u|u
   .rw[wY u];omega
   .rw[uH ss (show ss.length<=b+1 by omega),<-uH ss u];exact this
theorem MH{ss:List dE}{b:Nat}(h:∀s∈ss,s.size<=b):∀{k:Nat},k<=ss.length->pre ss k<=k*b
 |0,_=>by rw[MF];omega
 |k+1,hk=>by
  have u:=MH h (k:=k) (by omega)
  have w:=h ss[k] (List.getElem_mem (by omega))
  rw[wY (by omega),Nat.succ_mul]
  omega
def ow(ss:List dE)(n:Nat):List Nat:=(List.range (n+1)).map (pre ss)
theorem uJ(ss:List dE)(n:Nat):(ow ss n).length=n+1:=by simp[ow]
theorem qa{ss:List dE}{n i:Nat}(h:i<(ow ss n).length):(ow ss n)[i]=pre ss i:=by simp[ow]
theorem G2(ss:List dE)(n:Nat):ow ss (n+1)=ow ss n++[pre ss (n+1)]:=by simp[ow,List.range_succ]
theorem EZ(ss:List dE)(n:Nat):ur (ow ss n):=by
 intro i j hi u h
 rw[qa,qa]
 exact wZ ss h
theorem Cp:∀(l:List (List UInt8)){k:Nat}(h:k<l.length),(l.flatten.drop ((l.take k).map List.length).sum).take l[k].length=l[k]
 |[],k,h=>absurd h (Nat.not_lt_zero k)
 |x::r,0,_=>by simp
 |x::r,k+1,h=>by
  have u:=Cp r (k:=k) (by simpa using h)
  simp only[List.take_succ_cons,List.map_cons,List.sum_cons,List.flatten_cons,List.getElem_cons_succ]
  rw[List.drop_append,List.drop_of_length_le (by omega),List.nil_append,show x.length+((r.take k).map List.length).sum-x.length=((r.take k).map List.length).sum by omega]
  exact u
theorem KT{ss:List dE}{k:Nat}(u:k<ss.length):(vZ ss).extract (pre ss k) (pre ss (k+1))=ss[k]:=by
 apply ByteArray.ext
 rw[ByteArray.data_extract]
 apply Array.ext'
 have h:=Cp (ss.map (·.data.toList)) (k:=k) (by simpa using u)
 have w:(((ss.map (·.data.toList)).take k).map List.length).sum=pre ss k:=by
  unfold pre
  rw[<-List.map_take,List.map_map]
  congr 1
 rw[w] at h
 simp only[List.getElem_map] at h
 rw[Array.toList_extract,wY u]
 unfold vZ
 simp only[List.extract]
 rw[show pre ss k+ss[k].size-pre ss k=ss[k].data.toList.length by rw[Array.length_toList];show _=ss[k].size;omega]
 exact h
end Go.Ex
namespace Go.Proofs.fv
open Go.Ex
structure Ok(H:dw)(g:Nat)(ss:List dE)(go:Nat)(Fo:Nat->Prop):Prop where
 fi:H[g]?=some (.cells #[.string (vZ ss),.iface qm (.pointer (some ⟨go,0,none⟩)),.int .i64 (ss.length:Int)] wG (0,0))
 SE:Bo H go (ow ss ss.length) Fo
 yr:(vZ ss).size<=8388608/\ss.length<=1000000
def HJ(H:dw)(g:Nat)(ss:List dE):Prop:=∃h Fo,Ok H g ss h Fo
theorem HJ.fC{H H':dw}{g:Nat}{ss:List dE}(p:HJ H g ss)(u:Fr fa H H'):HJ H' g ss:=by
 obtain⟨w,Fo,a⟩:=p
 exact⟨w,Fo,u.fi a.fi (λh=>h),a.SE.fC u,a.yr⟩
def uv(N U:Nat)(H:dw)(g:Nat)(ss:List dE):Prop:=(N<=g/\g<U)/\∃h Fo,Ok H g ss h Fo/\∀k,Fo k->N<=k/\k<U
theorem uv.Va{N U:Nat}{H:dw}{g:Nat}{ss:List dE}(w:uv N U H g ss):HJ H g ss:=by
 obtain⟨_,h,Fo,a,_⟩:=w
 exact⟨h,Fo,a⟩
theorem uv.eO{N U:Nat}{H H':dw}{g:Nat}{ss:List dE}{G:Nat->Prop}(w:uv N U H g ss)(u:Fr G H H')(I:∀k,G k->k<N\/U<=k):uv N U H' g ss:=by
 obtain⟨W,Y,Fo,a,O⟩:=w
 exact⟨W,Y,Fo,⟨u.fi a.fi λh=>by have:=I _ h;omega,a.SE.eO u λk Z h=>by have:=I _ h;have:=O _ Z;omega,a.yr⟩,O⟩
theorem uv.mono{N U u I:Nat}{H:dw}{g:Nat}{ss:List dE}(w:uv N U H g ss)(Y:u<=N)(Z:U<=I):uv u I H g ss:=by
 obtain⟨h,O,Fo,a,h'⟩:=w
 exact⟨⟨by omega,by omega⟩,O,Fo,a,λk W=>by have:=h' k W;omega⟩
theorem Sm{H:dw}{ss:List dE}{p:dC}{n:Nat}(h:Rd H (ss.map Value.string) p n){i:Nat}(hi:i<ss.length):∃a,p=some a/\dL H (a.add i)=some (.string ss[i]):=by
 obtain⟨a,u,w⟩:=h.get (i:=i) (v:=.string ss[i]) (by rw[List.getElem?_map,List.getElem?_eq_getElem hi];rfl)
 exact⟨a,u,w⟩
section
variable {H:dw} {g:Nat} {ss:List dE}
theorem w5{p:dC}{n c:Nat}(N:Rd H (ss.map Value.string) p n)(af:n<=c)(hn:n<=1000000)(hs:(vZ ss).size<=8388608){R:dC->Int->dw->Prop}
 (hR:∀g H',uv (Array.size H) (Array.size H') H' g ss->Fr fa H H'->R (some ⟨g,0,none⟩) 0 H'):nZ.C p n c H R:=by
 have hl:ss.length=n:=by have:=N.1;simpa using this
 apply nZ.calls
 unfold nZ.W
 refine dN λH1 h1=>?_
 have f1:Fr fa H H1:=by rw[h1];exact Fr.new _ _ _
 have an:Sl H1 gP ((ow ss 0).map DG) (some ⟨Array.size H,0,none⟩) 1 1:=by rw[h1];exact Sl.lit H gP [.int .i64 0]
 clear h1
 refine dD (λ(q:(dC×Nat×Nat)×Unit) H'=>q.1.2.1=n+1/\Sl H' gP ((ow ss n).map DG) q.1.1 q.1.2.1 q.1.2.2/\Fr fa H H') ?_ ?_
 .refine eW (λt(q:(dC×Nat×Nat)×Int×Unit) H'=>∃i:Nat,i<=n/\t=n-i/\q.2.1=(i:Int)/\q.1.2.1=i+1/\Sl H' gP ((ow ss i).map DG) q.1.1 q.1.2.1 q.1.2.2/\(∀k,eB q.1.1 k->Array.size H<=k)/\Fr fa H H') n
   ⟨0,Nat.zero_le _,rfl,rfl,rfl,an,(by rintro k ⟨a,ha,rfl⟩;cases ha;exact Nat.le_refl _),f1⟩ ?_
  rintro t ⟨⟨op,ol,oc⟩,x,_⟩ H3 ⟨i,hi,rfl,hx,w,u,O,hf⟩
  simp only at hx w u O
  subst hx w
  dsimp only
  refine eE (λaP=>?_) (λaQ=>?_)
  .have ac:i<ss.length:=by omega
   obtain⟨a,ha,hc⟩:=Sm (N.fC hf) ac
   obtain⟨h2,a2,ad,Y⟩:=Mz u.rd (i:=i) (by omega)
   rw[qa] at Y
   have hp:=wY ac
   have aq:=wZ ss (show i+1<=ss.length by omega)
   rw[uH ss (Nat.le_refl _)] at aq
   refine⟨a,ha,by omega,by omega,_,by rw[Int.toNat_natCast];exact hc,a2,ad,by omega,by omega,_,by rw[Int.toNat_natCast];exact Y,?_⟩
   rw[wrap_i64 (n:=8388608-(pre ss i:Int)) (by omega) (by omega)]
   refine eI (by omega) ⟨a2,ad,by omega,by omega,_,by rw[Int.toNat_natCast];exact Y,?_⟩
   rw[wrap_i64 (n:=(pre ss i:Int)+(ss[i].size:Int)) (by omega) (by omega),show(pre ss i:Int)+(ss[i].size:Int)=((pre ss (i+1):Nat):Int) by omega]
   refine Bk (v:=DG (pre ss (i+1))) u rfl ⟨by simp,by simp⟩ (by omega) (by decide) λp' c' H5 ar f5 au=>?_
   refine⟨n-(i+1),by omega,i+1,by omega,rfl,by show IntKind.i64.wrap ((i:Int)+1)=_;rw[wrap_i64 (by omega) (by omega)];rfl,rfl,?_,λk I=>?_,hf.trans f5 λk I=>.inr (O k I)⟩
   .show Sl H5 gP ((ow ss (i+1)).map DG) p' (i+1+1) c'
    rw[G2,List.map_append]
    exact ar
   .rcases au k I with h|h
    .exact O k h
    .exact Nat.le_trans hf.size h
  .obtain rfl:i=n:=by omega
   exact⟨rfl,u,hf⟩
 rintro⟨⟨op,ol,oc⟩,_⟩ H2 ⟨w,u,f2⟩
 simp only at w u
 subst w
 dsimp only
 have ay:lz (ow ss n)=(vZ ss).size:=by
  unfold lz
  rw[List.getD_eq_getElem?_getD,List.getElem?_eq_getElem (by rw[uJ];omega),Option.getD_some,qa,uJ]
  exact uH ss (by omega)
 have ai:Rd H2 (((ow ss n).map Int.ofNat).map (Value.int .i64)) op (n+1):=by
  rw[List.map_map]
  exact u.rd
 refine BN ai (by omega) (λl _ he _ aR go H6 tO f6=>?_) (λae=>?_)
 .have:l=ow ss n:=by
   have h:=congrArg (List.map Int.toNat) he
   rw[List.map_map,List.map_map] at h
   have e:∀l:List Nat,l.map (Int.toNat∘Int.ofNat)=l:=λl=>by
    conv=>rhs;rw[<-List.map_id l]
    apply List.map_congr_left
    intro x _
    rfl
   rw[e,e] at h
   exact h.symm
  subst this
  refine eI (by decide) ?_
  have Z:=f2.dF f6
  refine K7 (N.fC Z) af (by omega) (by omega) λH7 f7=>dN λH8 h8=>?_
  have f8:Fr fa H7 H8:=by rw[h8];exact Fr.new _ _ _
  have g8:=n0 h8
  have o8:=(tO.fC f7).fC f8
  refine hR _ H8 ⟨⟨(Z.dF f7).size,eR g8⟩,go,_,⟨?_,hl.symm▸o8,hs,by omega⟩,λk I=>⟨Nat.le_trans f2.size I.1,Nat.lt_of_lt_of_le I.2 (f7.dF f8).size⟩⟩ ((Z.dF f7).dF f8)
  rw[hl];exact g8
 .rw[PW (EZ ss n) (by omega)] at ae
  cases ae
theorem BM(p:HJ H g ss){R:Int->dw->Prop}(h:R (ss.length:Int) H):kq.C (some ⟨g,0,none⟩) H R:=by
 obtain⟨u,Fo,a⟩:=p
 apply kq.calls
 unfold kq.W
 exact dH rfl ⟨_,rfl,_,(dO a.fi 0 2).trans rfl,h⟩
theorem yN(p:HJ H g ss){R:dC->dw->Prop}(u:∀h Fo,Bo H h (ow ss ss.length) Fo->R (some ⟨h,0,none⟩) H):iI.C (some ⟨g,0,none⟩) H R:=by
 obtain⟨h,Fo,a⟩:=p
 apply iI.calls
 unfold iI.W
 exact⟨_,rfl,_,(dO a.fi 0 1).trans rfl,_,true,.inl ⟨rfl,rfl⟩,u h Fo a.SE⟩
theorem vw(p:HJ H g ss)(w:Gd H)(k:Int){R:dE->Int->dw->Prop}(h1:∀(i:Nat)(hi:i<ss.length) H',k=(i:Int)->Fr fa H H'->R ss[i] 0 H')(I:(k<0\/(ss.length:Int)<=k)->R ⟨#[]⟩ 4 H):jQ.C (some ⟨g,0,none⟩) k H R:=by
 have ac:ss.length<=1000000:=by obtain⟨go,Fo,a⟩:=p;exact a.yr.2
 apply jQ.calls
 unfold jQ.W
 refine fg (fg ?_)
 refine eE (λN=>eN rfl (I (.inl N))) (λN=>BM p (eE (λO=>I (.inr O)) (λO=>?_)))
 obtain⟨i,rfl⟩:∃n:Nat,k=(n:Int):=⟨k.toNat,by omega⟩
 have hi:i<ss.length:=by omega
 refine yN p λgo Fo o=>?_
 refine vz o w _ (λj hj H5 e h=>?_) (λu=>by rw[uJ] at u;omega)
 obtain rfl:i=j:=by omega
 rw[qa]
 have Y:=p.fC h
 refine yN Y λaj ak o5=>?_
 rw[wrap_i64 (n:=(i:Int)+1) (by omega) (by omega)]
 refine vz o5 (w.fC h) _ (λj' am H7 e7 Z=>?_) (λu=>by rw[uJ] at u;omega)
 obtain rfl:j'=i+1:=by omega
 rw[qa]
 have p7:=Y.fC Z
 obtain⟨an,ao,a7⟩:=p7
 have hm:=wZ ss (show i<=i+1 by omega)
 have aa:=wZ ss (show i+1<=ss.length by omega)
 rw[uH ss (Nat.le_refl _)] at aa
 refine⟨_,rfl,_,(dO a7.fi 0 0).trans rfl,by omega,by omega,by omega,by omega,?_⟩
 rw[Int.toNat_natCast,Int.toNat_natCast,KT hi]
 exact h1 i hi H7 rfl (h.dF Z)
end
end Go.Proofs.fv
namespace Go.Ex
def tv(b:Nat)(l:List Nat):List Nat:=l.filter (λx=>!x.testBit b)++l.filter (λx=>x.testBit b)
def u6(W:Nat)(l:List Nat):Nat->List Nat
 |0=>l
 |k+1=>tv (W-1-k) (u6 W l k)
def pO(W:Nat)(l:List Nat)(k:Nat):List Bool:=(u6 W l k).map λx=>x.testBit (W-1-k)
theorem Ce(b:Nat)(l:List Nat):(tv b l).length=l.length:=by
 unfold tv
 rw[List.length_append,<-List.countP_eq_length_filter,<-List.countP_eq_length_filter]
 have:=List.length_eq_countP_add_countP (λx:Nat=>x.testBit b) (l:=l)
 simp at this⊢
 omega
theorem Au(W:Nat)(l:List Nat):∀k,(u6 W l k).length=l.length
 |0=>rfl
 |k+1=>by rw[u6,Ce,Au W l k]
def vr(W:Nat)(l:List Nat)(k u:Nat)(h:Bool):Nat:=rk (pO W l k) u h+(if h then(pO W l k).count false else 0)
def qz(W:Nat)(l:List Nat)(s h:Nat):Nat->Nat
 |0=>h
 |k+1=>vr W l k (qz W l s h k) (s.testBit (W-1-k))
theorem uC(W:Nat)(l:List Nat)(k:Nat):u6 W l (k+1)=tv (W-1-k) (u6 W l k):=rfl
theorem sM(W:Nat)(l:List Nat)(s h k:Nat):qz W l s h (k+1)=vr W l k (qz W l s h k) (s.testBit (W-1-k)):=rfl
def agree(W s k x:Nat):Bool:=(List.range k).all λj=>x.testBit (W-1-j)==s.testBit (W-1-j)
theorem Bl(W s k x:Nat):agree W s (k+1) x=(agree W s k x&&(x.testBit (W-1-k)==s.testBit (W-1-k))):=by
 unfold agree
 rw[List.range_succ,List.all_append]
 simp
theorem Fs(p:Nat->Bool)(l:List Nat)(i:Nat):(l.filter p).take ((l.take i).countP p)=(l.take i).filter p:=by
 conv=>lhs;rw[<-List.take_append_drop i l]
 rw[List.filter_append,List.countP_eq_length_filter]
 have:((l.take i++l.drop i).take i)=l.take i:=by rw[List.take_append_drop]
 rw[this]
 exact List.take_left
theorem GO(f:Nat->Bool)(l:List Nat)(n:Nat)(h:Bool):rk (l.map f) n h=(l.take n).countP λx=>f x==h:=by
 unfold rk
 rw[<-List.map_take,List.count_eq_countP,List.countP_map]
 rfl
theorem Mb{A S B:List Nat}{c:Nat}(h:c<=S.length):(A++S++B).take (A.length+c)=A++S.take c:=by
 rw[List.append_assoc,List.take_append,List.take_of_length_le (by omega),show A.length+c-A.length=c by omega,List.take_append,show c-S.length=0 by omega]
 simp
theorem A3(b:Nat)(h:Bool):(λx:Nat=>x.testBit b==h)=if h then(λx:Nat=>x.testBit b) elseλx=>!x.testBit b:=by
 cases h<;>funext x<;>simp
theorem Xv(W:Nat)(l:List Nat)(s:Nat):∀k,∃A B,u6 W l k=A++l.filter (agree W s k)++B/\A.length=qz W l s 0 k
 |0=>⟨[],[],by
   have:agree W s 0=λ_=>true:=by funext x;rfl
   rw[this,List.filter_eq_self.2 (λ_ _=>rfl)]
   simp[u6],rfl⟩
 |k+1=>by
  obtain⟨A,B,h,N⟩:=Xv W l s k
  have w:(l.filter (agree W s k)).filter (λx=>x.testBit (W-1-k)==s.testBit (W-1-k))=l.filter (agree W s (k+1)):=by
   rw[List.filter_filter]
   congr 1
   funext x
   rw[Bl,Bool.and_comm]
  have u:rk (pO W l k) A.length (s.testBit (W-1-k))=(A.filter λx=>x.testBit (W-1-k)==s.testBit (W-1-k)).length:=by
   unfold pO
   rw[GO,h,List.append_assoc,List.take_left,List.countP_eq_length_filter]
  cases I:s.testBit (W-1-k) with
  |false=>
   rw[I] at w u
   rw[A3] at w u
   simp only[Bool.false_eq_true,if_false] at w u
   refine⟨A.filter (λx=>!x.testBit (W-1-k)),B.filter (λx=>!x.testBit (W-1-k))++(u6 W l k).filter (λx=>x.testBit (W-1-k)),?_,?_⟩
   .rw[uC]
    unfold tv
    conv=>lhs;lhs;rw[h]
    rw[List.filter_append,List.filter_append,w]
    simp only[List.append_assoc]
   .rw[sM]
    unfold vr
    rw[<-N,I,u]
    simp
  |true=>
   rw[I] at w u
   rw[A3] at w u
   simp only[if_true] at w u
   refine⟨(u6 W l k).filter (λx=>!x.testBit (W-1-k))++A.filter (λx=>x.testBit (W-1-k)),B.filter (λx=>x.testBit (W-1-k)),?_,?_⟩
   .rw[uC]
    unfold tv
    conv=>lhs;rhs;rw[h]
    rw[List.filter_append,List.filter_append,w]
    simp only[List.append_assoc]
   .rw[sM]
    unfold vr
    rw[<-N,I,u,List.length_append]
    have:(pO W l k).count false=((u6 W l k).filter λx=>!x.testBit (W-1-k)).length:=by
     unfold pO
     rw[List.count_eq_countP,List.countP_map,List.countP_eq_length_filter]
     congr 1
     congr 1
     funext x
     simp
    rw[this]
    simp
    omega
theorem I8(W:Nat)(l:List Nat)(s:Nat){u:Nat}(h:u<=l.length):∀k,qz W l s u k=qz W l s 0 k+(l.take u).countP (agree W s k)
 |0=>by
  have:agree W s 0=λ_=>true:=by funext x;rfl
  rw[this,List.countP_eq_length_filter,List.filter_eq_self.2 (λ_ _=>rfl)]
  simp[qz]
  omega
 |k+1=>by
  obtain⟨A,B,I,N⟩:=Xv W l s k
  rw[sM,sM,I8 W l s h k]
  unfold vr
  have w:(l.take u).countP (agree W s k)<=(l.filter (agree W s k)).length:=by
   rw[<-List.countP_eq_length_filter]
   exact(List.take_sublist _ _).countP_le
  have O:rk (pO W l k) (qz W l s 0 k+(l.take u).countP (agree W s k)) (s.testBit (W-1-k))=rk (pO W l k) (qz W l s 0 k) (s.testBit (W-1-k))+(l.take u).countP (agree W s (k+1)):=by
   unfold pO
   rw[GO,GO,I,<-N,Mb w,Fs,List.countP_append,List.append_assoc,List.take_left]
   congr 1
   rw[List.countP_filter]
   congr 1
   funext x
   rw[Bl,Bool.and_comm]
  rw[O]
  omega
theorem A2(p:Nat->Bool)(l:List Nat){i:Nat}(hi:i<l.length)(h:p l[i]=true):(l.filter p)[(l.take i).countP p]?=some l[i]:=by
 have e:l=l.take i++l[i]::l.drop (i+1):=by rw[<-List.drop_eq_getElem_cons hi,List.take_append_drop]
 have u:l.filter p=(l.take i).filter p++l[i]::(l.drop (i+1)).filter p:=by
  conv=>lhs;rw[e]
  rw[List.filter_append,List.filter_cons,if_pos h]
 rw[u,List.countP_eq_length_filter,List.getElem?_append_right (Nat.le_refl _)]
 simp
theorem Sj(W:Nat)(l:List Nat)(s:Nat){i:Nat}(hi:i<l.length)(k:Nat)(h:agree W s k l[i]=true):(u6 W l k)[qz W l s i k]?=some l[i]:=by
 obtain⟨A,B,w,I⟩:=Xv W l s k
 have u:(l.take i).countP (agree W s k)<(l.filter (agree W s k)).length:=by
  have:=A2 (agree W s k) l hi h
  exact(List.getElem?_eq_some_iff.1 this).1
 rw[w,I8 W l s (by omega) k,<-I,List.append_assoc,List.getElem?_append_right (by omega),show A.length+(l.take i).countP (agree W s k)-A.length=(l.take i).countP (agree W s k) by omega,List.getElem?_append_left u,A2 _ l hi h]
theorem HC(W s k:Nat):agree W s k s=true:=by
 unfold agree
 simp
theorem TT(W:Nat)(l:List Nat)(s:Nat){i:Nat}(hi:i<l.length)(k:Nat)(h:agree W s k l[i]=true):(pO W l k)[qz W l s i k]?=some (l[i].testBit (W-1-k)):=by
 unfold pO
 rw[List.getElem?_map,Sj W l s hi k h]
 rfl
end Go.Ex
namespace Go.Proofs.fv
open Go.Ex
abbrev Pq(b:Nat):dB:=.iface lJ (.pointer (some ⟨b,0,none⟩))
structure T2(H:dw)(g:Nat)(l:List Nat)(sg st:Nat)(gs:List Nat)(lp:dC)(lc:Nat)(Fb:Nat->Prop):Prop where
 fi:H[g]?=some (.cells #[.slice lp gs.length lc,.int .i64 (l.length:Int),.int .i64 (sg:Int),.int .i64 (st:Int)] pN (0,0))
 sl:Sl H nw (gs.map Pq) lp gs.length lc
 wid:gs.length=ma (sg-1)
 rows:∀k(h:k<gs.length),oU H gs[k] (pO gs.length l k) Fb
 Bx:∀x∈l,x<sg
 yr:l.length<=1048576
 pos:1<=sg/\sg<=1048576
 ng:¬Fb g
def pC(H:dw)(g:Nat)(l:List Nat)(sg st:Nat)(F:Nat->Prop):Prop:=∃w h I u,T2 H g l sg st w h I u/\F g/\(∀k,eB h k->F k)/\(∀k,u k->F k)/\∀k,F k->k<Array.size H
theorem pC.eO{H H':dw}{g:Nat}{l:List Nat}{sg st:Nat}{F G:Nat->Prop}(h:pC H g l sg st F)(w:Fr G H H')(I:∀k,F k->¬G k):pC H' g l sg st F:=by
 obtain⟨Y,Z,lc,Fb,h,N,O,W,h4⟩:=h
 exact⟨Y,Z,lc,Fb,⟨w.fi h.fi (I _ N),h.sl.eO w λk u=>I k (O k u),h.wid,λk u=>(h.rows k u).eO w λj hj=>I j (W j hj),h.Bx,h.yr,h.pos,h.ng⟩,N,O,W,λk u=>Nat.lt_of_lt_of_le (h4 k u) w.size⟩
theorem pC.fC{H H':dw}{g:Nat}{l:List Nat}{sg st:Nat}{F:Nat->Prop}(h:pC H g l sg st F)(u:Fr fa H H'):pC H' g l sg st F:=h.eO u λ_ _ h=>h
section
variable {H:dw} {g:Nat} {l:List Nat} {sg st:Nat} {F:Nat->Prop}
def iZ(sg:Nat):Nat:=ma (sg-1)
theorem E3{sg:Nat}(h:sg<=1048576):iZ sg<=20:=nj.2 (by omega)
theorem pC.step(h:pC H g l sg st F)(n:Nat){H':dw}(I:H'=gO H ((⟨g,0,none⟩:dA).add 3) (.int .i64 (n:Int))):pC H' g l sg n F/\Fr (λk=>k=g) H H':=by
 have w:=mw I
 obtain⟨N,O,W,Y,h,Z,h2,h3,h4⟩:=h
 refine⟨⟨N,O,W,Y,⟨kI I h.fi,h.sl.eO w λk u e=>h.sl.ne h.fi (by decide) (e▸u),h.wid,λk u=>(h.rows k u).eO w λj hj e=>h.ng (e▸hj),h.Bx,h.yr,h.pos,h.ng⟩,Z,h2,h3,λk u=>Nat.lt_of_lt_of_le (h4 k u) w.size⟩,w⟩
theorem pC.cells(h:pC H g l sg st F):(∃u w,dL H ((⟨g,0,none⟩:dA).add 0)=some (.slice u (iZ sg) w))/\dL H ((⟨g,0,none⟩:dA).add 1)=some (.int .i64 (l.length:Int))/\dL H ((⟨g,0,none⟩:dA).add 2)=some (.int .i64 (sg:Int))/\dL H ((⟨g,0,none⟩:dA).add 3)=some (.int .i64 (st:Int))/\fH H ((⟨g,0,none⟩:dA).add 3)=false:=by
 obtain⟨I,u,w,N,h,_⟩:=h
 refine⟨⟨u,w,?_⟩,(dO h.fi 0 1).trans rfl,(dO h.fi 0 2).trans rfl,(dO h.fi 0 3).trans rfl,fK h.fi 0 3⟩
 unfold iZ
 rw[<-h.wid]
 exact(dO h.fi 0 0).trans rfl
theorem vu(h:pC H g l sg st F){k:Nat}(hk:k<iZ sg){R:dC->dw->Prop}(O:∀b w,oU H b (pO (iZ sg) l k) w->¬w g->R (some ⟨b,0,none⟩) H):jL.C (some ⟨g,0,none⟩) (k:Int) H R:=by
 obtain⟨I,lp,lc,w,h,_⟩:=h
 have Y:I.length=iZ sg:=h.wid
 apply jL.calls
 unfold jL.W
 have u:k<I.length:=by omega
 obtain⟨a,Z,hc⟩:=h.sl.rd.get (i:=k) (v:=Pq I[k]) (by rw[List.getElem?_map,List.getElem?_eq_getElem u];rfl)
 have N:=h.rows k u
 rw[Y] at N
 exact⟨_,rfl,_,_,_,(dO h.fi 0 0).trans rfl,a,Z,by omega,by omega,_,by rw[Int.toNat_natCast];exact hc,_,true,.inl ⟨rfl,rfl⟩,O _ _ N h.ng⟩
end
theorem Mr(W:Nat)(l:List Nat)(k:Nat):(pO W l k).length=l.length:=by unfold pO;rw[List.length_map,Au]
theorem KM(m:List Bool):m.count true+m.count false=m.length:=by
 induction m with
 |nil=>rfl
 |cons b l h=>cases b<;>simp<;>omega
section
variable {H:dw} {g:Nat} {l:List Nat} {sg st:Nat} {F:Nat->Prop}
theorem pC.yr(h:pC H g l sg st F):l.length<=1048576/\1<=sg/\sg<=1048576:=by obtain⟨_,_,_,_,h,_⟩:=h;exact⟨h.yr,h.pos⟩
theorem pC.own(h:pC H g l sg st F):F g/\∀k,F k->k<Array.size H:=by obtain⟨_,_,_,_,_,u,_,_,w⟩:=h;exact⟨u,w⟩
theorem Bm(h:pC H g l sg st F)(ap:st<=1099511627776){k u:Nat}(hk:k<iZ sg)(w:Bool){R:Int->dw->Prop}
 (Y:∀H',pC H' g l sg (st+1) F->Fr (λk=>k=g) H H'->R (vr (iZ sg) l k u w:Int) H'):jw.C (some ⟨g,0,none⟩) (k:Int) (u:Int) w H R:=by
 obtain⟨_,_,_,Z,z3⟩:=h.cells
 have ak:=h.yr
 apply jw.calls
 unfold jw.W
 refine⟨_,rfl,_,Z,_,rfl,⟨_,Z⟩,z3,dN λH1 O=>?_⟩
 rw[wrap_i64 (n:=(st:Int)+1) (by omega) (by omega),show(st:Int)+1=((st+1:Nat):Int) by omega] at O
 obtain⟨w1,f1⟩:=h.step (st+1) O
 clear O
 refine vu w1 hk λb Fb hb aq=>?_
 have an:=Mr (iZ sg) l k
 refine lS hb _ w λH3 f3=>fg ?_
 rw[Int.toNat_natCast]
 have hr:=EN (pO (iZ sg) l k) u w
 have N:∀H',Fr fa H1 H'->pC H' g l sg (st+1) F/\Fr (λk=>k=g) H H':=λH' hf=>⟨w1.fC hf,f1.trans hf λ_ h=>h.elim⟩
 refine jI (λae=>?_) (λaf=>?_)
 .subst ae
  have I:=hb.fC f3
  refine mo I (mo I ?_)
  refine lS I _ true λH7 f7=>dN λn hn=>?_
  rw[Int.toNat_natCast,tW _ (Nat.le_refl _)] at hn
  have ar:=KM (pO (iZ sg) l k)
  have e:n=(vr (iZ sg) l k u true:Int):=by
   rw[hn,wrap_i64 (n:=((pO (iZ sg) l k).length:Int)-((pO (iZ sg) l k).count true:Int)) (by omega) (by omega),wrap_i64 (by omega) (by omega)]
   unfold vr
   rw[if_pos rfl]
   omega
  rw[e]
  obtain⟨a1,a2⟩:=N H7 (f3.dF f7)
  exact Y H7 a1 a2
 .subst af
  obtain⟨a1,a2⟩:=N H3 f3
  have e:(rk (pO (iZ sg) l k) u false:Int)=(vr (iZ sg) l k u false:Int):=by unfold vr;simp
  dsimp only
  rw[e]
  exact Y H3 a1 a2
end
section
variable {H:dw} {g:Nat} {l:List Nat} {sg st:Nat} {F:Nat->Prop}
theorem pC.sym(h:pC H g l sg st F):(∀x∈l,x<2^iZ sg)/\∀s,s<sg->s<2^iZ sg:=by
 have w:=h.yr
 have I:=zB (sg-1)
 obtain⟨_,_,_,_,h,_⟩:=h
 unfold iZ
 exact⟨λx u=>by have:=h.Bx x u;omega,λs N=>by omega⟩
theorem BL(h:pC H g l sg st F){R:Int->dw->Prop}(u:R (l.length:Int) H):km.C (some ⟨g,0,none⟩) H R:=by
 obtain⟨_,w,_⟩:=h.cells
 apply km.calls
 unfold km.W
 exact dH rfl ⟨_,rfl,_,w,u⟩
end
end Go.Proofs.fv
namespace Go.Ex
open Go.RowKit
theorem Py{w:fe}{a:dA}{len:Nat}{k:IntKind}{zs:List Int}(u:len<=zs.length)(h:∀i,i<zs.length->w.cell? (a.add i)=some (.int k (zs.getD i 0))):
 Rd w.heap ((zs.take len).map (Value.int k)) (some a) len:=by
 refine⟨by simp;omega,λi hi=>⟨a,rfl,?_⟩⟩
 have:=h i (by omega)
 rw[mZ] at this
 rw[this,List.getElem?_map,List.getElem?_take_of_lt hi,List.getD_eq_getElem?_getD,List.getElem?_eq_getElem (by omega)]
 rfl
theorem Px(H:dw):Rd H [] none 0:=⟨rfl,λi h=>absurd h (by omega)⟩
end Go.Ex
namespace Go.Proofs.fv
open Go.Ex
section
variable {H:dw} {g:Nat} {l:List Nat} {sg st:Nat} {F:Nat->Prop}
def WB(H:dw)(g:Nat)(l:List Nat)(sg:Nat)(F:Nat->Prop):Prop:=∃st,st<=5*iZ sg/\pC H g l sg st F
theorem WB.eO{H H':dw}{G:Nat->Prop}(h:WB H g l sg F)(u:Fr G H H')(w:∀k,F k->¬G k):WB H' g l sg F:=by
 obtain⟨st,I,h⟩:=h
 exact⟨st,I,h.eO u w⟩
theorem WB.yr(h:WB H g l sg F):l.length<=1048576/\1<=sg/\sg<=1048576:=by
 obtain⟨st,u,h⟩:=h
 exact h.yr
theorem WB.own(h:WB H g l sg F):F g/\∀k,F k->k<Array.size H:=by
 obtain⟨st,u,h⟩:=h
 exact h.own
theorem WB.Bx(h:WB H g l sg F):∀x∈l,x<sg:=by
 obtain⟨st,u,w,I,N,O,h,_⟩:=h
 exact h.Bx
end
end Go.Proofs.fv
namespace Go.Ex
theorem Mj(s W i:Nat)(h:i<W):2*(s>>>(W-i))+(if s.testBit (W-1-i) then 1 else 0)=s>>>(W-(i+1)):=by
 obtain⟨r,w⟩:∃r,W=i+1+r:=⟨W-(i+1),by omega⟩
 subst w
 rw[show i+1+r-i=r+1 by omega,show i+1+r-1-i=r by omega,show i+1+r-(i+1)=r by omega,Nat.shiftRight_succ,Nat.testBit_eq_decide_div_mod_eq,<-Nat.shiftRight_eq_div_pow]
 generalize s>>>r=x
 by_cases u:x%2=1
 .simp[u];omega
 .simp[u];omega
theorem NY{s:Nat}(u:s<2^63)(r:Nat):decide (lx .i64 (mu .i64 (s:Int) (r:Int)) 1=1)=s.testBit r:=by
 have w:s>>>r<2^63:=by rw[Nat.shiftRight_eq_div_pow];exact Nat.lt_of_le_of_lt (Nat.div_le_self _ _) u
 rw[Dc u,show(1:Int)=((1:Nat):Int) from rfl,Jv w (by decide),Nat.and_one_is_mod,Nat.testBit_eq_decide_div_mod_eq,Nat.shiftRight_eq_div_pow,Bool.eq_iff_iff]
 simp only[decide_eq_true_eq]
 constructor<;>intro h<;>first|exact_mod_cast h|omega
end Go.Ex
namespace Go.Proofs.fv
open Go.Ex
section
variable {H:dw} {g:Nat} {l:List Nat} {sg st:Nat} {F:Nat->Prop}
theorem FX(h:WB H g l sg F)(k:Int){R:Int->Int->dw->Prop}(ad:∀(i:Nat)(hi:i<l.length) H',k=(i:Int)->WB H' g l sg F->Fr (λk=>k=g) H H'->R (l[i]:Int) 0 H')(I:(k<0\/(l.length:Int)<=k)->R 0 4 H):
 kn.C (some ⟨g,0,none⟩) k H R:=by
 have hb:=h
 have aa:=h.yr
 have Y:=h.Bx
 have hn:=E3 aa.2.2
 obtain⟨st,aK,h⟩:=h
 obtain⟨_,_,_,c3,z3⟩:=h.cells
 apply kn.calls
 unfold kn.W
 refine fg (fg ?_)
 refine eE (λh0=>eN rfl (I (.inl h0))) (λh0=>?_)
 refine BL h (eE (λh1=>I (.inr h1)) (λh1=>?_))
 obtain⟨p,rfl⟩:∃n:Nat,k=(n:Int):=⟨k.toNat,by omega⟩
 have Z:p<l.length:=by omega
 obtain⟨hv,aL⟩:=h.sym
 have aM:=Y _ (List.getElem_mem Z)
 refine⟨_,rfl,⟨_,c3⟩,z3,dN λH4 ah=>?_⟩
 obtain⟨w4,f4⟩:=h.step 0 ah
 obtain⟨⟨lp,lc,c0⟩,_⟩:=w4.cells
 refine fg ⟨_,rfl,_,_,_,c0,?_⟩
 refine eW (λm q H'=>∃i:Nat,i<=iZ sg/\m=iZ sg-i/\q.1=(qz (iZ sg) l l[p] p i:Int)/\q.2.1=((l[p]>>>(iZ sg-i):Nat):Int)/\q.2.2.1=(i:Int)/\pC H' g l sg i F/\Fr (λk=>k=g) H H') (iZ sg) ⟨0,by omega,rfl,rfl,?_,rfl,w4,f4⟩ ?_
 .have:l[p]>>>(iZ sg-0)=0:=by
   rw[Nat.shiftRight_eq_div_pow]
   exact Nat.div_eq_of_lt (hv _ (List.getElem_mem Z))
  rw[this]
  rfl
 rintro m ⟨x,y,z,_⟩ H6 ⟨i,hi,rfl,hx,hy,hz,w,f⟩
 simp only at hx hy hz
 subst hx hy hz
 dsimp only
 refine eE (λaO=>?_) (λaP=>?_)
 .have ac:=TT (iZ sg) l l[p] Z i (HC _ _ _)
  obtain⟨aQ,an⟩:=List.getElem?_eq_some_iff.1 ac
  refine fg ?_
  refine vu w (by omega) λb Fb hb aR=>?_
  refine BV hb _ (λq hq H9 e f9=>?_) (λaS=>by omega)
  have:q=qz (iZ sg) l l[p] p i:=by omega
  subst this
  rw[an]
  have w9:=w.fC f9
  have N:=Mj l[p] (iZ sg) i (by omega)
  have aT:l[p]>>>(iZ sg-i)<=l[p]:=Nat.shiftRight_le _ _
  have aG:l[p]>>>(iZ sg-(i+1))<=l[p]:=Nat.shiftRight_le _ _
  refine fg (dN λs6 ap=>?_)
  rw[wrap_i64 (by omega) (by omega)] at ap
  have go:∀v:Int,v=((l[p]>>>(iZ sg-(i+1)):Nat):Int)->jw.C (some ⟨g,0,none⟩) (i:Int) (qz (iZ sg) l l[p] p i:Int) (l[p].testBit (iZ sg-1-i)) H9 λar O=>∃m,m<iZ sg-i/\∃u:Nat,u<=iZ sg/\m=iZ sg-u/\ar=(qz (iZ sg) l l[p] p u:Int)/\v=((l[p]>>>(iZ sg-u):Nat):Int)/\IntKind.i64.wrap ((i:Int)+1)=(u:Int)/\pC O g l sg u F/\Fr (λk=>k=g) H O:=by
   intro v hv
   refine Bm w9 (by omega) (by omega) _ λO au av=>⟨iZ sg-(i+1),by omega,i+1,by omega,rfl,rfl,hv,by rw[wrap_i64 (by omega) (by omega)];rfl,au,(f.trans f9 λ_ h=>h.elim).trans av λk hk=>.inl hk⟩
  refine jI (λaw=>dN λs7 ax=>?_) (λay=>?_)
  .rw[aw,if_pos rfl] at N
   rw[wrap_i64 (by omega) (by omega)] at ax
   exact go s7 (by omega)
  .rw[ay] at N
   simp only[Bool.false_eq_true,if_false] at N
   exact go s6 (by omega)
 .have:i=iZ sg:=by omega
  subst this
  rw[Nat.sub_self]
  exact ad p Z H6 rfl ⟨_,by omega,w⟩ f
end
end Go.Proofs.fv
namespace Go.Ex
theorem Rd.lt{H:dw}{xs:List dB}{p:dC}{l:Nat}(h:Rd H xs p l)(u:0<l):∀k,eB p k->k<Array.size H:=by
 rintro k ⟨a,rfl,rfl⟩
 obtain⟨N,I,w⟩:=h.2 0 u
 cases I
 rw[List.getElem?_eq_getElem (by rw[h.1];exact u)] at w
 have:=ub w
 rw[kO] at this
 exact this
abbrev yj(x:Nat):dB:=.int .i64 (x:Int)
theorem Pp{L:List Nat}{f:Nat->Bool}{i:Nat}(hi:i<L.length):(((L.take i).map f++List.replicate (L.length-i) false).map Value.bool).set i (.bool (f L[i]))=((L.take (i+1)).map f++List.replicate (L.length-(i+1)) false).map Value.bool:=by
 rw[List.take_succ_eq_append_getElem hi,show L.length-i=L.length-(i+1)+1 by omega,List.replicate_succ,List.map_append,List.map_append,List.map_append,List.map_append]
 rw[List.set_append_right _ _ (by simp;omega)]
 have:i-(List.map Value.bool ((L.take i).map f)).length=0:=by simp;omega
 rw[this]
 simp
end Go.Ex
namespace Go.Proofs.fv
open Go.Ex
theorem oU.grow{H:dw}{g:Nat}{m:List Bool}{F G:Nat->Prop}(h:oU H g m F)(u:∀k,F k->G k)(w:∀k,G k->k<Array.size H):oU H g m G:=by
 obtain⟨I,N,h,a,b,c⟩:=h
 exact⟨I,N,h,u _ a,λk O=>u _ (b k O),w⟩
theorem BK{H:dw}{zs:List Int}{p:dC}{n c:Nat}(ah:Rd H (zs.map (Value.int .i64)) p n)(hn:n<=1048576)(sg:Int){R:dC->Int->dw->Prop}
 (ai:(sg<1\/1048576<sg\/∃z,z∈zs/\(z<0\/sg<=z))->R none 1 H)
 (a6:∀(l:List Nat)(s:Nat) g H',zs=l.map (λx:Nat=>(x:Int))->sg=(s:Int)->1<=s/\s<=1048576->(∀x∈l,x<s)->WB H' g l s (λk=>Array.size H<=k/\k<Array.size H')->Fr fa H H'->R (some ⟨g,0,none⟩) 0 H'):
 o0.C p n c sg H R:=by
 apply o0.calls
 unfold o0.W
 have ax:zs.length=n:=by have:=ah.1;simpa using this
 refine dD (λ_ H'=>H=H'/\1<=sg/\sg<=1048576) ?_ ?_
 .exact fg (eE (λh0=>eN rfl (ai (.inl h0))) (λh0=>eE (λh1=>ai (.inr (.inl h1))) (λh1=>⟨rfl,by omega,by omega⟩)))
 rintro _ _ ⟨rfl,cW,cX⟩
 refine dD (λ_ H'=>H=H'/\∀z∈zs,0<=z/\z<sg) ?_ ?_
 .refine eW (λm q H'=>∃i:Nat,i<=n/\m=n-i/\q.1=(i:Int)/\H=H'/\∀j(hj:j<zs.length),j<i->0<=zs[j]/\zs[j]<sg) n ⟨0,by omega,rfl,rfl,rfl,λj _ h=>absurd h (Nat.not_lt_zero j)⟩ ?_
  rintro m ⟨x,_⟩ _ ⟨i,hi,rfl,hx,rfl,aa⟩
  simp only at hx
  subst hx
  dsimp only
  refine eE (λbC=>?_) (λbD=>⟨rfl,λz O=>?_⟩)
  .have a8:i<zs.length:=by omega
   obtain⟨a,Y,hc⟩:=ah.get (i:=i) (v:=.int .i64 zs[i]) (by rw[List.getElem?_map,List.getElem?_eq_getElem a8];rfl)
   refine dD (λ_ H'=>H=H'/\0<=zs[i]/\zs[i]<sg) ?_ ?_
   .exact⟨a,Y,by omega,by omega,_,by rw[Int.toNat_natCast];exact hc,fg (eE (λh0=>eN rfl (ai (.inr (.inr ⟨_,List.getElem_mem a8,.inl h0⟩)))) (λh0=>eE (λh1=>ai (.inr (.inr ⟨_,List.getElem_mem a8,.inr h1⟩))) (λh1=>⟨rfl,by omega,by omega⟩)))⟩
   .rintro _ _ ⟨rfl,h0,h1⟩
    refine⟨n-(i+1),by omega,i+1,by omega,rfl,by show IntKind.i64.wrap ((i:Int)+1)=_;rw[wrap_i64 (by omega) (by omega)];rfl,rfl,λj hj cY=>?_⟩
    rcases Nat.lt_or_ge j i with h|h
    .exact aa j hj h
    .have:j=i:=by omega
     subst this
     exact⟨h0,h1⟩
  .obtain⟨j,hj,rfl⟩:=List.getElem_of_mem O
   exact aa j hj (by omega)
 rintro _ _ ⟨rfl,aa⟩
 clear ai
 refine eI (by omega) (dN λH7 h7=>fg ?_)
 obtain⟨l,rfl⟩:∃l:List Nat,zs=l.map (λx:Nat=>(x:Int)):=⟨zs.map Int.toNat,by
  rw[List.map_map]
  conv=>lhs;rw[<-List.map_id zs]
  apply List.map_congr_left
  intro z O
  have:=aa z O
  simp
  omega⟩
 obtain⟨s,rfl⟩:∃s:Nat,sg=(s:Int):=⟨sg.toNat,by omega⟩
 have aB:∀x∈l,x<s:=λx hx=>by
  have:=(aa (x:Int) (List.mem_map.2 ⟨x,hx,rfl⟩)).2
  omega
 have a6:=λg H'=>a6 l s g H' rfl rfl (by omega) aB
 have ax:l.length=n:=by simpa using ax
 have ah:Rd H (l.map yj) p n:=by rw[List.map_map] at ah;exact ah
 clear aa
 rw[wrap_i64 (n:=(s:Int)-1) (by omega) (by omega),show(s:Int)-1=((s-1:Nat):Int) by omega,fL (by omega)]
 refine wa (by omega) (dN λk9 b2=>?_)
 have hW:ma (s-1)=iZ s:=rfl
 have cA:=E3 (sg:=s) (by omega)
 rw[hW,wrap_i64 (by omega) (by omega)] at b2
 have f7:Fr fa H H7:=by rw[h7];exact Fr.new _ _ _
 have g7:=n0 h7
 clear h7
 generalize cZ:Array.size H=g at*
 generalize b4:iZ s=W at*
 have b5:∀k,k<Array.size H->k≠g:=λk u=>by omega
 refine eW (λm(q:(dC×Nat×Nat)×Int×Unit) H'=>∃(j:Nat)(gs:List Nat)(Z:dC)(lc:Nat)(Fb:Nat->Prop),j<=W/\m=W-j/\q.2.1=(W:Int)-1-(j:Int)/\q.1.2.1=n/\
  H'[g]?=some (.cells #[.slice Z j lc,.int .i64 (n:Int),.int .i64 (s:Int),.int .i64 0] pN (0,0))/\gs.length=j/\Sl H' nw (gs.map Pq) Z j lc/\(∀k(h:k<gs.length),oU H' gs[k] (pO W l k) Fb)/\
  (∀k,Fb k->g<=k/\k≠g/\¬eB Z k/\k<Array.size H')/\(∀k,eB Z k->g<=k)/\Rd H' ((u6 W l j).map yj) q.1.1 n/\(0<n->∀k,eB q.1.1 k->k≠g/\¬eB Z k)/\Fr fa H H') W
  ⟨0,[],none,0,fa,by omega,rfl,by show k9=_;omega,rfl,g7,rfl,Sl.nil _ _,λk h=>absurd h (Nat.not_lt_zero k),λ_ h=>h.elim,(by rintro k ⟨a,Y,_⟩;cases Y),ah.fC f7,λh0 k u=>⟨b5 k (ah.lt h0 k u),by rintro⟨a,Y,_⟩;cases Y⟩,f7⟩ ?_
 rintro m ⟨⟨xp,I,xc⟩,y,_⟩ w ⟨j,gs,Z,lc,Fb,hj,rfl,hy,bE,aC,ar,aR,aS,ae,ba,aT,bO,bF⟩
 simp only at hy bE aT bO
 subst hy bE
 dsimp only
 refine eE (λbD=>?_) (λbC=>?_)
 .have c0:j<W:=by omega
  generalize bG:W-1-j=b
  rw[show(W:Int)-1-(j:Int)=((b:Nat):Int) by omega]
  have hL:=Au W l j
  generalize bb:u6 W l j=L at*
  rw[ax] at hL
  refine dD (λ(q:(dC×Nat×Nat)×Unit) H'=>∃(gs:List Nat)(Z:dC)(lc:Nat)(Fb:Nat->Prop),q.1.2.1=I/\
   H'[g]?=some (.cells #[.slice Z (j+1) lc,.int .i64 (I:Int),.int .i64 (s:Int),.int .i64 0] pN (0,0))/\gs.length=j+1/\Sl H' nw (gs.map Pq) Z (j+1) lc/\(∀k(h:k<gs.length),oU H' gs[k] (pO W l k) Fb)/\
   (∀k,Fb k->g<=k/\k≠g/\¬eB Z k/\k<Array.size H')/\(∀k,eB Z k->g<=k)/\Rd H' ((tv b L).map yj) q.1.1 I/\(0<I->∀k,eB q.1.1 k->k≠g/\¬eB Z k)/\Fr fa H H') ?_ ?_
  .refine⟨by omega,by omega,by omega,?_⟩
   rw[Int.toNat_natCast]
   refine dN λbc aU=>?_
   have b7:Fr fa w bc:=by rw[aU];exact Fr.new _ _ _
   have bQ:Sl bc iz ((List.replicate I false).map Value.bool) (some ⟨Array.size w,0,none⟩) I I:=by
    rw[aU,List.map_replicate]
    exact Sl.made w iz (z:=.bool false) rfl I
   have c1:Array.size bc=Array.size w+1:=by rw[aU];exact gi
   clear aU
   refine dD (λ(q:(dC×Nat×Nat)×(dC×Nat×Nat)×Unit) H'=>Sl H' gP ((L.filter (λx=>!x.testBit b)).map yj) q.1.1 q.1.2.1 q.1.2.2/\Sl H' gP ((L.filter (λx=>x.testBit b)).map yj) q.2.1.1 q.2.1.2.1 q.2.1.2.2/\
    Sl H' iz ((L.map λx=>x.testBit b).map Value.bool) (some ⟨Array.size w,0,none⟩) I I/\Fr fa w H'/\(∀k,eB q.1.1 k->Array.size w<=k)/\(∀k,eB q.1.1 k->¬eB q.2.1.1 k)) ?_ ?_
   .refine eW (λm(q:(dC×Nat×Nat)×(dC×Nat×Nat)×Int×Unit) H'=>∃i:Nat,i<=I/\m=I-i/\q.2.2.1=(i:Int)/\Sl H' gP (((L.take i).filter (λx=>!x.testBit b)).map yj) q.1.1 q.1.2.1 q.1.2.2/\Sl H' gP (((L.take i).filter (λx=>x.testBit b)).map yj) q.2.1.1 q.2.1.2.1 q.2.1.2.2/\
     Sl H' iz (((L.take i).map (λx=>x.testBit b)++List.replicate (L.length-i) false).map Value.bool) (some ⟨Array.size w,0,none⟩) I I/\Fr fa w H'/\(∀k,eB q.1.1 k->Array.size w<=k)/\(∀k,eB q.2.1.1 k->Array.size w<=k)/\(∀k,eB q.1.1 k->¬eB q.2.1.1 k)) I
     ⟨0,by omega,rfl,rfl,Sl.nil _ _,Sl.nil _ _,by simpa[hL] using bQ,b7,(by rintro k ⟨a,Y,_⟩;cases Y),(by rintro k ⟨a,Y,_⟩;cases Y),(by rintro k ⟨a,Y,_⟩;cases Y)⟩ ?_
    rintro m ⟨⟨zp,zl,zc⟩,⟨op,ol,oc⟩,t,_⟩ c2 ⟨i,hi,rfl,ht,O,ho,hr,bd,N,aV,af⟩
    simp only at ht O ho hr N aV af
    subst ht
    dsimp only
    have be:=O.1
    have bf:=ho.1
    have cF:zl<=i:=by rw[<-be];simp;exact Nat.le_trans (List.length_filter_le _ _) (by simp;omega)
    have cG:ol<=i:=by rw[<-bf];simp;exact Nat.le_trans (List.length_filter_le _ _) (by simp;omega)
    refine eE (λbC=>?_) (λbD=>?_)
    .have au:i<L.length:=by omega
     refine dD (λ(q:(dC×Nat×Nat)×(dC×Nat×Nat)×Unit) H'=>Sl H' gP (((L.take (i+1)).filter (λx=>!x.testBit b)).map yj) q.1.1 q.1.2.1 q.1.2.2/\Sl H' gP (((L.take (i+1)).filter (λx=>x.testBit b)).map yj) q.2.1.1 q.2.1.2.1 q.2.1.2.2/\
      Sl H' iz (((L.take (i+1)).map (λx=>x.testBit b)++List.replicate (L.length-(i+1)) false).map Value.bool) (some ⟨Array.size w,0,none⟩) I I/\Fr fa w H'/\(∀k,eB q.1.1 k->Array.size w<=k)/\(∀k,eB q.2.1.1 k->Array.size w<=k)/\(∀k,eB q.1.1 k->¬eB q.2.1.1 k)) ?_ ?_
     .obtain⟨a,Y,hc⟩:=(aT.fC bd).get (i:=i) (v:=yj L[i]) (by rw[List.getElem?_map,List.getElem?_eq_getElem au];rfl)
      have b9:L[i]<2^63:=by
       have:L[i]∈u6 W l j:=by rw[bb];exact List.getElem_mem au
       have h2:∀j x,x∈u6 W l j->x∈l:=by
        intro j
        induction j with
        |zero=>exactλx h=>h
        |succ j ih=>
         intro x hx
         rw[uC] at hx
         unfold tv at hx
         simp only[List.mem_append,List.mem_filter] at hx
         rcases hx with h|h<;>exact ih x h.1
       have:=aB _ (h2 j _ this)
       omega
      refine⟨a,Y,by omega,by omega,_,by rw[Int.toNat_natCast];exact hc,?_⟩
      rw[fL (a:=b) (by omega),NY b9]
      obtain⟨a2,ca,cb,cc,ac,aW⟩:=hr.store (i:=i) (by omega) (.bool (L[i].testBit b))
      cases ca
      refine⟨by omega,_,rfl,by omega,by omega,by rw[Int.toNat_natCast];exact cb,by rw[Int.toNat_natCast];exact cc,?_⟩
      rw[Int.toNat_natCast]
      refine dN λcd bg=>?_
      rw[<-bg,Pp (f:=λx=>x.testBit b) au] at ac
      rw[<-bg] at aW
      clear bg
      obtain⟨a3,cf,cg⟩:=ac.rd.get (i:=i) (v:=.bool (L[i].testBit b)) (by
       rw[List.take_succ_eq_append_getElem au,List.map_append,List.map_append,List.map_append,List.append_assoc,List.getElem?_append_right (by simp;omega)]
       simp[Nat.min_eq_left (Nat.le_of_lt au)])
      cases cf
      refine⟨_,rfl,by omega,by omega,_,cg,?_⟩
      have aD:=O.eO aW λk u aI=>O.ne' hr (by decide) k u aI
      have aE:=ho.eO aW λk u aI=>ho.ne' hr (by decide) k u aI
      have aF:Fr fa w cd:=bd.trans aW λk u=>.inr (by obtain⟨a,Y,rfl⟩:=u;cases Y;exact Nat.le_refl _)
      rw[List.take_succ_eq_append_getElem au,List.filter_append,List.filter_append,List.filter_cons,List.filter_cons] at*
      refine jI (λbH=>?_) (λbI=>?_)
      .refine Bk aE rfl ⟨by simp,by simp⟩ (by omega) (by decide) λp' c' ch aM am an=>?_
       refine⟨?_,?_,ac.eO am λk u aJ=>aE.ne' ac (by decide) k aJ u,aF.trans am λk u=>.inr (aV k u),N,λk u=>?_,λk u av=>?_⟩
       .rw[bH]
        simp only[Bool.not_true,Bool.false_eq_true,if_false,List.filter_nil,List.append_nil]
        exact aD.eO am af
       .rw[bH]
        simp only[if_true,List.filter_nil,List.map_append,List.map_cons,List.map_nil]
        exact aM
       .rcases an k u with h|h
        .exact aV k h
        .have:=aF.size;omega
       .rcases an k av with h|h
        .exact af k u h
        .have:=aD.gE u;omega
      .refine Bk aD rfl ⟨by simp,by simp⟩ (by omega) (by decide) λp' c' ch aM am an=>?_
       refine⟨?_,?_,ac.eO am λk u aJ=>aD.ne' ac (by decide) k aJ u,aF.trans am λk u=>.inr (N k u),λk u=>?_,aV,λk u av=>?_⟩
       .rw[bI]
        simp only[Bool.not_false,if_true,List.filter_nil,List.map_append,List.map_cons,List.map_nil]
        exact aM
       .rw[bI]
        simp only[Bool.false_eq_true,if_false,List.filter_nil,List.append_nil]
        exact aE.eO am λk u av=>af k av u
       .rcases an k u with h|h
        .exact N k h
        .have:=aF.size;omega
       .rcases an k u with h|h
        .exact af k h av
        .have:=aE.gE av;omega
     .rintro⟨⟨c3,c4,c5⟩,⟨c6,c7,c8⟩,_⟩ c9 ⟨ci,aJ,aI,cj,bT,bU,bV⟩
      exact⟨I-(i+1),by omega,i+1,by omega,rfl,by show IntKind.i64.wrap ((i:Int)+1)=_;rw[wrap_i64 (by omega) (by omega)];rfl,ci,aJ,aI,cj,bT,bU,bV⟩
    .have:i=L.length:=by omega
     subst this
     rw[List.take_length] at O ho hr
     rw[Nat.sub_self,List.replicate_zero,List.append_nil] at hr
     exact⟨O,ho,hr,bd,N,af⟩
   rintro⟨⟨zp,zl,zc⟩,⟨op,ol,oc⟩,_⟩ bh ⟨O,ho,hr,bJ,N,af⟩
   simp only at O ho hr N af
   dsimp only
   have ck:(L.map λx=>x.testBit b)=pO W l j:=by unfold pO;rw[bb,bG]
   rw[ck] at hr
   refine rF hr.rd (by omega) λgb bK tb aK=>?_
   have ag:=bJ.dF aK
   have aO:=ag.fi aC λh=>h
   have aG:=aR.eO ag λ_ _ h=>h
   have cJ:=bJ.size
   have cK:=aK.size
   have aH:∀k,eB Z k->k<Array.size w:=λk u=>aR.gE u
   have cm:=eR aC
   refine⟨_,rfl,_,_,_,(dO aO 0 0).trans rfl,?_⟩
   refine Bk aG rfl ⟨by simp,by simp⟩ (by omega) (by decide) λbi bj cn aX ao aP=>?_
   have cL:=ao.size
   have ad:=ao.fi aO (aG.ne aO (by decide))
   refine⟨_,rfl,⟨_,(dO ad 0 0).trans rfl⟩,fK ad 0 0,dN λda bk=>?_⟩
   have bm:=kI bk ad
   have ap:=mw bk
   clear bk
   have cM:=ap.size
   have bX:∀k,eB zp k->¬eB Z k:=λk u h=>by have:=N k u;have:=aH k h;omega
   have bn:=(O.eO aK λ_ _ h=>h).eO ao bX
   have bo:=(ho.eO aK λ_ _ h=>h).eO ao λk u h=>(ho.eO aK λ_ _ h=>h).ne' aG (by decide) k u h
   have aQ:=bn.eO ap λk u e=>bn.ne ad (by decide) (e▸u)
   have bp:=bo.eO ap λk u e=>bo.ne ad (by decide) (e▸u)
   have aY:=aX.eO ap λk u e=>aX.ne ad (by decide) (e▸u)
   have be:=O.1
   have bf:=ho.1
   have bL:(tv b L).length=I:=by rw[Ce,hL]
   have bq:zl+ol=I:=by
    unfold tv at bL
    rw[List.length_append] at bL
    rw[List.length_map] at be bf
    omega
   refine xK aQ rfl (FP bp.rd) bp.1 (λv hv=>by obtain⟨x,_,rfl⟩:=List.mem_map.1 hv;exact⟨by simp,by simp⟩) (by omega) (by decide) λp' c' bM br aw bY=>?_
   have cO:=aw.size
   have aZ:=aY.eO aw λk u h=>aQ.ne' aY (by decide) k h u
   have bZ:=aw.fi bm (aQ.ne bm (by decide))
   have a0:Sl bM gP ((tv b L).map yj) p' (zl+ol) c':=by
    unfold tv
    rw[List.map_append]
    exact br
   have co:∀k,Fb k->¬eB zp k:=λk u h=>by have:=N k h;have:=(ae k u).2.2.2;omega
   have b0:∀k,eB zp k->k<Array.size bh:=λk u=>O.gE u
   refine⟨gs++[gb],bi,bj,λk=>Fb k\/(Array.size bh<=k/\k<Array.size bK),bq,bZ,by simp[ar],by rw[List.map_append];exact aZ,?_,?_,?_,by rw[bq] at a0;exact a0.rd,?_,?_⟩
   .intro k u
    have a5:∀k,Fb k\/(Array.size bh<=k/\k<Array.size bK)->k<Array.size bM:=λk h=>by
     rcases h with h|h
     .have:=(ae k h).2.2.2;omega
     .omega
    rcases Nat.lt_or_ge k j with cp|cp
    .rw[List.getElem_append_left (by omega)]
     have t:=aS k (by omega)
     have cq:=t.eO ag λ_ _ h=>h
     have bu:=cq.eO ao λi hi=>(ae i hi).2.2.1
     have bv:=bu.eO ap λi hi=>(ae i hi).2.1
     exact(bv.eO aw co).grow (λi hi=>.inl hi) a5
    .have:k=j:=by simp[ar] at u;omega
     subst this
     rw[List.getElem_append_right (by omega)]
     have e:[gb][k-gs.length]'(by simp;omega)=gb:=by simp
     rw[e]
     have bu:=tb.eO ao λi hi h=>by have:=aH i h;omega
     have bv:=bu.eO ap λi hi h=>by omega
     have cr:=bv.eO aw λi hi h=>by have:=b0 i h;omega
     exact cr.grow (λi hi=>.inr hi) a5
   .intro k u
    rcases u with h|h
    .obtain⟨a1,a2,a3,a4⟩:=ae k h
     refine⟨a1,a2,λhb=>?_,by omega⟩
     rcases aP k hb with h'|h'
     .exact a3 h'
     .omega
    .refine⟨by omega,by omega,λhb=>?_,by omega⟩
     rcases aP k hb with h'|h'
     .have:=aH k h';omega
     .omega
   .intro k hb
    rcases aP k hb with h'|h'
    .exact ba k h'
    .omega
   .intro _ k u
    refine⟨?_,λh=>br.ne' aZ (by decide) k u h⟩
    rcases bY k u with h|h
    .have:=N k h;omega
    .omega
   .have bB:Fr fa H cn:=(bF.dF ag).trans ao λk u=>.inr (by have:=ba k u;omega)
    exact(bB.trans ap λk u=>.inr (by omega)).trans aw λk u=>.inr (by have:=N k u;omega)
  .rintro⟨⟨db,dc,dd⟩,_⟩ de ⟨ct,bi,bj,cu,h1,h2,h3,h4,h5,h6,h7,h8,h9,cv⟩
   refine dN λcw b1=>?_
   rw[wrap_i64 (by omega) (by omega)] at b1
   refine⟨W-(j+1),by omega,j+1,ct,bi,bj,cu,by omega,rfl,?_,h1,h2,h3,h4,h5,h6,h7,?_,h9,cv⟩
   .show cw=_
    omega
   .rw[uC,bG,bb]
    exact h8
 .have:j=W:=by omega
  subst this
  refine a6 g w ⟨0,by omega,gs,Z,lc,Fb,⟨?_,?_,?_,?_,aB,by omega,by omega,λh=>(ae g h).2.1 rfl⟩,⟨Nat.le_refl _,eR aC⟩,λk u=>⟨ba k u,aR.gE u⟩,λk u=>⟨(ae k u).1,(ae k u).2.2.2⟩,λk u=>u.2⟩ bF
  .rw[ar,ax];exact aC
  .rw[ar];exact aR
  .rw[ar,<-b4];rfl
  .intro k u
   rw[ar]
   exact aS k u
end Go.Proofs.fv
