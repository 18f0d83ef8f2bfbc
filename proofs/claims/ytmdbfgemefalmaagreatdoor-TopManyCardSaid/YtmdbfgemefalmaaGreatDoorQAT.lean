/- Part AT of the proof that the law TopMany answers true at every input, under no condition. -/
import Derived.Test.YtmdbfgemefalmaaGreatDoorQAS
set_option linter.unusedVariables false
set_option maxHeartbeats 2000000
set_option maxRecDepth 100000
namespace Go.Ex
def xO(ss:List ByteArray):ByteArray:=⟨(ss.map (·.data.toList)).flatten.toArray⟩
theorem Tz(ss:List ByteArray):(xO ss).size=(ss.map (·.size)).sum:=by
 unfold xO ByteArray.size
 simp only[List.size_toArray,List.length_flatten,List.map_map]
 congr 1
theorem S6:∀xs:List (List UInt8),Go.Lib.join xs []=xs.flatten
 |[]=>rfl
 |x::r=>by
  rw[Go.Lib.join_cons,List.flatten_cons]
  unfold Go.Lib.joinTail
  simp
end Go.Ex
namespace Go.Proofs.iQ
open Go.Ex
theorem TV{H:Heap}{ss:List ByteArray}{p:Option Addr}{n c:Nat}(ra:Rd H (ss.map Value.string) p n)(pK:n<=c)(hn:n<=1048576)(hs:(xO ss).size<=140737488355328){R:ByteArray->Heap->Prop}(hR:∀H',Fr gz H H'->R (xO ss) H'):strings_Join.C p n c ⟨#[]⟩ H R:=by
 intro w hw
 subst hw
 have hl:ss.length=n:=by have:=ra.1;simpa using this
 have he:(⟨(Go.Lib.join (ss.map (·.data.toList)) (⟨#[]⟩:ByteArray).data.toList).toArray⟩:ByteArray)=xO ss:=by
  unfold xO
  rw[S6]
 have hlen:(Go.Lib.join (ss.map (·.data.toList)) (⟨#[]⟩:ByteArray).data.toList).length<=140737488355328:=by
  have h:(xO ss).size=(Go.Lib.join (ss.map (·.data.toList)) (⟨#[]⟩:ByteArray).data.toList).length:=by
   rw[<-he]
   unfold ByteArray.size
   simp
  omega
 rcases Nat.eq_zero_or_pos n with h0|h0
 ·subst h0
  have ET:ss=[]:=List.eq_nil_of_length_eq_zero hl
  subst ET
  refine(Tryz.strings_Join_none p c ⟨#[]⟩ w).mono λe w'⟨h1,h2⟩=>?_
  subst h2
  exact⟨_,h1,dV.refl _,_,rfl,hR _ (Fr.refl _ _)⟩
 ·obtain⟨a,rfl,hc0⟩:=ra.2 0 h0
  rw[List.getElem?_eq_getElem (by rw[ra.1];exact h0)] at hc0
  have V0:a.spot=none:=by
   have h1:(a.add 0).spot=a.spot:=by
    unfold Addr.add
    rw[if_pos rfl]
   rw[<-h1]
   unfold dj at hc0
   split at hc0
   ·split at hc0
    ·cases hc0
    ·rename_i h2
     cases hs:(a.add 0).spot with
     |none=>rfl
     |some x=>rw[hs] at h2;exact absurd rfl h2
   ·cases hc0
  have Ga:=u5 hc0
  rw[ke] at Ga
  obtain⟨b,o,sp⟩:=a
  simp only at V0 Ga
  subst V0
  subst hl
  refine(Tryz.strings_Join b o c ss ⟨#[]⟩ w (λj x hj=>?_) Ga (by omega) pK hlen).mono λe w'⟨h1,h2⟩=>?_
  ·obtain⟨a',ha,hc⟩:=ra.get (i:=j) (v:=.string x) (by rw[List.getElem?_map,hj];rfl)
   cases ha
   rw[iM] at hc
   rw[kA]
   exact hc
  ·rw[he] at h1
   exact⟨_,h1,⟨h2.os,h2.tape,h2.output⟩,_,rfl,hR _ ⟨h2.size,λk hk _=>h2.block k hk⟩⟩
end Go.Proofs.iQ
namespace Go.Ex
def pre(ss:List ByteArray)(k:Nat):Nat:=((ss.take k).map (·.size)).sum
theorem WY(ss:List ByteArray):pre ss 0=0:=rfl
theorem y5{ss:List ByteArray}{k:Nat}(h:k<ss.length):pre ss (k+1)=pre ss k+ss[k].size:=by
 unfold pre
 rw[List.take_succ_eq_append_getElem h,List.map_append,List.sum_append]
 simp
theorem vK(ss:List ByteArray){k:Nat}(h:ss.length<=k):pre ss k=(xO ss).size:=by
 unfold pre
 rw[List.take_of_length_le h,Tz]
theorem y7(ss:List ByteArray){a b:Nat}(h:a<=b):pre ss a<=pre ss b:=by
 induction b with
 |zero=>rw[show a=0 by omega];exact Nat.le_refl _
 |succ b ih=>
  rcases Nat.eq_or_lt_of_le h with e|e
  ·subst e;exact Nat.le_refl _
  ·have:=ih (by omega)
   rcases Nat.lt_or_ge b ss.length with hb|hb
   ·rw[y5 hb];omega
   ·rw[vK ss (show ss.length<=b+1 by omega),<-vK ss hb];exact this
theorem WZ{ss:List ByteArray}{b:Nat}(h:∀s∈ss,s.size<=b):∀{k:Nat},k<=ss.length->pre ss k<=k*b
 |0,_=>by rw[WY];omega
 |k+1,hk=>by
  have h1:=WZ h (k:=k) (by omega)
  have h2:=h ss[k] (List.getElem_mem (by omega))
  rw[y5 (by omega),Nat.succ_mul]
  omega
def nT(ss:List ByteArray)(n:Nat):List Nat:=(List.range (n+1)).map (pre ss)
theorem vL(ss:List ByteArray)(n:Nat):(nT ss n).length=n+1:=by simp[nT]
theorem qe{ss:List ByteArray}{n i:Nat}(h:i<(nT ss n).length):(nT ss n)[i]=pre ss i:=by simp[nT]
theorem N6(ss:List ByteArray)(n:Nat):nT ss (n+1)=nT ss n++[pre ss (n+1)]:=by simp[nT,List.range_succ]
theorem Ly(ss:List ByteArray)(n:Nat):vq (nT ss n):=by
 intro i j hi hj B8
 rw[qe,qe]
 exact y7 ss B8
theorem Hk:∀(l:List (List UInt8)){k:Nat}(hk:k<l.length),(l.flatten.drop ((l.take k).map List.length).sum).take l[k].length=l[k]
 |[],k,hk=>absurd hk (Nat.not_lt_zero k)
 |x::r,0,_=>by simp
 |x::r,k+1,hk=>by
  have ih:=Hk r (k:=k) (by simpa using hk)
  simp only[List.take_succ_cons,List.map_cons,List.sum_cons,List.flatten_cons,List.getElem_cons_succ]
  rw[List.drop_append,List.drop_of_length_le (by omega),List.nil_append,show x.length+((r.take k).map List.length).sum-x.length=((r.take k).map List.length).sum by omega]
  exact ih
theorem TA{ss:List ByteArray}{k:Nat}(hk:k<ss.length):(xO ss).extract (pre ss k) (pre ss (k+1))=ss[k]:=by
 apply ByteArray.ext
 rw[ByteArray.data_extract]
 apply Array.ext'
 have h:=Hk (ss.map (·.data.toList)) (k:=k) (by simpa using hk)
 have e1:(((ss.map (·.data.toList)).take k).map List.length).sum=pre ss k:=by
  unfold pre
  rw[<-List.map_take,List.map_map]
  congr 1
 rw[e1] at h
 simp only[List.getElem_map] at h
 rw[Array.toList_extract,y5 hk]
 unfold xO
 simp only[List.extract]
 rw[show pre ss k+ss[k].size-pre ss k=ss[k].data.toList.length by rw[Array.length_toList];show _=ss[k].size;omega]
 exact h
end Go.Ex
namespace Go.Proofs.iQ
open Go.Ex
structure Zh(H:Heap)(g:Nat)(ss:List ByteArray)(go:Nat)(Fo:Nat->Prop):Prop where
 fv:H[g]?=some (.cells #[.string (xO ss),.iface qy (.pointer (some ⟨go,0,none⟩)),.int .i64 (ss.length:Int)] yJ (0,0))
 ag2:FF H go (nT ss ss.length) Fo
 sW:(xO ss).size<=8388608/\ss.length<=1000000
def O1(H:Heap)(g:Nat)(ss:List ByteArray):Prop:=∃go Fo,Zh H g ss go Fo
theorem O1.oP{H H':Heap}{g:Nat}{ss:List ByteArray}(p:O1 H g ss)(hf:Fr gz H H'):O1 H' g ss:=by
 obtain⟨go,Fo,a⟩:=p
 exact⟨go,Fo,hf.fv a.fv (λh=>h),a.ag2.oP hf,a.sW⟩
def vr(N U:Nat)(H:Heap)(g:Nat)(ss:List ByteArray):Prop:=(N<=g/\g<U)/\∃go Fo,Zh H g ss go Fo/\∀k,Fo k->N<=k/\k<U
theorem vr.agY{N U:Nat}{H:Heap}{g:Nat}{ss:List ByteArray}(w:vr N U H g ss):O1 H g ss:=by
 obtain⟨_,go,Fo,a,_⟩:=w
 exact⟨go,Fo,a⟩
theorem vr.fy{N U:Nat}{H H':Heap}{g:Nat}{ss:List ByteArray}{G:Nat->Prop}(w:vr N U H g ss)(hf:Fr G H H')(hG:∀k,G k->k<N\/U<=k):vr N U H' g ss:=by
 obtain⟨h1,go,Fo,a,h2⟩:=w
 exact⟨h1,go,Fo,⟨hf.fv a.fv λh=>by have:=hG _ h;omega,a.ag2.fy hf λk hk h=>by have:=hG _ h;have:=h2 _ hk;omega,a.sW⟩,h2⟩
theorem vr.mono{N U N' U':Nat}{H:Heap}{g:Nat}{ss:List ByteArray}(w:vr N U H g ss)(h1:N'<=N)(h2:U<=U'):vr N' U' H g ss:=by
 obtain⟨h,go,Fo,a,h'⟩:=w
 exact⟨⟨by omega,by omega⟩,go,Fo,a,λk hk=>by have:=h' k hk;omega⟩
theorem agV{H:Heap}{ss:List ByteArray}{p:Option Addr}{n:Nat}(ra:Rd H (ss.map Value.string) p n){i:Nat}(hi:i<ss.length):∃a,p=some a/\dj H (a.add i)=some (.string ss[i]):=by
 obtain⟨a,ha,hc⟩:=ra.get (i:=i) (v:=.string ss[i]) (by rw[List.getElem?_map,List.getElem?_eq_getElem hi];rfl)
 exact⟨a,ha,hc⟩
section
variable {H:Heap} {g:Nat} {ss:List ByteArray}
theorem y9{p:Option Addr}{n c:Nat}(ra:Rd H (ss.map Value.string) p n)(pK:n<=c)(hn:n<=1000000)(hs:(xO ss).size<=8388608){R:Option Addr->Int->Heap->Prop}
 (hR:∀g H',vr (Array.size H) (Array.size H') H' g ss->Fr gz H H'->R (some ⟨g,0,none⟩) 0 H'):jH.C p n c H R:=by
 have hl:ss.length=n:=by have:=ra.1;simpa using this
 apply jH.calls
 unfold jH.W
 refine db λH1 h1=>?_
 have f1:Fr gz H H1:=by rw[h1];exact Fr.new _ _ _
 have QG:Sl H1 gv ((nT ss 0).map Jd) (some ⟨Array.size H,0,none⟩) 1 1:=by rw[h1];exact Sl.lit H gv [.int .i64 0]
 clear h1
 refine dW (λ(q:(Option Addr×Nat×Nat)×Unit) H'=>q.1.2.1=n+1/\Sl H' gv ((nT ss n).map Jd) q.1.1 q.1.2.1 q.1.2.2/\Fr gz H H') ?_ ?_
 ·refine fJ (λt(q:(Option Addr×Nat×Nat)×Int×Unit) H'=>∃i:Nat,i<=n/\t=n-i/\q.2.1=(i:Int)/\q.1.2.1=i+1/\Sl H' gv ((nT ss i).map Jd) q.1.1 q.1.2.1 q.1.2.2/\(∀k,fw q.1.1 k->Array.size H<=k)/\Fr gz H H') n
   ⟨0,Nat.zero_le _,rfl,rfl,rfl,QG,(by rintro k ⟨a,ha,rfl⟩;cases ha;exact Nat.le_refl _),f1⟩ ?_
  rintro t ⟨⟨op,ol,oc⟩,x,_⟩ H3 ⟨i,hi,rfl,hx,C9,hsl,ZP,hf⟩
  simp only at hx C9 hsl ZP
  subst hx C9
  dsimp only
  refine ft (λlC=>?_) (λiG=>?_)
  ·have yD:i<ss.length:=by omega
   obtain⟨a,ha,hc⟩:=agV (ra.oP hf) yD
   obtain⟨h2,a2,Yh,zS⟩:=WO hsl.rd (i:=i) (by omega)
   rw[qe] at zS
   have hp:=y5 yD
   have D3:=y7 ss (show i+1<=ss.length by omega)
   rw[vK ss (Nat.le_refl _)] at D3
   refine⟨a,ha,by omega,by omega,_,by rw[Int.toNat_natCast];exact hc,a2,Yh,by omega,by omega,_,by rw[Int.toNat_natCast];exact zS,?_⟩
   rw[wrap_i64 (n:=8388608-(pre ss i:Int)) (by omega) (by omega)]
   refine e8 (by omega) ⟨a2,Yh,by omega,by omega,_,by rw[Int.toNat_natCast];exact zS,?_⟩
   rw[wrap_i64 (n:=(pre ss i:Int)+(ss[i].size:Int)) (by omega) (by omega),show(pre ss i:Int)+(ss[i].size:Int)=((pre ss (i+1):Nat):Int) by omega]
   refine zN (v:=Jd (pre ss (i+1))) hsl rfl ⟨by simp,by simp⟩ (by omega) (by decide) λp' c' H5 hs5 f5 M1=>?_
   refine⟨n-(i+1),by omega,i+1,by omega,rfl,by show IntKind.i64.wrap ((i:Int)+1)=_;rw[wrap_i64 (by omega) (by omega)];rfl,rfl,?_,λk hk=>?_,hf.trans f5 λk hk=>.inr (ZP k hk)⟩
   ·show Sl H5 gv ((nT ss (i+1)).map Jd) p' (i+1+1) c'
    rw[N6,List.map_append]
    exact hs5
   ·rcases M1 k hk with h|h
    ·exact ZP k h
    ·exact Nat.le_trans hf.size h
  ·obtain rfl:i=n:=by omega
   exact⟨rfl,hsl,hf⟩
 rintro⟨⟨op,ol,oc⟩,_⟩ H2 ⟨C9,hsl,f2⟩
 simp only at C9 hsl
 subst C9
 dsimp only
 have u0:jV (nT ss n)=(xO ss).size:=by
  unfold jV
  rw[List.getD_eq_getElem?_getD,List.getElem?_eq_getElem (by rw[vL];omega),Option.getD_some,qe,vL]
  exact vK ss (by omega)
 have aqf:Rd H2 (((nT ss n).map Int.ofNat).map (Value.int .i64)) op (n+1):=by
  rw[List.map_map]
  exact hsl.rd
 refine Gh aqf (by omega) (λl _ he _ hl8 go H6 tO f6=>?_) (λwL=>?_)
 ·have:l=nT ss n:=by
   have h:=congrArg (List.map Int.toNat) he
   rw[List.map_map,List.map_map] at h
   have e:∀l:List Nat,l.map (Int.toNat∘Int.ofNat)=l:=λl=>by
    conv=>rhs;rw[<-List.map_id l]
    apply List.map_congr_left
    intro x _
    rfl
   rw[e,e] at h
   exact h.symm
  subst this
  refine e8 (by decide) ?_
  have Mm:=f2.eZ f6
  refine TV (ra.oP Mm) pK (by omega) (by omega) λH7 f7=>db λH8 h8=>?_
  have f8:Fr gz H7 H8:=by rw[h8];exact Fr.new _ _ _
  have g8:=ns h8
  have o8:=(tO.oP f7).oP f8
  refine hR _ H8 ⟨⟨(Mm.eZ f7).size,fe g8⟩,go,_,⟨?_,hl.symm▸o8,hs,by omega⟩,λk hk=>⟨Nat.le_trans f2.size hk.1,Nat.lt_of_lt_of_le hk.2 (f7.eZ f8).size⟩⟩ ((Mm.eZ f7).eZ f8)
  rw[hl];exact g8
 ·rw[adh (Ly ss n) (by omega)] at wL
  cases wL
theorem Gg(p:O1 H g ss){R:Int->Heap->Prop}(hR:R (ss.length:Int) H):eb.C (some ⟨g,0,none⟩) H R:=by
 obtain⟨go,Fo,a⟩:=p
 apply eb.calls
 unfold eb.W
 exact eY rfl ⟨_,rfl,_,(dh a.fv 0 2).trans rfl,hR⟩
theorem BQ(p:O1 H g ss){R:Option Addr->Heap->Prop}(hR:∀go Fo,FF H go (nT ss ss.length) Fo->R (some ⟨go,0,none⟩) H):nG.C (some ⟨g,0,none⟩) H R:=by
 obtain⟨go,Fo,a⟩:=p
 apply nG.calls
 unfold nG.W
 exact⟨_,rfl,_,(dh a.fv 0 1).trans rfl,_,true,.inl ⟨rfl,rfl⟩,hR go Fo a.ag2⟩
theorem rY(p:O1 H g ss)(hd:CA H)(k:Int){R:ByteArray->Int->Heap->Prop}(h1:∀(i:Nat)(hi:i<ss.length) H',k=(i:Int)->Fr gz H H'->R ss[i] 0 H')(h2:(k<0\/(ss.length:Int)<=k)->R ⟨#[]⟩ 4 H):dC.C (some ⟨g,0,none⟩) k H R:=by
 have oU:ss.length<=1000000:=by obtain⟨go,Fo,a⟩:=p;exact a.sW.2
 apply dC.calls
 unfold dC.W
 refine eG (eG ?_)
 refine ft (λh0=>iR rfl (h2 (.inl h0))) (λh0=>Gg p (ft (λhl=>h2 (.inr hl)) (λhl=>?_)))
 obtain⟨i,rfl⟩:∃n:Nat,k=(n:Int):=⟨k.toNat,by omega⟩
 have hi:i<ss.length:=by omega
 refine BQ p λgo Fo o=>?_
 refine wU o hd _ (λj hj H5 e f5=>?_) (λho=>by rw[vL] at ho;omega)
 obtain rfl:i=j:=by omega
 rw[qe]
 have p5:=p.oP f5
 refine BQ p5 λgo5 Fo5 o5=>?_
 rw[wrap_i64 (n:=(i:Int)+1) (by omega) (by omega)]
 refine wU o5 (hd.oP f5) _ (λj' hj' H7 e7 f7=>?_) (λho=>by rw[vL] at ho;omega)
 obtain rfl:j'=i+1:=by omega
 rw[qe]
 have p7:=p5.oP f7
 obtain⟨go7,Fo7,a7⟩:=p7
 have hm:=y7 ss (show i<=i+1 by omega)
 have D3:=y7 ss (show i+1<=ss.length by omega)
 rw[vK ss (Nat.le_refl _)] at D3
 refine⟨_,rfl,_,(dh a7.fv 0 0).trans rfl,by omega,by omega,by omega,by omega,?_⟩
 rw[Int.toNat_natCast,Int.toNat_natCast,TA hi]
 exact h1 i hi H7 rfl (f5.eZ f7)
end
end Go.Proofs.iQ
namespace Go.Ex
def ue(b:Nat)(l:List Nat):List Nat:=l.filter (λx=>!x.testBit b)++l.filter (λx=>x.testBit b)
def wk(W:Nat)(l:List Nat):Nat->List Nat
 |0=>l
 |k+1=>ue (W-1-k) (wk W l k)
def kL(W:Nat)(l:List Nat)(k:Nat):List Bool:=(wk W l k).map λx=>x.testBit (W-1-k)
theorem GZ(b:Nat)(l:List Nat):(ue b l).length=l.length:=by
 unfold ue
 rw[List.length_append,<-List.countP_eq_length_filter,<-List.countP_eq_length_filter]
 have:=List.length_eq_countP_add_countP (λx:Nat=>x.testBit b) (l:=l)
 simp at this⊢
 omega
theorem yS(W:Nat)(l:List Nat):∀k,(wk W l k).length=l.length
 |0=>rfl
 |k+1=>by rw[wk,GZ,yS W l k]
def ug(W:Nat)(l:List Nat)(k at_:Nat)(bit:Bool):Nat:=rk (kL W l k) at_ bit+(if bit then(kL W l k).count false else 0)
def iU(W:Nat)(l:List Nat)(s at_:Nat):Nat->Nat
 |0=>at_
 |k+1=>ug W l k (iU W l s at_ k) (s.testBit (W-1-k))
theorem vE(W:Nat)(l:List Nat)(k:Nat):wk W l (k+1)=ue (W-1-k) (wk W l k):=rfl
theorem ow(W:Nat)(l:List Nat)(s at_ k:Nat):iU W l s at_ (k+1)=ug W l k (iU W l s at_ k) (s.testBit (W-1-k)):=rfl
def agree(W s k x:Nat):Bool:=(List.range k).all λj=>x.testBit (W-1-j)==s.testBit (W-1-j)
theorem Fw(W s k x:Nat):agree W s (k+1) x=(agree W s k x&&(x.testBit (W-1-k)==s.testBit (W-1-k))):=by
 unfold agree
 rw[List.range_succ,List.all_append]
 simp
theorem TI{W s x:Nat}(hs:s<2^W)(hx:x<2^W):agree W s W x=decide (x=s):=by
 rw[Bool.eq_iff_iff]
 unfold agree
 simp only[List.all_eq_true,List.mem_range,beq_iff_eq,decide_eq_true_eq]
 constructor
 ·intro h
  apply Nat.eq_of_testBit_eq
  intro i
  rcases Nat.lt_or_ge i W with hi|hi
  ·have:=h (W-1-i) (by omega)
   rwa[show W-1-(W-1-i)=i by omega] at this
  ·rw[Nat.testBit_lt_two_pow (Nat.lt_of_lt_of_le hx (Nat.pow_le_pow_right (by decide) hi)),Nat.testBit_lt_two_pow (Nat.lt_of_lt_of_le hs (Nat.pow_le_pow_right (by decide) hi))]
 ·rintro rfl j _
  rfl
theorem Mj(p:Nat->Bool)(l:List Nat)(i:Nat):(l.filter p).take ((l.take i).countP p)=(l.take i).filter p:=by
 conv=>lhs;rw[<-List.take_append_drop i l]
 rw[List.filter_append,List.countP_eq_length_filter]
 have:((l.take i++l.drop i).take i)=l.take i:=by rw[List.take_append_drop]
 rw[this]
 exact List.take_left
theorem NT(f:Nat->Bool)(l:List Nat)(n:Nat)(bit:Bool):rk (l.map f) n bit=(l.take n).countP λx=>f x==bit:=by
 unfold rk
 rw[<-List.map_take,List.count_eq_countP,List.countP_map]
 rfl
theorem Wm{A S B:List Nat}{c:Nat}(hc:c<=S.length):(A++S++B).take (A.length+c)=A++S.take c:=by
 rw[List.append_assoc,List.take_append,List.take_of_length_le (by omega),show A.length+c-A.length=c by omega,List.take_append,show c-S.length=0 by omega]
 simp
theorem E4(b:Nat)(bit:Bool):(λx:Nat=>x.testBit b==bit)=if bit then(λx:Nat=>x.testBit b) elseλx=>!x.testBit b:=by
 cases bit<;>funext x<;>simp
theorem Ir(W:Nat)(l:List Nat)(s:Nat):∀k,∃A B,wk W l k=A++l.filter (agree W s k)++B/\A.length=iU W l s 0 k
 |0=>⟨[],[],by
   have:agree W s 0=λ_=>true:=by funext x;rfl
   rw[this,List.filter_eq_self.2 (λ_ _=>rfl)]
   simp[wk],rfl⟩
 |k+1=>by
  obtain⟨A,B,h,hA⟩:=Ir W l s k
  have hS:(l.filter (agree W s k)).filter (λx=>x.testBit (W-1-k)==s.testBit (W-1-k))=l.filter (agree W s (k+1)):=by
   rw[List.filter_filter]
   congr 1
   funext x
   rw[Fw,Bool.and_comm]
  have Oo:rk (kL W l k) A.length (s.testBit (W-1-k))=(A.filter λx=>x.testBit (W-1-k)==s.testBit (W-1-k)).length:=by
   unfold kL
   rw[NT,h,List.append_assoc,List.take_left,List.countP_eq_length_filter]
  cases hb:s.testBit (W-1-k) with
  |false=>
   rw[hb] at hS Oo
   rw[E4] at hS Oo
   simp only[Bool.false_eq_true,if_false] at hS Oo
   refine⟨A.filter (λx=>!x.testBit (W-1-k)),B.filter (λx=>!x.testBit (W-1-k))++(wk W l k).filter (λx=>x.testBit (W-1-k)),?_,?_⟩
   ·rw[vE]
    unfold ue
    conv=>lhs;lhs;rw[h]
    rw[List.filter_append,List.filter_append,hS]
    simp only[List.append_assoc]
   ·rw[ow]
    unfold ug
    rw[<-hA,hb,Oo]
    simp
  |true=>
   rw[hb] at hS Oo
   rw[E4] at hS Oo
   simp only[if_true] at hS Oo
   refine⟨(wk W l k).filter (λx=>!x.testBit (W-1-k))++A.filter (λx=>x.testBit (W-1-k)),B.filter (λx=>x.testBit (W-1-k)),?_,?_⟩
   ·rw[vE]
    unfold ue
    conv=>lhs;rhs;rw[h]
    rw[List.filter_append,List.filter_append,hS]
    simp only[List.append_assoc]
   ·rw[ow]
    unfold ug
    rw[<-hA,hb,Oo,List.length_append]
    have:(kL W l k).count false=((wk W l k).filter λx=>!x.testBit (W-1-k)).length:=by
     unfold kL
     rw[List.count_eq_countP,List.countP_map,List.countP_eq_length_filter]
     congr 1
     congr 1
     funext x
     simp
    rw[this]
    simp
    omega
theorem Dd(W:Nat)(l:List Nat)(s:Nat){at_:Nat}(h:at_<=l.length):∀k,iU W l s at_ k=iU W l s 0 k+(l.take at_).countP (agree W s k)
 |0=>by
  have:agree W s 0=λ_=>true:=by funext x;rfl
  rw[this,List.countP_eq_length_filter,List.filter_eq_self.2 (λ_ _=>rfl)]
  simp[iU]
  omega
 |k+1=>by
  obtain⟨A,B,hr,hA⟩:=Ir W l s k
  rw[ow,ow,Dd W l s h k]
  unfold ug
  have hle:(l.take at_).countP (agree W s k)<=(l.filter (agree W s k)).length:=by
   rw[<-List.countP_eq_length_filter]
   exact(List.take_sublist _ _).countP_le
  have e1:rk (kL W l k) (iU W l s 0 k+(l.take at_).countP (agree W s k)) (s.testBit (W-1-k))=rk (kL W l k) (iU W l s 0 k) (s.testBit (W-1-k))+(l.take at_).countP (agree W s (k+1)):=by
   unfold kL
   rw[NT,NT,hr,<-hA,Wm hle,Mj,List.countP_append,List.append_assoc,List.take_left]
   congr 1
   rw[List.countP_filter]
   congr 1
   funext x
   rw[Fw,Bool.and_comm]
  rw[e1]
  omega
theorem E3(p:Nat->Bool)(l:List Nat){i:Nat}(hi:i<l.length)(hp:p l[i]=true):(l.filter p)[(l.take i).countP p]?=some l[i]:=by
 have e:l=l.take i++l[i]::l.drop (i+1):=by rw[<-List.drop_eq_getElem_cons hi,List.take_append_drop]
 have e2:l.filter p=(l.take i).filter p++l[i]::(l.drop (i+1)).filter p:=by
  conv=>lhs;rw[e]
  rw[List.filter_append,List.filter_cons,if_pos hp]
 rw[e2,List.countP_eq_length_filter,List.getElem?_append_right (Nat.le_refl _)]
 simp
theorem agT(W:Nat)(l:List Nat)(s:Nat){i:Nat}(hi:i<l.length)(k:Nat)(ha:agree W s k l[i]=true):(wk W l k)[iU W l s i k]?=some l[i]:=by
 obtain⟨A,B,hr,hA⟩:=Ir W l s k
 have lC:(l.take i).countP (agree W s k)<(l.filter (agree W s k)).length:=by
  have:=E3 (agree W s k) l hi ha
  exact(List.getElem?_eq_some_iff.1 this).1
 rw[hr,Dd W l s (by omega) k,<-hA,List.append_assoc,List.getElem?_append_right (by omega),show A.length+(l.take i).countP (agree W s k)-A.length=(l.take i).countP (agree W s k) by omega,List.getElem?_append_left lC,E3 _ l hi ha]
theorem Fx(W s k:Nat):agree W s k s=true:=by
 unfold agree
 simp
theorem YX(W:Nat)(l:List Nat)(s:Nat){i:Nat}(hi:i<l.length)(k:Nat)(ha:agree W s k l[i]=true):(kL W l k)[iU W l s i k]?=some (l[i].testBit (W-1-k)):=by
 unfold kL
 rw[List.getElem?_map,agT W l s hi k ha]
 rfl
theorem Bj{W:Nat}{l:List Nat}(hl:∀x∈l,x<2^W){s:Nat}(hs:s<2^W){at_:Nat}(h:at_<=l.length):iU W l s at_ W=iU W l s 0 W+(l.take at_).count s:=by
 rw[Dd W l s h W,List.count_eq_countP]
 congr 1
 apply List.countP_congr
 intro x hx
 rw[TI hs (hl x (List.mem_of_mem_take hx))]
 simp
end Go.Ex
namespace Go.Proofs.iQ
open Go.Ex
abbrev acX(b:Nat):Value:=.iface j5 (.pointer (some ⟨b,0,none⟩))
structure aiJ(H:Heap)(g:Nat)(l:List Nat)(sg st:Nat)(gs:List Nat)(lp:Option Addr)(lc:Nat)(Fb:Nat->Prop):Prop where
 fv:H[g]?=some (.cells #[.slice lp gs.length lc,.int .i64 (l.length:Int),.int .i64 (sg:Int),.int .i64 (st:Int)] pA (0,0))
 sl:Sl H gV (gs.map acX) lp gs.length lc
 wid:gs.length=ki (sg-1)
 rows:∀k(h:k<gs.length),mL H gs[k] (kL gs.length l k) Fb
 Ee:∀x∈l,x<sg
 sW:l.length<=1048576
 pos:1<=sg/\sg<=1048576
 ng:¬Fb g
def kg(H:Heap)(g:Nat)(l:List Nat)(sg st:Nat)(F:Nat->Prop):Prop:=∃gs lp lc Fb,aiJ H g l sg st gs lp lc Fb/\F g/\(∀k,fw lp k->F k)/\(∀k,Fb k->F k)/\∀k,F k->k<Array.size H
theorem kg.fy{H H':Heap}{g:Nat}{l:List Nat}{sg st:Nat}{F G:Nat->Prop}(h:kg H g l sg st F)(hf:Fr G H H')(hd:∀k,F k->¬G k):kg H' g l sg st F:=by
 obtain⟨gs,lp,lc,Fb,h,h1,h2,h3,h4⟩:=h
 exact⟨gs,lp,lc,Fb,⟨hf.fv h.fv (hd _ h1),h.sl.fy hf λk hk=>hd k (h2 k hk),h.wid,λk hk=>(h.rows k hk).fy hf λj hj=>hd j (h3 j hj),h.Ee,h.sW,h.pos,h.ng⟩,h1,h2,h3,λk hk=>Nat.lt_of_lt_of_le (h4 k hk) hf.size⟩
theorem kg.oP{H H':Heap}{g:Nat}{l:List Nat}{sg st:Nat}{F:Nat->Prop}(h:kg H g l sg st F)(hf:Fr gz H H'):kg H' g l sg st F:=h.fy hf λ_ _ h=>h
section
variable {H:Heap} {g:Nat} {l:List Nat} {sg st:Nat} {F:Nat->Prop}
def gx(sg:Nat):Nat:=ki (sg-1)
theorem qG{sg:Nat}(h:sg<=1048576):gx sg<=20:=asN.2 (by omega)
theorem kg.step(h:kg H g l sg st F)(n:Nat){H':Heap}(hH:H'=nQ H ((⟨g,0,none⟩:Addr).add 3) (.int .i64 (n:Int))):kg H' g l sg n F/\Fr (λk=>k=g) H H':=by
 have hf:=kn hH
 obtain⟨gs,lp,lc,Fb,h,h1,h2,h3,h4⟩:=h
 refine⟨⟨gs,lp,lc,Fb,⟨iJ hH h.fv,h.sl.fy hf λk hk e=>h.sl.ne h.fv (by decide) (e▸hk),h.wid,λk hk=>(h.rows k hk).fy hf λj hj e=>h.ng (e▸hj),h.Ee,h.sW,h.pos,h.ng⟩,h1,h2,h3,λk hk=>Nat.lt_of_lt_of_le (h4 k hk) hf.size⟩,hf⟩
theorem kg.cells(h:kg H g l sg st F):(∃lp lc,dj H ((⟨g,0,none⟩:Addr).add 0)=some (.slice lp (gx sg) lc))/\dj H ((⟨g,0,none⟩:Addr).add 1)=some (.int .i64 (l.length:Int))/\dj H ((⟨g,0,none⟩:Addr).add 2)=some (.int .i64 (sg:Int))/\dj H ((⟨g,0,none⟩:Addr).add 3)=some (.int .i64 (st:Int))/\gO H ((⟨g,0,none⟩:Addr).add 3)=false:=by
 obtain⟨gs,lp,lc,Fb,h,_⟩:=h
 refine⟨⟨lp,lc,?_⟩,(dh h.fv 0 1).trans rfl,(dh h.fv 0 2).trans rfl,(dh h.fv 0 3).trans rfl,mQ h.fv 0 3⟩
 unfold gx
 rw[<-h.wid]
 exact(dh h.fv 0 0).trans rfl
theorem rW(h:kg H g l sg st F){k:Nat}(hk:k<gx sg){R:Option Addr->Heap->Prop}(hR:∀b Fb,mL H b (kL (gx sg) l k) Fb->¬Fb g->R (some ⟨b,0,none⟩) H):pT.C (some ⟨g,0,none⟩) (k:Int) H R:=by
 obtain⟨gs,lp,lc,Fb,h,_⟩:=h
 have hw:gs.length=gx sg:=h.wid
 apply pT.calls
 unfold pT.W
 have mI:k<gs.length:=by omega
 obtain⟨a,ha,hc⟩:=h.sl.rd.get (i:=k) (v:=acX gs[k]) (by rw[List.getElem?_map,List.getElem?_eq_getElem mI];rfl)
 have hb:=h.rows k mI
 rw[hw] at hb
 exact⟨_,rfl,_,_,_,(dh h.fv 0 0).trans rfl,a,ha,by omega,by omega,_,by rw[Int.toNat_natCast];exact hc,_,true,.inl ⟨rfl,rfl⟩,hR _ _ hb h.ng⟩
theorem wR(h:kg H g l sg st F){k s:Nat}(hk:k<gx sg)(hs:s<2^63){R:Bool->Heap->Prop}(hR:R (s.testBit (gx sg-1-k)) H):dN.C (some ⟨g,0,none⟩) (k:Int) (s:Int) H R:=by
 obtain⟨⟨lp,lc,c0⟩,_⟩:=h.cells
 have hsg:sg<=1048576:=by obtain⟨_,_,_,_,h,_⟩:=h;exact h.pos.2
 have hn:=qG hsg
 apply dN.calls
 unfold dN.W
 refine⟨_,rfl,_,_,_,c0,?_⟩
 rw[wrap_i64 (n:=(gx sg:Int)-1) (by omega) (by omega),wrap_i64 (n:=(gx sg:Int)-1-(k:Int)) (by omega) (by omega),show(gx sg:Int)-1-(k:Int)=((gx sg-1-k:Nat):Int) by omega,mY (by omega)]
 refine⟨by omega,?_⟩
 have uw:s>>>(gx sg-1-k)<2^63:=by rw[Nat.shiftRight_eq_div_pow];exact Nat.lt_of_le_of_lt (Nat.div_le_self _ _) hs
 rw[CU hs,show(1:Int)=((1:Nat):Int) from rfl,JH uw (by decide),Nat.and_one_is_mod]
 have e:decide (((s>>>(gx sg-1-k)%2:Nat):Int)=((1:Nat):Int))=s.testBit (gx sg-1-k):=by
  rw[Nat.testBit_eq_decide_div_mod_eq,Nat.shiftRight_eq_div_pow,Bool.eq_iff_iff]
  simp only[decide_eq_true_eq]
  constructor<;>intro h<;>first|exact_mod_cast h|omega
 rw[e]
 exact hR
end
end Go.Proofs.iQ
namespace Go.Proofs.iQ
open Go.Ex
theorem Lk(W:Nat)(l:List Nat)(k:Nat):(kL W l k).length=l.length:=by unfold kL;rw[List.length_map,yS]
theorem Hs(m:List Bool):m.count true+m.count false=m.length:=by
 induction m with
 |nil=>rfl
 |cons b l ih=>cases b<;>simp<;>omega
section
variable {H:Heap} {g:Nat} {l:List Nat} {sg st:Nat} {F:Nat->Prop}
theorem kg.sW(h:kg H g l sg st F):l.length<=1048576/\1<=sg/\sg<=1048576:=by obtain⟨_,_,_,_,h,_⟩:=h;exact⟨h.sW,h.pos⟩
theorem kg.own(h:kg H g l sg st F):F g/\∀k,F k->k<Array.size H:=by obtain⟨_,_,_,_,_,h1,_,_,h4⟩:=h;exact⟨h1,h4⟩
theorem vn(h:kg H g l sg st F)(Bb:st<=1099511627776){k at_:Nat}(hk:k<gx sg)(bit:Bool){R:Int->Heap->Prop}
 (hR:∀H',kg H' g l sg (st+1) F->Fr (λk=>k=g) H H'->R (ug (gx sg) l k at_ bit:Int) H'):pR.C (some ⟨g,0,none⟩) (k:Int) (at_:Int) bit H R:=by
 obtain⟨_,_,_,c3,z3⟩:=h.cells
 have oU:=h.sW
 apply pR.calls
 unfold pR.W
 refine⟨_,rfl,_,c3,_,rfl,⟨_,c3⟩,z3,db λH1 h1=>?_⟩
 rw[wrap_i64 (n:=(st:Int)+1) (by omega) (by omega),show(st:Int)+1=((st+1:Nat):Int) by omega] at h1
 obtain⟨w1,f1⟩:=h.step (st+1) h1
 clear h1
 refine rW w1 hk λb Fb hb ZQ=>?_
 have hlen:=Lk (gx sg) l k
 refine il hb _ bit λH3 f3=>eG ?_
 rw[Int.toNat_natCast]
 have hr:=GU (kL (gx sg) l k) at_ bit
 have fin:∀H',Fr gz H1 H'->kg H' g l sg (st+1) F/\Fr (λk=>k=g) H H':=λH' hf=>⟨w1.oP hf,f1.trans hf λ_ h=>h.elim⟩
 refine ik (λqg=>?_) (λqK=>?_)
 ·subst qg
  have R8:=hb.oP f3
  refine iV R8 (iV R8 ?_)
  refine il R8 _ true λH7 f7=>db λn hn=>?_
  rw[Int.toNat_natCast,tm _ (Nat.le_refl _)] at hn
  have M0:=Hs (kL (gx sg) l k)
  have e:n=(ug (gx sg) l k at_ true:Int):=by
   rw[hn,wrap_i64 (n:=((kL (gx sg) l k).length:Int)-((kL (gx sg) l k).count true:Int)) (by omega) (by omega),wrap_i64 (by omega) (by omega)]
   unfold ug
   rw[if_pos rfl]
   omega
  rw[e]
  obtain⟨a1,a2⟩:=fin H7 (f3.eZ f7)
  exact hR H7 a1 a2
 ·subst qK
  obtain⟨a1,a2⟩:=fin H3 f3
  have e:(rk (kL (gx sg) l k) at_ false:Int)=(ug (gx sg) l k at_ false:Int):=by unfold ug;simp
  dsimp only
  rw[e]
  exact hR H3 a1 a2
theorem nI(h:kg H g l sg st F)(Bb:st<=549755813888){at_ s:Nat}(hs:s<2^63){R:Int->Heap->Prop}
 (hR:∀H',kg H' g l sg (st+gx sg) F->Fr (λk=>k=g) H H'->R (iU (gx sg) l s at_ (gx sg):Int) H'):n0.C (some ⟨g,0,none⟩) (at_:Int) (s:Int) H R:=by
 obtain⟨⟨lp,lc,c0⟩,_⟩:=h.cells
 have hn:=qG h.sW.2.2
 apply n0.calls
 unfold n0.W
 refine eG ⟨_,rfl,_,_,_,c0,?_⟩
 refine fJ (λm q H'=>∃k:Nat,k<=gx sg/\m=gx sg-k/\q.1=(iU (gx sg) l s at_ k:Int)/\q.2.1=(k:Int)/\kg H' g l sg (st+k) F/\Fr (λk=>k=g) H H') (gx sg) ⟨0,by omega,rfl,rfl,rfl,h,Fr.refl _ _⟩ ?_
 rintro m ⟨x,y,_⟩ H2 ⟨k,hk,rfl,hx,hy,w,f⟩
 simp only at hx hy
 subst hx hy
 dsimp only
 refine ft (λlC=>?_) (λiG=>?_)
 ·refine wR w (by omega) hs ?_
  refine vn w (by omega) (by omega) _ λH4 w4 f4=>?_
  refine⟨gx sg-(k+1),by omega,k+1,by omega,rfl,rfl,?_,w4,f.trans f4 λk hk=>.inl hk⟩
  show IntKind.i64.wrap ((k:Int)+1)=_
  rw[wrap_i64 (by omega) (by omega)];rfl
 ·have:k=gx sg:=by omega
  subst this
  exact hR H2 w f
end
end Go.Proofs.iQ
namespace Go.Proofs.iQ
open Go.Ex
section
variable {H:Heap} {g:Nat} {l:List Nat} {sg st:Nat} {F:Nat->Prop}
theorem kg.sym(h:kg H g l sg st F):(∀x∈l,x<2^gx sg)/\∀s,s<sg->s<2^gx sg:=by
 have hp:=h.sW
 have hl:=C3 (sg-1)
 obtain⟨_,_,_,_,h,_⟩:=h
 unfold gx
 exact⟨λx hx=>by have:=h.Ee x hx;omega,λs hs=>by omega⟩
theorem FB(h:kg H g l sg st F)(Bb:st<=274877906944)(k:Int){s:Nat}(hs:s<sg){R:Int->Heap->Prop}
 (hR:∀H',kg H' g l sg (st+2*gx sg) F->Fr (λk=>k=g) H H'->R ((l.take k.toNat).count s:Int) H'):dI.C (some ⟨g,0,none⟩) k (s:Int) H R:=by
 obtain⟨_,c1,_⟩:=h.cells
 have oU:=h.sW
 have hn:=qG oU.2.2
 obtain⟨hv,DV⟩:=h.sym
 apply dI.calls
 unfold dI.W
 obtain⟨c,hc,Mg,VY⟩:∃c:Nat,min (max k 0) (l.length:Int)=(c:Int)/\c<=l.length/\l.take k.toNat=l.take c:=by
  rcases Nat.le_total k.toNat l.length with h|h
  ·exact⟨k.toNat,by omega,h,rfl⟩
  ·exact⟨l.length,by omega,Nat.le_refl _,by rw[List.take_of_length_le h,List.take_length]⟩
 refine⟨_,rfl,_,c1,?_⟩
 rw[hc]
 refine nI h (by omega) (by omega) λH1 w1 f1=>?_
 refine nI (at_:=0) w1 (by omega) (by omega) λH2 w2 f2=>db λx hx=>?_
 have FQ:=Bj hv (DV s hs) Mg
 have hle:(l.take c).count s<=l.length:=Nat.le_trans List.count_le_length (by simp;omega)
 have e:x=((l.take k.toNat).count s:Int):=by
  rw[hx,FQ,VY,show((iU (gx sg) l s 0 (gx sg)+(l.take c).count s:Nat):Int)-(iU (gx sg) l s 0 (gx sg):Int)=((l.take c).count s:Int) by omega,wrap_i64 (by omega) (by omega)]
 rw[e]
 exact hR H2 (by rw[show st+2*gx sg=st+gx sg+gx sg by omega];exact w2) (f1.trans f2 λk hk=>.inl hk)
theorem JP(h:kg H g l sg st F)(s:Int){R:Bool->Heap->Prop}(hR:R (decide (0<=s/\s<(sg:Int))) H):eP.C (some ⟨g,0,none⟩) s H R:=by
 obtain⟨_,_,c2,_⟩:=h.cells
 apply eP.calls
 unfold eP.W
 refine iR rfl (ft (λh0=>⟨_,rfl,_,c2,?_⟩) (λh0=>?_))
 ·have:decide (0<=s/\s<(sg:Int))=decide (s<(sg:Int)):=by simp[h0]
  rw[this] at hR
  exact hR
 ·have:decide (0<=s/\s<(sg:Int))=false:=by simp[h0]
  rw[this] at hR
  exact hR
theorem Ge(h:kg H g l sg st F){R:Int->Heap->Prop}(hR:R (l.length:Int) H):dY.C (some ⟨g,0,none⟩) H R:=by
 obtain⟨_,c1,_⟩:=h.cells
 apply dY.calls
 unfold dY.W
 exact eY rfl ⟨_,rfl,_,c1,hR⟩
end
end Go.Proofs.iQ
namespace Go.Ex
theorem SV{l:List Nat}{s:Nat}:∀{j:Nat},j<l.count s->∃(i:Nat)(hi:i<l.length),l[i]=s/\(l.take i).count s=j:=by
 induction l with
 |nil=>intro j h;simp at h
 |cons x r ih=>
  intro j h
  by_cases hx:x=s
  ·subst hx
   cases j with
   |zero=>exact⟨0,by simp,rfl,by simp⟩
   |succ j=>
    obtain⟨i,hi,e1,e2⟩:=ih (j:=j) (by simpa using h)
    exact⟨i+1,by simp;exact hi,by simpa using e1,by simp[e2]⟩
  ·rw[List.count_cons_of_ne hx] at h
   obtain⟨i,hi,e1,e2⟩:=ih h
   exact⟨i+1,by simp;exact hi,by simpa using e1,by rw[List.take_succ_cons,List.count_cons_of_ne hx,e2]⟩
end Go.Ex
namespace Go.Proofs.iQ
open Go.Ex
section
variable {H:Heap} {g:Nat} {l:List Nat} {sg st:Nat} {F:Nat->Prop}
theorem Yn(W:Nat)(l:List Nat)(s:Nat){at_:Nat}(h:at_<=l.length):∀k,iU W l s at_ k<=l.length:=by
 intro k
 obtain⟨A,B,hr,hA⟩:=Ir W l s k
 have h1:=yS W l k
 rw[hr,List.length_append,List.length_append] at h1
 have h2:(l.take at_).countP (agree W s k)<=(l.filter (agree W s k)).length:=by
  rw[<-List.countP_eq_length_filter]
  exact(List.take_sublist _ _).countP_le
 rw[Dd W l s h k]
 omega
end
end Go.Proofs.iQ
namespace Go.Proofs.iQ
open Go.Ex
section
variable {H:Heap} {g:Nat} {l:List Nat} {sg st:Nat} {F:Nat->Prop}
theorem JO(h:kg H g l sg st F)(Bb:st<=1099511627776){k:Nat}(hk:k<gx sg){R:Option Addr->Heap->Prop}
 (hR:∀b Fb H',kg H' g l sg (st+1) F->Fr (λk=>k=g) H H'->mL H' b (kL (gx sg) l k) Fb->R (some ⟨b,0,none⟩) H'):
 eX (nQ H ((⟨g,0,none⟩:Addr).add 3) (.int .i64 (IntKind.i64.wrap ((st:Int)+1)))) λH1:Heap=>pT.C (some ⟨g,0,none⟩) (k:Int) H1 R:=by
 refine db λH1 h1=>?_
 rw[wrap_i64 (n:=(st:Int)+1) (by omega) (by omega),show(st:Int)+1=((st+1:Nat):Int) by omega] at h1
 obtain⟨w1,f1⟩:=h.step (st+1) h1
 exact rW w1 hk λb Fb hb ZQ=>hR b Fb H1 w1 f1 hb
theorem CA.fy{H H':Heap}{G:Nat->Prop}(h:CA H)(hf:Fr G H H')(hn:¬G mG):CA H':=λi hi=>hf.cell (h i hi) (by rw[ke];exact hn)
theorem vt{b:Nat}{m:List Bool}{Fb:Nat->Prop}(hb:mL H b m Fb)(hd:CA H){a:Int}{bit:Bool}{q:Nat}(hq:m[q]?=some bit)(ha:a=(rk m q bit:Int)){R:Int->Heap->Prop}
 (hR:∀H',Fr gz H H'->R (q:Int) H'):jI.C (some ⟨b,0,none⟩) a bit H R:=by
 obtain⟨Tc,QJ⟩:=List.getElem?_eq_some_iff.1 hq
 refine lr hb hd a bit (λp hp H6 hm hr f6=>?_) (λH6 wL f6=>?_)
 ·have:p=q:=vF hp Tc hm QJ (by omega)
  subst this
  exact hR H6 f6
 ·have:=oS Tc QJ
  omega
theorem sS{b:Nat}{m:List Bool}{Fb:Nat->Prop}(hb:mL H b m Fb)(hd:CA H){a:Int}{bit:Bool}(ha:a<0\/(m.length:Int)<=a){R:Int->Heap->Prop}
 (hR:∀H',Fr gz H H'->R (-1) H'):jI.C (some ⟨b,0,none⟩) a bit H R:=by
 refine lr hb hd a bit (λp hp H6 hm hr f6=>?_) (λH6 wL f6=>hR H6 f6)
 have h1:=oS hp hm
 have h2:m.count bit<=m.length:=List.count_le_length
 omega
theorem FA(h:kg H g l sg st F)(hd:CA H)(hg:mG≠g)(Bb:st<=274877906944)(j:Int)(hj:-9223372036854775808<=j/\j<=9223372036854775807){s:Nat}(hs:s<sg){R:Int->Heap->Prop}
 (h1:∀(i:Nat)(hi:i<l.length) H' jS,l[i]=s->((l.take i).count s:Int)=j->jS<=st+3*gx sg->kg H' g l sg jS F->Fr (λk=>k=g) H H'->R (i:Int) H')
 (h2:∀H' jS,(j<0\/(l.count s:Int)<=j)->jS<=st+3*gx sg->kg H' g l sg jS F->Fr (λk=>k=g) H H'->R (-1) H'):dH.C (some ⟨g,0,none⟩) j (s:Int) H R:=by
 have oU:=h.sW
 have hn:=qG oU.2.2
 obtain⟨hv,DV⟩:=h.sym
 apply dH.calls
 unfold dH.W
 refine nI (at_:=0) h (by omega) (by omega) λH1 w1 f1=>db λvi oV=>?_
 have Sj:=Yn (gx sg) l s (Nat.zero_le l.length) (gx sg)
 have Zr:=Bj hv (DV s hs) (Nat.le_refl l.length)
 rw[List.take_length] at Zr
 have aqN:l.count s<=l.length:=List.count_le_length
 refine dW (λq H'=>∃jS,jS<=st+2*gx sg/\kg H' g l sg jS F/\Fr (λk=>k=g) H H'/\(q.1=true->(j<0\/(l.count s:Int)<=j))/\(q.1=false->0<=j/\((iU (gx sg) l s l.length (gx sg):Int)>vi))) ?_ ?_ |> eG
 ·refine ft (λh0=>⟨st+gx sg,by omega,w1,f1,λ_=>.inl h0,λh=>by cases h⟩) (λh0=>?_)
  obtain⟨_,c1,_⟩:=w1.cells
  refine⟨_,rfl,_,c1,?_⟩
  refine nI w1 (by omega) (by omega) λH4 w4 f4=>⟨st+gx sg+gx sg,by omega,w4,f1.trans f4 λk hk=>.inl hk,λhb=>.inr ?_,λhb=>⟨by omega,by have:=of_decide_eq_false hb;omega⟩⟩
  have hb:=of_decide_eq_true hb
  rcases Classical.em ((iU (gx sg) l s 0 (gx sg):Int)+j<=9223372036854775807) with ho|ho
  ·rw[wrap_i64 (by omega) ho] at oV
   omega
  ·omega
 rintro⟨q,_⟩ H2 ⟨Az,amx,w2,f2,Tc,QJ⟩
 dsimp only at Tc QJ⊢
 refine ik (λhb=>h2 H2 Az (Tc hb) (by omega) w2 f2) (λhb=>?_)
 obtain⟨RO,lC⟩:=QJ hb
 have YQ:(∃(i:Nat)(hi:i<l.length),l[i]=s/\((l.take i).count s:Int)=j/\vi=(iU (gx sg) l s i (gx sg):Int))\/((l.count s:Int)<=j/\vi<0/\-9223372036854775808<=vi/\gx sg≠0):=by
  rcases Classical.em ((iU (gx sg) l s 0 (gx sg):Int)+j<=9223372036854775807) with ho|ho
  ·rw[wrap_i64 (by omega) ho] at oV
   obtain⟨i,hi,e1,e2⟩:=SV (l:=l) (s:=s) (j:=j.toNat) (by omega)
   have:=Bj hv (DV s hs) (Nat.le_of_lt hi)
   exact .inl ⟨i,hi,e1,by omega,by omega⟩
  ·have e:vi=(iU (gx sg) l s 0 (gx sg):Int)+j-18446744073709551616:=by
    rw[oV];unfold IntKind.wrap;simp[IntKind.bits,IntKind.signed];omega
   refine .inr ⟨by omega,by omega,by omega,λh0=>?_⟩
   rw[h0] at ho
   have:iU 0 l s 0 0=0:=rfl
   omega
 clear oV lC Zr Sj
 obtain⟨⟨lp,lc,c0⟩,_⟩:=w2.cells
 refine eG ⟨_,rfl,_,_,_,c0,db λk8 RM=>?_⟩
 rw[wrap_i64 (by omega) (by omega)] at RM
 refine fJ (λm q H'=>∃k:Nat,k<=gx sg/\m=k/\q.2.1=(k:Int)-1/\kg H' g l sg (Az+(gx sg-k)) F/\Fr (λk=>k=g) H H'/\
  ((∃(i:Nat)(hi:i<l.length),l[i]=s/\((l.take i).count s:Int)=j/\q.1=(iU (gx sg) l s i k:Int))\/((l.count s:Int)<=j/\q.1<0/\-9223372036854775808<=q.1/\gx sg≠0/\(k<gx sg->q.1=-1)))) (gx sg) ⟨gx sg,Nat.le_refl _,rfl,RM,by rw[Nat.sub_self];exact w2,f2,?_⟩ ?_
 ·rcases YQ with h|⟨a,b,c,d⟩
  ·exact .inl h
  ·exact .inr ⟨a,b,c,d,λh=>absurd h (Nat.lt_irrefl _)⟩
 clear YQ c0 RM
 rintro m ⟨x,y,_⟩ H3 ⟨k,hk,rfl,hy,w,f,hx⟩
 simp only at hx hy
 subst hy
 dsimp only
 refine ft (λiG=>?_) (λlC=>?_)
 ·obtain⟨k,rfl⟩:∃n,m=n+1:=⟨m-1,by omega⟩
  rw[show((k+1:Nat):Int)-1=(k:Int) by omega]
  refine dW (λq H'=>kg H' g l sg (Az+(gx sg-k)) F/\Fr (λk=>k=g) H H'/\
   ((∃(i:Nat)(hi:i<l.length),l[i]=s/\((l.take i).count s:Int)=j/\q.1=(iU (gx sg) l s i k:Int))\/((l.count s:Int)<=j/\q.1=-1))) ?_ ?_
  ·obtain⟨_,_,_,c3,z3⟩:=w.cells
   refine⟨_,rfl,_,c3,_,rfl,⟨_,c3⟩,z3,?_⟩
   refine JO w (by omega) (by omega) λb Fb H4 w4 f4 hb=>?_
   rw[show Az+(gx sg-(k+1))+1=Az+(gx sg-k) by omega] at w4
   have oA:Fr (λk=>k=g) H H4:=f.trans f4 λk hk=>.inl hk
   have d4:CA H4:=hd.fy oA hg
   have hlen:=Lk (gx sg) l k
   have M0:=Hs (kL (gx sg) l k)
   refine wR w4 (by omega) (by omega) ?_
   have fin:∀H5,Fr gz H4 H5->kg H5 g l sg (Az+(gx sg-k)) F/\Fr (λk=>k=g) H H5:=λH5 f5=>⟨w4.oP f5,oA.trans f5 λ_ h=>h.elim⟩
   have Tp:∀(i:Nat)(hi:i<l.length),l[i]=s->(kL (gx sg) l k)[iU (gx sg) l s i k]?=some (s.testBit (gx sg-1-k)):=by
    intro i hi e
    have:=YX (gx sg) l s hi k (by rw[e];exact Fx _ _ _)
    rw[e] at this
    exact this
   refine ik (λqg=>?_) (λqK=>?_)
   ·rw[qg] at Tp
    refine iV hb (iV hb ?_)
    refine il hb _ true λH5 f5=>?_
    rw[Int.toNat_natCast,tm _ (Nat.le_refl _),wrap_i64 (n:=((kL (gx sg) l k).length:Int)-((kL (gx sg) l k).count true:Int)) (by omega) (by omega)]
    have M1:=hb.oP f5
    have d5:=d4.oP f5
    rcases hx with⟨i,hi,e1,e2,e3⟩|⟨n1,n2,n3,n4,n5⟩
    ·have Uf:=ow (gx sg) l s i k
     unfold ug at Uf
     rw[qg,if_pos rfl] at Uf
     have hrl:=GU (kL (gx sg) l k) (iU (gx sg) l s i k) true
     refine vt M1 d5 (Tp i hi e1) (by rw[wrap_i64 (by omega) (by omega)];omega) λH6 f6=>?_
     obtain⟨a1,a2⟩:=fin H6 (f5.eZ f6)
     exact⟨a1,a2,.inl ⟨i,hi,e1,e2,rfl⟩⟩
    ·refine sS M1 d5 ?_ λH6 f6=>?_
     ·rcases Classical.em (-9223372036854775808<=x-(((kL (gx sg) l k).length:Int)-((kL (gx sg) l k).count true:Int))) with ho|ho
      ·rw[wrap_i64 ho (by omega)]
       omega
      ·have:IntKind.i64.wrap (x-(((kL (gx sg) l k).length:Int)-((kL (gx sg) l k).count true:Int)))=x-(((kL (gx sg) l k).length:Int)-((kL (gx sg) l k).count true:Int))+18446744073709551616:=by
        unfold IntKind.wrap;simp[IntKind.bits,IntKind.signed];omega
       rw[this]
       omega
     ·obtain⟨a1,a2⟩:=fin H6 (f5.eZ f6)
      exact⟨a1,a2,.inr ⟨n1,rfl⟩⟩
   ·rw[qK] at Tp
    rcases hx with⟨i,hi,e1,e2,e3⟩|⟨n1,n2,n3,n4,n5⟩
    ·have Uf:=ow (gx sg) l s i k
     unfold ug at Uf
     rw[qK] at Uf
     simp only[Bool.false_eq_true,if_false] at Uf
     refine vt hb d4 (Tp i hi e1) (by omega) λH6 f6=>?_
     obtain⟨a1,a2⟩:=fin H6 f6
     exact⟨a1,a2,.inl ⟨i,hi,e1,e2,rfl⟩⟩
    ·refine sS hb d4 (.inl n2) λH6 f6=>?_
     obtain⟨a1,a2⟩:=fin H6 f6
     exact⟨a1,a2,.inr ⟨n1,rfl⟩⟩
  ·rintro⟨v,_⟩ H5 ⟨w5,f5,hv5⟩
   refine db λk9 KU=>?_
   rw[wrap_i64 (by omega) (by omega)] at KU
   refine⟨k,by omega,k,by omega,rfl,KU,w5,f5,?_⟩
   rcases hv5 with h|⟨a,b⟩
   ·exact .inl h
   ·simp only at b
    exact .inr ⟨a,by simp only;omega,by simp only;omega,by omega,λ_=>b⟩
 ·have:m=0:=by omega
  subst this
  rcases hx with⟨i,hi,e1,e2,e3⟩|⟨n1,n2,n3,n4,n5⟩
  ·rw[e3]
   exact h1 i hi H3 _ e1 e2 (by omega) w f
  ·rw[n5 (by omega)]
   exact h2 H3 _ (.inr n1) (by omega) w f
end
end Go.Proofs.iQ
namespace Go.Ex
def pM(l:List Nat)(k:Nat)(s:Int):Nat:=(l.take k).countP λx:Nat=>decide ((x:Int)=s)
theorem zG(l:List Nat)(k s:Nat):pM l k (s:Int)=(l.take k).count s:=by
 unfold pM
 rw[List.count_eq_countP]
 apply List.countP_congr
 intro x _
 simp only[decide_eq_true_eq,beq_iff_eq]
 omega
theorem v7{l:List Nat}{i:Nat}(h:i<l.length)(s:Int):pM l (i+1) s=pM l i s+(if(l[i]:Int)=s then 1 else 0):=by
 unfold pM
 rw[List.take_succ_eq_append_getElem h,List.countP_append]
 simp[List.countP_cons]
theorem v8(l:List Nat){k k':Nat}(h:k<=k')(s:Int):pM l k s<=pM l k' s:=by
 unfold pM
 exact(List.take_sublist_take_left h).countP_le
theorem Ty(l:List Nat)(s:Int):pM l 0 s=0:=by unfold pM;simp
theorem ad0(l:List Nat)(k:Nat)(s:Int):pM l k s<=l.length:=by
 unfold pM
 exact Nat.le_trans List.countP_le_length (by simp;omega)
theorem YN{l:List Nat}{s:Int}{i j:Nat}(hi:i<l.length)(hj:j<l.length)(ei:(l[i]:Int)=s)(ej:(l[j]:Int)=s)(h:pM l i s=pM l j s):i=j:=by
 rcases Nat.lt_trichotomy i j with h1|h1|h1
 ·have:=v8 l (show i+1<=j by omega) s
  rw[v7 hi,if_pos ei] at this
  omega
 ·exact h1
 ·have:=v8 l (show j+1<=i by omega) s
  rw[v7 hj,if_pos ej] at this
  omega
theorem Jx{l:List Nat}{s:Int}{i j:Nat}(hi:i<l.length)(ei:(l[i]:Int)=s)(h:i<j):pM l i s<pM l j s:=by
 have:=v8 l (show i+1<=j by omega) s
 rw[v7 hi,if_pos ei] at this
 omega
def B5(l:List Nat)(lo hi s j x:Int):Prop:=
 (∃(i:Nat)(nN:i<l.length),x=(i:Int)/\(l[i]:Int)=s/\lo<=i/\(i:Int)<hi/\(pM l i s:Int)=pM l lo.toNat s+j)\/
 (x=-1/\∀(i:Nat)(nN:i<l.length),(l[i]:Int)=s->lo<=i->(i:Int)<hi->(pM l i s:Int)≠pM l lo.toNat s+j)
theorem B5.out{l:List Nat}{sg:Nat}(hl:∀x∈l,x<sg){lo hi s j:Int}(hs:s<0\/(sg:Int)<=s):B5 l lo hi s j (-1):=by
 refine .inr ⟨rfl,λi hi e=>?_⟩
 have:=hl _ (List.getElem_mem hi)
 omega
theorem B5.none{l:List Nat}{lo hi s j:Int}(hj:j<0\/(l.length:Int)<=j):B5 l lo hi s j (-1):=by
 refine .inr ⟨rfl,λi hi e h1 h2 h3=>?_⟩
 have h4:=v8 l (show lo.toNat<=i by omega) s
 have h5:=Jx hi e hi
 have h6:=ad0 l l.length s
 omega
end Go.Ex
namespace Go.Proofs.iQ
open Go.Ex
section
variable {H:Heap} {g:Nat} {l:List Nat} {sg st:Nat} {F:Nat->Prop}
def WB(H:Heap)(g:Nat)(l:List Nat)(sg:Nat)(F:Nat->Prop):Prop:=∃st,st<=5*gx sg/\kg H g l sg st F
theorem WB.fy{H H':Heap}{G:Nat->Prop}(h:WB H g l sg F)(hf:Fr G H H')(hd:∀k,F k->¬G k):WB H' g l sg F:=by
 obtain⟨st,h1,h⟩:=h
 exact⟨st,h1,h.fy hf hd⟩
theorem WB.sW(h:WB H g l sg F):l.length<=1048576/\1<=sg/\sg<=1048576:=by
 obtain⟨st,h1,h⟩:=h
 exact h.sW
theorem WB.own(h:WB H g l sg F):F g/\∀k,F k->k<Array.size H:=by
 obtain⟨st,h1,h⟩:=h
 exact h.own
theorem WB.Ee(h:WB H g l sg F):∀x∈l,x<sg:=by
 obtain⟨st,h1,gs,lp,lc,Fb,h,_⟩:=h
 exact h.Ee
theorem MP(h:WB H g l sg F)(hd:CA H)(hg:mG≠g)(lo hi s j:Int){R:Int->Heap->Prop}
 (hR:∀x H',B5 l lo hi s j x->WB H' g l sg F->Fr (λk=>k=g) H H'->R x H'):dX.C (some ⟨g,0,none⟩) lo hi s j H R:=by
 have hb:=h
 have oU:=h.sW
 obtain⟨st,Bb,h⟩:=h
 obtain⟨_,c1,_,c3,z3⟩:=h.cells
 apply dX.calls
 unfold dX.W
 refine eG (dW (λq H'=>H'=H/\(q.1=true->B5 l lo hi s j (-1))/\(q.1=false->0<=s/\s<(sg:Int)/\0<=j/\j<(l.length:Int))) ?_ ?_)
 ·refine JP h s (ik (λhn=>⟨rfl,λ_=>.out hb.Ee ?_,λh=>by cases h⟩) (λhn=>?_))
  ·simp at hn
   omega
  ·simp at hn
   refine ft (λh0=>⟨rfl,λ_=>.none (.inl h0),λh=>by cases h⟩) (λh0=>⟨_,rfl,_,c1,rfl,λh=>.none (.inr (of_decide_eq_true h)),λh=>⟨hn.1,hn.2,by omega,by have:=of_decide_eq_false h;omega⟩⟩)
 rintro⟨q,_⟩ _ ⟨rfl,Tc,QJ⟩
 dsimp only at Tc QJ⊢
 refine ik (λhq=>hR _ _ (Tc hq) hb (Fr.refl _ _)) (λhq=>?_)
 obtain⟨KN,QG,RO,hj1⟩:=QJ hq
 obtain⟨s',rfl⟩:∃n:Nat,s=(n:Int):=⟨s.toNat,by omega⟩
 refine⟨_,rfl,⟨_,c3⟩,z3,db λH2 hH2=>?_⟩
 obtain⟨w2,f2⟩:=h.step 0 hH2
 have Db:=hd.fy f2 hg
 have mc:(l.take lo.toNat).count s'<=l.length:=Nat.le_trans List.count_le_length (by simp;omega)
 refine FB w2 (by omega) lo (by omega) λH3 w3 f3=>?_
 rw[wrap_i64 (by omega) (by omega)]
 refine FA w3 (Db.fy f3 hg) hg (by have:=qG oU.2.2;omega) _ (by omega) (by omega) (λi nN H4 ya e1 e2 h4 w4 f4=>?_) (λH4 ya wL h4 w4 f4=>?_)
 ·obtain⟨_,U4,_⟩:=w4.cells
  have oA:=(f2.trans f3 λk hk=>.inl hk).trans f4 λk hk=>.inl hk
  have hw:WB H4 g l sg F:=⟨ya,by omega,w4⟩
  rw[<-zG,<-zG] at e2
  have aqv:lo<=(i:Int):=by
   rcases Classical.em (lo<=(i:Int)) with h|h
   ·exact h
   ·have:=Jx (s:=(s':Int)) nN (by omega) (show i<lo.toNat by omega)
    omega
  refine⟨_,rfl,_,U4,ft (λhm=>hR _ H4 (.inr ⟨rfl,λi' rB Nr e2' CH e4'=>?_⟩) hw oA) (λhm=>hR _ H4 (.inl ⟨i,nN,rfl,by omega,aqv,by omega,e2⟩) hw oA)⟩
  have:=YN (s:=(s':Int)) nN rB (by omega) Nr (by omega)
  omega
 ·obtain⟨_,U4,_⟩:=w4.cells
  have oA:=(f2.trans f3 λk hk=>.inl hk).trans f4 λk hk=>.inl hk
  have hw:WB H4 g l sg F:=⟨ya,by omega,w4⟩
  have no:B5 l lo hi (s':Int) j (-1):=.inr ⟨rfl,λi nN e1 e2 e3 e4=>by
   have:=Jx (s:=(s':Int)) nN e1 nN
   have h2:pM l l.length (s':Int)=l.count s':=by rw[zG,List.take_length]
   have h3:pM l lo.toNat (s':Int)=(l.take lo.toNat).count s':=zG _ _ _
   omega⟩
  exact⟨_,rfl,_,U4,ft (λ_=>hR _ H4 no hw oA) (λ_=>hR _ H4 no hw oA)⟩
end
end Go.Proofs.iQ
namespace Go.Ex
theorem Wz(s W i:Nat)(h:i<W):2*(s>>>(W-i))+(if s.testBit (W-1-i) then 1 else 0)=s>>>(W-(i+1)):=by
 obtain⟨r,hr⟩:∃r,W=i+1+r:=⟨W-(i+1),by omega⟩
 subst hr
 rw[show i+1+r-i=r+1 by omega,show i+1+r-1-i=r by omega,show i+1+r-(i+1)=r by omega,Nat.shiftRight_succ,Nat.testBit_eq_decide_div_mod_eq,<-Nat.shiftRight_eq_div_pow]
 generalize s>>>r=x
 by_cases hx:x%2=1
 ·simp[hx];omega
 ·simp[hx];omega
theorem YW{s:Nat}(hs:s<2^63)(r:Nat):decide (lN .i64 (kP .i64 (s:Int) (r:Int)) 1=1)=s.testBit r:=by
 have uw:s>>>r<2^63:=by rw[Nat.shiftRight_eq_div_pow];exact Nat.lt_of_le_of_lt (Nat.div_le_self _ _) hs
 rw[CU hs,show(1:Int)=((1:Nat):Int) from rfl,JH uw (by decide),Nat.and_one_is_mod,Nat.testBit_eq_decide_div_mod_eq,Nat.shiftRight_eq_div_pow,Bool.eq_iff_iff]
 simp only[decide_eq_true_eq]
 constructor<;>intro h<;>first|exact_mod_cast h|omega
end Go.Ex
namespace Go.Proofs.iQ
open Go.Ex
section
variable {H:Heap} {g:Nat} {l:List Nat} {sg st:Nat} {F:Nat->Prop}
theorem B3(h:WB H g l sg F)(k:Int){R:Int->Int->Heap->Prop}(FP:∀(i:Nat)(hi:i<l.length) H',k=(i:Int)->WB H' g l sg F->Fr (λk=>k=g) H H'->R (l[i]:Int) 0 H')(XX:(k<0\/(l.length:Int)<=k)->R 0 4 H):
 dO.C (some ⟨g,0,none⟩) k H R:=by
 have hb:=h
 have oU:=h.sW
 have LZ:=h.Ee
 have hn:=qG oU.2.2
 obtain⟨st,Bb,h⟩:=h
 obtain⟨_,_,_,c3,z3⟩:=h.cells
 apply dO.calls
 unfold dO.W
 refine eG (eG ?_)
 refine ft (λh0=>iR rfl (XX (.inl h0))) (λh0=>?_)
 refine Ge h (ft (λh1=>XX (.inr h1)) (λh1=>?_))
 obtain⟨p,rfl⟩:∃n:Nat,k=(n:Int):=⟨k.toNat,by omega⟩
 have hp:p<l.length:=by omega
 obtain⟨hv,DV⟩:=h.sym
 have hvp:=LZ _ (List.getElem_mem hp)
 refine⟨_,rfl,⟨_,c3⟩,z3,db λH4 hH4=>?_⟩
 obtain⟨w4,f4⟩:=h.step 0 hH4
 obtain⟨⟨lp,lc,c0⟩,_⟩:=w4.cells
 refine eG ⟨_,rfl,_,_,_,c0,?_⟩
 refine fJ (λm q H'=>∃i:Nat,i<=gx sg/\m=gx sg-i/\q.1=(iU (gx sg) l l[p] p i:Int)/\q.2.1=((l[p]>>>(gx sg-i):Nat):Int)/\q.2.2.1=(i:Int)/\kg H' g l sg i F/\Fr (λk=>k=g) H H') (gx sg) ⟨0,by omega,rfl,rfl,?_,rfl,w4,f4⟩ ?_
 ·have:l[p]>>>(gx sg-0)=0:=by
   rw[Nat.shiftRight_eq_div_pow]
   exact Nat.div_eq_of_lt (hv _ (List.getElem_mem hp))
  rw[this]
  rfl
 rintro m ⟨x,y,z,_⟩ H6 ⟨i,hi,rfl,hx,hy,hz,w,f⟩
 simp only at hx hy hz
 subst hx hy hz
 dsimp only
 refine ft (λlC=>?_) (λiG=>?_)
 ·have Tp:=YX (gx sg) l l[p] hp i (Fx _ _ _)
  obtain⟨Tc,QJ⟩:=List.getElem?_eq_some_iff.1 Tp
  refine eG ?_
  refine rW w (by omega) λb Fb hb ZQ=>?_
  refine wY hb _ (λq hq H9 e f9=>?_) (λwL=>by omega)
  have:q=iU (gx sg) l l[p] p i:=by omega
  subst this
  rw[QJ]
  have w9:=w.oP f9
  have Rk:=Wz l[p] (gx sg) i (by omega)
  have hle:l[p]>>>(gx sg-i)<=l[p]:=Nat.shiftRight_le _ _
  have asC:l[p]>>>(gx sg-(i+1))<=l[p]:=Nat.shiftRight_le _ _
  refine eG (db λs6 KM=>?_)
  rw[wrap_i64 (by omega) (by omega)] at KM
  have go:∀v:Int,v=((l[p]>>>(gx sg-(i+1)):Nat):Int)->pR.C (some ⟨g,0,none⟩) (i:Int) (iU (gx sg) l l[p] p i:Int) (l[p].testBit (gx sg-1-i)) H9 λNk fg=>∃m,m<gx sg-i/\∃i':Nat,i'<=gx sg/\m=gx sg-i'/\Nk=(iU (gx sg) l l[p] p i':Int)/\v=((l[p]>>>(gx sg-i'):Nat):Int)/\IntKind.i64.wrap ((i:Int)+1)=(i':Int)/\kg fg g l sg i' F/\Fr (λk=>k=g) H fg:=by
   intro v hv
   refine vn w9 (by omega) (by omega) _ λfg Pw f11=>⟨gx sg-(i+1),by omega,i+1,by omega,rfl,rfl,hv,by rw[wrap_i64 (by omega) (by omega)];rfl,Pw,(f.trans f9 λ_ h=>h.elim).trans f11 λk hk=>.inl hk⟩
  refine ik (λqg=>db λs7 DX=>?_) (λqK=>?_)
  ·rw[qg,if_pos rfl] at Rk
   rw[wrap_i64 (by omega) (by omega)] at DX
   exact go s7 (by omega)
  ·rw[qK] at Rk
   simp only[Bool.false_eq_true,if_false] at Rk
   exact go s6 (by omega)
 ·have:i=gx sg:=by omega
  subst this
  rw[Nat.sub_self]
  exact FP p hp H6 rfl ⟨_,by omega,w⟩ f
end
end Go.Proofs.iQ
namespace Go.Ex
theorem Rd.lt{H:Heap}{xs:List Value}{p:Option Addr}{l:Nat}(h:Rd H xs p l)(h0:0<l):∀k,fw p k->k<Array.size H:=by
 rintro k ⟨a,rfl,rfl⟩
 obtain⟨a',ha,hc⟩:=h.2 0 h0
 cases ha
 rw[List.getElem?_eq_getElem (by rw[h.1];exact h0)] at hc
 have:=u5 hc
 rw[ke] at this
 exact this
abbrev A4(x:Nat):Value:=.int .i64 (x:Int)
theorem acW{L:List Nat}{f:Nat->Bool}{i:Nat}(hi:i<L.length):(((L.take i).map f++List.replicate (L.length-i) false).map Value.bool).set i (.bool (f L[i]))=((L.take (i+1)).map f++List.replicate (L.length-(i+1)) false).map Value.bool:=by
 rw[List.take_succ_eq_append_getElem hi,show L.length-i=L.length-(i+1)+1 by omega,List.replicate_succ,List.map_append,List.map_append,List.map_append,List.map_append]
 rw[List.set_append_right _ _ (by simp;omega)]
 have:i-(List.map Value.bool ((L.take i).map f)).length=0:=by simp;omega
 rw[this]
 simp
end Go.Ex
namespace Go.Proofs.iQ
open Go.Ex
theorem mL.grow{H:Heap}{g:Nat}{m:List Bool}{F G:Nat->Prop}(h:mL H g m F)(h1:∀k,F k->G k)(h2:∀k,G k->k<Array.size H):mL H g m G:=by
 obtain⟨lp,lc,h,a,b,c⟩:=h
 exact⟨lp,lc,h,h1 _ a,λk hk=>h1 _ (b k hk),h2⟩
theorem Gd{H:Heap}{zs:List Int}{p:Option Addr}{n c:Nat}(ra:Rd H (zs.map (Value.int .i64)) p n)(hn:n<=1048576)(sg:Int){R:Option Addr->Int->Heap->Prop}
 (OB:(sg<1\/1048576<sg\/∃z,z∈zs/\(z<0\/sg<=z))->R none 1 H)
 (lu:∀(l:List Nat)(s:Nat) g H',zs=l.map (λx:Nat=>(x:Int))->sg=(s:Int)->1<=s/\s<=1048576->(∀x∈l,x<s)->WB H' g l s (λk=>Array.size H<=k/\k<Array.size H')->Fr gz H H'->R (some ⟨g,0,none⟩) 0 H'):
 j4.C p n c sg H R:=by
 apply j4.calls
 unfold j4.W
 have hlen:zs.length=n:=by have:=ra.1;simpa using this
 refine dW (λ_ H'=>H=H'/\1<=sg/\sg<=1048576) ?_ ?_
 ·exact eG (ft (λh0=>iR rfl (OB (.inl h0))) (λh0=>ft (λh1=>OB (.inr (.inl h1))) (λh1=>⟨rfl,by omega,by omega⟩)))
 rintro _ _ ⟨rfl,QG,wK⟩
 refine dW (λ_ H'=>H=H'/\∀z∈zs,0<=z/\z<sg) ?_ ?_
 ·refine fJ (λm q H'=>∃i:Nat,i<=n/\m=n-i/\q.1=(i:Int)/\H=H'/\∀j(hj:j<zs.length),j<i->0<=zs[j]/\zs[j]<sg) n ⟨0,by omega,rfl,rfl,rfl,λj _ h=>absurd h (Nat.not_lt_zero j)⟩ ?_
  rintro m ⟨x,_⟩ _ ⟨i,hi,rfl,hx,rfl,fC⟩
  simp only at hx
  subst hx
  dsimp only
  refine ft (λlC=>?_) (λiG=>⟨rfl,λz hz=>?_⟩)
  ·have nN:i<zs.length:=by omega
   obtain⟨a,ha,hc⟩:=ra.get (i:=i) (v:=.int .i64 zs[i]) (by rw[List.getElem?_map,List.getElem?_eq_getElem nN];rfl)
   refine dW (λ_ H'=>H=H'/\0<=zs[i]/\zs[i]<sg) ?_ ?_
   ·exact⟨a,ha,by omega,by omega,_,by rw[Int.toNat_natCast];exact hc,eG (ft (λh0=>iR rfl (OB (.inr (.inr ⟨_,List.getElem_mem nN,.inl h0⟩)))) (λh0=>ft (λh1=>OB (.inr (.inr ⟨_,List.getElem_mem nN,.inr h1⟩))) (λh1=>⟨rfl,by omega,by omega⟩)))⟩
   ·rintro _ _ ⟨rfl,h0,h1⟩
    refine⟨n-(i+1),by omega,i+1,by omega,rfl,by show IntKind.i64.wrap ((i:Int)+1)=_;rw[wrap_i64 (by omega) (by omega)];rfl,rfl,λj hj q9=>?_⟩
    rcases Nat.lt_or_ge j i with h|h
    ·exact fC j hj h
    ·have:j=i:=by omega
     subst this
     exact⟨h0,h1⟩
  ·obtain⟨j,hj,rfl⟩:=List.getElem_of_mem hz
   exact fC j hj (by omega)
 rintro _ _ ⟨rfl,fC⟩
 clear OB
 refine e8 (by omega) (db λH7 h7=>eG ?_)
 obtain⟨l,rfl⟩:∃l:List Nat,zs=l.map (λx:Nat=>(x:Int)):=⟨zs.map Int.toNat,by
  rw[List.map_map]
  conv=>lhs;rw[<-List.map_id zs]
  apply List.map_congr_left
  intro z hz
  have:=fC z hz
  simp
  omega⟩
 obtain⟨s,rfl⟩:∃s:Nat,sg=(s:Int):=⟨sg.toNat,by omega⟩
 have LZ:∀x∈l,x<s:=λx hx=>by
  have:=(fC (x:Int) (List.mem_map.2 ⟨x,hx,rfl⟩)).2
  omega
 have lu:=λg H'=>lu l s g H' rfl rfl (by omega) LZ
 have hlen:l.length=n:=by simpa using hlen
 have ra:Rd H (l.map A4) p n:=by rw[List.map_map] at ra;exact ra
 clear fC
 rw[wrap_i64 (n:=(s:Int)-1) (by omega) (by omega),show(s:Int)-1=((s-1:Nat):Int) by omega,mY (by omega)]
 refine xP (by omega) (db λk9 KU=>?_)
 have hW:ki (s-1)=gx s:=rfl
 have asG:=qG (sg:=s) (by omega)
 rw[hW,wrap_i64 (by omega) (by omega)] at KU
 have f7:Fr gz H H7:=by rw[h7];exact Fr.new _ _ _
 have g7:=ns h7
 clear h7
 generalize RQ:Array.size H=g at*
 generalize hWd:gx s=W at*
 have QN:∀k,k<Array.size H->k≠g:=λk hk=>by omega
 refine fJ (λm(q:(Option Addr×Nat×Nat)×Int×Unit) H'=>∃(j:Nat)(gs:List Nat)(lp:Option Addr)(lc:Nat)(Fb:Nat->Prop),j<=W/\m=W-j/\q.2.1=(W:Int)-1-(j:Int)/\q.1.2.1=n/\
  H'[g]?=some (.cells #[.slice lp j lc,.int .i64 (n:Int),.int .i64 (s:Int),.int .i64 0] pA (0,0))/\gs.length=j/\Sl H' gV (gs.map acX) lp j lc/\(∀k(h:k<gs.length),mL H' gs[k] (kL W l k) Fb)/\
  (∀k,Fb k->g<=k/\k≠g/\¬fw lp k/\k<Array.size H')/\(∀k,fw lp k->g<=k)/\Rd H' ((wk W l j).map A4) q.1.1 n/\(0<n->∀k,fw q.1.1 k->k≠g/\¬fw lp k)/\Fr gz H H') W
  ⟨0,[],none,0,gz,by omega,rfl,by show k9=_;omega,rfl,g7,rfl,Sl.nil _ _,λk h=>absurd h (Nat.not_lt_zero k),λ_ h=>h.elim,(by rintro k ⟨a,ha,_⟩;cases ha),ra.oP f7,λh0 k hk=>⟨QN k (ra.lt h0 k hk),by rintro⟨a,ha,_⟩;cases ha⟩,f7⟩ ?_
 rintro m ⟨⟨xp,xl,xc⟩,y,_⟩ de ⟨j,gs,lp,lc,Fb,hj,rfl,hy,He,Md,Cd,hsl,afl,va,RL,afm,aqL,f10⟩
 simp only at hy He afm aqL
 subst hy He
 dsimp only
 refine ft (λiG=>?_) (λlC=>?_)
 ·have hjW:j<W:=by omega
  generalize Uj:W-1-j=b
  rw[show(W:Int)-1-(j:Int)=((b:Nat):Int) by omega]
  have hL:=yS W l j
  generalize Sf:wk W l j=L at*
  rw[hlen] at hL
  refine dW (λ(q:(Option Addr×Nat×Nat)×Unit) H'=>∃(gs:List Nat)(lp:Option Addr)(lc:Nat)(Fb:Nat->Prop),q.1.2.1=xl/\
   H'[g]?=some (.cells #[.slice lp (j+1) lc,.int .i64 (xl:Int),.int .i64 (s:Int),.int .i64 0] pA (0,0))/\gs.length=j+1/\Sl H' gV (gs.map acX) lp (j+1) lc/\(∀k(h:k<gs.length),mL H' gs[k] (kL W l k) Fb)/\
   (∀k,Fb k->g<=k/\k≠g/\¬fw lp k/\k<Array.size H')/\(∀k,fw lp k->g<=k)/\Rd H' ((ue b L).map A4) q.1.1 xl/\(0<xl->∀k,fw q.1.1 k->k≠g/\¬fw lp k)/\Fr gz H H') ?_ ?_
  ·refine⟨by omega,by omega,by omega,?_⟩
   rw[Int.toNat_natCast]
   refine db λfZ Kb=>?_
   have f12:Fr gz de fZ:=by rw[Kb];exact Fr.new _ _ _
   have aqg:Sl fZ eC ((List.replicate xl false).map Value.bool) (some ⟨Array.size de,0,none⟩) xl xl:=by
    rw[Kb,List.map_replicate]
    exact Sl.made de eC (z:=.bool false) rfl xl
   have wj:Array.size fZ=Array.size de+1:=by rw[Kb];exact gC
   clear Kb
   refine dW (λ(q:(Option Addr×Nat×Nat)×(Option Addr×Nat×Nat)×Unit) H'=>Sl H' gv ((L.filter (λx=>!x.testBit b)).map A4) q.1.1 q.1.2.1 q.1.2.2/\Sl H' gv ((L.filter (λx=>x.testBit b)).map A4) q.2.1.1 q.2.1.2.1 q.2.1.2.2/\
    Sl H' eC ((L.map λx=>x.testBit b).map Value.bool) (some ⟨Array.size de,0,none⟩) xl xl/\Fr gz de H'/\(∀k,fw q.1.1 k->Array.size de<=k)/\(∀k,fw q.1.1 k->¬fw q.2.1.1 k)) ?_ ?_
   ·refine fJ (λm(q:(Option Addr×Nat×Nat)×(Option Addr×Nat×Nat)×Int×Unit) H'=>∃i:Nat,i<=xl/\m=xl-i/\q.2.2.1=(i:Int)/\Sl H' gv (((L.take i).filter (λx=>!x.testBit b)).map A4) q.1.1 q.1.2.1 q.1.2.2/\Sl H' gv (((L.take i).filter (λx=>x.testBit b)).map A4) q.2.1.1 q.2.1.2.1 q.2.1.2.2/\
     Sl H' eC (((L.take i).map (λx=>x.testBit b)++List.replicate (L.length-i) false).map Value.bool) (some ⟨Array.size de,0,none⟩) xl xl/\Fr gz de H'/\(∀k,fw q.1.1 k->Array.size de<=k)/\(∀k,fw q.2.1.1 k->Array.size de<=k)/\(∀k,fw q.1.1 k->¬fw q.2.1.1 k)) xl
     ⟨0,by omega,rfl,rfl,Sl.nil _ _,Sl.nil _ _,by simpa[hL] using aqg,f12,(by rintro k ⟨a,ha,_⟩;cases ha),(by rintro k ⟨a,ha,_⟩;cases ha),(by rintro k ⟨a,ha,_⟩;cases ha)⟩ ?_
    rintro m ⟨⟨zp,zl,zc⟩,⟨op,ol,oc⟩,t,_⟩ gK ⟨i,hi,rfl,ht,hz,ho,hr,f14,XJ,ZP,uj⟩
    simp only at ht hz ho hr XJ ZP uj
    subst ht
    dsimp only
    have T9:=hz.1
    have C9:=ho.1
    have asq:zl<=i:=by rw[<-T9];simp;exact Nat.le_trans (List.length_filter_le _ _) (by simp;omega)
    have asx:ol<=i:=by rw[<-C9];simp;exact Nat.le_trans (List.length_filter_le _ _) (by simp;omega)
    refine ft (λlC=>?_) (λiG=>?_)
    ·have Cb:i<L.length:=by omega
     refine dW (λ(q:(Option Addr×Nat×Nat)×(Option Addr×Nat×Nat)×Unit) H'=>Sl H' gv (((L.take (i+1)).filter (λx=>!x.testBit b)).map A4) q.1.1 q.1.2.1 q.1.2.2/\Sl H' gv (((L.take (i+1)).filter (λx=>x.testBit b)).map A4) q.2.1.1 q.2.1.2.1 q.2.1.2.2/\
      Sl H' eC (((L.take (i+1)).map (λx=>x.testBit b)++List.replicate (L.length-(i+1)) false).map Value.bool) (some ⟨Array.size de,0,none⟩) xl xl/\Fr gz de H'/\(∀k,fw q.1.1 k->Array.size de<=k)/\(∀k,fw q.2.1.1 k->Array.size de<=k)/\(∀k,fw q.1.1 k->¬fw q.2.1.1 k)) ?_ ?_
     ·obtain⟨a,ha,hc⟩:=(afm.oP f14).get (i:=i) (v:=A4 L[i]) (by rw[List.getElem?_map,List.getElem?_eq_getElem Cb];rfl)
      have hLi:L[i]<2^63:=by
       have:L[i]∈wk W l j:=by rw[Sf];exact List.getElem_mem Cb
       have h2:∀j x,x∈wk W l j->x∈l:=by
        intro j
        induction j with
        |zero=>exactλx h=>h
        |succ j ih=>
         intro x hx
         rw[vE] at hx
         unfold ue at hx
         simp only[List.mem_append,List.mem_filter] at hx
         rcases hx with h|h<;>exact ih x h.1
       have:=LZ _ (h2 j _ this)
       omega
      refine⟨a,ha,by omega,by omega,_,by rw[Int.toNat_natCast];exact hc,?_⟩
      rw[mY (a:=b) (by omega),YW hLi]
      obtain⟨a2,Yh,hex,X4,Tb,f16⟩:=hr.store (i:=i) (by omega) (.bool (L[i].testBit b))
      cases Yh
      refine⟨by omega,_,rfl,by omega,by omega,by rw[Int.toNat_natCast];exact hex,by rw[Int.toNat_natCast];exact X4,?_⟩
      rw[Int.toNat_natCast]
      refine db λlW zU=>?_
      rw[<-zU,acW (f:=λx=>x.testBit b) Cb] at Tb
      rw[<-zU] at f16
      clear zU
      obtain⟨a3,sD,R1⟩:=Tb.rd.get (i:=i) (v:=.bool (L[i].testBit b)) (by
       rw[List.take_succ_eq_append_getElem Cb,List.map_append,List.map_append,List.map_append,List.append_assoc,List.getElem?_append_right (by simp;omega)]
       simp[Nat.min_eq_left (Nat.le_of_lt Cb)])
      cases sD
      refine⟨_,rfl,by omega,by omega,_,R1,?_⟩
      have adC:=hz.fy f16 λk hk XT=>hz.ne' hr (by decide) k hk XT
      have adE:=ho.fy f16 λk hk XT=>ho.ne' hr (by decide) k hk XT
      have adR:Fr gz de lW:=f14.trans f16 λk hk=>.inr (by obtain⟨a,ha,rfl⟩:=hk;cases ha;exact Nat.le_refl _)
      rw[List.take_succ_eq_append_getElem Cb,List.filter_append,List.filter_append,List.filter_cons,List.filter_cons] at*
      refine ik (λqg=>?_) (λqK=>?_)
      ·refine zN adE rfl ⟨by simp,by simp⟩ (by omega) (by decide) λp' c' uo ahr f18 Yb=>?_
       refine⟨?_,?_,Tb.fy f18 λk hk kh=>adE.ne' Tb (by decide) k kh hk,adR.trans f18 λk hk=>.inr (ZP k hk),XJ,λk hk=>?_,λk hk mI=>?_⟩
       ·rw[qg]
        simp only[Bool.not_true,Bool.false_eq_true,if_false,List.filter_nil,List.append_nil]
        exact adC.fy f18 uj
       ·rw[qg]
        simp only[if_true,List.filter_nil,List.map_append,List.map_cons,List.map_nil]
        exact ahr
       ·rcases Yb k hk with h|h
        ·exact ZP k h
        ·have:=adR.size;omega
       ·rcases Yb k mI with h|h
        ·exact uj k hk h
        ·have:=adC.iK hk;omega
      ·refine zN adC rfl ⟨by simp,by simp⟩ (by omega) (by decide) λp' c' uo ahr f18 Yb=>?_
       refine⟨?_,?_,Tb.fy f18 λk hk kh=>adC.ne' Tb (by decide) k kh hk,adR.trans f18 λk hk=>.inr (XJ k hk),λk hk=>?_,ZP,λk hk mI=>?_⟩
       ·rw[qK]
        simp only[Bool.not_false,if_true,List.filter_nil,List.map_append,List.map_cons,List.map_nil]
        exact ahr
       ·rw[qK]
        simp only[Bool.false_eq_true,if_false,List.filter_nil,List.append_nil]
        exact adE.fy f18 λk hk mI=>uj k mI hk
       ·rcases Yb k hk with h|h
        ·exact XJ k h
        ·have:=adR.size;omega
       ·rcases Yb k hk with h|h
        ·exact uj k h mI
        ·have:=adE.iK mI;omega
     ·rintro⟨⟨zp',zl',zc'⟩,⟨nS,ol',oc'⟩,_⟩ jY ⟨XK,kh,XT,f15,ap6,aqn,ap4⟩
      exact⟨xl-(i+1),by omega,i+1,by omega,rfl,by show IntKind.i64.wrap ((i:Int)+1)=_;rw[wrap_i64 (by omega) (by omega)];rfl,XK,kh,XT,f15,ap6,aqn,ap4⟩
    ·have:i=L.length:=by omega
     subst this
     rw[List.take_length] at hz ho hr
     rw[Nat.sub_self,List.replicate_zero,List.append_nil] at hr
     exact⟨hz,ho,hr,f14,XJ,uj⟩
   rintro⟨⟨zp,zl,zc⟩,⟨op,ol,oc⟩,_⟩ gS ⟨hz,ho,hr,f13,XJ,uj⟩
   simp only at hz ho hr XJ uj
   dsimp only
   have hrb:(L.map λx=>x.testBit b)=kL W l j:=by unfold kL;rw[Sf,Uj]
   rw[hrb] at hr
   refine sa hr.rd (by omega) λgb rG tb f21=>?_
   have Q2:=f13.eZ f21
   have ahF:=Q2.fv Md λh=>h
   have XP:=hsl.fy Q2 λ_ _ h=>h
   have asj:=f13.size
   have asi:=f21.size
   have X1:∀k,fw lp k->k<Array.size de:=λk hk=>hsl.iK hk
   have aqE:=fe Md
   refine⟨_,rfl,_,_,_,(dh ahF 0 0).trans rfl,?_⟩
   refine zN XP rfl ⟨by simp,by simp⟩ (by omega) (by decide) λyn AP Ro afi f23 ahL=>?_
   have ash:=f23.size
   have Tj:=f23.fv ahF (XP.ne ahF (by decide))
   refine⟨_,rfl,⟨_,(dh Tj 0 0).trans rfl⟩,mQ Tj 0 0,db λH24 SE=>?_⟩
   have amZ:=iJ SE Tj
   have f24:=kn SE
   clear SE
   have asf:=f24.size
   have aqu:∀k,fw zp k->¬fw lp k:=λk hk h=>by have:=XJ k hk;have:=X1 k h;omega
   have amt:=(hz.fy f21 λ_ _ h=>h).fy f23 aqu
   have amN:=(ho.fy f21 λ_ _ h=>h).fy f23 λk hk h=>(ho.fy f21 λ_ _ h=>h).ne' XP (by decide) k hk h
   have ahk:=amt.fy f24 λk hk e=>amt.ne Tj (by decide) (e▸hk)
   have amM:=amN.fy f24 λk hk e=>amN.ne Tj (by decide) (e▸hk)
   have afh:=afi.fy f24 λk hk e=>afi.ne Tj (by decide) (e▸hk)
   have T9:=hz.1
   have C9:=ho.1
   have Jh:(ue b L).length=xl:=by rw[GZ,hL]
   have amO:zl+ol=xl:=by
    unfold ue at Jh
    rw[List.length_append] at Jh
    rw[List.length_map] at T9 C9
    omega
   refine zM ahk rfl (MI amM.rd) amM.1 (λv hv=>by obtain⟨x,_,rfl⟩:=List.mem_map.1 hv;exact⟨by simp,by simp⟩) (by omega) (by decide) λp' c' H25 amz f25 aqP=>?_
   have ase:=f25.size
   have afg:=afh.fy f25 λk hk h=>ahk.ne' afh (by decide) k h hk
   have aqC:=f25.fv amZ (ahk.ne amZ (by decide))
   have afk:Sl H25 gv ((ue b L).map A4) p' (zl+ol) c':=by
    unfold ue
    rw[List.map_append]
    exact amz
   have hFz:∀k,Fb k->¬fw zp k:=λk hk h=>by have:=XJ k h;have:=(va k hk).2.2.2;omega
   have ap5:∀k,fw zp k->k<Array.size gS:=λk hk=>hz.iK hk
   refine⟨gs++[gb],yn,AP,λk=>Fb k\/(Array.size gS<=k/\k<Array.size rG),amO,aqC,by simp[Cd],by rw[List.map_append];exact afg,?_,?_,?_,by rw[amO] at afk;exact afk.rd,?_,?_⟩
   ·intro k hk
    have QO:∀k,Fb k\/(Array.size gS<=k/\k<Array.size rG)->k<Array.size H25:=λk h=>by
     rcases h with h|h
     ·have:=(va k h).2.2.2;omega
     ·omega
    rcases Nat.lt_or_ge k j with hkj|hkj
    ·rw[List.getElem_append_left (by omega)]
     have t:=afl k (by omega)
     have t21:=t.fy Q2 λ_ _ h=>h
     have t23:=t21.fy f23 λi hi=>(va i hi).2.2.1
     have t24:=t23.fy f24 λi hi=>(va i hi).2.1
     exact(t24.fy f25 hFz).grow (λi hi=>.inl hi) QO
    ·have:k=j:=by simp[Cd] at hk;omega
     subst this
     rw[List.getElem_append_right (by omega)]
     have e:[gb][k-gs.length]'(by simp;omega)=gb:=by simp
     rw[e]
     have t23:=tb.fy f23 λi hi h=>by have:=X1 i h;omega
     have t24:=t23.fy f24 λi hi h=>by omega
     have t25:=t24.fy f25 λi hi h=>by have:=ap5 i h;omega
     exact t25.grow (λi hi=>.inr hi) QO
   ·intro k hk
    rcases hk with h|h
    ·obtain⟨a1,a2,a3,a4⟩:=va k h
     refine⟨a1,a2,λhb=>?_,by omega⟩
     rcases ahL k hb with h'|h'
     ·exact a3 h'
     ·omega
    ·refine⟨by omega,by omega,λhb=>?_,by omega⟩
     rcases ahL k hb with h'|h'
     ·have:=X1 k h';omega
     ·omega
   ·intro k hb
    rcases ahL k hb with h'|h'
    ·exact RL k h'
    ·omega
   ·intro _ k hk
    refine⟨?_,λh=>amz.ne' afg (by decide) k hk h⟩
    rcases aqP k hk with h|h
    ·have:=XJ k h;omega
    ·omega
   ·have anr:Fr gz H Ro:=(f10.eZ Q2).trans f23 λk hk=>.inr (by have:=RL k hk;omega)
    exact(anr.trans f24 λk hk=>.inr (by omega)).trans f25 λk hk=>.inr (by have:=XJ k hk;omega)
  ·rintro⟨⟨Z8,wx,tM⟩,_⟩ fg ⟨gs',yn,AP,Fb',h1,h2,h3,h4,h5,h6,h7,h8,h9,Yk⟩
   refine db λk9' aqx=>?_
   rw[wrap_i64 (by omega) (by omega)] at aqx
   refine⟨W-(j+1),by omega,j+1,gs',yn,AP,Fb',by omega,rfl,?_,h1,h2,h3,h4,h5,h6,h7,?_,h9,Yk⟩
   ·show k9'=_
    omega
   ·rw[vE,Uj,Sf]
    exact h8
 ·have:j=W:=by omega
  subst this
  refine lu g de ⟨0,by omega,gs,lp,lc,Fb,⟨?_,?_,?_,?_,LZ,by omega,by omega,λh=>(va g h).2.1 rfl⟩,⟨Nat.le_refl _,fe Md⟩,λk hk=>⟨RL k hk,hsl.iK hk⟩,λk hk=>⟨(va k hk).1,(va k hk).2.2.2⟩,λk hk=>hk.2⟩ f10
  ·rw[Cd,hlen];exact Md
  ·rw[Cd];exact hsl
  ·rw[Cd,<-hWd];rfl
  ·intro k hk
   rw[Cd]
   exact afl k hk
end Go.Proofs.iQ
