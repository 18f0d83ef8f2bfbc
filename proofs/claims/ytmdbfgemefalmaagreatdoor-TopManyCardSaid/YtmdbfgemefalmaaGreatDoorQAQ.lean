/- Part AQ of the proof that the law TopMany answers true at every input, under no condition. -/
import Derived.Test.YtmdbfgemefalmaaGreatDoorQAP
set_option linter.unusedVariables false
set_option maxHeartbeats 2000000
set_option maxRecDepth 100000
namespace Go.Ex
theorem aeg{H H1:Heap}{el:TypeId}{xs:List Value}{p:Option Addr}{l c bytes t1:Nat}{z v:Value}{K:Option Addr->Nat->Nat->Heap->Prop}(hs:Sl H el xs p l c)(h1:H1=gy H #[v] t1)(hz:dD z=[z])(ur:One v)(hb:(l+1)*bytes<=140737488355328)(qK:bytes≠0)
 (hK:∀p' c' H',Sl H' el (xs++[v]) p' (l+1) c'->Fr (fw p) H1 H'->(∀k,fw p' k->fw p k\/Array.size H1<=k)->K p' (l+1) c' H'):
 jN el 1 bytes z p l c (.slice (some ⟨Array.size H,0,none⟩) 1 1) H1 K:=by
 have hf:Fr gz H H1:=by rw[h1];exact Fr.new H #[v] t1
 refine zM (new:=[v]) (hs.fy hf (λ_ _ h=>h)) hz ?_ rfl (by simpa using ur) hb qK hK
 refine⟨rfl,rfl,?_⟩
 intro j u hj
 rw[dh (by rw[h1];exact eV),Nat.zero_add]
 simpa using hj
theorem yE{a:Nat}(h:a<2^63):IntKind.i64.wrap (a:Int)=(a:Int):=wrap_i64 (by omega) (by omega)
theorem JI{a b:Nat}(ha:a<2^63)(hb:b<2^63):lN .i64 a b=((a&&&b:Nat):Int):=by
 unfold lN
 rw[show IntKind.i64.bits=64 from rfl,ofInt_u64,ofInt_u64,BitVec.toNat_and,BitVec.toNat_ofNat,BitVec.toNat_ofNat,Nat.mod_eq_of_lt (by omega),Nat.mod_eq_of_lt (by omega),yE (Nat.and_lt_two_pow a hb)]
def rk(m:List Bool)(k:Nat)(bit:Bool):Nat:=(m.take k).count bit
def chunk(m:List Bool)(j:Nat):List Bool:=(m.drop (64*j)).take 64
theorem sL(m:List Bool)(j:Nat):(chunk m j).length=min 64 (m.length-64*j):=by simp[chunk]
theorem Bu{m:List Bool}{j t:Nat}(h:t<(chunk m j).length):∃h2:64*j+t<m.length,(chunk m j)[t]=m[64*j+t]:=by
 have:=sL m j
 refine⟨by omega,?_⟩
 simp[chunk]
theorem NG(m:List Bool)(j t:Nat)(ht:t<=64):m.take (64*j+t)=m.take (64*j)++(chunk m j).take t:=by
 rw[List.take_add,chunk,List.take_take,Nat.min_eq_left ht]
theorem yT(m:List Bool)(j t:Nat)(ht:t<=64)(bit:Bool):rk m (64*j+t) bit=rk m (64*j) bit+((chunk m j).take t).count bit:=by
 unfold rk
 rw[NG m j t ht,List.count_append]
theorem acZ(m:List Bool)(k:Nat)(h:k<=m.length):rk m k true+rk m k false=k:=by
 have:∀l:List Bool,l.count true+l.count false=l.length:=by
  intro l
  induction l with
  |nil=>rfl
  |cons b l ih=>cases b<;>simp<;>omega
 unfold rk
 rw[this]
 simp
 omega
theorem GU(m:List Bool)(k:Nat)(bit:Bool):rk m k bit<=m.length:=by
 unfold rk
 exact Nat.le_trans List.count_le_length (by simp;omega)
theorem IM(m:List Bool){k k':Nat}(h:k<=k')(bit:Bool):rk m k bit<=rk m k' bit:=by
 unfold rk
 exact(List.take_sublist_take_left h).count_le bit
theorem vG{m:List Bool}{k:Nat}(h:k<m.length)(bit:Bool):rk m (k+1) bit=rk m k bit+(if m[k]=bit then 1 else 0):=by
 unfold rk
 rw[List.take_succ_eq_append_getElem h,List.count_append]
 congr 1
 rw[List.count_singleton]
 simp
theorem tm(m:List Bool){k:Nat}(h:m.length<=k)(bit:Bool):rk m k bit=m.count bit:=by
 unfold rk
 rw[List.take_of_length_le h]
end Go.Ex
namespace Go.Proofs.iQ
open Go.Ex
theorem sQ{n:Nat}(hn:n<2^64){H:Heap}{R:Int->Heap->Prop}(hR:R (pop n:Int) H):nV.C (n:Int) H R:=by
 apply nV.calls
 unfold nV.W
 have a1:∀x,x&&&mask 2 1 32<=6148914691236517205:=λx=>by have:=Nat.and_le_right (n:=x) (m:=mask 2 1 32);rw[Xl] at this⊢;exact this
 have a2:∀x,x&&&mask 4 3 16<=3689348814741910323:=λx=>by have:=Nat.and_le_right (n:=x) (m:=mask 4 3 16);rw[Xk] at this⊢;exact this
 have b1:f1 32 n<2^64:=by unfold f1;have:=a1 (n/2);have:=a1 n;omega
 have b2:f2 16 (f1 32 n)<=7378697629483820646:=by unfold f2;have:=a2 (f1 32 n/4);have:=a2 (f1 32 n);omega
 have hl:=Xo 8 _ (Oe 16 (f1 32 n))
 have hs:=apF hl
 rw[apE] at hs
 refine⟨by decide,db λx1 h1=>?_⟩
 have h1:x1=((f1 32 n:Nat):Int):=by
  rw[h1,show(1:Int)=((1:Nat):Int) from rfl,jF hn,show(6148914691236517205:Int)=((6148914691236517205:Nat):Int) from rfl,lT (rO hn 1) (by decide),lT hn (by decide),<-Int.natCast_add,<-Xl,Nat.shiftRight_eq_div_pow,mY]
  ·rfl
  ·exact b1
 subst h1
 refine⟨by decide,db λx2 h2=>?_⟩
 have h2:x2=((f2 16 (f1 32 n):Nat):Int):=by
  rw[h2,show(2:Int)=((2:Nat):Int) from rfl,jF b1,show(3689348814741910323:Int)=((3689348814741910323:Nat):Int) from rfl,lT (rO b1 2) (by decide),lT b1 (by decide),<-Int.natCast_add,<-Xk,Nat.shiftRight_eq_div_pow,mY]
  ·rfl
  ·exact Nat.lt_of_le_of_lt b2 (by decide)
 subst h2
 generalize hz:f2 16 (f1 32 n)=z at*
 refine⟨by decide,db λx3 h3=>?_⟩
 have h3:x3=((f3 8 z:Nat):Int):=by
  rw[h3,show(4:Int)=((4:Nat):Int) from rfl,jF (by omega),<-Int.natCast_add,Nat.shiftRight_eq_div_pow,show z/2^4=z/16 from rfl,mY (by omega),show(1085102592571150095:Int)=((1085102592571150095:Nat):Int) from rfl,lT (by omega) (by decide),<-aha]
  rfl
 subst h3
 generalize f3 8 z=w at*
 obtain⟨s0,s1,s2,s3,s4⟩:=hs
 generalize ha:w+w/256=a at*
 generalize hb:a+a/65536=b at*
 generalize hc:b+b/4294967296=c at*
 refine⟨by decide,db λx4 h4=>?_⟩
 have h4:x4=(a:Int):=by
  rw[h4,show(8:Int)=((8:Nat):Int) from rfl,jF (by omega),Nat.shiftRight_eq_div_pow,show w/2^8=w/256 from rfl,<-Int.natCast_add,ha,mY (by omega)]
 subst h4
 refine⟨by decide,db λx5 h5=>?_⟩
 have h5:x5=(b:Int):=by
  rw[h5,show(16:Int)=((16:Nat):Int) from rfl,jF (by omega),Nat.shiftRight_eq_div_pow,show a/2^16=a/65536 from rfl,<-Int.natCast_add,hb,mY (by omega)]
 subst h5
 refine⟨by decide,db λx6 h6=>?_⟩
 have h6:x6=(c:Int):=by
  rw[h6,show(32:Int)=((32:Nat):Int) from rfl,jF (by omega),Nat.shiftRight_eq_div_pow,show b/2^32=b/4294967296 from rfl,<-Int.natCast_add,hc,mY (by omega)]
 subst h6
 refine db λx7 h7=>?_
 have h7:x7=(pop n:Int):=by
  rw[h7,yE s3,show(127:Int)=((127:Nat):Int) from rfl,JI s3 (by decide),show 127=2^7-1 from rfl,Nat.and_two_pow_sub_one_eq_mod,show c%2^7=c%128 from rfl,s4]
 rw[h7]
 exact hR
abbrev W5(m:List Bool)(j:Nat):Value:=.iface ic (.agg #[.int .u64 (ni (chunk m j):Int),.int .i64 (rk m (64*j) true:Int)])
def parts(m:List Bool)(n:Nat):List Value:=(List.range n).map (W5 m)
theorem N1(m:List Bool)(n:Nat):parts m (n+1)=parts m n++[W5 m n]:=by simp[parts,List.range_succ]
structure aiQ(H:Heap)(g:Nat)(m:List Bool)(lp:Option Addr)(lc:Nat):Prop where
 fv:H[g]?=some (.cells #[.slice lp (m.length/64+1) lc,.int .i64 (m.length:Int)] mR (0,0))
 sl:Sl H gV (parts m (m.length/64+1)) lp (m.length/64+1) lc
 sW:m.length<=4194304
def mL(H:Heap)(g:Nat)(m:List Bool)(F:Nat->Prop):Prop:=∃lp lc,aiQ H g m lp lc/\F g/\(∀k,fw lp k->F k)/\∀k,F k->k<Array.size H
theorem mL.fy{H H':Heap}{g:Nat}{m:List Bool}{F G:Nat->Prop}(h:mL H g m F)(hf:Fr G H H')(hd:∀k,F k->¬G k):mL H' g m F:=by
 obtain⟨lp,lc,h,h1,h2,h3⟩:=h
 exact⟨lp,lc,⟨hf.fv h.fv (hd _ h1),h.sl.fy hf λk hk=>hd k (h2 k hk),h.sW⟩,h1,h2,λk hk=>Nat.lt_of_lt_of_le (h3 k hk) hf.size⟩
theorem mL.oP{H H':Heap}{g:Nat}{m:List Bool}{F:Nat->Prop}(h:mL H g m F)(hf:Fr gz H H'):mL H' g m F:=h.fy hf λ_ _ h=>h
section
variable {H:Heap} {g:Nat} {m:List Bool} {F:Nat->Prop}
theorem mL.sW(h:mL H g m F):m.length<=4194304:=by obtain⟨_,_,h,_⟩:=h;exact h.sW
theorem iV(h:mL H g m F){R:Int->Heap->Prop}(hR:R (m.length:Int) H):mh.C (some ⟨g,0,none⟩) H R:=by
 obtain⟨lp,lc,h,_⟩:=h
 apply mh.calls
 unfold mh.W
 exact eY rfl ⟨_,rfl,_,(dh h.fv 0 1).trans rfl,hR⟩
theorem ns{H H1:Heap}{cs:Array Value}{t:TypeId}(h:H1=gy H cs t):H1[Array.size H]?=some (.cells cs t (0,0)):=by rw[h];exact eV
theorem kn{H H1:Heap}{b o:Nat}{v:Value}(h:H1=nQ H ((⟨b,0,none⟩:Addr).add o) v):Fr (λk=>k=b) H H1:=by
 rw[h,iM];exact Fr.set H ⟨b,0+o,none⟩ _
theorem iJ{H H1:Heap}{b o:Nat}{v:Value}{cs:Array Value}{t:TypeId}(h:H1=nQ H ((⟨b,0,none⟩:Addr).add o) v)(hb:H[b]?=some (.cells cs t (0,0))):H1[b]?=some (.cells (cs.setIfInBounds (0+o) v) t (0,0)):=by
 rw[h,kG hb]
theorem tV(h:mL H g m F){k:Nat}(hk:k<m.length/64+1){R:Int->Int->Heap->Prop}(hR:∀H',Fr gz H H'->R (ni (chunk m k):Int) (rk m (64*k) true:Int) H'):dU.C (some ⟨g,0,none⟩) (k:Int) H R:=by
 apply dU.calls
 unfold dU.W
 refine db λH1 h1=>?_
 have f1:Fr gz H H1:=by rw[h1];exact Fr.new _ _ _
 have n1:=ns h1
 have s1:Array.size H1=Array.size H+1:=by rw[h1];exact gC
 obtain⟨lp,lc,hb,_⟩:=h.oP f1
 obtain⟨a,ha,hc⟩:=hb.sl.rd.get (i:=k) (v:=W5 m k) (by
  unfold parts
  rw[List.getElem?_map,List.getElem?_range hk];rfl)
 refine⟨_,rfl,_,_,_,(dh hb.fv 0 0).trans rfl,a,ha,by omega,by omega,_,by rw[Int.toNat_natCast];exact hc,_,_,true,.inl ⟨rfl,rfl⟩,db λH2 h2=>?_⟩
 have f2:Fr gz H1 H2:=by rw[h2];exact Fr.new _ _ _
 have n2:=ns h2
 have s2:Array.size H2=Array.size H1+1:=by rw[h2];exact gC
 refine⟨⟨_,(dh n2 0 0).trans rfl⟩,mQ n2 0 0,db λH4 h4=>?_⟩
 have n4:=iJ h4 n2
 have f4:=kn h4
 refine⟨⟨_,(dh n4 0 1).trans rfl⟩,mQ n4 0 1,db λH5 h5=>?_⟩
 have n5:=iJ h5 n4
 have f5:=kn h5
 have f25:Fr gz H1 H5:=(f2.trans f4 λk hk=>.inr (by omega)).trans f5 λk hk=>.inr (by omega)
 have m5:=f25.fv n1 λh=>h
 refine⟨_,(dh n5 0 0).trans rfl,_,(dh n5 0 1).trans rfl,⟨_,(dh m5 0 0).trans rfl⟩,mQ m5 0 0,db λH7 h7=>?_⟩
 have n7:=iJ h7 m5
 have f7:=kn h7
 refine⟨⟨_,(dh n7 0 1).trans rfl⟩,mQ n7 0 1,db λH8 h8=>?_⟩
 have n8:=iJ h8 n7
 have f8:=kn h8
 have f18:Fr gz H H8:=((f1.eZ f25).trans f7 λk hk=>.inr (by omega)).trans f8 λk hk=>.inr (by omega)
 exact⟨_,(dh n8 0 0).trans rfl,_,(dh n8 0 1).trans rfl,hR H8 f18⟩
theorem oI(m:List Bool)(j:Nat):ni (chunk m j)<2^64:=
 Nat.lt_of_lt_of_le (py _) (Nat.pow_le_pow_right (by decide) (by rw[sL];omega))
theorem il(h:mL H g m F)(k:Int)(bit:Bool){R:Int->Heap->Prop}(hR:∀H',Fr gz H H'->R (rk m k.toNat bit:Int) H'):kB.C (some ⟨g,0,none⟩) k bit H R:=by
 apply kB.calls
 unfold kB.W
 refine iV h (db λk1 ZR=>?_)
 have oU:=h.sW
 obtain⟨c,hc,Mg,Oo⟩:∃c:Nat,k1=(c:Int)/\c<=m.length/\rk m k.toNat bit=rk m c bit:=by
  rcases Nat.le_total k.toNat m.length with h|h
  ·exact⟨k.toNat,by omega,h,rfl⟩
  ·exact⟨m.length,by omega,Nat.le_refl _,by rw[tm m h,tm m (Nat.le_refl _)]⟩
 rw[Oo] at hR
 subst hc
 clear ZR Oo
 refine ft (λh0=>?_) (λh0=>?_)
 ·have:c=0:=by omega
  subst this
  exact hR H (Fr.refl _ _)
 ·refine⟨by decide,?_⟩
  rw[show Int.tdiv (c:Int) 64=((c/64:Nat):Int) from rfl,wrap_i64 (by omega) (by omega)]
  refine tV h (by omega) λH2 f2=>db λH3 h3=>?_
  have f3:Fr gz H2 H3:=by rw[h3];exact Fr.new _ _ _
  have n3:=ns h3
  refine⟨⟨_,(dh n3 0 0).trans rfl⟩,mQ n3 0 0,db λH5 h5=>?_⟩
  have n5:=iJ h5 n3
  have f5:=kn h5
  refine⟨⟨_,(dh n5 0 1).trans rfl⟩,mQ n5 0 1,db λH6 h6=>?_⟩
  have n6:=iJ h6 n5
  have f6:=kn h6
  have fr:Fr gz H H6:=((f2.eZ f3).trans f5 λk hk=>.inr (by have:=f2.size;omega)).trans f6 λk hk=>.inr (by have:=f2.size;omega)
  refine⟨_,(dh n6 0 1).trans rfl,_,(dh n6 0 0).trans rfl,by decide,?_⟩
  have hr:c%64<64:=Nat.mod_lt _ (by decide)
  rw[show Int.tmod (c:Int) 64=((c%64:Nat):Int) from rfl,mY (by omega)]
  refine⟨by omega,?_⟩
  have XV:2^(c%64)<2^64:=Nat.pow_lt_pow_right (by decide) hr
  have J1:0<2^(c%64):=Nat.pow_pos (by decide)
  rw[show(1:Int)=((1:Nat):Int) from rfl,uM,Nat.shiftLeft_eq,Nat.one_mul,Nat.mod_eq_of_lt XV,show((2^(c%64):Nat):Int)-((1:Nat):Int)=((2^(c%64)-1:Nat):Int) by omega,mY (by omega),
   lT (oI m _) (by omega),Nat.and_two_pow_sub_one_eq_mod,Sw]
  have lC:ni ((chunk m (c/64)).take (c%64))<2^64:=Nat.lt_of_lt_of_le (py _) (Nat.pow_le_pow_right (by decide) (by simp;omega))
  refine sQ lC ?_
  rw[Ls (by simp;omega)]
  refine⟨⟨_,(dh n6 0 1).trans rfl,rfl⟩,db λn8 Ov=>?_⟩
  have R0:c=64*(c/64)+c%64:=by omega
  have V2:=yT m (c/64) (c%64) (by omega) true
  rw[<-R0] at V2
  have hle:=GU m c true
  have Ov:n8=(rk m c true:Int):=by
   rw[Ov,<-Int.natCast_add,<-V2,wrap_i64 (by omega) (by omega)]
  subst Ov
  refine eG ?_
  refine ik (λhb=>?_) (λhb=>?_)
  ·have hb:bit=false:=by simpa using hb
   subst hb
   refine db λn8 Ov=>?_
   have hbo:=acZ m c Mg
   have:n8=(rk m c false:Int):=by rw[Ov,wrap_i64 (by omega) (by omega)];omega
   rw[this]
   exact hR H6 fr
  ·have hb:bit=true:=by simpa using hb
   subst hb
   exact hR H6 fr
theorem wY(h:mL H g m F)(n:Int){R:Bool->Int->Heap->Prop}(h1:∀(k:Nat)(hk:k<m.length) H',n=(k:Int)->Fr gz H H'->R m[k] 0 H')(h2:(n<0\/(m.length:Int)<=n)->R false 4 H):dR.C (some ⟨g,0,none⟩) n H R:=by
 apply dR.calls
 unfold dR.W
 refine eG (eG ?_)
 refine ft (λhn=>iR rfl (h2 (.inl hn))) (λhn=>?_)
 refine iV h ?_
 refine ft (λhl=>h2 (.inr hl)) (λhl=>?_)
 have oU:=h.sW
 obtain⟨k,rfl⟩:∃k:Nat,n=(k:Int):=⟨n.toNat,by omega⟩
 have hk:k<m.length:=by omega
 refine⟨by decide,?_⟩
 rw[show Int.tdiv (k:Int) 64=((k/64:Nat):Int) from rfl,wrap_i64 (by omega) (by omega)]
 refine tV h (by omega) λH4 f4=>⟨by decide,?_⟩
 have hr:k%64<64:=Nat.mod_lt _ (by decide)
 rw[show Int.tmod (k:Int) 64=((k%64:Nat):Int) from rfl,mY (by omega)]
 refine⟨by omega,?_⟩
 have hv:=oI m (k/64)
 rw[jF hv,show(1:Int)=((1:Nat):Int) from rfl,lT (rO hv _) (by decide),Nat.and_one_is_mod]
 have Mg:k%64<(chunk m (k/64)).length:=by rw[sL];omega
 obtain⟨hh,RZ⟩:=Bu Mg
 have e:decide (((ni (chunk m (k/64))>>>(k%64)%2:Nat):Int)=((1:Nat):Int))=m[k]:=by
  have h1:=px (chunk m (k/64)) (k%64)
  rw[Nat.testBit_eq_decide_div_mod_eq,<-Nat.shiftRight_eq_div_pow,List.getD_eq_getElem?_getD,List.getElem?_eq_getElem Mg] at h1
  have h1:decide (ni (chunk m (k/64))>>>(k%64)%2=1)=(chunk m (k/64))[k%64]:=h1
  rw[RZ] at h1
  have h2:m[64*(k/64)+k%64]=m[k]:=by congr 1;omega
  rw[h2] at h1
  rw[<-h1,Bool.eq_iff_iff]
  simp only[decide_eq_true_eq]
  omega
 rw[e]
 exact h1 k hk H4 rfl f4
end
end Go.Proofs.iQ
namespace Go.Ex
theorem vM(a:Nat):BitVec.ofInt 64 (a:Int)=BitVec.ofNat 64 a:=BitVec.ofInt_natCast 64 a
theorem nZ{a:Nat}(h:a<2^63):IntKind.i64.wrap (a:Int)=(a:Int):=wrap_i64 (by omega) (by omega)
theorem JH{a b:Nat}(ha:a<2^63)(hb:b<2^63):lN .i64 a b=((a&&&b:Nat):Int):=by
 unfold lN
 rw[show IntKind.i64.bits=64 from rfl,vM,vM,BitVec.toNat_and,BitVec.toNat_ofNat,BitVec.toNat_ofNat,Nat.mod_eq_of_lt (by omega),Nat.mod_eq_of_lt (by omega),nZ (Nat.and_lt_two_pow a hb)]
theorem ag1{a b:Nat}(ha:a<2^63)(hb:b<2^63):BT .i64 a b=((a|||b:Nat):Int):=by
 unfold BT
 rw[show IntKind.i64.bits=64 from rfl,vM,vM,BitVec.toNat_or,BitVec.toNat_ofNat,BitVec.toNat_ofNat,Nat.mod_eq_of_lt (by omega),Nat.mod_eq_of_lt (by omega),nZ (Nat.or_lt_two_pow ha hb)]
theorem CU{a:Nat}(ha:a<2^63)(s:Nat):kP .i64 a s=((a>>>s:Nat):Int):=by
 have h:=jF (a:=a) (by omega) s
 exact h
theorem Qc{a s:Nat}(h:a*2^s<2^63)(hs:s<=64):pf .i64 a s=((a*2^s:Nat):Int):=by
 unfold pf
 rw[show IntKind.i64.bits=64 from rfl,Int.toNat_natCast,Nat.min_eq_left hs]
 have:(a:Int)*2^s=((a*2^s:Nat):Int):=by push_cast;rfl
 rw[this,nZ h]
end Go.Ex
namespace Go.Ex
def LI(last n:Nat):Nat:=ki (last/n)-1
theorem adI{last n:Nat}(hn:0<n):last>>>LI last n<2*n:=by
 rw[Nat.shiftRight_eq_div_pow,Nat.div_lt_iff_lt_mul (Nat.pow_pos (by decide))]
 have h1:last<(last/n+1)*n:=by
  have:=Nat.lt_mul_div_succ last hn
  rw[Nat.mul_comm] at this
  exact this
 have h2:last/n+1<=2^ki (last/n):=C3 _
 have h3:2^ki (last/n)<=2*2^LI last n:=by
  unfold LI
  rw[Nat.mul_comm,<-Nat.pow_succ]
  exact Nat.pow_le_pow_right (by decide) (by omega)
 have h4:(last/n+1)*n<=(2*2^LI last n)*n:=Nat.mul_le_mul_right _ (by omega)
 rw[Nat.mul_assoc,Nat.mul_comm (2^LI last n) n,<-Nat.mul_assoc] at h4
 omega
def vq(l:List Nat):Prop:=∀i j(hi:i<l.length)(hj:j<l.length),i<=j->l[i]<=l[j]
def FY(l:List Nat)(k m:Nat):Nat->List Bool
 |0=>List.replicate m false
 |i+1=>(FY l k m i).set (l.getD i 0>>>k+i) true
theorem yH(l:List Nat)(k m:Nat):∀i,(FY l k m i).length=m
 |0=>by simp[FY]
 |i+1=>by simp[FY,yH l k m i]
theorem Bh{l:List Bool}{p:Nat}(hp:p<l.length)(v:Bool)(i:Nat):(l.set p v).getD i false=if i=p then v else l.getD i false:=by
 rw[List.getD_eq_getElem?_getD,List.getElem?_set,List.getD_eq_getElem?_getD]
 by_cases h:p=i
 ·subst h;simp[hp]
 ·rw[if_neg h,if_neg (λe=>h e.symm)]
theorem yP{a b:Nat}(h:a<=b)(k:Nat):a>>>k<=b>>>k:=by
 rw[Nat.shiftRight_eq_div_pow,Nat.shiftRight_eq_div_pow]
 exact Nat.div_le_div_right h
theorem WJ{m:List Bool}{p q:Nat}(h:p<=q)(v bit:Bool):rk (m.set q v) p bit=rk m p bit:=by
 unfold rk
 rw[List.take_set_of_le h]
theorem Ek{l:List Nat}(hr:vq l){k m:Nat}(hm:∀i(hi:i<l.length),l[i]>>>k+i<m):∀(i:Nat)(hi:i<=l.length),(∀q,(∀j(hj:j<i),l.getD j 0>>>k+j<q)->(FY l k m i).getD q false=false)
 |0,_=>λq _=>by simp[FY,List.getD_eq_getElem?_getD,List.getElem?_replicate];split<;>rfl
 |i+1,hi=>λq hq=>by
  have yD:i<l.length:=by omega
  have e:l.getD i 0=l[i]:=by rw[List.getD_eq_getElem?_getD,List.getElem?_eq_getElem yD];rfl
  have:=hq i (by omega)
  unfold FY
  rw[Bh (by rw[yH,e];exact hm i yD),if_neg (by omega)]
  exact Ek hr hm i (by omega) q λj hj=>hq j (by omega)
theorem Qf{m:List Bool}{p q:Nat}(hpq:p<=q)(h:∀j,p<=j->m.getD j false=false):rk m q true=rk m p true:=by
 obtain⟨d,rfl⟩:∃d,q=p+d:=⟨q-p,by omega⟩
 induction d with
 |zero=>rfl
 |succ d ih=>
  rw[<-ih (by omega)]
  rcases Nat.lt_or_ge (p+d) m.length with lC|iG
  ·have h1:=h (p+d) (by omega)
   rw[List.getD_eq_getElem?_getD,List.getElem?_eq_getElem lC] at h1
   have h1:m[p+d]=false:=h1
   rw[show p+(d+1)=p+d+1 by omega,vG lC,h1]
   rfl
  ·rw[tm m (by omega),tm m iG]
theorem Ej{l:List Nat}(hr:vq l){k m:Nat}(hm:∀i(hi:i<l.length),l[i]>>>k+i<m):∀(n:Nat)(hn:n<=l.length),∀i(hi:i<n),(FY l k m n).getD (l.getD i 0>>>k+i) false=true/\rk (FY l k m n) (l.getD i 0>>>k+i) true=i
 |0,_,i,hi=>absurd hi (by omega)
 |n+1,hn,i,hi=>by
  have Jh:n<l.length:=by omega
  have en:∀j(hj:j<l.length),l.getD j 0=l[j]:=λj hj=>by rw[List.getD_eq_getElem?_getD,List.getElem?_eq_getElem hj];rfl
  have hp:l.getD n 0>>>k+n<(FY l k m n).length:=by rw[yH,en n Jh];exact hm n Jh
  unfold FY
  by_cases FP:i=n
  ·subst FP
   refine⟨by rw[Bh hp,if_pos rfl],?_⟩
   rw[WJ (Nat.le_refl _)]
   rcases Nat.eq_zero_or_pos i with h0|h0
   ·subst h0
    have:=Qf (m:=FY l k m 0) (Nat.zero_le (l.getD 0 0>>>k+0)) (λj _=>Ek hr hm 0 (by omega) j λj hj=>absurd hj (by omega))
    rw[this];rfl
   ·obtain⟨j,rfl⟩:∃j,i=j+1:=⟨i-1,by omega⟩
    obtain⟨h1,h2⟩:=Ej hr hm (j+1) (by omega) j (by omega)
    have hle:=hr j (j+1) (by omega) Jh (by omega)
    have hs:=yP hle k
    rw[<-en j (by omega),<-en (j+1) Jh] at hs
    have yC:l.getD j 0>>>k+j<(FY l k m (j+1)).length:=by rw[yH,en j (by omega)];exact hm j (by omega)
    have hf:=Qf (m:=FY l k m (j+1)) (p:=l.getD j 0>>>k+j+1) (q:=l.getD (j+1) 0>>>k+(j+1)) (by omega) λq hq=>Ek hr hm (j+1) (by omega) q λt ht=>by
     have:=hr t j (by omega) (by omega) (by omega)
     have:=yP this k
     rw[<-en t (by omega),<-en j (by omega)] at this
     omega
    rw[hf,vG yC,h2]
    have vj:(FY l k m (j+1))[l.getD j 0>>>k+j]=true:=by
     rw[List.getD_eq_getElem?_getD,List.getElem?_eq_getElem yC] at h1
     exact h1
    rw[if_pos vj]
  ·obtain⟨h1,h2⟩:=Ej hr hm n (by omega) i (by omega)
   have hle:=hr i n (by omega) Jh (by omega)
   have hs:=yP hle k
   rw[<-en i (by omega),<-en n Jh] at hs
   exact⟨by rw[Bh hp,if_neg (by omega)];exact h1,by rw[WJ (by omega)];exact h2⟩
theorem Oh(x k:Nat):x>>>k*2^k|||x%2^k=x:=by
 rw[Nat.shiftRight_eq_div_pow,Nat.mul_comm,<-Nat.two_pow_add_eq_or_of_lt (Nat.mod_lt _ (Nat.pow_pos (by decide))),Nat.div_add_mod]
end Go.Ex
namespace Go.Ex
theorem Ef:∀n,ni (List.replicate n false)=0
 |0=>rfl
 |n+1=>by simp[List.replicate_succ,ni,Ef n]
theorem K2{l:List Bool}(hm:true∈l):0<ni l:=by
 rcases Nat.eq_zero_or_pos (ni l) with h0|h0
 ·obtain⟨i,hi,he⟩:=List.getElem_of_mem hm
  have:=px l i
  rw[h0,List.getD_eq_getElem?_getD,List.getElem?_eq_getElem hi,he] at this
  simp at this
 ·exact h0
def xM:Nat->List Bool->List Bool
 |0,l=>l
 |n+1,l=>Uq (xM n l)
theorem MA(n:Nat)(l:List Bool):(xM n l).length=l.length:=by
 induction n with
 |zero=>rfl
 |succ n ih=>rw[xM,Rc,ih]
theorem xK(n:Nat)(l:List Bool):(xM n l).count true=l.count true-n:=by
 induction n with
 |zero=>rfl
 |succ n ih=>rw[xM,Ht,ih];omega
theorem Mz(l:List Bool):∀(n t:Nat),t+n<l.count true->nth (xM n l) t=nth l (t+n)
 |0,t,_=>rfl
 |n+1,t,h=>by
  rw[xM,Qt _ _ (by rw[xK];omega),Mz l n (t+1) (by omega)]
  congr 1
  omega
def word(c:List Bool)(bit:Bool):List Bool:=(c++List.replicate (64-c.length) false).map λx=>x==bit
theorem KZ{c:List Bool}(h:c.length<=64)(bit:Bool):(word c bit).length=64:=by simp[word];omega
theorem uK{c:List Bool}:ni (word c true)=ni c:=by
 have:word c true=c++List.replicate (64-c.length) false:=by simp[word]
 rw[this,oQ,Ef]
 omega
theorem Ce{c:List Bool}(h:c.length<=64):ni (word c false)=2^64-1-ni c:=by
 have h1:word c false=(word c true).map not:=by
  unfold word
  rw[List.map_map]
  apply List.map_congr_left
  intro x _
  cases x<;>rfl
 rw[h1,<-Wd (KZ h true),uK]
theorem GM{c:List Bool}(bit:Bool){i:Nat}(hi:i<=c.length):((word c bit).take i).count true=(c.take i).count bit:=by
 unfold word
 rw[<-List.map_take,List.take_append_of_le_length hi]
 generalize c.take i=l
 induction l with
 |nil=>rfl
 |cons b l ih=>
  rw[List.map_cons,List.count_cons,List.count_cons,ih]
  cases b<;>cases bit<;>simp
theorem Wa{c:List Bool}(bit:Bool){i:Nat}(hi:i<c.length)(h2:i<(word c bit).length):(word c bit)[i]=(c[i]==bit):=by
 have:(word c bit)[i]?=some (c[i]==bit):=by
  unfold word
  rw[List.getElem?_map,List.getElem?_append_left hi,List.getElem?_eq_getElem hi]
  rfl
 rw[List.getElem?_eq_getElem h2] at this
 exact Option.some.inj this
end Go.Ex
namespace Go.Proofs.iQ
open Go.Ex
def CA(H:Heap):Prop:=∀i,i<64->dj H ((⟨mG,0,none⟩:Addr).add i)=some (.int .u8 (Go.Lib.deBruijn64tab.getD i 0:Int))
theorem CA.oP{H H':Heap}(h:CA H)(hf:Fr gz H H'):CA H':=λi hi=>hf.cell (h i hi) λh=>h
theorem deB:∀k,k<64->2^k*285870213051353865%2^64/2^58<64/\Go.Lib.deBruijn64tab.getD (2^k*285870213051353865%2^64/2^58) 0=k:=by decide+kernel
theorem ac9{x:Nat}(h:x<2^64)(h0:0<x):IntKind.u64.wrap (0-(x:Int))=((2^64-x:Nat):Int):=by
 unfold IntKind.wrap;simp[IntKind.bits,IntKind.signed];omega
theorem acH{x k c:Nat}(lC:x<2^64)(h0:0<x)(zv:x&&&(2^64-x)=2^k):
 kP .u64 (IntKind.u64.wrap ((lN .u64 (x:Int) (IntKind.u64.wrap (0-(x:Int))))*(c:Int))) ((58:Nat):Int)=((2^k*c%2^64/2^58:Nat):Int):=by
 rw[ac9 lC h0,lT lC (by omega),zv,<-Int.natCast_mul,Eb,jF (Nat.mod_lt _ (by decide)),Nat.shiftRight_eq_div_pow]
theorem vo{l:List Bool}(hl:l.length<=64)(hm:true∈l){H:Heap}(hd:CA H){R:Int->Heap->Prop}(hR:R (nth l 0:Int) H):ko.C (ni l:Int) H R:=by
 apply ko.calls
 unfold ko.W
 have zr:=K2 hm
 have lC:ni l<2^64:=Nat.lt_of_lt_of_le (py l) (Nat.pow_le_pow_right (by decide) hl)
 have hZ:ni l≠0:=Nat.pos_iff_ne_zero.1 zr
 have am4:Go.Lib.ctz 64 (ni l)=nth l 0:=by
  unfold Go.Lib.ctz
  rw[if_neg hZ,Mw 64 l hm hl]
 have KT:=Go.Lib.lowest_bit 64 (ni l) hZ lC
 rw[am4] at KT
 clear am4
 obtain⟨zv,hk⟩:=KT
 obtain⟨i,e2,qg,Tq⟩:∃i:Nat,kP .u64 (IntKind.u64.wrap ((lN .u64 (ni l:Int) (IntKind.u64.wrap (0-(ni l:Int))))*((285870213051353865:Nat):Int))) ((58:Nat):Int)=(i:Int)/\i<64/\Go.Lib.deBruijn64tab.getD i 0=nth l 0:=
  ⟨_,acH lC zr zv,(deB _ hk).1,(deB _ hk).2⟩
 clear zv lC
 refine e8 (λh=>hZ (by exact_mod_cast h)) ⟨by decide,?_⟩
 rw[show(285870213051353865:Int)=((285870213051353865:Nat):Int) from rfl,show(58:Int)=((58:Nat):Int) from rfl,e2,Int.toNat_natCast]
 clear e2
 refine⟨by omega,by omega,_,hd i qg,db λy hy=>?_⟩
 rw[Tq,wrap_i64 (by omega) (by omega)] at hy
 rw[hy]
 exact hR
theorem lr{H:Heap}{g:Nat}{m:List Bool}{F:Nat->Prop}(h:mL H g m F)(hd:CA H)(j:Int)(bit:Bool){R:Int->Heap->Prop}
 (h1:∀(p:Nat)(hp:p<m.length) H',m[p]=bit->(rk m p bit:Int)=j->Fr gz H H'->R (p:Int) H')(h2:∀H',(j<0\/(m.count bit:Int)<=j)->Fr gz H H'->R (-1) H'):jI.C (some ⟨g,0,none⟩) j bit H R:=by
 apply jI.calls
 unfold jI.W
 have oU:=h.sW
 refine dW (λq H'=>Fr gz H H'/\(q.1=true->(j<0\/(m.count bit:Int)<=j))/\(q.1=false->0<=j/\j<(m.count bit:Int))) ?_ ?_ |> eG
 ·refine ft (λhn=>⟨Fr.refl _ _,λ_=>.inl hn,λh=>by cases h⟩) (λhn=>?_)
  refine iV h ?_
  refine il h _ bit λH4 f4=>?_
  rw[Int.toNat_natCast,tm m (Nat.le_refl _)]
  exact⟨f4,λh=>.inr (of_decide_eq_true h),λh=>⟨by omega,by have:=of_decide_eq_false h;omega⟩⟩
 rintro⟨q,_⟩ H1 ⟨f1,Tc,QJ⟩
 dsimp only at Tc QJ⊢
 refine ik (λhb=>h2 H1 (Tc hb) f1) (λhb=>?_)
 obtain⟨RO,hj1⟩:=QJ hb
 obtain⟨j,rfl⟩:∃n:Nat,j=(n:Int):=⟨j.toNat,by omega⟩
 clear h2 Tc QJ hb RO
 have aqN:m.count bit<=m.length:=List.count_le_length
 have b1:=h.oP f1
 obtain⟨lp,lc,oV,_⟩:=b1
 refine⟨_,rfl,_,_,_,(dh oV.fv 0 0).trans rfl,db λTi lx=>eG ?_⟩
 have lx:Ti=((m.length/64:Nat):Int):=by rw[lx,wrap_i64 (by omega) (by omega)];omega
 subst lx
 refine fJ (λn q H'=>∃lo hi:Nat,q.1=(lo:Int)/\q.2.1=(hi:Int)/\n=hi-lo/\lo<=hi/\hi<=m.length/64/\rk m (64*lo) bit<=j/\(hi=m.length/64\/j<rk m (64*(hi+1)) bit)/\Fr gz H H') (m.length/64)
  ⟨0,m.length/64,rfl,rfl,by omega,by omega,Nat.le_refl _,by simp[rk],.inl rfl,f1⟩ ?_
 rintro n ⟨x,y,_⟩ H6 ⟨lo,hi,hx,hy,rfl,hlh,hhn,mc,lx,f6⟩
 simp only at hx hy
 subst hx hy
 dsimp only
 refine ft (λlC=>?_) (λiG=>?_)
 ·refine⟨by decide,db λmid X0=>?_⟩
  obtain⟨mi,hmi,qW,xV⟩:∃mi:Nat,mid=(mi:Int)/\lo<mi/\mi<=hi:=by
   rw[wrap_i64 (n:=(lo:Int)+(hi:Int)) (by omega) (by omega),wrap_i64 (n:=(lo:Int)+(hi:Int)+1) (by omega) (by omega),show(lo:Int)+(hi:Int)+1=((lo+hi+1:Nat):Int) by omega,show Int.tdiv ((lo+hi+1:Nat):Int) 2=(((lo+hi+1)/2:Nat):Int) from rfl,wrap_i64 (by omega) (by omega)] at X0
   exact⟨_,X0,by omega,by omega⟩
  subst hmi
  clear X0
  rw[show IntKind.i64.wrap ((mi:Int)*64)=((64*mi:Nat):Int) by rw[wrap_i64 (by omega) (by omega)];omega]
  refine il (h.oP f6) _ bit λH7 f7=>?_
  rw[Int.toNat_natCast]
  refine ft (λhle=>?_) (λQN=>db λh8 hh8=>?_)
  ·exact⟨hi-mi,by omega,mi,hi,rfl,rfl,rfl,xV,hhn,by omega,lx,f6.eZ f7⟩
  ·refine⟨mi-1-lo,by omega,lo,mi-1,rfl,?_,rfl,by omega,by omega,mc,.inr ?_,f6.eZ f7⟩
   ·show h8=_
    rw[hh8,wrap_i64 (by omega) (by omega)];omega
   ·rw[show mi-1+1=mi by omega];omega
 ·have:lo=hi:=by omega
  subst this
  clear iG hlh
  have b6:=h.oP f6
  refine tV b6 (by omega) λH8 f8=>?_
  have f8:=f6.eZ f8
  have Mg:(chunk m lo).length<=64:=by rw[sL];omega
  have QI:=yT m lo 64 (Nat.le_refl _) bit
  rw[List.take_of_length_le Mg] at QI
  have asD:j<rk m (64*lo+64) bit:=by
   rcases lx with h|h
   ·rw[tm m (by omega)];omega
   ·rw[show 64*lo+64=64*(lo+1) by omega];exact h
  have LX:=KZ Mg bit
  have hwc:((word (chunk m lo) bit).take (chunk m lo).length).count true=(chunk m lo).count bit:=by rw[GM bit (Nat.le_refl _),List.take_length]
  have ass:((word (chunk m lo) bit).take (chunk m lo).length).count true<=(word (chunk m lo) bit).count true:=(List.take_sublist _ _).count_le _
  refine dW (λq H'=>q.1=(ni (word (chunk m lo) bit):Int)/\H'=H8) ?_ ?_
  ·refine ik (λhb=>?_) (λhb=>?_)
   ·have hb:bit=false:=by simpa using hb
    subst hb
    refine db λw hw=>⟨?_,rfl⟩
    show w=_
    rw[hw,Xf (oI m lo),Ce Mg]
   ·have hb:bit=true:=by simpa using hb
    subst hb
    refine⟨?_,rfl⟩
    show(ni (chunk m lo):Int)=_
    rw[uK]
  rintro⟨w,_⟩ H9 ⟨hw,rfl⟩
  simp only at hw
  subst hw
  dsimp only
  rw[show IntKind.i64.wrap ((lo:Int)*64)=((64*lo:Nat):Int) by rw[wrap_i64 (by omega) (by omega)];omega]
  refine dW (λq H'=>q.1=(ni (xM (j-rk m (64*lo) bit) (word (chunk m lo) bit)):Int)/\Fr gz H H') ?_ ?_
  ·refine il (h.oP f8) _ bit λfg f11=>?_
   rw[Int.toNat_natCast]
   refine fJ (λn q H'=>H'=fg/\∃i:Nat,i<=j-rk m (64*lo) bit/\n=j-rk m (64*lo) bit-i/\q.1=(ni (xM i (word (chunk m lo) bit)):Int)/\q.2.1=(i:Int)) (j-rk m (64*lo) bit) ⟨rfl,0,by omega,rfl,rfl,rfl⟩ ?_
   rintro n ⟨x,y,_⟩ fZ ⟨rfl,i,hi,rfl,hx,hy⟩
   simp only at hx hy
   subst hx hy
   dsimp only
   rw[wrap_i64 (n:=(j:Int)-(rk m (64*lo) bit:Int)) (by omega) (by omega)]
   refine ft (λlC=>db λw hw=>?_) (λiG=>?_)
   ·have hcc:=xK i (word (chunk m lo) bit)
    have qI:true∈xM i (word (chunk m lo) bit):=List.count_pos_iff.1 (by omega)
    have hp:=K2 qI
    have afp:ni (xM i (word (chunk m lo) bit))<2^64:=by have:=py (xM i (word (chunk m lo) bit));rwa[MA,LX] at this
    refine⟨j-rk m (64*lo) bit-(i+1),by omega,rfl,i+1,by omega,rfl,?_,?_⟩
    ·show w=_
     rw[hw,show((ni (xM i (word (chunk m lo) bit)):Nat):Int)-1=((ni (xM i (word (chunk m lo) bit))-1:Nat):Int) by omega,mY (by omega),lT afp (by omega),K3 qI]
     rfl
    ·show IntKind.i64.wrap ((i:Int)+1)=_
     rw[wrap_i64 (by omega) (by omega)];rfl
   ·have:i=j-rk m (64*lo) bit:=by omega
    rw[<-this]
    exact⟨rfl,f8.eZ f11⟩
  rintro⟨w,_⟩ de ⟨hw,f10⟩
  simp only at hw
  subst hw
  dsimp only
  have hcc:=xK (j-rk m (64*lo) bit) (word (chunk m lo) bit)
  have qI:true∈xM (j-rk m (64*lo) bit) (word (chunk m lo) bit):=List.count_pos_iff.1 (by omega)
  refine vo (by rw[MA,LX];exact Nat.le_refl _) qI (hd.oP f10) ?_
  rw[Mz _ _ 0 (by omega),Nat.zero_add]
  obtain⟨n1,n2,n3⟩:=EC (word (chunk m lo) bit) (j-rk m (64*lo) bit) (by omega)
  generalize nth (word (chunk m lo) bit) (j-rk m (64*lo) bit)=p at n1 n2 n3⊢
  have qu:p<(chunk m lo).length:=by
   rcases Nat.lt_or_ge p (chunk m lo).length with h|h
   ·exact h
   ·have:=(List.take_sublist_take_left (l:=word (chunk m lo) bit) h).count_le true
    omega
  obtain⟨lC,iG⟩:=Bu qu
  rw[Wa bit qu] at n2
  rw[GM bit (Nat.le_of_lt qu)] at n3
  have Oo:=yT m lo p (by omega) bit
  refine db λr hr=>?_
  have hr:r=((64*lo+p:Nat):Int):=by rw[hr,wrap_i64 (by omega) (by omega)];omega
  rw[hr]
  refine h1 _ lC de ?_ ?_ f10
  ·rw[<-iG];simpa using n2
  ·omega
end Go.Proofs.iQ
namespace Go.Proofs.iQ
open Go.Ex
theorem IP{H:Heap}{bs:List Bool}{p:Option Addr}{l:Nat}(h:Rd H (bs.map Value.bool) p l){i:Nat}(hi:i<l):∃(h2:i<bs.length)(a:Addr),p=some a/\dj H (a.add i)=some (.bool bs[i]):=by
 have hl:bs.length=l:=by have:=h.1;simpa using this
 have h2:i<bs.length:=by omega
 obtain⟨a,ha,hc⟩:=h.get (i:=i) (v:=.bool bs[i]) (by rw[List.getElem?_map,List.getElem?_eq_getElem h2];rfl)
 exact⟨h2,a,ha,hc⟩
theorem Eg{c:List Bool}{t:Nat}(h:t<c.length):ni (c.take (t+1))=if c[t]=true then ni (c.take t)|||2^t else ni (c.take t):=by
 rw[List.take_succ_eq_append_getElem h]
 have hl:(c.take t).length=t:=by simp;omega
 obtain⟨h1,h2⟩:=Sx (c.take t)
 rw[hl] at h1
 cases hb:c[t] with
 |true=>rw[h1];simp
 |false=>rw[h2];simp
theorem sa{H:Heap}{m:List Bool}{p:Option Addr}{n c:Nat}(ra:Rd H (m.map Value.bool) p n)(hn:n<=4194304){R:Option Addr->Int->Heap->Prop}
 (hR:∀g H',mL H' g m (λk=>Array.size H<=k/\k<Array.size H')->Fr gz H H'->R (some ⟨g,0,none⟩) 0 H'):jq.C p n c H R:=by
 apply jq.calls
 unfold jq.W
 have hl:m.length=n:=by have:=ra.1;simpa using this
 subst hl
 refine e8 (by omega) (db λH1 h1=>?_)
 have f1:Fr gz H H1:=by rw[h1];exact Fr.new _ _ _
 have s1:Array.size H1=Array.size H+1:=by rw[h1];exact gC
 have g1:=ns h1
 clear h1
 refine db λH2 h2=>?_
 have f2:Fr gz H1 H2:=by rw[h2];exact Fr.new _ _ _
 have s2:Array.size H2=Array.size H1+1:=by rw[h2];exact gC
 have p2:=ns h2
 have g2:=f2.fv g1 λh=>h
 clear h2
 refine eG ?_
 refine fJ (λk q H'=>∃(j:Nat)(lp:Option Addr)(lc:Nat)(w:Int),j<=m.length/64+1/\k=m.length/64+1-j/\q.1=((64*j:Nat):Int)/\
  H'[Array.size H]?=some (.cells #[.slice lp j lc,.int .i64 (m.length:Int)] mR (0,0))/\H'[Array.size H1]?=some (.cells #[.int .u64 w,.int .i64 (rk m (64*j) true:Int)] ic (0,0))/\
  Sl H' gV (parts m j) lp j lc/\(∀k,fw lp k->Array.size H<=k)/\Fr gz H H') (m.length/64+1)
  ⟨0,none,0,0,by omega,rfl,rfl,g2,p2,Sl.nil _ _,(by rintro k ⟨a,ha,_⟩;cases ha),f1.eZ f2⟩ ?_
 rintro k ⟨x,_⟩ H4 ⟨j,lp,lc,w,hj,rfl,hx,KW,Jf,Je,ahA,f4⟩
 simp only at hx
 subst hx
 dsimp only
 refine ft (λhle=>?_) (λQN=>?_)
 ·have hjn:j<m.length/64+1:=by omega
  refine eG ⟨⟨_,(dh Jf 0 0).trans rfl⟩,mQ Jf 0 0,db λH6 h6=>?_⟩
  have KO:=iJ h6 Jf
  have f6:=kn h6
  have KV:Array.size H≠Array.size H1:=by omega
  have uJ:=f6.fv KW KV
  have adD:=Je.fy f6 λk hk e=>Je.ne Jf (by decide) (e▸hk)
  have ZF:Fr gz H H6:=f4.trans f6 λk hk=>.inr (by omega)
  clear h6
  refine eG ?_
  have Mg:=sL m j
  refine fJ (λk q H'=>∃t:Nat,t<=(chunk m j).length/\k=(chunk m j).length-t/\q.1=((64*j+t:Nat):Int)/\
   H'[Array.size H]?=some (.cells #[.slice lp j lc,.int .i64 (m.length:Int)] mR (0,0))/\H'[Array.size H1]?=some (.cells #[.int .u64 (ni ((chunk m j).take t):Int),.int .i64 (rk m (64*j) true:Int)] ic (0,0))/\
   Sl H' gV (parts m j) lp j lc/\Fr gz H H') (chunk m j).length ⟨0,by omega,rfl,rfl,uJ,KO,adD,ZF⟩ ?_
  clear KW Jf Je f4 KO f6 uJ adD ZF
  rintro k ⟨x,_⟩ H8 ⟨t,ht,rfl,hx,X3,Uc,XO,f8⟩
  simp only at hx
  subst hx
  dsimp only
  rw[wrap_i64 (n:=((64*j:Nat):Int)+64) (by omega) (by omega)]
  refine ft (λlC=>?_) (λiG=>?_)
  ·have Ua:t<(chunk m j).length:=by omega
   obtain⟨hm,RZ⟩:=Bu Ua
   refine dW (λ_ H'=>H'[Array.size H]?=some (.cells #[.slice lp j lc,.int .i64 (m.length:Int)] mR (0,0))/\H'[Array.size H1]?=some (.cells #[.int .u64 (ni ((chunk m j).take (t+1)):Int),.int .i64 (rk m (64*j) true:Int)] ic (0,0))/\
    Sl H' gV (parts m j) lp j lc/\Fr gz H H') ?_ ?_
   ·obtain⟨h2,a,rfl,hc⟩:=IP (ra.oP f8) hm
    refine⟨a,rfl,by omega,by omega,_,by rw[Int.toNat_natCast];exact hc,?_⟩
    rw[Eg Ua,RZ]
    refine ik (λhb=>?_) (λhb=>?_)
    ·rw[if_pos hb]
     refine⟨_,(dh Uc 0 0).trans rfl,?_⟩
     rw[show((64*j+t:Nat):Int)-((64*j:Nat):Int)=(t:Int) by omega,wrap_i64 (n:=(t:Int)) (by omega) (by omega),mY (a:=t) (by omega)]
     refine⟨by omega,⟨_,(dh Uc 0 0).trans rfl⟩,mQ Uc 0 0,db λde Yk=>?_⟩
     have PZ:ni ((chunk m j).take t)<2^64:=Nat.lt_of_lt_of_le (py _) (Nat.pow_le_pow_right (by decide) (by simp;omega))
     have XV:2^t<2^64:=Nat.pow_lt_pow_right (by decide) (by omega)
     have xw:BT .u64 (ni ((chunk m j).take t):Int) (pf .u64 1 (t:Int))=((ni ((chunk m j).take t)|||2^t:Nat):Int):=by
      rw[show(1:Int)=((1:Nat):Int) from rfl,uM,Nat.shiftLeft_eq,Nat.one_mul,Nat.mod_eq_of_lt XV,CZ PZ XV]
     rw[xw] at Yk
     have ahu:=iJ Yk Uc
     have f10:=kn Yk
     exact⟨f10.fv X3 KV,ahu,XO.fy f10 λk hk e=>XO.ne Uc (by decide) (e▸hk),f8.trans f10 λk hk=>.inr (by omega)⟩
    ·rw[if_neg (by rw[hb];decide)]
     exact⟨X3,Uc,XO,f8⟩
   ·rintro _ H9 ⟨hg9,qC,aqa,f9⟩
    refine db λi7 hi7=>⟨(chunk m j).length-(t+1),by omega,t+1,by omega,rfl,?_,hg9,qC,aqa,f9⟩
    show i7=_
    rw[hi7,wrap_i64 (by omega) (by omega)];omega
  ·have:t=(chunk m j).length:=by omega
   subst this
   rw[List.take_length] at Uc
   refine⟨_,rfl,_,_,_,(dh X3 0 0).trans rfl,_,(dh Uc 0 0).trans rfl,_,(dh Uc 0 1).trans rfl,db λfg QT=>?_⟩
   have f11:Fr gz H8 fg:=by rw[QT];exact Fr.new _ _ _
   have adK:=f11.fv X3 λh=>h
   have XW:=f11.fv Uc λh=>h
   refine⟨⟨_,_,_,(dh adK 0 0).trans rfl,rfl⟩,?_⟩
   refine aeg XO QT rfl ⟨by simp,by simp⟩ (by omega) (by decide) λyn AP fZ QF f12 am8=>?_
   have XR:=XO.fy f11 λ_ _ h=>h
   have Tk:=f12.fv adK (XR.ne adK (by decide))
   have aqj:=f12.fv XW (XR.ne XW (by decide))
   have QF:Sl fZ gV (parts m (j+1)) yn (j+1) AP:=by rw[N1];exact QF
   have Yl:Fr gz H fZ:=(f8.eZ f11).trans f12 λk hk=>.inr (ahA k hk)
   have amV:∀k,fw yn k->Array.size H<=k:=λk hk=>by
    rcases am8 k hk with h|h
    ·exact ahA k h
    ·have:=f8.size;have:=f11.size;omega
   clear QT f11 f12 adK XW XR am8
   refine⟨_,rfl,⟨_,(dh Tk 0 0).trans rfl⟩,mQ Tk 0 0,db λgS Um=>?_⟩
   have aqD:=iJ Um Tk
   have f13:=kn Um
   have Ot:=f13.fv aqj (λe=>KV e.symm)
   have afj:=QF.fy f13 λk hk e=>QF.ne Tk (by decide) (e▸hk)
   have aqV:Fr gz H gS:=Yl.trans f13 λk hk=>.inr (by omega)
   clear Um
   refine⟨_,(dh Ot 0 1).trans rfl,_,(dh Ot 0 0).trans rfl,?_⟩
   refine sQ (oI m j) ?_
   rw[Ls (by omega)]
   refine⟨⟨_,(dh Ot 0 1).trans rfl,rfl⟩,⟨_,(dh Ot 0 1).trans rfl⟩,mQ Ot 0 1,db λjY Yj=>db λk6 hk6=>?_⟩
   have Oo:=yT m j 64 (Nat.le_refl _) true
   rw[List.take_of_length_le (l:=chunk m j) (by omega)] at Oo
   have hle:=GU m (64*j+64) true
   have xw:IntKind.i64.wrap ((rk m (64*j) true:Int)+((chunk m j).count true:Int))=(rk m (64*(j+1)) true:Int):=by
    rw[wrap_i64 (by omega) (by omega),show 64*(j+1)=64*j+64 by omega,Oo];omega
   rw[xw] at Yj
   have aqi:=iJ Yj Ot
   have f15:=kn Yj
   refine⟨m.length/64+1-(j+1),by omega,j+1,yn,AP,_,by omega,rfl,?_,f15.fv aqD KV,aqi,afj.fy f15 λk hk e=>afj.ne Ot (by decide) (e▸hk),amV,aqV.trans f15 λk hk=>.inr (by omega)⟩
   show k6=_
   rw[hk6];omega
 ·have:j=m.length/64+1:=by omega
  subst this
  refine hR _ H4 ⟨lp,lc,⟨KW,Je,hn⟩,⟨Nat.le_refl _,fe KW⟩,λk hk=>⟨ahA k hk,Je.iK hk⟩,λk hk=>hk.2⟩ f4
end Go.Proofs.iQ
namespace Go.Ex
theorem vF{m:List Bool}{bit:Bool}{p q:Nat}(hp:p<m.length)(hq:q<m.length)(bp:m[p]=bit)(bq:m[q]=bit)(h:rk m p bit=rk m q bit):p=q:=by
 rcases Nat.lt_trichotomy p q with h1|h1|h1
 ·have:=IM m (show p+1<=q by omega) bit
  rw[vG hp,if_pos bp] at this
  omega
 ·exact h1
 ·have:=IM m (show q+1<=p by omega) bit
  rw[vG hq,if_pos bq] at this
  omega
theorem oS{m:List Bool}{bit:Bool}{p:Nat}(hp:p<m.length)(bp:m[p]=bit):rk m p bit<m.count bit:=by
 have:=IM m (show p+1<=m.length by omega) bit
 rw[vG hp,if_pos bp,tm m (Nat.le_refl _)] at this
 omega
end Go.Ex
namespace Go.Proofs.iQ
open Go.Ex
abbrev th(n:Nat):Value:=.int .u64 (n:Int)
abbrev I5:ByteArray:=⟨#[0,1,2,2,3,3,3,3,4,4,4,4,4,4,4,4,5,5,5,5,5,5,5,5,5,5,5,5,5,5,5,5,6,6,6,6,6,6,6,6,6,6,6,6,6,6,6,6,6,6,6,6,6,6,6,6,6,6,6,6,6,6,6,6,7,7,7,7,7,7,7,7,7,7,7,7,7,7,7,7,7,7,7,7,7,7,7,7,7,7,7,7,7,7,7,7,7,7,7,7,7,7,7,7,7,7,7,7,7,7,7,7,7,7,7,7,7,7,7,7,7,7,7,7,7,7,7,7,8,8,8,8,8,8,8,8,8,8,8,8,8,8,8,8,8,8,8,8,8,8,8,8,8,8,8,8,8,8,8,8,8,8,8,8,8,8,8,8,8,8,8,8,8,8,8,8,8,8,8,8,8,8,8,8,8,8,8,8,8,8,8,8,8,8,8,8,8,8,8,8,8,8,8,8,8,8,8,8,8,8,8,8,8,8,8,8,8,8,8,8,8,8,8,8,8,8,8,8,8,8,8,8,8,8,8,8,8,8,8,8,8,8,8,8,8,8,8,8,8,8,8,8,8,8,8,8]⟩
theorem LJ:I5.size=256:=by decide+kernel
theorem LK:∀x:Nat,x<256->bt I5 (x:Int)=(ki x:Int):=by decide+kernel
theorem O7{n:Nat}(hn:n<2^64){H:Heap}{R:Int->Heap->Prop}(hR:R (ki n:Int) H):bits_Len64.C (n:Int) H R:=by
 apply bits_Len64.calls
 unfold bits_Len64.W
 have h64:=Rf hn
 refine dW (λq H'=>H'=H/\∃m c:Nat,q.1=(m:Int)/\q.2.1=(c:Int)/\m<2^32/\ki n=c+ki m) ?_ ?_
 ·refine ft (λh=>⟨by decide,db λx hx=>?_⟩) (λh=>⟨rfl,n,0,rfl,rfl,by omega,by omega⟩)
  refine⟨rfl,n>>>32,32,?_,rfl,?_,?_⟩
  ·show x=_
   rw[hx,show(32:Int)=((32:Nat):Int) from rfl,jF hn]
  ·rw[Nat.shiftRight_eq_div_pow];omega
  ·rw[Fs]
   have:¬ki n<=32:=λhh=>by have:=asN.1 hh;omega
   omega
 rintro⟨x,y,_⟩ H' ⟨rfl,m,c,hx,hy,hm,he⟩
 simp only at hx hy
 subst hx hy
 dsimp only
 refine dW (λq mK=>mK=H'/\∃m c:Nat,q.1=(m:Int)/\q.2.1=(c:Int)/\m<2^16/\ki n=c+ki m) ?_ ?_
 ·refine ft (λh=>⟨by decide,db λx hx=>db λy hy=>?_⟩) (λh=>⟨rfl,m,c,rfl,rfl,by omega,by omega⟩)
  refine⟨rfl,m>>>16,c+16,?_,?_,?_,?_⟩
  ·show x=_
   rw[hx,show(16:Int)=((16:Nat):Int) from rfl,jF (by omega)]
  ·show y=_
   rw[hy,wrap_i64 (by omega) (by omega)];rfl
  ·rw[Nat.shiftRight_eq_div_pow];omega
  ·rw[Fs]
   have:¬ki m<=16:=λhh=>by have:=asN.1 hh;omega
   omega
 clear hm he
 rintro⟨x,y,_⟩ mK ⟨rfl,m,c,hx,hy,hm,he⟩
 simp only at hx hy
 subst hx hy
 dsimp only
 refine dW (λq H'=>H'=mK/\∃m c:Nat,q.1=(m:Int)/\q.2.1=(c:Int)/\m<2^8/\ki n=c+ki m) ?_ ?_
 ·refine ft (λh=>⟨by decide,db λx hx=>db λy hy=>?_⟩) (λh=>⟨rfl,m,c,rfl,rfl,by omega,by omega⟩)
  refine⟨rfl,m>>>8,c+8,?_,?_,?_,?_⟩
  ·show x=_
   rw[hx,show(8:Int)=((8:Nat):Int) from rfl,jF (by omega)]
  ·show y=_
   rw[hy,wrap_i64 (by omega) (by omega)];rfl
  ·rw[Nat.shiftRight_eq_div_pow];omega
  ·rw[Fs]
   have:¬ki m<=8:=λhh=>by have:=asN.1 hh;omega
   omega
 clear hm he
 rintro⟨x,y,_⟩ H' ⟨rfl,m,c,hx,hy,hm,he⟩
 simp only at hx hy
 subst hx hy
 dsimp only
 have hm:m<256:=by omega
 rw[wrap_u8 (by omega) (by omega)]
 refine⟨by omega,by show(m:Int)<(I5.size:Int);rw[LJ];omega,db λz hz=>?_⟩
 have hz:z=IntKind.i64.wrap ((c:Int)+IntKind.i64.wrap (bt I5 (m:Int))):=hz
 rw[LK m hm,wrap_i64 (n:=(ki m:Int)) (by omega) (by omega),wrap_i64 (by omega) (by omega)] at hz
 rw[hz,show(c:Int)+(ki m:Int)=(ki n:Int) by omega]
 exact hR
theorem xP{n:Nat}(hn:n<2^64){H:Heap}{R:Int->Heap->Prop}(hR:R (ki n:Int) H):fL.C (n:Int) H R:=by
 apply fL.calls
 unfold fL.W
 exact O7 hn hR
theorem xh{H:Heap}{l:List Nat}{p:Option Addr}{n:Nat}(h:Rd H (l.map th) p n){i:Nat}(hi:i<n):∃(h2:i<l.length)(a:Addr),p=some a/\dj H (a.add i)=some (.int .u64 (l[i]:Int)):=by
 have hl:l.length=n:=by have:=h.1;simpa using this
 have h2:i<l.length:=by omega
 obtain⟨a,ha,hc⟩:=h.get (i:=i) (v:=th l[i]) (by rw[List.getElem?_map,List.getElem?_eq_getElem h2];rfl)
 exact⟨h2,a,ha,hc⟩
theorem Zk{H:Heap}{l:List Nat}{p:Option Addr}{n c:Nat}(h:Rd H (l.map th) p n)(h0:0<n)(hb:n<=1099511627776){R:Int->Heap->Prop}(hR:R (Cn l:Int) H):iN.C p n c H R:=by
 apply iN.calls
 unfold iN.W
 have hl:l.length=n:=by have:=h.1;simpa using this
 refine eG (e8 (by omega) ?_)
 obtain⟨h2,a,rfl,hc⟩:=xh h h0
 refine⟨a,rfl,by omega,by omega,_,hc,eG ?_⟩
 refine fJ (λk q H'=>H'=H/\∃i:Nat,i<=n/\k=n-i/\q.1=(Cn (l.take i):Int)/\q.2.1=(i:Int)) (n-1) ⟨rfl,1,by omega,rfl,?_,rfl⟩ ?_
 ·rw[G9 h2];simp[Cn]
 rintro k ⟨x,y,_⟩ H' ⟨rfl,i,hi,rfl,hx,hy⟩
 simp only at hx hy
 subst hx hy
 dsimp only
 refine ft (λlC=>?_) (λiG=>?_)
 ·obtain⟨h2,a',e,hc⟩:=xh h (i:=i) (by omega)
  cases e
  refine⟨a,rfl,by omega,by omega,_,by rw[Int.toNat_natCast];exact hc,db λm hm=>db λi4 hi4=>⟨n-(i+1),by omega,rfl,i+1,by omega,rfl,?_,?_⟩⟩
  ·show m=_
   rw[hm,G9 h2];omega
  ·show i4=_
   rw[hi4,wrap_i64 (by omega) (by omega)];rfl
 ·have:i=n:=by omega
  subst this
  rw[List.take_of_length_le (by omega)]
  exact hR
structure aiO(H:Heap)(g:Nat)(l:List Nat)(pw:Option Addr)(ws:List Nat):Prop where
 fv:H[g]?=some (.cells #[.iface rq (.slice pw ws.length ws.length),.int .i64 (l.length:Int),.int .i64 (wide l:Int)] jA (0,0))
 sl:Sl H iW (ws.map th) pw ws.length ws.length
 packed:rZ l (wide l) l.length ws
 all:nJ ws
 Ee:nJ l
 len:ws.length=(l.length*wide l+63)/64
 sW:l.length<=1099511627776
def Ints(H:Heap)(g:Nat)(l:List Nat)(F:Nat->Prop):Prop:=∃pw ws,aiO H g l pw ws/\F g/\(∀k,fw pw k->F k)/\∀k,F k->k<Array.size H
theorem Ints.fy{H H':Heap}{g:Nat}{l:List Nat}{F G:Nat->Prop}(h:Ints H g l F)(hf:Fr G H H')(hd:∀k,F k->¬G k):Ints H' g l F:=by
 obtain⟨pw,ws,h,h1,h2,h3⟩:=h
 exact⟨pw,ws,⟨hf.fv h.fv (hd _ h1),h.sl.fy hf λk hk=>hd k (h2 k hk),h.packed,h.all,h.Ee,h.len,h.sW⟩,h1,h2,λk hk=>Nat.lt_of_lt_of_le (h3 k hk) hf.size⟩
section
variable {H:Heap} {g:Nat} {l:List Nat} {F:Nat->Prop}
theorem Gk(h:Ints H g l F){R:Int->Heap->Prop}(hR:R (l.length:Int) H):ef.C (some ⟨g,0,none⟩) H R:=by
 obtain⟨pw,ws,h,_⟩:=h
 apply ef.calls
 unfold ef.W
 exact eY rfl ⟨_,rfl,_,(dh h.fv 0 1).trans rfl,hR⟩
theorem Ints.prod(h:Ints H g l F):l.length*wide l<=70368744177664:=by
 obtain⟨pw,ws,h,_⟩:=h
 exact Nat.mul_le_mul h.sW (Iu h.Ee)
theorem Gm(h:Ints H g l F)(n:Int){R:Int->Int->Heap->Prop}(h1:∀k:Nat,(hk:k<l.length)->n=(k:Int)->R (l[k]:Int) 0 H)(h2:(n<0\/(l.length:Int)<=n)->R 0 4 H):eg.C (some ⟨g,0,none⟩) n H R:=by
 apply eg.calls
 unfold eg.W
 refine eG (eG ?_)
 refine ft (λhn=>iR rfl (h2 (.inl hn))) (λhn=>?_)
 refine Gk h ?_
 refine ft (λhl=>h2 (.inr hl)) (λhl=>?_)
 have D1:=h.prod
 obtain⟨pw,ws,h,_⟩:=h
 obtain⟨k,rfl⟩:∃k:Nat,n=(k:Int):=⟨n.toNat,by omega⟩
 have hk:k<l.length:=by omega
 have hR:=h1 k hk rfl
 clear h1 h2
 refine⟨_,rfl,_,(dh h.fv 0 0).trans rfl,_,_,_,true,.inl ⟨rfl,rfl⟩,?_⟩
 refine eG (eG (eY rfl ?_))
 have f2:dj H ((⟨g,0,none⟩:Addr).add 2)=some (.int .i64 (wide l:Int)):=(dh h.fv 0 2).trans rfl
 refine⟨_,rfl,_,f2,?_⟩
 have LX:=Iu h.Ee
 have lC:=Qz (List.getElem_mem hk)
 refine ft (λh0=>?_) (λhZ=>?_)
 ·have h0:wide l=0:=by omega
  rw[h0] at lC
  have:l[k]=0:=by omega
  rw[this] at hR
  exact hR
 ·have Ky:0<wide l:=by omega
  refine⟨_,rfl,_,f2,by decide,_,rfl,_,f2,by decide,db λat8 ha=>db λN7 ho=>?_⟩
  have hb:k*wide l+wide l<=l.length*wide l:=by
   have:(k+1)*wide l<=l.length*wide l:=Nat.mul_le_mul_right _ (by omega)
   rwa[Nat.succ_mul] at this
  have hlen:=h.len
  have wo:=N3 h.packed h.all LX hk lC
  have e:(k:Int)*(wide l:Int)=((k*wide l:Nat):Int):=by push_cast;rfl
  rw[e] at ha ho
  generalize hBe:k*wide l=B at ha ho wo hb
  rw[wrap_i64 (n:=(B:Int)) (by omega) (by omega)] at ha ho
  have ha:at8=((B/64:Nat):Int):=by
   rw[ha,show Int.tdiv (B:Int) 64=((B/64:Nat):Int) from rfl,wrap_i64 (by omega) (by omega)]
  have ho:N7=((B%64:Nat):Int):=by
   rw[ho,show Int.tmod (B:Int) 64=((B%64:Nat):Int) from rfl,wrap_u64 (by omega) (by omega)]
  subst ha ho
  have ra:=h.sl.rd
  obtain⟨adG,a,rfl,hc⟩:=xh ra (i:=B/64) (by omega)
  refine⟨a,rfl,by omega,by omega,_,by rw[Int.toNat_natCast];exact hc,by omega,db λnO ahm=>?_⟩
  rw[jF (h.all _ (List.getElem_mem adG))] at ahm
  refine dW (λq H'=>H'=H/\∃m:Nat,q.1=(m:Int)/\m<2^64/\m=if 64<B%64+wide l then ws.getD (B/64) 0>>>(B%64)|||ws.getD (B/64+1) 0<<<(64-B%64)%2^64 else ws.getD (B/64) 0>>>(B%64)) ?_ ?_
  ·refine⟨_,rfl,_,f2,?_⟩
   rw[wrap_i64 (n:=((B%64:Nat):Int)) (by omega) (by omega),wrap_i64 (n:=((B%64:Nat):Int)+(wide l:Int)) (by omega) (by omega)]
   refine ft (λQN=>?_) (λZQ=>?_)
   ·rw[wrap_i64 (n:=((B/64:Nat):Int)+1) (by omega) (by omega)]
    obtain⟨aqs,a',e',GC⟩:=xh ra (i:=B/64+1) (by omega)
    cases e'
    rw[show(((B/64:Nat):Int)+1)=((B/64+1:Nat):Int) by omega,Int.toNat_natCast]
    refine⟨a,rfl,by omega,by omega,_,GC,?_⟩
    rw[show(64:Int)-((B%64:Nat):Int)=((64-B%64:Nat):Int) by omega,mY (by omega)]
    refine⟨by omega,db λy hy=>⟨rfl,_,?_,?_,rfl⟩⟩
    ·show y=_
     rw[hy,ahm,uM,CZ (rO (h.all _ (List.getElem_mem adG)) _) (Es _ _),if_pos (by omega),vb adG,vb aqs]
    ·rw[if_pos (by omega)]
     exact Nat.or_lt_two_pow (rO (h.all.getD _) _) (Es _ _)
   ·refine⟨rfl,_,?_,?_,rfl⟩
    ·show nO=_
     rw[ahm,if_neg (by omega),vb adG]
    ·rw[if_neg (by omega)]
     exact rO (h.all.getD _) _
  ·rintro⟨x,_⟩ H' ⟨rfl,m,hx,hm,yy⟩
   simp only at hx
   subst hx
   dsimp only
   refine eG ?_
   refine⟨_,rfl,_,f2,?_⟩
   unfold IN at wo
   rw[<-yy] at wo
   refine ft (λafp=>?_) (λiG=>?_)
   ·refine⟨_,rfl,_,f2,?_⟩
    rw[mY (by omega)]
    refine⟨by omega,db λy hy=>?_⟩
    have XV:2^wide l<2^64:=Nat.pow_lt_pow_right (by decide) (by omega)
    have J1:0<2^wide l:=Nat.pow_pos (by decide)
    rw[show(1:Int)=((1:Nat):Int) from rfl,uM,Nat.shiftLeft_eq,Nat.one_mul,Nat.mod_eq_of_lt XV,show((2^wide l:Nat):Int)-((1:Nat):Int)=((2^wide l-1:Nat):Int) by omega,mY (by omega),lT hm (by omega)] at hy
    rw[if_pos (by omega)] at wo
    rw[wo] at hy
    rw[hy]
    exact hR
   ·rw[if_neg (by omega)] at wo
    rw[wo]
    exact hR
end
end Go.Proofs.iQ
namespace Go.Proofs.iQ
open Go.Ex
theorem Qd(ws:List Nat)(i v:Nat):(ws.map th).set i (th v)=(ws.set i v).map th:=by rw[List.map_set]
theorem Gj{H:Heap}{l:List Nat}{p:Option Addr}{n c:Nat}(ra:Rd H (l.map th) p n)(hl:nJ l)(hb:n<=1099511627776){R:Option Addr->Heap->Prop}
 (hR:∀g H',Ints H' g l (λk=>Array.size H<=k/\k<Array.size H')->Fr gz H H'->R (some ⟨g,0,none⟩) H'):kb.C p n c H R:=by
 apply kb.calls
 unfold kb.W
 have hn:l.length=n:=by have:=ra.1;simpa using this
 subst hn
 have LX:=Iu hl
 have D1:l.length*wide l<=70368744177664:=Nat.mul_le_mul hb LX
 refine db λH1 h1=>?_
 have f1:Fr gz H H1:=by rw[h1];exact Fr.new _ _ _
 have QG:Array.size H1=Array.size H+1:=by rw[h1];exact gC
 have KY:H1[Array.size H]?=some (.cells #[.nilIface,.int .i64 (l.length:Int),.int .i64 0] jA (0,0)):=by rw[h1];exact eV
 clear h1
 refine dW (λ_ H'=>H'[Array.size H]?=some (.cells #[.nilIface,.int .i64 (l.length:Int),.int .i64 (wide l:Int)] jA (0,0))/\Fr gz H H') ?_ ?_
 ·refine ft (λh0=>?_) (λh0=>?_)
  ·refine Zk (ra.oP f1) (by omega) hb ?_
   have ahz:Cn l<2^64:=asN.1 LX
   refine xP ahz ?_
   refine⟨_,rfl,⟨_,(dh KY 0 2).trans rfl⟩,mQ KY 0 2,db λH5 h5=>⟨?_,?_⟩⟩
   ·rw[h5,kG KY];rfl
   ·rw[h5,iM]
    exact f1.trans (Fr.set H1 ⟨Array.size H,0+2,none⟩ _) λk hk=>.inr (by rw[hk];exact Nat.le_refl _)
  ·have:l=[]:=List.eq_nil_of_length_eq_zero (by omega)
   subst this
   exact⟨KY,f1⟩
 rintro _ H2 ⟨KX,f2⟩
 dsimp only
 have RP:Array.size H<Array.size H2:=fe KX
 refine⟨_,rfl,_,(dh KX 0 1).trans rfl,_,rfl,_,(dh KX 0 2).trans rfl,by decide,?_⟩
 have hnw:IntKind.i64.wrap (Int.tdiv (IntKind.i64.wrap ((IntKind.i64.wrap ((IntKind.i64.wrap ((l.length:Int)*(wide l:Int)))+64))-1)) 64)=(((l.length*wide l+63)/64:Nat):Int):=by
  have e:(l.length:Int)*(wide l:Int)=((l.length*wide l:Nat):Int):=by push_cast;rfl
  rw[e]
  generalize l.length*wide l=m at D1⊢
  rw[wrap_i64 (n:=(m:Int)) (by omega) (by omega),wrap_i64 (n:=(m:Int)+64) (by omega) (by omega),wrap_i64 (n:=(m:Int)+64-1) (by omega) (by omega),show(m:Int)+64-1=((m+63:Nat):Int) by omega,
   show Int.tdiv ((m+63:Nat):Int) 64=(((m+63)/64:Nat):Int) from rfl,wrap_i64 (by omega) (by omega)]
 rw[hnw]
 generalize aqo:(l.length*wide l+63)/64=nw
 have asy:nw<=1099511627776:=by omega
 refine⟨by omega,by omega,by omega,db λH6 h6=>?_⟩
 rw[Int.toNat_natCast] at h6⊢
 have f6:Fr gz H2 H6:=by rw[h6];exact Fr.new _ _ _
 have KM:Array.size H6=Array.size H2+1:=by rw[h6];exact gC
 have adD:Sl H6 iW ((List.replicate nw 0).map th) (some ⟨Array.size H2,0,none⟩) nw nw:=by
  rw[h6,List.map_replicate]
  exact Sl.made H2 iW (z:=.int .u64 0) rfl nw
 have uJ:=f6.fv KX (λh=>h)
 clear h6
 refine eG ?_
 refine fJ (λm q H'=>∃(i:Nat)(ws:List Nat),i<=l.length/\m=l.length-i/\q.1=(i:Int)/\H'[Array.size H]?=some (.cells #[.nilIface,.int .i64 (l.length:Int),.int .i64 (wide l:Int)] jA (0,0))/\Fr gz H H'/\Array.size H6<=Array.size H'/\
  Sl H' iW (ws.map th) (some ⟨Array.size H2,0,none⟩) nw nw/\rZ l (wide l) i ws/\nJ ws) l.length
  ⟨0,List.replicate nw 0,by omega,rfl,rfl,uJ,f2.eZ f6,Nat.le_refl _,adD,Lu _ _ _,nJ.Gp _⟩ ?_
 rintro m ⟨x,_⟩ H8 ⟨i,ws,hi,rfl,hx,X3,f8,KL,hsl,BH,fC⟩
 simp only at hx
 subst hx
 dsimp only
 have Kc:ws.length=nw:=by have:=hsl.1;simpa using this
 refine ft (λlC=>?_) (λiG=>?_)
 ·have lC:i<l.length:=by omega
  obtain⟨_,a,rfl,hc⟩:=xh (ra.oP f8) lC
  have g2:dj H8 ((⟨Array.size H,0,none⟩:Addr).add 2)=some (.int .i64 (wide l:Int)):=(dh X3 0 2).trans rfl
  refine eG ?_
  refine⟨a,rfl,by omega,by omega,_,by rw[Int.toNat_natCast];exact hc,_,rfl,_,g2,by decide,_,rfl,_,g2,by decide,db λvi ha=>db λN8 ho=>?_⟩
  refine⟨_,rfl,_,g2,?_⟩
  have zt:∀{H':Heap}{Dz:List Nat},H'[Array.size H]?=some (.cells #[.nilIface,.int .i64 (l.length:Int),.int .i64 (wide l:Int)] jA (0,0))->Fr gz H H'->Array.size H6<=Array.size H'->
   Sl H' iW (Dz.map th) (some ⟨Array.size H2,0,none⟩) nw nw->rZ l (wide l) (i+1) Dz->nJ Dz->
   ∃m,m<l.length-i/\∃(j:Nat)(ws:List Nat),j<=l.length/\m=l.length-j/\IntKind.i64.wrap ((i:Int)+1)=(j:Int)/\H'[Array.size H]?=some (.cells #[.nilIface,.int .i64 (l.length:Int),.int .i64 (wide l:Int)] jA (0,0))/\Fr gz H H'/\Array.size H6<=Array.size H'/\
    Sl H' iW (ws.map th) (some ⟨Array.size H2,0,none⟩) nw nw/\rZ l (wide l) j ws/\nJ ws:=by
   intro H' Dz a1 a2 a3 a4 a5 a6
   exact⟨l.length-(i+1),by omega,i+1,Dz,by omega,rfl,by rw[wrap_i64 (by omega) (by omega)];rfl,a1,a2,a3,a4,a5,a6⟩
  refine ft (λh0=>?_) (λhZ=>?_)
  ·have h0:wide l=0:=by omega
   refine zt X3 f8 KL hsl ?_ fC
   rw[h0] at BH⊢
   exact Lw BH
  ·have Ky:0<wide l:=by omega
   have hx:=Qz (List.getElem_mem lC)
   have qg:(i+1)*wide l<=l.length*wide l:=Nat.mul_le_mul_right _ (by omega)
   have Td:=Lv BH LX Ky lC hx (by omega)
   rw[Nat.succ_mul] at qg
   have e:(i:Int)*(wide l:Int)=((i*wide l:Nat):Int):=by push_cast;rfl
   rw[e] at ha ho
   generalize hBe:i*wide l=B at ha ho Td qg
   rw[wrap_i64 (n:=(B:Int)) (by omega) (by omega)] at ha ho
   have ha:vi=((B/64:Nat):Int):=by
    rw[ha,show Int.tdiv (B:Int) 64=((B/64:Nat):Int) from rfl,wrap_i64 (by omega) (by omega)]
   have ho:N8=((B%64:Nat):Int):=by
    rw[ho,show Int.tmod (B:Int) 64=((B%64:Nat):Int) from rfl,wrap_u64 (by omega) (by omega)]
   subst ha ho
   have ahl:=hl _ (List.getElem_mem lC)
   obtain⟨hB,a1,e1,GC⟩:=xh hsl.rd (i:=B/64) (by omega)
   cases e1
   have KI:BT .u64 (ws[B/64]:Int) (pf .u64 (l[i]:Int) ((B%64:Nat):Int))=((ws.getD (B/64) 0|||l[i]<<<(B%64)%2^64:Nat):Int):=by
    rw[uM,CZ (fC _ (List.getElem_mem hB)) (Es _ _),vb hB]
   obtain⟨a2,e2,zS,PV,XQ,Np⟩:=hsl.store (i:=B/64) (by omega) (th (ws.getD (B/64) 0|||l[i]<<<(B%64)%2^64))
   cases e2
   rw[Qd] at XQ
   refine⟨_,rfl,by omega,by omega,_,by rw[Int.toNat_natCast];exact GC,by omega,_,rfl,by omega,by omega,by rw[Int.toNat_natCast];exact zS,by rw[Int.toNat_natCast];exact PV,db λde Yk=>?_⟩
   rw[Int.toNat_natCast,KI] at Yk
   have Yk:de=nQ H8 ((⟨Array.size H2,0,none⟩:Addr).add (B/64)) (th (ws.getD (B/64) 0|||l[i]<<<(B%64)%2^64)):=Yk
   rw[<-Yk] at XQ Np
   have WV:¬fw (some ⟨Array.size H2,0,none⟩) (Array.size H):=by
    rintro⟨a,ha,hb⟩
    cases ha
    simp only at hb
    omega
   have XX:∀k,fw (some ⟨Array.size H2,0,none⟩) k->gz k\/Array.size H<=k:=by
    rintro k ⟨a,ha,rfl⟩
    cases ha
    exact .inr (by simp only;omega)
   have Md:=Np.fv X3 WV
   have f10:=f8.trans Np XX
   have amA:=Nat.le_trans KL Np.size
   have g10:dj de ((⟨Array.size H,0,none⟩:Addr).add 2)=some (.int .i64 (wide l:Int)):=(dh Md 0 2).trans rfl
   have afv:nJ (ws.set (B/64) (ws.getD (B/64) 0|||l[i]<<<(B%64)%2^64)):=fC.set _ (Nat.or_lt_two_pow (fC.getD _) (Es _ _))
   clear Yk
   refine⟨_,rfl,_,g10,?_⟩
   rw[wrap_i64 (n:=((B%64:Nat):Int)) (by omega) (by omega),wrap_i64 (n:=((B%64:Nat):Int)+(wide l:Int)) (by omega) (by omega)]
   unfold ac7 at Td
   refine ft (λQN=>?_) (λZQ=>?_)
   ·rw[if_pos (by omega)] at Td
    rw[wrap_i64 (n:=((B/64:Nat):Int)+1) (by omega) (by omega),show(((B/64:Nat):Int)+1)=((B/64+1:Nat):Int) by omega,Int.toNat_natCast]
    obtain⟨Zs,a3,e3,R1⟩:=xh XQ.rd (i:=B/64+1) (by omega)
    cases e3
    have asH:B/64+1<ws.length:=by simpa using Zs
    have aqe:(ws.set (B/64) (ws.getD (B/64) 0|||l[i]<<<(B%64)%2^64))[B/64+1]=ws.getD (B/64+1) 0:=by
     rw[<-vb Zs,vR hB,if_neg (by omega)]
    have hv3:BT .u64 (((ws.set (B/64) (ws.getD (B/64) 0|||l[i]<<<(B%64)%2^64))[B/64+1]:Nat):Int) (kP .u64 (l[i]:Int) ((64-B%64:Nat):Int))=((ws.getD (B/64+1) 0|||l[i]>>>(64-B%64):Nat):Int):=by
     rw[aqe,jF ahl,CZ (fC.getD _) (rO ahl _)]
    obtain⟨a4,e4,hc4,hz4,Je,No⟩:=XQ.store (i:=B/64+1) (by omega) (th (ws.getD (B/64+1) 0|||l[i]>>>(64-B%64)))
    cases e4
    rw[Qd] at Je
    refine⟨_,rfl,by omega,by omega,_,R1,?_⟩
    rw[show(64:Int)-((B%64:Nat):Int)=((64-B%64:Nat):Int) by omega,mY (by omega)]
    refine⟨by omega,_,rfl,by omega,by omega,hc4,hz4,db λfg QT=>?_⟩
    rw[hv3] at QT
    have QT:fg=nQ de ((⟨Array.size H2,0,none⟩:Addr).add (B/64+1)) (th (ws.getD (B/64+1) 0|||l[i]>>>(64-B%64))):=QT
    rw[<-QT] at Je No
    exact zt (No.fv Md WV) (f10.trans No XX) (Nat.le_trans amA No.size) Je Td (afv.set _ (Nat.or_lt_two_pow (fC.getD _) (rO ahl _)))
   ·rw[if_neg (by omega)] at Td
    exact zt Md f10 amA XQ Td afv
 ·have:i=l.length:=by omega
  subst this
  refine⟨_,rfl,⟨_,(dh X3 0 0).trans rfl⟩,mQ X3 0 0,db λfZ Kb=>?_⟩
  have Yl:Fr (λk=>k=Array.size H) H8 fZ:=by rw[Kb,iM];exact Fr.set H8 ⟨Array.size H,0+0,none⟩ _
  have Tk:fZ[Array.size H]?=some (.cells #[.iface rq (.slice (some ⟨Array.size H2,0,none⟩) nw nw),.int .i64 (l.length:Int),.int .i64 (wide l:Int)] jA (0,0)):=by
   rw[Kb,kG X3];rfl
  clear Kb
  have pg:=Yl.size
  refine hR _ _ ⟨some ⟨Array.size H2,0,none⟩,ws,⟨?_,?_,BH,fC,hl,?_,hb⟩,⟨by omega,by omega⟩,?_,λk hk=>hk.2⟩ (f8.trans Yl λk hk=>.inr (by omega))
  ·rw[Kc];exact Tk
  ·rw[Kc]
   refine hsl.fy Yl ?_
   rintro k ⟨a,ha,rfl⟩ he
   cases ha
   simp only at he
   omega
  ·rw[Kc,aqo]
  ·rintro k ⟨a,ha,rfl⟩
   cases ha
   exact⟨by simp only;omega,by simp only;omega⟩
end Go.Proofs.iQ
namespace Go.Proofs.iQ
open Go.Ex
abbrev Jd(n:Nat):Value:=.int .i64 (n:Int)
theorem WO{H:Heap}{l:List Nat}{p:Option Addr}{n:Nat}(h:Rd H (l.map Jd) p n){i:Nat}(hi:i<n):∃(h2:i<l.length)(a:Addr),p=some a/\dj H (a.add i)=some (.int .i64 (l[i]:Int)):=by
 have hl:l.length=n:=by have:=h.1;simpa using this
 have h2:i<l.length:=by omega
 obtain⟨a,ha,hc⟩:=h.get (i:=i) (v:=Jd l[i]) (by rw[List.getElem?_map,List.getElem?_eq_getElem h2];rfl)
 exact⟨h2,a,ha,hc⟩
def jV(l:List Nat):Nat:=l.getD (l.length-1) 0
def pJ(l:List Nat):Nat:=if l.length=0 then 0 else LI (jV l) l.length
def jl(l:List Nat):Nat:=jV l>>>pJ l
def Wx(l:List Nat):List Bool:=FY l (pJ l) (l.length+jl l+1) l.length
def wm(l:List Nat):List Nat:=l.map (·%2^pJ l)
theorem le_last{l:List Nat}(hr:vq l){i:Nat}(hi:i<l.length):l[i]<=jV l:=by
 unfold jV
 rw[List.getD_eq_getElem?_getD,List.getElem?_eq_getElem (by omega)]
 exact hr i (l.length-1) hi (by omega) (by omega)
theorem adJ(l:List Nat):jl l<=2*l.length:=by
 unfold jl pJ
 split
 ·rename_i h
  have:l=[]:=List.eq_nil_of_length_eq_zero h
  subst this
  decide
 ·exact Nat.le_of_lt (adI (by omega))
theorem K7{l:List Nat}(hr:vq l):∀i(hi:i<l.length),l[i]>>>pJ l+i<l.length+jl l+1:=by
 intro i hi
 have:=yP (le_last hr hi) (pJ l)
 unfold jl
 omega
theorem acF(l:List Nat):(Wx l).length=l.length+jl l+1:=yH _ _ _ _
theorem XA{l:List Nat}(h:jV l<=8388608):pJ l<=23:=by
 unfold pJ
 split
 ·omega
 ·unfold LI
  have:ki (jV l/l.length)<=24:=asN.2 (Nat.lt_of_le_of_lt (Nat.div_le_self _ _) (by omega))
  omega
structure aiM(H:Heap)(g:Nat)(l:List Nat)(gu gl:Nat)(Fu Fl:Nat->Prop):Prop where
 fv:H[g]?=some (.cells #[.iface j5 (.pointer (some ⟨gu,0,none⟩)),.iface qz (.pointer (some ⟨gl,0,none⟩)),.int .i64 (l.length:Int),.int .i64 (pJ l:Int),.int .i64 (jl l:Int)] la (0,0))
 up:mL H gu (Wx l) Fu
 low:Ints H gl (wm l) Fl
 Qg:vq l
 last:jV l<=8388608
 sW:l.length<=1048576
def FF(H:Heap)(g:Nat)(l:List Nat)(F:Nat->Prop):Prop:=∃gu gl Fu Fl,aiM H g l gu gl Fu Fl/\F g/\(∀k,Fu k->F k)/\(∀k,Fl k->F k)/\∀k,F k->k<Array.size H
theorem FF.fy{H H':Heap}{g:Nat}{l:List Nat}{F G:Nat->Prop}(h:FF H g l F)(hf:Fr G H H')(hd:∀k,F k->¬G k):FF H' g l F:=by
 obtain⟨gu,gl,Fu,Fl,h,h1,h2,h3,h4⟩:=h
 exact⟨gu,gl,Fu,Fl,⟨hf.fv h.fv (hd _ h1),h.up.fy hf λk hk=>hd k (h2 k hk),h.low.fy hf λk hk=>hd k (h3 k hk),h.Qg,h.last,h.sW⟩,h1,h2,h3,λk hk=>Nat.lt_of_lt_of_le (h4 k hk) hf.size⟩
theorem FF.oP{H H':Heap}{g:Nat}{l:List Nat}{F:Nat->Prop}(h:FF H g l F)(hf:Fr gz H H'):FF H' g l F:=h.fy hf λ_ _ h=>h
section
variable {H:Heap} {g:Nat} {l:List Nat} {F:Nat->Prop}
theorem Gi(h:FF H g l F){R:Int->Heap->Prop}(hR:R (l.length:Int) H):ee.C (some ⟨g,0,none⟩) H R:=by
 obtain⟨_,_,_,_,h,_⟩:=h
 apply ee.calls
 unfold ee.W
 exact eY rfl ⟨_,rfl,_,(dh h.fv 0 2).trans rfl,hR⟩
theorem wU(h:FF H g l F)(hd:CA H)(n:Int){R:Int->Int->Heap->Prop}(h1:∀(k:Nat)(hk:k<l.length) H',n=(k:Int)->Fr gz H H'->R (l[k]:Int) 0 H')(h2:(n<0\/(l.length:Int)<=n)->R 0 4 H):dP.C (some ⟨g,0,none⟩) n H R:=by
 apply dP.calls
 unfold dP.W
 refine eG (eG ?_)
 refine ft (λhn=>iR rfl (h2 (.inl hn))) (λhn=>?_)
 refine Gi h ?_
 refine ft (λhl=>h2 (.inr hl)) (λhl=>?_)
 obtain⟨gu,gl,Fu,Fl,h,_⟩:=h
 obtain⟨k,rfl⟩:∃k:Nat,n=(k:Int):=⟨n.toNat,by omega⟩
 have hk:k<l.length:=by omega
 have hR:=λH' hf=>h1 k hk H' rfl hf
 clear h1 h2
 have hkl:=XA h.last
 have oU:=h.sW
 refine⟨_,rfl,_,(dh h.fv 0 0).trans rfl,_,true,.inl ⟨rfl,rfl⟩,_,rfl,_,(dh h.fv 0 1).trans rfl,_,true,.inl ⟨rfl,rfl⟩,?_⟩
 refine eG (eG (eY rfl (eY rfl ?_)))
 refine Gm h.low k (λj hj he=>?_) (λhh=>by rw[wm,List.length_map] at hh;omega)
 have:j=k:=by omega
 subst this
 have c3:dj H ((⟨g,0,none⟩:Addr).add 3)=some (.int .i64 (pJ l:Int)):=(dh h.fv 0 3).trans rfl
 refine⟨_,rfl,_,c3,?_⟩
 have yx:=K7 h.Qg
 obtain⟨u1,u2⟩:=Ej h.Qg yx l.length (Nat.le_refl _) j hk
 have en:l.getD j 0=l[j]:=by rw[List.getD_eq_getElem?_getD,List.getElem?_eq_getElem hk];rfl
 rw[en] at u1 u2
 have uI:l[j]>>>pJ l+j<(Wx l).length:=by rw[acF];exact yx j hk
 have Vk:(Wx l)[l[j]>>>pJ l+j]=true:=by
  rw[List.getD_eq_getElem?_getD] at u1
  have:(Wx l)[l[j]>>>pJ l+j]?=some ((Wx l)[l[j]>>>pJ l+j]):=List.getElem?_eq_getElem uI
  have e2:(FY l (pJ l) (l.length+jl l+1) l.length)[l[j]>>>pJ l+j]?=some ((Wx l)[l[j]>>>pJ l+j]):=this
  rw[e2] at u1
  exact u1
 have u2':rk (Wx l) (l[j]>>>pJ l+j) true=j:=u2
 refine lr h.up hd _ true (λq hq H7 hb hr f7=>?_) (λH7 hh f7=>?_)
 ·have hqe:q=l[j]>>>pJ l+j:=vF hq uI hb Vk (by omega)
  subst hqe
  have U1:dj H7 ((⟨g,0,none⟩:Addr).add 3)=some (.int .i64 (pJ l:Int)):=f7.cell c3 λh=>h
  refine⟨⟨_,U1,rfl⟩,?_⟩
  rw[mY (by omega)]
  refine⟨by omega,db λx hx=>?_⟩
  have u0:=Nat.le_trans (le_last h.Qg hk) h.last
  have uw:l[j]>>>pJ l*2^pJ l<=l[j]:=by rw[Nat.shiftRight_eq_div_pow];exact Nat.div_mul_le_self _ _
  have hsl:l[j]>>>pJ l<=l[j]:=by rw[Nat.shiftRight_eq_div_pow];exact Nat.div_le_self _ _
  have zv:(wm l)[j]=l[j]%2^pJ l:=by simp[wm]
  have Ox:l[j]%2^pJ l<=l[j]:=Nat.mod_le _ _
  have hjp:=Oh l[j] (pJ l)
  have e:x=(l[j]:Int):=by
   rw[hx,zv,show((l[j]>>>pJ l+j:Nat):Int)-(j:Int)=((l[j]>>>pJ l:Nat):Int) by omega,nZ (by omega),Qc (by omega) (by omega),nZ (by omega),ag1 (by omega) (by omega),hjp]
  rw[e]
  exact hR H7 f7
 ·exfalso
  have:=oS uI Vk
  omega
end
end Go.Proofs.iQ
namespace Go.Ex
def ku:Int->List Int->Option Int
 |a,[]=>some a
 |a,x::r=>if x<a then none else ku x r
def Up:List Nat->Prop
 |[]=>True
 |x::r=>(∀y∈r,x<=y)/\Up r
theorem K6:∀{l:List Nat},Up l->vq l
 |[],_=>λi j hi _ _=>absurd hi (by simp)
 |x::r,h=>λi j hi hj B8=>by
  match i,j with
  |0,0=>exact Nat.le_refl _
  |0,j+1=>exact h.1 _ (List.getElem_mem (by simpa using hj))
  |i+1,0=>omega
  |i+1,j+1=>exact K6 h.2 i j (by simpa using hi) (by simpa using hj) (by omega)
end Go.Ex
namespace Go.Proofs.iQ
open Go.Ex
theorem tA(a x:Nat)(r:List Nat):jV (a::x::r)=jV (x::r):=by simp[jV]
theorem Lm:∀(zs:List Int)(a:Nat)(b:Int),ku (a:Int) zs=some b->∃l:List Nat,zs=l.map Int.ofNat/\(∀y∈l,a<=y)/\Up l/\b=(jV (a::l):Int)
 |[],a,b,h=>by
  cases h
  exact⟨[],rfl,by simp,trivial,rfl⟩
 |x::r,a,b,h=>by
  unfold ku at h
  split at h
  ·cases h
  ·rename_i hx
   obtain⟨x,rfl⟩:∃n:Nat,x=(n:Int):=⟨x.toNat,by omega⟩
   obtain⟨l,rfl,h1,h2,h3⟩:=Lm r x b h
   refine⟨x::l,rfl,?_,⟨h1,h2⟩,by rw[tA];exact h3⟩
   intro y hy
   rcases List.mem_cons.1 hy with rfl|hy
   ·omega
   ·have:=h1 y hy;omega
theorem WK{zs:List Int}{b:Int}(h:ku 0 zs=some b):∃l:List Nat,zs=l.map Int.ofNat/\vq l/\b=(jV l:Int):=by
 obtain⟨l,h1,_,h2,h3⟩:=Lm zs 0 b h
 refine⟨l,h1,K6 h2,?_⟩
 rw[h3]
 cases l with
 |nil=>rfl
 |cons x r=>rw[tA]
theorem F0{zs:List Int}{i:Nat}(hi:i<zs.length)(a:Int):ku a (zs.drop i)=if zs[i]<a then none else ku zs[i] (zs.drop (i+1)):=by
 rw[List.drop_eq_getElem_cons hi]
 rfl
def may(zs:List Int):Bool:=match ku 0 zs with
 |none=>false
 |some b=>decide (b<=8388608)
theorem rdz{H:Heap}{zs:List Int}{p:Option Addr}{n:Nat}(h:Rd H (zs.map (Value.int .i64)) p n){i:Nat}(hi:i<n):∃(h2:i<zs.length)(a:Addr),p=some a/\dj H (a.add i)=some (.int .i64 zs[i]):=by
 have hl:zs.length=n:=by have:=h.1;simpa using this
 have h2:i<zs.length:=by omega
 obtain⟨a,ha,hc⟩:=h.get (i:=i) (v:=.int .i64 zs[i]) (by rw[List.getElem?_map,List.getElem?_eq_getElem h2];rfl)
 exact⟨h2,a,ha,hc⟩
theorem SJ(ms:List Bool)(i:Nat)(v:Bool):(ms.map Value.bool).set i (Value.bool v)=(ms.set i v).map Value.bool:=by rw[List.map_set]
theorem Gh{H:Heap}{zs:List Int}{p:Option Addr}{n c:Nat}(ra:Rd H (zs.map (Value.int .i64)) p n)(hn:n<=1048576){R:Option Addr->Int->Heap->Prop}
 (amu:∀(l:List Nat),may zs=true->zs=l.map Int.ofNat->vq l->jV l<=8388608->∀g H',FF H' g l (λk=>Array.size H<=k/\k<Array.size H')->Fr gz H H'->R (some ⟨g,0,none⟩) 0 H')(wL:may zs=false->R none 1 H):j9.C p n c H R:=by
 apply j9.calls
 unfold j9.W
 have hl:zs.length=n:=by have:=ra.1;simpa using this
 refine dW (λq H'=>H'=H/\ku 0 zs=some q.1) ?_ ?_
 ·refine fJ (λs q H'=>H'=H/\∃i:Nat,i<=n/\s=n-i/\q.2.1=(i:Int)/\ku q.1 (zs.drop i)=ku 0 zs) n ⟨rfl,0,by omega,rfl,rfl,rfl⟩ ?_
  rintro s ⟨a,x,_⟩ H2 ⟨rfl,i,hi,rfl,hx,hr⟩
  simp only at hx hr
  subst hx
  dsimp only
  refine ft (λlC=>?_) (λiG=>?_)
  ·obtain⟨h2,ad,rfl,hc⟩:=rdz ra (i:=i) (by omega)
   rw[F0 h2] at hr
   refine⟨ad,rfl,by omega,by omega,_,by rw[Int.toNat_natCast];exact hc,?_⟩
   refine ft (λlC=>wL ?_) (λiG=>⟨n-(i+1),by omega,rfl,i+1,by omega,rfl,?_,?_⟩)
   ·rw[if_pos lC] at hr
    unfold may
    rw[<-hr]
   ·show IntKind.i64.wrap ((i:Int)+1)=_
    rw[wrap_i64 (by omega) (by omega)];rfl
   ·rw[if_neg iG] at hr
    exact hr
  ·have:i=n:=by omega
   subst this
   rw[List.drop_of_length_le (by omega)] at hr
   exact⟨rfl,hr.symm⟩
 rintro⟨last,_⟩ H1 ⟨rfl,DZ⟩
 simp only at DZ
 dsimp only
 refine ft (λaqO=>wL ?_) (λhsm=>?_)
 ·unfold may
  rw[DZ]
  exact decide_eq_false (by omega)
 obtain⟨l,rfl,QH,rfl⟩:=WK DZ
 have u0:jV l<=8388608:=by omega
 have amy:((jV l:Nat):Int)<=8388608:=by omega
 have amR:may (l.map Int.ofNat)=true:=by
  unfold may
  rw[DZ]
  exact decide_eq_true amy
 have hR:=amu l amR rfl QH u0
 clear amu wL DZ hsm amy amR
 have hl:l.length=n:=by simpa using hl
 subst hl
 have ra:Rd H1 (l.map Jd) p l.length:=by
  have e:(l.map Int.ofNat).map (Value.int .i64)=l.map Jd:=by rw[List.map_map];rfl
  rw[e] at ra
  exact ra
 have hk:=XA u0
 have hh:=adJ l
 have yx:=K7 QH
 refine db λH3 h3=>?_
 have f3:Fr gz H1 H3:=by rw[h3];exact Fr.new _ _ _
 have s3:Array.size H3=Array.size H1+1:=by rw[h3];exact gC
 have g3:=ns h3
 clear h3
 have Vl:∀{k:Nat},k=Array.size H1->gz k\/Array.size H1<=k:=λh=>.inr (by omega)
 refine dW (λ_ H'=>H'[Array.size H1]?=some (.cells #[.nilIface,.nilIface,.int .i64 (l.length:Int),.int .i64 (pJ l:Int),.int .i64 0] la (0,0))/\Fr gz H1 H') ?_ ?_
 ·refine⟨_,rfl,_,(dh g3 0 2).trans rfl,?_⟩
  refine ft (λh0=>?_) (λh0=>?_)
  ·refine⟨_,rfl,_,(dh g3 0 2).trans rfl,by omega,?_⟩
   have hq:jV l/l.length<=8388608:=Nat.le_trans (Nat.div_le_self _ _) u0
   rw[show Int.tdiv ((jV l:Nat):Int) (l.length:Int)=((jV l/l.length:Nat):Int) from rfl,nZ (by omega),mY (by omega)]
   refine xP (by omega) ⟨_,rfl,⟨_,(dh g3 0 3).trans rfl⟩,mQ g3 0 3,db λH6 h6=>?_⟩
   have am7:ki (jV l/l.length)<=64:=Rf (by omega)
   have hv:max (IntKind.i64.wrap ((ki (jV l/l.length):Int)-1)) 0=(pJ l:Int):=by
    have:pJ l=ki (jV l/l.length)-1:=by unfold pJ LI;rw[if_neg (by omega)]
    rw[wrap_i64 (by omega) (by omega),this]
    omega
   rw[hv] at h6
   exact⟨iJ h6 g3,f3.trans (kn h6) λk hk=>Vl hk⟩
  ·have:pJ l=0:=by unfold pJ;rw[if_pos (by omega)]
   rw[this]
   exact⟨g3,f3⟩
 rintro _ H4 ⟨g4,f4⟩
 clear g3 f3
 refine⟨_,rfl,_,(dh g4 0 3).trans rfl,?_⟩
 rw[mY (by omega)]
 refine⟨by omega,_,rfl,⟨_,(dh g4 0 4).trans rfl⟩,mQ g4 0 4,db λH7 h7=>?_⟩
 have hhv:kP .i64 ((jV l:Nat):Int) (pJ l:Int)=(jl l:Int):=CU (by omega) _
 rw[hhv] at h7
 have g7:=iJ h7 g4
 have f7:Fr gz H1 H7:=f4.trans (kn h7) λk hk=>Vl hk
 clear h7 g4 f4
 have g7:H7[Array.size H1]?=some (.cells #[.nilIface,.nilIface,.int .i64 (l.length:Int),.int .i64 (pJ l:Int),.int .i64 (jl l:Int)] la (0,0)):=g7
 refine⟨_,rfl,_,(dh g7 0 2).trans rfl,_,rfl,_,(dh g7 0 4).trans rfl,?_⟩
 have hm:IntKind.i64.wrap ((IntKind.i64.wrap ((l.length:Int)+(jl l:Int)))+1)=((l.length+jl l+1:Nat):Int):=by
  rw[wrap_i64 (n:=(l.length:Int)+(jl l:Int)) (by omega) (by omega),wrap_i64 (by omega) (by omega)];omega
 rw[hm]
 refine⟨by omega,by omega,by omega,db λH8 h8=>?_⟩
 rw[Int.toNat_natCast] at h8⊢
 have f8:Fr gz H7 H8:=by rw[h8];exact Fr.new _ _ _
 have s8:Array.size H8=Array.size H7+1:=by rw[h8];exact gC
 have KL:Sl H8 eC ((FY l (pJ l) (l.length+jl l+1) 0).map Value.bool) (some ⟨Array.size H7,0,none⟩) (l.length+jl l+1) (l.length+jl l+1):=by
  rw[h8]
  unfold FY
  rw[List.map_replicate]
  exact Sl.made H7 eC (z:=.bool false) rfl _
 have g8:=f8.fv g7 λh=>h
 clear h8
 have DX:=f7.size
 have Gy:=fe g7
 have p2:2^pJ l<2^24:=Nat.pow_lt_pow_right (by decide) (by omega)
 have p0:0<2^pJ l:=Nat.pow_pos (by decide)
 refine dW (λq H'=>H'[Array.size H1]?=some (.cells #[.nilIface,.nilIface,.int .i64 (l.length:Int),.int .i64 (pJ l:Int),.int .i64 (jl l:Int)] la (0,0))/\
  Sl H' eC ((Wx l).map Value.bool) (some ⟨Array.size H7,0,none⟩) (l.length+jl l+1) (l.length+jl l+1)/\Sl H' iW ((wm l).map th) q.1.1 q.1.2.1 q.1.2.2/\Fr gz H1 H') ?_ ?_
 ·refine fJ (λs q H'=>∃i:Nat,i<=l.length/\s=l.length-i/\q.2.1=(i:Int)/\H'[Array.size H1]?=some (.cells #[.nilIface,.nilIface,.int .i64 (l.length:Int),.int .i64 (pJ l:Int),.int .i64 (jl l:Int)] la (0,0))/\
   Sl H' eC ((FY l (pJ l) (l.length+jl l+1) i).map Value.bool) (some ⟨Array.size H7,0,none⟩) (l.length+jl l+1) (l.length+jl l+1)/\Sl H' iW (((wm l).take i).map th) q.1.1 q.1.2.1 q.1.2.2/\(∀k,fw q.1.1 k->Array.size H1<=k)/\Fr gz H1 H') l.length
   ⟨0,by omega,rfl,rfl,g8,KL,Sl.nil _ _,(by rintro k ⟨a,ha,_⟩;cases ha),f7.eZ f8⟩ ?_
  rintro s ⟨⟨lp,ll,lc⟩,x,_⟩ de ⟨i,hi,rfl,hx,g10,DI,Xq,ahd,f10⟩
  simp only at hx Xq ahd
  subst hx
  dsimp only
  refine ft (λlC=>?_) (λiG=>?_)
  ·have lC:i<l.length:=by omega
   obtain⟨_,ad,rfl,hc⟩:=WO (ra.oP f10) lC
   have hx:=Nat.le_trans (le_last QH lC) u0
   have zr:=yx i lC
   refine⟨ad,rfl,by omega,by omega,_,by rw[Int.toNat_natCast];exact hc,_,rfl,_,(dh g10 0 3).trans rfl,?_⟩
   rw[mY (by omega),CU (by omega)]
   generalize uw:l[i]>>>pJ l=sh at zr⊢
   rw[wrap_i64 (n:=(sh:Int)+(i:Int)) (by omega) (by omega),show(sh:Int)+(i:Int)=((sh+i:Nat):Int) by omega,Int.toNat_natCast]
   obtain⟨a2,e2,zS,PV,T4,fu⟩:=DI.store (i:=sh+i) zr (.bool true)
   cases e2
   rw[SJ] at T4
   refine⟨by omega,_,rfl,by omega,by omega,zS,PV,db λfg QT=>?_⟩
   rw[<-QT] at T4 fu
   have hun:¬fw (some ⟨Array.size H7,0,none⟩) (Array.size H1):=by
    rintro⟨a,ha,hb⟩
    cases ha
    simp only at hb
    omega
   have ap8:∀k,fw (some ⟨Array.size H7,0,none⟩) k->Array.size H1<=k:=by
    rintro k ⟨a,ha,rfl⟩
    cases ha
    simp only;omega
   have g11:=fu.fv g10 hun
   have adm:=Xq.fy fu λk hk hq=>Xq.ne' DI (by decide) k hk hq
   have f11:Fr gz H1 fg:=f10.trans fu λk hk=>.inr (ap8 k hk)
   clear QT
   refine⟨_,rfl,_,(dh g11 0 3).trans rfl,?_⟩
   rw[mY (by omega)]
   refine⟨by omega,?_⟩
   have xw:IntKind.u64.wrap (lN .i64 (l[i]:Int) (IntKind.i64.wrap ((pf .i64 1 (pJ l:Int))-1)))=((l[i]%2^pJ l:Nat):Int):=by
    have Ox:l[i]%2^pJ l<=l[i]:=Nat.mod_le _ _
    rw[show(1:Int)=((1:Nat):Int) from rfl,Qc (by omega) (by omega),Nat.one_mul,show((2^pJ l:Nat):Int)-((1:Nat):Int)=((2^pJ l-1:Nat):Int) by omega,nZ (by omega),JH (by omega) (by omega),Nat.and_two_pow_sub_one_eq_mod,mY (by omega)]
   rw[xw]
   have hll:ll=i:=by
    have:=adm.1
    simp[wm] at this
    omega
   refine zN (t1:=iW) adm rfl ⟨by simp,by simp⟩ (by omega) (by decide) λp' c' gS ap0 f13 aqQ=>?_
   have aqt:i<(wm l).length:=by simp[wm];exact lC
   refine⟨l.length-(i+1),by omega,i+1,by omega,rfl,?_,f13.fv g11 (adm.ne g11 (by decide)),?_,?_,?_,f11.trans f13 λk hk=>.inr (ahd k hk)⟩
   ·show IntKind.i64.wrap ((i:Int)+1)=_
    rw[wrap_i64 (by omega) (by omega)];rfl
   ·have Ak:=T4.fy f13 λk hk hq=>adm.ne' T4 (by decide) k hq hk
    unfold FY
    have e:l.getD i 0=l[i]:=by rw[List.getD_eq_getElem?_getD,List.getElem?_eq_getElem lC];rfl
    rw[e,uw]
    exact Ak
   ·show Sl gS iW (((wm l).take (i+1)).map th) p' (ll+1) c'
    rw[List.take_succ_eq_append_getElem aqt,List.map_append]
    have:(wm l)[i]=l[i]%2^pJ l:=by simp[wm]
    rw[List.map_cons,this]
    exact ap0
   ·intro k hk
    rcases aqQ k hk with h|h
    ·exact ahd k h
    ·exact Nat.le_trans f11.size h
  ·have:i=l.length:=by omega
   subst this
   rw[List.take_of_length_le (by simp[wm])] at Xq
   exact⟨g10,DI,Xq,f10⟩
 rintro⟨⟨lp,ll,lc⟩,_⟩ H9 ⟨g9,u9,VP,f9⟩
 simp only at VP
 dsimp only
 refine sa u9.rd (by omega) λgu gK tu f14=>?_
 have g14:=f14.fv g9 λh=>h
 have aml:=VP.fy f14 λ_ _ h=>h
 refine⟨_,rfl,⟨_,(dh g14 0 0).trans rfl⟩,mQ g14 0 0,db λjY Yj=>?_⟩
 have g15:=iJ Yj g14
 have f15:=kn Yj
 have hs9:=f9.size
 have hl9:=fe g9
 have apt:=tu.fy f15 λk hk e=>by have:=hk.1;omega
 have amk:=aml.fy f15 λk hk e=>aml.ne g14 (by decide) (e▸hk)
 have hll:ll=l.length:=by
  have:=amk.1
  simp[wm] at this
  omega
 have fC:nJ (wm l):=by
  intro y hy
  unfold wm at hy
  rw[List.mem_map] at hy
  obtain⟨x,_,rfl⟩:=hy
  have:=Nat.mod_lt x p0
  omega
 clear Yj
 refine Gj amk.rd fC (by omega) λgl lW tl f16=>?_
 have g16:=f16.fv g15 λh=>h
 have aps:=apt.oP f16
 refine⟨_,rfl,⟨_,(dh g16 0 1).trans rfl⟩,mQ g16 0 1,db λpd ZX=>?_⟩
 have g17:=iJ ZX g16
 have f17:=kn ZX
 have z14:=f14.size
 have Ve:=f15.size
 have z16:=f16.size
 have z17:=f17.size
 have apr:=aps.fy f17 λk hk e=>by have:=hk.1;omega
 have apu:=tl.fy f17 λk hk e=>by have:=hk.1;omega
 refine hR _ pd ⟨gu,gl,_,_,⟨g17,apr,apu,QH,u0,hn⟩,⟨by omega,by omega⟩,λk hk=>⟨by have:=hk.1;omega,by have:=hk.2;omega⟩,λk hk=>⟨by have:=hk.1;omega,by have:=hk.2;omega⟩,λk hk=>hk.2⟩ ?_
 exact(((f9.eZ f14).trans f15 λk hk=>.inr (by omega)).eZ f16).trans f17 λk hk=>.inr (by omega)
end Go.Proofs.iQ
namespace Go.Ex
theorem Ll:∀{l:List Nat},vq l->Up l
 |[],_=>trivial
 |x::r,h=>by
  refine⟨λy hy=>?_,Ll λi j hi hj B8=>?_⟩
  ·obtain⟨i,hi,rfl⟩:=List.getElem_of_mem hy
   exact h 0 (i+1) (by simp) (by simp;exact hi) (by omega)
  ·exact h (i+1) (j+1) (by simp;exact hi) (by simp;exact hj) (by omega)
end Go.Ex
namespace Go.Proofs.iQ
open Go.Ex
theorem Qh:∀(l:List Nat)(a:Nat),(∀y∈l,a<=y)->Up l->ku (a:Int) (l.map Int.ofNat)=some (jV (a::l):Int)
 |[],a,_,_=>rfl
 |x::r,a,h1,h2=>by
  have:=h1 x (by simp)
  rw[List.map_cons]
  unfold ku
  rw[if_neg (by show¬((x:Int)<(a:Int));omega),tA]
  exact Qh r x h2.1 h2.2
theorem adh{l:List Nat}(hr:vq l)(h:jV l<=8388608):may (l.map Int.ofNat)=true:=by
 have:=Qh l 0 (λ_ _=>Nat.zero_le _) (Ll hr)
 have e:jV (0::l)=jV l:=by
  cases l with
  |nil=>rfl
  |cons x r=>exact tA 0 x r
 unfold may
 rw[show(0:Int)=((0:Nat):Int) from rfl,this,e]
 exact decide_eq_true (by omega)
end Go.Proofs.iQ
