/- Part AQ of the proof that the law TopAround answers true at every input, under no condition. -/
import Derived.Test.YtmdbfgemefalmaaGreatDoorQAP
import Derived.Lib.DecodeN
import Derived.WideKeyRuns
import Derived.MapKept
set_option linter.unusedVariables false
set_option maxHeartbeats 2000000
set_option maxRecDepth 100000
namespace Go.Ex
theorem QG{H w:dw}{I:eK}{xs:List dB}{p:dC}{l c bytes t1:Nat}{z v:dB}{K:dC->Nat->Nat->dw->Prop}(Z:Sl H I xs p l c)(W:w=eP H #[v] t1)(hz:gH z=[z])(N:One v)(hb:(l+1)*bytes<=140737488355328)(Y:bytes≠0)
 (hK:∀O c' H',Sl H' I (xs++[v]) O (l+1) c'->Fr (eB p) w H'->(∀k,eB O k->eB p k\/Array.size w<=k)->K O (l+1) c' H'):
 ji I 1 bytes z p l c (.slice (some ⟨Array.size H,0,none⟩) 1 1) w K:=by
 have hf:Fr fa H w:=by rw[W];exact Fr.new H #[v] t1
 refine xK (new:=[v]) (Z.eO hf (λ_ _ h=>h)) hz ?_ rfl (by simpa using N) hb Y hK
 refine⟨rfl,rfl,?_⟩
 intro j u hj
 rw[dO (by rw[W];exact eU),Nat.zero_add]
 simpa using hj
theorem wx{a:Nat}(h:a<2^63):IntKind.i64.wrap (a:Int)=(a:Int):=wrap_i64 (by omega) (by omega)
theorem D1{a b:Nat}(u:a<2^63)(h:b<2^63):lx .i64 a b=((a&&&b:Nat):Int):=by
 unfold lx
 rw[show IntKind.i64.bits=64 from rfl,ofInt_u64,ofInt_u64,BitVec.toNat_and,BitVec.toNat_ofNat,BitVec.toNat_ofNat,Nat.mod_eq_of_lt (by omega),Nat.mod_eq_of_lt (by omega),wx (Nat.and_lt_two_pow a h)]
def rk(m:List Bool)(k:Nat)(h:Bool):Nat:=(m.take k).count h
def chunk(m:List Bool)(j:Nat):List Bool:=(m.drop (64*j)).take 64
theorem rY(m:List Bool)(j:Nat):(chunk m j).length=min 64 (m.length-64*j):=by simp[chunk]
theorem yA{m:List Bool}{j t:Nat}(h:t<(chunk m j).length):∃u:64*j+t<m.length,(chunk m j)[t]=m[64*j+t]:=by
 have:=rY m j
 refine⟨by omega,?_⟩
 simp[chunk]
theorem GA(m:List Bool)(j t:Nat)(h:t<=64):m.take (64*j+t)=m.take (64*j)++(chunk m j).take t:=by
 rw[List.take_add,chunk,List.take_take,Nat.min_eq_left h]
theorem wS(m:List Bool)(j t:Nat)(u:t<=64)(h:Bool):rk m (64*j+t) h=rk m (64*j) h+((chunk m j).take t).count h:=by
 unfold rk
 rw[GA m j t u,List.count_append]
theorem Pt(m:List Bool)(k:Nat)(h:k<=m.length):rk m k true+rk m k false=k:=by
 have:∀l:List Bool,l.count true+l.count false=l.length:=by
  intro l
  induction l with
  |nil=>rfl
  |cons b l u=>cases b<;>simp<;>omega
 unfold rk
 rw[this]
 simp
 omega
theorem EN(m:List Bool)(k:Nat)(h:Bool):rk m k h<=m.length:=by
 unfold rk
 exact Nat.le_trans List.count_le_length (by simp;omega)
theorem De(m:List Bool){k w:Nat}(h:k<=w)(u:Bool):rk m k u<=rk m w u:=by
 unfold rk
 exact(List.take_sublist_take_left h).count_le u
theorem uD{m:List Bool}{k:Nat}(h:k<m.length)(u:Bool):rk m (k+1) u=rk m k u+(if m[k]=u then 1 else 0):=by
 unfold rk
 rw[List.take_succ_eq_append_getElem h,List.count_append]
 congr 1
 rw[List.count_singleton]
 simp
theorem tW(m:List Bool){k:Nat}(h:m.length<=k)(u:Bool):rk m k u=m.count u:=by
 unfold rk
 rw[List.take_of_length_le h]
end Go.Ex
namespace Go.Proofs.fv
open Go.Ex
theorem si{n:Nat}(u:n<2^64){H:dw}{R:Int->dw->Prop}(hR:R (pop n:Int) H):iK.C (n:Int) H R:=by
 apply iK.calls
 unfold iK.W
 have a1:∀x,x&&&mask 2 1 32<=6148914691236517205:=λx=>by have:=Nat.and_le_right (n:=x) (m:=mask 2 1 32);rw[M3] at this⊢;exact this
 have a2:∀x,x&&&mask 4 3 16<=3689348814741910323:=λx=>by have:=Nat.and_le_right (n:=x) (m:=mask 4 3 16);rw[M1] at this⊢;exact this
 have h:f1 32 n<2^64:=by unfold f1;have:=a1 (n/2);have:=a1 n;omega
 have b2:f2 16 (f1 32 n)<=7378697629483820646:=by unfold f2;have:=a2 (f1 32 n/4);have:=a2 (f1 32 n);omega
 have hl:=M5 8 _ (G5 16 (f1 32 n))
 have hs:=Xs hl
 rw[Xr] at hs
 refine⟨by decide,dN λx1 I=>?_⟩
 have I:x1=((f1 32 n:Nat):Int):=by
  rw[I,show(1:Int)=((1:Nat):Int) from rfl,kU u,show(6148914691236517205:Int)=((6148914691236517205:Nat):Int) from rfl,lQ (rj u 1) (by decide),lQ u (by decide),<-Int.natCast_add,<-M3,Nat.shiftRight_eq_div_pow,fL]
  .rfl
  .exact h
 subst I
 refine⟨by decide,dN λx2 N=>?_⟩
 have N:x2=((f2 16 (f1 32 n):Nat):Int):=by
  rw[N,show(2:Int)=((2:Nat):Int) from rfl,kU h,show(3689348814741910323:Int)=((3689348814741910323:Nat):Int) from rfl,lQ (rj h 2) (by decide),lQ h (by decide),<-Int.natCast_add,<-M1,Nat.shiftRight_eq_div_pow,fL]
  .rfl
  .exact Nat.lt_of_le_of_lt b2 (by decide)
 subst N
 generalize hz:f2 16 (f1 32 n)=z at*
 refine⟨by decide,dN λx3 O=>?_⟩
 have O:x3=((f3 8 z:Nat):Int):=by
  rw[O,show(4:Int)=((4:Nat):Int) from rfl,kU (by omega),<-Int.natCast_add,Nat.shiftRight_eq_div_pow,show z/2^4=z/16 from rfl,fL (by omega),show(1085102592571150095:Int)=((1085102592571150095:Nat):Int) from rfl,lQ (by omega) (by decide),<-SO]
  rfl
 subst O
 generalize f3 8 z=w at*
 obtain⟨s0,s1,s2,s3,s4⟩:=hs
 generalize ha:w+w/256=a at*
 generalize hb:a+a/65536=b at*
 generalize hc:b+b/4294967296=c at*
 refine⟨by decide,dN λx4 Y=>?_⟩
 have Y:x4=(a:Int):=by
  rw[Y,show(8:Int)=((8:Nat):Int) from rfl,kU (by omega),Nat.shiftRight_eq_div_pow,show w/2^8=w/256 from rfl,<-Int.natCast_add,ha,fL (by omega)]
 subst Y
 refine⟨by decide,dN λx5 Z=>?_⟩
 have Z:x5=(b:Int):=by
  rw[Z,show(16:Int)=((16:Nat):Int) from rfl,kU (by omega),Nat.shiftRight_eq_div_pow,show a/2^16=a/65536 from rfl,<-Int.natCast_add,hb,fL (by omega)]
 subst Z
 refine⟨by decide,dN λx6 h6=>?_⟩
 have h6:x6=(c:Int):=by
  rw[h6,show(32:Int)=((32:Nat):Int) from rfl,kU (by omega),Nat.shiftRight_eq_div_pow,show b/2^32=b/4294967296 from rfl,<-Int.natCast_add,hc,fL (by omega)]
 subst h6
 refine dN λx7 h7=>?_
 have h7:x7=(pop n:Int):=by
  rw[h7,wx s3,show(127:Int)=((127:Nat):Int) from rfl,D1 s3 (by decide),show 127=2^7-1 from rfl,Nat.and_two_pow_sub_one_eq_mod,show c%2^7=c%128 from rfl,s4]
 rw[h7]
 exact hR
abbrev MN(m:List Bool)(j:Nat):dB:=.iface jO (.agg #[.int .u64 (fY (chunk m j):Int),.int .i64 (rk m (64*j) true:Int)])
def parts(m:List Bool)(n:Nat):List dB:=(List.range n).map (MN m)
theorem GZ(m:List Bool)(n:Nat):parts m (n+1)=parts m n++[MN m n]:=by simp[parts,List.range_succ]
structure Ub(H:dw)(g:Nat)(m:List Bool)(lp:dC)(lc:Nat):Prop where
 fi:H[g]?=some (.cells #[.slice lp (m.length/64+1) lc,.int .i64 (m.length:Int)] nT (0,0))
 sl:Sl H nw (parts m (m.length/64+1)) lp (m.length/64+1) lc
 yr:m.length<=4194304
def oU(H:dw)(g:Nat)(m:List Bool)(F:Nat->Prop):Prop:=∃h u,Ub H g m h u/\F g/\(∀k,eB h k->F k)/\∀k,F k->k<Array.size H
theorem oU.eO{H H':dw}{g:Nat}{m:List Bool}{F G:Nat->Prop}(h:oU H g m F)(u:Fr G H H')(I:∀k,F k->¬G k):oU H' g m F:=by
 obtain⟨W,Y,h,N,O,Z⟩:=h
 exact⟨W,Y,⟨u.fi h.fi (I _ N),h.sl.eO u λk w=>I k (O k w),h.yr⟩,N,O,λk w=>Nat.lt_of_lt_of_le (Z k w) u.size⟩
theorem oU.fC{H H':dw}{g:Nat}{m:List Bool}{F:Nat->Prop}(h:oU H g m F)(u:Fr fa H H'):oU H' g m F:=h.eO u λ_ _ h=>h
section
variable {H:dw} {g:Nat} {m:List Bool} {F:Nat->Prop}
theorem oU.yr(h:oU H g m F):m.length<=4194304:=by obtain⟨_,_,h,_⟩:=h;exact h.yr
theorem mo(h:oU H g m F){R:Int->dw->Prop}(u:R (m.length:Int) H):iu.C (some ⟨g,0,none⟩) H R:=by
 obtain⟨w,I,h,_⟩:=h
 apply iu.calls
 unfold iu.W
 exact dH rfl ⟨_,rfl,_,(dO h.fi 0 1).trans rfl,u⟩
theorem n0{H u:dw}{cs:Array dB}{t:eK}(h:u=eP H cs t):u[Array.size H]?=some (.cells cs t (0,0)):=by rw[h];exact eU
theorem mw{H u:dw}{b o:Nat}{v:dB}(h:u=gO H ((⟨b,0,none⟩:dA).add o) v):Fr (λk=>k=b) H u:=by
 rw[h,ly];exact Fr.set H ⟨b,0+o,none⟩ _
theorem kI{H u:dw}{b o:Nat}{v:dB}{cs:Array dB}{t:eK}(h:u=gO H ((⟨b,0,none⟩:dA).add o) v)(w:H[b]?=some (.cells cs t (0,0))):u[b]?=some (.cells (cs.setIfInBounds (0+o) v) t (0,0)):=by
 rw[h,lu w]
theorem sZ(h:oU H g m F){k:Nat}(u:k<m.length/64+1){R:Int->Int->dw->Prop}(hR:∀H',Fr fa H H'->R (fY (chunk m k):Int) (rk m (64*k) true:Int) H'):jT.C (some ⟨g,0,none⟩) (k:Int) H R:=by
 apply jT.calls
 unfold jT.W
 refine dN λw N=>?_
 have f1:Fr fa H w:=by rw[N];exact Fr.new _ _ _
 have n1:=n0 N
 have s1:Array.size w=Array.size H+1:=by rw[N];exact gi
 obtain⟨lp,lc,hb,_⟩:=h.fC f1
 obtain⟨a,ha,hc⟩:=hb.sl.rd.get (i:=k) (v:=MN m k) (by
  unfold parts
  rw[List.getElem?_map,List.getElem?_range u];rfl)
 refine⟨_,rfl,_,_,_,(dO hb.fi 0 0).trans rfl,a,ha,by omega,by omega,_,by rw[Int.toNat_natCast];exact hc,_,_,true,.inl ⟨rfl,rfl⟩,dN λH2 O=>?_⟩
 have f2:Fr fa w H2:=by rw[O];exact Fr.new _ _ _
 have Y:=n0 O
 have s2:Array.size H2=Array.size w+1:=by rw[O];exact gi
 refine⟨⟨_,(dO Y 0 0).trans rfl⟩,fK Y 0 0,dN λH4 h4=>?_⟩
 have Z:=kI h4 Y
 have f4:=mw h4
 refine⟨⟨_,(dO Z 0 1).trans rfl⟩,fK Z 0 1,dN λH5 h5=>?_⟩
 have n5:=kI h5 Z
 have f5:=mw h5
 have I:Fr fa w H5:=(f2.trans f4 λk u=>.inr (by omega)).trans f5 λk u=>.inr (by omega)
 have m5:=I.fi n1 λh=>h
 refine⟨_,(dO n5 0 0).trans rfl,_,(dO n5 0 1).trans rfl,⟨_,(dO m5 0 0).trans rfl⟩,fK m5 0 0,dN λH7 h7=>?_⟩
 have n7:=kI h7 m5
 have f7:=mw h7
 refine⟨⟨_,(dO n7 0 1).trans rfl⟩,fK n7 0 1,dN λH8 h8=>?_⟩
 have n8:=kI h8 n7
 have f8:=mw h8
 have am:Fr fa H H8:=((f1.dF I).trans f7 λk u=>.inr (by omega)).trans f8 λk u=>.inr (by omega)
 exact⟨_,(dO n8 0 0).trans rfl,_,(dO n8 0 1).trans rfl,hR H8 am⟩
theorem oV(m:List Bool)(j:Nat):fY (chunk m j)<2^64:=
 Nat.lt_of_lt_of_le (pL _) (Nat.pow_le_pow_right (by decide) (by rw[rY];omega))
theorem lS(h:oU H g m F)(k:Int)(u:Bool){R:Int->dw->Prop}(N:∀H',Fr fa H H'->R (rk m k.toNat u:Int) H'):gY.C (some ⟨g,0,none⟩) k u H R:=by
 apply gY.calls
 unfold gY.W
 refine mo h (dN λk1 ae=>?_)
 have ap:=h.yr
 obtain⟨c,hc,af,O⟩:∃c:Nat,k1=(c:Int)/\c<=m.length/\rk m k.toNat u=rk m c u:=by
  rcases Nat.le_total k.toNat m.length with h|h
  .exact⟨k.toNat,by omega,h,rfl⟩
  .exact⟨m.length,by omega,Nat.le_refl _,by rw[tW m h,tW m (Nat.le_refl _)]⟩
 rw[O] at N
 subst hc
 clear ae O
 refine eE (λh0=>?_) (λh0=>?_)
 .have:c=0:=by omega
  subst this
  exact N H (Fr.refl _ _)
 .refine⟨by decide,?_⟩
  rw[show Int.tdiv (c:Int) 64=((c/64:Nat):Int) from rfl,wrap_i64 (by omega) (by omega)]
  refine sZ h (by omega) λH2 f2=>dN λH3 h3=>?_
  have f3:Fr fa H2 H3:=by rw[h3];exact Fr.new _ _ _
  have Z:=n0 h3
  refine⟨⟨_,(dO Z 0 0).trans rfl⟩,fK Z 0 0,dN λH5 h5=>?_⟩
  have n5:=kI h5 Z
  have f5:=mw h5
  refine⟨⟨_,(dO n5 0 1).trans rfl⟩,fK n5 0 1,dN λH6 h6=>?_⟩
  have n6:=kI h6 n5
  have f6:=mw h6
  have fr:Fr fa H H6:=((f2.dF f3).trans f5 λk hk=>.inr (by have:=f2.size;omega)).trans f6 λk hk=>.inr (by have:=f2.size;omega)
  refine⟨_,(dO n6 0 1).trans rfl,_,(dO n6 0 0).trans rfl,by decide,?_⟩
  have hr:c%64<64:=Nat.mod_lt _ (by decide)
  rw[show Int.tmod (c:Int) 64=((c%64:Nat):Int) from rfl,fL (by omega)]
  refine⟨by omega,?_⟩
  have ak:2^(c%64)<2^64:=Nat.pow_lt_pow_right (by decide) hr
  have aA:0<2^(c%64):=Nat.pow_pos (by decide)
  rw[show(1:Int)=((1:Nat):Int) from rfl,rP,Nat.shiftLeft_eq,Nat.one_mul,Nat.mod_eq_of_lt ak,show((2^(c%64):Nat):Int)-((1:Nat):Int)=((2^(c%64)-1:Nat):Int) by omega,fL (by omega),
   lQ (oV m _) (by omega),Nat.and_two_pow_sub_one_eq_mod,JR]
  have am:fY ((chunk m (c/64)).take (c%64))<2^64:=Nat.lt_of_lt_of_le (pL _) (Nat.pow_le_pow_right (by decide) (by simp;omega))
  refine si am ?_
  rw[EU (by simp;omega)]
  refine⟨⟨_,(dO n6 0 1).trans rfl,rfl⟩,dN λn8 w=>?_⟩
  have an:c=64*(c/64)+c%64:=by omega
  have Y:=wS m (c/64) (c%64) (by omega) true
  rw[<-an] at Y
  have aB:=EN m c true
  have w:n8=(rk m c true:Int):=by
   rw[w,<-Int.natCast_add,<-Y,wrap_i64 (by omega) (by omega)]
  subst w
  refine fg ?_
  refine jI (λI=>?_) (λI=>?_)
  .have I:u=false:=by simpa using I
   subst I
   refine dN λn8 w=>?_
   have aC:=Pt m c af
   have:n8=(rk m c false:Int):=by rw[w,wrap_i64 (by omega) (by omega)];omega
   rw[this]
   exact N H6 fr
  .have I:u=true:=by simpa using I
   subst I
   exact N H6 fr
theorem BV(h:oU H g m F)(n:Int){R:Bool->Int->dw->Prop}(u:∀(k:Nat)(N:k<m.length) H',n=(k:Int)->Fr fa H H'->R m[k] 0 H')(w:(n<0\/(m.length:Int)<=n)->R false 4 H):kz.C (some ⟨g,0,none⟩) n H R:=by
 apply kz.calls
 unfold kz.W
 refine fg (fg ?_)
 refine eE (λO=>eN rfl (w (.inl O))) (λO=>?_)
 refine mo h ?_
 refine eE (λY=>w (.inr Y)) (λY=>?_)
 have ab:=h.yr
 obtain⟨k,rfl⟩:∃k:Nat,n=(k:Int):=⟨n.toNat,by omega⟩
 have N:k<m.length:=by omega
 refine⟨by decide,?_⟩
 rw[show Int.tdiv (k:Int) 64=((k/64:Nat):Int) from rfl,wrap_i64 (by omega) (by omega)]
 refine sZ h (by omega) λH4 f4=>⟨by decide,?_⟩
 have hr:k%64<64:=Nat.mod_lt _ (by decide)
 rw[show Int.tmod (k:Int) 64=((k%64:Nat):Int) from rfl,fL (by omega)]
 refine⟨by omega,?_⟩
 have Z:=oV m (k/64)
 rw[kU Z,show(1:Int)=((1:Nat):Int) from rfl,lQ (rj Z _) (by decide),Nat.and_one_is_mod]
 have I:k%64<(chunk m (k/64)).length:=by rw[rY];omega
 obtain⟨hh,aa⟩:=yA I
 have e:decide (((fY (chunk m (k/64))>>>(k%64)%2:Nat):Int)=((1:Nat):Int))=m[k]:=by
  have u:=pK (chunk m (k/64)) (k%64)
  rw[Nat.testBit_eq_decide_div_mod_eq,<-Nat.shiftRight_eq_div_pow,List.getD_eq_getElem?_getD,List.getElem?_eq_getElem I] at u
  have u:decide (fY (chunk m (k/64))>>>(k%64)%2=1)=(chunk m (k/64))[k%64]:=u
  rw[aa] at u
  have w:m[64*(k/64)+k%64]=m[k]:=by congr 1;omega
  rw[w] at u
  rw[<-u,Bool.eq_iff_iff]
  simp only[decide_eq_true_eq]
  omega
 rw[e]
 exact u k N H4 rfl f4
end
end Go.Proofs.fv
namespace Go.Ex
theorem uK(a:Nat):BitVec.ofInt 64 (a:Int)=BitVec.ofNat 64 a:=BitVec.ofInt_natCast 64 a
theorem oB{a:Nat}(h:a<2^63):IntKind.i64.wrap (a:Int)=(a:Int):=wrap_i64 (by omega) (by omega)
theorem Jv{a b:Nat}(u:a<2^63)(h:b<2^63):lx .i64 a b=((a&&&b:Nat):Int):=by
 unfold lx
 rw[show IntKind.i64.bits=64 from rfl,uK,uK,BitVec.toNat_and,BitVec.toNat_ofNat,BitVec.toNat_ofNat,Nat.mod_eq_of_lt (by omega),Nat.mod_eq_of_lt (by omega),oB (Nat.and_lt_two_pow a h)]
theorem SB{a b:Nat}(h:a<2^63)(u:b<2^63):uI .i64 a b=((a|||b:Nat):Int):=by
 unfold uI
 rw[show IntKind.i64.bits=64 from rfl,uK,uK,BitVec.toNat_or,BitVec.toNat_ofNat,BitVec.toNat_ofNat,Nat.mod_eq_of_lt (by omega),Nat.mod_eq_of_lt (by omega),oB (Nat.or_lt_two_pow h u)]
theorem Dc{a:Nat}(u:a<2^63)(s:Nat):mu .i64 a s=((a>>>s:Nat):Int):=by
 have h:=kU (a:=a) (by omega) s
 exact h
theorem Iw{a s:Nat}(h:a*2^s<2^63)(u:s<=64):mU .i64 a s=((a*2^s:Nat):Int):=by
 unfold mU
 rw[show IntKind.i64.bits=64 from rfl,Int.toNat_natCast,Nat.min_eq_left u]
 have:(a:Int)*2^s=((a*2^s:Nat):Int):=by push_cast;rfl
 rw[this,oB h]
def E8(h n:Nat):Nat:=ma (h/n)-1
theorem Qa{h n:Nat}(u:0<n):h>>>E8 h n<2*n:=by
 rw[Nat.shiftRight_eq_div_pow,Nat.div_lt_iff_lt_mul (Nat.pow_pos (by decide))]
 have I:h<(h/n+1)*n:=by
  have:=Nat.lt_mul_div_succ h u
  rw[Nat.mul_comm] at this
  exact this
 have N:h/n+1<=2^ma (h/n):=zB _
 have O:2^ma (h/n)<=2*2^E8 h n:=by
  unfold E8
  rw[Nat.mul_comm,<-Nat.pow_succ]
  exact Nat.pow_le_pow_right (by decide) (by omega)
 have w:(h/n+1)*n<=(2*2^E8 h n)*n:=Nat.mul_le_mul_right _ (by omega)
 rw[Nat.mul_assoc,Nat.mul_comm (2^E8 h n) n,<-Nat.mul_assoc] at w
 omega
def ur(l:List Nat):Prop:=∀i j(hi:i<l.length)(h:j<l.length),i<=j->l[i]<=l[j]
def Bz(l:List Nat)(k m:Nat):Nat->List Bool
 |0=>List.replicate m false
 |i+1=>(Bz l k m i).set (l.getD i 0>>>k+i) true
theorem wB(l:List Nat)(k m:Nat):∀i,(Bz l k m i).length=m
 |0=>by simp[Bz]
 |i+1=>by simp[Bz,wB l k m i]
theorem yo{l:List Bool}{p:Nat}(u:p<l.length)(v:Bool)(i:Nat):(l.set p v).getD i false=if i=p then v else l.getD i false:=by
 rw[List.getD_eq_getElem?_getD,List.getElem?_set,List.getD_eq_getElem?_getD]
 by_cases h:p=i
 .subst h;simp[u]
 .rw[if_neg h,if_neg (λe=>h e.symm)]
theorem wP{a b:Nat}(h:a<=b)(k:Nat):a>>>k<=b>>>k:=by
 rw[Nat.shiftRight_eq_div_pow,Nat.shiftRight_eq_div_pow]
 exact Nat.div_le_div_right h
theorem Ms{m:List Bool}{p q:Nat}(h:p<=q)(v u:Bool):rk (m.set q v) p u=rk m p u:=by
 unfold rk
 rw[List.take_set_of_le h]
theorem Ac{l:List Nat}(I:ur l){k m:Nat}(u:∀i(hi:i<l.length),l[i]>>>k+i<m):∀(i:Nat)(hi:i<=l.length),(∀q,(∀j(N:j<i),l.getD j 0>>>k+j<q)->(Bz l k m i).getD q false=false)
 |0,_=>λq _=>by simp[Bz,List.getD_eq_getElem?_getD,List.getElem?_replicate];split<;>rfl
 |i+1,hi=>λq w=>by
  have h:i<l.length:=by omega
  have e:l.getD i 0=l[i]:=by rw[List.getD_eq_getElem?_getD,List.getElem?_eq_getElem h];rfl
  have:=w i (by omega)
  unfold Bz
  rw[yo (by rw[wB,e];exact u i h),if_neg (by omega)]
  exact Ac I u i (by omega) q λj N=>w j (by omega)
theorem Iz{m:List Bool}{p q:Nat}(O:p<=q)(h:∀j,p<=j->m.getD j false=false):rk m q true=rk m p true:=by
 obtain⟨d,rfl⟩:∃d,q=p+d:=⟨q-p,by omega⟩
 induction d with
 |zero=>rfl
 |succ d N=>
  rw[<-N (by omega)]
  rcases Nat.lt_or_ge (p+d) m.length with w|I
  .have u:=h (p+d) (by omega)
   rw[List.getD_eq_getElem?_getD,List.getElem?_eq_getElem w] at u
   have u:m[p+d]=false:=u
   rw[show p+(d+1)=p+d+1 by omega,uD w,u]
   rfl
  .rw[tW m (by omega),tW m I]
theorem Ab{l:List Nat}(w:ur l){k m:Nat}(I:∀i(hi:i<l.length),l[i]>>>k+i<m):∀(n:Nat)(hn:n<=l.length),∀i(hi:i<n),(Bz l k m n).getD (l.getD i 0>>>k+i) false=true/\rk (Bz l k m n) (l.getD i 0>>>k+i) true=i
 |0,_,i,hi=>absurd hi (by omega)
 |n+1,hn,i,hi=>by
  have h:n<l.length:=by omega
  have u:∀j(O:j<l.length),l.getD j 0=l[j]:=λj O=>by rw[List.getD_eq_getElem?_getD,List.getElem?_eq_getElem O];rfl
  have hp:l.getD n 0>>>k+n<(Bz l k m n).length:=by rw[wB,u n h];exact I n h
  unfold Bz
  by_cases ac:i=n
  .subst ac
   refine⟨by rw[yo hp,if_pos rfl],?_⟩
   rw[Ms (Nat.le_refl _)]
   rcases Nat.eq_zero_or_pos i with h0|h0
   .subst h0
    have:=Iz (m:=Bz l k m 0) (Nat.zero_le (l.getD 0 0>>>k+0)) (λj _=>Ac w I 0 (by omega) j λj O=>absurd O (by omega))
    rw[this];rfl
   .obtain⟨j,rfl⟩:∃j,i=j+1:=⟨i-1,by omega⟩
    obtain⟨W,Z⟩:=Ab w I (j+1) (by omega) j (by omega)
    have N:=w j (j+1) (by omega) h (by omega)
    have hs:=wP N k
    rw[<-u j (by omega),<-u (j+1) h] at hs
    have Y:l.getD j 0>>>k+j<(Bz l k m (j+1)).length:=by rw[wB,u j (by omega)];exact I j (by omega)
    have hf:=Iz (m:=Bz l k m (j+1)) (p:=l.getD j 0>>>k+j+1) (q:=l.getD (j+1) 0>>>k+(j+1)) (by omega) λq hq=>Ac w I (j+1) (by omega) q λt ht=>by
     have:=w t j (by omega) (by omega) (by omega)
     have:=wP this k
     rw[<-u t (by omega),<-u j (by omega)] at this
     omega
    rw[hf,uD Y,Z]
    have ae:(Bz l k m (j+1))[l.getD j 0>>>k+j]=true:=by
     rw[List.getD_eq_getElem?_getD,List.getElem?_eq_getElem Y] at W
     exact W
    rw[if_pos ae]
  .obtain⟨W,Z⟩:=Ab w I n (by omega) i (by omega)
   have N:=w i n (by omega) h (by omega)
   have hs:=wP N k
   rw[<-u i (by omega),<-u n h] at hs
   exact⟨by rw[yo hp,if_neg (by omega)];exact W,by rw[Ms (by omega)];exact Z⟩
theorem G9(x k:Nat):x>>>k*2^k|||x%2^k=x:=by
 rw[Nat.shiftRight_eq_div_pow,Nat.mul_comm,<-Nat.two_pow_add_eq_or_of_lt (Nat.mod_lt _ (Nat.pow_pos (by decide))),Nat.div_add_mod]
theorem zX:∀n,fY (List.replicate n false)=0
 |0=>rfl
 |n+1=>by simp[List.replicate_succ,fY,zX n]
theorem Ew{l:List Bool}(u:true∈l):0<fY l:=by
 rcases Nat.eq_zero_or_pos (fY l) with h|h
 .obtain⟨i,hi,w⟩:=List.getElem_of_mem u
  have:=pK l i
  rw[h,List.getD_eq_getElem?_getD,List.getElem?_eq_getElem hi,w] at this
  simp at this
 .exact h
def vX:Nat->List Bool->List Bool
 |0,l=>l
 |n+1,l=>Ld (vX n l)
theorem FE(n:Nat)(l:List Bool):(vX n l).length=l.length:=by
 induction n with
 |zero=>rfl
 |succ n h=>rw[vX,Jn,h]
theorem vW(n:Nat)(l:List Bool):(vX n l).count true=l.count true-n:=by
 induction n with
 |zero=>rfl
 |succ n h=>rw[vX,Cx,h];omega
theorem FD(l:List Bool):∀(n t:Nat),t+n<l.count true->nth (vX n l) t=nth l (t+n)
 |0,t,_=>rfl
 |n+1,t,h=>by
  rw[vX,IJ _ _ (by rw[vW];omega),FD l n (t+1) (by omega)]
  congr 1
  omega
def word(c:List Bool)(h:Bool):List Bool:=(c++List.replicate (64-c.length) false).map λx=>x==h
theorem Et{c:List Bool}(h:c.length<=64)(u:Bool):(word c u).length=64:=by simp[word];omega
theorem tM{c:List Bool}:fY (word c true)=fY c:=by
 have:word c true=c++List.replicate (64-c.length) false:=by simp[word]
 rw[this,o7,zX]
 omega
theorem yV{c:List Bool}(h:c.length<=64):fY (word c false)=2^64-1-fY c:=by
 have u:word c false=(word c true).map not:=by
  unfold word
  rw[List.map_map]
  apply List.map_congr_left
  intro x _
  cases x<;>rfl
 rw[u,<-LY (Et h true),tM]
theorem B6{c:List Bool}(h:Bool){i:Nat}(hi:i<=c.length):((word c h).take i).count true=(c.take i).count h:=by
 unfold word
 rw[<-List.map_take,List.take_append_of_le_length hi]
 generalize c.take i=l
 induction l with
 |nil=>rfl
 |cons b l u=>
  rw[List.map_cons,List.count_cons,List.count_cons,u]
  cases b<;>cases h<;>simp
theorem LU{c:List Bool}(h:Bool){i:Nat}(hi:i<c.length)(u:i<(word c h).length):(word c h)[i]=(c[i]==h):=by
 have:(word c h)[i]?=some (c[i]==h):=by
  unfold word
  rw[List.getElem?_map,List.getElem?_append_left hi,List.getElem?_eq_getElem hi]
  rfl
 rw[List.getElem?_eq_getElem u] at this
 exact Option.some.inj this
end Go.Ex
namespace Go.Proofs.fv
open Go.Ex
def Gd(H:dw):Prop:=∀i,i<64->dL H ((⟨gT,0,none⟩:dA).add i)=some (.int .u8 (Go.Lib.deBruijn64tab.getD i 0:Int))
theorem Gd.fC{H H':dw}(h:Gd H)(u:Fr fa H H'):Gd H':=λi hi=>u.cell (h i hi) λh=>h
theorem YB:∀k,k<64->2^k*285870213051353865%2^64/2^58<64/\Go.Lib.deBruijn64tab.getD (2^k*285870213051353865%2^64/2^58) 0=k:=by decide+kernel
theorem PO{x:Nat}(h:x<2^64)(u:0<x):IntKind.u64.wrap (0-(x:Int))=((2^64-x:Nat):Int):=by
 unfold IntKind.wrap;simp[IntKind.bits,IntKind.signed];omega
theorem O9{x k c:Nat}(h:x<2^64)(w:0<x)(u:x&&&(2^64-x)=2^k):
 mu .u64 (IntKind.u64.wrap ((lx .u64 (x:Int) (IntKind.u64.wrap (0-(x:Int))))*(c:Int))) ((58:Nat):Int)=((2^k*c%2^64/2^58:Nat):Int):=by
 rw[PO h w,lQ h (by omega),u,<-Int.natCast_mul,zU,kU (Nat.mod_lt _ (by decide)),Nat.shiftRight_eq_div_pow]
theorem uo{l:List Bool}(Z:l.length<=64)(hm:true∈l){H:dw}(hd:Gd H){R:Int->dw->Prop}(hR:R (nth l 0:Int) H):ib.C (fY l:Int) H R:=by
 apply ib.calls
 unfold ib.W
 have u:=Ew hm
 have w:fY l<2^64:=Nat.lt_of_lt_of_le (pL l) (Nat.pow_le_pow_right (by decide) Z)
 have I:fY l≠0:=Nat.pos_iff_ne_zero.1 u
 have N:Go.Lib.ctz 64 (fY l)=nth l 0:=by
  unfold Go.Lib.ctz
  rw[if_neg I,FB 64 l hm Z]
 have Y:=Go.Lib.lowest_bit 64 (fY l) I w
 rw[N] at Y
 clear N
 obtain⟨O,hk⟩:=Y
 obtain⟨i,e2,ad,ae⟩:∃i:Nat,mu .u64 (IntKind.u64.wrap ((lx .u64 (fY l:Int) (IntKind.u64.wrap (0-(fY l:Int))))*((285870213051353865:Nat):Int))) ((58:Nat):Int)=(i:Int)/\i<64/\Go.Lib.deBruijn64tab.getD i 0=nth l 0:=
  ⟨_,O9 w u O,(YB _ hk).1,(YB _ hk).2⟩
 clear O w
 refine eI (λh=>I (by exact_mod_cast h)) ⟨by decide,?_⟩
 rw[show(285870213051353865:Int)=((285870213051353865:Nat):Int) from rfl,show(58:Int)=((58:Nat):Int) from rfl,e2,Int.toNat_natCast]
 clear e2
 refine⟨by omega,by omega,_,hd i ad,dN λy hy=>?_⟩
 rw[ae,wrap_i64 (by omega) (by omega)] at hy
 rw[hy]
 exact hR
theorem sj{H:dw}{g:Nat}{m:List Bool}{F:Nat->Prop}(h:oU H g m F)(hd:Gd H)(j:Int)(u:Bool){R:Int->dw->Prop}
 (h1:∀(p:Nat)(hp:p<m.length) H',m[p]=u->(rk m p u:Int)=j->Fr fa H H'->R (p:Int) H')(h2:∀H',(j<0\/(m.count u:Int)<=j)->Fr fa H H'->R (-1) H'):iL.C (some ⟨g,0,none⟩) j u H R:=by
 apply iL.calls
 unfold iL.W
 have aR:=h.yr
 refine dD (λq H'=>Fr fa H H'/\(q.1=true->(j<0\/(m.count u:Int)<=j))/\(q.1=false->0<=j/\j<(m.count u:Int))) ?_ ?_ |> fg
 .refine eE (λhn=>⟨Fr.refl _ _,λ_=>.inl hn,λh=>by cases h⟩) (λhn=>?_)
  refine mo h ?_
  refine lS h _ u λH4 f4=>?_
  rw[Int.toNat_natCast,tW m (Nat.le_refl _)]
  exact⟨f4,λh=>.inr (of_decide_eq_true h),λh=>⟨by omega,by have:=of_decide_eq_false h;omega⟩⟩
 rintro⟨q,_⟩ H1 ⟨f1,ad,ae⟩
 dsimp only at ad ae⊢
 refine jI (λN=>h2 H1 (ad N) f1) (λN=>?_)
 obtain⟨aw,a4⟩:=ae N
 obtain⟨j,rfl⟩:∃n:Nat,j=(n:Int):=⟨j.toNat,by omega⟩
 clear h2 ad ae N aw
 have aU:m.count u<=m.length:=List.count_le_length
 have b1:=h.fC f1
 obtain⟨lp,lc,ax,_⟩:=b1
 refine⟨_,rfl,_,_,_,(dO ax.fi 0 0).trans rfl,dN λay Y=>fg ?_⟩
 have Y:ay=((m.length/64:Nat):Int):=by rw[Y,wrap_i64 (by omega) (by omega)];omega
 subst Y
 refine eW (λn q H'=>∃I hi:Nat,q.1=(I:Int)/\q.2.1=(hi:Int)/\n=hi-I/\I<=hi/\hi<=m.length/64/\rk m (64*I) u<=j/\(hi=m.length/64\/j<rk m (64*(hi+1)) u)/\Fr fa H H') (m.length/64)
  ⟨0,m.length/64,rfl,rfl,by omega,by omega,Nat.le_refl _,by simp[rk],.inl rfl,f1⟩ ?_
 rintro n ⟨x,y,_⟩ H6 ⟨I,hi,hx,hy,rfl,az,aA,aB,Y,f6⟩
 simp only at hx hy
 subst hx hy
 dsimp only
 refine eE (λai=>?_) (λac=>?_)
 .refine⟨by decide,dN λaC ab=>?_⟩
  obtain⟨O,aD,a5,aE⟩:∃O:Nat,aC=(O:Int)/\I<O/\O<=hi:=by
   rw[wrap_i64 (n:=(I:Int)+(hi:Int)) (by omega) (by omega),wrap_i64 (n:=(I:Int)+(hi:Int)+1) (by omega) (by omega),show(I:Int)+(hi:Int)+1=((I+hi+1:Nat):Int) by omega,show Int.tdiv ((I+hi+1:Nat):Int) 2=(((I+hi+1)/2:Nat):Int) from rfl,wrap_i64 (by omega) (by omega)] at ab
   exact⟨_,ab,by omega,by omega⟩
  subst aD
  clear ab
  rw[show IntKind.i64.wrap ((O:Int)*64)=((64*O:Nat):Int) by rw[wrap_i64 (by omega) (by omega)];omega]
  refine lS (h.fC f6) _ u λH7 f7=>?_
  rw[Int.toNat_natCast]
  refine eE (λa6=>?_) (λa7=>dN λh8 aG=>?_)
  .exact⟨hi-O,by omega,O,hi,rfl,rfl,rfl,aE,aA,by omega,Y,f6.dF f7⟩
  .refine⟨O-1-I,by omega,I,O-1,rfl,?_,rfl,by omega,by omega,aB,.inr ?_,f6.dF f7⟩
   .show h8=_
    rw[aG,wrap_i64 (by omega) (by omega)];omega
   .rw[show O-1+1=O by omega];omega
 .have:I=hi:=by omega
  subst this
  clear ac az
  have b6:=h.fC f6
  refine sZ b6 (by omega) λH8 f8=>?_
  have f8:=f6.dF f8
  have aj:(chunk m I).length<=64:=by rw[rY];omega
  have aH:=wS m I 64 (Nat.le_refl _) u
  rw[List.take_of_length_le aj] at aH
  have aZ:j<rk m (64*I+64) u:=by
   rcases Y with h|h
   .rw[tW m (by omega)];omega
   .rw[show 64*I+64=64*(I+1) by omega];exact h
  have ak:=Et aj u
  have a8:((word (chunk m I) u).take (chunk m I).length).count true=(chunk m I).count u:=by rw[B6 u (Nat.le_refl _),List.take_length]
  have a0:((word (chunk m I) u).take (chunk m I).length).count true<=(word (chunk m I) u).count true:=(List.take_sublist _ _).count_le _
  refine dD (λq H'=>q.1=(fY (word (chunk m I) u):Int)/\H'=H8) ?_ ?_
  .refine jI (λN=>?_) (λN=>?_)
   .have N:u=false:=by simpa using N
    subst N
    refine dN λw Z=>⟨?_,rfl⟩
    show w=_
    rw[Z,MU (oV m I),yV aj]
   .have N:u=true:=by simpa using N
    subst N
    refine⟨?_,rfl⟩
    show(fY (chunk m I):Int)=_
    rw[tM]
  rintro⟨w,_⟩ H9 ⟨Z,rfl⟩
  simp only at Z
  subst Z
  dsimp only
  rw[show IntKind.i64.wrap ((I:Int)*64)=((64*I:Nat):Int) by rw[wrap_i64 (by omega) (by omega)];omega]
  refine dD (λq H'=>q.1=(fY (vX (j-rk m (64*I) u) (word (chunk m I) u)):Int)/\Fr fa H H') ?_ ?_
  .refine lS (h.fC f8) _ u λaI aJ=>?_
   rw[Int.toNat_natCast]
   refine eW (λn q H'=>H'=aI/\∃i:Nat,i<=j-rk m (64*I) u/\n=j-rk m (64*I) u-i/\q.1=(fY (vX i (word (chunk m I) u)):Int)/\q.2.1=(i:Int)) (j-rk m (64*I) u) ⟨rfl,0,by omega,rfl,rfl,rfl⟩ ?_
   rintro n ⟨x,y,_⟩ a9 ⟨rfl,i,hi,rfl,hx,hy⟩
   simp only at hx hy
   subst hx hy
   dsimp only
   rw[wrap_i64 (n:=(j:Int)-(rk m (64*I) u:Int)) (by omega) (by omega)]
   refine eE (λai=>dN λw Z=>?_) (λac=>?_)
   .have aK:=vW i (word (chunk m I) u)
    have aa:true∈vX i (word (chunk m I) u):=List.count_pos_iff.1 (by omega)
    have hp:=Ew aa
    have ao:fY (vX i (word (chunk m I) u))<2^64:=by have:=pL (vX i (word (chunk m I) u));rwa[FE,ak] at this
    refine⟨j-rk m (64*I) u-(i+1),by omega,rfl,i+1,by omega,rfl,?_,?_⟩
    .show w=_
     rw[Z,show((fY (vX i (word (chunk m I) u)):Nat):Int)-1=((fY (vX i (word (chunk m I) u))-1:Nat):Int) by omega,fL (by omega),lQ ao (by omega),Ey aa]
     rfl
    .show IntKind.i64.wrap ((i:Int)+1)=_
     rw[wrap_i64 (by omega) (by omega)];rfl
   .have:i=j-rk m (64*I) u:=by omega
    rw[<-this]
    exact⟨rfl,f8.dF aJ⟩
  rintro⟨w,_⟩ aL ⟨Z,ap⟩
  simp only at Z
  subst Z
  dsimp only
  have aK:=vW (j-rk m (64*I) u) (word (chunk m I) u)
  have aa:true∈vX (j-rk m (64*I) u) (word (chunk m I) u):=List.count_pos_iff.1 (by omega)
  refine uo (by rw[FE,ak];exact Nat.le_refl _) aa (hd.fC ap) ?_
  rw[FD _ _ 0 (by omega),Nat.zero_add]
  obtain⟨n1,n2,n3⟩:=AH (word (chunk m I) u) (j-rk m (64*I) u) (by omega)
  generalize nth (word (chunk m I) u) (j-rk m (64*I) u)=p at n1 n2 n3⊢
  have am:p<(chunk m I).length:=by
   rcases Nat.lt_or_ge p (chunk m I).length with h|h
   .exact h
   .have:=(List.take_sublist_take_left (l:=word (chunk m I) u) h).count_le true
    omega
  obtain⟨ai,ac⟩:=yA am
  rw[LU u am] at n2
  rw[B6 u (Nat.le_of_lt am)] at n3
  have ba:=wS m I p (by omega) u
  refine dN λr hr=>?_
  have hr:r=((64*I+p:Nat):Int):=by rw[hr,wrap_i64 (by omega) (by omega)];omega
  rw[hr]
  refine h1 _ ai aL ?_ ?_ ap
  .rw[<-ac];simpa using n2
  .omega
theorem Dh{H:dw}{bs:List Bool}{p:dC}{l:Nat}(h:Rd H (bs.map Value.bool) p l){i:Nat}(hi:i<l):∃(u:i<bs.length)(a:dA),p=some a/\dL H (a.add i)=some (.bool bs[i]):=by
 have N:bs.length=l:=by have:=h.1;simpa using this
 have u:i<bs.length:=by omega
 obtain⟨a,w,I⟩:=h.get (i:=i) (v:=.bool bs[i]) (by rw[List.getElem?_map,List.getElem?_eq_getElem u];rfl)
 exact⟨u,a,w,I⟩
theorem zY{c:List Bool}{t:Nat}(h:t<c.length):fY (c.take (t+1))=if c[t]=true then fY (c.take t)|||2^t else fY (c.take t):=by
 rw[List.take_succ_eq_append_getElem h]
 have w:(c.take t).length=t:=by simp;omega
 obtain⟨u,I⟩:=JS (c.take t)
 rw[w] at u
 cases N:c[t] with
 |true=>rw[u];simp
 |false=>rw[I];simp
theorem rF{H:dw}{m:List Bool}{p:dC}{n c:Nat}(aJ:Rd H (m.map Value.bool) p n)(hn:n<=4194304){R:dC->Int->dw->Prop}
 (hR:∀g H',oU H' g m (λk=>Array.size H<=k/\k<Array.size H')->Fr fa H H'->R (some ⟨g,0,none⟩) 0 H'):nh.C p n c H R:=by
 apply nh.calls
 unfold nh.W
 have hl:m.length=n:=by have:=aJ.1;simpa using this
 subst hl
 refine eI (by omega) (dN λH1 h1=>?_)
 have f1:Fr fa H H1:=by rw[h1];exact Fr.new _ _ _
 have s1:Array.size H1=Array.size H+1:=by rw[h1];exact gi
 have g1:=n0 h1
 clear h1
 refine dN λH2 h2=>?_
 have f2:Fr fa H1 H2:=by rw[h2];exact Fr.new _ _ _
 have s2:Array.size H2=Array.size H1+1:=by rw[h2];exact gi
 have p2:=n0 h2
 have g2:=f2.fi g1 λh=>h
 clear h2
 refine fg ?_
 refine eW (λk q H'=>∃(j:Nat)(lp:dC)(lc:Nat)(w:Int),j<=m.length/64+1/\k=m.length/64+1-j/\q.1=((64*j:Nat):Int)/\
  H'[Array.size H]?=some (.cells #[.slice lp j lc,.int .i64 (m.length:Int)] nT (0,0))/\H'[Array.size H1]?=some (.cells #[.int .u64 w,.int .i64 (rk m (64*j) true:Int)] jO (0,0))/\
  Sl H' nw (parts m j) lp j lc/\(∀k,eB lp k->Array.size H<=k)/\Fr fa H H') (m.length/64+1)
  ⟨0,none,0,0,by omega,rfl,rfl,g2,p2,Sl.nil _ _,(by rintro k ⟨a,ha,_⟩;cases ha),f1.dF f2⟩ ?_
 rintro k ⟨x,_⟩ H4 ⟨j,lp,lc,w,hj,rfl,hx,am,ah,Y,ai,f4⟩
 simp only at hx
 subst hx
 dsimp only
 refine eE (λa6=>?_) (λbx=>?_)
 .have bz:j<m.length/64+1:=by omega
  refine fg ⟨⟨_,(dO ah 0 0).trans rfl⟩,fK ah 0 0,dN λH6 h6=>?_⟩
  have aK:=kI h6 ah
  have f6:=mw h6
  have an:Array.size H≠Array.size H1:=by omega
  have aL:=f6.fi am an
  have av:=Y.eO f6 λk u e=>Y.ne ah (by decide) (e▸u)
  have aM:Fr fa H H6:=f4.trans f6 λk u=>.inr (by omega)
  clear h6
  refine fg ?_
  have bA:=rY m j
  refine eW (λk q H'=>∃t:Nat,t<=(chunk m j).length/\k=(chunk m j).length-t/\q.1=((64*j+t:Nat):Int)/\
   H'[Array.size H]?=some (.cells #[.slice lp j lc,.int .i64 (m.length:Int)] nT (0,0))/\H'[Array.size H1]?=some (.cells #[.int .u64 (fY ((chunk m j).take t):Int),.int .i64 (rk m (64*j) true:Int)] jO (0,0))/\
   Sl H' nw (parts m j) lp j lc/\Fr fa H H') (chunk m j).length ⟨0,by omega,rfl,rfl,aL,aK,av,aM⟩ ?_
  clear am ah Y f4 aK f6 aL av aM
  rintro k ⟨x,_⟩ H8 ⟨t,ht,rfl,hx,ao,I,Z,f8⟩
  simp only at hx
  subst hx
  dsimp only
  rw[wrap_i64 (n:=((64*j:Nat):Int)+64) (by omega) (by omega)]
  refine eE (λbB=>?_) (λbC=>?_)
  .have aO:t<(chunk m j).length:=by omega
   obtain⟨hm,a7⟩:=yA aO
   refine dD (λ_ H'=>H'[Array.size H]?=some (.cells #[.slice lp j lc,.int .i64 (m.length:Int)] nT (0,0))/\H'[Array.size H1]?=some (.cells #[.int .u64 (fY ((chunk m j).take (t+1)):Int),.int .i64 (rk m (64*j) true:Int)] jO (0,0))/\
    Sl H' nw (parts m j) lp j lc/\Fr fa H H') ?_ ?_
   .obtain⟨h2,a,rfl,hc⟩:=Dh (aJ.fC f8) hm
    refine⟨a,rfl,by omega,by omega,_,by rw[Int.toNat_natCast];exact hc,?_⟩
    rw[zY aO,a7]
    refine jI (λhb=>?_) (λhb=>?_)
    .rw[if_pos hb]
     refine⟨_,(dO I 0 0).trans rfl,?_⟩
     rw[show((64*j+t:Nat):Int)-((64*j:Nat):Int)=(t:Int) by omega,wrap_i64 (n:=(t:Int)) (by omega) (by omega),fL (a:=t) (by omega)]
     refine⟨by omega,⟨_,(dO I 0 0).trans rfl⟩,fK I 0 0,dN λbD ax=>?_⟩
     have a8:fY ((chunk m j).take t)<2^64:=Nat.lt_of_lt_of_le (pL _) (Nat.pow_le_pow_right (by decide) (by simp;omega))
     have aP:2^t<2^64:=Nat.pow_lt_pow_right (by decide) (by omega)
     have aj:uI .u64 (fY ((chunk m j).take t):Int) (mU .u64 1 (t:Int))=((fY ((chunk m j).take t)|||2^t:Nat):Int):=by
      rw[show(1:Int)=((1:Nat):Int) from rfl,rP,Nat.shiftLeft_eq,Nat.one_mul,Nat.mod_eq_of_lt aP,pR a8 aP]
     rw[aj] at ax
     have aW:=kI ax I
     have ay:=mw ax
     exact⟨ay.fi ao an,aW,Z.eO ay λk u e=>Z.ne I (by decide) (e▸u),f8.trans ay λk u=>.inr (by omega)⟩
    .rw[if_neg (by rw[hb];decide)]
     exact⟨ao,I,Z,f8⟩
   .rintro _ H9 ⟨a9,ba,aX,f9⟩
    refine dN λi7 bb=>⟨(chunk m j).length-(t+1),by omega,t+1,by omega,rfl,?_,a9,ba,aX,f9⟩
    show i7=_
    rw[bb,wrap_i64 (by omega) (by omega)];omega
  .have:t=(chunk m j).length:=by omega
   subst this
   rw[List.take_length] at I
   refine⟨_,rfl,_,_,_,(dO ao 0 0).trans rfl,_,(dO I 0 0).trans rfl,_,(dO I 0 1).trans rfl,dN λbc az=>?_⟩
   have aa:Fr fa H8 bc:=by rw[az];exact Fr.new _ _ _
   have ac:=aa.fi ao λh=>h
   have ak:=aa.fi I λh=>h
   refine⟨⟨_,_,_,(dO ac 0 0).trans rfl,rfl⟩,?_⟩
   refine QG Z az rfl ⟨by simp,by simp⟩ (by omega) (by decide) λaA aQ aR O ap aB=>?_
   have ad:=Z.eO aa λ_ _ h=>h
   have ae:=ap.fi ac (ad.ne ac (by decide))
   have aY:=ap.fi ak (ad.ne ak (by decide))
   have O:Sl aR nw (parts m (j+1)) aA (j+1) aQ:=by rw[GZ];exact O
   have aZ:Fr fa H aR:=(f8.dF aa).trans ap λk u=>.inr (ai k u)
   have aI:∀k,eB aA k->Array.size H<=k:=λk u=>by
    rcases aB k u with h|h
    .exact ai k h
    .have:=f8.size;have:=aa.size;omega
   clear az aa ap ac ak ad aB
   refine⟨_,rfl,⟨_,(dO ae 0 0).trans rfl⟩,fK ae 0 0,dN λbd aC=>?_⟩
   have a0:=kI aC ae
   have aD:=mw aC
   have N:=aD.fi aY (λe=>an e.symm)
   have aq:=O.eO aD λk u e=>O.ne ae (by decide) (e▸u)
   have a3:Fr fa H bd:=aZ.trans aD λk u=>.inr (by omega)
   clear aC
   refine⟨_,(dO N 0 1).trans rfl,_,(dO N 0 0).trans rfl,?_⟩
   refine si (oV m j) ?_
   rw[EU (by omega)]
   refine⟨⟨_,(dO N 0 1).trans rfl,rfl⟩,⟨_,(dO N 0 1).trans rfl⟩,fK N 0 1,dN λbE aE=>dN λk6 be=>?_⟩
   have aS:=wS m j 64 (Nat.le_refl _) true
   rw[List.take_of_length_le (l:=chunk m j) (by omega)] at aS
   have a6:=EN m (64*j+64) true
   have aj:IntKind.i64.wrap ((rk m (64*j) true:Int)+((chunk m j).count true:Int))=(rk m (64*(j+1)) true:Int):=by
    rw[wrap_i64 (by omega) (by omega),show 64*(j+1)=64*j+64 by omega,aS];omega
   rw[aj] at aE
   have a4:=kI aE N
   have aF:=mw aE
   refine⟨m.length/64+1-(j+1),by omega,j+1,aA,aQ,_,by omega,rfl,?_,aF.fi a0 an,a4,aq.eO aF λk u e=>aq.ne N (by decide) (e▸u),aI,a3.trans aF λk u=>.inr (by omega)⟩
   show k6=_
   rw[be];omega
 .have:j=m.length/64+1:=by omega
  subst this
  refine hR _ H4 ⟨lp,lc,⟨am,Y,hn⟩,⟨Nat.le_refl _,eR am⟩,λk u=>⟨ai k u,Y.gE u⟩,λk u=>u.2⟩ f4
end Go.Proofs.fv
namespace Go.Ex
theorem B9{m:List Bool}{u:Bool}{p q:Nat}(I:p<m.length)(N:q<m.length)(O:m[p]=u)(W:m[q]=u)(h:rk m p u=rk m q u):p=q:=by
 rcases Nat.lt_trichotomy p q with w|w|w
 .have:=De m (show p+1<=q by omega) u
  rw[uD I,if_pos O] at this
  omega
 .exact w
 .have:=De m (show q+1<=p by omega) u
  rw[uD N,if_pos W] at this
  omega
theorem yM{m:List Bool}{h:Bool}{p:Nat}(u:p<m.length)(w:m[p]=h):rk m p h<m.count h:=by
 have:=De m (show p+1<=m.length by omega) h
 rw[uD u,if_pos w,tW m (Nat.le_refl _)] at this
 omega
end Go.Ex
namespace Go.Proofs.fv
open Go.Ex
abbrev sw(n:Nat):dB:=.int .u64 (n:Int)
abbrev Dy:dE:=⟨#[0,1,2,2,3,3,3,3,4,4,4,4,4,4,4,4,5,5,5,5,5,5,5,5,5,5,5,5,5,5,5,5,6,6,6,6,6,6,6,6,6,6,6,6,6,6,6,6,6,6,6,6,6,6,6,6,6,6,6,6,6,6,6,6,7,7,7,7,7,7,7,7,7,7,7,7,7,7,7,7,7,7,7,7,7,7,7,7,7,7,7,7,7,7,7,7,7,7,7,7,7,7,7,7,7,7,7,7,7,7,7,7,7,7,7,7,7,7,7,7,7,7,7,7,7,7,7,7,8,8,8,8,8,8,8,8,8,8,8,8,8,8,8,8,8,8,8,8,8,8,8,8,8,8,8,8,8,8,8,8,8,8,8,8,8,8,8,8,8,8,8,8,8,8,8,8,8,8,8,8,8,8,8,8,8,8,8,8,8,8,8,8,8,8,8,8,8,8,8,8,8,8,8,8,8,8,8,8,8,8,8,8,8,8,8,8,8,8,8,8,8,8,8,8,8,8,8,8,8,8,8,8,8,8,8,8,8,8,8,8,8,8,8,8,8,8,8,8,8,8,8,8,8,8,8,8]⟩
theorem Fc:Dy.size=256:=by decide+kernel
theorem Fe:∀x:Nat,x<256->bt Dy (x:Int)=(ma x:Int):=by decide+kernel
theorem HM{n:Nat}(hn:n<2^64){H:dw}{R:Int->dw->Prop}(hR:R (ma n:Int) H):mM.C (n:Int) H R:=by
 apply mM.calls
 unfold mM.W
 have ac:=Jq hn
 refine dD (λq H'=>H'=H/\∃m c:Nat,q.1=(m:Int)/\q.2.1=(c:Int)/\m<2^32/\ma n=c+ma m) ?_ ?_
 .refine eE (λh=>⟨by decide,dN λx u=>?_⟩) (λh=>⟨rfl,n,0,rfl,rfl,by omega,by omega⟩)
  refine⟨rfl,n>>>32,32,?_,rfl,?_,?_⟩
  .show x=_
   rw[u,show(32:Int)=((32:Nat):Int) from rfl,kU hn]
  .rw[Nat.shiftRight_eq_div_pow];omega
  .rw[Bi]
   have:¬ma n<=32:=λN=>by have:=nj.1 N;omega
   omega
 rintro⟨x,y,_⟩ H' ⟨rfl,m,c,u,w,I,Y⟩
 simp only at u w
 subst u w
 dsimp only
 refine dD (λq O=>O=H'/\∃m c:Nat,q.1=(m:Int)/\q.2.1=(c:Int)/\m<2^16/\ma n=c+ma m) ?_ ?_
 .refine eE (λh=>⟨by decide,dN λx u=>dN λy w=>?_⟩) (λh=>⟨rfl,m,c,rfl,rfl,by omega,by omega⟩)
  refine⟨rfl,m>>>16,c+16,?_,?_,?_,?_⟩
  .show x=_
   rw[u,show(16:Int)=((16:Nat):Int) from rfl,kU (by omega)]
  .show y=_
   rw[w,wrap_i64 (by omega) (by omega)];rfl
  .rw[Nat.shiftRight_eq_div_pow];omega
  .rw[Bi]
   have:¬ma m<=16:=λN=>by have:=nj.1 N;omega
   omega
 clear I Y
 rintro⟨x,y,_⟩ O ⟨rfl,m,c,u,w,I,Y⟩
 simp only at u w
 subst u w
 dsimp only
 refine dD (λq H'=>H'=O/\∃m c:Nat,q.1=(m:Int)/\q.2.1=(c:Int)/\m<2^8/\ma n=c+ma m) ?_ ?_
 .refine eE (λh=>⟨by decide,dN λx u=>dN λy w=>?_⟩) (λh=>⟨rfl,m,c,rfl,rfl,by omega,by omega⟩)
  refine⟨rfl,m>>>8,c+8,?_,?_,?_,?_⟩
  .show x=_
   rw[u,show(8:Int)=((8:Nat):Int) from rfl,kU (by omega)]
  .show y=_
   rw[w,wrap_i64 (by omega) (by omega)];rfl
  .rw[Nat.shiftRight_eq_div_pow];omega
  .rw[Bi]
   have:¬ma m<=8:=λN=>by have:=nj.1 N;omega
   omega
 clear I Y
 rintro⟨x,y,_⟩ H' ⟨rfl,m,c,u,w,I,Y⟩
 simp only at u w
 subst u w
 dsimp only
 have I:m<256:=by omega
 rw[wrap_u8 (by omega) (by omega)]
 refine⟨by omega,by show(m:Int)<(Dy.size:Int);rw[Fc];omega,dN λz Z=>?_⟩
 have Z:z=IntKind.i64.wrap ((c:Int)+IntKind.i64.wrap (bt Dy (m:Int))):=Z
 rw[Fe m I,wrap_i64 (n:=(ma m:Int)) (by omega) (by omega),wrap_i64 (by omega) (by omega)] at Z
 rw[Z,show(c:Int)+(ma m:Int)=(ma n:Int) by omega]
 exact hR
theorem wa{n:Nat}(h:n<2^64){H:dw}{R:Int->dw->Prop}(u:R (ma n:Int) H):lr.C (n:Int) H R:=by
 apply lr.calls
 unfold lr.W
 exact HM h u
theorem vM{H:dw}{l:List Nat}{p:dC}{n:Nat}(h:Rd H (l.map sw) p n){i:Nat}(hi:i<n):∃(u:i<l.length)(a:dA),p=some a/\dL H (a.add i)=some (.int .u64 (l[i]:Int)):=by
 have N:l.length=n:=by have:=h.1;simpa using this
 have u:i<l.length:=by omega
 obtain⟨a,w,I⟩:=h.get (i:=i) (v:=sw l[i]) (by rw[List.getElem?_map,List.getElem?_eq_getElem u];rfl)
 exact⟨u,a,w,I⟩
theorem On{H:dw}{l:List Nat}{p:dC}{n c:Nat}(h:Rd H (l.map sw) p n)(Y:0<n)(hb:n<=1099511627776){R:Int->dw->Prop}(Z:R (y7 l:Int) H):gB.C p n c H R:=by
 apply gB.calls
 unfold gB.W
 have hl:l.length=n:=by have:=h.1;simpa using this
 refine fg (eI (by omega) ?_)
 obtain⟨u,a,rfl,w⟩:=vM h Y
 refine⟨a,rfl,by omega,by omega,_,w,fg ?_⟩
 refine eW (λk q H'=>H'=H/\∃i:Nat,i<=n/\k=n-i/\q.1=(y7 (l.take i):Int)/\q.2.1=(i:Int)) (n-1) ⟨rfl,1,by omega,rfl,?_,rfl⟩ ?_
 .rw[Ci u];simp[y7]
 rintro k ⟨x,y,_⟩ H' ⟨rfl,i,hi,rfl,I,N⟩
 simp only at I N
 subst I N
 dsimp only
 refine eE (λac=>?_) (λad=>?_)
 .obtain⟨u,a',e,w⟩:=vM h (i:=i) (by omega)
  cases e
  refine⟨a,rfl,by omega,by omega,_,by rw[Int.toNat_natCast];exact w,dN λm hm=>dN λi4 O=>⟨n-(i+1),by omega,rfl,i+1,by omega,rfl,?_,?_⟩⟩
  .show m=_
   rw[hm,Ci u];omega
  .show i4=_
   rw[O,wrap_i64 (by omega) (by omega)];rfl
 .have:i=n:=by omega
  subst this
  rw[List.take_of_length_le (by omega)]
  exact Z
structure T9(H:dw)(g:Nat)(l:List Nat)(pw:dC)(ws:List Nat):Prop where
 fi:H[g]?=some (.cells #[.iface qP (.slice pw ws.length ws.length),.int .i64 (l.length:Int),.int .i64 (wide l:Int)] kP (0,0))
 sl:Sl H kB (ws.map sw) pw ws.length ws.length
 packed:rD l (wide l) l.length ws
 all:ou ws
 Bx:ou l
 len:ws.length=(l.length*wide l+63)/64
 yr:l.length<=1099511627776
def D8(H:dw)(g:Nat)(l:List Nat)(F:Nat->Prop):Prop:=∃h ws,T9 H g l h ws/\F g/\(∀k,eB h k->F k)/\∀k,F k->k<Array.size H
theorem D8.eO{H H':dw}{g:Nat}{l:List Nat}{F G:Nat->Prop}(h:D8 H g l F)(u:Fr G H H')(I:∀k,F k->¬G k):D8 H' g l F:=by
 obtain⟨W,ws,h,N,O,Y⟩:=h
 exact⟨W,ws,⟨u.fi h.fi (I _ N),h.sl.eO u λk w=>I k (O k w),h.packed,h.all,h.Bx,h.len,h.yr⟩,N,O,λk w=>Nat.lt_of_lt_of_le (Y k w) u.size⟩
section
variable {H:dw} {g:Nat} {l:List Nat} {F:Nat->Prop}
theorem BT(h:D8 H g l F){R:Int->dw->Prop}(u:R (l.length:Int) H):ku.C (some ⟨g,0,none⟩) H R:=by
 obtain⟨w,ws,h,_⟩:=h
 apply ku.calls
 unfold ku.W
 exact dH rfl ⟨_,rfl,_,(dO h.fi 0 1).trans rfl,u⟩
theorem D8.prod(h:D8 H g l F):l.length*wide l<=70368744177664:=by
 obtain⟨u,ws,h,_⟩:=h
 exact Nat.mul_le_mul h.yr (CT h.Bx)
theorem BU(h:D8 H g l F)(n:Int){R:Int->Int->dw->Prop}(h1:∀k:Nat,(Z:k<l.length)->n=(k:Int)->R (l[k]:Int) 0 H)(h2:(n<0\/(l.length:Int)<=n)->R 0 4 H):kx.C (some ⟨g,0,none⟩) n H R:=by
 apply kx.calls
 unfold kx.W
 refine fg (fg ?_)
 refine eE (λhn=>eN rfl (h2 (.inl hn))) (λhn=>?_)
 refine BT h ?_
 refine eE (λhl=>h2 (.inr hl)) (λhl=>?_)
 have aA:=h.prod
 obtain⟨pw,ws,h,_⟩:=h
 obtain⟨k,rfl⟩:∃k:Nat,n=(k:Int):=⟨n.toNat,by omega⟩
 have Z:k<l.length:=by omega
 have hR:=h1 k Z rfl
 clear h1 h2
 refine⟨_,rfl,_,(dO h.fi 0 0).trans rfl,_,_,_,true,.inl ⟨rfl,rfl⟩,?_⟩
 refine fg (fg (dH rfl ?_))
 have f2:dL H ((⟨g,0,none⟩:dA).add 2)=some (.int .i64 (wide l:Int)):=(dO h.fi 0 2).trans rfl
 refine⟨_,rfl,_,f2,?_⟩
 have ae:=CT h.Bx
 have ab:=IW (List.getElem_mem Z)
 refine eE (λh0=>?_) (λaB=>?_)
 .have h0:wide l=0:=by omega
  rw[h0] at ab
  have:l[k]=0:=by omega
  rw[this] at hR
  exact hR
 .have aC:0<wide l:=by omega
  refine⟨_,rfl,_,f2,by decide,_,rfl,_,f2,by decide,dN λam N=>dN λaf O=>?_⟩
  have hb:k*wide l+wide l<=l.length*wide l:=by
   have:(k+1)*wide l<=l.length*wide l:=Nat.mul_le_mul_right _ (by omega)
   rwa[Nat.succ_mul] at this
  have aw:=h.len
  have u:=G0 h.packed h.all ae Z ab
  have e:(k:Int)*(wide l:Int)=((k*wide l:Nat):Int):=by push_cast;rfl
  rw[e] at N O
  generalize aD:k*wide l=B at N O u hb
  rw[wrap_i64 (n:=(B:Int)) (by omega) (by omega)] at N O
  have N:am=((B/64:Nat):Int):=by
   rw[N,show Int.tdiv (B:Int) 64=((B/64:Nat):Int) from rfl,wrap_i64 (by omega) (by omega)]
  have O:af=((B%64:Nat):Int):=by
   rw[O,show Int.tmod (B:Int) 64=((B%64:Nat):Int) from rfl,wrap_u64 (by omega) (by omega)]
  subst N O
  have ac:=h.sl.rd
  obtain⟨w,a,rfl,hc⟩:=vM ac (i:=B/64) (by omega)
  refine⟨a,rfl,by omega,by omega,_,by rw[Int.toNat_natCast];exact hc,by omega,dN λan I=>?_⟩
  rw[kU (h.all _ (List.getElem_mem w))] at I
  refine dD (λq H'=>H'=H/\∃m:Nat,q.1=(m:Int)/\m<2^64/\m=if 64<B%64+wide l then ws.getD (B/64) 0>>>(B%64)|||ws.getD (B/64+1) 0<<<(64-B%64)%2^64 else ws.getD (B/64) 0>>>(B%64)) ?_ ?_
  .refine⟨_,rfl,_,f2,?_⟩
   rw[wrap_i64 (n:=((B%64:Nat):Int)) (by omega) (by omega),wrap_i64 (n:=((B%64:Nat):Int)+(wide l:Int)) (by omega) (by omega)]
   refine eE (λaE=>?_) (λaF=>?_)
   .rw[wrap_i64 (n:=((B/64:Nat):Int)+1) (by omega) (by omega)]
    obtain⟨ag,a',e',ao⟩:=vM ac (i:=B/64+1) (by omega)
    cases e'
    rw[show(((B/64:Nat):Int)+1)=((B/64+1:Nat):Int) by omega,Int.toNat_natCast]
    refine⟨a,rfl,by omega,by omega,_,ao,?_⟩
    rw[show(64:Int)-((B%64:Nat):Int)=((64-B%64:Nat):Int) by omega,fL (by omega)]
    refine⟨by omega,dN λy Y=>⟨rfl,_,?_,?_,rfl⟩⟩
    .show y=_
     rw[Y,I,rP,pR (rj (h.all _ (List.getElem_mem w)) _) (Al _ _),if_pos (by omega),ue w,ue ag]
    .rw[if_pos (by omega)]
     exact Nat.or_lt_two_pow (rj (h.all.getD _) _) (Al _ _)
   .refine⟨rfl,_,?_,?_,rfl⟩
    .show an=_
     rw[I,if_neg (by omega),ue w]
    .rw[if_neg (by omega)]
     exact rj (h.all.getD _) _
  .rintro⟨x,_⟩ H' ⟨rfl,m,hx,hm,aq⟩
   simp only at hx
   subst hx
   dsimp only
   refine fg ?_
   refine⟨_,rfl,_,f2,?_⟩
   unfold Dg at u
   rw[<-aq] at u
   refine eE (λau=>?_) (λaG=>?_)
   .refine⟨_,rfl,_,f2,?_⟩
    rw[fL (by omega)]
    refine⟨by omega,dN λy Y=>?_⟩
    have ar:2^wide l<2^64:=Nat.pow_lt_pow_right (by decide) (by omega)
    have aH:0<2^wide l:=Nat.pow_pos (by decide)
    rw[show(1:Int)=((1:Nat):Int) from rfl,rP,Nat.shiftLeft_eq,Nat.one_mul,Nat.mod_eq_of_lt ar,show((2^wide l:Nat):Int)-((1:Nat):Int)=((2^wide l-1:Nat):Int) by omega,fL (by omega),lQ hm (by omega)] at Y
    rw[if_pos (by omega)] at u
    rw[u] at Y
    rw[Y]
    exact hR
   .rw[if_neg (by omega)] at u
    rw[u]
    exact hR
end
theorem Ix(ws:List Nat)(i v:Nat):(ws.map sw).set i (sw v)=(ws.set i v).map sw:=by rw[List.map_set]
theorem BR{H:dw}{l:List Nat}{p:dC}{n c:Nat}(aw:Rd H (l.map sw) p n)(hl:ou l)(hb:n<=1099511627776){R:dC->dw->Prop}
 (hR:∀g H',D8 H' g l (λk=>Array.size H<=k/\k<Array.size H')->Fr fa H H'->R (some ⟨g,0,none⟩) H'):ph.C p n c H R:=by
 apply ph.calls
 unfold ph.W
 have hn:l.length=n:=by have:=aw.1;simpa using this
 subst hn
 have af:=CT hl
 have a7:l.length*wide l<=70368744177664:=Nat.mul_le_mul hb af
 refine dN λH1 h1=>?_
 have f1:Fr fa H H1:=by rw[h1];exact Fr.new _ _ _
 have bG:Array.size H1=Array.size H+1:=by rw[h1];exact gi
 have ak:H1[Array.size H]?=some (.cells #[.nilIface,.int .i64 (l.length:Int),.int .i64 0] kP (0,0)):=by rw[h1];exact eU
 clear h1
 refine dD (λ_ H'=>H'[Array.size H]?=some (.cells #[.nilIface,.int .i64 (l.length:Int),.int .i64 (wide l:Int)] kP (0,0))/\Fr fa H H') ?_ ?_
 .refine eE (λh0=>?_) (λh0=>?_)
  .refine On (aw.fC f1) (by omega) hb ?_
   have aT:y7 l<2^64:=nj.1 af
   refine wa aT ?_
   refine⟨_,rfl,⟨_,(dO ak 0 2).trans rfl⟩,fK ak 0 2,dN λH5 h5=>⟨?_,?_⟩⟩
   .rw[h5,lu ak];rfl
   .rw[h5,ly]
    exact f1.trans (Fr.set H1 ⟨Array.size H,0+2,none⟩ _) λk hk=>.inr (by rw[hk];exact Nat.le_refl _)
  .have:l=[]:=List.eq_nil_of_length_eq_zero (by omega)
   subst this
   exact⟨ak,f1⟩
 rintro _ I ⟨am,f2⟩
 dsimp only
 have bH:Array.size H<Array.size I:=eR am
 refine⟨_,rfl,_,(dO am 0 1).trans rfl,_,rfl,_,(dO am 0 2).trans rfl,by decide,?_⟩
 have a9:IntKind.i64.wrap (Int.tdiv (IntKind.i64.wrap ((IntKind.i64.wrap ((IntKind.i64.wrap ((l.length:Int)*(wide l:Int)))+64))-1)) 64)=(((l.length*wide l+63)/64:Nat):Int):=by
  have e:(l.length:Int)*(wide l:Int)=((l.length*wide l:Nat):Int):=by push_cast;rfl
  rw[e]
  generalize l.length*wide l=m at a7⊢
  rw[wrap_i64 (n:=(m:Int)) (by omega) (by omega),wrap_i64 (n:=(m:Int)+64) (by omega) (by omega),wrap_i64 (n:=(m:Int)+64-1) (by omega) (by omega),show(m:Int)+64-1=((m+63:Nat):Int) by omega,
   show Int.tdiv ((m+63:Nat):Int) 64=(((m+63)/64:Nat):Int) from rfl,wrap_i64 (by omega) (by omega)]
 rw[a9]
 generalize aU:(l.length*wide l+63)/64=u
 have bv:u<=1099511627776:=by omega
 refine⟨by omega,by omega,by omega,dN λH6 h6=>?_⟩
 rw[Int.toNat_natCast] at h6⊢
 have f6:Fr fa I H6:=by rw[h6];exact Fr.new _ _ _
 have bI:Array.size H6=Array.size I+1:=by rw[h6];exact gi
 have aV:Sl H6 kB ((List.replicate u 0).map sw) (some ⟨Array.size I,0,none⟩) u u:=by
  rw[h6,List.map_replicate]
  exact Sl.made I kB (z:=.int .u64 0) rfl u
 have bb:=f6.fi am (λh=>h)
 clear h6
 refine fg ?_
 refine eW (λm q H'=>∃(i:Nat)(ws:List Nat),i<=l.length/\m=l.length-i/\q.1=(i:Int)/\H'[Array.size H]?=some (.cells #[.nilIface,.int .i64 (l.length:Int),.int .i64 (wide l:Int)] kP (0,0))/\Fr fa H H'/\Array.size H6<=Array.size H'/\
  Sl H' kB (ws.map sw) (some ⟨Array.size I,0,none⟩) u u/\rD l (wide l) i ws/\ou ws) l.length
  ⟨0,List.replicate u 0,by omega,rfl,rfl,bb,f2.dF f6,Nat.le_refl _,aV,EW _ _ _,ou.BZ _⟩ ?_
 rintro m ⟨x,_⟩ H8 ⟨i,ws,hi,rfl,hx,Z,f8,aL,ab,an,w⟩
 simp only at hx
 subst hx
 dsimp only
 have az:ws.length=u:=by have:=ab.1;simpa using this
 refine eE (λac=>?_) (λbJ=>?_)
 .have ac:i<l.length:=by omega
  obtain⟨_,a,rfl,hc⟩:=vM (aw.fC f8) ac
  have g2:dL H8 ((⟨Array.size H,0,none⟩:dA).add 2)=some (.int .i64 (wide l:Int)):=(dO Z 0 2).trans rfl
  refine fg ?_
  refine⟨a,rfl,by omega,by omega,_,by rw[Int.toNat_natCast];exact hc,_,rfl,_,g2,by decide,_,rfl,_,g2,by decide,dN λbc N=>dN λaX ho=>?_⟩
  refine⟨_,rfl,_,g2,?_⟩
  have aa:∀{H':dw}{ad:List Nat},H'[Array.size H]?=some (.cells #[.nilIface,.int .i64 (l.length:Int),.int .i64 (wide l:Int)] kP (0,0))->Fr fa H H'->Array.size H6<=Array.size H'->
   Sl H' kB (ad.map sw) (some ⟨Array.size I,0,none⟩) u u->rD l (wide l) (i+1) ad->ou ad->
   ∃m,m<l.length-i/\∃(j:Nat)(ws:List Nat),j<=l.length/\m=l.length-j/\IntKind.i64.wrap ((i:Int)+1)=(j:Int)/\H'[Array.size H]?=some (.cells #[.nilIface,.int .i64 (l.length:Int),.int .i64 (wide l:Int)] kP (0,0))/\Fr fa H H'/\Array.size H6<=Array.size H'/\
    Sl H' kB (ws.map sw) (some ⟨Array.size I,0,none⟩) u u/\rD l (wide l) j ws/\ou ws:=by
   intro H' ad a1 a2 a3 a4 a5 a6
   exact⟨l.length-(i+1),by omega,i+1,ad,by omega,rfl,by rw[wrap_i64 (by omega) (by omega)];rfl,a1,a2,a3,a4,a5,a6⟩
  refine eE (λh0=>?_) (λbK=>?_)
  .have h0:wide l=0:=by omega
   refine aa Z f8 aL ab ?_ w
   rw[h0] at an⊢
   exact EY an
  .have bf:0<wide l:=by omega
   have hx:=IW (List.getElem_mem ac)
   have aM:(i+1)*wide l<=l.length*wide l:=Nat.mul_le_mul_right _ (by omega)
   have O:=EX an af bf ac hx (by omega)
   rw[Nat.succ_mul] at aM
   have e:(i:Int)*(wide l:Int)=((i*wide l:Nat):Int):=by push_cast;rfl
   rw[e] at N ho
   generalize bL:i*wide l=B at N ho O aM
   rw[wrap_i64 (n:=(B:Int)) (by omega) (by omega)] at N ho
   have N:bc=((B/64:Nat):Int):=by
    rw[N,show Int.tdiv (B:Int) 64=((B/64:Nat):Int) from rfl,wrap_i64 (by omega) (by omega)]
   have ho:aX=((B%64:Nat):Int):=by
    rw[ho,show Int.tmod (B:Int) 64=((B%64:Nat):Int) from rfl,wrap_u64 (by omega) (by omega)]
   subst N ho
   have ag:=hl _ (List.getElem_mem ac)
   obtain⟨hB,a1,e1,bg⟩:=vM ab.rd (i:=B/64) (by omega)
   cases e1
   have bh:uI .u64 (ws[B/64]:Int) (mU .u64 (l[i]:Int) ((B%64:Nat):Int))=((ws.getD (B/64) 0|||l[i]<<<(B%64)%2^64:Nat):Int):=by
    rw[rP,pR (w _ (List.getElem_mem hB)) (Al _ _),ue hB]
   obtain⟨a2,e2,bi,bj,Y,ao⟩:=ab.store (i:=B/64) (by omega) (sw (ws.getD (B/64) 0|||l[i]<<<(B%64)%2^64))
   cases e2
   rw[Ix] at Y
   refine⟨_,rfl,by omega,by omega,_,by rw[Int.toNat_natCast];exact bg,by omega,_,rfl,by omega,by omega,by rw[Int.toNat_natCast];exact bi,by rw[Int.toNat_natCast];exact bj,dN λaA ae=>?_⟩
   rw[Int.toNat_natCast,bh] at ae
   have ae:aA=gO H8 ((⟨Array.size I,0,none⟩:dA).add (B/64)) (sw (ws.getD (B/64) 0|||l[i]<<<(B%64)%2^64)):=ae
   rw[<-ae] at Y ao
   have aO:¬eB (some ⟨Array.size I,0,none⟩) (Array.size H):=by
    rintro⟨a,N,hb⟩
    cases N
    simp only at hb
    omega
   have aB:∀k,eB (some ⟨Array.size I,0,none⟩) k->fa k\/Array.size H<=k:=by
    rintro k ⟨a,N,rfl⟩
    cases N
    exact .inr (by simp only;omega)
   have ah:=ao.fi Z aO
   have aP:=f8.trans ao aB
   have aC:=Nat.le_trans aL ao.size
   have bk:dL aA ((⟨Array.size H,0,none⟩:dA).add 2)=some (.int .i64 (wide l:Int)):=(dO ah 0 2).trans rfl
   have ap:ou (ws.set (B/64) (ws.getD (B/64) 0|||l[i]<<<(B%64)%2^64)):=w.set _ (Nat.or_lt_two_pow (w.getD _) (Al _ _))
   clear ae
   refine⟨_,rfl,_,bk,?_⟩
   rw[wrap_i64 (n:=((B%64:Nat):Int)) (by omega) (by omega),wrap_i64 (n:=((B%64:Nat):Int)+(wide l:Int)) (by omega) (by omega)]
   unfold PM at O
   refine eE (λbM=>?_) (λbN=>?_)
   .rw[if_pos (by omega)] at O
    rw[wrap_i64 (n:=((B/64:Nat):Int)+1) (by omega) (by omega),show(((B/64:Nat):Int)+1)=((B/64+1:Nat):Int) by omega,Int.toNat_natCast]
    obtain⟨aQ,a3,e3,bm⟩:=vM Y.rd (i:=B/64+1) (by omega)
    cases e3
    have bD:B/64+1<ws.length:=by simpa using aQ
    have aZ:(ws.set (B/64) (ws.getD (B/64) 0|||l[i]<<<(B%64)%2^64))[B/64+1]=ws.getD (B/64+1) 0:=by
     rw[<-ue aQ,uO hB,if_neg (by omega)]
    have bn:uI .u64 (((ws.set (B/64) (ws.getD (B/64) 0|||l[i]<<<(B%64)%2^64))[B/64+1]:Nat):Int) (mu .u64 (l[i]:Int) ((64-B%64:Nat):Int))=((ws.getD (B/64+1) 0|||l[i]>>>(64-B%64):Nat):Int):=by
     rw[aZ,kU ag,pR (w.getD _) (rj ag _)]
    obtain⟨a4,e4,bo,bp,ai,aq⟩:=Y.store (i:=B/64+1) (by omega) (sw (ws.getD (B/64+1) 0|||l[i]>>>(64-B%64)))
    cases e4
    rw[Ix] at ai
    refine⟨_,rfl,by omega,by omega,_,bm,?_⟩
    rw[show(64:Int)-((B%64:Nat):Int)=((64-B%64:Nat):Int) by omega,fL (by omega)]
    refine⟨by omega,_,rfl,by omega,by omega,bo,bp,dN λbq ar=>?_⟩
    rw[bn] at ar
    have ar:bq=gO aA ((⟨Array.size I,0,none⟩:dA).add (B/64+1)) (sw (ws.getD (B/64+1) 0|||l[i]>>>(64-B%64))):=ar
    rw[<-ar] at ai aq
    exact aa (aq.fi ah aO) (aP.trans aq aB) (Nat.le_trans aC aq.size) ai O (ap.set _ (Nat.or_lt_two_pow (w.getD _) (rj ag _)))
   .rw[if_neg (by omega)] at O
    exact aa ah aP aC Y O ap
 .have:i=l.length:=by omega
  subst this
  refine⟨_,rfl,⟨_,(dO Z 0 0).trans rfl⟩,fK Z 0 0,dN λaR aD=>?_⟩
  have aj:Fr (λk=>k=Array.size H) H8 aR:=by rw[aD,ly];exact Fr.set H8 ⟨Array.size H,0+0,none⟩ _
  have a0:aR[Array.size H]?=some (.cells #[.iface qP (.slice (some ⟨Array.size I,0,none⟩) u u),.int .i64 (l.length:Int),.int .i64 (wide l:Int)] kP (0,0)):=by
   rw[aD,lu Z];rfl
  clear aD
  have bO:=aj.size
  refine hR _ _ ⟨some ⟨Array.size I,0,none⟩,ws,⟨?_,?_,an,w,hl,?_,hb⟩,⟨by omega,by omega⟩,?_,λk hk=>hk.2⟩ (f8.trans aj λk hk=>.inr (by omega))
  .rw[az];exact a0
  .rw[az]
   refine ab.eO aj ?_
   rintro k ⟨a,N,rfl⟩ he
   cases N
   simp only at he
   omega
  .rw[az,aU]
  .rintro k ⟨a,N,rfl⟩
   cases N
   exact⟨by simp only;omega,by simp only;omega⟩
abbrev DG(n:Nat):dB:=.int .i64 (n:Int)
theorem Mz{H:dw}{l:List Nat}{p:dC}{n:Nat}(h:Rd H (l.map DG) p n){i:Nat}(hi:i<n):∃(u:i<l.length)(a:dA),p=some a/\dL H (a.add i)=some (.int .i64 (l[i]:Int)):=by
 have N:l.length=n:=by have:=h.1;simpa using this
 have u:i<l.length:=by omega
 obtain⟨a,w,I⟩:=h.get (i:=i) (v:=DG l[i]) (by rw[List.getElem?_map,List.getElem?_eq_getElem u];rfl)
 exact⟨u,a,w,I⟩
def lz(l:List Nat):Nat:=l.getD (l.length-1) 0
def pT(l:List Nat):Nat:=if l.length=0 then 0 else E8 (lz l) l.length
def kF(l:List Nat):Nat:=lz l>>>pT l
def O7(l:List Nat):List Bool:=Bz l (pT l) (l.length+kF l+1) l.length
def va(l:List Nat):List Nat:=l.map (·%2^pT l)
theorem le_last{l:List Nat}(h:ur l){i:Nat}(hi:i<l.length):l[i]<=lz l:=by
 unfold lz
 rw[List.getD_eq_getElem?_getD,List.getElem?_eq_getElem (by omega)]
 exact h i (l.length-1) hi (by omega) (by omega)
theorem Qb(l:List Nat):kF l<=2*l.length:=by
 unfold kF pT
 split
 .rename_i h
  have:l=[]:=List.eq_nil_of_length_eq_zero h
  subst this
  decide
 .exact Nat.le_of_lt (Qa (by omega))
theorem ED{l:List Nat}(h:ur l):∀i(hi:i<l.length),l[i]>>>pT l+i<l.length+kF l+1:=by
 intro i hi
 have:=wP (le_last h hi) (pT l)
 unfold kF
 omega
theorem O6(l:List Nat):(O7 l).length=l.length+kF l+1:=wB _ _ _ _
theorem Nb{l:List Nat}(h:lz l<=8388608):pT l<=23:=by
 unfold pT
 split
 .omega
 .unfold E8
  have:ma (lz l/l.length)<=24:=nj.2 (Nat.lt_of_le_of_lt (Nat.div_le_self _ _) (by omega))
  omega
structure T6(H:dw)(g:Nat)(l:List Nat)(gu gl:Nat)(Fu Fl:Nat->Prop):Prop where
 fi:H[g]?=some (.cells #[.iface lJ (.pointer (some ⟨gu,0,none⟩)),.iface qo (.pointer (some ⟨gl,0,none⟩)),.int .i64 (l.length:Int),.int .i64 (pT l:Int),.int .i64 (kF l:Int)] mO (0,0))
 up:oU H gu (O7 l) Fu
 low:D8 H gl (va l) Fl
 IA:ur l
 last:lz l<=8388608
 yr:l.length<=1048576
def Bo(H:dw)(g:Nat)(l:List Nat)(F:Nat->Prop):Prop:=∃w I h u,T6 H g l w I h u/\F g/\(∀k,h k->F k)/\(∀k,u k->F k)/\∀k,F k->k<Array.size H
theorem Bo.eO{H H':dw}{g:Nat}{l:List Nat}{F G:Nat->Prop}(h:Bo H g l F)(w:Fr G H H')(I:∀k,F k->¬G k):Bo H' g l F:=by
 obtain⟨Y,Z,Fu,Fl,h,N,O,W,h4⟩:=h
 exact⟨Y,Z,Fu,Fl,⟨w.fi h.fi (I _ N),h.up.eO w λk u=>I k (O k u),h.low.eO w λk u=>I k (W k u),h.IA,h.last,h.yr⟩,N,O,W,λk u=>Nat.lt_of_lt_of_le (h4 k u) w.size⟩
theorem Bo.fC{H H':dw}{g:Nat}{l:List Nat}{F:Nat->Prop}(h:Bo H g l F)(u:Fr fa H H'):Bo H' g l F:=h.eO u λ_ _ h=>h
section
variable {H:dw} {g:Nat} {l:List Nat} {F:Nat->Prop}
theorem BQ(h:Bo H g l F){R:Int->dw->Prop}(u:R (l.length:Int) H):kr.C (some ⟨g,0,none⟩) H R:=by
 obtain⟨_,_,_,_,h,_⟩:=h
 apply kr.calls
 unfold kr.W
 exact dH rfl ⟨_,rfl,_,(dO h.fi 0 2).trans rfl,u⟩
theorem vz(h:Bo H g l F)(hd:Gd H)(n:Int){R:Int->Int->dw->Prop}(h1:∀(k:Nat)(u:k<l.length) H',n=(k:Int)->Fr fa H H'->R (l[k]:Int) 0 H')(Y:(n<0\/(l.length:Int)<=n)->R 0 4 H):jR.C (some ⟨g,0,none⟩) n H R:=by
 apply jR.calls
 unfold jR.W
 refine fg (fg ?_)
 refine eE (λhn=>eN rfl (Y (.inl hn))) (λhn=>?_)
 refine BQ h ?_
 refine eE (λhl=>Y (.inr hl)) (λhl=>?_)
 obtain⟨gu,gl,Fu,Fl,h,_⟩:=h
 obtain⟨k,rfl⟩:∃k:Nat,n=(k:Int):=⟨n.toNat,by omega⟩
 have u:k<l.length:=by omega
 have hR:=λH' hf=>h1 k u H' rfl hf
 clear h1 Y
 have ay:=Nb h.last
 have aq:=h.yr
 refine⟨_,rfl,_,(dO h.fi 0 0).trans rfl,_,true,.inl ⟨rfl,rfl⟩,_,rfl,_,(dO h.fi 0 1).trans rfl,_,true,.inl ⟨rfl,rfl⟩,?_⟩
 refine fg (fg (dH rfl (dH rfl ?_)))
 refine BU h.low k (λj hj he=>?_) (λhh=>by rw[va,List.length_map] at hh;omega)
 have:j=k:=by omega
 subst this
 have c3:dL H ((⟨g,0,none⟩:dA).add 3)=some (.int .i64 (pT l:Int)):=(dO h.fi 0 3).trans rfl
 refine⟨_,rfl,_,c3,?_⟩
 have N:=ED h.IA
 obtain⟨I,u2⟩:=Ab h.IA N l.length (Nat.le_refl _) j u
 have en:l.getD j 0=l[j]:=by rw[List.getD_eq_getElem?_getD,List.getElem?_eq_getElem u];rfl
 rw[en] at I u2
 have w:l[j]>>>pT l+j<(O7 l).length:=by rw[O6];exact N j u
 have O:(O7 l)[l[j]>>>pT l+j]=true:=by
  rw[List.getD_eq_getElem?_getD] at I
  have:(O7 l)[l[j]>>>pT l+j]?=some ((O7 l)[l[j]>>>pT l+j]):=List.getElem?_eq_getElem w
  have e2:(Bz l (pT l) (l.length+kF l+1) l.length)[l[j]>>>pT l+j]?=some ((O7 l)[l[j]>>>pT l+j]):=this
  rw[e2] at I
  exact I
 have az:rk (O7 l) (l[j]>>>pT l+j) true=j:=u2
 refine sj h.up hd _ true (λq hq Z hb hr f7=>?_) (λZ hh f7=>?_)
 .have ai:q=l[j]>>>pT l+j:=B9 hq w hb O (by omega)
  subst ai
  have aj:dL Z ((⟨g,0,none⟩:dA).add 3)=some (.int .i64 (pT l:Int)):=f7.cell c3 λh=>h
  refine⟨⟨_,aj,rfl⟩,?_⟩
  rw[fL (by omega)]
  refine⟨by omega,dN λx hx=>?_⟩
  have am:=Nat.le_trans (le_last h.IA u) h.last
  have aA:l[j]>>>pT l*2^pT l<=l[j]:=by rw[Nat.shiftRight_eq_div_pow];exact Nat.div_mul_le_self _ _
  have aB:l[j]>>>pT l<=l[j]:=by rw[Nat.shiftRight_eq_div_pow];exact Nat.div_le_self _ _
  have ab:(va l)[j]=l[j]%2^pT l:=by simp[va]
  have aC:l[j]%2^pT l<=l[j]:=Nat.mod_le _ _
  have ak:=G9 l[j] (pT l)
  have e:x=(l[j]:Int):=by
   rw[hx,ab,show((l[j]>>>pT l+j:Nat):Int)-(j:Int)=((l[j]>>>pT l:Nat):Int) by omega,oB (by omega),Iw (by omega) (by omega),oB (by omega),SB (by omega) (by omega),ak]
  rw[e]
  exact hR Z f7
 .exfalso
  have:=yM w O
  omega
end
end Go.Proofs.fv
namespace Go.Ex
def mh:Int->List Int->Option Int
 |a,[]=>some a
 |a,x::r=>if x<a then none else mh x r
def Up:List Nat->Prop
 |[]=>True
 |x::r=>(∀y∈r,x<=y)/\Up r
theorem EC:∀{l:List Nat},Up l->ur l
 |[],_=>λi j hi _ _=>absurd hi (by simp)
 |x::r,h=>λi j hi u w=>by
  match i,j with
  |0,0=>exact Nat.le_refl _
  |0,j+1=>exact h.1 _ (List.getElem_mem (by simpa using u))
  |i+1,0=>omega
  |i+1,j+1=>exact EC h.2 i j (by simpa using hi) (by simpa using u) (by omega)
end Go.Ex
namespace Go.Proofs.fv
open Go.Ex
theorem sG(a x:Nat)(r:List Nat):lz (a::x::r)=lz (x::r):=by simp[lz]
theorem EP:∀(zs:List Int)(a:Nat)(b:Int),mh (a:Int) zs=some b->∃l:List Nat,zs=l.map Int.ofNat/\(∀y∈l,a<=y)/\Up l/\b=(lz (a::l):Int)
 |[],a,b,h=>by
  cases h
  exact⟨[],rfl,by simp,trivial,rfl⟩
 |x::r,a,b,h=>by
  unfold mh at h
  split at h
  .cases h
  .rename_i O
   obtain⟨x,rfl⟩:∃n:Nat,x=(n:Int):=⟨x.toNat,by omega⟩
   obtain⟨l,rfl,w,I,N⟩:=EP r x b h
   refine⟨x::l,rfl,?_,⟨w,I⟩,by rw[sG];exact N⟩
   intro y u
   rcases List.mem_cons.1 u with rfl|u
   .omega
   .have:=w y u;omega
theorem Mu{zs:List Int}{b:Int}(h:mh 0 zs=some b):∃l:List Nat,zs=l.map Int.ofNat/\ur l/\b=(lz l:Int):=by
 obtain⟨l,u,_,w,I⟩:=EP zs 0 b h
 refine⟨l,u,EC w,?_⟩
 rw[I]
 cases l with
 |nil=>rfl
 |cons x r=>rw[sG]
theorem BA{zs:List Int}{i:Nat}(hi:i<zs.length)(a:Int):mh a (zs.drop i)=if zs[i]<a then none else mh zs[i] (zs.drop (i+1)):=by
 rw[List.drop_eq_getElem_cons hi]
 rfl
def may(zs:List Int):Bool:=match mh 0 zs with
 |none=>false
 |some b=>decide (b<=8388608)
theorem YJ{H:dw}{zs:List Int}{p:dC}{n:Nat}(h:Rd H (zs.map (Value.int .i64)) p n){i:Nat}(hi:i<n):∃(u:i<zs.length)(a:dA),p=some a/\dL H (a.add i)=some (.int .i64 zs[i]):=by
 have N:zs.length=n:=by have:=h.1;simpa using this
 have u:i<zs.length:=by omega
 obtain⟨a,w,I⟩:=h.get (i:=i) (v:=.int .i64 zs[i]) (by rw[List.getElem?_map,List.getElem?_eq_getElem u];rfl)
 exact⟨u,a,w,I⟩
theorem Ka(h:List Bool)(i:Nat)(v:Bool):(h.map Value.bool).set i (Value.bool v)=(h.set i v).map Value.bool:=by rw[List.map_set]
theorem BN{H:dw}{zs:List Int}{p:dC}{n c:Nat}(aa:Rd H (zs.map (Value.int .i64)) p n)(hn:n<=1048576){R:dC->Int->dw->Prop}
 (aq:∀(l:List Nat),may zs=true->zs=l.map Int.ofNat->ur l->lz l<=8388608->∀g H',Bo H' g l (λk=>Array.size H<=k/\k<Array.size H')->Fr fa H H'->R (some ⟨g,0,none⟩) 0 H')(ar:may zs=false->R none 1 H):pg.C p n c H R:=by
 apply pg.calls
 unfold pg.W
 have hl:zs.length=n:=by have:=aa.1;simpa using this
 refine dD (λq H'=>H'=H/\mh 0 zs=some q.1) ?_ ?_
 .refine eW (λs q H'=>H'=H/\∃i:Nat,i<=n/\s=n-i/\q.2.1=(i:Int)/\mh q.1 (zs.drop i)=mh 0 zs) n ⟨rfl,0,by omega,rfl,rfl,rfl⟩ ?_
  rintro s ⟨a,x,_⟩ H2 ⟨rfl,i,hi,rfl,hx,hr⟩
  simp only at hx hr
  subst hx
  dsimp only
  refine eE (λI=>?_) (λau=>?_)
  .obtain⟨h2,ad,rfl,hc⟩:=YJ aa (i:=i) (by omega)
   rw[BA h2] at hr
   refine⟨ad,rfl,by omega,by omega,_,by rw[Int.toNat_natCast];exact hc,?_⟩
   refine eE (λI=>ar ?_) (λau=>⟨n-(i+1),by omega,rfl,i+1,by omega,rfl,?_,?_⟩)
   .rw[if_pos I] at hr
    unfold may
    rw[<-hr]
   .show IntKind.i64.wrap ((i:Int)+1)=_
    rw[wrap_i64 (by omega) (by omega)];rfl
   .rw[if_neg au] at hr
    exact hr
  .have:i=n:=by omega
   subst this
   rw[List.drop_of_length_le (by omega)] at hr
   exact⟨rfl,hr.symm⟩
 rintro⟨bF,_⟩ w ⟨rfl,ae⟩
 simp only at ae
 dsimp only
 refine eE (λbG=>ar ?_) (λbe=>?_)
 .unfold may
  rw[ae]
  exact decide_eq_false (by omega)
 obtain⟨l,rfl,O,rfl⟩:=Mu ae
 have N:lz l<=8388608:=by omega
 have av:((lz l:Nat):Int)<=8388608:=by omega
 have aw:may (l.map Int.ofNat)=true:=by
  unfold may
  rw[ae]
  exact decide_eq_true av
 have hR:=aq l aw rfl O N
 clear aq ar ae be av aw
 have hl:l.length=n:=by simpa using hl
 subst hl
 have aa:Rd w (l.map DG) p l.length:=by
  have e:(l.map Int.ofNat).map (Value.int .i64)=l.map DG:=by rw[List.map_map];rfl
  rw[e] at aa
  exact aa
 have u:=Nb N
 have hh:=Qb l
 have bf:=ED O
 refine dN λH3 h3=>?_
 have f3:Fr fa w H3:=by rw[h3];exact Fr.new _ _ _
 have s3:Array.size H3=Array.size w+1:=by rw[h3];exact gi
 have g3:=n0 h3
 clear h3
 have aR:∀{k:Nat},k=Array.size w->fa k\/Array.size w<=k:=λh=>.inr (by omega)
 refine dD (λ_ H'=>H'[Array.size w]?=some (.cells #[.nilIface,.nilIface,.int .i64 (l.length:Int),.int .i64 (pT l:Int),.int .i64 0] mO (0,0))/\Fr fa w H') ?_ ?_
 .refine⟨_,rfl,_,(dO g3 0 2).trans rfl,?_⟩
  refine eE (λh0=>?_) (λh0=>?_)
  .refine⟨_,rfl,_,(dO g3 0 2).trans rfl,by omega,?_⟩
   have hq:lz l/l.length<=8388608:=Nat.le_trans (Nat.div_le_self _ _) N
   rw[show Int.tdiv ((lz l:Nat):Int) (l.length:Int)=((lz l/l.length:Nat):Int) from rfl,oB (by omega),fL (by omega)]
   refine wa (by omega) ⟨_,rfl,⟨_,(dO g3 0 3).trans rfl⟩,fK g3 0 3,dN λH6 h6=>?_⟩
   have bJ:ma (lz l/l.length)<=64:=Jq (by omega)
   have hv:max (IntKind.i64.wrap ((ma (lz l/l.length):Int)-1)) 0=(pT l:Int):=by
    have:pT l=ma (lz l/l.length)-1:=by unfold pT E8;rw[if_neg (by omega)]
    rw[wrap_i64 (by omega) (by omega),this]
    omega
   rw[hv] at h6
   exact⟨kI h6 g3,f3.trans (mw h6) λk u=>aR u⟩
  .have:pT l=0:=by unfold pT;rw[if_pos (by omega)]
   rw[this]
   exact⟨g3,f3⟩
 rintro _ H4 ⟨g4,f4⟩
 clear g3 f3
 refine⟨_,rfl,_,(dO g4 0 3).trans rfl,?_⟩
 rw[fL (by omega)]
 refine⟨by omega,_,rfl,⟨_,(dO g4 0 4).trans rfl⟩,fK g4 0 4,dN λZ h7=>?_⟩
 have bi:mu .i64 ((lz l:Nat):Int) (pT l:Int)=(kF l:Int):=Dc (by omega) _
 rw[bi] at h7
 have g7:=kI h7 g4
 have f7:Fr fa w Z:=f4.trans (mw h7) λk u=>aR u
 clear h7 g4 f4
 have g7:Z[Array.size w]?=some (.cells #[.nilIface,.nilIface,.int .i64 (l.length:Int),.int .i64 (pT l:Int),.int .i64 (kF l:Int)] mO (0,0)):=g7
 refine⟨_,rfl,_,(dO g7 0 2).trans rfl,_,rfl,_,(dO g7 0 4).trans rfl,?_⟩
 have hm:IntKind.i64.wrap ((IntKind.i64.wrap ((l.length:Int)+(kF l:Int)))+1)=((l.length+kF l+1:Nat):Int):=by
  rw[wrap_i64 (n:=(l.length:Int)+(kF l:Int)) (by omega) (by omega),wrap_i64 (by omega) (by omega)];omega
 rw[hm]
 refine⟨by omega,by omega,by omega,dN λH8 h8=>?_⟩
 rw[Int.toNat_natCast] at h8⊢
 have f8:Fr fa Z H8:=by rw[h8];exact Fr.new _ _ _
 have s8:Array.size H8=Array.size Z+1:=by rw[h8];exact gi
 have bm:Sl H8 iz ((Bz l (pT l) (l.length+kF l+1) 0).map Value.bool) (some ⟨Array.size Z,0,none⟩) (l.length+kF l+1) (l.length+kF l+1):=by
  rw[h8]
  unfold Bz
  rw[List.map_replicate]
  exact Sl.made Z iz (z:=.bool false) rfl _
 have g8:=f8.fi g7 λh=>h
 clear h8
 have bY:=f7.size
 have bZ:=eR g7
 have p2:2^pT l<2^24:=Nat.pow_lt_pow_right (by decide) (by omega)
 have p0:0<2^pT l:=Nat.pow_pos (by decide)
 refine dD (λq H'=>H'[Array.size w]?=some (.cells #[.nilIface,.nilIface,.int .i64 (l.length:Int),.int .i64 (pT l:Int),.int .i64 (kF l:Int)] mO (0,0))/\
  Sl H' iz ((O7 l).map Value.bool) (some ⟨Array.size Z,0,none⟩) (l.length+kF l+1) (l.length+kF l+1)/\Sl H' kB ((va l).map sw) q.1.1 q.1.2.1 q.1.2.2/\Fr fa w H') ?_ ?_
 .refine eW (λs q H'=>∃i:Nat,i<=l.length/\s=l.length-i/\q.2.1=(i:Int)/\H'[Array.size w]?=some (.cells #[.nilIface,.nilIface,.int .i64 (l.length:Int),.int .i64 (pT l:Int),.int .i64 (kF l:Int)] mO (0,0))/\
   Sl H' iz ((Bz l (pT l) (l.length+kF l+1) i).map Value.bool) (some ⟨Array.size Z,0,none⟩) (l.length+kF l+1) (l.length+kF l+1)/\Sl H' kB (((va l).take i).map sw) q.1.1 q.1.2.1 q.1.2.2/\(∀k,eB q.1.1 k->Array.size w<=k)/\Fr fa w H') l.length
   ⟨0,by omega,rfl,rfl,g8,bm,Sl.nil _ _,(by rintro k ⟨a,ha,_⟩;cases ha),f7.dF f8⟩ ?_
  rintro s ⟨⟨lp,ll,lc⟩,x,_⟩ b0 ⟨i,hi,rfl,hx,aA,aB,Y,ag,aC⟩
  simp only at hx Y ag
  subst hx
  dsimp only
  refine eE (λI=>?_) (λau=>?_)
  .have I:i<l.length:=by omega
   obtain⟨_,ad,rfl,hc⟩:=Mz (aa.fC aC) I
   have hx:=Nat.le_trans (le_last O I) N
   have aD:=bf i I
   refine⟨ad,rfl,by omega,by omega,_,by rw[Int.toNat_natCast];exact hc,_,rfl,_,(dO aA 0 3).trans rfl,?_⟩
   rw[fL (by omega),Dc (by omega)]
   generalize bn:l[i]>>>pT l=sh at aD⊢
   rw[wrap_i64 (n:=(sh:Int)+(i:Int)) (by omega) (by omega),show(sh:Int)+(i:Int)=((sh+i:Nat):Int) by omega,Int.toNat_natCast]
   obtain⟨a2,e2,bo,bp,ah,fu⟩:=aB.store (i:=sh+i) aD (.bool true)
   cases e2
   rw[Ka] at ah
   refine⟨by omega,_,rfl,by omega,by omega,bo,bp,dN λbq aS=>?_⟩
   rw[<-aS] at ah fu
   have br:¬eB (some ⟨Array.size Z,0,none⟩) (Array.size w):=by
    rintro⟨a,ha,hb⟩
    cases ha
    simp only at hb
    omega
   have a3:∀k,eB (some ⟨Array.size Z,0,none⟩) k->Array.size w<=k:=by
    rintro k ⟨a,ha,rfl⟩
    cases ha
    simp only;omega
   have aE:=fu.fi aA br
   have ab:=Y.eO fu λk u hq=>Y.ne' aB (by decide) k u hq
   have aT:Fr fa w bq:=aC.trans fu λk u=>.inr (a3 k u)
   clear aS
   refine⟨_,rfl,_,(dO aE 0 3).trans rfl,?_⟩
   rw[fL (by omega)]
   refine⟨by omega,?_⟩
   have a4:IntKind.u64.wrap (lx .i64 (l[i]:Int) (IntKind.i64.wrap ((mU .i64 1 (pT l:Int))-1)))=((l[i]%2^pT l:Nat):Int):=by
    have b1:l[i]%2^pT l<=l[i]:=Nat.mod_le _ _
    rw[show(1:Int)=((1:Nat):Int) from rfl,Iw (by omega) (by omega),Nat.one_mul,show((2^pT l:Nat):Int)-((1:Nat):Int)=((2^pT l-1:Nat):Int) by omega,oB (by omega),Jv (by omega) (by omega),Nat.and_two_pow_sub_one_eq_mod,fL (by omega)]
   rw[a4]
   have bu:ll=i:=by
    have:=ab.1
    simp[va] at this
    omega
   refine Bk (t1:=kB) ab rfl ⟨by simp,by simp⟩ (by omega) (by decide) λp' c' bv a5 aF a6=>?_
   have a7:i<(va l).length:=by simp[va];exact I
   refine⟨l.length-(i+1),by omega,i+1,by omega,rfl,?_,aF.fi aE (ab.ne aE (by decide)),?_,?_,?_,aT.trans aF λk u=>.inr (ag k u)⟩
   .show IntKind.i64.wrap ((i:Int)+1)=_
    rw[wrap_i64 (by omega) (by omega)];rfl
   .have bw:=ah.eO aF λk u hq=>ab.ne' ah (by decide) k hq u
    unfold Bz
    have e:l.getD i 0=l[i]:=by rw[List.getD_eq_getElem?_getD,List.getElem?_eq_getElem I];rfl
    rw[e,bn]
    exact bw
   .show Sl bv kB (((va l).take (i+1)).map sw) p' (ll+1) c'
    rw[List.take_succ_eq_append_getElem a7,List.map_append]
    have:(va l)[i]=l[i]%2^pT l:=by simp[va]
    rw[List.map_cons,this]
    exact a5
   .intro k u
    rcases a6 k u with h|h
    .exact ag k h
    .exact Nat.le_trans aT.size h
  .have:i=l.length:=by omega
   subst this
   rw[List.take_of_length_le (by simp[va])] at Y
   exact⟨aA,aB,Y,aC⟩
 rintro⟨⟨lp,ll,lc⟩,_⟩ H9 ⟨g9,u9,aU,f9⟩
 simp only at aU
 dsimp only
 refine rF u9.rd (by omega) λgu b2 tu ai=>?_
 have aj:=ai.fi g9 λh=>h
 have aG:=aU.eO ai λ_ _ h=>h
 refine⟨_,rfl,⟨_,(dO aj 0 0).trans rfl⟩,fK aj 0 0,dN λb3 aH=>?_⟩
 have bA:=kI aH aj
 have ak:=mw aH
 have b4:=f9.size
 have b5:=eR g9
 have a8:=tu.eO ak λk u e=>by have:=u.1;omega
 have aI:=aG.eO ak λk u e=>aG.ne aj (by decide) (e▸u)
 have bu:ll=l.length:=by
  have:=aI.1
  simp[va] at this
  omega
 have a9:ou (va l):=by
  intro y hy
  unfold va at hy
  rw[List.mem_map] at hy
  obtain⟨x,_,rfl⟩:=hy
  have:=Nat.mod_lt x p0
  omega
 clear aH
 refine BR aI.rd a9 (by omega) λgl b6 tl am=>?_
 have aJ:=am.fi bA λh=>h
 have bb:=a8.fC am
 refine⟨_,rfl,⟨_,(dO aJ 0 1).trans rfl⟩,fK aJ 0 1,dN λbB aV=>?_⟩
 have bC:=kI aV aJ
 have an:=mw aV
 have b7:=ai.size
 have b8:=ak.size
 have b9:=am.size
 have ca:=an.size
 have bc:=bb.eO an λk u e=>by have:=u.1;omega
 have bd:=tl.eO an λk u e=>by have:=u.1;omega
 refine hR _ bB ⟨gu,gl,_,_,⟨bC,bc,bd,O,N,hn⟩,⟨by omega,by omega⟩,λk u=>⟨by have:=u.1;omega,by have:=u.2;omega⟩,λk u=>⟨by have:=u.1;omega,by have:=u.2;omega⟩,λk u=>u.2⟩ ?_
 exact(((f9.dF ai).trans ak λk u=>.inr (by omega)).dF am).trans an λk u=>.inr (by omega)
end Go.Proofs.fv
namespace Go.Ex
theorem EO:∀{l:List Nat},ur l->Up l
 |[],_=>trivial
 |x::r,h=>by
  refine⟨λy u=>?_,EO λi j hi w I=>?_⟩
  .obtain⟨i,hi,rfl⟩:=List.getElem_of_mem u
   exact h 0 (i+1) (by simp) (by simp;exact hi) (by omega)
  .exact h (i+1) (j+1) (by simp;exact hi) (by simp;exact w) (by omega)
end Go.Ex
namespace Go.Proofs.fv
open Go.Ex
theorem IB:∀(l:List Nat)(a:Nat),(∀y∈l,a<=y)->Up l->mh (a:Int) (l.map Int.ofNat)=some (lz (a::l):Int)
 |[],a,_,_=>rfl
 |x::r,a,h1,h2=>by
  have:=h1 x (by simp)
  rw[List.map_cons]
  unfold mh
  rw[if_neg (by show¬((x:Int)<(a:Int));omega),sG]
  exact IB r x h2.1 h2.2
theorem PW{l:List Nat}(u:ur l)(h:lz l<=8388608):may (l.map Int.ofNat)=true:=by
 have:=IB l 0 (λ_ _=>Nat.zero_le _) (EO u)
 have e:lz (0::l)=lz l:=by
  cases l with
  |nil=>rfl
  |cons x r=>exact sG 0 x r
 unfold may
 rw[show(0:Int)=((0:Nat):Int) from rfl,this,e]
 exact decide_eq_true (by omega)
end Go.Proofs.fv
namespace Go.Ex
structure Gr(F F':Nat->Prop)(H H':dw):Prop where
 fr:Fr F H H'
 up:∀k,F' k->F k\/Array.size H<=k
theorem Gr.refl(F:Nat->Prop)(H:dw):Gr F F H H:=⟨Fr.refl _ _,λ_ h=>.inl h⟩
theorem Gr.trans{F I u:Nat->Prop}{H H' w:dw}(h:Gr F I H H')(k:Gr I u H' w):Gr F u H w:=
 ⟨h.fr.trans k.fr h.up,λi hi=>(k.up i hi).elim (h.up i) λN=>.inr (Nat.le_trans h.fr.size N)⟩
theorem Gr.of{F:Nat->Prop}{H H':dw}(h:Fr fa H H'):Gr F F H H':=⟨h.mono λ_ h=>h.elim,λ_ h=>.inl h⟩
theorem Da{v:dB}{b o:Nat}{H:dw}{cs:Array dB}{t:eK}{K:dw->Prop}(w:H[b]?=some (.cells cs t (0,0)))(I:o<cs.size)
 (h:∀H',H'[b]?=some (.cells (cs.setIfInBounds o v) t (0,0))->Fr (λk=>k=b) H H'->K H'):
 (∃u,dL H ((⟨b,0,none⟩:dA).add o)=some u)/\fH H ((⟨b,0,none⟩:dA).add o)=false/\K (gO H ((⟨b,0,none⟩:dA).add o) v):=by
 refine⟨⟨cs[o],?_⟩,fK w 0 o,h _ ?_ ?_⟩
 .rw[dO w,Nat.zero_add];exact Array.getElem?_eq_getElem I
 .have:=lu w 0 o v;rwa[Nat.zero_add] at this
 .have:=Fr.set H ((⟨b,0,none⟩:dA).add o) v;rwa[kO] at this
theorem mR{n:Int}(h:-9223372036854775808<=n)(u:n<=9223372036854775807):IntKind.i64.wrap n=n:=wrap_i64 h u
theorem Qp(c:Nat)(p:dC):(if c=0 then p else Option.map (λq:dA=>q.add 0) p)=p:=by
 split
 .rfl
 .cases p with
  |none=>rfl
  |some a=>simp[Go.Ex.add_zero]
end Go.Ex
namespace Go.Proofs.fv
open Go.Ex
theorem Mg{b:Nat}{t:eK}:∀{vs:List dB}{cs:Array dB}{i:Nat}{H:dw}{K:dw->Prop},H[b]?=some (.cells cs t (0,0))->i+vs.length<=cs.size->
 (∀H' u,H'[b]?=some (.cells u t (0,0))->u.size=cs.size->(∀j,j<i->u[j]?=cs[j]?)->(∀j,j<vs.length->u[i+j]?=vs[j]?)->(∀j,i+vs.length<=j->u[j]?=cs[j]?)->Fr (λk=>k=b) H H'->K H')->
 lj vs ⟨b,0,none⟩ i H K
 |[],cs,i,H,K,hb,_,h=>h H cs hb rfl (λ_ _=>rfl) (λj w=>absurd w (Nat.not_lt_zero j)) (λ_ _=>rfl) (Fr.refl _ _)
 |v::r,cs,i,H,K,hb,hl,h=>by
  simp only[List.length_cons] at hl
  refine Da hb (by omega) λH1 Y f1=>Mg Y (by rw[Array.size_setIfInBounds];omega) λH' u Z O I N W f2=>?_
  rw[Array.size_setIfInBounds] at O
  refine h H' u Z O (λj w=>?_) (λj w=>?_) (λj w=>?_) (f1.trans f2 λk hk=>.inl hk)
  .rw[I j (by omega),Array.getElem?_setIfInBounds_ne (by omega)]
  .cases j with
   |zero=>rw[I _ (by omega),Nat.add_zero,Array.getElem?_setIfInBounds_self_of_lt (by omega)];rfl
   |succ j=>
    have:=N j (by simpa using w)
    rw[show i+(j+1)=i+1+j by omega,this];rfl
  .simp only[List.length_cons] at w
   rw[W j (by omega),Array.getElem?_setIfInBounds_ne (by omega)]
theorem tR{b:Nat}{t:eK}{vs:List dB}{cs:Array dB}{H:dw}{K:dw->Prop}(I:H[b]?=some (.cells cs t (0,0)))(Y:vs.length=cs.size)
 (h:∀H',H'[b]?=some (.cells vs.toArray t (0,0))->Fr (λk=>k=b) H H'->K H'):lj vs ⟨b,0,none⟩ 0 H K:=by
 refine Mg I (by omega) λH' w N Z _ O _ f=>h H' ?_ f
 have e:w=vs.toArray:=by
  apply Array.ext_getElem?
  intro j
  have W:vs.toArray[j]?=vs[j]?:=by simp
  rw[W]
  rcases Nat.lt_or_ge j vs.length with u|u
  .have:=O j u;rwa[Nat.zero_add] at this
  .rw[Array.getElem?_eq_none (by omega),List.getElem?_eq_none u]
 rw[N,e]
end Go.Proofs.fv
namespace Go.Ex
abbrev eS:dE:=⟨#[]⟩
theorem Fr.push(H:dw)(x:Obj):Fr fa H (H.push x):=⟨by simp,λk h _=>by rw[Array.getElem?_push,if_neg (by omega)]⟩
theorem XB:¬(0:Int)<((0:Nat):Int):=by decide
theorem qu{H:dw}{b:Nat}(h:b<Array.size H)(x:Obj):(Array.setIfInBounds H b x)[b]?=some x:=Array.getElem?_setIfInBounds_self_of_lt h
theorem Fr.Ap(H:dw)(b:Nat)(x:Obj):Fr (λk=>k=b) H (Array.setIfInBounds H b x):=⟨by simp,λk _ u=>Array.getElem?_setIfInBounds_ne (λh=>u h.symm)⟩
theorem oH(H:dw)(x:Obj):(H.push x)[Array.size H]?=some x:=by simp
theorem Fr.fresh{F:Nat->Prop}{H H' u:dw}(h:Fr fa H H')(k:Fr F H' u)(w:∀i,F i->Array.size H<=i):Fr fa H u:=h.trans k λi hi=>.inr (w i hi)
theorem eD{H:dw}{b:Nat}{vs:List dB}{t:eK}{u:Nat×Nat}(h:H[b]?=some (.cells vs.toArray t u))(j:Nat):dL H ((⟨b,0,none⟩:dA).add j)=vs[j]?:=by
 rw[dO h,Nat.zero_add];simp
def eJ(l:List UInt8):dE:=⟨l.toArray⟩
theorem fj(a b:List UInt8):eJ a++eJ b=eJ (a++b):=by
 apply ByteArray.ext
 rw[ByteArray.data_append]
 unfold eJ
 simp
theorem fc(a:List UInt8):(eJ a).size=a.length:=by unfold eJ ByteArray.size;simp
theorem iM(a:List UInt8):(eJ a).data.toList=a:=by unfold eJ;simp
theorem gm{a b:List UInt8}(h:eJ a=eJ b):a=b:=by
 have:=congrArg (λs:dE=>s.data.toList) h
 simpa[eJ] using this
theorem zx(l:List UInt8)(a b:Nat):(eJ l).extract a b=eJ ((l.drop a).take (b-a)):=by
 apply ByteArray.ext
 rw[ByteArray.data_extract]
 apply Array.ext'
 simp only[eJ,Array.toList_extract,List.extract_eq_take_drop]
theorem get_at(s:dE)(i:Nat)(x:UInt8)(h:s.data.toList[i]?=some x):s.get! i=x:=by
 show s.data[i]! =x
 obtain⟨hi,h⟩:=List.getElem?_eq_some_iff.1 h
 rw[getElem!_pos s.data i (by simpa using hi)]
 simpa using h
theorem Cw(s:dE)(i:Nat)(x:UInt8)(h:s.data.toList[i]?=some x)(u:x.toNat<128):Utf8.decode s i=(x.toNat,1):=by
 rw[Go.Lib.decode_at,get_at s i x h]
 simp[Go.Lib.decodeN,u]
end Go.Ex
namespace Go.Proofs.fv
open Go.Ex
def QT(H:dw):Prop:=∃t h m,H[6]?=some (.cells #[.int .i64 m] t h)
theorem QT.cell{H:dw}(h:QT H):∃m,dL H ⟨6,0,none⟩=some (.int .i64 m):=by
 obtain⟨t,u,m,h⟩:=h
 exact⟨m,by rw[xn h];rfl⟩
theorem Bu{H:dw}(s p:dE){R:Bool->dw->Prop}(h:R (Go.Lib.hasPrefix s.data.toList p.data.toList) H):strings_HasPrefix.C s p H R:=by
 intro w u
 subst u
 refine(Tryz.strings_HasPrefix s p w).mono λe w'⟨I,N⟩=>?_
 subst N
 exact⟨_,I,ik.refl _,_,rfl,h⟩
theorem F6{H:dw}(s:dE)(x:UInt8)(h:s.data.toList[0]?=some x)(u:x.toNat<128){R:Int->Int->dw->Prop}(I:R (x.toNat:Int) 1 H):nD.C s H R:=by
 intro w N
 subst N
 refine(Tryz.utf8_DecodeRuneInString_ascii s x w h u).mono λe w'⟨O,W⟩=>?_
 subst W
 exact⟨_,O,ik.refl _,_,_,rfl,I⟩
theorem rE{H:dw}(s p:dE)(h:QT H)(u:s.size<4294967281){R:Bool->dw->Prop}(I:R (Go.Lib.contains s.data.toList p.data.toList) H):strings_Contains.C s p H R:=by
 intro w N
 subst N
 obtain⟨m,h⟩:=h.cell
 refine(Tryz.strings_Contains s p m w u (by rw[mZ];exact h)).mono λe w'⟨O,W⟩=>?_
 subst W
 exact⟨_,O,ik.refl _,_,rfl,I⟩
theorem hP{v:dB}{b o:Nat}{H:dw}{cs:Array dB}{t:eK}{K:dw->Prop}(u:H[b]?=some (.cells cs t (0,0)))(w:o<cs.size)
 (h:∀H',H'[b]?=some (.cells (cs.setIfInBounds o v) t (0,0))->Fr (λk=>k=b) H H'->K H'):j0 v ((⟨b,0,none⟩:dA).add o) H K:=Da u w h
end Go.Proofs.fv
namespace Go.Ex
def sn(l:List UInt8):List dB:=l.map λb=>.int .u8 (b.toNat:Int)
theorem pX(l:List UInt8):(sn l).length=l.length:=by unfold sn;simp
theorem Qt(a b:List UInt8):sn (a++b)=sn a++sn b:=by unfold sn;simp
theorem qF(l:List UInt8):fV (eJ l)=sn l:=by unfold fV sn eJ;simp
theorem Qs(l:List UInt8):∀v∈sn l,One v:=by
 intro v h
 obtain⟨b,_,rfl⟩:=List.mem_map.1 h
 exact⟨by simp,by simp⟩
theorem yO{H:dw}{b o:Nat}{cs:Array dB}{t:eK}{u:Nat×Nat}(h:H[b]?=some (.cells cs t u)){v:dB}(w:cs[o]?=some v):dL H ⟨b,o,none⟩=some v:=by rw[xn h];exact w
theorem Xu{cs:Array dB}{o:Nat}{v:dB}(h:o<cs.size):(cs.setIfInBounds o v)[o]?=some v:=Array.getElem?_setIfInBounds_self_of_lt h
theorem Sd{cs:Array dB}{o j:Nat}{v:dB}(h:o≠j):(cs.setIfInBounds o v)[j]?=cs[j]?:=Array.getElem?_setIfInBounds_ne h
end Go.Ex
namespace Go.Proofs.fv
open Go.Ex
theorem TM:(Tryz.prog.info? ic).map (λi=>Nat.beq i.size 0)=some false:=by kernel_rfl
theorem Qu:∃i,Tryz.prog.info? ic=some i/\i.size≠0:=by
 have h:=TM
 cases hi:Tryz.prog.info? ic with
 |none=>rw[hi] at h;cases h
 |some i=>rw[hi] at h;exact⟨i,rfl,λe=>by simp[e] at h⟩
theorem Vq:zM Tryz.f210:=⟨by kernel_rfl,by kernel_rfl,by kernel_rfl⟩
def Q3(T:eK)(n o:Nat):Prop:=o+1<n/\liesAt Tryz.prog Tryz.prog.depth T (n/Tryz.prog.cellsOf T) o ic 1=true
theorem KX:Q3 iX 13 10:=⟨by decide,by kernel_rfl⟩
theorem Hu:Q3 ic 2 0:=⟨by decide,by kernel_rfl⟩
theorem Bf{H:dw}{b o:Nat}{cs:Array dB}{T:eK}(h:H[b]?=some (.cells cs T (0,0)))(I:Q3 T cs.size o){q:dC}(w:cs[o]?=some (.pointer q))(Y:q=none\/q=some ⟨b,o,none⟩)
 {R:dw->Prop}(N:∀H',H'[b]?=some (.cells (cs.setIfInBounds o (.pointer (some ⟨b,o,none⟩))) T (0,0))->Fr (λk=>k=b) H H'->R H'):gj.C (some ⟨b,o,none⟩) H R:=by
 apply gj.calls
 unfold gj.W
 obtain⟨i,hi,Z⟩:=Qu
 have O:o<cs.size:=by have:=I.1;omega
 have u:(⟨b,o,none⟩:dA).add 0=⟨b,o,none⟩:=ly b o 0
 refine⟨_,rfl,q,by rw[u];exact yO h w,?_⟩
 rcases Y with rfl|rfl
 .refine eN rfl ⟨⟨i,b,o,cs,T,(0,0),hi,Z,rfl,h,O⟩,Vq,⟨i,b,o,cs,T,(0,0),hi,rfl,h,I.2⟩,_,rfl,?_⟩
  refine⟨⟨_,by rw[u];exact yO h w⟩,by rw[u];exact sJ h o,N _ ?_ ?_⟩
  .rw[u];exact oM h o _
  .have:=Fr.set H ((⟨b,o,none⟩:dA).add 0) (.pointer (some ⟨b,o,none⟩));rwa[kO] at this
 .refine dH rfl ⟨_,rfl,_,by rw[u];exact yO h w,⟨rfl,b,o,rfl⟩,N H ?_ (Fr.refl _ _)⟩
  have:cs.setIfInBounds o (.pointer (some ⟨b,o,none⟩))=cs:=by
   apply Array.ext_getElem?
   intro j
   by_cases e:o=j
   .subst e;rw[Xu O,w]
   .rw[Sd e]
  rw[this];exact h
theorem sd{H:dw}{b o:Nat}{cs:Array dB}{T:eK}(hb:H[b]?=some (.cells cs T (0,0)))(w:Q3 T cs.size o){q:dC}(h0:cs[o]?=some (.pointer q))(hq:q=none\/q=some ⟨b,o,none⟩)
 {p:dC}{l c:Nat}(h1:cs[o+1]?=some (.slice p l c)){bs:List UInt8}(hs:Sl H lI (sn bs) p l c)(O:¬eB p b)(s:List UInt8)(Y:(bs++s).length<=140737488355328)
 {R:Int->dB->dw->Prop}(hR:∀n v u l' c' H',H'[b]?=some (.cells ((cs.setIfInBounds o (.pointer (some ⟨b,o,none⟩))).setIfInBounds (o+1) (.slice u l' c')) T (0,0))->Sl H' lI (sn (bs++s)) u l' c'->
  (∀k,eB u k->eB p k\/Array.size H<=k)->¬eB u b->Fr (λk=>k=b\/eB p k) H H'->R n v H'):ff.C (some ⟨b,o,none⟩) (eJ s) H R:=by
 apply ff.calls
 unfold ff.W
 have ho:=w.1
 refine Bf hb w h0 hq λH1 Z f1=>?_
 have I:(⟨b,o,none⟩:dA).add 1=⟨b,o+1,none⟩:=ly b o 1
 have af:=hs.eO f1 λk w e=>O (e▸w)
 refine⟨_,rfl,p,l,c,by rw[I];exact yO Z (by rw[Sd (by omega)];exact h1),?_⟩
 have ag:(sn bs).length=l:=hs.1
 rw[pX] at ag
 refine xK (n:=s.length) (new:=sn s) af rfl ⟨by rw[fc],rfl,(qF s).symm⟩ (pX s) (Qs s) (by simp at Y;omega) (by decide) λu c' H2 s2 f2 hp=>?_
 have b2:=f2.fi Z λh=>O h
 have N:¬eB u b:=λh=>(hp b h).elim O λh=>by have:=eR Z;omega
 refine⟨_,rfl,⟨⟨_,by rw[I];exact yO b2 (by rw[Sd (by omega)];exact h1)⟩,by rw[I];exact sJ b2 _,?_⟩⟩
 refine dN λy hy=>?_
 have f3:Fr (λk=>k=b) H2 (gO H2 ((⟨b,o,none⟩:dA).add 1) (.slice u (l+s.length) c')):=by
  have:=Fr.set H2 ((⟨b,o,none⟩:dA).add 1) (.slice u (l+s.length) c');rwa[kO] at this
 refine hR _ _ u (l+s.length) c' _ ?_ ?_ (λk w=>(hp k w).imp id λh=>Nat.le_trans f1.size h) N ?_
 .rw[I];exact oM b2 _ _
 .have:=s2.eO f3 λk w e=>N (e▸w)
  rwa[<-Qt] at this
 .refine((f1.mono λk h=>.inl h).trans (f2.mono λk h=>?_) λk h=>.inl h).trans f3 λk h=>.inl (.inl h)
  exact .inr h
theorem Oq{H:dw}{b o:Nat}{cs:Array dB}{T:eK}{h:Nat×Nat}(u:H[b]?=some (.cells cs T h)){p:dC}{l c:Nat}(w:cs[o+1]?=some (.slice p l c)){R:Int->dw->Prop}(I:R (l:Int) H):
 iw.C (some ⟨b,o,none⟩) H R:=by
 apply iw.calls
 unfold iw.W
 have N:(⟨b,o,none⟩:dA).add 1=⟨b,o+1,none⟩:=ly b o 1
 exact⟨_,rfl,p,l,c,by rw[N];exact yO u w,dN λy O=>by subst O;exact I⟩
end Go.Proofs.fv
namespace Go.Ex
theorem Fr.YV(H:dw)(g h n:Nat):Fr (λk=>k=g) H (KA H g h n):=by
 refine⟨by unfold KA;simp,λk _ u=>?_⟩
 unfold KA
 rw[Array.getElem?_modify,if_neg (λe=>u e.symm)]
end Go.Ex
namespace Go.Proofs.fv
open Go.Ex
theorem R4:Tryz.prog.underlying Ad=some (.pointer lI):=by kernel_rfl
theorem R5:Tryz.prog.cellsOf lI=1:=by kernel_rfl
theorem yT{H:dw}{b o:Nat}{cs:Array dB}{T:eK}{fr:Nat×Nat}(hb:H[b]?=some (.cells cs T fr)){p:dC}{l c:Nat}(h1:cs[o+1]?=some (.slice p l c)){bs:List UInt8}(u:Sl H lI (sn bs) p l c)
 (hc:p.isSome=true->c≠0)(w:bs.length<=9223372036854775807){R:dE->dw->Prop}(I:∀H',Fr (eB p) H H'->R (eJ bs) H'):gz.C (some ⟨b,o,none⟩) H R:=by
 apply gz.calls
 unfold gz.W
 have e1:(⟨b,o,none⟩:dA).add 1=⟨b,o+1,none⟩:=ly b o 1
 have dL:dL H ((⟨b,o,none⟩:dA).add 1)=some (.slice p l c):=by rw[e1];exact yO hb h1
 have hl:bs.length=l:=by have:=u.1;rwa[pX] at this
 refine⟨_,rfl,p,l,c,dL,hc,_,rfl,p,l,c,dL,?_⟩
 by_cases h:bs=[]
 .subst h
  exact .inl ⟨by simp at hl;omega,I H (Fr.refl _ _)⟩
 .have ag:0<bs.length:=List.length_pos_iff.2 h
  rcases u.2 with⟨_,ai,_⟩|⟨g,N,rfl,O,aj,ak,Y⟩
  .omega
  .refine .inr ⟨lI,g,0,N,(0,0),bs,R4,R5,rfl,O,h,by omega,w,by omega,λj x Z=>?_,I _ ?_⟩
   .have am:=(List.getElem?_eq_some_iff.1 Z).1
    rw[dO O,Nat.zero_add,Y j (by omega)]
    unfold sn
    rw[List.getElem?_map,Z]
    rfl
   .exact(Fr.YV H g 0 bs.length).mono λk hk=>⟨_,rfl,hk.symm⟩
theorem HH{H:dw}{b o:Nat}{cs:Array dB}{T:eK}(w:H[b]?=some (.cells cs T (0,0)))(I:o+1<cs.size)
 {R:dw->Prop}(O:∀H',H'[b]?=some (.cells ((cs.setIfInBounds o (.pointer none)).setIfInBounds (o+1) (.slice none 0 0)) T (0,0))->Fr (λk=>k=b) H H'->R H'):gS.C (some ⟨b,o,none⟩) H R:=by
 apply gS.calls
 unfold gS.W
 have Y:(⟨b,o,none⟩:dA).add 0=⟨b,o,none⟩:=ly b o 0
 have Z:(⟨b,o,none⟩:dA).add 1=⟨b,o+1,none⟩:=ly b o 1
 have N:∀{H:dw}{cs:Array dB}(o:Nat)(v:dB),H[b]?=some (.cells cs T (0,0))->o<cs.size->(∃u,dL H ⟨b,o,none⟩=some u)/\fH H ⟨b,o,none⟩=false/\(gO H ⟨b,o,none⟩ v)[b]?=some (.cells (cs.setIfInBounds o v) T (0,0))/\Fr (λk=>k=b) H (gO H ⟨b,o,none⟩ v):=
  λo v w I=>⟨⟨_,yO w (Array.getElem?_eq_getElem I)⟩,sJ w o,oM w o v,Fr.set _ (⟨b,o,none⟩:dA) v⟩
 obtain⟨a1,a2,a3,a4⟩:=N o (.pointer none) w (by omega)
 obtain⟨c1,c2,c3,c4⟩:=N (o+1) (.slice none 0 0) a3 (by rw[Array.size_setIfInBounds];exact I)
 refine⟨_,rfl,?_⟩
 rw[Y]
 refine⟨a1,a2,_,rfl,?_⟩
 rw[Z]
 exact⟨c1,c2,O _ c3 (a4.trans c4 λk h=>.inl h)⟩
end Go.Proofs.fv
namespace Go.Ex
theorem Np{s:Nat}:∀(L:List (List dB))(_:∀x∈L,x.length=s){i j:Nat}(hi:i<L.length),j<s->L.flatten[i*s+j]?=L[i][j]?
 |[],_,i,_,hi,_=>absurd hi (Nat.not_lt_zero i)
 |x::r,h,0,j,_,hj=>by
  have u:=h x (by simp)
  rw[List.flatten_cons,Nat.zero_mul,Nat.zero_add,List.getElem?_append_left (by omega)]
  simp
 |x::r,h,i+1,j,hi,hj=>by
  have u:=h x (by simp)
  have w:=Np r (λy I=>h y (by simp[I])) (i:=i) (j:=j) (by simpa using hi) hj
  have e:(i+1)*s+j=s+(i*s+j):=by rw[Nat.succ_mul];omega
  rw[List.flatten_cons,List.getElem?_append_right (by omega),u,e,Nat.add_sub_cancel_left,w]
  simp
theorem oN{s:Nat}:∀(L:List (List dB))(_:∀x∈L,x.length=s),L.flatten.length=L.length*s
 |[],_=>by simp
 |x::r,h=>by
  have u:=h x (by simp)
  rw[List.flatten_cons,List.length_append,u,oN r (λy w=>h y (by simp[w])),List.length_cons,Nat.succ_mul]
  omega
def jK(s:Nat)(H:dw)(t:eK)(xs:List dB)(p:dC)(l c:Nat):Prop:=
 xs.length=l*s/\((p=none/\l=0/\c=0)\/∃b cs,p=some ⟨b,0,none⟩/\H[b]?=some (.cells cs t (0,0))/\cs.size=c*s/\l<=c/\∀i,i<l*s->cs[i]?=xs[i]?)
section
variable {s:Nat} {H H':dw} {t:eK} {xs:List dB} {p:dC} {l c:Nat}
theorem jK.nil(s:Nat)(H:dw)(t:eK):jK s H t [] none 0 0:=⟨by simp,.inl ⟨rfl,rfl,rfl⟩⟩
theorem jK.eO{F:Nat->Prop}(h:jK s H t xs p l c)(w:Fr F H H')(I:∀k,eB p k->¬F k):jK s H' t xs p l c:=by
 refine⟨h.1,?_⟩
 rcases h.2 with N|⟨b,cs,u,O,W,Y,Z⟩
 .exact .inl N
 .exact .inr ⟨b,cs,u,w.fi O (I b ⟨_,u,rfl⟩),W,Y,Z⟩
theorem jK.fC(h:jK s H t xs p l c)(u:Fr fa H H'):jK s H' t xs p l c:=h.eO u λ_ _ h=>h
theorem jK.cap(h:jK s H t xs p l c):l<=c:=by
 rcases h.2 with⟨_,I,u⟩|⟨b,cs,N,O,_,w,u⟩<;>omega
theorem jK.gE(h:jK s H t xs p l c){k:Nat}(I:eB p k):k<Array.size H:=by
 obtain⟨a,u,rfl⟩:=I
 rcases h.2 with⟨w,_⟩|⟨b,cs,w,N,_⟩
 .rw[w] at u;cases u
 .rw[w] at u;cases u;exact eR N
theorem jK.cells(h:jK s H t xs p l c):eY H p xs:=by
 rcases h.2 with⟨rfl,rfl,rfl⟩|⟨b,cs,rfl,I,_,_,N⟩
 .exact List.eq_nil_of_length_eq_zero (by simpa using h.1)
 .intro j v u
  have w:=(List.getElem?_eq_some_iff.1 u).1
  rw[dO I,Nat.zero_add,N j (by rw[<-h.1];exact w)]
  exact u
theorem jK.at{L:List (List dB)}(u:∀x∈L,x.length=s)(h:jK s H t L.flatten p l c)(I:0<s):L.length=l/\∀i(hi:i<L.length),∃a,p=some a/\∀j,j<s->dL H ((a.add (i*s)).add j)=L[i][j]?:=by
 have N:L.length=l:=by
  have:=h.1
  rw[oN L u] at this
  exact Nat.eq_of_mul_eq_mul_right I this
 refine⟨N,λi hi=>?_⟩
 rcases h.2 with⟨rfl,rfl,rfl⟩|⟨b,cs,rfl,O,_,_,W⟩
 .omega
 .refine⟨_,rfl,λj Y=>?_⟩
  have w:i*s+j<l*s:=by
   have:(i+1)*s<=l*s:=Nat.mul_le_mul_right s (by omega)
   rw[Nat.succ_mul] at this
   omega
  rw[ly,ly,xn O,Nat.zero_add,W _ w,Np L u hi Y]
theorem CH{z:dB}(h:(gH z).length=s)(n:Nat):(j5 z n).size=n*s:=by
 unfold j5
 simp[h]
theorem QF{el bytes:Nat}{z y:dB}{n:Nat}{new:List dB}{K:dC->Nat->Nat->dw->Prop}(u:jK s H el xs p l c)(hz:(gH z).length=s)
 (ag:oo H s y n new)(Y:new.length=n*s)(ab:∀v∈new,One v)(hb:(l+n)*bytes<=140737488355328)(ah:bytes≠0)
 (hK:∀p' c' H',jK s H' el (xs++new) p' (l+n) c'->Fr (eB p) H H'->(∀k,eB p' k->eB p k\/Array.size H<=k)->K p' (l+n) c' H'):ji el s bytes z p l c y H K:=by
 refine⟨n,new,ag,?_⟩
 have I:(xs++new).length=(l+n)*s:=by rw[List.length_append,u.1,Y,Nat.add_mul]
 rcases Nat.lt_or_ge c (l+n) with hg|w
 .refine .inr ⟨hg,hb,ah,xs,u.1,u.cells,?_⟩
  intro cap N
  have O:(l+n)*s<=cap*s:=Nat.mul_le_mul_right s N
  refine hK _ _ _ ⟨I,.inr ⟨_,_,rfl,eU,?_,N,?_⟩⟩ ((Fr.new H _ _).mono λ_ h=>h.elim) ?_
  .rw[Array.size_append,Array.size_append,CH hz,List.size_toArray,List.size_toArray,u.1,Y,Nat.sub_mul,Nat.add_mul]
   rw[Nat.add_mul] at O
   omega
  .intro i hi
   rw[<-Array.getElem?_toList]
   simp only[Array.toList_append]
   rw[List.getElem?_append_left (by simpa using(by rw[<-I] at hi;simpa using hi))]
  .rintro k ⟨a,ha,rfl⟩
   cases ha
   exact .inr (Nat.le_refl _)
 .refine .inl ⟨w,?_⟩
  rcases u.2 with⟨rfl,rfl,rfl⟩|⟨b,cs,rfl,ai,Z,aw,hc⟩
  .have h0:n=0:=by omega
   subst h0
   refine⟨rfl,?_⟩
   have ae:new=[]:=List.eq_nil_of_length_eq_zero (by simpa using Y)
   subst ae
   have:=hK none 0 H (by simpa using u) (Fr.refl _ _) (λk W=>.inl W)
   simpa using this
  .simp only
   rw[ly,Nat.zero_add]
   have O:(l+n)*s<=c*s:=Nat.mul_le_mul_right s w
   rw[Nat.add_mul] at O
   refine C9 ai ab (by rw[Y,Z];omega) ?_
   intro H' aj ak am af eP an
   refine hK _ _ H' ⟨I,.inr ⟨b,aj,rfl,ak,by rw[am,Z],w,?_⟩⟩ (an.mono λk W=>⟨_,rfl,W.symm⟩) (λk W=>.inl W)
   intro i hi
   rw[Nat.add_mul] at hi
   rcases Nat.lt_or_ge i (l*s) with h|h
   .rw[af i (by omega),hc i h,List.getElem?_append_left (by rw[u.1];exact h)]
   .have:=eP (i-l*s) (by omega)
    rw[show l*s+0+(i-l*s)=i by omega] at this
    rw[this,List.getElem?_append_right (by rw[u.1];exact h),u.1]
theorem sb{I:dw}{N t1 bytes:Nat}{z:dB}{new:List dB}{K:dC->Nat->Nat->dw->Prop}(hs:jK s H N xs p l c)(Z:I=eP H new.toArray t1)(hz:(gH z).length=s)(hn:new.length=s)(O:∀v∈new,One v)
 (hb:(l+1)*bytes<=140737488355328)(ab:bytes≠0)
 (hK:∀w c' H',jK s H' N (xs++new) w (l+1) c'->Fr (eB p) H H'->(∀k,eB w k->eB p k\/Array.size H<=k)->K w (l+1) c' H'):
 ji N s bytes z p l c (.slice (some ⟨Array.size H,0,none⟩) 1 1) I K:=by
 have W:Fr fa H I:=by rw[Z];exact Fr.new H _ t1
 refine QF (new:=new) (n:=1) (hs.fC W) hz ⟨rfl,by rw[hn,Nat.one_mul],?_⟩ (by rw[hn,Nat.one_mul]) O hb ab λw c' H' a b d=>hK w c' H' a ((W.mono λ_ h=>h.elim).trans b λk Y=>.inl Y) λk Y=>?_
 .intro j u hj
  rw[dO (by rw[Z];exact eU),Nat.zero_add]
  simpa using hj
 .rcases d k Y with h|h
  .exact .inl h
  .have:=W.size
   exact .inr (by omega)
end
end Go.Ex
namespace Go.X
open Go.Ex Go.Proofs
inductive S where
 |I (k:IntKind) (n:Int)
 |B (b:Bool)
 |T (l:List UInt8)
 |O (x:dB)
 |Z
 |N
def S.v:S->V
 |.I k n=>.int k n
 |.B b=>.bool b
 |.T l=>.str l.length (numOf l)
 |.O _=>.any
 |.Z=>.mH
 |.N=>.sD
def S.x:S->dB
 |.I k n=>.int k n
 |.B b=>.bool b
 |.T l=>.string (eJ l)
 |.O x=>x
 |.Z=>.slice none 0 0
 |.N=>.nilIface
theorem strOf_mk(l:List UInt8):strOf l.length (numOf l)=eJ l:=by unfold strOf eJ;rw[Hw]
theorem S.dn{ρ:jF}{M:Nat}(s:S):Dn ρ M s.v s.x:=by
 cases s with
 |I k n=>exact .int k n
 |B b=>exact .bool b
 |T l=>have:=Dn.str (ρ:=ρ) (M:=M) l.length (numOf l);rwa[strOf_mk] at this
 |O x=>exact .any x
 |Z=>exact .mH
 |N=>exact .sD
def S.ok:S->Bool
 |.O _=>false
 |_=>true
theorem S.eq{ρ:jF}{M:Nat}{s:S}{x:dB}(u:s.ok=true)(h:Dn ρ M s.v x):x=s.x:=by
 cases s with
 |O x=>cases u
 |T l=>cases h;exact congrArg Value.string (strOf_mk l)
 |_=>cases h;rfl
inductive A where
 |f (s:S)
 |g (l:List S)
def A.v:A->V
 |.f s=>s.v
 |.g l=>.agg (l.map S.v)
def A.x:A->dB
 |.f s=>s.x
 |.g l=>.agg (l.map S.x).toArray
theorem S.RG{ρ:jF}{M:Nat}:∀l:List S,jZ ρ M (l.map S.v) (l.map S.x)
 |[]=>.nil
 |s::l=>.cons s.dn (S.RG l)
theorem A.RG{ρ:jF}{M:Nat}:∀l:List A,jZ ρ M (l.map A.v) (l.map A.x)
 |[]=>.nil
 |.f s::l=>.cons s.dn (A.RG l)
 |.g t::l=>.cons (.agg (S.RG (ρ:=ρ) (M:=M) t).1 (S.RG (ρ:=ρ) (M:=M) t).2) (A.RG l)
def Mv:List S->dB
 |[s]=>s.x
 |l=>.tuple (l.map S.x).toArray
theorem NW:∀n N:Nat,bl n (N%256^n)=bl n N
 |0,_=>rfl
 |n+1,N=>by
  simp only[bl]
  rw[Nat.pow_succ',Nat.mod_mul_right_mod,Nat.mod_mul_right_div_self,NW n]
def fS(v:V)(s:S):Bool:=
 match v,s with
 |.str n N,.T l=>Nat.beq n l.length&&Nat.beq (N%256^n) (numOf l)
 |v,s=>fE v s.v&&s.ok
theorem Nw{ρ:jF}{M:Nat}{v:V}{s:S}{x:dB}(h:fS v s=true)(I:Dn ρ M v x):x=s.x:=by
 unfold fS at h
 split at h
 .rename_i n N l
  obtain⟨u,w⟩:=jr h
  have u:=Nat.eq_of_beq_eq_true u
  have w:=Nat.eq_of_beq_eq_true w
  cases I
  show Value.string (strOf n N)=.string (eJ l)
  rw[<-strOf_mk]
  unfold strOf
  rw[<-NW,w,u]
 .obtain⟨O,W⟩:=jr h
  obtain⟨rfl,_⟩:=DM O
  exact S.eq W I
def WS:List V->List S->Bool
 |[],[]=>true
 |v::l,s::r=>fS v s&&WS l r
 |_,_=>false
def fR(v:V):List S->Bool
 |[s]=>fS v s
 |r=>match v with|.pZ l=>WS l r|_=>false
theorem I9{ρ:jF}{M:Nat}:∀{l:List V}{r:List S}{a:List dB},WS l r=true->jZ ρ M l a->a=r.map S.x
 |[],[],a,_,h=>h.mg
 |[],_::_,_,h,_=>by cases h
 |_::_,[],_,h,_=>by cases h
 |v::l,s::r,a,h,hd=>by
  obtain⟨x,N,rfl,u,w⟩:=hd.il
  obtain⟨q,I⟩:=jr (show(fS v s&&WS l r)=true from h)
  rw[Nw q u,I9 I w];rfl
theorem Ny{ρ:jF}{M:Nat}{v:V}{r:List S}{y:dB}(h:fR v r=true)(w:Dn ρ M v y):y=Mv r:=by
 unfold fR at h
 split at h
 .exact Nw h w
 .rename_i u
  split at h
  .cases w with
   |pZ I N=>
    have:=I9 h ⟨I,N⟩
    subst this
    match r,u with
    |[],_=>rfl
    |[s],u=>exact absurd rfl (u s)
    |_::_::_,_=>rfl
  .cases h
noncomputable def ov(u:fQ)(f:Nat)(L:List (List A×List S)):Bool:=L.all λq=>u f (q.1.map A.v) (Fp G 0 Cl) λv h=>fR v q.2&&JU (vo h.t) G
theorem gX{cf:fQ}(ab:∀M,jb Tryz.prog M cf){f:Nat}{L:List (List A×List S)}(u:ov cf f L=true)(hb:∃N,Tryz.prog.funcs[f]?=some N/\N.body.isSome=true){l:List A}{r:List S}(hm:(l,r)∈L){H:dw}(Y:gG H):
 Ex.Fn Tryz.prog f (l.map A.x).toArray H λv H'=>v=Mv r/\Fr fa H H':=by
 have u:=List.all_eq_true.1 u _ hm
 have r0:=Di Y (M:=0) (hi:=Cl) (Nat.zero_le _)
 have ac:0<H.size:=(Array.getElem?_eq_some_iff.1 Y.h0).1
 have ad:∀v H',Af Df 0 (K8 H) (λv h=>fR v r&&JU (vo h.t) G) v H'->v=Mv r/\Fr fa H H':=by
  rintro v H' ⟨ρ',v',h',ae,r',af,O⟩
  obtain⟨W,h2⟩:=jr (show(fR v' r&&JU (vo h'.t) G)=true from O)
  obtain⟨q1,q2⟩:=GV Y ae r' h2 ac
  exact⟨Ny W af,q1,λk hk _=>q2 k hk⟩
 rcases ab 0 Df (K8 H) (Fp G 0 Cl) H f _ _ _ r0 (A.RG l) u with⟨N,O,I,ag⟩|Z
 .exact ag.mono λv H' h=>ad v H' h
 .intro w hw
  obtain⟨N,O,I⟩:=hb
  obtain⟨u',w',W,_⟩:=Z w hw
  rw[p9 qS O I] at W
  cases W
noncomputable def XI:Hp:={Fp G 0 Cl with t:=ins .dead (.i .h) (Fp G 0 Cl).t,nx:=.o .h}
noncomputable def UR(u:fQ)(f:Nat)(L:List (List A×List S)):Bool:=L.all λq=>u f (.ptr (.i .h) 0::q.1.map A.v) XI λv h=>fR v q.2&&JU (vo h.t) G
theorem MB{cf:fQ}(ad:∀M,jb Tryz.prog M cf){f:Nat}{L:List (List A×List S)}(u:UR cf f L=true)(hb:∃N,Tryz.prog.funcs[f]?=some N/\N.body.isSome=true){l:List A}{r:List S}(hm:(l,r)∈L){H:dw}(Z:gG H)(b:Nat):
 Ex.Fn Tryz.prog f (.pointer (some ⟨b,0,none⟩)::l.map A.x).toArray H λv H'=>v=Mv r/\Fr fa H H':=by
 have u:=List.all_eq_true.1 u _ hm
 have rr:=Di Z (M:=0) (hi:=Cl) (Nat.zero_le _)
 have Y:look (.i .h) (Fp G 0 Cl).t=none:=kf _
 have r0:R (ext Df (.i .h) (b,0,0)) 0 (K8 H) XI H:=rr.IN Y (b,0,0) (.o .h)
 have aa:=rr.mV Y (b,0,0)
 have af:0<H.size:=(Array.getElem?_eq_some_iff.1 Z.h0).1
 have ag:∀v H',Af (ext Df (.i .h) (b,0,0)) 0 (K8 H) (λv h=>fR v r&&JU (vo h.t) G) v H'->v=Mv r/\Fr fa H H':=by
  rintro v H' ⟨ρ',v',h',ah,r',ai,O⟩
  obtain⟨W,h2⟩:=jr (show(fR v' r&&JU (vo h'.t) G)=true from O)
  obtain⟨q1,q2⟩:=GV Z (aa.trans ah) r' h2 af
  exact⟨Ny W ai,q1,λk hk _=>q2 k hk⟩
 have hd:jZ (ext Df (.i .h) (b,0,0)) 0 (.ptr (.i .h) 0::l.map A.v) (.pointer (some ⟨b,0,none⟩)::l.map A.x):=.cons (.ptr (lO _ _ _)) (A.RG l)
 rcases ad 0 _ (K8 H) XI H f _ _ _ r0 hd u with⟨N,O,I,aj⟩|ab
 .exact aj.mono λv H' h=>ag v H' h
 .intro w hw
  obtain⟨N,O,I⟩:=hb
  obtain⟨u',w',W,_⟩:=ab w hw
  rw[p9 qS O I] at W
  cases W
end Go.X
namespace Go.Ex
abbrev By:=List UInt8
def sm:By:=[120,109,108,110,115]
def JC:By:=[120,109,108]
def uX:By:=[104,116,116,112,58,47,47,119,119,119,46,119,51,46,111,114,103,47,88,77,76,47,49,57,57,56,47,110,97,109,101,115,112,97,99,101]
def uN:By:=[104,116,116,112,58,47,47,119,119,119,46,119,51,46,111,114,103,47,50,48,48,48,47,120,109,108,110,115,47]
structure At where
 p:By
 l:By
 u:By
 v:By
 deriving DecidableEq
structure Nd where
 k:Int
 d:Int
 p:By
 l:By
 u:By
 v:By
 gh:List At
def K2:List (By×By):=[(sm,[112]),([],sm),([],[120]),([112],[120]),(JC,[105,100]),(sm,[113])]
def qK:List (By×By×By):=[(sm,[112],[117]),(sm,[112],[118]),([],sm,[117]),([],sm,[]),([],sm,[119]),([],[120],[49]),([],[120],[32,10,9]),([],[120],[60,34,38,62]),([],[120],[13]),([112],[120],[50]),(JC,[105,100],[105]),(sm,[113],[117])]
def xV:List (By×By):=[([],[114]),([],[97]),([],[98]),([],[99]),([112],[97]),([112],[98]),([112],[99]),([113],[97]),([113],[98]),([113],[99])]
def OC:List By:=[[120],[32,121,10],[60,38,62,34],[13,9],[195,169,93,93,62],[116,101,120,116]]
def XV:List By:=[[],[99],[32,45,32],[60,38,62]]
def Vc:List (By×By):=[([112,105],[]),([112,105],[100]),([112,105],[97,32,63,32,62]),([113],[]),([113],[100]),([113],[97,32,63,32,62])]
def vO:List (Int×By×By):=OC.map (λv=>(3,[],v))++XV.map (λv=>(4,[],v))++Vc.map λq=>(5,q.1,q.2)
def Qg:List (By×By):=[([108,116],[60]),([103,116],[62]),([97,109,112],[38])]
def qn(p l:By):By:=match p with|[]=>l|_=>p++58::l
def XO(h:Bool)(c:UInt8):By:=
 bif c==38 then[38,97,109,112,59] else bif c==60 then[38,108,116,59] else bif c==62&&!h then[38,103,116,59] else bif c==13 then[38,35,49,51,59]
 else bif c==34&&h then[38,113,117,111,116,59] else bif c==9&&h then[38,35,57,59] else bif c==10&&h then[38,35,49,48,59] else[c]
def Lc(h:Bool)(v:By):By:=v.flatMap (XO h)
def OH:List By:=(xV++K2).map λq=>qn q.1 q.2
def lN(p l:By):Bool:=p==sm||p==[]&&l==sm
def vb(p l:By):By:=bif p==sm then l else[]
def Im(p l:By):By:=bif lN p l then uN else[]
end Go.Ex
namespace Go.X
open Go.Ex Go.Proofs
theorem UU:ov za 271 (OH.map λs=>([.f (.T s)],[.B true]))=true:=by kernel_rfl
theorem Ss:ov za 197 ((xV++K2).map λq=>([.f (.T (qn q.1 q.2))],[.T q.1,.T q.2,.B true]))=true:=by kernel_rfl
theorem YK:ov za 208 ([[108,116],[103,116],[97,109,112],[113,117,111,116]].map λs=>([.f (.T s)],[.B true]))=true:=by kernel_rfl
theorem PA:ov za 126 ([[112,105],[113]].map λs=>([.f (.T s)],[.B true]))=true:=by kernel_rfl
theorem MD:ov KQ 312 [([.f (.T [38,35,49,51,59])],[.I .i32 13,.B true])]=true:=by kernel_rfl
theorem UY:ov za 327 (Qg.map λq=>([.f (.T q.1)],[.T q.2,.B true]))=true:=by kernel_rfl
theorem MC:ov za 111 [([.f (.T [49,46,48])],[.B true])]=true:=by kernel_rfl
theorem UX:ov za 112 [([.f (.T [117,116,102,45,56]),.f (.T [117,116,102,45,56])],[.B true])]=true:=by kernel_rfl
theorem Xz:ov za 117 [([.f (.T [120])],[.B true])]=true:=by kernel_rfl
theorem Sq:UR KQ 322 (qK.map λq=>([.f (.T (Lc true q.2.2)),.f (.I .i64 1),.f (.I .i64 3000)],[.T q.2.2,.I .i64 0]))=true:=by kernel_rfl
theorem Sv:ov za 127 ((xV++K2).map λq=>([.f (.T q.1),.f (.T q.2)],[.B true]))=true:=by kernel_rfl
theorem Sx:ov za 123 (qK.map λq=>([.f (.T q.2.2)],[.B true]))=true:=by kernel_rfl
theorem Sy(d:dB):ov KQ 65 (vO.map λq=>([.g [.I .i64 q.1,.O d,.T [],.T q.2.1,.T [],.T q.2.2,.Z]],[.B true]))=true:=by kernel_rfl
theorem PE:ov KQ 65 [([.g [.I .i64 1,.I .i64 0,.T [],.T [],.T [],.T [],.Z]],[.B true])]=true:=by kernel_rfl
theorem U4:ov za 162 (qK.map λq=>([.g [.T q.1,.T q.2.1,.T (Im q.1 q.2.1),.T q.2.2]],[.T (bif lN q.1 q.2.1 then vb q.1 q.2.1 else[]),.B (lN q.1 q.2.1)]))=true:=by kernel_rfl
theorem Sp:ov za 183 ((qK.filter λq=>lN q.1 q.2.1).map λq=>([.g [.T q.1,.T q.2.1,.T uN,.T q.2.2]],[.B false]))=true:=by kernel_rfl
theorem Sw:ov za 46 (qK.map λq=>([.g [.T q.1,.T q.2.1,.T (Im q.1 q.2.1),.T q.2.2]],[.T (bif lN q.1 q.2.1 then vb q.1 q.2.1 else[]),.B (lN q.1 q.2.1)]))=true:=by kernel_rfl
theorem PD:ov za 90 ((xV++K2).map λq=>([.f (.T q.1),.f (.T q.2)],[.B true]))=true:=by kernel_rfl
theorem Pz:ov za 91 (qK.map λq=>([.f (.T q.2.2)],[.B true]))=true:=by kernel_rfl
theorem PC(d:dB):ov KQ 50 (vO.map λq=>([.g [.I .i64 q.1,.O d,.T [],.T q.2.1,.T [],.T q.2.2,.Z]],[.B true]))=true:=by kernel_rfl
theorem U1:ov za 51 (qK.map λq=>([.f (.T q.2.2),.f (.B true)],[.T (Lc true q.2.2)]))=true:=by kernel_rfl
theorem UZ:ov za 51 (OC.map λv=>([.f (.T v),.f (.B false)],[.T (Lc false v)]))=true:=by kernel_rfl
theorem UW:ov za 68 ((List.range 10).map λn=>([.f (.I .i64 (.ofNat n))],[.T [48+UInt8.ofNat n]]))=true:=by kernel_rfl
theorem U8:ov za 182 ((List.range 10).map λn=>([.f (.T [48+UInt8.ofNat n])],[.I .i64 (.ofNat n),.N]))=true:=by kernel_rfl
def PX:Nat:=4294977024
theorem Su:ov za 250 ((List.range 128).map λn=>([.f (.I .i32 (.ofNat n))],[.B (yP.testBit n)]))=true:=by kernel_rfl
theorem US:ov za 113 ((List.range 128).map λn=>([.f (.I .i32 (.ofNat n))],[.B (PX.testBit n)]))=true:=by kernel_rfl
end Go.X
namespace Go.Proofs.fv
open Go.Ex Go.X
theorem fM{H H':dw}{F:Nat->Prop}(h:gG H)(f:Fr F H H')(u:∀i,i<=7->¬F i):gG H':=by
 obtain⟨w,I,N,O,t,W,m,Y⟩:=h
 exact⟨f.fi w (u _ (by decide)),f.fi I (u _ (by decide)),f.fi N (u _ (by decide)),f.fi O (u _ (by decide)),t,W,m,f.fi Y (u _ (by decide))⟩
theorem eH{H H':dw}(h:gG H)(f:Fr fa H H'):gG H':=fM h f λ_ _ h=>h
theorem tP{H:dw}(h:gG H):QT H:=h.ml
theorem jP{H:dw}(h:gG H):7<Array.size H:=eR h.h7
variable {H:dw}
theorem JW(h:gG H){R:Bool->dw->Prop}(u:∀H',Fr fa H H'->R true H'):tA.C H R:=
 (Pd h).mono λv H'⟨w,I,N⟩=>⟨_,w,u H' ⟨I,λk O _=>N k O⟩⟩
theorem Bs(h:gG H){s:By}(u:s∈OH){R:Bool->dw->Prop}(w:∀H',Fr fa H H'->R true H'):sx.C (eJ s) H R:=
 (gX kH UU ⟨_,Tryz.func271,by kernel_rfl⟩ (List.mem_map.2 ⟨s,u,rfl⟩) h).mono λv H'⟨I,N⟩=>⟨_,I,w H' N⟩
theorem u3(h:gG H){q:By×By}(u:q∈xV++K2){R:dE->dE->Bool->dw->Prop}(w:∀H',Fr fa H H'->R (eJ q.1) (eJ q.2) true H'):pe.C (eJ (qn q.1 q.2)) H R:=
 (gX kH Ss ⟨_,Tryz.func197,by kernel_rfl⟩ (List.mem_map.2 ⟨q,u,rfl⟩) h).mono λv H'⟨I,N⟩=>⟨_,_,_,I,w H' N⟩
theorem T7(h:gG H){s:By}(u:s∈([[108,116],[103,116],[97,109,112],[113,117,111,116]]:List By)){R:Bool->dw->Prop}(w:∀H',Fr fa H H'->R true H'):wR.C (eJ s) H R:=
 (gX kH YK ⟨_,Tryz.func208,by kernel_rfl⟩ (List.mem_map.2 ⟨s,u,rfl⟩) h).mono λv H'⟨I,N⟩=>⟨_,I,w H' N⟩
theorem HF(h:gG H){s:By}(u:s∈([[112,105],[113]]:List By)){R:Bool->dw->Prop}(w:∀H',Fr fa H H'->R true H'):wJ.C (eJ s) H R:=
 (gX kH PA ⟨_,Tryz.func126,by kernel_rfl⟩ (List.mem_map.2 ⟨s,u,rfl⟩) h).mono λv H'⟨I,N⟩=>⟨_,I,w H' N⟩
theorem HR(h:gG H){R:Int->Bool->dw->Prop}(u:∀H',Fr fa H H'->R 13 true H'):vg.C (eJ [38,35,49,51,59]) H R:=
 (gX sR MD ⟨_,Tryz.func312,by kernel_rfl⟩ (List.mem_singleton.2 rfl) h).mono λv H'⟨w,I⟩=>⟨_,_,w,u H' I⟩
theorem Ou(h:gG H){q:By×By}(u:q∈Qg){R:dE->Bool->dw->Prop}(w:∀H',Fr fa H H'->R (eJ q.2) true H'):Cb.C (eJ q.1) H R:=
 (gX kH UY ⟨_,Tryz.func327,by kernel_rfl⟩ (List.mem_map.2 ⟨q,u,rfl⟩) h).mono λv H'⟨I,N⟩=>⟨_,_,I,w H' N⟩
theorem Ev(h:gG H){R:Bool->dw->Prop}(u:∀H',Fr fa H H'->R true H'):xA.C (eJ [49,46,48]) H R:=
 (gX kH MC ⟨_,Tryz.func111,by kernel_rfl⟩ (List.mem_singleton.2 rfl) h).mono λv H'⟨w,I⟩=>⟨_,w,u H' I⟩
theorem Ot(h:gG H){R:Bool->dw->Prop}(u:∀H',Fr fa H H'->R true H'):qR.C (eJ [117,116,102,45,56]) (eJ [117,116,102,45,56]) H R:=
 (gX kH UX ⟨_,Tryz.func112,by kernel_rfl⟩ (List.mem_singleton.2 rfl) h).mono λv H'⟨w,I⟩=>⟨_,w,u H' I⟩
theorem J1(h:gG H){R:Bool->dw->Prop}(u:∀H',Fr fa H H'->R true H'):Bd.C (eJ [120]) H R:=
 (gX kH Xz ⟨_,Tryz.func117,by kernel_rfl⟩ (List.mem_singleton.2 rfl) h).mono λv H'⟨w,I⟩=>⟨_,w,u H' I⟩
theorem K4(h:gG H){q:By×By×By}(u:q∈qK)(b:Nat){R:dE->Int->dw->Prop}(w:∀H',Fr fa H H'->R (eJ q.2.2) 0 H'):zW.C (some ⟨b,0,none⟩) (eJ (Lc true q.2.2)) 1 3000 H R:=
 (MB sR Sq ⟨_,Tryz.func322,by kernel_rfl⟩ (List.mem_map.2 ⟨q,u,rfl⟩) h b).mono λv H'⟨I,N⟩=>⟨_,_,I,w H' N⟩
theorem Ch(h:gG H){q:By×By}(u:q∈xV++K2){R:Bool->dw->Prop}(w:∀H',Fr fa H H'->R true H'):vG.C (eJ q.1) (eJ q.2) H R:=
 (gX kH Sv ⟨_,Tryz.func127,by kernel_rfl⟩ (List.mem_map.2 ⟨q,u,rfl⟩) h).mono λv H'⟨I,N⟩=>⟨_,I,w H' N⟩
theorem KO(h:gG H){q:By×By×By}(u:q∈qK){R:Bool->dw->Prop}(w:∀H',Fr fa H H'->R true H'):Ag.C (eJ q.2.2) H R:=
 (gX kH Sx ⟨_,Tryz.func123,by kernel_rfl⟩ (List.mem_map.2 ⟨q,u,rfl⟩) h).mono λv H'⟨I,N⟩=>⟨_,I,w H' N⟩
theorem K0(h:gG H){q:Int×By×By}(u:q∈vO)(d:Int){R:Bool->dw->Prop}(w:∀H',Fr fa H H'->R true H'):vH.C q.1 d eS (eJ q.2.1) eS (eJ q.2.2) none 0 0 H R:=
 (gX sR (Sy (.int .i64 d)) ⟨_,Tryz.func65,by kernel_rfl⟩ (List.mem_map.2 ⟨q,u,rfl⟩) h).mono λv H'⟨I,N⟩=>⟨_,I,w H' N⟩
theorem K1(h:gG H){R:Bool->dw->Prop}(u:∀H',Fr fa H H'->R true H'):vH.C 1 0 eS eS eS eS none 0 0 H R:=
 (gX sR PE ⟨_,Tryz.func65,by kernel_rfl⟩ (List.mem_singleton.2 rfl) h).mono λv H'⟨w,I⟩=>⟨_,w,u H' I⟩
theorem F7(h:gG H){q:By×By×By}(u:q∈qK){R:dE->Bool->dw->Prop}(w:∀H',Fr fa H H'->R (eJ (bif lN q.1 q.2.1 then vb q.1 q.2.1 else[])) (lN q.1 q.2.1) H'):nY.C (eJ q.1) (eJ q.2.1) (eJ (Im q.1 q.2.1)) (eJ q.2.2) H R:=
 (gX kH U4 ⟨_,Tryz.func162,by kernel_rfl⟩ (List.mem_map.2 ⟨q,u,rfl⟩) h).mono λv H'⟨I,N⟩=>⟨_,_,I,w H' N⟩
theorem LS(h:gG H){q:By×By×By}(u:q∈qK)(w:lN q.1 q.2.1=true){R:Bool->dw->Prop}(I:∀H',Fr fa H H'->R false H'):yJ.C (eJ q.1) (eJ q.2.1) (eJ uN) (eJ q.2.2) H R:=
 (gX kH Sp ⟨_,Tryz.func183,by kernel_rfl⟩ (List.mem_map.2 ⟨q,List.mem_filter.2 ⟨u,w⟩,rfl⟩) h).mono λv H'⟨N,O⟩=>⟨_,N,I H' O⟩
theorem Ec(h:gG H){q:By×By×By}(u:q∈qK){R:dE->Bool->dw->Prop}(w:∀H',Fr fa H H'->R (eJ (bif lN q.1 q.2.1 then vb q.1 q.2.1 else[])) (lN q.1 q.2.1) H'):kK.C (eJ q.1) (eJ q.2.1) (eJ (Im q.1 q.2.1)) (eJ q.2.2) H R:=
 (gX kH Sw ⟨_,Tryz.func46,by kernel_rfl⟩ (List.mem_map.2 ⟨q,u,rfl⟩) h).mono λv H'⟨I,N⟩=>⟨_,_,I,w H' N⟩
theorem AN(h:gG H){q:By×By}(u:q∈xV++K2){R:Bool->dw->Prop}(w:∀H',Fr fa H H'->R true H'):ny.C (eJ q.1) (eJ q.2) H R:=
 (gX kH PD ⟨_,Tryz.func90,by kernel_rfl⟩ (List.mem_map.2 ⟨q,u,rfl⟩) h).mono λv H'⟨I,N⟩=>⟨_,I,w H' N⟩
theorem HE(h:gG H){q:By×By×By}(u:q∈qK){R:Bool->dw->Prop}(w:∀H',Fr fa H H'->R true H'):qW.C (eJ q.2.2) H R:=
 (gX kH Pz ⟨_,Tryz.func91,by kernel_rfl⟩ (List.mem_map.2 ⟨q,u,rfl⟩) h).mono λv H'⟨I,N⟩=>⟨_,I,w H' N⟩
theorem GX(h:gG H){q:Int×By×By}(u:q∈vO)(d:Int){R:Bool->dw->Prop}(w:∀H',Fr fa H H'->R true H'):qG.C q.1 d eS (eJ q.2.1) eS (eJ q.2.2) none 0 0 H R:=
 (gX sR (PC (.int .i64 d)) ⟨_,Tryz.func50,by kernel_rfl⟩ (List.mem_map.2 ⟨q,u,rfl⟩) h).mono λv H'⟨I,N⟩=>⟨_,I,w H' N⟩
theorem QX(h:gG H){q:By×By×By}(u:q∈qK){R:dE->dw->Prop}(w:∀H',Fr fa H H'->R (eJ (Lc true q.2.2)) H'):lH.C (eJ q.2.2) true H R:=
 (gX kH U1 ⟨_,Tryz.func51,by kernel_rfl⟩ (List.mem_map.2 ⟨q,u,rfl⟩) h).mono λv H'⟨I,N⟩=>⟨_,I,w H' N⟩
theorem QW(h:gG H){v:By}(u:v∈OC){R:dE->dw->Prop}(w:∀H',Fr fa H H'->R (eJ (Lc false v)) H'):lH.C (eJ v) false H R:=
 (gX kH UZ ⟨_,Tryz.func51,by kernel_rfl⟩ (List.mem_map.2 ⟨v,u,rfl⟩) h).mono λv H'⟨I,N⟩=>⟨_,I,w H' N⟩
theorem QV(h:gG H){n:Nat}(u:n<10){R:dE->dw->Prop}(w:∀H',Fr fa H H'->R (eJ [48+UInt8.ofNat n]) H'):th.C (n:Int) H R:=
 (gX kH UW ⟨_,Tryz.func68,by kernel_rfl⟩ (List.mem_map.2 ⟨n,List.mem_range.2 u,rfl⟩) h).mono λv H'⟨I,N⟩=>⟨_,I,w H' N⟩
theorem Q5(h:gG H){n:Nat}(u:n<10){R:Int->dB->dw->Prop}(w:∀H',Fr fa H H'->R (n:Int) .nilIface H'):oF.C (eJ [48+UInt8.ofNat n]) H R:=
 (gX kH U8 ⟨_,Tryz.func182,by kernel_rfl⟩ (List.mem_map.2 ⟨n,List.mem_range.2 u,rfl⟩) h).mono λv H'⟨I,N⟩=>⟨_,_,I,w H' N⟩
theorem QQ(h:gG H){n:Nat}(u:n<128){R:Bool->dw->Prop}(w:∀H',Fr fa H H'->R (yP.testBit n) H'):Aq.C (n:Int) H R:=
 (gX kH Su ⟨_,Tryz.func250,by kernel_rfl⟩ (List.mem_map.2 ⟨n,List.mem_range.2 u,rfl⟩) h).mono λv H'⟨I,N⟩=>⟨_,I,w H' N⟩
theorem FZ(h:gG H){n:Nat}(u:n<128){R:Bool->dw->Prop}(w:∀H',Fr fa H H'->R (PX.testBit n) H'):yL.C (n:Int) H R:=
 (gX kH US ⟨_,Tryz.func113,by kernel_rfl⟩ (List.mem_map.2 ⟨n,List.mem_range.2 u,rfl⟩) h).mono λv H'⟨I,N⟩=>⟨_,I,w H' N⟩
theorem HQ(u:gG H)(s p:By)(I:s.length<4294967281){R:dE->dE->Bool->dw->Prop}(N:R (eJ (Go.Lib.cut s p).1) (eJ (Go.Lib.cut s p).2.1) (Go.Lib.cut s p).2.2 H):strings_Cut.C (eJ s) (eJ p) H R:=by
 intro w O
 subst O
 obtain⟨m,W⟩:=(tP u).cell
 refine(Tryz.strings_Cut (eJ s) (eJ p) m w (by rw[fc];exact I) (by rw[mZ];exact W)).mono λe w'⟨h,n,Y⟩=>?_
 subst Y
 rw[iM,iM] at h
 exact⟨_,h,⟨rfl,rfl,rfl⟩,_,_,_,rfl,N⟩
theorem F4(s p:By)(h2:2<=p.length)(hp:∀b∈p,b.toNat<128)(ae:p.length<=100)(Y:s.length<4294967281)(I:8<s.length\/∀b∈s,b.toNat<128)
 {R:Int->dw->Prop}(Z:∀H',Fr fa H H'->R (Go.Lib.indexAny s p) H'):strings_IndexAny.C (eJ s) (eJ p) H R:=by
 intro w hw
 subst hw
 have W:∀(j:Nat) b,(eJ p).data.toList[j]?=some b->b.toNat<128:=λj b h=>by rw[iM] at h;exact hp b (List.mem_of_getElem? h)
 rcases I with I|I
 .have N:(Tryz.prog.info? 408).map (λi=>(i.zero,i.size))=some (some (.agg (Array.replicate 256 (.bool false))),256):=by kernel_rfl
  refine(Any.strings_IndexAny_long Tryz.IZ (zero_of_info N).1 (zero_of_info N).2 (eJ s) (eJ p) w (by rw[fc];exact h2) (by rw[fc];exact I) (by rw[fc];exact Y) (by rw[fc];omega) W).mono λe w'⟨O,u⟩=>?_
  subst u
  rw[iM,iM] at O
  exact⟨_,O,(ik.alloc w _).trans (ik.alloc _ _),_,rfl,Z _ ((Fr.push _ _).dF (Fr.push _ _))⟩
 .refine(Tryz.strings_IndexAny_laid (eJ s) (eJ p) w (by rw[fc];exact Y) (by rw[fc];omega) (λj b h=>by rw[iM] at h;exact I b (List.mem_of_getElem? h)) W).mono λe w'⟨O,u⟩=>?_
  rw[iM,iM] at O
  exact⟨_,O,⟨u.os,u.tape,u.output⟩,_,rfl,Z _ ⟨u.size,λk hk _=>u.block k hk⟩⟩
end Go.Proofs.fv
namespace Go.Ex
theorem eZ{α:Type}{x:α}{K:α->Prop}(h:K x):eG x K:=dN λy e=>by rw[e];exact h
structure TA(S:By)(n:Nat)(r:By):Prop where
 e:S.drop n=r
 n:n<=S.length
 l:S.length<=1048576
section
variable {S a b r:By} {n:Nat}
theorem TA.len(h:TA S n r):n+r.length=S.length:=by have:=congrArg List.length h.e;rw[List.length_drop] at this;have:=h.n;omega
theorem TA.step(h:TA S n (a++b)):TA S (n+a.length) b:=⟨by rw[<-List.drop_drop,h.e,List.drop_left],by have:=h.len;rw[List.length_append] at this;omega,h.l⟩
theorem TA.wO{c:UInt8}(h:TA S n (c::b)):TA S (n+1) b:=TA.step (a:=[c]) h
theorem TA.ext(h:TA S n r):(eJ S).extract n (eJ S).size=eJ r:=by rw[zx,fc,h.e,List.take_of_length_le (by have:=h.len;omega)]
theorem TA.cut(h:TA S n (a++b)){m:Nat}(u:m=n+a.length):(eJ S).extract n m=eJ a:=by rw[zx,h.e,u,Nat.add_sub_cancel_left,List.take_left]
theorem TA.sz(h:TA S n r):n+r.length=(eJ S).size/\(eJ S).size<=1048576:=⟨by rw[fc];exact h.len,by rw[fc];exact h.l⟩
end
theorem tL(a b:Nat)(h:a+b<=9223372036854775807):IntKind.i64.wrap ((a:Int)+(b:Int))=((a+b:Nat):Int):=by rw[mR (by omega) (by omega)];omega
theorem qN(a:Nat)(h:a<=9007199254740992):IntKind.i64.wrap ((a:Int)+1)=((a+1:Nat):Int):=tL a 1 (by omega)
theorem WM(a:Nat)(h:a<=9007199254740992):IntKind.i64.wrap ((a:Int)+2)=((a+2:Nat):Int):=tL a 2 (by omega)
theorem YG(a:Nat)(h:a<=9007199254740992):IntKind.i64.wrap ((a:Int)+4)=((a+4:Nat):Int):=tL a 4 (by omega)
theorem AW{s:By}{q:Nat}{c:UInt8}(h:s[q]?=some c)(u:c.toNat<128):Utf8.decode (eJ s) q=(c.toNat,1):=Cw _ q c (by rw[iM];exact h) u
def OE(c:UInt8):Prop:=c.toNat<128/\Go.X.PX.testBit c.toNat=true
def vN(c:UInt8):Prop:=c.toNat<128/\Go.X.PX.testBit c.toNat=false
def SL(c:UInt8):Prop:=c.toNat<128/\Go.X.yP.testBit c.toNat=true
def MV(c:UInt8):Prop:=c.toNat<128/\Go.X.yP.testBit c.toNat=false
instance(c:UInt8):Decidable (OE c):=inferInstanceAs (Decidable (_/\_))
instance(c:UInt8):Decidable (vN c):=inferInstanceAs (Decidable (_/\_))
instance(c:UInt8):Decidable (SL c):=inferInstanceAs (Decidable (_/\_))
instance(c:UInt8):Decidable (MV c):=inferInstanceAs (Decidable (_/\_))
def BG(P:UInt8->Prop)(r:By):Prop:=r=[]\/∃c t,r=c::t/\P c
theorem BG.mk{P:UInt8->Prop}{c:UInt8}{t:By}(h:P c):BG P (c::t):=.inr ⟨c,t,rfl,h⟩
end Go.Ex
namespace Go.Proofs.fv
open Go.Ex Go.X
theorem mn{H:dw}(Y:gG H){S:By}{n:Nat}(u r:By)(h:TA S n (u++r))(Z:∀c∈u,OE c)(hr:BG vN r){R:Int->dw->Prop}
 (hR:∀H',Fr fa H H'->R ((n+u.length:Nat):Int) H'):gy.C (eJ S) (n:Int) H R:=by
 apply gy.calls
 unfold gy.W
 have hl:=h.len
 have ai:=h.l
 rw[List.length_append] at hl
 refine dD (λ_ H'=>Fr fa H H'/\r=[]) ⟨by omega,by rw[fc];omega,?_⟩ ?_
 .rw[Int.toNat_natCast,h.ext]
  refine eZ (eW (λm _ H'=>∃q,q<=u.length/\m=u.length-q/\H'[Array.size H]?=some (.stringIter (eJ (u++r)) q)/\Fr fa H H') u.length ⟨0,by omega,rfl,oH _ _,Fr.push _ _⟩ ?_)
  rintro m _ H' ⟨q,O,rfl,hb,f⟩
  have ad:=eR hb
  refine⟨_,_,hb,eE (λN=>?_) λae=>?_⟩
  .rw[fc,List.length_append] at N
   have f2:∀x,Fr fa H (Array.setIfInBounds H' (Array.size H) x):=λx=>f.fresh (Fr.Ap _ _ _) λi hi=>by omega
   rcases Nat.lt_or_ge q u.length with h0|h0
   .have w:=Z u[q] (List.getElem_mem _)
    rw[AW (c:=u[q]) (by rw[List.getElem?_append_left h0];simp) w.1]
    refine eZ (eZ (eZ (FZ (eH Y (f2 _)) w.1 λH2 I=>dH (by rw[w.2];rfl) ⟨u.length-(q+1),by omega,q+1,by omega,rfl,I.fi (qu ad _) λh=>h,(f2 _).dF I⟩)))
   .rcases hr with rfl|⟨c,t,rfl,w⟩
    .simp at N;omega
    have O:q=u.length:=by omega
    rw[AW (c:=c) (by rw[O,List.getElem?_append_right (Nat.le_refl _)];simp) w.1]
    refine eZ (eZ (eZ (FZ (eH Y (f2 _)) w.1 λH2 I=>eN (by rw[w.2];rfl) (eZ ?_))))
    rw[tL _ _ (by omega),O]
    exact hR _ ((f2 _).dF I)
  .rw[fc,List.length_append] at ae
   exact⟨f,List.eq_nil_of_length_eq_zero (by omega)⟩
 .rintro _ H' ⟨f,rfl⟩
  refine eZ ?_
  rw[fc,show S.length=n+u.length by simp at hl;omega]
  exact hR _ f
theorem xP{H:dw}(ht:gG H){S:By}{n:Nat}(u:By)(c:UInt8)(t:By)(h:TA S n (u++c::t))(hw:∀c∈u,SL c)(Y:MV c){R:Int->dw->Prop}
 (hR:∀H',Fr fa H H'->R ((n+u.length:Nat):Int) H'):j7.C (eJ S) (n:Int) H R:=by
 apply j7.calls
 unfold j7.W
 have hl:=h.len
 have an:=h.l
 rw[List.length_append,List.length_cons] at hl
 refine dD (λ_ _=>False) ⟨by omega,by rw[fc];omega,?_⟩ (λ_ _ h=>h.elim)
 rw[Int.toNat_natCast,h.ext]
 refine eZ (eW (λm _ H'=>∃q,q<=u.length/\m=u.length-q/\H'[Array.size H]?=some (.stringIter (eJ (u++c::t)) q)/\Fr fa H H') u.length ⟨0,by omega,rfl,oH _ _,Fr.push _ _⟩ ?_)
 rintro m _ H' ⟨q,Z,rfl,hb,f⟩
 have ab:=eR hb
 have f2:∀x,Fr fa H (Array.setIfInBounds H' (Array.size H) x):=λx=>f.fresh (Fr.Ap _ _ _) λi hi=>by omega
 obtain⟨x,hx,N,ad⟩:∃x:UInt8,(u++c::t)[q]?=some x/\x.toNat<128/\yP.testBit x.toNat=decide (q<u.length):=by
  rcases Nat.lt_or_ge q u.length with w|w
  .have:=hw u[q] (List.getElem_mem _)
   exact⟨u[q],by rw[List.getElem?_append_left w];simp,this.1,by rw[this.2,decide_eq_true w]⟩
  .have Z:q=u.length:=by omega
   exact⟨c,by rw[Z,List.getElem?_append_right (Nat.le_refl _)];simp,Y.1,by rw[Y.2,decide_eq_false (by omega)]⟩
 have ae:(u++c::t).drop q=x::(u++c::t).drop (q+1):=by
  obtain⟨h1,h2⟩:=List.getElem?_eq_some_iff.1 hx
  rw[<-h2];exact List.drop_eq_getElem_cons h1
 have ta:TA S (n+q) (x::(u++c::t).drop (q+1)):=by
  have e:=List.take_append_drop q (u++c::t)
  rw[ae] at e
  have:=TA.step (a:=(u++c::t).take q) (b:=x::(u++c::t).drop (q+1)) (by rw[e];exact h)
  rwa[List.length_take,Nat.min_eq_left (by simp;omega)] at this
 refine⟨_,_,hb,fD (by rw[fc];simp;omega) ?_⟩
 rw[AW hx N]
 refine eZ (eZ (eZ ?_))
 rw[tL _ _ (by omega)]
 refine⟨by omega,by rw[fc];omega,?_⟩
 rw[Int.toNat_natCast,ta.ext]
 refine F6 _ x (by rw[iM];rfl) N (dD (λs O=>s=(!decide (q<u.length),())/\Fr fa (Array.setIfInBounds H' (Array.size H) (.stringIter (eJ (u++c::t)) (q+1))) O) ?_ ?_)
 .refine QQ (eH ht (f2 _)) N λO I=>?_
  rw[ad]
  cases decide (q<u.length) with
  |true=>exact dH rfl (eI (by omega) ⟨rfl,I⟩)
  |false=>exact eN rfl ⟨rfl,I⟩
 .rintro _ O ⟨rfl,I⟩
  by_cases w:q<u.length
  .exact dH (by rw[decide_eq_true w];rfl) ⟨u.length-(q+1),by omega,q+1,by omega,rfl,I.fi (qu ab _) λh=>h,(f2 _).dF I⟩
  .refine eN (by rw[decide_eq_false w];rfl) (eZ ?_)
   rw[show q=u.length by omega]
   exact hR _ ((f2 _).dF I)
end Go.Proofs.fv
namespace Go.Ex
theorem zw:∀(a b c:By),a.length<=b.length->a.isPrefixOf (b++c)=a.isPrefixOf b
 |[],_,_,_=>by simp
 |x::a,[],_,h=>by simp at h
 |x::a,y::b,c,h=>by simp only[List.cons_append,List.isPrefixOf];rw[zw a b c (by simpa using h)]
def pG:By->By->Bool
 |[],_=>true
 |b::l,m=>!(m.isPrefixOf (b::l++m))&&pG l m
theorem AX(m r:By)(u:m≠[]):∀x:By,pG x m=true->Go.Lib.index (x++(m++r)) m=(x.length:Int)
 |[],_=>by
  cases m with
  |nil=>exact absurd rfl u
  |cons c m=>
   show Go.Lib.index (c::(m++r)) (c::m)=0
   unfold Go.Lib.index
   rw[if_pos]
   rw[List.isPrefixOf_iff_prefix]
   exact⟨r,rfl⟩
 |b::l,h=>by
  unfold pG at h
  simp only[Bool.and_eq_true,Bool.not_eq_true'] at h
  have w:=AX m r u l h.2
  show Go.Lib.index (b::(l++(m++r))) m=_
  unfold Go.Lib.index
  have e:b::(l++(m++r))=(b::l++m)++r:=by simp
  have I:m.isPrefixOf ((b::l++m)++r)=m.isPrefixOf (b::l++m):=zw _ _ _ (by simp only[List.cons_append,List.length_cons,List.length_append];omega)
  rw[if_neg (by rw[e,I,h.1];simp),w,if_neg (by simp)]
  simp
theorem Hk{x m:By}(r:By)(u:m≠[])(h:pG x m=true):Go.Lib.cut (x++(m++r)) m=(x,r,true):=by
 unfold Go.Lib.cut
 rw[AX m r u x h,if_pos (by omega)]
 simp
def OG:By->By
 |[]=>[]
 |c::v=>32::c::v
theorem Sz:∀q∈Vc,(∀c∈q.1,SL c)/\q.1∈([[112,105],[113]]:List By)/\pG q.2 [63,62]=true/\(q.2=[]\/vN (q.2.headD 0)):=by decide
def OD(k:Int)(nm tx:By)(p:dC)(l c:Nat)(e:Bool):List dB:=[.int .i64 k,.string (eJ nm),.string (eJ tx),.slice p l c,.bool e]
end Go.Ex
namespace Go.Proofs.fv
open Go.Ex Go.X
theorem mP{u w:dw}{cs:Array dB}{vs:List dB}{t:eK}(f:Fr fa (eP u cs t) w)(N:vs.length=cs.size){K:dw->Prop}
 (O:∀H',H'[Array.size u]?=some (.cells vs.toArray t (0,0))->Fr fa u H'->Fr (λk=>k=Array.size u) w H'->K H'):lj vs ⟨Array.size u,0,none⟩ 0 w K:=
 tR (cs:=cs) (f.fi eU λh=>h) N λH' W I=>O H' W (((Fr.new _ _ _).dF f).fresh I λi hi=>by omega) I
abbrev uq(H:dw)(b:Nat)(k:Int)(nm tx:By)(p:dC)(l c:Nat)(e:Bool):Prop:=H[b]?=some (.cells (OD k nm tx p l c e).toArray eX (0,0))
section
variable {H:dw} {b:Nat} {k:Int} {nm tx:By} {p:dC} {l c:Nat} {e:Bool}
theorem uq.ld(h:uq H b k nm tx p l c e){K:Int->dE->dE->dC->Nat->Nat->Bool->Prop}(u:K k (eJ nm) (eJ tx) p l c e):fq H ⟨b,0,none⟩ K:=
 Ff _ _ _ _ _ _ _ (λj _=>eD h j) u
theorem uq.OJ(h:uq H b k nm tx p l c e):dL H ((⟨b,0,none⟩:dA).add 1)=some (.string (eJ nm)):=eD h 1
theorem uq.WY(h:uq H b k nm tx p l c e):dL H ((⟨b,0,none⟩:dA).add 2)=some (.string (eJ tx)):=eD h 2
theorem uq.fC(h:uq H b k nm tx p l c e){H':dw}(f:Fr fa H H'):uq H' b k nm tx p l c e:=f.fi h λh=>h
end
abbrev RM:=Int->dE->dE->dC->Nat->Nat->Bool->Int->Bool->dw->Prop
theorem ke{h u:dw}(f:Fr fa (eP h #[.int .i64 0,.string eS,.string eS,.slice none 0 0,.bool false] eX) u)(k:Int)(nm tx:By)(p:dC)(l c:Nat)(e:Bool){K:dw->Prop}
 (w:∀H',uq H' (Array.size h) k nm tx p l c e->Fr fa h H'->Fr (λk=>k=Array.size h) u H'->K H'):lj [.int .i64 k,.string (eJ nm),.string (eJ tx),.slice p l c,.bool e] ⟨Array.size h,0,none⟩ 0 u K:=
 mP (vs:=OD k nm tx p l c e) f rfl w
theorem iy{H:dw}(s p:By){R:Bool->dw->Prop}(h:R (p.isPrefixOf s) H):strings_HasPrefix.C (eJ s) (eJ p) H R:=Bu _ _ (by rw[iM,iM];exact h)
variable {H:dw}
theorem wz(u:gG H){S:By}{n:Nat}{x m:By}(r:By)(h:TA S n (x++(m++r)))(w:m≠[])(I:pG x m=true){R:dE->Int->Bool->dw->Prop}(N:R (eJ x) ((n+x.length+m.length:Nat):Int) true H):kE.C (eJ S) (n:Int) (eJ m) H R:=by
 apply kE.calls
 unfold kE.W
 have O:=h.len
 have Y:=h.l
 simp only[List.length_append] at O
 refine⟨by omega,by rw[fc];omega,?_⟩
 rw[Int.toNat_natCast,h.ext]
 refine HQ u _ _ (by simp;omega) ?_
 rw[Hk r w I]
 refine eZ ?_
 show R (eJ x) (IntKind.i64.wrap (IntKind.i64.wrap ((n:Int)+((eJ x).size:Int))+((eJ m).size:Int))) true H
 rw[fc,fc,tL _ _ (by omega),tL _ _ (by omega)]
 exact N
theorem Jy(u:gG H){S:By}{n:Nat}(r:By)(h:TA S n r)(w:BG vN r){R:Int->dw->Prop}(I:∀H',Fr fa H H'->R (n:Int) H'):gy.C (eJ S) (n:Int) H R:=mn u [] r h (by simp) w I
theorem QM(u:gG H){S:By}{n:Nat}(c:UInt8)(r:By)(h:TA S n (c::r))(w:OE c)(I:BG vN r){R:Int->dw->Prop}(N:∀H',Fr fa H H'->R ((n+1:Nat):Int) H'):gy.C (eJ S) (n:Int) H R:=mn u [c] r h (by simpa using w) I N
theorem Hr(I:gG H){S:By}{n:Nat}{x:By}(r:By)(h:TA S n ([60,33,45,45]++(x++([45,45]++62::r))))(N:pG x [45,45]=true){R:RM}(O:∀H',Fr fa H H'->R 4 eS (eJ x) none 0 0 false ((n+(x.length+7):Nat):Int) true H'):ko.C (eJ S) (n:Int) H R:=by
 apply ko.calls
 unfold ko.W
 have u:TA S (n+4) (x++([45,45]++62::r)):=h.step
 have w:TA S (n+4+x.length+2) (62::r):=u.step.step
 have Y:=w.sz
 rw[List.length_cons] at Y
 refine eZ ?_
 rw[YG n (by omega)]
 refine wz (eH I (Fr.new _ _ _)) _ u (by decide) N (eN rfl ⟨by omega,by show((n+4+x.length+2:Nat):Int)<=_;omega,?_⟩)
 show strings_HasPrefix.C ((eJ S).extract (((n+4+x.length+2:Nat):Int)).toNat _) _ _ _
 rw[Int.toNat_natCast,w.ext]
 refine iy (62::r) [62] (ke (Fr.refl _ _) 4 [] x none 0 0 false λH' b f _=>eZ (b.ld ?_))
 show R _ _ _ _ _ _ _ (IntKind.i64.wrap (((n+4+x.length+2:Nat):Int)+1)) _ _
 have:=O H' f
 rw[show n+(x.length+7)=n+4+x.length+2+1 by omega] at this
 rw[qN _ (by omega)]
 exact this
theorem TB(w:gG H){S:By}{n:Nat}{nm:By}(r:By)(h:TA S n ([60,47]++(nm++62::r)))(hn:nm∈OH)(hw:∀c∈nm,SL c){R:RM}(hR:∀H',Fr fa H H'->R 3 (eJ nm) eS none 0 0 false ((n+(nm.length+3):Nat):Int) true H'):nG.C (eJ S) (n:Int) H R:=by
 apply nG.calls
 unfold nG.W
 have I:TA S (n+2) (nm++62::r):=h.step
 have N:TA S (n+2+nm.length) (62::r):=I.step
 have hs:=N.sz
 rw[List.length_cons] at hs
 refine eZ (eZ ?_)
 rw[WM n (by omega)]
 have f1:=Fr.new H #[.int .i64 0,.string eS,.string eS,.slice none 0 0,.bool false] eX
 refine xP (eH w f1) nm 62 r I hw (by decide) λH2 f2=>⟨by omega,by omega,by omega,by omega,eZ ?_⟩
 rw[Int.toNat_natCast,Int.toNat_natCast,I.cut rfl]
 refine ke (Fr.refl _ _) 3 nm [] none 0 0 false λH4 b4 Z _=>?_
 have u:=(f1.dF f2).dF Z
 refine mn (eH w u) [] (62::r) N (by simp) (.mk (by decide)) λH5 O=>?_
 have Y:=b4.fC O
 refine Y.ld ⟨_,Y.OJ,Bs (eH w (u.dF O)) hn λH6 f6=>?_⟩
 have b6:=Y.fC f6
 refine⟨b6.ld rfl,eN rfl ⟨by omega,by show((n+2+nm.length:Nat):Int)<=_;omega,?_⟩⟩
 show strings_HasPrefix.C ((eJ S).extract (((n+2+nm.length:Nat):Int)).toNat _) _ _ _
 rw[Int.toNat_natCast,N.ext]
 refine iy (62::r) [62] ⟨b6.ld rfl,ke (((f2.dF Z).dF O).dF f6) 3 nm [] none 0 0 false λH' b f _=>eZ (b.ld ?_)⟩
 show R _ _ _ _ _ _ _ (IntKind.i64.wrap (((n+2+nm.length:Nat):Int)+1)) _ _
 have:=hR H' f
 rw[show n+(nm.length+3)=n+2+nm.length+1 by omega] at this
 rw[qN _ (by omega)]
 exact this
theorem Vb(O:gG H){S:By}{n:Nat}{q:By×By}(hq:q∈Vc)(r:By)(h:TA S n ([60,63]++(q.1++(OG q.2++([63,62]++r))))){R:RM}(hR:∀H',Fr fa H H'->R 5 (eJ q.1) (eJ q.2) none 0 0 false ((n+(q.1.length+(OG q.2).length+4):Nat):Int) true H'):pd.C (eJ S) (n:Int) H R:=by
 obtain⟨hw,ad,ho,hv⟩:=Sz q hq
 obtain⟨w,v⟩:=q
 dsimp only at h hR hw ad ho hv hq
 apply pd.calls
 unfold pd.W
 have h1:TA S (n+2) _:=h.step
 have Y:=h1.step
 have f1:=Fr.new H #[.int .i64 0,.string eS,.string eS,.slice none 0 0,.bool false] eX
 have hs:=Y.sz
 refine eZ (eZ ?_)
 rw[WM n (by omega)]
 obtain⟨c,t,ar,au⟩:∃c t,OG v++([63,62]++r)=c::t/\MV c:=by
  cases v with
  |nil=>exact⟨63,_,rfl,by decide⟩
  |cons x v=>exact⟨32,_,rfl,by decide⟩
 obtain⟨u,av,ah,aw,ax,ai⟩:∃u:By,(∀c∈u,OE c)/\OG v++([63,62]++r)=u++(v++([63,62]++r))/\BG vN (v++([63,62]++r))/\(OG v).length=u.length+v.length/\(u=[]->v=[]):=by
  cases v with
  |nil=>exact⟨[],by simp,rfl,.mk (by decide),rfl,λ_=>rfl⟩
  |cons x v=>exact⟨[32],by decide,rfl,.mk (hv.resolve_left (by simp)),by simp[OG];omega,λe=>by simp at e⟩
 rw[ah] at Y hs
 refine xP (eH O f1) w c t (by rw[<-ar];exact h1) hw au λH2 f2=>⟨by omega,by omega,by omega,by omega,eZ ?_⟩
 rw[Int.toNat_natCast,Int.toNat_natCast,h1.cut rfl]
 refine ke (Fr.refl _ _) 5 w [] none 0 0 false λH4 b4 f4 _=>?_
 have I:=(f1.dF f2).dF f4
 refine mn (eH O I) u _ Y av aw λH5 Z=>?_
 have h3:=Y.step
 refine wz (eH O (I.dF Z)) r h3 (by decide) ho (hP (o:=2) (b4.fC Z) (by simp[OD]) λH7 N f7=>?_)
 have N:uq H7 (Array.size H2) 5 w v none 0 0 false:=by rw[uq,N];simp[OD]
 have l2:Array.size H<=Array.size H2:=(f1.dF f2).size
 have l1:Array.size H<Array.size H2:=Nat.lt_of_lt_of_le (by rw[gi];omega) f2.size
 have aB:Fr fa H H7:=(I.dF Z).fresh f7 λi hi=>by omega
 have aC:Fr fa (eP H #[.int .i64 0,.string eS,.string eS,.slice none 0 0,.bool false] eX) H7:=((f2.dF f4).dF Z).fresh f7 λi hi=>by rw[gi];omega
 refine N.ld (eN rfl ⟨_,N.OJ,HF (eH O aB) ad λH8 f8=>⟨(N.fC f8).ld rfl,eN rfl ?_⟩⟩)
 have aO:=h3.sz
 have ae:∀e:Bool,e=true->lj [.int .i64 5,.string (eJ w),.string (eJ v),.slice none 0 0,.bool false] ⟨Array.size H,0,none⟩ 0 H8 λH9=>fq H9 ⟨Array.size H,0,none⟩ λaF aG aH aa ab ac aI=>R aF aG aH aa ab ac aI ((n+2+w.length+u.length+v.length+2:Nat):Int) e H9:=λe he=>by
  subst he
  refine ke (aC.dF f8) 5 w v none 0 0 false λH' b f _=>b.ld ?_
  have:=hR H' f
  rw[ax,show n+(w.length+(u.length+v.length)+4)=n+2+w.length+u.length+v.length+2 by omega] at this
  exact this
 exact eE (λ_=>ae true rfl) λaf=>ae _ (by
  have:u=[]:=List.eq_nil_of_length_eq_zero (by have af:¬((n+2+w.length:Nat):Int)<((n+2+w.length+u.length:Nat):Int):=af;omega)
  rw[ai this];rfl)
end Go.Proofs.fv
namespace Go.Ex
def Lg(r:By):Prop:=8<r.length\/∀b∈r,b.toNat<128
theorem Lg.app{r w:By}(h:Lg r)(u:∀b∈w,b.toNat<128):Lg (w++r):=by
 rcases h with h|h
 .exact .inl (by rw[List.length_append];omega)
 .exact .inr λb I=>(List.mem_append.1 I).elim (u b) (h b)
def Uj:List By:=[[120],[32,121,10],[34],[9],[195,169,93,93],[116,101,120,116]]
theorem N9(r:By)(c:UInt8)(t:By)(u:r=c::t)(w:c=60\/c=38):∀x:By,(∀b∈x,b≠60/\b≠38)->Go.Lib.indexAny (x++r) [60,38]=(x.length:Int)
 |[],_=>by
  subst u
  show Go.Lib.indexAny (c::t) [60,38]=0
  unfold Go.Lib.indexAny
  rw[if_pos]
  rcases w with rfl|rfl<;>rfl
 |b::x,h=>by
  have N:=N9 r c t u w x λy O=>h y (by simp[O])
  have I:=h b (by simp)
  show Go.Lib.indexAny (b::(x++r)) [60,38]=_
  unfold Go.Lib.indexAny
  rw[if_neg (by simp[I.1,I.2]),N,if_neg (by simp)]
  simp
theorem yg:∀x∈Uj,(∀b∈x,b≠60/\b≠38)/\x≠[]/\Go.Lib.contains x [93,93,62]=false:=by decide
def oY(q:By×By×By):By:=qn q.1 q.2.1
def yB(q:By×By×By):By:=Lc true q.2.2
theorem N3:∀q∈qK,(∀c∈oY q,SL c)/\pG (yB q) [34]=true/\Go.Lib.contains (yB q) [60]=false/\oY q∈OH/\(q.1,q.2.1)∈K2:=by decide
end Go.Ex
namespace Go.Proofs.fv
open Go.Ex Go.X
abbrev OK(H:dw)(b:Nat)(x y:By):Prop:=H[b]?=some (.cells ([.string (eJ x),.string (eJ y)]:List dB).toArray gx (0,0))
theorem OK.ld{H:dw}{b:Nat}{x y:By}(h:OK H b x y){K:dE->dE->Prop}(u:K (eJ x) (eJ y)):tz H ⟨b,0,none⟩ K:=rS _ _ (λj _=>eD h j) u
theorem zv{h u:dw}(f:Fr fa (eP h #[.string eS,.string eS] gx) u)(x y:By){K:dw->Prop}
 (w:∀H',OK H' (Array.size h) x y->Fr fa h H'->Fr (λk=>k=Array.size h) u H'->K H'):lj [.string (eJ x),.string (eJ y)] ⟨Array.size h,0,none⟩ 0 u K:=
 mP (vs:=[.string (eJ x),.string (eJ y)]) f rfl w
variable {H:dw}
theorem My(u:gG H){S:By}{n:Nat}(r:By)(h:TA S n ([38,35,49,51,59]++r)){R:RM}(I:∀H',Fr fa H H'->R 7 eS (eJ [13]) none 0 0 false ((n+5:Nat):Int) true H'):lK.C (eJ S) (n:Int) H R:=by
 apply lK.calls
 unfold lK.W
 have w:TA S (n+1) ([35,49,51]++([59]++r)):=TA.wO (c:=38) h
 have O:=w.sz
 have f1:=Fr.new H #[.int .i64 0,.string eS,.string eS,.slice none 0 0,.bool false] eX
 refine eZ ?_
 rw[qN n (by omega)]
 refine wz (eH u f1) r w (by decide) (by decide) (iy [35,49,51] [35] (eN rfl ⟨by decide,by decide,?_⟩))
 refine HR (eH u f1) λY N=>eN rfl ?_
 have e:Utf8.encode 13=eJ [13]:=by decide
 rw[e]
 refine ke N 7 [] [13] none 0 0 false λH' b f _=>b.ld ?_
 exact I H' f
theorem Sk(u:gG H){S:By}{n:Nat}{q:By×By}(I:q∈Qg)(r:By)(h:TA S n (38::(q.1++([59]++r)))){R:RM}(N:∀H',Fr fa H H'->R 8 (eJ q.1) eS none 0 0 false ((n+(q.1.length+2):Nat):Int) true H'):lK.C (eJ S) (n:Int) H R:=by
 have O:∀q∈Qg,pG q.1 [59]=true/\[35].isPrefixOf q.1=false/\q.1∈([[108,116],[103,116],[97,109,112],[113,117,111,116]]:List By):=by decide
 obtain⟨Y,Z,c3⟩:=O q I
 apply lK.calls
 unfold lK.W
 have w:=h.wO
 have hs:=w.sz
 have f1:=Fr.new H #[.int .i64 0,.string eS,.string eS,.slice none 0 0,.bool false] eX
 refine eZ ?_
 rw[qN n (by omega)]
 refine wz (eH u f1) r w (by decide) Y (iy _ [35] (dH Z (eN rfl (T7 (eH u f1) c3 λH4 f4=>?_))))
 refine ke f4 8 q.1 [] none 0 0 false λH' b f _=>b.ld ?_
 have:=N H' f
 rw[show n+(q.1.length+2)=n+1+q.1.length+1 by omega] at this
 exact this
theorem MK(I:gG H){S:By}{n:Nat}{x:By}(N:x∈Uj)(c:UInt8)(t:By)(O:c=60\/c=38)(h:TA S n (x++c::t))(Y:Lg (x++c::t)){R:RM}(Z:∀H',Fr fa H H'->R 1 eS (eJ x) none 0 0 false ((n+x.length:Nat):Int) true H'):lW.C (eJ S) (n:Int) H R:=by
 obtain⟨c1,c2,c3⟩:=yg x N
 apply lW.calls
 unfold lW.W
 have h1:=h.step
 have hs:=h1.sz
 have f1:=Fr.new H #[.int .i64 0,.string eS,.string eS,.slice none 0 0,.bool false] eX
 refine eZ (eZ (dD (λs H'=>s=(((n+x.length:Nat):Int),())/\Fr fa (eP H #[.int .i64 0,.string eS,.string eS,.slice none 0 0,.bool false] eX) H') ⟨by omega,by omega,?_⟩ ?_))
 .rw[Int.toNat_natCast,h.ext]
  refine F4 (x++c::t) [60,38] (by decide) (by decide) (by decide) (by have:=h.sz;omega) Y λH2 f2=>?_
  rw[N9 _ c t rfl O x c1]
  refine fD (by omega) (eZ ?_)
  rw[tL _ _ (by omega)]
  exact⟨rfl,f2⟩
 .rintro _ H2 ⟨rfl,f2⟩
  show 0<=((n+x.length:Nat):Int)/\_
  refine⟨by omega,by omega,by omega,by omega,eZ ?_⟩
  rw[Int.toNat_natCast,Int.toNat_natCast,h.cut rfl]
  refine ke (Fr.refl _ _) 1 [] x none 0 0 false λH4 u w _=>u.ld ⟨_,u.WY,rE _ _ (tP (eH I ((f1.dF f2).dF w))) (by rw[fc];omega) ⟨u.ld rfl,?_⟩⟩
  refine ke (f2.dF w) 1 [] x none 0 0 false λH' b f _=>b.ld ?_
  have e:Go.Lib.contains (eJ x).data.toList Q6.data.toList=false:=by rw[iM];exact c3
  rw[e]
  exact Z H' f
theorem QE(N:gG H){S:By}{n:Nat}{q:By×By×By}(hq:q∈qK)(r:By)(h:TA S n (oY q++(61::34::(yB q++([34]++r))))){R:dE->dE->Int->Bool->dw->Prop}(hR:∀H',Fr fa H H'->R (eJ (oY q)) (eJ (yB q)) ((n+((oY q).length+(yB q).length+3):Nat):Int) true H'):mD.C (eJ S) (n:Int) H R:=by
 obtain⟨c1,c2,c3,c4,_⟩:=N3 q hq
 generalize oY q=nm at*
 generalize yB q=u at*
 apply mD.calls
 unfold mD.W
 have h1:=h.step
 have O:=h1.wO
 have h3:=O.wO
 have h4:=h3.step
 have hs:=h4.sz
 have aa:=O.sz
 rw[List.length_append] at hs
 have f1:=Fr.new H #[.string eS,.string eS] gx
 refine eZ (xP (eH N f1) nm 61 _ h c1 (by decide) λH2 f2=>⟨by omega,by omega,by omega,by omega,eZ ?_⟩)
 rw[Int.toNat_natCast,Int.toNat_natCast,h.cut rfl]
 refine zv (Fr.refl _ _) nm [] λH4 b4 f4 _=>?_
 have ab:=(f1.dF f2).dF f4
 refine mn (eH N ab) [] _ h1 (by simp) (.mk (by decide)) λH5 f5=>?_
 have b5:=f5.fi b4 λh=>h
 have ac:=ab.dF f5
 refine dD (λ_ H'=>Fr fa H5 H') (dD (λs H'=>s=(false,())/\Fr fa H5 H') ⟨_,eD b5 0,Bs (eH N ac) c4 λH8 f8=>dH rfl ⟨by omega,by show((n+nm.length:Nat):Int)<=_;omega,?_⟩⟩ ?_) ?_
 .show strings_HasPrefix.C ((eJ S).extract (((n+nm.length:Nat):Int)).toNat _) _ _ _
  rw[Int.toNat_natCast,h1.ext]
  exact iy _ [61] ⟨rfl,f8⟩
 .rintro _ H7 ⟨rfl,f7⟩
  exact dH rfl f7
 rintro _ H6 f6
 have Y:=ac.dF f6
 show gy.C _ (IntKind.i64.wrap (((n+nm.length:Nat):Int)+1)) _ _
 rw[qN _ (by omega)]
 refine mn (eH N Y) [] _ O (by simp) (.mk (by decide)) λad w=>?_
 have ez:((n+nm.length+1+([]:By).length:Nat):Int)=((n+nm.length+1:Nat):Int):=rfl
 rw[ez]
 have aq:bt (eJ S) ((n+nm.length+1:Nat):Int)=34:=by
  rw[DW (by rw[fc];have:=h3.len;omega)]
  have e:S[n+nm.length+1]?=some 34:=by rw[<-List.getElem?_drop (i:=n+nm.length+1) (j:=0),O.e];rfl
  obtain⟨h0,e⟩:=List.getElem?_eq_some_iff.1 e
  simp only[iM,e]
  rfl
 refine dD (λ_ H'=>ad=H') (dD (λs H'=>s=(false,())/\ad=H') (eI (by rw[List.length_cons] at aa;omega) ⟨by omega,by rw[List.length_cons] at aa;omega,?_⟩) ?_) ?_
 .rw[aq]
  exact eI (by decide) ⟨rfl,rfl⟩
 .rintro _ _ ⟨rfl,rfl⟩
  exact dH rfl rfl
 rintro _ _ rfl
 rw[qN _ (by omega),Int.toNat_natCast,Int.toNat_natCast,TA.cut (a:=[34]) O (m:=n+nm.length+1+1) rfl]
 have ar:=w.fi (f6.fi b5 λh=>h) λh=>h
 refine⟨by omega,by omega,by omega,by omega,wz (eH N (Y.dF w)) r h3 (by decide) c2 (hP (o:=1) ar (by simp) λZ I ae=>?_)⟩
 have I:OK Z (Array.size H2) nm u:=by rw[OK,I];simp
 have l1:Array.size H<Array.size H2:=Nat.lt_of_lt_of_le (by rw[gi];omega) f2.size
 have aj:Fr fa H Z:=(Y.dF w).fresh ae λi hi=>by omega
 have ak:Fr fa (eP H #[.string eS,.string eS] gx) Z:=((((f2.dF f4).dF f5).dF f6).dF w).fresh ae λi hi=>by rw[gi];omega
 refine I.ld (eN rfl (rE _ _ (tP (eH N aj)) (by rw[fc];omega) ⟨I.ld rfl,?_⟩))
 refine zv ak nm u λH' b f _=>b.ld ?_
 have e:Go.Lib.contains (eJ u).data.toList HV.data.toList=false:=by rw[iM];exact c3
 rw[e]
 have:=hR H' f
 rw[show n+(nm.length+u.length+3)=n+nm.length+1+1+u.length+1 by omega] at this
 exact this
end Go.Proofs.fv
namespace Go.Ex
def nz(l:List (By×By×By)):By:=l.flatMap λq=>32::(oY q++(61::34::(yB q++[34])))
theorem xI(q:By×By×By)(l:List (By×By×By))(r:By):nz (q::l)++r=32::(oY q++(61::34::(yB q++([34]++(nz l++r))))):=by unfold nz;simp
theorem Jt:∀l:List (By×By×By),l.length<=(nz l).length
 |[]=>Nat.le_refl _
 |q::l=>by
  have:=Jt l
  have e:=congrArg List.length (xI q l [])
  simp only[List.append_nil,List.length_cons,List.length_append] at e⊢
  omega
theorem TV:∀q∈qK,vN ((oY q).headD 0)/\(oY q).headD 0≠47/\(oY q).headD 0≠62/\oY q≠[]:=by decide
def Uh(q:By×By×By):List dB:=[.string (eJ (oY q)),.string (eJ (yB q))]
def tT(l:List (By×By×By)):List dB:=(l.map Uh).flatten
theorem Kb(l:List (By×By×By))(q:By×By×By):tT l++Uh q=tT (l++[q]):=by unfold tT;simp
theorem Po(q:By×By×By):∀v∈Uh q,One v:=by
 intro v h
 simp only[Uh,List.mem_cons,List.not_mem_nil,or_false] at h
 rcases h with rfl|rfl<;>exact⟨by simp,by simp⟩
theorem fm(k:Nat):¬eB none k:=λ⟨_,h,_⟩=>by cases h
def C8(e:Bool):By:=match e with|true=>[47,62]|false=>[62]
end Go.Ex
namespace Go.Proofs.fv
open Go.Ex Go.X
theorem Ah{H:dw}(ht:gG H){S:By}{n:Nat}{nm:By}(hn:nm∈OH)(hw:∀c∈nm,SL c){al:List (By×By×By)}(ha:∀q∈al,q∈qK)(e:Bool)(r:By)(h:TA S n (60::(nm++(nz al++(C8 e++r))))){R:RM}
 (hR:∀p c H',jK 2 H' gx (tT al) p al.length c->(∀b,eB p b->Array.size H<=b)->Fr fa H H'->R 2 (eJ nm) eS p al.length c e ((n+(nm.length+(nz al).length+(C8 e).length+1):Nat):Int) true H'):lV.C (eJ S) (n:Int) H R:=by
 apply lV.calls
 unfold lV.W
 have h1:=h.wO
 have h2:=h1.step
 have hs:=h1.sz
 obtain⟨c0,t0,aF,aG⟩:∃c t,nz al++(C8 e++r)=c::t/\MV c:=by
  cases al with
  |nil=>cases e<;>exact⟨_,_,rfl,by decide⟩
  |cons q al=>rw[xI];exact⟨_,_,rfl,by decide⟩
 have f1:=Fr.new H #[.int .i64 0,.string eS,.string eS,.slice none 0 0,.bool false] eX
 refine eZ ?_
 rw[qN n (by omega)]
 refine xP (eH ht f1) nm c0 t0 (by rw[<-aF];exact h1) hw aG λH2 f2=>⟨by omega,by rw[List.length_append] at hs;omega,by omega,by omega,eZ ?_⟩
 rw[Int.toNat_natCast,Int.toNat_natCast,h1.cut rfl]
 refine ke (Fr.refl _ _) 2 nm [] none 0 0 false λH4 b4 f4 _=>⟨_,b4.OJ,Bs (eH ht ((f1.dF f2).dF f4)) hn λH5 f5=>dH rfl ?_⟩
 have br:Array.size H<Array.size H2:=Nat.lt_of_lt_of_le (by rw[gi];omega) f2.size
 generalize ap:eP H #[.int .i64 0,.string eS,.string eS,.slice none 0 0,.bool false] eX=H1 at*
 have l1:Array.size H1=Array.size H+1:=by rw[<-ap,gi]
 have l2:=f2.size
 refine eW (λm s H'=>∃u N p c,al=u++N/\m=N.length/\s=(((n+1+nm.length+(nz u).length:Nat):Int),())/\uq H' (Array.size H2) 2 nm [] p u.length c false/\jK 2 H' gx (tT u) p u.length c/\(∀k,eB p k->Array.size H2<k)/\Fr fa H1 H') al.length
  ⟨[],al,none,0,rfl,rfl,rfl,b4.fC f5,jK.nil _ _ _,λk w=>absurd w (fm k),(f2.dF f4).dF f5⟩ ?_
 rintro m _ H6 ⟨u,N,p,c,rfl,rfl,rfl,b6,s6,hp,f6⟩
 have tl:nz (u++N)=nz u++nz N:=by unfold nz;simp
 rw[tl,List.append_assoc] at h2
 have h3:=h2.step
 have bu:=h3.sz
 have aa:=f1.dF f6
 cases N with
 |nil=>
  have tk:∀{H8:dw}(z:Nat)(Z:Bool),Z=e->z=n+1+nm.length+(nz u).length+(C8 e).length->uq H8 (Array.size H2) 2 nm [] p u.length c Z->Fr fa H1 H8->jK 2 H8 gx (tT u) p u.length c->
   lj [.int .i64 2,.string (eJ nm),.string (eJ []),.slice p u.length c,.bool Z] ⟨Array.size H,0,none⟩ 0 H8 λaq=>fq aq ⟨Array.size H,0,none⟩ λaL aM aO ak am an aP=>R aL aM aO ak am an aP (z:Int) true aq:=λz Z he hz b f s=>by
   subst he hz
   refine ke (by rw[ap];exact f) 2 nm [] p u.length c Z λH' b' f' g'=>b'.ld ?_
   have:=hR p c H' (by simpa using s.eO g' λk w e=>by have:=hp k w;omega) (λb hb=>by have:=hp b hb;omega) f'
   simp only[List.append_nil] at this
   rw[show n+(nm.length+(nz u).length+(C8 Z).length+1)=n+1+nm.length+(nz u).length+(C8 Z).length by omega] at this
   exact this
  have Y:TA S (n+1+nm.length+(nz u).length) (C8 e++r):=h3
  have bv:=Y.step.sz
  cases e with
  |true=>
   refine Jy (eH ht aa) _ Y (.mk (by decide)) λH7 I=>⟨by omega,by omega,?_⟩
   rw[Int.toNat_natCast,Y.ext]
   refine iy _ [47,62] (eN rfl (hP (o:=4) (b6.fC I) (by simp[OD]) λH9 b9 f9=>?_))
   have b9:uq H9 (Array.size H2) 2 nm [] p u.length c true:=by rw[uq,b9];simp[OD]
   refine b9.ld ?_
   rw[WM _ (by omega)]
   exact tk _ true rfl rfl b9 ((f6.dF I).fresh f9 λi hi=>by omega) ((s6.fC I).eO f9 λk w e=>by have:=hp k w;omega)
  |false=>
   refine Jy (eH ht aa) _ Y (.mk (by decide)) λH7 I=>⟨by omega,by omega,?_⟩
   rw[Int.toNat_natCast,Y.ext]
   refine iy _ [47,62] (dH rfl ⟨by omega,by omega,iy _ [62] (eN rfl ((b6.fC I).ld ?_))⟩)
   rw[qN _ (by omega)]
   exact tk _ false rfl rfl (b6.fC I) (f6.dF I) (s6.fC I)
 |cons q N=>
  have hq:=ha q (by simp)
  rw[xI] at h3
  obtain⟨x,y,af,aT,aU,aV⟩:∃x y,oY q=x::y/\vN x/\x≠47/\x≠62:=by
   obtain⟨a1,a2,a3,a4⟩:=TV q hq
   cases ar:oY q with
   |nil=>exact absurd ar a4
   |cons x y=>rw[ar] at a1 a2 a3;exact⟨x,y,rfl,a1,a2,a3⟩
  have aX:BG vN (oY q++(61::34::(yB q++([34]++(nz N++(C8 e++r)))))):=by rw[af];exact .mk aT
  have Y:TA S (n+1+nm.length+(nz u).length) ([32]++(oY q++(61::34::(yB q++([34]++(nz N++(C8 e++r))))))):=h3
  have h5:TA S (n+1+nm.length+(nz u).length+1) _:=Y.step
  have bw:=h5.sz
  refine QM (eH ht aa) 32 _ Y (by decide) aX λH7 I=>⟨by omega,by omega,?_⟩
  rw[Int.toNat_natCast,h5.ext]
  refine iy _ [47,62] (dH (by rw[af];simp[List.isPrefixOf,Ne.symm aU]) ⟨by omega,by omega,iy _ [62] (dH (by rw[af];simp[List.isPrefixOf,Ne.symm aV]) (eI (by omega) ?_))⟩)
  refine QE (eH ht (aa.dF I)) hq _ h5 λbx au=>eZ (zv (Fr.refl _ _) _ _ λbz aY av _=>dH rfl ?_)
  have O:=(I.dF au).dF av
  refine⟨_,_,_,eD (b6.fC O) 3,aY.ld (eZ ?_)⟩
  have bp:=Jt u
  have hl:=h.l
  refine sb (new:=Uh q) (s6.fC O) rfl rfl rfl (Po q) (by omega) (by decide) λp' c' bA a0 aw aC=>?_
  have z6:=(I.dF au).size
  have bB:=av.size
  have bC:=eR b6
  have a5:=aw.fi (b6.fC O) λw=>by have:=hp _ w;omega
  refine hP (o:=3) a5 (by simp[OD]) λbD a6 ax=>?_
  have ay:∀k,eB p' k->Array.size H2<k:=λk w=>(aC k w).elim (hp k) λh=>by have:=O.size;omega
  refine⟨N.length,by simp,u++[q],N,p',c',by simp,rfl,?_,?_,?_,ay,?_⟩
  .have:nz (u++[q])=nz u++nz [q]:=by unfold nz;simp
   have e2:=congrArg List.length (xI q [] [])
   have e3:nz ([]:List (By×By×By))=[]:=rfl
   simp only[e3,List.append_nil,List.length_cons,List.length_append,List.length_nil] at e2
   rw[this,List.length_append,e2]
   have ez:n+1+nm.length+(nz u).length+([32]:By).length+((oY q).length+(yB q).length+3)=n+1+nm.length+((nz u).length+((oY q).length+((yB q).length+(0+1)+1+1)+1)):=by simp only[List.length_cons,List.length_nil];omega
   first|rw[<-ez]|(simp only[List.length_cons,List.length_nil] at ez⊢;rw[<-ez])
   rfl
  .rw[uq,a6];simp[OD]
  .rw[List.length_append]
   have:=a0.eO ax λk w e=>by have:=ay k w;omega
   rwa[Kb] at this
  .exact((f6.dF O).fresh aw λk w=>by have:=hp k w;omega).fresh ax λi hi=>by omega
end Go.Proofs.fv
namespace Go.Ex
inductive Pc:By->Int->By->By->List (By×By×By)->Bool->Prop where
 |start {nm:By} {al:List (By×By×By)} (e:Bool) (hn:nm∈OH) (ha:∀q∈al,q∈qK):Pc (60::(nm++(nz al++C8 e))) 2 nm [] al e
 |stop {nm:By} (hn:nm∈OH):Pc ([60,47]++(nm++[62])) 3 nm [] [] false
 |XU {x:By} (hx:pG x [45,45]=true):Pc ([60,33,45,45]++(x++[45,45,62])) 4 [] x [] false
 |pi {q:By×By} (hq:q∈Vc):Pc ([60,63]++(q.1++(OG q.2++[63,62]))) 5 q.1 q.2 [] false
 |ref {q:By×By} (hq:q∈Qg):Pc (38::(q.1++[59])) 8 q.1 [] [] false
 |cr:Pc [38,35,49,51,59] 7 [] [13] [] false
 |iV {x:By} (hx:x∈Uj):Pc x 1 [] x [] false
theorem G4:∀s∈OH,(∀c∈s,SL c)/\s.headD 0≠33/\s.headD 0≠63/\s.headD 0≠47/\s≠[]:=by decide
theorem WX(c:UInt8)(l:By):bt (eJ (c::l)) 0=(c.toNat:Int):=by
 have:=DW (s:=eJ (c::l)) (i:=0) (by rw[fc];simp)
 simp only[iM,List.getElem_cons_zero] at this
 exact this
end Go.Ex
namespace Go.Proofs.fv
open Go.Ex Go.X
variable {H:dw}
theorem SD(ht:gG H){S:By}{n:Nat}{w r:By}{k:Int}{nm tx:By}{al:List (By×By×By)}{e:Bool}(hp:Pc w k nm tx al e)(h:TA S n (w++r))(hr:k=1->BG (λc=>c=60\/c=38) r/\r≠[]/\Lg (w++r)){R:RM}
 (hR:∀p c H',jK 2 H' gx (tT al) p al.length c->(∀b,eB p b->Array.size H<=b)->Fr fa H H'->R k (eJ nm) (eJ tx) p al.length c e ((n+w.length:Nat):Int) true H'):nE.C (eJ S) (n:Int) H R:=by
 apply nE.calls
 unfold nE.W
 have hs:=h.sz
 have f1:=Fr.new H #[.int .i64 0,.string eS,.string eS,.slice none 0 0,.bool false] eX
 have t1:=eH ht f1
 refine eZ ⟨by omega,by omega,?_⟩
 rw[Int.toNat_natCast,h.ext]
 have am:∀{u:dw}{p:dC}{c z:Nat},Fr fa (eP H #[.int .i64 0,.string eS,.string eS,.slice none 0 0,.bool false] eX) u->jK 2 u gx (tT al) p al.length c->(∀b,eB p b->Array.size H<b)->z=n+w.length->
  lj [.int .i64 k,.string (eJ nm),.string (eJ tx),.slice p al.length c,.bool e] ⟨Array.size H,0,none⟩ 0 u λH4=>fq H4 ⟨Array.size H,0,none⟩ λae af ag N O Y ah=>R ae af ag N O Y ah (z:Int) true H4:=λf s hb hz=>by
  subst hz
  exact ke f k nm tx _ _ _ e λH' b f' g'=>b.ld (hR _ _ H' (s.eO g' λj hj e=>by have:=hb j hj;omega) (λj hj=>Nat.le_of_lt (hb j hj)) f')
 have I:∀{u:dw}{z:Nat},al=[]->e=false->Fr fa (eP H #[.int .i64 0,.string eS,.string eS,.slice none 0 0,.bool false] eX) u->z=n+w.length->
  lj [.int .i64 k,.string (eJ nm),.string (eJ tx),.slice none 0 0,.bool false] ⟨Array.size H,0,none⟩ 0 u λH4=>fq H4 ⟨Array.size H,0,none⟩ λae af ag N O Y ah=>R ae af ag N O Y ah (z:Int) true H4:=λha he f hz=>by
  subst ha he
  exact am f (jK.nil _ _ _) (λb hb=>absurd hb (fm b)) hz
 cases hp with
 |XU hx=>
  refine iy _ [60,33,45,45] (eN rfl (Hr t1 r (by simpa using h) hx λu f2=>I rfl rfl f2 (by simp)))
 |pi hq=>
  refine iy _ [60,33,45,45] (dH rfl (iy _ [60,33,91,67,68,65,84,65,91] (dH rfl (iy _ [60,63] (eN rfl (Vb t1 hq r (by simpa using h) λu f2=>I rfl rfl f2 (by simp;omega)))))))
 |@stop nm hn=>
  refine iy _ [60,33,45,45] (dH rfl (iy _ [60,33,91,67,68,65,84,65,91] (dH rfl (iy _ [60,63] (dH rfl (iy _ [60,47] (eN rfl (TB t1 r (nm:=nm) (by simpa using h) hn (G4 _ hn).1 λu f2=>I rfl rfl f2 (by simp)))))))))
 |@start nm al e hn ha=>
  obtain⟨h1,h2,h3,h4,h5⟩:=G4 _ hn
  obtain⟨x,y,rfl⟩:∃x y,nm=x::y:=by cases nm with|nil=>exact absurd rfl h5|cons x y=>exact⟨x,y,rfl⟩
  have g2:x≠33:=h2
  have g3:x≠63:=h3
  have g4:x≠47:=h4
  have Z:∀(a:UInt8)(m:By),x≠a->(60::a::m).isPrefixOf (60::(x::y++(nz al++C8 e))++r)=false:=λa m ha=>by simp[List.isPrefixOf,Ne.symm ha]
  refine iy _ [60,33,45,45] (dH (Z _ _ g2) (iy _ [60,33,91,67,68,65,84,65,91] (dH (Z _ _ g2) (iy _ [60,63] (dH (Z _ _ g3) (iy _ [60,47] (dH (Z _ _ g4) ⟨by omega,by rw[fc];simp;omega,?_⟩)))))))
  rw[show(60::(x::y++(nz al++C8 e))++r:By)=60::((x::y++(nz al++C8 e))++r) from rfl,WX]
  refine fD rfl (Ah t1 (S:=S) (nm:=x::y) (al:=al) hn h1 ha e r (by simpa using h) λp c u s2 b2 f2=>am f2 s2 (λb hb=>by have:=b2 b hb;rw[gi] at this;omega) (by simp;omega))
 |@ref q hq=>
  refine iy _ [60,33,45,45] (dH rfl (iy _ [60,33,91,67,68,65,84,65,91] (dH rfl (iy _ [60,63] (dH rfl (iy _ [60,47] (dH rfl ⟨by omega,by rw[fc];simp;omega,?_⟩)))))))
  rw[show(38::(q.1++[59])++r:By)=38::((q.1++[59])++r) from rfl,WX]
  exact eI (by decide) ⟨by omega,by rw[fc];simp;omega,fD rfl (Sk t1 hq r (by simpa using h) λu f2=>I rfl rfl f2 (by simp))⟩
 |cr=>
  refine iy _ [60,33,45,45] (dH rfl (iy _ [60,33,91,67,68,65,84,65,91] (dH rfl (iy _ [60,63] (dH rfl (iy _ [60,47] (dH rfl ⟨by omega,by rw[fc];simp;omega,?_⟩)))))))
  rw[show([38,35,49,51,59]++r:By)=38::([35,49,51,59]++r) from rfl,WX]
  exact eI (by decide) ⟨by omega,by rw[fc];simp;omega,fD rfl (My t1 r h λu f2=>I rfl rfl f2 rfl)⟩
 |@iV tx hx=>
  obtain⟨h1,h2,h3⟩:=hr rfl
  obtain⟨c,t,rfl,hc⟩:=h1.resolve_left h2
  obtain⟨c1,c2,c3⟩:=yg w hx
  obtain⟨x,y,rfl⟩:∃x y,w=x::y:=by cases w with|nil=>exact absurd rfl c2|cons x y=>exact⟨x,y,rfl⟩
  have c1:=c1 x (by simp)
  have Z:∀(m:By),(60::m).isPrefixOf (x::y++c::t)=false:=λm=>by simp[List.isPrefixOf,Ne.symm c1.1]
  refine iy _ [60,33,45,45] (dH (Z _) (iy _ [60,33,91,67,68,65,84,65,91] (dH (Z _) (iy _ [60,63] (dH (Z _) (iy _ [60,47] (dH (Z _) ⟨by omega,by rw[fc];simp;omega,?_⟩)))))))
  have ne:∀a:UInt8,x≠a->¬((x.toNat:Int)=(a.toNat:Int)):=λa ha e=>ha (UInt8.toNat_inj.1 (by omega))
  rw[show(x::y++c::t:By)=x::(y++c::t) from rfl,WX]
  exact eI (ne 60 c1.1) ⟨by omega,by rw[fc];simp;omega,eI (ne 38 c1.2) (MK t1 hx c t hc h h3 λu f2=>I rfl rfl f2 rfl)⟩
theorem xQ(Z:gG H){S:By}{n:Nat}{w r:By}{k:Int}{nm u:By}{al:List (By×By×By)}{e:Bool}(N:Pc w k nm u al e)(h:TA S n (w++r))(hr:k=1->BG (λc=>c=60\/c=38) r/\r≠[]/\Lg (w++r))
 {R:Int->dE->dE->dC->Nat->Nat->Bool->Int->Int->dw->Prop}
 (hR:∀p c H',jK 2 H' gx (tT al) p al.length c->(∀b,eB p b->Array.size H<=b)->Fr fa H H'->R k (eJ nm) (eJ u) p al.length c e ((n+w.length:Nat):Int) 0 H'):j8.C (eJ S) (n:Int) H R:=by
 apply j8.calls
 unfold j8.W
 have hs:=h.sz
 have hl:0<w.length:=by
  cases N with
  |iV hx=>exact List.length_pos_iff.2 (yg _ hx).2.1
  |_=>simp
 rw[List.length_append] at hs
 have f1:=Fr.new H #[.int .i64 0,.string eS,.string eS,.slice none 0 0,.bool false] eX
 have l1:Array.size (eP H #[.int .i64 0,.string eS,.string eS,.slice none 0 0,.bool false] eX)=Array.size H+1:=gi
 refine eZ (dD (λ_ H'=>eP H #[.int .i64 0,.string eS,.string eS,.slice none 0 0,.bool false] eX=H') (dD (λs H'=>s=(false,())/\eP H #[.int .i64 0,.string eS,.string eS,.slice none 0 0,.bool false] eX=H') (eI (by omega) ⟨?_,rfl⟩) ?_) ?_)
 .rw[decide_eq_false (by omega)]
 .rintro _ _ ⟨rfl,rfl⟩
  exact dH rfl (eI (by omega) rfl)
 rintro _ _ rfl
 refine SD (eH Z f1) N h hr λp c H4 s4 O f4=>eZ (ke (Fr.refl _ _) k nm u p _ c e λH6 b6 Y g6=>dH rfl (b6.ld ?_))
 have s6:=s4.fC Y
 exact ke (f4.dF Y) k nm u p _ c e λH7 b7 f7 g7=>b7.ld (hR p c H7 (s6.eO g7 λj I e=>by have:=O j I;omega) (λj I=>by have:=O j I;omega) f7)
end Go.Proofs.fv
namespace Go.Ex
def v8(a:At):List dB:=[.string (eJ a.p),.string (eJ a.l),.string (eJ a.u),.string (eJ a.v)]
def gk(l:List At):List dB:=(l.map v8).flatten
theorem zJ(l:List At):∀x∈l.map v8,x.length=4:=λx h=>by obtain⟨a,_,rfl⟩:=List.mem_map.1 h;rfl
theorem sU(a:At):∀v∈v8 a,One v:=by
 intro v h
 simp only[v8,List.mem_cons,List.not_mem_nil,or_false] at h
 rcases h with rfl|rfl|rfl|rfl<;>exact⟨by simp,by simp⟩
theorem sa(l:List At)(a:At):gk l++v8 a=gk (l++[a]):=by unfold gk;simp
theorem eY.eO{F:Nat->Prop}{H H':dw}{p:dC}{xs:List dB}(h:eY H p xs)(f:Fr F H H')(u:∀k,eB p k->¬F k):eY H' p xs:=by
 cases p with
 |none=>exact h
 |some a=>exactλj v w=>f.cell (h j v w) (by rw[kO];exact u _ ⟨a,rfl,rfl⟩)
theorem eY.fC{H H':dw}{p:dC}{xs:List dB}(h:eY H p xs)(f:Fr fa H H'):eY H' p xs:=h.eO f λ_ _ h=>h
theorem eY.elem{s:Nat}{H:dw}{p:dC}{L:List (List dB)}(h:eY H p L.flatten)(w:∀x∈L,x.length=s)(N:0<s){i:Nat}(hi:i<L.length):∃a,p=some a/\∀j,j<s->dL H ((a.add (i*s)).add j)=L[i][j]?:=by
 have I:=oN L w
 have O:i*s<L.length*s:=Nat.mul_lt_mul_of_pos_right hi N
 cases p with
 |none=>
  have W:L.flatten=[]:=h
  rw[W] at I
  simp only[List.length_nil] at I
  omega
 |some a=>
  refine⟨a,rfl,λj Y=>?_⟩
  have e:=Np L w hi Y
  have Z:=w _ (List.getElem_mem hi)
  have u:i*s+j<L.flatten.length:=by
   rw[I]
   have:(i+1)*s<=L.length*s:=Nat.mul_le_mul_right s hi
   rw[Nat.succ_mul] at this
   omega
  rw[Addr.add_add,h (i*s+j) _ (List.getElem?_eq_getElem u),<-e,List.getElem?_eq_getElem u]
theorem kj{H:dw}{p:dC}{l:List At}(h:eY H p (gk l)){i:Nat}(hi:i<l.length):∃a,p=some a/\∀j,j<4->dL H ((a.add (i*4)).add j)=(v8 l[i])[j]?:=by
 obtain⟨a,u,w⟩:=eY.elem h (zJ l) (by decide) (i:=i) (by simpa using hi)
 exact⟨a,u,λj I=>by rw[w j I,List.getElem_map]⟩
structure OB(a:At):Prop where
 m:(a.p,a.l,a.v)∈qK
 u:a.u=Im a.p a.l
def mf(a:At):Bool:=lN a.p a.l
def Fa(pre:By)(d:List At):Option By:=(d.find? λa=>vb a.p a.l==pre).map At.v
def Ga(pre:By)(L:List (List At)):Option By:=L.reverse.findSome? (Fa pre)
theorem E9(pre:By)(L:List (List At))(d:List At):Ga pre (L++[d])=(Fa pre d).or (Ga pre L):=by
 unfold Ga
 rw[List.reverse_append,List.reverse_singleton,List.singleton_append,List.findSome?_cons]
 cases Fa pre d<;>rfl
def kC(pre:By)(L:List (List At)):By×Bool:=match Ga pre L with
 |some v=>(v,true)
 |none=>bif pre==JC then(uX,true) else([],pre==[])
structure Lv where
 d:List At
 q:dC
 c:Nat
structure sY(T E:eK)(w:dC->Nat->Nat->dB)(H:dw)(g:Nat)(F:Nat->Prop)(L:List Lv)(p:dC)(c:Nat):Prop where
 hg:H[g]?=some (.cells #[.slice p L.length c] T (0,0))
 hs:Sl H E (L.map λx=>w x.q x.d.length x.c) p L.length c
 hq:∀x∈L,eY H x.q (gk x.d)/\(∀k,eB x.q k->F k/\k≠g/\¬eB p k)/\(∀a∈x.d,OB a/\mf a=true)/\x.d.length<=6
 hp:∀k,eB p k->F k/\k≠g
 hf:F g
 hl:∀k,F k->k<Array.size H
theorem sY.eO{T E:eK}{w:dC->Nat->Nat->dB}{H H':dw}{g:Nat}{F G:Nat->Prop}{L:List Lv}{p:dC}{c:Nat}(h:sY T E w H g F L p c)(hf:Fr G H H')(I:∀k,F k->¬G k):sY T E w H' g F L p c:=
 ⟨hf.fi h.hg (I _ h.hf),h.hs.eO hf λk u=>I _ (h.hp k u).1,λx N=>⟨(h.hq x N).1.eO hf λk u=>I _ ((h.hq x N).2.1 k u).1,(h.hq x N).2⟩,h.hp,h.hf,λk u=>Nat.lt_of_lt_of_le (h.hl k u) hf.size⟩
theorem sY.fC{T E:eK}{w:dC->Nat->Nat->dB}{H H':dw}{g:Nat}{F:Nat->Prop}{L:List Lv}{p:dC}{c:Nat}(h:sY T E w H g F L p c)(hf:Fr fa H H'):sY T E w H' g F L p c:=h.eO hf λ_ _ h=>h
end Go.Ex
namespace Go.Proofs.fv
open Go.Ex Go.X
theorem rf.ld{H:dw}{x:dA}{a:At}(h:∀j,j<4->dL H (x.add j)=(v8 a)[j]?){K:dE->dE->dE->dE->Prop}(w:K (eJ a.p) (eJ a.l) (eJ a.u) (eJ a.v)):kg H x K:=G7 _ _ _ _ h w
abbrev rf(H:dw)(b:Nat)(a:At):Prop:=H[b]?=some (.cells (v8 a).toArray eF (0,0))
theorem rf.at{H:dw}{b:Nat}{a:At}(h:rf H b a)(j:Nat):dL H ((⟨b,0,none⟩:dA).add j)=(v8 a)[j]?:=eD h j
theorem sT{H:dw}(a:At){K:dw->Prop}(h:∀H',rf H' (Array.size H) a->Fr fa H H'->K H'):
 eG (eP H #[.string dM,.string dM,.string dM,.string dM] eF) λw=>lj [.string (eJ a.p),.string (eJ a.l),.string (eJ a.u),.string (eJ a.v)] ⟨Array.size H,0,none⟩ 0 w K:=
 eZ (mP (cs:=#[.string eS,.string eS,.string eS,.string eS]) (t:=eF) (vs:=v8 a) (Fr.refl fa _) rfl λH' b f _=>h H' b f)
theorem JA{H:dw}(w:gG H){a:At}(h:OB a){R:dE->Bool->dw->Prop}(I:∀H',Fr fa H H'->R (eJ (bif mf a then vb a.p a.l else[])) (mf a) H'):nY.C (eJ a.p) (eJ a.l) (eJ a.u) (eJ a.v) H R:=by
 have:=F7 w h.m (R:=R) I
 rw[h.u]
 exact this
abbrev zd:=sY tN nw λq n c=>.iface iW (.slice q n c)
variable {H:dw} {g:Nat} {F:Nat->Prop} {L:List Lv} {p:dC} {c:Nat}
theorem Bp{R:dC->dw->Prop}(u:∀H',zd H' (Array.size H) (λk=>k=Array.size H) [] none 0->Fr fa H H'->R (some ⟨Array.size H,0,none⟩) H'):kN.C H R:=by
 apply kN.calls
 unfold kN.W
 exact eZ (u _ ⟨eU,Sl.nil _ _,(λx w=>by cases w),λk h=>absurd h (fm k),rfl,λk h=>by rw[gi];omega⟩ (Fr.new _ _ _))
theorem F5(h:zd H g F L p c){R:Int->dw->Prop}(u:R (L.length:Int) H):iA.C (some ⟨g,0,none⟩) H R:=by
 apply iA.calls
 unfold iA.W
 exact dH rfl ⟨_,rfl,_,_,_,(dO h.hg 0 0).trans rfl,eZ u⟩
theorem M7(h:zd H g F L p c){k:Nat}(u:k<L.length){R:dC->Nat->Nat->dw->Prop}(w:R L[k].q L[k].d.length L[k].c H):iQ.C (some ⟨g,0,none⟩) (k:Int) H R:=by
 apply iQ.calls
 unfold iQ.W
 obtain⟨a,rfl,I⟩:=h.hs.rd.get (i:=k) (v:=.iface iW (.slice L[k].q L[k].d.length L[k].c)) (by simp[u])
 exact⟨_,rfl,_,_,_,(dO h.hg 0 0).trans rfl,a,rfl,by omega,by omega,_,I,_,_,_,true,.inl ⟨rfl,rfl⟩,w⟩
theorem Of(ht:gG H)(h:zd H g F L p c)(hl:L.length<=1048577)(pre:By){R:dE->Bool->dw->Prop}(w:∀H',Fr fa H H'->R (eJ (kC pre (L.map Lv.d)).1) (kC pre (L.map Lv.d)).2 H'):jc.C (some ⟨g,0,none⟩) (eJ pre) H R:=by
 apply jc.calls
 unfold jc.W
 refine dH rfl (dD (λ_ H'=>Fr fa H H'/\Ga pre (L.map Lv.d)=none) ?_ ?_)
 .refine⟨_,rfl,_,_,_,(dO h.hg 0 0).trans rfl,eZ ?_⟩
  rw[mR (by omega) (by omega)]
  refine eW (λt(q:Int×Unit) H'=>Fr fa H H'/\t<=L.length/\q.1=(t:Int)-1/\Ga pre (L.map Lv.d)=Ga pre ((L.map Lv.d).take t)) L.length ⟨Fr.refl _ _,Nat.le_refl _,rfl,by rw[List.take_of_length_le (by simp)]⟩ ?_
  rintro t ⟨_,_⟩ H' ⟨f,aw,rfl,O⟩
  refine eE (λN=>?_) λN=>⟨f,?_⟩
  .have N:0<t:=by have N:(0:Int)<=(t:Int)-1:=N;omega
   obtain⟨t,rfl⟩:∃s,t=s+1:=⟨t-1,by omega⟩
   have Z:t<L.length:=by omega
   have et:((t+1:Nat):Int)-1=(t:Int):=by omega
   have ai:(L.map Lv.d).take (t+1)=(L.map Lv.d).take t++[L[t].d]:=by rw[List.take_add_one];simp[Z]
   rw[ai,E9] at O
   have hq:=h.hq L[t] (List.getElem_mem _)
   show eA (S:=Unit) _ _
   refine dD (λ_ H'=>Fr fa H H'/\Fa pre L[t].d=none) ?_ ?_
   .rw[et]
    refine M7 (h.fC f) Z (eW (λm(q:Int×Unit) H2=>∃i:Nat,q.1=(i:Int)/\i<=L[t].d.length/\m=L[t].d.length-i/\Fr fa H H2/\Fa pre L[t].d=Fa pre (L[t].d.drop i)) L[t].d.length ⟨0,rfl,by omega,rfl,f,rfl⟩ ?_)
    rintro m ⟨_,_⟩ H2 ⟨i,rfl,hi,rfl,f2,Y⟩
    refine eE (λI=>?_) λI=>⟨f2,?_⟩
    .have I:i<L[t].d.length:=by have I:(i:Int)<(L[t].d.length:Int):=I;omega
     obtain⟨a,ha,aa⟩:=kj (hq.1.fC f2) I
     obtain⟨hm,ab⟩:=hq.2.2.1 _ (List.getElem_mem I)
     have ak:L[t].d.drop i=L[t].d[i]::L[t].d.drop (i+1):=List.drop_eq_getElem_cons I
     rw[ak] at Y
     generalize L[t].d[i]=u at aa hm ab Y
     refine⟨a,ha,by omega,by omega,rf.ld (a:=u) (by rw[Int.toNat_natCast];exact aa) (sT u λH7 b7 f7=>rf.ld (λj _=>b7.at j) (JA (eH ht (f2.dF f7)) hm λH8 f8=>?_))⟩
     rw[ab]
     refine eE (λe=>?_) λe=>⟨L[t].d.length-(i+1),by omega,i+1,?_,by omega,rfl,(f2.dF f7).dF f8,?_⟩
     .have e:vb u.p u.l=pre:=gm e
      have b8:rf H8 (Array.size H2) u:=f8.fi b7 λh=>h
      refine⟨_,b8.at 3,?_⟩
      have hv:Fa pre L[t].d=some u.v:=by rw[Y];unfold Fa;rw[List.find?_cons_of_pos (by simpa using e)];rfl
      have w:=w H8 ((f2.dF f7).dF f8)
      unfold kC at w
      rw[O,hv] at w
      exact w
     .show IntKind.i64.wrap ((i:Int)+1)=_
      exact qN i (by have:=hq.2.2.2;omega)
     .have e:vb u.p u.l≠pre:=λh=>e (by rw[h];rfl)
      rw[Y];unfold Fa;rw[List.find?_cons_of_neg (by simpa using e)]
    .have I:i=L[t].d.length:=by have I:¬(i:Int)<(L[t].d.length:Int):=I;omega
     rw[Y,I,List.drop_length]
     rfl
   .rintro _ H3 ⟨f3,hn⟩
    refine eZ ⟨t,by omega,f3,by omega,?_,?_⟩
    .show IntKind.i64.wrap (((t+1:Nat):Int)-1-1)=(t:Int)-1
     rw[mR (by omega) (by omega)];omega
    .rw[O,hn];rfl
  .have N:t=0:=by have N:¬(0:Int)<=(t:Int)-1:=N;omega
   rw[O,N]
   rfl
 .rintro _ H' ⟨f,hn⟩
  have w:=w H' f
  unfold kC at w
  rw[hn] at w
  refine eE (λhx=>?_) λhx=>?_
  .have:pre=JC:=gm hx
   subst this
   exact w
  .have ao:(pre==JC)=false:=by rw[beq_eq_false_iff_ne];exactλe=>hx (by rw[e];rfl)
   rw[ao] at w
   have e:decide (eJ pre=dM)=(pre==[]):=by
    by_cases e:pre=[]
    .subst e;rfl
    .rw[decide_eq_false (p:=eJ pre=dM) (λh=>e (gm (b:=[]) h)),beq_eq_false_iff_ne.2 e]
   rw[e]
   exact w
end Go.Proofs.fv
namespace Go.Ex
def j4(a:At):By×By:=(a.p,a.l)
end Go.Ex
namespace Go.Proofs.fv
open Go.Ex Go.X
theorem GU{A B:Prop}(h:B):Sn (.bool false) A B:=dH (A:=A) rfl h
theorem Qy:Mk Tryz.prog 4=.one .bool:=by kernel_rfl
set_option maxRecDepth 100000 in
theorem FI{f:Nat}{u:Func}(w:Tryz.prog.funcs[f]?=some u)(I:u.body.isSome=true)(N:u.resultTypes.toList=[4]){vs cap:List dB}{H:dw}{K:dB->dw->Prop}
 (h:Ex.Fn Tryz.prog f (vs++cap).toArray H λv H'=>∃r:Bool,v=.bool r/\K (.bool r) H'):Bg Tryz.prog (.func (.func f) #[] cap.toArray) vs H K:=by
 show FH Tryz.prog f (([]:List dB)++vs++cap.toArray.toList).toArray H K
 unfold FH
 rw[w]
 simp only[I,cond_true,List.nil_append]
 rw[N]
 refine h.mono λv H'⟨r,O,W⟩=>?_
 unfold GP
 simp only[Qy]
 exact⟨r,O,W⟩
set_option maxRecDepth 100000 in
theorem KV{vs cap:List dB}{H:dw}{K:dB->dw->Prop}(h:Ex.Fn Tryz.prog 184 (vs++cap).toArray H λv H'=>∃r:Bool,v=.bool r/\K (.bool r) H'):Bg Tryz.prog (.func (.func 184) #[] cap.toArray) vs H K:=
 FI Tryz.func184 (by kernel_rfl) (by kernel_rfl) h
set_option maxRecDepth 100000 in
theorem KW{vs cap:List dB}{H:dw}{K:dB->dw->Prop}(h:Ex.Fn Tryz.prog 130 (vs++cap).toArray H λv H'=>∃r:Bool,v=.bool r/\K (.bool r) H'):Bg Tryz.prog (.func (.func 130) #[] cap.toArray) vs H K:=
 FI Tryz.func130 (by kernel_rfl) (by kernel_rfl) h
theorem Ua{H:dw}{b:Nat}{a m:At}(O:rf H b a)(Y:j4 a≠j4 m){R:Bool->dw->Prop}(w:∀H',Fr fa H H'->R false H'):jh.C (eJ m.p) (eJ m.l) (eJ m.u) (eJ m.v) ⟨b,0,none⟩ H R:=by
 apply jh.calls
 unfold jh.W
 have f1:=Fr.new H (v8 m).toArray eF
 have I:rf (eP H (v8 m).toArray eF) b a:=f1.fi O λh=>h
 have N:rf (eP H (v8 m).toArray eF) (Array.size H) m:=eU
 refine eZ ⟨_,I.at 0,_,N.at 0,eE (λe=>⟨_,I.at 1,_,N.at 1,?_⟩) λ_=>w _ f1⟩
 show R (decide (eJ a.l=eJ m.l)) _
 rw[decide_eq_false λZ=>Y (by unfold j4;rw[gm e,gm Z])]
 exact w _ f1
theorem Q1{H:dw}{b:Nat}{a m:At}(O:rf H b a)(Y:j4 a≠j4 m){R:Bool->dw->Prop}(w:∀H',Fr fa H H'->R false H'):kD.C (eJ m.p) (eJ m.l) (eJ m.u) (eJ m.v) ⟨b,0,none⟩ H R:=by
 apply kD.calls
 unfold kD.W
 have f1:=Fr.new H (v8 m).toArray eF
 have I:rf (eP H (v8 m).toArray eF) b a:=f1.fi O λh=>h
 have N:rf (eP H (v8 m).toArray eF) (Array.size H) m:=eU
 refine eZ ⟨_,I.at 0,_,N.at 0,eE (λe=>⟨_,I.at 1,_,N.at 1,?_⟩) λ_=>w _ f1⟩
 show R (decide (eJ a.l=eJ m.l)) _
 rw[decide_eq_false λZ=>Y (by unfold j4;rw[gm e,gm Z])]
 exact w _ f1
theorem RN{H:dw}{q:dC}{c:Nat}{m:List At}(N:eY H q (gk m))(hl:m.length<=100){cl:dB}(O:∀a∈m,∀H',Fr fa H H'->∀K:dB->dw->Prop,(∀I,Fr fa H' I->K (.bool false) I)->Bg Tryz.prog cl [.agg #[.string (eJ a.p),.string (eJ a.l),.string (eJ a.u),.string (eJ a.v)]] H' K)
 {R:Bool->dw->Prop}(Y:∀H',Fr fa H H'->R false H'):kl.C q m.length c cl H R:=by
 apply kl.calls
 unfold kl.W
 apply mc.calls
 unfold mc.W
 refine dD (λ_ H'=>Fr fa H H') (eW (λt(s:Int×Unit) H'=>∃i:Nat,s.1=(i:Int)/\i<=m.length/\t=m.length-i/\Fr fa H H') m.length ⟨0,rfl,by omega,rfl,Fr.refl _ _⟩ ?_) λ_ H' f=>Y H' f
 rintro t ⟨_,_⟩ H' ⟨i,rfl,hi,rfl,f⟩
 refine eE (λh=>?_) λ_=>f
 have h:i<m.length:=by have h:(i:Int)<(m.length:Int):=h;omega
 obtain⟨a,Z,w⟩:=kj (N.fC f) h
 refine⟨a,Z,by omega,by omega,_,w 0 (by decide),_,w 1 (by decide),_,w 2 (by decide),_,w 3 (by decide),O _ (List.getElem_mem h) H' f _ λI f2=>?_⟩
 exact GU ⟨m.length-(i+1),by omega,i+1,qN i (by omega),by omega,rfl,f.dF f2⟩
variable {H:dw} {g:Nat} {F:Nat->Prop} {L:List Lv} {p:dC} {c:Nat}
theorem sY.pop{T E:eK}{w:dC->Nat->Nat->dB}{x:Lv}(h:sY T E w H g F (L++[x]) p c){K:dw->Prop}(Z:∀H',sY T E w H' g F L p c->Fr (λk=>k=g) H H'->K H'):
 j0 (.slice p L.length c) ((⟨g,0,none⟩:dA).add 0) H K:=by
 refine Da h.hg (by simp) λH1 k1 f1=>Z H1 ⟨by rw[k1];simp,?_,λy hy=>?_,h.hp,h.hf,λk u=>Nat.lt_of_lt_of_le (h.hl k u) f1.size⟩ f1
 .have hs:=h.hs.eO f1 λk u=>(h.hp k u).2
  refine⟨by simp,?_⟩
  rcases hs.2 with⟨_,N,_⟩|⟨b,cs,hp,hb,O,W,I⟩
  .simp at N
  .rw[List.length_append] at W I
   refine .inr ⟨b,cs,hp,hb,O,by omega,λi hi=>?_⟩
   rw[I i (by omega),List.map_append,List.getElem?_append_left (by simpa using hi)]
 .obtain⟨q1,Y,q3⟩:=h.hq y (List.mem_append_left _ hy)
  exact⟨q1.eO f1 λk u=>(Y k u).2.1,Y,q3⟩
theorem HI{x:Lv}(h:zd H g F (L++[x]) p c)(Y:L.length<=1048576){R:Bool->dw->Prop}(N:∀H',zd H' g F L p c->Fr (λk=>k=g) H H'->R true H'):gW.C (some ⟨g,0,none⟩) H R:=by
 apply gW.calls
 unfold gW.W
 refine F5 h ?_
 have w:=(dO h.hg 0 0).trans rfl
 have I:=h.hs.cap
 have u:(L++[x]).length=L.length+1:=by simp
 rw[u] at I
 rw[u] at w⊢
 refine eI (by omega) ⟨_,rfl,_,_,_,w,_,rfl,_,_,_,w,?_⟩
 have O:IntKind.i64.wrap (((L.length+1:Nat):Int)-1)=(L.length:Int):=by rw[mR (by omega) (by omega)];omega
 dsimp only
 rw[O]
 refine⟨by omega,by omega,_,rfl,?_⟩
 rw[Qp,Int.toNat_natCast,Nat.sub_zero,Nat.sub_zero]
 exact sY.pop h λH' s f=>N H' s f
theorem sY.push{T E:eK}{w:dC->Nat->Nat->dB}(h:sY T E w H g F L p c)(hl:L.length<=1048576){d:List At}{q:dC}{n:Nat}(hd:eY H q (gk d))(hq:∀k,eB q k->Array.size H<=k\/¬F k/\k<Array.size H)(Z:∀k,eB q k->k<Array.size H)(ad:∀a∈d,OB a/\mf a=true)(ae:d.length<=6){bytes t1:Nat}{z:dB}
 (hz:gH z=[z])(hw:∀q n c,One (w q n c))(hb:bytes<=100000)(af:bytes≠0){K:dw->Prop}
 (hK:∀F' O c' H',sY T E w H' g F' (L++[⟨d,q,n⟩]) O c'->Fr F H H'->(∀k,F' k->F k\/eB q k\/Array.size H<=k)->K H'):
 eG (eP H #[w q d.length n] t1) λH1=>ji E 1 bytes z p L.length c (.slice (some ⟨Array.size H,0,none⟩) 1 1) H1 λO l' c' H2=>∃y:dA,some (⟨g,0,none⟩:dA)=some y/\j0 (.slice O l' c') (y.add 0) H2 K:=by
 have aw:(L.length+1)*bytes<=1048577*100000:=Nat.mul_le_mul (by omega) hb
 refine Bk h.hs hz (hw _ _ _) (by omega) af λO c' H1 k1 f1 hp=>⟨_,rfl,?_⟩
 have g1:=f1.fi h.hg λu=>(h.hp _ u).2 rfl
 have ax:=h.hl _ h.hf
 have ab:∀k,eB O k->k≠g:=λk u=>by
  rintro rfl
  rcases hp _ u with N|N
  .exact(h.hp _ N).2 rfl
  .omega
 refine Da g1 (by simp) λH2 k2 f2=>hK (λk=>F k\/eB O k\/eB q k) O c' H2 ⟨by rw[k2];simp,?_,λx W=>?_,λk u=>⟨.inr (.inl u),ab k u⟩,.inl h.hf,λk u=>?_⟩ ?_ λk u=>?_
 .have:=k1.eO f2 ab
  rw[List.map_append,List.length_append]
  exact this
 .rcases List.mem_append.1 W with W|W
  .obtain⟨q1,Y,q3⟩:=h.hq x W
   refine⟨(q1.eO f1 λk u=>(Y k u).2.2).eO f2 λk u=>(Y k u).2.1,λk u=>⟨.inl (Y k u).1,(Y k u).2.1,λN=>?_⟩,q3⟩
   rcases hp k N with I|I
   .exact(Y k u).2.2 I
   .have:=h.hl _ (Y k u).1;omega
  .rw[List.mem_singleton] at W
   subst W
   have nF:∀k,eB q k->¬F k:=λk u hf=>by
    rcases hq k u with I|I
    .have:=Z k u;omega
    .exact I.1 hf
   refine⟨(hd.eO f1 λk u N=>nF k u (h.hp k N).1).eO f2 λk u e=>nF k u (e▸h.hf),λk u=>⟨.inr (.inr u),λe=>nF k u (e▸h.hf),λN=>?_⟩,ad,ae⟩
   rcases hp k N with I|I
   .exact nF k u (h.hp k I).1
   .have:=Z k u;omega
 .rcases u with u|u|u
  .exact Nat.lt_of_lt_of_le (h.hl k u) (Nat.le_trans f1.size f2.size)
  .exact Nat.lt_of_lt_of_le (k1.gE u) f2.size
  .exact Nat.lt_of_lt_of_le (Z k u) (Nat.le_trans f1.size f2.size)
 .exact(f1.mono λk u=>(h.hp k u).1).trans f2 λk u=>.inl (u▸h.hf)
 .rcases u with u|u|u
  .exact .inl u
  .exact(hp k u).imp (λI=>(h.hp k I).1) .inr
  .exact .inr (.inl u)
theorem QP(ht:gG H)(h:zd H g F L p c)(hl:L.length<=1048576){ap:dC}{ac ml:Nat}{al:List At}(aB:al.length=ml)(ha:eY H ap (gk al))(hm:∀a∈al,OB a)(hn:(al.map j4).Nodup)(h6:al.length<=6){R:Int->dw->Prop}
 (hR:∀F' p' c' q n H',zd H' g F' (L++[⟨al.filter mf,q,n⟩]) p' c'->Gr F F' H H'->R 0 H'):jj.C (some ⟨g,0,none⟩) ap ml ac H R:=by
 subst aB
 apply jj.calls
 unfold jj.W
 refine dH rfl (dD (λs H'=>∃q n,s=((q,(al.filter mf).length,n),())/\jK 4 H' eF (gk (al.filter mf)) q (al.filter mf).length n/\(∀k,eB q k->Array.size H<=k)/\Fr fa H H') ?_ ?_)
 .refine eW (λt s H'=>∃(i:Nat)(q:dC)(n:Nat),s=((q,((al.take i).filter mf).length,n),(i:Int),())/\i<=al.length/\t=al.length-i/\jK 4 H' eF (gk ((al.take i).filter mf)) q ((al.take i).filter mf).length n/\(∀k,eB q k->Array.size H<=k)/\Fr fa H H') al.length
   ⟨0,none,0,rfl,by omega,rfl,jK.nil _ _ _,λk w=>absurd w (fm k),Fr.refl _ _⟩ ?_
  rintro t _ H2 ⟨i,q,n,rfl,hi,rfl,s2,Y,f2⟩
  dsimp only
  refine eE (λI=>?_) λZ=>?_
  .have I:i<al.length:=by have I:(i:Int)<(al.length:Int):=I;omega
   have N:al.take (i+1)=al.take i++[al[i]]:=by rw[List.take_add_one];simp[I]
   obtain⟨a,aC,ak⟩:=kj (ha.fC f2) I
   have aa:=hm _ (List.getElem_mem I)
   have am:∀m∈al.take i,j4 al[i]≠j4 m:=λm hm e=>by
    have ao:(al.take i++[al[i]]).map j4=(al.map j4).take (i+1):=by rw[<-N,List.map_take]
    have:=(List.take_sublist (i+1) (al.map j4)).nodup hn
    rw[<-ao,List.map_append,List.nodup_append] at this
    exact this.2.2 _ (List.mem_map_of_mem hm) _ (by simp) e.symm
   generalize al[i]=x at N ak aa am
   refine dD (λs H'=>∃q n,s=((q,((al.take (i+1)).filter mf).length,n),())/\jK 4 H' eF (gk ((al.take (i+1)).filter mf)) q ((al.take (i+1)).filter mf).length n/\(∀k,eB q k->Array.size H<=k)/\Fr fa H H') ?_ ?_
   .refine⟨a,aC,by omega,by show(i:Int)<(al.length:Int);omega,rf.ld (a:=x) (by rw[Int.toNat_natCast];exact ak) (sT x λH5 b5 f5=>rf.ld (λj _=>b5.at j) (JA (eH ht (f2.dF f5)) aa λH6 f6=>?_))⟩
    have O:=f5.dF f6
    have b6:rf H6 (Array.size H2) x:=f6.fi b5 λh=>h
    cases hD:mf x with
    |false=>
     refine eN rfl ⟨q,n,?_,?_,Y,f2.dF O⟩<;>rw[N,List.filter_append,List.filter_cons_of_neg (by simp[hD]),List.filter_nil,List.append_nil]
     exact s2.fC O
    |true=>
     refine dH rfl (dD (λ_ H'=>Fr fa H6 H') (dD (λs H'=>s=(false,())/\Fr fa H6 H') ?_ ?_) ?_)
     .refine rf.ld (λj _=>b6.at j) ?_
      have hu:x.u=uN:=by rw[aa.u];unfold Im;rw[show lN x.p x.l=true from hD];rfl
      rw[hu]
      refine LS (eH ht (f2.dF O)) aa.m hD λH9 f9=>dH rfl ?_
      refine RN (m:=(al.take i).filter mf) ((s2.fC (O.dF f9)).cells) (by have:=List.length_filter_le mf (al.take i);rw[List.length_take] at this;omega) (λy hy H' f' K hK=>?_) λa9 aG=>⟨rfl,f9.dF aG⟩
      refine KV (cap:=[.pointer (some ⟨Array.size H2,0,none⟩)]) ?_
      have b9:rf H' (Array.size H2) x:=f'.fi (f9.fi b6 λh=>h) λh=>h
      exact Ua b9 (am y (List.mem_filter.1 hy).1) λaH aI=>hK aH aI
     .rintro _ H8 ⟨rfl,f8⟩
      exact dH rfl f8
     .rintro _ H7 f7
      have b7:rf H7 (Array.size H2) x:=f7.fi b6 λh=>h
      refine rf.ld (λj _=>b7.at j) (eZ ?_)
      have af:=O.dF f7
      have an:=List.length_filter_le mf (al.take i)
      rw[List.length_take] at an
      refine sb (new:=v8 x) (s2.fC af) rfl rfl rfl (sU x) (by omega) (by decide) λp' c' ba aK aL aw=>⟨p',c',?_,?_,λk w=>(aw k w).elim (Y k) λh=>by have:=(f2.dF af).size;omega,(f2.dF af).fresh aL Y⟩
      .rw[N,List.filter_append,List.filter_cons_of_pos (by simp[hD]),List.length_append];rfl
      .rw[N,List.filter_append,List.filter_cons_of_pos (by simp[hD]),List.length_append,List.filter_nil,<-sa]
       exact aK
   .rintro _ H3 ⟨q',n',rfl,s3,aM,f3⟩
    exact⟨al.length-(i+1),by omega,i+1,q',n',by rw[show((i+1:Nat):Int)=IntKind.i64.wrap ((i:Int)+1) from(qN i (by omega)).symm],by omega,rfl,s3,aM,f3⟩
  .have Z:i=al.length:=by have Z:¬(i:Int)<(al.length:Int):=Z;omega
   rw[Z,List.take_length] at s2⊢
   exact⟨q,n,rfl,s2,Y,f2⟩
 .rintro _ H1 ⟨q,n,rfl,s1,Y,f1⟩
  have h1:=h.fC f1
  have an:=List.length_filter_le mf al
  refine⟨_,rfl,_,_,_,(dO h1.hg 0 0).trans rfl,sY.push h1 hl (d:=al.filter mf) (q:=q) (n:=n) s1.cells (λk w=>.inr ⟨λhf=>by have:=h.hl k hf;have:=Y k w;omega,s1.gE w⟩) (λk w=>s1.gE w) (λa hx=>⟨hm a (List.mem_filter.1 hx).1,(List.mem_filter.1 hx).2⟩) (by omega) rfl (λq n c=>⟨by simp,by simp⟩) (by decide) (by decide) λF' p' c' H' s' f' hF=>?_⟩
  refine hR F' p' c' q n H' s' ⟨(f1.mono λ_ h=>h.elim).trans f' λk w=>.inl w,λk w=>?_⟩
  rcases hF k w with h2|h2|h2
  .exact .inl h2
  .exact .inr (Y k h2)
  .exact .inr (Nat.le_trans f1.size h2)
end Go.Proofs.fv
namespace Go.Proofs.fv
open Go.Ex Go.X
theorem eq_2(a b c d:dE)(w:fe):(Op.equal jU (.agg #[.string a,.string b]) (.agg #[.string c,.string d])).run Tryz.prog w=.ok (decide (a=c)&&(decide (b=d)&&true)) w:=by
 have h:Tryz.prog.underlying jU=some (.array 2 fp):=by kernel_rfl
 obtain⟨i,hi⟩:∃i,Tryz.prog.info? fp=some i:=Option.isSome_iff_exists.1 (by kernel_rfl)
 show(Op.equalIn (9999+1) _ _ _).run _ _=_
 rw[run_equalIn_array w 9999 _ _ h hi,List.range_eq_range']
 exact uS (by kernel_rfl) 9998 w 2 0 _ (by kernel_rfl)
theorem Jf(k h:Int)(a b c u I c':dE)(w:fe):(Op.equal jN (.agg #[.int .i64 k,.string a,.string b,.string c]) (.agg #[.int .i64 h,.string u,.string I,.string c'])).run Tryz.prog w=.ok (decide (k=h)&&(decide (a=u)&&(decide (b=I)&&(decide (c=c')&&true)))) w:=by
 show(Op.equalIn (9999+1) _ _ _).run _ _=_
 rw[run_equalIn_struct w 9999 _ _ _ (by kernel_rfl) (by kernel_rfl)]
 exact sO 9998 w _ _ (by kernel_rfl)
structure HN(t:eK){K:Type}(kv:K->dB):Prop where
 Qq:∀k em(w:fe),(Instr.checkKey em 10000 t (kv k)).run Tryz.prog w=.ok () w
 none:∀k(es:List MapEntry)(w:fe),(∀e∈es,∃k',e.key=kv k'/\k'≠k)->(Instr.findKey t (kv k) es).run Tryz.prog w=.ok Option.none w
 some:∀k(e1:List MapEntry)(e:MapEntry)(e2:List MapEntry)(w:fe),(∀e∈e1,∃k',e.key=kv k'/\k'≠k)->e.key=kv k->(Instr.findKey t (kv k) (e1++e::e2)).run Tryz.prog w=.ok (Option.some (e1.length,e.val)) w
theorem FN{t:eK}{K:Type}{I:K->dB}(N:∀k u(w:fe),k≠u->(Op.equal t (I k) (I u)).run Tryz.prog w=.ok false w)(k:K)(w:fe):∀(es:List MapEntry)(i:Nat),(∀e∈es,∃u,e.key=I u/\u≠k)->(Instr.findAsking t (I k) es i).run Tryz.prog w=.ok Option.none w
 |[],_,_=>rfl
 |e::es,i,h=>by
  obtain⟨u,O,W⟩:=h e (by simp)
  unfold Instr.findAsking
  rw[Sem.run_bind,O,N k u w (Ne.symm W)]
  simp only[Result.andThen]
  exact FN N k w es (i+1) λe Y=>h e (by simp[Y])
theorem FM{t:eK}{K:Type}{u:K->dB}(Z:∀k N(w:fe),k≠N->(Op.equal t (u k) (u N)).run Tryz.prog w=.ok false w)(O:∀k(w:fe),(Op.equal t (u k) (u k)).run Tryz.prog w=.ok true w)(k:K)(w:fe)(e:MapEntry)(W:List MapEntry)(Y:e.key=u k):∀(I:List MapEntry)(i:Nat),(∀e∈I,∃N,e.key=u N/\N≠k)->(Instr.findAsking t (u k) (I++e::W) i).run Tryz.prog w=.ok (Option.some (i+I.length,e.val)) w
 |[],i,_=>by
  show(Instr.findAsking t (u k) (e::W) i).run Tryz.prog w=_
  unfold Instr.findAsking
  rw[Sem.run_bind,Y,O k w]
  rfl
 |x::I,i,h=>by
  obtain⟨N,hk,hn⟩:=h x (by simp)
  show(Instr.findAsking t (u k) (x::(I++e::W)) i).run Tryz.prog w=_
  unfold Instr.findAsking
  rw[Sem.run_bind,hk,Z k N w (Ne.symm hn)]
  simp only[Result.andThen]
  have:=FM Z O k w e W Y I (i+1) λe Y=>h e (by simp[Y])
  rw[List.length_cons,show i+(I.length+1)=i+1+I.length by omega]
  exact this
theorem HN.wide{t:eK}{K:Type}{u:K->dB}(O:(match Tryz.prog.underlying t with|Option.some (.array _ _)|Option.some (.struct _)=>true|_=>false)=true)(Qq:∀k Y(w:fe),(Instr.checkKey Y 10000 t (u k)).run Tryz.prog w=.ok () w)(N:∀k W(w:fe),k≠W->(Op.equal t (u k) (u W)).run Tryz.prog w=.ok false w)(I:∀k(w:fe),(Op.equal t (u k) (u k)).run Tryz.prog w=.ok true w):HN t u where
 Qq:=Qq
 none k es w h:=by rw[run_findKey_eq w O];exact FN N k w es 0 h
 some k e1 e e2 w h he:=by
  rw[run_findKey_eq w O]
  have:=FM N I k w e e2 he e1 0 h
  rwa[Nat.zero_add] at this
def VA(k:By×By):dB:=.agg #[.string (eJ k.1),.string (eJ k.2)]
def WR(k:Int×By×By×By):dB:=.agg #[.int .i64 k.1,.string (eJ k.2.1),.string (eJ k.2.2.1),.string (eJ k.2.2.2)]
def Gb(k:By):dB:=.string (eJ k)
theorem P9:HN jU VA:=.wide (by kernel_rfl) (λk O w=>by kernel_rfl)
 (λk I w h=>by
  obtain⟨a,b⟩:=k
  obtain⟨c,d⟩:=I
  refine(eq_2 _ _ _ _ w).trans ?_
  by_cases u:a=c
  .have N:b≠d:=λe=>h (by rw[u,e])
   rw[decide_eq_false (p:=eJ b=eJ d) λe=>N (gm e)]
   simp
  .rw[decide_eq_false (p:=eJ a=eJ c) λe=>u (gm e)];rfl)
 λk w=>(eq_2 _ _ _ _ w).trans (by simp)
theorem SW:HN jN WR:=.wide (by kernel_rfl) (λk I w=>by kernel_rfl)
 (λk u w h=>by
  obtain⟨x,a,b,c⟩:=k
  obtain⟨x',N,O,c'⟩:=u
  refine(Jf _ _ _ _ _ _ _ _ w).trans ?_
  congr 1
  rw[Bool.eq_false_iff]
  intro e
  simp only[Bool.and_eq_true,decide_eq_true_eq,Bool.and_true] at e
  exact h (by rw[e.1,gm e.2.1,gm e.2.2.1,gm e.2.2.2]))
 λk w=>(Jf _ _ _ _ _ _ _ _ w).trans (by simp)
theorem P8:HN fp Gb where
 Qq k em w:=by kernel_rfl
 none k es w h:=by
  have O:Tryz.prog.underlying fp=Option.some .string:=by kernel_rfl
  refine Go.MapKept.run_findKey O ?_
  have:∀(es:List MapEntry)(i:Nat),(∀e∈es,∃u,e.key=Gb u/\u≠k)->Instr.findNow .string (Gb k) es i=Option.some Option.none:=by
   intro es
   induction es with
   |nil=>intro i _;rfl
   |cons e es W=>
    intro i h
    obtain⟨u,Y,Z⟩:=h e (by simp)
    unfold Instr.findNow
    rw[Y]
    have:Instr.sameNow .string (Gb k) (Gb u)=Option.some false:=by
     show Option.some ((eJ k).data==(eJ u).data)=_
     rw[beq_eq_false_iff_ne.2 λe=>Z (gm (ByteArray.ext e)).symm]
    rw[this]
    exact W (i+1) λe N=>h e (by simp[N])
  exact this es 0 h
 some k I e e2 w h N:=by
  have O:Tryz.prog.underlying fp=Option.some .string:=by kernel_rfl
  refine Go.MapKept.run_findKey O ?_
  have:∀(I:List MapEntry)(i:Nat),(∀e∈I,∃u,e.key=Gb u/\u≠k)->Instr.findNow .string (Gb k) (I++e::e2) i=Option.some (Option.some (i+I.length,e.val)):=by
   intro I
   induction I with
   |nil=>
    intro i _
    show Instr.findNow .string (Gb k) (e::e2) i=_
    unfold Instr.findNow
    rw[N]
    have:Instr.sameNow .string (Gb k) (Gb k)=Option.some true:=by
     show Option.some ((eJ k).data==(eJ k).data)=_
     rw[beq_self_eq_true]
    rw[this]
    rfl
   |cons x I W=>
    intro i h
    obtain⟨u,Y,Z⟩:=h x (by simp)
    show Instr.findNow .string (Gb k) (x::(I++e::e2)) i=_
    unfold Instr.findNow
    rw[Y]
    have:Instr.sameNow .string (Gb k) (Gb u)=Option.some false:=by
     show Option.some ((eJ k).data==(eJ u).data)=_
     rw[beq_eq_false_iff_ne.2 λe=>Z (gm (ByteArray.ext e)).symm]
    rw[this]
    have:=W (i+1) λe N=>h e (by simp[N])
    rw[List.length_cons,show i+(I.length+1)=i+1+I.length by omega]
    exact this
  have:=this I 0 h
  rwa[Nat.zero_add] at this
def wh{K:Type}(h:K->dB)(H:dw)(b:Nat)(u:List K)(es:Array MapEntry)(w:Nat):Prop:=H[b]?=some (.map es w)/\es.toList.map MapEntry.key=u.map h
theorem wh.no{K:Type}{u:K->dB}{H:dw}{b:Nat}{I:List K}{es:Array MapEntry}{N:Nat}{t:eK}(O:HN t u)(h:wh u H b I es N){k:K}(W:k∉I)(w:fe):(Instr.findKey t (u k) es.toList).run Tryz.prog w=.ok none w:=
 O.none k _ w λe Y=>by
  have:e.key∈I.map u:=by rw[<-h.2];exact List.mem_map_of_mem Y
  obtain⟨Z,h1,h2⟩:=List.mem_map.1 this
  exact⟨Z,h2.symm,λe=>W (e▸h1)⟩
theorem wh.add{K:Type}{u:K->dB}{H:dw}{b:Nat}{I:List K}{es:Array MapEntry}{w:Nat}(h:wh u H b I es w)(k:K)(v:dB)(q:Nat):wh u (Array.setIfInBounds H b (.map (es.push {key:=u k,val:=v,born:=q}) (w+1))) b (I++[k]) (es.push {key:=u k,val:=v,born:=q}) (w+1):=
 ⟨qu (eR h.1) _,by simp[h.2]⟩
end Go.Proofs.fv
namespace Go.Ex
def oC{α:Type}(f:α->α)(i:Nat)(l:List α):List α:=(l.take i).map f++l.drop i
section
variable {α:Type} {f:α->α} {l:List α} {i:Nat}
theorem sv:(oC f i l).length=l.length:=by unfold oC;simp;omega
theorem wA:oC f l.length l=l.map f:=by unfold oC;simp
theorem uz(hi:i<l.length):(oC f i l)[i]?=some l[i]:=by
 unfold oC
 rw[List.getElem?_append_right (by simp;omega),List.length_map,List.length_take,Nat.min_eq_left (by omega),Nat.sub_self,List.getElem?_drop]
 simp[hi]
theorem rL(hi:i<l.length):oC f (i+1) l=(oC f i l).set i (f l[i]):=by
 unfold oC
 rw[List.set_append_right _ _ (by simp;omega),List.length_map,List.length_take,Nat.min_eq_left (by omega),Nat.sub_self,List.take_add_one,List.map_append]
 simp only[List.getElem?_eq_getElem hi,Option.toList_some,List.map_cons,List.map_nil,List.append_assoc,List.singleton_append]
 rw[List.drop_eq_getElem_cons hi]
 rfl
theorem EB(hi:i<l.length)(h:f l[i]=l[i]):oC f (i+1) l=oC f i l:=by
 rw[rL hi,h]
 refine List.ext_getElem? λj=>?_
 rw[List.getElem?_set]
 split
 .rename_i e;subst e;rw[sv,if_pos hi,uz hi]
 .rfl
end
theorem FK:∀(al:List At)(i:Nat)(hi:i<al.length)(u:By),gk (al.set i {al[i] with u:=u})=(gk al).set (i*4+2) (.string (eJ u))
 |[],i,hi,_=>absurd hi (Nat.not_lt_zero i)
 |a::al,0,_,u=>by simp[gk,v8]
 |a::al,i+1,hi,u=>by
  have h:=FK al i (by simpa using hi) u
  unfold gk at h⊢
  simp only[List.set_cons_succ,List.map_cons,List.flatten_cons,List.getElem_cons_succ]
  rw[h,List.set_append_right _ _ (by simp[v8];omega)]
  congr 2
  simp[v8];omega
theorem jK.store{s:Nat}{H:dw}{t:eK}{xs:List dB}{p:dC}{l c:Nat}(h:jK s H t xs p l c){j:Nat}(Y:j<l*s):∃b,p=some ⟨b,0,none⟩/\(∃u,dL H ((⟨b,0,none⟩:dA).add j)=some u)/\fH H ((⟨b,0,none⟩:dA).add j)=false/\∀v,jK s (gO H ((⟨b,0,none⟩:dA).add j) v) t (xs.set j v) p l c/\Fr (λk=>k=b) H (gO H ((⟨b,0,none⟩:dA).add j) v):=by
 rcases h.2 with⟨rfl,rfl,rfl⟩|⟨b,cs,rfl,w,N,I,O⟩
 .omega
 .have W:l*s<=c*s:=Nat.mul_le_mul_right s I
  refine⟨b,rfl,⟨cs[j]'(by omega),by rw[dO w,Nat.zero_add];exact Array.getElem?_eq_getElem _⟩,fK w 0 j,λv=>⟨⟨by rw[List.length_set];exact h.1,.inr ⟨b,cs.setIfInBounds j v,rfl,?_,by rw[Array.size_setIfInBounds];exact N,I,λi hi=>?_⟩⟩,?_⟩⟩
  .have:=lu w 0 j v;rwa[Nat.zero_add] at this
  .rw[List.getElem?_set]
   by_cases e:j=i
   .subst e;rw[if_pos rfl,Array.getElem?_setIfInBounds_self_of_lt (by omega),if_pos (by rw[h.1];exact hi)]
   .rw[if_neg e,Array.getElem?_setIfInBounds_ne e,O i hi]
  .have:=Fr.set H ((⟨b,0,none⟩:dA).add j) v;rwa[kO] at this
def oe(n:Nd)(q:dC)(c:Nat):List dB:=[.int .i64 n.k,.int .i64 n.d,.string (eJ n.p),.string (eJ n.l),.string (eJ n.u),.string (eJ n.v),.slice q n.gh.length c]
def iY(a:At):At:={a with u:=Im a.p a.l}
def ie(L:List (List At))(a:At):At:={a with u:=bif mf a then uN else bif a.p==[] then[] else(kC a.p L).1}
structure wg(L:List (List At))(p:By)(al:List At):Prop where
 e:(kC p L).2=true/\p≠sm
 a:∀a∈al,mf a=false->a.p≠[]->(kC a.p L).2=true
 n:(al.map λa=>((ie L a).u,a.l)).Nodup
def mS(al:List At):List At:=(al.map iY).filter mf
end Go.Ex
namespace Go.Proofs.fv
open Go.Ex Go.X
abbrev js(H:dw)(b:Nat)(n:Nd)(q:dC)(c:Nat):Prop:=H[b]?=some (.cells (oe n q c).toArray eC (0,0))
theorem js.cell{H:dw}{b:Nat}{n:Nd}{q:dC}{c:Nat}(h:js H b n q c)(j:Nat):dL H ((⟨b,0,none⟩:dA).add j)=(oe n q c)[j]?:=eD h j
theorem v7{H:dw}{t:eK}{q:dC}{c m:Nat}{al:List At}{i:Nat}{a:At}(h:jK 4 H t (gk al) q m c)(Z:al.length=m)(hi:al[i]?=some a)(u:By){K:dw->Prop}(w:∀H',jK 4 H' t (gk (al.set i {a with u:=u})) q m c->Fr (eB q) H H'->K H'):
 ∃x:dA,q=some x/\0<=(i:Int)/\(i:Int)<(m:Int)/\j0 (.string (eJ u)) ((x.add ((i:Int).toNat*4)).add 2) H K:=by
 obtain⟨Y,rfl⟩:=List.getElem?_eq_some_iff.1 hi
 obtain⟨b,rfl,I,N,O⟩:=h.store (j:=i*4+2) (by omega)
 refine⟨_,rfl,by omega,by omega,?_⟩
 rw[Int.toNat_natCast,Addr.add_add]
 obtain⟨s,f⟩:=O (.string (eJ u))
 exact⟨I,N,w _ (by rw[FK];exact s) (f.mono λk W=>⟨_,rfl,W.symm⟩)⟩
variable {H:dw} {g:Nat} {F:Nat->Prop} {L:List Lv} {p:dC} {c:Nat}
theorem Br(ht:gG H)(h:zd H g F L p c)(hl:L.length<=1048576){b:Nat}{n:Nd}{q:dC}{d:Nat}{t:eK}(hb:js H b n q d)(hs:jK 4 H t (gk n.gh) q n.gh.length d)(hF:¬F b/\(∀k,eB q k->¬F k/\k≠b/\7<k)/\7<b/\∀k,F k->7<k)
 (hu:∀a∈n.gh,a.u=[]/\(a.p,a.l,a.v)∈qK)(hn:(n.gh.map j4).Nodup)(h6:n.gh.length<=6)(aq:wg (L.map Lv.d++[mS n.gh]) n.p n.gh){R:Int->dw->Prop}
 (hR:∀F' p' c' q' m H',zd H' g F' (L++[⟨mS n.gh,q',m⟩]) p' c'->js H' b {n with u:=(kC n.p (L.map Lv.d++[mS n.gh])).1,gh:=n.gh.map (ie (L.map Lv.d++[mS n.gh]))} q d->jK 4 H' t (gk (n.gh.map (ie (L.map Lv.d++[mS n.gh])))) q n.gh.length d->
  Fr (λk=>F k\/k=b\/eB q k) H H'->(∀k,F' k->F k\/Array.size H<=k)->R 0 H'):gZ.C (some ⟨g,0,none⟩) (some ⟨b,0,none⟩) H R:=by
 apply gZ.calls
 unfold gZ.W
 have cF:=eR hb
 obtain⟨aV,Z,cG,bF⟩:=hF
 generalize ay:n.gh=al at*
 have ec:∀{H':dw},js H' b n q d->dL H' ((⟨b,0,none⟩:dA).add 6)=some (.slice q al.length d):=λh=>by rw[h.cell 6,<-ay];rfl
 refine dD (λ_ H'=>jK 4 H' t (gk (al.map iY)) q al.length d/\Fr (eB q) H H') ?_ ?_
 .refine⟨_,rfl,_,_,_,ec hb,eW (λm(s:Int×Unit) H'=>∃i:Nat,s.1=(i:Int)/\i<=al.length/\m=al.length-i/\jK 4 H' t (gk (oC iY i al)) q al.length d/\Fr (eB q) H H') al.length ⟨0,rfl,by omega,rfl,hs,Fr.refl _ _⟩ ?_⟩
  rintro m ⟨_,_⟩ H2 ⟨i,rfl,hi,rfl,s2,f2⟩
  dsimp only
  refine eE (λO=>?_) λbG=>⟨?_,f2⟩
  .have O:i<al.length:=by omega
   have hx:=uz (f:=iY) O
   have Y:(oC iY i al).length=al.length:=sv
   obtain⟨a,ha,ak⟩:=kj s2.cells (i:=i) (by rw[Y];exact O)
   have aA:(oC iY i al)[i]=al[i]:=Option.some.inj ((List.getElem?_eq_getElem (by rw[Y];exact O)).symm.trans hx)
   rw[aA] at ak
   obtain⟨aW,hm⟩:=hu _ (List.getElem_mem O)
   have b2:js H2 b n q d:=f2.fi hb λI=>(Z b I).2.1 rfl
   refine dD (λ_ H'=>jK 4 H' t (gk (oC iY (i+1) al)) q al.length d/\Fr (eB q) H H') ⟨a,ha,by omega,by omega,rf.ld (a:=al[i]) (by rw[Int.toNat_natCast];exact ak) (sT al[i] λH5 b5 f5=>?_)⟩ ?_
   .refine dD (λs H'=>s=(mf al[i],())/\H5=H') ⟨_,b5.at 0,?_⟩ ?_
    .have e1:∀x:By,decide (eJ x=oZ)=(x==sm):=λx=>by
      by_cases e:x=sm
      .subst e;rfl
      .rw[decide_eq_false (p:=eJ x=oZ) λh=>e (gm (b:=sm) h),beq_eq_false_iff_ne.2 e]
     unfold mf lN
     refine eE (λe=>⟨?_,rfl⟩) λe=>⟨_,b5.at 0,eE (λe2=>⟨_,b5.at 1,?_,rfl⟩) λe2=>⟨?_,rfl⟩⟩
     .rw[gm (b:=sm) e];rfl
     .have hp:=gm (b:=[]) e2
      rw[e1,hp];rfl
     .have bI:(al[i].p==sm)=false:=beq_eq_false_iff_ne.2 λh=>e (by rw[h];rfl)
      have bj:(al[i].p==[])=false:=beq_eq_false_iff_ne.2 λh=>e2 (by rw[h];rfl)
      rw[bI,bj];rfl
    .rintro _ _ ⟨rfl,rfl⟩
     have aX:Fr (eB q) H H5:=f2.trans (f5.mono λ_ h=>h.elim) λk I=>.inl I
     have s5:=s2.fC f5
     cases hD:mf al[i] with
     |true=>
      refine eN rfl ⟨_,rfl,_,_,_,ec (f5.fi b2 λh=>h),?_⟩
      refine v7 s5 Y hx uN λH7 s7 f7=>⟨?_,aX.trans f7 λk I=>.inl I⟩
      rw[rL O]
      have er:iY al[i]={al[i] with u:=uN}:=by unfold iY Im;rw[show lN al[i].p al[i].l=true from hD];rfl
      rw[er];exact s7
     |false=>
      refine dH rfl ⟨?_,aX⟩
      rw[EB O (by unfold iY Im;rw[show lN al[i].p al[i].l=false from hD];show{al[i] with u:=[]}=al[i];rw[<-aW])]
      exact s5
   .rintro _ H3 ⟨s3,f3⟩
    exact⟨al.length-(i+1),by omega,i+1,qN i (by omega),by omega,rfl,s3,f3⟩
  .have:i=al.length:=by omega
   rw[this,wA] at s2
   exact s2
 rintro _ H1 ⟨s1,f1⟩
 have b1:js H1 b n q d:=f1.fi hb λI=>(Z b I).2.1 rfl
 have h1:=h.eO f1 λk I hq=>(Z k hq).1 I
 have t1:gG H1:=fM ht f1 λi hi I=>by have:=(Z i I).2.2;omega
 have hM:∀a∈al.map iY,OB a:=λa ha=>by
  obtain⟨x,hx,rfl⟩:=List.mem_map.1 ha
  exact⟨(hu x hx).2,rfl⟩
 have bo:(al.map iY).map j4=al.map j4:=by rw[List.map_map];rfl
 have ab:(al.map iY).length=al.length:=List.length_map _
 refine⟨_,rfl,_,_,_,ec b1,QP t1 h1 hl ab s1.cells hM (by rw[bo];exact hn) (by rw[ab];exact h6) λF1 p1 c1 q1 m1 H2 aY g2=>?_⟩
 refine eI (by decide) ⟨_,rfl,?_⟩
 have bN:¬F1 b:=λI=>(g2.up b I).elim aV λhh=>by have:=eR b1;omega
 have bO:∀k,eB q k->¬F1 k:=λk I hf=>(g2.up k hf).elim (Z k I).1 λhh=>by have:=s1.gE I;omega
 have b2:js H2 b n q d:=g2.fr.fi b1 aV
 have s2:=s1.eO g2.fr λk I=>(Z k I).1
 have t2:gG H2:=fM t1 g2.fr λi hi I=>by have:=bF i I;omega
 have z1:=f1.size
 have z2:=g2.fr.size
 generalize bQ:L.map Lv.d++[mS al]=N at*
 have aZ:(L++[(⟨(al.map iY).filter mf,q1,m1⟩:Lv)]).map Lv.d=N:=by rw[<-bQ,List.map_append];rfl
 refine⟨_,b2.cell 2,Of t2 aY (by simp;omega) n.p λH3 f3=>?_⟩
 rw[aZ,aq.e.1]
 have b3:js H3 b n q d:=f3.fi b2 λh=>h
 refine dD (λs H'=>s=(true,())/\js H' b {n with u:=(kC n.p N).1} q d/\Fr (λk=>k=b) H3 H') ?_ ?_
 .refine eN rfl ⟨_,rfl,_,b3.cell 2,_,rfl,hP (o:=4) b3 (by simp[oe]) λcH bS ar=>⟨?_,?_,ar⟩⟩
  .have:¬eJ n.p=oZ:=λe=>aq.e.2 (gm (b:=sm) e)
   show(decide (eJ n.p≠oZ),())=_
   rw[decide_eq_true this]
  .rw[js,bS];simp[oe]
 rintro _ H4 ⟨rfl,b4,f4⟩
 have br:n.gh.length=al.length:=by rw[ay]
 have s4:jK 4 H4 t (gk (al.map iY)) q al.length d:=by
  exact(s2.fC f3).eO f4 λk I e=>(Z k I).2.1 e
 have a0:=(aY.fC f3).eO f4 λk I e=>bN (e▸I)
 have t4:gG H4:=fM (eH t2 f3) f4 λi hi e=>by omega
 have z3:=f3.size
 have z4:=f4.size
 refine eZ ?_
 have f5:=Fr.push H4 (.map #[] 0)
 generalize a3:{n with u:=(kC n.p N).1}=n2 at b4
 have bv:n2.gh.length=al.length:=by rw[<-a3];exact br
 have au:∀{H':dw},js H' b n2 q d->dL H' ((⟨b,0,none⟩:dA).add 6)=some (.slice q al.length d):=λh=>by rw[h.cell 6,<-bv];rfl
 generalize bU:Array.size H4=mb at*
 have hB:∀{H':dw},Fr (λk=>eB q k\/k=mb) (H4.push (.map #[] 0)) H'->gG H'/\zd H' g F1 (L++[⟨(al.map iY).filter mf,q1,m1⟩]) p1 c1/\js H' b n2 q d:=λf=>
  ⟨fM (eH t4 f5) f λi hi I=>I.elim (λh=>by have:=(Z i h).2.2;omega) λh=>by have:=jP t4;omega,
   (a0.fC f5).eO f λk I hh=>hh.elim (λh=>bO k h I) λh=>by have:=a0.hl k I;omega,
   f.fi (f5.fi b4 λh=>h) λhh=>hh.elim (λh=>(Z b h).2.1 rfl) λh=>by omega⟩
 refine dD (λs H'=>s=(true,())/\jK 4 H' t (gk (al.map (ie N))) q al.length d/\Fr (λk=>eB q k\/k=mb) (H4.push (.map #[] 0)) H') ?_ ?_
 .have e0:(al.map iY).map (ie N)=al.map (ie N):=by rw[List.map_map];rfl
  refine⟨_,rfl,_,_,_,au (f5.fi b4 λh=>h),eW (λm(s:Bool×Int×Unit) H'=>∃(i:Nat)(es:Array MapEntry)(ck:Nat),s=(true,(i:Int),())/\i<=al.length/\m=al.length-i/\jK 4 H' t (gk (oC (ie N) i (al.map iY))) q al.length d/\
   wh VA H' mb ((al.take i).map λa=>((ie N a).u,a.l)) es ck/\Fr (λk=>eB q k\/k=mb) (H4.push (.map #[] 0)) H') al.length ⟨0,#[],0,rfl,by omega,rfl,s4.fC f5,⟨by rw[<-bU];exact oH _ _,rfl⟩,Fr.refl _ _⟩ ?_⟩
  rintro m _ H6 ⟨i,es,ck,rfl,hi,rfl,s6,aE,f6⟩
  dsimp only
  refine eE (λO=>?_) λbG=>?_
  rotate_left
  .have:i=al.length:=by omega
   rw[this,<-ab,wA,e0,ab] at s6
   exact⟨rfl,s6,f6⟩
  have O:i<al.length:=by omega
  have aF:i<(al.map iY).length:=by rw[ab];exact O
  have Y:(oC (ie N) i (al.map iY)).length=al.length:=by rw[sv,ab]
  have hx:=uz (f:=ie N) aF
  rw[List.getElem_map] at hx
  obtain⟨a,ha,ak⟩:=kj s6.cells (i:=i) (by rw[Y];exact O)
  have aA:(oC (ie N) i (al.map iY))[i]'(by rw[Y];exact O)=iY al[i]:=Option.some.inj ((List.getElem?_eq_getElem (by rw[Y];exact O)).symm.trans hx)
  rw[aA] at ak
  have aG:=List.getElem_mem O
  obtain⟨aW,hm⟩:=hu _ aG
  have av:=rL (f:=ie N) aF
  rw[List.getElem_map] at av
  have a4:ie N (iY al[i])=ie N al[i]:=rfl
  have a5:((ie N al[i]).u,al[i].l)∉(al.take i).map λa=>((ie N a).u,a.l):=λhh=>by
   have hn:=aq.n
   have bz:((al.take i).map λa=>((ie N a).u,a.l))++[((ie N al[i]).u,al[i].l)]=(al.map λa=>((ie N a).u,a.l)).take (i+1):=by
    rw[<-List.map_take,List.take_add_one,List.map_append];simp[O]
   have:=(List.take_sublist (i+1) _).nodup hn
   rw[<-bz,List.nodup_append] at this
   exact this.2.2 _ hh _ (by simp) rfl
  have bV:(al.take (i+1)).map (λa=>((ie N a).u,a.l))=(al.take i).map (λa=>((ie N a).u,a.l))++[((ie N al[i]).u,al[i].l)]:=by rw[List.take_add_one,List.map_append];simp[O]
  generalize al[i]=x at*
  obtain⟨t6,cI,b6⟩:=hB f6
  refine dD (λs H'=>∃es ck,s=(true,())/\jK 4 H' t (gk (oC (ie N) (i+1) (al.map iY))) q al.length d/\wh VA H' mb ((al.take (i+1)).map λa=>((ie N a).u,a.l)) es ck/\Fr (λk=>eB q k\/k=mb) (H4.push (.map #[] 0)) H')
   ⟨a,ha,by omega,by omega,rf.ld (a:=iY x) (by rw[Int.toNat_natCast];exact ak) (sT (iY x) λH7 b7 f7=>?_)⟩ ?_
  rotate_left
  .rintro _ H' ⟨es,ck,rfl,s',bW,f'⟩
   exact⟨al.length-(i+1),by omega,i+1,es,ck,by rw[show((i+1:Nat):Int)=IntKind.i64.wrap ((i:Int)+1) from(qN i (by omega)).symm],by omega,rfl,s',bW,f'⟩
  have a6:Fr (λk=>eB q k\/k=mb) (H4.push (.map #[] 0)) H7:=f6.trans (f7.mono λ_ h=>h.elim) λk I=>.inl I
  obtain⟨t7,bX,a7⟩:=hB a6
  have s7:=s6.fC f7
  have l7:=eR b7
  have cJ:=eR aE.1
  have lb:=eR a7
  refine dD (λs H'=>s=(true,())/\jK 4 H' t (gk (oC (ie N) (i+1) (al.map iY))) q al.length d/\Fr (eB q) H7 H') (dD (λs H'=>s=(!mf x&&!(x.p==[]),())/\H7=H') ?_ ?_) ?_
  .have a8:(iY x).u=bif mf x then uN else[]:=rfl
   refine⟨_,b7.at 2,eE (λe=>⟨_,b7.at 0,?_,rfl⟩) λe=>⟨?_,rfl⟩⟩
   .have e:=gm (b:=[]) e
    have hD:mf x=false:=by
     cases hD:mf x with
     |false=>rfl
     |true=>rw[a8,hD] at e;cases e
    rw[hD]
    show(decide (eJ x.p≠dM),())=_
    by_cases e2:x.p=[]
    .rw[e2];rfl
    .rw[decide_eq_true (p:=eJ x.p≠dM) λh=>e2 (gm (b:=[]) h),beq_eq_false_iff_ne.2 e2];rfl
   .have hD:mf x=true:=by
     cases hD:mf x with
     |true=>rfl
     |false=>exact absurd (by show eJ (iY x).u=eJ [];rw[a8,hD];rfl) e
    rw[hD];rfl
  .rintro _ _ ⟨rfl,rfl⟩
   cases hc:(!mf x&&!(x.p==[])) with
   |true=>
    rw[Bool.and_eq_true,Bool.not_eq_true',Bool.not_eq_true',beq_eq_false_iff_ne] at hc
    refine eN rfl ⟨_,b7.at 0,Of t7 bX (by simp;omega) x.p λH8 f8=>?_⟩
    rw[aZ,aq.a x aG hc.1 hc.2]
    refine⟨_,rfl,_,_,_,au (f8.fi a7 λh=>h),eN rfl ?_⟩
    refine v7 (s7.fC f8) Y hx _ λH9 s9 f9=>⟨rfl,?_,(f8.mono λ_ h=>h.elim).trans f9 λk I=>.inl I⟩
    rw[av,a4]
    have:ie N x={iY x with u:=(kC x.p N).1}:=by unfold ie;rw[hc.1,show(x.p==[])=false from beq_eq_false_iff_ne.2 hc.2];rfl
    rw[this];exact s9
   |false=>
    refine dH rfl ⟨rfl,?_,Fr.refl _ _⟩
    have:ie N (iY x)=iY x:=by
     unfold ie iY Im
     rw[Bool.and_eq_false_iff,Bool.not_eq_false',Bool.not_eq_false'] at hc
     show({p:=x.p,l:=x.l,u:=bif mf x then uN else bif x.p==[] then[] else(kC x.p N).1,v:=x.v}:At)={p:=x.p,l:=x.l,u:=bif lN x.p x.l then uN else[],v:=x.v}
     have:lN x.p x.l=mf x:=rfl
     rw[this]
     rcases hc with hc|hc
     .rw[hc];rfl
     .rw[hc];cases mf x<;>rfl
    rw[av,this]
    have e3:(oC (ie N) i (al.map iY)).set i (iY x)=oC (ie N) i (al.map iY):=by
     refine List.ext_getElem? λj=>?_
     rw[List.getElem?_set]
     split
     .rename_i e;subst e;rw[Y,if_pos O,hx]
     .rfl
    rw[e3]
    exact s7
  rintro _ H8 ⟨rfl,s8,f8⟩
  have a9:Fr (λk=>eB q k\/k=mb) (H4.push (.map #[] 0)) H8:=a6.trans f8 λk I=>.inl (.inl I)
  obtain⟨t8,cK,ba⟩:=hB a9
  have nq:∀{k:Nat},Array.size H6<=k->¬eB q k:=λI hh=>by have:=s6.gE hh;omega
  have b8:rf H8 (Array.size H6) (iY x):=f8.fi b7 (nq (Nat.le_refl _))
  have ap:(oC (ie N) (i+1) (al.map iY)).length=al.length:=by rw[sv,ab]
  have b0:(oC (ie N) (i+1) (al.map iY))[i]?=some (ie N x):=by rw[av,a4,List.getElem?_set,if_pos rfl,Y,if_pos O]
  obtain⟨a2,ca,aJ⟩:=kj s8.cells (i:=i) (by rw[ap];exact O)
  have bA:(oC (ie N) (i+1) (al.map iY))[i]'(by rw[ap];exact O)=ie N x:=Option.some.inj ((List.getElem?_eq_getElem (by rw[ap];exact O)).symm.trans b0)
  rw[bA] at aJ
  have bb:∀{H':dw},Fr fa H8 H'->dL H' ((a2.add ((i:Int).toNat*4)).add 2)=some (.string (eJ (ie N x).u)):=λf=>f.cell (by rw[Int.toNat_natCast];exact aJ 2 (by decide)) λh=>h
  have f9:=Fr.new H8 #[.string eS,.string eS] jU
  have b9:rf (eP H8 #[.string eS,.string eS] jU) (Array.size H6) (iY x):=f9.fi b8 λh=>h
  refine⟨_,rfl,_,_,_,au ba,a2,ca,by omega,by omega,_,bb (Fr.refl _ _),_,b8.at 1,eZ ⟨⟨_,_,_,au (f9.fi ba λh=>h),rfl⟩,⟨_,bb f9,rfl⟩,⟨_,b9.at 1,rfl⟩,?_⟩⟩
  refine mP (cs:=#[.string eS,.string eS]) (t:=jU) (vs:=[.string (eJ (ie N x).u),.string (eJ x.l)]) (Fr.refl fa _) rfl λaK bc aL _=>?_
  have af:wh VA aK mb ((al.take i).map λa=>((ie N a).u,a.l)) es ck:=⟨aL.fi (f8.fi (f7.fi aE.1 λh=>h) (λhh=>by have:=s4.gE hh;omega)) λh=>h,aE.2⟩
  refine dD (λs H'=>s=(true,())/\aK=H') (eN rfl (rS _ _ (λj _=>eD bc j) ⟨es,ck,none,af.1,λem w=>P9.Qq ((ie N x).u,x.l) em w,λw=>af.no P9 a5 w,rfl,rfl⟩)) ?_
  rintro _ _ ⟨rfl,rfl⟩
  refine rS _ _ (λj _=>eD bc j) ⟨es,ck,af.1,λem w=>P9.Qq ((ie N x).u,x.l) em w,λw=>af.no P9 a5 w,eZ ?_⟩
  have bC:=af.add ((ie N x).u,x.l) (.bool true) ck
  have ar:=Fr.Ap aK mb (.map (es.push {key:=VA ((ie N x).u,x.l),val:=.bool true,born:=ck}) (ck+1))
  refine⟨_,_,rfl,(s8.fC aL).eO ar λk I e=>by have:=s4.gE I;omega,by rw[bV];exact bC,(a9.trans (aL.mono λ_ h=>h.elim) λk I=>.inl I).trans ar λk I=>.inl (.inr I)⟩
 rintro _ cb ⟨rfl,cc,bd⟩
 obtain⟨cL,bD,cd⟩:=hB bd
 refine dH rfl (hR F1 p1 c1 q1 m1 cb bD ?_ cc ?_ λk I=>(g2.up k I).imp id λh=>Nat.le_trans z1 h)
 .have:oe n2 q d=oe {n with u:=(kC n.p N).1,gh:=al.map (ie N)} q d:=by rw[<-a3];unfold oe;simp[ay]
  rw[js,<-this];exact cd
 .have e1:Fr (λk=>F k\/k=b\/eB q k) H H4:=(((f1.mono λk I=>.inr (.inr I)).trans (g2.fr) λk I=>.inl (.inl I)).trans (f3.mono λ_ h=>h.elim) λk I=>.inl I).trans f4 λk I=>.inl (.inr (.inl I))
  refine(e1.trans (f5.mono λ_ h=>h.elim) λk I=>.inl I).trans bd λk I=>?_
  rcases I with I|rfl
  .exact .inl (.inr (.inr I))
  .exact .inr (by omega)
end Go.Proofs.fv
namespace Go.Ex
def Uk(q:By×By×By):List dB:=[.string (eJ (oY q)),.string (eJ q.2.2)]
def G1(l:List (By×By×By)):List dB:=(l.map Uk).flatten
theorem Ki(l:List (By×By×By))(q:By×By×By):G1 l++Uk q=G1 (l++[q]):=by unfold G1;simp
theorem PL(q:By×By×By):∀v∈Uk q,One v:=by
 intro v h
 simp only[Uk,List.mem_cons,List.not_mem_nil,or_false] at h
 rcases h with rfl|rfl<;>exact⟨by simp,by simp⟩
theorem Mo{H:dw}{p:dC}{l:List (By×By×By)}(h:eY H p (tT l)){i:Nat}(hi:i<l.length):∃a,p=some a/\∀j,j<2->dL H ((a.add (i*2)).add j)=(Uh l[i])[j]?:=by
 obtain⟨a,u,w⟩:=eY.elem h (s:=2) (λx I=>by obtain⟨a,_,rfl⟩:=List.mem_map.1 I;rfl) (by decide) (i:=i) (by simpa using hi)
 exact⟨a,u,λj N=>by rw[w j N,List.getElem_map]⟩
theorem SA{H:dw}{p:dC}{l:List (By×By×By)}(h:eY H p (G1 l)){i:Nat}(hi:i<l.length):∃a,p=some a/\∀j,j<2->dL H ((a.add (i*2)).add j)=(Uk l[i])[j]?:=by
 obtain⟨a,u,w⟩:=eY.elem h (s:=2) (λx I=>by obtain⟨a,_,rfl⟩:=List.mem_map.1 I;rfl) (by decide) (i:=i) (by simpa using hi)
 exact⟨a,u,λj N=>by rw[w j N,List.getElem_map]⟩
theorem zL{q:By×By×By}(h:q∈qK):(q.1,q.2.1)∈xV++K2:=List.mem_append_right _ (N3 q h).2.2.2.2
end Go.Ex
namespace Go.Proofs.fv
open Go.Ex Go.X
theorem Ax{H:dw}(x y:By){K:dw->Prop}(h:∀H',OK H' (Array.size H) x y->Fr fa H H'->K H'):
 eG (eP H #[.string dM,.string dM] gx) λu=>lj [.string (eJ x),.string (eJ y)] ⟨Array.size H,0,none⟩ 0 u K:=
 eZ (zv (Fr.refl fa _) x y λH' b f _=>h H' b f)
theorem MY{H:dw}(ht:gG H){nm:By×By}(ah:nm∈xV){al:List (By×By×By)}(ha:∀q∈al,q∈qK)(hn:(al.map oY).Nodup)(h6:al.length<=6){p:dC}{c:Nat}(hp:eY H p (tT al)){k:Int}{O:By}{e:Bool}{R:Bool->dw->Prop}(hR:∀H',Fr fa H H'->R true H'):
 mF.C k (eJ (qn nm.1 nm.2)) (eJ O) p al.length c e H R:=by
 apply mF.calls
 unfold mF.W
 have f1:Fr fa H (eP H (OD k (qn nm.1 nm.2) O p al.length c e).toArray eX):=Fr.new _ _ _
 have b1:uq (eP H (OD k (qn nm.1 nm.2) O p al.length c e).toArray eX) (Array.size H) k (qn nm.1 nm.2) O p al.length c e:=eU
 refine eZ ⟨_,b1.OJ,u3 (eH ht f1) (List.mem_append_left _ ah) λY f2=>eZ ?_⟩
 have f3:=Fr.push Y (.map #[] 0)
 have aj:=(f1.dF f2).dF f3
 have b3:=(b1.fC f2).fC f3
 refine dD (λs H'=>s=(true,())/\Fr fa H H') ⟨_,_,_,eD b3 3,eW (λm s H'=>∃(i:Nat)(es:Array MapEntry)(u:Nat),s=(true,(i:Int),())/\i<=al.length/\m=al.length-i/\wh Gb H' (Array.size Y) ((al.take i).map oY) es u/\Fr fa H H') al.length ⟨0,#[],0,rfl,by omega,rfl,⟨oH _ _,rfl⟩,aj⟩ ?_⟩ ?_
 .rintro m _ H5 ⟨i,es,u,rfl,hi,rfl,mp,Z⟩
  dsimp only
  refine eE (λN=>?_) λaH=>⟨rfl,Z⟩
  have N:i<al.length:=by omega
  obtain⟨a,am,an⟩:=Mo (hp.fC Z) N
  have hq:=ha _ (List.getElem_mem N)
  have aa:al.take (i+1)=al.take i++[al[i]]:=by rw[List.take_add_one];simp[N]
  have ab:oY al[i]∉(al.take i).map oY:=λhh=>by
   have ad:(al.take i++[al[i]]).map oY=(al.map oY).take (i+1):=by rw[<-aa,List.map_take]
   have:=(List.take_sublist (i+1) (al.map oY)).nodup hn
   rw[<-ad,List.map_append,List.nodup_append] at this
   exact this.2.2 _ hh _ (by simp) rfl
  generalize al[i]=q at*
  refine dD (λs H'=>∃es u,s=(true,())/\wh Gb H' (Array.size Y) ((al.take (i+1)).map oY) es u/\Fr fa H H') ⟨a,am,by omega,by omega,rS (eJ (oY q)) (eJ (yB q)) (λj hj=>by rw[Int.toNat_natCast];exact an j hj) (Ax _ _ λH8 b8 f8=>⟨_,eD b8 0,u3 (eH ht (Z.dF f8)) (zL hq) λH9 f9=>?_⟩)⟩ ?_
  .have ac:=f8.dF f9
   have b9:OK H9 (Array.size H5) (oY q) (yB q):=f9.fi b8 λh=>h
   have I:wh Gb H9 (Array.size Y) ((al.take i).map oY) es u:=⟨ac.fi mp.1 λh=>h,mp.2⟩
   refine dD (λs H'=>s=(true,())/\H9=H') (eN rfl (eN rfl ⟨_,eD b9 0,es,u,none,I.1,λem w=>P8.Qq (oY q) em w,λw=>I.no P8 ab w,rfl,rfl⟩)) ?_
   rintro _ _ ⟨rfl,rfl⟩
   have au:=Z.dF ac
   refine⟨_,eD b9 0,es,u,I.1,λem w=>P8.Qq (oY q) em w,λw=>I.no P8 ab w,eZ ⟨_,_,rfl,by rw[aa,List.map_append];exact I.add (oY q) (.bool true) u,au.fresh (Fr.Ap _ _ _) λk hk=>by have:=(f1.dF f2).size;omega⟩⟩
  .rintro _ H6 ⟨es,u,rfl,av,f6⟩
   exact⟨al.length-(i+1),by omega,i+1,es,u,by rw[show((i+1:Nat):Int)=IntKind.i64.wrap ((i:Int)+1) from(qN i (by omega)).symm],by omega,rfl,av,f6⟩
 .rintro _ H4 ⟨rfl,f4⟩
  exact hR _ f4
theorem FA{H:dw}{N:dE}{O:dC}{u w:Nat}{Y:dC}{I:Nat}(x y:dE){R:Int->dw->Prop}(Z:∀H',Fr fa H H'->R 1 H'):kp.C N O u w Y 0 I x y H R:=by
 apply kp.calls
 unfold kp.W
 refine eZ (eZ (eZ ⟨_,_,_,(((Fr.new _ _ _).dF (Fr.new _ _ _)).fi eU λh=>h:(eP (eP (eP H #[.string N,.slice O u w,.slice Y 0 I] gL) #[.string x] fp) #[.string y] fp)[Array.size H]?=some (.cells #[.string N,.slice O u w,.slice Y 0 I] gL (0,0))) |> λh=>(dO h 0 2).trans rfl,?_⟩))
 apply mN.calls
 unfold mN.W
 refine dD (λ_ H'=>Fr fa H H') (eW (λ_ s H'=>s=(0,())/\Fr fa H H') 0 ⟨rfl,((Fr.new _ _ _).dF (Fr.new _ _ _)).dF (Fr.new _ _ _)⟩ ?_) ?_
 .rintro n _ H' ⟨rfl,f⟩
  exact eI XB f
 .rintro _ H' f
  exact fD (by decide) (Z _ f)
theorem Gu{H:dw}(ht:gG H){nm tx:By}{al:List (By×By×By)}(ha:∀q∈al,q∈qK)(h6:al.length<=6){p:dC}{c:Nat}(hp:eY H p (tT al)){k:Int}{e:Bool}{d0:dE}{d1:dC}{w I:Nat}{d2:dC}{N:Nat}{rb:Nat}{l0 l1 l3:Int}{R:dC->Nat->Nat->Int->dw->Prop}
 (hR:∀q c' H',jK 2 H' gx (G1 al) q al.length c'->Fr fa H H'->R q al.length c' 0 H'):kV.C k (eJ nm) (eJ tx) p al.length c e d0 d1 w I d2 0 N (some ⟨rb,0,none⟩) l0 l1 3000 l3 H R:=by
 apply kV.calls
 unfold kV.W
 refine dN λH1 h1=>dN λH2 h2=>dN λu h3=>?_
 have f1:Fr fa H H1:=h1▸Fr.new H _ _
 have f2:Fr fa H1 H2:=h2▸Fr.new H1 _ _
 have f3:Fr fa H2 u:=h3▸Fr.new H2 _ _
 have b3:uq u (Array.size H) k nm tx p al.length c e:=f3.fi (f2.fi (h1▸eU:uq H1 (Array.size H) k nm tx p al.length c e) λh=>h) λh=>h
 have c3:u[Array.size H1]?=some (.cells #[.string d0,.slice d1 w I,.slice d2 0 N] gL (0,0)):=f3.fi (h2▸eU) λh=>h
 have e3:u[Array.size H2]?=some (.cells #[.int .i64 l0,.int .i64 l1,.int .i64 3000,.int .i64 l3] iG (0,0)):=h3▸eU
 have O:=(f1.dF f2).dF f3
 have z1:=O.size
 clear h1 h2 h3
 refine dD (λs H'=>∃q c',s=((q,al.length,c'),())/\jK 2 H' gx (G1 al) q al.length c'/\Fr fa u H') ⟨_,_,_,eD b3 3,eW (λm s H'=>∃(i:Nat)(q:dC)(c':Nat),s=((q,(al.take i).length,c'),(i:Int),())/\i<=al.length/\m=al.length-i/\jK 2 H' gx (G1 (al.take i)) q (al.take i).length c'/\(∀k,eB q k->Array.size u<=k)/\Fr fa u H') al.length ⟨0,none,0,rfl,by omega,rfl,jK.nil _ _ _,λk hk=>absurd hk (fm k),Fr.refl _ _⟩ ?_⟩ ?_
 .rintro m _ H5 ⟨i,q,c',rfl,hi,rfl,s5,hq,f5⟩
  dsimp only
  refine eE (λY=>?_) λa4=>?_
  rotate_left
  .have:i=al.length:=by omega
   rw[this,List.take_length] at s5⊢
   exact⟨q,c',rfl,s5,f5⟩
  have Y:i<al.length:=by omega
  obtain⟨a,aC,aD⟩:=Mo ((hp.fC O).fC f5) Y
  have aE:=ha _ (List.getElem_mem Y)
  have ai:al.take (i+1)=al.take i++[al[i]]:=by rw[List.take_add_one];simp[Y]
  generalize al[i]=x at*
  refine⟨a,aC,by omega,by omega,rS (eJ (oY x)) (eJ (yB x)) (λj hj=>by rw[Int.toNat_natCast];exact aD j hj) (Ax _ _ λH7 b7 f7=>?_)⟩
  have Z:=f5.dF f7
  have e7:∀{H':dw},Fr fa H7 H'->dL H' ((⟨Array.size H2,0,none⟩:dA).add 2)=some (.int .i64 3000):=λf=>(dO ((Z.dF f).fi e3 λh=>h) 0 2).trans rfl
  have c7:=Z.fi c3 λh=>h
  refine⟨_,eD b7 1,mQ d0 d1 w I d2 0 N (λj _=>eD (vs:=[.string d0,.slice d1 w I,.slice d2 0 N]) c7 j) ⟨_,(b3.fC Z).OJ,_,eD b7 0,_,e7 (Fr.refl _ _),FA _ _ λH8 f8=>?_⟩⟩
  have b8:OK H8 (Array.size H5) (oY x) (yB x):=f8.fi b7 λh=>h
  refine⟨⟨_,eD b8 1,rfl⟩,⟨_,e7 f8,rfl⟩,K4 (eH ht ((O.dF Z).dF f8)) aE rb λH9 f9=>eI (by decide) ?_⟩
  have b9:OK H9 (Array.size H5) (oY x) (yB x):=f9.fi b8 λh=>h
  have ad:=(f7.dF f8).dF f9
  refine⟨_,eD b9 0,eZ ?_⟩
  have a5:(al.take i).length=i:=by rw[List.length_take];omega
  refine sb (new:=Uk x) (s5.fC ad) rfl rfl rfl (PL x) (by omega) (by decide) λp' aJ a6 aK aL ar=>?_
  refine⟨al.length-(i+1),by omega,i+1,p',aJ,?_,by omega,rfl,?_,λk hk=>(ar k hk).elim (hq k) λh=>by have:=(f5.dF ad).size;omega,(f5.dF ad).fresh aL hq⟩
  .rw[ai,List.length_append,show IntKind.i64.wrap ((i:Int)+1)=((i+1:Nat):Int) from qN i (by omega)];rfl
  .rw[ai,List.length_append,<-Ki];exact aK
 rintro _ H4 ⟨q,c',rfl,s4,f4⟩
 refine dD (λs H'=>s=((q,al.length,c'),())/\H4=H') ⟨_,_,_,(dO (f4.fi c3 λh=>h) 0 2).trans rfl,eW (λ_ s H'=>s=((q,al.length,c'),0,())/\H4=H') 0 ⟨rfl,rfl⟩ ?_⟩ ?_
 .rintro n _ _ ⟨rfl,rfl⟩
  exact eI XB ⟨rfl,rfl⟩
 .rintro _ _ ⟨rfl,rfl⟩
  exact hR q c' _ s4 (O.dF f4)
end Go.Proofs.fv
namespace Go.Ex
def jv(q:By×By×By):At:=⟨q.1,q.2.1,[],q.2.2⟩
theorem Cz{al:List (By×By×By)}(h:∀q∈al,q∈qK):∀a∈al.map jv,a.u=[]/\(a.p,a.l,a.v)∈qK:=λa w=>by
 obtain⟨q,I,rfl⟩:=List.mem_map.1 w
 exact⟨rfl,h q I⟩
def uj(L:List (List At))(nm:By×By)(al:List (By×By×By))(d:Int):Nd:=
 {k:=2,d:=d,p:=nm.1,l:=nm.2,u:=(kC nm.1 (L++[mS (al.map jv)])).1,v:=[],gh:=(al.map jv).map (ie (L++[mS (al.map jv)]))}
end Go.Ex
namespace Go.Proofs.fv
open Go.Ex Go.X
theorem FY{H:dw}(ht:gG H){g:Nat}{F:Nat->Prop}{L:List Lv}{sp:dC}{sc:Nat}(Z:zd H g F L sp sc)(hl:L.length<=1048576)(h7:∀k,F k->7<k){nm:By×By}(a0:nm∈xV){al:List (By×By×By)}(ha:∀q∈al,q∈qK)(hn:(al.map oY).Nodup)(w:((al.map jv).map j4).Nodup)(h6:al.length<=6)
 (bA:wg (L.map Lv.d++[mS (al.map jv)]) nm.1 (al.map jv)){p:dC}{c:Nat}(hp:eY H p (tT al)){k:Int}{tx:By}{e:Bool}{d0:dE}{d1:dC}{ah ai:Nat}{d2:dC}{aj rb:Nat}{l0 l1 l3:Int}(h3:6<=l3)
 {R:Int->Int->dE->dE->dE->dE->dC->Nat->Nat->Int->dw->Prop}
 (hR:∀F' p' c' q' m q d H',zd H' g F' (L++[⟨mS (al.map jv),q',m⟩]) p' c'->eY H' q (gk (uj (L.map Lv.d) nm al 0).gh)/\(uj (L.map Lv.d) nm al 0).gh.length<=d->(∀k,eB q k->Array.size H<=k/\k<Array.size H'/\¬F' k)->Gr F F' H H'->
  R 2 0 (eJ nm.1) (eJ nm.2) (eJ (uj (L.map Lv.d) nm al 0).u) eS q (uj (L.map Lv.d) nm al 0).gh.length d 0 H'):
 l8.C k (eJ (qn nm.1 nm.2)) (eJ tx) p al.length c e d0 d1 ah ai d2 0 aj (some ⟨rb,0,none⟩) (some ⟨g,0,none⟩) l0 l1 3000 l3 H R:=by
 apply l8.calls
 unfold l8.W
 refine dN λH1 h1=>dN λH2 h2=>dN λH3 ay=>dN λH4 h4=>?_
 have f1:Fr fa H H1:=h1▸Fr.new H _ _
 have f2:Fr fa H1 H2:=h2▸Fr.new H1 _ _
 have f3:Fr fa H2 H3:=ay▸Fr.new H2 _ _
 have f4:Fr fa H3 H4:=h4▸Fr.new H3 _ _
 have b1:uq H1 (Array.size H) k (qn nm.1 nm.2) tx p al.length c e:=h1▸eU
 have c2:H2[Array.size H1]?=some (.cells #[.string d0,.slice d1 ah ai,.slice d2 0 aj] gL (0,0)):=h2▸eU
 have c3:H3[Array.size H2]?=some (.cells #[.int .i64 l0,.int .i64 l1,.int .i64 3000,.int .i64 l3] iG (0,0)):=ay▸eU
 have c4:H4[Array.size H3]?=some (.cells #[.int .i64 0,.int .i64 0,.string eS,.string eS,.string eS,.string eS,.slice none 0 0] eC (0,0)):=h4▸eU
 have az:Fr fa H H4:=((f1.dF f2).dF f3).dF f4
 have z1:=eR b1
 have z2:=eR c2
 have z3:=eR c3
 have z4:=eR c4
 have cn:=f1.size
 have b4:uq H4 (Array.size H) k (qn nm.1 nm.2) tx p al.length c e:=((b1.fC f2).fC f3).fC f4
 have bG:=f4.fi (f3.fi c2 λh=>h) λh=>h
 have a3:=f4.fi c3 λh=>h
 clear h1 h2 ay h4
 refine⟨_,_,_,eD b4 3,_,(dO a3 0 3).trans rfl,eI (by omega) (b4.ld (MY (eH ht az) a0 ha hn h6 (hp.fC az) λH5 f5=>dH rfl ?_))⟩
 have b5:=b4.fC f5
 have aB:=az.dF f5
 refine b5.ld (mQ d0 d1 ah ai d2 0 aj (λj _=>eD (vs:=[.string d0,.slice d1 ah ai,.slice d2 0 aj]) (f5.fi bG λh=>h) j) (qx l0 l1 3000 l3 (λj _=>eD (vs:=[.int .i64 l0,.int .i64 l1,.int .i64 3000,.int .i64 l3]) (f5.fi a3 λh=>h) j) ?_))
 refine Gu (eH ht aB) ha h6 (hp.fC aB) λoq oc Y s6 f6=>eI (by decide) (eZ ?_)
 have ak:=aB.dF f6
 have a4:=f5.dF f6
 have z6:=a4.size
 refine mP (cs:=#[.int .i64 0,.int .i64 0,.string eS,.string eS,.string eS,.string eS,.slice none 0 0]) (t:=eC) (vs:=oe ⟨2,0,[],[],[],[],[]⟩ none 0) (Fr.refl fa _) rfl λH8 b8 f8 _=>?_
 have bJ:=ak.dF f8
 refine⟨_,((b5.fC f6).fC f8).OJ,u3 (eH ht bJ) (List.mem_append_left _ a0) λH9 f9=>?_⟩
 have b9:js H9 (Array.size Y) ⟨2,0,[],[],[],[],[]⟩ none 0:=f9.fi b8 λh=>h
 refine hP (o:=2) b9 (by simp[oe]) λbL aC bM=>?_
 have aC:js bL (Array.size Y) ⟨2,0,nm.1,[],[],[],[]⟩ none 0:=by rw[js,aC];simp[oe]
 refine hP (o:=3) aC (by simp[oe]) λI ac bN=>?_
 have ac:js I (Array.size Y) ⟨2,0,nm.1,nm.2,[],[],[]⟩ none 0:=by rw[js,ac];simp[oe]
 have aa:Fr fa Y I:=((f8.dF f9).fresh bM λi hi=>by omega).fresh bN λi hi=>by omega
 have af:=ak.dF aa
 have a5:=eH ht af
 have bO:=s6.fC aa
 have co:=aa.size
 refine dD (λ_ H'=>∃q d,js H' (Array.size Y) ⟨2,0,nm.1,nm.2,[],[],al.map jv⟩ q d/\jK 4 H' eF (gk (al.map jv)) q (al.map jv).length d/\(∀k,eB q k->Array.size I<=k)/\Fr (λk=>k=Array.size Y) I H') (eW (λm(s:Int×Unit) H'=>∃(i:Nat)(q:dC)(d:Nat),s.1=(i:Int)/\i<=al.length/\m=al.length-i/\js H' (Array.size Y) ⟨2,0,nm.1,nm.2,[],[],(al.take i).map jv⟩ q d/\jK 4 H' eF (gk ((al.take i).map jv)) q ((al.take i).map jv).length d/\
  (∀k,eB q k->Array.size I<=k)/\Fr (λk=>k=Array.size Y) I H') al.length ⟨0,none,0,rfl,by omega,rfl,ac,jK.nil _ _ _,λk w=>absurd w (fm k),Fr.refl _ _⟩ ?_) ?_
 .rintro m ⟨_,_⟩ aD ⟨i,q,d,rfl,hi,rfl,nb,aE,N,ad⟩
  dsimp only
  refine eE (λam=>?_) λcp=>?_
  rotate_left
  .have:i=al.length:=by omega
   rw[this,List.take_length] at aE nb
   exact⟨q,d,nb,aE,N,ad⟩
  have am:i<al.length:=by omega
  have cq:=eR ac
  obtain⟨a,bP,bQ⟩:=SA (bO.cells.eO ad λk w e=>by have:=s6.gE w;omega) am
  have bR:=ha _ (List.getElem_mem am)
  have a6:al.take (i+1)=al.take i++[al[i]]:=by rw[List.take_add_one];simp[am]
  generalize al[i]=x at*
  have bS:gG aD:=fM a5 ad λj hj e=>by have:=jP ht;have:=ak.size;omega
  refine⟨a,bP,by omega,by omega,rS (eJ (oY x)) (eJ x.2.2) (λj hj=>by rw[Int.toNat_natCast];exact bQ j hj) (Ax _ _ λan a7 aF=>⟨_,eD a7 1,eZ ?_⟩)⟩
  refine mP (cs:=#[.string eS,.string eS,.string eS,.string eS]) (t:=eF) (vs:=v8 ⟨[],[],[],x.2.2⟩) (Fr.refl fa _) rfl λa8 aG aH _=>?_
  have aG:rf a8 (Array.size an) ⟨[],[],[],x.2.2⟩:=aG
  have bq:OK a8 (Array.size aD) (oY x) x.2.2:=aH.fi a7 λh=>h
  refine⟨_,eD bq 0,u3 (eH bS (aF.dF aH)) (zL bR) λbT a9=>?_⟩
  have bU:rf bT (Array.size an) ⟨[],[],[],x.2.2⟩:=a9.fi aG λh=>h
  have cr:=aF.size
  have ct:=eR nb
  refine hP (o:=0) bU (by simp[v8]) λbV aI bW=>?_
  have aI:rf bV (Array.size an) ⟨x.1,[],[],x.2.2⟩:=by rw[rf,aI];simp[v8]
  refine hP (o:=1) aI (by simp[v8]) λaJ aK bX=>?_
  have aK:rf aJ (Array.size an) (jv x):=by rw[rf,aK];simp[v8,jv]
  have O:Fr fa aD aJ:=(((aF.dF aH).dF a9).fresh bW λk w=>by omega).fresh bX λk w=>by omega
  have aL:js aJ (Array.size Y) ⟨2,0,nm.1,nm.2,[],[],(al.take i).map jv⟩ q d:=O.fi nb λh=>h
  refine⟨_,_,_,aL.cell 6,rf.ld (λj _=>aK.at j) (eZ ?_)⟩
  have cu:((al.take i).map jv).length=i:=by rw[List.length_map,List.length_take];omega
  refine sb (new:=v8 (jv x)) (aE.fC O) rfl rfl rfl (sU _) (by show(((al.take i).map jv).length+1)*64<=_;omega) (by decide) λp' c' cv bY ba br=>?_
  have bu:=ba.fi aL λw=>by have:=N _ w;omega
  refine hP (o:=6) bu (by simp[oe]) λcw bZ bb=>?_
  have bc:∀k,eB p' k->Array.size I<=k:=λk w=>(br k w).elim (N k) λh=>by have:=ad.size;have:=O.size;omega
  refine⟨al.length-(i+1),by omega,i+1,p',c',qN i (by omega),by omega,rfl,?_,?_,bc,?_⟩
  .rw[js,bZ,a6,List.map_append];simp[oe]
  .rw[a6,List.map_append,List.length_append]
   have:=bY.eO bb λk w e=>by have:=bc k w;omega
   rwa[sa] at this
  .refine((ad.trans (O.mono λ_ h=>h.elim) λk w=>.inl w).trans ba λk w=>.inr (N k w)).trans bb λk w=>.inl w
 rintro _ aM ⟨q,d,nb,bd,N,ae⟩
 have l6:Array.size Y<Array.size I:=eR ac
 have zz:=ak.size
 have b0:gG aM:=fM a5 ae λj hj e=>by have:=jP ht;omega
 have bv:=(Z.fC af).eO ae λk w e=>by have:=Z.hl k w;omega
 have b2:(al.map jv).length=al.length:=List.length_map _
 refine Br b0 bv hl nb bd ⟨λhh=>by have:=Z.hl _ hh;omega,λk w=>⟨λhh=>by have:=Z.hl _ hh;have:=N k w;omega,by have:=N k w;omega,by have:=N k w;have:=jP ht;omega⟩,by have:=jP ht;omega,h7⟩ (Cz ha) w (by rw[b2];exact h6) bA λF' p' c' q' m be bw bx bf aO aP=>eI (by decide) ?_
 have cx:=ae.size
 have b3:=aO.size
 have bg:∀{k:Nat},Array.size H<=k->k<Array.size aM->¬F' k:=λh1 h2 hh=>(aP _ hh).elim (λh=>by have:=Z.hl _ h;omega) λh=>by omega
 refine ja _ _ _ _ _ _ _ _ _ (λj _=>bx.cell j) ?_
 have bz:be[Array.size H3]?=some (.cells #[.int .i64 0,.int .i64 0,.string eS,.string eS,.string eS,.string eS,.slice none 0 0] eC (0,0)):=aO.fi (ae.fi ((a4.dF aa).fi c4 λh=>h) λe=>by omega) λhh=>by
  rcases hh with h|h|h
  .have:=Z.hl _ h;omega
  .omega
  .have:=N _ h;omega
 refine tR (cs:=#[.int .i64 0,.int .i64 0,.string eS,.string eS,.string eS,.string eS,.slice none 0 0]) bz rfl λb6 b7 ao=>?_
 refine ja _ _ _ _ _ _ _ _ _ (λj _=>eD b7 j) ?_
 have bh:∀k,eB q k->k<Array.size aM:=λk w=>bd.gE w
 have ca:=hR F' p' c' q' m q d b6 (bw.eO ao λk w e=>bg (by omega) (by omega) (e▸w)) ⟨bf.cells.eO ao λk w e=>by have:=N k w;omega,by have:=bf.cap;show(List.map _ _).length<=d;rw[List.length_map];exact this⟩ (λk w=>⟨by have:=N k w;omega,Nat.lt_of_lt_of_le (bh k w) (Nat.le_trans b3 ao.size),bg (by have:=N k w;omega) (bh k w)⟩) ⟨?_,λk w=>(aP k w).imp id λh=>by omega⟩
 .exact ca
 .have fA:Fr F H be:=((af.mono λ_ h=>h.elim:Fr F H I).trans ae λk w=>.inr (by omega)).trans aO λk w=>by
   rcases w with h|h|h
   .exact .inl h
   .exact .inr (by omega)
   .exact .inr (by have:=N k h;omega)
  exact fA.trans ao λk w=>.inr (by omega)
end Go.Proofs.fv
namespace Go.Ex
structure TN where
 n:Nd
 q:dC
 c:Nat
def wj(x:TN):List dB:=oe x.n x.q x.c
def rN(t:List TN):List dB:=(t.map wj).flatten
theorem wL(t:List TN):∀x∈t.map wj,x.length=7:=λx h=>by obtain⟨a,_,rfl⟩:=List.mem_map.1 h;rfl
theorem rM(t:List TN)(n:TN):rN t++wj n=rN (t++[n]):=by unfold rN;simp
theorem wK(n:TN):∀v∈wj n,One v:=by
 intro v h
 simp only[wj,oe,List.mem_cons,List.not_mem_nil,or_false] at h
 rcases h with rfl|rfl|rfl|rfl|rfl|rfl|rfl<;>exact⟨by simp,by simp⟩
theorem qQ{H:dw}{t:List TN}{p:dC}{l c:Nat}{u:eK}(h:jK 7 H u (rN t) p l c):t.length=l:=by
 have:=h.1
 unfold rN at this
 rw[oN (s:=7) _ (wL t),List.length_map] at this
 omega
def Bv(y:TN):Prop:=y.n.gh.length<=y.c/\(y.n.k≠2->y.q=none/\y.c=0)
structure RC where
 l0:Int
 l1:Int
 l3:Int
 dn:By
 rb:Nat
structure RI where
 tp:dC
 tl:Nat
 tc:Nat
 q:dC
 p:dC
 l:Nat
 c:Nat
 G:Nat->Prop
 sp:dC
 sc:Nat
 A:Nat->Prop
def Ed(k:RC)(d:RI)(g:Nat)(root:Bool):List dB:=[.slice d.tp d.tl d.tc,.int .i64 k.l0,.int .i64 k.l1,.int .i64 3000,.int .i64 k.l3,.string (eJ k.dn),.slice none 0 0,.slice none 0 0,.pointer (some ⟨k.rb,0,none⟩),.pointer (some ⟨g,0,none⟩),.pointer d.q,.slice d.p d.l d.c,.bool root]
def RI.own(d:RI)(x:Nat):Nat->Prop:=λk=>k=x\/d.G k\/eB d.tp k\/eB d.p k\/d.A k
def K9(k d:Int)(l v:By):TN:=⟨⟨k,d,[],l,[],v,[]⟩,none,0⟩
def Cq(o:By)(dep:Int):List TN:=match o with|[]=>[]|_=>[K9 3 dep [] o]
end Go.Ex
namespace Go.Proofs.fv
open Go.Ex Go.X
structure RS(H:dw)(x g:Nat)(k:RC)(d:RI)(t:List TN)(o:By)(L:List Lv)(root:Bool):Prop where
 fi:H[x]?=some (.cells (Ed k d g root).toArray iX (0,0))
 tr:jK 7 H eC (rN t) d.tp d.tl d.tc
 at':∀y∈t,eY H y.q (gk y.n.gh)/\∀k,eB y.q k->d.A k
 qq:d.q=none\/d.q=some ⟨x,10,none⟩
 bu:Sl H lI (sn o) d.p d.l d.c
 bc:d.p.isSome=true->d.c≠0
 sc:zd H g d.G L d.sp d.sc
 nx:¬d.G x/\¬eB d.tp x/\¬eB d.p x/\¬d.A x
 ng:∀k,d.G k->¬eB d.tp k/\¬eB d.p k/\¬d.A k
 nt:∀k,eB d.tp k->¬eB d.p k/\¬d.A k
 na:∀k,d.A k->¬eB d.p k/\k<Array.size H
 ac:∀y∈t,Bv y
section
variable {H H':dw} {x g:Nat} {k:RC} {d:RI} {t:List TN} {o:By} {L:List Lv} {root:Bool}
theorem RS.eO{F:Nat->Prop}(h:RS H x g k d t o L root)(f:Fr F H H')(u:∀i,d.own x i->¬F i):RS H' x g k d t o L root where
 fi:=f.fi h.fi (u _ (.inl rfl))
 tr:=h.tr.eO f λi hi=>u i (.inr (.inr (.inl hi)))
 at':=λy w=>⟨(h.at' y w).1.eO f λi hi=>u i (.inr (.inr (.inr (.inr ((h.at' y w).2 i hi))))),(h.at' y w).2⟩
 qq:=h.qq
 bu:=h.bu.eO f λi hi=>u i (.inr (.inr (.inr (.inl hi))))
 bc:=h.bc
 sc:=h.sc.eO f λi hi=>u i (.inr (.inl hi))
 nx:=h.nx
 ng:=h.ng
 nt:=h.nt
 na:=λi hi=>⟨(h.na i hi).1,Nat.lt_of_lt_of_le (h.na i hi).2 f.size⟩
 ac:=h.ac
theorem RS.fC(h:RS H x g k d t o L root)(f:Fr fa H H'):RS H' x g k d t o L root:=h.eO f λ_ _ h=>h
theorem RS.lt(h:RS H x g k d t o L root){i:Nat}(hi:d.own x i):i<Array.size H:=by
 rcases hi with rfl|hi|hi|hi|hi
 .exact eR h.fi
 .exact h.sc.hl i hi
 .exact h.tr.gE hi
 .exact h.bu.gE hi
 .exact(h.na i hi).2
theorem RS.cell(h:RS H x g k d t o L root)(j:Nat):dL H ((⟨x,0,none⟩:dA).add j)=(Ed k d g root)[j]?:=eD h.fi j
theorem RS.set{I:Nat->Prop}{O:List Lv}{sp':dC}{sc':Nat}(h:RS H x g k d t o L root)(f:Fr d.G H H')(s:zd H' g I O sp' sc')(W:∀i,I i->d.G i\/Array.size H<=i):RS H' x g k {d with G:=I,sp:=sp',sc:=sc'} t o O root where
 fi:=f.fi h.fi h.nx.1
 tr:=h.tr.eO f λi hi u=>(h.ng i u).1 hi
 at':=λy N=>⟨(h.at' y N).1.eO f λi hi u=>(h.ng i u).2.2 ((h.at' y N).2 i hi),(h.at' y N).2⟩
 qq:=h.qq
 bu:=h.bu.eO f λi hi u=>(h.ng i u).2.1 hi
 bc:=h.bc
 sc:=s
 nx:=⟨λY=>(W x Y).elim h.nx.1 λZ=>by have:=h.lt (.inl rfl);omega,h.nx.2⟩
 ng:=λi hi=>(W i hi).elim (h.ng i) λZ=>⟨λw=>by have:=h.tr.gE w;omega,λw=>by have:=h.bu.gE w;omega,λw=>by have:=(h.na i w).2;omega⟩
 nt:=h.nt
 na:=λi hi=>⟨(h.na i hi).1,Nat.lt_of_lt_of_le (h.na i hi).2 f.size⟩
 ac:=h.ac
theorem RS.push{Y:dw}(h:RS H x g k d t o L root)(n:TN)(hn:eY H n.q (gk n.n.gh))(Z:Bv n)(hq:∀k,eB n.q k->k<Array.size H/\¬d.own x k)(h3:Y=eP H (wj n).toArray eC)(ht:t.length<=1048576){z:dB}(hz:(gH z).length=7){K:dw->Prop}
 (hK:∀d' H',RS H' x g k d' (t++[n]) o L root->Fr (d.own x) H H'->(∀i,d'.own x i->d.own x i\/eB n.q i\/Array.size H<=i)->K H'):
 ji eC 7 104 z d.tp d.tl d.tc (.slice (some ⟨Array.size H,0,none⟩) 1 1) Y λp l c H4=>∃y:dA,some (⟨x,0,none⟩:dA)=some y/\j0 (.slice p l c) (y.add 0) H4 K:=by
 have aq:=qQ h.tr
 refine sb (new:=wj n) h.tr h3 hz rfl (wK _) (by omega) (by decide) λW c' H4 s4 f4 O=>?_
 rw[rM] at s4
 have b4:=f4.fi h.fi h.nx.2.1
 have ar:x<Array.size H:=eR h.fi
 have np:¬eB W x:=λu=>(O x u).elim h.nx.2.1 λu=>by omega
 refine⟨_,rfl,hP b4 (by simp[Ed]) λH5 b5 f5=>?_⟩
 have I:Fr (λi=>i=x\/eB d.tp i) H H5:=(f4.mono λi hi=>.inr hi).trans f5 λi hi=>.inl (.inl hi)
 have new:∀i,eB W i->i<Array.size H->eB d.tp i:=λi hi hl=>(O i hi).elim id λu=>by omega
 have N:∀i,d.A i\/eB n.q i->i<Array.size H/\i≠x/\¬eB d.tp i/\¬eB d.p i/\¬d.G i:=λi hi=>by
  rcases hi with hi|hi
  .exact⟨(h.na i hi).2,λe=>h.nx.2.2.2 (e▸hi),λu=>(h.nt i u).2 hi,(h.na i hi).1,λu=>(h.ng i u).2.2 hi⟩
  .have:=hq i hi
   exact⟨this.1,λe=>this.2 (.inl e),λu=>this.2 (.inr (.inr (.inl u))),λu=>this.2 (.inr (.inr (.inr (.inl u)))),λu=>this.2 (.inr (.inl u))⟩
 refine hK {d with tp:=W,tl:=d.tl+1,tc:=c',A:=λi=>d.A i\/eB n.q i} H5 ⟨?_,s4.eO f5 λi hi e=>np (e▸hi),λy w=>?_,h.qq,h.bu.eO I λi hi u=>?_,h.bc,h.sc.eO I λi hi u=>?_,⟨h.nx.1,np,h.nx.2.2.1,λu=>(N x u).2.1 rfl⟩,λi hi=>⟨λu=>?_,(h.ng i hi).2.1,λu=>(N i u).2.2.2.2 hi⟩,λi hi=>⟨λu=>?_,λu=>?_⟩,λi hi=>⟨(N i hi).2.2.2.1,Nat.lt_of_lt_of_le (N i hi).1 I.size⟩,λy w=>(List.mem_append.1 w).elim (h.ac y) λw=>by rw[List.mem_singleton] at w;exact w▸Z⟩ (I.mono λi hi=>?_) λi hi=>?_
 .rw[b5];simp[Ed]
 .rcases List.mem_append.1 w with w|w
  .exact⟨(h.at' y w).1.eO I λi hi u=>by have:=N i (.inl ((h.at' y w).2 i hi));exact u.elim this.2.1 this.2.2.1,λi hi=>.inl ((h.at' y w).2 i hi)⟩
  .rw[List.mem_singleton] at w
   subst w
   exact⟨hn.eO I λi hi u=>by have:=N i (.inr hi);exact u.elim this.2.1 this.2.2.1,λi hi=>.inr hi⟩
 .rcases u with rfl|u
  .exact h.nx.2.2.1 hi
  .exact(h.nt i u).1 hi
 .rcases u with rfl|u
  .exact h.nx.1 hi
  .exact(h.ng i hi).1 u
 .exact(h.ng i hi).1 (new i u (h.lt (.inr (.inl hi))))
 .exact(h.nt i (new i hi (h.bu.gE u))).1 u
 .exact(N i u).2.2.1 (new i hi (N i u).1)
 .rcases hi with hi|hi
  .exact .inl hi
  .exact .inr (.inr (.inl hi))
 .rcases hi with hi|hi|hi|hi|hi|hi
  .exact .inl (.inl hi)
  .exact .inl (.inr (.inl hi))
  .rcases O i hi with u|u
   .exact .inl (.inr (.inr (.inl u)))
   .exact .inr (.inr u)
  .exact .inl (.inr (.inr (.inr (.inl hi))))
  .exact .inl (.inr (.inr (.inr (.inr hi))))
  .exact .inr (.inl hi)
theorem RS.U9{I:dw}(h:RS H x g k d t o L root)(n:TN)(u:n.q=none/\n.n.gh=[]/\n.c=0)(O:I=eP H (wj n).toArray eC)(W:t.length<=1048576){z:dB}(Y:(gH z).length=7){K:dw->Prop}
 (Z:∀w H',RS H' x g k w (t++[n]) o L root->Gr (d.own x) (w.own x) H H'->K H'):
 ji eC 7 104 z d.tp d.tl d.tc (.slice (some ⟨Array.size H,0,none⟩) 1 1) I λp l c H4=>∃y:dA,some (⟨x,0,none⟩:dA)=some y/\j0 (.slice p l c) (y.add 0) H4 K:=
 h.push n (by rw[u.1,u.2.1];rfl) ⟨by rw[u.2.1];exact Nat.zero_le _,λ_=>⟨u.1,u.2.2⟩⟩ (λk N=>by rw[u.1] at N;exact absurd N (fm k)) O W Y λw H' r f up=>Z w H' r ⟨f,λi hi=>(up i hi).elim .inl λh=>h.elim (λh=>by rw[u.1] at h;exact absurd h (fm i)) .inr⟩
theorem A1(h:RS H x g k d t o L root)(ht:t.length<=1048576)(ho:o.length<=1048576)(dep:Int){R:dw->Prop}
 (hR:∀d' H',RS H' x g k d' (t++Cq o dep) [] L root->Gr (d.own x) (d'.own x) H H'->R H'):gM.C (some ⟨x,0,none⟩) dep H R:=by
 apply gM.calls
 unfold gM.W
 have N:(⟨x,0,none⟩:dA).add 10=⟨x,10,none⟩:=by rw[ly]
 have hl:o.length=d.l:=by have:=h.bu.1;rwa[pX] at this
 refine⟨_,rfl,?_⟩
 rw[N]
 refine Oq h.fi (o:=10) rfl (eE (λh0=>?_) (λh0=>?_))
 .obtain⟨a,o',rfl⟩:∃a o',o=a::o':=by cases o with|nil=>simp at hl;omega|cons a o'=>exact⟨a,o',rfl⟩
  refine⟨_,rfl,_,_,_,h.cell 0,_,rfl,?_⟩
  rw[N]
  refine yT h.fi (o:=10) rfl h.bu h.bc (by omega) λZ f2=>?_
  have nA:∀i,d.A i->¬eB d.p i:=λi hi=>(h.na i hi).1
  have b2:Z[x]?=some (.cells (Ed k d g root).toArray iX (0,0)):=f2.fi h.fi h.nx.2.2.1
  refine⟨⟨_,_,_,eD b2 0,rfl⟩,dN λH3 h3=>?_⟩
  have f3:Fr fa Z H3:=h3▸Fr.new Z _ _
  refine⟨⟨_,_,_,eD (f3.fi b2 λh=>h) 0,rfl⟩,?_⟩
  have ay:=qQ h.tr
  refine sb (new:=wj (K9 3 dep [] (a::o'))) (h.tr.eO f2 λi hi=>(h.nt i hi).1) h3 rfl rfl (wK _) (by omega) (by decide) λp' c' H4 s4 f4 O=>?_
  rw[rM] at s4
  have b4:=f4.fi b2 h.nx.2.1
  have z2:=f2.size
  have az:x<Array.size H:=eR h.fi
  have np:¬eB p' x:=λu=>(O x u).elim h.nx.2.1 λu=>by omega
  refine⟨_,rfl,hP b4 (by simp[Ed]) λH5 b5 f5=>⟨_,rfl,?_⟩⟩
  rw[N]
  refine HH b5 (by simp[Ed]) λH6 b6 f6=>?_
  have Y:Fr (λi=>i=x) H4 H6:=f5.trans f6 λi hi=>.inl hi
  have I:Fr (λi=>i=x\/eB d.tp i\/eB d.p i) H H6:=((f2.mono λi hi=>.inr (.inr hi)).trans f4 λi hi=>.inl (.inr (.inl hi))).trans Y λi hi=>.inl (.inl hi)
  have new:∀i,eB p' i->i<Array.size H->eB d.tp i:=λi hi hl=>(O i hi).elim id λu=>by omega
  refine hR {d with tp:=p',tl:=d.tl+1,tc:=c',q:=none,p:=none,l:=0,c:=0} H6 ⟨?_,s4.eO Y λi hi e=>np (e▸hi),λy w=>?_,.inl rfl,Sl.nil _ _,(λh=>by cases h),h.sc.eO I λi hi u=>?_,⟨h.nx.1,np,fm x,h.nx.2.2.2⟩,λi hi=>⟨λu=>?_,fm i,(h.ng i hi).2.2⟩,λi hi=>⟨fm i,λu=>?_⟩,λi hi=>⟨fm i,Nat.lt_of_lt_of_le (h.na i hi).2 I.size⟩,λy w=>(List.mem_append.1 w).elim (h.ac y) λw=>by rw[show y=K9 3 dep [] (a::o') by simpa[Cq] using w];exact⟨Nat.zero_le _,λ_=>⟨rfl,rfl⟩⟩⟩ ⟨I.mono λi hi=>?_,λi hi=>?_⟩
  .rw[b6];simp[Ed]
  .rcases List.mem_append.1 w with w|w
   .refine⟨(h.at' y w).1.eO I λi hi u=>?_,(h.at' y w).2⟩
    have hA:=(h.at' y w).2 i hi
    rcases u with e|e|e
    .exact h.nx.2.2.2 (e▸hA)
    .exact(h.nt i e).2 hA
    .exact nA i hA e
   .have:y=K9 3 dep [] (a::o'):=by simpa[Cq] using w
    subst this
    exact⟨rfl,λi hi=>absurd hi (fm i)⟩
  .rcases u with e|e|e
   .exact h.nx.1 (e▸hi)
   .exact(h.ng i hi).1 e
   .exact(h.ng i hi).2.1 e
  .exact(h.ng i hi).1 (new i u (h.lt (.inr (.inl hi))))
  .exact(h.nt i (new i hi (h.na i u).2)).2 u
  .rcases hi with e|e|e
   .exact .inl e
   .exact .inr (.inr (.inl e))
   .exact .inr (.inr (.inr (.inl e)))
  .rcases hi with e|e|e|e|e
   .exact .inl (.inl e)
   .exact .inl (.inr (.inl e))
   .rcases O i e with h'|h'
    .exact .inl (.inr (.inr (.inl h')))
    .exact .inr (by omega)
   .exact absurd e (fm i)
   .exact .inl (.inr (.inr (.inr (.inr e))))
 .have:o=[]:=List.eq_nil_of_length_eq_zero (by omega)
  subst this
  refine hR d H ?_ (Gr.refl _ _)
  simpa[Cq] using h
theorem Ri(h:RS H x g k d t o L root)(s:By)(N:s≠[])(hs:(o++s).length<=140737488355328){R:Int->dB->dw->Prop}(hR:∀O H' n v,RS H' x g k O t (o++s) L root->Gr (d.own x) (O.own x) H H'->R n v H'):ff.C (some ((⟨x,0,none⟩:dA).add 10)) (eJ s) H R:=by
 have W:(⟨x,0,none⟩:dA).add 10=⟨x,10,none⟩:=by rw[ly]
 rw[W]
 refine sd h.fi (o:=10) KX rfl h.qq rfl h.bu h.nx.2.2.1 s hs λn v Y l' c' H' b' w Z np f=>?_
 have ai:x<Array.size H:=eR h.fi
 have new:∀i,eB Y i->i<Array.size H->eB d.p i:=λi hi hl=>(Z i hi).elim id λu=>by omega
 refine hR {d with q:=some ⟨x,10,none⟩,p:=Y,l:=l',c:=c'} H' n v ⟨?_,h.tr.eO f λi hi u=>?_,λy I=>⟨(h.at' y I).1.eO f λi hi u=>?_,(h.at' y I).2⟩,.inr rfl,w,λaj=>?_,h.sc.eO f λi hi u=>?_,⟨h.nx.1,h.nx.2.1,np,h.nx.2.2.2⟩,λi hi=>⟨(h.ng i hi).1,λu=>?_,(h.ng i hi).2.2⟩,λi hi=>⟨λu=>?_,(h.nt i hi).2⟩,λi hi=>⟨λu=>?_,Nat.lt_of_lt_of_le (h.na i hi).2 f.size⟩,h.ac⟩ ⟨f.mono λi hi=>?_,λi hi=>?_⟩
 .rw[b'];simp[Ed]
 .rcases u with e|e
  .exact h.nx.2.1 (e▸hi)
  .exact(h.nt i hi).1 e
 .have hA:=(h.at' y I).2 i hi
  rcases u with e|e
  .exact h.nx.2.2.2 (e▸hA)
  .exact(h.na i hA).1 e
 .have hc:=w.cap
  have hl:=w.1
  rw[pX,List.length_append] at hl
  have:=List.length_pos_iff.2 N
  show c'≠0
  omega
 .rcases u with e|e
  .exact h.nx.1 (e▸hi)
  .exact(h.ng i hi).2.1 e
 .exact(h.ng i hi).2.1 (new i u (h.lt (.inr (.inl hi))))
 .exact(h.nt i hi).1 (new i u (h.lt (.inr (.inr (.inl hi)))))
 .exact(h.na i hi).1 (new i u (h.na i hi).2)
 .rcases hi with e|e
  .exact .inl e
  .exact .inr (.inr (.inr (.inl e)))
 .rcases hi with e|e|e|e|e
  .exact .inl (.inl e)
  .exact .inl (.inr (.inl e))
  .exact .inl (.inr (.inr (.inl e)))
  .rcases Z i e with h'|h'
   .exact .inl (.inr (.inr (.inr (.inl h'))))
   .exact .inr h'
  .exact .inl (.inr (.inr (.inr (.inr e))))
end
end Go.Proofs.fv
namespace Go.Ex
theorem I7(o:By)(d:Int):(Cq o d).length<=1:=by cases o<;>simp[Cq]
end Go.Ex
namespace Go.Proofs.fv
open Go.Ex Go.X
theorem RS.gr{H H':dw}{x:Nat}{d:RI}{u:Nat->Prop}{sp':dC}{sc':Nat}(w:Gr d.G u H H'):Gr (d.own x) (RI.own {d with G:=u,sp:=sp',sc:=sc'} x) H H':=
 ⟨w.fr.mono λi hi=>.inr (.inl hi),λi hi=>by
  rcases hi with h|h|h
  .exact .inl (.inl h)
  .exact(w.up i h).imp (λh=>.inr (.inl h)) id
  .exact .inl (.inr (.inr h))⟩
theorem CA{H:dw}(ht:gG H){x g:Nat}{k:RC}{d:RI}{t:List TN}{o:By}{L:List Lv}{I:Bool}(h:RS H x g k d t o L I)(h7:∀i,d.own x i->7<i)(aM:t.length<=1000000)(ho:o.length<=1048576){kd:Int}{nm u:By}(hk:(kd,nm,u)∈vO/\kd≠3){p:dC}{l c:Nat}{e:Bool}(dep:Int){R:Int->dw->Prop}
 (hR:∀O H',RS H' x g k O (t++Cq o dep++[K9 kd dep nm u]) [] L I->Gr (d.own x) (O.own x) H H'->R 0 H'):hO.C (some ⟨x,0,none⟩) kd (eJ nm) (eJ u) p l c e dep H R:=by
 have hm:∀q∈vO,q.1≠3->Go.Lib.contains q.2.2 [13]=false/\(q.1=5\/q.1=4/\q.2.1=[])/\q.2.2.length<=100:=by decide
 obtain⟨hc,aa,Y⟩:=hm _ hk.1 hk.2
 dsimp only at hc aa Y
 apply hO.calls
 unfold hO.W
 refine dN λH1 h1=>?_
 have f1:Fr fa H H1:=h1▸Fr.new H _ _
 have b1:uq H1 (Array.size H) kd nm u p l c e:=h1▸eU
 have z1:=eR b1
 refine⟨_,b1.WY,rE _ _ (tP (eH ht f1)) (by rw[fc];omega) ?_⟩
 have ec:Go.Lib.contains (eJ u).data.toList HW.data.toList=false:=by rw[iM];exact hc
 rw[ec]
 refine dH rfl (A1 (h.fC f1) (by omega) ho dep λd2 Z r3 g3=>?_)
 have aB:∀i,d2.own x i->i≠Array.size H:=λi hi e=>by
  rcases g3.up i hi with w|w
  .have:=h.lt w;omega
  .omega
 have b3:uq Z (Array.size H) kd nm u p l c e:=g3.fr.fi b1 λw=>by have:=h.lt w;omega
 have l3:=eR b3
 refine⟨_,b3.WY,eZ ?_⟩
 refine mP (cs:=#[.int .i64 0,.int .i64 0,.string eS,.string eS,.string eS,.string eS,.slice none 0 0]) (t:=eC) (vs:=wj (K9 4 dep [] u)) (Fr.refl fa _) rfl λH5 b5 f5 _=>?_
 have r5:=r3.fC f5
 have N:=b3.fC f5
 have ao:¬d2.own x (Array.size Z):=λw=>by have:=r3.lt w;omega
 refine dD (λ_ H'=>H'[Array.size Z]?=some (.cells (wj (K9 kd dep nm u)).toArray eC (0,0))/\Fr (λi=>i=Array.size Z) H5 H') ⟨_,eD N 0,?_⟩ ?_
 .rcases aa with rfl|⟨rfl,rfl⟩
  .refine fD rfl ⟨_,N.OJ,hP (o:=0) b5 (by simp[wj,oe]) λH7 b7 f7=>⟨⟨_,(eD (f7.fi N (by omega)) 1).trans rfl,rfl⟩,hP (o:=3) b7 (by simp[wj,oe]) λH8 b8 f8=>⟨?_,f7.trans f8 λi hi=>.inl hi⟩⟩⟩
   rw[b8];simp[wj,oe,K9]
  .exact eI (by decide) ⟨b5,Fr.refl _ _⟩
 rintro _ H6 ⟨b6,f6⟩
 have r6:=r5.eO f6 λi hi e=>ao (e▸hi)
 have au:(t++Cq o dep).length<=1048576:=by have:=I7 o dep;rw[List.length_append];omega
 refine⟨_,rfl,_,_,_,r6.cell 0,ja _ _ _ _ _ _ _ _ _ (λj _=>eD b6 j) (dN λH9 h9=>?_)⟩
 have f9:Fr fa H6 H9:=h9▸Fr.new H6 _ _
 refine⟨⟨_,_,_,(r6.fC f9).cell 0,rfl⟩,r6.U9 (K9 kd dep nm u) ⟨rfl,rfl,rfl⟩ h9 au rfl λO H' r' g'=>hR O H' r' ?_⟩
 exact(((Gr.of f1).trans g3).trans (Gr.of (f5.fresh f6 λi hi=>by omega))).trans g'
def NH(x nb tb:Nat)(S:dE)(a0 dep:Int)(R:Int->Int->dw->Prop)(H5:dw):Prop:=
 j0 (.int .i64 dep) ((⟨nb,0,none⟩:dA).add 1) H5 λH6=>
 ∃W:dA,(some (⟨x,0,none⟩:dA))=some W/\fU H6 (W.add 0) λh u w=>fx H6 ⟨nb,0,none⟩ λad ae af ag ah ai I N O=>
 eG (eP H6 #[.int .i64 ad,.int .i64 ae,.string af,.string ag,.string ah,.string ai,.slice I N O] eC) λH7:dw=>(fU H7 (W.add 0) λY Z aa=>(.slice Y Z aa:dB)=.slice h u w)/\ji eC 7 104 (.agg #[.int .i64 0,.int .i64 0,.string dM,.string dM,.string dM,.string dM,.slice none 0 0]) h u w (.slice (some ⟨Array.size H6,0,none⟩) 1 1) H7 λaj ak am H8=>
 ∃aq:dA,(some (⟨x,0,none⟩:dA))=some aq/\j0 (.slice aj ak am) (aq.add 0) H8 λH9=>
 eA (S:=(Int×Int×Unit)) (λar=>sF H9 ((⟨tb,0,none⟩:dA).add 4) λaB=>
 eL (!aB) (fh H9 ((⟨tb,0,none⟩:dA).add 1) λaC=>
 fw.C ((some (⟨x,0,none⟩:dA))) S (a0) (IntKind.i64.wrap (dep+1)) aC H9 λao ap aD=>ar ((ao:Int),(ap:Int),()) aD) (ar ((a0:Int),((0:Int):Int),()) H9))
 (λau av=>(λ(aE:Int)(ab:Int)=>
 ∃aw:dA,(some (⟨x,0,none⟩:dA))=some aw/\tE av (aw.add 9) λaF=>
 gW.C (aF) av λaJ aG=>R (aE) (ab) aG) au.1 au.2.1)
theorem Hh{H:dw}(ht:gG H){x g:Nat}{k:RC}{d:RI}{t:List TN}{o:By}{L:List Lv}{N:Bool}(h:RS H x g k d t o L N)(h7:∀i,d.own x i->7<i)(ce:t.length<=1000000)(ho:o.length<=1048576)(cf:L.length<=1000000)
 {nm:By×By}(aW:nm∈xV){al:List (By×By×By)}(ha:∀q∈al,q∈qK)(hn:(al.map oY).Nodup)(hk:((al.map jv).map j4).Nodup)(h6:al.length<=6)(aX:wg (L.map Lv.d++[mS (al.map jv)]) nm.1 (al.map jv))
 {p:dC}{c:Nat}(hp:eY H p (tT al))(bq:∀i,eB p i->i<Array.size H/\¬d.own x i){e:Bool}{S:dE}{a0:Int}{dep:Nat}(bQ:(dep:Int)<=k.l1)(cg:dep<=1000000)(aY:6<=k.l3){T:Int->List TN->Prop}
 (hC:e=false->∀I d2 y lv,lv.d=mS (al.map jv)->y.n=uj (L.map Lv.d) nm al dep->RS I x g k d2 (t++Cq o dep++[y]) [] (L++[lv]) N->Gr (d.own x) (d2.own x) H I->
  fw.C (some ⟨x,0,none⟩) S a0 ((dep+1:Nat):Int) (eJ (qn nm.1 nm.2)) I λa er O=>er=0/\∃Z t3,RS O x g k Z t3 [] (L++[lv]) N/\Gr (d2.own x) (Z.own x) I O/\T a t3)
 (hE:e=true->∀y:TN,y.n=uj (L.map Lv.d) nm al dep->T a0 (t++Cq o dep++[y]))
 {R:Int->Int->dw->Prop}(hR:∀a Z t3 O,RS O x g k Z t3 [] L N->Gr (d.own x) (Z.own x) H O->T a t3->R a 0 O):
 gn.C (some ⟨x,0,none⟩) 2 (eJ (qn nm.1 nm.2)) eS p al.length c e S a0 (dep:Int) H R:=by
 apply gn.calls
 unfold gn.W
 refine dN λH1 h1=>?_
 have f1:Fr fa H H1:=h1▸Fr.new H _ _
 have b1:uq H1 (Array.size H) 2 (qn nm.1 nm.2) [] p al.length c e:=h1▸eU
 have z1:Array.size H<Array.size H1:=eR b1
 refine A1 (h.fC f1) (by omega) ho dep λd' I r2 g2=>?_
 have b2:uq I (Array.size H) 2 (qn nm.1 nm.2) [] p al.length c e:=g2.fr.fi b1 λu=>by have:=h.lt u;omega
 have ah:Gr (d.own x) (d'.own x) H I:=(Gr.of f1).trans g2
 have t2:gG I:=fM ht ah.fr λi hi u=>by have:=h7 i u;omega
 have aZ:eY I p (tT al):=hp.eO ah.fr λi hi=>(bq i hi).2
 have bx:∀i,d'.own x i->7<i:=λi hi=>(ah.up i hi).elim (h7 i) λu=>by have:=jP ht;omega
 refine⟨_,rfl,_,by rw[Addr.add_add];exact r2.cell 2,eI (by omega) (b2.ld ?_)⟩
 have aB:∀{H':dw}{aC:RI}{t' o' L'}{K:dE->dC->Nat->Nat->dC->Nat->Nat->Prop},RS H' x g k aC t' o' L' N->K (eJ k.dn) none 0 0 none 0 0->oJ H' ((⟨x,0,none⟩:dA).add 5) K:=λr hk=>
  mQ (eJ k.dn) none 0 0 none 0 0 (λj hj=>by rw[Addr.add_add,r.cell];rcases j with _|_|_|j<;>first|rfl|omega) hk
 have an:∀{H':dw}{aC:RI}{t' o' L'}{K:Int->Int->Int->Int->Prop},RS H' x g k aC t' o' L' N->K k.l0 k.l1 3000 k.l3->kh H' ((⟨x,0,none⟩:dA).add 1) K:=λr hk=>
  qx k.l0 k.l1 3000 k.l3 (λj hj=>by rw[Addr.add_add,r.cell];rcases j with _|_|_|_|j<;>first|rfl|omega) hk
 refine⟨_,rfl,aB r2 ⟨_,rfl,_,r2.cell 8,_,rfl,_,r2.cell 9,_,rfl,an r2 ?_⟩⟩
 have aD:∀(nb:Nat)(H5:dw)(d5:RI)(y:TN)(lv:Lv),lv.d=mS (al.map jv)->y.n=uj (L.map Lv.d) nm al 0->js H5 nb y.n y.q y.c->eY H5 y.q (gk y.n.gh)/\y.n.gh.length<=y.c->(∀i,eB y.q i->Array.size I<=i/\i<Array.size H5/\¬d5.own x i/\i≠nb)->RS H5 x g k d5 (t++Cq o dep) [] (L++[lv]) N->Gr (d.own x) (d5.own x) H H5->uq H5 (Array.size H) 2 (qn nm.1 nm.2) [] p al.length c e->¬d5.own x nb->¬d5.own x (Array.size H)->Array.size H<nb->NH x nb (Array.size H) S a0 dep R H5:=by
  intro nb H5 d5 y lv ba hy n5 a3 av r5 g5 b5 bC bD bW
  unfold NH
  refine hP (o:=1) n5 (by simp[oe]) λH6 n6 f6=>?_
  obtain⟨y',ap,ao,aH⟩:∃y':TN,y'.n=uj (L.map Lv.d) nm al dep/\y'.q=y.q/\y'.c=y.c:=⟨⟨uj (L.map Lv.d) nm al dep,y.q,y.c⟩,rfl,rfl,rfl⟩
  have aI:y'.n.gh=y.n.gh:=by rw[hy,ap];rfl
  have n6:js H6 nb y'.n y'.q y'.c:=by rw[js,n6,ap,hy,ao,aH];simp[oe,uj]
  have r6:=r5.eO f6 λi hi e=>bC (e▸hi)
  have b6:uq H6 (Array.size H) 2 (qn nm.1 nm.2) [] p al.length c e:=f6.fi b5 (by omega)
  have g6:Gr (d.own x) (d5.own x) H H6:=⟨g5.fr.trans f6 λi hi=>.inr (by omega),g5.up⟩
  have bd:(t++Cq o dep).length<=1048576:=by have:=I7 o dep;rw[List.length_append];omega
  refine⟨_,rfl,_,_,_,r6.cell 0,ja _ _ _ _ _ _ _ _ _ (λj hj=>n6.cell j) (dN λH7 a4=>?_)⟩
  have f7:Fr fa H6 H7:=a4▸Fr.new H6 _ _
  refine⟨⟨_,_,_,(r6.fC f7).cell 0,rfl⟩,r6.push y' (by rw[aI,ao];exact a3.1.eO f6 λi hi e=>(av i hi).2.2.2 e) ⟨by rw[aI,aH];exact a3.2,λh=>absurd (show y'.n.k=2 by rw[ap];rfl) h⟩ (λi hi=>by rw[ao] at hi;exact⟨Nat.lt_of_lt_of_le (av i hi).2.1 f6.size,(av i hi).2.2.1⟩) a4 bd rfl λd9 H9 r9 f9 bG=>?_⟩
  have zz:=ah.fr.size
  have a5:Gr (d.own x) (d9.own x) H H9:=⟨g6.fr.trans f9 g6.up,λi hi=>(bG i hi).elim (λh=>g6.up i h) λh=>h.elim (λh=>.inr (by rw[ao] at h;have:=(av i h).1;omega)) λh=>.inr (Nat.le_trans g6.fr.size h)⟩
  have b9:uq H9 (Array.size H) 2 (qn nm.1 nm.2) [] p al.length c e:=f9.fi b6 bD
  refine dD (λs H'=>∃a,s=(a,0,())/\∃Z t3,RS H' x g k Z t3 [] (L++[lv]) N/\Gr (d9.own x) (Z.own x) H9 H'/\T a t3) ⟨_,eD b9 4,?_⟩ ?_
  .cases he:e with
   |false=>
    refine eN rfl ⟨_,b9.OJ,?_⟩
    rw[qN dep (by omega)]
    exact fw.OA (hC he H9 d9 y' lv ba ap r9 a5) λa er H'⟨he,Z,t3,q1,q2,q3⟩=>⟨a,by rw[he],Z,t3,q1,q2,q3⟩
   |true=>exact dH rfl ⟨a0,rfl,d9,_,r9,Gr.refl _ _,hE he y' ap⟩
  .rintro _ H' ⟨a,rfl,Z,t3,q1,q2,q3⟩
   refine⟨_,rfl,_,q1.cell 9,HI q1.sc (by omega) λH8 s8 f8=>?_⟩
   have fG:Fr Z.G H' H8:=f8.mono λi hi=>hi▸q1.sc.hf
   have r8:=q1.set fG s8 λi hi=>.inl hi
   exact hR a _ t3 H8 r8 ((a5.trans q2).trans (RS.gr ⟨fG,λi hi=>.inl hi⟩)) q3
 have z2:Array.size H1<=Array.size I:=g2.fr.size
 have a6:∀i,d'.G i->7<i:=λi hi=>bx i (.inr (.inl hi))
 have ai:∀i,d'.own x i->i<Array.size I:=λi hi=>r2.lt hi
 have aw:∀i,d'.own x i->i≠Array.size H:=λi hi e=>by
  rcases g2.up i hi with u|u
  .have:=h.lt u;omega
  .omega
 have au:∀{F':Nat->Prop}{sp':dC}{sc' n i:Nat},(∀i,F' i->d'.G i\/n<=i)->RI.own {d' with G:=F',sp:=sp',sc:=sc'} x i->d'.own x i\/n<=i:=λup u=>by
  rcases u with u|u|u
  .exact .inl (.inl u)
  .exact(up _ u).imp (λh=>.inr (.inl h)) id
  .exact .inl (.inr (.inr u))
 refine⟨FY t2 r2.sc (by omega) a6 aW ha hn hk h6 aX aZ aY λF' p' c' q' m q dd O s3 ae w Y=>?_,?_⟩
 .refine dN λH4 h4=>?_
  have f4:Fr fa O H4:=h4▸Fr.new O _ _
  have r3:=r2.set Y.fr s3 Y.up
  have r4:=r3.fC f4
  have b3:uq O (Array.size H) 2 (qn nm.1 nm.2) [] p al.length c e:=Y.fr.fi b2 λu=>aw _ (.inr (.inl u)) rfl
  have b4:=b3.fC f4
  have l3:=λi hi=>r3.lt (i:=i) hi
  have lb:Array.size H<Array.size O:=eR b3
  refine⟨b4.ld rfl,aB r4 rfl,⟨_,r4.cell 8,rfl⟩,⟨_,r4.cell 9,rfl⟩,an r4 rfl,tR (cs:=#[.int .i64 0,.int .i64 0,.string eS,.string eS,.string eS,.string eS,.slice none 0 0]) (h4▸eU) rfl λH5 b5 f5=>eI (by decide) ?_⟩
  have z5:=f5.size
  have z4:=f4.size
  refine aD (Array.size O) H5 _ ⟨uj (L.map Lv.d) nm al 0,q,dd⟩ ⟨_,q',m⟩ rfl rfl b5 ⟨(ae.1.fC f4).eO f5 λi hi e=>by have:=(w i hi).2.1;omega,ae.2⟩ (λi hi=>⟨(w i hi).1,by have:=(w i hi).2.1;omega,λu=>?_,by have:=(w i hi).2.1;omega⟩) (r4.eO f5 λi hi e=>by have:=l3 i hi;omega) ((ah.trans (RS.gr Y)).trans (Gr.of (f4.fresh f5 λi hi=>by omega))) (f5.fi b4 (by omega)) (λu=>by have:=l3 _ u;omega) (λu=>?_) lb
  .rcases u with u|u|u
   .have:=ai x (.inl rfl);have:=(w i hi).1;omega
   .exact(w i hi).2.2 u
   .have:=ai i (.inr (.inr u));have:=(w i hi).1;omega
  .exact(au Y.up u).elim (λh=>aw _ h rfl) λh=>by have:=eR b2;omega
 .refine dN λH4 h4=>?_
  have f4:Fr fa I H4:=h4▸Fr.new I _ _
  have r4:=r2.fC f4
  have b4:=b2.fC f4
  have n4:H4[Array.size I]?=some (.cells #[.int .i64 0,.int .i64 0,.string eS,.string eS,.string eS,.string eS,.slice none 0 0] eC (0,0)):=h4▸eU
  have z4:Array.size I<Array.size H4:=eR n4
  refine⟨b4.ld rfl,aB r4 rfl,⟨_,r4.cell 8,rfl⟩,⟨_,r4.cell 9,rfl⟩,an r4 rfl,FY (eH t2 f4) r4.sc (by omega) a6 aW ha hn hk h6 aX (aZ.fC f4) aY λF' p' c' q' m q dd O s3 ae w Y=>?_⟩
  have r3:=r4.set Y.fr s3 Y.up
  have b3:uq O (Array.size H) 2 (qn nm.1 nm.2) [] p al.length c e:=Y.fr.fi b4 λu=>aw _ (.inr (.inl u)) rfl
  have n3:=Y.fr.fi n4 λu=>by have:=ai _ (.inr (.inl u));omega
  have lb:Array.size H<Array.size I:=eR b2
  have nn:∀i,RI.own {d' with G:=F',sp:=p',sc:=c'} x i->i≠Array.size I:=λi u e=>by
   rcases au Y.up u with h|h
   .have:=ai i h;omega
   .omega
  refine tR (cs:=#[.int .i64 0,.int .i64 0,.string eS,.string eS,.string eS,.string eS,.slice none 0 0]) n3 rfl λH5 b5 f5=>eI (by decide) ?_
  have z5:=f5.size
  have gg:=(ah.trans (Gr.of f4)).trans (RS.gr (sp':=p') (sc':=c') Y)
  refine aD (Array.size I) H5 _ ⟨uj (L.map Lv.d) nm al 0,q,dd⟩ ⟨_,q',m⟩ rfl rfl b5 ⟨ae.1.eO f5 λi hi e=>by have:=(w i hi).1;omega,ae.2⟩ (λi hi=>⟨by have:=(w i hi).1;omega,by have:=(w i hi).2.1;omega,λu=>?_,by have:=(w i hi).1;omega⟩) (r3.eO f5 λi hi e=>nn i hi e) ⟨gg.fr.trans f5 (λi hi=>.inr (by omega)),gg.up⟩ (f5.fi b3 (by omega)) (λu=>nn _ u rfl) (λu=>?_) lb
  .rcases u with u|u|u
   .have:=ai x (.inl rfl);have:=(w i hi).1;omega
   .exact(w i hi).2.2 u
   .have:=ai i (.inr (.inr u));have:=(w i hi).1;omega
  .exact(au Y.up u).elim (λh=>aw _ h rfl) λh=>by omega
end Go.Proofs.fv
namespace Go.Ex
inductive Fo where
 |nil
 |lf (k:Int) (l v:By) (r:Fo)
 |el (nm:By×By) (al:List (By×By×By)) (kd r:Fo)
def uy(k:Int)(l v:By):By:=bif k==3 then Lc false v else bif k==4 then[60,33,45,45]++(v++[45,45,62]) else[60,63]++(l++(OG v++[63,62]))
def iV:Fo->By
 |.nil=>[]
 |.lf k l v r=>uy k l v++iV r
 |.el nm al kd r=>60::(qn nm.1 nm.2++(nz al++((match kd with|.nil=>[47,62]|kd=>62::(iV kd++([60,47]++(qn nm.1 nm.2++[62]))))++iV r)))
def mI:List (List At)->Nat->Fo->List Nd
 |_,_,.nil=>[]
 |Ls,d,.lf k l v r=>⟨k,d,[],l,[],v,[]⟩::mI Ls d r
 |Ls,d,.el nm al kd r=>uj Ls nm al d::(mI (Ls++[mS (al.map jv)]) (d+1) kd++mI Ls d r)
structure zf(al:List (By×By×By)):Prop where
 s:(al.map λq=>(q.1,q.2.1)).Sublist K2
 m:∀q∈al,q∈qK
theorem zf.n{al:List (By×By×By)}(h:zf al):(al.map oY).Nodup/\((al.map jv).map j4).Nodup/\al.length<=6:=by
 have u:al.map oY=(al.map λq=>(q.1,q.2.1)).map λk=>qn k.1 k.2:=by rw[List.map_map];rfl
 have w:(al.map jv).map j4=al.map λq=>(q.1,q.2.1):=by rw[List.map_map];rfl
 have I:(K2.map λk=>qn k.1 k.2).Nodup:=by decide
 have N:K2.Nodup:=by decide
 refine⟨by rw[u];exact(h.s.map _).nodup I,by rw[w];exact h.s.nodup N,?_⟩
 have:=h.s.length_le
 rw[List.length_map] at this
 exact this
def ze:List (List At)->Nat->Bool->Fo->Prop
 |_,_,_,.nil=>True
 |Ls,d,pt,.lf k l v r=>(k,l,v)∈vO/\(k=3->pt=false)/\ze Ls d (k==3) r
 |Ls,d,_,.el nm al kd r=>nm∈xV/\zf al/\wg (Ls++[mS (al.map jv)]) nm.1 (al.map jv)/\d<=30/\ze (Ls++[mS (al.map jv)]) (d+1) false kd/\ze Ls d false r
inductive Oi:By->By->Prop where
 |nil:Oi [] []
 |ref {q:By×By} {w x:By} (hq:q∈Qg) (h:Oi w x):Oi (38::(q.1++[59])++w) (q.2++x)
 |cr {w x:By} (h:Oi w x):Oi ([38,35,49,51,59]++w) (13::x)
 |iV {y w x:By} (hy:y∈Uj) (h:Oi w x) (hw:w=[]\/∃t,w=38::t) (he:(∀b∈y,b.toNat<128)\/4<=w.length):Oi (y++w) (y++x)
theorem GR:∀v∈OC,Oi (Lc false v) v:=by
 intro v h
 simp only[OC,List.mem_cons,List.not_mem_nil,or_false] at h
 rcases h with rfl|rfl|rfl|rfl|rfl|rfl
 .exact .iV (y:=[120]) (by decide) .nil (.inl rfl) (.inl (by decide))
 .exact .iV (y:=[32,121,10]) (by decide) .nil (.inl rfl) (.inl (by decide))
 .exact .ref (q:=([108,116],[60])) (by decide) (.ref (q:=([97,109,112],[38])) (by decide) (.ref (q:=([103,116],[62])) (by decide) (.iV (y:=[34]) (by decide) .nil (.inl rfl) (.inl (by decide)))))
 .exact .cr (.iV (y:=[9]) (by decide) .nil (.inl rfl) (.inl (by decide)))
 .exact .iV (y:=[195,169,93,93]) (by decide) (.ref (q:=([103,116],[62])) (by decide) .nil) (.inr ⟨_,rfl⟩) (.inr (by decide))
 .exact .iV (y:=[116,101,120,116]) (by decide) .nil (.inl rfl) (.inl (by decide))
theorem I6:∀q∈Qg,(∀b∈(38::(q.1++[59]):By),b.toNat<128)/\q.2≠[]:=by decide
theorem Oi.lg{w x:By}(h:Oi w x){r:By}(N:Lg r)(O:r≠[]):Lg (w++r):=by
 induction h with
 |nil=>exact N
 |ref W _ u=>rw[List.append_assoc];exact u.app (I6 _ W).1
 |cr _ u=>rw[List.append_assoc];exact u.app (by decide)
 |iV Y _ _ I u=>
  rw[List.append_assoc]
  rcases I with I|I
  .exact u.app I
  .have:=List.length_pos_iff.2 O
   have Z:∀y∈Uj,(∀b∈y,b.toNat<128)\/4<=y.length:=by decide
   rcases Z _ Y with h|h
   .exact u.app h
   .exact .inl (by rw[List.length_append,List.length_append];omega)
theorem IM:∀s∈OH,∀b∈s,b.toNat<128:=by decide
theorem yx{q:By×By}(h:q∈xV):qn q.1 q.2∈OH:=List.mem_map.2 ⟨q,List.mem_append_left _ h,rfl⟩
theorem Ju:∀al:List (By×By×By),(∀q∈al,q∈qK)->∀b∈nz al,b.toNat<128
 |[],_,b,u=>by cases u
 |q::al,h,b,u=>by
  have w:∀q∈qK,∀b∈(32::(oY q++(61::34::(yB q++[34]))):By),b.toNat<128:=by decide
  have e:nz (q::al)=(32::(oY q++(61::34::(yB q++[34]))):By)++nz al:=by unfold nz;simp
  rw[e] at u
  rcases List.mem_append.1 u with u|u
  .exact w q (h q (by simp)) b u
  .exact Ju al (λq w=>h q (by simp[w])) b u
theorem Vx{k:Int}{l v:By}(h:(k,l,v)∈vO){r:By}(I:Lg r)(N:r≠[]):Lg (uy k l v++r):=by
 have O:∀q∈vO,q.1=3/\q.2.2∈OC\/q.1≠3/\∀b∈uy q.1 q.2.1 q.2.2,b.toNat<128:=by decide
 rcases O _ h with⟨u,w⟩|⟨_,w⟩
 .have u:k=3:=u
  subst u
  exact(GR v w).lg I N
 .exact I.app w
theorem NS{c:UInt8}{s:By}(u:c.toNat<128)(w:∀b∈s,b.toNat<128):∀b∈c::s,b.toNat<128:=λb h=>by
 rcases List.mem_cons.1 h with rfl|h
 .exact u
 .exact w b h
theorem zK{a s:By}(h:∀b∈a,b.toNat<128)(u:∀b∈s,b.toNat<128):∀b∈a++s,b.toNat<128:=λb w=>(List.mem_append.1 w).elim (h b) (u b)
def GH(nm:By×By)(al:List (By×By×By))(e:Bool):By:=60::(qn nm.1 nm.2++(nz al++C8 e))
def vq(nm:By×By):By:=[60,47]++(qn nm.1 nm.2++[62])
theorem Ip(nm:By×By)(al:List (By×By×By))(r:Fo)(s:By):iV (.el nm al .nil r)++s=GH nm al true++(iV r++s):=by simp[iV,GH,C8]
theorem C1(nm:By×By)(al:List (By×By×By))(kd r:Fo)(s:By)(h:kd≠.nil):iV (.el nm al kd r)++s=GH nm al false++(iV kd++(vq nm++(iV r++s))):=by
 cases kd with
 |nil=>exact absurd rfl h
 |_=>simp[iV,GH,C8,vq]
theorem zq{nm:By×By}{al:List (By×By×By)}(h:nm∈xV)(u:∀q∈al,q∈qK)(e:Bool):∀b∈GH nm al e,b.toNat<128:=NS (by decide) (zK (IM _ (yx h)) (zK (Ju al u) (by cases e<;>decide)))
theorem zH{nm:By×By}(h:nm∈xV):∀b∈vq nm,b.toNat<128:=zK (by decide) (zK (IM _ (yx h)) (by decide))
theorem vD:∀(f:Fo)(Ls:List (List At))(d:Nat)(pt:Bool),ze Ls d pt f->∀r:By,Lg r->r≠[]->Lg (iV f++r)
 |.nil,_,_,_,_,r,hr,_=>hr
 |.lf k l v f,Ls,d,pt,h,r,hr,h0=>by
  rw[show iV (.lf k l v f)++r=uy k l v++(iV f++r) by simp[iV]]
  exact Vx h.1 (vD f _ _ _ h.2.2 r hr h0) (by simp[h0])
 |.el nm al kd f,Ls,d,pt,h,r,hr,h0=>by
  obtain⟨u,w,_,_,N,O⟩:=h
  have I:=vD f _ _ _ O r hr h0
  cases kd with
  |nil=>rw[Ip];exact I.app (zq u w.m true)
  |lf k l v q=>rw[C1 _ _ _ _ _ (by simp)];exact(vD _ _ _ _ N _ (I.app (zH u)) (by simp[vq])).app (zq u w.m false)
  |el a b c q=>rw[C1 _ _ _ _ _ (by simp)];exact(vD _ _ _ _ N _ (I.app (zH u)) (by simp[vq])).app (zq u w.m false)
theorem R6{Ls:List (List At)}{d:Nat}:∀(f:Fo),ze Ls d true f->∀r:By,(∃t,r=60::t)->∃t,iV f++r=60::t
 |.nil,_,r,hr=>hr
 |.lf k l v f,h,r,_=>by
  have w:k≠3:=λe=>by have:=h.2.1 e;cases this
  have I:∀q∈vO,q.1≠3->(uy q.1 q.2.1 q.2.2).head?=some 60:=by decide
  have:=I _ h.1 w
  dsimp only at this
  simp only[iV,List.append_assoc]
  cases u:uy k l v with
  |nil=>rw[u] at this;cases this
  |cons a b=>rw[u] at this;cases this;exact⟨_,rfl⟩
 |.el nm al kd f,_,r,_=>by unfold iV;exact⟨_,rfl⟩
def Nr(o:By)(d:Int):List Nd:=(Cq o d).map TN.n
theorem Nq{o:By}(h:o≠[])(d:Int):Nr o d=[⟨3,d,[],[],[],o,[]⟩]:=by cases o with|nil=>exact absurd rfl h|cons a o=>rfl
structure CS(S s:By)(nm:By×By)(Ls:List (List At))(dep:Nat)(all:List Nd)(fin m n:Nat)(w x o:By)(f:Fo)(t:List TN):Prop where
 at':TA S n (w++(iV f++(vq nm++s)))
 rm:Oi w x
 ok:ze Ls dep (decide (o++x≠[])) f
 yC:t.map TN.n++(Nr (o++x) dep++mI Ls dep f)=all
 DK:n+(w++(iV f++vq nm)).length=fin
 ol:o.length<=n
 fs:(iV f).length<=m
def KK:Fo->Bool
 |.nil=>true
 |_=>false
def KJ(nm:By×By):Fo->By
 |.nil=>[]
 |kd=>iV kd++vq nm
theorem vE(nm:By×By)(al:List (By×By×By))(kd r:Fo)(s:By):iV (.el nm al kd r)++s=GH nm al (KK kd)++(KJ nm kd++(iV r++s)):=by
 cases kd with
 |nil=>exact Ip nm al r s
 |_=>rw[C1 _ _ _ _ _ (by simp)];simp[KK,KJ]
theorem Gx(nm:By×By)(al:List (By×By×By))(kd r:Fo):(iV kd).length<(iV (.el nm al kd r)).length/\(iV r).length<(iV (.el nm al kd r)).length:=by
 have:=congrArg List.length (vE nm al kd r [])
 simp only[List.append_nil,List.length_append,GH,List.length_cons] at this
 refine⟨?_,by omega⟩
 cases kd with
 |nil=>show 0<_;omega
 |_=>simp only[KJ,List.length_append] at this;omega
theorem G6:∀q∈vO,q.1≠3->q.1=4/\q.2.1=[]/\pG q.2.2 [45,45]=true\/q.1=5/\(q.2.1,q.2.2)∈Vc:=by decide
theorem SS:∀q∈vO,q.1=3->q.2.1=[]/\q.2.2∈OC/\q.2.2≠[]:=by decide
theorem Rx{k:Int}{l v:By}(h:(k,l,v)∈vO)(I:k≠3):Pc (uy k l v) k l v [] false:=by
 rcases G6 _ h I with⟨u,w,I⟩|⟨u,w⟩
 .have u:k=4:=u
  have w:l=[]:=w
  subst u w
  exact .XU I
 .have u:k=5:=u
  subst u
  exact .pi w
theorem PI:∀y∈Uj,y.length<=6:=by decide
theorem Qf:∀q∈Qg,q.2.length<=(38::(q.1++[59]):By).length:=by decide
end Go.Ex
namespace Go.Proofs.fv
open Go.Ex Go.X
def Hl(x b:Nat)(S nm:dE)(w cd dep:Int)(L1:Int×Unit->dw->Prop)(R:Int->Int->dw->Prop)(H5:dw):Prop:=
 eA (S:=(Int×Int×Unit)) (λI=>gf H5 ((⟨b,0,none⟩:dA).add 0) λh=>
 eA (S:=(Bool×Unit)) (λac=>
 eL (decide (h=1)) (ac (decide (h=1),()) H5) (eL (decide (h=6)) (ac (decide (h=6),()) H5) (ac (decide (h=7),()) H5)))
 (λav N=>(λ(aw:Bool)=>
 eL aw (∃aq:dA,(some (⟨x,0,none⟩:dA))=some aq/\fh N ((⟨b,0,none⟩:dA).add 2) λax=>
 ff.C (some (aq.add 10)) ax N λaJ aK H9=>I ((w:Int),(cd:Int),()) H9) (eL (decide (h=8)) (fh N ((⟨b,0,none⟩:dA).add 1) λay=>
 jd.C (some ⟨x,0,none⟩) ay (dep) N λaz aA=>I ((w:Int),(az:Int),()) aA) (
 eA (S:=(Bool×Unit)) (λar=>
 eL (decide (h=4)) (ar (decide (h=4),()) N) (ar (decide (h=5),()) N))
 (λaB u=>(λ(aC:Bool)=>
 eL aC (fq u ⟨b,0,none⟩ λaf ag ah O W Y ai=>
 hO.C (some ⟨x,0,none⟩) (af) ag ah (O) W Y (ai) (dep) u λaD aE=>I ((w:Int),(aD:Int),()) aE) (eL (decide (h=2)) (fq u ⟨b,0,none⟩ λaj ak am Z aa ab an=>
 gn.C (some ⟨x,0,none⟩) (aj) ak am (Z) aa ab (an) S (w) (dep) u λao ap aF=>I ((ao:Int),(ap:Int),()) aF) (fh u ((⟨b,0,none⟩:dA).add 1) λaG=>
 eL (decide (aG≠nm)) (False) (gM.C (some ⟨x,0,none⟩) (dep) u λaH=>R (w) (0) aH)))) aB.1)))) av.1))
 (λau H7=>(λ(aI:Int)(ad:Int)=>
 eL (decide (ad≠0)) (False) (L1 ((aI:Int),()) H7)) au.1 au.2.1)
def Hn(x:Nat)(S nm:dE)(dep:Int)(L1:Int×Unit->dw->Prop)(R:Int->Int->dw->Prop)(ab:Int)(H:dw):Prop:=
 j8.C S ab H λN O W u w I Y Z h H2=>
 eG (eP H2 #[.int .i64 0,.string dM,.string dM,.slice none 0 0,.bool false] eX) λH3:dw=>lj [.int .i64 N,.string O,.string W,.slice u w I,.bool Y] ⟨Array.size H2,0,none⟩ 0 H3 λH4=>
 eA (S:=Unit) (λJ4=>
 eA (S:=(Bool×Unit)) (λJ3=>
 eL (decide (h=6)) (J3 (decide (nm=dM),()) H4) (J3 (false,()) H4))
 (λs3 H6=>(λ(ae:Bool)=>
 eL ae (False) (J4 () H6)) s3.1))
 (λ_ H5=>
 eL (decide (h≠0)) (False) (Hl x (Array.size H2) S nm Z h dep L1 R H5))
theorem uV{H:dw}(ht:gG H){x:Nat}{S r:By}{n:Nat}{nm:dE}{dep:Int}{w:By}{kd:Int}{u N:By}{al:List (By×By×By)}{e:Bool}{Y:Int×Unit->dw->Prop}{R:Int->Int->dw->Prop}{F:Nat->Prop}(hF:∀i,F i->i<Array.size H)(hp:Pc w kd u N al e)(h:TA S n (w++r))(hr:kd=1->BG (λc=>c=60\/c=38) r/\r≠[]/\Lg (w++r))
 (hK:∀p c b I,uq I b kd u N p al.length c e->eY I p (tT al)->(∀i,eB p i->i<Array.size I/\¬F i)->Fr fa H I->Array.size H<=b->Hl x b (eJ S) nm ((n+w.length:Nat):Int) 0 dep Y R I):Hn x (eJ S) nm dep Y R (n:Int) H:=by
 unfold Hn
 refine xQ ht hp h hr λp c H2 Z hb f2=>eZ (ke (Fr.refl _ _) kd u N p al.length c e λO b4 W g4=>?_)
 refine dD (λ_ H'=>O=H') (dD (λs H'=>s=(false,())/\O=H') (eI (by decide) ⟨rfl,rfl⟩) λs H' h=>by rcases h with⟨rfl,rfl⟩;exact dH rfl rfl) λ_ H' h=>?_
 subst h
 exact eI (by decide) (hK p c _ O b4 (Z.cells.fC W) (λi hi=>⟨Nat.lt_of_lt_of_le (Z.gE hi) W.size,λhh=>by have:=hb i hi;have:=hF i hh;omega⟩) (f2.dF W) f2.size)
theorem Jm{H:dw}{x g:Nat}{k:RC}{d:RI}{t:List TN}{o:By}{L:List Lv}{u:Bool}(r:RS H x g k d t o L u){b:Nat}{S nm:dE}{I dep:Int}{Y:Int×Unit->dw->Prop}{R:Int->Int->dw->Prop}{kd:Int}{Z w:By}{p:dC}{l c:Nat}{e:Bool}(hb:uq H b kd Z w p l c e)(hk:kd=1\/kd=7)(h0:w≠[])(hl:(o++w).length<=140737488355328)
 (hK:∀N H',RS H' x g k N t (o++w) L u->Gr (d.own x) (N.own x) H H'->Y (I,()) H'):Hl x b S nm I 0 dep Y R H:=by
 refine dD (λO H'=>O=(I,0,())/\∃W,RS H' x g k W t (o++w) L u/\Gr (d.own x) (W.own x) H H') ⟨_,eD hb 0,dD (λO H'=>O=(true,())/\H=H') (eE (λh=>⟨by rw[decide_eq_true h],rfl⟩) λh=>eI (by omega) ⟨by rw[decide_eq_true (by omega)],rfl⟩) λO H' h=>?_⟩ ?_
 .obtain⟨rfl,rfl⟩:=h
  exact eN rfl ⟨_,rfl,_,hb.WY,Ri r w h0 hl λN H' n v r' g'=>⟨rfl,N,r',g'⟩⟩
 .rintro _ H6 ⟨rfl,W,r2,g2⟩
  exact eI (λh=>h rfl) (hK W H6 r2 g2)
theorem Ho{x:Nat}{S nm:dE}{u dep:Int}{H:dw}{R:Int->Int->dw->Prop}(h:fP (S:=(Int×Unit)) (λw I N=>Hn x S nm dep w R I.1 N) (u,()) H):fw.C (some ⟨x,0,none⟩) S u dep nm H R:=fw.calls h
theorem Mx{H:dw}(N:gG H){x g:Nat}{k:RC}{d:RI}{t:List TN}{o:By}{L:List Lv}{u:Bool}(h:RS H x g k d t o L u){q:By×By}(I:q∈Qg)(O:(o++q.2).length<=140737488355328)(dep:Int){R:Int->dw->Prop}
 (Y:∀w H',RS H' x g k w t (o++q.2) L u->Gr (d.own x) (w.own x) H H'->R 0 H'):jd.C (some ⟨x,0,none⟩) (eJ q.1) dep H R:=by
 apply jd.calls
 unfold jd.W
 exact Ou N I λZ f1=>eN rfl ⟨_,rfl,Ri (h.fC f1) q.2 (I6 _ I).2 O λw H' n v r g=>Y w H' r ((Gr.of f1).trans g)⟩
def WH(S:By)(x g:Nat)(k:RC)(h:Bool)(f:Fo)(nm:By×By):Prop:=∀{s:By}{n:Nat}{L:List Lv}{dep:Nat}{d:RI}{t:List TN}{H:dw},ze (L.map Lv.d) dep false f->L.length<=dep->TA S n (iV f++(vq nm++s))->Lg s->gG H->RS H x g k d t [] L h->(∀i,d.own x i->7<i)->(t.map TN.n++mI (L.map Lv.d) dep f).length<=1000->
    fw.C (some ⟨x,0,none⟩) (eJ S) (n:Int) (dep:Int) (eJ (qn nm.1 nm.2)) H λa N u=>N=0/\∃w I,RS u x g k w I [] L h/\Gr (d.own x) (w.own x) H u/\a=((n+(iV f++vq nm).length:Nat):Int)/\I.map TN.n=t.map TN.n++mI (L.map Lv.d) dep f
theorem Jg{H:dw}(ht:gG H){x g:Nat}{k:RC}{d:RI}{t:List TN}{o:By}{L:List Lv}{w:Bool}(aG:30<=k.l1)(ai:6<=k.l3)(h:RS H x g k d t o L w)(h7:∀i,d.own x i->7<i)(ho:o.length<=1048576){nm:By×By}{al:List (By×By×By)}{kd:Fo}{dep:Nat}(aj:nm∈xV)(ha:zf al)(hN:wg (L.map Lv.d++[mS (al.map jv)]) nm.1 (al.map jv))(hd:dep<=30)(hk:ze (L.map Lv.d++[mS (al.map jv)]) (dep+1) false kd)(hL:L.length<=dep)
 (W:(t.map TN.n++Nr o dep++(uj (L.map Lv.d) nm al dep::mI (L.map Lv.d++[mS (al.map jv)]) (dep+1) kd)).length<=1000){S r:By}{n:Nat}(Y:TA S n (KJ nm kd++r))(am:Lg r)(hC:WH S x g k w kd nm){p:dC}{c:Nat}(hp:eY H p (tT al))(an:∀i,eB p i->i<Array.size H/\¬d.own x i)
 {R:Int->Int->dw->Prop}(hR:∀I u N,RS N x g k I u [] L w->Gr (d.own x) (I.own x) H N->u.map TN.n=t.map TN.n++Nr o dep++(uj (L.map Lv.d) nm al dep::mI (L.map Lv.d++[mS (al.map jv)]) (dep+1) kd)->R ((n+(KJ nm kd).length:Nat):Int) 0 N):
 gn.C (some ⟨x,0,none⟩) 2 (eJ (qn nm.1 nm.2)) eS p al.length c (KK kd) (eJ S) (n:Int) (dep:Int) H R:=by
 obtain⟨n1,n2,n6⟩:=ha.n
 have aH:t.length<=1000:=by simp only[List.length_append,List.length_map] at W;omega
 have zt:=jP ht
 refine Hh ht h h7 (by omega) (by omega) (by omega) aj ha.m n1 n2 n6 hN hp an (dep:=dep) (by omega) (by omega) ai
  (T:=λa u=>a=((n+(KJ nm kd).length:Nat):Int)/\u.map TN.n=t.map TN.n++Nr o dep++(uj (L.map Lv.d) nm al dep::mI (L.map Lv.d++[mS (al.map jv)]) (dep+1) kd))
  (λhe H2 d2 y lv ap hy r2 g2=>?_) (λhe y hy=>?_) λa I u N r3 g3 Z=>by rw[Z.1];exact hR I u N r3 g3 Z.2
 .have eT:KJ nm kd=iV kd++vq nm:=by cases kd with|nil=>cases he|_=>rfl
  rw[eT,List.append_assoc] at Y
  have O:(L++[lv]).map Lv.d=L.map Lv.d++[mS (al.map jv)]:=by rw[List.map_append,<-ap];rfl
  have aa:(t++Cq o dep++[y]).map TN.n=t.map TN.n++Nr o dep++[uj (L.map Lv.d) nm al dep]:=by rw[List.map_append,List.map_append,List.map_singleton,hy];rfl
  refine fw.OA (hC (L:=L++[lv]) (dep:=dep+1) (t:=t++Cq o dep++[y]) (by rw[O];exact hk) (by simp;omega) Y am (fM ht g2.fr λi hi hh=>by have:=h7 i hh;omega) r2 (λi hi=>(g2.up i hi).elim (h7 i) λhh=>by omega) (by rw[O,aa,List.append_assoc];exact W)) λa er N⟨h1,I,u,r3,g3,e1,e2⟩=>⟨h1,I,u,r3,g3,by rw[e1,eT],?_⟩
  rw[e2,O,aa,List.append_assoc];rfl
 .have hk:kd=.nil:=by cases kd with|nil=>rfl|_=>cases he
  subst hk
  refine⟨by simp[KJ],?_⟩
  rw[List.map_append,List.map_append,List.map_singleton,hy]
  simp[Nr,mI]
theorem Hq{x g:Nat}{k:RC}{Y:Bool}(a9:30<=k.l1)(ba:6<=k.l3){S:By}:∀(m:Nat){f:Fo}{nm:By×By},(iV f).length<=m->nm∈xV->WH S x g k Y f nm:=by
 intro m
 induction m using Nat.strongRecOn with
 |_ m ih=>
 intro f nm hm aV s n L dep d t H aC hL bb bc ht h h7 aw
 apply Ho
 generalize hA:t.map TN.n++mI (L.map Lv.d) dep f=ao at aw⊢
 have aW:Lg (vq nm++s):=bc.app (zH aV)
 have aX:vq nm++s≠[]:=by simp[vq]
 refine eW (λq st H'=>∃n' w x' o O d' t',st=(((n':Nat):Int),())/\CS S s nm (L.map Lv.d) dep ao (n+(iV f++vq nm).length) m n' w x' o O t'/\RS H' x g k d' t' o L Y/\Gr (d.own x) (d'.own x) H H'/\q=(w++iV O).length) (iV f).length ⟨n,[],[],[],f,d,t,rfl,⟨bb,.nil,aC,hA,by simp,Nat.zero_le _,hm⟩,h,Gr.refl _ _,by simp⟩ ?_
 rintro q _ H1 ⟨n',w,x',o,O,d',t',rfl,c,r,g1,rfl⟩
 dsimp only
 have t1:=fM ht g1.fr λi hi hh=>by have:=h7 i hh;omega
 have aY:∀i,d'.own x i->7<i:=λi hi=>(g1.up i hi).elim (h7 i) λhh=>by have:=jP ht;omega
 have bG:t'.length<=1000:=by have:=congrArg List.length c.yC;rw[List.length_append,List.length_map] at this;omega
 have aZ:=c.at'.sz
 have bf:=c.ol
 obtain⟨w,x',o,O,c,r,a4,aT⟩:∃w2 x2 o2 f2,CS S s nm (L.map Lv.d) dep ao (n+(iV f++vq nm).length) m n' w2 x2 o2 f2 t'/\RS H1 x g k d' t' o2 L Y/\(w2++iV f2).length=(w++iV O).length/\(w2=[]->x2=[]/\∀l v q,f2≠.lf 3 l v q):=by
  by_cases hw:w=[]
  .subst hw
   have hx:x'=[]:=by generalize Z:([]:By)=q at c;cases c.rm with|nil=>rfl|ref=>cases Z|cr=>cases Z|iV hy=>exact absurd (List.append_eq_nil_iff.1 Z.symm).1 (yg _ hy).2.1
   subst hx
   by_cases hf:∃l v q,O=.lf 3 l v q
   .obtain⟨l,v,q,rfl⟩:=hf
    obtain⟨h1,h2,h3⟩:=c.ok
    obtain⟨e1,e2,e3⟩:=SS _ h1 rfl
    have e1:l=[]:=e1
    subst e1
    have ho:o=[]:=by have:=h2 rfl;simpa using this
    subst ho
    have ew:uy 3 [] v=Lc false v:=rfl
    have e:iV (.lf 3 [] v q)=Lc false v++iV q:=by rw[<-ew];rfl
    have I:=c.at'
    have ef:=c.DK
    have es:=c.fs
    rw[e] at I ef es
    refine⟨Lc false v,v,[],q,⟨by simpa using I,GR v e2,?_,?_,by simpa using ef,Nat.zero_le _,by rw[List.length_append] at es;omega⟩,r,by rw[e];rfl,λhn=>absurd ((GR v e2)) λhr=>?_⟩
    .rw[show decide (([]:By)++v≠[])=true from decide_eq_true (by simpa using e3)];exact h3
    .rw[<-c.yC,List.nil_append,Nq e3];rfl
    .rw[hn] at hr
     generalize Z:([]:By)=q' at hr
     cases hr with|nil=>exact e3 rfl|ref=>cases Z|cr=>cases Z|iV hy=>exact absurd (List.append_eq_nil_iff.1 Z.symm).1 (yg _ hy).2.1
   .exact⟨[],[],o,O,c,r,rfl,λ_=>⟨rfl,λl v q e=>hf ⟨l,v,q,e⟩⟩⟩
  .exact⟨w,x',o,O,c,r,rfl,λh=>absurd h hw⟩
 rw[<-a4]
 have bf:=c.ol
 have aZ:=c.at'.sz
 have bi:Lg (iV O++(vq nm++s)):=vD O _ _ _ c.ok _ aW aX
 have bj:iV O++(vq nm++s)≠[]:=by simp[vq]
 have on:∀{H6:dw}{n2:Nat}(w2 x2 o2:By)(f2:Fo)(N:RI)(t2:List TN),CS S s nm (L.map Lv.d) dep ao (n+(iV f++vq nm).length) m n2 w2 x2 o2 f2 t2->RS H6 x g k N t2 o2 L Y->Gr (d'.own x) (N.own x) H1 H6->n'<n2->∃mm,mm<(w++iV O).length/\∃n' w x' o O d' t',(((n2:Int),()):Int×Unit)=(((n':Nat):Int),())/\CS S s nm (L.map Lv.d) dep ao (n+(iV f++vq nm).length) m n' w x' o O t'/\RS H6 x g k d' t' o L Y/\Gr (d.own x) (d'.own x) H H6/\mm=(w++iV O).length:=λ{H6 n2} w2 x2 o2 f2 N t2 c2 r2 g2 aD=>by
  have e1:=c.DK
  have e2:=c2.DK
  simp only[List.length_append] at e1 e2
  exact⟨(w2++iV f2).length,by simp only[List.length_append];omega,n2,w2,x2,o2,f2,N,t2,rfl,c2,r2,g1.trans g2,rfl⟩
 have ap:=λi(hi:d'.own x i)=>r.lt hi
 have bm:=c.rm
 cases bm with
 |nil=>
  obtain⟨-,h3⟩:=aT rfl
  cases O with
  |nil=>
   refine uV t1 ap (.stop (yx aV)) (r:=s) (by simpa[vq,iV] using c.at') (λh=>by cases h) λp cc b H5 b5 p5 q5 W au=>?_
   have r5:=r.fC W
   refine dD (λ_ _=>False) ⟨_,eD b5 0,dD (λu H'=>u=(false,())/\H5=H') (eI (by decide) (eI (by decide) ⟨rfl,rfl⟩)) λu H' h=>?_⟩ (λ_ _ h=>h.elim)
   obtain⟨rfl,rfl⟩:=h
   refine dH rfl (eI (by decide) (dD (λu H'=>u=(false,())/\H5=H') (eI (by decide) ⟨rfl,rfl⟩) λu H' h=>?_))
   obtain⟨rfl,rfl⟩:=h
   refine dH rfl (eI (by decide) ⟨_,b5.OJ,eI (λh=>h rfl) (A1 r5 (by omega) (by omega) dep λd6 H6 r6 g6=>⟨rfl,d6,_,r6,g1.trans ((Gr.of W).trans g6),?_,?_⟩)⟩)
   .have:=c.DK
    simp only[List.nil_append,iV] at this
    rw[<-this]
    rfl
   .have:=c.yC
    simp only[List.append_nil,mI] at this
    rw[List.map_append]
    exact this
  |lf kd l v q=>
   have hk:kd≠3:=λe=>h3 l v q (by rw[e])
   obtain⟨h1,-,Z⟩:=c.ok
   have bH:kd=4\/kd=5:=by rcases G6 _ h1 hk with h|h;exact .inl h.1;exact .inr h.1
   have eT:iV (.lf kd l v q)=uy kd l v++iV q:=rfl
   have bI:0<(uy kd l v).length:=by
    have hm:∀q∈vO,q.1≠3->0<(uy q.1 q.2.1 q.2.2).length:=by decide
    exact hm _ h1 hk
   have I:=c.at'
   rw[eT,List.nil_append,List.append_assoc] at I
   refine uV t1 ap (Rx h1 hk) I (λh=>by omega) λp cc b H5 b5 p5 q5 W au=>?_
   have r5:=r.fC W
   refine dD (λu H'=>∃n2:Nat,u=((n2:Int),0,())/\n'<n2/\∃N t2,CS S s nm (L.map Lv.d) dep ao (n+(iV f++vq nm).length) m n2 [] [] [] q t2/\RS H' x g k N t2 [] L Y/\Gr (d'.own x) (N.own x) H1 H') ⟨_,eD b5 0,dD (λu H'=>u=(false,())/\H5=H') (eI (by omega) (eI (by omega) ⟨by rw[decide_eq_false (by omega)],rfl⟩)) λu H' h=>?_⟩ ?_
   .obtain⟨rfl,rfl⟩:=h
    refine dH rfl (eI (by omega) (dD (λu H'=>u=(true,())/\H5=H') (eE (λh=>⟨by rw[decide_eq_true h],rfl⟩) λh=>⟨by rw[decide_eq_true (by omega)],rfl⟩) λu H' h=>?_))
    obtain⟨rfl,rfl⟩:=h
    refine eN rfl (b5.ld (CA (eH t1 W) r5 aY (by omega) (by omega) ⟨h1,hk⟩ dep λd6 H6 r6 g6=>⟨_,rfl,by omega,d6,_,⟨by simpa using TA.step I,.nil,?_,?_,?_,Nat.zero_le _,?_⟩,r6,(Gr.of W).trans g6⟩))
    .have e3:(kd==3)=false:=by simpa using hk
     rw[e3] at Z
     exact Z
    .rw[<-c.yC]
     simp[mI,K9,Nr,Cq]
    .have:=c.DK
     rw[eT] at this
     rw[<-this]
     simp[Nat.add_assoc]
    .have:=c.fs
     rw[eT,List.length_append] at this
     omega
   .rintro _ H6 ⟨n2,rfl,aD,N,t2,c2,r2,g2⟩
    exact eI (λh=>h rfl) (on _ _ _ _ _ _ c2 r2 g2 aD)
  |el a0 al kd q=>
   obtain⟨h1,h2,hN,hd,hk,Z⟩:=c.ok
   have bJ:=Gx a0 al kd q
   have fs:=c.fs
   have I:=c.at'
   rw[List.nil_append,vE] at I
   have e2:=I.step
   have bK:0<(GH a0 al (KK kd)).length:=by unfold GH;simp
   have aq:=c.yC
   simp only[List.append_nil,mI] at aq
   refine uV t1 ap (.start (KK kd) (yx h1) h2.m) I (λh=>by cases h) λp cc b H5 b5 p5 q5 W au=>?_
   refine dD (λu H'=>∃n2:Nat,u=((n2:Int),0,())/\n'<n2/\∃N t2,CS S s nm (L.map Lv.d) dep ao (n+(iV f++vq nm).length) m n2 [] [] [] q t2/\RS H' x g k N t2 [] L Y/\Gr (d'.own x) (N.own x) H1 H') ⟨_,eD b5 0,dD (λu H'=>u=(false,())/\H5=H') (eI (by decide) (eI (by decide) ⟨rfl,rfl⟩)) λu H' h=>?_⟩ ?_
   .obtain⟨rfl,rfl⟩:=h
    refine dH rfl (eI (by decide) (dD (λu H'=>u=(false,())/\H5=H') (eI (by decide) ⟨rfl,rfl⟩) λu H' h=>?_))
    obtain⟨rfl,rfl⟩:=h
    refine dH rfl (fD rfl (b5.ld (Jg (eH t1 W) a9 ba (r.fC W) aY (by omega) h1 h2 hN hd hk hL (by rw[<-aq] at aw;simp only[List.length_append,List.length_cons] at aw⊢;omega) e2 (vD q _ _ _ Z _ aW aX) (ih (iV kd).length (by omega) (Nat.le_refl _) h1) p5 q5 λd3 t3 H3 r3 g3 e3=>⟨_,rfl,by omega,d3,t3,⟨e2.step,.nil,Z,?_,?_,Nat.zero_le _,by omega⟩,r3,(Gr.of W).trans g3⟩)))
    .rw[e3,<-aq]
     simp[Nr,Cq]
    .rw[<-c.DK,List.nil_append,vE]
     simp[Nat.add_assoc]
   .rintro _ H6 ⟨n2,rfl,aD,N,t2,c2,r2,g2⟩
    exact eI (λh=>h rfl) (on _ _ _ _ _ _ c2 r2 g2 aD)
 |@ref qq w2 x2 Z hw=>
  have I:=c.at'
  rw[List.append_assoc] at I
  have bn:=Qf _ Z
  have av:=I.step
  refine uV t1 ap (.ref Z) I (λh=>by cases h) λp cc b H5 b5 p5 q5 W au=>?_
  have r5:=r.fC W
  refine dD (λu H'=>u=(((n'+(38::(qq.1++[59])).length:Nat):Int),0,())/\∃N,RS H' x g k N t' (o++qq.2) L Y/\Gr (d'.own x) (N.own x) H1 H') ⟨_,eD b5 0,dD (λu H'=>u=(false,())/\H5=H') (eI (by decide) (eI (by decide) ⟨rfl,rfl⟩)) λu H' h=>?_⟩ ?_
  .obtain⟨rfl,rfl⟩:=h
   refine dH rfl (fD rfl ⟨_,b5.OJ,Mx (eH t1 W) r5 Z (by simp only[List.length_append,List.length_cons] at aZ bn⊢;omega) dep λd6 H6 r6 g6=>⟨rfl,d6,r6,(Gr.of W).trans g6⟩⟩)
  .rintro _ H6 ⟨rfl,N,r2,g2⟩
   refine eI (λh=>h rfl) (on w2 x2 (o++qq.2) O N t' ⟨av,hw,by rw[List.append_assoc];exact c.ok,by rw[List.append_assoc];exact c.yC,?_,by rw[List.length_append];omega,c.fs⟩ r2 g2 (by simp))
   rw[<-c.DK];simp[Nat.add_assoc];omega
 |@cr w2 x2 hw=>
  have I:=c.at'
  rw[List.append_assoc] at I
  have av:=I.step
  refine uV t1 ap .cr I (λh=>by cases h) λp cc b H5 b5 p5 q5 W au=>Jm (r.fC W) b5 (.inr rfl) (by simp) (by simp;omega) λN H' r2 g2=>on w2 x2 (o++[13]) O N t' ⟨av,hw,by rw[List.append_assoc];exact c.ok,by rw[List.append_assoc];exact c.yC,?_,by simp;omega,c.fs⟩ r2 ((Gr.of W).trans g2) (by simp)
  rw[<-c.DK];simp[Nat.add_assoc];omega
 |@iV y w2 x2 hy hw bo he=>
  obtain⟨-,aQ,-⟩:=yg _ hy
  have bL:=List.length_pos_iff.2 aQ
  have I:=c.at'
  rw[List.append_assoc] at I
  have av:=I.step
  refine uV t1 ap (.iV hy) I (λ_=>⟨?_,by simp[vq],by rw[<-List.append_assoc];exact c.rm.lg bi bj⟩) λp cc b H5 b5 p5 q5 W au=>Jm (r.fC W) b5 (.inl rfl) aQ (by rw[List.length_append];have:=PI _ hy;omega) λN H' r2 g2=>on w2 x2 (o++y) O N t' ⟨av,hw,by rw[List.append_assoc];exact c.ok,by rw[List.append_assoc];exact c.yC,?_,by rw[List.length_append];omega,c.fs⟩ r2 ((Gr.of W).trans g2) (by omega)
  .rcases bo with rfl|⟨t,rfl⟩
   .have:decide (o++(y++x2)≠[])=true:=decide_eq_true (by simp[aQ])
    have aC:=c.ok
    rw[this] at aC
    obtain⟨t,ht⟩:=R6 O aC (vq nm++s) ⟨_,rfl⟩
    rw[List.nil_append,ht]
    exact .mk (.inl rfl)
   .exact .mk (.inr rfl)
  .rw[<-c.DK];simp[Nat.add_assoc]
end Go.Proofs.fv
namespace Go.Ex
def TG(S:By)(n:Nat)(z:By):List dB:=[.string (eJ S),.int .i64 (n:Int),.bool false,.string (eJ z),.slice none 0 0,.slice none 0 0]
end Go.Ex
namespace Go.Proofs.fv
open Go.Ex Go.X
abbrev DB(H:dw)(b:Nat)(S:By)(n:Nat)(z:By):Prop:=H[b]?=some (.cells (TG S n z).toArray qs (0,0))
section
variable {H:dw} {b:Nat} {S z:By} {n:Nat}
theorem DB.set(h:DB H b S n z)(m:Nat){K:dw->Prop}(u:∀H',DB H' b S m z->Fr (λk=>k=b) H H'->K H'):j0 (.int .i64 (m:Int)) ((⟨b,0,none⟩:dA).add 1) H K:=
 hP (o:=1) h (by simp[TG]) λH' w I=>u H' (by rw[DB,w];simp[TG]) I
theorem DB.bad(h:DB H b S n z){K:dw->Prop}(u:∀H',DB H' b S n z->Fr (λk=>k=b) H H'->K H'):j0 (.bool false) ((⟨b,0,none⟩:dA).add 2) H K:=
 hP (o:=2) h (by simp[TG]) λH' w I=>u H' (by rw[DB,w];simp[TG]) I
theorem DB.fC(h:DB H b S n z){H':dw}(f:Fr fa H H'):DB H' b S n z:=f.fi h λh=>h
theorem Jl(h:DB H b S n z)(a:By){r:By}(w:TA S n r){R:Bool->dw->Prop}(I:a.isPrefixOf r=true->∀H',DB H' b S (n+a.length) z->Fr (λk=>k=b) H H'->R true H')(N:a.isPrefixOf r=false->R false H):fy.C (some ⟨b,0,none⟩) (eJ a) H R:=by
 apply fy.calls
 unfold fy.W
 have O:=w.sz
 refine dD (λ_ H'=>a.isPrefixOf r=true/\H=H') (dD (λs H'=>s=(!a.isPrefixOf r,())/\H=H') ⟨_,rfl,_,eD h 2,dH rfl ⟨_,rfl,_,eD h 0,_,rfl,_,eD h 1,by omega,by omega,?_⟩⟩ ?_) ?_
 .rw[Int.toNat_natCast,w.ext]
  exact iy _ a ⟨rfl,rfl⟩
 .rintro _ _ ⟨rfl,rfl⟩
  cases u:a.isPrefixOf r with
  |true=>exact dH rfl ⟨rfl,rfl⟩
  |false=>exact eN rfl (N u)
 .rintro _ _ ⟨u,rfl⟩
  refine⟨_,rfl,_,eD h 1,_,rfl,?_⟩
  have Y:a.length<=r.length:=(List.isPrefixOf_iff_prefix.1 u).length_le
  rw[fc,tL _ _ (by omega)]
  exact h.set _ (I u)
theorem sP(h:DB H b S n z)(a r:By)(w:TA S n (a++r)){R:Bool->dw->Prop}(I:∀H',DB H' b S (n+a.length) z->Fr (λk=>k=b) H H'->R true H'):fy.C (some ⟨b,0,none⟩) (eJ a) H R:=
 have e:a.isPrefixOf (a++r)=true:=List.isPrefixOf_iff_prefix.2 (List.prefix_append a r)
 Jl h a w (λ_=>I) λu=>by rw[e] at u;cases u
theorem rz(h:DB H b S n z)(a:By){r:By}(u:TA S n r)(w:a.isPrefixOf r=false){R:Bool->dw->Prop}(I:R false H):fy.C (some ⟨b,0,none⟩) (eJ a) H R:=
 Jl h a u (λh=>by rw[w] at h;cases h) λ_=>I
theorem xz(h:DB H b S n z)(a r:By)(u:TA S n (a++r)){R:dw->Prop}(w:∀H',DB H' b S (n+a.length) z->Fr (λk=>k=b) H H'->R H'):iq.C (some ⟨b,0,none⟩) (eJ a) H R:=
 iq.calls (sP h a r u λH' I N=>dH rfl (w H' I N))
theorem lP(O:gG H)(h:DB H b S n z)(u r:By)(Y:TA S n (u++r))(N:∀c∈u,OE c)(Z:BG vN r){R:Bool->dw->Prop}(hy:∀H',DB H' b S (n+u.length) z->Fr (λk=>k=b) H H'->R (decide (u≠[])) H'):ft.C (some ⟨b,0,none⟩) H R:=by
 apply ft.calls
 unfold ft.W
 refine⟨_,rfl,_,eD h 1,dD (λ_ H'=>DB H' b S (n+u.length) z/\Fr (λk=>k=b) H H') ⟨_,rfl,_,eD h 2,eN rfl ⟨_,rfl,_,eD h 0,_,rfl,_,eD h 1,mn O u r Y N Z λH2 f2=>⟨_,rfl,(h.fC f2).set _ λH' w I=>⟨w,(f2.mono λ_ h=>h.elim).trans I λi hi=>.inl hi⟩⟩⟩⟩ ?_⟩
 rintro _ H' ⟨w,I⟩
 refine⟨_,rfl,_,eD w 1,?_⟩
 have e:decide ((n:Int)<((n+u.length:Nat):Int))=decide (u≠[]):=by
  cases u with
  |nil=>simp
  |cons c t=>rw[decide_eq_true (by simp only[List.length_cons];omega),decide_eq_true (by simp)]
 show R (decide ((n:Int)<((n+u.length:Nat):Int))) H'
 rw[e]
 exact hy H' w I
theorem DQ(I:gG H)(h:DB H b S n z)(u r:By)(N:TA S n (u++r))(w:∀c∈u,OE c)(O:u≠[])(W:BG vN r){R:dw->Prop}(Y:∀H',DB H' b S (n+u.length) z->Fr (λk=>k=b) H H'->R H'):jf.C (some ⟨b,0,none⟩) H R:=
 jf.calls (lP I h u r N w W λH' Z f'=>by rw[decide_eq_true O];exact dH rfl (Y H' Z f'))
theorem Hj(w:gG H)(hb:7<b)(h:DB H b S n z)(r:By)(u:TA S n (61::r))(I:BG vN r){R:dw->Prop}(N:∀H',DB H' b S (n+1) z->Fr (λk=>k=b) H H'->R H'):jz.C (some ⟨b,0,none⟩) H R:=
 jz.calls (lP w h [] _ u (by simp) (.mk (by decide)) λH1 O f1=>xz O [61] r u λH2 W f2=>lP (fM (fM w f1 (by omega)) f2 (by omega)) W [] _ u.wO (by simp) I λY Z f3=>N Y Z ((f1.trans f2 λi hi=>.inl hi).trans f3 λi hi=>.inl hi))
theorem HL(I:gG H)(x r:By)(q:UInt8)(N:q=39)(h:TA S n (q::(x++([q]++r))))(O:pG x [q]=true){R:dE->Int->Bool->dw->Prop}(Y:R (eJ x) ((n+(x.length+2):Nat):Int) true H):kX.C (eJ S) (n:Int) H R:=by
 apply kX.calls
 unfold kX.W
 have Z:=h.sz
 have u:=h.wO
 have hl:=u.sz
 simp only[List.length_cons,List.length_append] at Z hl
 have w:bt (eJ S) (n:Int)=39:=by
  rw[DW (by omega)]
  have e:S[n]?=some 39:=by show S[n+0]?=_;rw[<-List.getElem?_drop,h.e,N];rfl
  obtain⟨h0,e⟩:=List.getElem?_eq_some_iff.1 e
  simp only[iM,e]
  rfl
 refine dD (λ_ H'=>H=H') (dD (λs H'=>s=(false,())/\H=H') (eI (by omega) (eI (by omega) ⟨by omega,by omega,fD (by rw[w];decide) ⟨by omega,by omega,?_,rfl⟩⟩)) ?_) ?_
 .rw[w];rfl
 .rintro _ _ ⟨rfl,rfl⟩
  exact dH rfl rfl
 rintro _ _ rfl
 rw[qN _ (by omega)]
 refine⟨by omega,by omega,by omega,by omega,by omega,by omega,?_⟩
 rw[Int.toNat_natCast,Int.toNat_natCast,u.ext,TA.cut (a:=[q]) h (m:=n+1) rfl]
 refine HQ I (x++([q]++r)) [q] (by simp only[List.length_append,List.length_cons];omega) ?_
 rw[Hk r (by simp) O]
 refine dH rfl (eZ ?_)
 dsimp only
 rw[fc,tL _ _ (by omega),WM _ (by omega)]
 exact Y
theorem zI(I:gG H)(h:DB H b S n z)(x r:By)(q:UInt8)(N:q=39)(O:TA S n (q::(x++([q]++r))))(Y:pG x [q]=true){R:dE->dw->Prop}(Z:∀H',DB H' b S (n+(x.length+2)) z->Fr (λk=>k=b) H H'->R (eJ x) H'):gq.C (some ⟨b,0,none⟩) H R:=by
 apply gq.calls
 unfold gq.W
 refine⟨_,rfl,_,eD h 0,_,rfl,_,eD h 1,HL I x r q N O Y ?_⟩
 refine dD (λ_ H'=>DB H' b S (n+(x.length+2)) z/\Fr (λk=>k=b) H H') (dD (λ_ H'=>DB H' b S n z/\Fr (λk=>k=b) H H') ⟨_,rfl,_,eD h 2,dH rfl ⟨_,rfl,h.bad λw u f1=>⟨u,f1⟩⟩⟩ ?_) ?_
 .rintro _ w ⟨u,f1⟩
  exact⟨_,rfl,_,eD u 2,eN rfl ⟨_,rfl,u.set _ λH2 b2 f2=>⟨b2,f1.trans f2 λi hi=>.inl hi⟩⟩⟩
 .rintro _ w ⟨u,f1⟩
  exact Z w u f1
end
end Go.Proofs.fv
namespace Go.Ex
def tD:By:=[60,63,120,109,108,32,118,101,114,115,105,111,110,61,39,49,46,48,39,32,101,110,99,111,100,105,110,103,61,39,117,116,102,45,56,39,32,115,116,97,110,100,97,108,111,110,101,61,39,121,101,115,39,63,62]
def y9:By:=[60,33,68,79,67,84,89,80,69,32,120,32,83,89,83,84,69,77,32,39,117,39,32,91,60,33,69,76,69,77,69,78,84,32,120,32,65,78,89,62,60,33,45,45,32,100,32,45,45,62,93,62]
theorem TA.at{S r:By}{n m:Nat}(h:TA S n r)(a:By){b:By}(e:r=a++b)(u:m=n+a.length):TA S m b:=by subst e u;exact h.step
end Go.Ex
namespace Go.Proofs.fv
open Go.Ex Go.X
section
variable {H:dw} {b:Nat} {S z:By} {n:Nat}
theorem NI(O:gG H)(hb:7<b)(h:DB H b S n z)(c:UInt8)(r:By)(N:TA S n (120::c::r))(Y:MV c){R:dE->dw->Prop}(Z:∀H',DB H' b S (n+1) z->Fr (λk=>k=b) H H'->R (eJ [120]) H'):jn.C (some ⟨b,0,none⟩) H R:=by
 apply jn.calls
 unfold jn.W
 have hs:=N.wO.sz
 refine⟨_,rfl,_,eD h 1,dD (λ_ H'=>DB H' b S (n+1) z/\Fr (λk=>k=b) H H') ⟨_,rfl,_,eD h 2,eN rfl ⟨_,rfl,_,eD h 0,_,rfl,_,eD h 1,xP O [120] c r N (by decide) Y λu f2=>⟨_,rfl,(h.fC f2).set _ λH' w I=>⟨w,(f2.mono λ_ h=>h.elim).trans I λi hi=>.inl hi⟩⟩⟩⟩ ?_⟩
 rintro _ H' ⟨w,I⟩
 refine⟨_,rfl,_,eD w 0,_,rfl,_,eD w 1,by omega,by omega,by omega,by rw[Int.toNat_natCast];omega,?_⟩
 rw[Int.toNat_natCast,Int.toNat_natCast,TA.cut (a:=[120]) N (m:=n+1) rfl]
 refine dD (λ_ u=>DB u b S (n+1) z/\Fr (λk=>k=b) H u) ⟨_,rfl,_,eD w 2,dH rfl (J1 (fM O I (by omega)) λu f2=>⟨_,rfl,(w.fC f2).bad λH3 b3 f3=>⟨b3,(I.trans f2 λ_ h=>h.elim).trans f3 λi hi=>.inl hi⟩⟩)⟩ ?_
 rintro _ u ⟨b2,f2⟩
 exact Z u b2 f2
theorem Qm(w:gG H)(Z:7<b)(h:DB H b S n z)(r:By)(u:TA S n ([83,89,83,84,69,77,32,39,117,39]++r)){R:Bool->dw->Prop}(I:∀H',DB H' b S (n+10) z->Fr (λk=>k=b) H H'->R true H'):hY.C (some ⟨b,0,none⟩) H R:=by
 apply hY.calls
 unfold hY.W
 refine dD (λ_ H'=>DB H' b S (n+10) z/\Fr (λk=>k=b) H H') ?_ λ_ H' h=>I H' h.1 h.2
 refine sP h [83,89,83,84,69,77] ([32,39,117,39]++r) u λH1 N f1=>eN rfl (DQ (fM w f1 (by omega)) N [32] ([39,117,39]++r) (u.at [83,89,83,84,69,77] rfl rfl) (by decide) (by simp) (.mk (by decide)) λH2 O f2=>zI (fM (fM w f1 (by omega)) f2 (by omega)) O [117] r 39 rfl (u.at [83,89,83,84,69,77,32] rfl rfl) (by decide) λH3 Y f3=>⟨Y,(f1.trans f2 λi hi=>.inl hi).trans f3 λi hi=>.inl hi⟩)
theorem KL(ht:gG H)(h:DB H b S n z)(r:By)(ta:TA S n ([60,33,45,45,32,100,32,45,45,62]++r)){R:dw->Prop}(hy:∀H',DB H' b S (n+10) z->Fr (λk=>k=b) H H'->R H'):iS.C (some ⟨b,0,none⟩) H R:=by
 apply iS.calls
 unfold iS.W
 have pc:Pc [60,33,45,45,32,100,32,45,45,62] 4 [] [32,100,32] [] false:=.XU (x:=[32,100,32]) (by decide)
 have hb:=eR h
 have O:∀{u:dw}{q:Nat}{p:dC}{l c:Nat},uq u q 4 [] [32,100,32] p l c false->DB u b S n z->Fr fa H u->eA (S:=Unit) (λJ3=>eA (S:=(Bool×Unit)) (λZ=>eL (decide ((0:Int)≠0)) (Z (true,()) u) (gf u ((⟨q,0,none⟩:dA).add 0) λag=>eL (decide (ag≠4)) (gf u ((⟨q,0,none⟩:dA).add 0) λah=>Z (decide (ah≠5),()) u) (Z (false,()) u))) (λs2 H5=>(λ(ai:Bool)=>eL ai (False) (J3 () H5)) s2.1)) (λ_ u=>∃Y:dA,(some ⟨b,0,none⟩:dC)=some Y/\j0 (.int .i64 ((n+10:Nat):Int)) (Y.add 1) u λH6=>R H6):=by
  intro u q p l c t4 I w
  refine dD (λ_ H'=>u=H') (dD (λs H'=>s=(false,())/\u=H') (eI (λh=>h rfl) ⟨_,eD t4 0,eI (λh=>h rfl) ⟨rfl,rfl⟩⟩) λs H' h=>by rcases h with⟨rfl,rfl⟩;exact dH rfl rfl) λ_ H' h=>?_
  subst h
  exact⟨_,rfl,I.set _ λH' b' f'=>hy H' b' ((w.mono λ_ h=>h.elim).trans f' λi hi=>.inl hi)⟩
 refine⟨_,rfl,_,eD h 0,_,rfl,_,eD h 1,xQ ht pc ta (λh=>by cases h) λp c H2 s2 aj f2=>dN λH3 N=>?_,dN λH3 N=>?_⟩
 .have f3:Fr fa H2 H3:=N▸Fr.new H2 _ _
  refine⟨⟨_,eD (h.fC (f2.dF f3)) 0,rfl⟩,⟨_,eD (h.fC (f2.dF f3)) 1,rfl⟩,?_⟩
  subst N
  exact ke (Fr.refl _ _) 4 [] [32,100,32] p _ c false λu I w g4=>O I (h.fC (f2.dF w)) (f2.dF w)
 .have f3:Fr fa H H3:=N▸Fr.new H _ _
  refine⟨⟨_,eD (h.fC f3) 0,rfl⟩,⟨_,eD (h.fC f3) 1,rfl⟩,xQ (eH ht f3) pc ta (λh=>by cases h) λp c H2 s2 aj f2=>?_⟩
  subst N
  exact ke f2 4 [] [32,100,32] p _ c false λu I w g4=>O I (h.fC w) w
theorem NK(ht:gG H)(h:DB H b S n z)(w r:By)(ta:TA S n (32::(w++62::r)))(hw:∀c∈w,c≠62/\c≠60/\c≠34/\c≠39)(h1:BG vN (w++62::r)){R:dw->Prop}(hy:∀H',DB H' b S (n+(w.length+2)) z->Fr (λk=>k=b) H H'->R H'):jo.C (some ⟨b,0,none⟩) H R:=by
 apply jo.calls
 unfold jo.W
 have ae:=ta.wO
 refine DQ ht h [32] _ ta (by decide) (by simp) h1 λH1 b1 f1=>?_
 refine eW (λm _ H'=>∃i,i<=w.length/\m=w.length-i/\DB H' b S (n+1+i) z/\Fr (λk=>k=b) H H') w.length ⟨0,by omega,rfl,b1,f1⟩ ?_
 rintro m _ O ⟨i,hi,rfl,u,f2⟩
 have I:TA S (n+1+i) (w.drop i++62::r):=by
  have:=TA.at ae (w.take i) (b:=w.drop i++62::r) (m:=n+1+i) (by rw[<-List.append_assoc,List.take_append_drop]) (by rw[List.length_take];omega)
  exact this
 rcases Nat.lt_or_ge i w.length with N|af
 .have Y:w.drop i=w[i]::w.drop (i+1):=List.drop_eq_getElem_cons N
  obtain⟨c1,c2,c3,c4⟩:=hw _ (List.getElem_mem N)
  rw[Y] at I
  have hs:=I.sz
  simp only[List.cons_append,List.length_cons] at hs
  refine dD (λ_ H'=>O=H') ⟨_,rfl,_,eD u 2,eN rfl (rz u [62] I (by show((62:UInt8)==w[i]&&_)=false;rw[beq_eq_false_iff_ne.2 (Ne.symm c1)];rfl) (eN rfl rfl))⟩ ?_
  rintro _ _ rfl
  have Z:bt (eJ S) ((n+1+i:Nat):Int)=((w[i]).toNat:Int):=by
   rw[DW (by omega)]
   have e:S[n+1+i]?=some w[i]:=by show S[n+1+i+0]?=_;rw[<-List.getElem?_drop,I.e];rfl
   obtain⟨h0,e⟩:=List.getElem?_eq_some_iff.1 e
   simp only[iM,e]
  have ne:∀a:UInt8,w[i]≠a->¬(((w[i]).toNat:Int)=(a.toNat:Int)):=λa ha e=>ha (UInt8.toNat_inj.1 (by omega))
  have ag:¬(((w[i]).toNat:Int)=60):=ne 60 c2
  have ah:¬(((w[i]).toNat:Int)=39):=ne 39 c4
  refine dD (λs H'=>s=(false,())/\O=H') ⟨_,rfl,_,eD u 1,_,rfl,_,eD u 0,eI (by omega) ⟨_,rfl,_,eD u 0,_,rfl,_,eD u 1,by omega,by omega,by rw[Z,decide_eq_false ag],rfl⟩⟩ ?_
  rintro _ _ ⟨rfl,rfl⟩
  refine dH rfl (dD (λs H'=>s=(false,())/\O=H') ⟨_,rfl,_,eD u 0,_,rfl,_,eD u 1,by omega,by omega,eI (by rw[Z];exact ne 34 c3) ⟨_,rfl,_,eD u 0,_,rfl,_,eD u 1,by omega,by omega,by rw[Z,decide_eq_false ah],rfl⟩⟩ ?_)
  rintro _ _ ⟨rfl,rfl⟩
  refine dH rfl ⟨_,rfl,_,eD u 1,_,rfl,?_⟩
  rw[qN _ (by omega)]
  exact u.set _ λH' b' f'=>⟨_,by omega,i+1,by omega,rfl,b',f2.trans f' λi hi=>.inl hi⟩
 .have Y:w.drop i=[]:=List.drop_eq_nil_of_le af
  rw[Y] at I
  have:i=w.length:=by omega
  subst this
  refine dD (λ_ _=>False) ⟨_,rfl,_,eD u 2,eN rfl (sP u [62] r I λH' b' f'=>dH rfl (hy H' ?_ (f2.trans f' λi hi=>.inl hi)))⟩ λ_ _ h=>h.elim
  rw[show n+(w.length+2)=n+1+w.length+1 by omega]
  exact b'
theorem Qk(Y:gG H)(hb:7<b)(h:DB H b S n z)(r:By)(N:TA S n ([60,33,69,76,69,77,69,78,84,32,120,32,65,78,89,62]++([60,33,45,45,32,100,32,45,45,62]++(93::r)))){R:dw->Prop}(hy:∀H',DB H' b S (n+27) z->Fr (λk=>k=b) H H'->R H'):iD.C (some ⟨b,0,none⟩) H R:=by
 apply iD.calls
 unfold iD.W
 refine eW (λm _ H'=>∃i,(i=0/\m=2\/i=16/\m=1\/i=26/\m=0)/\DB H' b S (n+i) z/\Fr (λk=>k=b) H H') 2 ⟨0,.inl ⟨rfl,rfl⟩,h,Fr.refl _ _⟩ ?_
 rintro m _ H1 ⟨i,hi,b1,f1⟩
 have t1:=fM Y f1 (by omega)
 refine⟨_,rfl,_,eD b1 2,eN rfl ?_⟩
 have Z:∀(q:By),TA S (n+i) q->BG vN q->∀{R:Bool->dw->Prop},(∀I,DB I b S (n+i) z->Fr (λk=>k=b) H I->R false I)->ft.C (some ⟨b,0,none⟩) H1 R:=λq tq hq R hR=>lP t1 b1 [] q tq (by simp) hq λI u f2=>hR I u (f1.trans f2 λi hi=>.inl hi)
 rcases hi with⟨rfl,rfl⟩|⟨rfl,rfl⟩|⟨rfl,rfl⟩
 .refine Z _ N (.mk (by decide)) λI u f2=>rz u [93] N rfl (dH rfl (rz u [60,33,69,78,84,73,84,89] N rfl (dH rfl (rz u [60,33,65,84,84,76,73,83,84] N rfl (dH rfl ?_)))))
  refine dD (λs H'=>s=(true,())/\DB H' b S (n+9) z/\Fr (λk=>k=b) H H') (sP u [60,33,69,76,69,77,69,78,84] _ N λH3 O f3=>eN rfl ⟨rfl,O,f2.trans f3 λi hi=>.inl hi⟩) ?_
  rintro _ H3 ⟨rfl,O,f3⟩
  exact eN rfl (NK (fM Y f3 (by omega)) O [120,32,65,78,89] ([60,33,45,45,32,100,32,45,45,62]++(93::r)) (N.at [60,33,69,76,69,77,69,78,84] rfl rfl) (by decide) (.mk (by decide)) λH4 b4 f4=>⟨1,by omega,16,by omega,b4,f3.trans f4 λi hi=>.inl hi⟩)
 .have w:=N.at (m:=n+16) [60,33,69,76,69,77,69,78,84,32,120,32,65,78,89,62] rfl rfl
  refine Z _ w (.mk (by decide)) λI u f2=>rz u [93] w rfl (dH rfl (rz u [60,33,69,78,84,73,84,89] w rfl (dH rfl (rz u [60,33,65,84,84,76,73,83,84] w rfl (dH rfl ?_)))))
  refine dD (λs H'=>s=(false,())/\I=H') (rz u [60,33,69,76,69,77,69,78,84] w rfl (dH rfl (rz u [60,33,78,79,84,65,84,73,79,78] w rfl ⟨rfl,rfl⟩))) ?_
  rintro _ _ ⟨rfl,rfl⟩
  exact dH rfl (KL (fM Y f2 (by omega)) u _ w λH4 b4 f4=>⟨0,by omega,26,by omega,b4,f2.trans f4 λi hi=>.inl hi⟩)
 .have w:=N.at (m:=n+26) [60,33,69,76,69,77,69,78,84,32,120,32,65,78,89,62,60,33,45,45,32,100,32,45,45,62] rfl rfl
  exact Z _ w (.mk (by decide)) λI u f2=>sP u [93] r w λH3 O f3=>eN rfl (hy H3 O (f2.trans f3 λi hi=>.inl hi))
end
theorem HO{H:dw}{S r:By}{n:Nat}(u:TA S n r)(w:[60,33,68,79,67,84,89,80,69].isPrefixOf r=false){R:dE->dC->Nat->Nat->dC->Nat->Nat->Int->Int->dw->Prop}
 (I:∀H',Fr fa H H'->R eS none 0 0 none 0 0 (n:Int) 6 H'):jA.C (eJ S) (n:Int) H R:=by
 apply jA.calls
 unfold jA.W
 have Y:=u.sz
 refine eZ (dD (λ_ _=>False) (dD (λs H'=>s=(true,())/\eP H #[.string eS,.slice none 0 0,.slice none 0 0] gL=H') (eI (by omega) (eI (by omega) ⟨by omega,by omega,?_⟩)) ?_) λ_ _ h=>h.elim)
 .rw[Int.toNat_natCast,u.ext]
  exact iy _ [60,33,68,79,67,84,89,80,69] ⟨by rw[w];rfl,rfl⟩
 .rintro _ _ ⟨rfl,rfl⟩
  exact eN rfl (mP (vs:=[.string eS,.slice none 0 0,.slice none 0 0]) (Fr.refl _ _) rfl λH' N O Z=>mQ _ _ _ _ _ _ _ (λj hj=>eD N j) (I H' O))
theorem HP{H:dw}(ht:gG H){S:By}{n:Nat}(r:By)(h:TA S n (y9++r)){R:dE->dC->Nat->Nat->dC->Nat->Nat->Int->Int->dw->Prop}
 (hR:∀H',Fr fa H H'->R (eJ [120]) none 0 0 none 0 0 ((n+y9.length:Nat):Int) 0 H'):jA.C (eJ S) (n:Int) H R:=by
 apply jA.calls
 unfold jA.W
 have hs:=h.sz
 have f1:=Fr.new H #[.string eS,.slice none 0 0,.slice none 0 0] gL
 refine eZ (dD (λ_ H'=>eP H #[.string eS,.slice none 0 0,.slice none 0 0] gL=H') (dD (λs H'=>s=(false,())/\eP H #[.string eS,.slice none 0 0,.slice none 0 0] gL=H') (eI (by omega) (eI (by omega) ⟨by omega,by omega,?_⟩)) ?_) ?_)
 .rw[Int.toNat_natCast,h.ext]
  exact iy _ [60,33,68,79,67,84,89,80,69] ⟨rfl,rfl⟩
 .rintro _ _ ⟨rfl,rfl⟩
  exact dH rfl rfl
 rintro _ _ rfl
 generalize am:eP H #[.string eS,.slice none 0 0,.slice none 0 0] gL=Y at f1⊢
 refine dN λw h2=>?_
 have hw:=tL n 9 (by omega)
 have e9:((9:Nat):Int)=9:=rfl
 rw[e9] at hw
 rw[hw] at h2
 have f2:Fr fa Y w:=h2▸Fr.new Y _ _
 have b2:DB w (Array.size Y) S (n+9) []:=h2▸eU
 generalize hb:Array.size Y=b at b2⊢
 have Z:7<b:=by have:=jP (eH ht f1);omega
 have t2:=eH ht (f1.dF f2)
 have T:∀{Hx:dw},Fr (λk=>k=b) w Hx->gG Hx:=λf=>fM t2 f (by omega)
 have J:∀{Hx Hy:dw},Fr (λk=>k=b) w Hx->Fr (λk=>k=b) Hx Hy->Fr (λk=>k=b) w Hy:=λf g=>f.trans g λi hi=>.inl hi
 refine DQ t2 b2 [32] _ (h.at [60,33,68,79,67,84,89,80,69] rfl rfl) (by decide) (by simp) (.mk (by decide)) λH3 b3 f3=>?_
 refine NI (T f3) Z b3 32 _ (h.at [60,33,68,79,67,84,89,80,69,32] rfl rfl) (by decide) λH4 b4 ar=>?_
 have f4:=J f3 ar
 refine⟨_,rfl,?_⟩
 rw[Addr.add_add]
 refine hP (o:=3) b4 (by simp[TG]) λH5 b5 au=>?_
 have f5:=J f4 au
 have b5:DB H5 b S (n+9+1+1) [120]:=by rw[DB,b5];simp[TG]
 refine dD (λ_ H'=>DB H' b S (n+23) [120]/\Fr (λk=>k=b) w H') (dD (λs H'=>s=(true,())/\DB H' b S (n+22) [120]/\Fr (λk=>k=b) w H') (lP (T f5) b5 [32] _ (h.at [60,33,68,79,67,84,89,80,69,32,120] rfl rfl) (by decide) (.mk (by decide)) λH6 b6 ad=>eN rfl (Qm (T (J f5 ad)) Z b6 _ (h.at [60,33,68,79,67,84,89,80,69,32,120,32] rfl rfl) λH7 I u=>⟨rfl,I,J (J f5 ad) u⟩)) ?_) ?_
 .rintro _ H6 ⟨rfl,b6,N⟩
  exact eN rfl (lP (T N) b6 [32] _ (h.at [60,33,68,79,67,84,89,80,69,32,120,32,83,89,83,84,69,77,32,39,117,39] rfl rfl) (by decide) (.mk (by decide)) λH7 I u=>⟨I,J N u⟩)
 rintro _ H6 ⟨b6,N⟩
 refine dD (λ_ H'=>DB H' b S (n+51) [120]/\Fr (λk=>k=b) w H') (sP b6 [91] _ (h.at [60,33,68,79,67,84,89,80,69,32,120,32,83,89,83,84,69,77,32,39,117,39,32] rfl rfl) λH7 I u=>eN rfl (Qk (T (J N u)) Z I (62::r) (h.at [60,33,68,79,67,84,89,80,69,32,120,32,83,89,83,84,69,77,32,39,117,39,32,91] rfl rfl) λH8 O f8=>lP (T (J (J N u) f8)) O [] (62::r) (h.at (y9.take 51) rfl rfl) (by simp) (.mk (by decide)) λH9 b9 f9=>⟨b9,J (J (J N u) f8) f9⟩)) ?_
 rintro _ H7 ⟨I,u⟩
 refine xz I [62] r (h.at (y9.take 51) rfl rfl) λH8 O f8=>⟨_,rfl,_,eD O 2,dH rfl ⟨_,rfl,?_⟩⟩
 refine mQ (eJ [120]) none 0 0 none 0 0 (λj hj=>by rw[Addr.add_add];have:=eD O (3+j);rw[this];rcases j with _|_|_|j<;>first|rfl|omega) ⟨_,rfl,_,eD O 1,?_⟩
 have ay:Fr fa Y H8:=f2.fresh (J u f8) λi hi=>by omega
 subst am
 refine mP (vs:=[.string (eJ [120]),.slice none 0 0,.slice none 0 0]) ay rfl λH9 b9 f9 g9=>⟨⟨_,(eD (g9.fi O (by rw[<-hb,gi];omega)) 1),rfl⟩,mQ _ _ _ _ _ _ _ (λj hj=>eD b9 j) (hR H9 f9)⟩
theorem T0{H:dw}{S:By}(I:TA S 0 S)(N:[60,63,120,109,108].isPrefixOf S=false){R:Int->Int->dw->Prop}(O:∀H',Fr fa H H'->R 0 0 H'):mi.C (eJ S) H R:=by
 apply mi.calls
 unfold mi.W
 refine dN λu w=>?_
 have f1:Fr fa H u:=w▸Fr.new H _ _
 have Y:DB u (Array.size H) S 0 []:=w▸eU
 refine dD (λ_ _=>False) (dD (λs H'=>s=(true,())/\u=H') (rz Y [60,63,120,109,108] I N (eN rfl ⟨rfl,rfl⟩)) ?_) λ_ _ h=>h.elim
 rintro _ _ ⟨rfl,rfl⟩
 exact eN rfl (O u f1)
theorem T1{H:dw}(ht:gG H){S:By}(r:By)(w:TA S 0 (tD++r)){R:Int->Int->dw->Prop}(hR:∀H',Fr fa H H'->R ((tD.length:Nat):Int) 0 H'):mi.C (eJ S) H R:=by
 apply mi.calls
 unfold mi.W
 refine dN λI h2=>?_
 have f2:Fr fa H I:=h2▸Fr.new H _ _
 have b2:DB I (Array.size H) S 0 []:=h2▸eU
 have ad:=jP ht
 generalize hb:Array.size H=b at b2 ad⊢
 have t2:=eH ht f2
 have T:∀{Hx:dw},Fr (λk=>k=b) I Hx->gG Hx:=λf=>fM t2 f (by omega)
 have J:∀{Hx Hy:dw},Fr (λk=>k=b) I Hx->Fr (λk=>k=b) Hx Hy->Fr (λk=>k=b) I Hy:=λf g=>f.trans g λi hi=>.inl hi
 refine dD (λ_ H'=>DB H' b S 6 []/\Fr (λk=>k=b) I H') (dD (λs H'=>s=(false,())/\DB H' b S 6 []/\Fr (λk=>k=b) I H') (sP b2 [60,63,120,109,108] _ w λH3 b3 f3=>dH rfl (lP (T f3) b3 [32] _ (w.at (tD.take 5) rfl rfl) (by decide) (.mk (by decide)) λH4 b4 f4=>⟨rfl,b4,J f3 f4⟩)) ?_) ?_
 .rintro _ H3 ⟨rfl,b3,f3⟩
  exact dH rfl ⟨b3,f3⟩
 rintro _ H3 ⟨b3,f3⟩
 refine xz b3 [118,101,114,115,105,111,110] _ (w.at (tD.take 6) rfl rfl) λH4 b4 f4=>Hj (T (J f3 f4)) ad b4 _ (w.at (tD.take 13) rfl rfl) (.mk (by decide)) λH5 b5 f5=>zI (T (J (J f3 f4) f5)) b5 [49,46,48] _ 39 rfl (w.at (tD.take 14) rfl rfl) (by decide) λH6 b6 aC=>?_
 have f6:=J (J (J f3 f4) f5) aC
 refine dD (λ_ H'=>DB H' b S 19 []/\Fr (λk=>k=b) I H') ⟨_,rfl,_,eD b6 2,dH rfl (Ev (T f6) λH7 Z=>⟨_,rfl,(b6.fC Z).bad λH8 b8 f8=>⟨b8,J (f6.trans Z λ_ h=>h.elim) f8⟩⟩)⟩ ?_
 rintro _ H7 ⟨b7,Z⟩
 refine lP (T Z) b7 [32] _ (w.at (tD.take 19) rfl rfl) (by decide) (.mk (by decide)) λH8 b8 aF=>?_
 have f8:=J Z aF
 refine dD (λs H'=>s=(true,())/\DB H' b S 37 []/\Fr (λk=>k=b) I H') (dD (λs H'=>s=(true,())/\DB H' b S 28 []/\Fr (λk=>k=b) I H') (eN rfl (sP b8 [101,110,99,111,100,105,110,103] _ (w.at (tD.take 20) rfl rfl) λH9 b9 f9=>⟨rfl,b9,J f8 f9⟩)) ?_) ?_
 .rintro _ H9 ⟨rfl,b9,f9⟩
  refine eN rfl (Hj (T f9) ad b9 _ (w.at (tD.take 28) rfl rfl) (.mk (by decide)) λam N u=>zI (T (J f9 u)) N [117,116,102,45,56] _ 39 rfl (w.at (tD.take 29) rfl rfl) (by decide) λan O ar=>?_)
  have Y:=J (J f9 u) ar
  refine dD (λ_ H'=>DB H' b S 36 []/\Fr (λk=>k=b) I H') ⟨_,rfl,_,eD O 2,dH rfl (Ot (T Y) λH7 Z=>⟨_,rfl,(O.fC Z).bad λH8 b8 f8=>⟨b8,J (Y.trans Z λ_ h=>h.elim) f8⟩⟩)⟩ ?_
  rintro _ aH ⟨ae,af⟩
  exact lP (T af) ae [32] _ (w.at (tD.take 36) rfl rfl) (by decide) (.mk (by decide)) λaI ao ag=>⟨rfl,ao,J af ag⟩
 rintro _ H9 ⟨rfl,b9,f9⟩
 refine dD (λ_ H'=>DB H' b S 53 []/\Fr (λk=>k=b) I H') (dD (λs H'=>s=(true,())/\DB H' b S 47 []/\Fr (λk=>k=b) I H') (eN rfl (sP b9 [115,116,97,110,100,97,108,111,110,101] _ (w.at (tD.take 37) rfl rfl) λam N u=>⟨rfl,N,J f9 u⟩)) ?_) ?_
 .rintro _ am ⟨rfl,N,u⟩
  refine eN rfl (Hj (T u) ad N _ (w.at (tD.take 47) rfl rfl) (.mk (by decide)) λan O Y=>zI (T (J u Y)) O [121,101,115] _ 39 rfl (w.at (tD.take 48) rfl rfl) (by decide) λaH ae au=>?_)
  have af:=J (J u Y) au
  refine dD (λ_ H'=>DB H' b S 53 []/\Fr (λk=>k=b) I H') ⟨_,rfl,_,eD ae 2,dH rfl (eI (λh=>h rfl) ⟨_,rfl,ae.bad λH8 b8 f8=>⟨b8,J af f8⟩⟩)⟩ ?_
  rintro _ aI ⟨ao,ag⟩
  exact lP (T ag) ao [] _ (w.at (tD.take 53) rfl rfl) (by simp) (.mk (by decide)) λaR aJ aK=>⟨aJ,J ag aK⟩
 rintro _ am ⟨N,u⟩
 exact xz N [63,62] r (w.at (tD.take 53) rfl rfl) λan O Y=>⟨_,rfl,_,eD O 2,dH rfl ⟨_,rfl,_,eD O 1,hR an (f2.fresh (J u Y) λi hi=>by omega)⟩⟩
theorem vL{H:dw}(x:dE){R:dC->dw->Prop}(O:∀b H',Fr fa H H'->R (some ⟨b,0,none⟩) H'):mW.C x none 0 0 none 0 0 H R:=by
 apply mW.calls
 unfold mW.W
 refine dN λu I=>dN λw Y=>dN λN Z=>?_
 have f1:Fr fa H u:=I▸Fr.new H _ _
 have f2:Fr fa u w:=Y▸Fr.push u _
 have f3:Fr fa w N:=Z▸Fr.new w _ _
 have b3:N[Array.size H]?=some (.cells #[.string x,.slice none 0 0,.slice none 0 0] gL (0,0)):=f3.fi (f2.fi (I▸eU) λh=>h) λh=>h
 refine dD (λ_ H'=>Fr fa H H') ⟨_,_,_,eD b3 1,eW (λm s H'=>s=(0,())/\Fr fa H H') 0 ⟨rfl,(f1.dF f2).dF f3⟩ ?_⟩ λ_ H' f=>O _ H' f
 rintro m _ H' ⟨rfl,f⟩
 exact eI XB f
end Go.Proofs.fv
