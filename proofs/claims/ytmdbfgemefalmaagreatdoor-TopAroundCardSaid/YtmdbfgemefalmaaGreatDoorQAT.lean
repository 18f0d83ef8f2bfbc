/- Part AT of the proof that the law TopAround answers true at every input, under no condition. -/
import Derived.Test.YtmdbfgemefalmaaGreatDoorQAS
set_option linter.unusedVariables false
set_option maxHeartbeats 2000000
set_option maxRecDepth 100000
namespace Go.Ex
def qI(m:List Bool)(k:Nat):Int:=2*(rk m k true:Int)-(k:Int)
theorem xw(m:List Bool):qI m 0=0:=by unfold qI rk;simp
theorem A7{m:List Bool}{k:Nat}(h:k<m.length):qI m (k+1)=qI m k+(if m[k]=true then 1 else-1):=by
 unfold qI
 rw[uD h]
 split<;>omega
theorem DO(m:List Bool)(k:Nat):qI m k<=m.length/\-(k:Int)<=qI m k:=by
 unfold qI
 have h:=EN m k true
 have u:rk m k true<=k:=by
  unfold rk
  exact Nat.le_trans List.count_le_length (by simp;omega)
 omega
def UA(m:List Bool):Prop:=(∀k,k<=m.length->0<=qI m k)/\qI m m.length=0
def RL(h i s:Nat):Nat:=(2^h+i/64)/2^(h-s)
theorem FR(h i:Nat):RL h i h=2^h+i/64:=by unfold RL;rw[Nat.sub_self,Nat.pow_zero,Nat.div_one]
theorem D4(h i:Nat){s:Nat}(u:s<h):RL h i s=RL h i (s+1)/2:=by
 unfold RL
 rw[Nat.div_div_eq_div_mul,<-Nat.pow_succ,show(h-(s+1)).succ=h-s by omega]
structure Tree(m:List Bool)(h:Nat)(T:List Int):Prop where
 len:T.length=2*2^h
 fit:m.length<=2^h*64
 law:∀s v,s<=h->2^s<=v->v<2*2^s->∀to':Int,to'<m.length->(T.getD v 0<=to'↔∃i,i<m.length/\RL h i s=v/\qI m (i+1)<=to')
theorem Ae{m:List Bool}{h:Nat}{T:List Int}(I:∀b,b<2^h->∀u:Int,u<m.length->(T.getD (2^h+b) 0<=u↔∃i,i<m.length/\i/64=b/\qI m (i+1)<=u))
 (w:∀v,1<=v->v<2^h->T.getD v 0=min (T.getD (2*v) 0) (T.getD (2*v+1) 0)):
 ∀d s,s+d=h->∀v,2^s<=v->v<2*2^s->∀u:Int,u<m.length->(T.getD v 0<=u↔∃i,i<m.length/\RL h i s=v/\qI m (i+1)<=u)
 |0,s,hd,v,h1,h2,u,ht=>by
  obtain rfl:s=h:=by omega
  have:=I (v-2^s) (by omega) u ht
  rw[show 2^s+(v-2^s)=v by omega] at this
  rw[this]
  constructor
  .rintro⟨i,a,b,c⟩
   exact⟨i,a,by rw[FR];omega,c⟩
  .rintro⟨i,a,b,c⟩
   rw[FR] at b
   exact⟨i,a,by omega,c⟩
 |d+1,s,hd,v,h1,h2,u,ht=>by
  have hp:2^(s+1)=2*2^s:=by rw[Nat.pow_succ,Nat.mul_comm]
  have Y:0<2^s:=Nat.pow_pos (by decide)
  have Z:2^(s+1)<=2^h:=Nat.pow_le_pow_right (by decide) (by omega)
  rw[w v (by omega) (by omega)]
  have N:=Ae I w d (s+1) (by omega) (2*v) (by omega) (by omega) u ht
  have O:=Ae I w d (s+1) (by omega) (2*v+1) (by omega) (by omega) u ht
  have e:min (T.getD (2*v) 0) (T.getD (2*v+1) 0)<=u↔(T.getD (2*v) 0<=u\/T.getD (2*v+1) 0<=u):=by omega
  rw[e,N,O]
  constructor
  .rintro(⟨i,a,b,c⟩|⟨i,a,b,c⟩)
   .exact⟨i,a,by rw[D4 h i (by omega),b];omega,c⟩
   .exact⟨i,a,by rw[D4 h i (by omega),b];omega,c⟩
  .rintro⟨i,a,b,c⟩
   rw[D4 h i (by omega)] at b
   rcases Nat.mod_two_eq_zero_or_one (RL h i (s+1)) with W|W
   .exact .inl ⟨i,a,by omega,c⟩
   .exact .inr ⟨i,a,by omega,c⟩
def XA(m:List Bool)(k:Int):Bool:=if 0<=k then(m[k.toNat]?).getD false else false
theorem SC{m:List Bool}{i:Nat}(hi:i<m.length):XA m (i:Int)=m[i]:=by
 unfold XA
 rw[if_pos (by omega),Int.toNat_natCast,List.getElem?_eq_getElem hi]
 rfl
end Go.Ex
namespace Go.Proofs.fv
open Go.Ex
structure QR(H:dw)(g:Nat)(m:List Bool)(h st:Nat)(T:List Int)(gb:Nat)(lp:dC)(lc:Nat)(Fb:Nat->Prop):Prop where
 fi:H[g]?=some (.cells #[.pointer (some ⟨gb,0,none⟩),.iface EF (.slice lp (2*2^h) lc),.int .i64 ((2^h:Nat):Int),.int .i64 (st:Int)] mC (0,0))
 sl:Sl H gP (T.map (Value.int .i64)) lp (2*2^h) lc
 bits:oU H gb m Fb
 tree:Tree m h T
 YY:UA m
 high:h<=16/\h<=ma m.length
 ng:¬Fb g
def uw(H:dw)(g:Nat)(m:List Bool)(h st:Nat)(F:Nat->Prop):Prop:=∃T I u N w,QR H g m h st T I u N w/\F g/\(∀k,eB u k->F k)/\(∀k,w k->F k)/\∀k,F k->k<Array.size H
theorem uw.eO{H H':dw}{g:Nat}{m:List Bool}{h st:Nat}{F G:Nat->Prop}(p:uw H g m h st F)(w:Fr G H H')(I:∀k,F k->¬G k):uw H' g m h st F:=by
 obtain⟨T,Y,Z,lc,Fb,a,N,O,W,h4⟩:=p
 exact⟨T,Y,Z,lc,Fb,⟨w.fi a.fi (I _ N),a.sl.eO w λk u=>I k (O k u),a.bits.eO w λk u=>I k (W k u),a.tree,a.YY,a.high,a.ng⟩,N,O,W,λk u=>Nat.lt_of_lt_of_le (h4 k u) w.size⟩
theorem uw.fC{H H':dw}{g:Nat}{m:List Bool}{h st:Nat}{F:Nat->Prop}(p:uw H g m h st F)(u:Fr fa H H'):uw H' g m h st F:=p.eO u λ_ _ h=>h
section
variable {H:dw} {g:Nat} {m:List Bool} {h st:Nat} {F:Nat->Prop}
theorem Rq{h:Nat}(u:h<=16):2^h<=65536:=Nat.pow_le_pow_right (n:=2) (by decide) u
theorem uw.cells(p:uw H g m h st F):(∃u w,dL H ((⟨g,0,none⟩:dA).add 0)=some (.pointer (some ⟨u,0,none⟩))/\oU H u m w)/\dL H ((⟨g,0,none⟩:dA).add 2)=some (.int .i64 ((2^h:Nat):Int))/\dL H ((⟨g,0,none⟩:dA).add 3)=some (.int .i64 (st:Int))/\fH H ((⟨g,0,none⟩:dA).add 3)=false:=by
 obtain⟨T,u,I,N,w,a,_⟩:=p
 exact⟨⟨u,w,(dO a.fi 0 0).trans rfl,a.bits⟩,(dO a.fi 0 2).trans rfl,(dO a.fi 0 3).trans rfl,fK a.fi 0 3⟩
theorem JT(p:uw H g m h st F){k:Int}{i:Nat}(w:k+1=(i:Int))(hi:i<=m.length){R:Int->dw->Prop}(I:∀H',Fr fa H H'->R (qI m i) H'):jk.C (some ⟨g,0,none⟩) k H R:=by
 obtain⟨⟨Z,Fb,N,b⟩,_⟩:=p.cells
 have O:=b.yr
 apply jk.calls
 unfold jk.W
 rw[w,wrap_i64 (n:=(i:Int)) (by omega) (by omega)]
 refine⟨_,rfl,_,N,?_⟩
 refine lS b _ true λY f1=>dN λx u=>?_
 rw[Int.toNat_natCast] at u
 have hr:=EN m i true
 have e:x=qI m i:=by
  rw[u,wrap_i64 (n:=2*(rk m i true:Int)) (by omega) (by omega),wrap_i64 (n:=2*(rk m i true:Int)-k) (by omega) (by omega),wrap_i64 (by omega) (by omega)]
  unfold qI
  omega
 rw[e]
 exact I Y f1
theorem CF(p:uw H g m h st F){R:Int->dw->Prop}(u:R (m.length:Int) H):iH.C (some ⟨g,0,none⟩) H R:=by
 obtain⟨⟨I,N,w,b⟩,_⟩:=p.cells
 apply iH.calls
 unfold iH.W
 exact dH rfl ⟨_,rfl,_,w,mo b u⟩
end
end Go.Proofs.fv
namespace Go.Ex
theorem ET(s:Nat):0<2^s:=Nat.pow_pos (by decide)
theorem Kg(s:Nat):2^(s+1)=2*2^s:=by rw[Nat.pow_succ,Nat.mul_comm]
def T4(m:List Bool)(n x:Int):Prop:=(∃(p:Nat)(h:p<m.length),m[p]=true/\(rk m p true:Int)=n/\x=(p:Int))\/((n<0\/(m.count true:Int)<=n)/\x=-1)
end Go.Ex
namespace Go.Proofs.fv
open Go.Ex
theorem TE{H:dw}(h:Gd H):gT<Array.size H:=by
 have:=ub (h 0 (by decide))
 rw[kO] at this
 exact this
def PB(H:dw)(g:Nat)(m:List Bool)(F:Nat->Prop):Prop:=∃h u,u<=2*h+3/\uw H g m h u F
structure PS(H0 H:dw)(g:Nat)(m:List Bool)(F:Nat->Prop):Prop where
 pb:PB H g m F
 fr:Fr (λk=>k=g) H0 H
 TF:Gd H0
 nd:gT≠g
section
variable {H0 H:dw} {g:Nat} {m:List Bool} {F:Nat->Prop}
theorem PS.fC{H':dw}(s:PS H0 H g m F)(f:Fr fa H H'):PS H0 H' g m F:=by
 obtain⟨h,u,a,p⟩:=s.pb
 exact⟨⟨h,u,a,p.fC f⟩,s.fr.trans f λ_ h=>h.elim,s.TF,s.nd⟩
theorem PS.XS(s:PS H0 H g m F):Gd H:=λi hi=>s.fr.cell (s.TF i hi) λh=>s.nd (by rw[kO] at h;exact h)
theorem PS.len(s:PS H0 H g m F){R:Int->dw->Prop}(u:R (m.length:Int) H):iH.C (some ⟨g,0,none⟩) H R:=by
 obtain⟨h,w,a,p⟩:=s.pb
 exact CF p u
theorem PS.Tz(s:PS H0 H g m F)(k:Int){R:Int->dw->Prop}(u:∀H',PS H0 H' g m F->R (if 0<=k/\k<(m.length:Int) then qI m (k+1).toNat else-1) H'):ig.C (some ⟨g,0,none⟩) k H R:=by
 obtain⟨h,Y,a,p⟩:=s.pb
 apply ig.calls
 unfold ig.W
 refine fg (fg ?_)
 refine eE (λw=>eN rfl ?_) (λw=>CF p (eE (λI=>?_) (λI=>?_)))
 .have:=u H s
  rwa[if_neg (by omega)] at this
 .have:=u H s
  rwa[if_neg (by omega)] at this
 .refine JT p (i:=(k+1).toNat) (by omega) (by omega) λN O=>?_
  have:=u N (s.fC O)
  rwa[if_pos (by omega)] at this
theorem PS.place(s:PS H0 H g m F)(n:Int){R:Int->dw->Prop}(u:∀x H',T4 m n x->PS H0 H' g m F->R x H'):iB.C (some ⟨g,0,none⟩) n H R:=by
 obtain⟨h,Z,a,p⟩:=s.pb
 obtain⟨⟨gb,Fb,w,b⟩,_⟩:=p.cells
 apply iB.calls
 unfold iB.W
 refine dH rfl ⟨_,rfl,_,w,sj b s.XS n true (λq I H' N O f=>u _ H' (.inl ⟨q,I,N,O,rfl⟩) (s.fC f)) (λH' Y f=>u _ H' (.inr ⟨Y,rfl⟩) (s.fC f))⟩
end
end Go.Proofs.fv
namespace Go.Ex
theorem C2{T:List Int}{i:Nat}(h:i<T.length)(x:Int):(T.set i x).getD i 0=x:=by simp[List.getD_eq_getElem?_getD,h]
theorem uA{T:List Int}{i j:Nat}(h:i≠j)(x:Int):(T.set i x).getD j 0=T.getD j 0:=by simp[List.getD_eq_getElem?_getD,List.getElem?_set_ne h]
end Go.Ex
namespace Go.Proofs.fv
open Go.Ex
theorem Ol{H:dw}{m:List Bool}{p:dC}{n c:Nat}(Y:Rd H (m.map Value.bool) p n)(hn:n<=4194304){R:Bool->dw->Prop}(hT:UA m->R true H)(hF:¬UA m->R false H):nK.C p n c H R:=by
 have hl:m.length=n:=by have:=Y.1;simpa using this
 apply nK.calls
 unfold nK.W
 refine fg ?_
 refine eW (λk(q:Int×Int×Unit) H'=>∃i:Nat,i<=n/\k=n-i/\q.1=qI m i/\q.2.1=(i:Int)/\H=H'/\∀j,j<=i->0<=qI m j) n ⟨0,Nat.zero_le _,rfl,(xw m).symm,rfl,rfl,λj hj=>(show j=0 by omega)▸(by rw[xw];omega)⟩ ?_
 rintro k ⟨x,y,_⟩ _ ⟨i,hi,rfl,hx,hy,rfl,I⟩
 simp only at hx hy
 subst hx hy
 dsimp only
 refine eE (λap=>?_) (λaq=>?_)
 .have ad:i<m.length:=by omega
  obtain⟨h2,a,ha,hc⟩:=Dh Y (i:=i) (by omega)
  have O:=DO m i
  have ar:=DO m (i+1)
  have hs:=A7 ad
  refine dD (λ(q:Int×Unit) H'=>H=H'/\q.1=qI m (i+1)/\0<=qI m (i+1)) ?_ ?_
  .refine⟨a,ha,by omega,by omega,_,by rw[Int.toNat_natCast];exact hc,?_⟩
   refine dD (λ(q:Int×Unit) H'=>H=H'/\q.1=qI m (i+1)) ?_ ?_
   .refine dN λn7 af=>?_
    rw[wrap_i64 (by omega) (by omega)] at af
    refine jI (λZ=>dN λn8 ag=>⟨rfl,?_⟩) (λah=>⟨rfl,?_⟩)
    .rw[if_pos Z] at hs
     rw[wrap_i64 (by omega) (by omega)] at ag
     show n8=_
     omega
    .rw[if_neg (by rw[ah];decide)] at hs
     show n7=_
     omega
   .rintro⟨q,_⟩ _ ⟨rfl,N⟩
    simp only at N
    subst N
    exact eE (λu=>hF λO=>by have:=O.1 (i+1) (by omega);omega) (λu=>⟨rfl,rfl,by omega⟩)
  .rintro⟨q,_⟩ _ ⟨rfl,N,u⟩
   simp only at N
   subst N
   refine⟨n-(i+1),by omega,i+1,by omega,rfl,rfl,by show IntKind.i64.wrap ((i:Int)+1)=_;rw[wrap_i64 (by omega) (by omega)];rfl,rfl,λj hj=>?_⟩
   rcases Nat.lt_or_ge j (i+1) with h|h
   .exact I j (by omega)
   .obtain rfl:j=i+1:=by omega
    exact u
 .obtain rfl:i=m.length:=by omega
  by_cases u:qI m m.length=0
  .rw[decide_eq_true u]
   exact hT ⟨I,u⟩
  .rw[decide_eq_false u]
   exact hF λO=>u O.2
structure qH(H0 H:dw)(g gb gt w:Nat)(m:List Bool)(T:List Int)(Fb:Nat->Prop):Prop where
 fi:H[g]?=some (.cells #[.pointer (some ⟨gb,0,none⟩),.nilIface,.int .i64 (w:Int),.int .i64 0] mC (0,0))
 sl:Sl H gP (T.map (Value.int .i64)) (some ⟨gt,0,none⟩) (2*w) (2*w)
 len:T.length=2*w
 bits:oU H gb m Fb
 fr:Fr fa H0 H
 low:Array.size H0<=g
 gt:g<gt
 fb:∀k,Fb k->k<g/\Array.size H0<=k
section
variable {H0 H:dw} {g gb gt w:Nat} {m:List Bool} {T:List Int} {Fb:Nat->Prop}
theorem qH.wide(n:qH H0 H g gb gt w m T Fb):dL H ((⟨g,0,none⟩:dA).add 2)=some (.int .i64 (w:Int)):=(dO n.fi 0 2).trans rfl
theorem qH.read(n:qH H0 H g gb gt w m T Fb){i:Nat}(hi:i<2*w):dL H ((⟨gt,0,none⟩:dA).add i)=some (.int .i64 (T.getD i 0)):=by
 have h:i<T.length:=by rw[n.len];exact hi
 obtain⟨a,u,I⟩:=n.sl.rd.get (i:=i) (v:=.int .i64 (T.getD i 0)) (by rw[List.getElem?_map,List.getD_eq_getElem?_getD,List.getElem?_eq_getElem h];rfl)
 cases u
 exact I
theorem qH.store(n:qH H0 H g gb gt w m T Fb){i:Nat}(hi:i<2*w)(x:Int):(∃u,dL H ((⟨gt,0,none⟩:dA).add i)=some u)/\fH H ((⟨gt,0,none⟩:dA).add i)=false/\∀H',H'=gO H ((⟨gt,0,none⟩:dA).add i) (.int .i64 x)->qH H0 H' g gb gt w m (T.set i x) Fb:=by
 obtain⟨a,N,Y,Z,hs,O⟩:=n.sl.store hi (.int .i64 x)
 cases N
 refine⟨Y,Z,λH' e=>?_⟩
 subst e
 have I:∀k,eB (some ⟨gt,0,none⟩) k->k=gt:=by rintro k ⟨a,N,rfl⟩;cases N;rfl
 have ab:=n.low
 have ac:=n.gt
 refine⟨O.fi n.fi λh=>by have:=I _ h;omega,?_,by rw[List.length_set];exact n.len,n.bits.eO O λk W h=>by have:=I _ h;have:=(n.fb k W).1;omega,n.fr.trans O λk W=>.inr (by have:=I _ W;omega),n.low,n.gt,n.fb⟩
 rw[List.map_set] at*
 exact hs
end
theorem AD{H:dw}(hd:Gd H){m:List Bool}{p:dC}{n c:Nat}(ag:Rd H (m.map Value.bool) p n)(hn:n<=4194304){R:dC->Int->dw->Prop}
 (aM:¬UA m->R none 1 H)(ao:UA m->∀g F H',PB H' g m F->(∀k,F k->Array.size H<=k/\k<Array.size H')->Array.size H<=g->Fr fa H H'->R (some ⟨g,0,none⟩) 0 H'):nJ.C p n c H R:=by
 have hl:m.length=n:=by have:=ag.1;simpa using this
 apply nJ.calls
 unfold nJ.W
 refine Ol ag hn (λO=>dH rfl ?_) (λO=>eN rfl (aM O))
 have ao:=ao O
 refine rF ag hn λgb H2 tb f2=>fg (fg (eI (by decide) (eI (by omega) (dN λH5 h5=>?_))))
 have f5:Fr fa H2 H5:=by rw[h5];exact Fr.new _ _ _
 have s5:Array.size H5=Array.size H2+1:=by rw[h5];exact gi
 have g5:=n0 h5
 clear h5
 have bO:=f2.size
 generalize bP:Array.size H2=g at*
 have aE:=tb.fC f5
 refine dD (λ_ H'=>∃t,t<=16/\t<=ma n/\n<=2^t*64/\H'[g]?=some (.cells #[.pointer (some ⟨gb,0,none⟩),.nilIface,.int .i64 ((2^t:Nat):Int),.int .i64 0] mC (0,0))/\oU H' gb m (λk=>Array.size H<=k/\k<g)/\Fr fa H H'/\g<Array.size H') ?_ ?_
 .refine eW (λk(q:Unit) H'=>∃t,k=17-t/\t<=16/\(t=0\/2^t*32<n)/\H'[g]?=some (.cells #[.pointer (some ⟨gb,0,none⟩),.nilIface,.int .i64 ((2^t:Nat):Int),.int .i64 0] mC (0,0))/\oU H' gb m (λk=>Array.size H<=k/\k<g)/\Fr fa H H'/\g<Array.size H') 17 ⟨0,rfl,by omega,.inl rfl,g5,aE,f2.dF f5,by omega⟩ ?_
  rintro k _ H7 ⟨t,rfl,ht,a7,ah,aF,f7,aG⟩
  have hp:=Rq ht
  have a9:=ET t
  have c2:dL H7 ((⟨g,0,none⟩:dA).add 2)=some (.int .i64 ((2^t:Nat):Int)):=(dO ah 0 2).trans rfl
  refine⟨_,rfl,_,c2,?_⟩
  rw[wrap_i64 (n:=((2^t:Nat):Int)*64) (by omega) (by omega)]
  have bQ:=Kg t
  refine eE (λaq=>⟨_,rfl,_,c2,_,rfl,⟨_,c2⟩,fK ah 0 2,dN λH8 h8=>?_⟩) (λar=>⟨t,ht,?_,by omega,ah,aF,f7,aG⟩)
  .rw[wrap_i64 (by omega) (by omega),show((2^t:Nat):Int)*2=((2^(t+1):Nat):Int) by omega] at h8
   have g8:=kI h8 ah
   have f8:=mw h8
   have bG:t<16:=by
    rcases Nat.lt_or_ge t 16 with h|h
    .exact h
    .obtain rfl:t=16:=by omega
     omega
   exact⟨17-(t+1),by omega,t+1,rfl,by omega,.inr (by omega),g8,aF.eO f8 λk N e=>by omega,f7.trans f8 λk N=>.inr (by omega),Nat.lt_of_lt_of_le aG f8.size⟩
  .rcases a7 with h|h
   .omega
   .rcases Nat.lt_or_ge (ma n) t with e|e
    .have h1:=nj.1 (Nat.le_refl (ma n))
     have h2:2^ma n<=2^t:=Nat.pow_le_pow_right (by decide) (by omega)
     omega
    .exact e
 clear tb aE g5 f5 s5
 rintro _ H6 ⟨t,ht,ba,bH,au,aH,f6,bc⟩
 have hp:=Rq ht
 have a9:=ET t
 have c2:dL H6 ((⟨g,0,none⟩:dA).add 2)=some (.int .i64 ((2^t:Nat):Int)):=(dO au 0 2).trans rfl
 refine⟨_,rfl,_,c2,?_⟩
 rw[wrap_i64 (n:=2*((2^t:Nat):Int)) (by omega) (by omega),show 2*((2^t:Nat):Int)=((2*2^t:Nat):Int) by omega]
 generalize hw:2^t=w at*
 refine⟨by omega,by omega,by omega,?_⟩
 rw[Int.toNat_natCast]
 refine dN λH9 h9=>?_
 have f9:Fr fa H6 H9:=by rw[h9];exact Fr.new _ _ _
 have aI:Sl H9 gP ((List.replicate (2*w) (0:Int)).map (Value.int .i64)) (some ⟨Array.size H6,0,none⟩) (2*w) (2*w):=by
  rw[h9,List.map_replicate]
  exact Sl.made H6 gP (z:=.int .i64 0) rfl (2*w)
 clear h9
 have n9:qH H H9 g gb (Array.size H6) w m (List.replicate (2*w) (0:Int)) (λk=>Array.size H<=k/\k<g):=
  ⟨f9.fi au λh=>h,aI,List.length_replicate,aH.fC f9,f6.dF f9,by omega,bc,λk N=>⟨N.2,N.1⟩⟩
 generalize Array.size H6=gt at*
 clear au aH f6 c2 f9 aI
 refine dD (λ_ H'=>∃T,qH H H' g gb gt w m T (λk=>Array.size H<=k/\k<g)/\∀b,b<w->T.getD (w+b) 0=(n:Int)) ?_ ?_
 .refine⟨_,rfl,_,n9.wide,?_⟩
  refine eW (λk(q:Int×Unit) H'=>∃(i:Nat)(T:List Int),i<=w/\k=w-i/\q.1=(i:Int)/\qH H H' g gb gt w m T (λk=>Array.size H<=k/\k<g)/\∀b,b<i->T.getD (w+b) 0=(n:Int)) w ⟨0,_,Nat.zero_le _,rfl,rfl,n9,λb O=>by omega⟩ ?_
  rintro k ⟨x,_⟩ bR ⟨i,T,hi,rfl,hx,ai,hT⟩
  simp only at hx
  subst hx
  dsimp only
  refine eE (λaq=>?_) (λar=>⟨T,ai,λb O=>hT b (by omega)⟩)
  refine⟨_,rfl,_,ai.wide,?_⟩
  rw[wrap_i64 (n:=(w:Int)+(i:Int)) (by omega) (by omega),show(w:Int)+(i:Int)=((w+i:Nat):Int) by omega,Int.toNat_natCast]
  obtain⟨a1,a2,a3⟩:=ai.store (i:=w+i) (by omega) (n:Int)
  refine⟨_,rfl,by omega,by omega,a1,a2,dN λbd be=>?_⟩
  refine⟨w-(i+1),by omega,i+1,_,by omega,rfl,by show IntKind.i64.wrap ((i:Int)+1)=_;rw[wrap_i64 (by omega) (by omega)];rfl,a3 bd be,λb O=>?_⟩
  rcases Nat.lt_or_ge b i with e|e
  .rw[uA (by omega)]
   exact hT b e
  .obtain rfl:b=i:=by omega
   exact C2 (by rw[ai.len];omega) _
 clear n9
 rintro _ bS ⟨bf,aJ,aw⟩
 refine dD (λ_ H'=>∃T,qH H H' g gb gt w m T (λk=>Array.size H<=k/\k<g)/\∀b,b<w->∀u:Int,u<m.length->(T.getD (w+b) 0<=u↔∃i,i<m.length/\i/64=b/\qI m (i+1)<=u)) ?_ ?_
 .refine eW (λk(q:Int×Int×Unit) H'=>∃(i:Nat)(T:List Int),i<=n/\k=n-i/\q.1=qI m i/\q.2.1=(i:Int)/\qH H H' g gb gt w m T (λk=>Array.size H<=k/\k<g)/\∀b,b<w->∀u:Int,u<m.length->(T.getD (w+b) 0<=u↔∃j,j<i/\j/64=b/\qI m (j+1)<=u)) n
   ⟨0,bf,Nat.zero_le _,rfl,(xw m).symm,rfl,aJ,λb O u Z=>by
     rw[aw b O]
     exact⟨λh=>by omega,λ⟨j,h,_⟩=>by omega⟩⟩ ?_
  rintro k ⟨x,y,_⟩ bg ⟨i,T,hi,rfl,hx,hy,aa,hT⟩
  simp only at hx hy
  subst hx hy
  dsimp only
  refine eE (λaq=>?_) (λar=>?_)
  .have bi:i<m.length:=by omega
   obtain⟨h2,a,ha,hc⟩:=Dh (ag.fC aa.fr) (i:=i) (by omega)
   have O:=DO m i
   have bT:=DO m (i+1)
   have hs:=A7 bi
   have bU:i/64<w:=by omega
   refine dD (λ(q:Int×Unit) H'=>q.1=qI m (i+1)/\∃T,qH H H' g gb gt w m T (λk=>Array.size H<=k/\k<g)/\∀b,b<w->∀u:Int,u<m.length->(T.getD (w+b) 0<=u↔∃j,j<i+1/\j/64=b/\qI m (j+1)<=u)) ?_ ?_
   .refine⟨a,ha,by omega,by omega,_,by rw[Int.toNat_natCast];exact hc,?_⟩
    refine dD (λ(q:Int×Unit) H'=>bg=H'/\q.1=qI m (i+1)) ?_ ?_
    .refine dN λn7 bj=>?_
     rw[wrap_i64 (by omega) (by omega)] at bj
     refine jI (λaX=>dN λn8 bk=>⟨rfl,?_⟩) (λbm=>⟨rfl,?_⟩)
     .rw[if_pos aX] at hs
      rw[wrap_i64 (by omega) (by omega)] at bk
      show n8=_
      omega
     .rw[if_neg (by rw[bm];decide)] at hs
      show n7=_
      omega
    .rintro⟨q,_⟩ _ ⟨rfl,hq⟩
     simp only at hq
     subst hq
     dsimp only
     refine⟨_,rfl,_,aa.wide,by decide,dN λbM aK=>?_⟩
     rw[show Int.tdiv (i:Int) 64=((i/64:Nat):Int) from rfl,wrap_i64 (n:=((i/64:Nat):Int)) (by omega) (by omega),wrap_i64 (by omega) (by omega),show(w:Int)+((i/64:Nat):Int)=((w+i/64:Nat):Int) by omega] at aK
     subst aK
     rw[Int.toNat_natCast]
     obtain⟨a1,a2,a3⟩:=aa.store (i:=w+i/64) (by omega) (min (T.getD (w+i/64) 0) (qI m (i+1)))
     refine⟨_,rfl,by omega,by omega,_,aa.read (by omega),_,rfl,by omega,by omega,a1,a2,dN λbn bo=>⟨rfl,_,a3 bn bo,λb O u Z=>?_⟩⟩
     rcases Classical.em (b=i/64) with e|e
     .subst e
      rw[C2 (by rw[aa.len];omega)]
      have h1:=hT (i/64) O u Z
      constructor
      .intro hm
       rcases Classical.em (T.getD (w+i/64) 0<=u) with h|h
       .obtain⟨j,a,b,c⟩:=h1.1 h
        exact⟨j,by omega,b,c⟩
       .exact⟨i,by omega,rfl,by omega⟩
      .rintro⟨j,a,b,c⟩
       rcases Nat.lt_or_ge j i with h|h
       .have:=h1.2 ⟨j,h,b,c⟩
        omega
       .obtain rfl:j=i:=by omega
        omega
     .rw[uA (by omega),hT b O u Z]
      constructor
      .rintro⟨j,a,b,c⟩
       exact⟨j,by omega,b,c⟩
      .rintro⟨j,a,b,c⟩
       rcases Nat.lt_or_ge j i with h|h
       .exact⟨j,h,b,c⟩
       .obtain rfl:j=i:=by omega
        omega
   .rintro⟨q,_⟩ bV ⟨hq,T',bp,bq⟩
    simp only at hq
    subst hq
    exact⟨n-(i+1),by omega,i+1,T',by omega,rfl,rfl,by show IntKind.i64.wrap ((i:Int)+1)=_;rw[wrap_i64 (by omega) (by omega)];rfl,bp,bq⟩
  .obtain rfl:i=m.length:=by omega
   exact⟨T,aa,hT⟩
 clear aJ aw
 rintro _ bW ⟨br,ay,az⟩
 refine dD (λ_ H'=>∃T,qH H H' g gb gt w m T (λk=>Array.size H<=k/\k<g)/\(∀b,b<w->∀u:Int,u<m.length->(T.getD (w+b) 0<=u↔∃i,i<m.length/\i/64=b/\qI m (i+1)<=u))/\∀v,1<=v->v<w->T.getD v 0=min (T.getD (2*v) 0) (T.getD (2*v+1) 0)) ?_ ?_
 .refine⟨_,rfl,_,ay.wide,dN λbu aY=>?_⟩
  rw[wrap_i64 (by omega) (by omega)] at aY
  refine eW (λY(q:Int×Unit) H'=>∃(k:Nat)(T:List Int),k<w/\Y=k/\q.1=(k:Int)/\qH H H' g gb gt w m T (λk=>Array.size H<=k/\k<g)/\(∀b,b<w->∀u:Int,u<m.length->(T.getD (w+b) 0<=u↔∃i,i<m.length/\i/64=b/\qI m (i+1)<=u))/\∀v,k<v->v<w->T.getD v 0=min (T.getD (2*v) 0) (T.getD (2*v+1) 0)) (w-1)
   ⟨w-1,br,by omega,rfl,by show bu=_;omega,ay,az,λv h1 h2=>by omega⟩ ?_
  rintro Y ⟨x,_⟩ bX ⟨k,T,N,rfl,hx,af,hT,aj⟩
  simp only at hx
  subst hx
  dsimp only
  refine eE (λaq=>?_) (λar=>⟨T,af,hT,λv h1 h2=>aj v (by omega) h2⟩)
  rw[wrap_i64 (n:=2*(Y:Int)) (by omega) (by omega),wrap_i64 (n:=2*(Y:Int)+1) (by omega) (by omega),show 2*(Y:Int)+1=((2*Y+1:Nat):Int) by omega,show 2*(Y:Int)=((2*Y:Nat):Int) by omega,Int.toNat_natCast,Int.toNat_natCast,Int.toNat_natCast]
  obtain⟨a1,a2,a3⟩:=af.store (i:=Y) (by omega) (min (T.getD (2*Y) 0) (T.getD (2*Y+1) 0))
  refine⟨_,rfl,by omega,by omega,_,af.read (by omega),_,rfl,by omega,by omega,_,af.read (by omega),_,rfl,by omega,by omega,a1,a2,dN λbv bw=>dN λbx aZ=>?_⟩
  rw[wrap_i64 (by omega) (by omega)] at aZ
  refine⟨Y-1,by omega,Y-1,_,by omega,rfl,by show bx=_;omega,a3 bv bw,λb O u Z=>?_,λv h1 h2=>?_⟩
  .rw[uA (by omega)]
   exact hT b O u Z
  .rw[uA (j:=2*v) (by omega),uA (j:=2*v+1) (by omega)]
   rcases Classical.em (v=Y) with e|e
   .subst e
    rw[C2 (by rw[af.len];omega)]
   .rw[uA (by omega)]
    exact aj v (by omega) h2
 clear ay az
 rintro _ bY ⟨T,I,aD,aj⟩
 refine⟨_,rfl,⟨_,(dO I.fi 0 1).trans rfl⟩,fK I.fi 0 1,dN λaL aA=>?_⟩
 have bz:=kI aA I.fi
 have ak:=mw aA
 clear aA
 have bA:=I.sl.gE (k:=gt) ⟨_,rfl,rfl⟩
 have bZ:=I.gt
 have b0:=ak.size
 subst hw
 refine ao g (λk=>Array.size H<=k/\k<Array.size aL) aL ⟨t,0,by omega,T,gb,_,_,_,⟨bz,I.sl.eO ak λk N e=>I.sl.ne I.fi (by decide) (e▸N),I.bits.eO ak λk N e=>by have:=N.2;omega,⟨I.len,by omega,λs v hs h1 h2 u Z=>Ae aD aj (t-s) s (by omega) v h1 h2 u Z⟩,O,⟨ht,by rw[hl];exact ba⟩,λh=>by omega⟩,⟨I.low,by omega⟩,?_,λk N=>⟨N.1,by omega⟩,λk N=>N.2⟩ (λk N=>N) I.low (I.fr.trans ak λk N=>.inr (by have:=I.low;omega))
 rintro k ⟨a,ha,rfl⟩
 cases ha
 have:=I.low
 exact⟨by show Array.size H<=gt;omega,by show gt<_;omega⟩
end Go.Proofs.fv
namespace Go.Ex
def oW:Nat->List Nat->List Bool
 |o,[]=>List.replicate o false
 |o,d::D=>List.replicate (o-d) false++true::oW (d+1) D
def T5:Nat->List Nat->Prop
 |_,[]=>True
 |o,d::D=>1<=d/\d<=o/\T5 (d+1) D
theorem Pj{o d:Nat}(h:d<o)(D:List Nat):oW o (d::D)=false::oW (o-1) (d::D):=by
 unfold oW
 rw[show o-d=(o-1-d)+1 by omega,List.replicate_succ]
 rfl
theorem Iv(d:Nat)(D:List Nat):oW d (d::D)=true::oW (d+1) D:=by
 rw[show oW d (d::D)=List.replicate (d-d) false++true::oW (d+1) D from rfl,Nat.sub_self]
 rfl
theorem Pk(o:Nat):oW (o+1) []=false::oW o []:=by
 rw[show oW (o+1) []=List.replicate (o+1) false from rfl,List.replicate_succ];rfl
def Pos(m:List Bool)(e:Nat):Prop:=(∀k,0<k->k<=m.length->1<=qI m k)/\qI m m.length=(e:Int)
theorem rV(m x:List Bool){k:Nat}(h:k<=m.length):qI (m++x) k=qI m k:=by
 unfold qI rk
 rw[List.take_append_of_le_length h]
theorem A8(m:List Bool)(b:Bool):qI (m++[b]) (m.length+1)=qI m m.length+(if b=true then 1 else-1):=by
 rw[A7 (by simp),rV m [b] (Nat.le_refl _)]
 simp
theorem Pos.up{m:List Bool}{e:Nat}(h:Pos m e):Pos (m++[true]) (e+1):=by
 have u:=A8 m true
 rw[h.2] at u
 have w:qI (m++[true]) (m.length+1)=((e+1:Nat):Int):=by rw[u];simp
 refine⟨λk O I=>?_,by rw[List.length_append];exact w⟩
 rw[List.length_append] at I
 simp only[List.length_singleton] at I
 rcases Nat.lt_or_ge k (m.length+1) with N|N
 .rw[rV _ _ (by omega)];exact h.1 k O (by omega)
 .rw[show k=m.length+1 by omega,w];omega
theorem Pos.dn{m:List Bool}{e:Nat}(h:Pos m (e+1))(u:1<=e):Pos (m++[false]) e:=by
 have w:=A8 m false
 rw[h.2] at w
 have I:qI (m++[false]) (m.length+1)=(e:Int):=by rw[w];simp;omega
 refine⟨λk u N=>?_,by rw[List.length_append];exact I⟩
 rw[List.length_append] at N
 simp only[List.length_singleton] at N
 rcases Nat.lt_or_ge k (m.length+1) with O|O
 .rw[rV _ _ (by omega)];exact h.1 k u (by omega)
 .rw[show k=m.length+1 by omega,I];omega
theorem Pos.XQ:∀(n:Nat){m:List Bool}{e:Nat},Pos m (e+n)->1<=e->Pos (m++List.replicate n false) e
 |0,m,e,h,_=>by simpa using h
 |n+1,m,e,h,h0=>by
  have u:=Pos.dn (m:=m) (e:=e+n) (by rw[show e+n+1=e+(n+1) by omega];exact h) (by omega)
  have:=Pos.XQ n u h0
  rw[List.append_assoc] at this
  rw[List.replicate_succ]
  exact this
structure YD(m:List Bool)(c:Nat)(D:List Nat):Prop where
 pos:Pos m 1
 XW:m.count true=c+D.length
 at_:∀k(hk:k<D.length),∃(p:Nat)(hp:p<m.length),m[p]=true/\rk m p true=c+k/\qI m (p+1)=(D[k]:Int)+1
theorem Iu:∀(D:List Nat)(o:Nat)(pre:List Bool),1<=o->Pos pre o->T5 o D->∃m,pre++oW o D=m++[false]/\YD m (pre.count true) D
 |[],o,pre,ho,u,_=>by
  refine⟨pre++List.replicate (o-1) false,?_,Pos.XQ (o-1) (by rw[show 1+(o-1)=o by omega];exact u) (Nat.le_refl _),?_,λk N=>absurd N (Nat.not_lt_zero k)⟩
  .rw[List.append_assoc,<-List.replicate_succ',show o-1+1=o by omega];rfl
  .simp[List.count_replicate]
 |d::D,o,pre,ho,u,XJ=>by
  obtain⟨h1,h2,h3⟩:=XJ
  have Y:Pos (pre++List.replicate (o-d) false) d:=Pos.XQ (o-d) (by rw[show d+(o-d)=o by omega];exact u) h1
  have I:=Y.up
  obtain⟨m,O,W⟩:=Iu D (d+1) _ (by omega) I h3
  have Z:(pre++List.replicate (o-d) false++[true]).count true=pre.count true+1:=by simp[List.count_append,List.count_replicate]
  have e0:pre++oW o (d::D)=m++[false]:=by
   rw[<-O]
   show pre++(List.replicate (o-d) false++true::oW (d+1) D)=_
   simp
  have aa:(pre++List.replicate (o-d) false).length+1<=m.length:=by
   have h:=congrArg List.length O
   simp only[List.length_append,List.length_singleton] at h⊢
   have:1<=(oW (d+1) D).length:=by
    cases D with
    |nil=>simp[oW]
    |cons e D=>simp[oW];omega
   omega
  have w:m=pre++List.replicate (o-d) false++[true]++m.drop ((pre++List.replicate (o-d) false).length+1):=by
   have ht:m.take ((pre++List.replicate (o-d) false).length+1)=pre++List.replicate (o-d) false++[true]:=by
    have h:=congrArg (List.take ((pre++List.replicate (o-d) false).length+1)) O
    rw[List.take_append_of_le_length (by simp;omega),List.take_of_length_le (by simp;omega),List.take_append_of_le_length aa] at h
    exact h.symm
   rw[<-ht,List.take_append_drop]
  refine⟨m,e0,W.pos,by rw[W.XW,Z,List.length_cons];omega,λk N=>?_⟩
  rcases k with _|k
  .refine⟨(pre++List.replicate (o-d) false).length,by omega,?_,?_,?_⟩
   .rw[List.getElem_of_eq w,List.getElem_append_left (by simp),List.getElem_append_right (by omega)]
    simp
   .unfold rk
    rw[w,List.append_assoc,List.take_left]
    simp[List.count_append,List.count_replicate]
   .rw[w,rV _ _ (by simp;omega),show(pre++List.replicate (o-d) false).length+1=(pre++List.replicate (o-d) false++[true]).length by simp;omega,I.2]
    simp
  .obtain⟨p,u,q1,q2,q3⟩:=W.at_ k (by simpa using N)
   exact⟨p,u,q1,by rw[q2,Z];omega,q3⟩
theorem Ak{D:List Nat}(h:T5 1 D):∃m,oW 0 (0::D)=m++[false]/\YD m 0 (0::D):=by
 have w:Pos [true] 1:=⟨λk h0 I=>by
  obtain rfl:k=1:=by simp at I;omega
  decide,by decide⟩
 obtain⟨m,u,N⟩:=Iu D 1 [true] (by omega) w h
 have W:1<=m.length:=by
  have h:=congrArg List.length u
  simp only[List.length_append,List.length_singleton] at h
  have:1<=(oW 1 D).length:=by
   cases D with
   |nil=>simp[oW]
   |cons e D=>simp[oW];omega
  omega
 have O:∃r,m=true::r:=by
  cases m with
  |nil=>simp at W
  |cons b r=>simp at u;exact⟨r,by rw[u.1]⟩
 obtain⟨r,rfl⟩:=O
 refine⟨true::r,by rw[Iv];exact u,N.pos,by rw[N.XW];simp;omega,λk I=>?_⟩
 rcases k with _|k
 .exact⟨0,by simp,rfl,rfl,by simp[qI,rk]⟩
 .obtain⟨p,w,Y,Z,q3⟩:=N.at_ k (by simpa using I)
  exact⟨p,w,Y,by rw[Z];simp;omega,q3⟩
def pJ(t:List Nd):List Nat:=t.map λn=>n.d.toNat
def WC:Nat->List Nat->Prop
 |_,[]=>True
 |o,d::D=>d<=o/\WC (d+1) D
theorem T5.e:∀{D:List Nat}{o:Nat},T5 o D->WC o D
 |[],_,_=>trivial
 |_::_,_,h=>⟨h.2.1,h.2.2.e⟩
theorem zr:∀(D:List Nat)(o:Nat),WC o D->(oW o D).length=o+2*D.length
 |[],o,_=>by simp[oW]
 |d::D,o,h=>by
  have:=zr D (d+1) h.2
  have u:=h.1
  show(List.replicate (o-d) false++true::oW (d+1) D).length=_
  simp[this]
  omega
theorem Wk.YO{Ls:List (List At)}{p:Nd}{L:List Nd}(h:Wk Ls p L)(W:0<=p.d):T5 (p.d.toNat+1) (pJ L):=by
 induction h with
 |nil=>trivial
 |@lf Ls p k l v d r w I N Y O u=>exact⟨by show 1<=((d:Nat):Int).toNat;omega,by show((d:Nat):Int).toNat<=_;omega,u (by show(0:Int)<=(d:Int);omega)⟩
 |@el Ls p nm al d r w I Z N ha hn O u=>exact⟨by show 1<=((d:Nat):Int).toNat;omega,by show((d:Nat):Int).toNat<=_;omega,u (by show(0:Int)<=(d:Int);omega)⟩
structure sf(T:List Nd):Prop where
 c:∃LL,T=kL::LL/\Eb LL
theorem sf.len{T:List Nd}(h:sf T):1<=T.length/\T.length<=32:=by
 obtain⟨w,rfl,u⟩:=h.c
 have:=u.n
 rw[List.length_cons];omega
theorem sf.pJ{T:List Nd}(h:sf T):∃D,pJ T=0::D/\T5 1 D:=by
 obtain⟨u,rfl,I⟩:=h.c
 exact⟨Go.Ex.pJ u,rfl,I.w.YO (by decide)⟩
theorem Is{u:List Nd}(N:Wk [] kL u):∀i,i<=u.length+1->∃Ls,HG u Ls i
 |0,_=>⟨[],.inl ⟨rfl,rfl⟩⟩
 |i+1,hi=>by
  obtain⟨Ls,h⟩:=Is N i (by omega)
  have I:(kL::u)[i]?=some (kL::u)[i]:=List.getElem?_eq_getElem (by rw[List.length_cons];omega)
  obtain⟨O,-⟩:=tQ N h I
  cases O with
  |doc hi I Z w=>subst hi;exact⟨_,w⟩
  |lf I W Y w=>exact⟨_,w⟩
  |el I Y W ha ho w=>exact⟨_,w⟩
theorem sf.d0{T:List Nd}(h:sf T){i:Nat}{n:Nd}(u:T[i]?=some n):0<=n.d/\n.d<=201:=by
 obtain⟨Y,rfl,I⟩:=h.c
 obtain⟨Ls,N⟩:=Is I.w i (by have:=(List.getElem?_eq_some_iff.1 u).1;rw[List.length_cons] at this;omega)
 rcases Nat.eq_zero_or_pos i with rfl|O
 .cases u;decide
 .obtain⟨a,_,W⟩:=(tQ I.w N u).2 O
  have:=W.lo;omega
end Go.Ex
namespace Go.Proofs.fv
open Go.Ex
theorem GJ{H:dw}{tn:List TN}{p:dC}{l c:Nat}(h:D5 H p l c tn){t:List Nd}(et:tn.map TN.n=t)(ht:sf t){R:dC->Nat->Nat->dw->Prop}
 (hR:∀p l c H',Sl H' iz ((oW 0 (pJ t)).map Value.bool) p l c->Fr fa H H'->R p l c H'):lX.C p l c H R:=by
 apply lX.calls
 unfold lX.W
 obtain⟨D,hD,aE⟩:=ht.pJ
 have aR:=ht.len
 have hl:t.length=l:=by rw[<-et,List.length_map];exact h.len
 have ag:WC 0 (pJ t):=by rw[hD];exact⟨Nat.le_refl _,aE.e⟩
 have a5:(oW 0 (pJ t)).length=2*t.length:=by rw[zr _ _ ag];simp[pJ]
 have nil:∀i,¬eB none i:=λi⟨_,h,_⟩=>by cases h
 generalize hm:oW 0 (pJ t)=m at*
 have ad:∀{H':dw}{a r:List Bool}{b:Bool}{p:dC}{l c:Nat}{K:dC->Nat->Nat->dw->Prop},Sl H' iz (a.map Value.bool) p l c->a++b::r=m->(∀k,eB p k->Array.size H<=k)->Fr fa H H'->
  (∀O c' aa,Sl aa iz ((a++[b]).map Value.bool) O (l+1) c'->(∀k,eB O k->Array.size H<=k)->Fr (λk=>Array.size H<=k) H' aa->(∀k,eB O k->eB p k\/Array.size H'<=k)->Fr (eB p) H' aa->K O (l+1) c' aa)->
  eG (eP H' #[.bool b] iz) λH1:dw=>ji iz 1 1 (.bool false) p l c (.slice (some ⟨Array.size H',0,none⟩) 1 1) H1 K:=λ{H' a r b p l c K} s e N f w=>by
  have a6:a.length=l:=by have:=s.1;simpa using this
  have aT:a.length+1<=m.length:=by rw[<-e];simp
  refine Bk s rfl ⟨by simp,by simp⟩ (by omega) (by decide) λO c' aa s' f' au=>w O c' aa (by rw[List.map_append];exact s') (λk w=>(au k w).elim (N k) λhh=>by have:=f.size;omega) (f'.mono N) au f'
 refine dD (λs H'=>∃(a:List Bool)(o:Nat)(p:dC)(l c:Nat),s=((p,l,c),(o:Int),())/\Sl H' iz (a.map Value.bool) p l c/\a++oW o []=m/\(∀k,eB p k->Array.size H<=k)/\Fr fa H H') ?_ ?_
 .refine eW (λn s H'=>∃(i:Nat)(a:List Bool)(o:Nat)(p:dC)(l c:Nat),i<=t.length/\n=t.length-i/\s=((p,l,c),(o:Int),(i:Int),())/\Sl H' iz (a.map Value.bool) p l c/\a++oW o ((pJ t).drop i)=m/\WC o ((pJ t).drop i)/\o<=202/\(∀k,eB p k->Array.size H<=k)/\Fr fa H H') t.length
   ⟨0,[],0,none,0,0,by omega,rfl,rfl,Sl.nil _ _,by rw[List.drop_zero];exact hm,by rw[List.drop_zero];exact ag,by omega,λk w=>absurd w (nil k),Fr.refl _ _⟩ ?_
  rintro n _ H2 ⟨i,a,o,q,ql,qc,hi,rfl,rfl,s2,e2,k2,ho,hq,f2⟩
  refine eE (λu=>?_) λI=>?_
  .have u:i<t.length:=by have u:(i:Int)<(l:Int):=u;omega
   obtain⟨n,hn⟩:∃n,t[i]?=some n:=⟨_,List.getElem?_eq_getElem u⟩
   obtain⟨y,hy,ey⟩:∃y,tn[i]?=some y/\y.n=n:=by
    rw[<-et,List.getElem?_map] at hn
    cases hq:tn[i]? with
    |none=>rw[hq] at hn;cases hn
    |some y=>rw[hq] at hn;cases hn;exact⟨y,rfl,rfl⟩
   have a7:=ht.d0 hn
   have af:(pJ t).drop i=n.d.toNat::(pJ t).drop (i+1):=by
    have aJ:i<(pJ t).length:=by simp[pJ];exact u
    rw[List.drop_eq_getElem_cons aJ]
    have:t[i]=n:=by rw[List.getElem?_eq_getElem u] at hn;exact Option.some.inj hn
    simp[pJ,this]
   refine dD (λs H'=>∃(a:List Bool)(p:dC)(l c:Nat),s=((p,l,c),((n.d.toNat+1:Nat):Int),())/\Sl H' iz (a.map Value.bool) p l c/\a++oW (n.d.toNat+1) ((pJ t).drop (i+1))=m/\(∀k,eB p k->Array.size H<=k)/\Fr fa H H') ?_ ?_
   .refine(h.fC f2).ld hy (oa y λH5 b5 av=>?_)
    rw[ey] at b5
    have z2:=f2.size
    have l5:Array.size H2<Array.size H5:=eR b5
    rw[af] at e2 k2
    refine dD (λs H'=>∃(a:List Bool)(p:dC)(l c:Nat),s=((p,l,c),(n.d.toNat:Int),())/\Sl H' iz (a.map Value.bool) p l c/\a++oW n.d.toNat (n.d.toNat::(pJ t).drop (i+1))=m/\(∀k,eB p k->Array.size H<=k)/\Fr fa H H') ?_ ?_
    .refine eW (λn' s H'=>∃(a:List Bool)(o:Nat)(p:dC)(l c:Nat),n'=o-n.d.toNat/\n.d.toNat<=o/\o<=202/\s=((p,l,c),(o:Int),())/\Sl H' iz (a.map Value.bool) p l c/\a++oW o (n.d.toNat::(pJ t).drop (i+1))=m/\(∀k,eB p k->Array.size H<=k/\k≠Array.size H2)/\Fr fa H H'/\js H' (Array.size H2) n y.q y.c) _
      ⟨a,o,q,ql,qc,rfl,k2.1,ho,rfl,s2.eO av λ_ _ h=>h,e2,λk w=>⟨hq k w,λe=>by have:=s2.gE w;omega⟩,f2.dF av,b5⟩ ?_
     rintro _ _ H7 ⟨a,o,p,l,c,rfl,a8,ho,rfl,s7,Z,N,f7,b7⟩
     refine⟨_,b7.cell 1,eE (λu=>?_) λI=>⟨a,p,l,c,?_,s7,?_,λk w=>(N k w).1,f7⟩⟩
     .have u:n.d<(o:Int):=u
      have u:n.d.toNat<o:=by omega
      rw[Pj u] at Z
      refine ad s7 Z (λk w=>(N k w).1) f7 λO c' H9 s9 ac f9 ao aL=>dN λr Y=>⟨o-1-n.d.toNat,by omega,a++[false],o-1,O,l+1,c',rfl,by omega,by omega,?_,s9,by rw[List.append_assoc];exact Z,λk w=>⟨ac k w,λe=>?_⟩,f7.fresh f9 λk w=>w,aL.fi b7 λhh=>(N _ hh).2 rfl⟩
      .have Y:r=IntKind.i64.wrap ((o:Int)-1):=Y
       rw[Y,mR (by omega) (by omega),show(o:Int)-1=((o-1:Nat):Int) by omega]
      .have:=eR b7
       rcases ao k w with hh|hh
       .exact(N k hh).2 e
       .omega
     .have I:¬n.d<(o:Int):=I
      rw[show o=n.d.toNat by omega]
     .have I:¬n.d<(o:Int):=I
      rw[show o=n.d.toNat by omega] at Z
      exact Z
    .rintro _ H6 ⟨a,p,l,c,rfl,s6,e6,N,f6⟩
     rw[Iv] at e6
     refine ad s6 e6 N f6 λO c' H9 s9 ac f9 ao _=>dN λr Y=>⟨a++[true],O,l+1,c',?_,s9,by rw[List.append_assoc];exact e6,ac,f6.fresh f9 λk w=>w⟩
     have Y:r=IntKind.i64.wrap ((n.d.toNat:Int)+1):=Y
     rw[Y,mR (by omega) (by omega),show(n.d.toNat:Int)+1=((n.d.toNat+1:Nat):Int) by omega]
   .rintro _ H3 ⟨a,p,l,c,rfl,s3,e3,N,f3⟩
    have:IntKind.i64.wrap ((i:Int)+1)=((i+1:Nat):Int):=by rw[mR (by omega) (by omega)];omega
    rw[af] at k2
    exact⟨t.length-(i+1),by omega,i+1,a,n.d.toNat+1,p,l,c,by omega,rfl,by rw[<-this],s3,e3,k2.2,by omega,N,f3⟩
  .have I:i=t.length:=by have I:¬(i:Int)<(l:Int):=I;omega
   refine⟨a,o,q,ql,qc,rfl,s2,?_,hq,f2⟩
   rw[List.drop_eq_nil_of_le (by simp[pJ];omega)] at e2
   exact e2
 .rintro _ H1 ⟨a,o,p,l,c,rfl,s1,e1,N,f1⟩
  refine dD (λs H'=>∃(p:dC)(l c:Nat),s=((p,l,c),())/\Sl H' iz (m.map Value.bool) p l c/\Fr fa H H') ?_ ?_
  .refine eW (λn' s H'=>∃(a:List Bool)(p:dC)(l c:Nat),s=((p,l,c),(n':Int),())/\Sl H' iz (a.map Value.bool) p l c/\a++oW n' []=m/\n'<=4194304/\(∀k,eB p k->Array.size H<=k)/\Fr fa H H') o
    ⟨a,p,l,c,rfl,s1,e1,?_,N,f1⟩ ?_
   .have:=congrArg List.length e1
    simp[oW] at this
    omega
   rintro o _ H7 ⟨a,p,l,c,rfl,s7,Z,ho,N,f7⟩
   refine eE (λu=>?_) λI=>⟨p,l,c,rfl,?_,f7⟩
   .have u:(0:Int)<(o:Int):=u
    obtain⟨o,rfl⟩:∃o',o=o'+1:=⟨o-1,by omega⟩
    rw[Pk] at Z
    refine ad s7 Z N f7 λO c' H9 s9 ac f9 ao _=>dN λr Y=>⟨o,by omega,a++[false],O,l+1,c',?_,s9,by rw[List.append_assoc];exact Z,by omega,ac,f7.fresh f9 λk w=>w⟩
    have Y:r=IntKind.i64.wrap (((o+1:Nat):Int)-1):=Y
    rw[Y,mR (by omega) (by omega),show((o+1:Nat):Int)-1=(o:Int) by omega]
   .have I:¬(0:Int)<(o:Int):=I
    obtain rfl:o=0:=by omega
    have:a=m:=by simpa[oW] using Z
    rw[<-this];exact s7
  .rintro _ H' ⟨p,l,c,rfl,s,f⟩
   exact hR p l c H' s f
end Go.Proofs.fv
namespace Go.Ex
abbrev qL:=Int×By×By×By
def y5(n:Nd):qL:=(n.k,n.p,n.l,n.u)
def VF(k:qL):TN:=⟨⟨k.1,0,k.2.1,k.2.2.1,k.2.2.2,[],[]⟩,none,0⟩
theorem VN{H I:dw}{h bytes t1:Nat}{z v:dB}{xs:List dB}{p:dC}{l c:Nat}{K:dC->Nat->Nat->dw->Prop}(O:Sl H h xs p l c)(W:I=eP H #[v] t1)(Y:gH z=[z])(u:One v)(Z:(l+1)*bytes<=140737488355328)(N:bytes≠0)
 (hK:∀w c' H',Sl H' h (xs++[v]) w (l+1) c'->Fr (eB p) H H'->(∀k,eB w k->eB p k\/Array.size H<=k)->K w (l+1) c' H'):
 ji h 1 bytes z p l c (.slice (some ⟨Array.size H,0,none⟩) 1 1) I K:=by
 subst W
 exact Bk (t1:=t1) O Y u Z N hK
theorem jK.ty{s:Nat}{H:dw}{t:eK}{xs:List dB}{p:dC}{l c:Nat}(h:jK s H t xs p l c){k:Nat}(I:eB p k):∃cs,H[k]?=some (.cells cs t (0,0)):=by
 obtain⟨a,u,rfl⟩:=I
 rcases h.2 with⟨w,_⟩|⟨b,cs,w,N,_⟩
 .rw[w] at u;cases u
 .rw[w] at u;cases u;exact⟨cs,N⟩
theorem tf{H:dw}{k:Nat}{cs w:Array dB}{t u:eK}{f N:Nat×Nat}(h:H[k]?=some (.cells cs t f))(h':H[k]?=some (.cells w u N))(I:t≠u):False:=by
 rw[h] at h';cases h';exact I rfl
theorem yb{H:dw}{k:Nat}{cs:Array dB}{t:eK}{f:Nat×Nat}{es:Array MapEntry}{u:Nat}(h:H[k]?=some (.cells cs t f))(h':H[k]?=some (.map es u)):False:=by
 rw[h] at h';cases h'
theorem Wk.gh{Ls:List (List At)}{p:Nd}{L:List Nd}(h:Wk Ls p L):∀n∈L,n.gh.length<=6/\∀a∈n.gh,Uv a:=by
 induction h with
 |nil=>intro n u;cases u
 |lf N O W ht Y I=>
  intro n u
  rcases List.mem_cons.1 u with rfl|u
  .exact⟨Nat.zero_le _,λa w=>by cases w⟩
  .exact I n u
 |@el Ls p nm al d r N O hd W w u Y I=>
  intro n u
  rcases List.mem_cons.1 u with rfl|u
  .refine⟨?_,λa h=>?_⟩
   .show(List.map _ _).length<=6
    rw[List.length_map,List.length_map];exact w.n.2.2
   .obtain⟨b,Z,rfl⟩:=List.mem_map.1 h
    exact TU _ (Cz w.m b Z).2
  .exact I n u
theorem sf.gh{T:List Nd}(h:sf T):∀n∈T,n.gh.length<=6/\∀a∈n.gh,Uv a:=by
 obtain⟨O,rfl,I⟩:=h.c
 intro n u
 rcases List.mem_cons.1 u with rfl|u
 .exact⟨Nat.zero_le _,λa N=>by cases N⟩
 .exact I.w.gh n u
end Go.Ex
namespace Go.Proofs.fv
open Go.Ex Go.X
theorem wh.yes{K:Type}{N:K->dB}{H:dw}{b:Nat}{u:List K}{es:Array MapEntry}{Y:Nat}{t:eK}(Z:HN t N)(h:wh N H b u es Y)(hn:u.Nodup){g:Nat}{k:K}(hg:u[g]?=some k):∃e,es.toList[g]?=some e/\∀w:fe,(Instr.findKey t (N k) es.toList).run Tryz.prog w=.ok (some (g,e.val)) w:=by
 obtain⟨ad,rfl⟩:=List.getElem?_eq_some_iff.1 hg
 have hl:es.toList.length=u.length:=by have:=congrArg List.length h.2;simpa using this
 have I:g<es.toList.length:=by omega
 refine⟨es.toList[g],List.getElem?_eq_getElem I,λw=>?_⟩
 have W:∀j(O:j<es.toList.length),(es.toList[j]).key=N (u[j]'(by omega)):=λj O=>by
  have:=congrArg (λl:List dB=>l[j]?) h.2
  simp only[List.getElem?_map,List.getElem?_eq_getElem O,List.getElem?_eq_getElem (show j<u.length by omega),Option.map_some] at this
  exact Option.some.inj this
 have:=Z.some u[g] (es.toList.take g) es.toList[g] (es.toList.drop (g+1)) w (λe he=>by
  obtain⟨j,O,rfl⟩:=List.getElem_of_mem he
  have ae:j<g:=by rw[List.length_take] at O;omega
  refine⟨u[j]'(by omega),by rw[List.getElem_take];exact W j (by omega),λe=>?_⟩
  have:=(List.getElem_inj hn).1 e
  omega) (W g I)
 rw[<-List.drop_eq_getElem_cons I,List.take_append_drop,List.length_take,Nat.min_eq_left (by omega)] at this
 exact this
structure BI(H:dw)(T:List Nd)(B M i:Nat)(ks:List qL)(tg:List Nat)(np:dC)(nc:Nat)(tp:dC)(tl tc:Nat)(xp:dC)(xl xc:Nat)(ap:dC)(al ac:Nat)(H':dw):Prop where
 fi:H'[B]?=some (.cells #[.pointer none,.pointer none,.pointer none,.slice np ks.length nc,.pointer none] kc (0,0))
 map:∃es ck,wh WR H' M ks es ck/\∀(j:Nat) e,es.toList[j]?=some e->e.val=.iface gP (.int .i64 (j:Int))
 nd:ks.Nodup
 SI:jK 7 H' eC (rN (ks.map VF)) np ks.length nc
 Rl:Sl H' gP (tg.map yj) tp tl tc
 tok:tg.length=i/\∀j,j<i->∃n g,T[j]?=some n/\tg[j]?=some g/\ks[g]?=some (y5 n)
 R7:Sl H' fp ((T.take i).map λn=>.string (eJ n.v)) xp xl xc
 gh:Sl H' fp ((T.take i).map λn=>.string (eJ (pk n.gh))) ap al ac
 WT:∀k,eB xp k->¬eB ap k
 new:Array.size H<=B/\Array.size H<=M/\∀k,eB np k\/eB tp k\/eB xp k\/eB ap k->Array.size H<=k
 fr:Fr fa H H'
def RJ(N5:Nat)(ae:dC)(af ag:Nat)(W:dC)(Y Z:Nat)(aa:dC)(ab ac:Nat)(ay:((dC×Nat×Nat)×(dC×Nat×Nat)×(dC×Nat×Nat)×Unit)->dw->Prop)(az:Int)(au:dw):Prop:=
 eG (eP au #[.int .i64 az] gP) λaA:dw=>ji gP 1 8 (.int .i64 0) ae af ag (.slice (some ⟨Array.size au,0,none⟩) 1 1) aA λai aj ak ad=>fh ad ((⟨N5,0,none⟩:dA).add 5) λaB=>fU ad ((⟨N5,0,none⟩:dA).add 6) λI N O=>
 eG (eP ad #[.string aB] fp) λav:dw=>(fU av ((⟨N5,0,none⟩:dA).add 6) λh u w=>(.slice h u w:dB)=.slice I N O)/\ji fp 1 16 (.string dM) W Y Z (.slice (some ⟨Array.size ad,0,none⟩) 1 1) av λam an ao aw=>(fU aw ((⟨N5,0,none⟩:dA).add 6) λh u w=>(.slice h u w:dB)=.slice I N O)/\jS.C (I) N O aw λaC ax=>
 eG (eP ax #[.string aC] fp) λaD:dw=>ji fp 1 16 (.string dM) aa ab ac (.slice (some ⟨Array.size ax,0,none⟩) 1 1) aD λap aq ar aE=>ay ((ai,aj,ak),(am,an,ao),(ap,aq,ar),()) aE
theorem Bj{H ab:dw}{t:List Nd}{B M i N5:Nat}{ks:List qL}{tg:List Nat}{np tp xp ap:dC}{nc tl tc xl xc al ac:Nat}(ht:gG H)(s:BI H t B M i ks tg np nc tp tl tc xp xl xc ap al ac ab){n:Nd}(hn:t[i]?=some n)(hi:i<=100000){aq:dC}{Y:Nat}(b5:js ab N5 n aq Y)(ai:eY H aq (gk n.gh)/\n.gh.length<=6/\∀a∈n.gh,Uv a){g:Nat}(hg:ks[g]?=some (y5 n))(h5:¬eB np N5){J:((dC×Nat×Nat)×(dC×Nat×Nat)×(dC×Nat×Nat)×Unit)->dw->Prop}
 (hJ:∀aj aA ak ad aB am an aC Y H',BI H t B M (i+1) ks (tg++[g]) np nc aj aA ak ad aB am an aC Y H'->J ((aj,aA,ak),(ad,aB,am),(an,aC,Y),()) H'):RJ N5 tp tl tc xp xl xc ap al ac J ((g:Nat):Int) ab:=by
 have bv:=(List.getElem?_eq_some_iff.1 hn).1
 have tk:t.take (i+1)=t.take i++[n]:=by rw[List.take_add_one,hn];rfl
 have el:(t.take i).length=i:=by rw[List.length_take];omega
 have e1:tl=i:=by have:=s.Rl.1;rw[List.length_map,s.tok.1] at this;omega
 have e2:xl=i:=by have:=s.R7.1;simp at this;omega
 have e3:al=i:=by have:=s.gh.1;simp at this;omega
 subst e1 e2 e3
 unfold RJ
 have z:=s.fr.size
 refine Bk s.Rl rfl ⟨by simp,by simp⟩ (by omega) (by decide) λaj ak ae aD N ba=>?_
 have dt:∀{k:Nat}{cs:Array dB}{u:eK}{f:Nat×Nat},ab[k]?=some (.cells cs u f)->gP≠u->¬eB tp k:=λh Z w=>by obtain⟨_,h'⟩:=s.Rl.ty w;exact tf h' h Z
 have aa:js ae N5 n aq Y:=N.fi b5 (dt b5 (by decide))
 have ar:=s.R7.eO N λk w=>by obtain⟨_,h'⟩:=s.R7.ty w;exact dt h' (by decide)
 have aE:=s.gh.eO N λk w=>by obtain⟨_,h'⟩:=s.gh.ty w;exact dt h' (by decide)
 have aF:=s.SI.eO N λk w=>by obtain⟨_,h'⟩:=s.SI.ty w;exact dt h' (by decide)
 have aG:=N.fi s.fi (dt s.fi (by decide))
 obtain⟨es,ck,mp,mv⟩:=s.map
 have aH:=N.fi mp.1 λw=>by obtain⟨_,h'⟩:=s.Rl.ty w;exact yb h' mp.1
 refine⟨_,aa.cell 5,_,_,_,aa.cell 6,dN λbb aI=>⟨⟨_,_,_,js.cell ((aI▸Fr.new ae _ _:Fr fa ae bb).fi aa λh=>h) 6,rfl⟩,?_⟩⟩
 refine VN ar aI rfl ⟨by simp,by simp⟩ (by omega) (by decide) λad am af aJ O aK=>?_
 have dx:∀{k:Nat}{cs:Array dB}{u:eK}{f:Nat×Nat},ae[k]?=some (.cells cs u f)->fp≠u->¬eB xp k:=λh Z w=>by obtain⟨_,h'⟩:=ar.ty w;exact tf h' h Z
 have bc:js af N5 n aq Y:=O.fi aa (dx aa (by decide))
 have aL:=aD.eO O λk w=>by obtain⟨_,h'⟩:=aD.ty w;exact dx h' (by decide)
 have au:=aE.eO O λk w hx=>s.WT k hx w
 have aM:=aF.eO O λk w=>by obtain⟨_,h'⟩:=aF.ty w;exact dx h' (by decide)
 have aO:=O.fi aG (dx aG (by decide))
 have aP:=O.fi aH λw=>by obtain⟨_,h'⟩:=ar.ty w;exact yb h' aH
 have f0:Fr fa H af:=(s.fr.fresh N λk w=>s.new.2.2 k (.inr (.inl w))).fresh O λk w=>s.new.2.2 k (.inr (.inr (.inl w)))
 refine⟨⟨_,_,_,bc.cell 6,rfl⟩,Kh (eH ht f0) (ai.1.fC f0) ai.2.2 ai.2.1 λbw av=>?_⟩
 have bx:=N.size
 have bz:=O.size
 have bA:=av.size
 refine Bk (au.eO av λ_ _ h=>h) rfl ⟨by simp,by simp⟩ (by omega) (by decide) λan Y aQ be aR aS=>?_
 have I:Fr (eB ap) af aQ:=(av.mono λ_ h=>h.elim).trans aR λk w=>.inl w
 have da:∀{k:Nat}{cs:Array dB}{u:eK}{f:Nat×Nat},af[k]?=some (.cells cs u f)->fp≠u->¬eB ap k:=λh Z w=>by obtain⟨_,h'⟩:=au.ty w;exact tf h' h Z
 have aw:∀k,eB ad k->¬eB ap k:=λk w ha=>by
  rcases aK k w with W|W
  .exact s.WT k W ha
  .have:=aE.gE ha;omega
 have bB:=aR.size
 refine hJ _ _ _ _ _ _ _ _ _ aQ ⟨I.fi aO (da aO (by decide)),⟨es,ck,⟨I.fi aP (λw=>by obtain⟨_,h'⟩:=au.ty w;exact yb h' aP),mp.2⟩,mv⟩,s.nd,aM.eO I (λk w=>by obtain⟨_,h'⟩:=aM.ty w;exact da h' (by decide)),?_,⟨by rw[List.length_append,s.tok.1];rfl,λj hj=>?_⟩,?_,?_,λk w ha=>?_,⟨s.new.1,s.new.2.1,λk w=>?_⟩,?_⟩
 .rw[List.map_append]
  exact aL.eO I λk w=>by obtain⟨_,h'⟩:=aL.ty w;exact da h' (by decide)
 .rcases Nat.lt_or_ge j al with h|h
  .obtain⟨m,g',h1,h2,h3⟩:=s.tok.2 j h
   exact⟨m,g',h1,by rw[List.getElem?_append_left (by rw[s.tok.1];exact h)];exact h2,h3⟩
  .obtain rfl:j=al:=by omega
   exact⟨n,g,hn,by rw[List.getElem?_append_right (by rw[s.tok.1];exact Nat.le_refl _),s.tok.1,Nat.sub_self];rfl,hg⟩
 .rw[tk,List.map_append]
  exact aJ.eO I aw
 .rw[tk,List.map_append]
  exact be
 .rcases aS k ha with W|W
  .exact aw k w W
  .have:=aJ.gE w;omega
 .rcases w with w|w|w|w
  .exact s.new.2.2 k (.inl w)
  .rcases ba k w with W|W
   .exact s.new.2.2 k (.inr (.inl W))
   .omega
  .rcases aK k w with W|W
   .exact s.new.2.2 k (.inr (.inr (.inl W)))
   .omega
  .rcases aS k w with W|W
   .exact s.new.2.2 k (.inr (.inr (.inr W)))
   .omega
 .exact((s.fr.fresh N λk w=>s.new.2.2 k (.inr (.inl w))).fresh O λk w=>s.new.2.2 k (.inr (.inr (.inl w)))).fresh I λk w=>s.new.2.2 k (.inr (.inr (.inr w)))
theorem Ko{H aa I:dw}{t:List Nd}{B M i Z:Nat}{ks:List qL}{tg:List Nat}{np tp xp ap:dC}{nc tl tc xl xc al ac:Nat}(s:BI H t B M i ks tg np nc tp tl tc xp xl xc ap al ac aa){n:Nd}(a8:y5 n∉ks)(bD:ks.length<=1000){aq:dC}{ar:Nat}(b5:js aa Z n aq ar){es:Array MapEntry}{ck:Nat}(hm:aa[M]?=some (.map es ck))(h5:¬eB np Z)(hB:Z≠B)(hM:Z≠M)
 (aK:I=Array.setIfInBounds aa M (.map (es.push {key:=WR (y5 n),val:=.iface gP (.int .i64 (ks.length:Int)),born:=ck}) (ck+1)))
 {J:dw->Prop}(hJ:∀aL bb H',BI H t B M i (ks++[y5 n]) tg aL bb tp tl tc xp xl xc ap al ac H'->js H' Z n aq ar->¬eB aL Z->J H'):
 ∃au:dA,some (⟨B,0,none⟩:dA)=some au/\fU I (au.add 3) λah ai aj=>gf I ((⟨Z,0,none⟩:dA).add 0) λbc=>fh I ((⟨Z,0,none⟩:dA).add 2) λbd=>fh I ((⟨Z,0,none⟩:dA).add 3) λbe=>fh I ((⟨Z,0,none⟩:dA).add 4) λbf=>
 eG (eP I #[.int .i64 bc,.int .i64 0,.string bd,.string be,.string bf,.string dM,.slice none 0 0] eC) λak:dw=>(fU ak (au.add 3) λav aw ax=>(.slice av aw ax:dB)=.slice ah ai aj)/\ji eC 7 104 (.agg #[.int .i64 0,.int .i64 0,.string dM,.string dM,.string dM,.string dM,.slice none 0 0]) ah ai aj (.slice (some ⟨Array.size I,0,none⟩) 1 1) ak λaH aI aJ aM=>
 ∃aO:dA,some (⟨B,0,none⟩:dA)=some aO/\j0 (.slice aH aI aJ) (aO.add 3) aM J:=by
 obtain⟨am,aP,mp,mv⟩:=s.map
 obtain⟨e1,e2⟩:am=es/\aP=ck:=by have:=mp.1.symm.trans hm;cases this;exact⟨rfl,rfl⟩
 subst e1 e2
 have lM:=eR hm
 have bE:am.toList.length=ks.length:=by have:=congrArg List.length mp.2;simpa using this
 have af:=mp.add (y5 n) (.iface gP (.int .i64 (ks.length:Int))) aP
 rw[<-aK] at af
 have ay:=af.1
 have O:Fr (λk=>k=M) aa I:=aK▸Fr.Ap _ _ _
 have nM:∀{k:Nat}{cs:Array dB}{u:eK}{f:Nat×Nat},aa[k]?=some (.cells cs u f)->k≠M:=λh e=>yb (e▸h) hm
 have W:=O.fi s.fi (nM s.fi)
 have ab:js I Z n aq ar:=O.fi b5 (nM b5)
 have az:=s.SI.eO O λk w=>by obtain⟨_,h'⟩:=s.SI.ty w;exact nM h'
 have aQ:=s.Rl.eO O λk w=>by obtain⟨_,h'⟩:=s.Rl.ty w;exact nM h'
 have aR:=s.R7.eO O λk w=>by obtain⟨_,h'⟩:=s.R7.ty w;exact nM h'
 have aS:=s.gh.eO O λk w=>by obtain⟨_,h'⟩:=s.gh.ty w;exact nM h'
 refine⟨_,rfl,_,_,_,(dO W 0 3).trans rfl,_,ab.cell 0,_,ab.cell 2,_,ab.cell 3,_,ab.cell 4,dN λak aT=>?_⟩
 have bg:Fr fa I ak:=aT▸Fr.new I _ _
 refine⟨⟨_,_,_,(dO (bg.fi W λh=>h) 0 3).trans rfl,rfl⟩,sb (new:=wj (VF (y5 n))) az aT rfl rfl (wK _) (by omega) (by decide) λp' c' aM bi aA aB=>?_⟩
 have dn:∀{k:Nat}{cs:Array dB}{u:eK}{f:Nat×Nat},I[k]?=some (.cells cs u f)->eC≠u->¬eB np k:=λh bj w=>by obtain⟨_,h'⟩:=az.ty w;exact tf h' h bj
 have bk:=aA.fi W (dn W (by decide))
 have bF:=O.size
 have lB:=eR W
 have l5:=eR ab
 have pB:¬eB p' B:=λN=>(aB B N).elim (dn W (by decide)) λN=>by omega
 refine⟨_,rfl,hP bk (by simp) λaC bm aD=>?_⟩
 have fb:∀{k:Nat}{x:Obj},I[k]?=some x->¬eB np k->k≠B->aC[k]?=some x:=λh h1 h2=>aD.fi (aA.fi h h1) h2
 have ad:∀{k:Nat},(∃cs u,I[k]?=some (.cells cs u (0,0))/\eC≠u/\u≠kc)->¬eB np k/\k≠B:=λ⟨cs,u,h,h1,h2⟩=>⟨dn h h1,λe=>tf (e▸h) W h2⟩
 have Y:Fr (λk=>eB np k\/k=B) I aC:=(aA.mono λk h=>.inl h).trans aD λk h=>.inl (.inr h)
 refine hJ p' c' aC ⟨?_,⟨_,_,⟨fb ay (λw=>by obtain⟨_,h'⟩:=az.ty w;exact yb h' ay) (λe=>yb (e▸W:I[M]?=_) ay),af.2⟩,λj e he=>?_⟩,?_,?_,?_,⟨s.tok.1,λj hj=>?_⟩,?_,?_,s.WT,⟨s.new.1,s.new.2.1,λk w=>?_⟩,?_⟩ (fb ab h5 hB) λN=>?_
 .rw[bm];simp
 .rw[Array.toList_push] at he
  rcases Nat.lt_or_ge j am.toList.length with h|h
  .rw[List.getElem?_append_left h] at he;exact mv j e he
  .rw[List.getElem?_append_right h] at he
   have h0:j-am.toList.length=0:=by
    have:=(List.getElem?_eq_some_iff.1 he).1
    simp only[List.length_cons,List.length_nil] at this
    omega
   rw[h0] at he
   cases he
   have:j=ks.length:=by omega
   subst this
   rfl
 .rw[List.nodup_append]
  exact⟨s.nd,by simp,λa ha b hb e=>a8 (by rw[List.mem_singleton] at hb;rw[<-hb,<-e];exact ha)⟩
 .rw[List.map_append,List.length_append,List.map_singleton,<-rM]
  exact bi.eO aD λk w e=>pB (e▸w)
 .exact aQ.eO Y λk w=>by obtain⟨_,h'⟩:=aQ.ty w;have:=ad ⟨_,_,h',by decide,by decide⟩;exactλN=>N.elim this.1 this.2
 .obtain⟨m,g,h1,h2,h3⟩:=s.tok.2 j hj
  exact⟨m,g,h1,h2,by rw[List.getElem?_append_left (List.getElem?_eq_some_iff.1 h3).1];exact h3⟩
 .exact aR.eO Y λk w=>by obtain⟨_,h'⟩:=aR.ty w;have:=ad ⟨_,_,h',by decide,by decide⟩;exactλN=>N.elim this.1 this.2
 .exact aS.eO Y λk w=>by obtain⟨_,h'⟩:=aS.ty w;have:=ad ⟨_,_,h',by decide,by decide⟩;exactλN=>N.elim this.1 this.2
 .rcases w with w|w
  .rcases aB k w with N|N
   .exact s.new.2.2 k (.inl N)
   .have:=s.fr.size;omega
  .exact s.new.2.2 k (.inr w)
 .refine(s.fr.fresh O λk w=>w▸s.new.2.1).fresh Y λk w=>w.elim (λh=>s.new.2.2 k (.inl h)) λh=>h▸s.new.1
 .rcases aB _ N with h|h
  .exact h5 h
  .omega
end Go.Proofs.fv
namespace Go.Ex
theorem Wk.vl{Ls:List (List At)}{p:Nd}{L:List Nd}(h:Wk Ls p L):∀n∈L,n.v.length<=10:=by
 induction h with
 |nil=>intro n u;cases u
 |lf N O I Y W w=>
  intro n u
  rcases List.mem_cons.1 u with rfl|u
  .have h:∀q∈vO,q.2.2.length<=10:=by decide
   exact h _ I
  .exact w n u
 |el N O Z I ha u W w=>
  intro n u
  rcases List.mem_cons.1 u with rfl|u
  .exact Nat.zero_le _
  .exact w n u
theorem sf.vl{T:List Nd}(h:sf T):∀n∈T,n.v.length<=10:=by
 obtain⟨N,rfl,I⟩:=h.c
 intro n u
 rcases List.mem_cons.1 u with rfl|u
 .exact Nat.zero_le _
 .exact I.w.vl n u
end Go.Ex
namespace Go.Proofs.fv
open Go.Ex Go.X
structure mA(H:dw)(b gs gw N U:Nat)(t:List Nd)(ks:List qL)(tg:List Nat):Prop where
 fi:∃gp ga np nc,H[b]?=some (.cells #[.pointer (some ⟨gs,0,none⟩),.pointer (some ⟨gw,0,none⟩),.pointer (some ⟨gp,0,none⟩),.slice np ks.length nc,.pointer (some ⟨ga,0,none⟩)] kc (0,0))/\
  jK 7 H eC (rN (ks.map VF)) np ks.length nc/\uv N U H gp (t.map λn=>eJ n.v)/\uv N U H ga (t.map λn=>eJ (pk n.gh))/\∀k,eB np k->k≠gs/\k≠gw/\k<U
 pb:∃F,PB H gs (oW 0 (pJ t)) F/\¬F gw/\∀k,F k->k<U
 wb:∃F,WB H gw tg ks.length F/\¬F gs/\∀k,F k->k<U
 ne:b≠gs/\b≠gw/\b<U
 lt:gs<N/\gw<N
 TF:Gd H
 nd:gT≠gs/\gT≠gw/\gT<U
 up:U<=Array.size H
 tk:tg.length=t.length/\∀j,j<t.length->∃n g,t[j]?=some n/\tg[j]?=some g/\ks[g]?=some (y5 n)
abbrev gF(h u:Nat):Nat->Prop:=λk=>k=h\/k=u
theorem NO{H H':dw}{F:Nat->Prop}(h:Gd H)(f:Fr F H H')(w:¬F gT):Gd H':=λi hi=>f.cell (h i hi) λu=>w (by rw[kO] at u;exact u)
theorem PB.eO{H H':dw}{g:Nat}{m:List Bool}{F G:Nat->Prop}(h:PB H g m F)(f:Fr G H H')(u:∀k,F k->¬G k):PB H' g m F:=by
 obtain⟨a,b,c,p⟩:=h
 exact⟨a,b,c,p.eO f u⟩
theorem mA.step{H H':dw}{b u w N U:Nat}{t:List Nd}{O:List qL}{W:List Nat}(s:mA H b u w N U t O W){G:Nat->Prop}(f:Fr G H H')(I:∀k,G k->k=u\/k=w\/U<=k)(hp:∃F,PB H' u (oW 0 (pJ t)) F/\¬F w/\∀k,F k->k<U)(hw:∃F,WB H' w W O.length F/\¬F u/\∀k,F k->k<U):mA H' b u w N U t O W:=by
 obtain⟨gp,ga,np,nc,h1,h2,h3,h4,Z⟩:=s.fi
 have hN:∀k,G k->k<N\/U<=k:=λk Y=>by have:=I k Y;have:=s.lt;omega
 exact⟨⟨gp,ga,np,nc,f.fi h1 (λh=>by have:=I _ h;have:=s.ne;omega),h2.eO f λk Y h=>by have:=I k h;have:=Z k Y;omega,h3.eO f hN,h4.eO f hN,Z⟩,hp,hw,s.ne,s.lt,NO s.TF f λh=>by have:=I _ h;have:=s.nd;omega,s.nd,Nat.le_trans s.up f.size,s.tk⟩
theorem mA.eO{H H':dw}{b O Y N U:Nat}{t:List Nd}{Z:List qL}{tg:List Nat}(s:mA H b O Y N U t Z tg){G:Nat->Prop}(f:Fr G H H')(I:∀k,G k->U<=k):mA H' b O Y N U t Z tg:=by
 obtain⟨F,p,hF,uF⟩:=s.pb
 obtain⟨W,w,hW,uW⟩:=s.wb
 exact s.step f (λk u=>.inr (.inr (I k u))) ⟨F,p.eO f λk u h=>by have:=uF k u;have:=I k h;omega,hF,uF⟩ ⟨W,w.eO f λk u h=>by have:=uW k u;have:=I k h;omega,hW,uW⟩
theorem mA.fC{H H':dw}{b u w N U:Nat}{t:List Nd}{I:List qL}{O:List Nat}(s:mA H b u w N U t I O)(f:Fr fa H H'):mA H' b u w N U t I O:=s.eO f λ_ h=>h.elim
theorem mA.ps{H:dw}{b h u N U:Nat}{t:List Nd}{w:List qL}{I:List Nat}(s:mA H b h u N U t w I):∃F,PS H H h (oW 0 (pJ t)) F/\¬F u/\∀k,F k->k<U:=by
 obtain⟨F,p,O⟩:=s.pb
 exact⟨F,⟨p,Fr.refl _ _,s.TF,s.nd.1⟩,O⟩
theorem mA.shape{H H':dw}{b u I N U:Nat}{t:List Nd}{O:List qL}{Y:List Nat}{F:Nat->Prop}(s:mA H b u I N U t O Y)(hF:¬F I/\∀k,F k->k<U)(p:PS H H' u (oW 0 (pJ t)) F):mA H' b u I N U t O Y:=by
 obtain⟨W,w,Z⟩:=s.wb
 exact s.step p.fr (λ_ h=>.inl h) ⟨F,p.pb,hF⟩ ⟨W,w.eO p.fr λk hk e=>Z.1 (e▸hk),Z⟩
theorem mA.Xb{H H':dw}{b I u N U:Nat}{t:List Nd}{O:List qL}{Y:List Nat}{W:Nat->Prop}(s:mA H b I u N U t O Y)(hW:¬W I/\∀k,W k->k<U)(w:WB H' u Y O.length W)(f:Fr (λk=>k=u) H H'):mA H' b I u N U t O Y:=by
 obtain⟨F,p,Z⟩:=s.pb
 exact s.step f (λ_ h=>.inr (.inl h)) ⟨F,p.eO f λk hk e=>Z.1 (e▸hk),Z⟩ ⟨W,w,hW⟩
theorem Om{H:dw}{b:Nat}{I:eK}(N:H[b]?=some (.cells #[.int .i64 0,.int .i64 0,.int .i64 0,.int .i64 0] I (0,0))){R:Int->dw->Prop}(O:R 0 H):iC.C (some ⟨b,0,none⟩) 4 4 H R:=by
 apply iC.calls
 unfold iC.W
 have c:∀j,j<4->dL H ((⟨b,0,none⟩:dA).add j)=some (.int .i64 0):=λj Y=>by
  rw[dO N,Nat.zero_add]
  rcases j with _|_|_|_|j<;>first|rfl|omega
 refine fg (eI (by omega) ⟨_,rfl,by omega,by omega,_,c 0 (by omega),fg (eW (λn s H'=>∃i:Nat,i<=4/\n=4-i/\s=(0,(i:Int),())/\H=H') 3 ⟨1,by omega,rfl,rfl,rfl⟩ ?_)⟩)
 rintro n _ _ ⟨i,hi,rfl,rfl,rfl⟩
 refine eE (λh=>?_) λ_=>O
 have h:i<4:=by have h:(i:Int)<((4:Nat):Int):=h;omega
 refine⟨_,rfl,by show(0:Int)<=(i:Int);omega,by show(i:Int)<((4:Nat):Int);omega,_,by rw[Int.toNat_natCast];exact c i h,dN λm u=>dN λk w=>⟨4-(i+1),by omega,i+1,by omega,rfl,?_,rfl⟩⟩
 have w:k=IntKind.i64.wrap ((i:Int)+1):=w
 have u:m=max (0:Int) 0:=u
 rw[w,u,mR (by omega) (by omega)]
 rfl
theorem IQ:∀{l u:List Nat},l.map (λx:Nat=>(x:Int))=u.map (λx:Nat=>(x:Int))->l=u
 |[],[],_=>rfl
 |[],_::_,h=>by cases h
 |_::_,[],h=>by cases h
 |a::l,b::u,h=>by
  simp only[List.map_cons,List.cons.injEq] at h
  rw[IQ h.2,show a=b by omega]
theorem FG{ss:List dE}{b:Nat}(h:∀s∈ss,s.size<=b):(vZ ss).size<=ss.length*b:=by
 have:=MH h (k:=ss.length) (Nat.le_refl _)
 rwa[uH ss (Nat.le_refl _)] at this
theorem Q4{H:dw}(bc:gG H)(aI:Gd H){tn:List TN}{p:dC}{l c:Nat}(h:D5 H p l c tn){t:List Nd}(et:tn.map TN.n=t)(ht:sf t){R:dC->Int->dw->Prop}
 (hR:∀b gs gw N U O tg H',mA H' b gs gw N U t O tg->Fr fa H H'->Array.size H<=gs->Array.size H<=gw->R (some ⟨b,0,none⟩) 0 H'):nR.C p l c H R:=by
 apply nR.calls
 unfold nR.W
 have dt:=ht.len
 have hl:t.length=l:=by rw[<-et,List.length_map];exact h.len
 obtain⟨LL,cG,hD⟩:=ht.c
 have nil:∀i,¬eB none i:=λi⟨_,h,_⟩=>by cases h
 refine QL bc h (et.trans cG) hD λH1 f1=>dH rfl (dN λH2 g2=>dN λH3 g3=>?_)
 have f2:Fr fa H1 H2:=g2▸Fr.new H1 _ _
 have f3:Fr fa H2 H3:=g3▸Fr.push _ _
 have cK:=(f1.dF f2).dF f3
 have b2:H2[Array.size H1]?=some (.cells #[.pointer none,.pointer none,.pointer none,.slice none 0 0,.pointer none] kc (0,0)):=g2▸eU
 have m3:H3[Array.size H2]?=some (.map #[] 0):=g3▸oH _ _
 have z1:=f1.size
 have z2:=f2.size
 have dv:Array.size H1<Array.size H2:=eR b2
 generalize hB:Array.size H1=B at*
 generalize hM:Array.size H2=M at*
 refine dD (λs H'=>∃O tg np nc tp Y tc xp Z xc ap al ac,s=((tp,Y,tc),(xp,Z,xc),(ap,al,ac),())/\O.length<=40/\BI H t B M t.length O tg np nc tp Y tc xp Z xc ap al ac H') ?_ ?_
 .refine eW (λn s H'=>∃i O tg np nc tp Y tc xp Z xc ap al ac,i<=t.length/\n=t.length-i/\s=((tp,Y,tc),(xp,Z,xc),(ap,al,ac),(i:Int),())/\O.length<=i/\BI H t B M i O tg np nc tp Y tc xp Z xc ap al ac H') t.length
   ⟨0,[],[],none,0,none,0,0,none,0,0,none,0,0,by omega,rfl,rfl,Nat.le_refl _,f3.fi b2 (λh=>h),⟨#[],0,⟨m3,rfl⟩,λj e he=>by simp at he⟩,List.nodup_nil,jK.nil _ _ _,Sl.nil _ _,⟨rfl,λj hj=>by omega⟩,Sl.nil _ _,Sl.nil _ _,λk I=>absurd I (nil k),⟨by omega,by omega,λk I=>by rcases I with I|I|I|I<;>exact absurd I (nil k)⟩,cK⟩ ?_
  rintro n _ H5 ⟨i,O,tg,np,nc,tp,Y,tc,xp,Z,xc,ap,al,ac,hi,rfl,rfl,be,s5⟩
  refine eE (λaR=>?_) λaS=>?_
  .have aR:i<t.length:=by have aR:(i:Int)<(l:Int):=aR;omega
   obtain⟨n,hn⟩:∃n,t[i]?=some n:=⟨_,List.getElem?_eq_getElem aR⟩
   obtain⟨y,hy,ey⟩:∃y,tn[i]?=some y/\y.n=n:=by
    rw[<-et,List.getElem?_map] at hn
    cases hq:tn[i]? with
    |none=>rw[hq] at hn;cases hn
    |some y=>rw[hq] at hn;cases hn;exact⟨y,rfl,rfl⟩
   subst ey
   have b1:=(h.a y (List.mem_of_getElem? hy)).1
   have b3:=ht.gh _ (List.mem_of_getElem? hn)
   refine dD (λs H'=>∃O tg np nc tp Y tc xp Z xc ap al ac,s=((tp,Y,tc),(xp,Z,xc),(ap,al,ac),())/\O.length<=i+1/\BI H t B M (i+1) O tg np nc tp Y tc xp Z xc ap al ac H') ?_ ?_
   .refine(h.fC s5.fr).ld hy (oa y λH8 b8 cO=>?_)
    refine⟨_,b8.cell 0,_,b8.cell 2,_,b8.cell 3,_,b8.cell 4,dN λH9 g9=>?_⟩
    have f9:Fr fa H8 H9:=g9▸Fr.new H8 _ _
    refine tR (cs:=#[.int .i64 0,.string eS,.string eS,.string eS]) (g9▸eU) rfl λaD cQ cR=>?_
    have bg:Fr fa H8 aD:=f9.fresh cR λi hi=>by omega
    have an:=cO.dF bg
    have b4:∀j,j<4->dL aD ((⟨Array.size H8,0,none⟩:dA).add j)=([.int .i64 y.n.k,.string (eJ y.n.p),.string (eJ y.n.l),.string (eJ y.n.u)]:List dB)[j]?:=λj hj=>by rw[dO cQ,Nat.zero_add];simp
    have b5:js aD (Array.size H5) y.n y.q y.c:=b8.fC bg
    obtain⟨es,ck,bi,mv⟩:=s5.map
    have ao:wh WR aD M O es ck:=⟨an.fi bi.1 λh=>h,bi.2⟩
    have bj:BI H t B M i O tg np nc tp Y tc xp Z xc ap al ac aD:=⟨an.fi s5.fi λh=>h,⟨es,ck,ao,mv⟩,s5.nd,s5.SI.eO an λ_ _ h=>h,s5.Rl.eO an λ_ _ h=>h,s5.tok,s5.R7.eO an λ_ _ h=>h,s5.gh.eO an λ_ _ h=>h,s5.WT,s5.new,s5.fr.dF an⟩
    have b6:¬eB np (Array.size H5):=λhh=>by have:=s5.SI.gE hh;omega
    have cT:Array.size H5≠B:=λe=>by have:=eR s5.fi;omega
    have cU:Array.size H5≠M:=λe=>by have:=eR bi.1;omega
    have bm:=λem w=>SW.Qq (y5 y.n) em w
    refine AS _ _ _ _ b4 ?_
    by_cases aK:y5 y.n∈O
    .obtain⟨g,hg,eg⟩:=List.getElem_of_mem aK
     have b7:O[g]?=some (y5 y.n):=by rw[List.getElem?_eq_getElem hg,eg]
     obtain⟨e,he,hf⟩:=ao.yes SW s5.nd b7
     refine⟨es,ck,some (g,e.val),ao.1,bm,hf,?_⟩
     rw[mv g e he]
     refine⟨_,rfl,((g:Nat):Int),true,.inl ⟨rfl,rfl⟩,fg (dH rfl ?_)⟩
     exact Bj (J:=λs H'=>∃O tg np nc tp Y tc xp Z xc ap al ac,s=((tp,Y,tc),(xp,Z,xc),(ap,al,ac),())/\O.length<=i+1/\BI H t B M (i+1) O tg np nc tp Y tc xp Z xc ap al ac H') bc bj hn (by omega) b5 ⟨b1,b3⟩ b7 b6 λbn bo bp bq br bu bv bw bx H' s'=>⟨O,_,np,nc,bn,bo,bp,bq,br,bu,bv,bw,bx,rfl,by omega,s'⟩
    .have no:=λw=>ao.no SW aK w
     refine⟨es,ck,none,ao.1,bm,no,?_⟩
     refine⟨0,false,.inr ⟨rfl,rfl,.inl rfl⟩,fg (eN rfl ⟨_,rfl,_,_,_,(dO bj.fi 0 3).trans rfl,dN λdP cv=>AS _ _ _ _ b4 ⟨es,ck,ao.1,bm,no,dN λdQ cW=>?_⟩⟩)⟩
     subst cv
     refine Ko bj aK (by omega) b5 ao.1 b6 cT cU cW λcX cY dR cZ c0 c1=>?_
     exact Bj (J:=λs H'=>∃O tg np nc tp Y tc xp Z xc ap al ac,s=((tp,Y,tc),(xp,Z,xc),(ap,al,ac),())/\O.length<=i+1/\BI H t B M (i+1) O tg np nc tp Y tc xp Z xc ap al ac H') (g:=O.length) bc cZ hn (by omega) c0 ⟨b1,b3⟩ (by rw[List.getElem?_append_right (Nat.le_refl _),Nat.sub_self];rfl) c1 λbn bo bp bq br bu bv bw bx H' s'=>⟨_,_,cX,cY,bn,bo,bp,bq,br,bu,bv,bw,bx,rfl,by rw[List.length_append,List.length_singleton];omega,s'⟩
   .rintro _ H6 ⟨O,tg,np,nc,tp,Y,tc,xp,Z,xc,ap,al,ac,rfl,be,s6⟩
    exact⟨t.length-(i+1),by omega,i+1,O,tg,np,nc,tp,Y,tc,xp,Z,xc,ap,al,ac,by omega,rfl,by show(_,_,_,_,_)=_;rw[qN i (by omega)],be,s6⟩
  .have aS:i=t.length:=by have aS:¬(i:Int)<(l:Int):=aS;omega
   subst aS
   exact⟨O,tg,np,nc,tp,Y,tc,xp,Z,xc,ap,al,ac,rfl,by omega,s5⟩
 rintro _ H4 ⟨O,tg,np,nc,tp,Y,tc,xp,Z,xc,ap,al,ac,rfl,be,s4⟩
 have bz:=s4.Rl
 have aT:=s4.R7
 have aU:=s4.gh
 rw[List.take_length] at aT aU
 have bA:=s4.SI
 have dS:Y=t.length:=by have:=bz.1;rw[List.length_map,s4.tok.1] at this;exact this.symm
 have dT:Z=t.length:=by have:=aT.1;simp at this;omega
 have dU:al=t.length:=by have:=aU.1;simp at this;omega
 obtain⟨D,hD,b9⟩:=ht.pJ
 obtain⟨m',c2,cx⟩:=Ak b9
 have cy:UA (oW 0 (pJ t)):=by
  rw[hD,c2]
  have hp:=cx.pos
  have hs:=A8 m' false
  rw[hp.2] at hs
  refine⟨λk I=>?_,by rw[List.length_append,List.length_singleton,hs];rfl⟩
  rw[List.length_append,List.length_singleton] at I
  rcases Nat.lt_or_ge k (m'.length+1) with c4|c4
  .rw[rV _ _ (by omega)]
   rcases Nat.eq_zero_or_pos k with rfl|h0
   .rw[xw];omega
   .have:=hp.1 k h0 (by omega);omega
  .rw[show k=m'.length+1 by omega,hs];decide
 have c5:(oW 0 (pJ t)).length=2*t.length:=by rw[zr _ _ (by rw[hD];exact⟨Nat.le_refl _,b9.e⟩)];simp[pJ]
 have dV:=eR s4.fi
 refine dN λca cb=>?_
 have bB:Fr fa H4 ca:=cb▸Fr.new H4 _ _
 have cc:ca[Array.size H4]?=some (.cells #[.int .i64 0,.int .i64 0,.int .i64 0,.int .i64 0] nU (0,0)):=cb▸eU
 have dW:=eR cc
 generalize hC:Array.size H4=C at*
 refine GJ (h.fC (s4.fr.dF bB)) et ht λq ql qc dX cd aV=>?_
 have dY:ql=2*t.length:=by have:=cd.1;rw[List.length_map,c5] at this;omega
 refine AD (aI.fC ((s4.fr.dF bB).dF aV)) cd.rd (by omega) (λhb=>absurd cy hb) λ_ gs F ce bC hF dZ bE=>?_
 have d0:=aV.size
 have d1:=bE.size
 have aq:Fr fa H4 ce:=(bB.dF aV).dF bE
 have c6:=aq.fi s4.fi λh=>h
 have c7:=(aV.dF bE).fi cc λh=>h
 have nB:B≠C:=by omega
 have c8:F gs:=by obtain⟨_,_,_,_,_,_,_,_,_,h1,_⟩:=bC;exact h1
 have dG:=(hF gs c8).2
 refine⟨_,rfl,hP c6 (by simp) λd2 c9 cf=>⟨by omega,by omega,hP (o:=0) (cf.fi c7 λe=>nB e.symm) (by simp) λay aW cg=>?_⟩⟩
 have aW:ay[C]?=some (.cells #[.int .i64 0,.int .i64 0,.int .i64 0,.int .i64 0] nU (0,0)):=by rw[aW];simp
 have aX:=cg.fi c9 nB
 simp only[List.setIfInBounds_toArray,List.set_cons_zero] at aX
 have ah:Fr (λk=>k=B\/k=C) ce ay:=(cf.mono λ_ h=>.inl h).trans cg λk h=>.inl (.inr h)
 have d3:=ah.size
 have aY:∀{k:Nat}{cs:Array dB}{u:eK}{f:Nat×Nat},H4[k]?=some (.cells cs u f)->u≠kc->¬(k=B\/k=C):=λh hu e=>by
  rcases e with rfl|rfl
  .exact tf h s4.fi hu
  .have:=eR h;omega
 have bF:=(bz.eO aq λ_ _ h=>h).eO ah λk I=>by obtain⟨_,h'⟩:=bz.ty I;exact aY h' (by decide)
 have bG:=(aT.eO aq λ_ _ h=>h).eO ah λk I=>by obtain⟨_,h'⟩:=aT.ty I;exact aY h' (by decide)
 have bH:=(aU.eO aq λ_ _ h=>h).eO ah λk I=>by obtain⟨_,h'⟩:=aU.ty I;exact aY h' (by decide)
 have bI:=(bA.eO aq λ_ _ h=>h).eO ah λk I=>by obtain⟨_,h'⟩:=bA.ty I;exact aY h' (by decide)
 have cA:=bC.eO ah λk I e=>by have:=(hF k I).1;omega
 have cB:Fr fa H ay:=(s4.fr.dF aq).fresh ah λk I=>by rcases I with rfl|rfl<;>omega
 refine⟨_,rfl,_,_,_,(dO aX 0 3).trans rfl,?_⟩
 have da:(tg.map yj)=(tg.map λx:Nat=>(x:Int)).map (Value.int .i64):=by simp only[List.map_map];rfl
 rw[da] at bF
 refine BK bF.rd (by omega) _ (λhb=>?_) λl' s' gw bJ el es d4 hv bK aZ=>?_
 .have d5:1<=O.length:=by
   obtain⟨n,g,_,_,h3⟩:=s4.tok.2 0 (by omega)
   have:=(List.getElem?_eq_some_iff.1 h3).1
   omega
  rcases hb with hb|hb|⟨z,hz,hb⟩
  .exact absurd hb (by omega)
  .exact absurd hb (by omega)
  .obtain⟨x,hx,rfl⟩:=List.mem_map.1 hz
   obtain⟨j,hj,rfl⟩:=List.getElem_of_mem hx
   obtain⟨n,g,_,h2,h3⟩:=s4.tok.2 j (by rw[<-s4.tok.1];exact hj)
   rw[List.getElem?_eq_getElem hj] at h2
   cases h2
   have:=(List.getElem?_eq_some_iff.1 h3).1
   omega
 obtain rfl:=IQ el
 obtain rfl:s'=O.length:=by have es:((O.length:Nat):Int)=(s':Int):=es;omega
 have ch:=bK.own.1
 have dJ:Array.size ay<=gw:=ch.1
 have dK:gw<Array.size bJ:=ch.2
 have dd:=aZ.fi aX λh=>h
 have de:=aZ.fi aW λh=>h
 refine⟨_,rfl,hP dd (by simp) λd6 df ci=>⟨by omega,by omega,hP (o:=1) (ci.fi de λe=>nB e.symm) (by simp) λaz a0 cj=>?_⟩⟩
 have a0:az[C]?=some (.cells #[.int .i64 0,.int .i64 0,.int .i64 0,.int .i64 0] nU (0,0)):=by rw[a0];simp
 have bL:=cj.fi df nB
 simp only[List.setIfInBounds_toArray,List.set_cons_zero,List.set_cons_succ] at bL
 have aA:Fr (λk=>k=B\/k=C) bJ az:=(ci.mono λ_ h=>.inl h).trans cj λk h=>.inl (.inr h)
 have av:Fr (λk=>k=B\/k=C) ay az:=(aZ.mono λ_ h=>h.elim).trans aA λk h=>.inl h
 have d7:=aA.size
 have d8:=aZ.size
 have bM:∀{k:Nat}{cs:Array dB}{u:eK}{f:Nat×Nat},ay[k]?=some (.cells cs u f)->u≠kc->u≠nU->¬(k=B\/k=C):=λh hu aG e=>by
  rcases e with rfl|rfl
  .exact tf h aX hu
  .exact tf h aW aG
 have aO:=bG.eO av λk I=>by obtain⟨_,h'⟩:=bG.ty I;exact bM h' (by decide) (by decide)
 have bN:=bH.eO av λk I=>by obtain⟨_,h'⟩:=bH.ty I;exact bM h' (by decide) (by decide)
 have bO:=bI.eO av λk I=>by obtain⟨_,h'⟩:=bI.ty I;exact bM h' (by decide) (by decide)
 have ex:(t.map λn=>Value.string (eJ n.v))=(t.map λn=>eJ n.v).map Value.string:=by rw[List.map_map];rfl
 rw[ex] at aO
 have cD:∀s∈t.map (λn=>eJ n.v),s.size<=10:=λs hs=>by
  obtain⟨n,hn,rfl⟩:=List.mem_map.1 hs
  rw[fc];exact ht.vl n hn
 have cE:=FG cD
 rw[List.length_map] at cE
 refine w5 aO.rd aO.cap (by omega) (by omega) λgp cm dg a3=>?_
 have dh:=a3.fi bL λh=>h
 have di:=a3.fi a0 λh=>h
 refine⟨_,rfl,hP dh (by simp) λd9 dj cn=>⟨by omega,by omega,hP (o:=2) (cn.fi di λe=>nB e.symm) (by simp) λaH a4 co=>?_⟩⟩
 have a4:aH[C]?=some (.cells #[.int .i64 0,.int .i64 0,.int .i64 0,.int .i64 0] nU (0,0)):=by rw[a4];simp
 have bP:=co.fi dj nB
 simp only[List.setIfInBounds_toArray,List.set_cons_zero,List.set_cons_succ] at bP
 have aB:Fr (λk=>k=B\/k=C) cm aH:=(cn.mono λ_ h=>.inl h).trans co λk h=>.inl (.inr h)
 have aw:Fr (λk=>k=B\/k=C) az aH:=(a3.mono λ_ h=>h.elim).trans aB λk h=>.inl h
 have eb:=a3.size
 have ec:=aB.size
 have cp:∀{k:Nat}{cs:Array dB}{u:eK}{f:Nat×Nat},az[k]?=some (.cells cs u f)->u≠kc->u≠nU->¬(k=B\/k=C):=λh hu aG e=>by
  rcases e with rfl|rfl
  .exact tf h bL hu
  .exact tf h a0 aG
 have aP:=bN.eO aw λk I=>by obtain⟨_,h'⟩:=bN.ty I;exact cp h' (by decide) (by decide)
 have bQ:=bO.eO aw λk I=>by obtain⟨_,h'⟩:=bO.ty I;exact cp h' (by decide) (by decide)
 have aQ:∀k,(k=B\/k=C)->k<Array.size az\/Array.size cm<=k:=λk I=>by rcases I with rfl|rfl<;>exact .inl (by omega)
 have dk:=dg.eO aB aQ
 have ea:(t.map λn=>Value.string (eJ (pk n.gh)))=(t.map λn=>eJ (pk n.gh)).map Value.string:=by rw[List.map_map];rfl
 rw[ea] at aP
 have bZ:=FG (ss:=t.map λn=>eJ (pk n.gh)) (b:=240) λs hs=>by
  obtain⟨n,hn,rfl⟩:=List.mem_map.1 hs
  have h1:=ht.gh n hn
  have:=Dk h1.2 n.gh.length
  rw[List.take_length] at this
  rw[fc];omega
 rw[List.length_map] at bZ
 refine w5 aP.rd aP.cap (by omega) (by omega) λga dl dm a5=>?_
 have dn:=a5.fi bP λh=>h
 have dp:=a5.fi a4 λh=>h
 refine⟨_,rfl,hP dn (by simp) λed dq cq=>⟨by omega,by omega,hP (o:=3) (cq.fi dp λe=>nB e.symm) (by simp) λar bR cr=>?_⟩⟩
 have bR:ar[C]?=some (.cells #[.int .i64 0,.int .i64 0,.int .i64 0,.int .i64 0] nU (0,0)):=by rw[bR];simp
 have ct:=cr.fi dq nB
 simp only[List.setIfInBounds_toArray,List.set_cons_zero,List.set_cons_succ] at ct
 have aC:Fr (λk=>k=B\/k=C) dl ar:=(cq.mono λ_ h=>.inl h).trans cr λk h=>.inl (.inr h)
 have ax:Fr (λk=>k=B\/k=C) aH ar:=(a5.mono λ_ h=>h.elim).trans aC λk h=>.inl h
 have dr:∀{k:Nat}{cs:Array dB}{u:eK}{f:Nat×Nat},aH[k]?=some (.cells cs u f)->u≠kc->u≠nU->¬(k=B\/k=C):=λh hu aG e=>by
  rcases e with rfl|rfl
  .exact tf h bP hu
  .exact tf h a4 aG
 have cF:=bQ.eO ax λk I=>by obtain⟨_,h'⟩:=bQ.ty I;exact dr h' (by decide) (by decide)
 have a6:Fr (λk=>k=B\/k=C) ay ar:=(av.trans aw λk h=>.inl h).trans ax λk h=>.inl h
 have b0:Fr (λk=>k=B\/k=C) bJ ar:=(aA.trans aw λk h=>.inl h).trans ax λk h=>.inl h
 have bS:Fr fa H ar:=cB.fresh a6 λk I=>by rcases I with rfl|rfl<;>omega
 have gl:=TE aI
 have hz:=s4.fr.size
 have ee:=a5.size
 have ef:=aC.size
 refine Om bR (eI (λh=>h rfl) (hR B gs gw (Array.size az) (Array.size ar) O tg ar ⟨⟨gp,ga,np,nc,ct,cF,(dk.eO ax aQ).mono (Nat.le_refl _) (by omega),(dm.eO aC λk I=>?_).mono (by omega) (by omega),λk I=>?_⟩,⟨F,cA.eO a6 λk I e=>?_,λhh=>?_,λk I=>?_⟩,⟨_,bK.eO b0 λk I e=>?_,λhh=>?_,λk I=>?_⟩,⟨by omega,by omega,by omega⟩,⟨by omega,by omega⟩,aI.fC bS,⟨by omega,by omega,by omega⟩,Nat.le_refl _,s4.tok⟩ bS (by omega) (by omega)))
 .have:=aQ k I;rcases I with rfl|rfl<;>omega
 .have:=bA.gE I;omega
 .have:=(hF k I).1;omega
 .have:=(hF _ hh).2;omega
 .have:=(hF k I).2;omega
 .have:=I.1;omega
 .have:=hh.1;omega
 .have:=I.2;omega
end Go.Proofs.fv
namespace Go.Ex
theorem Sb{t:List Nd}(w:sf t){i:Nat}{n:Nd}(u:t[i]?=some n):∃(p:Nat)(I:p<(oW 0 (pJ t)).length),(oW 0 (pJ t))[p]=true/\rk (oW 0 (pJ t)) p true=i/\qI (oW 0 (pJ t)) (p+1)=n.d+1:=by
 obtain⟨D,W,N⟩:=w.pJ
 obtain⟨m,Y,Z⟩:=Ak N
 have hi:i<(pJ t).length:=by have:=(List.getElem?_eq_some_iff.1 u).1;simp[pJ];exact this
 have O:(pJ t)[i]=n.d.toNat:=by
  have h:=(List.getElem?_eq_some_iff.1 u).2
  simp[pJ,h]
 have ad:=w.d0 u
 simp only[W] at hi O⊢
 obtain⟨p,I,q1,q2,q3⟩:=Z.at_ i hi
 simp only[Y]
 refine⟨p,by simp;omega,by rw[List.getElem_append_left I];exact q1,?_,?_⟩
 .unfold rk at q2⊢
  rw[List.take_append_of_le_length (by omega)]
  omega
 .rw[rV _ _ (by omega),q3,O];omega
theorem Pl{t:List Nd}(I:sf t):(oW 0 (pJ t)).count true=t.length/\(oW 0 (pJ t)).length=2*t.length:=by
 obtain⟨D,w,h⟩:=I.pJ
 obtain⟨m,N,O⟩:=Ak h
 have u:(pJ t).length=t.length:=by simp[pJ]
 refine⟨?_,?_⟩
 .rw[w] at u⊢
  rw[N,List.count_append,O.XW,u]
  simp
 .rw[zr _ _ (by rw[w];exact⟨Nat.le_refl _,h.e⟩),u];omega
end Go.Ex
namespace Go.Proofs.fv
open Go.Ex Go.X
theorem mA.UK{H:dw}{b u I N U:Nat}{t:List Nd}{O:List qL}{Y:List Nat}(s:mA H b u I N U t O Y):u<U/\I<U:=by
 obtain⟨F,⟨_,_,_,_,_,_,_,_,_,h,_⟩,_,Z⟩:=s.pb
 obtain⟨W,w,_,hw⟩:=s.wb
 exact⟨Z _ h,hw _ w.own.1⟩
theorem GY{H:dw}{b u O N U:Nat}{t:List Nd}{Y:List qL}{Z:List Nat}(s:mA H b u O N U t Y Z)(ht:sf t){i:Nat}{n:Nd}(hn:t[i]?=some n){R:Int->dw->Prop}
 (hR:∀(p:Nat) H',p<(oW 0 (pJ t)).length->XA (oW 0 (pJ t)) (p:Int)=true->rk (oW 0 (pJ t)) p true=i->qI (oW 0 (pJ t)) (p+1)=n.d+1->mA H' b u O N U t Y Z->Fr (gF u O) H H'->R (p:Int) H'):iB.C (some ⟨u,0,none⟩) (i:Int) H R:=by
 obtain⟨p,w,W,q2,q3⟩:=Sb ht hn
 obtain⟨F,ps,hF⟩:=s.ps
 refine ps.place _ λx H' hx I=>?_
 rcases hx with⟨p',ab,r1,r2,rfl⟩|⟨hx,_⟩
 .obtain rfl:=B9 w ab W r1 (by omega)
  exact hR p H' w (by rw[SC w];exact W) q2 q3 (s.shape hF I) (I.fr.mono λ_ h=>.inl h)
 .have:=yM w W
  omega
theorem Ft{H:dw}{b u I N U:Nat}{t:List Nd}{O:List qL}{W:List Nat}(s:mA H b u I N U t O W){p:Nat}(hp:p<(oW 0 (pJ t)).length){R:Int->dw->Prop}
 (Y:∀H',mA H' b u I N U t O W->Fr (gF u I) H H'->R (qI (oW 0 (pJ t)) (p+1)) H'):ig.C (some ⟨u,0,none⟩) (p:Int) H R:=by
 obtain⟨F,Z,hF⟩:=s.ps
 refine Z.Tz _ λH' w=>?_
 rw[if_pos ⟨by omega,by omega⟩,show((p:Int)+1).toNat=p+1 by omega]
 exact Y H' (s.shape hF w) (w.fr.mono λ_ h=>.inl h)
theorem VE{H:dw}{w:List qL}{p:dC}{l c:Nat}(h:jK 7 H eC (rN (w.map VF)) p l c){g:Nat}{n:Nd}(I:w[g]?=some (y5 n)){K:Int->Int->dE->dE->dE->dE->dC->Nat->Nat->Prop}(N:K n.k 0 (eJ n.p) (eJ n.l) (eJ n.u) (eJ []) none 0 0):
 ∃x:dA,p=some x/\0<=(g:Int)/\(g:Int)<(l:Int)/\fx H (x.add ((g:Int).toNat*7)) K:=by
 obtain⟨O,W⟩:=jK.at (L:=(w.map VF).map wj) (wL _) h (by decide)
 obtain⟨hi,I⟩:=List.getElem?_eq_some_iff.1 I
 simp only[List.length_map] at O
 obtain⟨a,Y,Z⟩:=W g (by simpa using hi)
 exact⟨a,Y,by omega,by omega,ja _ _ _ _ _ _ _ _ _ (λj hj=>by rw[Int.toNat_natCast,Z j hj,List.getElem_map,List.getElem_map,I];rfl) N⟩
theorem QD{H:dw}{b I O N U:Nat}{t:List Nd}{ks:List qL}{tg:List Nat}(a0:gG H)(b1:7<I/\7<O)(s:mA H b I O N U t ks tg)(ht:sf t){i:Nat}{n:Nd}(hn:t[i]?=some n){R:Int->Int->dE->dE->dE->dE->dC->Nat->Nat->dw->Prop}
 (hR:∀q c H',mA H' b I O N U t ks tg->Fr (gF I O) H H'->jK 4 H' eF (gk (n.gh.map rA)) q n.gh.length c->(∀k,eB q k->Array.size H<=k)->R n.k n.d (eJ n.p) (eJ n.l) (eJ n.u) (eJ n.v) q n.gh.length c H'):jX.C (some ⟨b,0,none⟩) (i:Int) H R:=by
 apply jX.calls
 unfold jX.W
 have a3:=(List.getElem?_eq_some_iff.1 hn).1
 have b2:=ht.d0 hn
 obtain⟨n',g,aH,a4,aq⟩:=s.tk.2 i a3
 have en:n'=n:=by rw[hn] at aH;exact(Option.some.inj aH).symm
 rw[en] at aq
 obtain⟨a5,a6⟩:=ht.gh _ (List.mem_of_getElem? hn)
 refine dN λZ g1=>dN λH2 g2=>?_
 have f1:Fr fa H Z:=g1▸Fr.new H _ _
 have f2:Fr fa Z H2:=g2▸Fr.new Z _ _
 have n1:js Z (Array.size H) ⟨0,0,[],[],[],[],[]⟩ none 0:=g1▸eU
 have n2:js H2 (Array.size Z) ⟨0,0,[],[],[],[],[]⟩ none 0:=g2▸eU
 have s2:=(s.fC f1).fC f2
 have z1:=eR n1
 have hz:=s.UK
 have hu:=s.up
 have ba:=f1.dF f2
 have ng:∀{k:Nat},Array.size H<=k->¬gF I O k:=λhk h=>by rcases h with rfl|rfl<;>omega
 have ac:∀{H' ad:dw}{b:Nat},Fr (gF I O) H H'->Fr (λk=>k=b) H' ad->Array.size H<=b->Fr (gF I O) H ad:=λf f' hb=>f.trans f' λk hk=>.inr (hk▸hb)
 have sk:∀{H' ad:dw}{b':Nat},mA H' b I O N U t ks tg->Fr (λk=>k=b') H' ad->Array.size H<=b'->mA ad b I O N U t ks tg:=λs f hb=>s.eO f λk hk=>by omega
 refine dD (λ_ H'=>mA H' b I O N U t ks tg/\Fr (gF I O) H H'/\js H' (Array.size H) ⟨0,0,[],[],[],[],[]⟩ none 0/\js H' (Array.size Z) ⟨n.k,0,n.p,n.l,n.u,[],[]⟩ none 0) ?_ ?_
 .obtain⟨gp,ga,np,nc,Y,_⟩:=s2.fi
  obtain⟨W,w,hW⟩:=s2.wb
  refine⟨_,rfl,_,(dO Y 0 1).trans rfl,FX w _ (λi' ah H4 e w4 f4=>?_) λho=>by rw[s.tk.1] at ho;omega⟩
  obtain rfl:i=i':=by omega
  have s4:=s2.Xb hW w4 f4
  obtain⟨gp,ga,np,nc,Y,h2,_⟩:=s4.fi
  have be:tg[i]=g:=(List.getElem?_eq_some_iff.1 a4).2
  rw[be]
  have bf:Fr (gF I O) H H4:=(ba.mono λ_ h=>h.elim).trans f4 λk h=>.inl (.inr h)
  have aI:Fr (gF I O) H2 H4:=f4.mono λk h=>.inr h
  have bg:js H4 (Array.size H) ⟨0,0,[],[],[],[],[]⟩ none 0:=aI.fi (f2.fi n1 λh=>h) (ng (Nat.le_refl _))
  have bh:js H4 (Array.size Z) ⟨0,0,[],[],[],[],[]⟩ none 0:=aI.fi n2 (ng (by omega))
  refine dD (λq H'=>q=(true,())/\H4=H') (fD rfl ⟨_,rfl,_,_,_,(dO Y 0 3).trans rfl,?_,rfl⟩) ?_
  .have:=(List.getElem?_eq_some_iff.1 aq).1
   rw[decide_eq_true (by omega)]
  rintro _ _ ⟨rfl,rfl⟩
  refine eN rfl ⟨_,rfl,_,_,_,(dO Y 0 3).trans rfl,VE h2 aq (tR bh rfl λH6 b6 f6=>?_)⟩
  exact⟨sk s4 f6 (by omega),ac bf f6 (by omega),f6.fi bg (by omega),b6⟩
 .rintro _ H3 ⟨s3,f3,m3,k3⟩
  obtain⟨gp,ga,np,nc,Y,_⟩:=s3.fi
  have c0:=(dO Y 0 0).trans rfl
  refine⟨_,rfl,_,c0,_,rfl,_,c0,GY s3 ht hn λp H7 hp ho hr he s7 f7=>?_⟩
  obtain⟨gp,ga,np,nc,Y,_⟩:=s7.fi
  refine⟨⟨_,(dO Y 0 0).trans rfl,rfl⟩,Ft s7 hp λH8 s8 f8=>?_⟩
  have aA:Fr (gF I O) H3 H8:=f7.trans f8 λk h=>.inl h
  have bn:Fr (gF I O) H H8:=f3.trans aA λk h=>.inl h
  have m8:=aA.fi m3 (ng (Nat.le_refl _))
  have k8:=aA.fi k3 (ng (by omega))
  rw[he,mR (by omega) (by omega),show n.d+1-1=n.d by omega]
  refine hP (o:=1) k8 (by simp[oe]) λH9 k9 f9=>?_
  have k9:js H9 (Array.size Z) ⟨n.k,n.d,n.p,n.l,n.u,[],[]⟩ none 0:=by rw[js,k9];simp[oe]
  have m9:=f9.fi m8 (by omega)
  have s9:=sk s8 f9 (by omega)
  have bo:=ac bn f9 (by omega)
  obtain⟨gp,ga,np,nc,Y,_,bp,_⟩:=s9.fi
  refine⟨_,rfl,_,(dO Y 0 2).trans rfl,vw bp.Va s9.TF _ (λi' ah bq e ai=>?_) λho=>by rw[List.length_map] at ho;omega⟩
  obtain rfl:i=i':=by omega
  have ev:(t.map λn=>eJ n.v)[i]'ah=eJ n.v:=by rw[List.getElem_map,(List.getElem?_eq_some_iff.1 hn).2]
  rw[ev]
  have br:=s9.fC ai
  have aV:Fr (gF I O) H bq:=bo.trans ai λk h=>h.elim
  refine hP (o:=5) (ai.fi k9 λh=>h) (by simp[oe]) λbu aj aB=>?_
  have aj:js bu (Array.size Z) ⟨n.k,n.d,n.p,n.l,n.u,n.v,[]⟩ none 0:=by rw[js,aj];simp[oe]
  have aJ:=aB.fi (ai.fi m9 λh=>h) (by omega)
  have aC:=sk br aB (by omega)
  have aW:=ac aV aB (by omega)
  obtain⟨gp,ga,np,nc,Y,_,_,aX,_⟩:=aC.fi
  refine⟨_,rfl,_,(dO Y 0 4).trans rfl,vw aX.Va aC.TF _ (λi' ah aK e aa=>?_) λho=>by rw[List.length_map] at ho;omega⟩
  obtain rfl:i=i':=by omega
  have ea:(t.map λn=>eJ (pk n.gh))[i]'ah=eJ (pk n.gh):=by rw[List.getElem_map,(List.getElem?_eq_some_iff.1 hn).2]
  rw[ea]
  have af:Fr (gF I O) H aK:=aW.trans aa λk h=>h.elim
  have bv:gG aK:=fM a0 af λj hj hh=>by rcases hh with rfl|rfl<;>omega
  refine EE bv a6 a5 λq c b3 bx ag ak=>?_
  have aY:=af.size
  refine hP (o:=6) (ak.fi (aa.fi aj λh=>h) λh=>h) (by simp[oe]) λbz aD am=>?_
  have aD:js bz (Array.size Z) n q c:=by rw[js,aD];simp[oe]
  have bA:=am.fi (ak.fi (aa.fi aJ λh=>h) λh=>h) (by omega)
  have bB:=sk ((aC.fC aa).fC ak) am (by omega)
  have aZ:=ac (af.trans ak λk h=>h.elim) am (by omega)
  have bC:=bx.eO am λk hk e=>by have:=ag k hk;have:=eR (aa.fi aj λh=>h);omega
  refine ja _ _ _ _ _ _ _ _ _ (λj hj=>aD.cell j) (tR bA rfl λaL aE aF=>?_)
  have aE:js aL (Array.size H) n q c:=aE
  exact ja _ _ _ _ _ _ _ _ _ (λj hj=>aE.cell j) (hR q c aL (sk bB aF (Nat.le_refl _)) (ac aZ aF (Nat.le_refl _)) (bC.eO aF λk hk e=>by have:=ag k hk;have:=eR (aa.fi aJ λh=>h);omega) λk hk=>Nat.le_trans aY (ag k hk))
theorem Q0{H:dw}{b gs gw N U:Nat}{t:List Nd}{ks:List qL}{tg:List Nat}(s:mA H b gs gw N U t ks tg)(h:sf t){R:Int->dw->Prop}(u:R (t.length:Int) H):ky.C (some ⟨b,0,none⟩) H R:=by
 apply ky.calls
 unfold ky.W
 obtain⟨Z,ga,np,nc,w,_⟩:=s.fi
 obtain⟨F,I,_⟩:=s.ps
 have O:=(Pl h).2
 have Y:=h.len
 refine dH rfl ⟨_,rfl,_,(dO w 0 0).trans rfl,I.len ⟨by decide,eZ ?_⟩⟩
 have e:Int.tdiv ((oW 0 (pJ t)).length:Int) 2=(t.length:Int):=by
  rw[O,Int.tdiv_eq_ediv_of_nonneg (by omega)];omega
 rw[e,mR (by omega) (by omega)]
 exact u
structure TI(H:dw)(b gs gw N U:Nat)(T:List Nd)(ks:List qL)(tg:List Nat)(g:Nat)(L:List Lv)(G:Nat->Prop)(sp:dC)(sc:Nat)(t:List TN)(A:Nat->Prop)(p:dC)(l c:Nat)(H':dw):Prop where
 tr:jK 7 H' eC (rN t) p l c
 at':∀y∈t,eY H' y.q (gk y.n.gh)/\∀k,eB y.q k->A k
 s:zd H' g G L sp sc
 d:mA H' b gs gw N U T ks tg
 f:Fr (gF gs gw) H H'
 np:∀k,eB p k->Array.size H<=k/\¬A k
 ng:∀k,G k->Array.size H<=k/\¬eB p k/\¬A k
 na:∀k,A k->Array.size H<=k/\k<Array.size H'
section
variable {H H' Bw:dw} {b gs gw N U:Nat} {T:List Nd} {ks:List qL} {tg:List Nat} {g:Nat} {L:List Lv} {G:Nat->Prop} {sp:dC} {sc:Nat} {t:List TN} {A:Nat->Prop} {p:dC} {l c:Nat}
theorem TI.step(h:TI H b gs gw N U T ks tg g L G sp sc t A p l c H'){F:Nat->Prop}(f:Fr F H' Bw)(I:∀k,F k->gF gs gw k\/Array.size H<=k/\¬G k/\¬eB p k/\¬A k)(Z:Array.size H>gs/\Array.size H>gw)(Y:mA Bw b gs gw N U T ks tg):TI H b gs gw N U T ks tg g L G sp sc t A p l c Bw:=by
 have W:∀k,Array.size H<=k->¬gF gs gw k:=λk u h=>by rcases h with rfl|rfl<;>omega
 exact⟨h.tr.eO f λk u w=>(I k w).elim (W k (h.np k u).1) λq=>q.2.2.1 u,λy O=>⟨(h.at' y O).1.eO f λk u w=>(I k w).elim (W k (h.na k ((h.at' y O).2 k u)).1) λq=>q.2.2.2 ((h.at' y O).2 k u),(h.at' y O).2⟩,h.s.eO f λk u w=>(I k w).elim (W k (h.ng k u).1) λq=>q.2.1 u,Y,h.f.trans f λk u=>(I k u).imp id λq=>q.1,h.np,h.ng,λk u=>⟨(h.na k u).1,Nat.lt_of_lt_of_le (h.na k u).2 f.size⟩⟩
end
theorem Ow{H:dw}(aA:gG H){b gs gw N U:Nat}(bi:7<gs/\7<gw){T:List Nd}{ks:List qL}{tg:List Nat}(s:mA H b gs gw N U T ks tg)(ht:sf T){R:dC->Nat->Nat->dw->Prop}
 (hR:∀p l c t H',jK 7 H' eC (rN t) p l c->(∀y∈t,eY H' y.q (gk y.n.gh))->t.map TN.n=T->Fr (gF gs gw) H H'->R p l c H'):jY.C (some ⟨b,0,none⟩) H R:=by
 apply jY.calls
 unfold jY.W
 obtain⟨LL,bj,hD⟩:=ht.c
 have bO:=ht.len
 have hz:=s.UK
 have hu:=s.up
 have zt:=jP aA
 refine Bp λH1 s1 f1=>?_
 have aT:Array.size H>gs/\Array.size H>gw:=by omega
 have lo:∀k,Array.size H<=k->¬gF gs gw k:=λk u h=>by rcases h with rfl|rfl<;>omega
 generalize cg:Array.size H=g at s1
 refine dD (λs H'=>∃p l c t,s=((p,l,c),())/\jK 7 H' eC (rN t) p l c/\(∀y∈t,eY H' y.q (gk y.n.gh))/\t.map TN.n=T/\Fr (gF gs gw) H H') ?_ ?_
 .refine Q0 (s.fC f1) ht (eW (λn s H'=>∃(i:Nat)(L:List Lv)(G:Nat->Prop)(sp:dC)(sc:Nat)(t:List TN)(A:Nat->Prop)(p:dC)(c:Nat),i<=T.length/\n=T.length-i/\s=((p,i,c),(i:Int),())/\t.map TN.n=T.take i/\HG LL (L.map Lv.d) i/\TI H b gs gw N U T ks tg g L G sp sc t A p i c H') T.length
   ⟨0,[],λk=>k=g,none,0,[],λ_=>False,none,0,by omega,rfl,rfl,rfl,.inl ⟨rfl,rfl⟩,jK.nil _ _ _,λy Y=>(by cases Y),s1,s.fC f1,f1.mono λ_ h=>h.elim,λk u=>absurd u (fm k),λk u=>⟨by have u:k=g:=u;omega,fm k,λh=>h⟩,λk u=>u.elim⟩ ?_)
  rintro n _ H4 ⟨i,L,G,sp,sc,t,A,p,c,hi,rfl,rfl,eT,aU,O⟩
  dsimp only
  refine eE (λaV=>?_) λab=>?_
  rotate_left
  .have ab:i=T.length:=by omega
   rw[ab,List.take_length] at eT
   exact⟨p,i,c,t,rfl,O.tr,λy Y=>(O.at' y Y).1,eT,O.f⟩
  have aV:i<T.length:=by omega
  obtain⟨n,hn⟩:∃n,T[i]?=some n:=⟨_,List.getElem?_eq_getElem aV⟩
  have bm:(kL::LL)[i]?=some n:=by rw[<-bj];exact hn
  obtain⟨u,-⟩:=tQ hD.w aU bm
  have tk:T.take (i+1)=T.take i++[n]:=by rw[List.take_add_one,hn];rfl
  obtain⟨dn,av,ch⟩:∃dn:Nat,n.d=(dn:Int)/\dn<=L.length+1:=by
   cases u with
   |doc hi hn hL hs=>exact⟨0,by rw[hn];rfl,by omega⟩
   |lf hn hm h1 hs=>exact⟨_,by rw[hn],by rw[List.length_map] at h1;omega⟩
   |el hn h1 hm ha ho hs=>exact⟨_,by rw[hn];rfl,by rw[List.length_map] at h1;omega⟩
  have bS:L.length<=30:=by
   rcases aU with⟨_,h⟩|⟨_,_,_,_,h,_⟩
   .rw[List.map_eq_nil_iff.1 h];exact Nat.zero_le _
   .rw[List.length_map] at h;exact h
  have t4:gG H4:=fM aA O.f λj hj I=>by rcases I with rfl|rfl<;>omega
  have z4:=O.f.size
  refine dD (λs H'=>∃(L:List Lv)(G:Nat->Prop)(sp:dC)(sc:Nat)(t:List TN)(A:Nat->Prop)(p:dC)(c:Nat),s=((p,i+1,c),())/\t.map TN.n=T.take (i+1)/\HG LL (L.map Lv.d) (i+1)/\TI H b gs gw N U T ks tg g L G sp sc t A p (i+1) c H') (QD t4 bi O.d ht hn λaq ac H6 d6 f6 q6 aW=>?_) ?_
  rotate_left
  .rintro _ H5 ⟨L,G,sp,sc,t,A,p,c,rfl,e5,bq,br⟩
   exact⟨T.length-(i+1),by omega,i+1,L,G,sp,sc,t,A,p,c,by omega,rfl,by show(_,_,_)=_;rw[qN i (by omega)],e5,bq,br⟩
  have bu:=O.step f6 (λk u=>.inl u) aT d6
  have z6:=f6.size
  have aX:(n.gh.map rA).length=n.gh.length:=List.length_map _
  have cp:=λK hK=>oa (H:=H6) ⟨{n with gh:=n.gh.map rA},aq,ac⟩ (K:=K) hK
  rw[<-aX]
  refine cp _ λH8 b8 f8=>?_
  have l6:Array.size H6<Array.size H8:=eR b8
  have q8:=q6.fC f8
  have ai:TI H b gs gw N U T ks tg g L G sp sc t A p i c H8:=bu.step (F:=fa) f8 (λk u=>u.elim) aT (d6.fC f8)
  have lG:=O.s.hl
  have lp:∀k,eB p k->k<Array.size H4:=λk u=>O.tr.gE u
  refine dD (λ_ H'=>zd H' g G (L.take (dn-1)) sp sc/\Fr (λk=>k=g) H8 H') ?_ ?_
  .refine eW (λm s H'=>m<=L.length/\dn-1<=m/\zd H' g G (L.take m) sp sc/\Fr (λk=>k=g) H8 H') L.length ⟨Nat.le_refl _,by omega,by rw[List.take_length];exact ai.s,Fr.refl _ _⟩ ?_
   rintro m _ bv ⟨ci,cj,aw,aF⟩
   have gl:g<Array.size H4:=lG _ O.s.hf
   have aY:js bv (Array.size H6) {n with gh:=n.gh.map rA} aq ac:=aF.fi b8 (by omega)
   have aZ:(L.take m).length=m:=by rw[List.length_take];omega
   refine⟨_,aY.cell 1,F5 aw ⟨⟨_,aY.cell 1,rfl⟩,eE (λab=>?_) λab=>?_⟩⟩
   .rw[aZ] at ab
    have ab:max n.d 1<=(m:Int):=ab
    obtain⟨k,rfl⟩:∃k,m=k+1:=⟨m-1,by omega⟩
    have bw:L.take (k+1)=L.take k++[L[k]]:=by rw[List.take_add_one];simp[show k<L.length by omega]
    rw[bw] at aw
    exact HI aw (by rw[List.length_take];omega) λck bx bz=>⟨k,by omega,by omega,by omega,bx,aF.trans bz λk u=>.inl u⟩
   .rw[aZ] at ab
    have ab:¬max n.d 1<=(m:Int):=ab
    have:m=dn-1:=by omega
    subst this
    exact⟨aw,aF⟩
  rintro _ H9 ⟨s9,f9⟩
  have gl:g<Array.size H4:=lG _ O.s.hf
  have gN:=O.ng _ O.s.hf
  have b9:js H9 (Array.size H6) {n with gh:=n.gh.map rA} aq ac:=f9.fi b8 (by omega)
  have q9:=q8.eO f9 λk u e=>by have:=aW k u;omega
  have d9:=ai.d.eO f9 λk u=>by omega
  have z9:=f9.size
  have bC:=ai.tr.eO f9 λk u e=>gN.2.1 (e▸u)
  have bD:∀y∈t,eY H9 y.q (gk y.n.gh):=λy Y=>(ai.at' y Y).1.eO f9 λk u e=>gN.2.2 (e▸(ai.at' y Y).2 k u)
  have a0:Fr (gF gs gw) H H9:=ai.f.trans f9 λk u=>.inr (by omega)
  have a3:(L.take (dn-1)).map Lv.d=(L.map Lv.d).take (dn-1):=List.map_take
  have nq:∀k,eB aq k->Array.size H4<=k/\k<Array.size H9/\k≠Array.size H6:=λk u=>⟨aW k u,q9.gE u,λe=>by have:=q6.gE u;omega⟩
  refine dD (λ_ H'=>∃(L':List Lv)(G':Nat->Prop)(sp':dC)(sc':Nat),HG LL (L'.map Lv.d) (i+1)/\zd H' g G' L' sp' sc'/\js H' (Array.size H6) n aq ac/\jK 4 H' eF (gk n.gh) aq n.gh.length ac/\Fr (λk=>G k\/k=Array.size H6\/eB aq k) H9 H'/\∀k,G' k->G k\/Array.size H9<=k) ⟨_,b9.cell 0,eE (λZ=>?_) λZ=>?_⟩ ?_
  .have Z:n.k=2:=Z
   cases u with
   |doc hi hn hL hs=>rw[hn] at Z;cases Z
   |lf hn hm h1 hs=>rw[hn] at Z;exact absurd Z (pz hm).1
   |@el nm al dd aa h1 hm ha ho hs=>
    have e:dd=dn:=by rw[aa] at av;exact Int.ofNat.inj av
    subst e
    obtain⟨n1,n2,n6⟩:=ha.n
    rw[<-a3] at aa ho hs
    have aJ:n.gh.map rA=al.map jv:=by rw[aa];exact FF _ _
    rw[<-aX,aJ] at q9
    rw[aJ] at b9
    have t9:gG H9:=fM aA a0 λj hj I=>by rcases I with rfl|rfl<;>omega
    refine Br t9 s9 (by rw[List.length_take];omega) b9 q9 ⟨λI=>by have:=lG _ I;omega,λk u=>⟨λI=>by have:=lG _ I;have:=nq k u;omega,(nq k u).2.2,by have:=nq k u;omega⟩,by omega,λk u=>by have:=(O.ng k u).1;omega⟩ (Cz ha.m) n2 (by rw[List.length_map];exact n6) (by rw[show({n with gh:=al.map jv}:Nd).p=nm.1 by rw[aa];rfl];exact ho) λF' p2 c2 q2 m cm bb bE aK bF bc=>⟨_,F',p2,c2,by rw[List.map_append];exact hs,bb,?_,?_,bF,bc⟩
    .rw[js,bE,aa]
     have e1:((L.take (dd-1)).map Lv.d++[mS (al.map jv)]:List (List At))=(L.take (dd-1)).map Lv.d++[mS (al.map jv)]:=rfl
     simp[oe,uj]
    .have e1:(al.map jv).map (ie ((L.take (dd-1)).map Lv.d++[mS (al.map jv)]))=n.gh:=by rw[aa];rfl
     have e2:(al.map jv).length=n.gh.length:=by rw[<-e1,List.length_map (ie _)]
     dsimp only at aK
     rw[e1,e2] at aK
     exact aK
  .have Z:n.k≠2:=Z
   have au:n.gh=[]/\HG LL ((L.take (dn-1)).map Lv.d) (i+1):=by
    cases u with
    |doc hi hn hL hs=>exact⟨by rw[hn];rfl,by rw[hi,List.map_eq_nil_iff.1 hL,List.take_nil];exact hs⟩
    |@lf k lo v dd aa hm h1 hs=>
     have e:dd=dn:=by rw[aa] at av;exact Int.ofNat.inj av
     subst e
     exact⟨by rw[aa],by rw[a3];exact hs⟩
    |el aa=>rw[aa] at Z;exact absurd rfl Z
   have en:({n with gh:=n.gh.map rA}:Nd)=n:=by rw[au.1];cases n;simp_all
   rw[en] at b9
   rw[au.1] at q9⊢
   exact⟨L.take (dn-1),G,sp,sc,au.2,s9,b9,q9,Fr.refl _ _,λk u=>.inl u⟩
  .rintro _ aL ⟨L',G',sp',sc',bG,aM,bH,bI,ao,be⟩
   have cn:=ao.size
   have bf:Fr (gF gs gw) H aL:=a0.trans ao λk u=>.inr (by
    rcases u with h|h|h
    .exact(O.ng k h).1
    .omega
    .have:=nq k h;omega)
   have a4:∀k,(G k\/k=Array.size H6\/eB aq k)->¬eB p k/\¬A k:=λk u=>by
    rcases u with h|h|h
    .exact(O.ng k h).2
    .exact⟨λI=>by have:=lp k I;omega,λI=>by have:=(O.na k I).2;omega⟩
    .exact⟨λI=>by have:=lp k I;have:=nq k h;omega,λI=>by have:=(O.na k I).2;have:=nq k h;omega⟩
   have bg:=bC.eO ao λk u I=>(a4 k I).1 u
   have bh:∀y∈t,eY aL y.q (gk y.n.gh):=λy Y=>(bD y Y).eO ao λk u I=>(a4 k I).2 ((O.at' y Y).2 k u)
   have bJ:mA aL b gs gw N U T ks tg:=d9.eO ao λk u=>by
    have co:U<=Array.size H:=hu
    rcases u with h|h|h
    .have:=(O.ng k h).1;omega
    .omega
    .have:=nq k h;omega
   refine bH.ld (dN λcq bK=>sb (new:=wj ⟨n,aq,ac⟩) bg bK rfl rfl (wK _) (by omega) (by decide) λp' c' cr bL aj aO=>?_)
   have ax:∀k,G' k->Array.size H<=k/\¬eB p k/\¬(A k\/eB aq k):=λk u=>by
    rcases be k u with h|h
    .exact⟨(O.ng k h).1,(O.ng k h).2.1,λI=>I.elim (O.ng k h).2.2 λI=>by have:=lG k h;have:=nq k I;omega⟩
    .exact⟨by omega,λI=>by have:=lp k I;omega,λI=>I.elim (λI=>by have:=(O.na k I).2;omega) λI=>by have:=nq k I;omega⟩
   have nA:∀k,A k\/eB aq k->Array.size H<=k/\k<Array.size H9/\¬eB p k:=λk u=>by
    rcases u with h|h
    .exact⟨(O.na k h).1,by have:=(O.na k h).2;omega,λI=>(O.np k I).2 h⟩
    .have:=nq k h;exact⟨by omega,by omega,λI=>by have:=lp k I;omega⟩
   refine⟨L',G',sp',sc',t++[⟨n,aq,ac⟩],λk=>A k\/eB aq k,p',c',rfl,by rw[List.map_append,eT,tk];rfl,bG,by rw[<-rM];exact bL,λy Y=>?_,aM.eO aj λk u I=>(ax k u).2.1 I,bJ.eO aj λk u=>by have:=(O.np k u).1;omega,bf.trans aj λk u=>.inr (O.np k u).1,λk u=>?_,λk u=>⟨(ax k u).1,λI=>?_,(ax k u).2.2⟩,λk u=>⟨(nA k u).1,by have:=(nA k u).2.1;have:=aj.size;omega⟩⟩
   .rcases List.mem_append.1 Y with Y|Y
    .exact⟨(bh y Y).eO aj λk u I=>(nA k (.inl ((O.at' y Y).2 k u))).2.2 I,λk u=>.inl ((O.at' y Y).2 k u)⟩
    .rw[List.mem_singleton] at Y
     subst Y
     exact⟨bI.cells.eO aj λk u I=>(nA k (.inr u)).2.2 I,λk u=>.inr u⟩
   .rcases aO k u with h|h
    .exact⟨(O.np k h).1,λI=>(nA k I).2.2 h⟩
    .exact⟨by omega,λI=>by have:=(nA k I).2.1;omega⟩
   .rcases aO k I with h|h
    .exact(ax k u).2.1 h
    .have:=aM.hl k u;omega
 .rintro _ H2 ⟨p,l,c,t,rfl,h1,h2,h3,h4⟩
  exact hR p l c t H2 h1 h2 h3 h4
theorem Mc{H:dw}(h:gG H):Gd H:=by
 have e:oA SZ=((List.range 64).map λi=>Value.int .u8 ((Go.Lib.deBruijn64tab.getD i 0:Nat):Int)).toArray:=by kernel_rfl
 intro i hi
 rw[dO h.h5,Nat.zero_add,e]
 simp[hi]
def WA(H:dw)(x b:Nat):Prop:=H[x]?=some (.cells #[.iface qp (.pointer (some ⟨b,0,none⟩))] qO (0,0))
theorem OX{H:dw}{R:Int->Int->Int->Int->dw->Prop}(h:∀H',Fr fa H H'->R 100000 30 3000 30 H'):jD.C H R:=by
 apply jD.calls
 unfold jD.W
 exact eZ (mP (cs:=#[.int .i64 0,.int .i64 0,.int .i64 0,.int .i64 0]) (t:=iG) (vs:=[.int .i64 100000,.int .i64 30,.int .i64 3000,.int .i64 30]) (Fr.refl fa _) rfl λH' b f _=>qx _ _ _ _ (λj u=>eD b j) (h H' f))
theorem K3{H:dw}(ht:gG H){b c:Nat}(I b2 b4 b8 w:Bool){f:Fo}{u:By}(h:eY H (some ⟨b,0,none⟩) (sn (lR I++(u++pA w))))(hc:(lR I++(u++pA w)).length<=c)(hl:(lR I++(u++pA w)).length<=100000)(h0:∃x r,u=x::r/\x≠239)(hu:yD u)(ha:∀x∈u,Lf x/\x≠13)(hS:QZ b2 b4 b8 f (qX w) (u++qX w))(hD:Eb (mI [] 1 f))
 {R:dC->Int->dw->Prop}(hR:∀x y O Y N U ks tg H',WA H' x y->mA H' y O Y N U (kL::mI [] 1 f) ks tg->Fr fa H H'->7<O/\7<Y->Array.size H<=O/\Array.size H<=Y->R (some ⟨x,0,none⟩) 0 H'):lT.C (some ⟨b,0,none⟩) (lR I++(u++pA w)).length c 100000 30 3000 30 H R:=by
 apply lT.calls
 unfold lT.W
 refine dN λH1 h1=>?_
 have f1:Fr fa H H1:=h1▸Fr.new H _ _
 have aj:H1[Array.size H]?=some (.cells #[.int .i64 100000,.int .i64 30,.int .i64 3000,.int .i64 30] iG (0,0)):=h1▸eU
 refine qx 100000 30 3000 30 (λj hj=>eD aj j) (Oj (eH ht f1) I b2 b4 b8 w (h.fC f1) hc hl h0 hu ha hS λp l c t H2 s2 a2 e2 n2 f2=>eI (λh=>h rfl) ?_)
 have Z:=f1.dF f2
 have t2:=eH ht Z
 refine Q4 t2 (Mc t2) ⟨s2,a2⟩ e2 ⟨⟨_,rfl,hD⟩⟩ λb O Y N U ks tg H3 s3 f3 aC aD=>eI (λh=>h rfl) (dN λH4 h4=>?_)
 have f4:Fr fa H3 H4:=h4▸Fr.new H3 _ _
 have z:=Z.size
 have zt:=jP ht
 exact hR (Array.size H3) b O Y N U ks tg H4 (h4▸eU) (s3.fC f4) ((Z.dF f3).dF f4) ⟨by omega,by omega⟩ ⟨by omega,by omega⟩
theorem Oe{H:dw}(O:gG H){x b u w N U:Nat}(h:WA H x b)(I:7<u/\7<w){T:List Nd}{Y:List qL}{Z:List Nat}(s:mA H b u w N U T Y Z)(hT:sf T){R:dC->Nat->Nat->dw->Prop}
 (hR:∀p l c t H',jK 7 H' eC (rN t) p l c->(∀y∈t,eY H' y.q (gk y.n.gh))->t.map TN.n=T->Fr (gF u w) H H'->R p l c H'):iv.C (some ⟨x,0,none⟩) H R:=by
 apply iv.calls
 unfold iv.W
 apply jg.calls
 unfold jg.W
 exact dH rfl ⟨_,rfl,_,(dO h 0 0).trans rfl,_,true,.inl ⟨rfl,rfl⟩,Ow O I s hT hR⟩
end Go.Proofs.fv
namespace Go.Ex
theorem SR{pre:By}{L:List (List At)}(h:∀d∈L,∀a∈d,vb a.p a.l≠pre):Ga pre L=none:=by
 unfold Ga
 rw[List.findSome?_eq_none_iff]
 intro d u
 unfold Fa
 rw[List.find?_eq_none.2 λa w=>by simpa using h d (List.mem_reverse.1 u) a w]
 rfl
theorem NN:∀q∈qK,lN q.1 q.2.1=true->vb q.1 q.2.1≠sm/\vb q.1 q.2.1≠JC/\q.2.2≠uX/\q.2.2≠uN/\(q.1≠[]->q.2.2≠[]):=by decide
def Uz(L:List (List At)):Prop:=∀d∈L,∀a∈d,OB a/\mf a=true
theorem Uz.YF{L:List (List At)}(h:Uz L):kC JC L=(uX,true):=by
 unfold kC
 rw[SR λd u a w=>(NN _ (h d u a w).1.m (h d u a w).2).2.1]
 rfl
theorem sY.Yw{T E:eK}{w:dC->Nat->Nat->dB}{H:dw}{g:Nat}{F:Nat->Prop}{L:List Lv}{p:dC}{c:Nat}(h:sY T E w H g F L p c):Uz (L.map Lv.d):=λd u a I=>by
 obtain⟨x,N,rfl⟩:=List.mem_map.1 u
 exact(h.hq x N).2.2.1 a I
end Go.Ex
namespace Go.Proofs.fv
open Go.Ex Go.X
abbrev Ee:=sY mq iW λq n c=>.slice q n c
theorem F8{H:dw}(w:gG H){a:At}(h:OB a){R:dE->Bool->dw->Prop}(I:∀H',Fr fa H H'->R (eJ (bif mf a then vb a.p a.l else[])) (mf a) H'):kK.C (eJ a.p) (eJ a.l) (eJ a.u) (eJ a.v) H R:=by
 have:=Ec w h.m (R:=R) I
 rw[h.u]
 exact this
variable {H:dw} {g:Nat} {F:Nat->Prop} {L:List Lv} {p:dC} {c:Nat}
theorem XC(h:Ee H g F L p c){t:Nat}(u:t<L.length){K:dC->Nat->Nat->Prop}(w:K L[t].q L[t].d.length L[t].c):
 ∃x:dA,(some ⟨g,0,none⟩:dC)=some x/\fU H (x.add 0) λI N xc=>∃y:dA,I=some y/\0<=(t:Int)/\(t:Int)<(N:Int)/\fU H (y.add (t:Int).toNat) K:=by
 obtain⟨a,rfl,O⟩:=h.hs.rd.get (i:=t) (v:=.slice L[t].q L[t].d.length L[t].c) (by simp[u])
 exact⟨_,rfl,_,_,_,(dO h.hg 0 0).trans rfl,a,rfl,by omega,by omega,_,_,_,O,w⟩
theorem QJ(ht:gG H)(h:Ee H g F L p c)(hl:L.length<=1048577)(pre:By){R:dE->Bool->dw->Prop}(u:∀H',Fr fa H H'->R (eJ (kC pre (L.map Lv.d)).1) (kC pre (L.map Lv.d)).2 H'):fW.C (some ⟨g,0,none⟩) (eJ pre) H R:=by
 apply fW.calls
 unfold fW.W
 refine eE (λhx=>?_) λhx=>dD (λ_ H'=>Fr fa H H'/\Ga pre (L.map Lv.d)=none) ?_ ?_
 .have:pre=JC:=gm hx
  subst this
  have u:=u H (Fr.refl _ _)
  rw[h.Yw.YF] at u
  exact u
 .refine⟨_,rfl,_,_,_,(dO h.hg 0 0).trans rfl,eZ ?_⟩
  rw[mR (by omega) (by omega)]
  refine eW (λt(q:Int×Unit) H'=>Fr fa H H'/\t<=L.length/\q.1=(t:Int)-1/\Ga pre (L.map Lv.d)=Ga pre ((L.map Lv.d).take t)) L.length ⟨Fr.refl _ _,Nat.le_refl _,rfl,by rw[List.take_of_length_le (by simp)]⟩ ?_
  rintro t ⟨_,_⟩ H' ⟨f,az,rfl,O⟩
  refine eE (λN=>?_) λN=>⟨f,?_⟩
  .have N:0<t:=by have N:(0:Int)<=(t:Int)-1:=N;omega
   obtain⟨t,rfl⟩:∃s,t=s+1:=⟨t-1,by omega⟩
   have Y:t<L.length:=by omega
   have et:((t+1:Nat):Int)-1=(t:Int):=by omega
   have aj:(L.map Lv.d).take (t+1)=(L.map Lv.d).take t++[L[t].d]:=by rw[List.take_add_one];simp[Y]
   rw[aj,E9] at O
   have hq:=h.hq L[t] (List.getElem_mem _)
   show eA (S:=Unit) _ _
   refine dD (λ_ H'=>Fr fa H H'/\Fa pre L[t].d=none) ?_ ?_
   .dsimp only
    rw[et]
    refine eW (λm(q:Int×Unit) H2=>∃i:Nat,q.1=(i:Int)/\i<=L[t].d.length/\m=L[t].d.length-i/\Fr fa H H2/\Fa pre L[t].d=Fa pre (L[t].d.drop i)) L[t].d.length ⟨0,rfl,by omega,rfl,f,rfl⟩ ?_
    rintro m ⟨_,_⟩ H2 ⟨i,rfl,hi,rfl,f2,Z⟩
    refine XC (h.fC f2) Y (eE (λw=>?_) λw=>⟨f2,?_⟩)
    .have w:i<L[t].d.length:=by have w:(i:Int)<(L[t].d.length:Int):=w;omega
     obtain⟨a,ha,ae⟩:=kj (hq.1.fC f2) w
     obtain⟨hm,af⟩:=hq.2.2.1 _ (List.getElem_mem w)
     have am:L[t].d.drop i=L[t].d[i]::L[t].d.drop (i+1):=List.drop_eq_getElem_cons w
     have aa:∀H3,Fr fa H2 H3->∃y:dA,L[t].q=some y/\dL H3 ((y.add (i*4)).add 3)=some (.string (eJ L[t].d[i].v)):=λH3 f3=>by
      obtain⟨b,hb,an⟩:=kj ((hq.1.fC f2).fC f3) w
      exact⟨b,hb,an 3 (by decide)⟩
     rw[am] at Z
     refine XC (h.fC f2) Y ?_
     generalize L[t].d[i]=I at ae hm af Z aa
     refine⟨a,ha,by omega,by omega,rf.ld (a:=I) (by rw[Int.toNat_natCast];exact ae) (F8 (eH ht f2) hm λH8 f8=>?_)⟩
     rw[af]
     refine eE (λe=>?_) λe=>eZ ⟨L[t].d.length-(i+1),by omega,i+1,?_,by omega,rfl,f2.dF f8,?_⟩
     .have e:vb I.p I.l=pre:=gm e
      obtain⟨y,hy,ap⟩:=aa H8 f8
      refine XC (h.fC (f2.dF f8)) Y ⟨y,hy,by omega,by omega,_,by rw[Int.toNat_natCast];exact ap,?_⟩
      have hv:Fa pre L[t].d=some I.v:=by rw[Z];unfold Fa;rw[List.find?_cons_of_pos (by simpa using e)];rfl
      have u:=u H8 (f2.dF f8)
      unfold kC at u
      rw[O,hv] at u
      exact u
     .show IntKind.i64.wrap ((i:Int)+1)=_
      exact qN i (by have:=hq.2.2.2;omega)
     .have e:vb I.p I.l≠pre:=λh=>e (by rw[h];rfl)
      rw[Z];unfold Fa;rw[List.find?_cons_of_neg (by simpa using e)]
    .have w:i=L[t].d.length:=by have w:¬(i:Int)<(L[t].d.length:Int):=w;omega
     rw[Z,w,List.drop_length]
     rfl
   .rintro _ H3 ⟨f3,hn⟩
    refine eZ ⟨t,by omega,f3,by omega,?_,?_⟩
    .show IntKind.i64.wrap (((t+1:Nat):Int)-1-1)=(t:Int)-1
     rw[mR (by omega) (by omega)];omega
    .rw[O,hn];rfl
  .have N:t=0:=by have N:¬(0:Int)<=(t:Int)-1:=N;omega
   rw[O,N]
   rfl
 .rintro _ H' ⟨f,hn⟩
  have u:=u H' f
  unfold kC at u
  have aq:(pre==JC)=false:=by rw[beq_eq_false_iff_ne];exactλe=>hx (by rw[e];rfl)
  rw[hn,aq] at u
  have e:decide (eJ pre=dM)=(pre==[]):=by
   by_cases e:pre=[]
   .subst e;rfl
   .rw[decide_eq_false (p:=eJ pre=dM) (λh=>e (gm (b:=[]) h)),beq_eq_false_iff_ne.2 e]
  rw[e]
  exact u
theorem D7{x:Lv}(h:Ee H g F (L++[x]) p c)(Y:L.length<=1048576){R:Bool->dw->Prop}(N:∀H',Ee H' g F L p c->Fr (λk=>k=g) H H'->R true H'):fX.C (some ⟨g,0,none⟩) H R:=by
 apply fX.calls
 unfold fX.W
 have u:=(dO h.hg 0 0).trans rfl
 have I:=h.hs.cap
 have w:(L++[x]).length=L.length+1:=by simp
 rw[w] at I
 rw[w] at u
 refine⟨_,rfl,_,_,_,u,eI (by omega) ⟨_,rfl,_,_,_,u,_,rfl,_,_,_,u,?_⟩⟩
 have O:IntKind.i64.wrap (((L.length+1:Nat):Int)-1)=(L.length:Int):=by rw[mR (by omega) (by omega)];omega
 dsimp only
 rw[O]
 refine⟨by omega,by omega,_,rfl,?_⟩
 rw[Qp,Int.toNat_natCast,Nat.sub_zero,Nat.sub_zero]
 exact sY.pop h λH' s f=>N H' s f
end Go.Proofs.fv
namespace Go.Ex
theorem Sl.n1{H:dw}{t:eK}{xs:List dB}{p:dC}{l c:Nat}:jK 1 H t xs p l c↔Sl H t xs p l c:=by
 unfold jK Sl
 simp only[Nat.mul_one]
theorem Sl.X0{H:dw}{t:eK}{xs:List dB}{p:dC}{l c:Nat}(h:Sl H t xs p l c):oo H 1 (.slice p l c) l xs:=by
 refine⟨rfl,?_⟩
 have w:=(Sl.n1.2 h).cells
 cases p with
 |none=>
  rcases h.2 with⟨_,u,_⟩|⟨b,cs,I,_⟩
  .exact⟨u,List.eq_nil_of_length_eq_zero (by rw[h.1,u])⟩
  .cases I
 |some a=>exact⟨by rw[h.1,Nat.mul_one],w⟩
theorem P7{al:List At}(I:(al.map j4).Nodup){i:Nat}(u:i<al.length):∀m∈al.take i,j4 al[i]≠j4 m:=λm N e=>by
 have w:al.take (i+1)=al.take i++[al[i]]:=by rw[List.take_add_one];simp[u]
 have h:(al.take i++[al[i]]).map j4=(al.map j4).take (i+1):=by rw[<-w,List.map_take]
 have:=(List.take_sublist (i+1) (al.map j4)).nodup I
 rw[<-h,List.map_append,List.nodup_append] at this
 exact this.2.2 _ (List.mem_map_of_mem N) _ (by simp) e.symm
end Go.Ex
namespace Go.Proofs.fv
open Go.Ex Go.X
theorem Bn{H:dw}(ht:gG H){g:Nat}{F:Nat->Prop}{L:List Lv}{p:dC}{c:Nat}(h:Ee H g F L p c)(hl:L.length<=1048576){ap:dC}{ac ml:Nat}{al:List At}(aY:al.length=ml)(ha:eY H ap (gk al))(hm:∀a∈al,OB a)(hn:(al.map j4).Nodup)(h6:al.length<=6){R:Int->dw->Prop}
 (hR:∀F' Y c' q n H',Ee H' g F' (L++[⟨al.filter mf,q,n⟩]) Y c'->Fr (λk=>k=g) H H'->(∀k,F' k->F k\/Array.size H<=k)->R 0 H'):fO.C (some ⟨g,0,none⟩) ap ml ac H R:=by
 subst aY
 apply fO.calls
 unfold fO.W
 refine dD (λs H'=>∃q n,s=((q,(al.filter mf).length,n),())/\jK 4 H' eF (gk (al.filter mf)) q (al.filter mf).length n/\(∀k,eB q k->Array.size H<=k)/\Fr fa H H') ?_ ?_
 .refine eW (λt s H'=>∃(i:Nat)(q:dC)(n:Nat),s=((q,((al.take i).filter mf).length,n),(i:Int),())/\i<=al.length/\t=al.length-i/\jK 4 H' eF (gk ((al.take i).filter mf)) q ((al.take i).filter mf).length n/\(∀k,eB q k->Array.size H<=k)/\Fr fa H H') al.length
   ⟨0,none,0,rfl,by omega,rfl,jK.nil _ _ _,λk u=>absurd u (fm k),Fr.refl _ _⟩ ?_
  rintro t _ H2 ⟨i,q,n,rfl,hi,rfl,s2,Z,f2⟩
  dsimp only
  refine eE (λI=>?_) λag=>?_
  rotate_left
  .have ag:i=al.length:=by have ag:¬(i:Int)<(al.length:Int):=ag;omega
   rw[ag,List.take_length] at s2⊢
   exact⟨q,n,rfl,s2,Z,f2⟩
  have I:i<al.length:=by have I:(i:Int)<(al.length:Int):=I;omega
  have ah:al.take (i+1)=al.take i++[al[i]]:=by rw[List.take_add_one];simp[I]
  have am:∀H3,Fr fa H H3->∃a,ap=some a/\∀j,j<4->dL H3 ((a.add ((i:Int).toNat*4)).add j)=(v8 al[i])[j]?:=λH3 f3=>by rw[Int.toNat_natCast];exact kj (ha.fC f3) I
  have an:=hm _ (List.getElem_mem I)
  have aE:=P7 hn I
  have w:(0:Int)<=(i:Int)/\(i:Int)<(al.length:Int):=by omega
  generalize al[i]=x at ah am an aE
  refine dD (λs H'=>∃q n,s=((q,((al.take (i+1)).filter mf).length,n),())/\jK 4 H' eF (gk ((al.take (i+1)).filter mf)) q ((al.take (i+1)).filter mf).length n/\(∀k,eB q k->Array.size H<=k)/\Fr fa H H') ?_ ?_
  rotate_left
  .rintro _ H3 ⟨q',n',rfl,s3,a3,f3⟩
   exact eZ ⟨al.length-(i+1),by omega,i+1,q',n',by show(_,_,_)=_;rw[qN i (by omega)],by omega,rfl,s3,a3,f3⟩
  obtain⟨a,a5,a6⟩:=am H2 f2
  refine⟨a,a5,w.1,w.2,rf.ld (a:=x) a6 (F8 (eH ht f2) an λH4 f4=>?_)⟩
  have ai:=f2.dF f4
  obtain⟨a4,aa,ab⟩:=am H4 ai
  cases hD:mf x with
  |false=>
   refine eN rfl ⟨q,n,?_,?_,Z,ai⟩<;>rw[ah,List.filter_append,List.filter_cons_of_neg (by simp[hD]),List.filter_nil,List.append_nil]
   exact s2.fC f4
  |true=>
   obtain⟨n1,n2,n3,n4,n5⟩:=NN _ an.m hD
   refine dH rfl ⟨a4,aa,w.1,w.2,_,ab 3 (by decide),a4,aa,w.1,w.2,_,ab 0 (by decide),dD (λ_ H'=>H4=H') (dD (λs H'=>s=(false,())/\H4=H') ?_ ?_) ?_⟩
   .refine eI (λe=>n1 (gm (b:=sm) e)) (eI (λe=>n2 (gm (b:=JC) e)) (fD (λe=>n2 (gm (b:=JC) e)) (eI (λe=>n3 (gm (b:=uX) e)) (eI (λe=>n4 (gm (b:=uN) e)) ?_))))
    by_cases hp:x.p=[]
    .exact dH (by rw[hp];rfl) ⟨rfl,rfl⟩
    .have e1:¬eJ x.p=dM:=λe=>hp (gm (b:=[]) e)
     have e2:¬eJ x.v=dM:=λe=>n5 hp (gm (b:=[]) e)
     exact eN (by rw[decide_eq_false e1];rfl) ⟨by rw[decide_eq_false e2],rfl⟩
   .rintro _ _ ⟨rfl,rfl⟩
    exact dH rfl rfl
   rintro _ _ rfl
   have s4:=s2.fC f4
   have aF:=List.length_filter_le mf (al.take i)
   rw[List.length_take] at aF
   refine dD (λ_ H'=>H4=H') (eW (λm(s:Int×Unit) H'=>∃k:Nat,s.1=(k:Int)/\k<=((al.take i).filter mf).length/\m=((al.take i).filter mf).length-k/\H4=H') ((al.take i).filter mf).length ⟨0,rfl,by omega,rfl,rfl⟩ ?_) ?_
   .rintro m ⟨_,_⟩ _ ⟨k,rfl,u,rfl,rfl⟩
    dsimp only
    refine eE (λaq=>?_) λ_=>rfl
    have aq:k<((al.take i).filter mf).length:=by omega
    obtain⟨b,hb,ar⟩:=kj s4.cells aq
    have aG:=aE _ (List.mem_filter.1 (List.getElem_mem aq)).1
    generalize((al.take i).filter mf)[k]=y at ar aG
    refine dD (λ_ H'=>H4=H') (dD (λs H'=>s=(false,())/\H4=H') ⟨b,hb,by omega,by omega,_,by rw[Int.toNat_natCast];exact ar 0 (by decide),a4,aa,w.1,w.2,_,ab 0 (by decide),eE (λe0=>⟨b,hb,by omega,by omega,_,by rw[Int.toNat_natCast];exact ar 1 (by decide),a4,aa,w.1,w.2,_,ab 1 (by decide),?_,rfl⟩) λ_=>⟨rfl,rfl⟩⟩ ?_) ?_
    .rw[decide_eq_false λe1=>aG (by unfold j4;rw[gm e0,gm e1])]
    .rintro _ _ ⟨rfl,rfl⟩
     exact dH rfl rfl
    .rintro _ _ rfl
     exact eZ ⟨((al.take i).filter mf).length-(k+1),by omega,k+1,qN k (by omega),by omega,rfl,rfl⟩
   rintro _ _ rfl
   refine⟨a4,aa,w.1,w.2,rf.ld (a:=x) ab (eZ ?_)⟩
   refine sb (new:=v8 x) s4 rfl rfl rfl (sU x) (by omega) (by decide) λY c' bJ ba bb aR=>⟨Y,c',?_,?_,λk u=>(aR k u).elim (Z k) λh=>by have:=ai.size;omega,ai.fresh bb Z⟩
   .rw[ah,List.filter_append,List.filter_cons_of_pos (by simp[hD]),List.length_append];rfl
   .rw[ah,List.filter_append,List.filter_cons_of_pos (by simp[hD]),List.length_append,List.filter_nil,<-sa]
    exact ba
 .rintro _ N ⟨q,n,rfl,s1,Z,f1⟩
  have aF:=List.length_filter_le mf al
  refine dN λau av=>?_
  have aH:Fr fa N au:=av▸Fr.new N _ _
  have aS:=f1.dF aH
  have aw:=h.fC aS
  have z1:=f1.size
  have bK:Array.size au=Array.size N+1:=av▸gi
  have se:jK 1 au iW [] (some ⟨Array.size N,0,none⟩) 0 0:=⟨rfl,.inr ⟨_,_,rfl,av▸eU,rfl,Nat.le_refl 0,λi hi=>by omega⟩⟩
  have nb:∀k,eB (some ⟨Array.size N,0,none⟩) k->Array.size N=k:=λk⟨a,ha,e⟩=>by cases ha;exact e
  have aT:∀v∈L.map λx=>Value.slice x.q x.d.length x.c,One v:=λv hv=>by
   obtain⟨x,_,rfl⟩:=List.mem_map.1 hv
   exact⟨by simp,by simp⟩
  refine⟨_,rfl,_,_,_,(dO aw.hg 0 0).trans rfl,QF (z:=.slice none 0 0) (new:=L.map λx=>Value.slice x.q x.d.length x.c) (n:=L.length) se rfl aw.hs.X0 (by rw[List.length_map,Nat.mul_one]) aT (by omega) (by decide) λp2 c2 be aI bf aU=>dN λbL bg=>?_⟩
  rw[List.nil_append,Nat.zero_add] at aI
  rw[Nat.zero_add]
  have ax:Fr fa N be:=aH.fresh bf λk u=>by have:=nb k u;omega
  have aJ:∀k,eB p2 k->Array.size N<=k:=λk u=>(aU k u).elim (λh=>by have:=nb k h;omega) λh=>by omega
  refine sb (t1:=iW) (z:=.slice none 0 0) (new:=[Value.slice q (al.filter mf).length n]) aI bg rfl rfl (λv hv=>by rw[List.mem_singleton] at hv;rw[hv];exact⟨by simp,by simp⟩) (by omega) (by decide) λY c' bh aK bi aV=>?_
  have aj:Fr fa N bh:=ax.fresh bi aJ
  have ak:∀k,eB Y k->Array.size N<=k:=λk u=>(aV k u).elim (aJ k) λh=>by have:=ax.size;omega
  have af:=f1.dF aj
  have ay:=h.fC af
  have bM:=h.hl _ h.hf
  have ng:∀k,eB Y k->k≠g:=λk u e=>by have:=ak k u;omega
  have sq:=s1.fC aj
  have lq:∀k,eB q k->k<Array.size N:=λk u=>s1.gE u
  refine⟨_,rfl,hP ay.hg (by simp) λbm bn ad=>hR (λk=>F k\/eB Y k\/eB q k) Y c' q n bm ⟨by rw[bn];simp,?_,λx O=>?_,λk u=>⟨.inr (.inl u),ng k u⟩,.inl h.hf,λk u=>?_⟩ ?_ λk u=>?_⟩
  .have:=(Sl.n1.1 aK).eO ad ng
   rw[List.map_append,List.length_append]
   exact this
  .rcases List.mem_append.1 O with O|O
   .obtain⟨q1,q2,q3⟩:=ay.hq x O
    exact⟨q1.eO ad λk u=>(q2 k u).2.1,λk u=>⟨.inl (q2 k u).1,(q2 k u).2.1,λhh=>by have:=ak k hh;have:=h.hl _ (q2 k u).1;omega⟩,q3⟩
   .rw[List.mem_singleton] at O
    subst O
    refine⟨sq.cells.eO ad λk u e=>by have:=Z k u;omega,λk u=>⟨.inr (.inr u),λe=>by have:=Z k u;omega,λhh=>by have:=ak k hh;have:=lq k u;omega⟩,λa O=>⟨hm a (List.mem_filter.1 O).1,(List.mem_filter.1 O).2⟩,by show(al.filter mf).length<=6;omega⟩
  .have bN:=ad.size
   have bO:=af.size
   rcases u with u|u|u
   .have:=h.hl k u;omega
   .have:=aK.gE u;omega
   .have:=sq.gE u;omega
  .exact(af.mono λ_ h=>h.elim).trans ad λk u=>.inl u
  .rcases u with u|u|u
   .exact .inl u
   .exact .inr (by have:=ak k u;omega)
   .exact .inr (Z k u)
end Go.Proofs.fv
namespace Go.Ex
theorem M6{pre v:By}{L:List (List At)}(h:Ga pre L=some v):∃d∈L,∃a∈d,vb a.p a.l=pre/\a.v=v:=by
 unfold Ga at h
 obtain⟨d,w,h⟩:=List.exists_of_findSome?_eq_some h
 unfold Fa at h
 obtain⟨a,u,I⟩:=Option.map_eq_some_iff.1 h
 exact⟨d,List.mem_reverse.1 w,a,List.mem_of_find?_eq_some u,by simpa using List.find?_some u,I⟩
theorem Uz.p{L:List (List At)}(h:Uz L)(u:(kC [112] L).2=true):(kC [112] L).1≠[]:=by
 unfold kC at u⊢
 cases e:Ga [112] L with
 |none=>rw[e] at u;exact absurd u (by decide)
 |some v=>
  obtain⟨d,w,a,I,N,rfl⟩:=M6 e
  have O:∀q∈qK,lN q.1 q.2.1=true->vb q.1 q.2.1=[112]->q.2.2≠[]:=by decide
  exact O _ (h d w a I).1.m (h d w a I).2 N
theorem SJ{L:List (List At)}(h:Uz L){al:List At}(O:∀a∈al,OB a)(hn:(al.map j4).Nodup)(ha:∀a∈al,mf a=false->a.p≠[]->(kC a.p L).2=true):(al.map λa=>((ie L a).u,a.l)).Nodup:=by
 have W:∀q∈qK,∀r∈qK,q.2.1=r.2.1->q.1=r.1\/((q.1=[]/\r.1=[112]\/r.1=[]/\q.1=[112])/\lN q.1 q.2.1=false/\lN r.1 r.2.1=false):=by decide
 have Y:∀a:At,mf a=false->a.p=[]->(ie L a).u=[]:=λa w I=>by unfold ie;rw[w,I];rfl
 have Z:∀a∈al,mf a=false->a.p=[112]->(ie L a).u≠[]:=λa N w I=>by
  have hu:=ha a N w (by rw[I];decide)
  have:(ie L a).u=(kC [112] L).1:=by unfold ie;rw[w,I];rfl
  rw[this]
  rw[I] at hu
  exact h.p hu
 refine List.pairwise_map.2 ((List.pairwise_map.1 hn).imp_of_mem λ{a b} N hy ac e=>?_)
 injection e with e1 e2
 rcases W _ (O a N).m _ (O b hy).m e2 with w|⟨w|w,I,h3⟩
 .exact ac (by unfold j4;rw[show a.p=b.p from w,e2])
 .exact Z b hy h3 w.2 (by rw[<-e1];exact Y a I w.1)
 .exact Z a N I w.2 (by rw[e1];exact Y b h3 w.1)
theorem Ml{α:Type}{l:List α}{i:Nat}{y:α}(h:l[i]?=some y):l.set i y=l:=by
 refine List.ext_getElem? λj=>?_
 rw[List.getElem?_set]
 split
 .rename_i e;subst e
  rw[if_pos (List.getElem?_eq_some_iff.1 h).1,h]
 .rfl
end Go.Ex
namespace Go.Proofs.fv
open Go.Ex Go.X
theorem qV{x:By}:(eJ x=dM)↔x=[]:=⟨λh=>gm (b:=[]) h,λh=>by rw[h];rfl⟩
theorem Du{x:By}:(eJ x=oZ)↔x=sm:=⟨λh=>gm (b:=sm) h,λh=>by rw[h];rfl⟩
theorem yF{H:dw}(ht:gG H){g:Nat}{F:Nat->Prop}{L:List Lv}{p:dC}{c:Nat}(h:Ee H g F L p c)(hl:L.length<=1048576){b:Nat}{n:Nd}{q:dC}{d:Nat}(hb:js H b n q d)(hs:jK 4 H eF (gk n.gh) q n.gh.length d)(hF:¬F b/\7<b/\∀k,eB q k->¬F k/\k≠b/\7<k)(hm:∀a∈n.gh,OB a)(h6:n.gh.length<=6)(hn:(n.gh.map j4).Nodup){R:Bool->dw->Prop}
 (hT:∀H',wg (L.map Lv.d) n.p n.gh->js H' b {n with u:=(kC n.p (L.map Lv.d)).1,gh:=n.gh.map (ie (L.map Lv.d))} q d->jK 4 H' eF (gk (n.gh.map (ie (L.map Lv.d)))) q n.gh.length d->Fr (λk=>k=b\/eB q k) H H'->R true H')
 (hN:∀H' u,¬wg (L.map Lv.d) n.p n.gh->js H' b {n with u:=u} q d->Fr (λk=>k=b\/eB q k) H H'->R false H'):gR.C (some ⟨g,0,none⟩) (some ⟨b,0,none⟩) H R:=by
 apply gR.calls
 unfold gR.W
 obtain⟨nk,nd,O,nl,nu,nv,al⟩:=n
 dsimp only at*
 have be:=h.Yw
 generalize bf:L.map Lv.d=w at*
 have aP:∀{H':dw},Fr (λk=>k=b\/eB q k) H H'->∀(pre:By){R:dE->Bool->dw->Prop},(∀am,Fr fa H' am->R (eJ (kC pre w).1) (kC pre w).2 am)->fW.C (some ⟨g,0,none⟩) (eJ pre) H' R:=λf pre R hR=>by
  refine QJ (fM ht f λi hi Y=>Y.elim (λe=>by have:=hF.2.1;omega) λY=>by have:=(hF.2.2 i Y).2.2;omega) (h.eO f λk N Y=>Y.elim (λe=>hF.1 (e▸N)) λY=>(hF.2.2 k Y).1 N) (by omega) pre λam f'=>?_
  rw[bf]
  exact hR am f'
 refine⟨_,rfl,_,hb.cell 2,aP (Fr.refl _ _) O λH1 f1=>⟨_,rfl,hP (o:=4) (f1.fi hb λh=>h) (by simp[oe]) λH2 b2 f2=>?_⟩⟩
 have aQ:Fr (λk=>k=b\/eB q k) H H2:=(f1.mono λ_ h=>h.elim).trans f2 λk N=>.inl (.inl N)
 have b2:js H2 b ⟨nk,nd,O,nl,(kC O w).1,nv,al⟩ q d:=by rw[js,b2];simp[oe]
 have s2:=(hs.fC f1).eO f2 λk N=>(hF.2.2 k N).2.1
 refine dD (λ_ H'=>H2=H'/\(kC O w).2=true/\O≠sm) (dD (λs H'=>s=(!(kC O w).2||decide (O=sm),())/\H2=H') ?_ ?_) ?_
 .cases ar:(kC O w).2 with
  |false=>exact eN rfl ⟨rfl,rfl⟩
  |true=>
   refine dH rfl ⟨_,rfl,_,b2.cell 2,?_,rfl⟩
   rw[Bool.not_true,Bool.false_or]
   show(decide (eJ O=_),())=_
   rw[decide_eq_decide.2 Du]
 .rintro _ _ ⟨rfl,rfl⟩
  dsimp only
  refine jI (λht=>?_) λhf=>⟨rfl,?_⟩
  .refine hN H2 _ (λY=>?_) b2 aQ
   rw[Y.e.1,decide_eq_false Y.e.2] at ht
   cases ht
  .rw[Bool.or_eq_false_iff] at hf
   exact⟨by simpa using hf.1,by simpa using hf.2⟩
 rintro _ _ ⟨rfl,bg,bh⟩
 have Z:∀{H':dw},js H' b ⟨nk,nd,O,nl,(kC O w).1,nv,al⟩ q d->dL H' ((⟨b,0,none⟩:dA).add 6)=some (.slice q al.length d):=λh=>by rw[h.cell 6];rfl
 have ae:∀{H':dw},Fr (eB q) H2 H'->Fr (λk=>k=b\/eB q k) H H'/\js H' b ⟨nk,nd,O,nl,(kC O w).1,nv,al⟩ q d:=λf=>⟨aQ.trans f λk N=>.inl (.inr N),f.fi b2 λN=>(hF.2.2 b N).2.1 rfl⟩
 refine dD (λ_ H'=>jK 4 H' eF (gk (al.map (ie w))) q al.length d/\(∀a∈al,mf a=false->a.p≠[]->(kC a.p w).2=true)/\Fr (eB q) H2 H') ?_ ?_
 .refine eW (λm(s:Int×Unit) H'=>∃i:Nat,s.1=(i:Int)/\i<=al.length/\m=al.length-i/\jK 4 H' eF (gk (oC (ie w) i al)) q al.length d/\(∀a∈al.take i,mf a=false->a.p≠[]->(kC a.p w).2=true)/\Fr (eB q) H2 H') al.length ⟨0,rfl,by omega,rfl,s2,λa ha=>(by cases ha),Fr.refl _ _⟩ ?_
  rintro m ⟨_,_⟩ H6 ⟨i,rfl,hi,rfl,s6,a6,f6⟩
  dsimp only
  obtain⟨bN,b6⟩:=ae f6
  refine⟨_,rfl,_,_,_,Z b6,eE (λI=>?_) λbO=>?_⟩
  rotate_left
  .have:i=al.length:=by omega
   rw[this,wA] at s6
   rw[this,List.take_length] at a6
   exact⟨s6,a6,f6⟩
  have I:i<al.length:=by omega
  have ac:(0:Int)<=(i:Int)/\(i:Int)<(al.length:Int):=by omega
  have hx:=uz (f:=ie w) I
  have ad:(oC (ie w) i al).length=al.length:=sv
  obtain⟨a,ha,aR⟩:=kj s6.cells (i:=i) (by rw[ad];exact I)
  have aS:(oC (ie w) i al)[i]'(by rw[ad];exact I)=al[i]:=Option.some.inj ((List.getElem?_eq_getElem (by rw[ad];exact I)).symm.trans hx)
  rw[aS] at aR
  have av:=List.getElem_mem I
  have aT:=hm _ av
  have bi:al.take (i+1)=al.take i++[al[i]]:=by rw[List.take_add_one];simp[I]
  have an:=EB (f:=ie w) I
  have aL:=rL (f:=ie w) I
  have aw:ie w al[i]={al[i] with u:=bif mf al[i] then uN else bif al[i].p==[] then[] else(kC al[i].p w).1}:=rfl
  generalize al[i]=y at*
  have a7:(mf y=false->y.p≠[]->(kC y.p w).2=true)->∀a∈al.take (i+1),mf a=false->a.p≠[]->(kC a.p w).2=true:=λhy a ha=>by
   rw[bi] at ha
   rcases List.mem_append.1 ha with ha|ha
   .exact a6 a ha
   .rw[List.mem_singleton] at ha;subst ha;exact hy
  refine dD (λ_ H'=>jK 4 H' eF (gk (oC (ie w) (i+1) al)) q al.length d/\(∀a∈al.take (i+1),mf a=false->a.p≠[]->(kC a.p w).2=true)/\Fr (eB q) H2 H') ⟨_,rfl,_,_,_,Z b6,a,ha,ac.1,ac.2,_,by rw[Int.toNat_natCast];exact aR 2 (by decide),?_⟩ ?_
  rotate_left
  .rintro _ H7 ⟨s7,a7,f7⟩
   exact eZ ⟨al.length-(i+1),by omega,i+1,qN i (by omega),by omega,rfl,s7,a7,f7⟩
  cases hD:mf y with
  |true=>
   have eu:y.u=uN:=by rw[aT.u];unfold Im;rw[show lN y.p y.l=true from hD];rfl
   refine fD (by rw[eu];rfl) ⟨?_,a7 (λh=>by rw[hD] at h;cases h),f6⟩
   rw[an (by rw[aw,hD];show{y with u:=uN}=y;rw[<-eu])]
   exact s6
  |false=>
   have eu:y.u=[]:=by rw[aT.u];unfold Im;rw[show lN y.p y.l=false from hD];rfl
   refine eI (by rw[eu];intro e;exact absurd (gm (a:=[]) (b:=uN) e) (by decide)) ⟨_,rfl,_,_,_,Z b6,v7 s6 ad hx [] λH8 s8 f8=>?_⟩
   have e8:({y with u:=[]}:At)=y:=by rw[<-eu]
   rw[e8,Ml hx] at s8
   have az:Fr (eB q) H2 H8:=f6.trans f8 λk N=>.inl N
   obtain⟨bk,b8⟩:=ae az
   obtain⟨a',aU,aj⟩:=kj s8.cells (i:=i) (by rw[ad];exact I)
   rw[aS] at aj
   refine⟨_,rfl,_,_,_,Z b8,a',aU,ac.1,ac.2,_,by rw[Int.toNat_natCast];exact aj 0 (by decide),eE (λhp=>?_) λhp=>?_⟩
   .have hp:y.p=[]:=qV.1 hp
    refine⟨?_,a7 λ_ h=>absurd hp h,az⟩
    rw[an (by rw[aw,hD,hp];exact e8)]
    exact s8
   .have hp:y.p≠[]:=λe=>hp (qV.2 e)
    refine⟨_,rfl,_,_,_,Z b8,_,rfl,_,_,_,Z b8,a',aU,ac.1,ac.2,_,by rw[Int.toNat_natCast];exact aj 0 (by decide),aP bk y.p λH9 f9=>⟨⟨_,_,_,Z (b8.fC f9),rfl⟩,v7 (s8.fC f9) ad hx (kC y.p w).1 λaV bn bo=>?_⟩⟩
    have aA:Fr (eB q) H2 aV:=(az.trans (f9.mono λ_ h=>h.elim) λk N=>.inl N).trans bo λk N=>.inl N
    obtain⟨a9,bp⟩:=ae aA
    cases ar:(kC y.p w).2 with
    |false=>
     refine eN rfl (hN aV _ (λY=>?_) bp a9)
     have:=Y.a y av hD hp
     rw[ar] at this
     cases this
    |true=>
     refine dH rfl ⟨?_,a7 λ_ _=>ar,aA⟩
     rw[aL,aw,hD,show(y.p==[])=false from beq_eq_false_iff_ne.2 hp]
     exact bn
 rintro _ H5 ⟨s5,a5,f5⟩
 obtain⟨br,b5⟩:=ae f5
 have aW:=SJ be hm hn a5
 have aB:(al.map (ie w)).length=al.length:=List.length_map _
 have bu:R true H5:=by
  refine hT H5 ⟨⟨bg,bh⟩,a5,aW⟩ ?_ s5 br
  have:js H5 b ⟨nk,nd,O,nl,(kC O w).1,nv,al⟩ q d:=b5
  rw[js,this]
  simp[oe,aB]
 refine dD (λ_ H'=>H5=H') (eW (λm(s:Int×Unit) H'=>∃i:Nat,s.1=(i:Int)/\i<=al.length/\m=al.length-i/\H5=H') al.length ⟨0,rfl,by omega,rfl,rfl⟩ ?_) ?_
 .rintro m ⟨_,_⟩ _ ⟨i,rfl,hi,rfl,rfl⟩
  dsimp only
  refine⟨_,rfl,_,_,_,Z b5,eE (λI=>?_) λ_=>rfl⟩
  have I:i<al.length:=by omega
  obtain⟨ai,aX,aC⟩:=kj s5.cells (i:=i) (by rw[aB];exact I)
  refine dD (λ_ H'=>H5=H') (eW (λm(s:Int×Unit) H'=>∃k:Nat,s.1=(k:Int)/\k<=i/\m=i-k/\H5=H') i ⟨0,rfl,by omega,rfl,rfl⟩ ?_) ?_
  .rintro m ⟨_,_⟩ _ ⟨k,rfl,N,rfl,rfl⟩
   dsimp only
   refine eE (λaY=>?_) λ_=>rfl
   have aY:k<i:=by omega
   obtain⟨ak,aZ,aD⟩:=kj s5.cells (i:=k) (by rw[aB];omega)
   have hd:=List.pairwise_iff_getElem.1 aW k i (by rw[List.length_map];omega) (by rw[List.length_map];omega) aY
   rw[List.getElem_map,List.getElem_map] at hd
   rw[List.getElem_map] at aC aD
   refine dD (λ_ H'=>H5=H') (dD (λs H'=>s=(false,())/\H5=H') ⟨_,rfl,_,_,_,Z b5,ak,aZ,by omega,by omega,_,by rw[Int.toNat_natCast];exact aD 2 (by decide),_,rfl,_,_,_,Z b5,ai,aX,by omega,by omega,_,by rw[Int.toNat_natCast];exact aC 2 (by decide),eE (λe0=>⟨_,rfl,_,_,_,Z b5,ak,aZ,by omega,by omega,_,by rw[Int.toNat_natCast];exact aD 1 (by decide),_,rfl,_,_,_,Z b5,ai,aX,by omega,by omega,_,by rw[Int.toNat_natCast];exact aC 1 (by decide),?_,rfl⟩) λ_=>⟨rfl,rfl⟩⟩ ?_) ?_
   .show(decide (eJ al[k].l=eJ al[i].l),())=_
    rw[decide_eq_false λe1=>hd (Prod.ext (gm e0) (gm e1))]
   .rintro _ _ ⟨rfl,rfl⟩
    exact dH rfl rfl
   .rintro _ _ rfl
    exact eZ ⟨i-(k+1),by omega,k+1,qN k (by omega),by omega,rfl,rfl⟩
  .rintro _ _ rfl
   exact eZ ⟨al.length-(i+1),by omega,i+1,qN i (by omega),by omega,rfl,rfl⟩
 .rintro _ _ rfl
  exact bu
end Go.Proofs.fv
namespace Go.Ex
def Yu(q:By×By×By):By×By:=(q.1,q.2.1)
def u7(al:List (By×By×By)):List At:=(al.map jv).map iY
theorem IU{al:List (By×By×By)}(h:∀q∈al,q∈qK):∀a∈u7 al,OB a:=λa u=>by
 obtain⟨x,w,rfl⟩:=List.mem_map.1 u
 obtain⟨q,I,rfl⟩:=List.mem_map.1 w
 exact⟨h q I,rfl⟩
theorem uM(al:List (By×By×By)):(u7 al).length=al.length:=by unfold u7;simp
theorem zy(al:List (By×By×By)):(u7 al).map j4=(al.map jv).map j4:=by
 unfold u7
 rw[List.map_map]
 exact List.map_congr_left λq _=>rfl
theorem IT(L:List (List At))(al:List (By×By×By)):(u7 al).map (ie L)=(al.map jv).map (ie L):=by
 unfold u7
 rw[List.map_map]
 exact List.map_congr_left λq _=>rfl
theorem M0{L:List (List At)}{p:By}{al:List (By×By×By)}:wg L p (u7 al)↔wg L p (al.map jv):=by
 have e:((u7 al).map λa=>((ie L a).u,a.l))=(al.map jv).map λa=>((ie L a).u,a.l):=by
  unfold u7
  rw[List.map_map]
  exact List.map_congr_left λq _=>rfl
 constructor
 .rintro⟨h,w,I⟩
  exact⟨h,λa N=>w (iY a) (List.mem_map_of_mem N),by rw[<-e];exact I⟩
 .rintro⟨h,w,I⟩
  refine⟨h,λa N=>?_,by rw[e];exact I⟩
  obtain⟨x,O,rfl⟩:=List.mem_map.1 N
  exact w x O
end Go.Ex
namespace Go.Proofs.fv
open Go.Ex Go.X
theorem C4(z:Int){B:Int}(h:0<B):0<=Int.tmod (IntKind.u64.wrap z) B/\Int.tmod (IntKind.u64.wrap z) B<B:=⟨Int.tmod_nonneg _ (tK z).1,Int.tmod_lt_of_pos _ h⟩
theorem pick{H H':dw}{b:Nat}{ws:List By}{i:Int}{t:eK}(u:H[b]?=some (.cells (ws.map λw=>Value.string (eJ w)).toArray t (0,0)))(h:0<=i/\i<(ws.length:Int)):∃w∈ws,dL H ((⟨b,0,none⟩:dA).add i.toNat)=some (.string (eJ w)):=by
 have hi:i.toNat<ws.length:=by omega
 refine⟨ws[i.toNat],List.getElem_mem hi,?_⟩
 rw[eD u,List.getElem?_map,List.getElem?_eq_getElem hi]
 rfl
theorem AB{H:dw}(ws:List By){A B z:Int}{t:eK}(O:A≠0)(hB:B=(ws.length:Int))(h0:0<ws.length){K:dE->dw->Prop}(W:∀w∈ws,∀H',Array.size H<=Array.size H'->Fr fa H H'->K (eJ w) H'):
 eG (eP H (ws.map λw=>Value.string (eJ w)).toArray t) λh:dw=>A≠0/\B≠0/\∃x:dA,some (⟨Array.size H,0,none⟩:dA)=some x/\0<=Int.tmod (IntKind.u64.wrap z) B/\Int.tmod (IntKind.u64.wrap z) B<B/\fh h (x.add (Int.tmod (IntKind.u64.wrap z) B).toNat) λv=>K v h:=by
 refine dN λh u=>?_
 have f2:Fr fa H h:=u▸Fr.new H _ _
 have I:0<B:=by omega
 obtain⟨N,Y⟩:=C4 z I
 obtain⟨w,Z,hc⟩:=pick (H':=h) (ws:=ws) (u▸eU) ⟨N,by omega⟩
 exact⟨O,by omega,_,rfl,N,Y,_,hc,W w Z h f2.size f2⟩
def AI(H:dw)(m:List (By×By))(s:(dC×Nat×Nat)×Unit)(H':dw):Prop:=
 ∃al q c,s=((q,al.length,c),())/\(al.map Yu).Sublist m/\(∀x∈al,x∈qK)/\jK 4 H' eF (gk (u7 al)) q al.length c/\(∀k,eB q k->Array.size H<=k)/\Fr fa H H'
theorem AI.skip{H H':dw}{m:List (By×By)}{s:(dC×Nat×Nat)×Unit}(h:AI H m s H')(x:By×By):AI H (m++[x]) s H':=by
 obtain⟨al,q,c,e,u,w⟩:=h
 exact⟨al,q,c,e,u.trans (List.sublist_append_left _ _),w⟩
theorem AI.add{H H' I:dw}{m:List (By×By)}{q:dC}{l c:Nat}(h:AI H m ((q,l,c),()) H')(hm:m.length<=5)(f:Fr fa H' I)(x:By×By×By)(hx:x∈qK){J:(dC×Nat×Nat)×Unit->dw->Prop}(hJ:∀s w,AI H (m++[Yu x]) s w->J s w):
 eG (eP I (v8 (iY (jv x))).toArray eF) λO:dw=>ji eF 4 64 (.agg #[.string dM,.string dM,.string dM,.string dM]) q l c (.slice (some ⟨Array.size I,0,none⟩) 1 1) O λp l c N=>J ((p,l,c),()) N:=by
 obtain⟨al,q',c',e,W,h2,h3,Y,Z⟩:=h
 have hl:=W.length_le
 rw[List.length_map] at hl
 injection e with e1 e2
 injection e1 with e3 e4
 injection e4 with e5 e6
 subst e3 e5 e6
 refine dN λO g3=>sb (new:=v8 (iY (jv x))) (h3.fC f) g3 rfl rfl (sU _) (by omega) (by decide) λp' c' N s4 f4 aa=>hJ _ N ⟨al++[x],p',c',by rw[List.length_append];rfl,by rw[List.map_append];exact W.append (List.Sublist.refl _),λy u=>?_,?_,λk hk=>(aa k hk).elim (Y k) λh=>by have:=(Z.dF f).size;omega,(Z.dF f).fresh f4 Y⟩
 .rcases List.mem_append.1 u with u|u
  .exact h2 y u
  .rw[List.mem_singleton] at u;rw[u];exact hx
 .have ea:u7 (al++[x])=u7 al++[iY (jv x)]:=by unfold u7;simp
  rw[ea,<-sa,List.length_append]
  exact s4
theorem N4{H:dw}{u:Int}{R:dC->Nat->Nat->dw->Prop}(hR:∀q c al H',zf al->jK 4 H' eF (gk (u7 al)) q al.length c->(∀k,eB q k->Array.size H<=k)->Fr fa H H'->R q al.length c H'):iF.C u H R:=by
 apply iF.calls
 unfold iF.W
 refine dD (AI H [(sm,[112])]) (jI (λ_=>?_) λ_=>?_) ?_
 .refine AB [[117],[118]] (by decide) rfl (by decide) λw I Z _ f2=>?_
  have i0:AI H [] ((none,0,0),()) H:=⟨[],none,0,rfl,List.Sublist.refl _,λx O=>(by cases O),jK.nil _ _ _,λk Y=>absurd Y (fm k),Fr.refl _ _⟩
  exact i0.add (by decide) f2 (sm,[112],w) (by simp only[List.mem_cons,List.not_mem_nil,or_false] at I;rcases I with rfl|rfl<;>decide) λs N h=>h
 .exact AI.skip (m:=[]) ⟨[],none,0,rfl,List.Sublist.refl _,λx O=>(by cases O),jK.nil _ _ _,λk Y=>absurd Y (fm k),Fr.refl _ _⟩ _
 rintro⟨⟨p1,l1,c1⟩,_⟩ H1 i1
 dsimp only
 refine dD (AI H [(sm,[112]),([],sm)]) (jI (λ_=>?_) λ_=>i1.skip _) ?_
 .refine AB [[117],[],[119]] (by decide) rfl (by decide) λw I Z _ f2=>?_
  exact i1.add (by decide) f2 ([],sm,w) (by simp only[List.mem_cons,List.not_mem_nil,or_false] at I;rcases I with rfl|rfl|rfl<;>decide) λs N h=>h
 rintro⟨⟨p2,l2,c2⟩,_⟩ H5 i2
 dsimp only
 refine dD (AI H [(sm,[112]),([],sm),([],[120])]) (jI (λ_=>?_) λ_=>i2.skip _) ?_
 .refine AB [[49],[32,10,9],[60,34,38,62],[13]] (by decide) rfl (by decide) λw I Z _ f2=>?_
  exact i2.add (by decide) f2 ([],[120],w) (by simp only[List.mem_cons,List.not_mem_nil,or_false] at I;rcases I with rfl|rfl|rfl|rfl<;>decide) λs N h=>h
 rintro⟨⟨p3,l3,c3⟩,_⟩ H9 i3
 dsimp only
 refine dD (AI H [(sm,[112]),([],sm),([],[120]),([112],[120])]) (jI (λ_=>?_) λ_=>i3.skip _) ?_
 .exact i3.add (by decide) (Fr.refl _ _) ([112],[120],[50]) (by decide) λs N h=>h
 rintro⟨⟨p4,l4,c4⟩,_⟩ ao i4
 dsimp only
 refine dD (AI H [(sm,[112]),([],sm),([],[120]),([112],[120]),(JC,[105,100])]) (jI (λ_=>?_) λ_=>i4.skip _) ?_
 .exact i4.add (by decide) (Fr.refl _ _) (JC,[105,100],[105]) (by decide) λs N h=>h
 rintro⟨⟨p5,l5,c5⟩,_⟩ ap i5
 dsimp only
 refine dD (AI H K2) (jI (λ_=>?_) λ_=>i5.skip _) ?_
 .exact i5.add (by decide) (Fr.refl _ _) (sm,[113],[117]) (by decide) λs N h=>h
 rintro _ af ⟨al,q,c,rfl,h1,h2,h3,h4,h5⟩
 exact hR q c al af ⟨h1,h2⟩ h3 h4 h5
end Go.Proofs.fv
namespace Go.Ex
theorem O5(i:Nat)(l:List At):(oC iY i l).map j4=l.map j4:=by
 unfold oC
 rw[List.map_append,List.map_map,show(j4∘iY)=j4 from rfl,<-List.map_append,List.take_append_drop]
theorem N6{H:dw}{q:dC}{c:Nat}{xs:List At}(h:eY H q (gk xs)):oo H 4 (.slice q xs.length c) xs.length (gk xs):=by
 refine⟨rfl,?_⟩
 have u:(gk xs).length=xs.length*4:=by unfold gk;rw[oN _ (zJ xs),List.length_map]
 cases q with
 |none=>
  have h:gk xs=[]:=h
  exact⟨by rw[h] at u;simp only[List.length_nil] at u;omega,h⟩
 |some a=>exact⟨u,h⟩
end Go.Ex
namespace Go.Proofs.fv
open Go.Ex Go.X
theorem PU(x:By):decide (eJ x=oZ)=(x==sm):=by
 by_cases e:x=sm
 .subst e;rfl
 .rw[decide_eq_false λh=>e (Du.1 h),beq_eq_false_iff_ne.2 e]
theorem F3{H:dw}{q q':dC}{c c':Nat}{xs:List At}(h:eY H q (gk xs))(h':eY H q' (gk xs))(hl:xs.length<=1000){R:Bool->dw->Prop}(N:R true H):gA.C q xs.length c q' xs.length c' H R:=by
 apply gA.calls
 unfold gA.W
 refine eI (λh=>h rfl) (dD (λ_ H'=>H=H') (eW (λt(s:Int×Unit) H'=>∃i:Nat,s.1=(i:Int)/\i<=xs.length/\t=xs.length-i/\H=H') xs.length ⟨0,rfl,by omega,rfl,rfl⟩ ?_) λ_ H' e=>e▸N)
 rintro t ⟨_,_⟩ _ ⟨i,rfl,hi,rfl,rfl⟩
 refine eE (λu=>?_) λ_=>rfl
 have u:i<xs.length:=by have u:(i:Int)<(xs.length:Int):=u;omega
 obtain⟨a,O,Y⟩:=kj h u
 obtain⟨Z,w,I⟩:=kj h' u
 exact⟨a,O,by omega,by omega,rf.ld (a:=xs[i]) (by rw[Int.toNat_natCast];exact Y) ⟨Z,w,by omega,by omega,rf.ld (a:=xs[i]) (by rw[Int.toNat_natCast];exact I) (dH (by simp) (eZ ⟨_,by omega,i+1,qN i (by omega),by omega,rfl,rfl⟩))⟩⟩
theorem F0{H:dw}{n:Nd}{q q':dC}{c c':Nat}(h:eY H q (gk n.gh))(h':eY H q' (gk n.gh))(hl:n.gh.length<=1000){R:Bool->dw->Prop}(hR:∀H',Fr fa H H'->R true H'):
 gC.C n.k n.d (eJ n.p) (eJ n.l) (eJ n.u) (eJ n.v) q n.gh.length c n.k n.d (eJ n.p) (eJ n.l) (eJ n.u) (eJ n.v) q' n.gh.length c' H R:=by
 apply gC.calls
 unfold gC.W
 refine dN λO Z=>dN λY h2=>?_
 have f1:Fr fa H O:=Z▸Fr.new H _ _
 have f2:Fr fa O Y:=h2▸Fr.new O _ _
 have w:js Y (Array.size H) n q c:=f2.fi (Z▸eU) λh=>h
 have I:js Y (Array.size O) n q' c':=h2▸eU
 have N:=f1.dF f2
 exact⟨_,w.cell 0,_,I.cell 0,fD rfl ⟨_,w.cell 1,_,I.cell 1,fD rfl ⟨_,w.cell 2,_,I.cell 2,fD rfl ⟨_,w.cell 3,_,I.cell 3,fD rfl ⟨_,w.cell 4,_,I.cell 4,fD rfl ⟨_,w.cell 5,_,I.cell 5,fD rfl ⟨_,_,_,w.cell 6,_,_,_,I.cell 6,F3 (h.fC N) (h'.fC N) hl (hR Y N)⟩⟩⟩⟩⟩⟩⟩
theorem QN{H:dw}{p Y:dC}{l c Z c':Nat}{t I:List TN}(s:jK 7 H eC (rN t) p l c)(s':jK 7 H eC (rN I) Y Z c')(a:∀y∈t,eY H y.q (gk y.n.gh))(a':∀y∈I,eY H y.q (gk y.n.gh))(e:t.map TN.n=I.map TN.n)(hl:l<=1000)(h6:∀y∈t,y.n.gh.length<=1000)
 {R:Bool->dw->Prop}(hR:∀H',Fr fa H H'->R true H'):iT.C p l c Y Z c' H R:=by
 apply iT.calls
 unfold iT.W
 apply jB.calls
 unfold jB.W
 have l1:=qQ s
 have l2:=qQ s'
 have ah:=congrArg List.length e
 rw[List.length_map,List.length_map] at ah
 have ai:∀{H':dw},Fr fa H H'->∀{i:Nat}{y:TN},t[i]?=some y->∀{K:Int->Int->dE->dE->dE->dE->dC->Nat->Nat->Prop},K y.n.k y.n.d (eJ y.n.p) (eJ y.n.l) (eJ y.n.u) (eJ y.n.v) y.q y.n.gh.length y.c->∃x:dA,p=some x/\0<=(i:Int)/\(i:Int)<(l:Int)/\fx H' (x.add ((i:Int).toNat*7)) K:=λf i y w K hk=>by
  obtain⟨h1,h2⟩:=jK.at (L:=t.map wj) (wL t) (s.fC f) (by decide)
  obtain⟨hi,w⟩:=List.getElem?_eq_some_iff.1 w
  obtain⟨a,ha,hc⟩:=h2 i (by rw[List.length_map];exact hi)
  exact⟨a,ha,by omega,by omega,ja _ _ _ _ _ _ _ _ _ (λj hj=>by rw[Int.toNat_natCast,hc j hj,List.getElem_map,w];rfl) hk⟩
 have aj:∀{H':dw},Fr fa H H'->∀{i:Nat}{y:TN},I[i]?=some y->∀{K:Int->Int->dE->dE->dE->dE->dC->Nat->Nat->Prop},K y.n.k y.n.d (eJ y.n.p) (eJ y.n.l) (eJ y.n.u) (eJ y.n.v) y.q y.n.gh.length y.c->∃x:dA,Y=some x/\0<=(i:Int)/\(i:Int)<(Z:Int)/\fx H' (x.add ((i:Int).toNat*7)) K:=λf i y w K hk=>by
  obtain⟨h1,h2⟩:=jK.at (L:=I.map wj) (wL I) (s'.fC f) (by decide)
  obtain⟨hi,w⟩:=List.getElem?_eq_some_iff.1 w
  obtain⟨a,ha,hc⟩:=h2 i (by rw[List.length_map];exact hi)
  exact⟨a,ha,by omega,by omega,ja _ _ _ _ _ _ _ _ _ (λj hj=>by rw[Int.toNat_natCast,hc j hj,List.getElem_map,w];rfl) hk⟩
 refine dD (λ_ H'=>Fr fa H H') (eW (λm(s:Int×Unit) H'=>∃i:Nat,s.1=(i:Int)/\i<=l/\m=l-i/\Fr fa H H') l ⟨0,rfl,by omega,rfl,Fr.refl _ _⟩ ?_) λ_ H1 f=>eI (by omega) (hR H1 f)
 rintro m ⟨_,_⟩ H2 ⟨i,rfl,hi,rfl,f⟩
 dsimp only
 refine dD (λ_ H'=>H2=H'/\i<l) (eE (λh=>fD (by omega) ⟨rfl,by omega⟩) λ_=>f) ?_
 rintro _ _ ⟨rfl,au⟩
 obtain⟨y,w⟩:∃y,t[i]?=some y:=⟨_,List.getElem?_eq_getElem (by omega)⟩
 obtain⟨z,hz⟩:∃z,I[i]?=some z:=⟨_,List.getElem?_eq_getElem (by omega)⟩
 have N:y.n=z.n:=by
  have:=congrArg (λl=>l[i]?) e
  rw[List.getElem?_map,List.getElem?_map,w,hz] at this
  exact Option.some.inj this
 have O:=List.mem_of_getElem? w
 refine ai f w (aj f hz ?_)
 rw[<-N]
 refine F0 ((a y O).fC f) (by rw[N];exact(a' z (List.mem_of_getElem? hz)).fC f) (h6 y O) λH4 f4=>dH rfl (eZ ⟨l-(i+1),by omega,i+1,qN i (by omega),by omega,rfl,f.dF f4⟩)
theorem NG{H:dw}(ht:gG H){g:Nat}{F:Nat->Prop}{L:List Lv}{sp:dC}{sc:Nat}(ad:Ee H g F L sp sc)(hl:L.length<=1000)(h7:7<g){nm:By×By}(bI:nm∈xV){al:List (By×By×By)}(ha:zf al)(bJ:wg (L.map Lv.d++[mS (al.map jv)]) nm.1 (al.map jv)){d:Int}{n:Nd}(hn:n=uj (L.map Lv.d) nm al d){q:dC}{c:Nat}(hq:eY H q (gk n.gh))(bL:∀k,eB q k->k<Array.size H/\¬F k)
 {R:Bool->dw->Prop}(hR:∀F' O c' q' m H',Ee H' g F' (L++[⟨mS (al.map jv),q',m⟩]) O c'->Fr (λk=>k=g) H H'->(∀k,F' k->F k\/Array.size H<=k)->R true H'):hZ.C (some ⟨g,0,none⟩) n.k n.d (eJ n.p) (eJ n.l) (eJ n.u) (eJ n.v) q n.gh.length c H R:=by
 obtain⟨n1,n2,n6⟩:=ha.n
 have Z:n.gh=(al.map jv).map (ie (L.map Lv.d++[mS (al.map jv)])):=by rw[hn];rfl
 have aF:n.gh.length=al.length:=by rw[Z];simp
 have bu:n.gh.map iY=u7 al:=by
  rw[Z]
  unfold u7
  rw[List.map_map,List.map_map,List.map_map]
  exact List.map_congr_left λq _=>rfl
 have bv:(n.gh.map j4).Nodup:=by rw[Z,I1];exact n2
 have bN:∀a∈n.gh,(a.p,a.l,a.v)∈qK:=λa h=>by
  rw[Z] at h
  obtain⟨b,hb,rfl⟩:=List.mem_map.1 h
  exact(Cz ha.m b hb).2
 have hv:n.v=[]:=by rw[hn];rfl
 have bO:(n.p,n.l)=nm:=by rw[hn];rfl
 have cB:=ad.hl _ ad.hf
 apply hZ.calls
 unfold hZ.W
 refine dN λH1 h1=>?_
 have f1:Fr fa H H1:=h1▸Fr.new H _ _
 have b1:js H1 (Array.size H) n q c:=h1▸eU
 have z1:=eR b1
 refine dD (λ_ H'=>Fr fa H1 H') (dD (λs H'=>s=(false,())/\Fr fa H1 H') ⟨_,b1.cell 2,_,b1.cell 3,AN (eH ht f1) (q:=(n.p,n.l)) (by rw[bO];exact List.mem_append_left _ bI) λH3 f3=>dH rfl ⟨_,(b1.fC f3).cell 5,?_,f3⟩⟩ ?_) ?_
 .rw[hv];rfl
 .rintro _ H3 ⟨rfl,f3⟩
  exact dH rfl f3
 rintro _ H2 f2
 have b2:=b1.fC f2
 have a7:=f1.dF f2
 have z2:=f2.size
 refine b2.ld (oa ⟨n,q,c⟩ λH6 b6 f6=>dN λH7 h7=>?_)
 have f7:Fr fa H6 H7:=h7▸Fr.new H6 _ _
 have bR:=(a7.dF f6).dF f7
 have z6:Array.size H2<Array.size H6:=eR b6
 have l7:Array.size H7=Array.size H6+1:=h7▸gi
 have se:jK 4 H7 eF [] (some ⟨Array.size H6,0,none⟩) 0 0:=⟨rfl,.inr ⟨_,_,rfl,h7▸eU,rfl,Nat.le_refl 0,λi hi=>by omega⟩⟩
 have nb:∀k,eB (some ⟨Array.size H6,0,none⟩) k->Array.size H6=k:=λk⟨a,ha,e⟩=>by cases ha;exact e
 have bB:(gk n.gh).length=n.gh.length*4:=by unfold gk;rw[oN _ (zJ _),List.length_map]
 refine⟨_,_,_,((b2.fC f6).fC f7).cell 6,QF (new:=gk n.gh) (n:=n.gh.length) se rfl (N6 (hq.fC bR)) bB (λv hv=>by
  obtain⟨x,hx,hv⟩:=List.mem_flatten.1 hv
  obtain⟨a,_,rfl⟩:=List.mem_map.1 hx
  exact sU a v hv) (by omega) (by decide) λO c' H8 s8 f8 bU=>?_⟩
 rw[Nat.zero_add] at s8⊢
 rw[List.nil_append] at s8
 have aI:Fr fa H6 H8:=f7.fresh f8 λk w=>by have:=nb k w;omega
 have z8:=aI.size
 have I:∀k,eB O k->Array.size H6<=k/\k<Array.size H8:=λk w=>⟨(bU k w).elim (λh=>by have:=nb k h;omega) λh=>by omega,s8.gE w⟩
 refine hP (o:=6) (aI.fi b6 λh=>h) (by simp[oe]) λH9 b9 f9=>?_
 have b9:js H9 (Array.size H2) n O c':=by rw[js,b9];simp[oe]
 have s9:=s8.eO f9 λk w e=>by have:=I k w;omega
 have a8:Fr fa H2 H9:=(f6.dF aI).fresh f9 λi hi=>by omega
 have a9:=a7.dF a8
 have z9:=f9.size
 have bV:js H9 (Array.size H) n q c:=b2.fC a8
 refine dD (λ_ H'=>jK 4 H' eF (gk (u7 al)) O n.gh.length c'/\Fr (eB O) H9 H') (eW (λm(s:Int×Unit) H'=>∃i:Nat,s.1=(i:Int)/\i<=n.gh.length/\m=n.gh.length-i/\jK 4 H' eF (gk (oC iY i n.gh)) O n.gh.length c'/\Fr (eB O) H9 H') n.gh.length ⟨0,rfl,by omega,rfl,s9,Fr.refl _ _⟩ ?_) ?_
 .rintro m ⟨_,_⟩ aJ ⟨i,rfl,hi,rfl,ar,af⟩
  dsimp only
  have aK:js aJ (Array.size H2) n O c':=af.fi b9 λw=>by have:=I _ w;omega
  refine⟨_,_,_,aK.cell 6,eE (λY=>?_) λcC=>?_⟩
  rotate_left
  .have:i=n.gh.length:=by omega
   rw[this,wA,bu] at ar
   exact⟨ar,af⟩
  have Y:i<n.gh.length:=by omega
  have ba:(0:Int)<=(i:Int)/\(i:Int)<(n.gh.length:Int):=by omega
  have hx:=uz (f:=iY) Y
  have N:(oC iY i n.gh).length=n.gh.length:=sv
  obtain⟨a,bW,bb⟩:=kj ar.cells (i:=i) (by rw[N];exact Y)
  have bX:(oC iY i n.gh)[i]'(by rw[N];exact Y)=n.gh[i]:=Option.some.inj ((List.getElem?_eq_getElem (by rw[N];exact Y)).symm.trans hx)
  rw[bX] at bb
  have bc:=bN _ (List.getElem_mem Y)
  have bY:∀k(w:k<i),j4 ((oC iY i n.gh)[k]'(by rw[N];omega))≠j4 n.gh[i]:=λk w e=>by
   have e2:j4 ((oC iY i n.gh)[k]'(by rw[N];omega))=j4 (n.gh[k]'(by omega)):=by
    have:=congrArg (λl=>l[k]?) (O5 i n.gh)
    simpa[List.getElem?_map,show k<(oC iY i n.gh).length by rw[N];omega,show k<n.gh.length by omega] using this
   have:=List.pairwise_iff_getElem.1 bv k i (by rw[List.length_map];omega) (by rw[List.length_map];omega) w
   rw[List.getElem_map,List.getElem_map] at this
   exact this (e2▸e)
  have au:=rL (f:=iY) Y
  have cD:=af.size
  generalize n.gh[i]=x at*
  refine dD (λ_ H'=>jK 4 H' eF (gk (oC iY (i+1) n.gh)) O n.gh.length c'/\Fr (eB O) H9 H') ⟨_,_,_,aK.cell 6,a,bW,ba.1,ba.2,rf.ld (a:=x) (by rw[Int.toNat_natCast];exact bb) (sT x λaM av bd=>?_)⟩ ?_
  rotate_left
  .rintro _ cE ⟨bZ,b0⟩
   exact eZ ⟨n.gh.length-(i+1),by omega,i+1,qN i (by omega),by omega,rfl,bZ,b0⟩
  have zt:=jP ht
  have be:gG aM:=eH (fM (eH ht a9) af λj hj w=>by have:=I _ w;omega) bd
  refine dD (λ_ H'=>Fr fa aM H') (dD (λs H'=>s=(false,())/\Fr fa aM H') ⟨_,av.at 0,_,av.at 1,AN be (q:=(x.p,x.l)) (zL (q:=(x.p,x.l,x.v)) bc) λcF aO=>dH rfl ⟨_,rf.at (aO.fi av λh=>h) 3,HE (eH be aO) (q:=(x.p,x.l,x.v)) bc λcG b3=>⟨rfl,aO.dF b3⟩⟩⟩ ?_) ?_
  .rintro _ cH ⟨rfl,b4⟩
   exact dH rfl b4
  rintro _ ag bf
  have aP:rf ag (Array.size aJ) x:=bf.fi av λh=>h
  have ac:=bd.dF bf
  have bg:=ar.fC ac
  have aw:=aK.fC ac
  refine dD (λ_ H'=>ag=H') (eW (λm(s:Int×Unit) H'=>∃k:Nat,s.1=(k:Int)/\k<=i/\m=i-k/\ag=H') i ⟨0,rfl,by omega,rfl,rfl⟩ ?_) ?_
  .rintro m ⟨_,_⟩ _ ⟨k,rfl,w,rfl,rfl⟩
   dsimp only
   refine eE (λbh=>?_) λ_=>rfl
   have bh:k<i:=by omega
   obtain⟨ak,bi,aQ⟩:=kj bg.cells (i:=k) (by rw[N];omega)
   have ax:=bY k bh
   generalize(oC iY i n.gh)[k]'(by rw[N];omega)=y at aQ ax
   refine dD (λ_ H'=>ag=H') (dD (λs H'=>s=(false,())/\ag=H') ⟨_,_,_,aw.cell 6,ak,bi,by omega,by omega,_,by rw[Int.toNat_natCast];exact aQ 0 (by decide),_,aP.at 0,eE (λe0=>⟨_,_,_,aw.cell 6,ak,bi,by omega,by omega,_,by rw[Int.toNat_natCast];exact aQ 1 (by decide),_,aP.at 1,?_,rfl⟩) λ_=>⟨rfl,rfl⟩⟩ ?_) ?_
   .rw[decide_eq_false λe1=>ax (by unfold j4;rw[gm e0,gm e1])]
   .rintro _ _ ⟨rfl,rfl⟩
    exact dH rfl rfl
   .rintro _ _ rfl
    exact eZ ⟨i-(k+1),by omega,k+1,qN k (by omega),by omega,rfl,rfl⟩
  rintro _ _ rfl
  refine⟨_,_,_,aw.cell 6,v7 bg N hx [] λay bj aR=>?_⟩
  have aS:rf ay (Array.size aJ) x:=aR.fi aP λw=>by have:=I _ w;omega
  have b7:js ay (Array.size H2) n O c':=aR.fi aw λw=>by have:=I _ w;omega
  have aT:Fr (eB O) H9 ay:=(af.trans (ac.mono λ_ h=>h.elim) λk w=>.inl w).trans aR λk w=>.inl w
  have bD:((oC iY i n.gh).set i {x with u:=[]}).length=n.gh.length:=by rw[List.length_set,N]
  have b8:((oC iY i n.gh).set i {x with u:=[]})[i]?=some {x with u:=[]}:=by rw[List.getElem?_set,if_pos rfl,if_pos (by rw[N];exact Y)]
  refine dD (λs H'=>s=(mf x,())/\ay=H') ⟨_,aS.at 0,?_⟩ ?_
  .unfold mf lN
   refine eE (λe=>⟨?_,rfl⟩) λe=>⟨_,aS.at 0,eE (λe2=>⟨_,aS.at 1,?_,rfl⟩) λe2=>⟨?_,rfl⟩⟩
   .rw[Du.1 e];rfl
   .rw[qV.1 e2]
    show(decide (eJ x.l=oZ),())=_
    rw[PU];rfl
   .have ax:(x.p==sm)=false:=beq_eq_false_iff_ne.2 λh=>e (Du.2 h)
    have bE:(x.p==[])=false:=beq_eq_false_iff_ne.2 λh=>e2 (qV.2 h)
    rw[ax,bE];rfl
  rintro _ _ ⟨rfl,rfl⟩
  cases hD:mf x with
  |true=>
   refine eN rfl ⟨_,_,_,b7.cell 6,v7 bj bD b8 uN λcI bk cb=>⟨?_,aT.trans cb λk w=>.inl w⟩⟩
   have er:iY x={x with u:=uN}:=by unfold iY Im;rw[show lN x.p x.l=true from hD];rfl
   rw[au,er]
   rw[List.set_set] at bk
   exact bk
  |false=>
   refine dH rfl ⟨?_,aT⟩
   have er:iY x={x with u:=[]}:=by unfold iY Im;rw[show lN x.p x.l=false from hD];rfl
   rw[au,er]
   exact bj
 rintro _ ah ⟨bm,az⟩
 have aa:Fr fa H ah:=a9.fresh az λk w=>by have:=I k w;omega
 have cJ:=az.size
 have ai:(u7 al).length=n.gh.length:=by rw[uM,aF]
 have bn:js ah (Array.size H2) n O c':=az.fi b9 λw=>by have:=I _ w;omega
 have bG:js ah (Array.size H) n q c:=az.fi bV λw=>by have:=I _ w;omega
 have cc:(u7 al).filter mf=mS (al.map jv):=rfl
 refine⟨_,_,_,bn.cell 6,Bn (eH ht aa) (ad.fC aa) (by omega) ai bm.cells (IU ha.m) (by rw[zy];exact n2) (by rw[ai,aF];exact n6) λF' p2 c2 q2 m bo ap aj aU=>eI (λh=>h rfl) ?_⟩
 have cz:=aa.size
 have ce:js bo (Array.size H2) {n with gh:=u7 al} O c':=by
  have:=aj.fi bn (by omega)
  rw[js,this]
  simp[oe,<-ai]
 have bH:js bo (Array.size H) n q c:=aj.fi bG (by omega)
 have bp:=bm.eO aj λk w e=>by have:=I k w;omega
 rw[<-ai] at bp
 rw[cc] at ap
 have bq:(L++[(⟨mS (al.map jv),q2,m⟩:Lv)]).map Lv.d=L.map Lv.d++[mS (al.map jv)]:=by rw[List.map_append];rfl
 have cf:({n with gh:=u7 al}:Nd).p=nm.1:=by rw[hn];rfl
 have aV:∀k,F' k->k<Array.size H\/Array.size ah<=k:=λk w=>(aU k w).imp (ad.hl k) id
 have zt:=jP ht
 refine yF (fM (eH ht aa) aj λj hj e=>by omega) ap (by rw[List.length_append];show L.length+1<=_;omega) ce bp ⟨λhh=>by have:=aV _ hh;omega,by omega,λk w=>⟨λhh=>by have:=aV k hh;have:=I k w;omega,by have:=I k w;omega,by have:=I k w;omega⟩⟩ (IU ha.m) (by show(u7 al).length<=6;rw[uM];exact n6) (by show((u7 al).map j4).Nodup;rw[zy];exact n2) (λaA _ am an aX=>eN rfl ?_) λaA u cg=>absurd (by rw[bq,cf];exact M0.2 bJ) cg
 rw[bq] at am an
 dsimp only at am an
 rw[IT,<-Z] at am an
 rw[ai] at an
 have aq:∀k,(k=Array.size H2\/eB O k)->Array.size H<k/\k<Array.size ah:=λk w=>by
  rcases w with rfl|w
  .omega
  .have:=I k w;omega
 have aY:js aA (Array.size H) n q c:=aX.fi bH λw=>by have:=aq _ w;omega
 have aZ:Fr (λk=>k=g) H aA:=((aa.mono λ_ h=>h.elim).trans aj λk w=>.inl w).trans aX λk w=>.inr (by have:=aq k w;omega)
 have ch:=hq.eO aZ λk w ci=>(bL k w).2 (ci▸ad.hf)
 have eu:n.u=(kC n.p (L.map Lv.d++[mS (al.map jv)])).1:=by rw[hn];rfl
 refine⟨_,am.cell 4,_,aY.cell 4,fD (by show eJ _=eJ _;rw[eu]) ⟨_,_,_,am.cell 6,_,_,_,aY.cell 6,?_⟩⟩
 refine F3 an.cells ch (by omega) (hR F' p2 c2 q2 m aA (ap.eO aX λk w hh=>by have:=aV k w;have:=aq k hh;omega) aZ λk w=>(aU k w).imp id λh=>by omega)
structure Ux(H:dw)(g:Nat)(LL:List Nd)(i:Nat)(rt:Bool)(L:List Lv)(G:Nat->Prop)(sp:dC)(sc:Nat)(H':dw):Prop where
 s:Ee H' g G L sp sc
 g:∀k,G k->Array.size H<=k
 f:Fr fa H H'
 t:HG LL (L.map Lv.d) i
 r:Rt rt ((kL::LL).drop i)
theorem Ux.fC{H:dw}{g:Nat}{w:List Nd}{i:Nat}{I:Bool}{L:List Lv}{G:Nat->Prop}{N:dC}{O:Nat}{H' u:dw}(h:Ux H g w i I L G N O H')(f:Fr fa H' u):Ux H g w i I L G N O u:=⟨h.s.fC f,h.g,h.f.dF f,h.t,h.r⟩
theorem QS{H:dw}(ht:gG H){p:dC}{l c:Nat}{t:List TN}(h:D5 H p l c t){LL:List Nd}(hT:t.map TN.n=kL::LL)(hD:Eb LL){R:Bool->dw->Prop}(hR:∀H',Fr fa H H'->R true H'):jq.C p l c H R:=by
 apply jq.calls
 unfold jq.W
 have bT:=h.len
 have bU:=hD.n
 have cb:t.length=LL.length+1:=by have:=congrArg List.length hT;rwa[List.length_map,List.length_cons] at this
 have aW:∀{i:Nat}{y:TN},t[i]?=some y->(kL::LL)[i]?=some y.n:=λhy=>by rw[<-hT,List.getElem?_map,hy];rfl
 have aX:∀{i:Nat}{n:Nd},(kL::LL)[i]?=some n->∃y,t[i]?=some y/\y.n=n:=λI=>by
  rw[<-hT,List.getElem?_map] at I
  obtain⟨y,hy,e⟩:=Option.map_eq_some_iff.1 I
  exact⟨y,hy,e⟩
 refine dD (λ_ H'=>Fr fa H H') (dD (λs H'=>s=(false,())/\Fr fa H H') (eI (by omega) (eI (by omega) ?_)) ?_) ?_
 .obtain⟨y,hy,ey⟩:=aX (i:=0) (n:=kL) rfl
  have hc:=(h.a y (List.mem_of_getElem? hy)).1
  refine h.ld hy ?_
  rw[ey] at hc⊢
  exact F0 (n:=kL) (q:=y.q) (q':=none) (c:=y.c) (c':=0) hc rfl (by decide) λH3 f3=>⟨rfl,f3⟩
 .rintro _ H2 ⟨rfl,f2⟩
  exact dH rfl f2
 rintro _ H1 f1
 refine dN λH4 h4=>?_
 have f4:Fr fa H1 H4:=h4▸Fr.new H1 _ _
 have bw:Ee H4 (Array.size H1) (λk=>k=Array.size H1) [] none 0:=⟨h4▸eU,Sl.nil _ _,(λx hx=>by cases hx),λk O=>absurd O (fm k),rfl,λk O=>by rw[h4,gi];omega⟩
 have z1:=f1.size
 generalize Array.size H1=g at*
 refine dD (λs H'=>s=(1,())/\Fr fa H H') (eW (λm s H'=>∃(i:Nat)(rt:Bool)(L:List Lv)(G:Nat->Prop)(sp:dC)(sc:Nat),1<=i/\i<=t.length/\m=t.length-i/\s=((bif rt then 1 else 0:Int),(i:Int),())/\Ux H g LL i rt L G sp sc H') (t.length-1)
  ⟨1,false,[],λk=>k=g,none,0,Nat.le_refl _,by omega,rfl,rfl,bw,λk O=>by have O:k=g:=O;omega,f1.dF f4,.inr ⟨kL,Nat.le_refl 1,rfl,hD.w,Nat.zero_le _,by decide⟩,hD.r⟩ ?_) ?_
 .rintro m _ H6 ⟨i,rt,L,G,sp,sc,bx,hi,rfl,rfl,N⟩
  dsimp only
  refine eE (λaY=>?_) λbz=>?_
  rotate_left
  .have bz:i=t.length:=by omega
   have aj:=N.r
   rw[List.drop_eq_nil_of_le (by rw[<-hT,List.length_map];omega)] at aj
   have aj:rt=true:=aj
   subst aj
   exact⟨rfl,N.f⟩
  have aY:i<t.length:=by omega
  obtain⟨j,rfl⟩:∃j,i=j+1:=⟨i-1,by omega⟩
  obtain⟨y,hy⟩:∃y,t[j+1]?=some y:=⟨_,List.getElem?_eq_getElem aY⟩
  obtain⟨O,bA⟩:=tQ hD.w N.t (aW hy)
  obtain⟨a,ha,nx⟩:=bA bx
  rw[Nat.add_sub_cancel] at ha
  obtain⟨z,hz,rfl⟩:=aX ha
  have h6:=h.fC N.f
  have z6:=N.f.size
  have bf:(kL::LL).drop (j+1)=y.n::(kL::LL).drop (j+2):=by
   obtain⟨h1,h2⟩:=List.getElem?_eq_some_iff.1 (aW hy)
   rw[List.drop_eq_getElem_cons h1,h2]
  have aj:=N.r
  rw[bf] at aj
  obtain⟨bC,ap⟩:=aj
  obtain⟨Z,ad,cc⟩:∃Z:Nat,y.n.d=(Z:Int)/\1<=Z/\Z<=L.length+1:=by
   cases O with
   |doc hi I hL hs=>omega
   |lf I hm h1 hs=>exact⟨_,by rw[I],by rw[List.length_map] at h1;omega⟩
   |el I h1 hm ha ho hs=>exact⟨_,by rw[I];rfl,by rw[List.length_map] at h1;omega⟩
  have b0:L.length<=30:=by
   rcases N.t with⟨_,h⟩|⟨_,_,_,_,h,_⟩
   .rw[List.map_eq_nil_iff.1 h];exact Nat.zero_le _
   .rw[List.length_map] at h;exact h
  have ew:IntKind.i64.wrap (((j+1:Nat):Int)-1)=(j:Int):=by rw[mR (by omega) (by omega)];omega
  have aV:∀k:Int,(k=1\/k=2)->k≠1->decide (k≠2)=false:=λk h h1=>by
   rcases h with h|h
   .exact absurd h h1
   .rw[h];rfl
  refine dD (λs H'=>∃(ae:Bool)(L':List Lv)(G':Nat->Prop)(sp':dC)(sc':Nat),s=((bif ae then 1 else 0:Int),())/\Ux H g LL (j+2) ae L' G' sp' sc' H') (h6.ld hy (oa y λH9 b9 f9=>?_)) ?_
  rotate_left
  .rintro _ H7 ⟨ae,L',G',sp',sc',rfl,aE⟩
   exact eZ ⟨t.length-(j+2),by omega,j+2,ae,L',G',sp',sc',by omega,by omega,rfl,by show(_,_,_)=_;rw[qN (j+1) (by omega)],aE⟩
  have h9:=h6.fC f9
  have bF:=N.fC f9
  have bj:∃a:dA,p=some a/\0<=(j:Int)/\(j:Int)<(l:Int)/\∀H',Fr fa H9 H'->∀m,m<7->dL H' ((a.add ((j:Int).toNat*7)).add m)=(wj z)[m]?:=by
   obtain⟨a,ha,_⟩:=h9.at hz
   refine⟨a,ha,by omega,by omega,λH' f m hm=>?_⟩
   obtain⟨a',ax,aJ⟩:=(h9.fC f).at hz
   rw[ha] at ax
   cases ax
   rw[Int.toNat_natCast]
   exact aJ m hm
  obtain⟨pa,am,aq,ar,aF⟩:=bj
  have l6:Array.size H6<Array.size H9:=eR b9
  have cd:=nx.lo
  have bG:=nx.up
  refine dD (λ_ H'=>H9=H') (dD (λs H'=>s=(false,())/\H9=H') ⟨_,b9.cell 1,eI (by omega) ⟨_,b9.cell 1,eI (by omega) ⟨_,b9.cell 1,?_⟩⟩⟩ ?_) ?_
  .rw[ew]
   refine⟨pa,am,aq,ar,_,aF H9 (Fr.refl _ _) 1 (by decide),eI (by rw[mR (by omega) (by omega)];omega) ⟨_,b9.cell 1,pa,am,aq,ar,_,aF H9 (Fr.refl _ _) 1 (by decide),eE (λhd=>⟨pa,am,aq,ar,_,aF H9 (Fr.refl _ _) 0 (by decide),eE (λh1=>⟨pa,am,aq,ar,_,aF H9 (Fr.refl _ _) 0 (by decide),by rw[aV _ (bG.2 hd) h1],rfl⟩) λ_=>⟨rfl,rfl⟩⟩) λ_=>⟨rfl,rfl⟩⟩⟩
  .rintro _ _ ⟨rfl,rfl⟩
   exact dH rfl rfl
  rintro _ _ rfl
  have aK:∀k,G k->k<Array.size H6:=N.s.hl
  refine dD (λ_ H'=>∃(sp:dC)(sc:Nat),Ee H' g G (L.take (Z-1)) sp sc/\Fr (λk=>k=g) H9 H') (eW (λm(s:Unit) H'=>∃(sp:dC)(sc:Nat),m<=L.length/\Z-1<=m/\Ee H' g G (L.take m) sp sc/\Fr (λk=>k=g) H9 H') L.length ⟨sp,sc,Nat.le_refl _,by omega,by rw[List.take_length];exact bF.s,Fr.refl _ _⟩ ?_) ?_
  .rintro m _ bH ⟨sp,sc,ce,cf,aG,aL⟩
   have bI:(L.take m).length=m:=by rw[List.length_take];omega
   have bJ:js bH (Array.size H6) y.n y.q y.c:=aL.fi b9 λe=>by have:=aK _ N.s.hf;omega
   have aZ:=(dO aG.hg 0 0).trans rfl
   rw[bI] at aZ
   refine⟨_,rfl,_,_,_,aZ,_,bJ.cell 1,eE (λhd=>?_) λhd=>?_⟩
   .have hd:Z<=m:=by rw[ad] at hd;omega
    obtain⟨k,rfl⟩:∃k,m=k+1:=⟨m-1,by omega⟩
    have bK:L.take (k+1)=L.take k++[L[k]]:=by rw[List.take_add_one];simp[show k<L.length by omega]
    rw[bK] at aG
    exact D7 aG (by rw[List.length_take];omega) λcg bL bM=>⟨k,by omega,_,_,by omega,by omega,bL,aL.trans bM λk O=>.inl O⟩
   .have:m=Z-1:=by rw[ad] at hd;omega
    subst this
    exact⟨sp,sc,aG,aL⟩
  rintro _ ab ⟨sp,sc,a0,a3⟩
  have ay:js ab (Array.size H6) y.n y.q y.c:=a3.fi b9 λe=>by have:=aK _ N.s.hf;omega
  have aa:Fr fa H ab:=(N.f.dF f9).fresh a3 λk O=>by subst O;exact N.g _ N.s.hf
  have a4:=h.fC aa
  have a5:(L.take (Z-1)).map Lv.d=(L.map Lv.d).take (Z-1):=List.map_take
  have ch:(L.take (Z-1)).length<=30:=by rw[List.length_take];omega
  refine⟨_,ay.cell 0,?_⟩
  cases O with
  |doc ci I hL hs=>omega
  |@lf k lo v dd I hm h1 hs=>
   obtain⟨hq,hc⟩:=(h.a y (List.mem_of_getElem? hy)).2.1.2 (by rw[I];exact(pz hm).1)
   refine eI (by rw[I];exact(pz hm).1) (dD (λs H'=>s=(false,())/\Fr fa ab H') (ay.ld ?_) ?_)
   .have e:dd=Z:=by rw[I] at ad;exact Int.ofNat.inj ad
    have bO:=GX (H:=ab) (eH ht aa) (q:=(k,lo,v)) hm y.n.d (R:=λbk Y=>eL (!bk) ((λ(s:Bool×Unit) H'=>s=(false,())/\Fr fa ab H') (true,()) Y) (gf Y ((⟨Array.size H6,0,none⟩:dA).add 0) λbm=>
     eL (decide (bm=3)) (gf Y ((⟨Array.size H6,0,none⟩:dA).add 1) λbn=>
     eL (decide (bn=1)) ((λ(s:Bool×Unit) H'=>s=(false,())/\Fr fa ab H') (true,()) Y) (∃aO:dA,p=some aO/\0<=IntKind.i64.wrap (((j+1:Nat):Int)-1)/\IntKind.i64.wrap (((j+1:Nat):Int)-1)<(l:Int)/\gf Y ((aO.add ((IntKind.i64.wrap (((j+1:Nat):Int)-1)).toNat*7)).add 0) λbo=>
     eL (decide (bo=3)) (∃aP:dA,p=some aP/\0<=IntKind.i64.wrap (((j+1:Nat):Int)-1)/\IntKind.i64.wrap (((j+1:Nat):Int)-1)<(l:Int)/\gf Y ((aP.add ((IntKind.i64.wrap (((j+1:Nat):Int)-1)).toNat*7)).add 1) λbp=>gf Y ((⟨Array.size H6,0,none⟩:dA).add 1) λbq=>(λ(s:Bool×Unit) H'=>s=(false,())/\Fr fa ab H') (decide (bp=bq),()) Y) ((λ(s:Bool×Unit) H'=>s=(false,())/\Fr fa ab H') (false,()) Y))) ((λ(s:Bool×Unit) H'=>s=(false,())/\Fr fa ab H') (false,()) Y))) λY az=>?_
    .rw[hq,hc]
     have e2:y.n.gh.length=0:=by rw[I];rfl
     rw[e2]
     have ek:y.n.k=k/\y.n.p=[]/\y.n.l=lo/\y.n.u=[]/\y.n.v=v:=by rw[I];exact⟨rfl,rfl,rfl,rfl,rfl⟩
     rw[ek.1,ek.2.1,ek.2.2.1,ek.2.2.2.1,ek.2.2.2.2]
     exact bO
    .have aR:=ay.fC az
     have a6:∀m,m<7->dL Y ((pa.add ((j:Int).toNat*7)).add m)=(wj z)[m]?:=λm hm=>by
      obtain⟨a',ax,aJ⟩:=(a4.fC az).at hz
      rw[am] at ax
      cases ax
      rw[Int.toNat_natCast]
      exact aJ m hm
     rw[ew]
     refine dH rfl ⟨_,aR.cell 0,eE (λh3=>?_) λ_=>⟨rfl,az⟩⟩
     obtain⟨t1,t2⟩:=nx.t h3
     refine⟨_,aR.cell 1,eI (by omega) ⟨pa,am,aq,ar,_,a6 0 (by decide),eE (λbP=>⟨pa,am,aq,ar,_,a6 1 (by decide),_,aR.cell 1,?_,az⟩) λ_=>⟨rfl,az⟩⟩⟩
     rw[decide_eq_false λe=>t2 ⟨bP,e⟩]
   .rintro _ cj ⟨rfl,a7⟩
    refine dH rfl ⟨rt,L.take (Z-1),G,sp,sc,rfl,a0.fC a7,N.g,aa.dF a7,?_,?_⟩
    .have e:dd=Z:=by rw[I] at ad;exact Int.ofNat.inj ad
     rw[a5,<-e];exact hs
    .have:I4 y.n=false:=by rw[I];show(k==2&&_)=false;rw[beq_eq_false_iff_ne.2 (pz hm).1];rfl
     rw[this,Bool.or_false] at ap
     exact ap
  |@el nm al dd I h1 hm ha ho hs=>
   have e:dd=Z:=by rw[I] at ad;exact Int.ofNat.inj ad
   subst e
   have a8:=h.a y (List.mem_of_getElem? hy)
   refine fD (by rw[I];rfl) (ay.ld ?_)
   rw[<-a5] at I ho hs
   refine NG (eH ht aa) a0 (by omega) (by have:=jP ht;have:=N.g _ N.s.hf;omega) hm ha ho I (a4.a y (List.mem_of_getElem? hy)).1 (λk O=>⟨Nat.lt_of_lt_of_le (a8.2.2 k O) aa.size,λhh=>by have:=N.g k hh;have:=a8.2.2 k O;omega⟩) λG' p' c' q' m a9 bQ ba bu=>dH rfl ?_
   have bR:js a9 (Array.size H6) y.n y.q y.c:=ba.fi ay λe=>by have:=aK _ N.s.hf;omega
   have ck:=aa.size
   have aE:∀ae,Rt ae ((kL::LL).drop (j+2))->Ux H g LL (j+2) ae (L.take (dd-1)++[⟨mS (al.map jv),q',m⟩]) G' p' c' a9:=λae hr=>⟨bQ,λk O=>(bu k O).elim (N.g k) λh=>by omega,aa.fresh ba λk O=>by subst O;exact N.g _ N.s.hf,by rw[List.map_append];exact hs,hr⟩
   refine⟨_,bR.cell 1,eE (λhd=>eZ ?_) λhd=>?_⟩
   .have aH:I4 y.n=true:=by show(y.n.k==2&&y.n.d==1)=true;rw[hd,I];rfl
    have:=bC aH
    subst this
    rw[aH] at ap
    exact⟨true,_,G',p',c',rfl,aE true ap⟩
   .have aH:I4 y.n=false:=by show(y.n.k==2&&y.n.d==1)=false;rw[beq_eq_false_iff_ne.2 hd,Bool.and_false]
    rw[aH,Bool.or_false] at ap
    exact⟨rt,_,G',p',c',rfl,aE rt ap⟩
 .rintro _ H5 ⟨rfl,f5⟩
  exact hR H5 f5
end Go.Proofs.fv
namespace Go.Ex
structure Ef(i:Nat)(root:Bool)(L:List Nd)(pn:Nd)(Ls:List (List At)):Prop where
 la:(kL::L).getLast?=some pn
 w:∀r,Wk Ls pn r->Wk [] kL (L++r)
 rt:∀r,Rt root r->Rt false (L++r)
 tp:(pn.k=1\/pn.k=2)/\pn.d=(Ls.length:Int)\/¬(pn.k=1\/pn.k=2)/\pn.d=(Ls.length:Int)+1
 r0:root=false->Ls=[]
 ln:L.length<=i/\Ls.length<=i
section
variable {i:Nat} {root:Bool} {L:List Nd} {pn:Nd} {Ls:List (List At)}
theorem Ef.zero:Ef 0 false [] kL []:=⟨rfl,λr h=>h,λr h=>h,.inl ⟨.inl rfl,rfl⟩,λ_=>rfl,⟨Nat.le_refl 0,Nat.le_refl 0⟩⟩
theorem Ef.up(h:Ef i root L pn Ls):Ef (i+1) root L pn Ls:=⟨h.la,h.w,h.rt,h.tp,h.r0,by have:=h.ln;omega⟩
theorem Ef.hp(h:Ef i root L pn Ls){d:Nat}(N:d<=Ls.length+1):(d:Int)<=pn.d+1/\(pn.d<d->pn.k=1\/pn.k=2):=by
 rcases h.tp with⟨u,I⟩|⟨u,I⟩
 .exact⟨by omega,λ_=>u⟩
 .exact⟨by omega,λh=>by omega⟩
theorem Ef.lf(h:Ef i root L pn Ls){k:Int}{l v:By}{d:Nat}(N:(k,l,v)∈vO)(O:1<=d/\d<=Ls.length+1)(Y:k=3->1<d/\¬(pn.k=3/\pn.d=d)):Ef (i+1) root (L++[⟨k,d,[],l,[],v,[]⟩]) ⟨k,d,[],l,[],v,[]⟩ (Ls.take (d-1)):=by
 have I:=pz N
 have W:(Ls.take (d-1)).length=d-1:=by rw[List.length_take];omega
 have hi:I4 ⟨k,(d:Int),[],l,[],v,[]⟩=false:=by show(k==2&&_)=false;rw[beq_eq_false_iff_ne.2 I.1];rfl
 refine⟨by rw[<-List.cons_append];exact List.getLast?_concat,λr u=>?_,λr u=>?_,.inr ⟨λh=>h.elim I.2 I.1,by show(d:Int)=_;rw[W];omega⟩,λu=>by rw[h.r0 u];exact List.take_nil,by have:=h.ln;rw[List.length_append,List.length_singleton,W];omega⟩
 .rw[List.append_assoc]
  exact h.w _ (.lf O (h.hp O.2) N Y u)
 .rw[List.append_assoc]
  exact h.rt _ ⟨λe=>(by rw[hi] at e;cases e),by rw[hi,Bool.or_false];exact u⟩
theorem Ef.el(h:Ef i root L pn Ls){nm:By×By}{al:List (By×By×By)}{d:Nat}(Y:nm∈xV)(Z:zf al)(hn:wg (Ls.take (d-1)++[mS (al.map jv)]) nm.1 (al.map jv))(u:1<=d/\d<=Ls.length+1)(N:d<=30)(I:d=1->root=false):
 Ef (i+1) (root||decide (d=1)) (L++[uj (Ls.take (d-1)) nm al d]) (uj (Ls.take (d-1)) nm al d) (Ls.take (d-1)++[mS (al.map jv)]):=by
 have O:(Ls.take (d-1)++[mS (al.map jv)]).length=d:=by rw[List.length_append,List.length_take,List.length_singleton];omega
 have hi:I4 (uj (Ls.take (d-1)) nm al d)=decide (d=1):=by
  show((2:Int)==2&&(d:Int)==1)=_
  by_cases e:d=1
  .subst e;rfl
  .rw[decide_eq_false e,beq_eq_false_iff_ne.2 (show(d:Int)≠1 by omega),Bool.and_false]
 refine⟨by rw[<-List.cons_append];exact List.getLast?_concat,λr I=>?_,λr W=>?_,.inl ⟨.inr rfl,by show(d:Int)=_;rw[O]⟩,λe=>?_,by have:=h.ln;rw[List.length_append,List.length_singleton,O];omega⟩
 .rw[List.append_assoc]
  exact h.w _ (.el u (h.hp u.2) N Y Z hn I)
 .rw[List.append_assoc]
  exact h.rt _ ⟨λe=>I (by rw[hi] at e;exact of_decide_eq_true e),(by rw[hi];exact W)⟩
 .rw[Bool.or_eq_false_iff] at e
  have:=h.r0 e.1
  rw[this] at u
  have:d=1:=by simp at u;omega
  rw[decide_eq_true this] at e
  cases e.2
theorem Ef.doc(h:Ef i true L pn Ls)(hi:i<=31):Eb L:=by
 have u:=h.w [] (.nil _ _)
 have I:=h.rt [] rfl
 rw[List.append_nil] at u I
 exact⟨u,I,by have:=h.ln;omega⟩
end
end Go.Ex
namespace Go.Proofs.fv
open Go.Ex Go.X
structure Gc(H:dw)(g:Nat)(T:List TN)(A F:Nat->Prop)(lv:List Lv)(sp:dC)(sc:Nat)(p:dC)(l c:Nat)(H':dw):Prop where
 tr:jK 7 H' eC (rN T) p l c
 at':∀y∈T,eY H' y.q (gk y.n.gh)/\Bv y/\∀k,eB y.q k->A k
 s:Ee H' g F lv sp sc
 np:∀k,eB p k->Array.size H<=k/\¬A k
 nf:∀k,F k->Array.size H<=k/\¬eB p k/\¬A k
 na:∀k,A k->Array.size H<=k/\k<Array.size H'
 f:Fr fa H H'
section
variable {H:dw} {g:Nat} {T:List TN} {A F:Nat->Prop} {lv:List Lv} {sp:dC} {sc:Nat} {p:dC} {l c:Nat} {H' Bw:dw}
theorem Gc.fC(h:Gc H g T A F lv sp sc p l c H')(f:Fr fa H' Bw):Gc H g T A F lv sp sc p l c Bw:=
 ⟨h.tr.fC f,λy u=>⟨(h.at' y u).1.fC f,(h.at' y u).2⟩,h.s.fC f,h.np,h.nf,λk w=>⟨(h.na k w).1,Nat.lt_of_lt_of_le (h.na k w).2 f.size⟩,h.f.dF f⟩
theorem Gc.Xh(h:Gc H g T A F lv sp sc p l c H'):D5 H' p l c T:=⟨h.tr,λy u=>⟨(h.at' y u).1,(h.at' y u).2.1,λk w=>(h.na k ((h.at' y u).2.2 k w)).2⟩⟩
theorem Gc.eO(h:Gc H g T A F lv sp sc p l c H'){O:Nat->Prop}(f:Fr O H' Bw)(I:∀k,O k->Array.size H<=k/\¬eB p k/\¬A k/\¬F k):Gc H g T A F lv sp sc p l c Bw:=
 ⟨h.tr.eO f λk u w=>(I k w).2.1 u,λy N=>⟨(h.at' y N).1.eO f λk u w=>(I k w).2.2.1 ((h.at' y N).2.2 k u),(h.at' y N).2⟩,h.s.eO f λk u w=>(I k w).2.2.2 u,h.np,h.nf,λk u=>⟨(h.na k u).1,Nat.lt_of_lt_of_le (h.na k u).2 f.size⟩,h.f.fresh f λk u=>(I k u).1⟩
theorem Gc.WN(h:Gc H g T A F lv sp sc p l c H')(f:Fr (λk=>k=g) H' Bw){I:Nat->Prop}{w:List Lv}{sp':dC}{sc':Nat}(s:Ee Bw g I w sp' sc')(O:∀k,I k->F k\/Array.size H'<=k):Gc H g T A I w sp' sc' p l c Bw:=by
 obtain⟨W,Y,Z⟩:=h.nf g h.s.hf
 have z:=h.f.size
 exact⟨h.tr.eO f λk u e=>Y (e▸u),λy N=>⟨(h.at' y N).1.eO f λk u e=>Z (e▸(h.at' y N).2.2 k u),(h.at' y N).2⟩,s,h.np,λk u=>(O k u).elim (h.nf k) λhh=>⟨by omega,λhb=>by have:=h.tr.gE hb;omega,λha=>by have:=(h.na k ha).2;omega⟩,λk u=>⟨(h.na k u).1,Nat.lt_of_lt_of_le (h.na k u).2 f.size⟩,h.f.fresh f λk u=>by subst u;exact W⟩
theorem Gc.app(h:Gc H g T A F lv sp sc p l c H')(hl:l<=1000)(n:TN)(hn:eY H' n.q (gk n.n.gh))(hc:Bv n)(O:∀k,eB n.q k->Array.size H<=k/\k<Array.size H'/\¬eB p k/\¬F k){K:dC->Nat->Nat->dw->Prop}
 (hK:∀Y c' Bw,Gc H g (T++[n]) (λk=>A k\/eB n.q k) F lv sp sc Y (l+1) c' Bw->K Y (l+1) c' Bw):
 eG (eP H' (wj n).toArray eC) λH1:dw=>ji eC 7 104 (.agg #[.int .i64 0,.int .i64 0,.string dM,.string dM,.string dM,.string dM,.slice none 0 0]) p l c (.slice (some ⟨Array.size H',0,none⟩) 1 1) H1 K:=by
 refine dN λH1 h1=>sb (new:=wj n) h.tr h1 rfl rfl (wK _) (by omega) (by decide) λY c' H2 s2 f2 Z=>hK Y c' H2 ⟨by rw[<-rM];exact s2,λy I=>?_,h.s.eO f2 λk u w=>(h.nf k u).2.1 w,λk u=>?_,λk u=>⟨(h.nf k u).1,λw=>?_,λw=>w.elim (h.nf k u).2.2 λw=>(O k w).2.2.2 u⟩,λk u=>?_,h.f.fresh f2 λk u=>(h.np k u).1⟩
 .rcases List.mem_append.1 I with I|I
  .exact⟨(h.at' y I).1.eO f2 λk u w=>(h.np k w).2 ((h.at' y I).2.2 k u),(h.at' y I).2.1,λk u=>.inl ((h.at' y I).2.2 k u)⟩
  .rw[List.mem_singleton] at I
   subst I
   exact⟨hn.eO f2 λk u w=>(O k u).2.2.1 w,hc,λk u=>.inr u⟩
 .have z:=h.f.size
  rcases Z k u with w|w
  .exact⟨(h.np k w).1,λW=>W.elim (h.np k w).2 λN=>(O k N).2.2.1 w⟩
  .exact⟨by omega,λW=>W.elim (λW=>by have:=(h.na k W).2;omega) λN=>by have:=(O k N).2.1;omega⟩
 .rcases Z k w with N|N
  .exact(h.nf k u).2.1 N
  .have:=h.s.hl k u;omega
 .have z2:=f2.size
  rcases u with u|u
  .have:=h.na k u;omega
  .have:=O k u;omega
end
def Uy(H:dw)(g i:Nat)(p:dC)(l c:Nat)(root:Bool)(H':dw):Prop:=
 ∃L pn T A F lv sp sc,T.map TN.n=kL::L/\Gc H g T A F lv sp sc p l c H'/\Ef i root L pn (lv.map Lv.d)
def PJ(H:dw)(g i:Nat)(p:dC)(l c b:Nat)(root:Bool)(H':dw):Prop:=
 ∃L T A n F lv sp sc,T.map TN.n=kL::L/\js H' b n.n n.q n.c/\Gc H g T A F lv sp sc p l c H'/\eY H' n.q (gk n.n.gh)/\Bv n/\(∀k,eB n.q k->Array.size H<=k/\k<Array.size H'/\¬eB p k/\¬F k)/\Ef (i+1) root (L++[n.n]) n.n (lv.map Lv.d)
theorem PJ.fin{H:dw}{g i:Nat}{p:dC}{l c b:Nat}{root:Bool}{H':dw}(h:PJ H g i p l c b root H')(I:l<=1000){K:dC->Nat->Nat->dw->Prop}(N:∀u c' Bw,Uy H g (i+1) u (l+1) c' root Bw->K u (l+1) c' Bw):
 fx H' ⟨b,0,none⟩ λO W Y Z x4 x5 xp xl xc=>eG (eP H' #[.int .i64 O,.int .i64 W,.string Y,.string Z,.string x4,.string x5,.slice xp xl xc] eC) λH1:dw=>ji eC 7 104 (.agg #[.int .i64 0,.int .i64 0,.string dM,.string dM,.string dM,.string dM,.slice none 0 0]) p l c (.slice (some ⟨Array.size H',0,none⟩) 1 1) H1 K:=by
 obtain⟨L,T,A,n,F,lv,sp,sc,e,hb,hm,hc,hk,hq,hL⟩:=h
 exact hb.ld (hm.app I n hc hk hq λu c' Bw w=>N u c' Bw ⟨_,_,_,_,F,lv,sp,sc,by rw[List.map_append,e];rfl,w,hL⟩)
theorem XT(x:Int):∃r:Nat,r<3/\Int.tmod (IntKind.i64.wrap (IntKind.u64.wrap (Int.tdiv (IntKind.u64.wrap x) 64))) 3=(r:Int):=by
 have u:=tK x
 obtain⟨a,h⟩:∃a:Nat,IntKind.u64.wrap x=(a:Int):=⟨(IntKind.u64.wrap x).toNat,by omega⟩
 rw[h,show Int.tdiv (a:Int) 64=((a/64:Nat):Int) from rfl,wrap_u64 (by omega) (by omega),wrap_i64 (by omega) (by omega)]
 exact⟨a/64%3,Nat.mod_lt _ (by decide),rfl⟩
end Go.Proofs.fv
namespace Go.Ex
theorem O4(L:List (List At)):(kC [] L).2=true:=by
 unfold kC
 cases Ga [] L<;>rfl
theorem G3(L:List (List At)):wg L [] []:=⟨⟨O4 L,by decide⟩,λa h=>(by cases h),List.nodup_nil⟩
theorem FT:zf []:=⟨List.nil_sublist _,λq h=>by cases h⟩
end Go.Ex
namespace Go.Proofs.fv
open Go.Ex Go.X
theorem QU{H:dw}(ht:gG H){zs:List Int}{a:dC}{len cap:Nat}(bG:Rd H (zs.map (Value.int .i64)) a len){R:dC->Nat->Nat->dw->Prop}
 (hR:∀p l c t LL H',D5 H' p l c t->t.map TN.n=kL::LL->Eb LL->Fr fa H H'->R p l c H'):iU.C a len cap H R:=by
 have dW:zs.length=len:=by have:=bG.1;simpa using this
 have zt:=jP ht
 apply iU.calls
 unfold iU.W
 refine dN λH1 h1=>?_
 have f1:Fr fa H H1:=h1▸Fr.new H _ _
 have b1:H1[Array.size H]?=some (.cells (wj NM).toArray eC (0,0)):=h1▸eU
 have l1:Array.size H1=Array.size H+1:=h1▸gi
 refine dN λH2 h2=>?_
 have f2:Fr fa H1 H2:=h2▸Fr.new H1 _ _
 have bH:Ee H2 (Array.size H1) (λk=>k=Array.size H1) [] none 0:=⟨h2▸eU,Sl.nil _ _,(λx hx=>by cases hx),λk w=>absurd w (fm k),rfl,λk w=>by rw[h2,gi];omega⟩
 have a8:∀k,eB (some ⟨Array.size H,0,none⟩) k->Array.size H=k:=λk⟨a,ha,e⟩=>by cases ha;exact e
 have I0:Uy H (Array.size H1) 0 (some ⟨Array.size H,0,none⟩) 1 1 false H2:=by
  refine⟨[],kL,[NM],λ_=>False,_,[],none,0,rfl,⟨⟨rfl,.inr ⟨_,_,rfl,f2.fi b1 λh=>h,rfl,Nat.le_refl 1,λi hi=>?_⟩⟩,λy hy=>?_,bH,λk w=>⟨by have:=a8 k w;omega,λh=>h⟩,λk w=>⟨by have w:k=Array.size H1:=w;omega,λhb=>by have w:k=Array.size H1:=w;have:=a8 k hb;omega,λh=>h⟩,λk w=>w.elim,f1.dF f2⟩,Ef.zero⟩
  .simp[rN]
  .rw[List.mem_singleton] at hy
   rw[hy]
   exact⟨rfl,⟨Nat.zero_le _,λ_=>⟨rfl,rfl⟩⟩,λk w=>absurd w (fm k)⟩
 have g7:7<Array.size H1:=by omega
 generalize Array.size H1=g at I0 g7⊢
 clear bH f2 b1 f1 l1 h1 h2 a8
 refine dD (λs H'=>∃(i:Nat)(p:dC)(l c:Nat)(I:Bool),i<=30/\s=((p,l,c),I,())/\Uy H g i p l c I H') (eW (λt s H'=>∃(i:Nat)(p:dC)(l c:Nat)(I:Bool),i<=30/\t=30-i/\s=((p,l,c),I,(i:Int),())/\Uy H g i p l c I H') 30 ⟨0,_,_,_,_,by decide,rfl,rfl,I0⟩ ?_) ?_
 .rintro t _ H5 ⟨i,p,l,c,I,hi,rfl,rfl,hS⟩
  dsimp only
  refine dD (λ_ H'=>H5=H'/\i<len/\i<30) (eE (λh1=>eE (λh2=>⟨rfl,by omega,by omega⟩) λ_=>⟨i,p,l,c,I,hi,rfl,hS⟩) λ_=>⟨i,p,l,c,I,hi,rfl,hS⟩) ?_
  rintro _ _ ⟨rfl,dX,dY⟩
  refine dD (λs H'=>∃(p:dC)(l c:Nat)(I:Bool),s=((p,l,c),I,())/\Uy H g (i+1) p l c I H') ?_ ?_
  rotate_left
  .rintro _ H6 ⟨p',l',c',Z,rfl,cF⟩
   exact eZ ⟨30-(i+1),by omega,i+1,p',l',c',Z,by omega,rfl,by show(_,_,_,_)=_;rw[qN i (by omega)],cF⟩
  obtain⟨L,pn,T,A,F,N,sp,sc,hT,hM,hL⟩:=hS
  have cG:=qQ hM.tr
  have cH:T.length=L.length+1:=by have:=congrArg List.length hT;rwa[List.length_map,List.length_cons] at this
  have bI:=hL.ln
  rw[List.length_map] at bI
  have aR:=hL.tp
  rw[List.length_map] at aR
  have cI:i<zs.length:=by omega
  obtain⟨az,cJ,cK⟩:=(bG.fC hM.f).get (i:=i) (v:=.int .i64 zs[i]) (by rw[List.getElem?_map,List.getElem?_eq_getElem cI];rfl)
  refine⟨az,cJ,by omega,by omega,_,by rw[Int.toNat_natCast];exact cK,dN λu hu=>?_⟩
  obtain⟨m,rfl⟩:∃m,l=m+1:=⟨l-1,by omega⟩
  have ew:IntKind.i64.wrap (((m+1:Nat):Int)-1)=(m:Int):=by rw[mR (by omega) (by omega)];omega
  rw[ew]
  obtain⟨y,hy,ey⟩:∃y,T[m]?=some y/\y.n=pn:=by
   have h:=hL.la
   rw[<-hT,List.getLast?_eq_getElem?,List.length_map,List.getElem?_map] at h
   obtain⟨y,hy,e⟩:=Option.map_eq_some_iff.1 h
   exact⟨y,by rw[<-hy];congr 1;omega,e⟩
  refine hM.Xh.ld hy (oa y λH8 b8 f8=>?_)
  rw[ey] at b8
  have M8:=hM.fC f8
  have z5:Array.size H5<Array.size H8:=eR b8
  have dZ:g<Array.size H5:=hM.s.hl _ hM.s.hf
  have d2:=(hM.nf g hM.s.hf).1
  generalize d3:Array.size H5=lb at*
  refine⟨_,b8.cell 1,dD (λs H'=>s=(((N.length+1:Nat):Int),())/\H8=H') (dD (λs H'=>s=(decide (pn.k=1\/pn.k=2),())/\H8=H') ⟨_,b8.cell 0,eE (λe=>⟨by rw[decide_eq_true (.inr e)],rfl⟩) λe=>⟨_,b8.cell 0,?_,rfl⟩⟩ ?_) ?_⟩
  .rw[show decide (pn.k=1\/pn.k=2)=decide (pn.k=1) from decide_eq_decide.2 ⟨λh=>h.resolve_right e,.inl⟩]
  .rintro _ _ ⟨rfl,rfl⟩
   dsimp only
   refine eE (λw=>eZ ⟨?_,rfl⟩) λw=>⟨?_,rfl⟩
   .rcases aR with⟨_,e⟩|⟨e,_⟩
    .rw[e,qN _ (by omega)]
    .exact absurd w e
   .rcases aR with⟨e,_⟩|⟨_,e⟩
    .exact absurd e w
    .rw[e];rfl
  rintro _ _ ⟨rfl,rfl⟩
  dsimp only
  refine⟨by decide,by decide,dN λd0 bJ=>?_⟩
  obtain⟨r,O,er⟩:=XT zs[i]
  rw[hu,er,mR (by omega) (by omega)] at bJ
  refine dD (λs H'=>∃d:Nat,s=((d:Int),())/\1<=d/\d<=N.length+1/\H8=H') (eE (λh=>⟨1,rfl,by omega,by omega,rfl⟩) λh=>⟨d0.toNat,by rw[Int.toNat_of_nonneg (by omega)],by omega,by omega,rfl⟩) ?_
  rintro _ _ ⟨d1,rfl,BG,bK,rfl⟩
  clear bJ er O
  dsimp only
  refine dD (λs H'=>∃d:Nat,s=((d:Int),())/\1<=d/\d<=N.length+1/\(I=true->Int.tmod u 8<6->d=1->N.length=0)/\H8=H') (dD (λs H'=>(s.1=false->I=true->Int.tmod u 8<6->2<=d1)/\H8=H') (jI (λO=>eE (λh2=>⟨by decide,λhf _ h6=>?_,rfl⟩) λh2=>⟨λ_ _ _=>by omega,rfl⟩) λO=>⟨λ_ h=>(by rw[O] at h;cases h),rfl⟩) ?_) ?_
  .exact absurd h6 (of_decide_eq_false hf)
  .rintro⟨d4,_⟩ _ ⟨hx,rfl⟩
   dsimp only at hx⊢
   refine jI (λh=>eZ ?_) λh=>⟨d1,rfl,BG,bK,λh1 h2 h3=>by have:=hx h h1 h2;omega,rfl⟩
   refine⟨min 2 (N.length+1),?_,by omega,by omega,λ_ _ _=>by omega,rfl⟩
   show(min (2:Int) ((N.length+1:Nat):Int),())=_
   congr 1
   omega
  rintro _ _ ⟨d,rfl,dI,dJ,bL,rfl⟩
  clear BG bK
  dsimp only
  refine dD (λ_ H'=>∃(sp:dC)(sc:Nat),Ee H' g F (N.take (d-1)) sp sc/\Fr (λk=>k=g) H8 H') (eW (λm(s:Unit) H'=>∃(sp:dC)(sc:Nat),m<=N.length/\d-1<=m/\Ee H' g F (N.take m) sp sc/\Fr (λk=>k=g) H8 H') N.length ⟨sp,sc,Nat.le_refl _,by omega,by rw[List.take_length];exact M8.s,Fr.refl _ _⟩ ?_) ?_
  .rintro m _ d5 ⟨sp,sc,d6,d7,aS,bM⟩
   have cO:(N.take m).length=m:=by rw[List.length_take];omega
   have bN:=(dO aS.hg 0 0).trans rfl
   rw[cO] at bN
   refine⟨_,rfl,_,_,_,bN,eE (λhd=>?_) λhd=>?_⟩
   .obtain⟨k,rfl⟩:∃k,m=k+1:=⟨m-1,by omega⟩
    have cP:N.take (k+1)=N.take k++[N[k]]:=by rw[List.take_add_one];simp[show k<N.length by omega]
    rw[cP] at aS
    exact D7 aS (by rw[List.length_take];omega) λd8 cQ cR=>⟨k,by omega,_,_,by omega,by omega,cQ,bM.trans cR λk w=>.inl w⟩
   .have:m=d-1:=by omega
    subst this
    exact⟨sp,sc,aS,bM⟩
  rintro _ Hp ⟨sp',sc',cS,bO⟩
  have Mp:=M8.WN bO cS λk w=>.inl w
  have bl:js Hp lb pn y.q y.c:=bO.fi b8 (by omega)
  have aD:(N.take (d-1)).length=d-1:=by rw[List.length_take];omega
  have a9:(N.take (d-1)).map Lv.d=(N.map Lv.d).take (d-1):=List.map_take
  have ba:1<=d/\d<=(N.map Lv.d).length+1:=by rw[List.length_map];omega
  have zp:Array.size H<=Array.size Hp:=Mp.f.size
  have lp:∀k,eB p k->k<Array.size Hp:=λk w=>Mp.tr.gE w
  have lF:∀k,F k->k<Array.size Hp:=λk w=>Mp.s.hl k w
  have lA:∀k,A k->k<Array.size Hp:=λk w=>(Mp.na k w).2
  have d9:g<Array.size Hp:=lF g Mp.s.hf
  have skip:d=N.length+1->∀{H'},Fr fa Hp H'->∃(p':dC)(l' c':Nat)(Z:Bool),(((p,m+1,c),I,()):(dC×Nat×Nat)×Bool×Unit)=((p',l',c'),Z,())/\Uy H g (i+1) p' l' c' Z H':=λe H' f=>⟨p,m+1,c,I,rfl,L,pn,T,A,F,N,sp',sc',hT,by have:=Mp.fC f;rwa[List.take_of_length_le (by omega)] at this,hL.up⟩
  have aw:∀{k:Int}{lo v:By}{H':dw},(k,lo,v)∈vO->(k=3->1<d/\¬(pn.k=3/\pn.d=d))->Fr fa Hp H'->js H' (Array.size Hp) ⟨k,d,[],lo,[],v,[]⟩ none 0->PJ H g i p (m+1) c (Array.size Hp) I H':=λ{k lo v H'} hm h3 f hb=>
   ⟨L,T,A,⟨⟨k,d,[],lo,[],v,[]⟩,none,0⟩,F,N.take (d-1),sp',sc',hT,hb,Mp.fC f,rfl,⟨Nat.zero_le _,λ_=>⟨rfl,rfl⟩⟩,λk w=>absurd w (fm k),by rw[a9];exact hL.lf hm ba h3⟩
  refine oa ⟨⟨0,d,[],[],[],[],[]⟩,none,0⟩ λah ap aF=>?_
  have ap:js ah (Array.size Hp) ⟨0,d,[],[],[],[],[]⟩ none 0:=ap
  generalize ea:Array.size Hp=b at*
  have fb:∀{H' aT:dw},Fr fa Hp H'->Fr (λk=>k=b) H' aT->Fr fa Hp aT:=λf f'=>f.fresh f' λk w=>by omega
  refine dD (λs H'=>PJ H g i p (m+1) c b s.1 H') ⟨by decide,dN λeb bb=>eE (λcU=>?_) λcU=>eE (λbP=>?_) λbP=>eE (λcW=>?_) λcW=>?_⟩ ?_
  .
   refine dD (λ_ H'=>ah=H'/\(d=1->I=false)) (eE (λh1=>jI (λO=>skip (by have:=bL O (by rw[<-bb];omega) (by omega);omega) aF) λO=>⟨rfl,λ_=>O⟩) λh1=>⟨rfl,λh=>by omega⟩) ?_
   rintro _ _ ⟨rfl,aU⟩
   refine AB [[97],[98],[99],[97]] (by decide) rfl (by decide) λaa bc ec _ bQ=>hP (o:=0) (ap.fC bQ) (by simp[oe]) λcX bd cY=>?_
   have bd:js cX b ⟨2,d,[],[],[],[],[]⟩ none 0:=by rw[js,bd];simp[oe]
   refine hP (o:=3) bd (by simp[oe]) λbe aV cZ=>⟨by decide,N4 λq cq al ed ha c0 aP bR=>?_⟩
   have aV:js be b ⟨2,d,[],aa,[],[],[]⟩ none 0:=by rw[js,aV];simp[oe]
   have cu:=fb (fb (aF.dF bQ) cY) cZ
   have ee:b<Array.size be:=eR aV
   refine hP (o:=6) (aV.fC bR) (by simp[oe]) λc1 bf bS=>?_
   have bf:js c1 b ⟨2,d,[],aa,[],[],u7 al⟩ q cq:=by rw[js,bf];simp[oe,uM]
   have c4:=c0.eO bS λk w e=>by have:=aP k w;omega
   refine AB [[],[],[112],[113]] (by decide) rfl (by decide) λpre cv ef _ bg=>hP (o:=2) (bf.fC bg) (by simp[oe]) λaq aG bT=>⟨_,_,_,js.cell (n:=⟨2,d,pre,aa,[],[],u7 al⟩) (q:=q) (c:=cq) (by rw[js,aG];simp[oe]) 6,?_⟩
   have aG:js aq b ⟨2,d,pre,aa,[],[],u7 al⟩ q cq:=by rw[js,aG];simp[oe]
   have bh:=(c4.fC bg).eO bT λk w e=>by have:=aP k w;omega
   have cw:=fb ((fb (cu.dF bR) bS).dF bg) bT
   have bi:=Mp.fC cw
   have lq:∀k,eB q k->Array.size be<=k/\k<Array.size aq:=λk w=>⟨aP k w,bh.gE w⟩
   have eg:b<Array.size aq:=eR aG
   have n1:=ha.n
   refine Bn (eH ht bi.f) bi.s (by rw[aD];omega) rfl bh.cells (IU ha.m) (by rw[zy];exact n1.2.1) (by rw[uM];exact n1.2.2) λF' p2 c2 q2 mm bU bk aI bm=>eI (λh=>h rfl) ?_
   have bn:=bi.WN aI bk bm
   have c5:js bU b ⟨2,d,pre,aa,[],[],u7 al⟩ q cq:=aI.fi aG (by omega)
   have bV:=bh.eO aI λk w e=>by have:=lq k w;omega
   have c6:∀k,F' k->k<b\/Array.size aq<=k:=λk w=>(bm k w).imp (lF k) id
   have bW:∀cy∈([[],[],[112],[113]]:List By),∀cz∈([[97],[98],[99],[97]]:List By),(cy,cz)∈xV:=by decide
   have Y:∀k,(k=b\/eB q k)->Array.size H<=k/\¬eB p k/\¬A k/\¬F' k:=λk w=>by
    have eh:b<=k/\k<Array.size aq:=by
     rcases w with rfl|w
     .omega
     .have:=lq k w;omega
    exact⟨by omega,λhh=>by have:=lp k hh;omega,λhh=>by have:=lA k hh;omega,λhh=>by have:=c6 k hh;omega⟩
   have bX:(N.take (d-1)++[(⟨(u7 al).filter mf,q2,mm⟩:Lv)]).map Lv.d=(N.map Lv.d).take (d-1)++[mS (al.map jv)]:=by rw[List.map_append,a9];rfl
   refine dD (λ_ H'=>PJ H g i p (m+1) c b (I||decide (d=1)) H') ?_ ?_
   rotate_left
   .rintro _ c7 ar
    refine jI (λO=>?_) λO=>?_
    .rw[O,Bool.true_or] at ar;exact ar
    .rw[O,Bool.false_or] at ar
     show PJ H g i p (m+1) c b (decide ((d:Int)=1)) c7
     rw[show decide ((d:Int)=1)=decide (d=1) from decide_eq_decide.2 (by omega)]
     exact ar
   have cA:jK 4 bU eF (gk (u7 al)) q (u7 al).length cq:=by rw[uM];exact bV
   refine yF (eH ht bn.f) bk (by rw[List.length_append,aD,List.length_singleton];omega) c5 cA ⟨(Y b (.inl rfl)).2.2.2,by omega,λk w=>⟨(Y k (.inr w)).2.2.2,by have:=lq k w;omega,by have:=lq k w;omega⟩⟩ (IU ha.m) (by show(u7 al).length<=6;rw[uM];exact n1.2.2) (by show((u7 al).map j4).Nodup;rw[zy];exact n1.2.1) (λbY aW au aX aJ=>dH rfl ?_) λbY uu bZ au aJ=>eN rfl ?_
   .rw[bX] at aW au aX
    dsimp only at aW au aX
    rw[IT] at au aX
    have c8:((al.map jv).map (ie ((N.map Lv.d).take (d-1)++[mS (al.map jv)]))).length=al.length:=by simp
    refine⟨L,T,A,⟨uj ((N.map Lv.d).take (d-1)) (pre,aa) al d,q,cq⟩,F',_,p2,c2,hT,au,bn.eO aJ Y,aX.cells,⟨(by show((al.map jv).map (ie ((N.map Lv.d).take (d-1)++[mS (al.map jv)]))).length<=cq;rw[c8];exact bV.cap),λh=>absurd rfl h⟩,λk w=>⟨(Y k (.inr w)).1,by have:=lq k w;have:=aI.size;have:=aJ.size;show k<Array.size bY;omega,(Y k (.inr w)).2.1,(Y k (.inr w)).2.2.2⟩,?_⟩
    rw[bX]
    exact hL.el (bW pre cv aa bc) ha (M0.1 aW) ba (by omega) aU
   .have b0:=bn.eO aJ Y
    refine D7 b0.s (by rw[aD];omega) λei c9 bo=>?_
    have da:=b0.WN bo c9 λk w=>.inl w
    have db:=bo.fi au (by omega)
    refine hP (o:=2) db (by simp[oe]) λej dc b2=>hP (o:=6) dc (by simp[oe]) λbp bq b3=>?_
    have bq:js bp b ⟨2,d,[],aa,uu,[],[]⟩ none 0:=by rw[js,bq];simp[oe];rfl
    have br:=(da.eO b2 λk w=>Y k (.inl w)).eO b3 λk w=>Y k (.inl w)
    refine Bn (al:=[]) (eH ht br.f) br.s (by rw[aD];omega) rfl (show eY bp none (gk []) from rfl) (λa ha=>by cases ha) List.nodup_nil (Nat.zero_le _) λF2 p3 c3 q3 m3 ek bu b4 bv=>eI (λh=>h rfl) ?_
    have b5:=br.WN b4 bu bv
    have de:=b4.fi bq (by omega)
    have em:Array.size aq<=Array.size bp:=by have:=aI.size;have:=aJ.size;have:=bo.size;have:=b2.size;have:=b3.size;omega
    have b6:¬F2 b:=λhh=>(bv b hh).elim (Y b (.inl rfl)).2.2.2 λh=>by omega
    have b7:(N.take (d-1)++[(⟨([]:List At).filter mf,q3,m3⟩:Lv)]).map Lv.d=(N.map Lv.d).take (d-1)++[mS (([]:List (By×By×By)).map jv)]:=by rw[List.map_append,a9];rfl
    refine yF (eH ht b5.f) bu (by rw[List.length_append,aD,List.length_singleton];omega) de (jK.nil _ _ _) ⟨b6,by omega,λk w=>absurd w (fm k)⟩ (λa ha=>by cases ha) (Nat.zero_le _) List.nodup_nil (λdf aW b9 en dg=>dH rfl ?_) λdf u2 bZ _ _=>absurd (G3 _) bZ
    rw[b7] at b9
    refine⟨L,T,A,⟨uj ((N.map Lv.d).take (d-1)) ([],aa) [] d,none,0⟩,F2,_,p3,c3,hT,b9,b5.eO dg λk w=>?_,rfl,⟨Nat.zero_le _,λh=>absurd rfl h⟩,λk w=>absurd w (fm k),?_⟩
    .rcases w with rfl|w
     .have:=Y k (.inl rfl);exact⟨this.1,this.2.1,this.2.2.1,b6⟩
     .exact absurd w (fm k)
    .rw[b7]
     exact hL.el (bW [] (by decide) aa bc) FT (G3 _) ba (by omega) aU
  .
   have cB:Int.tmod u 8<6:=by rw[<-bb];exact bP
   refine AB OC (by decide) rfl (by decide) λv hv dh _ aL=>hP (o:=0) (ap.fC aL) (by simp[oe]) λdi bw bx=>hP (o:=5) bw (by simp[oe]) λbz ae bA=>?_
   have ae:js bz b ⟨3,d,[],[],[],v,[]⟩ none 0:=by rw[js,ae];simp[oe]
   have aj:=fb (fb (aF.dF aL) bx) bA
   have bB:=bl.fC aj
   have hm:∀v∈OC,((3:Int),([]:By),v)∈vO:=by decide
   refine eE (λh1=>skip ?_ aj) λh1=>⟨_,bB.cell 0,eE (λh3=>⟨_,bB.cell 1,eE (λhe=>skip ?_ aj) λhe=>aw (hm v hv) (λ_=>⟨by omega,λh=>he h.2⟩) aj ae⟩) λh3=>aw (hm v hv) (λ_=>⟨by omega,λh=>h3 h.1⟩) aj ae⟩
   .cases O:I with
    |true=>have:=bL O cB (by omega);omega
    |false=>have:=congrArg List.length (hL.r0 O);rw[List.length_map] at this;have:N.length=0:=this;omega
   .have eo:pn.k=3:=h3
    have ep:pn.d=(d:Int):=he
    rcases aR with⟨e,_⟩|⟨_,e⟩<;>omega
  .
   refine AB XV (by decide) rfl (by decide) λv hv dh _ aL=>hP (o:=0) (ap.fC aL) (by simp[oe]) λdi bw bx=>hP (o:=5) bw (by simp[oe]) λbz ae bA=>?_
   have ae:js bz b ⟨4,d,[],[],[],v,[]⟩ none 0:=by rw[js,ae];simp[oe]
   have hm:∀v∈XV,((4:Int),([]:By),v)∈vO:=by decide
   exact aw (hm v hv) (λh=>by cases h) (fb (fb (aF.dF aL) bx) bA) ae
  .
   have hm:∀x∈([[112,105],[113]]:List By),∀v∈([[],[100],[97,32,63,32,62]]:List By),((5:Int),x,v)∈vO:=by decide
   have c2:=C4 (Int.tdiv u 8) (B:=2) (by decide)
   have c3:=C4 (Int.tdiv u 16) (B:=3) (by decide)
   have ca:∀{x v:By}{H':dw},x∈([[112,105],[113]]:List By)->v∈([[],[100],[97,32,63,32,62]]:List By)->Fr fa ah H'->j0 (.int .i64 5) ((⟨b,0,none⟩:dA).add 0) H' λcb=>j0 (.string (eJ x)) ((⟨b,0,none⟩:dA).add 3) cb λcc=>j0 (.string (eJ v)) ((⟨b,0,none⟩:dA).add 5) cc λcd=>PJ H g i p (m+1) c b I cd:=λ{x v H'} hx hv f=>by
    refine hP (o:=0) (ap.fC f) (by simp[oe]) λcb dj dk=>hP (o:=3) dj (by simp[oe]) λcc dl dm=>hP (o:=5) dl (by simp[oe]) λcd dn dp=>?_
    exact aw (hm x hx v hv) (λh=>by cases h) (fb (fb (fb (aF.dF f) dk) dm) dp) (by rw[js,dn];simp[oe])
   refine⟨by decide,by decide,by decide,by decide,dN λaY ce=>?_,dN λaZ cf=>?_⟩
   .have dq:Fr fa ah aY:=ce▸Fr.new ah _ _
    obtain⟨x,hx,a0⟩:=pick (H':=aY) (ws:=[[112,105],[113]]) (ce▸eU) c2
    refine⟨_,rfl,c2.1,c2.2,_,a0,dN λcg ch=>?_⟩
    have ci:Fr fa aY cg:=ch▸Fr.new aY _ _
    obtain⟨v,hv,a3⟩:=pick (H':=cg) (ws:=[[],[100],[97,32,63,32,62]]) (ch▸eU) c3
    exact⟨⟨_,ci.cell a0 λh=>h,rfl⟩,_,rfl,c3.1,c3.2,_,a3,ca hx hv (dq.dF ci)⟩
   .have dr:Fr fa ah aZ:=cf▸Fr.new ah _ _
    obtain⟨v,hv,a3⟩:=pick (H':=aZ) (ws:=[[],[100],[97,32,63,32,62]]) (cf▸eU) c3
    refine⟨_,rfl,c3.1,c3.2,_,a3,dN λcj ck=>?_⟩
    have cm:Fr fa aZ cj:=ck▸Fr.new aZ _ _
    obtain⟨x,hx,a0⟩:=pick (H':=cj) (ws:=[[112,105],[113]]) (ck▸eU) c2
    exact⟨⟨_,cm.cell a3 λh=>h,rfl⟩,_,rfl,c2.1,c2.2,_,a0,ca hx hv (dr.dF cm)⟩
  .rintro⟨Z,_⟩ eq ar
   exact ar.fin (by omega) λp' c' aT h=>⟨p',m+1+1,c',Z,rfl,h⟩
 .rintro _ H3 ⟨i,p,l,c,I,hi,rfl,L,pn,T,A,F,N,sp,sc,hT,hM,hL⟩
  dsimp only
  have cG:=qQ hM.tr
  have cH:T.length=L.length+1:=by have:=congrArg List.length hT;rwa[List.length_map,List.length_cons] at this
  have bI:=hL.ln
  refine dD (λs H'=>∃(p:dC)(l c:Nat)(T:List TN)(LL:List Nd),s=((p,l,c),())/\D5 H' p l c T/\T.map TN.n=kL::LL/\Eb LL/\Fr fa H H') (jI (λO=>?_) λO=>?_) ?_
  .have O:I=false:=by simpa using O
   have ds:N.map Lv.d=[]:=hL.r0 O
   subst O
   rw[ds] at hL
   have hE:=hL.el (nm:=([],[114])) (al:=[]) (d:=1) (by decide) FT (G3 _) ⟨Nat.le_refl 1,Nat.le_refl 1⟩ (by decide) λ_=>rfl
   refine hM.app (by omega) ⟨⟨2,1,[],[114],[],[],[]⟩,none,0⟩ rfl ⟨Nat.zero_le _,λh=>absurd rfl h⟩ (λk w=>absurd w (fm k)) λp' c' aT cn=>⟨p',l+1,c',_,_,rfl,cn.Xh,by rw[List.map_append,hT];rfl,hE.doc (by omega),cn.f⟩
  .have O:I=true:=by simpa using O
   subst O
   exact⟨p,l,c,T,L,rfl,hM.Xh,hT,hL.doc (by omega),hM.f⟩
  rintro _ et ⟨p,l,c,T,LL,rfl,hA,e,hD,f⟩
  exact QS (eH ht f) hA e hD λdv co=>dH rfl (hR p l c T LL dv (hA.fC co) e hD (f.dF co))
end Go.Proofs.fv
namespace Go.Ex
theorem Io(nm:By×By)(al:List (By×By×By))(kd r:Fo):iV (.el nm al kd r)=iV (.el nm al kd .nil)++iV r:=by
 cases kd<;>simp[iV]
theorem SK{Ls:List (List At)}{d:Nat}:∀(f:Fo),∀h∈(mI Ls d f).head?,h.d=(d:Int)
 |.nil,h,u=>by cases u
 |.lf _ _ _ _,h,u=>by cases u;rfl
 |.el _ _ _ _,h,u=>by cases u;rfl
theorem No{Ls:List (List At)}{d:Nat}{f:Fo}{B:List Nd}(w:∀h∈B.head?,h.d<(d:Int)):∀h∈(mI Ls d f++B).head?,h.d<=(d:Int):=λh u=>by
 cases e:mI Ls d f with
 |nil=>rw[e] at u;have:=w h u;omega
 |cons a r=>
  rw[e] at u
  have:=SK (Ls:=Ls) (d:=d) f h (by rw[e];exact u)
  omega
inductive Wn:Nd->List (List At)->Nat->Fo->By->By->Prop where
 |doc (f:Fo):Wn kL [] 1 f [] (iV f)
 |lf {k:Int} {l v:By} {d:Nat} {Ls:List (List At)} (hm:(k,l,v)∈vO):Wn ⟨k,d,[],l,[],v,[]⟩ Ls (d+1) .nil (uy k l v) (uy k l v)
 |el {nm:By×By} {al:List (By×By×By)} {d:Nat} {Ls:List (List At)} (hm:nm∈xV) (ha:zf al) (kd:Fo):Wn (uj Ls nm al d) (Ls++[mS (al.map jv)]) (d+1) kd (60::(qn nm.1 nm.2++nz al)) (iV (.el nm al kd .nil))
theorem Wn.d{n:Nd}{Ls:List (List At)}{u:Nat}{kd:Fo}{w x:By}(h:Wn n Ls u kd w x):(u:Int)=n.d+1:=by cases h<;>rfl
theorem drop_at{α:Type}{T:List α}{k:Nat}{n:α}{R:List α}(h:T.drop k=n::R)(j:Nat):T[k+1+j]?=R[j]?:=by
 have:T.drop (k+1)=R:=by
  have:=congrArg (List.drop 1) h
  rwa[List.drop_drop] at this
 rw[<-this,List.getElem?_drop]
theorem Fz{α:Type}{T:List α}{k:Nat}{n:α}{R:List α}(h:T.drop k=n::R):T.length=k+1+R.length:=by
 have:=congrArg List.length h
 rw[List.length_drop,List.length_cons] at this
 omega
theorem Vw:∀q∈vO,q.2.1.length<=10/\q.2.2.length<=10/\(q.1=3/\q.2.2∈OC\/q.1=4\/q.1=5):=by decide
end Go.Ex
namespace Go.Proofs.fv
open Go.Ex Go.X
theorem Az{H:dw}(p l:By)(I:p.length+l.length<=1000000){R:dE->dw->Prop}(u:R (eJ (qn p l)) H):gQ.C (eJ p) (eJ l) H R:=by
 apply gQ.calls
 unfold gQ.W
 refine eE (λh=>?_) λh=>?_
 .have:=qV.1 h
  subst this
  exact u
 .have h:p≠[]:=λe=>h (qV.2 e)
  have e:qn p l=p++([58]++l):=by cases p with|nil=>exact absurd rfl h|cons a p=>simp[qn]
  have w:eJ p++rG++eJ l=eJ (qn p l):=by
   rw[e,<-List.append_assoc,<-fj,<-fj];rfl
  rw[w]
  refine⟨?_,?_,u⟩
  .rw[fc];show p.length+1<=_;omega
  .rw[show eJ p++rG=eJ (p++[58]) from fj p [58],fc,fc,List.length_append,List.length_singleton];omega
section
variable {H:dw} {p:dC} {l c:Nat} {t:List TN} {T:List Nd}
theorem Ea(h:D5 H p l c t)(hT:t.map TN.n=T)(hl:l<=1000){k:Nat}{n:Nd}{K B:List Nd}(Y:T.drop k=n::(K++B))(hK:∀m∈K,n.d<m.d)(hB:∀m∈B.head?,m.d<=n.d){R:Int->dw->Prop}(hR:R ((k+1+K.length:Nat):Int) H):ir.C p l c (k:Int) H R:=by
 apply ir.calls
 unfold ir.W
 have Z:=h.len
 have ar:T.length=l:=by rw[<-hT,List.length_map,Z]
 have ac:=Fz Y
 rw[List.length_append] at ac
 have hk:T[k]?=some n:=by
  have:=congrArg (λL=>L[0]?) Y
  rwa[List.getElem?_drop] at this
 have w:∀{i:Nat}{m:Nd},T[i]?=some m->∃a:dA,p=some a/\0<=(i:Int)/\(i:Int)<(l:Int)/\gf H ((a.add ((i:Int).toNat*7)).add 1) λx=>x=m.d:=λ{i m} hi=>by
  rw[<-hT,List.getElem?_map] at hi
  obtain⟨y,hy,rfl⟩:=Option.map_eq_some_iff.1 hi
  obtain⟨a,ha,hc⟩:=h.at hy
  have:=(List.getElem?_eq_some_iff.1 hy).1
  exact⟨a,ha,by omega,by omega,_,by rw[Int.toNat_natCast];exact hc 1 (by decide),rfl⟩
 refine dD (λ_ H'=>H=H') (dD (λs H'=>s=(false,())/\H=H') (eI (by omega) ⟨by rw[decide_eq_false (by omega)],rfl⟩) ?_) ?_
 .rintro _ _ ⟨rfl,rfl⟩
  exact dH rfl rfl
 rintro _ _ rfl
 rw[qN k (by omega)]
 refine eZ (dD (λs H'=>s=(((k+1+K.length:Nat):Int),())/\H=H') (eW (λm(s:Int×Unit) H'=>∃j:Nat,j<=K.length/\m=K.length-j/\s=(((k+1+j:Nat):Int),())/\H=H') K.length ⟨0,Nat.zero_le _,rfl,rfl,rfl⟩ ?_) ?_)
 .rintro m _ _ ⟨j,hj,rfl,rfl,rfl⟩
  dsimp only
  have N:j=K.length->((((k+1+j:Nat):Int),()):Int×Unit)=(((k+1+K.length:Nat):Int),())/\H=H:=λe=>by rw[e];exact⟨rfl,rfl⟩
  have u:=drop_at Y j
  refine dD (λ_ H'=>H=H'/\j<K.length) (eE (λO=>?_) λae=>N (by omega)) ?_
  .obtain⟨m,hm⟩:∃m,T[k+1+j]?=some m:=⟨_,List.getElem?_eq_getElem (by omega)⟩
   obtain⟨a,ha,a1,a2,x,hx,ex⟩:=w hm
   obtain⟨b,hb,b1,b2,z,hz,ez⟩:=w hk
   rw[hm] at u
   refine⟨a,ha,a1,a2,x,hx,b,hb,b1,b2,z,hz,eE (λO=>⟨rfl,?_⟩) λae=>N ?_⟩
   .rcases Nat.lt_or_ge j K.length with I|I
    .exact I
    .have:j=K.length:=by omega
     subst this
     rw[List.getElem?_append_right (Nat.le_refl _),Nat.sub_self] at u
     have:=hB m (by rw[List.head?_eq_getElem?,<-u];rfl)
     omega
   .rcases Nat.lt_or_ge j K.length with I|I
    .rw[List.getElem?_append_left I] at u
     have:=hK m (List.mem_of_getElem? u.symm)
     omega
    .omega
  .rintro _ _ ⟨rfl,O⟩
   exact eZ ⟨K.length-(j+1),by omega,j+1,by omega,rfl,by show(IntKind.i64.wrap (((k+1+j:Nat):Int)+1),())=_;rw[qN (k+1+j) (by omega)];rfl,rfl⟩
 .rintro _ _ ⟨rfl,rfl⟩
  exact hR
theorem HD(ht:gG H){n:Nd}{Ls:List (List At)}{dk:Nat}{kd:Fo}{w x:By}(hn:Wn n Ls dk kd w x){q:dC}{cq:Nat}(hq:eY H q (gk n.gh)){R:dE->dw->Prop}(hR:∀H',Fr fa H H'->R (eJ w) H'):ia.C n.k n.d (eJ n.p) (eJ n.l) (eJ n.u) (eJ n.v) q n.gh.length cq H R:=by
 apply ia.calls
 unfold ia.W
 refine dN λO h1=>?_
 have f1:Fr fa H O:=h1▸Fr.new H _ _
 have Y:js O (Array.size H) n q cq:=h1▸eU
 have I:∀{a b:By},a.length+b.length<=1000000->(eJ a).size+(eJ b).size<=9223372036854775807:=λ{a b} h=>by rw[fc,fc];omega
 cases hn with
 |doc f=>
  refine dD (λ_ H'=>O=H') ⟨_,Y.cell 0,eI (by decide) (eI (by decide) (eI (by decide) (eI (by decide) rfl)))⟩ ?_
  rintro _ _ rfl
  exact hR O f1
 |@lf k N v d Ls hm=>
  obtain⟨ay,az,aj⟩:=Vw _ hm
  dsimp only at ay az aj
  refine dD (λ_ H'=>False) ⟨_,Y.cell 0,eI (pz hm).1 ?_⟩ λ_ _ h=>h.elim
  rcases aj with⟨rfl,hv⟩|rfl|rfl
  .exact fD rfl ⟨_,Y.cell 5,QW (eH ht f1) hv λH8 f8=>hR H8 (f1.dF f8)⟩
  .refine eI (by show¬(4:Int)=3;decide) (fD rfl ⟨_,Y.cell 5,I (a:=[60,33,45,45]) (b:=v) (by show 4+v.length<=_;omega),?_,?_⟩)
   .show(eJ [60,33,45,45]++eJ v).size+(eJ [45,45,62]).size<=_
    rw[fj]
    exact I (by simp only[List.length_append,List.length_cons,List.length_nil];omega)
   .show R (eJ [60,33,45,45]++eJ v++eJ [45,45,62]) O
    rw[fj,fj,List.append_assoc]
    exact hR O f1
  .refine eI (by show¬(5:Int)=3;decide) (eI (by show¬(5:Int)=4;decide) (fD rfl ⟨_,Y.cell 5,eE (λh=>?_) λh=>?_⟩))
   .have hv:v=[]:=qV.1 h
    subst hv
    refine⟨_,Y.cell 3,I (a:=[60,63]) (b:=N) (by show 2+N.length<=_;omega),?_,?_⟩
    .show(eJ [60,63]++eJ N).size+(eJ [63,62]).size<=_
     rw[fj]
     exact I (by simp only[List.length_append,List.length_cons,List.length_nil];omega)
    .show R (eJ [60,63]++eJ N++eJ [63,62]) O
     rw[fj,fj,List.append_assoc]
     exact hR O f1
   .have hv:v≠[]:=λe=>h (qV.2 e)
    have ep:OG v=32::v:=by cases v with|nil=>exact absurd rfl hv|cons a v=>rfl
    have ew:uy 5 N v=[60,63]++N++[32]++v++[63,62]:=by
     show[60,63]++(N++(OG v++[63,62]))=_
     rw[ep];simp
    rw[ew] at hR
    refine⟨_,Y.cell 3,I (a:=[60,63]) (b:=N) (by show 2+N.length<=_;omega),?_,_,Y.cell 5,?_,?_,?_⟩
    .show(eJ [60,63]++eJ N).size+(eJ [32]).size<=_
     rw[fj]
     exact I (by simp only[List.length_append,List.length_cons,List.length_nil];omega)
    .show(eJ [60,63]++eJ N++eJ [32]).size+(eJ v).size<=_
     rw[fj,fj]
     exact I (by simp only[List.length_append,List.length_cons,List.length_nil];omega)
    .show(eJ [60,63]++eJ N++eJ [32]++eJ v).size+(eJ [63,62]).size<=_
     rw[fj,fj,fj]
     exact I (by simp only[List.length_append,List.length_cons,List.length_nil];omega)
    .show R (eJ [60,63]++eJ N++eJ [32]++eJ v++eJ [63,62]) O
     rw[fj,fj,fj,fj]
     exact hR O f1
 |@el nm al d Ls hm ha kd=>
  have aR:=(LZ hm).2
  have aS:nm.1.length+nm.2.length<=10:=by
   have:∀q∈xV,q.1.length+q.2.length<=10:=by decide
   exact this _ hm
  have Z:(uj Ls nm al d).gh.length=al.length:=by show((al.map jv).map _).length=_;simp
  have h6:=ha.n.2.2
  refine dD (λ_ H'=>False) ⟨_,Y.cell 0,fD rfl ⟨_,Y.cell 2,_,Y.cell 3,Az nm.1 nm.2 (by omega) ⟨I (a:=[60]) (b:=qn nm.1 nm.2) (by show 1+_<=_;omega),?_⟩⟩⟩ λ_ _ h=>h.elim
  refine dD (λs H'=>s=(eJ (60::(qn nm.1 nm.2++nz al)),())/\Fr fa O H') (eW (λm s H'=>∃i:Nat,s=(eJ (60::(qn nm.1 nm.2++nz (al.take i))),(i:Int),())/\i<=al.length/\m=al.length-i/\Fr fa O H') al.length ⟨0,?_,by omega,rfl,Fr.refl _ _⟩ ?_) ?_
  .show(eJ [60]++eJ (qn nm.1 nm.2),_,_)=_
   rw[fj,List.take_zero]
   show(eJ (60::qn nm.1 nm.2),_,_)=(eJ (60::(qn nm.1 nm.2++[])),_,_)
   rw[List.append_nil]
   rfl
  .rintro m _ H5 ⟨i,rfl,hi,rfl,f5⟩
   dsimp only
   have b5:=Y.fC f5
   refine⟨_,_,_,b5.cell 6,eE (λaa=>?_) λaf=>?_⟩
   rotate_left
   .have:i=al.length:=by rw[Z] at af;omega
    rw[this,List.take_length]
    exact⟨rfl,f5⟩
   have aa:i<al.length:=by rw[Z] at aa;omega
   have ab:0<=(i:Int)/\(i:Int)<((uj Ls nm al d).gh.length:Int):=by rw[Z];omega
   obtain⟨a,ag,aB⟩:=kj ((hq.fC f1).fC f5) (i:=i) (by rw[Z];exact aa)
   have hg:(uj Ls nm al d).gh[i]?=some (ie (Ls++[mS (al.map jv)]) (jv al[i])):=by
    show((al.map jv).map _)[i]?=_
    rw[List.getElem?_map,List.getElem?_map,List.getElem?_eq_getElem aa]
    rfl
   have af:=(List.getElem?_eq_some_iff.1 hg).2
   have an:=ha.m _ (List.getElem_mem aa)
   have aD:al.take (i+1)=al.take i++[al[i]]:=by rw[List.take_add_one];simp[aa]
   have hs:=(EG (al.take i) λq hq=>ha.m q (List.mem_of_mem_take hq)).2
   have aT:(al.take i).length<=6:=by rw[List.length_take];omega
   have hx:=(EG [al[i]] λq hq=>by rw[List.mem_singleton] at hq;rw[hq];exact an).2
   have ae:∀H',Fr fa H5 H'->∀j,j<4->dL H' ((a.add (i*4)).add j)=([.string (eJ al[i].1),.string (eJ al[i].2.1),.string (eJ (ie (Ls++[mS (al.map jv)]) (jv al[i])).u),.string (eJ al[i].2.2)]:List dB)[j]?:=λH' f j hj=>by
    obtain⟨a2,ap,ae⟩:=kj (((hq.fC f1).fC f5).fC f) (i:=i) (by rw[Z];exact aa)
    rw[ag] at ap
    cases ap
    rw[ae j hj,af]
    rfl
   clear af hg aB
   generalize al[i]=y at*
   have ey:nz [y]=32::(oY y++(61::34::(yB y++[34]))):=by simp[nz]
   have aq:nz (al.take (i+1))=nz (al.take i)++nz [y]:=by rw[aD];simp[nz]
   rw[ey] at hx aq
   simp only[List.length_append,List.length_cons,List.length_nil] at hx
   have hS:(60::(qn nm.1 nm.2++nz (al.take i)):By).length<=300:=by simp only[List.length_append,List.length_cons];omega
   have au:((((eJ (60::(qn nm.1 nm.2++nz (al.take i)))++eJ [32])++eJ (oY y))++eJ [61,34])++eJ (yB y))++eJ [34]=eJ (60::(qn nm.1 nm.2++nz (al.take (i+1)))):=by
    rw[fj,fj,fj,fj,fj,aq];simp
   generalize(60::(qn nm.1 nm.2++nz (al.take i)):By)=S at*
   have c5:=ae H5 (Fr.refl _ _)
   have aU:y.1.length+y.2.1.length<=10:=by
    have:∀q∈qK,q.1.length+q.2.1.length<=10:=by decide
    exact this _ an
   refine⟨I (a:=S) (b:=[32]) (by show S.length+1<=_;omega),_,_,_,b5.cell 6,a,ag,ab.1,ab.2,_,c5 0 (by decide),_,_,_,b5.cell 6,a,ag,ab.1,ab.2,_,c5 1 (by decide),_,_,_,b5.cell 6,a,ag,ab.1,ab.2,_,c5 3 (by decide),Az y.1 y.2.1 (by omega) ⟨⟨_,_,_,b5.cell 6,rfl⟩,⟨_,c5 3 (by decide),rfl⟩,?_,?_,QX (q:=y) (eH ht (f1.dF f5)) an λH7 f7=>⟨?_,?_,eZ ⟨al.length-(i+1),by omega,i+1,?_,by omega,rfl,f5.dF f7⟩⟩⟩⟩
   .show(eJ S++eJ [32]).size+(eJ (oY y)).size<=_
    rw[fj]
    exact I (by simp only[List.length_append,List.length_cons,List.length_nil];omega)
   .show(eJ S++eJ [32]++eJ (oY y)).size+(eJ [61,34]).size<=_
    rw[fj,fj]
    exact I (by simp only[List.length_append,List.length_cons,List.length_nil];omega)
   .show(eJ S++eJ [32]++eJ (oY y)++eJ [61,34]).size+(eJ (yB y)).size<=_
    rw[fj,fj,fj]
    exact I (by simp only[List.length_append,List.length_cons,List.length_nil];omega)
   .show(eJ S++eJ [32]++eJ (oY y)++eJ [61,34]++eJ (yB y)).size+(eJ [34]).size<=_
    rw[fj,fj,fj,fj]
    exact I (by simp only[List.length_append,List.length_cons,List.length_nil];omega)
   .rw[<-au,<-qN i (by omega)]
    rfl
  .rintro _ H4 ⟨rfl,f4⟩
   exact hR H4 (f1.dF f4)
end
end Go.Proofs.fv
namespace Go.Ex
theorem IP{Ls:List (List At)}{d:Nat}:∀{f:Fo},(mI Ls d f).length=0->f=.nil
 |.nil,_=>rfl
theorem Pa(nm:By×By)(al:List (By×By×By)){kd:Fo}(h:kd≠.nil):iV (.el nm al kd .nil)=60::(qn nm.1 nm.2++nz al)++[62]++iV kd++[60,47]++qn nm.1 nm.2++[62]:=by
 cases kd with
 |nil=>exact absurd rfl h
 |_=>simp[iV]
end Go.Ex
namespace Go.Proofs.fv
open Go.Ex Go.X
section
variable {p:dC} {l c:Nat} {t:List TN} {T:List Nd}
theorem Od(hT:t.map TN.n=T)(hl:l<=100):∀(N:Nat){H:dw}(ht:gG H)(h:D5 H p l c t){k:Nat}{n:Nd}{Ls:List (List At)}{u:Nat}{kd:Fo}{w x:By}{B:List Nd}{pt:Bool}(hn:Wn n Ls u kd w x)(ag:ze Ls u pt kd)(hN:(mI Ls u kd).length<N)(hd:T.drop k=n::(mI Ls u kd++B))(hB:∀m∈B.head?,m.d<(u:Int))
 {R:dE->dw->Prop}(hR:∀H',Fr fa H H'->R (eJ x) H'),ij.C p l c (k:Int) H R:=by
 intro N
 induction N with
 |zero=>intro H ht h k n Ls u kd w x B pt hn ag hN;omega
 |succ N ih=>
 intro H ht h k n Ls u kd w x B pt hn ag hN hd hB R hR
 apply ij.calls
 unfold ij.W
 have aF:=h.len
 have a8:T.length=l:=by rw[<-hT,List.length_map,aF]
 have aK:=Fz hd
 rw[List.length_append] at aK
 have aL:=hn.d
 have hk:T[k]?=some n:=by
  have:=congrArg (λL=>L[0]?) hd
  rwa[List.getElem?_drop] at this
 obtain⟨y,hy,rfl⟩:∃y,t[k]?=some y/\y.n=n:=by
  rw[<-hT,List.getElem?_map] at hk
  obtain⟨y,hy,e⟩:=Option.map_eq_some_iff.1 hk
  exact⟨y,hy,e⟩
 have a9:=(vF kd ag).2
 have hK:∀m∈mI Ls u kd,y.n.d<m.d:=λm I=>by have:=rR kd m I;omega
 have ar:∀m∈B.head?,m.d<=y.n.d:=λm I=>by have:=hB m I;omega
 have Z:∀{a b:By},a.length+b.length<=1000000->(eJ a).size+(eJ b).size<=9223372036854775807:=λ{a b} h=>by rw[fc,fc];omega
 refine h.ld hy (HD ht hn (h.a y (List.mem_of_getElem? hy)).1 λH1 f1=>?_)
 have h1:=h.fC f1
 refine dD (λs H'=>s=(eJ (iV kd),())/\Fr fa H1 H') ?_ ?_
 .rw[qN k (by omega)]
  refine eZ (eW (λm s H'=>∃(i:Nat)(f':Fo)(wv:By)(aC:Bool),s=(eJ wv,(i:Int),())/\m=(mI Ls u f').length/\T.drop i=mI Ls u f'++B/\wv++iV f'=iV kd/\ze Ls u aC f'/\Fr fa H1 H'/\(mI Ls u f').length<=(mI Ls u kd).length/\i+(mI Ls u f').length=k+1+(mI Ls u kd).length) (mI Ls u kd).length ⟨k+1,kd,[],pt,rfl,rfl,?_,rfl,ag,Fr.refl _ _,Nat.le_refl _,rfl⟩ ?_)
  .have:=congrArg (List.drop 1) hd
   rwa[List.drop_drop] at this
  rintro m _ H3 ⟨i,f',wv,aC,rfl,rfl,aD,hw,ah,f3,ba,hi⟩
  dsimp only
  have h3:=h1.fC f3
  have t3:=eH ht (f1.dF f3)
  have aw:=congrArg List.length hw
  rw[List.length_append] at aw
  have aX:=(vF f' ah).2
  refine Ea h3 hT (by omega) hd hK ar (eE (λbb=>?_) λbc=>?_)
  rotate_left
  .have:f'=.nil:=IP (Ls:=Ls) (d:=u) (by omega)
   subst this
   rw[show iV Fo.nil=[] from rfl,List.append_nil] at hw
   rw[hw]
   exact⟨rfl,f3⟩
  cases f' with
  |nil=>rw[show(mI Ls u Fo.nil).length=0 from rfl] at hi;omega
  |lf k2 l2 v2 r=>
   have ax:(mI Ls u (.lf k2 l2 v2 r)).length=(mI Ls u r).length+1:=rfl
   have Y:T.drop i=⟨k2,u,[],l2,[],v2,[]⟩::(mI Ls u r++B):=aD
   have ac:=No (Ls:=Ls) (f:=r) hB
   refine ih t3 h3 (.lf (Ls:=Ls) (d:=u) ah.1) (kd:=.nil) (pt:=false) trivial (by show 0<N;omega) Y (λm I=>by have:=ac m I;omega) λH5 f5=>⟨?_,Ea (K:=[]) (h3.fC f5) hT (by omega) Y (λm I=>by cases I) ac ⟨(mI Ls u r).length,by omega,i+1,r,wv++uy k2 l2 v2,k2==3,?_,rfl,?_,?_,ah.2.2,f3.dF f5,by omega,by omega⟩⟩
   .have e:iV (.lf k2 l2 v2 r)=uy k2 l2 v2++iV r:=rfl
    rw[e,List.length_append] at aw
    exact Z (by omega)
   .rw[fj];rfl
   .have:=congrArg (List.drop 1) Y
    rwa[List.drop_drop] at this
   .rw[List.append_assoc];exact hw
  |el nm al O r=>
   have ax:(mI Ls u (.el nm al O r)).length=(mI (Ls++[mS (al.map jv)]) (u+1) O).length+(mI Ls u r).length+1:=by
    show(_::(_++_):List Nd).length=_
    rw[List.length_cons,List.length_append]
   have Y:T.drop i=uj Ls nm al u::(mI (Ls++[mS (al.map jv)]) (u+1) O++(mI Ls u r++B)):=by
    rw[aD]
    show _::(_++_)++_=_
    simp
   have ac:=No (Ls:=Ls) (f:=r) hB
   obtain⟨o1,o2,o3,o4,o5,o6⟩:=ah
   refine ih t3 h3 (.el (Ls:=Ls) (d:=u) o1 o2 O) o5 (by omega) Y (λm I=>by have:=ac m I;omega) λH5 f5=>⟨?_,Ea (h3.fC f5) hT (by omega) Y (λm I=>by have:=rR O m I;show(u:Int)<m.d;omega) ac ⟨(mI Ls u r).length,by omega,i+1+(mI (Ls++[mS (al.map jv)]) (u+1) O).length,r,wv++iV (.el nm al O .nil),false,?_,rfl,?_,?_,o6,f3.dF f5,by omega,by omega⟩⟩
   .rw[Io,List.length_append] at aw
    exact Z (by omega)
   .rw[fj]
   .have:=congrArg (List.drop (1+(mI (Ls++[mS (al.map jv)]) (u+1) O).length)) Y
    rw[List.drop_drop] at this
    rw[show i+1+(mI (Ls++[mS (al.map jv)]) (u+1) O).length=i+(1+(mI (Ls++[mS (al.map jv)]) (u+1) O).length) by omega,this,Nat.add_comm 1,List.drop_succ_cons,List.drop_left]
   .rw[List.append_assoc,<-Io];exact hw
 rintro _ H2 ⟨rfl,f2⟩
 dsimp only
 have h2:=h1.fC f2
 have ai:=f1.dF f2
 obtain⟨a,ha,hc⟩:=h2.at hy
 have bd:=(List.getElem?_eq_some_iff.1 hy).1
 have az:∀j,j<7->dL H2 ((a.add ((k:Int).toNat*7)).add j)=(wj y)[j]?:=λj hj=>by rw[Int.toNat_natCast];exact hc j hj
 have ab:0<=(k:Int)/\(k:Int)<(l:Int):=by omega
 refine⟨a,ha,ab.1,ab.2,_,az 0 (by decide),?_⟩
 generalize aS:y.n=n at hn hd hK ar aL
 cases hn with
 |doc=>
  refine fD (show kL.k≠2 by decide) ⟨Z (a:=[]) (b:=iV kd) (by show 0+_<=_;omega),?_⟩
  rw[fj]
  exact hR H2 ai
 |@lf k2 l2 v2 d Ls I=>
  have hl:=(Rk I).2
  refine fD (pz I).1 ⟨Z (by show _+0<=_;omega),?_⟩
  rw[fj,show iV Fo.nil=[] from rfl,List.append_nil]
  exact hR H2 ai
 |@el nm al d Ls I aE kd=>
  have be:=(LZ I).2
  have bf:=(EG al aE.m).2
  have h6:=aE.n.2.2
  have hw:(60::(qn nm.1 nm.2++nz al):By).length<=300:=by simp only[List.length_append,List.length_cons];omega
  refine eI (λh=>h rfl) (Ea h2 hT (by omega) (by rw[hd]) hK ar ?_)
  rw[qN k (by omega)]
  refine eE (λhe=>?_) λhe=>?_
  .have:kd=.nil:=IP (Ls:=Ls++[mS (al.map jv)]) (d:=d+1) (by omega)
   subst this
   refine⟨Z (b:=[47,62]) (by show _+2<=_;omega),?_⟩
   show R (eJ (60::(qn nm.1 nm.2++nz al))++eJ [47,62]) H2
   rw[fj]
   have e:(60::(qn nm.1 nm.2++nz al):By)++[47,62]=iV (.el nm al .nil .nil):=by simp[iV]
   rw[e]
   exact hR H2 ai
  .have aU:kd≠.nil:=λe=>by subst e;exact he (by show((k+1+0:Nat):Int)=_;rfl)
   rw[Pa nm al aU] at hR
   generalize(60::(qn nm.1 nm.2++nz al):By)=S at*
   have bg:nm.1.length+nm.2.length<=10:=by
    have:∀q∈xV,q.1.length+q.2.length<=10:=by decide
    exact this _ I
   have e2:=az 2 (by decide)
   have e3:=az 3 (by decide)
   have ep:y.n.p=nm.1/\y.n.l=nm.2:=by rw[aS];exact⟨rfl,rfl⟩
   refine⟨Z (a:=S) (b:=[62]) (by show S.length+1<=_;omega),?_,?_,a,ha,ab.1,ab.2,_,e2,a,ha,ab.1,ab.2,_,e3,?_⟩
   .show(eJ S++eJ [62]).size+_<=_
    rw[fj]
    exact Z (by simp only[List.length_append,List.length_cons,List.length_nil];omega)
   .show(eJ S++eJ [62]++eJ (iV kd)).size+(eJ [60,47]).size<=_
    rw[fj,fj]
    exact Z (by simp only[List.length_append,List.length_cons,List.length_nil];omega)
   .rw[ep.1,ep.2]
    refine Az nm.1 nm.2 (by omega) ⟨?_,?_,?_⟩
    .show(eJ S++eJ [62]++eJ (iV kd)++eJ [60,47]).size+_<=_
     rw[fj,fj,fj]
     exact Z (by simp only[List.length_append,List.length_cons,List.length_nil];omega)
    .show(eJ S++eJ [62]++eJ (iV kd)++eJ [60,47]++eJ (qn nm.1 nm.2)).size+(eJ [62]).size<=_
     rw[fj,fj,fj,fj]
     exact Z (by simp only[List.length_append,List.length_cons,List.length_nil];omega)
    .show R (eJ S++eJ [62]++eJ (iV kd)++eJ [60,47]++eJ (qn nm.1 nm.2)++eJ [62]) H2
     rw[fj,fj,fj,fj,fj]
     exact hR H2 ai
end
theorem Na{H:dw}(ht:gG H){zs:List Int}{a:dC}{len cap:Nat}(aF:Rd H (zs.map (Value.int .i64)) a len)(aG:Int):iE.C a len cap aG H λr H'=>r=true/\Fr fa H H':=by
 apply iE.calls
 unfold iE.W
 refine QU ht aF λp l c t LL H1 hA e hD f1=>eZ ?_
 obtain⟨f,rfl,ab,ah⟩:=hD.He
 have aB:=hD.n
 have av:l=(mI [] 1 f).length+1:=by rw[<-hA.len];have:=congrArg List.length e;rwa[List.length_map,List.length_cons] at this
 have be:=(vF f ab).2
 have sz:∀{a b:By},a.length+b.length<=1000000->(eJ a).size+(eJ b).size<=9223372036854775807:=λ{a b} h=>by rw[fc,fc];omega
 have c1:∀b,(lR b).length<=3:=λb=>by cases b<;>decide
 have c2:∀b,(sX b).length<=60:=λb=>by cases b<;>decide
 have c4:∀b,(xO b).length<=60:=λb=>by cases b<;>decide
 have c8:∀b,(FV b).length<=3:=λb=>by cases b<;>decide
 refine dD (λs H'=>(∃b,s=(eJ (lR b),()))/\H1=H') (jI (λ_=>⟨⟨true,rfl⟩,rfl⟩) λ_=>⟨⟨false,rfl⟩,rfl⟩) ?_
 rintro _ _ ⟨⟨w,rfl⟩,rfl⟩
 have:=c1 w
 dsimp only
 refine dD (λs H'=>(∃b,s=(eJ (lR w++sX b),()))/\H1=H') (jI (λ_=>⟨sz (b:=tD) (by show _+55<=_;omega),⟨true,by rw[<-fj];rfl⟩,rfl⟩) λ_=>⟨⟨false,by show _=(eJ (lR w++[]),());rw[List.append_nil]⟩,rfl⟩) ?_
 rintro _ _ ⟨⟨I,rfl⟩,rfl⟩
 have:=c2 I
 dsimp only
 refine dD (λs H'=>(∃b,s=(eJ (lR w++sX I++xO b),()))/\H1=H') (jI (λ_=>⟨sz (b:=10::y9) (by rw[List.length_append];show _+53<=_;omega),⟨true,by rw[<-fj];rfl⟩,rfl⟩) λ_=>⟨⟨false,by show _=(eJ (lR w++sX I++[]),());rw[List.append_nil]⟩,rfl⟩) ?_
 rintro _ _ ⟨⟨Y,rfl⟩,rfl⟩
 have:=c4 Y
 dsimp only
 refine dD (λs H'=>(∃b,s=(eJ (lR w++sX I++xO Y++FV b),()))/\H1=H') (jI (λ_=>⟨sz (b:=[32,10,9]) (by simp only[List.length_append];show _+3<=_;omega),⟨true,by rw[<-fj];rfl⟩,rfl⟩) λ_=>⟨⟨false,by show _=(eJ (lR w++sX I++xO Y++[]),());rw[List.append_nil]⟩,rfl⟩) ?_
 rintro _ _ ⟨⟨b8,rfl⟩,rfl⟩
 have:=c8 b8
 dsimp only
 refine Od e (by omega) 33 (eH ht f1) hA (k:=0) (.doc f) ab (by omega) (B:=[]) (by rw[List.append_nil];rfl) (λm hm=>by cases hm) λH6 f6=>⟨sz (by simp only[List.length_append];omega),?_⟩
 have aH:=f1.dF f6
 rw[fj]
 refine dD (λs H'=>(∃b,s=(eJ (lR w++(sX I++(xO Y++(FV b8++iV f))++pA b)),()))/\H6=H') (jI (λ_=>⟨sz (b:=[13,10,32]) (by simp only[List.length_append];show _+3<=_;omega),⟨true,?_⟩,rfl⟩) λ_=>⟨⟨false,?_⟩,rfl⟩) ?_
 .show(eJ _++eJ [13,10,32],())=_
  rw[fj]
  simp[pA]
 .show _=(eJ (lR w++(sX I++(xO Y++(FV b8++iV f))++[])),())
  simp
 rintro _ _ ⟨⟨O,rfl⟩,rfl⟩
 obtain⟨u,eu,hu,aK,h0,aL⟩:=Ql w I Y b8 O ab ah aB
 rw[<-eu]
 generalize hS:lR w++(u++pA O)=S at*
 dsimp only
 intro cc aj
 refine dN λH8 h8=>?_
 have f8:Fr fa H6 H8:=h8▸Fr.push _ _
 rw[fc] at aj h8⊢
 have aw:eY H8 (some ⟨Array.size H6,0,none⟩) (sn S):=by
  intro j v hj
  have av:=(List.getElem?_eq_some_iff.1 hj).1
  rw[h8,dO (oH _ _),Nat.zero_add,qF,Array.getElem?_append_left (by simpa using av)]
  simpa using hj
 have ax:=aH.dF f8
 have t8:=eH ht ax
 refine OX λH9 f9=>?_
 rw[<-hS] at aw aj⊢
 have hd:QZ I Y b8 f (qX O) (u++qX O):=by
  refine⟨?_,aL,?_,⟨false,ab⟩,ah,by omega⟩
  .rw[eu];simp
  .cases O<;>decide
 refine K3 (eH t8 f9) w I Y b8 O (aw.fC f9) aj (by rw[hS];exact aK) h0 hu.1 hu.2 hd hD λx y gs gw N U ks tg bf aQ aR ay g7 gN=>?_
 have am:=(ax.dF f9).dF ay
 refine JW (eH ht am) λaS ac=>eN rfl (fD rfl (eN rfl ?_))
 have an:=am.dF ac
 refine Oe (eH ht an) (ac.fi aQ λh=>h) g7 (aR.fC ac) ⟨⟨_,rfl,hD⟩⟩ λp2 l2 bg t2 aU az aV aA ao=>?_
 have aE:Fr fa H1 aS:=((((f6.dF f8).dF f9).dF ay).dF ac)
 have ap:=hA.fC aE
 have z9:=((f6.dF f8).dF f9).size
 have aW:∀k,eB p k->k<Array.size H1:=λk Z=>hA.s.gE Z
 have ng:∀k,k<Array.size H1->¬gF gs gw k:=λk Z h=>by rcases h with rfl|rfl<;>omega
 have s1:=ap.s.eO ao λk Z=>ng k (aW k Z)
 have a1:∀y∈t,eY aU y.q (gk y.n.gh):=λy hy=>(ap.a y hy).1.eO ao λk Z=>ng k ((hA.a y hy).2.2 k Z)
 have bh:=qQ az
 have e2:t2.map TN.n=t.map TN.n:=by rw[aA,e]
 have bi:t2.length=l:=by rw[<-hA.len];have:=congrArg List.length e2;rwa[List.length_map,List.length_map] at this
 refine QN az s1 aV a1 e2 (by omega) (λy hy=>?_) λbj aZ=>⟨rfl,?_⟩
 .have:y.n∈kL::mI [] 1 f:=by rw[<-aA];exact List.mem_map_of_mem hy
  have:=(sf.gh ⟨⟨_,rfl,hD⟩⟩ y.n this).1
  omega
 .exact(an.fresh ao λk Z=>by have:=((f1.dF f6).dF f8).size;have:=f1.size;rcases Z with rfl|rfl<;>omega).dF aZ
end Go.Proofs.fv
