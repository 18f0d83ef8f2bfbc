/- Part AU of the proof that the law TopMany answers true at every input, under no condition. -/
import Derived.Test.YtmdbfgemefalmaaGreatDoorQAT
set_option linter.unusedVariables false
set_option maxHeartbeats 2000000
set_option maxRecDepth 100000
namespace Go.Ex
def eK(m:List Bool)(k:Nat):Int:=2*(rk m k true:Int)-(k:Int)
theorem nv(m:List Bool):eK m 0=0:=by unfold eK rk;simp
theorem lS{m:List Bool}{k:Nat}(h:k<m.length):eK m (k+1)=eK m k+(if m[k]=true then 1 else-1):=by
 unfold eK
 rw[vG h]
 split<;>omega
theorem qN{m:List Bool}{k:Nat}(h:k<m.length):eK m k-1<=eK m (k+1)/\eK m (k+1)<=eK m k+1/\eK m (k+1)≠eK m k:=by
 rw[lS h]
 split<;>omega
theorem mu(m:List Bool)(k:Nat):eK m k<=m.length/\-(k:Int)<=eK m k:=by
 unfold eK
 have h1:=GU m k true
 have h2:rk m k true<=k:=by
  unfold rk
  exact Nat.le_trans List.count_le_length (by simp;omega)
 omega
def Z5(m:List Bool):Prop:=(∀k,k<=m.length->0<=eK m k)/\eK m m.length=0
def qn(h i s:Nat):Nat:=(2^h+i/64)/2^(h-s)
theorem lU(h i:Nat):qn h i h=2^h+i/64:=by unfold qn;rw[Nat.sub_self,Nat.pow_zero,Nat.div_one]
theorem ks(h i:Nat){s:Nat}(hs:s<h):qn h i s=qn h i (s+1)/2:=by
 unfold qn
 rw[Nat.div_div_eq_div_mul,<-Nat.pow_succ,show(h-(s+1)).succ=h-s by omega]
theorem MK{h i:Nat}(hi:i/64<2^h):qn h i 0=1:=by
 unfold qn
 rw[Nat.sub_zero]
 have hp:0<2^h:=Nat.pow_pos (by decide)
 exact Nat.div_eq_of_lt_le (by omega) (by omega)
structure Tree(m:List Bool)(h:Nat)(T:List Int):Prop where
 len:T.length=2*2^h
 fit:m.length<=2^h*64
 law:∀s v,s<=h->2^s<=v->v<2*2^s->∀to':Int,to'<m.length->(T.getD v 0<=to'↔∃i,i<m.length/\qn h i s=v/\eK m (i+1)<=to')
theorem En{m:List Bool}{h:Nat}{T:List Int}(leaf:∀b,b<2^h->∀to':Int,to'<m.length->(T.getD (2^h+b) 0<=to'↔∃i,i<m.length/\i/64=b/\eK m (i+1)<=to'))
 (inner:∀v,1<=v->v<2^h->T.getD v 0=min (T.getD (2*v) 0) (T.getD (2*v+1) 0)):
 ∀d s,s+d=h->∀v,2^s<=v->v<2*2^s->∀to':Int,to'<m.length->(T.getD v 0<=to'↔∃i,i<m.length/\qn h i s=v/\eK m (i+1)<=to')
 |0,s,hd,v,h1,h2,to',ht=>by
  obtain rfl:s=h:=by omega
  have:=leaf (v-2^s) (by omega) to' ht
  rw[show 2^s+(v-2^s)=v by omega] at this
  rw[this]
  constructor
  ·rintro⟨i,a,b,c⟩
   exact⟨i,a,by rw[lU];omega,c⟩
  ·rintro⟨i,a,b,c⟩
   rw[lU] at b
   exact⟨i,a,by omega,c⟩
 |d+1,s,hd,v,h1,h2,to',ht=>by
  have hp:2^(s+1)=2*2^s:=by rw[Nat.pow_succ,Nat.mul_comm]
  have J1:0<2^s:=Nat.pow_pos (by decide)
  have hle:2^(s+1)<=2^h:=Nat.pow_le_pow_right (by decide) (by omega)
  rw[inner v (by omega) (by omega)]
  have l1:=En leaf inner d (s+1) (by omega) (2*v) (by omega) (by omega) to' ht
  have l2:=En leaf inner d (s+1) (by omega) (2*v+1) (by omega) (by omega) to' ht
  have e:min (T.getD (2*v) 0) (T.getD (2*v+1) 0)<=to'↔(T.getD (2*v) 0<=to'\/T.getD (2*v+1) 0<=to'):=by omega
  rw[e,l1,l2]
  constructor
  ·rintro(⟨i,a,b,c⟩|⟨i,a,b,c⟩)
   ·exact⟨i,a,by rw[ks h i (by omega),b];omega,c⟩
   ·exact⟨i,a,by rw[ks h i (by omega),b];omega,c⟩
  ·rintro⟨i,a,b,c⟩
   rw[ks h i (by omega)] at b
   rcases Nat.mod_two_eq_zero_or_one (qn h i (s+1)) with h0|h0
   ·exact .inl ⟨i,a,by omega,c⟩
   ·exact .inr ⟨i,a,by omega,c⟩
def pj(m:List Bool)(x c:Nat):Prop:=x<=c/\c<m.length/\eK m (c+1)=eK m x/\∀y,x<y->y<=c->eK m x<eK m y
theorem pj.lt{m:List Bool}{x c:Nat}(h:pj m x c):x<c:=by
 obtain⟨h1,h2,h3,_⟩:=h
 rcases Nat.eq_or_lt_of_le h1 with e|e
 ·subst e
  have:=(qN h2).2.2
  omega
 ·exact e
theorem alD{m:List Bool}{x:Nat}(hx:x<m.length)(h:eK m x<eK m (x+1)):m[x]=true:=by
 rw[lS hx] at h
 split at h
 ·assumption
 ·omega
theorem Qr{m:List Bool}{x:Nat}(hx:x<m.length)(h:m[x]=true):eK m (x+1)=eK m x+1:=by rw[lS hx,if_pos h]
theorem pj.opens{m:List Bool}{x c:Nat}(h:pj m x c):∃hx:x<m.length,m[x]=true:=by
 have hl:=h.lt
 obtain⟨h1,h2,h3,h4⟩:=h
 exact⟨by omega,alD (by omega) (h4 (x+1) (by omega) (by omega))⟩
theorem pj.uniq{m:List Bool}{x c c':Nat}(h:pj m x c)(h':pj m x c'):c=c':=by
 obtain⟨h1,h2,h3,h4⟩:=h
 obtain⟨vj,GJ,SD,h4'⟩:=h'
 rcases Nat.lt_trichotomy c c' with e|e|e
 ·have:=h4' (c+1) (by omega) (by omega);omega
 ·exact e
 ·have:=h4 (c'+1) (by omega) (by omega);omega
def MR(m:List Bool)(k n x:Nat):Prop:=x<=k/\eK m x=eK m k-(n:Int)/\∀y,x<y->y<=k->eK m x<eK m y
theorem MR.zero(m:List Bool)(k:Nat):MR m k 0 k:=⟨Nat.le_refl _,by omega,λy h1 h2=>by omega⟩
theorem alE{m:List Bool}{k:Nat}(hk:k<=m.length):∀n:Nat,(n:Int)<=eK m k->∃x,MR m k n x:=by
 intro n hn
 have key:∀d,d<=k->(∃x,k-d<=x/\MR m k n x)\/(∀y,k-d<=y->y<=k->eK m k-(n:Int)<eK m y):=by
  intro d
  induction d with
  |zero=>
   intro _
   rcases Nat.eq_zero_or_pos n with e|e
   ·subst e
    exact .inl ⟨k,by omega,MR.zero m k⟩
   ·exact .inr λy h1 h2=>by
     have:y=k:=by omega
     subst this
     omega
  |succ d ih=>
   intro hd
   rcases ih (by omega) with⟨x,hx,h⟩|h
   ·exact .inl ⟨x,by omega,h⟩
   ·have h0:=h (k-d) (by omega) (by omega)
    have hs:=qN (m:=m) (k:=k-(d+1)) (by omega)
    rw[show k-(d+1)+1=k-d by omega] at hs
    rcases Classical.em (eK m (k-(d+1))=eK m k-(n:Int)) with e|e
    ·exact .inl ⟨k-(d+1),by omega,by omega,e,λy h1 h2=>by have:=h y (by omega) h2;omega⟩
    ·exact .inr λy h1 h2=>by
      rcases Nat.eq_or_lt_of_le h1 with e'|e'
      ·subst e';omega
      ·exact h y (by omega) h2
 rcases key k (Nat.le_refl _) with⟨x,_,h⟩|h
 ·exact⟨x,h⟩
 ·have:=h 0 (by omega) (Nat.zero_le _)
  rw[nv] at this
  omega
theorem ac6{m:List Bool}(hb:Z5 m){k:Nat}(hk:k<m.length)(ho:m[k]=true):∃c,pj m k c:=by
 have h0:=Qr hk ho
 have key:∀d,k+1+d<=m.length->(∃c,pj m k c)\/(∀y,k<y->y<=k+1+d->eK m k<eK m y):=by
  intro d
  induction d with
  |zero=>
   intro _
   exact .inr λy h1 h2=>by
    have:y=k+1:=by omega
    subst this
    omega
  |succ d ih=>
   intro hd
   rcases ih (by omega) with h|h
   ·exact .inl h
   ·have h1:=h (k+1+d) (by omega) (by omega)
    have hs:=qN (m:=m) (k:=k+1+d) (by omega)
    rcases Classical.em (eK m (k+1+d+1)=eK m k) with e|e
    ·exact .inl ⟨k+1+d,by omega,by omega,e,h⟩
    ·exact .inr λy h2 h3=>by
      rcases Nat.lt_or_ge (k+1+d) y with e'|e'
      ·have:y=k+1+d+1:=by omega
       subst this
       omega
      ·exact h y h2 e'
 rcases key (m.length-(k+1)) (by omega) with h|h
 ·exact h
 ·have h1:=h m.length (by omega) (by omega)
  have h2:=hb.1 k (by omega)
  have h3:=hb.2
  omega
end Go.Ex
namespace Go.Ex
def Qq(m:List Bool)(k:Int):Bool:=if 0<=k then(m[k.toNat]?).getD false else false
theorem qB{m:List Bool}{i:Nat}(hi:i<m.length):Qq m (i:Int)=m[i]:=by
 unfold Qq
 rw[if_pos (by omega),Int.toNat_natCast,List.getElem?_eq_getElem hi]
 rfl
theorem Qp{m:List Bool}{k:Int}(h:k<0\/(m.length:Int)<=k):Qq m k=false:=by
 unfold Qq
 split
 ·rw[List.getElem?_eq_none (by omega)]
  rfl
 ·rfl
theorem Lx{m:List Bool}{k:Int}(h:Qq m k=true):∃(i:Nat)(hi:i<m.length),k=(i:Int)/\m[i]=true:=by
 rcases Classical.em (k<0\/(m.length:Int)<=k) with ho|ho
 ·rw[Qp ho] at h
  cases h
 ·obtain⟨i,rfl⟩:∃n:Nat,k=(n:Int):=⟨k.toNat,by omega⟩
  have hi:i<m.length:=by omega
  rw[qB hi] at h
  exact⟨i,hi,rfl,h⟩
end Go.Ex
namespace Go.Proofs.iQ
open Go.Ex
structure ael(H:Heap)(g:Nat)(m:List Bool)(h st:Nat)(T:List Int)(gb:Nat)(lp:Option Addr)(lc:Nat)(Fb:Nat->Prop):Prop where
 fv:H[g]?=some (.cells #[.pointer (some ⟨gb,0,none⟩),.iface su (.slice lp (2*2^h) lc),.int .i64 ((2^h:Nat):Int),.int .i64 (st:Int)] kO (0,0))
 sl:Sl H gv (T.map (Value.int .i64)) lp (2*2^h) lc
 bits:mL H gb m Fb
 tree:Tree m h T
 CM:Z5 m
 high:h<=16/\h<=ki m.length
 ng:¬Fb g
def dS(H:Heap)(g:Nat)(m:List Bool)(h st:Nat)(F:Nat->Prop):Prop:=∃T gb lp lc Fb,ael H g m h st T gb lp lc Fb/\F g/\(∀k,fw lp k->F k)/\(∀k,Fb k->F k)/\∀k,F k->k<Array.size H
theorem dS.fy{H H':Heap}{g:Nat}{m:List Bool}{h st:Nat}{F G:Nat->Prop}(p:dS H g m h st F)(hf:Fr G H H')(hd:∀k,F k->¬G k):dS H' g m h st F:=by
 obtain⟨T,gb,lp,lc,Fb,a,h1,h2,h3,h4⟩:=p
 exact⟨T,gb,lp,lc,Fb,⟨hf.fv a.fv (hd _ h1),a.sl.fy hf λk hk=>hd k (h2 k hk),a.bits.fy hf λk hk=>hd k (h3 k hk),a.tree,a.CM,a.high,a.ng⟩,h1,h2,h3,λk hk=>Nat.lt_of_lt_of_le (h4 k hk) hf.size⟩
theorem dS.oP{H H':Heap}{g:Nat}{m:List Bool}{h st:Nat}{F:Nat->Prop}(p:dS H g m h st F)(hf:Fr gz H H'):dS H' g m h st F:=p.fy hf λ_ _ h=>h
section
variable {H:Heap} {g:Nat} {m:List Bool} {h st:Nat} {F:Nat->Prop}
theorem dS.step(p:dS H g m h st F)(n:Nat){H':Heap}(hH:H'=nQ H ((⟨g,0,none⟩:Addr).add 3) (.int .i64 (n:Int))):dS H' g m h n F/\Fr (λk=>k=g) H H':=by
 have hf:=kn hH
 obtain⟨T,gb,lp,lc,Fb,a,h1,h2,h3,h4⟩:=p
 exact⟨⟨T,gb,lp,lc,Fb,⟨iJ hH a.fv,a.sl.fy hf λk hk e=>a.sl.ne a.fv (by decide) (e▸hk),a.bits.fy hf λk hk e=>a.ng (e▸hk),a.tree,a.CM,a.high,a.ng⟩,h1,h2,h3,λk hk=>Nat.lt_of_lt_of_le (h4 k hk) hf.size⟩,hf⟩
theorem dS.facts(p:dS H g m h st F):Z5 m/\m.length<=4194304/\m.length<=2^h*64/\h<=16/\h<=ki m.length:=by
 obtain⟨T,gb,lp,lc,Fb,a,_⟩:=p
 exact⟨a.CM,a.bits.sW,a.tree.fit,a.high⟩
theorem Qj{h:Nat}(hh:h<=16):2^h<=65536:=Nat.pow_le_pow_right (n:=2) (by decide) hh
theorem dS.cells(p:dS H g m h st F):(∃gb Fb,dj H ((⟨g,0,none⟩:Addr).add 0)=some (.pointer (some ⟨gb,0,none⟩))/\mL H gb m Fb)/\dj H ((⟨g,0,none⟩:Addr).add 2)=some (.int .i64 ((2^h:Nat):Int))/\dj H ((⟨g,0,none⟩:Addr).add 3)=some (.int .i64 (st:Int))/\gO H ((⟨g,0,none⟩:Addr).add 3)=false:=by
 obtain⟨T,gb,lp,lc,Fb,a,_⟩:=p
 exact⟨⟨gb,Fb,(dh a.fv 0 0).trans rfl,a.bits⟩,(dh a.fv 0 2).trans rfl,(dh a.fv 0 3).trans rfl,mQ a.fv 0 3⟩
theorem mB(p:dS H g m h st F){k:Int}{i:Nat}(hk:k+1=(i:Int))(hi:i<=m.length){R:Int->Heap->Prop}(hR:∀H',Fr gz H H'->R (eK m i) H'):iS.C (some ⟨g,0,none⟩) k H R:=by
 obtain⟨⟨gb,Fb,c0,b⟩,_⟩:=p.cells
 have oU:=b.sW
 apply iS.calls
 unfold iS.W
 rw[hk,wrap_i64 (n:=(i:Int)) (by omega) (by omega)]
 refine⟨_,rfl,_,c0,?_⟩
 refine il b _ true λH1 f1=>db λx hx=>?_
 rw[Int.toNat_natCast] at hx
 have hr:=GU m i true
 have e:x=eK m i:=by
  rw[hx,wrap_i64 (n:=2*(rk m i true:Int)) (by omega) (by omega),wrap_i64 (n:=2*(rk m i true:Int)-k) (by omega) (by omega),wrap_i64 (by omega) (by omega)]
  unfold eK
  omega
 rw[e]
 exact hR H1 f1
theorem oH(p:dS H g m h st F)(k:Int){R:Bool->Heap->Prop}(hR:∀H',Fr gz H H'->R (Qq m k) H'):iP.C (some ⟨g,0,none⟩) k H R:=by
 obtain⟨⟨gb,Fb,c0,b⟩,_⟩:=p.cells
 apply iP.calls
 unfold iP.W
 refine eY rfl ⟨_,rfl,_,c0,?_⟩
 refine wY b k (λi hi H' e f=>?_) (λho=>?_)
 ·subst e
  have:=hR H' f
  rwa[qB hi] at this
 ·have:=hR H (Fr.refl _ _)
  rwa[Qp ho] at this
theorem sP(p:dS H g m h st F){R:Int->Heap->Prop}(hR:R (m.length:Int) H):lZ.C (some ⟨g,0,none⟩) H R:=by
 obtain⟨⟨gb,Fb,c0,b⟩,_⟩:=p.cells
 apply lZ.calls
 unfold lZ.W
 exact eY rfl ⟨_,rfl,_,c0,iV b hR⟩
theorem zm(p:dS H g m h st F)(Bb:st<=1000){v s:Nat}(hs:s<=h)(h1:2^s<=v)(h2:v<2*2^s){to':Int}(ht:to'<m.length){R:Bool->Heap->Prop}
 (hR:∀b H',(b=true↔∃i,i<m.length/\qn h i s=v/\eK m (i+1)<=to')->dS H' g m h (st+1) F->Fr (λk=>k=g) H H'->R b H'):nh.C (some ⟨g,0,none⟩) (v:Int) to' H R:=by
 obtain⟨_,_,c3,z3⟩:=p.cells
 apply nh.calls
 unfold nh.W
 refine⟨_,rfl,_,c3,_,rfl,⟨_,c3⟩,z3,db λH1 hH=>?_⟩
 rw[wrap_i64 (n:=(st:Int)+1) (by omega) (by omega),show(st:Int)+1=((st+1:Nat):Int) by omega] at hH
 obtain⟨p1,f1⟩:=p.step (st+1) hH
 clear hH
 have p1':=p1
 obtain⟨T,gb,lp,lc,Fb,a,_⟩:=p1
 have hp:2^s<=2^h:=Nat.pow_le_pow_right (by decide) hs
 have hvT:v<T.length:=by rw[a.tree.len];omega
 obtain⟨a0,ha,hc⟩:=a.sl.rd.get (i:=v) (v:=.int .i64 (T.getD v 0)) (by rw[List.getElem?_map,List.getD_eq_getElem?_getD,List.getElem?_eq_getElem hvT];rfl)
 refine⟨_,rfl,_,(dh a.fv 0 1).trans rfl,_,_,_,true,.inl ⟨rfl,rfl⟩,a0,ha,by omega,by omega,_,by rw[Int.toNat_natCast];exact hc,?_⟩
 refine hR _ H1 ?_ p1' f1
 rw[decide_eq_true_eq]
 exact a.tree.law s v hs h1 h2 to' ht
theorem OT(p:dS H g m h st F)(Bb:st<=1000){k:Nat}(hk:k<m.length){to':Int}(Ol:to'<eK m (k+1)){R:Int->Heap->Prop}
 (h1:∀i H',k<i->i<m.length->eK m (i+1)=to'->(∀j,k<j->j<i->to'<eK m (j+1))->dS H' g m h (st+1) F->Fr (λk=>k=g) H H'->R (i:Int) H')
 (h2:∀H',(∀j,k<j->j<m.length->j/64=k/64->to'<eK m (j+1))->dS H' g m h (st+1) F->Fr (λk=>k=g) H H'->R (-1) H'):nH.C (some ⟨g,0,none⟩) (k:Int) to' H R:=by
 obtain⟨_,_,c3,z3⟩:=p.cells
 have oU:=p.facts
 apply nH.calls
 unfold nH.W
 refine⟨_,rfl,_,c3,_,rfl,⟨_,c3⟩,z3,db λH1 hH=>?_⟩
 rw[wrap_i64 (n:=(st:Int)+1) (by omega) (by omega),show(st:Int)+1=((st+1:Nat):Int) by omega] at hH
 obtain⟨p1,f1⟩:=p.step (st+1) hH
 clear hH
 refine mB p1 (i:=k+1) (by omega) (by omega) λH2 f2=>eG (db λi8 Ti=>?_)
 have f12:Fr (λk=>k=g) H H2:=f1.trans f2 λ_ h=>h.elim
 have pK:IntKind.i64.wrap ((IntKind.i64.wrap ((IntKind.i64.wrap (Int.tdiv (k:Int) 64))+1))*64)=(((k/64+1)*64:Nat):Int):=by
  rw[show Int.tdiv (k:Int) 64=((k/64:Nat):Int) from rfl,wrap_i64 (n:=((k/64:Nat):Int)) (by omega) (by omega),wrap_i64 (n:=((k/64:Nat):Int)+1) (by omega) (by omega),wrap_i64 (by omega) (by omega)]
  omega
 rw[wrap_i64 (by omega) (by omega)] at Ti
 refine fJ (λn(q:Int×Int×Unit) H'=>∃i:Nat,k<i/\i<=m.length/\n=m.length-i/\q.1=eK m i/\q.2.1=(i:Int)/\dS H' g m h (st+1) F/\Fr (λk=>k=g) H H'/\∀j,k<j->j<i->to'<eK m (j+1)) (m.length-(k+1)) ⟨k+1,by omega,by omega,rfl,rfl,Ti,p1.oP f2,f12,λj a b=>by omega⟩ ?_
 rintro n ⟨x,y,_⟩ H4 ⟨i,hki,yD,rfl,hx,hy,p4,f4,fC⟩
 simp only at hx hy
 subst hx hy
 dsimp only
 rw[pK]
 refine⟨by decide,sP p4 (ft (λlC=>?_) (λiG=>?_))⟩
 ·have hi:i<m.length:=by omega
  refine dW (λ(q:Int×Unit) H'=>q.1=eK m (i+1)/\to'<eK m (i+1)/\dS H' g m h (st+1) F/\Fr (λk=>k=g) H H') ?_ ?_
  ·refine dW (λ(q:Int×Unit) H'=>q.1=eK m (i+1)/\dS H' g m h (st+1) F/\Fr (λk=>k=g) H H') ?_ ?_
   ·have hb:=mu m i
    have qg:=mu m (i+1)
    have hs:=lS hi
    refine db λn7 qV=>?_
    rw[wrap_i64 (by omega) (by omega)] at qV
    refine oH p4 _ λH8 f8=>?_
    rw[qB hi]
    refine ik (λJj=>db λn8 Ov=>⟨?_,p4.oP f8,f4.trans f8 λ_ h=>h.elim⟩) (λqK=>⟨?_,p4.oP f8,f4.trans f8 λ_ h=>h.elim⟩)
    ·rw[if_pos Jj] at hs
     rw[wrap_i64 (by omega) (by omega)] at Ov
     show n8=_
     omega
    ·rw[if_neg (by rw[qK];decide)] at hs
     show n7=_
     omega
   ·rintro⟨q,_⟩ H7 ⟨hq,p7,f7⟩
    simp only at hq
    subst hq
    refine ft (λhe=>h1 i H7 hki hi he fC p7 f7) (λhe=>⟨rfl,?_,p7,f7⟩)
    have QN:to'<eK m i:=by
     rcases Nat.eq_or_lt_of_le (show k+1<=i by omega) with e|e
     ·rw[<-e];exact Ol
     ·have:=fC (i-1) (by omega) (by omega)
      rwa[show i-1+1=i by omega] at this
    have:=qN hi
    omega
  ·rintro⟨q,_⟩ H6 ⟨hq,QN,p6,f6⟩
   simp only at hq
   subst hq
   refine db λi9 FX=>⟨m.length-(i+1),by omega,i+1,by omega,by omega,rfl,rfl,?_,p6,f6,λj a b=>?_⟩
   ·show i9=_
    rw[FX,wrap_i64 (by omega) (by omega)];rfl
   ·rcases Nat.lt_or_ge j i with h|h
    ·exact fC j a h
    ·have:j=i:=by omega
     subst this
     exact QN
 ·exact h2 H4 (λj a b e=>fC j a (by omega)) p4 f4
theorem B2(p:dS H g m h st F)(Bb:st<=1000){k from_:Nat}(hk:k<m.length)(hf:from_<=k){to':Int}(Ol:to'<=eK m k){R:Int->Heap->Prop}
 (h1:∀i H',from_<=i->i<k->eK m (i+1)=to'->(∀j,i<j->j<k->to'<eK m (j+1))->dS H' g m h (st+1) F->Fr (λk=>k=g) H H'->R (i:Int) H')
 (h2:∀H',(∀j,from_<=j->j<k->to'<eK m (j+1))->dS H' g m h (st+1) F->Fr (λk=>k=g) H H'->R (-2) H'):lA.C (some ⟨g,0,none⟩) (k:Int) (from_:Int) to' H R:=by
 obtain⟨_,_,c3,z3⟩:=p.cells
 have oU:=p.facts
 apply lA.calls
 unfold lA.W
 refine⟨_,rfl,_,c3,_,rfl,⟨_,c3⟩,z3,db λH1 hH=>?_⟩
 rw[wrap_i64 (n:=(st:Int)+1) (by omega) (by omega),show(st:Int)+1=((st+1:Nat):Int) by omega] at hH
 obtain⟨p1,f1⟩:=p.step (st+1) hH
 clear hH
 refine mB p1 (i:=k+1) (by omega) (by omega) λH2 f2=>eG (db λi8 Ti=>?_)
 have f12:Fr (λk=>k=g) H H2:=f1.trans f2 λ_ h=>h.elim
 rw[wrap_i64 (by omega) (by omega)] at Ti
 refine fJ (λn(q:Int×Int×Unit) H'=>∃t:Nat,from_<=t/\t<=k/\n=t-from_/\q.1=eK m (t+1)/\q.2.1=(t:Int)-1/\to'<=eK m t/\dS H' g m h (st+1) F/\Fr (λk=>k=g) H H'/\∀j,t<=j->j<k->to'<eK m (j+1)) (k-from_) ⟨k,hf,Nat.le_refl _,rfl,rfl,Ti,Ol,p1.oP f2,f12,λj a b=>by omega⟩ ?_
 rintro n ⟨x,y,_⟩ H4 ⟨t,hft,VY,rfl,hx,hy,hle,p4,f4,fC⟩
 simp only at hx hy
 subst hx hy
 dsimp only
 refine ft (λlC=>?_) (λiG=>?_)
 ·have ht:t<m.length:=by omega
  refine dW (λ(q:Int×Unit) H'=>q.1=eK m t/\eK m t≠to'/\dS H' g m h (st+1) F/\Fr (λk=>k=g) H H') ?_ ?_
  ·refine dW (λ(q:Int×Unit) H'=>q.1=eK m t/\dS H' g m h (st+1) F/\Fr (λk=>k=g) H H') ?_ ?_
   ·have hb:=mu m t
    have qg:=mu m (t+1)
    have hs:=lS ht
    refine db λn7 qV=>?_
    rw[wrap_i64 (by omega) (by omega)] at qV
    rw[wrap_i64 (n:=(t:Int)-1+1) (by omega) (by omega),show(t:Int)-1+1=(t:Int) by omega]
    refine oH p4 _ λH8 f8=>?_
    rw[qB ht]
    refine ik (λJj=>db λn8 Ov=>⟨?_,p4.oP f8,f4.trans f8 λ_ h=>h.elim⟩) (λqK=>⟨?_,p4.oP f8,f4.trans f8 λ_ h=>h.elim⟩)
    ·rw[if_pos Jj] at hs
     rw[wrap_i64 (by omega) (by omega)] at Ov
     show n8=_
     omega
    ·rw[if_neg (by rw[qK];decide)] at hs
     show n7=_
     omega
   ·rintro⟨q,_⟩ H7 ⟨hq,p7,f7⟩
    simp only at hq
    subst hq
    refine ft (λhe=>?_) (λhe=>⟨rfl,he,p7,f7⟩)
    rw[show(t:Int)-1=((t-1:Nat):Int) by omega]
    exact h1 (t-1) H7 (by omega) (by omega) (by rw[show t-1+1=t by omega];exact he) (λj a b=>fC j (by omega) b) p7 f7
  ·rintro⟨q,_⟩ H6 ⟨hq,QN,p6,f6⟩
   simp only at hq
   subst hq
   have amx:=qN (m:=m) (k:=t-1) (by omega)
   rw[show t-1+1=t by omega] at amx
   refine db λi9 FX=>⟨t-1-from_,by omega,t-1,by omega,by omega,rfl,?_,?_,by omega,p6,f6,λj a b=>?_⟩
   ·show eK m t=_
    rw[show t-1+1=t by omega]
   ·show i9=_
    rw[FX,wrap_i64 (by omega) (by omega)];omega
   ·rcases Nat.lt_or_ge j t with h|h
    ·have:j+1=t:=by omega
     rw[this]
     omega
    ·exact fC j h b
 ·exact h2 H4 (λj a b=>fC j (by omega) b) p4 f4
end
end Go.Proofs.iQ
namespace Go.Ex
theorem y8(s:Nat):0<2^s:=Nat.pow_pos (by decide)
theorem mC(s:Nat):2^(s+1)=2*2^s:=by rw[Nat.pow_succ,Nat.mul_comm]
theorem Bq{s v:Nat}(h1:v<2*2^s)(h2:2<=v):∃r,s=r+1:=by
 cases s with
 |zero=>simp at h1;omega
 |succ r=>exact⟨r,rfl⟩
theorem Fg{s:Nat}(h1:2^s<=1):s=0:=by
 cases s with
 |zero=>rfl
 |succ r=>
  have:=y8 r
  rw[mC] at h1
  omega
theorem Fh{s h v:Nat}(hs:s<=h)(h1:v<2*2^s)(h2:2^h<=v):s=h:=by
 rcases Nat.eq_or_lt_of_le hs with e|e
 ·exact e
 ·have:2^(s+1)<=2^h:=Nat.pow_le_pow_right (by decide) e
  rw[mC] at this
  omega
theorem Mv{s h v:Nat}(hs:s<=h)(h1:2^s<=v)(h2:v<2^h):s<h:=by
 rcases Nat.eq_or_lt_of_le hs with e|e
 ·subst e;omega
 ·exact e
theorem ae3(v:Nat):Int.tmod (v:Int) 2=((v%2:Nat):Int):=rfl
theorem ae4(v:Nat):Int.tdiv (v:Int) 2=((v/2:Nat):Int):=rfl
end Go.Ex
namespace Go.Proofs.iQ
open Go.Ex
section
variable {H:Heap} {g:Nat} {m:List Bool} {h st:Nat} {F:Nat->Prop}
theorem Jl(p:dS H g m h st F)(Bb:st<=100){k:Nat}(hk:k<m.length){to':Int}(Ol:to'<eK m (k+1)){R:Int->Heap->Prop}
 (h1:∀i H' jS,k<i->i<m.length->eK m (i+1)=to'->(∀j,k<j->j<i->to'<eK m (j+1))->jS<=st+2*h+2->dS H' g m h jS F->Fr (λk=>k=g) H H'->R (i:Int) H')
 (h2:∀H' jS,(∀j,k<j->j<m.length->to'<eK m (j+1))->jS<=st+2*h+2->dS H' g m h jS F->Fr (λk=>k=g) H H'->R (-1) H'):lI.C (some ⟨g,0,none⟩) (k:Int) to' H R:=by
 obtain⟨ahK,oU,EV,hh,_⟩:=p.facts
 have hw:=Qj hh
 have hle:=mu m (k+1)
 have EU:∀i,i<m.length->i/64<2^h:=λi hi=>by omega
 apply lI.calls
 unfold lI.W
 refine OT p (by omega) hk Ol (λi H1 a b c d p1 f1=>kY (by omega) (h1 i H1 _ a b c d (by omega) p1 f1)) (λH1 wL p1 f1=>e8 (by decide) ?_)
 obtain⟨_,c2,_⟩:=p1.cells
 refine⟨_,rfl,_,c2,by decide,db λnode QK=>?_⟩
 rw[show Int.tdiv (k:Int) 64=((k/64:Nat):Int) from rfl,wrap_i64 (n:=((k/64:Nat):Int)) (by omega) (by omega),wrap_i64 (by omega) (by omega)] at QK
 refine dW (λ(q:Int×Unit) H'=>∃v s jS,q.1=((v:Nat):Int)/\s<=h/\2^s<=v/\v<2*2^s/\jS<=st+2+h+s/\dS H' g m h jS F/\Fr (λk=>k=g) H H'/\qn h k s<v/\(∃i,i<m.length/\qn h i s=v/\eK m (i+1)<=to')/\∀j,k<j->j<m.length->qn h j s<v->to'<eK m (j+1)) ?_ ?_
 ·refine fJ (λn(q:Int×Unit) H'=>∃v s jS,n=v/2+(1-v%2)/\q.1=((v:Nat):Int)/\s<=h/\2^s<=v/\v<2*2^s/\jS<=st+1+(h-s)+v%2/\dS H' g m h jS F/\Fr (λk=>k=g) H H'/\qn h k s<=v/\∀j,k<j->j<m.length->qn h j s<=v->to'<eK m (j+1)) ((2^h+k/64)/2+(1-(2^h+k/64)%2))
   ⟨2^h+k/64,h,st+1,rfl,by show node=_;omega,Nat.le_refl _,by omega,by have:=EU k hk;omega,by omega,p1,f1,by rw[lU];omega,λj a b c=>by rw[lU] at c;exact wL j a b (by omega)⟩ ?_
  rintro n ⟨x,_⟩ H3 ⟨v0,s0,PF,rfl,hx,KN,KJ,ahn,Om,p3,f3,sD,EZ⟩
  simp only at hx
  subst hx
  dsimp only
  refine dW (λ(q:Int×Unit) H'=>∃v s jS,q.1=((v:Nat):Int)/\v%2=0/\(v=v0\/v<=v0/2/\1<=v0/2)/\s<=h/\2^s<=v/\v<2*2^s/\jS<=st+1+(h-s)/\dS H' g m h jS F/\Fr (λk=>k=g) H H'/\qn h k s<=v/\∀j,k<j->j<m.length->qn h j s<=v->to'<eK m (j+1)) ?_ ?_
  ·refine fJ (λn(q:Int×Unit) H'=>∃v s jS,n=v/\q.1=((v:Nat):Int)/\(v=v0\/v<=v0/2/\1<=v0/2)/\s<=h/\2^s<=v/\v<2*2^s/\jS<=st+1+(h-s)+v%2/\dS H' g m h jS F/\Fr (λk=>k=g) H H'/\qn h k s<=v/\∀j,k<j->j<m.length->qn h j s<=v->to'<eK m (j+1)) v0
    ⟨v0,s0,PF,rfl,rfl,.inl rfl,KN,KJ,ahn,Om,p3,f3,sD,EZ⟩ ?_
   clear Om p3 f3 sD EZ
   rintro n ⟨x,_⟩ H5 ⟨v,s,jS,rfl,hx,S9,hs,hv,C8,tB,p5,f5,GF,Hg⟩
   simp only at hx
   subst hx
   dsimp only
   rw[ae3,ae4]
   have Ub:2^s<=2^h:=Nat.pow_le_pow_right (by decide) hs
   refine⟨by decide,ft (λamL=>ft (λh1v=>?_) (λXZ=>?_)) (λar7=>?_)⟩
   ·have hn:n=1:=by omega
    subst hn
    have ahs:=Fg hv
    subst ahs
    exact h2 H5 jS (λj a b=>Hg j a b (by rw[MK (EU j b)];omega)) (by omega) p5 f5
   ·refine⟨by decide,db λnode8 kV=>?_⟩
    rw[wrap_i64 (by omega) (by omega)] at kV
    obtain⟨r,rfl⟩:=Bq C8 (by omega)
    rw[mC] at hv C8
    refine⟨n/2,by omega,n/2,r,jS,rfl,kV,?_,by omega,by omega,by omega,by omega,p5,f5,?_,λj a b c=>Hg j a b ?_⟩
    ·rcases S9 with e|e
     ·subst e;exact .inr ⟨Nat.le_refl _,by omega⟩
     ·exact .inr ⟨by omega,e.2⟩
    ·rw[ks h k (by omega)]
     omega
    ·rw[ks h j (by omega)] at c
     omega
   ·exact⟨n,s,jS,rfl,by omega,S9,hs,hv,C8,by omega,p5,f5,GF,Hg⟩
  ·clear Om p3 f3 sD EZ
   rintro⟨x,_⟩ H4 ⟨v,s,jS,hx,vQ,S9,hs,hv,C8,tB,p4,f4,Sb,BZ⟩
   simp only at hx
   subst hx
   dsimp only
   have Ub:2^s<=2^h:=Nat.pow_le_pow_right (by decide) hs
   refine db λnode8 kV=>?_
   rw[wrap_i64 (by omega) (by omega),show(v:Int)+1=((v+1:Nat):Int) by omega] at kV
   subst kV
   refine zm p4 (by omega) (v:=v+1) hs (by omega) (by omega) (by omega) λb H6 hb p6 f6=>?_
   have Mm:=f4.trans f6 λk hk=>.inl hk
   refine ik (λqg=>?_) (λqK=>?_)
   ·exact⟨v+1,s,jS+1,rfl,hs,by omega,by omega,by omega,p6,Mm,by omega,hb.1 qg,λj a b c=>BZ j a b (by omega)⟩
   ·refine⟨_,?_,v+1,s,jS+1,rfl,rfl,hs,by omega,by omega,by omega,p6,Mm,by omega,λj a b c=>?_⟩
    ·rcases S9 with e|e
     ·subst e;omega
     ·omega
    ·rcases Nat.lt_or_ge (qn h j s) (v+1) with e|e
     ·exact BZ j a b (by omega)
     ·have Jg:¬∃i,i<m.length/\qn h i s=v+1/\eK m (i+1)<=to':=λhc=>by rw[hb.2 hc] at qK;cases qK
      rcases Classical.em (eK m (j+1)<=to') with e'|e'
      ·exact absurd ⟨j,b,by omega,e'⟩ Jg
      ·omega
 clear p1 f1 c2 QK wL
 rintro⟨x,_⟩ H2 ⟨v,s,jS,hx,hs,hv,C8,tB,p2,f2,Yh,ahH,Yf⟩
 simp only at hx
 subst hx
 dsimp only
 refine dW (λ(q:Int×Unit) H'=>∃v jS,q.1=((v:Nat):Int)/\2^h<=v/\v<2*2^h/\jS<=st+2+h+h/\dS H' g m h jS F/\Fr (λk=>k=g) H H'/\qn h k h<v/\(∃i,i<m.length/\qn h i h=v/\eK m (i+1)<=to')/\∀j,k<j->j<m.length->qn h j h<v->to'<eK m (j+1)) ?_ ?_
 ·refine fJ (λn(q:Int×Unit) H'=>∃v s jS,n=h-s/\q.1=((v:Nat):Int)/\s<=h/\2^s<=v/\v<2*2^s/\jS<=st+2+h+s/\dS H' g m h jS F/\Fr (λk=>k=g) H H'/\qn h k s<v/\(∃i,i<m.length/\qn h i s=v/\eK m (i+1)<=to')/\∀j,k<j->j<m.length->qn h j s<v->to'<eK m (j+1)) (h-s)
   ⟨v,s,jS,rfl,rfl,hs,hv,C8,tB,p2,f2,Yh,ahH,Yf⟩ ?_
  clear hs hv C8 tB p2 f2 Yh ahH Yf
  rintro n ⟨x,_⟩ H8 ⟨v,s,jS,rfl,hx,hs,hv,C8,tB,p8,f8,R9,⟨i,Mc,rB,rA⟩,EY⟩
  simp only at hx
  subst hx
  dsimp only
  obtain⟨_,c2,_⟩:=p8.cells
  have Ub:2^s<=2^h:=Nat.pow_le_pow_right (by decide) hs
  refine⟨_,rfl,_,c2,ft (λlC=>?_) (λiG=>?_)⟩
  ·have uw:=Mv hs hv (by omega)
   have qD:=mC s
   refine db λnode8 kV=>?_
   rw[wrap_i64 (by omega) (by omega),show(v:Int)*2=((2*v:Nat):Int) by omega] at kV
   subst kV
   refine zm p8 (by omega) (v:=2*v) (s:=s+1) uw (by omega) (by omega) (by omega) λb H9 hb p9 f9=>?_
   have Ml:=f8.trans f9 λk hk=>.inl hk
   have hka:=ks h k uw
   refine ik (λqg=>db λamb ES=>?_) (λqK=>?_)
   ·have Jg:¬∃i,i<m.length/\qn h i (s+1)=2*v/\eK m (i+1)<=to':=λhc=>by rw[hb.2 hc] at qg;cases qg
    rw[wrap_i64 (by omega) (by omega),show((2*v:Nat):Int)+1=((2*v+1:Nat):Int) by omega] at ES
    subst ES
    have hia:=ks h i uw
    refine⟨h-(s+1),by omega,2*v+1,s+1,jS+1,rfl,rfl,uw,by omega,by omega,by omega,p9,Ml,by omega,⟨i,Mc,?_,rA⟩,λj a b c=>?_⟩
    ·rcases Classical.em (qn h i (s+1)=2*v) with e|e
     ·exact absurd ⟨i,Mc,e,rA⟩ Jg
     ·omega
    ·have RN:=ks h j uw
     rcases Classical.em (qn h j (s+1)=2*v) with e|e
     ·rcases Classical.em (eK m (j+1)<=to') with e'|e'
      ·exact absurd ⟨j,b,e,e'⟩ Jg
      ·omega
     ·exact EY j a b (by omega)
   ·have qK:b=true:=by cases b with
     |true=>rfl
     |false=>cases qK
    refine⟨h-(s+1),by omega,2*v,s+1,jS+1,rfl,rfl,uw,by omega,by omega,by omega,p9,Ml,by omega,hb.1 qK,λj a b c=>?_⟩
    have RN:=ks h j uw
    exact EY j a b (by omega)
  ·have uw:=Fh hs C8 (by omega)
   subst uw
   exact⟨v,jS,rfl,hv,C8,tB,p8,f8,R9,⟨i,Mc,rB,rA⟩,EY⟩
 clear hs hv C8 tB p2 f2 Yh ahH Yf
 rintro⟨x,_⟩ H7 ⟨v,jS,hx,hv,C8,tB,p7,f7,Sa,⟨i0,Mc,rB,rA⟩,Ye⟩
 simp only at hx
 subst hx
 dsimp only
 obtain⟨_,c2,_⟩:=p7.cells
 rw[lU] at rB Sa
 obtain⟨b,rfl⟩:∃b,v=2^h+b:=⟨v-2^h,by omega⟩
 refine⟨_,rfl,_,c2,db λQV afq=>?_⟩
 rw[wrap_i64 (n:=((2^h+b:Nat):Int)-((2^h:Nat):Int)) (by omega) (by omega),wrap_i64 (by omega) (by omega),show(((2^h+b:Nat):Int)-((2^h:Nat):Int))*64=((b*64:Nat):Int) by omega] at afq
 subst afq
 rw[wrap_i64 (n:=((b*64:Nat):Int)-1) (by omega) (by omega)]
 refine mB p7 (i:=b*64) (by omega) (by omega) λde f10=>eG ?_
 have pK:IntKind.i64.wrap (((b*64:Nat):Int)+64)=((b*64+64:Nat):Int):=by rw[wrap_i64 (by omega) (by omega)];omega
 rw[pK]
 refine fJ (λn(q:Int×Int×Unit) H'=>∃i:Nat,b*64<=i/\i<=m.length/\n=m.length-i/\q.1=eK m i/\q.2.1=(i:Int)/\dS H' g m h jS F/\Fr (λk=>k=g) H H'/\∀j,k<j->j<i->to'<eK m (j+1)) (m.length-b*64) ⟨b*64,Nat.le_refl _,by omega,rfl,rfl,rfl,p7.oP f10,f7.trans f10 λ_ h=>h.elim,λj a c=>Ye j a (by omega) (by rw[lU];omega)⟩ ?_
 rintro n ⟨x,y,_⟩ fZ ⟨i,hbi,yD,rfl,hx,hy,I2,f12,fC⟩
 simp only at hx hy
 subst hx hy
 dsimp only
 refine sP I2 (ft (λlC=>?_) (λiG=>?_))
 ·have hi:i<m.length:=by omega
  refine dW (λ(q:Int×Unit) H'=>q.1=eK m (i+1)/\to'<eK m (i+1)/\dS H' g m h jS F/\Fr (λk=>k=g) H H') ?_ ?_
  ·refine dW (λ(q:Int×Unit) H'=>q.1=eK m (i+1)/\dS H' g m h jS F/\Fr (λk=>k=g) H H') ?_ ?_
   ·have hb:=mu m i
    have qg:=mu m (i+1)
    have hs:=lS hi
    refine db λn7 qV=>?_
    rw[wrap_i64 (by omega) (by omega)] at qV
    refine oH I2 _ λH8 f8=>?_
    rw[qB hi]
    refine ik (λJj=>db λn8 Ov=>⟨?_,I2.oP f8,f12.trans f8 λ_ h=>h.elim⟩) (λqK=>⟨?_,I2.oP f8,f12.trans f8 λ_ h=>h.elim⟩)
    ·rw[if_pos Jj] at hs
     rw[wrap_i64 (by omega) (by omega)] at Ov
     show n8=_
     omega
    ·rw[if_neg (by rw[qK];decide)] at hs
     show n7=_
     omega
   ·rintro⟨q,_⟩ jY ⟨hq,VF,f15⟩
    simp only at hq
    subst hq
    refine ft (λhe=>h1 i jY jS (by omega) hi he fC (by omega) VF f15) (λhe=>⟨rfl,?_,VF,f15⟩)
    have QN:to'<eK m i:=by
     rcases Nat.eq_or_lt_of_le (show k+1<=i by omega) with e|e
     ·rw[<-e];exact Ol
     ·have:=fC (i-1) (by omega) (by omega)
      rwa[show i-1+1=i by omega] at this
    have:=qN hi
    omega
  ·rintro⟨q,_⟩ gK ⟨hq,QN,DK,f14⟩
   simp only at hq
   subst hq
   refine db λi9 FX=>⟨m.length-(i+1),by omega,i+1,by omega,by omega,rfl,rfl,?_,DK,f14,λj a b=>?_⟩
   ·show i9=_
    rw[FX,wrap_i64 (by omega) (by omega)];rfl
   ·rcases Nat.lt_or_ge j i with h|h
    ·exact fC j a h
    ·have:j=i:=by omega
     subst this
     exact QN
 ·exfalso
  have:=fC i0 (by omega) (by omega)
  omega
theorem wP(p:dS H g m h st F)(Bb:st<=100){k:Nat}(hk:k<m.length){to':Int}(Ol:to'<eK m k){R:Int->Heap->Prop}
 (h1:∀i H' jS,i<k->eK m (i+1)=to'->(∀j,i<j->j<k->to'<eK m (j+1))->jS<=st+2*h+3->dS H' g m h jS F->Fr (λk=>k=g) H H'->R (i:Int) H')
 (h2:∀H' jS,(∀j,j<k->to'<eK m (j+1))->jS<=st+2*h+3->dS H' g m h jS F->Fr (λk=>k=g) H H'->R (if to'=0 then-1 else-2) H'):kf.C (some ⟨g,0,none⟩) (k:Int) to' H R:=by
 obtain⟨ahK,oU,EV,hh,_⟩:=p.facts
 have hw:=Qj hh
 have hle:=mu m k
 have EU:∀i,i<m.length->i/64<2^h:=λi hi=>by omega
 apply kf.calls
 unfold kf.W
 rw[show Int.tdiv (k:Int) 64=((k/64:Nat):Int) from rfl,wrap_i64 (n:=((k/64:Nat):Int)) (by omega) (by omega),wrap_i64 (n:=((k/64:Nat):Int)*64) (by omega) (by omega),show((k/64:Nat):Int)*64=((k/64*64:Nat):Int) by omega]
 refine⟨by decide,?_⟩
 refine B2 p (by omega) (from_:=k/64*64) hk (by omega) (by omega) (λi H1 a b c d p1 f1=>kY (by omega) (h1 i H1 _ b c d (by omega) p1 f1)) (λH1 wL p1 f1=>e8 (by decide) ?_)
 obtain⟨_,c2,_⟩:=p1.cells
 refine⟨_,rfl,_,c2,by decide,db λnode QK=>?_⟩
 rw[wrap_i64 (by omega) (by omega)] at QK
 refine dW (λ_ H'=>∃jS,jS<=st+2*h+3/\dS H' g m h jS F/\Fr (λk=>k=g) H H'/\∀j,j<k->to'<eK m (j+1)) ?_ ?_
 ·refine fJ (λn(q:Int×Unit) H'=>∃v s jS,n=v/\q.1=((v:Nat):Int)/\s<=h/\2^s<=v/\v<2*2^s/\jS<=st+1+(h-s)+(1-v%2)/\dS H' g m h jS F/\Fr (λk=>k=g) H H'/\v<=qn h k s/\∀j,j<k->v<=qn h j s->to'<eK m (j+1)) (2^h+k/64)
   ⟨2^h+k/64,h,st+1,rfl,by show node=_;omega,Nat.le_refl _,by omega,by have:=EU k hk;omega,by omega,p1,f1,by rw[lU];omega,λj b c=>by rw[lU] at c;exact wL j (by omega) b⟩ ?_
  rintro n ⟨x,_⟩ H3 ⟨v0,s0,PF,rfl,hx,KN,KJ,ahn,Om,p3,f3,sD,EZ⟩
  simp only at hx
  subst hx
  dsimp only
  refine dW (λ(q:Int×Unit) H'=>∃v s jS,q.1=((v:Nat):Int)/\v%2=1/\v<=n/\s<=h/\2^s<=v/\v<2*2^s/\jS<=st+1+(h-s)/\dS H' g m h jS F/\Fr (λk=>k=g) H H'/\v<=qn h k s/\∀j,j<k->v<=qn h j s->to'<eK m (j+1)) ?_ ?_
  ·refine fJ (λn'(q:Int×Unit) H'=>∃v s jS,n'=v/\q.1=((v:Nat):Int)/\v<=n/\s<=h/\2^s<=v/\v<2*2^s/\jS<=st+1+(h-s)+(1-v%2)/\dS H' g m h jS F/\Fr (λk=>k=g) H H'/\v<=qn h k s/\∀j,j<k->v<=qn h j s->to'<eK m (j+1)) n
    ⟨n,s0,PF,rfl,rfl,Nat.le_refl _,KN,KJ,ahn,Om,p3,f3,sD,EZ⟩ ?_
   clear Om p3 f3 sD EZ
   rintro v ⟨x,_⟩ H5 ⟨v,s,jS,rfl,hx,S9,hs,hv,C8,tB,p5,f5,GF,Hg⟩
   simp only at hx
   subst hx
   dsimp only
   rw[ae3,ae4]
   have Ub:2^s<=2^h:=Nat.pow_le_pow_right (by decide) hs
   have J1:=y8 s
   refine⟨by decide,ft (λvQ=>?_) (λamL=>?_)⟩
   ·refine⟨by decide,db λnode8 kV=>?_⟩
    rw[wrap_i64 (by omega) (by omega)] at kV
    obtain⟨r,rfl⟩:=Bq C8 (by omega)
    rw[mC] at hv C8
    refine⟨v/2,by omega,v/2,r,jS,rfl,kV,by omega,by omega,by omega,by omega,by omega,p5,f5,?_,λj b c=>Hg j b ?_⟩
    ·rw[ks h k (by omega)]
     omega
    ·rw[ks h j (by omega)] at c
     omega
   ·exact⟨v,s,jS,rfl,by omega,S9,hs,hv,C8,by omega,p5,f5,GF,Hg⟩
  ·clear Om p3 f3 sD EZ
   rintro⟨x,_⟩ H4 ⟨v,s,jS,hx,XY,S9,hs,hv,C8,tB,p4,f4,Sb,BZ⟩
   simp only at hx
   subst hx
   dsimp only
   have Ub:2^s<=2^h:=Nat.pow_le_pow_right (by decide) hs
   refine ft (λh1v=>?_) (λXZ=>?_)
   ·have KI:v=1:=by omega
    subst KI
    have ahs:=Fg hv
    subst ahs
    exact⟨jS,by omega,p4,f4,λj b=>BZ j b (by rw[MK (EU j (by omega))];omega)⟩
   ·obtain⟨r,rfl⟩:=Bq C8 (by omega)
    have D1:=mC r
    refine db λnode8 kV=>?_
    rw[wrap_i64 (by omega) (by omega),show(v:Int)-1=((v-1:Nat):Int) by omega] at kV
    subst kV
    refine zm p4 (by omega) (v:=v-1) hs (by omega) (by omega) (by omega) λb H6 hb p6 f6=>?_
    have Mm:=f4.trans f6 λk hk=>.inl hk
    refine ik (λqg=>?_) (λqK=>?_)
    ·refine dW (λ(q:Int×Unit) H'=>∃v jS,q.1=((v:Nat):Int)/\2^h<=v/\v<2*2^h/\jS<=st+2+h+h/\dS H' g m h jS F/\Fr (λk=>k=g) H H'/\v<qn h k h/\(∃i,i<m.length/\qn h i h=v/\eK m (i+1)<=to')/\∀j,j<k->v<qn h j h->to'<eK m (j+1)) ?_ ?_
     ·refine fJ (λn(q:Int×Unit) H'=>∃v s jS,n=h-s/\q.1=((v:Nat):Int)/\s<=h/\2^s<=v/\v<2*2^s/\jS<=st+2+h+s/\dS H' g m h jS F/\Fr (λk=>k=g) H H'/\v<qn h k s/\(∃i,i<m.length/\qn h i s=v/\eK m (i+1)<=to')/\∀j,j<k->v<qn h j s->to'<eK m (j+1)) (h-(r+1))
       ⟨v-1,r+1,jS+1,rfl,rfl,hs,by omega,by omega,by omega,p6,Mm,by omega,hb.1 qg,λj b c=>BZ j b (by omega)⟩ ?_
      clear hs hv C8 tB p4 f4 Sb BZ p6 f6 Mm hb qg XY S9 XZ Ub D1
      rintro n ⟨x,_⟩ H8 ⟨v,s,jS,rfl,hx,hs,hv,C8,tB,p8,f8,R9,⟨i,Mc,rB,rA⟩,EY⟩
      simp only at hx
      subst hx
      dsimp only
      obtain⟨_,c2,_⟩:=p8.cells
      have Ub:2^s<=2^h:=Nat.pow_le_pow_right (by decide) hs
      refine⟨_,rfl,_,c2,ft (λlC=>?_) (λiG=>?_)⟩
      ·have uw:=Mv hs hv (by omega)
       have qD:=mC s
       refine db λnode8 kV=>?_
       rw[wrap_i64 (n:=2*(v:Int)) (by omega) (by omega),wrap_i64 (by omega) (by omega),show 2*(v:Int)+1=((2*v+1:Nat):Int) by omega] at kV
       subst kV
       refine zm p8 (by omega) (v:=2*v+1) (s:=s+1) uw (by omega) (by omega) (by omega) λb H9 hb p9 f9=>?_
       have Ml:=f8.trans f9 λk hk=>.inl hk
       have hka:=ks h k uw
       refine ik (λqg=>db λamb ES=>?_) (λqK=>?_)
       ·have Jg:¬∃i,i<m.length/\qn h i (s+1)=2*v+1/\eK m (i+1)<=to':=λhc=>by rw[hb.2 hc] at qg;cases qg
        rw[wrap_i64 (by omega) (by omega),show((2*v+1:Nat):Int)-1=((2*v:Nat):Int) by omega] at ES
        subst ES
        have hia:=ks h i uw
        refine⟨h-(s+1),by omega,2*v,s+1,jS+1,rfl,rfl,uw,by omega,by omega,by omega,p9,Ml,by omega,⟨i,Mc,?_,rA⟩,λj b c=>?_⟩
        ·rcases Classical.em (qn h i (s+1)=2*v+1) with e|e
         ·exact absurd ⟨i,Mc,e,rA⟩ Jg
         ·omega
        ·have RN:=ks h j uw
         rcases Classical.em (qn h j (s+1)=2*v+1) with e|e
         ·rcases Classical.em (eK m (j+1)<=to') with e'|e'
          ·exact absurd ⟨j,by omega,e,e'⟩ Jg
          ·omega
         ·exact EY j b (by omega)
       ·have qK:b=true:=by cases b with
         |true=>rfl
         |false=>cases qK
        refine⟨h-(s+1),by omega,2*v+1,s+1,jS+1,rfl,rfl,uw,by omega,by omega,by omega,p9,Ml,by omega,hb.1 qK,λj b c=>?_⟩
        have RN:=ks h j uw
        exact EY j b (by omega)
      ·have uw:=Fh hs C8 (by omega)
       subst uw
       exact⟨v,jS,rfl,hv,C8,tB,p8,f8,R9,⟨i,Mc,rB,rA⟩,EY⟩
     ·clear hs hv C8 tB p4 f4 Sb BZ p6 f6 Mm hb qg XY S9 XZ Ub D1
      rintro⟨x,_⟩ H7 ⟨v,jS,hx,hv,C8,tB,p7,f7,Sa,⟨i0,Mc,rB,rA⟩,Ye⟩
      simp only at hx
      subst hx
      dsimp only
      obtain⟨_,c2,_⟩:=p7.cells
      rw[lU] at rB Sa
      obtain⟨b,rfl⟩:∃b,v=2^h+b:=⟨v-2^h,by omega⟩
      refine⟨_,rfl,_,c2,db λain Mf=>?_⟩
      rw[wrap_i64 (n:=((2^h+b:Nat):Int)-((2^h:Nat):Int)) (by omega) (by omega),wrap_i64 (n:=((2^h+b:Nat):Int)-((2^h:Nat):Int)+1) (by omega) (by omega),wrap_i64 (by omega) (by omega),show(((2^h+b:Nat):Int)-((2^h:Nat):Int)+1)*64=((b*64+64:Nat):Int) by omega] at Mf
      subst Mf
      rw[wrap_i64 (n:=((b*64+64:Nat):Int)-64) (by omega) (by omega),show((b*64+64:Nat):Int)-64=((b*64:Nat):Int) by omega]
      have hek:b*64+64<=k:=by omega
      have Yd:∀j,b*64+64<=j->j<k->to'<eK m (j+1):=λj a c=>Ye j c (by rw[lU];omega)
      have aqw:to'<=eK m (b*64+64):=by
       rcases Nat.eq_or_lt_of_le hek with e|e
       ·rw[e];omega
       ·have:=Yd _ (Nat.le_refl _) e
        have:=qN (m:=m) (k:=b*64+64) (by omega)
        omega
      refine B2 p7 (by omega) (from_:=b*64) (by omega) (by omega) aqw (λi de a b' c d VH f10=>?_) (λde hn VH f10=>?_)
      ·exact h1 i de _ (by omega) c (λj x y=>by
        rcases Nat.lt_or_ge j (b*64+64) with e|e
        ·exact d j x e
        ·exact Yd j e y) (by omega) VH (f7.trans f10 λk hk=>.inl hk)
      ·exfalso
       have:=hn i0 (by omega) (by omega)
       omega
    ·refine⟨v-1,by omega,v-1,r+1,jS+1,rfl,rfl,hs,by omega,by omega,by omega,p6,Mm,by omega,λj b c=>?_⟩
     rcases Nat.lt_or_ge (qn h j (r+1)) v with e|e
     ·have Jg:¬∃i,i<m.length/\qn h i (r+1)=v-1/\eK m (i+1)<=to':=λhc=>by rw[hb.2 hc] at qK;cases qK
      rcases Classical.em (eK m (j+1)<=to') with e'|e'
      ·exact absurd ⟨j,by omega,by omega,e'⟩ Jg
      ·omega
     ·exact BZ j b e
 ·rintro _ H2 ⟨jS,tB,p2,f2,fC⟩
  have:=h2 H2 jS fC tB p2 f2
  refine ft (λh0=>?_) (λh0=>?_)
  ·rwa[if_pos h0] at this
  ·rwa[if_neg h0] at this
end
end Go.Proofs.iQ
namespace Go.Ex
def aiP(m:List Bool)(k x:Int):Prop:=(∃i c:Nat,k=(i:Int)/\pj m i c/\x=(c:Int))\/(Qq m k=false/\x=-1)
def HY(m:List Bool)(k n x:Int):Prop:=(∃(i n' y:Nat)(hi:i<m.length),k=(i:Int)/\m[i]=true/\n=(n':Int)/\MR m i n' y/\x=(y:Int))\/(x=-1/\∀(i n' y:Nat)(hi:i<m.length),k=(i:Int)->m[i]=true->n=(n':Int)->¬MR m i n' y)
def aoQ(m:List Bool)(k x:Int):Prop:=(∃i c:Nat,k=(i:Int)/\pj m i c/\x=(((c-i+1)/2:Nat):Int))\/(Qq m k=false/\x=0)
def aiL(m:List Bool)(n x:Int):Prop:=(∃(p:Nat)(hp:p<m.length),m[p]=true/\(rk m p true:Int)=n/\x=(p:Int))\/((n<0\/(m.count true:Int)<=n)/\x=-1)
theorem HY.none{m:List Bool}(hb:Z5 m){k n:Int}(h:Qq m k=false\/n<0\/(∃i:Nat,k=(i:Int)/\eK m i<n)):HY m k n (-1):=by
 refine .inr ⟨rfl,λi n' y hi e ho e' hu=>?_⟩
 subst e e'
 rcases h with h|h|⟨i',e,h⟩
 ·rw[qB hi,ho] at h;cases h
 ·omega
 ·obtain rfl:i=i':=by omega
  obtain⟨a,b,_⟩:=hu
  have:=hb.1 y (by omega)
  omega
end Go.Ex
namespace Go.Proofs.iQ
open Go.Ex
theorem air{H:Heap}(hd:CA H):mG<Array.size H:=by
 have:=u5 (hd 0 (by decide))
 rw[ke] at this
 exact this
def PB(H:Heap)(g:Nat)(m:List Bool)(F:Nat->Prop):Prop:=∃h st,st<=2*h+3/\dS H g m h st F
structure PS(H0 H:Heap)(g:Nat)(m:List Bool)(F:Nat->Prop):Prop where
 pb:PB H g m F
 fr:Fr (λk=>k=g) H0 H
 Z0:CA H0
 nd:mG≠g
section
variable {H0 H:Heap} {g:Nat} {m:List Bool} {F:Nat->Prop}
theorem PS.step{H':Heap}(s:PS H0 H g m F){h st:Nat}(Bb:st<=2*h+3)(w:dS H' g m h st F)(f:Fr (λk=>k=g) H H'):PS H0 H' g m F:=
 ⟨⟨h,st,Bb,w⟩,s.fr.trans f λk hk=>.inl hk,s.Z0,s.nd⟩
theorem PS.oP{H':Heap}(s:PS H0 H g m F)(f:Fr gz H H'):PS H0 H' g m F:=by
 obtain⟨h,st,a,p⟩:=s.pb
 exact⟨⟨h,st,a,p.oP f⟩,s.fr.trans f λ_ h=>h.elim,s.Z0,s.nd⟩
theorem PS.aq4(s:PS H0 H g m F):CA H:=λi hi=>s.fr.cell (s.Z0 i hi) λh=>s.nd (by rw[ke] at h;exact h)
theorem PS.CM(s:PS H0 H g m F):Z5 m:=by
 obtain⟨h,st,a,p⟩:=s.pb
 exact p.facts.1
theorem PS.sW(s:PS H0 H g m F):m.length<=4194304:=by
 obtain⟨h,st,a,p⟩:=s.pb
 exact p.facts.2.1
theorem PS.len(s:PS H0 H g m F){R:Int->Heap->Prop}(hR:R (m.length:Int) H):lZ.C (some ⟨g,0,none⟩) H R:=by
 obtain⟨h,st,a,p⟩:=s.pb
 exact sP p hR
theorem PS.opens(s:PS H0 H g m F)(k:Int){R:Bool->Heap->Prop}(hR:∀H',PS H0 H' g m F->R (Qq m k) H'):iP.C (some ⟨g,0,none⟩) k H R:=by
 obtain⟨h,st,a,p⟩:=s.pb
 exact oH p k λH' f=>hR H' (s.oP f)
theorem PS.aim(s:PS H0 H g m F)(k:Int){R:Int->Heap->Prop}(hR:∀H',PS H0 H' g m F->R (if 0<=k/\k<(m.length:Int) then eK m (k+1).toNat else-1) H'):jO.C (some ⟨g,0,none⟩) k H R:=by
 obtain⟨h,st,a,p⟩:=s.pb
 apply jO.calls
 unfold jO.W
 refine eG (eG ?_)
 refine ft (λh0=>iR rfl ?_) (λh0=>sP p (ft (λh1=>?_) (λh1=>?_)))
 ·have:=hR H s
  rwa[if_neg (by omega)] at this
 ·have:=hR H s
  rwa[if_neg (by omega)] at this
 ·refine mB p (i:=(k+1).toNat) (by omega) (by omega) λH4 f4=>?_
  have:=hR H4 (s.oP f4)
  rwa[if_pos (by omega)] at this
theorem PS.close(s:PS H0 H g m F)(k:Int){R:Int->Heap->Prop}(hR:∀x H',aiP m k x->PS H0 H' g m F->R x H'):nK.C (some ⟨g,0,none⟩) k H R:=by
 have hb:=s.CM
 have oU:=s.sW
 obtain⟨h,st,a,p⟩:=s.pb
 obtain⟨_,_,c3,z3⟩:=p.cells
 apply nK.calls
 unfold nK.W
 refine eY rfl ⟨_,rfl,⟨_,c3⟩,z3,db λH1 h1=>?_⟩
 obtain⟨p1,f1⟩:=p.step 0 h1
 refine oH p1 k λH2 f2=>?_
 have p2:=p1.oP f2
 have sX:Fr (λk=>k=g) H H2:=f1.trans f2 λ_ h=>h.elim
 refine ik (λhn=>hR _ H2 (.inr ⟨by simpa using hn,rfl⟩) (s.step (by omega) p2 sX)) (λhn=>?_)
 obtain⟨i,hi,rfl,ho⟩:=Lx (by simpa using hn)
 refine mB p2 (i:=i+1) (by omega) (by omega) λH3 f3=>?_
 have yx:=Qr hi ho
 have hle:=mu m (i+1)
 rw[wrap_i64 (by omega) (by omega),show eK m (i+1)-1=eK m i by omega]
 have xX:Fr (λk=>k=g) H H3:=sX.trans f3 λ_ h=>h.elim
 refine Jl (p2.oP f3) (by omega) hi (by omega) (λc H4 ya e1 e2 e3 e4 e5 p4 f4=>?_) (λH4 ya wL e5 p4 f4=>?_)
 ·refine hR _ H4 (.inl ⟨i,c,rfl,⟨by omega,e2,e3,λy h1 h2=>?_⟩,rfl⟩) (s.step (by omega) p4 (xX.trans f4 λk hk=>.inl hk))
  rcases Nat.eq_or_lt_of_le (show i+1<=y by omega) with e|e
  ·rw[<-e];omega
  ·have:=e4 (y-1) (by omega) (by omega)
   rwa[show y-1+1=y by omega] at this
 ·exfalso
  obtain⟨c,hc⟩:=ac6 hb hi ho
  have:=wL c hc.lt hc.2.1
  have:=hc.2.2.1
  omega
theorem PS.up(s:PS H0 H g m F)(k n:Int)(hn:n<=9223372036854775807){R:Int->Heap->Prop}(hR:∀x H',HY m k n x->PS H0 H' g m F->R x H'):dJ.C (some ⟨g,0,none⟩) k n H R:=by
 have hb:=s.CM
 have oU:=s.sW
 obtain⟨h,st,a,p⟩:=s.pb
 obtain⟨_,_,c3,z3⟩:=p.cells
 apply dJ.calls
 unfold dJ.W
 refine eY rfl ⟨_,rfl,⟨_,c3⟩,z3,db λH1 h1=>?_⟩
 obtain⟨p1,f1⟩:=p.step 0 h1
 refine dW (λ_ H'=>(∃(i n':Nat)(hi:i<m.length),k=(i:Int)/\m[i]=true/\n=(n':Int)/\(n':Int)<=eK m i)/\dS H' g m h 0 F/\Fr (λk=>k=g) H H') ?_ ?_
 ·refine eG ?_
  refine oH p1 k λH2 f2=>?_
  have p2:=p1.oP f2
  have sX:Fr (λk=>k=g) H H2:=f1.trans f2 λ_ h=>h.elim
  refine ik (λhn=>iR rfl (hR _ H2 (.none hb (.inl (by simpa using hn))) (s.step (by omega) p2 sX))) (λhn=>?_)
  refine ft (λh0=>iR rfl (hR _ H2 (.none hb (.inr (.inl h0))) (s.step (by omega) p2 sX))) (λh0=>?_)
  obtain⟨i,hi,rfl,ho⟩:=Lx (by simpa using hn)
  have yx:=Qr hi ho
  refine mB p2 (i:=i+1) (by omega) (by omega) λH3 f3=>?_
  have p3:=p2.oP f3
  have xX:Fr (λk=>k=g) H H3:=sX.trans f3 λ_ h=>h.elim
  refine ft (λh1=>hR _ H3 (.none hb (.inr (.inr ⟨i,rfl,by omega⟩))) (s.step (by omega) p3 xX)) (λh1=>⟨⟨i,n.toNat,hi,rfl,ho,by omega,by omega⟩,p3,xX⟩)
 ·rintro _ H2 ⟨⟨i,n',hi,rfl,ho,rfl,ahC⟩,p2,sX⟩
  have hle:=mu m (i+1)
  have yx:=Qr hi ho
  refine ft (λh0=>?_) (λh0=>?_)
  ·obtain rfl:n'=0:=by omega
   exact hR _ H2 (.inl ⟨i,0,i,hi,rfl,ho,rfl,MR.zero m i,rfl⟩) (s.step (by omega) p2 sX)
  ·refine mB p2 (i:=i+1) (by omega) (by omega) λH3 f3=>?_
   have xX:Fr (λk=>k=g) H H3:=sX.trans f3 λ_ h=>h.elim
   rw[wrap_i64 (n:=eK m (i+1)-1) (by omega) (by omega),wrap_i64 (by omega) (by omega),show eK m (i+1)-1-(n':Int)=eK m i-(n':Int) by omega]
   refine wP (p2.oP f3) (by omega) hi (by omega) (λj H4 ya e1 e3 e4 e5 p4 f4=>db λx hx=>?_) (λH4 ya wL e5 p4 f4=>db λx hx=>?_)
   ·rw[wrap_i64 (by omega) (by omega)] at hx
    refine hR _ H4 (.inl ⟨i,n',j+1,hi,rfl,ho,rfl,⟨by omega,e3,λy h1 h2=>?_⟩,by omega⟩) (s.step (by omega) p4 (xX.trans f4 λk hk=>.inl hk))
    have:=e4 (y-1) (by omega) (by omega)
    rw[show y-1+1=y by omega] at this
    omega
   ·obtain⟨z,hz⟩:=alE (m:=m) (k:=i) (by omega) n' ahC
    have BD:z=0:=by
     rcases Nat.eq_zero_or_pos z with e|e
     ·exact e
     ·have h1:=hz.1
      have h2:=hz.2.1
      rcases Nat.eq_or_lt_of_le h1 with e'|e'
      ·subst e';omega
      ·have:=wL (z-1) (by omega)
       rw[show z-1+1=z by omega] at this
       omega
    subst BD
    have h0:=hz.2.1
    rw[nv] at h0
    rw[if_pos (by omega),wrap_i64 (by omega) (by omega)] at hx
    exact hR _ H4 (.inl ⟨i,n',0,hi,rfl,ho,rfl,hz,by omega⟩) (s.step (by omega) p4 (xX.trans f4 λk hk=>.inl hk))
theorem PS.adW(s:PS H0 H g m F)(k:Int){R:Int->Heap->Prop}(hR:∀x H',HY m k 1 x->PS H0 H' g m F->R x H'):lO.C (some ⟨g,0,none⟩) k H R:=by
 apply lO.calls
 unfold lO.W
 exact s.up k 1 (by decide) hR
theorem PS.span(s:PS H0 H g m F)(k:Int){R:Int->Heap->Prop}(hR:∀x H',aoQ m k x->PS H0 H' g m F->R x H'):pQ.C (some ⟨g,0,none⟩) k H R:=by
 have oU:=s.sW
 apply pQ.calls
 unfold pQ.W
 refine s.opens k λH1 s1=>ik (λhn=>hR _ H1 (.inr ⟨by simpa using hn,rfl⟩) s1) (λhn=>?_)
 refine s1.close k λx H2 hx s2=>?_
 rcases hx with⟨i,c,rfl,hp,rfl⟩|⟨h,_⟩
 ·have h1:=hp.lt
  have h2:=hp.2.1
  have ed:Int.tdiv ((c-i+1:Nat):Int) 2=(((c-i+1)/2:Nat):Int):=rfl
  refine⟨by decide,db λy hy=>?_⟩
  rw[wrap_i64 (n:=(c:Int)-(i:Int)) (by omega) (by omega),wrap_i64 (n:=(c:Int)-(i:Int)+1) (by omega) (by omega),show(c:Int)-(i:Int)+1=((c-i+1:Nat):Int) by omega,ed,wrap_i64 (by omega) (by omega)] at hy
  exact hR _ H2 (.inl ⟨i,c,rfl,hp,hy⟩) s2
 ·rw[h] at hn;cases hn
theorem PS.number(s:PS H0 H g m F)(k:Int){R:Int->Heap->Prop}(hR:∀H',PS H0 H' g m F->R (if Qq m k=true then(rk m k.toNat true:Int) else-1) H'):na.C (some ⟨g,0,none⟩) k H R:=by
 apply na.calls
 unfold na.W
 refine s.opens k λH1 s1=>ik (λhn=>?_) (λhn=>?_)
 ·have:=hR H1 s1
  rwa[if_neg (by simpa using hn)] at this
 ·obtain⟨h,st,a,p⟩:=s1.pb
  obtain⟨⟨gb,Fb,c0,b⟩,_⟩:=p.cells
  refine⟨_,rfl,_,c0,il b _ true λH2 f2=>?_⟩
  have:=hR H2 (s1.oP f2)
  rwa[if_pos (by simpa using hn)] at this
theorem PS.place(s:PS H0 H g m F)(n:Int){R:Int->Heap->Prop}(hR:∀x H',aiL m n x->PS H0 H' g m F->R x H'):jR.C (some ⟨g,0,none⟩) n H R:=by
 obtain⟨h,st,a,p⟩:=s.pb
 obtain⟨⟨gb,Fb,c0,b⟩,_⟩:=p.cells
 apply jR.calls
 unfold jR.W
 refine eY rfl ⟨_,rfl,_,c0,lr b s.aq4 n true (λq hq H' e1 e2 f=>hR _ H' (.inl ⟨q,hq,e1,e2,rfl⟩) (s.oP f)) (λH' ho f=>hR _ H' (.inr ⟨ho,rfl⟩) (s.oP f))⟩
end
end Go.Proofs.iQ
namespace Go.Ex
theorem ID{T:List Int}{i:Nat}(h:i<T.length)(x:Int):(T.set i x).getD i 0=x:=by simp[List.getD_eq_getElem?_getD,h]
theorem vz{T:List Int}{i j:Nat}(h:i≠j)(x:Int):(T.set i x).getD j 0=T.getD j 0:=by simp[List.getD_eq_getElem?_getD,List.getElem?_set_ne h]
end Go.Ex
namespace Go.Proofs.iQ
open Go.Ex
theorem Zi{H:Heap}{m:List Bool}{p:Option Addr}{n c:Nat}(ra:Rd H (m.map Value.bool) p n)(hn:n<=4194304){R:Bool->Heap->Prop}(hT:Z5 m->R true H)(hF:¬Z5 m->R false H):je.C p n c H R:=by
 have hl:m.length=n:=by have:=ra.1;simpa using this
 apply je.calls
 unfold je.W
 refine eG ?_
 refine fJ (λk(q:Int×Int×Unit) H'=>∃i:Nat,i<=n/\k=n-i/\q.1=eK m i/\q.2.1=(i:Int)/\H=H'/\∀j,j<=i->0<=eK m j) n ⟨0,Nat.zero_le _,rfl,(nv m).symm,rfl,rfl,λj hj=>(show j=0 by omega)▸(by rw[nv];omega)⟩ ?_
 rintro k ⟨x,y,_⟩ _ ⟨i,hi,rfl,hx,hy,rfl,fC⟩
 simp only at hx hy
 subst hx hy
 dsimp only
 refine ft (λlC=>?_) (λiG=>?_)
 ·have nN:i<m.length:=by omega
  obtain⟨h2,a,ha,hc⟩:=IP ra (i:=i) (by omega)
  have hb:=mu m i
  have qg:=mu m (i+1)
  have hs:=lS nN
  refine dW (λ(q:Int×Unit) H'=>H=H'/\q.1=eK m (i+1)/\0<=eK m (i+1)) ?_ ?_
  ·refine⟨a,ha,by omega,by omega,_,by rw[Int.toNat_natCast];exact hc,?_⟩
   refine dW (λ(q:Int×Unit) H'=>H=H'/\q.1=eK m (i+1)) ?_ ?_
   ·refine db λn7 qV=>?_
    rw[wrap_i64 (by omega) (by omega)] at qV
    refine ik (λJj=>db λn8 Ov=>⟨rfl,?_⟩) (λqK=>⟨rfl,?_⟩)
    ·rw[if_pos Jj] at hs
     rw[wrap_i64 (by omega) (by omega)] at Ov
     show n8=_
     omega
    ·rw[if_neg (by rw[qK];decide)] at hs
     show n7=_
     omega
   ·rintro⟨q,_⟩ _ ⟨rfl,hq⟩
    simp only at hq
    subst hq
    exact ft (λh0=>hF λhb=>by have:=hb.1 (i+1) (by omega);omega) (λh0=>⟨rfl,rfl,by omega⟩)
  ·rintro⟨q,_⟩ _ ⟨rfl,hq,h0⟩
   simp only at hq
   subst hq
   refine⟨n-(i+1),by omega,i+1,by omega,rfl,rfl,by show IntKind.i64.wrap ((i:Int)+1)=_;rw[wrap_i64 (by omega) (by omega)];rfl,rfl,λj hj=>?_⟩
   rcases Nat.lt_or_ge j (i+1) with h|h
   ·exact fC j (by omega)
   ·obtain rfl:j=i+1:=by omega
    exact h0
 ·obtain rfl:i=m.length:=by omega
  by_cases h0:eK m m.length=0
  ·rw[decide_eq_true h0]
   exact hT ⟨fC,h0⟩
  ·rw[decide_eq_false h0]
   exact hF λhb=>h0 hb.2
structure qY(H0 H:Heap)(g gb gt w:Nat)(m:List Bool)(T:List Int)(Fb:Nat->Prop):Prop where
 fv:H[g]?=some (.cells #[.pointer (some ⟨gb,0,none⟩),.nilIface,.int .i64 (w:Int),.int .i64 0] kO (0,0))
 sl:Sl H gv (T.map (Value.int .i64)) (some ⟨gt,0,none⟩) (2*w) (2*w)
 len:T.length=2*w
 bits:mL H gb m Fb
 fr:Fr gz H0 H
 low:Array.size H0<=g
 gt:g<gt
 fb:∀k,Fb k->k<g/\Array.size H0<=k
section
variable {H0 H:Heap} {g gb gt w:Nat} {m:List Bool} {T:List Int} {Fb:Nat->Prop}
theorem qY.wide(n:qY H0 H g gb gt w m T Fb):dj H ((⟨g,0,none⟩:Addr).add 2)=some (.int .i64 (w:Int)):=(dh n.fv 0 2).trans rfl
theorem qY.read(n:qY H0 H g gb gt w m T Fb){i:Nat}(hi:i<2*w):dj H ((⟨gt,0,none⟩:Addr).add i)=some (.int .i64 (T.getD i 0)):=by
 have hiT:i<T.length:=by rw[n.len];exact hi
 obtain⟨a,ha,hc⟩:=n.sl.rd.get (i:=i) (v:=.int .i64 (T.getD i 0)) (by rw[List.getElem?_map,List.getD_eq_getElem?_getD,List.getElem?_eq_getElem hiT];rfl)
 cases ha
 exact hc
theorem qY.store(n:qY H0 H g gb gt w m T Fb){i:Nat}(hi:i<2*w)(x:Int):(∃u,dj H ((⟨gt,0,none⟩:Addr).add i)=some u)/\gO H ((⟨gt,0,none⟩:Addr).add i)=false/\∀H',H'=nQ H ((⟨gt,0,none⟩:Addr).add i) (.int .i64 x)->qY H0 H' g gb gt w m (T.set i x) Fb:=by
 obtain⟨a,ha,hex,X4,hs,hf⟩:=n.sl.store hi (.int .i64 x)
 cases ha
 refine⟨hex,X4,λH' e=>?_⟩
 subst e
 have hZ:∀k,fw (some ⟨gt,0,none⟩) k->k=gt:=by rintro k ⟨a,ha,rfl⟩;cases ha;rfl
 have zv:=n.low
 have QN:=n.gt
 refine⟨hf.fv n.fv λh=>by have:=hZ _ h;omega,?_,by rw[List.length_set];exact n.len,n.bits.fy hf λk hk h=>by have:=hZ _ h;have:=(n.fb k hk).1;omega,n.fr.trans hf λk hk=>.inr (by have:=hZ _ hk;omega),n.low,n.gt,n.fb⟩
 rw[List.map_set] at*
 exact hs
end
theorem EA{H:Heap}(hd:CA H){m:List Bool}{p:Option Addr}{n c:Nat}(ra:Rd H (m.map Value.bool) p n)(hn:n<=4194304){R:Option Addr->Int->Heap->Prop}
 (OB:¬Z5 m->R none 1 H)(lu:Z5 m->∀g F H',PB H' g m F->(∀k,F k->Array.size H<=k/\k<Array.size H')->Array.size H<=g->Fr gz H H'->R (some ⟨g,0,none⟩) 0 H'):jd.C p n c H R:=by
 have hl:m.length=n:=by have:=ra.1;simpa using this
 apply jd.calls
 unfold jd.W
 refine Zi ra hn (λhb=>eY rfl ?_) (λhb=>iR rfl (OB hb))
 have lu:=lu hb
 refine sa ra hn λgb H2 tb f2=>eG (eG (e8 (by decide) (e8 (by omega) (db λH5 h5=>?_))))
 have f5:Fr gz H2 H5:=by rw[h5];exact Fr.new _ _ _
 have s5:Array.size H5=Array.size H2+1:=by rw[h5];exact gC
 have g5:=ns h5
 clear h5
 have sz2:=f2.size
 generalize RQ:Array.size H2=g at*
 have Vp:=tb.oP f5
 refine dW (λ_ H'=>∃t,t<=16/\t<=ki n/\n<=2^t*64/\H'[g]?=some (.cells #[.pointer (some ⟨gb,0,none⟩),.nilIface,.int .i64 ((2^t:Nat):Int),.int .i64 0] kO (0,0))/\mL H' gb m (λk=>Array.size H<=k/\k<g)/\Fr gz H H'/\g<Array.size H') ?_ ?_
 ·refine fJ (λk(q:Unit) H'=>∃t,k=17-t/\t<=16/\(t=0\/2^t*32<n)/\H'[g]?=some (.cells #[.pointer (some ⟨gb,0,none⟩),.nilIface,.int .i64 ((2^t:Nat):Int),.int .i64 0] kO (0,0))/\mL H' gb m (λk=>Array.size H<=k/\k<g)/\Fr gz H H'/\g<Array.size H') 17 ⟨0,rfl,by omega,.inl rfl,g5,Vp,f2.eZ f5,by omega⟩ ?_
  rintro k _ H7 ⟨t,rfl,ht,hor,Gy,Vn,f7,DX⟩
  have hp:=Qj ht
  have J1:=y8 t
  have c2:dj H7 ((⟨g,0,none⟩:Addr).add 2)=some (.int .i64 ((2^t:Nat):Int)):=(dh Gy 0 2).trans rfl
  refine⟨_,rfl,_,c2,?_⟩
  rw[wrap_i64 (n:=((2^t:Nat):Int)*64) (by omega) (by omega)]
  have Ub:=mC t
  refine ft (λlC=>⟨_,rfl,_,c2,_,rfl,⟨_,c2⟩,mQ Gy 0 2,db λH8 h8=>?_⟩) (λiG=>⟨t,ht,?_,by omega,Gy,Vn,f7,DX⟩)
  ·rw[wrap_i64 (by omega) (by omega),show((2^t:Nat):Int)*2=((2^(t+1):Nat):Int) by omega] at h8
   have g8:=iJ h8 Gy
   have f8:=kn h8
   have asu:t<16:=by
    rcases Nat.lt_or_ge t 16 with h|h
    ·exact h
    ·obtain rfl:t=16:=by omega
     omega
   exact⟨17-(t+1),by omega,t+1,rfl,by omega,.inr (by omega),g8,Vn.fy f8 λk hk e=>by omega,f7.trans f8 λk hk=>.inr (by omega),Nat.lt_of_lt_of_le DX f8.size⟩
  ·rcases hor with h|h
   ·omega
   ·rcases Nat.lt_or_ge (ki n) t with e|e
    ·have h1:=asN.1 (Nat.le_refl (ki n))
     have h2:2^ki n<=2^t:=Nat.pow_le_pow_right (by decide) (by omega)
     omega
    ·exact e
 clear tb Vp g5 f5 s5
 rintro _ H6 ⟨t,ht,ZO,EV,uJ,Vo,f6,KM⟩
 have hp:=Qj ht
 have J1:=y8 t
 have c2:dj H6 ((⟨g,0,none⟩:Addr).add 2)=some (.int .i64 ((2^t:Nat):Int)):=(dh uJ 0 2).trans rfl
 refine⟨_,rfl,_,c2,?_⟩
 rw[wrap_i64 (n:=2*((2^t:Nat):Int)) (by omega) (by omega),show 2*((2^t:Nat):Int)=((2*2^t:Nat):Int) by omega]
 generalize hw:2^t=w at*
 refine⟨by omega,by omega,by omega,?_⟩
 rw[Int.toNat_natCast]
 refine db λH9 h9=>?_
 have f9:Fr gz H6 H9:=by rw[h9];exact Fr.new _ _ _
 have Vs:Sl H9 gv ((List.replicate (2*w) (0:Int)).map (Value.int .i64)) (some ⟨Array.size H6,0,none⟩) (2*w) (2*w):=by
  rw[h9,List.map_replicate]
  exact Sl.made H6 gv (z:=.int .i64 0) rfl (2*w)
 clear h9
 have n9:qY H H9 g gb (Array.size H6) w m (List.replicate (2*w) (0:Int)) (λk=>Array.size H<=k/\k<g):=
  ⟨f9.fv uJ λh=>h,Vs,List.length_replicate,Vo.oP f9,f6.eZ f9,by omega,KM,λk hk=>⟨hk.2,hk.1⟩⟩
 generalize Array.size H6=gt at*
 clear uJ Vo f6 c2 f9 Vs
 refine dW (λ_ H'=>∃T,qY H H' g gb gt w m T (λk=>Array.size H<=k/\k<g)/\∀b,b<w->T.getD (w+b) 0=(n:Int)) ?_ ?_
 ·refine⟨_,rfl,_,n9.wide,?_⟩
  refine fJ (λk(q:Int×Unit) H'=>∃(i:Nat)(T:List Int),i<=w/\k=w-i/\q.1=(i:Int)/\qY H H' g gb gt w m T (λk=>Array.size H<=k/\k<g)/\∀b,b<i->T.getD (w+b) 0=(n:Int)) w ⟨0,_,Nat.zero_le _,rfl,rfl,n9,λb hb=>by omega⟩ ?_
  rintro k ⟨x,_⟩ fg ⟨i,T,hi,rfl,hx,DO,hT⟩
  simp only at hx
  subst hx
  dsimp only
  refine ft (λlC=>?_) (λiG=>⟨T,DO,λb hb=>hT b (by omega)⟩)
  refine⟨_,rfl,_,DO.wide,?_⟩
  rw[wrap_i64 (n:=(w:Int)+(i:Int)) (by omega) (by omega),show(w:Int)+(i:Int)=((w+i:Nat):Int) by omega,Int.toNat_natCast]
  obtain⟨a1,a2,a3⟩:=DO.store (i:=w+i) (by omega) (n:Int)
  refine⟨_,rfl,by omega,by omega,a1,a2,db λfZ Kb=>?_⟩
  refine⟨w-(i+1),by omega,i+1,_,by omega,rfl,by show IntKind.i64.wrap ((i:Int)+1)=_;rw[wrap_i64 (by omega) (by omega)];rfl,a3 fZ Kb,λb hb=>?_⟩
  rcases Nat.lt_or_ge b i with e|e
  ·rw[vz (by omega)]
   exact hT b e
  ·obtain rfl:b=i:=by omega
   exact ID (by rw[DO.len];omega) _
 clear n9
 rintro _ de ⟨T10,C2,ane⟩
 refine dW (λ_ H'=>∃T,qY H H' g gb gt w m T (λk=>Array.size H<=k/\k<g)/\∀b,b<w->∀to':Int,to'<m.length->(T.getD (w+b) 0<=to'↔∃i,i<m.length/\i/64=b/\eK m (i+1)<=to')) ?_ ?_
 ·refine fJ (λk(q:Int×Int×Unit) H'=>∃(i:Nat)(T:List Int),i<=n/\k=n-i/\q.1=eK m i/\q.2.1=(i:Int)/\qY H H' g gb gt w m T (λk=>Array.size H<=k/\k<g)/\∀b,b<w->∀to':Int,to'<m.length->(T.getD (w+b) 0<=to'↔∃j,j<i/\j/64=b/\eK m (j+1)<=to')) n
   ⟨0,T10,Nat.zero_le _,rfl,(nv m).symm,rfl,C2,λb hb to' Ol=>by
     rw[ane b hb]
     exact⟨λh=>by omega,λ⟨j,h,_⟩=>by omega⟩⟩ ?_
  rintro k ⟨x,y,_⟩ gK ⟨i,T,hi,rfl,hx,hy,tS,hT⟩
  simp only at hx hy
  subst hx hy
  dsimp only
  refine ft (λlC=>?_) (λiG=>?_)
  ·have nN:i<m.length:=by omega
   obtain⟨h2,a,ha,hc⟩:=IP (ra.oP tS.fr) (i:=i) (by omega)
   have hb:=mu m i
   have qg:=mu m (i+1)
   have hs:=lS nN
   have hiw:i/64<w:=by omega
   refine dW (λ(q:Int×Unit) H'=>q.1=eK m (i+1)/\∃T,qY H H' g gb gt w m T (λk=>Array.size H<=k/\k<g)/\∀b,b<w->∀to':Int,to'<m.length->(T.getD (w+b) 0<=to'↔∃j,j<i+1/\j/64=b/\eK m (j+1)<=to')) ?_ ?_
   ·refine⟨a,ha,by omega,by omega,_,by rw[Int.toNat_natCast];exact hc,?_⟩
    refine dW (λ(q:Int×Unit) H'=>gK=H'/\q.1=eK m (i+1)) ?_ ?_
    ·refine db λn7 qV=>?_
     rw[wrap_i64 (by omega) (by omega)] at qV
     refine ik (λJj=>db λn8 Ov=>⟨rfl,?_⟩) (λqK=>⟨rfl,?_⟩)
     ·rw[if_pos Jj] at hs
      rw[wrap_i64 (by omega) (by omega)] at Ov
      show n8=_
      omega
     ·rw[if_neg (by rw[qK];decide)] at hs
      show n7=_
      omega
    ·rintro⟨q,_⟩ _ ⟨rfl,hq⟩
     simp only at hq
     subst hq
     dsimp only
     refine⟨_,rfl,_,tS.wide,by decide,db λJF oV=>?_⟩
     rw[show Int.tdiv (i:Int) 64=((i/64:Nat):Int) from rfl,wrap_i64 (n:=((i/64:Nat):Int)) (by omega) (by omega),wrap_i64 (by omega) (by omega),show(w:Int)+((i/64:Nat):Int)=((w+i/64:Nat):Int) by omega] at oV
     subst oV
     rw[Int.toNat_natCast]
     obtain⟨a1,a2,a3⟩:=tS.store (i:=w+i/64) (by omega) (min (T.getD (w+i/64) 0) (eK m (i+1)))
     refine⟨_,rfl,by omega,by omega,_,tS.read (by omega),_,rfl,by omega,by omega,a1,a2,db λpd ZX=>⟨rfl,_,a3 pd ZX,λb hb to' Ol=>?_⟩⟩
     rcases Classical.em (b=i/64) with e|e
     ·subst e
      rw[ID (by rw[tS.len];omega)]
      have h1:=hT (i/64) hb to' Ol
      constructor
      ·intro hm
       rcases Classical.em (T.getD (w+i/64) 0<=to') with h|h
       ·obtain⟨j,a,b,c⟩:=h1.1 h
        exact⟨j,by omega,b,c⟩
       ·exact⟨i,by omega,rfl,by omega⟩
      ·rintro⟨j,a,b,c⟩
       rcases Nat.lt_or_ge j i with h|h
       ·have:=h1.2 ⟨j,h,b,c⟩
        omega
       ·obtain rfl:j=i:=by omega
        omega
     ·rw[vz (by omega),hT b hb to' Ol]
      constructor
      ·rintro⟨j,a,b,c⟩
       exact⟨j,by omega,b,c⟩
      ·rintro⟨j,a,b,c⟩
       rcases Nat.lt_or_ge j i with h|h
       ·exact⟨j,h,b,c⟩
       ·obtain rfl:j=i:=by omega
        omega
   ·rintro⟨q,_⟩ jY ⟨hq,T',AN,hT'⟩
    simp only at hq
    subst hq
    exact⟨n-(i+1),by omega,i+1,T',by omega,rfl,rfl,by show IntKind.i64.wrap ((i:Int)+1)=_;rw[wrap_i64 (by omega) (by omega)];rfl,AN,hT'⟩
  ·obtain rfl:i=m.length:=by omega
   exact⟨T,tS,hT⟩
 clear C2 ane
 rintro _ gS ⟨T13,pU,anb⟩
 refine dW (λ_ H'=>∃T,qY H H' g gb gt w m T (λk=>Array.size H<=k/\k<g)/\(∀b,b<w->∀to':Int,to'<m.length->(T.getD (w+b) 0<=to'↔∃i,i<m.length/\i/64=b/\eK m (i+1)<=to'))/\∀v,1<=v->v<w->T.getD v 0=min (T.getD (2*v) 0) (T.getD (2*v+1) 0)) ?_ ?_
 ·refine⟨_,rfl,_,pU.wide,db λLS aqz=>?_⟩
  rw[wrap_i64 (by omega) (by omega)] at aqz
  refine fJ (λk'(q:Int×Unit) H'=>∃(k:Nat)(T:List Int),k<w/\k'=k/\q.1=(k:Int)/\qY H H' g gb gt w m T (λk=>Array.size H<=k/\k<g)/\(∀b,b<w->∀to':Int,to'<m.length->(T.getD (w+b) 0<=to'↔∃i,i<m.length/\i/64=b/\eK m (i+1)<=to'))/\∀v,k<v->v<w->T.getD v 0=min (T.getD (2*v) 0) (T.getD (2*v+1) 0)) (w-1)
   ⟨w-1,T13,by omega,rfl,by show LS=_;omega,pU,anb,λv h1 h2=>by omega⟩ ?_
  rintro k' ⟨x,_⟩ pk ⟨k,T,hk,rfl,hx,Od,hT,FP⟩
  simp only at hx
  subst hx
  dsimp only
  refine ft (λlC=>?_) (λiG=>⟨T,Od,hT,λv h1 h2=>FP v (by omega) h2⟩)
  rw[wrap_i64 (n:=2*(k':Int)) (by omega) (by omega),wrap_i64 (n:=2*(k':Int)+1) (by omega) (by omega),show 2*(k':Int)+1=((2*k'+1:Nat):Int) by omega,show 2*(k':Int)=((2*k':Nat):Int) by omega,Int.toNat_natCast,Int.toNat_natCast,Int.toNat_natCast]
  obtain⟨a1,a2,a3⟩:=Od.store (i:=k') (by omega) (min (T.getD (2*k') 0) (T.getD (2*k'+1) 0))
  refine⟨_,rfl,by omega,by omega,_,Od.read (by omega),_,rfl,by omega,by omega,_,Od.read (by omega),_,rfl,by omega,by omega,a1,a2,db λxZ Nl=>db λDQ aqy=>?_⟩
  rw[wrap_i64 (by omega) (by omega)] at aqy
  refine⟨k'-1,by omega,k'-1,_,by omega,rfl,by show DQ=_;omega,a3 xZ Nl,λb hb to' Ol=>?_,λv h1 h2=>?_⟩
  ·rw[vz (by omega)]
   exact hT b hb to' Ol
  ·rw[vz (j:=2*v) (by omega),vz (j:=2*v+1) (by omega)]
   rcases Classical.em (v=k') with e|e
   ·subst e
    rw[ID (by rw[Od.len];omega)]
   ·rw[vz (by omega)]
    exact FP v (by omega) h2
 clear pU anb
 rintro _ uo ⟨T,LF,EU,FP⟩
 refine⟨_,rfl,⟨_,(dh LF.fv 0 1).trans rfl⟩,mQ LF.fv 0 1,db λrG SF=>?_⟩
 have g21:=iJ SF LF.fv
 have f21:=kn SF
 clear SF
 have ar5:=LF.sl.iK (k:=gt) ⟨_,rfl,rfl⟩
 have QN:=LF.gt
 have pg:=f21.size
 subst hw
 refine lu g (λk=>Array.size H<=k/\k<Array.size rG) rG ⟨t,0,by omega,T,gb,_,_,_,⟨g21,LF.sl.fy f21 λk hk e=>LF.sl.ne LF.fv (by decide) (e▸hk),LF.bits.fy f21 λk hk e=>by have:=hk.2;omega,⟨LF.len,by omega,λs v hs h1 h2 to' Ol=>En EU FP (t-s) s (by omega) v h1 h2 to' Ol⟩,hb,⟨ht,by rw[hl];exact ZO⟩,λh=>by omega⟩,⟨LF.low,by omega⟩,?_,λk hk=>⟨hk.1,by omega⟩,λk hk=>hk.2⟩ (λk hk=>hk) LF.low (LF.fr.trans f21 λk hk=>.inr (by have:=LF.low;omega))
 rintro k ⟨a,ha,rfl⟩
 cases ha
 have:=LF.low
 exact⟨by show Array.size H<=gt;omega,by show gt<_;omega⟩
end Go.Proofs.iQ
