/- Part AC of the proof that the law TopAround answers true at every input, under no condition. -/
import Derived.Test.YtmdbfgemefalmaaGreatDoorQAB
set_option linter.unusedVariables false
set_option maxHeartbeats 2000000
set_option maxRecDepth 100000
namespace Go.X
open Go.Ex
inductive Ps where
 |h|o (p:Ps)|i (p:Ps)
 deriving DecidableEq
inductive Tr (α:Type) where
 |lf|nd (l:Tr α) (v:Option α) (r:Tr α)
def look{α:Type}:Ps->Tr α->Option α
 |_,.lf=>none
 |.h,.nd _ v _=>v
 |.o p,.nd l _ _=>look p l
 |.i p,.nd _ _ r=>look p r
def ins{α:Type}(x:α):Ps->Tr α->Tr α
 |.h,.lf=>.nd .lf (some x) .lf
 |.h,.nd l _ r=>.nd l (some x) r
 |.o p,.lf=>.nd (ins x p .lf) none .lf
 |.o p,.nd l v r=>.nd (ins x p l) v r
 |.i p,.lf=>.nd .lf none (ins x p .lf)
 |.i p,.nd l v r=>.nd l v (ins x p r)
theorem kf{α:Type}(p:Ps):look p (.lf:Tr α)=none:=by cases p<;>rfl
theorem jG{α:Type}(x:α):∀(p q:Ps)(t:Tr α),look q (ins x p t)=if q=p then some x else look q t:=by
 intro p
 induction p with
 |h=>intro q t;cases t<;>cases q<;>simp[ins,look,kf]
 |o p u=>intro q t;cases t<;>cases q<;>simp[ins,look,kf,u]
 |i p u=>intro q t;cases t<;>cases q<;>simp[ins,look,kf,u]
noncomputable def qJ{α:Type}(p:Ps)(t:Tr α)(k:α->Bool):Bool:=
 Ps.rec (motive:=λ_=>Tr α->Bool)
  (λt=>Tr.rec (motive:=λ_=>Bool) false (λ_ v _ _ _=>Option.rec (motive:=λ_=>Bool) false (λv=>k v) v) t)
  (λ_ h t=>Tr.rec (motive:=λ_=>Bool) false (λl _ _ _ _=>h l) t)
  (λ_ h t=>Tr.rec (motive:=λ_=>Bool) false (λ_ _ r _ _=>h r) t) p t
theorem jl{α:Type}{k:α->Bool}:∀{p:Ps}{t:Tr α},qJ p t k=true->∃v,look p t=some v/\k v=true:=by
 intro p
 induction p with
 |h=>
  intro t h
  cases t with
  |lf=>cases h
  |nd l v r=>cases v with|none=>cases h|some v=>exact⟨v,rfl,h⟩
 |o p u=>intro t h;cases t with|lf=>cases h|nd l v r=>exact u (t:=l) h
 |i p u=>intro t h;cases t with|lf=>cases h|nd l v r=>exact u (t:=r) h
noncomputable def rq{α:Type}(x:α)(p:Ps)(t:Tr α)(k:Tr α->Bool):Bool:=
 Ps.rec (motive:=λ_=>Tr α->(Tr α->Bool)->Bool)
  (λt k=>Tr.rec (motive:=λ_=>Bool) (k (.nd .lf (some x) .lf)) (λl _ r _ _=>k (.nd l (some x) r)) t)
  (λ_ h t k=>Tr.rec (motive:=λ_=>Bool) (h .lf λl=>k (.nd l none .lf)) (λl v r _ _=>h l λl=>k (.nd l v r)) t)
  (λ_ h t k=>Tr.rec (motive:=λ_=>Bool) (h .lf λr=>k (.nd .lf none r)) (λl v r _ _=>h r λr=>k (.nd l v r)) t) p t k
theorem lD{α:Type}(x:α):∀(p:Ps)(t:Tr α)(k:Tr α->Bool),rq x p t k=k (ins x p t):=by
 intro p
 induction p with
 |h=>intro t k;cases t<;>rfl
 |o p u=>intro t k;cases t with
  |lf=>exact u _ _
  |nd l v r=>exact u _ _
 |i p u=>intro t k;cases t with
  |lf=>exact u _ _
  |nd l v r=>exact u _ _
def Kf:Nat->Nat->Ps
 |0,_=>.h
 |_+1,0=>.h
 |f+1,n+1=>bif Nat.beq (n%2) 0 then .o (Kf f (n/2)) else .i (Kf f (n/2))
def mX(n:Nat):Ps:=Kf n n
def yW:Ps->Nat
 |.h=>0
 |.o p=>2*yW p+1
 |.i p=>2*yW p+2
theorem wE:∀(f n:Nat),n<=f->yW (Kf f n)=n
 |0,n,h=>by simp[Kf,yW];omega
 |f+1,0,_=>rfl
 |f+1,n+1,h=>by
  unfold Kf
  have w:=wE f (n/2) (by omega)
  cases u:Nat.beq (n%2) 0 with
  |true=>have:=Nat.eq_of_beq_eq_true u;simp only[cond_true,yW,w];omega
  |false=>
   have:n%2≠0:=λe=>by rw[e] at u;cases u
   simp only[cond_false,yW,w];omega
theorem uG{a b:Nat}(h:mX a=mX b):a=b:=by
 have:=congrArg yW h
 rwa[mX,mX,wE _ _ (Nat.le_refl _),wE _ _ (Nat.le_refl _)] at this
noncomputable def VD(p:Ps)(k:Ps->Bool):Bool:=
 Ps.rec (motive:=λ_=>(Ps->Bool)->Bool) (λk=>k (.o .h)) (λp _ k=>k (.i p)) (λ_ u k=>u λp=>k (.o p)) p k
theorem Ni{p:Ps}:∀{k:Ps->Bool},VD p k=true->∃q,k q=true:=by
 induction p with
 |h=>intro k h;exact⟨_,h⟩
 |o p u=>intro k h;exact⟨_,h⟩
 |i p u=>intro k h;obtain⟨q,w⟩:=u h;exact⟨_,w⟩
noncomputable def fN(n:Nat)(k:Nat->Bool):Bool:=Nat.rec (motive:=λ_=>Bool) (k 0) (λm _=>k (Nat.succ m)) n
theorem jm(n:Nat)(k:Nat->Bool):fN n k=k n:=by cases n<;>rfl
noncomputable def fI(n:Int)(k:Int->Bool):Bool:=Int.rec (motive:=λ_=>Bool) (λm=>fN m λm=>k (.ofNat m)) (λm=>fN m λm=>k (.negSucc m)) n
theorem A6(n:Int)(k:Int->Bool):fI n k=k n:=by cases n<;>exact jm _ (λm=>k _)
noncomputable def fB(b:Bool)(k:Bool->Bool):Bool:=Bool.rec (motive:=λ_=>Bool) (k false) (k true) b
theorem pI(b:Bool)(k:Bool->Bool):fB b k=k b:=by cases b<;>rfl
def bl:Nat->Nat->List UInt8
 |0,_=>[]
 |n+1,N=>UInt8.ofNat (N%256)::bl n (N/256)
def strOf(n N:Nat):dE:=⟨(bl n N).toArray⟩
def numOf:List UInt8->Nat
 |[]=>0
 |b::r=>b.toNat+256*numOf r
theorem DY:∀n N,(bl n N).length=n
 |0,_=>rfl
 |n+1,N=>by simp[bl,DY n]
theorem jx(n N:Nat):(strOf n N).size=n:=by show(bl n N).toArray.size=n;simp[DY]
theorem Hw:∀l,bl l.length (numOf l)=l
 |[]=>rfl
 |b::r=>by
  have h:b.toNat<256:=b.toNat_lt
  simp only[List.length_cons,bl,numOf]
  rw[show(b.toNat+256*numOf r)%256=b.toNat by omega,show(b.toNat+256*numOf r)/256=numOf r by omega,Hw r]
  simp
theorem JX(s:dE):strOf s.size (numOf s.data.toList)=s:=by
 have h:=Hw s.data.toList
 have:s.data.toList.length=s.size:=by rw[Array.length_toList];rfl
 rw[this] at h
 show ByteArray.mk (bl s.size (numOf s.data.toList)).toArray=s
 rw[h]
theorem NX:∀(n m N M:Nat),bl (n+m) (N%256^n+256^n*M)=bl n N++bl m M
 |0,m,N,M=>by simp[bl,Nat.mod_one]
 |n+1,m,N,M=>by
  have h:(N%256^(n+1)+256^(n+1)*M)%256=N%256:=by
   rw[Nat.pow_succ,Nat.mul_comm (256^n) 256,Nat.mul_assoc,Nat.add_mul_mod_self_left,Nat.mod_mul_right_mod]
  have u:(N%256^(n+1)+256^(n+1)*M)/256=(N/256)%256^n+256^n*M:=by
   rw[Nat.pow_succ,Nat.mul_comm (256^n) 256,Nat.mul_assoc,Nat.add_mul_div_left _ _ (by omega),Nat.mod_mul_right_div_self]
  rw[show n+1+m=(n+m)+1 by omega]
  simp only[bl,h,u,NX n m,List.cons_append]
theorem Hz:∀(n N i:Nat),i<n->(bl n N)[i]?=some (UInt8.ofNat ((N/256^i)%256))
 |0,_,_,h=>by omega
 |n+1,N,0,_=>by simp[bl]
 |n+1,N,i+1,h=>by
  simp only[bl,List.getElem?_cons_succ,Hz n _ i (by omega)]
  rw[Nat.div_div_eq_div_mul,Nat.pow_succ,Nat.mul_comm (256^i) 256]
theorem Js:∀(l n N:Nat),l<=n->(bl n N).drop l=bl (n-l) (N/256^l)
 |0,n,N,_=>by simp
 |l+1,0,N,h=>by omega
 |l+1,n+1,N,h=>by
  simp only[bl,List.drop_succ_cons,Js l n _ (by omega)]
  rw[Nat.div_div_eq_div_mul,Nat.pow_succ,Nat.mul_comm (256^l) 256,Nat.add_sub_add_right]
theorem Jr:∀(m n N:Nat),m<=n->(bl n N).take m=bl m N
 |0,n,N,_=>by simp[bl]
 |m+1,0,N,h=>by omega
 |m+1,n+1,N,h=>by simp only[bl,List.take_succ_cons,Jr m n _ (by omega)]
theorem DZ:∀(n N M:Nat),bl n N=bl n M↔N%256^n=M%256^n
 |0,N,M=>by simp[bl,Nat.mod_one]
 |n+1,N,M=>by
  have u:∀N,N%256^(n+1)=N%256+256*((N/256)%256^n):=λN=>by
   rw[Nat.pow_succ,Nat.mul_comm (256^n) 256,Nat.mod_mul]
  have w:∀a b:Nat,UInt8.ofNat (a%256)=UInt8.ofNat (b%256)↔a%256=b%256:=λa b=>by
   constructor
   .intro h
    have:=congrArg UInt8.toNat h
    simpa using this
   .intro h;rw[h]
  simp only[bl,List.cons.injEq,DZ n,u,w]
  omega
theorem C7(n N m M:Nat):strOf n N=strOf m M↔n=m/\N%256^n=M%256^n:=by
 constructor
 .intro h
  have u:n=m:=by have:=congrArg ByteArray.size h;rwa[jx,jx] at this
  subst u
  have:bl n N=bl n M:=by have w:(bl n N).toArray=(bl n M).toArray:=congrArg ByteArray.data h;simpa using w
  exact⟨rfl,(DZ n N M).1 this⟩
 .rintro⟨rfl,h⟩
  unfold strOf
  rw[(DZ n N M).2 h]
theorem JZ(n N m M:Nat):strOf n N++strOf m M=strOf (n+m) (N%256^n+256^n*M):=by
 have h:(strOf n N++strOf m M).data.toList=(strOf (n+m) (N%256^n+256^n*M)).data.toList:=by
  rw[ByteArray.data_append]
  simp only[strOf,Array.toList_append,NX]
 rcases u:strOf n N++strOf m M with⟨I⟩
 rcases w:strOf (n+m) (N%256^n+256^n*M) with⟨O⟩
 rw[u,w] at h
 congr 1
 exact Array.toList_inj.1 h
theorem JY(n N l h:Nat)(u:l<=h)(w:h<=n):(strOf n N).extract l h=strOf (h-l) (N/256^l):=by
 have e:((strOf n N).extract l h).data.toList=(strOf (h-l) (N/256^l)).data.toList:=by
  rw[ByteArray.data_extract]
  simp only[strOf,Array.toList_extract,List.extract_eq_take_drop]
  rw[Js l n N (by omega),Jr _ _ _ (by omega)]
 rcases u:(strOf n N).extract l h with⟨I⟩
 rcases w:strOf (h-l) (N/256^l) with⟨O⟩
 rw[u,w] at e
 congr 1
 exact Array.toList_inj.1 e
inductive V where
 |int (k:IntKind) (n:Int)
 |sym (a c:Nat)
 |bool (b:Bool)
 |str (n N:Nat)
 |sC
 |ptr (b:Ps) (o:Nat)
 |mH
 |slice (b:Ps) (o l c:Nat)
 |jC (b:Ps) (es l d:Nat)
 |agg (l:List V)
 |pZ (l:List V)
 |iface (t:Nat) (v:V)
 |sD
 |fn (f:Nat) (first cap:List V)
 |yi
 |map (m:Ps)
 |xf
 |any
 |QC
 |GC (a c:Nat)
 |Lm (p:Ps)
abbrev jF:=Ps->Option (Nat×Nat×Nat)
inductive Dn (ρ:jF) (M:Nat):V->dB->Prop where
 |int (k n):Dn ρ M (.int k n) (.int k n)
 |sym (a c):Dn ρ M (.sym a c) (.int .i64 (a*M+c:Nat))
 |bool (b):Dn ρ M (.bool b) (.bool b)
 |str (n N):Dn ρ M (.str n N) (.string (strOf n N))
 |sC:Dn ρ M .sC (.pointer none)
 |ptr {b o fi base kap} (h:ρ b=some (fi,base,kap)):Dn ρ M (.ptr b o) (.pointer (some ⟨fi,base+o,none⟩))
 |mH:Dn ρ M .mH (.slice none 0 0)
 |slice {b o l c fi base kap} (h:ρ b=some (fi,base,kap)):Dn ρ M (.slice b o l c) (.slice (some ⟨fi,base+o,none⟩) l c)
 |jC {b es l d fi base kap} (h:ρ b=some (fi,base,kap)) (hk:d+l<=kap):Dn ρ M (.jC b es l d) (.slice (some ⟨fi,base+d*es,none⟩) l (kap-d))
 |agg {l:List V} {a:List dB} (hl:l.length=a.length) (h:∀(i:Nat) v x,l[i]?=some v->a[i]?=some x->Dn ρ M v x):Dn ρ M (.agg l) (.agg a.toArray)
 |pZ {l:List V} {a:List dB} (hl:l.length=a.length) (h:∀(i:Nat) v x,l[i]?=some v->a[i]?=some x->Dn ρ M v x):Dn ρ M (.pZ l) (.tuple a.toArray)
 |iface {t v x} (h:Dn ρ M v x):Dn ρ M (.iface t v) (.iface t x)
 |sD:Dn ρ M .sD .nilIface
 |fn {f} {l1 l2:List V} {a1 a2:List dB} (h1:l1.length=a1.length) (h2:l2.length=a2.length) (h:∀(i:Nat) v x,l1[i]?=some v->a1[i]?=some x->Dn ρ M v x)
  (h':∀(i:Nat) v x,l2[i]?=some v->a2[i]?=some x->Dn ρ M v x):Dn ρ M (.fn f l1 l2) (.func (.func f) a1.toArray a2.toArray)
 |yi:Dn ρ M .yi .nilFunc
 |map {m fi base kap} (h:ρ m=some (fi,base,kap)):Dn ρ M (.map m) (.map (some fi))
 |xf:Dn ρ M .xf (.map none)
 |any (x):Dn ρ M .any x
 |QC (n):Dn ρ M .QC (.int .i64 n)
 |Lm {p l base kap} (h:ρ p=some (l,base,kap)):Dn ρ M (.Lm p) (.func (.yield l) #[] #[])
 |GC (a c):Dn ρ M (.GC a c) (.int .i64 ((a*M:Nat)-(c:Nat):Int))
def Le(ρ ρ':jF):Prop:=∀b x,ρ b=some x->ρ' b=some x
theorem Le.refl(ρ:jF):Le ρ ρ:=λ_ _ h=>h
theorem Le.trans{a b c:jF}(h:Le a b)(k:Le b c):Le a c:=λ_ _ x=>k _ _ (h _ _ x)
theorem Dn.mono{ρ ρ':jF}{M:Nat}(w:Le ρ ρ'){v:V}{x:dB}(h:Dn ρ M v x):Dn ρ' M v x:=by
 induction h with
 |int=>exact .int _ _
 |sym=>exact .sym _ _
 |bool=>exact .bool _
 |str=>exact .str _ _
 |sC=>exact .sC
 |ptr h=>exact .ptr (w _ _ h)
 |mH=>exact .mH
 |slice h=>exact .slice (w _ _ h)
 |jC h O=>exact .jC (w _ _ h) O
 |agg I _ u=>exact .agg I u
 |pZ I _ u=>exact .pZ I u
 |iface _ u=>exact .iface u
 |sD=>exact .sD
 |fn I W _ _ u N=>exact .fn I W u N
 |yi=>exact .yi
 |map h=>exact .map (w _ _ h)
 |xf=>exact .xf
 |any=>exact .any _
 |QC=>exact .QC _
 |GC=>exact .GC _ _
 |Lm h=>exact .Lm (w _ _ h)
def jZ(ρ:jF)(M:Nat)(l:List V)(a:List dB):Prop:=l.length=a.length/\∀(i:Nat) v x,l[i]?=some v->a[i]?=some x->Dn ρ M v x
theorem jZ.nil{ρ:jF}{M:Nat}:jZ ρ M [] []:=⟨rfl,λ_ _ _ h=>by simp at h⟩
theorem jZ.cons{ρ:jF}{M:Nat}{v:V}{x:dB}{l:List V}{a:List dB}(h:Dn ρ M v x)(k:jZ ρ M l a):jZ ρ M (v::l) (x::a):=by
 refine⟨by simp[k.1],λi u y w I=>?_⟩
 cases i with
 |zero=>simp at w I;subst w I;exact h
 |succ i=>simp at w I;exact k.2 i u y w I
theorem jZ.il{ρ:jF}{M:Nat}{v:V}{l:List V}{a:List dB}(h:jZ ρ M (v::l) a):∃x w,a=x::w/\Dn ρ M v x/\jZ ρ M l w:=by
 cases a with
 |nil=>have:=h.1;simp at this
 |cons x a=>exact⟨x,a,rfl,h.2 0 v x rfl rfl,by have:=h.1;simpa using this,λi u y I N=>h.2 (i+1) u y (by simpa using I) (by simpa using N)⟩
theorem jZ.mg{ρ:jF}{M:Nat}{a:List dB}(h:jZ ρ M [] a):a=[]:=by
 have:=h.1;cases a with|nil=>rfl|cons=>simp at this
theorem jZ.append{ρ:jF}{M:Nat}{l u:List V}{a w:List dB}(h:jZ ρ M l a)(k:jZ ρ M u w):jZ ρ M (l++u) (a++w):=by
 induction l generalizing a with
 |nil=>rw[h.mg];exact k
 |cons v l I=>obtain⟨x,b,rfl,N,O⟩:=h.il;exact .cons N (I O)
theorem jZ.get{ρ:jF}{M:Nat}{l:List V}{a:List dB}(h:jZ ρ M l a){i:Nat}{v:V}(u:l[i]?=some v):∃x,a[i]?=some x/\Dn ρ M v x:=by
 have:i<a.length:=by rw[<-h.1];exact(List.getElem?_eq_some_iff.1 u).1
 exact⟨a[i],by simp[this],h.2 i v _ u (by simp[this])⟩
theorem jZ.set{ρ:jF}{M:Nat}{l:List V}{a:List dB}(h:jZ ρ M l a)(i:Nat){v:V}{x:dB}(W:Dn ρ M v x):jZ ρ M (l.set i v) (a.set i x):=by
 refine⟨by simp[h.1],λj u y w I=>?_⟩
 rw[List.getElem?_set] at w I
 by_cases N:i=j
 .subst N
  by_cases hi:i<l.length
  .have O:i<a.length:=by rw[<-h.1];exact hi
   simp[hi] at w
   simp[O] at I
   subst w I
   exact W
  .simp[hi] at w
 .simp[N] at w I
  exact h.2 j u y w I
theorem jZ.take{ρ:jF}{M:Nat}{l:List V}{a:List dB}(h:jZ ρ M l a)(n:Nat):jZ ρ M (l.take n) (a.take n):=by
 refine⟨by simp[h.1],λj u y w I=>?_⟩
 rw[List.getElem?_take] at w I
 split at w
 .rename_i N;rw[if_pos N] at I;exact h.2 j u y w I
 .cases w
theorem jZ.drop{ρ:jF}{M:Nat}{l:List V}{a:List dB}(h:jZ ρ M l a)(n:Nat):jZ ρ M (l.drop n) (a.drop n):=by
 refine⟨by simp[h.1],λj u y w I=>?_⟩
 rw[List.getElem?_drop] at w I
 exact h.2 _ u y w I
inductive Ob where
 |cells (c:List V) (el es:Nat) (op ro:Bool)
 |iter (n N pos:Nat)
 |map (l:List (V×V))
 |dead
structure Hp where
 t:Tr Ob
 nx:Ps
 lo:Nat
 hi:Nat
def live:Ob->Prop
 |.dead=>False
 |_=>True
def tm(c:List V)(kap es:Nat)(u:Bool):Nat:=bif u then kap*es else c.length
def K6(ρ:jF)(M u kap:Nat):Ob->Obj->Prop
 |.cells c el es op ro,x=>∃I w,x=.cells I el w/\(∀(j:Nat) v,c[j]?=some v->∃y,I[u+j]?=some y/\Dn ρ M v y)/\
  c.length<=tm c kap es op/\u+tm c kap es op=I.size/\(ro=false->w.1=w.2\/I.size<=w.1)/\(op=false->u=0/\(ro=true->es=0->w=(0,0)))
 |.iter n N pos,x=>x=.stringIter (strOf n N) pos/\u=0
 |.map l,x=>∃es clock,x=.map es clock/\l.length=es.toList.length/\∀(i:Nat) p e,l[i]?=some p->es.toList[i]?=some e->Dn ρ M p.1 e.key/\Dn ρ M p.2 e.val
 |.dead,_=>True
theorem K6.mono{ρ ρ':jF}{M u kap:Nat}(w:Le ρ ρ'){o:Ob}{x:Obj}(h:K6 ρ M u kap o x):K6 ρ' M u kap o x:=by
 cases o with
 |cells c el es op ro=>
  obtain⟨Y,Z,I,O,W⟩:=h
  exact⟨Y,Z,I,λj v hv=>let⟨y,hy,hd⟩:=O j v hv;⟨y,hy,hd.mono w⟩,W⟩
 |iter n N af=>exact h
 |map l=>
  obtain⟨es,clock,I,O,W⟩:=h
  exact⟨es,clock,I,O,λi p e hp he=>let⟨a,b⟩:=W i p e hp he;⟨a.mono w,b.mono w⟩⟩
 |dead=>trivial
abbrev Un:=Nat->Option Obj
def Qe:Nat:=6
def T8(U:Un):Prop:=∃t u m,U Qe=some (.cells #[.int .i64 m] t u)
structure R(ρ:jF)(M:Nat)(U:Un)(h:Hp)(H:dw):Prop where
 gl:∀g,ρ (.o (mX g))=some (g,0,0)
 NL:∀p,ρ (.i p)≠none->look (.i p) h.t≠none
 ob:∀b o,look b h.t=some o->live o->∃fi base kap x,ρ b=some (fi,base,kap)/\H[fi]?=some x/\U fi=none/\K6 ρ M base kap o x
 inj:∀b b' o o' x x',look b h.t=some o->look b' h.t=some o'->live o->live o'->ρ b=some x->ρ b'=some x'->x.1=x'.1->b=b'
 un:∀i o,U i=some o->H[i]?=some o
 bd:h.lo<=M/\M<=h.hi
 ml:T8 U
section
variable {ρ:jF} {M:Nat} {U:Un} {h:Hp} {H:dw}
theorem R.oC(r:R ρ M U h H){b:Ps}{o o':Ob}(Z:look b h.t=some o)(ho:live o){w ab kap:Nat}(hρ:ρ b=some (w,ab,kap))
 {H':dw}{x':Obj}(hH:∀i,i≠w->H'[i]?=H[i]?)(hx:H'[w]?=some x')(hr:K6 ρ M ab kap o' x'):
 R ρ M U {h with t:=ins o' b h.t} H':=by
 refine⟨r.gl,λp hp=>?_,λI o2 u hl=>?_,λb1 I o1 o2 x1 x2 O u l1 l2 e1 e2 e=>?_,λi oi hi=>?_,r.bd,r.ml⟩
 .show look (.i p) (ins o' b h.t)≠none
  rw[jG]
  split
  .simp
  .exact r.NL p hp
 .have u:look I (ins o' b h.t)=some o2:=u
  rw[jG] at u
  by_cases ad:I=b
  .subst ad
   rw[if_pos rfl] at u
   cases u
   obtain⟨W,Y,ae,x2,N,q2,q3,_⟩:=r.ob I o Z ho
   rw[hρ] at N
   cases N
   exact⟨_,_,_,_,hρ,hx,q3,hr⟩
  .rw[if_neg ad] at u
   obtain⟨W,Y,ae,x2,N,q2,q3,q4⟩:=r.ob I o2 u hl
   have ag:W≠w:=λe=>ad (r.inj I b o2 o _ _ u Z hl ho N hρ e)
   exact⟨_,_,_,_,N,by rw[hH _ ag];exact q2,q3,q4⟩
 .have O:look b1 (ins o' b h.t)=some o1:=O
  have u:look I (ins o' b h.t)=some o2:=u
  rw[jG] at O u
  by_cases c1:b1=b<;>by_cases c2:I=b
  .rw[c1,c2]
  .subst c1;rw[if_neg c2] at u
   exact r.inj _ _ _ _ _ _ Z u ho l2 e1 e2 e
  .subst c2;rw[if_neg c1] at O
   exact r.inj _ _ _ _ _ _ O Z l1 ho e1 e2 e
  .rw[if_neg c1] at O;rw[if_neg c2] at u
   exact r.inj _ _ _ _ _ _ O u l1 l2 e1 e2 e
 .obtain⟨W,Y,ae,x2,N,q2,q3,_⟩:=r.ob b o Z ho
  rw[hρ] at N
  cases N
  have ag:i≠w:=λe=>by subst e;rw[q3] at hi;cases hi
  rw[hH _ ag]
  exact r.un i oi hi
def ext(ρ:jF)(b:Ps)(x:Nat×Nat×Nat):jF:=λc=>if c=b then some x else ρ c
theorem R.fresh(r:R ρ M U h H){p:Ps}(u:look (.i p) h.t=none):ρ (.i p)=none:=by
 cases e:ρ (.i p) with
 |none=>rfl
 |some x=>exact absurd u (r.NL p (by rw[e];simp))
theorem R.mV(r:R ρ M U h H){p:Ps}(w:look (.i p) h.t=none)(x:Nat×Nat×Nat):Le ρ (ext ρ (.i p) x):=by
 intro b y u
 unfold ext
 rw[if_neg]
 .exact u
 .intro e;subst e;rw[r.fresh w] at u;cases u
theorem lO(ρ:jF)(b:Ps)(x:Nat×Nat×Nat):ext ρ b x b=some x:=by simp[ext]
theorem R.new(r:R ρ M U h H){p:Ps}(hp:look (.i p) h.t=none){o:Ob}(w I kap:Nat){x:Obj}{H':dw}(hU:U w=none)(q:Ps)
 (ad:∀b o' y,look b h.t=some o'->live o'->ρ b=some y->y.1≠w)
 (hH:∀i,i≠w->i<H.size->H'[i]?=H[i]?)(hx:H'[w]?=some x)(hr:K6 ρ M I kap o x):
 R (ext ρ (.i p) (w,I,kap)) M U {h with t:=ins o (.i p) h.t,nx:=q} H':=by
 have W:=r.mV hp (w,I,kap)
 refine⟨λg=>W _ _ (r.gl g),λp' ai=>?_,λb2 o2 u hl=>?_,λb1 b2 o1 o2 x1 x2 N u l1 l2 e1 e2 e=>?_,λi oi hi=>?_,r.bd,r.ml⟩
 .show look (.i p') (ins o (.i p) h.t)≠none
  rw[jG]
  split
  .simp
  .rename_i O
   apply r.NL p'
   unfold ext at ai
   rwa[if_neg O] at ai
 .have u:look b2 (ins o (.i p) h.t)=some o2:=u
  rw[jG] at u
  by_cases aj:b2=.i p
  .subst aj
   rw[if_pos rfl] at u
   cases u
   exact⟨_,_,_,_,lO _ _ _,hx,hU,hr.mono W⟩
  .rw[if_neg aj] at u
   obtain⟨aE,ay,aF,x2,q1,q2,q3,q4⟩:=r.ob b2 o2 u hl
   exact⟨_,_,_,_,W _ _ q1,by rw[hH _ (ad _ _ _ u hl q1) (Array.getElem?_eq_some_iff.1 q2).1];exact q2,q3,q4.mono W⟩
 .have N:look b1 (ins o (.i p) h.t)=some o1:=N
  have u:look b2 (ins o (.i p) h.t)=some o2:=u
  rw[jG] at N u
  have Y:∀{b' o' x'},b'≠.i p->look b' h.t=some o'->live o'->ext ρ (.i p) (w,I,kap) b'=some x'->x'.1≠w/\ρ b'=some x':=by
   intro b' o' x' O aw ax Z
   unfold ext at Z
   rw[if_neg O] at Z
   exact⟨ad _ _ _ aw ax Z,Z⟩
  by_cases c1:b1=.i p<;>by_cases c2:b2=.i p
  .rw[c1,c2]
  .subst c1;rw[if_neg c2] at u
   rw[lO] at e1
   cases e1
   exact absurd e.symm (Y c2 u l2 e2).1
  .subst c2;rw[if_neg c1] at N
   rw[lO] at e2
   cases e2
   exact absurd e (Y c1 N l1 e1).1
  .rw[if_neg c1] at N;rw[if_neg c2] at u
   exact r.inj _ _ _ _ _ _ N u l1 l2 (Y c1 N l1 e1).2 (Y c2 u l2 e2).2 e
 .have O:i≠w:=λe=>by subst e;rw[hU] at hi;cases hi
  have:=r.un i oi hi
  rw[hH _ O (Array.getElem?_eq_some_iff.1 this).1]
  exact this
theorem R.alloc(r:R ρ M U h H){p:Ps}(I:look (.i p) h.t=none){o:Ob}(kap:Nat){x:Obj}(q:Ps)(N:K6 ρ M 0 kap o x):
 R (ext ρ (.i p) (H.size,0,kap)) M U {h with t:=ins o (.i p) h.t,nx:=q} (H.push x):=by
 refine r.new I _ _ _ ?_ q (λb o' y O W Y e=>?_) (λi hi ac=>?_) ?_ N
 .cases e:U H.size with
  |none=>rfl
  |some o=>have:=r.un _ _ e;simp at this
 .obtain⟨Z,w,aa,x2,u,q2,_⟩:=r.ob b o' O W
  rw[Y] at u
  cases u
  have:=(Array.getElem?_eq_some_iff.1 q2).1
  simp at e
  omega
 .rw[Array.getElem?_push,if_neg (by omega)]
 .simp
theorem R.kill(r:R ρ M U h H)(b:Ps):R ρ M U {h with t:=ins .dead b h.t} H:=by
 have w:∀{I o'},look I (ins .dead b h.t)=some o'->live o'->look I h.t=some o'/\I≠b:=by
  intro I o' u N
  rw[jG] at u
  by_cases c:I=b
  .rw[if_pos c] at u;cases u;exact N.elim
  .rw[if_neg c] at u;exact⟨u,c⟩
 refine⟨r.gl,λp hp=>?_,λO W Y N=>r.ob O W (w Y N).1 N,λb1 O o1 W x1 x2 u Y Z l2=>r.inj b1 O o1 W x1 x2 (w u Z).1 (w Y l2).1 Z l2,r.un,r.bd,r.ml⟩
 show look (.i p) (ins .dead b h.t)≠none
 rw[jG]
 split
 .simp
 .exact r.NL p hp
theorem R.read(r:R ρ M U h H){b:Ps}{c:List V}{O es:Nat}{W Y:Bool}(Z:look b h.t=some (.cells c O es W Y)){w u kap:Nat}(hρ:ρ b=some (w,u,kap))
 {j:Nat}{v:V}(hv:c[j]?=some v):∃x,dL H ⟨w,u+j,none⟩=some x/\Dn ρ M v x:=by
 obtain⟨ab,N,ac,x2,I,q2,_,ah,ai,rfl,q4,_⟩:=r.ob b _ Z trivial
 rw[hρ] at I
 cases I
 obtain⟨y,hy,hd⟩:=q4 j v hv
 exact⟨y,by unfold dL;simp only;rw[q2];simpa using hy,hd⟩
theorem sH(H:dw)(a:dA)(v:dB)(i:Nat)(hi:i≠a.block):(gO H a v)[i]?=H[i]?:=by
 unfold gO
 rw[Array.getElem?_modify,if_neg (λe=>hi e.symm)]
theorem oM(H:dw){a:dA}(v:dB){w:Array dB}{u:eK}{I:Nat×Nat}(h:H[a.block]?=some (.cells w u I))(N:a.spot=none):
 (gO H a v)[a.block]?=some (.cells (w.setIfInBounds a.off v) u I):=by
 unfold gO
 rw[Array.getElem?_modify,if_pos rfl,h]
 simp[N]
theorem Iy(c:List V)(j:Nat)(v:V)(kap es:Nat)(u:Bool):tm (c.set j v) kap es u=tm c kap es u:=by cases u<;>simp[tm]
theorem R.write(r:R ρ M U h H){b:Ps}{c:List V}{el es:Nat}{op:Bool}(hb:look b h.t=some (.cells c el es op false)){I w kap:Nat}(hρ:ρ b=some (I,w,kap))
 {j:Nat}(hj:j<c.length){v:V}{x:dB}(hv:Dn ρ M v x):
 (∃u,dL H ⟨I,w+j,none⟩=some u)/\fH H ⟨I,w+j,none⟩=false/\R ρ M U {h with t:=ins (.cells (c.set j v) el es op false) b h.t} (gO H ⟨I,w+j,none⟩ x):=by
 obtain⟨aj,ah,ak,x2,q1,Y,_,O,ap,rfl,q4,q5,q6,q7,q8⟩:=r.ob b _ hb trivial
 rw[hρ] at q1
 cases q1
 obtain⟨y,Z,_⟩:=q4 j c[j] (by simp[hj])
 refine⟨⟨y,by unfold dL;simp only;rw[Y];simpa using Z⟩,?_,?_⟩
 .unfold fH
  simp only
  rw[Y]
  have:=q7 rfl
  have W:w+j<O.size:=(Array.getElem?_eq_some_iff.1 Z).1
  simp only[Bool.and_eq_false_iff,decide_eq_false_iff_not]
  omega
 .refine r.oC hb trivial hρ (λi hi=>sH _ _ _ _ hi) (oM H (a:=⟨I,w+j,none⟩) x Y rfl) ?_
  refine⟨_,_,rfl,λi u N=>?_,?_,?_,?_⟩
  .rw[List.getElem?_set] at N
   simp only
   rw[Array.getElem?_setIfInBounds]
   by_cases hi:j=i
   .subst hi
    simp[hj] at N
    subst N
    have W:w+j<O.size:=(Array.getElem?_eq_some_iff.1 Z).1
    exact⟨x,by simp[W],hv⟩
   .rw[if_neg hi] at N
    rw[if_neg (by omega)]
    exact q4 i u N
  .rw[Iy];simpa using q5
  .rw[Iy];simpa using q6
  .exact⟨λh=>by simpa using q7 h,q8⟩
end
noncomputable def Dt{α:Type}(l:List α)(i:Nat)(k:α->Bool):Bool:=
 List.rec (motive:=λ_=>Nat->Bool) (λ_=>false) (λv _ h i=>Nat.rec (motive:=λ_=>Bool) (k v) (λj _=>h j) i) l i
theorem qw{α:Type}{k:α->Bool}:∀{l:List α}{i:Nat},Dt l i k=true->∃v,l[i]?=some v/\k v=true:=by
 intro l
 induction l with
 |nil=>intro i h;cases h
 |cons v l w=>intro i h;cases i with
  |zero=>exact⟨v,rfl,h⟩
  |succ i=>obtain⟨u,I,N⟩:=w (i:=i) h;exact⟨u,by simpa using I,N⟩
noncomputable def Mm{α:Type}(l:List α)(i:Nat)(v:α)(k:List α->Bool):Bool:=
 List.rec (motive:=λ_=>Nat->(List α->Bool)->Bool) (λ_ _=>false)
  (λu r h i k=>Nat.rec (motive:=λ_=>Bool) (k (v::r)) (λj _=>h j λr=>k (u::r)) i) l i k
theorem Ao{α:Type}{v:α}:∀{l:List α}{i:Nat}{k:List α->Bool},Mm l i v k=true->i<l.length/\k (l.set i v)=true:=by
 intro l
 induction l with
 |nil=>intro i k h;cases h
 |cons u l w=>intro i k h;cases i with
  |zero=>exact⟨by simp,h⟩
  |succ i=>obtain⟨I,N⟩:=w (i:=i) (k:=λr=>k (u::r)) h;exact⟨by simpa using I,by simpa using N⟩
noncomputable def Cv{α:Type}(l:List α)(i:Nat)(k:List α->Bool):Bool:=
 Nat.rec (motive:=λ_=>List α->Bool) (λl=>k l) (λ_ h l=>List.rec (motive:=λ_=>Bool) false (λ_ r _=>h r) l) i l
theorem qf{α:Type}{k:List α->Bool}:∀{i:Nat}{l:List α},Cv l i k=true->i<=l.length/\k (l.drop i)=true:=by
 intro i
 induction i with
 |zero=>intro l h;exact⟨by omega,by rw[List.drop_zero];exact h⟩
 |succ i w=>intro l h;cases l with
  |nil=>cases h
  |cons u l=>obtain⟨I,N⟩:=w (l:=l) h;exact⟨by simpa using I,by simpa using N⟩
noncomputable def B7{α:Type}(l:List α)(i:Nat)(k:List α->Bool):Bool:=
 Nat.rec (motive:=λ_=>List α->(List α->Bool)->Bool) (λ_ k=>k []) (λ_ h l k=>List.rec (motive:=λ_=>Bool) false (λv r _=>h r λr=>k (v::r)) l) i l k
theorem p6{α:Type}:∀{i:Nat}{l:List α}{k:List α->Bool},B7 l i k=true->i<=l.length/\k (l.take i)=true:=by
 intro i
 induction i with
 |zero=>intro l k h;exact⟨by omega,by rw[List.take_zero];exact h⟩
 |succ i w=>intro l k h;cases l with
  |nil=>cases h
  |cons u l=>obtain⟨I,N⟩:=w (l:=l) (k:=λr=>k (u::r)) h;exact⟨by simpa using I,by simpa using N⟩
noncomputable def zb{α:Type}(l m:List α)(k:List α->Bool):Bool:=
 List.rec (motive:=λ_=>(List α->Bool)->Bool) (λk=>k m) (λv _ h k=>h λr=>k (v::r)) l k
theorem ns{α:Type}(m:List α):∀(l:List α)(k:List α->Bool),zb l m k=k (l++m):=by
 intro l
 induction l with
 |nil=>intro k;rfl
 |cons v l h=>intro k;exact h _
noncomputable def tw{α:Type}(l:List α)(k:Nat->Bool):Bool:=List.rec (motive:=λ_=>Nat->Bool) (λn=>k n) (λ_ _ h n=>h (Nat.succ n)) l 0
theorem Ku{α:Type}(k:Nat->Bool):∀(l:List α)(n:Nat),List.rec (motive:=λ_=>Nat->Bool) (λn=>k n) (λ_ _ h n=>h (Nat.succ n)) l n=k (n+l.length):=by
 intro l
 induction l with
 |nil=>intro n;rfl
 |cons v l h=>intro n;show List.rec (motive:=λ_=>Nat->Bool) (λn=>k n) (λ_ _ h n=>h (Nat.succ n)) l (Nat.succ n)=_;rw[h];congr 1;simp;omega
theorem mY{α:Type}(l:List α)(k:Nat->Bool):tw l k=k l.length:=by unfold tw;rw[Ku];simp
def La:Int->Int->Bool
 |.ofNat a,.ofNat b=>Nat.blt a b
 |.negSucc _,.ofNat _=>true
 |.ofNat _,.negSucc _=>false
 |.negSucc a,.negSucc b=>Nat.blt b a
def ND:Int->Int->Bool
 |.ofNat a,.ofNat b=>Nat.beq a b
 |.negSucc a,.negSucc b=>Nat.beq a b
 |_,_=>false
theorem Qz(a b:Nat):Nat.blt a b=decide (a<b):=by
 cases h:Nat.blt a b
 .symm;rw[decide_eq_false_iff_not];intro u;rw[<-Nat.blt_eq,h] at u;cases u
 .symm;rw[decide_eq_true_eq];rwa[Nat.blt_eq] at h
theorem ki(a b:Nat):Nat.beq a b=decide (a=b):=by
 cases h:Nat.beq a b
 .symm;rw[decide_eq_false_iff_not];rintro rfl;rw[show Nat.beq a a=true by simp] at h;cases h
 .symm;rw[decide_eq_true_eq];exact Nat.eq_of_beq_eq_true h
theorem Dv(a b:Int):La a b=decide (a<b):=by
 cases a<;>cases b<;>simp only[La,Qz]<;>first|(congr 1;simp only[eq_iff_iff];constructor<;>intro h<;>omega)|(symm;simp;done)|(symm;simp;omega)
theorem vT(a b:Int):ND a b=decide (a=b):=by
 cases a<;>cases b<;>simp only[ND,ki]<;>first|(congr 1;simp only[eq_iff_iff];constructor<;>intro h<;>omega)|(symm;simp;done)|(symm;simp;omega)
def Ck:IntKind->IntKind->Bool
 |.i64,.i64|.u64,.u64|.u8,.u8|.i32,.i32|.u32,.u32|.i8,.i8|.i16,.i16|.u16,.u16=>true
 |_,_=>false
theorem zE{a b:IntKind}(h:Ck a b=true):a=b:=by cases a<;>cases b<;>first|rfl|cases h
def Vv:IntKind->Nat
 |.i8=>128|.i16=>32768|.i32=>2147483648|.i64=>9223372036854775808
 |.u8=>256|.u16=>65536|.u32=>4294967296|.u64=>18446744073709551616
def wr(k:IntKind):Int->Int
 |.ofNat m=>bif Nat.blt m (Vv k) then .ofNat m else k.wrap (.ofNat m)
 |.negSucc m=>k.wrap (.negSucc m)
theorem wrap_small(k:IntKind)(m:Nat)(h:m<Vv k):k.wrap (.ofNat m)=.ofNat m:=by
 cases k<;>simp only[Vv] at h<;>simp[IntKind.wrap,IntKind.bits,IntKind.signed]<;>omega
theorem B4(k:IntKind)(n:Int):wr k n=k.wrap n:=by
 cases n with
 |ofNat m=>
  unfold wr
  show(bif Nat.blt m (Vv k) then Int.ofNat m else k.wrap (.ofNat m))=_
  cases h:Nat.blt m (Vv k) with
  |false=>rfl
  |true=>rw[Nat.blt_eq] at h;exact(wrap_small k m h).symm
 |negSucc m=>rfl
def Sc(k:IntKind)(a b:Int):Int:=wr k (Int.mul a (.ofNat (Nat.pow 2 (Nat.min b.toNat k.bits))))
def Sa(k:IntKind)(a b:Int):Int:=Int.fdiv a (.ofNat (Nat.pow 2 (Nat.min b.toNat k.bits)))
theorem Pm(k:IntKind)(a b:Int):Sc k a b=mU k a b:=by
 unfold Sc mU
 rw[B4]
 congr 1
theorem Ph(k:IntKind)(a b:Int):Sa k a b=mu k a b:=by
 unfold Sa mu
 show Int.fdiv a (Int.ofNat (2^(min b.toNat k.bits)))=_
 simp
inductive BI where
 |mk (f:IntKind->IntKind->Int->Int->(V->Bool)->Bool)
noncomputable def VL(u:BinOp):BI:=
 match u with
 |.shl=>.mk λk h a b K=>bif La b 0 then false else fI (Sc k a b) λn=>K (.int k n)
 |.shr=>.mk λk h a b K=>bif La b 0 then false else fI (Sa k a b) λn=>K (.int k n)
 |.add=>.mk λk h a b K=>bif Ck k h then fI (wr k (Int.add a b)) λn=>K (.int k n) else false
 |.sub=>.mk λk h a b K=>bif Ck k h then fI (wr k (Int.sub a b)) λn=>K (.int k n) else false
 |.mul=>.mk λk h a b K=>bif Ck k h then fI (wr k (Int.mul a b)) λn=>K (.int k n) else false
 |.quo=>.mk λk h a b K=>bif Ck k h then(bif ND b 0 then false else fI (wr k (Int.tdiv a b)) λn=>K (.int k n)) else false
 |.rem=>.mk λk h a b K=>bif Ck k h then(bif ND b 0 then false else fI (Int.tmod a b) λn=>K (.int k n)) else false
 |.and=>.mk λk h a b K=>bif Ck k h then fI (lx k a b) λn=>K (.int k n) else false
 |.or=>.mk λk h a b K=>bif Ck k h then fI (uI k a b) λn=>K (.int k n) else false
 |.xor=>.mk λk h a b K=>bif Ck k h then fI (JB k a b) λn=>K (.int k n) else false
 |.andNot=>.mk λk h a b K=>bif Ck k h then fI (D3 k a b) λn=>K (.int k n) else false
 |.eql=>.mk λk h a b K=>bif Ck k h then fB (ND a b) λr=>K (.bool r) else false
 |.neq=>.mk λk h a b K=>bif Ck k h then fB (!ND a b) λr=>K (.bool r) else false
 |.lss=>.mk λk h a b K=>bif Ck k h then fB (La a b) λr=>K (.bool r) else false
 |.leq=>.mk λk h a b K=>bif Ck k h then fB (!La b a) λr=>K (.bool r) else false
 |.gtr=>.mk λk h a b K=>bif Ck k h then fB (La b a) λr=>K (.bool r) else false
 |.geq=>.mk λk h a b K=>bif Ck k h then fB (!La a b) λr=>K (.bool r) else false
noncomputable def QB(h:BinOp)(k u:IntKind)(a b:Int)(K:V->Bool):Bool:=BI.rec (motive:=λ_=>Bool) (λf=>f k u a b K) (VL h)
theorem fz{b x:Bool}(h:(bif b then x else false)=true):b=true/\x=true:=by cases b<;>simp_all
theorem vt{b x:Bool}(h:(bif b then false else x)=true):b=false/\x=true:=by cases b<;>simp_all
theorem N1{I:BinOp}{k N:IntKind}{a b:Int}{K:V->Bool}(h:QB I k N a b K=true){ρ:jF}{M:Nat}:
 ∃v x,Dn ρ M v x/\K v=true/\rB I k a N b (·=x):=by
 cases I<;>simp only[QB,VL] at h<;>first
  |(obtain⟨u,h⟩:=vt h
    rw[A6] at h
    rw[Dv,decide_eq_false_iff_not] at u
    first
     |exact⟨_,_,.int _ _,h,by omega,by rw[Pm]⟩
     |exact⟨_,_,.int _ _,h,by omega,by rw[Ph]⟩)
  |(obtain⟨w,h⟩:=fz h
    have w:=zE w
    first
     |(obtain⟨u,h⟩:=vt h
       rw[vT,decide_eq_false_iff_not] at u
       rw[A6] at h
       refine⟨_,_,.int _ _,h,?_⟩
       simp only[rB,if_pos w]
       first
        |exact⟨u,by rw[B4]⟩
        |exact⟨u,by rw[B4];rfl⟩
        |exact⟨u,rfl⟩
        |exact⟨u,trivial⟩
        |exact u)
     |(rw[A6] at h
       refine⟨_,_,.int _ _,h,?_⟩
       simp only[rB,if_pos w]
       try first
        |rfl
        |(rw[B4];rfl))
     |(rw[pI] at h
       refine⟨_,_,.bool _,h,?_⟩
       simp only[rB,if_pos w,vT,Dv]
       try first
        |rfl
        |(congr 1;exact decide_not)
        |(congr 1;rw[<-decide_not];congr 1;simp only[eq_iff_iff];constructor<;>intro h<;>omega)))
def E(ρ:jF)(M:Nat)(env:Tr V)(e:Env):Prop:=∀t v,look (mX t) env=some v->∃x,e t=some x/\Dn ρ M v x
def Gl(ρ:jF):Prop:=∀g,ρ (.o (mX g))=some (g,0,0)
theorem E.mono{ρ ρ':jF}{M:Nat}{env:Tr V}{e:Env}(u:Le ρ ρ')(h:E ρ M env e):E ρ' M env e:=λt v w=>let⟨x,I,N⟩:=h t v w;⟨x,I,N.mono u⟩
def WW:dB->Option V
 |.int k n=>some (.int k n)
 |.bool b=>some (.bool b)
 |.string s=>some (.str s.size (numOf s.data.toList))
 |.pointer none=>some .sC
 |.slice none 0 0=>some .mH
 |.map none=>some .xf
 |.nilFunc=>some .yi
 |.nilIface=>some .sD
 |_=>none
def VK:List dB->Option (List V)
 |[]=>some []
 |x::r=>match WW x with|some v=>(match VK r with|some l=>some (v::l)|none=>none)|none=>none
def cV:dB->Option V
 |.agg cs=>match VK cs.toList with|some l=>some (.agg l)|none=>none
 |.tuple cs=>match VK cs.toList with|some l=>some (.pZ l)|none=>none
 |x=>WW x
theorem Jo{ρ:jF}{M:Nat}{x:dB}{v:V}(h:WW x=some v):Dn ρ M v x:=by
 unfold WW at h
 split at h<;>first
  |(cases h;done)
  |(cases h;first|exact .int _ _|exact .bool _|exact .sC|exact .mH|exact .xf|exact .yi|exact .sD|(rename_i s;have:=Dn.str (ρ:=ρ) (M:=M) s.size (numOf s.data.toList);rwa[JX] at this))
theorem DU{ρ:jF}{M:Nat}:∀{l:List dB}{r:List V},VK l=some r->jZ ρ M r l
 |[],r,h=>by cases h;exact .nil
 |x::l,r,h=>by
  unfold VK at h
  split at h
  .rename_i v u
   split at h
   .rename_i I w
    cases h
    exact .cons (Jo u) (DU w)
   .cases h
  .cases h
theorem jZ.agg{ρ:jF}{M:Nat}{l:List V}{a:List dB}(h:jZ ρ M l a):Dn ρ M (.agg l) (.agg a.toArray):=.agg h.1 h.2
theorem jZ.pZ{ρ:jF}{M:Nat}{l:List V}{a:List dB}(h:jZ ρ M l a):Dn ρ M (.pZ l) (.tuple a.toArray):=.pZ h.1 h.2
theorem TK{ρ:jF}{M:Nat}{x:dB}{v:V}(h:cV x=some v):Dn ρ M v x:=by
 unfold cV at h
 split at h
 .split at h
  .rename_i cs l u;cases h;exact(DU (ρ:=ρ) (M:=M) u).agg
  .cases h
 .split at h
  .rename_i cs l u;cases h;exact(DU (ρ:=ρ) (M:=M) u).pZ
  .cases h
 .exact Jo h
noncomputable def xc(x:dB)(k:V->Bool):Bool:=match cV x with|some v=>k v|none=>false
theorem Lo{ρ:jF}{M:Nat}{x:dB}{k:V->Bool}(h:xc x k=true):∃v,Dn ρ M v x/\k v=true:=by
 unfold xc at h
 split at h
 .rename_i v u;exact⟨v,TK u,h⟩
 .cases h
inductive BO where
 |mk (f:Tr V->(V->Bool)->Bool)
noncomputable def KY(p:Ps):BO:=
 Ps.rec (motive:=λ_=>BO) (.mk λt k=>Tr.rec (motive:=λ_=>Bool) false (λ_ v _ _ _=>Option.rec (motive:=λ_=>Bool) false k v) t)
  (λ_ h=>BO.rec (motive:=λ_=>BO) (λg=>.mk λt k=>Tr.rec (motive:=λ_=>Bool) false (λl _ _ _ _=>g l k) t) h)
  (λ_ h=>BO.rec (motive:=λ_=>BO) (λg=>.mk λt k=>Tr.rec (motive:=λ_=>Bool) false (λ_ _ r _ _=>g r k) t) h) p
theorem Qx(k:V->Bool):∀(p:Ps)(t:Tr V),BO.rec (motive:=λ_=>Bool) (λf=>f t k) (KY p)=qJ p t k:=by
 intro p
 induction p with
 |h=>intro t;rfl
 |o p u=>
  intro t
  show BO.rec (motive:=λ_=>Bool) (λf=>f t k) (BO.rec (motive:=λ_=>BO) (λg=>.mk λt k=>Tr.rec (motive:=λ_=>Bool) false (λl _ _ _ _=>g l k) t) (KY p))=_
  cases w:KY p with
  |mk g=>
   rw[w] at u
   cases t with
   |lf=>rfl
   |nd l v r=>exact u l
 |i p u=>
  intro t
  show BO.rec (motive:=λ_=>Bool) (λf=>f t k) (BO.rec (motive:=λ_=>BO) (λg=>.mk λt k=>Tr.rec (motive:=λ_=>Bool) false (λ_ _ r _ _=>g r k) t) (KY p))=_
  cases w:KY p with
  |mk g=>
   rw[w] at u
   cases t with
   |lf=>rfl
   |nd l v r=>exact u r
inductive BS where
 |mk (f:V->Tr V->(Tr V->Bool)->Bool)
noncomputable def DX(p:Ps):BS:=
 Ps.rec (motive:=λ_=>BS) (.mk λx t k=>Tr.rec (motive:=λ_=>Bool) (k (.nd .lf (some x) .lf)) (λl _ r _ _=>k (.nd l (some x) r)) t)
  (λ_ h=>BS.rec (motive:=λ_=>BS) (λg=>.mk λx t k=>Tr.rec (motive:=λ_=>Bool) (g x .lf λl=>k (.nd l none .lf)) (λl v r _ _=>g x l λl=>k (.nd l v r)) t) h)
  (λ_ h=>BS.rec (motive:=λ_=>BS) (λg=>.mk λx t k=>Tr.rec (motive:=λ_=>Bool) (g x .lf λr=>k (.nd .lf none r)) (λl v r _ _=>g x r λr=>k (.nd l v r)) t) h) p
theorem Qw(x:V):∀(p:Ps)(t:Tr V)(k:Tr V->Bool),BS.rec (motive:=λ_=>Bool) (λf=>f x t k) (DX p)=rq x p t k:=by
 intro p
 induction p with
 |h=>intro t k;rfl
 |o p u=>
  intro t k
  show BS.rec (motive:=λ_=>Bool) (λf=>f x t k) (BS.rec (motive:=λ_=>BS) (λg=>.mk λx t k=>Tr.rec (motive:=λ_=>Bool) (g x .lf λl=>k (.nd l none .lf)) (λl v r _ _=>g x l λl=>k (.nd l v r)) t) (DX p))=_
  cases w:DX p with
  |mk g=>
   rw[w] at u
   cases t with
   |lf=>exact u .lf λl=>k (.nd l none .lf)
   |nd l v r=>exact u l λl=>k (.nd l v r)
 |i p u=>
  intro t k
  show BS.rec (motive:=λ_=>Bool) (λf=>f x t k) (BS.rec (motive:=λ_=>BS) (λg=>.mk λx t k=>Tr.rec (motive:=λ_=>Bool) (g x .lf λr=>k (.nd .lf none r)) (λl v r _ _=>g x r λr=>k (.nd l v r)) t) (DX p))=_
  cases w:DX p with
  |mk g=>
   rw[w] at u
   cases t with
   |lf=>exact u .lf λr=>k (.nd .lf none r)
   |nd l v r=>exact u r λr=>k (.nd l v r)
noncomputable def XY(o:gU):BO:=
 match o with
 |.tmp t=>KY (mX t)
 |.const v=>.mk λ_ k=>xc v k
 |.global g=>.mk λ_ k=>k (.ptr (.o (mX g)) 0)
 |.func f=>.mk λ_ k=>k (.fn f [] [])
noncomputable def xo(env:Tr V)(o:gU)(k:V->Bool):Bool:=BO.rec (motive:=λ_=>Bool) (λf=>f env k) (XY o)
section
variable {ρ:jF} {M:Nat} {env:Tr V} {e:Env}
theorem gv(I:E ρ M env e)(N:Gl ρ){o:gU}{k:V->Bool}(h:xo env o k=true):∃v x,nN e o=some x/\Dn ρ M v x/\k v=true:=by
 cases o with
 |tmp t=>obtain⟨v,O,u⟩:=jl (show qJ (mX t) env k=true by rw[<-Qx];exact h);obtain⟨x,W,w⟩:=I t v O;exact⟨v,x,W,w,u⟩
 |const x=>obtain⟨v,w,u⟩:=Lo (show xc x k=true from h);exact⟨v,x,rfl,w,u⟩
 |global g=>exact⟨_,_,rfl,by have:=Dn.ptr (M:=M) (o:=0) (N g);exact this,h⟩
 |func f=>exact⟨_,_,rfl,Dn.fn (a1:=[]) (a2:=[]) rfl rfl (λ_ _ _ h=>by simp at h) (λ_ _ _ h=>by simp at h),h⟩
noncomputable def xL(env:Tr V)(l:List gU)(k:List V->Bool):Bool:=
 List.rec (motive:=λ_=>(List V->Bool)->Bool) (λk=>k []) (λo _ h k=>xo env o λv=>h λr=>k (v::r)) l k
theorem tJ(u:E ρ M env e)(w:Gl ρ):∀{l:List gU}{k:List V->Bool},xL env l k=true->∃vs xs,l.map (nN e)=xs.map some/\jZ ρ M vs xs/\k vs=true:=by
 intro l
 induction l with
 |nil=>intro k h;exact⟨[],[],rfl,.nil,h⟩
 |cons o l I=>
  intro k h
  obtain⟨v,x,N,O,W⟩:=gv u w (o:=o) (k:=λv=>xL env l λr=>k (v::r)) h
  obtain⟨vs,xs,Y,Z,h6⟩:=I W
  exact⟨v::vs,x::xs,by simp[N,Y],.cons O Z,h6⟩
theorem j9{l:List gU}{xs:List dB}(h:l.map (nN e)=xs.map some){τ:gU->dB}(u:iP e τ l):l.map τ=xs:=by
 induction l generalizing xs with
 |nil=>cases xs<;>simp_all
 |cons o l w=>
  cases xs with
  |nil=>simp at h
  |cons x xs=>
   simp only[List.map_cons,List.cons.injEq] at h
   rw[List.map_cons,u o (by simp) x h.1,w h.2 (λy I=>u y (by simp[I]))]
end
abbrev KP:=V->Nat->Nat->Bool
variable {P:eQ}
theorem po{u:Op}{e:Env}{x:dB}{K:dB->Prop}(h:kG P u e (·=x))(w:K x):kG P u e K:=.inr λo I=>by
 subst I
 obtain⟨v,rfl,N⟩:=kb h
 exact⟨_,w,N⟩
theorem pq{u:Op}{e:Env}{x:dB}{s:Sem dB}(I:Ex.Yields P s x)(h:∀o:Oper,o.op=u->∀τ,iP e τ u.operands.toList->execOp τ o=do pure (.value (<-s))):kG P u e (·=x):=
 .inr λo N=>⟨x,rfl,λτ O w=>by rw[h o N τ O,Sem.run_bind,I w];rfl⟩
def Pu(P:eQ)(ρ:jF)(M:Nat)(h:Op)(e:Env)(K:KP):Prop:=∃v x lo hi,Dn ρ M v x/\lo<=M/\M<=hi/\K v lo hi=true/\kG P h e (·=x)
variable {ρ:jF} {M lo hi:Nat} {env:Tr V} {e:Env} {K:KP}
theorem Pu.mk{u:Op}(w:lo<=M)(I:M<=hi){v:V}{x:dB}(N:Dn ρ M v x)(O:K v lo hi=true)(h:kG P u e (·=x)):Pu P ρ M u e K:=⟨v,x,lo,hi,N,w,I,O,h⟩
def Xf(P:eQ)(t:eK)(a b:V):Option Bool:=
 match P.underlying t,a,b with
 |some (.int _),.int k x,.int k' y=>bif Ck k k' then some (ND x y) else none
 |some .string,.str n N,.str m M=>some (Nat.beq n m&&Nat.beq (N%256^n) (M%256^n))
 |some .bool,.bool x,.bool y=>some (decide (x=y))
 |_,_,_=>none
theorem wM(n N m M:Nat):(Nat.beq n m&&Nat.beq (N%256^n) (M%256^n))=decide (strOf n N=strOf m M):=by
 rw[ki,ki,<-Bool.decide_and]
 congr 1
 simp only[C7]
theorem O1{t:eK}{a b:V}{x y:dB}{r:Bool}(h:Xf P t a b=some r)(w:Dn ρ M a x)(I:Dn ρ M b y):vU P t x y=some r:=by
 unfold Xf at h
 unfold vU
 split at h
 .rename_i u
  cases w;cases I
  rw[u]
  simp only
  cases N:Ck _ _ with
  |false=>rw[N] at h;cases h
  |true=>rw[N] at h;rw[if_pos (zE N)];simp only[cond_true,vT] at h;exact h
 .rename_i u
  cases w;cases I
  rw[u]
  simp only
  rw[wM] at h
  exact h
 .rename_i u
  cases w;cases I
  rw[u]
  exact h
 .cases h
def OY(P:eQ)(t:eK)(xs ys:List V)(i:Nat)(r:Option Bool):Option Bool:=
 match xs[i]?,ys[i]? with
 |some a,some b=>(match Xf P t a b,r with|some x,some y=>some (x&&y)|_,_=>none)
 |_,_=>none
theorem Ez{t:eK}{xs ys:List V}{I ws:List dB}{i:Nat}{r N:Option Bool}{z:Bool}(h:OY P t xs ys i r=some z)(O:jZ ρ M xs I)(W:jZ ρ M ys ws)
 (Y:∀y,r=some y->N=some y):Cu P t I ws i N=some z:=by
 unfold OY at h
 split at h
 .rename_i a b Z h2
  obtain⟨u,e1,d1⟩:=O.get Z
  obtain⟨w,e2,d2⟩:=W.get h2
  split at h
  .rename_i x y h3
   unfold Cu
   rw[e1,e2]
   simp only
   rw[O1 h3 d1 d2,Y y rfl]
   exact h
  .cases h
 .cases h
def O2(P:eQ)(t:eK)(xs ys:List V):Nat->Nat->Option Bool
 |0,_=>some true
 |n+1,i=>OY P t xs ys i (O2 P t xs ys n (i+1))
theorem zZ{t:eK}{xs ys:List V}{u ws:List dB}(w:jZ ρ M xs u)(I:jZ ρ M ys ws):∀(n i:Nat)(z:Bool),O2 P t xs ys n i=some z->Fy P t u ws n i=some z
 |0,_,_,h=>h
 |n+1,i,z,h=>Ez (P:=P) h w I λy N=>zZ w I n (i+1) y N
def EA(P:eQ)(xs ys:List V):List Field->Option Bool
 |[]=>some true
 |f::fs=>bif f.name== "_" then none else OY P f.type xs ys f.offset (EA P xs ys fs)
theorem x0{xs ys:List V}{I ws:List dB}(N:jZ ρ M xs I)(O:jZ ρ M ys ws):∀(u:List Field)(z:Bool),EA P xs ys u=some z->yw P I ws u=some z
 |[],_,h=>h
 |f::u,z,h=>by
  unfold EA at h
  unfold yw
  cases w:f.name== "_" with
  |true=>rw[w] at h;cases h
  |false=>rw[w] at h;exact Ez (P:=P) h N O λy W=>x0 N O u y W
noncomputable def RZ(P:eQ)(neg:Bool)(t:eK)(xs ys:List V)(K:V->Bool):Bool:=
 bif P.eqGuardType P.depth t then false else
 match P.underlying t with
 |some (.array n e)=>bif Nat.beq (P.cellsOf e) 1&&(P.info? e).isSome then
  (match O2 P e xs ys n 0 with
   |some b=>K (.bool (bif neg then !b else b))
   |none=>false) else false
 |some (.struct fs)=>bif P.stoodInHeld t then false else
  (match EA P xs ys fs.toList with
   |some b=>K (.bool (bif neg then !b else b))
   |none=>false)
 |_=>false
theorem LR{neg:Bool}{t:eK}{xs ys:List V}{N ws:List dB}{K:V->Bool}(h:RZ P neg t xs ys K=true)(O:jZ ρ M xs N)(W:jZ ρ M ys ws):
 ∃v x,Dn ρ M v x/\K v=true/\Ba P neg t N.toArray ws.toArray (·=x):=by
 unfold RZ at h
 unfold Ba
 obtain⟨Y,h⟩:=vt h
 rw[Y]
 simp only[cond_false]
 split at h
 .rename_i n Z w
  obtain⟨I,h⟩:=fz h
  split at h
  .rename_i b u
   refine⟨_,_,.bool _,h,?_⟩
   rw[w]
   simp only[I,cond_true]
   rw[zZ (P:=P) O W _ _ _ u]
  .cases h
 .rename_i fs w
  obtain⟨I,h⟩:=vt h
  split at h
  .rename_i b u
   refine⟨_,_,.bool _,h,?_⟩
   rw[w]
   simp only[I,cond_false]
   rw[x0 (P:=P) O W _ _ u]
  .cases h
 .cases h
noncomputable def rU(lo hi a c d:Nat)(h:Bool->Nat->Nat->Bool):Bool:=
 bif Nat.blt (a*hi+c) d then h true lo hi else
 bif Nat.ble d (a*lo+c) then h false lo hi else
 bif Nat.beq a 0 then false else
 fN ((d-c+a-1)/a) λs=>bif Nat.beq s 0 then false else bif Nat.ble d (a*s+c)&&Nat.blt (a*(s-1)+c) d then fN (s-1) λu=>(h true lo u&&h false s hi) else false
theorem Co{a c d:Nat}{I:Bool->Nat->Nat->Bool}(h:rU lo hi a c d I=true)(u:lo<=M)(w:M<=hi):
 ∃O W,O<=M/\M<=W/\I (decide (a*M+c<d)) O W=true:=by
 unfold rU at h
 have m1:a*M<=a*hi:=Nat.mul_le_mul_left _ w
 have m2:a*lo<=a*M:=Nat.mul_le_mul_left _ u
 cases Y:Nat.blt (a*hi+c) d with
 |true=>
  rw[Y] at h
  rw[Nat.blt_eq] at Y
  rw[show decide (a*M+c<d)=true by simp;omega]
  exact⟨lo,hi,u,w,h⟩
 |false=>
  rw[Y] at h
  simp only[cond_false] at h
  cases N:Nat.ble d (a*lo+c) with
  |true=>
   rw[N] at h
   have N:=Nat.le_of_ble_eq_true N
   rw[show decide (a*M+c<d)=false by simp;omega]
   exact⟨lo,hi,u,w,h⟩
  |false=>
   rw[N] at h
   simp only[cond_false] at h
   obtain⟨_,h⟩:=vt h
   rw[jm] at h
   generalize(d-c+a-1)/a=s at h
   obtain⟨hs,h⟩:=vt h
   obtain⟨Z,h⟩:=fz h
   rw[jm] at h
   simp only[Bool.and_eq_true] at h Z
   have h4:=Nat.le_of_ble_eq_true Z.1
   have h5:a*(s-1)+c<d:=by rw[<-Nat.blt_eq];exact Z.2
   by_cases hm:M<s
   .have:a*M<=a*(s-1):=Nat.mul_le_mul_left _ (by omega)
    rw[show decide (a*M+c<d)=true by simp;omega]
    exact⟨lo,s-1,u,by omega,h.1⟩
   .have:a*s<=a*M:=Nat.mul_le_mul_left _ (by omega)
    rw[show decide (a*M+c<d)=false by simp;omega]
    exact⟨s,hi,by omega,w,h.2⟩
end Go.X
namespace Go.X
open Go.Ex
variable {P:eQ} {ρ:jF} {M lo hi:Nat} {env:Tr V} {e:Env} {K:KP}
def NR:gU->Bool
 |.const _=>true
 |_=>false
def C6(P:eQ)(t:eK):Bool:=match P.underlying t with|some (.interface _)=>true|_=>false
def Pf(P:eQ)(t:eK):Bool:=match P.underlying t with|some (.pointer h)=>(match P.info? h with|some i=>!(Nat.beq i.size 0)|none=>false)|_=>false
def Ir(P:eQ)(t:eK):Bool:=match P.underlying t with|some (.pointer _)=>true|_=>false
def yc(P:eQ)(t:eK):Bool:=match P.underlying t with|some (.slice _)=>true|_=>false
def Rn(P:eQ)(t:eK):Bool:=match P.underlying t with|some .bool=>true|_=>false
noncomputable def Xa(P:eQ)(neg:Bool)(t:eK)(y:gU)(h u:V)(K:V->Bool):Bool:=
 match h,u with
 |.bool a,.bool b=>bif Rn P t then fB (bif neg then xor a b else !(xor a b)) λr=>K (.bool r) else false
 |.sC,.sC=>bif Ir P t then fB (!neg) λr=>K (.bool r) else false
 |.ptr _ _,.sC=>bif Ir P t then fB neg λr=>K (.bool r) else false
 |.mH,.mH=>bif yc P t then fB (!neg) λr=>K (.bool r) else false
 |.slice ..,.mH=>bif yc P t then fB neg λr=>K (.bool r) else false
 |.jC ..,.mH=>bif yc P t then fB neg λr=>K (.bool r) else false
 |.agg xs,.agg ys=>RZ P neg t xs ys K
 |.ptr b o,.ptr b' o'=>bif Pf P t&&decide (b=b') then fB (bif neg then !(Nat.beq o o') else Nat.beq o o') λr=>K (.bool r) else false
 |.sD,.sD=>bif C6 P t&&NR y then fB (!neg) λr=>K (.bool r) else false
 |.iface ..,.sD=>bif C6 P t then fB neg λr=>K (.bool r) else false
 |_,_=>false
def wi(P:eQ)(neg:Bool)(t:eK)(oy:gU)(x y r:dB):Prop:=
 (∀ox,∀w,(eqGuard (bif neg then .neq else .eql) t ox oy x y).run P w=.ok () w)/\∀w,(binOp (bif neg then .neq else .eql) t x y).run P w=.ok r w
theorem wi.xb{neg b:Bool}{t:eK}{oy:gU}{x y:dB}(N:∀u ox,∀w,(eqGuard u t ox oy x y).run P w=.ok () w)
 (I:∀u,u=.eql\/u=.neq->binOp u t x y=(match u with|.eql=>(do pure (.bool (<-Op.equal t x y)))|_=>(do pure (.bool (!(<-Op.equal t x y))))))
 (h:∀w,(Op.equal t x y).run P w=.ok b w):wi P neg t oy x y (.bool (bif neg then !b else b)):=by
 refine⟨λox w=>N _ ox w,λw=>?_⟩
 cases neg
 .simp only[cond_false]
  rw[I _ (.inl rfl)]
  simp only
  rw[Sem.run_bind,h w]
  rfl
 .simp only[cond_true]
  rw[I _ (.inr rfl)]
  simp only
  rw[Sem.run_bind,h w]
  rfl
theorem uR{u:BinOp}{neg:Bool}(I:isEq u=some neg){t yt:eK}{ox oy:gU}{x y r:dB}(Z:nN e ox=some x)(hy:nN e oy=some y)(h:wi P neg t oy x y r):
 kG P (.binOp u t ox oy yt) e (·=r):=by
 have N:u=(bif neg then .neq else .eql):=by cases u<;>simp[isEq] at I<;>subst I<;>rfl
 refine pq (s:=do eqGuard u t ox oy x y;binOp u t x y) (λw=>?_) λo O τ W=>?_
 .rw[N,Sem.run_bind,h.1 ox w]
  exact h.2 w
 .obtain⟨ac,ad,ab,ae,Y,guard⟩:=o
  simp only at O
  subst O
  simp only[execOp,W ox (by simp[Op.operands]) _ Z,W oy (by simp[Op.operands]) _ hy]
theorem tV{t I:eK}{i:TypeInfo}(N:P.underlying t=some (.pointer I))(hi:P.info? I=some i)(O:i.size≠0)(u o o':Nat)(w:fe):
 (Op.equal t (.pointer (some ⟨u,o,none⟩)) (.pointer (some ⟨u,o',none⟩))).run P w=.ok (decide (o=o')) w:=by
 unfold Op.equal
 rw[show Op.maxDepth=9999+1 from rfl,Op.equalIn]
 rw[Sem.run_bind,fJ N]
 simp only[Result.andThen]
 rw[Sem.run_bind,jE hi]
 simp only[Result.andThen,O,ne_eq,not_false_eq_true,if_true]
 unfold sameAddr
 simp only[beq_self_eq_true,if_true]
 show Result.ok _ w=_
 congr 1
 by_cases h:o=o'
 .subst h;simp
 .simp[h]
theorem As{t:eK}{h}(u:P.underlying t=some (.interface h))(w:fe):(Op.equal t .nilIface .nilIface).run P w=.ok true w:=by
 unfold Op.equal
 rw[show Op.maxDepth=9999+1 from rfl,Op.equalIn]
 rw[Sem.run_bind,fJ u]
 rfl
theorem y0{t:eK}{h}(u:P.underlying t=some (.interface h))(d:eK)(v:dB)(w:fe):(Op.equal t (.iface d v) .nilIface).run P w=.ok false w:=by
 unfold Op.equal
 rw[show Op.maxDepth=9999+1 from rfl,Op.equalIn]
 rw[Sem.run_bind,fJ u]
 rfl
theorem OS{neg:Bool}{N:BinOp}(W:isEq N=some neg){t yt:eK}{ox oy:gU}{vx vy:V}{x y:dB}(hx:nN e ox=some x)(hy:nN e oy=some y)(Z:Dn ρ M vx x)(dy:Dn ρ M vy y)
 {K:V->Bool}(h:Xa P neg t oy vx vy K=true):∃v r,Dn ρ M v r/\K v=true/\kG P (.binOp N t ox oy yt) e (·=r):=by
 have ar:N=(bif neg then .neq else .eql):=by cases N<;>simp[isEq] at W<;>subst W<;>rfl
 have Y:∀{r:dB},jJ P N t x y (·=r)->kG P (.binOp N t ox oy yt) e (·=r):=λ{r} hb=>.inl (by simp only[gV,o1,hx,hy];exact hb)
 have hk:∀{r:dB},NC P neg t x y (·=r)->(∀k n,x≠.int k n)->(∀s,x≠.string s)->(∀c,x≠.agg c)->jJ P N t x y (·=r):=λ{r} hb h1 h2 h3=>by
  unfold jJ
  split<;>first|exact absurd rfl (h1 _ _)|exact absurd rfl (h2 _)|exact absurd rfl (h3 _)|(rw[W];exact hb)
 unfold Xa at h
 split at h
 .rename_i a b
  cases Z;cases dy
  obtain⟨u,h⟩:=fz h
  rw[pI] at h
  refine⟨_,_,.bool _,h,Y (hk ?_ (by simp) (by simp) (by simp))⟩
  unfold Rn at u
  unfold NC
  split at u
  .rename_i I;rw[I];cases neg<;>cases a<;>cases b<;>rfl
  .cases u
 .cases Z;cases dy
  obtain⟨u,h⟩:=fz h
  rw[pI] at h
  refine⟨_,_,.bool _,h,Y (hk ?_ (by simp) (by simp) (by simp))⟩
  unfold Ir at u
  unfold NC
  split at u
  .rename_i I;rw[I];cases neg<;>rfl
  .cases u
 .cases Z;cases dy
  obtain⟨u,h⟩:=fz h
  rw[pI] at h
  refine⟨_,_,.bool _,h,Y (hk ?_ (by simp) (by simp) (by simp))⟩
  unfold Ir at u
  unfold NC
  split at u
  .rename_i I;rw[I];cases neg<;>rfl
  .cases u
 .cases Z;cases dy
  obtain⟨u,h⟩:=fz h
  rw[pI] at h
  refine⟨_,_,.bool _,h,Y (hk ?_ (by simp) (by simp) (by simp))⟩
  unfold yc at u
  unfold NC
  split at u
  .rename_i I;rw[I];cases neg<;>rfl
  .cases u
 .cases Z;cases dy
  obtain⟨u,h⟩:=fz h
  rw[pI] at h
  refine⟨_,_,.bool _,h,Y (hk ?_ (by simp) (by simp) (by simp))⟩
  unfold yc at u
  unfold NC
  split at u
  .rename_i I;rw[I];cases neg<;>rfl
  .cases u
 .cases Z;cases dy
  obtain⟨u,h⟩:=fz h
  rw[pI] at h
  refine⟨_,_,.bool _,h,Y (hk ?_ (by simp) (by simp) (by simp))⟩
  unfold yc at u
  unfold NC
  split at u
  .rename_i I;rw[I];cases neg<;>rfl
  .cases u
 .rename_i xs ys
  cases Z with
  |agg an h1=>
  cases dy with
  |agg ao h2=>
  obtain⟨v,r,hd,ap,hr⟩:=LR (ρ:=ρ) (M:=M) h ⟨an,h1⟩ ⟨ao,h2⟩
  exact⟨v,r,hd,ap,Y (by simp only[jJ,W];exact hr)⟩
 .rename_i b o b' o'
  have hh:=fz h
  clear h
  obtain⟨u,h⟩:=hh
  rw[pI] at h
  simp only[Bool.and_eq_true,decide_eq_true_eq] at u
  obtain⟨u,rfl⟩:=u
  cases Z with
  |ptr q1=>
  cases dy with
  |ptr q2=>
  rw[q1] at q2
  cases q2
  unfold Pf at u
  split at u
  .rename_i el I
   split at u
   .rename_i i hi
    have hz:i.size≠0:=λe=>by rw[e] at u;cases u
    rename_i ac O kap _ _
    refine⟨_,_,.bool _,h,uR W hx hy ?_⟩
    have:=wi.xb (P:=P) (neg:=neg) (oy:=oy) (t:=t) (x:=.pointer (some ⟨ac,O+o,none⟩)) (y:=.pointer (some ⟨ac,O+o',none⟩)) (λN ox w=>pU (by simp) (by simp) w)
     (λN ho=>by rcases ho with rfl|rfl<;>rfl) (λw=>tV I hi hz ac (O+o) (O+o') w)
    rw[ki]
    rw[show decide (o=o')=decide (O+o=O+o') by congr 1;simp only[eq_iff_iff];constructor<;>intro h<;>omega]
    exact this
   .cases u
  .cases u
 .obtain⟨u,h⟩:=fz h
  rw[pI] at h
  cases Z;cases dy
  simp only[Bool.and_eq_true] at u
  obtain⟨u,hc⟩:=u
  unfold C6 at u
  split at u
  .rename_i ms I
   refine⟨_,_,.bool _,h,uR W hx hy ?_⟩
   have:=wi.xb (P:=P) (neg:=neg) (oy:=oy) (t:=t) (x:=.nilIface) (y:=.nilIface) (b:=true) (λN ox w=>by
    unfold NR at hc
    split at hc
    .unfold eqGuard
     cases N<;>simp
    .cases hc)
    (λN ho=>by rcases ho with rfl|rfl<;>rfl) (λw=>As I w)
   cases neg<;>exact this
  .cases u
 .obtain⟨u,h⟩:=fz h
  rw[pI] at h
  cases Z with
  |iface q=>
  cases dy
  unfold C6 at u
  split at u
  .rename_i ms I
   refine⟨_,_,.bool _,h,uR W hx hy ?_⟩
   cases neg<;>exact wi.xb (b:=false) (λN ox w=>pU (by simp) (by simp) w) (λN ho=>by rcases ho with rfl|rfl<;>rfl) (λw=>y0 I _ _ w)
  .cases u
 .cases h
end Go.X
namespace Go.X
open Go.Ex
variable {P:eQ} {ρ:jF} {M lo hi:Nat} {env:Tr V} {e:Env} {K:KP}
noncomputable def Ij(P:eQ)(h:BinOp)(t:eK)(oy:gU)(vx u:V)(lo hi:Nat)(K:KP):Bool:=
 match vx with
 |.int k a=>(match u with
  |.int k' b=>QB h k k' a b λv=>K v lo hi
  |.sym ca cc=>(match h,k,a with
   |.add,.i64,.ofNat n=>bif Nat.blt (ca*hi+cc+n) 9223372036854775808 then fN (cc+n) λc=>K (.sym ca c) lo hi else false
   |.mul,.i64,.ofNat n=>bif Nat.blt ((n*ca)*hi+n*cc) 9223372036854775808 then fN (n*ca) λa=>fN (n*cc) λc=>K (.sym a c) lo hi else false
   |.gtr,.i64,.ofNat n=>rU lo hi ca cc n λb lo hi=>K (.bool b) lo hi
   |.leq,.i64,.ofNat n=>rU lo hi ca cc n λb lo hi=>fB (!b) λb=>K (.bool b) lo hi
   |.lss,.i64,.ofNat n=>rU lo hi ca cc (n+1) λb lo hi=>fB (!b) λb=>K (.bool b) lo hi
   |.geq,.i64,.ofNat n=>rU lo hi ca cc (n+1) λb lo hi=>K (.bool b) lo hi
   |_,_,_=>false)
  |.GC ca cc=>(match h,k,a with
   |.gtr,.i64,.ofNat n=>rU lo hi ca 0 (n+cc) λb lo hi=>K (.bool b) lo hi
   |_,_,_=>false)
  |_=>false)
 |.sym ca cc=>(match u with
  |.int k b=>(match h,k,b with
   |.sub,.i64,.ofNat n=>bif Nat.blt (ca*hi+cc) 9223372036854775808&&Nat.blt n 4611686018427387904 then(bif Nat.ble n cc then fN (cc-n) λc=>K (.sym ca c) lo hi else fN (n-cc) λc=>K (.GC ca c) lo hi) else false
   |.add,.i64,.ofNat n=>bif Nat.blt (ca*hi+cc+n) 9223372036854775808 then fN (cc+n) λc=>K (.sym ca c) lo hi else false
   |.lss,.i64,.ofNat n=>rU lo hi ca cc n λb lo hi=>K (.bool b) lo hi
   |.geq,.i64,.ofNat n=>rU lo hi ca cc n λb lo hi=>fB (!b) λb=>K (.bool b) lo hi
   |.gtr,.i64,.ofNat n=>rU lo hi ca cc (n+1) λb lo hi=>fB (!b) λb=>K (.bool b) lo hi
   |.leq,.i64,.ofNat n=>rU lo hi ca cc (n+1) λb lo hi=>K (.bool b) lo hi
   |_,_,_=>false)
  |_=>false)
 |.str n N=>(match u with
  |.str m N'=>(match h with
   |.add=>bif Nat.ble (n+m) 9223372036854775807 then fN (n+m) λl=>fN (N%256^n+256^n*N') λL=>K (.str l L) lo hi else false
   |.eql=>fB (Nat.beq n m&&Nat.beq (N%256^n) (N'%256^n)) λb=>K (.bool b) lo hi
   |.neq=>fB (!(Nat.beq n m&&Nat.beq (N%256^n) (N'%256^n))) λb=>K (.bool b) lo hi
   |_=>false)
  |_=>false)
 |vx=>(match isEq h with|some neg=>Xa P neg t oy vx u λv=>K v lo hi|none=>false)
noncomputable def OW(P:eQ)(h:BinOp)(t:eK)(oy:gU)(vx vy:V)(lo hi:Nat)(K:KP):Bool:=
 match vx with
 |.int k a=>(match vy with
  |.int k' b=>QB h k k' a b λv=>K v lo hi
  |vy=>Ij P h t oy (.int k a) vy lo hi K)
 |vx=>Ij P h t oy vx vy lo hi K
theorem LP(P:eQ)(w:BinOp)(t:eK)(oy:gU)(h u:V)(lo hi:Nat)(K:KP):OW P w t oy h u lo hi K=Ij P w t oy h u lo hi K:=by
 cases h with
 |int k a=>cases u<;>rfl
 |_=>rfl
theorem zG{u:Op}(w:lo<=M)(I:M<=hi){a c d:Nat}{f:Bool->Bool}(h:rU lo hi a c d (λb lo hi=>fB (f b) λb=>K (.bool b) lo hi)=true)
 (Y:∀b,b=decide (a*M+c<d)->kG P u e (·=.bool (f b))):Pu P ρ M u e K:=by
 obtain⟨N,O,Z,h2,W⟩:=Co h w I
 rw[pI] at W
 exact⟨_,_,N,O,.bool _,Z,h2,W,Y _ rfl⟩
theorem uf{u:Op}(w:lo<=M)(I:M<=hi){a c d:Nat}(h:rU lo hi a c d (λb lo hi=>K (.bool b) lo hi)=true)
 (W:∀b,b=decide (a*M+c<d)->kG P u e (·=.bool b)):Pu P ρ M u e K:=by
 obtain⟨N,O,Y,Z,h3⟩:=Co h w I
 exact⟨_,_,N,O,.bool _,Y,Z,h3,W _ rfl⟩
theorem wrap_i64{n:Nat}(h:n<9223372036854775808):IntKind.i64.wrap (n:Int)=n:=wrap_small .i64 n h
theorem JP{z:Int}(h:-9223372036854775808<=z)(u:z<9223372036854775808):IntKind.i64.wrap z=z:=by
 simp[IntKind.wrap,IntKind.bits,IntKind.signed]
 omega
theorem LO{op:BinOp}{t yt:eK}{ox oy:gU}{vx vy:V}{x y:dB}(hx:nN e ox=some x)(hy:nN e oy=some y)(dx:Dn ρ M vx x)(dy:Dn ρ M vy y)
 (w:lo<=M)(u:M<=hi)(h:OW P op t oy vx vy lo hi K=true):Pu P ρ M (.binOp op t ox oy yt) e K:=by
 have O:∀{r:dB},jJ P op t x y (·=r)->kG P (.binOp op t ox oy yt) e (·=r):=λ{r} I=>.inl (by simp only[gV,o1,hx,hy];exact I)
 rw[LP] at h
 unfold Ij at h
 split at h
 .rename_i k a
  cases dx
  split at h
  .rename_i k' b
   cases dy
   obtain⟨v,r,hd,hk,hr⟩:=N1 (ρ:=ρ) (M:=M) h
   exact .mk w u hd hk (O hr)
  .rename_i W Y
   cases dy
   have hm:W*M<=W*hi:=Nat.mul_le_mul_left _ u
   split at h
   .rename_i n
    obtain⟨I,h⟩:=fz h
    rw[jm] at h
    rw[Nat.blt_eq] at I
    refine .mk w u (.sym _ _) h (O ?_)
    simp only[jJ,rB,if_true]
    show Value.int .i64 (IntKind.i64.wrap ((n:Int)+((W*M+Y:Nat):Int)))=_
    rw[<-Int.natCast_add,wrap_i64 (by omega)]
    congr 2
    omega
   .rename_i n
    obtain⟨I,h⟩:=fz h
    rw[jm,jm] at h
    rw[Nat.blt_eq] at I
    refine .mk w u (.sym _ _) h (O ?_)
    simp only[jJ,rB,if_true]
    show Value.int .i64 (IntKind.i64.wrap ((n:Int)*((W*M+Y:Nat):Int)))=_
    have e1:n*(W*M+Y)=n*W*M+n*Y:=by rw[Nat.mul_add,Nat.mul_assoc]
    have ap:n*W*M<=n*W*hi:=Nat.mul_le_mul_left _ u
    rw[<-Int.natCast_mul,e1,wrap_i64 (by omega)]
   .rename_i n
    refine uf w u h λb I=>O ?_
    subst I
    simp only[jJ,rB,if_true,Int.ofNat_eq_natCast,Int.ofNat_lt]
   .rename_i n
    refine zG w u h λb I=>O ?_
    subst I
    simp only[jJ,rB,if_true,Int.ofNat_eq_natCast,Int.ofNat_le]
    rw[<-decide_not]
    congr 2
    simp only[eq_iff_iff];omega
   .rename_i n
    refine zG w u h λb I=>O ?_
    subst I
    simp only[jJ,rB,if_true,Int.ofNat_eq_natCast,Int.ofNat_lt]
    rw[<-decide_not]
    congr 2
    simp only[eq_iff_iff];omega
   .rename_i n
    refine uf w u h λb I=>O ?_
    subst I
    simp only[jJ,rB,if_true,Int.ofNat_eq_natCast,Int.ofNat_le]
    congr 2
    simp only[eq_iff_iff];omega
   .cases h
  .rename_i W Y
   cases dy
   split at h
   .rename_i n
    refine uf w u h λb I=>O ?_
    subst I
    simp only[jJ,rB,if_true,Int.ofNat_eq_natCast]
    congr 2
    simp only[eq_iff_iff];omega
   .cases h
  .cases h
 .rename_i W Y
  cases dx
  split at h
  .rename_i k b
   cases dy
   have hm:W*M<=W*hi:=Nat.mul_le_mul_left _ u
   split at h
   .rename_i n
    obtain⟨I,h⟩:=fz h
    simp only[Bool.and_eq_true,Nat.blt_eq] at I
    cases Z:Nat.ble n Y with
    |true=>
     rw[Z] at h
     simp only[cond_true,jm] at h
     have Z:=Nat.le_of_ble_eq_true Z
     refine .mk w u (.sym _ _) h (O ?_)
     simp only[jJ,rB,if_true]
     show Value.int .i64 (IntKind.i64.wrap (((W*M+Y:Nat):Int)-(n:Int)))=_
     rw[show(((W*M+Y:Nat):Int)-(n:Int))=((W*M+(Y-n):Nat):Int) by omega,wrap_i64 (by omega)]
    |false=>
     rw[Z] at h
     simp only[cond_false,jm] at h
     have Z:¬n<=Y:=λhh=>by rw[Nat.ble_eq_true_of_le hh] at Z;cases Z
     refine .mk w u (.GC _ _) h (O ?_)
     simp only[jJ,rB,if_true]
     show Value.int .i64 (IntKind.i64.wrap (((W*M+Y:Nat):Int)-(n:Int)))=_
     rw[show(((W*M+Y:Nat):Int)-(n:Int))=((W*M:Nat):Int)-((n-Y:Nat):Int) by omega]
     congr 1
     rw[JP (by omega) (by omega)]
   .rename_i n
    obtain⟨I,h⟩:=fz h
    rw[jm] at h
    rw[Nat.blt_eq] at I
    refine .mk w u (.sym _ _) h (O ?_)
    simp only[jJ,rB,if_true]
    show Value.int .i64 (IntKind.i64.wrap (((W*M+Y:Nat):Int)+(n:Int)))=_
    rw[<-Int.natCast_add,wrap_i64 (by omega)]
    congr 2
    omega
   .rename_i n
    refine uf w u h λb I=>O ?_
    subst I
    simp only[jJ,rB,if_true,Int.ofNat_eq_natCast,Int.ofNat_lt]
   .rename_i n
    refine zG w u h λb I=>O ?_
    subst I
    simp only[jJ,rB,if_true,Int.ofNat_eq_natCast,Int.ofNat_le]
    rw[<-decide_not]
    congr 2
    simp only[eq_iff_iff];omega
   .rename_i n
    refine zG w u h λb I=>O ?_
    subst I
    simp only[jJ,rB,if_true,Int.ofNat_eq_natCast,Int.ofNat_lt]
    rw[<-decide_not]
    congr 2
    simp only[eq_iff_iff];omega
   .rename_i n
    refine uf w u h λb I=>O ?_
    subst I
    simp only[jJ,rB,if_true,Int.ofNat_eq_natCast,Int.ofNat_le]
    congr 2
    simp only[eq_iff_iff];omega
   .cases h
  .cases h
 .rename_i n N
  cases dx
  split at h
  .rename_i m N'
   cases dy
   split at h
   .obtain⟨I,h⟩:=fz h
    rw[jm,jm] at h
    refine .mk w u (.str _ _) h (O ?_)
    simp only[jJ,KZ,jx]
    exact⟨Nat.le_of_ble_eq_true I,by rw[JZ]⟩
   .rw[pI,wM] at h
    exact .mk w u (.bool _) h (O (by simp only[jJ,KZ]))
   .rw[pI,wM] at h
    exact .mk w u (.bool _) h (O (by simp only[jJ,KZ];congr 1;exact decide_not))
   .cases h
  .cases h
 .split at h
  .rename_i neg ak
   obtain⟨v,r,hd,hk,hr⟩:=OS (yt:=yt) ak hx hy dx dy h
   exact .mk w u hd hk hr
  .cases h
end Go.X
namespace Go.X
open Go.Ex
variable {P:eQ} {ρ:jF} {M lo hi:Nat} {env:Tr V} {e:Env}
def P1(P:eQ)(ρ:jF)(M:Nat)(h:Op)(e:Env)(K:V->Bool):Prop:=∃v x,Dn ρ M v x/\K v=true/\kG P h e (·=x)
theorem P1.pu{u:Op}{K:KP}(h:P1 P ρ M u e λv=>K v lo hi)(w:lo<=M)(I:M<=hi):Pu P ρ M u e K:=let⟨v,x,a,b,c⟩:=h;⟨v,x,lo,hi,a,w,I,b,c⟩
variable {K:V->Bool}
noncomputable def WJ(h:UnOp)(v:V)(K:V->Bool):Bool:=
 match h,v with
 |.neg,.int k n=>fI (wr k (Int.sub 0 n)) λn=>K (.int k n)
 |.not,.bool b=>fB (!b) λb=>K (.bool b)
 |.xor,.int k n=>fI (Kl k n) λn=>K (.int k n)
 |_,_=>false
theorem OL{w:UnOp}{t:eK}{o:gU}{v:V}{x:dB}(u:nN e o=some x)(d:Dn ρ M v x)(h:WJ w v K=true):P1 P ρ M (.unOp w t o) e K:=by
 unfold WJ at h
 split at h
 .cases d;rw[A6,B4] at h;exact⟨_,_,.int _ _,h,.inl (by simp only[gV,o1,u,Ug];rfl)⟩
 .cases d;rw[pI] at h;exact⟨_,_,.bool _,h,.inl (by simp only[gV,o1,u,Ug])⟩
 .cases d;rw[A6] at h;exact⟨_,_,.int _ _,h,.inl (by simp only[gV,o1,u,Ug])⟩
 .cases h
noncomputable def Ig(P:eQ)(s d:eK)(v:V)(K:V->Bool):Bool:=
 match P.underlying s with
 |none=>false
 |some _=>match P.underlying d,v with
  |some (.int k),.int _ n=>fI (wr k n) λn=>K (.int k n)
  |some .string,.str n N=>K (.str n N)
  |_,_=>false
theorem JN{s d:eK}{o:gU}{v:V}{x:dB}(w:nN e o=some x)(I:Dn ρ M v x)(h:Ig P s d v K=true):P1 P ρ M (.convert s d o) e K:=by
 unfold Ig at h
 split at h
 .cases h
 .rename_i N
  split at h
  .rename_i u;cases I;rw[A6,B4] at h;exact⟨_,_,.int _ _,h,.inl (by simp only[gV,o1,w,FC,N,u])⟩
  .rename_i u;cases I;exact⟨_,_,.str _ _,h,.inl (by simp only[gV,o1,w,FC,N,u])⟩
  .cases h
noncomputable def BH(x:Option V)(h y:Nat)(K:Nat->Bool):Bool:=
 match x with
 |none=>K h
 |some (.int _ (.ofNat i))=>bif Nat.ble i y then K i else false
 |_=>false
theorem px{x:Option V}{u:Option dB}{d y:Nat}{K:Nat->Bool}(h:BH x d y K=true)(O:∀v,x=some v->∃w,u=some w/\Dn ρ M v w)(W:x=none->u=none):
 ∃i,K i=true/\(x=none->i=d)/\(x≠none->i<=y)/\∀Q:Nat->Prop,Q i->BJ u d y Q:=by
 unfold BH at h
 split at h
 .exact⟨d,h,λ_=>rfl,λh=>absurd rfl h,λQ q=>by rw[W rfl];exact q⟩
 .rename_i k i
  obtain⟨w,rfl,N⟩:=O _ rfl
  cases N
  obtain⟨I,h⟩:=fz h
  have I:=Nat.le_of_ble_eq_true I
  refine⟨i,h,(λh=>by cases h),λ_=>I,λQ q=>?_⟩
  show 0<=(i:Int)/\(i:Int)<=y/\Q (i:Int).toNat
  exact⟨by omega,by omega,by simpa using q⟩
 .cases h
noncomputable def Uc(env:Tr V)(o:Option gU)(k:Option V->Bool):Bool:=match o with|none=>k none|some o=>xo env o λv=>k (some v)
theorem HY(I:E ρ M env e)(N:Gl ρ){o:Option gU}{k:Option V->Bool}(h:Uc env o k=true):
 ∃v u,(∀Q:Option dB->Prop,Q u->oO e o Q)/\k v=true/\(∀w,v=some w->∃x,u=some x/\Dn ρ M w x)/\(v=none->u=none):=by
 unfold Uc at h
 split at h
 .exact⟨none,none,λQ q=>q,h,(λ_ h=>by cases h),λ_=>rfl⟩
 .obtain⟨v,x,O,W,Y⟩:=gv I N h
  exact⟨some v,some x,λQ q=>by simp only[oO,o1,O];exact q,Y,(λw Z=>by cases Z;exact⟨x,rfl,W⟩),λh=>by cases h⟩
noncomputable def CK(P:eQ)(t:eK)(v:V)(lo hi:Option V)(K:V->Bool):Bool:=
 match P.underlying t,v with
 |some .string,.str n N=>BH hi n n λh=>BH lo 0 h λl=>bif Nat.ble l h&&Nat.ble h n then fN (N/256^l) λN=>fN (h-l) λm=>K (.str m N) else false
 |some (.slice u),.slice b o n c=>BH hi n c λh=>BH lo 0 h λl=>bif Nat.ble l h&&Nat.ble h c then(match P.info? u with
  |some i=>bif Nat.beq c l then fN (h-l) λm=>K (.slice b o m 0) else fN (o+l*i.size) λo=>fN (h-l) λm=>fN (c-l) λc=>K (.slice b o m c)
  |none=>false) else false
 |some (.slice u),.jC b es n d=>BH hi n n λh=>BH lo 0 h λl=>bif Nat.ble l h&&Nat.ble h n then(match P.info? u with
  |some i=>bif Nat.beq es i.size&&(Nat.blt l n||Nat.beq l 0) then fN (h-l) λm=>fN (d+l) λd=>K (.jC b es m d) else false
  |none=>false) else false
 |some (.slice u),.mH=>BH hi 0 0 λh=>BH lo 0 h λl=>bif Nat.ble l h&&Nat.ble h 0 then(match P.info? u with
  |some _=>K .mH
  |none=>false) else false
 |_,_=>false
theorem Gf{t:eK}{o:gU}{lo hi:Option gU}{v:V}{x:dB}{vl vh:Option V}{ul uh:Option dB}(hx:nN e o=some x)(dv:Dn ρ M v x)
 (h1:∀Q:Option dB->Prop,Q ul->oO e lo Q)(h2:∀Q:Option dB->Prop,Q uh->oO e hi Q)
 (d1:∀w,vl=some w->∃x,ul=some x/\Dn ρ M w x)(d2:∀w,vh=some w->∃x,uh=some x/\Dn ρ M w x)(n1:vl=none->ul=none)(n2:vh=none->uh=none)
 (h:CK P t v vl vh K=true):P1 P ρ M (.slice t o lo hi none) e K:=by
 have O:∀{r:dB},ri P t x ul uh (·=r)->kG P (.slice t o lo hi none) e (·=r):=λ{r} I=>.inl (by simp only[gV,o1,hx];exact h1 _ (h2 _ I))
 unfold CK at h
 split at h
 .rename_i W
  cases dv
  obtain⟨h',u,_,_,Y⟩:=px h d2 n2
  obtain⟨l,u,_,_,Z⟩:=px u d1 n1
  obtain⟨I,u⟩:=fz u
  rw[jm,jm] at u
  simp only[Bool.and_eq_true] at I
  refine⟨_,_,.str _ _,u,O ?_⟩
  simp only[ri,W,jx]
  exact Y _ (Z _ (by rw[JY _ _ _ _ (Nat.le_of_ble_eq_true I.1) (Nat.le_of_ble_eq_true I.2)]))
 .rename_i el b o' n c W
  cases dv with
  |slice hρ=>
  rename_i ad ab kap
  obtain⟨h',u,_,_,Y⟩:=px h d2 n2
  obtain⟨l,u,_,_,Z⟩:=px u d1 n1
  obtain⟨I,u⟩:=fz u
  simp only[Bool.and_eq_true] at I
  have ao:=Nat.le_of_ble_eq_true I.1
  have ap:=Nat.le_of_ble_eq_true I.2
  split at u
  .rename_i i hi
   cases N:Nat.beq c l with
   |true=>
    rw[N] at u
    have N:=Nat.eq_of_beq_eq_true N
    simp only[cond_true,jm] at u
    refine⟨_,_,.slice hρ,u,O ?_⟩
    simp only[ri,W]
    refine Y _ (Z _ ?_)
    rw[hi]
    simp only[N,if_true,Nat.sub_self]
   |false=>
    rw[N] at u
    simp only[cond_false,jm] at u
    have ay:c≠l:=λe=>by rw[ki,decide_eq_false_iff_not] at N;exact N e
    refine⟨_,.slice (some (Addr.add ⟨ad,ab+o',none⟩ (l*i.size))) (h'-l) (c-l),?_,u,O ?_⟩
    .have:=Dn.slice (M:=M) (o:=o'+l*i.size) (l:=h'-l) (c:=c-l) hρ
     unfold Addr.add
     split
     .rename_i h0;rw[h0] at this⊢;simpa using this
     .rw[<-Nat.add_assoc] at this;exact this
    .simp only[ri,W]
     refine Y _ (Z _ ?_)
     rw[hi]
     simp only[if_neg ay,Option.map_some,mJ]
  .cases u
 .rename_i el b es n d W
  cases dv with
  |jC hρ aA=>
  rename_i ad ab kap
  obtain⟨h',u,e2,aE,Y⟩:=px h d2 n2
  obtain⟨l,u,_,_,Z⟩:=px u d1 n1
  obtain⟨I,u⟩:=fz u
  simp only[Bool.and_eq_true] at I
  have ao:=Nat.le_of_ble_eq_true I.1
  have ap:=Nat.le_of_ble_eq_true I.2
  have an:∀{Q:Nat->Prop},BJ uh n n Q->BJ uh n (kap-d) Q:=by
   intro Q hq
   unfold BJ at hq⊢
   split
   .exact hq
   .obtain⟨a1,a2,a3⟩:=hq;exact⟨a1,by omega,a3⟩
   .rename_i h1 h2
    split at hq
    .exact absurd rfl h1
    .exact absurd rfl (h2 _ _)
    .exact hq
  split at u
  .rename_i i hi
   obtain⟨N,u⟩:=fz u
   simp only[Bool.and_eq_true,Bool.or_eq_true] at N
   obtain⟨aa,N⟩:=N
   have aa:=Nat.eq_of_beq_eq_true aa
   simp only[jm] at u
   have aq:l<kap-d\/l=0:=by
    rcases N with N|N
    .rw[Nat.blt_eq] at N;exact .inl (by omega)
    .exact .inr (Nat.eq_of_beq_eq_true N)
   refine⟨_,.slice (some (Addr.add ⟨ad,ab+d*es,none⟩ (l*i.size))) (h'-l) (kap-d-l),?_,u,O ?_⟩
   .have:=Dn.jC (M:=M) (es:=es) (l:=h'-l) (d:=d+l) hρ (by omega)
    have e1:kap-(d+l)=kap-d-l:=by omega
    rw[e1,Nat.add_mul,<-Nat.add_assoc,aa] at this
    unfold Addr.add
    split
    .rename_i h0;rw[h0] at this;simpa[aa] using this
    .rw[aa];exact this
   .simp only[ri,W]
    refine an (Y _ (Z _ ?_))
    rw[hi]
    simp only[Option.map_some,mJ]
    rcases aq with aq|rfl
    .rw[if_neg (by omega)]
    .split
     .simp[Addr.add]
     .rfl
  .cases u
 .rename_i el W
  cases dv
  obtain⟨h',u,_,_,Y⟩:=px h d2 n2
  obtain⟨l,u,_,_,Z⟩:=px u d1 n1
  obtain⟨I,u⟩:=fz u
  simp only[Bool.and_eq_true] at I
  have ao:=Nat.le_of_ble_eq_true I.1
  have ap:=Nat.le_of_ble_eq_true I.2
  split at u
  .rename_i i hi
   have h0:h'=0:=by omega
   have l0:l=0:=by omega
   refine⟨_,_,.mH,u,O ?_⟩
   simp only[ri,W]
   exact Y _ (Z _ (by rw[hi];simp[h0,l0]))
  .cases u
 .cases h
end Go.X
namespace Go.X
open Go.Ex
variable {P:eQ} {ρ:jF} {M lo hi:Nat} {env:Tr V} {e:Env} {K:V->Bool}
noncomputable def zh(P:eQ)(t:eK)(v:V)(lo hi u:Option V)(K:V->Bool):Bool:=
 match P.underlying t,v,lo,hi,u with
 |some (.slice el),.slice b o _ c,none,some (.int _ (.ofNat h)),some (.int _ (.ofNat m))=>bif Nat.ble h m&&Nat.ble m c&&(P.info? el).isSome then K (.slice b o h m) else false
 |some (.slice el),.jC b es n d,none,some (.int _ (.ofNat h)),some (.int _ (.ofNat m))=>bif Nat.ble h m&&Nat.ble m n&&(P.info? el).isSome then fN (d*es) λo=>K (.slice b o h m) else false
 |some (.slice el),.mH,none,some (.int _ (.ofNat 0)),some (.int _ (.ofNat 0))=>bif(P.info? el).isSome then K .mH else false
 |_,_,_,_,_=>false
theorem qg{k:IntKind}{i y:Nat}(h:i<=y)(c:BoundsCode)(w:fe):(Instr.sliceBound (.int k (i:Int)) y c).run P w=.ok i w:=by
 unfold Instr.sliceBound
 have I:(0:Int)<=(i:Int):=by omega
 have u:(i:Int)<=(y:Int):=by omega
 simp[asIntOf,u]
theorem Ei{t:eK}{o:gU}{lo hi Z:Option gU}{v:V}{x:dB}{vl vh vm:Option V}{ul uh um:Option dB}(hx:nN e o=some x)(dv:Dn ρ M v x)
 (a1:∀τ:gU->dB,iP e τ (Op.slice t o lo hi Z).operands.toList->lo.map τ=ul/\hi.map τ=uh/\Z.map τ=um)
 (d2:∀w,vh=some w->∃x,uh=some x/\Dn ρ M w x)(d3:∀w,vm=some w->∃x,um=some x/\Dn ρ M w x)(n1:vl=none->ul=none)
 (h:zh P t v vl vh vm K=true):P1 P ρ M (.slice t o lo hi Z) e K:=by
 have O:∀{r:dB},Ex.Yields P (Instr.sliceAt t x ul uh um) r->kG P (.slice t o lo hi Z) e (·=r):=λ{r} hy=>pq hy λaa ho τ ha=>by
  obtain⟨aG,aa,aA,aH,ax,guard⟩:=aa
  simp only at ho
  subst ho
  obtain⟨e1,e2,e3⟩:=a1 τ ha
  simp only[execOp,ha o (by simp[Op.operands]) _ hx,e1,e2,e3]
 unfold zh at h
 split at h
 .rename_i el b o' n c k1 h' k2 m Y
  obtain⟨x2,rfl,I⟩:=d2 _ rfl
  obtain⟨x3,rfl,N⟩:=d3 _ rfl
  cases I;cases N
  rw[n1 rfl] at O
  cases dv with
  |slice hρ=>
  obtain⟨u,W⟩:=fz h
  simp only[Bool.and_eq_true] at u
  obtain⟨i,hi⟩:=Option.isSome_iff_exists.1 u.2
  have b1:=Nat.le_of_ble_eq_true u.1.1
  have b2:=Nat.le_of_ble_eq_true u.1.2
  refine⟨_,_,.slice hρ,W,O λw=>?_⟩
  unfold Instr.sliceAt Instr.slice Instr.sliceBounds
  simp[fJ Y,qg b2,qg b1,jE hi,Addr.add]
 .rename_i el b es n d k1 h' k2 m Y
  obtain⟨x2,rfl,I⟩:=d2 _ rfl
  obtain⟨x3,rfl,N⟩:=d3 _ rfl
  cases I;cases N
  rw[n1 rfl] at O
  cases dv with
  |jC hρ aE=>
  obtain⟨u,W⟩:=fz h
  rw[jm] at W
  simp only[Bool.and_eq_true] at u
  obtain⟨i,hi⟩:=Option.isSome_iff_exists.1 u.2
  have b1:=Nat.le_of_ble_eq_true u.1.1
  have b2:=Nat.le_of_ble_eq_true u.1.2
  rename_i aI aF kap
  refine⟨_,_,.slice hρ,W,O λw=>?_⟩
  unfold Instr.sliceAt Instr.slice Instr.sliceBounds
  simp[fJ Y,qg (show m<=kap-d by omega),qg b1,jE hi,Addr.add]
 .rename_i el k1 k2 Y
  obtain⟨x2,rfl,I⟩:=d2 _ rfl
  obtain⟨x3,rfl,N⟩:=d3 _ rfl
  cases I;cases N
  rw[n1 rfl] at O
  cases dv
  obtain⟨u,W⟩:=fz h
  obtain⟨i,hi⟩:=Option.isSome_iff_exists.1 u
  refine⟨_,_,.mH,W,O λw=>?_⟩
  unfold Instr.sliceAt Instr.slice Instr.sliceBounds
  have z:=λc=>qg (P:=P) (k:=k1) (i:=0) (y:=0) (Nat.le_refl 0) c w
  have z':=λc=>qg (P:=P) (k:=k2) (i:=0) (y:=0) (Nat.le_refl 0) c w
  simp only[Int.cast_ofNat_Int] at z z'
  simp[fJ Y,z,z',jE hi]
 .cases h
noncomputable def zg(P:eQ)(t:eK)(v:V)(K:V->Bool):Bool:=
 match P.underlying t,v with
 |some (.array n el),.ptr b o=>bif(P.info? el).isSome then K (.slice b o n n) else false
 |_,_=>false
theorem Eh{t:eK}{o:gU}{v:V}{x:dB}(O:nN e o=some x)(W:Dn ρ M v x)(h:zg P t v K=true):P1 P ρ M (.slice t o none none none) e K:=by
 have Y:∀{r:dB},Ex.Yields P (Instr.sliceAt t x none none none) r->kG P (.slice t o none none none) e (·=r):=λ{r} Z=>pq Z λu I τ ha=>by
  obtain⟨af,u,ab,ag,N,guard⟩:=u
  simp only at I
  subst I
  simp only[execOp,ha o (by simp[Op.operands]) _ O,Option.map_none]
 unfold zg at h
 split at h
 .rename_i n el b o' hu
  obtain⟨hb,hk⟩:=fz h
  obtain⟨i,hi⟩:=Option.isSome_iff_exists.1 hb
  cases W with
  |ptr hρ=>
  refine⟨_,_,.slice hρ,hk,Y λw=>?_⟩
  unfold Instr.sliceAt Instr.sliceBounds
  simp[fJ hu,Instr.sureAddr,jE hi,Addr.add]
 .cases h
noncomputable def zk(P:eQ)(t:eK)(v:V)(f:Nat)(K:V->Bool):Bool:=
 match P.underlying t,v with
 |some (.struct u),.ptr b o=>(match u[f]? with
  |some h=>(match P.info? h.type with
   |some i=>bif Nat.beq i.size 0 then false else fN (o+h.offset) λo=>K (.ptr b o)
   |none=>false)
  |none=>false)
 |_,_=>false
theorem uE{w u o n:Nat}:Addr.add ⟨w,u+o,none⟩ n=⟨w,u+(o+n),none⟩:=by
 unfold Addr.add
 split
 .rename_i h;subst h;rfl
 .rw[Nat.add_assoc]
theorem Ep{t:eK}{o:gU}{f:Nat}{v:V}{x:dB}(u:nN e o=some x)(w:Dn ρ M v x)(h:zk P t v f K=true):P1 P ρ M (.fieldAddr t o f) e K:=by
 unfold zk at h
 split at h
 .rename_i W b o' I
  split at h
  .rename_i Y N
   split at h
   .rename_i i hi
    obtain⟨O,h⟩:=vt h
    rw[jm] at h
    cases w with
    |ptr hρ=>
    refine⟨_,_,.ptr hρ,h,.inl ?_⟩
    simp only[gV,o1,u,sL,I,N,hi,O,cond_false,uE]
   .cases h
  .cases h
 .cases h
noncomputable def zj(P:eQ)(t:eK)(v u:V)(K:V->Bool):Bool:=
 match u with
 |.int _ (.ofNat i)=>
  (match P.underlying t,v with
  |some (.slice h),.slice b o n _=>bif Nat.blt i n then(match P.info? h with|some j=>fN (o+i*j.size) λo=>K (.ptr b o)|none=>false) else false
  |some (.slice h),.jC b es n d=>bif Nat.blt i n then(match P.info? h with|some j=>fN (d*es+i*j.size) λo=>K (.ptr b o)|none=>false) else false
  |some (.array n h),.ptr b o=>bif Nat.blt i n then(match P.info? h with|some j=>fN (o+i*j.size) λo=>K (.ptr b o)|none=>false) else false
  |_,_=>false)
 |_=>false
theorem Eo{t:eK}{o Y:gU}{v Z:V}{x y:dB}(N:nN e o=some x)(O:nN e Y=some y)(W:Dn ρ M v x)(di:Dn ρ M Z y)(h:zj P t v Z K=true):P1 P ρ M (.indexAddr t o Y) e K:=by
 unfold zj at h
 split at h
 .rename_i k i
  cases di
  split at h
  .rename_i el b o' n c w
   obtain⟨u,h⟩:=fz h
   rw[Nat.blt_eq] at u
   split at h
   .rename_i j I
    rw[jm] at h
    cases W with
    |slice hρ=>
    refine⟨_,_,.ptr hρ,h,.inl ?_⟩
    simp only[gV,o1,N,O,oK,w,I,mJ]
    refine⟨_,rfl,by simp,by simpa using u,?_⟩
    rw[uE];rfl
   .cases h
  .rename_i el b es n d w
   obtain⟨u,h⟩:=fz h
   rw[Nat.blt_eq] at u
   split at h
   .rename_i j I
    rw[jm] at h
    cases W with
    |jC hρ hk=>
    refine⟨_,_,.ptr hρ,h,.inl ?_⟩
    simp only[gV,o1,N,O,oK,w,I,mJ]
    refine⟨_,rfl,by simp,by simpa using u,?_⟩
    rw[uE];rfl
   .cases h
  .rename_i n el b o' w
   obtain⟨u,h⟩:=fz h
   rw[Nat.blt_eq] at u
   split at h
   .rename_i j I
    rw[jm] at h
    cases W with
    |ptr hρ=>
    refine⟨_,_,.ptr hρ,h,.inl ?_⟩
    simp only[gV,o1,N,O,oK,w,I,mJ]
    refine⟨by simp,by simpa using u,?_⟩
    rw[uE];rfl
   .cases h
  .cases h
 .cases h
noncomputable def CN(P:eQ)(t:eK)(v h:V)(K:V->Bool):Bool:=
 match h with
 |.int _ (.ofNat i)=>
  (match P.underlying t,v with
  |some .string,.str n N=>bif Nat.blt i n then fN ((N/256^i)%256) λb=>K (.int .u8 (.ofNat b)) else false
  |_,_=>false)
 |_=>false
theorem TO{n N i:Nat}(h:i<n):bt (strOf n N) (Int.ofNat i)=.ofNat ((N/256^i)%256):=by
 unfold bt strOf
 have:=Hz n N i h
 simp only[Int.ofNat_eq_natCast,Int.toNat_natCast,List.getD_eq_getElem?_getD,this]
 simp
theorem Gi{t:eK}{o w:gU}{v I:V}{x y:dB}(O:nN e o=some x)(W:nN e w=some y)(Y:Dn ρ M v x)(Z:Dn ρ M I y)(h:CN P t v I K=true):P1 P ρ M (.index t o w) e K:=by
 unfold CN at h
 split at h
 .rename_i k i
  cases Z
  split at h
  .rename_i n N hu
   obtain⟨u,h⟩:=fz h
   rw[Nat.blt_eq] at u
   rw[jm] at h
   cases Y
   refine⟨_,_,.int _ _,h,.inl ?_⟩
   simp only[gV,o1,O,W,DE,hu,jx]
   exact⟨by simp,by simpa using u,by rw[TO u]⟩
  .cases h
 .cases h
noncomputable def CO(P:eQ)(t:eK)(v:V)(f:Nat)(K:V->Bool):Bool:=
 match P.underlying t,v with
 |some (.struct u),.agg cs=>(match u[f]? with
  |some h=>bif(P.underlying h.type).isSome&&(P.info? h.type).isSome then(match iJ P h.type with
   |true=>Cv cs h.offset λcs=>B7 cs (j6 P h.type) λcs=>K (.agg cs)
   |false=>Dt cs h.offset K) else false
  |none=>false)
 |_,_=>false
theorem Gj{t:eK}{o:gU}{f:Nat}{v:V}{x:dB}(W:nN e o=some x)(dv:Dn ρ M v x)(h:CO P t v f K=true):P1 P ρ M (.field t o f) e K:=by
 unfold CO at h
 split at h
 .rename_i fs cs Y
  split at h
  .rename_i N Z
   obtain⟨O,h⟩:=fz h
   simp only[Bool.and_eq_true] at O
   obtain⟨ud,I⟩:=Option.isSome_iff_exists.1 O.1
   obtain⟨i,hi⟩:=Option.isSome_iff_exists.1 O.2
   cases dv with
   |agg hl hd=>
   rename_i a
   have hL:jZ ρ M cs a:=⟨hl,hd⟩
   split at h
   .rename_i w
    obtain⟨b1,h⟩:=qf h
    obtain⟨b2,h⟩:=p6 h
    refine⟨_,_,((hL.drop N.offset).take (j6 P N.type)).agg,h,.inl ?_⟩
    simp only[gV,o1,W,A4,Y,Z,I,hi,EV,w]
    congr 1
    apply Array.ext'
    rw[List.extract_toArray,List.toList_toArray,List.extract_eq_take_drop]
    congr 1
    omega
   .rename_i w
    obtain⟨u,ab,hk⟩:=qw h
    obtain⟨y,hy,ac⟩:=hL.get ab
    refine⟨_,_,ac,hk,.inl ?_⟩
    simp only[gV,o1,W,A4,Y,Z,I,hi,EV,w]
    rw[show a.toArray[N.offset]?=some y by simpa using hy]
  .cases h
 .cases h
end Go.X
namespace Go.X
open Go.Ex
variable {P:eQ} {ρ:jF} {M lo hi:Nat} {env:Tr V} {e:Env} {K:V->Bool}
noncomputable def rI(P:eQ)(t:eK)(K:V->Bool):Bool:=match P.info? t with|some i=>(match i.zero with|some z=>xc z K|none=>false)|none=>false
theorem mj{t:eK}(h:rI P t K=true):∃v z,Dn ρ M v z/\K v=true/\(∀Q:dB->Prop,Q z->qM P t Q):=by
 unfold rI at h
 split at h
 .rename_i i hi
  split at h
  .rename_i z u
   obtain⟨v,w,I⟩:=Lo (ρ:=ρ) (M:=M) h
   exact⟨v,z,w,I,λQ q=>by unfold qM;rw[hi];simp only;rw[u];exact q⟩
  .cases h
 .cases h
noncomputable def zm(P:eQ)(v:V)(T:eK)(ok:Bool)(K:V->Bool):Bool:=
 match P.underlying T with
 |some (.interface _)|none=>false
 |some _=>match v with
  |.iface t u=>bif Nat.beq t T then(match ok with|true=>K (.pZ [u,.bool true])|false=>K u) else(match ok with|true=>rI P T λz=>K (.pZ [z,.bool false])|false=>false)
  |.sD=>(match ok with|true=>rI P T λz=>K (.pZ [z,.bool false])|false=>false)
  |_=>false
theorem xy{v:V}{x:dB}(h:Dn ρ M v x)(b:Bool):Dn ρ M (.pZ [v,.bool b]) (.tuple #[x,.bool b]):=(jZ.cons h (.cons (.bool b) .nil)).pZ
theorem Es{o:gU}{X T:eK}{ok:Bool}{v:V}{x:dB}(hx:nN e o=some x)(dv:Dn ρ M v x)(h:zm P v T ok K=true):P1 P ρ M (.typeAssert o X T ok) e K:=by
 have W:∀{r:dB},Ex.Yields P (Instr.typeAssert x X T ok) r->kG P (.typeAssert o X T ok) e (·=r):=λ{r} hy=>pq hy λaa ho τ ha=>by
  obtain⟨ao,aa,an,ap,ai,guard⟩:=aa
  simp only at ho
  subst ho
  simp only[execOp,ha o (by simp[Op.operands]) _ hx]
 unfold zm at h
 split at h
 .cases h
 .cases h
 .rename_i d ag Y
  have Z:∀m,d≠.interface m:=λm e=>ag m e
  split at h
  .rename_i t u
   cases dv with
   |iface du=>
   cases I:Nat.beq t T with
   |true=>
    rw[I] at h
    have I:=Nat.eq_of_beq_eq_true I
    subst I
    simp only[cond_true] at h
    split at h
    .refine⟨_,_,xy du true,h,W λw=>?_⟩
     unfold Instr.typeAssert
     rw[Sem.run_bind,fJ Y]
     simp only[Result.andThen]
     cases d<;>first|exact absurd rfl (Z _)|simp
    .exact⟨_,_,du,h,W (te Y Z)⟩
   |false=>
    rw[I] at h
    have I:t≠T:=λe=>by rw[ki,decide_eq_false_iff_not] at I;exact I e
    simp only[cond_false] at h
    split at h
    .obtain⟨z,y,hz,hk,hq⟩:=mj (ρ:=ρ) (M:=M) h
     obtain⟨_,_,_,_,N,O⟩:=kM (hq (·=y) rfl)
     subst N
     exact⟨_,_,xy hz false,hk,W (qk Y Z O (.inr ⟨rfl,rfl,.inr ⟨_,_,rfl,I⟩⟩))⟩
    .cases h
  .cases dv
   split at h
   .obtain⟨z,y,hz,hk,hq⟩:=mj (ρ:=ρ) (M:=M) h
    obtain⟨_,_,_,_,N,O⟩:=kM (hq (·=y) rfl)
    subst N
    exact⟨_,_,xy hz false,hk,W (qk Y Z O (.inr ⟨rfl,rfl,.inl rfl⟩))⟩
   .cases h
  .cases h
noncomputable def nW(h:List V)(u:Nat)(vs:List V)(k:List V->Bool):Bool:=
 B7 h u λa=>tw vs λn=>Cv h (u+n) λb=>zb vs b λr=>zb a r k
theorem GK(cs vs:List dB):∀u,u+vs.length<=cs.length->oX cs u vs=cs.take u++vs++cs.drop (u+vs.length):=by
 induction vs generalizing cs with
 |nil=>intro u h;simp[oX]
 |cons v vs Z=>
  intro u h
  simp only[List.length_cons] at h
  unfold oX
  rw[Z _ _ (by simp;omega)]
  have W:u<cs.length:=by omega
  apply List.ext_getElem?
  intro j
  simp only[List.getElem?_append,List.length_append,List.length_take,List.length_set,List.length_cons,List.getElem?_take,List.getElem?_drop,List.getElem?_set]
  by_cases h1:j<u
  .have N:j<min (u+1) cs.length+vs.length:=by omega
   have w:j<min (u+1) cs.length:=by omega
   have O:j<min u cs.length+(vs.length+1):=by omega
   have I:j<min u cs.length:=by omega
   rw[if_pos N,if_pos w,if_pos O,if_pos I,if_pos (by omega),if_pos h1,if_neg (by omega)]
  .by_cases h2:j=u
   .subst h2
    have N:j<min (j+1) cs.length+vs.length:=by omega
    have w:j<min (j+1) cs.length:=by omega
    have O:j<min j cs.length+(vs.length+1):=by omega
    have I:¬j<min j cs.length:=by omega
    rw[if_pos N,if_pos w,if_pos O,if_neg I,if_pos (by omega),if_pos rfl,if_pos W]
    simp[show j-min j cs.length=0 by omega]
   .have w:¬j<min (u+1) cs.length:=by omega
    have I:¬j<min u cs.length:=by omega
    rw[if_neg w,if_neg I]
    have m1:min (u+1) cs.length=u+1:=by omega
    have m2:min u cs.length=u:=by omega
    rw[m1,m2]
    by_cases Y:j<u+1+vs.length
    .rw[if_pos Y,if_pos (by omega)]
     rw[show j-u=(j-(u+1))+1 by omega,List.getElem?_cons_succ]
    .rw[if_neg Y,if_neg (by omega),if_neg (by omega)]
     congr 1
     omega
theorem Dd{w vs:List V}{u:Nat}{k:List V->Bool}(h:nW w u vs k=true){cs I:List dB}(O:jZ ρ M w cs)(W:jZ ρ M vs I):
 ∃r,k r=true/\jZ ρ M r (oX cs u I)/\u+I.length<=cs.length:=by
 unfold nW at h
 obtain⟨Z,h⟩:=p6 h
 rw[mY] at h
 obtain⟨Y,h⟩:=qf h
 rw[ns,ns] at h
 have N:u+I.length<=cs.length:=by rw[<-W.1,<-O.1];exact Y
 refine⟨_,h,?_,N⟩
 rw[GK _ _ _ N,<-W.1]
 rw[<-List.append_assoc]
 exact((O.take u).append W).append (O.drop _)
noncomputable def Kj(v:V)(b:Bool):Bool:=match v with|.agg _|.pZ _|.any=>false|_=>b
theorem xa{v:V}{b:Bool}(h:Kj v b=true){x:dB}(u:Dn ρ M v x):b=true/\∀K:Prop,K->Dr x K:=by
 cases u<;>first|(exact⟨h,λK k=>k⟩)|(cases h)
noncomputable def Cr(w:Nat->Option (Nat×Nat×Bool))(parts:List (Nat×V))(h:List V)(k:List V->Bool):Bool:=
 List.rec (motive:=λ_=>List V->(List V->Bool)->Bool) (λh k=>k h)
  (λp _ N h k=>match w p.1 with
   |none=>false
   |some (I,u,O)=>match O with
    |false=>Kj p.2 (bif Nat.beq u 1 then Mm h I p.2 λc=>N c k else false)
    |true=>match p.2 with
     |.agg vs=>tw vs λn=>bif Nat.beq n u then nW h I vs λc=>N c k else false
     |_=>false) parts h k
theorem uP{w:Nat->Option (Nat×Nat×Bool)}:∀{parts:List (Nat×V)}{u:List V}{k:List V->Bool},Cr w parts u k=true->∀{O:List (Nat×dB)}{cs:List dB},
 O.map (·.1)=parts.map (·.1)->jZ ρ M (parts.map (·.2)) (O.map (·.2))->jZ ρ M u cs->∃r Y,k r=true/\jZ ρ M r Y/\∀Q:List dB->Prop,Q Y->pH w cs O Q:=by
 intro parts
 induction parts with
 |nil=>
  intro u k h O cs W h2 Z
  cases O with
  |nil=>exact⟨u,cs,h,Z,λQ q=>q⟩
  |cons=>simp at W
 |cons p parts ih=>
  intro u k h O cs W h2 Z
  cases O with
  |nil=>simp at W
  |cons q O=>
   simp only[List.map_cons,List.cons.injEq] at W
   obtain⟨x,a',e1,hd,ht⟩:=h2.il
   simp only[List.map_cons,List.cons.injEq] at e1
   obtain⟨e1,e2⟩:=e1
   subst e1 e2
   obtain⟨qi,qv⟩:=q
   have h:(match w p.1 with
    |none=>false
    |some (I,N,agg)=>match agg with
     |false=>Kj p.2 (bif Nat.beq N 1 then Mm u I p.2 λc=>Cr w parts c k else false)
     |true=>match p.2 with
      |.agg vs=>tw vs λn=>bif Nat.beq n N then nW u I vs λc=>Cr w parts c k else false
      |_=>false)=true:=h
   simp only at W hd
   rw[<-W.1] at h
   split at h
   .cases h
   .rename_i I N agg hp
    split at h
    .obtain⟨h,ho⟩:=xa h hd
     obtain⟨hs,h⟩:=fz h
     obtain⟨hl,h⟩:=Ao h
     obtain⟨r,Y,hk,hr,hq⟩:=ih h W.2 ht (Z.set I hd)
     refine⟨r,Y,hk,hr,λQ q=>?_⟩
     unfold pH
     rw[hp]
     simp only
     refine ho _ ?_
     have:Nat.blt I cs.length=true:=by rw[Nat.blt_eq,<-Z.1];exact hl
     rw[this,hs]
     exact hq Q q
    .split at h
     .rename_i vs am
      rw[am] at hd
      cases hd with
      |agg hl hh=>
      rename_i a
      rw[mY] at h
      obtain⟨hs,h⟩:=fz h
      have hs:=Nat.eq_of_beq_eq_true hs
      obtain⟨r1,an,ao,ap⟩:=Dd h Z ⟨hl,hh⟩
      obtain⟨r,Y,hk,hr,hq⟩:=ih an W.2 ht ao
      refine⟨r,Y,hk,hr,λQ q=>?_⟩
      unfold pH
      rw[hp]
      simp only
      have:(Nat.beq a.toArray.size N&&Nat.ble (I+a.toArray.size) cs.length)=true:=by
       rw[Bool.and_eq_true]
       refine⟨by rw[ki];simp[<-hl,hs],Nat.ble_eq_true_of_le (by simpa using ap)⟩
      rw[this]
      exact hq Q q
     .cases h
noncomputable def JI(env:Tr V)(l:List (Nat×gU))(k:List (Nat×V)->Bool):Bool:=
 List.rec (motive:=λ_=>(List (Nat×V)->Bool)->Bool) (λk=>k []) (λo _ h k=>xo env o.2 λv=>h λr=>k ((o.1,v)::r)) l k
theorem Dq{l:List (Nat×gU)}{w:List (Nat×dB)}(h:l.map (λx=>(x.1,nN e x.2))=w.map (λx=>(x.1,some x.2))):∀(u:List (Nat×dB))(Q:List (Nat×dB)->Prop),Q (u++w)->Ru e l u Q:=by
 induction l generalizing w with
 |nil=>intro u Q q;cases w with
  |nil=>simpa[Ru] using q
  |cons=>simp at h
 |cons o l I=>
  intro u Q q
  cases w with
  |nil=>simp at h
  |cons p w=>
   simp only[List.map_cons,List.cons.injEq,Prod.mk.injEq] at h
   obtain⟨i,x⟩:=o
   obtain⟨j,y⟩:=p
   simp only at h
   obtain⟨⟨rfl,N⟩,O⟩:=h
   unfold Ru
   simp only[o1,N]
   exact I O _ _ (by simpa using q)
theorem zR(w:E ρ M env e)(I:Gl ρ):∀{l:List (Nat×gU)}{k:List (Nat×V)->Bool},JI env l k=true->
 ∃(vs:List (Nat×V))(u:List (Nat×dB)),l.map (λx=>(x.1,nN e x.2))=u.map (λx=>(x.1,some x.2))/\u.map (·.1)=vs.map (·.1)/\jZ ρ M (vs.map (·.2)) (u.map (·.2))/\k vs=true:=by
 intro l
 induction l with
 |nil=>intro k h;exact⟨[],[],rfl,rfl,.nil,h⟩
 |cons o l N=>
  intro k h
  obtain⟨v,x,O,W,Y⟩:=gv w I (o:=o.2) (k:=λv=>JI env l λr=>k ((o.1,v)::r)) h
  obtain⟨vs,u,Z,h5,h6,h7⟩:=N Y
  exact⟨(o.1,v)::vs,(o.1,x)::u,by simp[O,Z],by simp[h5],.cons W h6,h7⟩
noncomputable def CR(P:eQ)(t:eK)(parts:List (Nat×V))(K:V->Bool):Bool:=
 rI P t λz=>match P.underlying t with
  |some (.struct fs)=>bif zF P fs then(match z with|.agg cs=>Cr (AA P fs) parts cs λcs=>K (.agg cs)|_=>false) else false
  |some (.array _ el)=>bif(P.info? el).isSome then(match z with|.agg cs=>Cr (λi=>some (i*j6 P el,j6 P el,iJ P el)) parts cs λcs=>K (.agg cs)|_=>false) else false
  |_=>false
theorem Gs{t:eK}{parts:List (Nat×V)}{u:List (Nat×dB)}(Z:u.map (·.1)=parts.map (·.1))(h2:jZ ρ M (parts.map (·.2)) (u.map (·.2)))(h:CR P t parts K=true):
 ∃v x,Dn ρ M v x/\K v=true/\DV P t u (·=x):=by
 unfold CR at h
 obtain⟨z,y,hz,h,hq⟩:=mj (ρ:=ρ) (M:=M) h
 split at h
 .rename_i fs w
  obtain⟨hi,h⟩:=fz h
  split at h
  .rename_i cs
   cases hz with
   |agg I N=>
   rename_i a
   obtain⟨r,us,O,W,Y⟩:=uP h Z h2 ⟨I,N⟩
   refine⟨_,_,W.agg,O,hq _ ?_⟩
   simp only
   rw[w]
   simp only[hi,cond_true]
   exact Y _ rfl
  .cases h
 .rename_i n el w
  obtain⟨hi,h⟩:=fz h
  split at h
  .rename_i cs
   cases hz with
   |agg I N=>
   rename_i a
   obtain⟨r,us,O,W,Y⟩:=uP h Z h2 ⟨I,N⟩
   refine⟨_,_,W.agg,O,hq _ ?_⟩
   simp only
   rw[w]
   simp only[hi,cond_true]
   exact Y _ rfl
  .cases h
 .cases h
noncomputable def RW(P:eQ)(t:eK)(v:V)(K:V->Bool):Bool:=
 match P.underlying t,v with
 |some .string,.str n _=>K (.int .i64 (.ofNat n))
 |some (.array n _),_=>K (.int .i64 (.ofNat n))
 |some (.slice _),.slice _ _ l _=>K (.int .i64 (.ofNat l))
 |some (.slice _),.jC _ _ l _=>K (.int .i64 (.ofNat l))
 |some (.slice _),.mH=>K (.int .i64 (.ofNat 0))
 |_,_=>false
theorem LG{t:eK}{v:V}{x:dB}(w:Dn ρ M v x)(h:RW P t v K=true):∃v x',Dn ρ M v x'/\K v=true/\Dz P t x (·=x'):=by
 unfold RW at h
 split at h
 .rename_i u;cases w;exact⟨_,_,.int _ _,h,by simp only[Dz,u,jx];rfl⟩
 .rename_i u;exact⟨_,_,.int _ _,h,by simp only[Dz,u];rfl⟩
 .rename_i u;cases w;exact⟨_,_,.int _ _,h,by simp only[Dz,u];rfl⟩
 .rename_i u;cases w;exact⟨_,_,.int _ _,h,by simp only[Dz,u];rfl⟩
 .rename_i u;cases w;exact⟨_,_,.int _ _,h,by simp only[Dz,u];rfl⟩
 .cases h
noncomputable def RX(P:eQ)(t:eK)(v:V)(K:V->Bool):Bool:=
 match P.underlying t,v with
 |some (.slice _),.slice _ _ _ c=>K (.int .i64 (.ofNat c))
 |some (.slice _),.mH=>K (.int .i64 (.ofNat 0))
 |_,_=>false
theorem LK{t:eK}{v:V}{x:dB}(w:Dn ρ M v x)(h:RX P t v K=true):∃v x',Dn ρ M v x'/\K v=true/\KU P t x (·=x'):=by
 unfold RX at h
 split at h
 .rename_i u;cases w;exact⟨_,_,.int _ _,h,by simp only[KU,u];rfl⟩
 .rename_i u;cases w;exact⟨_,_,.int _ _,h,by simp only[KU,u];rfl⟩
 .cases h
def Sf(v u:V)(h:V->Bool):Bool:=match v,u with|.int k a,.int _ b=>h (.int k (bif La a b then b else a))|_,_=>false
noncomputable def RU(l:List V)(v:V)(K:V->Bool):Bool:=
 List.rec (motive:=λ_=>V->Bool) (λv=>K v) (λu _ h v=>Sf v u h) l v
theorem LD:∀{l:List V}{v:V},RU l v K=true->∀{x:dB}{xs:List dB},Dn ρ M v x->jZ ρ M l xs->∃u y,Dn ρ M u y/\K u=true/\Kr x xs (·=y):=by
 intro l
 induction l with
 |nil=>intro v h x xs I N;rw[N.mg];exact⟨v,x,I,h,rfl⟩
 |cons u l O=>
  intro v h x xs I N
  obtain⟨y,ys,rfl,W,Y⟩:=N.il
  replace h:Sf v u (λv=>RU l v K)=true:=h
  unfold Sf at h
  split at h
  .rename_i k a k' b
   cases I;cases W
   obtain⟨u,z,Z,h2,h3⟩:=O h (x:=.int k (max a b)) (by
    have:(bif La a b then b else a)=max a b:=by
     rw[Dv]
     by_cases w:a<b
     .rw[decide_eq_true w];simp only[cond_true];omega
     .rw[decide_eq_false w];simp only[cond_false];omega
    rw[this];exact .int _ _) Y
   exact⟨u,z,Z,h2,h3⟩
  .cases h
def Se(v u:V)(h:V->Bool):Bool:=match v,u with|.int k a,.int _ b=>h (.int k (bif La b a then b else a))|_,_=>false
noncomputable def RR(l:List V)(v:V)(K:V->Bool):Bool:=
 List.rec (motive:=λ_=>V->Bool) (λv=>K v) (λu _ h v=>Se v u h) l v
theorem LC:∀{l:List V}{v:V},RR l v K=true->∀{x:dB}{xs:List dB},Dn ρ M v x->jZ ρ M l xs->∃u y,Dn ρ M u y/\K u=true/\Kq x xs (·=y):=by
 intro l
 induction l with
 |nil=>intro v h x xs I N;rw[N.mg];exact⟨v,x,I,h,rfl⟩
 |cons u l O=>
  intro v h x xs I N
  obtain⟨y,ys,rfl,W,Y⟩:=N.il
  replace h:Se v u (λv=>RR l v K)=true:=h
  unfold Se at h
  split at h
  .rename_i k a k' b
   cases I;cases W
   obtain⟨u,z,Z,h2,h3⟩:=O h (x:=.int k (min a b)) (by
    have:(bif La b a then b else a)=min a b:=by
     rw[Dv]
     by_cases w:b<a
     .rw[decide_eq_true w];simp only[cond_true];omega
     .rw[decide_eq_false w];simp only[cond_false];omega
    rw[this];exact .int _ _) Y
   exact⟨u,z,Z,h2,h3⟩
  .cases h
end Go.X
