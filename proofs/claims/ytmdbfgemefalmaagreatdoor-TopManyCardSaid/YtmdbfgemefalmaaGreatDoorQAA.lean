/- Part AA of the proof that the law TopMany answers true at every input, under no condition. -/
import Derived.Calls
import Derived.Orders
import Derived.Tactics
import Derived.Deep.LoopGhost
import Derived.Laws.World
import Derived.Laws.Strings
import Derived.Laws.Cells
import Derived.Laws.StructEq
import Derived.ChangeKeysEq
import Derived.Laws.Append
import Derived.Laws.BytesString
import Derived.Laws.BytesArg
import Derived.Laws.AppendOwn
set_option linter.unusedVariables false
set_option maxHeartbeats 2000000
set_option maxRecDepth 100000
namespace Go.Ex
abbrev Heap:=Array Obj
def dj(H:Heap)(a:Addr):Option Value:=
 match H[a.block]? with
 |some (.cells c _ _)=>if a.spot.isSome then none else c[a.off]?
 |_=>none
def gO(H:Heap)(a:Addr):Bool:=
 match H[a.block]? with
 |some (.cells _ _ (lo,hi))=>lo<=a.off&&a.off<hi
 |_=>false
def nQ(H:Heap)(a:Addr)(v:Value):Heap:=
 H.modify a.block λ
  |.cells c elem frozen=>.cells (if a.spot.isSome then c else c.setIfInBounds a.off v) elem frozen
  |o=>o
theorem kA(w:World)(a:Addr):w.cell? a=dj w.heap a:=rfl
theorem qM(w:World)(a:Addr):w.frozen? a=gO w.heap a:=rfl
theorem mX(w:World)(a:Addr)(v:Value):(w.setCell a v).heap=nQ w.heap a v:=rfl
structure dV(w w':World):Prop where
 os:w'.os=w.os
 tape:w'.tape=w.tape
 output:w'.output=w.output
theorem dV.refl(w:World):dV w w:=⟨rfl,rfl,rfl⟩
theorem dV.trans{a b c:World}(h:dV a b)(k:dV b c):dV a c:=⟨k.os.trans h.os,k.tape.trans h.tape,k.output.trans h.output⟩
theorem dV.setCell(w:World)(a:Addr)(v:Value):dV w (w.setCell a v):=⟨rfl,rfl,rfl⟩
theorem dV.alloc(w:World)(o:Obj):dV w (w.alloc o):=⟨rfl,rfl,rfl⟩
theorem dV.drew(w:World):dV w w.drew:=⟨rfl,rfl,rfl⟩
def Fn(P:Program)(f:FuncId)(args:Array Value)(H:Heap)(R:Value->Heap->Prop):Prop:=
 ∀w:World,w.heap=H->Calls P f args w λe w'=>∃v,e=.returned v/\dV w w'/\R v w'.heap
theorem Fn.mono{P:Program}{f:FuncId}{args:Array Value}{H:Heap}{R R':Value->Heap->Prop}(h:Fn P f args H R)(hr:∀v H',R v H'->R' v H'):Fn P f args H R':=
 λw hw=>(h w hw).mono λ_ _⟨v,he,hs,r⟩=>⟨v,he,hs,hr _ _ r⟩
inductive Cs where
 |int (k:IntKind)|bool|str|ptr|slice|raw
 deriving DecidableEq
inductive Sh where
 |one (c:Cs)
 |agg (l:List Cs)
def Hx(c:Cs)(K:Value->Prop):Prop:=
 match c with
 |.int k=>∃n:Int,K (.int k n)
 |.bool=>∃b:Bool,K (.bool b)
 |.str=>∃s:ByteArray,K (.string s)
 |.ptr=>∃p:Option Addr,K (.pointer p)
 |.slice=>∃(p:Option Addr)(l c:Nat),K (.slice p l c)
 |.raw=>∃v:Value,K v
def Yu:List Cs->List Value->(List Value->Prop)->Prop
 |[],acc,K=>K acc
 |c::cs,acc,K=>Hx c λv=>Yu cs (acc++[v]) K
def Tv(s:Sh)(K:Value->Prop):Prop:=
 match s with
 |.one c=>Hx c K
 |.agg l=>Yu l [] λvs=>K (.agg vs.toArray)
theorem Q3{c:Cs}{K:Value->Prop}(h:Hx c K):∃v,K v:=by
 cases c<;>simp only[Hx] at h
 ·obtain⟨n,h⟩:=h;exact⟨_,h⟩
 ·obtain⟨n,h⟩:=h;exact⟨_,h⟩
 ·obtain⟨n,h⟩:=h;exact⟨_,h⟩
 ·obtain⟨n,h⟩:=h;exact⟨_,h⟩
 ·obtain⟨p,l,c,h⟩:=h;exact⟨_,h⟩
 ·exact h
theorem Mn:∀{l:List Cs}{acc:List Value}{K:List Value->Prop},Yu l acc K->∃vs,vs.length=l.length/\K (acc++vs)
 |[],acc,K,h=>⟨[],rfl,by simpa[Yu] using h⟩
 |c::cs,acc,K,h=>by
  obtain⟨v,h⟩:=Q3 (show Hx c _ from h)
  obtain⟨vs,hl,hk⟩:=Mn h
  exact⟨v::vs,by simp[hl],by simpa using hk⟩
theorem zB{s:Sh}{K:Value->Prop}(h:Tv s K):∃v,K v:=by
 cases s with
 |one c=>exact Q3 h
 |agg l=>obtain⟨vs,_,hk⟩:=Mn (show Yu l [] _ from h);exact⟨_,hk⟩
def Jz(P:Program)(t:TypeId):Cs:=
 match P.underlying t with
 |some .bool=>.bool
 |some (.int k)=>.int k
 |some .string=>.str
 |some (.pointer _)=>.ptr
 |some (.slice _)=>.slice
 |_=>.raw
def jM(P:Program):Nat->TypeId->List Cs
 |0,_=>[]
 |d+1,t=>
  match P.underlying t with
  |some (.struct fs)=>fs.toList.flatMap λf=>jM P d f.type
  |some (.array n e)=>(List.replicate n (jM P d e)).flatten
  |_=>[Jz P t]
def eT(P:Program)(t:TypeId):Bool:=
 match P.underlying t with
 |some (.struct _)|some (.array _ _)=>true
 |_=>false
def acU(P:Program)(t:TypeId):Sh:=
 match P.underlying t with
 |some (.struct _)|some (.array _ _)=>.agg (jM P 8 t)
 |_=>.one (Jz P t)
def ir(P:Program)(t:TypeId):Nat:=match P.info? t with|some i=>i.size|none=>0
def re(P:Program)(t:TypeId)(K:Value->Prop):Prop:=match P.info? t with|some i=>(match i.zero with|some v=>K v|none=>False)|none=>False
abbrev Env:=Nat->Option Value
def put(e:Env)(d:Option Tmp)(v:Value):Env:=
 match d with
 |some d=>λj=>bif Nat.beq j d then some v else e j
 |none=>e
def mo(e:Env):Operand->Option Value
 |.tmp t=>e t
 |.const v=>some v
 |.global g=>some (.pointer (some ⟨g,0,none⟩))
 |.func f=>some (.func (.func f) #[] #[])
def o1(e:Env)(x:Operand)(K:Value->Prop):Prop:=match mo e x with|some v=>K v|none=>False
def oL(e:Env):List Operand->List Value->(List Value->Prop)->Prop
 |[],acc,K=>K acc
 |x::xs,acc,K=>o1 e x λv=>oL e xs (acc++[v]) K
def oO(e:Env)(x:Option Operand)(K:Option Value->Prop):Prop:=match x with|none=>K none|some x=>o1 e x λv=>K (some v)
def gn(b:Bool)(A B:Prop):Prop:=match b with|true=>A|false=>B
theorem wa{b:Bool}{A B:Prop}(h:gn b A B):(b=true/\A)\/(b=false/\B):=by cases b<;>simp_all[gn]
theorem ik{b:Bool}{A B:Prop}(h1:b=true->A)(h2:b=false->B):gn b A B:=by cases b<;>simp_all[gn]
def lN(k:IntKind)(a b:Int):Int:=k.wrap (BitVec.ofInt k.bits a&&&BitVec.ofInt k.bits b).toNat
def BT(k:IntKind)(a b:Int):Int:=k.wrap (BitVec.ofInt k.bits a|||BitVec.ofInt k.bits b).toNat
def Rp(k:IntKind)(a b:Int):Int:=k.wrap (BitVec.ofInt k.bits a^^^BitVec.ofInt k.bits b).toNat
def JJ(k:IntKind)(a b:Int):Int:=k.wrap (BitVec.ofInt k.bits a&&&~~~ BitVec.ofInt k.bits b).toNat
def SW(k:IntKind)(n:Int):Int:=k.wrap (BitVec.ofInt k.bits (if k.signed then-1 else k.max)^^^BitVec.ofInt k.bits n).toNat
def pf(k:IntKind)(a b:Int):Int:=k.wrap (a*2^min b.toNat k.bits)
def kP(k:IntKind)(a b:Int):Int:=a.fdiv (2^min b.toNat k.bits)
def eX{α:Type}(x:α)(K:α->Prop):Prop:=K x
theorem db{α:Type}{x:α}{K:α->Prop}(h:∀y,y=x->K y):eX x K:=h x rfl
def rT(op:BinOp)(k:IntKind)(a:Int)(k':IntKind)(b:Int)(K:Value->Prop):Prop:=
 match op with
 |.shl=>0<=b/\K (.int k (pf k a b))
 |.shr=>0<=b/\K (.int k (kP k a b))
 |.add=>if k=k' then K (.int k (k.wrap (a+b))) else False
 |.sub=>if k=k' then K (.int k (k.wrap (a-b))) else False
 |.mul=>if k=k' then K (.int k (k.wrap (a*b))) else False
 |.quo=>if k=k' then b≠0/\K (.int k (k.wrap (a.tdiv b))) else False
 |.rem=>if k=k' then b≠0/\K (.int k (a.tmod b)) else False
 |.and=>if k=k' then K (.int k (lN k a b)) else False
 |.or=>if k=k' then K (.int k (BT k a b)) else False
 |.xor=>if k=k' then K (.int k (Rp k a b)) else False
 |.andNot=>if k=k' then K (.int k (JJ k a b)) else False
 |.eql=>if k=k' then K (.bool (decide (a=b))) else False
 |.neq=>if k=k' then K (.bool (decide (a≠b))) else False
 |.lss=>if k=k' then K (.bool (decide (a<b))) else False
 |.leq=>if k=k' then K (.bool (decide (a<=b))) else False
 |.gtr=>if k=k' then K (.bool (decide (b<a))) else False
 |.geq=>if k=k' then K (.bool (decide (b<=a))) else False
def TF(op:BinOp)(a b:ByteArray)(K:Value->Prop):Prop:=
 match op with
 |.add=>a.size+b.size<=9223372036854775807/\K (.string (a++b))
 |.eql=>K (.bool (decide (a=b)))
 |.neq=>K (.bool (decide (a≠b)))
 |_=>False
def Yx(P:Program)(neg:Bool)(t:TypeId)(x y:Value)(K:Value->Prop):Prop:=
 match P.underlying t with
 |some .bool=>(match x,y with
  |.bool a,.bool b=>K (.bool (match neg with|true=>decide (a≠b)|false=>decide (a=b)))
  |_,_=>False)
 |some (.pointer _)=>(match x,y with
  |.pointer p,.pointer none=>K (.bool (match neg with|true=>p.isSome|false=>p.isNone))
  |_,_=>False)
 |some (.slice _)=>(match x,y with
  |.slice p _ _,.slice none _ _=>K (.bool (match neg with|true=>p.isSome|false=>p.isNone))
  |_,_=>False)
 |_=>False
def Mx(P:Program)(src dst:TypeId)(x:Value)(K:Value->Prop):Prop:=
 match P.underlying src with
 |none=>False
 |some _=>match P.underlying dst,x with
  |some (.int k),.int _ n=>K (.int k (k.wrap n))
  |some .string,.string s=>K (.string s)
  |_,_=>False
def I6(P:Program)(t:TypeId)(x:Value)(K:Value->Prop):Prop:=
 match P.underlying t,x with
 |some .string,.string s=>K (.int .i64 (s.size:Int))
 |some (.array n _),_=>K (.int .i64 (n:Int))
 |some (.slice _),.slice _ n _=>K (.int .i64 (n:Int))
 |_,_=>False
def TB(P:Program)(t:TypeId)(x:Value)(K:Value->Prop):Prop:=
 match P.underlying t,x with
 |some (.slice _),.slice _ _ c=>K (.int .i64 (c:Int))
 |_,_=>False
def S0:Value->List Value->(Value->Prop)->Prop
 |x,[],K=>K x
 |.int k a,.int _ b::r,K=>S0 (.int k (max a b)) r K
 |_,_::_,_=>False
def SZ:Value->List Value->(Value->Prop)->Prop
 |x,[],K=>K x
 |.int k a,.int _ b::r,K=>SZ (.int k (min a b)) r K
 |_,_::_,_=>False
def Gc(x:Option Value)(aiq y:Nat)(K:Nat->Prop):Prop:=
 match x with
 |none=>K aiq
 |some (.int _ i)=>0<=i/\i<=(y:Int)/\K i.toNat
 |_=>False
def oM(i size:Nat):Nat:=bif Nat.beq size 1 then i else i*size
def rN(P:Program)(t:TypeId)(x:Value)(lo hi:Option Value)(K:Value->Prop):Prop:=
 match P.underlying t,x with
 |some .string,.string s=>Gc hi s.size s.size λh=>Gc lo 0 h λl=>K (.string (s.extract l h))
 |some (.slice e),.slice p n c=>Gc hi n c λh=>Gc lo 0 h λl=>
  (match P.info? e with
   |some i=>K (.slice (if c=l then p else p.map (·.add (oM l i.size))) (h-l) (c-l))
   |none=>False)
 |_,_=>False
def oq(P:Program)(t:TypeId)(x ix:Value)(K:Value->Prop):Prop:=
 match ix with
 |.int _ i=>
  (match P.underlying t,x with
  |some (.slice e),.slice p n _=>∃a,p=some a/\0<=i/\i<(n:Int)/\
   (match P.info? e with|some j=>K (.pointer (some (a.add (oM i.toNat j.size))))|none=>False)
  |some (.array n e),.pointer (some a)=>0<=i/\i<(n:Int)/\
   (match P.info? e with|some j=>K (.pointer (some (a.add (oM i.toNat j.size))))|none=>False)
  |_,_=>False)
 |_=>False
def bt(s:ByteArray)(i:Int):Int:=((s.data.toList.getD i.toNat 0).toNat:Int)
def Ja(P:Program)(t:TypeId)(x ix:Value)(K:Value->Prop):Prop:=
 match ix with
 |.int _ i=>
  (match P.underlying t,x with
  |some .string,.string s=>0<=i/\i<(s.size:Int)/\K (.int .u8 (bt s i))
  |_,_=>False)
 |_=>False
def Lt(P:Program)(t:TypeId)(cs:Array Value)(off:Nat)(K:Value->Prop):Prop:=
 match eT P t with
 |true=>K (.agg (cs.extract off (off+ir P t)))
 |false=>(match cs[off]? with|some v=>K v|none=>False)
def E5(P:Program)(t:TypeId)(x:Value)(f:Nat)(K:Value->Prop):Prop:=
 match P.underlying t,x with
 |some (.struct fs),.agg cs=>(match fs[f]? with
  |some fd=>(match P.underlying fd.type,P.info? fd.type with|some _,some _=>Lt P fd.type cs fd.offset K|_,_=>False)
  |none=>False)
 |_,_=>False
def tF(P:Program)(t:TypeId)(x:Value)(f:Nat)(K:Value->Prop):Prop:=
 match P.underlying t,x with
 |some (.struct fs),.pointer (some a)=>(match fs[f]? with
  |some fd=>(match P.info? fd.type with
   |some i=>bif Nat.beq i.size 0 then False else K (.pointer (some (a.add fd.offset)))
   |none=>False)
  |none=>False)
 |_,_=>False
def pc(x:Value)(T:TypeId)(v zero:Value)(ok:Bool):Prop:=
 (ok=true/\x=.iface T v)\/(ok=false/\v=zero/\(x=.nilIface\/∃t u,x=.iface t u/\t≠T))
def JG(P:Program)(x:Value)(T:TypeId)(adZ:Bool)(K:Value->Prop):Prop:=
 match P.underlying T with
 |some (.interface _)|none=>False
 |some _=>match adZ with
  |true=>re P T λz=>Tv (acU P T) λv=>∃ok:Bool,pc x T v z ok/\K (.tuple #[v,.bool ok])
  |false=>Tv (acU P T) λv=>x=.iface T v/\K v
def zx(x:Value)(i:Nat)(K:Value->Prop):Prop:=
 match x with
 |.tuple vs=>(match vs[i]? with|some v=>K v|none=>False)
 |_=>False
def Jc(P:Program)(t:TypeId)(x:Value)(K:Value->Prop):Prop:=
 match P.underlying t with
 |some (.interface _)|none=>False
 |some _=>K (.iface t x)
def A1(v:Value)(K:Prop):Prop:=match v with|.agg _|.tuple _=>False|_=>K
def oK(cs:List Value)(off:Nat):List Value->List Value
 |[]=>cs
 |v::vs=>oK (cs.set off v) (off+1) vs
def pr(place:Nat->Option (Nat×Nat×Bool)):List Value->List (Nat×Value)->(List Value->Prop)->Prop
 |cells,[],K=>K cells
 |cells,(i,v)::rest,K=>
  match place i with
  |none=>False
  |some (off,size,agg)=>
   match agg with
   |false=>A1 v (bif Nat.blt off cells.length&&Nat.beq size 1 then pr place (cells.set off v) rest K else False)
   |true=>(match v with
    |.agg vs=>bif Nat.beq vs.size size&&Nat.ble (off+vs.size) cells.length then pr place (oK cells off vs.toList) rest K else False
    |_=>False)
def dD(v:Value):List Value:=match v with|.agg cs=>cs.toList|v=>[v]
def Ez(P:Program)(fs:Array Field)(i:Nat):Option (Nat×Nat×Bool):=
 match fs[i]? with
 |some f=>some (f.offset,ir P f.type,eT P f.type)
 |none=>none
def tQ(e:Env):List (Nat×Operand)->List (Nat×Value)->(List (Nat×Value)->Prop)->Prop
 |[],acc,K=>K acc
 |(i,x)::xs,acc,K=>o1 e x λv=>tQ e xs (acc++[(i,v)]) K
def C7(P:Program)(fs:Array Field):Bool:=fs.all λf=>(P.info? f.type).isSome
def JB(P:Program)(t:TypeId)(parts:List (Nat×Value))(K:Value->Prop):Prop:=
 re P t λz=>match P.underlying t with
  |some (.struct fs)=>bif C7 P fs then pr (Ez P fs) (dD z) parts λcs=>K (.agg cs.toArray) else False
  |some (.array _ e)=>bif(P.info? e).isSome then pr (λi=>some (i*ir P e,ir P e,eT P e)) (dD z) parts λcs=>K (.agg cs.toArray) else False
  |_=>False
def Aj(op:UnOp)(x:Value)(K:Value->Prop):Prop:=
 match op,x with
 |.neg,.int k n=>K (.int k (k.wrap (0-n)))
 |.not,.bool b=>K (.bool (!b))
 |.xor,.int k n=>K (.int k (SW k n))
 |_,_=>False
def vN(x:Value)(K:Value->Prop):Prop:=
 match x with
 |.pointer p=>∃a,p=some a/\K (.pointer (some a))
 |_=>False
def isEq:BinOp->Option Bool
 |.eql=>some false
 |.neq=>some true
 |_=>none
def xI(P:Program)(e:TypeId)(a b:Value):Option Bool:=
 match P.underlying e,a,b with
 |some (.int _),.int k x,.int k' y=>if k=k' then some (decide (x=y)) else none
 |some .string,.string x,.string y=>some (decide (x=y))
 |some .bool,.bool x,.bool y=>some (decide (x=y))
 |_,_,_=>none
def Hq(P:Program)(e:TypeId)(xs ys:List Value)(i:Nat)(r:Option Bool):Option Bool:=
 match xs[i]?,ys[i]? with
 |some a,some b=>(match xI P e a b,r with
  |some x,some y=>some (x&&y)
  |_,_=>none)
 |_,_=>none
def Mq(P:Program)(e:TypeId)(xs ys:List Value):Nat->Nat->Option Bool
 |0,_=>some true
 |n+1,i=>Hq P e xs ys i (Mq P e xs ys n (i+1))
def Bl(P:Program)(xs ys:List Value):List Field->Option Bool
 |[]=>some true
 |f::fs=>bif f.name== "_" then none else Hq P f.type xs ys f.offset (Bl P xs ys fs)
def Fa(P:Program)(neg:Bool)(t:TypeId)(xs ys:Array Value)(K:Value->Prop):Prop:=
 bif P.eqGuardType P.depth t then False else
 match P.underlying t with
 |some (.array n e)=>bif Nat.beq (P.cellsOf e) 1&&(P.info? e).isSome then
  (match Mq P e xs.toList ys.toList n 0 with
   |some b=>K (.bool (bif neg then !b else b))
   |none=>False) else False
 |some (.struct fs)=>bif P.stoodInHeld t then False else
  (match Bl P xs.toList ys.toList fs.toList with
   |some b=>K (.bool (bif neg then !b else b))
   |none=>False)
 |_=>False
def ia(P:Program)(op:BinOp)(t:TypeId)(x y:Value)(K:Value->Prop):Prop:=
 match x with
 |.int k a=>(match y with|.int k' b=>rT op k a k' b K|_=>False)
 |.string a=>(match y with|.string b=>TF op a b K|_=>False)
 |.agg xs=>(match y with
  |.agg ys=>(match isEq op with|some neg=>Fa P neg t xs ys K|none=>False)
  |_=>False)
 |x=>(match isEq op with|some neg=>Yx P neg t x y K|none=>False)
def dF(P:Program)(o:Op)(e:Env)(K:Value->Prop):Prop:=
 match o with
 |.move x=>o1 e x K
 |.assign x=>o1 e x K
 |.pick c a b=>o1 e c λvc=>(match vc with
  |.bool t=>gn t (o1 e a K) (o1 e b K)
  |_=>False)
 |.nilCheck x=>o1 e x λv=>vN v K
 |.binOp op t x y _=>o1 e x λvx=>o1 e y λvy=>ia P op t vx vy K
 |.unOp op _ x=>o1 e x λv=>Aj op v K
 |.convert s d x=>o1 e x λv=>Mx P s d v K
 |.makeInterface t x=>o1 e x λv=>Jc P t v K
 |.slice t x lo hi none=>o1 e x λv=>oO e lo λl=>oO e hi λh=>rN P t v l h K
 |.fieldAddr t x f=>o1 e x λv=>tF P t v f K
 |.field t x f=>o1 e x λv=>E5 P t v f K
 |.indexAddr t x ix=>o1 e x λv=>o1 e ix λi=>oq P t v i K
 |.index t x ix=>o1 e x λv=>o1 e ix λi=>Ja P t v i K
 |.typeAssert x _ T ok=>o1 e x λv=>JG P v T ok K
 |.extract x i=>o1 e x λv=>zx v i K
 |.build t parts=>tQ e parts.toList [] λps=>JB P t ps K
 |.call {callee:=.builtin .len,args:=args,argTypes:=ts}=>(match args.toList,ts.toList with
  |[x],[t]=>o1 e x λv=>I6 P t v K
  |_,_=>False)
 |.call {callee:=.builtin .cap,args:=args,argTypes:=ts}=>(match args.toList,ts.toList with
  |[x],[t]=>o1 e x λv=>TB P t v K
  |_,_=>False)
 |.call {callee:=.builtin .max,args:=args,..}=>oL e args.toList [] λvs=>(match vs with|v::r=>S0 v r K|[]=>False)
 |.call {callee:=.builtin .min,args:=args,..}=>oL e args.toList [] λvs=>(match vs with|v::r=>SZ v r K|[]=>False)
 |_=>False
def AO(c:Cs)(H:Heap)(a:Addr)(K:Value->Prop):Prop:=
 match c with
 |.int k=>∃n:Int,dj H a=some (.int k n)/\K (.int k n)
 |.bool=>∃b:Bool,dj H a=some (.bool b)/\K (.bool b)
 |.str=>∃s:ByteArray,dj H a=some (.string s)/\K (.string s)
 |.ptr=>∃p:Option Addr,dj H a=some (.pointer p)/\K (.pointer p)
 |.slice=>∃(p:Option Addr)(l c:Nat),dj H a=some (.slice p l c)/\K (.slice p l c)
 |.raw=>∃v:Value,dj H a=some v/\K v
def I7(H:Heap)(a:Addr):List Cs->Nat->List Value->(List Value->Prop)->Prop
 |[],_,acc,K=>K acc
 |c::cs,i,acc,K=>AO c H (a.add i) λv=>I7 H a cs (i+1) (acc++[v]) K
theorem I8{c:Cs}{H:Heap}{a:Addr}{K:Value->Prop}(h:AO c H a K):∃v,dj H a=some v/\K v:=by
 cases c<;>simp only[AO] at h
 ·obtain⟨n,h⟩:=h;exact⟨_,h⟩
 ·obtain⟨n,h⟩:=h;exact⟨_,h⟩
 ·obtain⟨n,h⟩:=h;exact⟨_,h⟩
 ·obtain⟨n,h⟩:=h;exact⟨_,h⟩
 ·obtain⟨p,l,c,h⟩:=h;exact⟨_,h⟩
 ·exact h
theorem EL{H:Heap}{a:Addr}:∀{l:List Cs}{i:Nat}{acc:List Value}{K:List Value->Prop},I7 H a l i acc K->
 ∃vs,vs.length=l.length/\(∀j v,vs[j]?=some v->dj H (a.add (i+j))=some v)/\K (acc++vs)
 |[],i,acc,K,h=>⟨[],rfl,by simp,by simpa[I7] using h⟩
 |c::cs,i,acc,K,h=>by
  obtain⟨v,hv,h⟩:=I8 (show AO c H (a.add i) _ from h)
  obtain⟨vs,hl,hc,hk⟩:=EL h
  refine⟨v::vs,by simp[hl],?_,by simpa using hk⟩
  intro j u hu
  cases j with
  |zero=>simp only[List.getElem?_cons_zero,Option.some.injEq] at hu;subst hu;simpa using hv
  |succ j=>have:=hc j u (by simpa using hu);rw[show i+1+j=i+(j+1) by omega] at this;exact this
def jZ(H:Heap)(p:Option Addr)(cs:List Value):Prop:=
 match p with
 |none=>cs=[]
 |some a=>∀j v,cs[j]?=some v->dj H (a.add j)=some v
def mg(s:ByteArray):List Value:=s.data.toList.map λb=>.int .u8 b.toNat
def tU(H:Heap)(p:Option Addr)(l:Nat)(s:ByteArray):Prop:=
 match p with
 |none=>s=ByteArray.empty
 |some a=>s.size=l/\jZ H (some a) (mg s)
def vV(P:Program)(o:Op)(e:Env)(H:Heap)(K:Value->Prop):Prop:=
 match o with
 |.load t x=>o1 e x λv=>(match v with
  |.pointer (some a)=>(match P.underlying t with
   |none=>False
   |some (.struct _)|some (.array _ _)=>
    bif Nat.beq (jM P 8 t).length (ir P t)&&(P.info? t).isSome then I7 H a (jM P 8 t) 0 [] λvs=>K (.agg vs.toArray) else False
   |some _=>AO (Jz P t) H a K)
  |_=>False)
 |.convert s d x=>o1 e x λv=>(match P.underlying s,P.underlying d,v with
  |some (.slice b),some .string,.slice p l _=>(match P.underlying b with
   |some (.int .u8)=>∃t:ByteArray,tU H p l t/\K (.string t)
   |_=>False)
  |_,_,_=>False)
 |_=>False
def xn(H:Heap)(a:Addr)(v:Value)(K:Heap->Prop):Prop:=
 A1 v ((∃u,dj H a=some u)/\gO H a=false/\K (nQ H a v))
def Ld(H:Heap)(a:Addr):List Value->Nat->(Heap->Prop)->Prop
 |[],_,K=>K H
 |v::vs,i,K=>xn H (a.add i) v λH'=>Ld H' a vs (i+1) K
def gy(H:Heap)(cs:Array Value)(t:TypeId):Heap:=H.push (.cells cs t)
def newAt(H:Heap):Value:=.pointer (some ⟨H.size,0,none⟩)
def iq(z:Value)(n:Nat):Array Value:=(Array.range (n*(dD z).length)).map λi=>(dD z).getD (i%(dD z).length) undef
def appended(H:Heap)(size:Nat)(x:Value)(n:Nat)(new:List Value):Prop:=
 match x with
 |.slice p l _=>n=l/\(match p with|none=>l=0/\new=[]|some _=>new.length=l*size/\jZ H p new)
 |.string s=>n=s.size/\size=1/\new=mg s
 |_=>False
def jN(el size bytes:Nat)(z:Value)(p:Option Addr)(l c:Nat)(y:Value)(H:Heap)(K:Option Addr->Nat->Nat->Heap->Prop):Prop:=
 ∃(n:Nat)(new:List Value),appended H size y n new/\
  ((l+n<=c/\(match p with
    |none=>n=0/\K none l c H
    |some a=>Ld H (a.add (l*size)) new 0 λH'=>K (some a) (l+n) c H'))\/
   (c<l+n/\(l+n)*bytes<=140737488355328/\bytes≠0/\∃oP:List Value,oP.length=l*size/\jZ H p oP/\
    ∀cap,l+n<=cap->K (some ⟨H.size,0,none⟩) (l+n) cap (gy H (oP.toArray++new.toArray++iq z (cap-(l+n))) el)))
def Y5(P:Program)(t:TypeId)(x y:Value)(H:Heap)(K:Value->Heap->Prop):Prop:=
 match P.underlying t with
 |some (.slice el)=>(match x,P.info? el with
  |.slice p l c,some i=>re P el λz=>jN el i.size i.bytes z p l c y H λp l c H'=>K (.slice p l c) H'
  |_,_=>False)
 |_=>False
def WN(P:Program):List TypeId->List Value->(Value->Prop)->Prop
 |[],acc,K=>K (.tuple acc.toArray)
 |t::ts,acc,K=>Tv (acU P t) λv=>WN P ts (acc++[v]) K
def SM(P:Program)(ts:List TypeId)(v:Value)(K:Value->Prop):Prop:=
 match ts with
 |[t]=>Tv (acU P t) λu=>v=u/\K u
 |ts=>WN P ts [] λu=>v=u/\K u
def afD(P:Program)(f:FuncId)(args:Array Value)(H:Heap)(K:Value->Heap->Prop):Prop:=
 match P.funcs[f]? with
 |some fn=>bif fn.body.isSome then Fn P f args H K else False
 |none=>False
def j0(P:Program):Bool:=P.follows .mixedOrders&&P.funcs.all λfn=>!(fn.name== "runtime.NumGoroutine")
def jL(P:Program)(o:Op)(e:Env)(H:Heap)(K:Value->Heap->Prop):Prop:=
 match o with
 |.store t x y=>o1 e x λv=>o1 e y λu=>(match v with
  |.pointer (some a)=>(match eT P t with
   |true=>(match u with
    |.agg cs=>bif Nat.beq cs.size (ir P t)&&(P.info? t).isSome then Ld H a cs.toList 0 λH'=>K undef H' else False
    |_=>False)
   |false=>bif Nat.beq 1 (ir P t)&&(P.info? t).isSome then xn H a u λH'=>K undef H' else False)
  |_=>False)
 |.alloc t=>re P t λz=>K (newAt H) (gy H (dD z).toArray t)
 |.box t x=>o1 e x λv=>(match v with
  |.agg cs=>K (newAt H) (gy H cs t)
  |_=>A1 v (K (newAt H) (gy H #[v] t)))
 |.makeSlice t l c=>o1 e l λvl=>o1 e c λvc=>(match P.underlying t,vl,vc with
  |some (.slice el),.int _ n,.int _ m=>(match P.info? el with
   |some i=>re P el λz=>bif Nat.beq (dD z).length i.size&&Nat.blt 0 i.bytes&&Nat.blt 0 i.size then 0<=n/\n<=m/\(i.bytes:Int)*m<=281474976710656/\
    K (.slice (some ⟨H.size,0,none⟩) n.toNat m.toNat) (gy H (iq z m.toNat) el) else False
   |none=>False)
  |_,_,_=>False)
 |.buildSlice t len parts=>tQ e parts.toList [] λps=>(match P.underlying t with
  |some (.slice el)=>(match P.info? el with
   |some i=>re P el λz=>bif Nat.ble (len*i.size) 1024&&Nat.beq (dD z).length i.size then
    pr (λj=>some (j*i.size,i.size,eT P el)) ((List.replicate len (dD z)).flatten) ps λcs=>
     K (.slice (some ⟨H.size,0,none⟩) len len) (gy H cs.toArray el) else False
   |none=>False)
  |_=>False)
 |.convert s d x=>o1 e x λv=>(match P.underlying s,P.underlying d,v with
  |some _,some (.slice b),.string t=>(match P.underlying b with
   |some (.int .u8)=>∀cap,t.size<=cap->K (.slice (some ⟨H.size,0,none⟩) t.size cap)
    (H.push (.cells ((mg t).toArray++Array.replicate (cap-t.size) (.int .u8 0)) b (cap,cap+1)))
   |_=>False)
  |_,_,_=>False)
 |.call {callee:=.builtin .append,args:=args,argTypes:=ts}=>(match args.toList,ts.toList with
  |[x,y],[t,u]=>(match P.underlying u with
   |some (.int _)|none=>False
   |some _=>o1 e x λvx=>o1 e y λvy=>Y5 P t vx vy H K)
  |_,_=>False)
 |.call {callee:=.value (.func f),args:=args,..}=>oL e args.toList [] λvs=>afD P f vs.toArray H K
 |_=>False
inductive Kind where
 |pure|read|write
 deriving DecidableEq
def kindOf(P:Program)(o:Op):Kind:=
 match o with
 |.load _ _=>.read
 |.convert s d _=>(match P.underlying s,P.underlying d with
  |some (.slice _),some .string=>.read
  |some .string,some (.slice _)=>.write
  |some (.slice _),some (.slice _)=>.write
  |some (.pointer _),some .unsafePointer=>.read
  |some .unsafePointer,some (.pointer _)=>.read
  |_,_=>.pure)
 |.store ..|.alloc _|.box ..|.makeSlice ..|.buildSlice ..=>.write
 |.call {callee:=.builtin .append,..}=>.write
 |.call {callee:=.value _,..}=>.write
 |.call {callee:=.invoke ..,..}=>.write
 |.call {callee:=.builtin .copy,..}=>.write
 |.call {callee:=.builtin .clear,..}=>.write
 |.call {callee:=.builtin .unsafeString,..}=>.write
 |.makeMap ..|.mapUpdate ..|.insert ..|.range ..|.next ..=>.write
 |.lookup ..=>.read
 |_=>.pure
def fc(e:Env)(ρ:Operand->Value)(xs:List Operand):Prop:=∀x∈xs,∀v,mo e x=some v->ρ x=v
def apQ(P:Program)(op:Op)(e:Env)(K:Value->Prop):Prop:=
 ∀o:Oper,o.op=op->∃v,K v/\∀ρ,fc e ρ op.operands.toList->∀w,(execOp ρ o).run P w=.ok (.value v) w
def apP(P:Program)(op:Op)(e:Env)(H:Heap)(K:Value->Prop):Prop:=
 ∀o:Oper,o.op=op->∃v,K v/\∀ρ,fc e ρ op.operands.toList->∀w,w.heap=H->(execOp ρ o).run P w=.ok (.value v) w
def apO(P:Program)(op:Op)(e:Env)(H:Heap)(K:Value->Heap->Prop):Prop:=
 ∀(o:Oper)(a:Act)(w:World)(next:Act->World->Prop)(Q:Exit->Act->World->Prop),o.op=op->fc e a.eval op.operands.toList->w.heap=H->
  (∀v w',dV w w'->K v w'.heap->next (a.put o.dst v) w')->o.wp P a w next Q
def jn(P:Program)(o:Op)(e:Env)(K:Value->Prop):Prop:=dF P o e K\/apQ P o e K
def oB(P:Program)(o:Op)(e:Env)(H:Heap)(K:Value->Prop):Prop:=vV P o e H K\/apP P o e H K
def ny(P:Program)(o:Op)(e:Env)(H:Heap)(K:Value->Heap->Prop):Prop:=jL P o e H K\/apO P o e H K
end Go.Ex
namespace Go.Ex
def Ii:Cs->Type
 |.int _=>Int
 |.bool=>Bool
 |.str=>ByteArray
 |.ptr=>Option Addr
 |.slice=>Option Addr×Nat×Nat
 |.raw=>Value
def aip:(c:Cs)->Ii c->Value
 |.int k,n=>.int k n
 |.bool,b=>.bool b
 |.str,s=>.string s
 |.ptr,p=>.pointer p
 |.slice,x=>.slice x.1 x.2.1 x.2.2
 |.raw,v=>v
def xC:(c:Cs)->Value->(Ii c->Prop)->Prop
 |.int k,v,K=>(match v with|.int k' n=>if k'=k then K n else False|_=>False)
 |.bool,v,K=>(match v with|.bool b=>K b|_=>False)
 |.str,v,K=>(match v with|.string s=>K s|_=>False)
 |.ptr,v,K=>(match v with|.pointer p=>K p|_=>False)
 |.slice,v,K=>(match v with|.slice p l c=>K (p,l,c)|_=>False)
 |.raw,v,K=>K v
def ZC:List Cs->Type
 |[]=>Unit
 |c::cs=>Ii c×ZC cs
def YC:(l:List Cs)->ZC l->List Value
 |[],_=>[]
 |c::cs,x=>aip c x.1::YC cs x.2
def CR:(l:List Cs)->List Value->(ZC l->Prop)->Prop
 |[],vs,K=>(match vs with|[]=>K ()|_::_=>False)
 |c::cs,vs,K=>(match vs with|v::vs=>xC c v λx=>CR cs vs λxs=>K (x,xs)|[]=>False)
def HZ:Sh->Type
 |.one c=>Ii c
 |.agg l=>ZC l
def YB:(s:Sh)->HZ s->Value
 |.one c,x=>aip c x
 |.agg l,x=>.agg (YC l x).toArray
def xS:(s:Sh)->Value->(HZ s->Prop)->Prop
 |.one c,v,K=>xC c v K
 |.agg l,v,K=>(match v with|.agg vs=>CR l vs.toList K|_=>False)
abbrev Live:=List (Nat×Sh)
def LT:Live->Type
 |[]=>Unit
 |(_,s)::r=>HZ s×LT r
def pV:(l:Live)->LT l->Env->Env
 |[],_,e=>e
 |(t,s)::r,x,e=>put (pV r x.2 e) (some t) (YB s x.1)
def ym:(l:Live)->Env->(LT l->Prop)->Prop
 |[],_,K=>K ()
 |(t,s)::r,e,K=>(match e t with|some v=>xS s v λx=>ym r e λxs=>K (x,xs)|none=>False)
def EX(e:Env)(ds:List Nat):Env:=λt=>bif ds.any (Nat.beq t) then none else e t
def lD{S:Type}(b:(S->Heap->Prop)->S->Heap->Prop)(s₀:S)(H₀:Heap):Prop:=
 ∃I:Nat->S->Heap->Prop,(∃n,I n s₀ H₀)/\∀n s H,I n s H->b (λs' H'=>∃m,m<n/\I m s' H') s H
def eW{S:Type}(f:(S->Heap->Prop)->Prop)(k:S->Heap->Prop):Prop:=
 ∃J:S->Heap->Prop,f J/\∀s H,J s H->k s H
def eB(ops:Array Oper)(o:Oper)(e:Env):Option Bool:=
 match o.guard with
 |none=>some true
 |some (j,want)=>match(ops[j]?).bind (·.dst) with
  |none=>some false
  |some d=>match e d with
   |some (.bool b)=>some (b==want)
   |some _=>some false
   |none=>none
def mb(ops:Array Oper)(i:Nat):Bool:=ops.any λo=>match o.guard with|some (j,_)=>Nat.beq j i|none=>false
def kH(g:Bool)(v:Value)(K:Value->Prop):Prop:=
 match g with
 |false=>K v
 |true=>match v with
  |.bool b=>gn b (K (.bool true)) (K (.bool false))
  |v=>K v
def nU(P:Program)(ops:Array Oper):List Oper->Nat->Env->Heap->(Env->Heap->Prop)->Prop
 |[],_,e,H,K=>K e H
 |o::rest,i,e,H,K=>
  match eB ops o e with
  |none=>False
  |some false=>nU P ops rest (i+1) (put e o.dst undef) H K
  |some true=>match kindOf P o.op with
   |.pure=>jn P o.op e λv=>kH (mb ops i) v λv=>nU P ops rest (i+1) (put e o.dst v) H K
   |.read=>oB P o.op e H λv=>kH (mb ops i) v λv=>nU P ops rest (i+1) (put e o.dst v) H K
   |.write=>ny P o.op e H λv H'=>kH (mb ops i) v λv=>nU P ops rest (i+1) (put e o.dst v) H' K
def oC(o:Oper)(acc:List Nat):Nat:=
 o.after.toList.foldl (λs e=>bif Region.binds .any e then s|||2^e.on|||acc.getD e.on 0 else s) 0
def gM:List Oper->List Nat->List Nat
 |[],acc=>acc
 |o::os,acc=>gM os (acc++[oC o acc])
def W8(o:Oper):List Nat:=o.op.operands.toList.filterMap λ|.tmp t=>some t|_=>none
def u6(ops:Array Oper)(o:Oper):List Nat:=
 match o.guard with
 |some (j,_)=>((ops[j]?).bind (·.dst)).toList
 |none=>[]
def AS(ops:Array Oper)(o:Oper):List Nat:=u6 ops o++W8 o
def jr(ops:Array Oper)(o:Oper):List Nat:=o.dst.toList++AS ops o
def meets(ops:Array Oper)(x y:Oper):Bool:=
 (match x.dst with|some d=>(jr ops y).any (Nat.beq d)|none=>false)||
 (match y.dst with|some d=>(jr ops x).any (Nat.beq d)|none=>false)
def Qn(P:Program)(ops:Array Oper)(B:List Nat):List Nat->Nat->Bool
 |[],_=>true
 |i::rest,seen=>
  (match ops[i]? with
  |none=>false
  |some o=>
   !(seen.testBit i)&&
   o.after.toList.all (λe=>!(Region.binds .any e)||seen.testBit e.on)&&
   (!(kindOf P o.op==.write)||rest.all λj=>(B.getD j 0).testBit i)&&
   rest.all λj=>match ops[j]? with
    |none=>false
    |some y=>!(meets ops o y)||(B.getD j 0).testBit i)&&
  Qn P ops B rest (seen|||2^i)
def Jt(P:Program)(ops:Array Oper)(B ord:List Nat):Bool:=
 (List.range ops.size).all (λi=>ord.any (Nat.beq i))&&Qn P ops B ord 0
def uT(P:Program)(ops:Array Oper)(B:List Nat)(X:Nat->Bool):List Nat->Nat->Bool
 |[],_=>true
 |i::rest,seen=>
  (match ops[i]? with
  |none=>false
  |some o=>
   !(seen.testBit i)&&
   o.after.toList.all (λe=>!(Region.binds .any e)||seen.testBit e.on)&&
   (X i||(!(kindOf P o.op==.write)||rest.all λj=>(B.getD j 0).testBit i))&&
   rest.all λj=>match ops[j]? with
    |none=>false
    |some y=>!(meets ops o y)||(B.getD j 0).testBit i)&&
  uT P ops B X rest (seen|||2^i)
def afH(ops:Array Oper)(l:List Nat):Bool:=(List.range ops.size).all λi=>l.any (Nat.beq i)
def km(P:Program)(ops:Array Oper)(m:Nat)(H:Heap):List (Nat×Env×Value)->Prop->Prop
 |[],A=>A
 |(r,e,v)::D,A=>match m.testBit r with
  |true=>km P ops m H D A
  |false=>(match ops[r]? with|some o=>oB P o.op e H (λu=>u=v)|none=>False)/\km P ops m H D A
def sd(P:Program)(ops:Array Oper)(B:List Nat)(A:List Nat->Env->Heap->List (Nat×Env×Value)->Prop):List Nat->Env->Heap->List (Nat×Env×Value)->(Env->Heap->Prop)->Prop
 |[],e,H,_,K=>K e H
 |i::rest,e,H,D,K=>
  match ops[i]? with
  |none=>False
  |some o=>match eB ops o e with
   |none=>False
   |some false=>sd P ops B A rest (put e o.dst undef) H D K
   |some true=>match kindOf P o.op with
    |.pure=>jn P o.op e λv=>kH (mb ops i) v λv=>sd P ops B A rest (put e o.dst v) H D K
    |.read=>oB P o.op e H λv=>kH (mb ops i) v λv=>sd P ops B A rest (put e o.dst v) H (D++[(i,e,v)]) K
    |.write=>(ny P o.op e H λv H'=>km P ops (B.getD i 0) H' D (kH (mb ops i) v λv=>sd P ops B A rest (put e o.dst v) H' D K))/\A (i::rest) e H D
structure Ks where
 n:Env->Heap->Prop
 x:Nat->Env->Heap->Prop
 r:Env->Heap->Prop
def u4:Code->Option Nat
 |.region id _ _=>some id
 |.seq a b=>(match u4 a with|some i=>some i|none=>u4 b)
 |.cond _ a b=>(match u4 a with|some i=>some i|none=>u4 b)
 |.block _ a=>u4 a
 |.loop a=>u4 a
 |_=>none
def mE:Code->List Nat
 |.region _ ops _=>ops.toList.filterMap (·.dst)
 |.seq a b=>mE a++mE b
 |.cond _ a b=>mE a++mE b
 |.block _ a=>mE a
 |.loop a=>mE a
 |_=>[]
def gm(N:Nat)(ops:Array Oper):Bool:=ops.all λo=>match o.dst with|some d=>Nat.blt d N|none=>true
def vf(N:Nat)(args:List Value):Env:=λt=>bif Nat.blt t args.length then args[t]? else bif Nat.blt t N then some undef else none
def PM(P:Program)(t:TypeId)(a:Addr)(H:Heap)(K:Value->Prop):Prop:=
 match P.underlying t with
 |none=>False
 |some (.struct _)|some (.array _ _)=>
  bif Nat.beq (jM P 8 t).length (ir P t)&&(P.info? t).isSome then I7 H a (jM P 8 t) 0 [] λvs=>K (.agg vs.toArray) else False
 |some _=>AO (Jz P t) H a K
def NU(P:Program)(H:Heap)(e:Env):List ResultVar->List Value->(List Value->Prop)->Prop
 |[],acc,K=>K acc
 |.tmp t::r,acc,K=>(match e t with|some v=>NU P H e r (acc++[v]) K|none=>False)
 |.cell a t::r,acc,K=>(match e a with|some (.pointer (some ad))=>PM P t ad H λv=>NU P H e r (acc++[v]) K|_=>False)
def WM(P:Program)(fn:Func)(R:Value->Heap->Prop)(e:Env)(H:Heap):Prop:=
 NU P H e fn.results.toList [] λvs=>(match vs with|[v]=>R v H|vs=>R (.tuple vs.toArray) H)
end Go.Ex
namespace Go.Ex
theorem ma{e:Env}{x:Operand}{K:Value->Prop}(h:o1 e x K):∃v,mo e x=some v/\K v:=by
 unfold o1 at h
 split at h
 ·rename_i v hv;exact⟨v,hv,h⟩
 ·exact h.elim
theorem tq{e:Env}:∀{l:List Operand}{acc:List Value}{K:List Value->Prop},oL e l acc K->
 ∃vs:List Value,vs.map some=l.map (mo e)/\K (acc++vs)
 |[],acc,K,h=>⟨[],rfl,by simpa[oL] using h⟩
 |x::xs,acc,K,h=>by
  obtain⟨v,hv,h⟩:=ma (show o1 e x _ from h)
  obtain⟨vs,hf,hk⟩:=tq h
  exact⟨v::vs,by simp[hf,hv],by simpa using hk⟩
theorem IS{e:Env}:∀{l:List (Nat×Operand)}{acc:List (Nat×Value)}{K:List (Nat×Value)->Prop},tQ e l acc K->
 ∃vs:List (Nat×Value),vs.map (λv=>(v.1,some v.2))=l.map (λx=>(x.1,mo e x.2))/\K (acc++vs)
 |[],acc,K,h=>⟨[],rfl,by simpa[tQ] using h⟩
 |(i,x)::xs,acc,K,h=>by
  obtain⟨v,hv,h⟩:=ma (show o1 e x _ from h)
  obtain⟨vs,hf,hk⟩:=IS h
  exact⟨(i,v)::vs,by simp[hf,hv],by simpa using hk⟩
theorem Xb{e:Env}{x:Option Operand}{K:Option Value->Prop}(h:oO e x K):∃v,K v/\(∀y,x=some y->∃u,v=some u/\mo e y=some u)/\(x=none->v=none):=by
 cases x with
 |none=>exact⟨none,h,by simp,by simp⟩
 |some y=>
  obtain⟨v,hv,h⟩:=ma (show o1 e y _ from h)
  exact⟨some v,h,by rintro _ ⟨⟩;exact⟨v,rfl,hv⟩,by simp⟩
def Yields(P:Program)(s:Sem Value)(v:Value):Prop:=∀w,s.run P w=.ok v w
section
variable {P:Program} {K:Value->Prop}
theorem zo{c:Prop}[Decidable c]{A:Prop}(h:if c then A else False):c/\A:=by
 split at h
 ·exact⟨‹_›,h⟩
 ·exact h.elim
theorem YZ{op:BinOp}{k k':IntKind}{a b:Int}{t:TypeId}(h:rT op k a k' b K):
 ∃v,K v/\Yields P (binOp op t (.int k a) (.int k' b)) v:=by
 cases op<;>simp only[rT] at h
 case shl=>obtain⟨h0,h⟩:=h;exact⟨_,h,λw=>by simp[binOp,Op.shift,pf,show¬b<0 by omega]⟩
 case shr=>obtain⟨h0,h⟩:=h;exact⟨_,h,λw=>by simp[binOp,Op.shift,kP,show¬b<0 by omega]⟩
 case quo=>obtain⟨hk,h0,h1⟩:=zo h;subst hk;exact⟨_,h1,λw=>by simp[binOp,Op.intDiv,h0]⟩
 case rem=>obtain⟨hk,h0,h1⟩:=zo h;subst hk;exact⟨_,h1,λw=>by simp[binOp,Op.intDiv,h0]⟩
 case eql=>obtain⟨hk,h1⟩:=zo h;subst hk;exact⟨_,h1,λw=>by simp[binOp,Op.intCmp,Bool.beq_eq_decide_eq]⟩
 case neq=>obtain⟨hk,h1⟩:=zo h;subst hk;exact⟨_,h1,λw=>by simp[binOp,Op.intCmp,bne,Bool.beq_eq_decide_eq]⟩
 all_goals (obtain⟨hk,h1⟩:=zo h;subst hk;exact⟨_,h1,λw=>by simp[binOp,Op.intArith,Op.intBits,Op.intCmp,lN,BT,Rp,JJ]⟩)
theorem toList_inj{a b:ByteArray}:a.toList=b.toList↔a=b:=by
 rw[ByteArray.toList_eq,ByteArray.toList_eq]
 constructor
 ·intro h;cases a;cases b;simp at h;simp[h]
 ·rintro rfl;rfl
theorem YY{op:BinOp}{a b:ByteArray}{t:TypeId}(h:TF op a b K):
 ∃v,K v/\Yields P (binOp op t (.string a) (.string b)) v:=by
 have hb:(a.toList==b.toList)=decide (a=b):=by
  rw[Bool.eq_iff_iff];simp[toList_inj]
 cases op<;>simp only[TF] at h<;>try exact h.elim
 case add=>
  obtain⟨h0,h⟩:=h
  refine⟨_,h,λw=>?_⟩
  have hm:¬((a.size+b.size:Nat):Int)>IntKind.i64.max:=by
   have:IntKind.i64.max=9223372036854775807:=by decide
   omega
  simp only[binOp,Op.stringOp]
  rw[if_neg hm]
  rfl
 case eql=>exact⟨_,h,λw=>by simp[binOp,Op.stringOp,hb]⟩
 case neq=>exact⟨_,h,λw=>by simp[binOp,Op.stringOp,hb]⟩
theorem pL{op:BinOp}{t:TypeId}{x y:Operand}{a b:Value}(h1:¬(a=.nilIface/\b=.nilIface))(h2:∀c d,¬(a=.agg c/\b=.agg d)):
 ∀w,(eqGuard op t x y a b).run P w=.ok () w:=by
 intro w
 unfold eqGuard
 have key:∀X Y:Sem Unit,Sem.run P (match a,b with|.nilIface,.nilIface=>X|.agg _,.agg _=>Y|_,_=>pure ()) w=.ok () w:=by
  intro X Y
  split
  ·exact absurd ⟨rfl,rfl⟩ h1
  ·exact absurd ⟨rfl,rfl⟩ (h2 _ _)
  ·rfl
 split<;>simp only[Bool.not_true,Bool.false_eq_true,if_false,Bool.not_false,if_true]<;>first|rfl|exact key _ _
theorem mm{t:TypeId}{d:TypeDesc}(h:P.underlying t=some d)(w:World):(underlying t).run P w=.ok d w:=by
 unfold underlying
 simp[h]
theorem Ey{t:TypeId}{i:TypeInfo}(h:P.info? t=some i)(w:World):(typeInfo t).run P w=.ok i w:=by
 unfold typeInfo
 simp[h]
theorem gL{t:TypeId}{i:TypeInfo}(h:P.info? t=some i)(w:World):(sizeOf t).run P w=.ok i.size w:=by
 unfold sizeOf
 simp[Ey h]
theorem wI{t:TypeId}{d:TypeDesc}(h:P.underlying t=some d)(w:World):(isAgg t).run P w=.ok (eT P t) w:=by
 unfold isAgg eT
 rw[Sem.run_bind,mm h,h]
 simp only[Result.andThen]
 cases d<;>rfl
theorem jx{t:TypeId}{K:Value->Prop}(h:re P t K):∃i z,P.info? t=some i/\i.zero=some z/\K z/\∀w,(zeroValue t).run P w=.ok z w:=by
 unfold re at h
 split at h
 ·rename_i i hi
  split at h
  ·rename_i z hz
   exact⟨i,z,hi,hz,h,λw=>by unfold zeroValue;rw[Sem.run_bind,Ey hi];simp[hz]⟩
  ·exact h.elim
 ·exact h.elim
theorem run_equal_bool{t:TypeId}(hu:P.underlying t=some .bool)(a b:Bool)(w:World):(Op.equal t (.bool a) (.bool b)).run P w=.ok (decide (a=b)) w:=by
 unfold Op.equal
 rw[show Op.maxDepth=9999+1 from rfl,Op.equalIn]
 rw[Sem.run_bind,mm hu]
 simp[Bool.beq_eq_decide_eq]
theorem wG{t e:TypeId}(hu:P.underlying t=some (.pointer e))(p:Option Addr)(w:World):(Op.equal t (.pointer p) (.pointer none)).run P w=.ok p.isNone w:=by
 unfold Op.equal
 rw[show Op.maxDepth=9999+1 from rfl,Op.equalIn]
 rw[Sem.run_bind,mm hu]
 cases p<;>simp
theorem ub{t e:TypeId}(hu:P.underlying t=some (.slice e))(p:Option Addr)(l c m d:Nat)(w:World):(Op.equal t (.slice p l c) (.slice none m d)).run P w=.ok p.isNone w:=by
 unfold Op.equal
 rw[show Op.maxDepth=9999+1 from rfl,Op.equalIn]
 rw[Sem.run_bind,mm hu]
 cases p<;>simp
theorem adU{neg:Bool}{t:TypeId}{x y:Value}(h:Yx P neg t x y K):
 ∃v,K v/\Yields P (binOp (match neg with|true=>.neq|false=>.eql) t x y) v/\¬(x=.nilIface/\y=.nilIface)/\∀c d,¬(x=.agg c/\y=.agg d):=by
 unfold Yx at h
 split at h
 ·rename_i hu
  split at h
  ·refine⟨_,h,λw=>?_,by simp,by simp⟩
   cases neg
   ·show Sem.run P (do pure (Value.bool (<-Op.equal t (.bool _) (.bool _)))) w=_
    simp[run_equal_bool hu]
   ·show Sem.run P (do pure (Value.bool (!(<-Op.equal t (.bool _) (.bool _))))) w=_
    simp[run_equal_bool hu]
  ·exact h.elim
 ·rename_i hu
  split at h
  ·refine⟨_,h,λw=>?_,by simp,by simp⟩
   cases neg
   ·show Sem.run P (do pure (Value.bool (<-Op.equal t (.pointer _) (.pointer none)))) w=_
    simp[wG hu]
   ·show Sem.run P (do pure (Value.bool (!(<-Op.equal t (.pointer _) (.pointer none))))) w=_
    simp[wG hu]
  ·exact h.elim
 ·rename_i hu
  split at h
  ·refine⟨_,h,λw=>?_,by simp,by simp⟩
   cases neg
   ·show Sem.run P (do pure (Value.bool (<-Op.equal t (.slice _ _ _) (.slice none _ _)))) w=_
    simp[ub hu]
   ·show Sem.run P (do pure (Value.bool (!(<-Op.equal t (.slice _ _ _) (.slice none _ _))))) w=_
    simp[ub hu]
  ·exact h.elim
 ·exact h.elim
theorem E9{e:TypeId}{a b:Value}{r:Bool}(h:xI P e a b=some r):P.plainKey e=true/\∀(d:Nat)(w:World),(Op.equalIn (d+1) e a b).run P w=.ok r w:=by
 unfold xI at h
 split at h
 ·rename_i k x k' y hu
  split at h
  ·rename_i hk
   subst hk
   obtain rfl:=Option.some.inj h
   exact⟨by simp[Program.plainKey,hu],λd w=>by rw[run_equalIn_int w d e _ _ x y hu,Bool.beq_eq_decide_eq]⟩
  ·cases h
 ·rename_i x y hu
  obtain rfl:=Option.some.inj h
  refine⟨by simp[Program.plainKey,hu],λd w=>?_⟩
  rw[run_equalIn_string w d e x y hu]
  have:(x.toList==y.toList)=decide (x=y):=by rw[Bool.eq_iff_iff];simp[toList_inj]
  rw[this]
 ·rename_i x y hu
  obtain rfl:=Option.some.inj h
  exact⟨by simp[Program.plainKey,hu],λd w=>by rw[run_equalIn_bool' w d e x y hu,Bool.beq_eq_decide_eq]⟩
 ·cases h
theorem Ho{e:TypeId}{xs ys:Array Value}{i:Nat}{r:Option Bool}{z:Bool}(h:Hq P e xs.toList ys.toList i r=some z):
 ∃a b x y,r=some y/\z=(x&&y)/\∀(d:Nat)(w:World),(part e xs i).run P w=.ok a w/\(part e ys i).run P w=.ok b w/\(Op.equalIn (d+1) e a b).run P w=.ok x w:=by
 unfold Hq at h
 split at h
 ·rename_i a b ha hb
  split at h
  ·rename_i x y hx
   obtain⟨hp,he⟩:=E9 hx
   refine⟨a,b,x,y,rfl,(Option.some.inj h).symm,λd w=>⟨run_part_plain w hp (by rw[<-Array.getElem?_toList];exact ha),run_part_plain w hp (by rw[<-Array.getElem?_toList];exact hb),he d w⟩⟩
  ·cases h
 ·cases h
theorem Bm{e:TypeId}{xs ys:Array Value}(hc:P.cellsOf e=1)(d:Nat)(w:World):∀(n i:Nat)(z:Bool),Mq P e xs.toList ys.toList n i=some z->(Op.eqItems (d+1) e (P.cellsOf e) xs ys (List.range' i n)).run P w=.ok z w
 |0,i,z,h=>by
  obtain rfl:=Option.some.inj h
  simp[Op.eqItems]
 |n+1,i,z,h=>by
  unfold Mq at h
  obtain⟨a,b,x,y,hr,rfl,hk⟩:=Ho h
  obtain⟨p1,p2,p3⟩:=hk d w
  have ih:=Bm hc d w n (i+1) y hr
  rw[hc] at ih
  rw[List.range'_succ,hc]
  simp only[Op.eqItems,Sem.run_bind,Nat.mul_one,p1,p2,p3,Result.andThen_ok]
  cases x
  ·simp
  ·simpa using ih
theorem xE{xs ys:Array Value}(d:Nat)(w:World):∀(fs:List Field)(z:Bool),Bl P xs.toList ys.toList fs=some z->(Op.eqFields (d+1) xs ys fs).run P w=.ok z w
 |[],z,h=>by
  obtain rfl:=Option.some.inj h
  simp[Op.eqFields]
 |f::fs,z,h=>by
  unfold Bl at h
  cases hn:(f.name== "_")<;>rw[hn] at h<;>simp only[cond_true,cond_false] at h
  ·obtain⟨a,b,x,y,hr,rfl,hk⟩:=Ho h
   obtain⟨p1,p2,p3⟩:=hk d w
   have ih:=xE d w fs y hr
   have Ow:f.name≠ "_" :=by simpa using hn
   simp only[Op.eqFields,if_pos Ow,Sem.run_bind,p1,p2,p3,Result.andThen_ok]
   cases x
   ·simp
   ·simpa using ih
  ·cases h
theorem OG{neg:Bool}{t:TypeId}{xs ys:Array Value}(h:Fa P neg t xs ys K){ox oy:Operand}{op:BinOp}(Bd:isEq op=some neg):
 ∃v,K v/\Yields P (do eqGuard op t ox oy (.agg xs) (.agg ys);binOp op t (.agg xs) (.agg ys)) v:=by
 unfold Fa at h
 cases hg:P.eqGuardType P.depth t<;>rw[hg] at h<;>simp only[cond_true,cond_false] at h
 ·have fin:∀z:Bool,(∀w,(Op.equalIn (9998+1+1) t (.agg xs) (.agg ys)).run P w=.ok z w)->K (.bool (bif neg then !z else z))->
   ∃v,K v/\Yields P (do eqGuard op t ox oy (.agg xs) (.agg ys);binOp op t (.agg xs) (.agg ys)) v:=by
   intro z hz hk
   refine⟨_,hk,λw=>?_⟩
   have hz:=hz w
   rw[Sem.run_bind,run_eqGuard_agg w op t ox oy xs ys hg]
   simp only[Result.andThen_ok]
   cases op<;>simp[isEq] at Bd<;>subst Bd
   ·rw[run_eql_struct]
    rw[show(10000:Nat)=9998+1+1 from rfl,hz]
    rfl
   ·rw[run_neq_struct]
    rw[show(10000:Nat)=9998+1+1 from rfl,hz]
    rfl
  split at h
  ·rename_i n e hu
   cases hc:(Nat.beq (P.cellsOf e) 1&&(P.info? e).isSome)<;>rw[hc] at h<;>simp only[cond_true,cond_false] at h
   ·obtain⟨h1,h2⟩:=Bool.and_eq_true_iff.1 hc
    have h1:=Nat.eq_of_beq_eq_true h1
    obtain⟨i,hi⟩:=Option.isSome_iff_exists.1 h2
    split at h
    ·rename_i z hz
     refine fin z (λw=>?_) h
     rw[run_equalIn_array w _ xs ys hu hi,List.range_eq_range']
     exact Bm h1 _ w n 0 z hz
    ·exact h.elim
  ·rename_i fs hu
   cases hs:P.stoodInHeld t<;>rw[hs] at h<;>simp only[cond_true,cond_false] at h
   ·split at h
    ·rename_i z hz
     refine fin z (λw=>?_) h
     have yW:P.fieldsOf t=fs:=by simp[Program.fieldsOf,hu]
     rw[run_equalIn_struct w _ t xs ys (by rw[yW];exact hu) hs,yW]
     exact xE _ w _ z hz
    ·exact h.elim
  ·exact h.elim
theorem OQ{op:BinOp}{t:TypeId}{x y:Value}(h:ia P op t x y K){ox oy:Operand}:
 ∃v,K v/\Yields P (do eqGuard op t ox oy x y;binOp op t x y) v:=by
 have key:∀v,K v->Yields P (binOp op t x y) v->¬(x=.nilIface/\y=.nilIface)->(∀c d,¬(x=.agg c/\y=.agg d))->
  ∃v,K v/\Yields P (do eqGuard op t ox oy x y;binOp op t x y) v:=λv hk hy h1 h2=>
  ⟨v,hk,λw=>by rw[Sem.run_bind,pL h1 h2];exact hy w⟩
 have keq:(match isEq op with|some neg=>Yx P neg t x y K|none=>False)->∃v,K v/\Yields P (do eqGuard op t ox oy x y;binOp op t x y) v:=by
  intro h
  split at h
  ·rename_i neg hn
   obtain⟨v,hk,hy,h1,h2⟩:=adU h
   refine key v hk ?_ h1 h2
   cases op<;>simp[isEq] at hn<;>subst hn<;>exact hy
  ·exact h.elim
 cases x
 case int k a=>
  simp only[ia] at h
  cases y<;>simp only at h<;>try exact h.elim
  obtain⟨v,hk,hy⟩:=YZ (P:=P) (t:=t) h
  exact key v hk hy (by simp) (by simp)
 case string a=>
  simp only[ia] at h
  cases y<;>simp only at h<;>try exact h.elim
  obtain⟨v,hk,hy⟩:=YY (P:=P) (t:=t) h
  exact key v hk hy (by simp) (by simp)
 case agg xs=>
  simp only[ia] at h
  cases y<;>simp only at h<;>try exact h.elim
  split at h
  ·rename_i neg hn
   exact OG h hn
  ·exact h.elim
 all_goals exact keq h
end
end Go.Ex
namespace Go.Ex
section
variable {P:Program} {K:Value->Prop}
theorem Tx{src dst:TypeId}{x:Value}(h:Mx P src dst x K):∃v,K v/\Yields P (convert src dst x) v:=by
 unfold Mx at h
 split at h
 ·exact h.elim
 ·rename_i ds hs
  split at h
  ·rename_i k _ n hd
   exact⟨_,h,λw=>by unfold convert;rw[Sem.run_bind,mm hs];simp only[Result.andThen];rw[Sem.run_bind,mm hd];simp[Conv.intToInt]⟩
  ·rename_i s hd
   exact⟨_,h,λw=>by unfold convert;rw[Sem.run_bind,mm hs];simp only[Result.andThen];rw[Sem.run_bind,mm hd];rfl⟩
  ·exact h.elim
theorem Xv{t T:TypeId}{x:Value}(h:I6 P t x K):∃v,K v/\Yields P (Builtin.len_ #[t] T #[x]) v:=by
 unfold I6 at h
 split at h<;>first|exact h.elim|(rename_i hu;exact⟨_,h,λw=>by unfold Builtin.len_;simp[mm hu,goInt]⟩)
theorem YR{t T:TypeId}{x:Value}(h:TB P t x K):∃v,K v/\Yields P (Builtin.cap_ #[t] T #[x]) v:=by
 unfold TB at h
 split at h<;>first|exact h.elim|(rename_i hu;exact⟨_,h,λw=>by unfold Builtin.cap_;simp[mm hu,goInt]⟩)
theorem LH:∀{r:List Value}{x:Value},S0 x r K->∃v,K v/\Yields P (r.foldlM Builtin.max2 x) v
 |[],x,h=>⟨x,by simpa[S0] using h,λw=>by simp⟩
 |y::r,x,h=>by
  cases x<;>cases y<;>simp only[S0] at h<;>try exact h.elim
  rename_i k a k' b
  obtain⟨v,hk,hy⟩:=LH h
  refine⟨v,hk,λw=>?_⟩
  rw[List.foldlM_cons,Sem.run_bind]
  have e:(if b>a then b else a)=max a b:=by split<;>omega
  simp only[Builtin.max2,Sem.run_pure,Result.andThen,e]
  exact hy w
theorem LG:∀{r:List Value}{x:Value},SZ x r K->∃v,K v/\Yields P (r.foldlM Builtin.min2 x) v
 |[],x,h=>⟨x,by simpa[SZ] using h,λw=>by simp⟩
 |y::r,x,h=>by
  cases x<;>cases y<;>simp only[SZ] at h<;>try exact h.elim
  rename_i k a k' b
  obtain⟨v,hk,hy⟩:=LG h
  refine⟨v,hk,λw=>?_⟩
  rw[List.foldlM_cons,Sem.run_bind]
  have e:(if b<a then b else a)=min a b:=by split<;>omega
  simp only[Builtin.min2,Sem.run_pure,Result.andThen,e]
  exact hy w
theorem zK{x:Option Value}{d y:Nat}{K:Nat->Prop}(h:Gc x d y K):
 ∃n,K n/\(x=none->n=d)/\∀v,x=some v->∀c w,(Instr.sliceBound v y c).run P w=.ok n w:=by
 unfold Gc at h
 split at h
 ·exact⟨_,h,by simp,by simp⟩
 ·rename_i k i
  obtain⟨h0,h1,h⟩:=h
  refine⟨_,h,by simp,?_⟩
  rintro v ⟨⟩ c w
  unfold Instr.sliceBound
  simp[asIntOf,h0,h1]
 ·exact h.elim
theorem kT(i s:Nat):oM i s=i*s:=by
 unfold oM
 cases hb:Nat.beq s 1
 ·rfl
 ·have:=Nat.eq_of_beq_eq_true hb;subst this;simp
theorem ua{b:Bool}{len cap:Nat}{lo hi:Option Value}{h l:Nat}
 (Gx:hi=none->h=len)(Cc:∀v,hi=some v->∀c w,(Instr.sliceBound v cap c).run P w=.ok h w)
 (u3:lo=none->l=0)(rR:∀v,lo=some v->∀c w,(Instr.sliceBound v h c).run P w=.ok l w)(w:World):
 (Instr.sliceBounds b len cap lo hi none).run P w=.ok (l,h,cap) w:=by
 unfold Instr.sliceBounds
 cases hi with
 |none=>
  obtain rfl:=Gx rfl
  cases lo with
  |none=>obtain rfl:=u3 rfl;simp
  |some v=>simp[rR v rfl]
 |some u=>
  cases lo with
  |none=>obtain rfl:=u3 rfl;simp[Cc u rfl]
  |some v=>simp[rR v rfl,Cc u rfl]
theorem NN{t:TypeId}{x:Value}{lo hi:Option Value}(h:rN P t x lo hi K):∃v,K v/\Yields P (Instr.sliceAt t x lo hi none) v:=by
 unfold rN at h
 split at h
 ·rename_i s hu
  obtain⟨n,h,Gx,Cc⟩:=zK (P:=P) h
  obtain⟨l,h,u3,rR⟩:=zK (P:=P) h
  refine⟨_,h,λw=>?_⟩
  unfold Instr.sliceAt Instr.slice
  simp[mm hu,ua Gx Cc u3 rR]
 ·rename_i e p n c hu
  obtain⟨n,h,Gx,Cc⟩:=zK (P:=P) h
  obtain⟨l,h,u3,rR⟩:=zK (P:=P) h
  split at h
  ·rename_i i hi
   refine⟨_,h,λw=>?_⟩
   unfold Instr.sliceAt Instr.slice
   simp[mm hu,ua Gx Cc u3 rR,gL hi,kT]
  ·exact h.elim
 ·exact h.elim
theorem EO{t:TypeId}{x ix:Value}(h:oq P t x ix K):∃v,K v/\Yields P (Instr.indexAt t x ix) v:=by
 unfold oq at h
 split at h
 ·rename_i k i
  split at h
  ·rename_i e p n c hu
   obtain⟨a,rfl,h0,h1,h⟩:=h
   split at h
   ·rename_i j hj
    refine⟨_,h,λw=>?_⟩
    unfold Instr.indexAt
    simp[mm hu,asIntOf,h0,h1,gL hj,kT]
   ·exact h.elim
  ·rename_i n e a hu
   obtain⟨h0,h1,h⟩:=h
   split at h
   ·rename_i j hj
    refine⟨_,h,λw=>?_⟩
    unfold Instr.indexAt
    simp[mm hu,asIntOf,Instr.sureAddr,h0,h1,gL hj,kT]
   ·exact h.elim
  ·exact h.elim
 ·exact h.elim
theorem Oi{t:TypeId}{x ix:Value}(h:Ja P t x ix K):∃v,K v/\Yields P (Instr.index t x ix) v:=by
 unfold Ja at h
 split at h
 ·rename_i k i
  split at h
  ·rename_i s hu
   obtain⟨h0,h1,h⟩:=h
   refine⟨_,h,λw=>?_⟩
   have lC:i.toNat<s.size:=by omega
   have e:s[i.toNat]?=some (s.data.toList.getD i.toNat 0):=by
    rw[getElem?_pos s i.toNat lC]
    have hl:i.toNat<s.data.toList.length:=by simpa using lC
    rw[List.getD_eq_getElem?_getD,List.getElem?_eq_getElem hl]
    rfl
   unfold Instr.index bt
   simp[mm hu,asIntOf,h0,e]
  ·exact h.elim
 ·exact h.elim
theorem W4{t:TypeId}{cs:Array Value}{off:Nat}{d:TypeDesc}(hd:P.underlying t=some d)(h:Lt P t cs off K)(hi:(P.info? t).isSome=true):∃v,K v/\Yields P (part t cs off) v:=by
 unfold Lt at h
 split at h
 ·rename_i ha
  obtain⟨i,hi⟩:=Option.isSome_iff_exists.1 hi
  refine⟨_,h,λw=>?_⟩
  unfold part
  simp[wI hd,ha,gL hi,ir,hi]
 ·rename_i ha
  split at h
  ·rename_i v hv
   exact⟨_,h,λw=>by unfold part;simp[wI hd,ha,hv]⟩
  ·exact h.elim
theorem OD{t:TypeId}{x:Value}{f:Nat}(h:E5 P t x f K):∃v,K v/\Yields P (Instr.field t x f) v:=by
 unfold E5 at h
 split at h
 ·rename_i fs cs hu
  split at h
  ·rename_i fd hf
   split at h
   ·rename_i d i hd hi
    obtain⟨v,hk,hy⟩:=W4 hd h (by simp[hi])
    refine⟨v,hk,λw=>?_⟩
    unfold Instr.field
    simp[mm hu,hf,asAgg,hy w]
   ·exact h.elim
  ·exact h.elim
 ·exact h.elim
theorem E6{t:TypeId}{x:Value}{f:Nat}(h:tF P t x f K):∃v,K v/\Yields P (Instr.fieldAt t x f) v:=by
 unfold tF at h
 split at h
 ·rename_i fs a hu
  split at h
  ·rename_i fd hf
   split at h
   ·rename_i i hi
    cases hb:Nat.beq i.size 0 with
    |true=>rw[hb] at h;exact h.elim
    |false=>
     rw[hb] at h
     have hZ:¬i.size=0:=by intro e;rw[e] at hb;simp at hb
     refine⟨_,h,λw=>?_⟩
     unfold Instr.fieldAt
     simp[mm hu,hf,Instr.sureAddr,fieldPlace,gL hi,hZ]
   ·exact h.elim
  ·exact h.elim
 ·exact h.elim
theorem qx{x v z:Value}{X T:TypeId}{ok:Bool}{d:TypeDesc}(hu:P.underlying T=some d)(hd:∀m,d≠.interface m)
 (hz:∀w,(zeroValue T).run P w=.ok z w)(h:pc x T v z ok):Yields P (Instr.typeAssert x X T true) (.tuple #[v,.bool ok]):=by
 intro w
 unfold Instr.typeAssert
 rw[Sem.run_bind,mm hu]
 simp only[Result.andThen]
 rcases h with⟨rfl,rfl⟩|⟨rfl,rfl,rfl|⟨t,u,rfl,hZ⟩⟩
 ·cases d<;>first|exact absurd rfl (hd _)|simp
 ·cases d<;>first|exact absurd rfl (hd _)|simp[hz]
 ·cases d<;>first|exact absurd rfl (hd _)|simp[hz,hZ]
theorem tZ{v:Value}{X T:TypeId}{d:TypeDesc}(hu:P.underlying T=some d)(hd:∀m,d≠.interface m):
 Yields P (Instr.typeAssert (.iface T v) X T false) v:=by
 intro w
 unfold Instr.typeAssert
 rw[Sem.run_bind,mm hu]
 simp only[Result.andThen]
 cases d<;>first|exact absurd rfl (hd _)|simp
theorem MG{x:Value}{X T:TypeId}{ok:Bool}(h:JG P x T ok K):∃v,K v/\Yields P (Instr.typeAssert x X T ok) v:=by
 unfold JG at h
 split at h
 ·exact h.elim
 ·exact h.elim
 ·rename_i d hZ hu
  have hd:∀m,d≠.interface m:=λm e=>hZ m e
  cases ok with
  |true=>
   simp only at h
   obtain⟨i,z,hi,hz,h,FN⟩:=jx h
   obtain⟨v,h⟩:=zB h
   obtain⟨b,hr,h⟩:=h
   exact⟨_,h,qx hu hd FN hr⟩
  |false=>
   simp only at h
   obtain⟨v,h1⟩:=zB h
   obtain⟨h2,h3⟩:=h1
   subst h2
   exact⟨_,h3,tZ hu hd⟩
theorem Jq{x:Value}{i:Nat}(h:zx x i K):∃v,K v/\Yields P (Instr.extract x i) v:=by
 unfold zx at h
 split at h
 ·split at h
  ·rename_i vs _ v hv
   exact⟨_,h,λw=>by unfold Instr.extract;simp[hv]⟩
  ·exact h.elim
 ·exact h.elim
theorem Oj{t:TypeId}{x:Value}(h:Jc P t x K):∃v,K v/\Yields P (Instr.makeInterface t x) v:=by
 unfold Jc at h
 split at h
 ·exact h.elim
 ·exact h.elim
 ·rename_i d hZ hu
  refine⟨_,h,λw=>?_⟩
  unfold Instr.makeInterface
  rw[Sem.run_bind,mm hu]
  simp only[Result.andThen]
  cases d<;>first|exact absurd hu (hZ _)|simp
theorem acG{op:UnOp}{x:Value}(h:Aj op x K):∃v,K v/\Yields P (Op.unary op x) v:=by
 unfold Aj at h
 split at h
 ·exact⟨_,h,λw=>by simp[Op.unary,Op.intArith]⟩
 ·exact⟨_,h,λw=>by simp[Op.unary]⟩
 ·exact⟨_,h,λw=>by simp[Op.unary,Op.intBits,SW]⟩
 ·exact h.elim
theorem F4{x:Value}(h:vN x K):∃a,x=.pointer (some a)/\K (.pointer (some a)):=by
 unfold vN at h
 split at h
 ·obtain⟨a,rfl,h⟩:=h;exact⟨a,rfl,h⟩
 ·exact h.elim
end
end Go.Ex
namespace Go.Ex
section
variable {P:Program}
theorem zn{α β:Type}(g:α->Sem β)(h:α->β)(w:World):∀l:List α,(∀x∈l,(g x).run P w=.ok (h x) w)->(l.mapM g).run P w=.ok (l.map h) w
 |[],_=>by simp
 |x::l,hh=>by
  rw[List.mapM_cons]
  simp[hh x (by simp),zn g h w l (λy hy=>hh y (by simp[hy]))]
theorem MH{α β:Type}(g:α->Sem β)(h:α->β)(w:World)(a:Array α)(hh:∀x∈a,(g x).run P w=.ok (h x) w):(a.mapM g).run P w=.ok (a.map h) w:=by
 rw[Array.mapM_eq_mapM_toList,Sem.run_map,zn g h w a.toList (λx hx=>hh x (by simpa using hx))]
 cases a;simp
theorem EB{v:Value}{K:Prop}(h:A1 v K):K/\v.cells=#[v]/\(∀c,v≠.agg c)/\(∀c,v≠.tuple c):=by
 unfold A1 at h
 cases v<;>first|exact h.elim|exact⟨h,rfl,by simp,by simp⟩
theorem wB(off:Nat):∀(l:List Value)(k:Nat)(cs:List Value),
 (l.zipIdx k).foldl (λ(cs:Array Value)(x:Value×Nat)=>cs.setIfInBounds (off+x.2) x.1) cs.toArray=(oK cs (off+k) l).toArray
 |[],k,cs=>rfl
 |v::l,k,cs=>by
  simp only[List.zipIdx_cons,List.foldl_cons,List.setIfInBounds_toArray,oK]
  rw[wB off l (k+1)]
  rfl
theorem HI(off:Nat)(vs:Array Value)(cs:List Value):
 vs.zipIdx.foldl (λ(cs:Array Value)(x:Value×Nat)=>cs.setIfInBounds (off+x.2) x.1) cs.toArray=(oK cs off vs.toList).toArray:=by
 rw[<-Array.foldl_toList,Array.toList_zipIdx]
 exact wB off vs.toList 0 cs
theorem ou{place:Nat->Option (Nat×Nat×Bool)}:∀{parts:List (Nat×Value)}{cells:List Value}{K:List Value->Prop},pr place cells parts K->
 ∃cs,K cs/\Instr.fill (λi=>(place i).map λx=>(x.1,x.2.1)) cells.toArray parts=some cs.toArray
 |[],cells,K,h=>⟨cells,by simpa[pr] using h,rfl⟩
 |(i,v)::rest,cells,K,h=>by
  simp only[pr] at h
  split at h
  ·exact h.elim
  ·rename_i off size agg hp
   cases agg with
   |false=>
    simp only at h
    obtain⟨h,hc,_,_⟩:=EB h
    cases hb:(Nat.blt off cells.length&&Nat.beq size 1) with
    |false=>rw[hb] at h;exact h.elim
    |true=>
     rw[hb] at h
     simp only[Bool.and_eq_true] at hb
     have h1:off<cells.length:=by have:=hb.1;rw[Nat.blt_eq] at this;exact this
     have h2:size=1:=Nat.eq_of_beq_eq_true hb.2
     obtain⟨cs,hk,hf⟩:=ou (show pr place (cells.set off v) rest K from h)
     refine⟨cs,hk,?_⟩
     unfold Instr.fill
     simp only[hp,Option.map_some,hc]
     rw[if_neg (by simp[h2];omega)]
     rw[<-hf]
     congr 1
     simp
   |true=>
    simp only at h
    split at h
    ·rename_i vs
     cases hb:(Nat.beq vs.size size&&Nat.ble (off+vs.size) cells.length) with
     |false=>rw[hb] at h;exact h.elim
     |true=>
      rw[hb] at h
      simp only[Bool.and_eq_true] at hb
      have h1:vs.size=size:=Nat.eq_of_beq_eq_true hb.1
      have h2:off+vs.size<=cells.length:=Nat.le_of_ble_eq_true hb.2
      obtain⟨cs,hk,hf⟩:=ou (show pr place (oK cells off vs.toList) rest K from h)
      refine⟨cs,hk,?_⟩
      unfold Instr.fill
      simp only[hp,Option.map_some]
      rw[if_neg (by simp[Value.cells,h1];omega)]
      rw[<-hf]
      congr 1
      exact HI off vs cells
    ·exact h.elim
theorem oD(v:Value):v.cells=(dD v).toArray:=by cases v<;>rfl
theorem OL{K:Value->Prop}{t:TypeId}{parts:List (Nat×Value)}(h:JB P t parts K):∃v,K v/\Yields P (Instr.build t parts.toArray) v:=by
 unfold JB at h
 obtain⟨i,z,hi,hz,h,FN⟩:=jx h
 split at h
 ·rename_i fs hu
  cases hb:C7 P fs with
  |false=>rw[hb] at h;exact h.elim
  |true=>
   rw[hb] at h
   obtain⟨cs,hk,hf⟩:=ou (show pr (Ez P fs) (dD z) parts _ from h)
   refine⟨_,hk,λw=>?_⟩
   have hm:(fs.mapM λ(f:Field)=>do pure (f.offset,<-sizeOf f.type)).run P w=.ok (fs.map λ(f:Field)=>(f.offset,ir P f.type)) w:=by
    refine MH _ _ w fs λf hf=>?_
    unfold C7 at hb
    have hs:=(Array.all_eq_true_iff_forall_mem.1 hb) f hf
    obtain⟨j,hj⟩:=Option.isSome_iff_exists.1 hs
    rw[Sem.run_bind,gL hj]
    simp[ir,hj]
   have e:(λ(i:Nat)=>(fs.map λ(f:Field)=>(f.offset,ir P f.type))[i]?)=λi=>(Ez P fs i).map λx=>(x.1,x.2.1):=by
    funext i
    unfold Ez
    rw[Array.getElem?_map]
    cases fs[i]?<;>rfl
   unfold Instr.build
   rw[Sem.run_bind,FN]
   simp only[Result.andThen]
   rw[Sem.run_bind,mm hu]
   simp only[Result.andThen]
   rw[Sem.run_bind,hm]
   simp only[Result.andThen,oD]
   rw[e,hf]
   rfl
 ·rename_i n el hu
  cases hb:(P.info? el).isSome with
  |false=>rw[hb] at h;exact h.elim
  |true=>
   rw[hb] at h
   obtain⟨j,hj⟩:=Option.isSome_iff_exists.1 hb
   obtain⟨cs,hk,hf⟩:=ou (show pr (λi=>some (i*ir P el,ir P el,eT P el)) (dD z) parts _ from h)
   refine⟨_,hk,λw=>?_⟩
   have es:ir P el=j.size:=by simp[ir,hj]
   simp only[es,Option.map_some] at hf
   unfold Instr.build
   rw[Sem.run_bind,FN]
   simp only[Result.andThen]
   rw[Sem.run_bind,mm hu]
   simp only[Result.andThen]
   rw[Sem.run_bind,gL hj]
   simp only[Result.andThen,oD]
   rw[hf]
   rfl
 ·exact h.elim
theorem fc.list{e:Env}{ρ:Operand->Value}{l:List Operand}{vs:List Value}(h:vs.map some=l.map (mo e))(ha:fc e ρ l):l.map ρ=vs:=by
 induction l generalizing vs with
 |nil=>cases vs<;>simp_all
 |cons x l ih=>
  cases vs with
  |nil=>simp at h
  |cons v vs=>
   simp only[List.map_cons,List.cons.injEq] at h
   rw[List.map_cons,ha x (by simp) v h.1.symm,ih h.2 (λy hy=>ha y (by simp[hy]))]
theorem fc.GX{e:Env}{ρ:Operand->Value}{l:List (Nat×Operand)}{vs:List (Nat×Value)}(h:vs.map (λv=>(v.1,some v.2))=l.map (λx=>(x.1,mo e x.2)))(ha:fc e ρ (l.map (·.2))):
 l.map (λx=>(x.1,ρ x.2))=vs:=by
 induction l generalizing vs with
 |nil=>cases vs<;>simp_all
 |cons x l ih=>
  cases vs with
  |nil=>simp at h
  |cons v vs=>
   simp only[List.map_cons,List.cons.injEq,Prod.mk.injEq] at h
   rw[List.map_cons,ha x.2 (by simp) v.2 h.1.2.symm,ih h.2 (λy hy=>ha y (by simp at hy⊢;exact .inr hy)),<-h.1.1]
theorem Mp{o:Oper}{e:Env}{K:Value->Prop}(h:dF P o.op e K):
 ∃v,K v/\∀ρ,fc e ρ o.op.operands.toList->∀w,(execOp ρ o).run P w=.ok (.value v) w:=by
 have lift:∀{s:Sem Value},(∃v,K v/\Yields P s v)->(∀ρ,fc e ρ o.op.operands.toList->execOp ρ o=do pure (.value (<-s)))->∃v,K v/\∀ρ,fc e ρ o.op.operands.toList->∀w,(execOp ρ o).run P w=.ok (.value v) w:=by
  rintro s ⟨v,hk,hy⟩ e
  refine⟨v,hk,λρ ha w=>?_⟩
  rw[e ρ ha,Sem.run_bind,hy w]
  rfl
 obtain⟨dst,op,type,pos,after,guard⟩:=o
 simp only at h lift⊢
 unfold dF at h
 split at h
 ·rename_i x
  obtain⟨v,hv,hk⟩:=ma h
  exact⟨v,hk,λρ ha w=>by simp[execOp,ha x (by simp[Op.operands]) v hv]⟩
 ·rename_i x
  obtain⟨v,hv,hk⟩:=ma h
  exact⟨v,hk,λρ ha w=>by simp[execOp,ha x (by simp[Op.operands]) v hv]⟩
 ·rename_i c a b
  obtain⟨vc,hv,hk⟩:=ma h
  split at hk
  ·rename_i t
   rcases wa hk with⟨rfl,hk⟩|⟨rfl,hk⟩
   ·obtain⟨u,hu,hk⟩:=ma hk
    exact⟨u,hk,λρ ha w=>by simp[execOp,ha c (by simp[Op.operands]) _ hv,asBool,ha a (by simp[Op.operands]) u hu]⟩
   ·obtain⟨u,hu,hk⟩:=ma hk
    exact⟨u,hk,λρ ha w=>by simp[execOp,ha c (by simp[Op.operands]) _ hv,asBool,ha b (by simp[Op.operands]) u hu]⟩
  ·exact hk.elim
 ·rename_i x
  obtain⟨v,hv,hk⟩:=ma h
  obtain⟨a,hva,ZR⟩:=F4 hk
  exact⟨_,ZR,λρ ha w=>by simp[execOp,ha x (by simp[Op.operands]) _ hv,hva]⟩
 ·rename_i bop t x y _
  obtain⟨vx,hx,h⟩:=ma h
  obtain⟨vy,hy,h⟩:=ma h
  refine lift (OQ h (ox:=x) (oy:=y)) λρ ha=>?_
  simp only[execOp,ha x (by simp[Op.operands]) _ hx,ha y (by simp[Op.operands]) _ hy]
 ·rename_i uop _ x
  obtain⟨v,hv,h⟩:=ma h
  exact lift (acG h) (λρ ha=>by simp only[execOp,ha x (by simp[Op.operands]) _ hv])
 ·rename_i s d x
  obtain⟨v,hv,h⟩:=ma h
  exact lift (Tx h) (λρ ha=>by simp only[execOp,ha x (by simp[Op.operands]) _ hv])
 ·rename_i t x
  obtain⟨v,hv,h⟩:=ma h
  exact lift (Oj h) (λρ ha=>by simp only[execOp,ha x (by simp[Op.operands]) _ hv])
 ·rename_i t x lo hi
  obtain⟨v,hv,h⟩:=ma h
  obtain⟨l,h,u3,rR⟩:=Xb h
  obtain⟨u,h,hu1,P0⟩:=Xb h
  refine lift (NN h) λρ ha=>?_
  have el:lo.map ρ=l:=by
   cases lo with
   |none=>rw[rR rfl];rfl
   |some y=>obtain⟨z,rfl,hz⟩:=u3 y rfl;simp[ha y (by simp[Op.operands]) z hz]
  have eu:hi.map ρ=u:=by
   cases hi with
   |none=>rw[P0 rfl];rfl
   |some y=>obtain⟨z,rfl,hz⟩:=hu1 y rfl;simp[ha y (by simp[Op.operands]) z hz]
  simp only[execOp,ha x (by simp[Op.operands]) _ hv,el,eu,Option.map_none]
 ·rename_i t x f
  obtain⟨v,hv,h⟩:=ma h
  exact lift (E6 h) (λρ ha=>by simp only[execOp,ha x (by simp[Op.operands]) _ hv])
 ·rename_i t x f
  obtain⟨v,hv,h⟩:=ma h
  exact lift (OD h) (λρ ha=>by simp only[execOp,ha x (by simp[Op.operands]) _ hv])
 ·rename_i t x ix
  obtain⟨v,hv,h⟩:=ma h
  obtain⟨i,hi,h⟩:=ma h
  exact lift (EO h) (λρ ha=>by simp only[execOp,ha x (by simp[Op.operands]) _ hv,ha ix (by simp[Op.operands]) _ hi])
 ·rename_i t x ix
  obtain⟨v,hv,h⟩:=ma h
  obtain⟨i,hi,h⟩:=ma h
  exact lift (Oi h) (λρ ha=>by simp only[execOp,ha x (by simp[Op.operands]) _ hv,ha ix (by simp[Op.operands]) _ hi])
 ·rename_i x X T ok
  obtain⟨v,hv,h⟩:=ma h
  exact lift (MG (X:=X) h) (λρ ha=>by simp only[execOp,ha x (by simp[Op.operands]) _ hv])
 ·rename_i x i
  obtain⟨v,hv,h⟩:=ma h
  exact lift (Jq h) (λρ ha=>by simp only[execOp,ha x (by simp[Op.operands]) _ hv])
 ·rename_i t parts
  obtain⟨ps,hp,h⟩:=IS h
  refine lift (OL (by simpa using h)) λρ ha=>?_
  have e:(parts.map λ(x:Nat×Operand)=>(x.1,ρ x.2))=ps.toArray:=by
   have:=fc.GX hp (λy hy=>ha y (by simp[Op.operands];simpa using hy))
   rw[<-this]
   cases parts;simp
  simp only[execOp,e]
 ·rename_i args ts
  split at h
  ·rename_i x t hx ht
   obtain⟨v,hv,h⟩:=ma h
   have ea:args=#[x]:=by cases args;simpa using hx
   have et:ts=#[t]:=by cases ts;simpa using ht
   subst ea et
   refine lift (Xv (T:=type) h) λρ ha=>?_
   simp only[execOp,resolve,List.map_toArray,List.map_cons,List.map_nil,ha x (by simp[Op.operands,Call.operands]) _ hv,pure_bind,invoke,builtin]
  ·exact h.elim
 ·rename_i args ts
  split at h
  ·rename_i x t hx ht
   obtain⟨v,hv,h⟩:=ma h
   have ea:args=#[x]:=by cases args;simpa using hx
   have et:ts=#[t]:=by cases ts;simpa using ht
   subst ea et
   refine lift (YR (T:=type) h) λρ ha=>?_
   simp only[execOp,resolve,List.map_toArray,List.map_cons,List.map_nil,ha x (by simp[Op.operands,Call.operands]) _ hv,pure_bind,invoke,builtin]
  ·exact h.elim
 ·rename_i args ts
  obtain⟨vs,Co,h⟩:=tq h
  simp only[List.nil_append] at h
  split at h
  ·rename_i v r
   refine lift (LH h) λρ ha=>?_
   have ea:=fc.list Co (λy hy=>ha y (by simp[Op.operands,Call.operands];simpa using hy))
   have Js:args.map ρ=(v::r).toArray:=by rw[<-ea];cases args;simp
   simp only[execOp,resolve,Js,pure_bind,invoke,builtin,Builtin.max_]
  ·exact h.elim
 ·rename_i args ts
  obtain⟨vs,Co,h⟩:=tq h
  simp only[List.nil_append] at h
  split at h
  ·rename_i v r
   refine lift (LG h) λρ ha=>?_
   have ea:=fc.list Co (λy hy=>ha y (by simp[Op.operands,Call.operands];simpa using hy))
   have Js:args.map ρ=(v::r).toArray:=by rw[<-ea];cases args;simp
   simp only[execOp,resolve,Js,pure_bind,invoke,builtin,Builtin.min_]
  ·exact h.elim
 ·exact h.elim
theorem jm{o:Oper}{e:Env}{K:Value->Prop}(h:jn P o.op e K):
 ∃v,K v/\∀ρ,fc e ρ o.op.operands.toList->∀w,(execOp ρ o).run P w=.ok (.value v) w:=by
 rcases h with h|h
 ·exact Mp h
 ·exact h o rfl
end
end Go.Ex
namespace Go.Ex
section
variable {P:Program}
theorem cell_of{w:World}{H:Heap}(hw:w.heap=H){a:Addr}{v:Value}(h:dj H a=some v):w.cell? a=some v:=by rw[kA,hw,h]
theorem add_zero(a:Addr):a.add 0=a:=by simp[Addr.add]
theorem Li{w:World}{p:Option Addr}{l c:Nat}{s:ByteArray}(h:tU w.heap p l s):(Conv.bytesToString (.slice p l c)).run P w=.ok (.string s) w:=by
 cases p with
 |none=>unfold tU at h;subst h;rfl
 |some a=>
  obtain⟨hs,hc⟩:=h
  have hlen:(mg s).length=l:=by unfold mg;rw[List.length_map,Array.length_toList];exact hs
  have ju:=run_loadCells_list (P:=P) w a (mg s) (λj v hj=>cell_of rfl (hc j v hj))
  rw[hlen] at ju
  have e:(mg s).toArray=((s.data.toList.map λb=>(b.toNat:Int)).map (Value.int .u8)).toArray:=by
   unfold mg;rw[List.map_map];rfl
  rw[e] at ju
  rw[run_bytesToString w a l c _ ju,foldl_push_bytes]
  congr 2
  apply ByteArray.ext
  apply Array.ext'
  simp[List.map_map,Function.comp_def,UInt8.ofNat_toNat]
theorem Mo{o:Oper}{e:Env}{H:Heap}{K:Value->Prop}(h:vV P o.op e H K):
 ∃v,K v/\∀ρ,fc e ρ o.op.operands.toList->∀w,w.heap=H->(execOp ρ o).run P w=.ok (.value v) w:=by
 have lift:∀{s:Sem Value},(∃v,K v/\∀w,w.heap=H->s.run P w=.ok v w)->(∀ρ,fc e ρ o.op.operands.toList->execOp ρ o=do pure (.value (<-s)))->∃v,K v/\∀ρ,fc e ρ o.op.operands.toList->∀w,w.heap=H->(execOp ρ o).run P w=.ok (.value v) w:=by
  rintro s ⟨v,hk,hy⟩ e
  refine⟨v,hk,λρ ha w hw=>?_⟩
  rw[e ρ ha,Sem.run_bind,hy w hw]
  rfl
 obtain⟨dst,op,type,pos,after,guard⟩:=o
 simp only at h lift⊢
 unfold vV at h
 split at h
 ·rename_i t x
  obtain⟨v,hv,h⟩:=ma h
  refine lift (s:=Instr.loadAt t v) ?_ (λρ ha=>by simp only[execOp,ha x (by simp[Op.operands]) _ hv])
  split at h
  ·rename_i a
   have V1:∀w,(Instr.sureAddr (.pointer (some a))).run P w=.ok a w:=λw=>rfl
   have zP:∀d,P.underlying t=some d->eT P t=true->
    (bif Nat.beq (jM P 8 t).length (ir P t)&&(P.info? t).isSome then I7 H a (jM P 8 t) 0 [] λvs=>K (.agg vs.toArray) else False)->
    ∃v,K v/\∀w,w.heap=H->(Instr.loadAt t (.pointer (some a))).run P w=.ok v w:=by
    intro d hu tD h
    cases hb:(Nat.beq (jM P 8 t).length (ir P t)&&(P.info? t).isSome) with
    |false=>rw[hb] at h;exact h.elim
    |true=>
     rw[hb] at h
     simp only[Bool.and_eq_true] at hb
     obtain⟨i,hi⟩:=Option.isSome_iff_exists.1 hb.2
     have pg:(jM P 8 t).length=i.size:=by have:=Nat.eq_of_beq_eq_true hb.1;simpa[ir,hi] using this
     obtain⟨vs,hl,hc,hk⟩:=EL (show I7 H a (jM P 8 t) 0 [] _ from h)
     refine⟨_,hk,λw hw=>?_⟩
     have ju:=run_loadCells_list (P:=P) w a vs (λj v hj=>cell_of hw (by simpa using hc j v hj))
     unfold Instr.loadAt loadVar
     rw[Sem.run_bind,V1]
     simp only[Result.andThen]
     rw[Sem.run_bind,wI hu,tD]
     simp only[Result.andThen,if_true]
     rw[Sem.run_bind,gL hi]
     simp only[Result.andThen]
     rw[Sem.run_bind,show i.size=vs.length by omega,ju]
     simp
   split at h
   ·exact h.elim
   ·rename_i fs hu;exact zP _ hu (by simp[eT,hu]) h
   ·rename_i n el hu;exact zP _ hu (by simp[eT,hu]) h
   ·rename_i d XZ D6 hu
    have tD:eT P t=false:=by
     unfold eT;rw[hu]
     cases d<;>first|rfl|exact absurd rfl (XZ _)|exact absurd rfl (D6 _ _)
    obtain⟨v,hc,hk⟩:=I8 h
    refine⟨v,hk,λw hw=>?_⟩
    unfold Instr.loadAt loadVar
    rw[Sem.run_bind,V1]
    simp only[Result.andThen]
    rw[Sem.run_bind,wI hu,tD]
    simp[cell_of hw hc]
  ·exact h.elim
 ·rename_i s d x
  obtain⟨v,hv,h⟩:=ma h
  refine lift (s:=convert s d v) ?_ (λρ ha=>by simp only[execOp,ha x (by simp[Op.operands]) _ hv])
  split at h
  ·rename_i b p l c hs hd
   split at h
   ·rename_i hb
    obtain⟨t,ht,hk⟩:=h
    refine⟨_,hk,λw hw=>?_⟩
    rw[run_convert_bytes_string w s d b p l c hs hb hd]
    exact Li (by rw[hw];exact ht)
   ·exact h.elim
  ·exact h.elim
 ·exact h.elim
theorem iy{o:Oper}{e:Env}{H:Heap}{K:Value->Prop}(h:oB P o.op e H K):
 ∃v,K v/\∀ρ,fc e ρ o.op.operands.toList->∀w,w.heap=H->(execOp ρ o).run P w=.ok (.value v) w:=by
 rcases h with h|h
 ·exact Mo h
 ·exact h o rfl
theorem xN{z:Value}:z.cells.size=(dD z).length:=by rw[oD];simp
theorem xa(z:Value)(n:Nat):iq z n=Builtin.zeroCells z.cells n:=by
 unfold iq Builtin.zeroCells
 rw[xN]
 apply Array.map_congr_left
 intro i hi
 have lC:i<n*(dD z).length:=by simpa using hi
 have zr:0<(dD z).length:=by
  rcases Nat.eq_zero_or_pos (dD z).length with h|h
  ·rw[h] at lC;omega
  ·exact h
 have hm:i%(dD z).length<(dD z).length:=Nat.mod_lt _ zr
 have fj:i%(dD z).length<z.cells.size:=by rw[xN];exact hm
 rw[getElem!_pos z.cells _ fj,List.getD_eq_getElem?_getD,List.getElem?_eq_getElem hm]
 simp only[Option.getD_some]
 have:=oD z
 simp[this]
theorem NR{w:World}{a:Addr}{v:Value}(hv:(∀c,v≠.agg c)/\(∀c,v≠.tuple c)){u:Value}(hc:dj w.heap a=some u)(hf:gO w.heap a=false):
 (store a v).run P w=.ok () (w.setCell a v):=by
 have h1:v.oneCell'=true:=by
  cases v<;>first|rfl|exact absurd rfl (hv.1 _)|exact absurd rfl (hv.2 _)
 rw[run_store P w a v .plain h1,kA,hc]
 simp only[]
 rw[qM,hf]
 rfl
theorem P9{H:Heap}{a:Addr}{v:Value}{K:Heap->Prop}(h:xn H a v K):K (nQ H a v)/\v.cells=#[v]/\∀w,w.heap=H->(store a v).run P w=.ok () (w.setCell a v):=by
 unfold xn at h
 obtain⟨⟨⟨u,hu⟩,hf,hk⟩,hc,h1,h2⟩:=EB h
 exact⟨hk,hc,λw hw=>NR ⟨h1,h2⟩ (by rw[hw];exact hu) (by rw[hw];exact hf)⟩
theorem Er{a:Addr}:∀{vs:List Value}{H:Heap}{i:Nat}{K:Heap->Prop},Ld H a vs i K->
 ∀w,w.heap=H->∃w',(storeCells a vs i).run P w=.ok () w'/\dV w w'/\K w'.heap
 |[],H,i,K,h,w,hw=>⟨w,rfl,dV.refl w,by rw[hw];exact h⟩
 |v::vs,H,i,K,h,w,hw=>by
  obtain⟨hk,_,hr⟩:=P9 (P:=P) (show xn H (a.add i) v _ from h)
  obtain⟨w',XT,hs,mI⟩:=Er hk (w.setCell (a.add i) v) (by rw[mX,hw])
  refine⟨w',?_,(dV.setCell w _ _).trans hs,mI⟩
  unfold storeCells
  rw[Sem.run_bind,hr w hw]
  exact XT
theorem zL{H:Heap}{size n:Nat}{y:Value}{new:List Value}(h:appended H size y n new):∀w,w.heap=H->
 (Builtin.lenOf y).run P w=.ok n w/\(Builtin.firstCells size n y).run P w=.ok new.toArray w:=by
 intro w hw
 unfold appended at h
 split at h
 ·rename_i p l c
  obtain⟨rfl,h⟩:=h
  refine⟨rfl,?_⟩
  split at h
  ·obtain⟨rfl,rfl⟩:=h;rfl
  ·rename_i a
   exact run_firstCells_some w size n a n c new h.1 (λj v hj=>cell_of hw (h.2 j v hj))
 ·rename_i s
  obtain⟨rfl,rfl,rfl⟩:=h
  refine⟨rfl,?_⟩
  show Result.ok _ w=Result.ok _ w
  congr 1
  unfold mg
  apply Array.ext'
  have:s.extract 0 s.size=s:=by
   apply ByteArray.ext
   rw[ByteArray.data_extract]
   exact Array.extract_size
  rw[this]
  simp
 ·exact h.elim
theorem ag4{d:TypeDesc}(hd:∀k,d≠.int k):(match d with|.int _=>true|_=>false)=false:=by
 cases d<;>first|rfl|exact absurd rfl (hd _)
theorem Y4{t u T:TypeId}{x y:Value}{H:Heap}{K:Value->Heap->Prop}{d:TypeDesc}(hu:P.underlying u=some d)(hd:∀k,d≠.int k)(h:Y5 P t x y H K):
 ∀w,w.heap=H->∃v w',(Builtin.append_ #[t,u] T #[x,y]).run P w=.ok v w'/\dV w w'/\K v w'.heap:=by
 intro w hw
 unfold Y5 at h
 split at h
 ·rename_i el ht
  split at h
  ·rename_i p l c i hi
   obtain⟨i',z,nN,hz,h,FN⟩:=jx h
   obtain rfl:i=i':=by rw[hi] at nN;exact Option.some.inj nN
   obtain⟨n,new,Uk,h⟩:=h
   have hlen:=λw hw=>(zL (P:=P) Uk w hw).1
   have RR:=λw hw=>(zL (P:=P) Uk w hw).2
   have hm:=ag4 hd
   have pg:∀w,(sizeOf el).run P w=.ok i.size w:=gL hi
   rcases h with⟨EV,h⟩|⟨QO,hb,hbz,oP,C9,MY,h⟩
   ·cases p with
    |none=>
     obtain⟨rfl,hk⟩:=h
     refine⟨_,w,?_,dV.refl w,by rw[hw];exact hk⟩
     have ahG:=RR w hw
     have am0:l<=c:=by omega
     unfold Builtin.append_
     simp only[show((#[t,u]:Array TypeId)[0]?:Option TypeId)=some t from rfl,show((#[t,u]:Array TypeId)[1]?:Option TypeId)=some u from rfl,
      show((#[Value.slice none l c,y]:Array Value)[0]?:Option Value)=some (.slice none l c) from rfl,show((#[Value.slice none l c,y]:Array Value)[1]?:Option Value)=some y from rfl]
     simp[mm ht,pg,mm hu,hlen w hw,am0,ahG]
    |some a=>
     obtain⟨w',Bb,hs,hk⟩:=Er (P:=P) h w hw
     refine⟨_,w',?_,hs,hk⟩
     have ahG:=RR w hw
     unfold Builtin.append_
     simp only[show((#[t,u]:Array TypeId)[0]?:Option TypeId)=some t from rfl,show((#[t,u]:Array TypeId)[1]?:Option TypeId)=some u from rfl,
      show((#[Value.slice (some a) l c,y]:Array Value)[0]?:Option Value)=some (.slice (some a) l c) from rfl,show((#[Value.slice (some a) l c,y]:Array Value)[1]?:Option Value)=some y from rfl]
     simp[mm ht,pg,mm hu,hlen w hw,EV,ahG,Bb]
   ·have LY:w.drew.heap=H:=hw
    have aqH:=RR w.drew LY
    have hold:(Builtin.firstCells i.size l (.slice p l c)).run P w.drew=.ok oP.toArray w.drew:=by
     cases p with
     |none=>simp only[jZ] at MY;subst MY;rfl
     |some a=>exact run_firstCells_some w.drew i.size l a l c oP C9 (λj v hj=>cell_of LY (MY j v hj))
    have hK:=h (grownCap w (l+n) c el) (grownCap_ge w _ _ _)
    rw[<-hw] at hK
    refine⟨.slice (some ⟨w.heap.size,0,none⟩) (l+n) (grownCap w (l+n) c el),w.drew.alloc (.cells (oP.toArray++new.toArray++iq z (grownCap w (l+n) c el-(l+n))) el),?_,(dV.drew w).trans (dV.alloc _ _),hK⟩
    have hn:¬(l+n<=c):=by omega
    have h48:¬(281474976710656<Builtin.nextslicecap (l+n) c*i.bytes):=by
     have:=growslice_fits (bytes:=i.bytes) QO hb
     omega
    unfold Builtin.append_
    simp only[show((#[t,u]:Array TypeId)[0]?:Option TypeId)=some t from rfl,show((#[t,u]:Array TypeId)[1]?:Option TypeId)=some u from rfl,
     show((#[Value.slice p l c,y]:Array Value)[0]?:Option Value)=some (.slice p l c) from rfl,show((#[Value.slice p l c,y]:Array Value)[1]?:Option Value)=some y from rfl]
    simp[mm ht,pg,mm hu,hlen w hw,hn,Ey hi,hbz,h48,Question.forced,hold,aqH,FN,newRow,grownCap,xa,hw]
    congr 2
    apply Array.ext'
    simp[List.append_assoc]
  ·exact h.elim
 ·exact h.elim
end
end Go.Ex
