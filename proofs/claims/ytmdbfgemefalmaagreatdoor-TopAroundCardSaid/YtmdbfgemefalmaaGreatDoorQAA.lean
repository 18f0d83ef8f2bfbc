/- Part AA of the proof that the law TopAround answers true at every input, under no condition. -/
import Derived.Calls
import Derived.Orders
import Derived.Tactics
import Derived.Deep.LoopGhost
import Derived.Laws.World
import Derived.Laws.Strings
import Derived.Laws.Cells
import Derived.Laws.StructEq
import Derived.ChangeKeysEq
import Derived.Laws.Append
import Derived.Laws.BytesString
import Derived.Laws.BytesArg
import Derived.Laws.AppendOwn
set_option linter.unusedVariables false
set_option maxHeartbeats 2000000
set_option maxRecDepth 100000
namespace Go
abbrev dE:=ByteArray
abbrev dA:=Addr
abbrev dB:=Value
abbrev eK:=TypeId
abbrev eQ:=Program
abbrev fe:=World
abbrev jt:=FuncId
abbrev gU:=Operand
abbrev dC:=Option Addr
abbrev dM:ByteArray:=⟨#[]⟩
abbrev UF:ByteArray:=⟨#[60,63,120,109,108,32,118,101,114,115,105,111,110,61,39,49,46,48,39,32,101,110,99,111,100,105,110,103,61,39,117,116,102,45,56,39,32,115,116,97,110,100,97,108,111,110,101,61,39,121,101,115,39,63,62]⟩
abbrev UE:ByteArray:=⟨#[10,60,33,68,79,67,84,89,80,69,32,120,32,83,89,83,84,69,77,32,39,117,39,32,91,60,33,69,76,69,77,69,78,84,32,120,32,65,78,89,62,60,33,45,45,32,100,32,45,45,62,93,62]⟩
abbrev RP:ByteArray:=⟨#[32,10,9]⟩
abbrev UD:ByteArray:=⟨#[13,10,32]⟩
abbrev UC:ByteArray:=⟨#[97]⟩
abbrev UB:ByteArray:=⟨#[99]⟩
abbrev RO:ByteArray:=⟨#[112]⟩
abbrev HX:ByteArray:=⟨#[113]⟩
abbrev Ll:ByteArray:=⟨#[120]⟩
abbrev Rf:ByteArray:=⟨#[112,105]⟩
abbrev Re:ByteArray:=⟨#[100]⟩
abbrev Rc:ByteArray:=⟨#[97,32,63,32,62]⟩
abbrev Lk:ByteArray:=⟨#[47,62]⟩
abbrev rH:ByteArray:=⟨#[62]⟩
abbrev Eg:ByteArray:=⟨#[60,47]⟩
abbrev Lj:ByteArray:=⟨#[117]⟩
abbrev oZ:ByteArray:=⟨#[120,109,108,110,115]⟩
abbrev mz:ByteArray:=⟨#[104,116,116,112,58,47,47,119,119,119,46,119,51,46,111,114,103,47,50,48,48,48,47,120,109,108,110,115,47]⟩
abbrev HW:ByteArray:=⟨#[13]⟩
abbrev tG:ByteArray:=⟨#[120,109,108]⟩
abbrev pD:ByteArray:=⟨#[104,116,116,112,58,47,47,119,119,119,46,119,51,46,111,114,103,47,88,77,76,47,49,57,57,56,47,110,97,109,101,115,112,97,99,101]⟩
abbrev HV:ByteArray:=⟨#[60]⟩
abbrev vf:ByteArray:=⟨#[32]⟩
abbrev HU:ByteArray:=⟨#[61,34]⟩
abbrev Rb:ByteArray:=⟨#[34]⟩
abbrev HT:ByteArray:=⟨#[60,33,45,45]⟩
abbrev Ra:ByteArray:=⟨#[45,45,62]⟩
abbrev wm:ByteArray:=⟨#[60,63]⟩
abbrev BY:ByteArray:=⟨#[63,62]⟩
abbrev rG:ByteArray:=⟨#[58]⟩
abbrev Q9:ByteArray:=⟨#[10]⟩
abbrev Q8:ByteArray:=⟨#[61]⟩
abbrev Q7:ByteArray:=⟨#[0,1,2,2,3,3,3,3,4,4,4,4,4,4,4,4,5,5,5,5,5,5,5,5,5,5,5,5,5,5,5,5,6,6,6,6,6,6,6,6,6,6,6,6,6,6,6,6,6,6,6,6,6,6,6,6,6,6,6,6,6,6,6,6,7,7,7,7,7,7,7,7,7,7,7,7,7,7,7,7,7,7,7,7,7,7,7,7,7,7,7,7,7,7,7,7,7,7,7,7,7,7,7,7,7,7,7,7,7,7,7,7,7,7,7,7,7,7,7,7,7,7,7,7,7,7,7,7,8,8,8,8,8,8,8,8,8,8,8,8,8,8,8,8,8,8,8,8,8,8,8,8,8,8,8,8,8,8,8,8,8,8,8,8,8,8,8,8,8,8,8,8,8,8,8,8,8,8,8,8,8,8,8,8,8,8,8,8,8,8,8,8,8,8,8,8,8,8,8,8,8,8,8,8,8,8,8,8,8,8,8,8,8,8,8,8,8,8,8,8,8,8,8,8,8,8,8,8,8,8,8,8,8,8,8,8,8,8,8,8,8,8,8,8,8,8,8,8,8,8,8,8,8,8,8,8]⟩
abbrev Li:ByteArray:=⟨#[59]⟩
abbrev Lh:ByteArray:=⟨#[38]⟩
abbrev Q6:ByteArray:=⟨#[93,93,62]⟩
end Go
namespace Go.Ex
abbrev dw:=Array Obj
def dL(H:dw)(a:dA):Option dB:=
 match H[a.block]? with
 |some (.cells c _ _)=>if a.spot.isSome then none else c[a.off]?
 |_=>none
def fH(H:dw)(a:dA):Bool:=
 match H[a.block]? with
 |some (.cells _ _ (lo,hi))=>lo<=a.off&&a.off<hi
 |_=>false
def gO(H:dw)(a:dA)(v:dB):dw:=
 H.modify a.block λ
  |.cells c elem frozen=>.cells (if a.spot.isSome then c else c.setIfInBounds a.off v) elem frozen
  |o=>o
theorem mZ(w:fe)(a:dA):w.cell? a=dL w.heap a:=rfl
theorem qy(w:fe)(a:dA):w.frozen? a=fH w.heap a:=rfl
theorem nX(w:fe)(a:dA)(v:dB):(w.setCell a v).heap=gO w.heap a v:=rfl
structure ik(w w':fe):Prop where
 os:w'.os=w.os
 tape:w'.tape=w.tape
 output:w'.output=w.output
theorem ik.refl(w:fe):ik w w:=⟨rfl,rfl,rfl⟩
theorem ik.trans{a b c:fe}(h:ik a b)(k:ik b c):ik a c:=⟨k.os.trans h.os,k.tape.trans h.tape,k.output.trans h.output⟩
theorem ik.setCell(w:fe)(a:dA)(v:dB):ik w (w.setCell a v):=⟨rfl,rfl,rfl⟩
theorem ik.alloc(w:fe)(o:Obj):ik w (w.alloc o):=⟨rfl,rfl,rfl⟩
theorem ik.drew(w:fe):ik w w.drew:=⟨rfl,rfl,rfl⟩
def Fn(P:eQ)(f:jt)(args:Array dB)(H:dw)(R:dB->dw->Prop):Prop:=
 ∀w:fe,w.heap=H->Calls P f args w λe w'=>∃v,e=.returned v/\ik w w'/\R v w'.heap
theorem Fn.mono{P:eQ}{f:jt}{args:Array dB}{H:dw}{R u:dB->dw->Prop}(h:Fn P f args H R)(I:∀v H',R v H'->u v H'):Fn P f args H u:=
 λw N=>(h w N).mono λ_ _⟨v,O,W,r⟩=>⟨v,O,W,I _ _ r⟩
inductive Cs where
 |int (k:IntKind)|bool|str|ptr|slice|raw
 deriving DecidableEq
inductive Sh where
 |one (c:Cs)
 |agg (l:List Cs)
def VJ(c:Cs)(K:dB->Prop):Prop:=
 match c with
 |.int k=>∃n:Int,K (.int k n)
 |.bool=>∃b:Bool,K (.bool b)
 |.str=>∃s:dE,K (.string s)
 |.ptr=>∃p:dC,K (.pointer p)
 |.slice=>∃(p:dC)(l c:Nat),K (.slice p l c)
 |.raw=>∃v:dB,K v
def NA:List Cs->List dB->(List dB->Prop)->Prop
 |[],acc,K=>K acc
 |c::cs,acc,K=>VJ c λv=>NA cs (acc++[v]) K
def KF(s:Sh)(K:dB->Prop):Prop:=
 match s with
 |.one c=>VJ c K
 |.agg l=>NA l [] λvs=>K (.agg vs.toArray)
theorem Jc{c:Cs}{K:dB->Prop}(h:VJ c K):∃v,K v:=by
 cases c<;>simp only[VJ] at h
 .obtain⟨n,h⟩:=h;exact⟨_,h⟩
 .obtain⟨n,h⟩:=h;exact⟨_,h⟩
 .obtain⟨n,h⟩:=h;exact⟨_,h⟩
 .obtain⟨n,h⟩:=h;exact⟨_,h⟩
 .obtain⟨p,l,c,h⟩:=h;exact⟨_,h⟩
 .exact h
theorem Fv:∀{l:List Cs}{u:List dB}{K:List dB->Prop},NA l u K->∃vs,vs.length=l.length/\K (u++vs)
 |[],u,K,h=>⟨[],rfl,by simpa[NA] using h⟩
 |c::cs,u,K,h=>by
  obtain⟨v,h⟩:=Jc (show VJ c _ from h)
  obtain⟨vs,w,I⟩:=Fv h
  exact⟨v::vs,by simp[w],by simpa using I⟩
theorem xx{s:Sh}{K:dB->Prop}(h:KF s K):∃v,K v:=by
 cases s with
 |one c=>exact Jc h
 |agg l=>obtain⟨vs,_,u⟩:=Fv (show NA l [] _ from h);exact⟨_,u⟩
def DT(P:eQ)(t:eK):Cs:=
 match P.underlying t with
 |some .bool=>.bool
 |some (.int k)=>.int k
 |some .string=>.str
 |some (.pointer _)=>.ptr
 |some (.slice _)=>.slice
 |_=>.raw
def kY(P:eQ):Nat->eK->List Cs
 |0,_=>[]
 |d+1,t=>
  match P.underlying t with
  |some (.struct fs)=>fs.toList.flatMap λf=>kY P d f.type
  |some (.array n e)=>(List.replicate n (kY P d e)).flatten
  |_=>[DT P t]
def iJ(P:eQ)(t:eK):Bool:=
 match P.underlying t with
 |some (.struct _)|some (.array _ _)=>true
 |_=>false
def Mk(P:eQ)(t:eK):Sh:=
 match P.underlying t with
 |some (.struct _)|some (.array _ _)=>.agg (kY P 8 t)
 |_=>.one (DT P t)
def j6(P:eQ)(t:eK):Nat:=match P.info? t with|some i=>i.size|none=>0
def qM(P:eQ)(t:eK)(K:dB->Prop):Prop:=match P.info? t with|some i=>(match i.zero with|some v=>K v|none=>False)|none=>False
abbrev Env:=Nat->Option dB
def put(e:Env)(d:Option Tmp)(v:dB):Env:=
 match d with
 |some d=>λj=>bif Nat.beq j d then some v else e j
 |none=>e
def nN(e:Env):gU->Option dB
 |.tmp t=>e t
 |.const v=>some v
 |.global g=>some (.pointer (some ⟨g,0,none⟩))
 |.func f=>some (.func (.func f) #[] #[])
def o1(e:Env)(x:gU)(K:dB->Prop):Prop:=match nN e x with|some v=>K v|none=>False
def oL(e:Env):List gU->List dB->(List dB->Prop)->Prop
 |[],acc,K=>K acc
 |x::xs,acc,K=>o1 e x λv=>oL e xs (acc++[v]) K
def oO(e:Env)(x:Option gU)(K:Option dB->Prop):Prop:=match x with|none=>K none|some x=>o1 e x λv=>K (some v)
def eL(b:Bool)(A B:Prop):Prop:=match b with|true=>A|false=>B
theorem uY{b:Bool}{A B:Prop}(h:eL b A B):(b=true/\A)\/(b=false/\B):=by cases b<;>simp_all[eL]
theorem jI{b:Bool}{A B:Prop}(h:b=true->A)(u:b=false->B):eL b A B:=by cases b<;>simp_all[eL]
def lx(k:IntKind)(a b:Int):Int:=k.wrap (BitVec.ofInt k.bits a&&&BitVec.ofInt k.bits b).toNat
def uI(k:IntKind)(a b:Int):Int:=k.wrap (BitVec.ofInt k.bits a|||BitVec.ofInt k.bits b).toNat
def JB(k:IntKind)(a b:Int):Int:=k.wrap (BitVec.ofInt k.bits a^^^BitVec.ofInt k.bits b).toNat
def D3(k:IntKind)(a b:Int):Int:=k.wrap (BitVec.ofInt k.bits a&&&~~~ BitVec.ofInt k.bits b).toNat
def Kl(k:IntKind)(n:Int):Int:=k.wrap (BitVec.ofInt k.bits (if k.signed then-1 else k.max)^^^BitVec.ofInt k.bits n).toNat
def mU(k:IntKind)(a b:Int):Int:=k.wrap (a*2^min b.toNat k.bits)
def mu(k:IntKind)(a b:Int):Int:=a.fdiv (2^min b.toNat k.bits)
def eG{α:Type}(x:α)(K:α->Prop):Prop:=K x
theorem dN{α:Type}{x:α}{K:α->Prop}(h:∀y,y=x->K y):eG x K:=h x rfl
def rB(u:BinOp)(k:IntKind)(a:Int)(h:IntKind)(b:Int)(K:dB->Prop):Prop:=
 match u with
 |.shl=>0<=b/\K (.int k (mU k a b))
 |.shr=>0<=b/\K (.int k (mu k a b))
 |.add=>if k=h then K (.int k (k.wrap (a+b))) else False
 |.sub=>if k=h then K (.int k (k.wrap (a-b))) else False
 |.mul=>if k=h then K (.int k (k.wrap (a*b))) else False
 |.quo=>if k=h then b≠0/\K (.int k (k.wrap (a.tdiv b))) else False
 |.rem=>if k=h then b≠0/\K (.int k (a.tmod b)) else False
 |.and=>if k=h then K (.int k (lx k a b)) else False
 |.or=>if k=h then K (.int k (uI k a b)) else False
 |.xor=>if k=h then K (.int k (JB k a b)) else False
 |.andNot=>if k=h then K (.int k (D3 k a b)) else False
 |.eql=>if k=h then K (.bool (decide (a=b))) else False
 |.neq=>if k=h then K (.bool (decide (a≠b))) else False
 |.lss=>if k=h then K (.bool (decide (a<b))) else False
 |.leq=>if k=h then K (.bool (decide (a<=b))) else False
 |.gtr=>if k=h then K (.bool (decide (b<a))) else False
 |.geq=>if k=h then K (.bool (decide (b<=a))) else False
def KZ(h:BinOp)(a b:dE)(K:dB->Prop):Prop:=
 match h with
 |.add=>a.size+b.size<=9223372036854775807/\K (.string (a++b))
 |.eql=>K (.bool (decide (a=b)))
 |.neq=>K (.bool (decide (a≠b)))
 |_=>False
def NC(P:eQ)(neg:Bool)(t:eK)(x y:dB)(K:dB->Prop):Prop:=
 match P.underlying t with
 |some .bool=>(match x,y with
  |.bool a,.bool b=>K (.bool (match neg with|true=>decide (a≠b)|false=>decide (a=b)))
  |_,_=>False)
 |some (.pointer _)=>(match x,y with
  |.pointer p,.pointer none=>K (.bool (match neg with|true=>p.isSome|false=>p.isNone))
  |_,_=>False)
 |some (.slice _)=>(match x,y with
  |.slice p _ _,.slice none _ _=>K (.bool (match neg with|true=>p.isSome|false=>p.isNone))
  |_,_=>False)
 |_=>False
def FC(P:eQ)(h u:eK)(x:dB)(K:dB->Prop):Prop:=
 match P.underlying h with
 |none=>False
 |some _=>match P.underlying u,x with
  |some (.int k),.int _ n=>K (.int k (k.wrap n))
  |some .string,.string s=>K (.string s)
  |some .string,.int _ n=>K (.string (Utf8.encode n))
  |_,_=>False
def Dz(P:eQ)(t:eK)(x:dB)(K:dB->Prop):Prop:=
 match P.underlying t,x with
 |some .string,.string s=>K (.int .i64 (s.size:Int))
 |some (.array n _),_=>K (.int .i64 (n:Int))
 |some (.slice _),.slice _ n _=>K (.int .i64 (n:Int))
 |_,_=>False
def KU(P:eQ)(t:eK)(x:dB)(K:dB->Prop):Prop:=
 match P.underlying t,x with
 |some (.slice _),.slice _ _ c=>K (.int .i64 (c:Int))
 |_,_=>False
def Kr:dB->List dB->(dB->Prop)->Prop
 |x,[],K=>K x
 |.int k a,.int _ b::r,K=>Kr (.int k (max a b)) r K
 |_,_::_,_=>False
def Kq:dB->List dB->(dB->Prop)->Prop
 |x,[],K=>K x
 |.int k a,.int _ b::r,K=>Kq (.int k (min a b)) r K
 |_,_::_,_=>False
def BJ(x:Option dB)(h y:Nat)(K:Nat->Prop):Prop:=
 match x with
 |none=>K h
 |some (.int _ i)=>0<=i/\i<=(y:Int)/\K i.toNat
 |_=>False
def jy(i h:Nat):Nat:=bif Nat.beq h 1 then i else i*h
def ri(P:eQ)(t:eK)(x:dB)(u hi:Option dB)(K:dB->Prop):Prop:=
 match P.underlying t,x with
 |some .string,.string s=>BJ hi s.size s.size λh=>BJ u 0 h λl=>K (.string (s.extract l h))
 |some (.slice e),.slice p n c=>BJ hi n c λh=>BJ u 0 h λl=>
  (match P.info? e with
   |some i=>K (.slice (if c=l then p else p.map (·.add (jy l i.size))) (h-l) (c-l))
   |none=>False)
 |_,_=>False
def oK(P:eQ)(t:eK)(x h:dB)(K:dB->Prop):Prop:=
 match h with
 |.int _ i=>
  (match P.underlying t,x with
  |some (.slice e),.slice p n _=>∃a,p=some a/\0<=i/\i<(n:Int)/\
   (match P.info? e with|some j=>K (.pointer (some (a.add (jy i.toNat j.size))))|none=>False)
  |some (.array n e),.pointer (some a)=>0<=i/\i<(n:Int)/\
   (match P.info? e with|some j=>K (.pointer (some (a.add (jy i.toNat j.size))))|none=>False)
  |_,_=>False)
 |_=>False
def bt(s:dE)(i:Int):Int:=((s.data.toList.getD i.toNat 0).toNat:Int)
def DE(P:eQ)(t:eK)(x h:dB)(K:dB->Prop):Prop:=
 match h with
 |.int _ i=>
  (match P.underlying t,x with
  |some .string,.string s=>0<=i/\i<(s.size:Int)/\K (.int .u8 (bt s i))
  |_,_=>False)
 |_=>False
def EV(P:eQ)(t:eK)(cs:Array dB)(h:Nat)(K:dB->Prop):Prop:=
 match iJ P t with
 |true=>K (.agg (cs.extract h (h+j6 P t)))
 |false=>(match cs[h]? with|some v=>K v|none=>False)
def A4(P:eQ)(t:eK)(x:dB)(f:Nat)(K:dB->Prop):Prop:=
 match P.underlying t,x with
 |some (.struct u),.agg cs=>(match u[f]? with
  |some h=>(match P.underlying h.type,P.info? h.type with|some _,some _=>EV P h.type cs h.offset K|_,_=>False)
  |none=>False)
 |_,_=>False
def sL(P:eQ)(t:eK)(x:dB)(f:Nat)(K:dB->Prop):Prop:=
 match P.underlying t,x with
 |some (.struct u),.pointer (some a)=>(match u[f]? with
  |some h=>(match P.info? h.type with
   |some i=>bif Nat.beq i.size 0 then False else K (.pointer (some (a.add h.offset)))
   |none=>False)
  |none=>False)
 |_,_=>False
def tB(x:dB)(T:eK)(v zero:dB)(ok:Bool):Prop:=
 (ok=true/\x=.iface T v)\/(ok=false/\v=zero/\(x=.nilIface\/∃t u,x=.iface t u/\t≠T))
def D0(P:eQ)(x:dB)(T:eK)(h:Bool)(K:dB->Prop):Prop:=
 match P.underlying T with
 |some (.interface _)|none=>False
 |some _=>match h with
  |true=>qM P T λz=>KF (Mk P T) λv=>∃ok:Bool,tB x T v z ok/\K (.tuple #[v,.bool ok])
  |false=>KF (Mk P T) λv=>x=.iface T v/\K v
def xr(x:dB)(i:Nat)(K:dB->Prop):Prop:=
 match x with
 |.tuple vs=>(match vs[i]? with|some v=>K v|none=>False)
 |_=>False
def DF(P:eQ)(t:eK)(x:dB)(K:dB->Prop):Prop:=
 match P.underlying t with
 |some (.interface _)|none=>False
 |some _=>K (.iface t x)
def Dr(v:dB)(K:Prop):Prop:=match v with|.agg _|.tuple _=>False|_=>K
def oX(cs:List dB)(h:Nat):List dB->List dB
 |[]=>cs
 |v::vs=>oX (cs.set h v) (h+1) vs
def pH(h:Nat->Option (Nat×Nat×Bool)):List dB->List (Nat×dB)->(List dB->Prop)->Prop
 |cells,[],K=>K cells
 |cells,(i,v)::rest,K=>
  match h i with
  |none=>False
  |some (u,w,I)=>
   match I with
   |false=>Dr v (bif Nat.blt u cells.length&&Nat.beq w 1 then pH h (cells.set u v) rest K else False)
   |true=>(match v with
    |.agg vs=>bif Nat.beq vs.size w&&Nat.ble (u+vs.size) cells.length then pH h (oX cells u vs.toList) rest K else False
    |_=>False)
def gH(v:dB):List dB:=match v with|.agg cs=>cs.toList|v=>[v]
def AA(P:eQ)(h:Array Field)(i:Nat):Option (Nat×Nat×Bool):=
 match h[i]? with
 |some f=>some (f.offset,j6 P f.type,iJ P f.type)
 |none=>none
def Ru(e:Env):List (Nat×gU)->List (Nat×dB)->(List (Nat×dB)->Prop)->Prop
 |[],acc,K=>K acc
 |(i,x)::xs,acc,K=>o1 e x λv=>Ru e xs (acc++[(i,v)]) K
def zF(P:eQ)(h:Array Field):Bool:=h.all λf=>(P.info? f.type).isSome
def DV(P:eQ)(t:eK)(parts:List (Nat×dB))(K:dB->Prop):Prop:=
 qM P t λz=>match P.underlying t with
  |some (.struct fs)=>bif zF P fs then pH (AA P fs) (gH z) parts λcs=>K (.agg cs.toArray) else False
  |some (.array _ e)=>bif(P.info? e).isSome then pH (λi=>some (i*j6 P e,j6 P e,iJ P e)) (gH z) parts λcs=>K (.agg cs.toArray) else False
  |_=>False
def Ug(h:UnOp)(x:dB)(K:dB->Prop):Prop:=
 match h,x with
 |.neg,.int k n=>K (.int k (k.wrap (0-n)))
 |.not,.bool b=>K (.bool (!b))
 |.xor,.int k n=>K (.int k (Kl k n))
 |_,_=>False
def uL(x:dB)(K:dB->Prop):Prop:=
 match x with
 |.pointer p=>∃a,p=some a/\K (.pointer (some a))
 |_=>False
def isEq:BinOp->Option Bool
 |.eql=>some false
 |.neq=>some true
 |_=>none
def vU(P:eQ)(e:eK)(a b:dB):Option Bool:=
 match P.underlying e,a,b with
 |some (.int _),.int k x,.int k' y=>if k=k' then some (decide (x=y)) else none
 |some .string,.string x,.string y=>some (decide (x=y))
 |some .bool,.bool x,.bool y=>some (decide (x=y))
 |_,_,_=>none
def Cu(P:eQ)(e:eK)(xs ys:List dB)(i:Nat)(r:Option Bool):Option Bool:=
 match xs[i]?,ys[i]? with
 |some a,some b=>(match vU P e a b,r with
  |some x,some y=>some (x&&y)
  |_,_=>none)
 |_,_=>none
def Fy(P:eQ)(e:eK)(xs ys:List dB):Nat->Nat->Option Bool
 |0,_=>some true
 |n+1,i=>Cu P e xs ys i (Fy P e xs ys n (i+1))
def yw(P:eQ)(xs ys:List dB):List Field->Option Bool
 |[]=>some true
 |f::fs=>bif f.name== "_" then none else Cu P f.type xs ys f.offset (yw P xs ys fs)
def Ba(P:eQ)(neg:Bool)(t:eK)(xs ys:Array dB)(K:dB->Prop):Prop:=
 bif P.eqGuardType P.depth t then False else
 match P.underlying t with
 |some (.array n e)=>bif Nat.beq (P.cellsOf e) 1&&(P.info? e).isSome then
  (match Fy P e xs.toList ys.toList n 0 with
   |some b=>K (.bool (bif neg then !b else b))
   |none=>False) else False
 |some (.struct fs)=>bif P.stoodInHeld t then False else
  (match yw P xs.toList ys.toList fs.toList with
   |some b=>K (.bool (bif neg then !b else b))
   |none=>False)
 |_=>False
def jJ(P:eQ)(h:BinOp)(t:eK)(x y:dB)(K:dB->Prop):Prop:=
 match x with
 |.int k a=>(match y with|.int k' b=>rB h k a k' b K|_=>False)
 |.string a=>(match y with|.string b=>KZ h a b K|_=>False)
 |.agg xs=>(match y with
  |.agg ys=>(match isEq h with|some neg=>Ba P neg t xs ys K|none=>False)
  |_=>False)
 |x=>(match isEq h with|some neg=>NC P neg t x y K|none=>False)
def gV(P:eQ)(o:Op)(e:Env)(K:dB->Prop):Prop:=
 match o with
 |.move x=>o1 e x K
 |.assign x=>o1 e x K
 |.pick c a b=>o1 e c λu=>(match u with
  |.bool t=>eL t (o1 e a K) (o1 e b K)
  |_=>False)
 |.nilCheck x=>o1 e x λv=>uL v K
 |.binOp op t x y _=>o1 e x λw=>o1 e y λI=>jJ P op t w I K
 |.unOp op _ x=>o1 e x λv=>Ug op v K
 |.convert s d x=>o1 e x λv=>FC P s d v K
 |.makeInterface t x=>o1 e x λv=>DF P t v K
 |.slice t x lo hi none=>o1 e x λv=>oO e lo λl=>oO e hi λh=>ri P t v l h K
 |.fieldAddr t x f=>o1 e x λv=>sL P t v f K
 |.field t x f=>o1 e x λv=>A4 P t v f K
 |.indexAddr t x ix=>o1 e x λv=>o1 e ix λi=>oK P t v i K
 |.index t x ix=>o1 e x λv=>o1 e ix λi=>DE P t v i K
 |.typeAssert x _ T ok=>o1 e x λv=>D0 P v T ok K
 |.extract x i=>o1 e x λv=>xr v i K
 |.build t parts=>Ru e parts.toList [] λN=>DV P t N K
 |.call {callee:=.builtin .len,args:=args,argTypes:=ts}=>(match args.toList,ts.toList with
  |[x],[t]=>o1 e x λv=>Dz P t v K
  |_,_=>False)
 |.call {callee:=.builtin .cap,args:=args,argTypes:=ts}=>(match args.toList,ts.toList with
  |[x],[t]=>o1 e x λv=>KU P t v K
  |_,_=>False)
 |.call {callee:=.builtin .max,args:=args,..}=>oL e args.toList [] λvs=>(match vs with|v::r=>Kr v r K|[]=>False)
 |.call {callee:=.builtin .min,args:=args,..}=>oL e args.toList [] λvs=>(match vs with|v::r=>Kq v r K|[]=>False)
 |_=>False
def Uo(c:Cs)(H:dw)(a:dA)(K:dB->Prop):Prop:=
 match c with
 |.int k=>∃n:Int,dL H a=some (.int k n)/\K (.int k n)
 |.bool=>∃b:Bool,dL H a=some (.bool b)/\K (.bool b)
 |.str=>∃s:dE,dL H a=some (.string s)/\K (.string s)
 |.ptr=>∃p:dC,dL H a=some (.pointer p)/\K (.pointer p)
 |.slice=>∃(p:dC)(l c:Nat),dL H a=some (.slice p l c)/\K (.slice p l c)
 |.raw=>∃v:dB,dL H a=some v/\K v
def DA(H:dw)(a:dA):List Cs->Nat->List dB->(List dB->Prop)->Prop
 |[],_,acc,K=>K acc
 |c::cs,i,acc,K=>Uo c H (a.add i) λv=>DA H a cs (i+1) (acc++[v]) K
theorem DC{c:Cs}{H:dw}{a:dA}{K:dB->Prop}(h:Uo c H a K):∃v,dL H a=some v/\K v:=by
 cases c<;>simp only[Uo] at h
 .obtain⟨n,h⟩:=h;exact⟨_,h⟩
 .obtain⟨n,h⟩:=h;exact⟨_,h⟩
 .obtain⟨n,h⟩:=h;exact⟨_,h⟩
 .obtain⟨n,h⟩:=h;exact⟨_,h⟩
 .obtain⟨p,l,c,h⟩:=h;exact⟨_,h⟩
 .exact h
theorem AU{H:dw}{a:dA}:∀{l:List Cs}{i:Nat}{w:List dB}{K:List dB->Prop},DA H a l i w K->
 ∃vs,vs.length=l.length/\(∀j v,vs[j]?=some v->dL H (a.add (i+j))=some v)/\K (w++vs)
 |[],i,w,K,h=>⟨[],rfl,by simp,by simpa[DA] using h⟩
 |c::cs,i,w,K,h=>by
  obtain⟨v,N,h⟩:=DC (show Uo c H (a.add i) _ from h)
  obtain⟨vs,O,W,Y⟩:=AU h
  refine⟨v::vs,by simp[O],?_,by simpa using Y⟩
  intro j u I
  cases j with
  |zero=>simp only[List.getElem?_cons_zero,Option.some.injEq] at I;subst I;simpa using N
  |succ j=>have:=W j u (by simpa using I);rw[show i+1+j=i+(j+1) by omega] at this;exact this
def eY(H:dw)(p:dC)(cs:List dB):Prop:=
 match p with
 |none=>cs=[]
 |some a=>∀j v,cs[j]?=some v->dL H (a.add j)=some v
def fV(s:dE):List dB:=s.data.toList.map λb=>.int .u8 b.toNat
def qZ(H:dw)(p:dC)(l:Nat)(s:dE):Prop:=
 match p with
 |none=>s=ByteArray.empty
 |some a=>s.size=l/\eY H (some a) (fV s)
def uQ(P:eQ)(o:Op)(e:Env)(H:dw)(K:dB->Prop):Prop:=
 match o with
 |.load t x=>o1 e x λv=>(match v with
  |.pointer (some a)=>(match P.underlying t with
   |none=>False
   |some (.struct _)|some (.array _ _)=>
    bif Nat.beq (kY P 8 t).length (j6 P t)&&(P.info? t).isSome then DA H a (kY P 8 t) 0 [] λvs=>K (.agg vs.toArray) else False
   |some _=>Uo (DT P t) H a K)
  |_=>False)
 |.convert s d x=>o1 e x λv=>(match P.underlying s,P.underlying d,v with
  |some (.slice b),some .string,.slice p l _=>(match P.underlying b with
   |some (.int .u8)=>∃t:dE,qZ H p l t/\K (.string t)
   |_=>False)
  |_,_,_=>False)
 |_=>False
def R8(H:dw)(a:dA)(v:dB)(K:dw->Prop):Prop:=
 Dr v ((∃u,dL H a=some u)/\fH H a=false/\K (gO H a v))
def EI(H:dw)(a:dA):List dB->Nat->(dw->Prop)->Prop
 |[],_,K=>K H
 |v::vs,i,K=>R8 H (a.add i) v λH'=>EI H' a vs (i+1) K
def eP(H:dw)(cs:Array dB)(t:eK):dw:=H.push (.cells cs t)
def newAt(H:dw):dB:=.pointer (some ⟨H.size,0,none⟩)
def j5(z:dB)(n:Nat):Array dB:=(Array.range (n*(gH z).length)).map λi=>(gH z).getD (i%(gH z).length) undef
def oo(H:dw)(h:Nat)(x:dB)(n:Nat)(new:List dB):Prop:=
 match x with
 |.slice p l _=>n=l/\(match p with|none=>l=0/\new=[]|some _=>new.length=l*h/\eY H p new)
 |.string s=>n=s.size/\h=1/\new=fV s
 |_=>False
def ji(w h bytes:Nat)(z:dB)(p:dC)(l c:Nat)(y:dB)(H:dw)(K:dC->Nat->Nat->dw->Prop):Prop:=
 ∃(n:Nat)(new:List dB),oo H h y n new/\
  ((l+n<=c/\(match p with
    |none=>n=0/\K none l c H
    |some a=>EI H (a.add (l*h)) new 0 λH'=>K (some a) (l+n) c H'))\/
   (c<l+n/\(l+n)*bytes<=140737488355328/\bytes≠0/\∃u:List dB,u.length=l*h/\eY H p u/\
    ∀cap,l+n<=cap->K (some ⟨H.size,0,none⟩) (l+n) cap (eP H (u.toArray++new.toArray++j5 z (cap-(l+n))) w)))
def N8(P:eQ)(t:eK)(x y:dB)(H:dw)(K:dB->dw->Prop):Prop:=
 match P.underlying t with
 |some (.slice h)=>(match x,P.info? h with
  |.slice p l c,some i=>qM P h λz=>ji h i.size i.bytes z p l c y H λp l c H'=>K (.slice p l c) H'
  |_,_=>False)
 |_=>False
def Mw(P:eQ):List eK->List dB->(dB->Prop)->Prop
 |[],acc,K=>K (.tuple acc.toArray)
 |t::ts,acc,K=>KF (Mk P t) λv=>Mw P ts (acc++[v]) K
def GP(P:eQ)(ts:List eK)(v:dB)(K:dB->Prop):Prop:=
 match ts with
 |[t]=>KF (Mk P t) λu=>v=u/\K u
 |ts=>Mw P ts [] λu=>v=u/\K u
def RH(P:eQ)(f:jt)(args:Array dB)(H:dw)(K:dB->dw->Prop):Prop:=
 match P.funcs[f]? with
 |some h=>bif h.body.isSome then Fn P f args H K else False
 |none=>False
def fF(P:eQ):Bool:=P.follows .mixedOrders&&P.funcs.all λh=>!(h.name== "runtime.NumGoroutine")
def kW(P:eQ)(o:Op)(e:Env)(H:dw)(K:dB->dw->Prop):Prop:=
 match o with
 |.store t x y=>o1 e x λv=>o1 e y λu=>(match v with
  |.pointer (some a)=>(match iJ P t with
   |true=>(match u with
    |.agg cs=>bif Nat.beq cs.size (j6 P t)&&(P.info? t).isSome then EI H a cs.toList 0 λH'=>K undef H' else False
    |_=>False)
   |false=>bif Nat.beq 1 (j6 P t)&&(P.info? t).isSome then R8 H a u λH'=>K undef H' else False)
  |_=>False)
 |.alloc t=>qM P t λz=>K (newAt H) (eP H (gH z).toArray t)
 |.box t x=>o1 e x λv=>(match v with
  |.agg cs=>K (newAt H) (eP H cs t)
  |_=>Dr v (K (newAt H) (eP H #[v] t)))
 |.makeSlice t l c=>o1 e l λw=>o1 e c λI=>(match P.underlying t,w,I with
  |some (.slice h),.int _ n,.int _ m=>(match P.info? h with
   |some i=>qM P h λz=>bif Nat.beq (gH z).length i.size&&Nat.blt 0 i.bytes&&Nat.blt 0 i.size then 0<=n/\n<=m/\(i.bytes:Int)*m<=281474976710656/\
    K (.slice (some ⟨H.size,0,none⟩) n.toNat m.toNat) (eP H (j5 z m.toNat) h) else False
   |none=>False)
  |_,_,_=>False)
 |.buildSlice t len parts=>Ru e parts.toList [] λN=>(match P.underlying t with
  |some (.slice h)=>(match P.info? h with
   |some i=>qM P h λz=>bif Nat.ble (len*i.size) 1024&&Nat.beq (gH z).length i.size then
    pH (λj=>some (j*i.size,i.size,iJ P h)) ((List.replicate len (gH z)).flatten) N λcs=>
     K (.slice (some ⟨H.size,0,none⟩) len len) (eP H cs.toArray h) else False
   |none=>False)
  |_=>False)
 |.convert s d x=>o1 e x λv=>(match P.underlying s,P.underlying d,v with
  |some _,some (.slice b),.string t=>(match P.underlying b with
   |some (.int .u8)=>∀cap,t.size<=cap->K (.slice (some ⟨H.size,0,none⟩) t.size cap)
    (H.push (.cells ((fV t).toArray++Array.replicate (cap-t.size) (.int .u8 0)) b (cap,cap+1)))
   |_=>False)
  |_,_,_=>False)
 |.call {callee:=.builtin .append,args:=args,argTypes:=ts}=>(match args.toList,ts.toList with
  |[x,y],[t,u]=>(match P.underlying u with
   |some (.int _)|none=>False
   |some _=>o1 e x λO=>o1 e y λW=>N8 P t O W H K)
  |_,_=>False)
 |.call {callee:=.value (.func f),args:=args,..}=>oL e args.toList [] λvs=>RH P f vs.toArray H K
 |_=>False
inductive Kind where
 |pure|read|write
 deriving DecidableEq
def kindOf(P:eQ)(o:Op):Kind:=
 match o with
 |.load _ _=>.read
 |.convert s d _=>(match P.underlying s,P.underlying d with
  |some (.slice _),some .string=>.read
  |some .string,some (.slice _)=>.write
  |some (.slice _),some (.slice _)=>.write
  |some (.pointer _),some .unsafePointer=>.read
  |some .unsafePointer,some (.pointer _)=>.read
  |_,_=>.pure)
 |.store ..|.alloc _|.box ..|.makeSlice ..|.buildSlice ..=>.write
 |.call {callee:=.builtin .append,..}=>.write
 |.call {callee:=.value _,..}=>.write
 |.call {callee:=.invoke ..,..}=>.write
 |.call {callee:=.builtin .copy,..}=>.write
 |.call {callee:=.builtin .clear,..}=>.write
 |.call {callee:=.builtin .unsafeString,..}=>.write
 |.makeMap ..|.mapUpdate ..|.insert ..|.range ..|.next ..=>.write
 |.lookup ..=>.read
 |_=>.pure
def iP(e:Env)(ρ:gU->dB)(xs:List gU):Prop:=∀x∈xs,∀v,nN e x=some v->ρ x=v
def Xy(P:eQ)(h:Op)(e:Env)(K:dB->Prop):Prop:=
 ∀o:Oper,o.op=h->∃v,K v/\∀ρ,iP e ρ h.operands.toList->∀w,(execOp ρ o).run P w=.ok (.value v) w
def Xx(P:eQ)(h:Op)(e:Env)(H:dw)(K:dB->Prop):Prop:=
 ∀o:Oper,o.op=h->∃v,K v/\∀ρ,iP e ρ h.operands.toList->∀w,w.heap=H->(execOp ρ o).run P w=.ok (.value v) w
def Xw(P:eQ)(h:Op)(e:Env)(H:dw)(K:dB->dw->Prop):Prop:=
 ∀(o:Oper)(a:Act)(w:fe)(next:Act->fe->Prop)(Q:Exit->Act->fe->Prop),o.op=h->iP e a.eval h.operands.toList->w.heap=H->
  (∀v w',ik w w'->K v w'.heap->next (a.put o.dst v) w')->o.wp P a w next Q
def kG(P:eQ)(o:Op)(e:Env)(K:dB->Prop):Prop:=gV P o e K\/Xy P o e K
def oQ(P:eQ)(o:Op)(e:Env)(H:dw)(K:dB->Prop):Prop:=uQ P o e H K\/Xx P o e H K
def og(P:eQ)(o:Op)(e:Env)(H:dw)(K:dB->dw->Prop):Prop:=kW P o e H K\/Xw P o e H K
def WI:Cs->Type
 |.int _=>Int
 |.bool=>Bool
 |.str=>dE
 |.ptr=>dC
 |.slice=>dC×Nat×Nat
 |.raw=>dB
def TD:(c:Cs)->WI c->dB
 |.int k,n=>.int k n
 |.bool,b=>.bool b
 |.str,s=>.string s
 |.ptr,p=>.pointer p
 |.slice,x=>.slice x.1 x.2.1 x.2.2
 |.raw,v=>v
def xC:(c:Cs)->dB->(WI c->Prop)->Prop
 |.int k,v,K=>(match v with|.int k' n=>if k'=k then K n else False|_=>False)
 |.bool,v,K=>(match v with|.bool b=>K b|_=>False)
 |.str,v,K=>(match v with|.string s=>K s|_=>False)
 |.ptr,v,K=>(match v with|.pointer p=>K p|_=>False)
 |.slice,v,K=>(match v with|.slice p l c=>K (p,l,c)|_=>False)
 |.raw,v,K=>K v
def Ox:List Cs->Type
 |[]=>Unit
 |c::cs=>WI c×Ox cs
def NF:(l:List Cs)->Ox l->List dB
 |[],_=>[]
 |c::cs,x=>TD c x.1::NF cs x.2
def UG:(l:List Cs)->List dB->(Ox l->Prop)->Prop
 |[],vs,K=>(match vs with|[]=>K ()|_::_=>False)
 |c::cs,vs,K=>(match vs with|v::vs=>xC c v λx=>UG cs vs λxs=>K (x,xs)|[]=>False)
def Uu:Sh->Type
 |.one c=>WI c
 |.agg l=>Ox l
def KI:(s:Sh)->Uu s->dB
 |.one c,x=>TD c x
 |.agg l,x=>.agg (NF l x).toArray
def xS:(s:Sh)->dB->(Uu s->Prop)->Prop
 |.one c,v,K=>xC c v K
 |.agg l,v,K=>(match v with|.agg vs=>UG l vs.toList K|_=>False)
abbrev Live:=List (Nat×Sh)
def LT:Live->Type
 |[]=>Unit
 |(_,s)::r=>Uu s×LT r
def Rw:(l:Live)->LT l->Env->Env
 |[],_,e=>e
 |(t,s)::r,x,e=>put (Rw r x.2 e) (some t) (KI s x.1)
def Um:(l:Live)->Env->(LT l->Prop)->Prop
 |[],_,K=>K ()
 |(t,s)::r,e,K=>(match e t with|some v=>xS s v λx=>Um r e λxs=>K (x,xs)|none=>False)
def Cm(e:Env)(h:List Nat):Env:=λt=>bif h.any (Nat.beq t) then none else e t
def fP{S:Type}(b:(S->dw->Prop)->S->dw->Prop)(s₀:S)(H₀:dw):Prop:=
 ∃I:Nat->S->dw->Prop,(∃n,I n s₀ H₀)/\∀n s H,I n s H->b (λh H'=>∃m,m<n/\I m h H') s H
def eA{S:Type}(f:(S->dw->Prop)->Prop)(k:S->dw->Prop):Prop:=
 ∃J:S->dw->Prop,f J/\∀s H,J s H->k s H
def gJ(ops:Array Oper)(o:Oper)(e:Env):Option Bool:=
 match o.guard with
 |none=>some true
 |some (j,h)=>match(ops[j]?).bind (·.dst) with
  |none=>some false
  |some d=>match e d with
   |some (.bool b)=>some (b==h)
   |some _=>some false
   |none=>none
def ni(ops:Array Oper)(i:Nat):Bool:=ops.any λo=>match o.guard with|some (j,_)=>Nat.beq j i|none=>false
def mr(g:Bool)(v:dB)(K:dB->Prop):Prop:=
 match g with
 |false=>K v
 |true=>match v with
  |.bool b=>eL b (K (.bool true)) (K (.bool false))
  |v=>K v
def oz(P:eQ)(ops:Array Oper):List Oper->Nat->Env->dw->(Env->dw->Prop)->Prop
 |[],_,e,H,K=>K e H
 |o::rest,i,e,H,K=>
  match gJ ops o e with
  |none=>False
  |some false=>oz P ops rest (i+1) (put e o.dst undef) H K
  |some true=>match kindOf P o.op with
   |.pure=>kG P o.op e λv=>mr (ni ops i) v λv=>oz P ops rest (i+1) (put e o.dst v) H K
   |.read=>oQ P o.op e H λv=>mr (ni ops i) v λv=>oz P ops rest (i+1) (put e o.dst v) H K
   |.write=>og P o.op e H λv H'=>mr (ni ops i) v λv=>oz P ops rest (i+1) (put e o.dst v) H' K
def oR(o:Oper)(h:List Nat):Nat:=
 o.after.toList.foldl (λs e=>bif Region.binds .any e then s|||2^e.on|||h.getD e.on 0 else s) 0
def iO:List Oper->List Nat->List Nat
 |[],acc=>acc
 |o::os,acc=>iO os (acc++[oR o acc])
def MQ(o:Oper):List Nat:=o.op.operands.toList.filterMap λ|.tmp t=>some t|_=>none
def uc(ops:Array Oper)(o:Oper):List Nat:=
 match o.guard with
 |some (j,_)=>((ops[j]?).bind (·.dst)).toList
 |none=>[]
def ya(ops:Array Oper)(o:Oper):List Nat:=uc ops o++MQ o
def kJ(ops:Array Oper)(o:Oper):List Nat:=o.dst.toList++ya ops o
def meets(ops:Array Oper)(x y:Oper):Bool:=
 (match x.dst with|some d=>(kJ ops y).any (Nat.beq d)|none=>false)||
 (match y.dst with|some d=>(kJ ops x).any (Nat.beq d)|none=>false)
def IG(P:eQ)(ops:Array Oper)(B:List Nat):List Nat->Nat->Bool
 |[],_=>true
 |i::rest,seen=>
  (match ops[i]? with
  |none=>false
  |some o=>
   !(seen.testBit i)&&
   o.after.toList.all (λe=>!(Region.binds .any e)||seen.testBit e.on)&&
   (!(kindOf P o.op==.write)||rest.all λj=>(B.getD j 0).testBit i)&&
   rest.all λj=>match ops[j]? with
    |none=>false
    |some y=>!(meets ops o y)||(B.getD j 0).testBit i)&&
  IG P ops B rest (seen|||2^i)
def Bc(P:eQ)(ops:Array Oper)(B h:List Nat):Bool:=
 (List.range ops.size).all (λi=>h.any (Nat.beq i))&&IG P ops B h 0
def rl(P:eQ)(ops:Array Oper)(B:List Nat)(X:Nat->Bool):List Nat->Nat->Bool
 |[],_=>true
 |i::rest,seen=>
  (match ops[i]? with
  |none=>false
  |some o=>
   !(seen.testBit i)&&
   o.after.toList.all (λe=>!(Region.binds .any e)||seen.testBit e.on)&&
   (X i||(!(kindOf P o.op==.write)||rest.all λj=>(B.getD j 0).testBit i))&&
   rest.all λj=>match ops[j]? with
    |none=>false
    |some y=>!(meets ops o y)||(B.getD j 0).testBit i)&&
  rl P ops B X rest (seen|||2^i)
def Jx(ops:Array Oper)(l:List Nat):Bool:=(List.range ops.size).all λi=>l.any (Nat.beq i)
def nV:List Nat->List Nat->List Nat×List Nat×List Nat
 |a::l,b::m=>bif Nat.beq a b then(match nV l m with|(p,x,y)=>(a::p,x,y)) else([],a::l,b::m)
 |l,m=>([],l,m)
def Dj(P:eQ)(ops:Array Oper)(i:Nat):Bool:=match ops[i]? with|some o=>kindOf P o.op==.pure|none=>false
def uZ(P:eQ)(ops:Array Oper)(i:Nat):Bool:=match ops[i]? with|some o=>kindOf P o.op==.write&&o.guard.isNone|none=>false
def Iq(P:eQ)(ops:Array Oper)(B:List Nat)(l m p:List Nat):List Nat->List Nat->Bool
 |c::r,d::_=>Jx ops l&&Jx ops m&&rl P ops B (Nat.beq c) l 0&&rl P ops B (Nat.beq d) m 0&&p.all (Dj P ops)&&uZ P ops c&&uZ P ops d&&
   r.all λj=>Nat.beq j d||(B.getD j 0).testBit c||(B.getD j 0).testBit d
 |_,_=>false
def lY(P:eQ)(ops:Array Oper)(m:Nat)(H:dw):List (Nat×Env×dB)->Prop->Prop
 |[],A=>A
 |(r,e,v)::D,A=>match m.testBit r with
  |true=>lY P ops m H D A
  |false=>(match ops[r]? with|some o=>oQ P o.op e H (λu=>u=v)|none=>False)/\lY P ops m H D A
def qd(P:eQ)(ops:Array Oper)(B:List Nat)(A:List Nat->Env->dw->List (Nat×Env×dB)->Prop):List Nat->Env->dw->List (Nat×Env×dB)->(Env->dw->Prop)->Prop
 |[],e,H,_,K=>K e H
 |i::rest,e,H,D,K=>
  match ops[i]? with
  |none=>False
  |some o=>match gJ ops o e with
   |none=>False
   |some false=>qd P ops B A rest (put e o.dst undef) H D K
   |some true=>match kindOf P o.op with
    |.pure=>kG P o.op e λv=>mr (ni ops i) v λv=>qd P ops B A rest (put e o.dst v) H D K
    |.read=>oQ P o.op e H λv=>mr (ni ops i) v λv=>qd P ops B A rest (put e o.dst v) H (D++[(i,e,v)]) K
    |.write=>(og P o.op e H λv H'=>lY P ops (B.getD i 0) H' D (mr (ni ops i) v λv=>qd P ops B A rest (put e o.dst v) H' D K))/\A (i::rest) e H D
def Jd(P:eQ)(ops:Array Oper)(B l m:List Nat)(e:Env)(H:dw)(K:Env->dw->Prop):Prop:=
 match nV l m with
 |(p,x,y)=>bif Iq P ops B l m p x y then qd P ops B (λ_ _ _ _=>True) p e H [] (λh H'=>qd P ops B (λ_ _ _ _=>True) x h H' [] K/\qd P ops B (λ_ _ _ _=>True) y h H' [] K) else False
structure Ks where
 n:Env->dw->Prop
 x:Nat->Env->dw->Prop
 r:Env->dw->Prop
def ua:Code->Option Nat
 |.region id _ _=>some id
 |.seq a b=>(match ua a with|some i=>some i|none=>ua b)
 |.cond _ a b=>(match ua a with|some i=>some i|none=>ua b)
 |.block _ a=>ua a
 |.loop a=>ua a
 |_=>none
def oh:Code->List Nat
 |.region _ ops _=>ops.toList.filterMap (·.dst)
 |.seq a b=>oh a++oh b
 |.cond _ a b=>oh a++oh b
 |.block _ a=>oh a
 |.loop a=>oh a
 |_=>[]
def ju(N:Nat)(ops:Array Oper):Bool:=ops.all λo=>match o.dst with|some d=>Nat.blt d N|none=>true
def vV(N:Nat)(args:List dB):Env:=λt=>bif Nat.blt t args.length then args[t]? else bif Nat.blt t N then some undef else none
def XE(P:eQ)(t:eK)(a:dA)(H:dw)(K:dB->Prop):Prop:=
 match P.underlying t with
 |none=>False
 |some (.struct _)|some (.array _ _)=>
  bif Nat.beq (kY P 8 t).length (j6 P t)&&(P.info? t).isSome then DA H a (kY P 8 t) 0 [] λvs=>K (.agg vs.toArray) else False
 |some _=>Uo (DT P t) H a K
def GQ(P:eQ)(H:dw)(e:Env):List ResultVar->List dB->(List dB->Prop)->Prop
 |[],acc,K=>K acc
 |.tmp t::r,acc,K=>(match e t with|some v=>GQ P H e r (acc++[v]) K|none=>False)
 |.cell a t::r,acc,K=>(match e a with|some (.pointer (some ad))=>XE P t ad H λv=>GQ P H e r (acc++[v]) K|_=>False)
def Pv(P:eQ)(h:Func)(R:dB->dw->Prop)(e:Env)(H:dw):Prop:=
 GQ P H e h.results.toList [] λvs=>(match vs with|[v]=>R v H|vs=>R (.tuple vs.toArray) H)
theorem fT{e:Env}{x:gU}{K:dB->Prop}(h:o1 e x K):∃v,nN e x=some v/\K v:=by
 unfold o1 at h
 split at h
 .rename_i v u;exact⟨v,u,h⟩
 .exact h.elim
theorem sA{e:Env}:∀{l:List gU}{u:List dB}{K:List dB->Prop},oL e l u K->
 ∃vs:List dB,vs.map some=l.map (nN e)/\K (u++vs)
 |[],u,K,h=>⟨[],rfl,by simpa[oL] using h⟩
 |x::xs,u,K,h=>by
  obtain⟨v,w,h⟩:=fT (show o1 e x _ from h)
  obtain⟨vs,I,N⟩:=sA h
  exact⟨v::vs,by simp[I,w],by simpa using N⟩
theorem Dp{e:Env}:∀{l:List (Nat×gU)}{u:List (Nat×dB)}{K:List (Nat×dB)->Prop},Ru e l u K->
 ∃vs:List (Nat×dB),vs.map (λv=>(v.1,some v.2))=l.map (λx=>(x.1,nN e x.2))/\K (u++vs)
 |[],u,K,h=>⟨[],rfl,by simpa[Ru] using h⟩
 |(i,x)::xs,u,K,h=>by
  obtain⟨v,w,h⟩:=fT (show o1 e x _ from h)
  obtain⟨vs,I,N⟩:=Dp h
  exact⟨(i,v)::vs,by simp[I,w],by simpa using N⟩
theorem MR{e:Env}{x:Option gU}{K:Option dB->Prop}(h:oO e x K):∃v,K v/\(∀y,x=some y->∃u,v=some u/\nN e y=some u)/\(x=none->v=none):=by
 cases x with
 |none=>exact⟨none,h,by simp,by simp⟩
 |some y=>
  obtain⟨v,w,h⟩:=fT (show o1 e y _ from h)
  exact⟨some v,h,by rintro _ ⟨⟩;exact⟨v,rfl,w⟩,by simp⟩
def Yields(P:eQ)(s:Sem dB)(v:dB):Prop:=∀w,s.run P w=.ok v w
section
variable {P:eQ} {K:dB->Prop}
theorem xk{c:Prop}[Decidable c]{A:Prop}(h:if c then A else False):c/\A:=by
 split at h
 .exact⟨‹_›,h⟩
 .exact h.elim
theorem N0{O:BinOp}{k W:IntKind}{a b:Int}{t:eK}(h:rB O k a W b K):
 ∃v,K v/\Yields P (binOp O t (.int k a) (.int W b)) v:=by
 cases O<;>simp only[rB] at h
 case shl=>obtain⟨N,h⟩:=h;exact⟨_,h,λw=>by simp[binOp,Op.shift,mU,show¬b<0 by omega]⟩
 case shr=>obtain⟨N,h⟩:=h;exact⟨_,h,λw=>by simp[binOp,Op.shift,mu,show¬b<0 by omega]⟩
 case quo=>obtain⟨u,N,I⟩:=xk h;subst u;exact⟨_,I,λw=>by simp[binOp,Op.intDiv,N]⟩
 case rem=>obtain⟨u,N,I⟩:=xk h;subst u;exact⟨_,I,λw=>by simp[binOp,Op.intDiv,N]⟩
 case eql=>obtain⟨u,I⟩:=xk h;subst u;exact⟨_,I,λw=>by simp[binOp,Op.intCmp,Bool.beq_eq_decide_eq]⟩
 case neq=>obtain⟨u,I⟩:=xk h;subst u;exact⟨_,I,λw=>by simp[binOp,Op.intCmp,bne,Bool.beq_eq_decide_eq]⟩
 all_goals (obtain⟨u,I⟩:=xk h;subst u;exact⟨_,I,λw=>by simp[binOp,Op.intArith,Op.intBits,Op.intCmp,lx,uI,JB,D3]⟩)
theorem toList_inj{a b:dE}:a.toList=b.toList↔a=b:=by
 rw[ByteArray.toList_eq,ByteArray.toList_eq]
 constructor
 .intro h;cases a;cases b;simp at h;simp[h]
 .rintro rfl;rfl
theorem NZ{u:BinOp}{a b:dE}{t:eK}(h:KZ u a b K):
 ∃v,K v/\Yields P (binOp u t (.string a) (.string b)) v:=by
 have I:(a.toList==b.toList)=decide (a=b):=by
  rw[Bool.eq_iff_iff];simp[toList_inj]
 cases u<;>simp only[KZ] at h<;>try exact h.elim
 case add=>
  obtain⟨O,h⟩:=h
  refine⟨_,h,λw=>?_⟩
  have N:¬((a.size+b.size:Nat):Int)>IntKind.i64.max:=by
   have:IntKind.i64.max=9223372036854775807:=by decide
   omega
  simp only[binOp,Op.stringOp]
  rw[if_neg N]
  rfl
 case eql=>exact⟨_,h,λw=>by simp[binOp,Op.stringOp,I]⟩
 case neq=>exact⟨_,h,λw=>by simp[binOp,Op.stringOp,I]⟩
theorem pU{u:BinOp}{t:eK}{x y:gU}{a b:dB}(I:¬(a=.nilIface/\b=.nilIface))(N:∀c d,¬(a=.agg c/\b=.agg d)):
 ∀w,(eqGuard u t x y a b).run P w=.ok () w:=by
 intro w
 unfold eqGuard
 have h:∀X Y:Sem Unit,Sem.run P (match a,b with|.nilIface,.nilIface=>X|.agg _,.agg _=>Y|_,_=>pure ()) w=.ok () w:=by
  intro X Y
  split
  .exact absurd ⟨rfl,rfl⟩ I
  .exact absurd ⟨rfl,rfl⟩ (N _ _)
  .rfl
 split<;>simp only[Bool.not_true,Bool.false_eq_true,if_false,Bool.not_false,if_true]<;>first|rfl|exact h _ _
theorem fJ{t:eK}{d:TypeDesc}(h:P.underlying t=some d)(w:fe):(underlying t).run P w=.ok d w:=by
 unfold underlying
 simp[h]
theorem Ay{t:eK}{i:TypeInfo}(h:P.info? t=some i)(w:fe):(typeInfo t).run P w=.ok i w:=by
 unfold typeInfo
 simp[h]
theorem jE{t:eK}{i:TypeInfo}(h:P.info? t=some i)(w:fe):(sizeOf t).run P w=.ok i.size w:=by
 unfold sizeOf
 simp[Ay h]
theorem vn{t:eK}{d:TypeDesc}(h:P.underlying t=some d)(w:fe):(isAgg t).run P w=.ok (iJ P t) w:=by
 unfold isAgg iJ
 rw[Sem.run_bind,fJ h,h]
 simp only[Result.andThen]
 cases d<;>rfl
theorem kM{t:eK}{K:dB->Prop}(h:qM P t K):∃i z,P.info? t=some i/\i.zero=some z/\K z/\∀w,(zeroValue t).run P w=.ok z w:=by
 unfold qM at h
 split at h
 .rename_i i hi
  split at h
  .rename_i z u
   exact⟨i,z,hi,u,h,λw=>by unfold zeroValue;rw[Sem.run_bind,Ay hi];simp[u]⟩
  .exact h.elim
 .exact h.elim
theorem run_equal_bool{t:eK}(h:P.underlying t=some .bool)(a b:Bool)(w:fe):(Op.equal t (.bool a) (.bool b)).run P w=.ok (decide (a=b)) w:=by
 unfold Op.equal
 rw[show Op.maxDepth=9999+1 from rfl,Op.equalIn]
 rw[Sem.run_bind,fJ h]
 simp[Bool.beq_eq_decide_eq]
theorem vk{t e:eK}(h:P.underlying t=some (.pointer e))(p:dC)(w:fe):(Op.equal t (.pointer p) (.pointer none)).run P w=.ok p.isNone w:=by
 unfold Op.equal
 rw[show Op.maxDepth=9999+1 from rfl,Op.equalIn]
 rw[Sem.run_bind,fJ h]
 cases p<;>simp
theorem tj{t e:eK}(h:P.underlying t=some (.slice e))(p:dC)(l c m d:Nat)(w:fe):(Op.equal t (.slice p l c) (.slice none m d)).run P w=.ok p.isNone w:=by
 unfold Op.equal
 rw[show Op.maxDepth=9999+1 from rfl,Op.equalIn]
 rw[Sem.run_bind,fJ h]
 cases p<;>simp
theorem Qi{neg:Bool}{t:eK}{x y:dB}(h:NC P neg t x y K):
 ∃v,K v/\Yields P (binOp (match neg with|true=>.neq|false=>.eql) t x y) v/\¬(x=.nilIface/\y=.nilIface)/\∀c d,¬(x=.agg c/\y=.agg d):=by
 unfold NC at h
 split at h
 .rename_i u
  split at h
  .refine⟨_,h,λw=>?_,by simp,by simp⟩
   cases neg
   .show Sem.run P (do pure (Value.bool (<-Op.equal t (.bool _) (.bool _)))) w=_
    simp[run_equal_bool u]
   .show Sem.run P (do pure (Value.bool (!(<-Op.equal t (.bool _) (.bool _))))) w=_
    simp[run_equal_bool u]
  .exact h.elim
 .rename_i u
  split at h
  .refine⟨_,h,λw=>?_,by simp,by simp⟩
   cases neg
   .show Sem.run P (do pure (Value.bool (<-Op.equal t (.pointer _) (.pointer none)))) w=_
    simp[vk u]
   .show Sem.run P (do pure (Value.bool (!(<-Op.equal t (.pointer _) (.pointer none))))) w=_
    simp[vk u]
  .exact h.elim
 .rename_i u
  split at h
  .refine⟨_,h,λw=>?_,by simp,by simp⟩
   cases neg
   .show Sem.run P (do pure (Value.bool (<-Op.equal t (.slice _ _ _) (.slice none _ _)))) w=_
    simp[tj u]
   .show Sem.run P (do pure (Value.bool (!(<-Op.equal t (.slice _ _ _) (.slice none _ _))))) w=_
    simp[tj u]
  .exact h.elim
 .exact h.elim
theorem A9{e:eK}{a b:dB}{r:Bool}(h:vU P e a b=some r):P.plainKey e=true/\∀(d:Nat)(w:fe),(Op.equalIn (d+1) e a b).run P w=.ok r w:=by
 unfold vU at h
 split at h
 .rename_i k x N y u
  split at h
  .rename_i I
   subst I
   obtain rfl:=Option.some.inj h
   exact⟨by simp[Program.plainKey,u],λd w=>by rw[run_equalIn_int w d e _ _ x y u,Bool.beq_eq_decide_eq]⟩
  .cases h
 .rename_i x y u
  obtain rfl:=Option.some.inj h
  refine⟨by simp[Program.plainKey,u],λd w=>?_⟩
  rw[run_equalIn_string w d e x y u]
  have:(x.toList==y.toList)=decide (x=y):=by rw[Bool.eq_iff_iff];simp[toList_inj]
  rw[this]
 .rename_i x y u
  obtain rfl:=Option.some.inj h
  exact⟨by simp[Program.plainKey,u],λd w=>by rw[run_equalIn_bool' w d e x y u,Bool.beq_eq_decide_eq]⟩
 .cases h
theorem Ct{e:eK}{xs ys:Array dB}{i:Nat}{r:Option Bool}{z:Bool}(h:Cu P e xs.toList ys.toList i r=some z):
 ∃a b x y,r=some y/\z=(x&&y)/\∀(d:Nat)(w:fe),(part e xs i).run P w=.ok a w/\(part e ys i).run P w=.ok b w/\(Op.equalIn (d+1) e a b).run P w=.ok x w:=by
 unfold Cu at h
 split at h
 .rename_i a b I N
  split at h
  .rename_i x y O
   obtain⟨u,W⟩:=A9 O
   refine⟨a,b,x,y,rfl,(Option.some.inj h).symm,λd w=>⟨run_part_plain w u (by rw[<-Array.getElem?_toList];exact I),run_part_plain w u (by rw[<-Array.getElem?_toList];exact N),W d w⟩⟩
  .cases h
 .cases h
theorem uS{e:eK}{xs ys:Array dB}(u:P.cellsOf e=1)(d:Nat)(w:fe):∀(n i:Nat)(z:Bool),Fy P e xs.toList ys.toList n i=some z->(Op.eqItems (d+1) e (P.cellsOf e) xs ys (List.range' i n)).run P w=.ok z w
 |0,i,z,h=>by
  obtain rfl:=Option.some.inj h
  simp[Op.eqItems]
 |n+1,i,z,h=>by
  unfold Fy at h
  obtain⟨a,b,x,y,N,rfl,O⟩:=Ct h
  obtain⟨W,Y,Z⟩:=O d w
  have I:=uS u d w n (i+1) y N
  rw[u] at I
  rw[List.range'_succ,u]
  simp only[Op.eqItems,Sem.run_bind,Nat.mul_one,W,Y,Z,Result.andThen_ok]
  cases x
  .simp
  .simpa using I
theorem sO{xs ys:Array dB}(d:Nat)(w:fe):∀(u:List Field)(z:Bool),yw P xs.toList ys.toList u=some z->(Op.eqFields (d+1) xs ys u).run P w=.ok z w
 |[],z,h=>by
  obtain rfl:=Option.some.inj h
  simp[Op.eqFields]
 |f::u,z,h=>by
  unfold yw at h
  cases I:(f.name== "_")<;>rw[I] at h<;>simp only[cond_true,cond_false] at h
  .obtain⟨a,b,x,y,O,rfl,W⟩:=Ct h
   obtain⟨Y,Z,p3⟩:=W d w
   have ih:=sO d w u y O
   have N:f.name≠ "_" :=by simpa using I
   simp only[Op.eqFields,if_pos N,Sem.run_bind,Y,Z,p3,Result.andThen_ok]
   cases x
   .simp
   .simpa using ih
  .cases h
theorem Hg{neg:Bool}{t:eK}{xs ys:Array dB}(h:Ba P neg t xs ys K){ox oy:gU}{I:BinOp}(O:isEq I=some neg):
 ∃v,K v/\Yields P (do eqGuard I t ox oy (.agg xs) (.agg ys);binOp I t (.agg xs) (.agg ys)) v:=by
 unfold Ba at h
 cases hg:P.eqGuardType P.depth t<;>rw[hg] at h<;>simp only[cond_true,cond_false] at h
 .have W:∀z:Bool,(∀w,(Op.equalIn (9998+1+1) t (.agg xs) (.agg ys)).run P w=.ok z w)->K (.bool (bif neg then !z else z))->
   ∃v,K v/\Yields P (do eqGuard I t ox oy (.agg xs) (.agg ys);binOp I t (.agg xs) (.agg ys)) v:=by
   intro z u hk
   refine⟨_,hk,λw=>?_⟩
   have u:=u w
   rw[Sem.run_bind,run_eqGuard_agg w I t ox oy xs ys hg]
   simp only[Result.andThen_ok]
   cases I<;>simp[isEq] at O<;>subst O
   .rw[run_eql_struct]
    rw[show(10000:Nat)=9998+1+1 from rfl,u]
    rfl
   .rw[run_neq_struct]
    rw[show(10000:Nat)=9998+1+1 from rfl,u]
    rfl
  split at h
  .rename_i n e N
   cases hc:(Nat.beq (P.cellsOf e) 1&&(P.info? e).isSome)<;>rw[hc] at h<;>simp only[cond_true,cond_false] at h
   .obtain⟨Z,h2⟩:=Bool.and_eq_true_iff.1 hc
    have Z:=Nat.eq_of_beq_eq_true Z
    obtain⟨i,hi⟩:=Option.isSome_iff_exists.1 h2
    split at h
    .rename_i z u
     refine W z (λw=>?_) h
     rw[run_equalIn_array w _ xs ys N hi,List.range_eq_range']
     exact uS Z _ w n 0 z u
    .exact h.elim
  .rename_i fs N
   cases hs:P.stoodInHeld t<;>rw[hs] at h<;>simp only[cond_true,cond_false] at h
   .split at h
    .rename_i z u
     refine W z (λw=>?_) h
     have Y:P.fieldsOf t=fs:=by simp[Program.fieldsOf,N]
     rw[run_equalIn_struct w _ t xs ys (by rw[Y];exact N) hs,Y]
     exact sO _ w _ z u
    .exact h.elim
  .exact h.elim
theorem HB{u:BinOp}{t:eK}{x y:dB}(h:jJ P u t x y K){ox oy:gU}:
 ∃v,K v/\Yields P (do eqGuard u t ox oy x y;binOp u t x y) v:=by
 have O:∀v,K v->Yields P (binOp u t x y) v->¬(x=.nilIface/\y=.nilIface)->(∀c d,¬(x=.agg c/\y=.agg d))->
  ∃v,K v/\Yields P (do eqGuard u t ox oy x y;binOp u t x y) v:=λv I N Y Z=>
  ⟨v,I,λw=>by rw[Sem.run_bind,pU Y Z];exact N w⟩
 have aa:(match isEq u with|some neg=>NC P neg t x y K|none=>False)->∃v,K v/\Yields P (do eqGuard u t ox oy x y;binOp u t x y) v:=by
  intro h
  split at h
  .rename_i neg W
   obtain⟨v,I,N,Y,Z⟩:=Qi h
   refine O v I ?_ Y Z
   cases u<;>simp[isEq] at W<;>subst W<;>exact N
  .exact h.elim
 cases x
 case int k a=>
  simp only[jJ] at h
  cases y<;>simp only at h<;>try exact h.elim
  obtain⟨v,I,N⟩:=N0 (P:=P) (t:=t) h
  exact O v I N (by simp) (by simp)
 case string a=>
  simp only[jJ] at h
  cases y<;>simp only at h<;>try exact h.elim
  obtain⟨v,I,N⟩:=NZ (P:=P) (t:=t) h
  exact O v I N (by simp) (by simp)
 case agg xs=>
  simp only[jJ] at h
  cases y<;>simp only at h<;>try exact h.elim
  split at h
  .rename_i neg W
   exact Hg h W
  .exact h.elim
 all_goals exact aa h
end
section
variable {P:eQ} {K:dB->Prop}
theorem KN{I N:eK}{x:dB}(h:FC P I N x K):∃v,K v/\Yields P (convert I N x) v:=by
 unfold FC at h
 split at h
 .exact h.elim
 .rename_i W O
  split at h
  .rename_i k _ n u
   exact⟨_,h,λw=>by unfold convert;rw[Sem.run_bind,fJ O];simp only[Result.andThen];rw[Sem.run_bind,fJ u];simp[Conv.intToInt]⟩
  .rename_i s u
   exact⟨_,h,λw=>by unfold convert;rw[Sem.run_bind,fJ O];simp only[Result.andThen];rw[Sem.run_bind,fJ u];rfl⟩
  .rename_i s u
   exact⟨_,h,λw=>by unfold convert;rw[Sem.run_bind,fJ O];simp only[Result.andThen];rw[Sem.run_bind,fJ u];rfl⟩
  .exact h.elim
theorem M9{t T:eK}{x:dB}(h:Dz P t x K):∃v,K v/\Yields P (Builtin.len_ #[t] T #[x]) v:=by
 unfold Dz at h
 split at h<;>first|exact h.elim|(rename_i u;exact⟨_,h,λw=>by unfold Builtin.len_;simp[fJ u,goInt]⟩)
theorem NV{t T:eK}{x:dB}(h:KU P t x K):∃v,K v/\Yields P (Builtin.cap_ #[t] T #[x]) v:=by
 unfold KU at h
 split at h<;>first|exact h.elim|(rename_i u;exact⟨_,h,λw=>by unfold Builtin.cap_;simp[fJ u,goInt]⟩)
theorem E7:∀{r:List dB}{x:dB},Kr x r K->∃v,K v/\Yields P (r.foldlM Builtin.max2 x) v
 |[],x,h=>⟨x,by simpa[Kr] using h,λw=>by simp⟩
 |y::r,x,h=>by
  cases x<;>cases y<;>simp only[Kr] at h<;>try exact h.elim
  rename_i k a N b
  obtain⟨v,u,I⟩:=E7 h
  refine⟨v,u,λw=>?_⟩
  rw[List.foldlM_cons,Sem.run_bind]
  have e:(if b>a then b else a)=max a b:=by split<;>omega
  simp only[Builtin.max2,Sem.run_pure,Result.andThen,e]
  exact I w
theorem E6:∀{r:List dB}{x:dB},Kq x r K->∃v,K v/\Yields P (r.foldlM Builtin.min2 x) v
 |[],x,h=>⟨x,by simpa[Kq] using h,λw=>by simp⟩
 |y::r,x,h=>by
  cases x<;>cases y<;>simp only[Kq] at h<;>try exact h.elim
  rename_i k a N b
  obtain⟨v,u,I⟩:=E6 h
  refine⟨v,u,λw=>?_⟩
  rw[List.foldlM_cons,Sem.run_bind]
  have e:(if b<a then b else a)=min a b:=by split<;>omega
  simp only[Builtin.min2,Sem.run_pure,Result.andThen,e]
  exact I w
theorem xH{x:Option dB}{d y:Nat}{K:Nat->Prop}(h:BJ x d y K):
 ∃n,K n/\(x=none->n=d)/\∀v,x=some v->∀c w,(Instr.sliceBound v y c).run P w=.ok n w:=by
 unfold BJ at h
 split at h
 .exact⟨_,h,by simp,by simp⟩
 .rename_i k i
  obtain⟨u,I,h⟩:=h
  refine⟨_,h,by simp,?_⟩
  rintro v ⟨⟩ c w
  unfold Instr.sliceBound
  simp[asIntOf,u,I]
 .exact h.elim
theorem mJ(i s:Nat):jy i s=i*s:=by
 unfold jy
 cases h:Nat.beq s 1
 .rfl
 .have:=Nat.eq_of_beq_eq_true h;subst this;simp
theorem ti{b:Bool}{len cap:Nat}{I hi:Option dB}{h l:Nat}
 (Y:hi=none->h=len)(N:∀v,hi=some v->∀c w,(Instr.sliceBound v cap c).run P w=.ok h w)
 (O:I=none->l=0)(W:∀v,I=some v->∀c w,(Instr.sliceBound v h c).run P w=.ok l w)(w:fe):
 (Instr.sliceBounds b len cap I hi none).run P w=.ok (l,h,cap) w:=by
 unfold Instr.sliceBounds
 cases hi with
 |none=>
  obtain rfl:=Y rfl
  cases I with
  |none=>obtain rfl:=O rfl;simp
  |some v=>simp[W v rfl]
 |some u=>
  cases I with
  |none=>obtain rfl:=O rfl;simp[N u rfl]
  |some v=>simp[W v rfl,N u rfl]
theorem GI{t:eK}{x:dB}{Y hi:Option dB}(h:ri P t x Y hi K):∃v,K v/\Yields P (Instr.sliceAt t x Y hi none) v:=by
 unfold ri at h
 split at h
 .rename_i s W
  obtain⟨n,h,u,I⟩:=xH (P:=P) h
  obtain⟨l,h,N,O⟩:=xH (P:=P) h
  refine⟨_,h,λw=>?_⟩
  unfold Instr.sliceAt Instr.slice
  simp[fJ W,ti u I N O]
 .rename_i e p n c W
  obtain⟨n,h,u,I⟩:=xH (P:=P) h
  obtain⟨l,h,N,O⟩:=xH (P:=P) h
  split at h
  .rename_i i hi
   refine⟨_,h,λw=>?_⟩
   unfold Instr.sliceAt Instr.slice
   simp[fJ W,ti u I N O,jE hi,mJ]
  .exact h.elim
 .exact h.elim
theorem AY{t:eK}{x W:dB}(h:oK P t x W K):∃v,K v/\Yields P (Instr.indexAt t x W) v:=by
 unfold oK at h
 split at h
 .rename_i k i
  split at h
  .rename_i e p n c u
   obtain⟨a,rfl,I,N,h⟩:=h
   split at h
   .rename_i j O
    refine⟨_,h,λw=>?_⟩
    unfold Instr.indexAt
    simp[fJ u,asIntOf,I,N,jE O,mJ]
   .exact h.elim
  .rename_i n e a u
   obtain⟨I,N,h⟩:=h
   split at h
   .rename_i j O
    refine⟨_,h,λw=>?_⟩
    unfold Instr.indexAt
    simp[fJ u,asIntOf,Instr.sureAddr,I,N,jE O,mJ]
   .exact h.elim
  .exact h.elim
 .exact h.elim
theorem Ha{t:eK}{x I:dB}(h:DE P t x I K):∃v,K v/\Yields P (Instr.index t x I) v:=by
 unfold DE at h
 split at h
 .rename_i k i
  split at h
  .rename_i s N
   obtain⟨O,Y,h⟩:=h
   refine⟨_,h,λw=>?_⟩
   have u:i.toNat<s.size:=by omega
   have e:s[i.toNat]?=some (s.data.toList.getD i.toNat 0):=by
    rw[getElem?_pos s i.toNat u]
    have W:i.toNat<s.data.toList.length:=by simpa using u
    rw[List.getD_eq_getElem?_getD,List.getElem?_eq_getElem W]
    rfl
   unfold Instr.index bt
   simp[fJ N,asIntOf,O,e]
  .exact h.elim
 .exact h.elim
theorem MM{t:eK}{cs:Array dB}{u:Nat}{d:TypeDesc}(N:P.underlying t=some d)(h:EV P t cs u K)(hi:(P.info? t).isSome=true):∃v,K v/\Yields P (part t cs u) v:=by
 unfold EV at h
 split at h
 .rename_i I
  obtain⟨i,hi⟩:=Option.isSome_iff_exists.1 hi
  refine⟨_,h,λw=>?_⟩
  unfold part
  simp[vn N,I,jE hi,j6,hi]
 .rename_i I
  split at h
  .rename_i v O
   exact⟨_,h,λw=>by unfold part;simp[vn N,I,O]⟩
  .exact h.elim
theorem Hf{t:eK}{x:dB}{f:Nat}(h:A4 P t x f K):∃v,K v/\Yields P (Instr.field t x f) v:=by
 unfold A4 at h
 split at h
 .rename_i Y cs u
  split at h
  .rename_i Z I
   split at h
   .rename_i d i N hi
    obtain⟨v,O,W⟩:=MM N h (by simp[hi])
    refine⟨v,O,λw=>?_⟩
    unfold Instr.field
    simp[fJ u,I,asAgg,W w]
   .exact h.elim
  .exact h.elim
 .exact h.elim
theorem A5{t:eK}{x:dB}{f:Nat}(h:sL P t x f K):∃v,K v/\Yields P (Instr.fieldAt t x f) v:=by
 unfold sL at h
 split at h
 .rename_i W a N
  split at h
  .rename_i Y O
   split at h
   .rename_i i hi
    cases u:Nat.beq i.size 0 with
    |true=>rw[u] at h;exact h.elim
    |false=>
     rw[u] at h
     have I:¬i.size=0:=by intro e;rw[e] at u;simp at u
     refine⟨_,h,λw=>?_⟩
     unfold Instr.fieldAt
     simp[fJ N,O,Instr.sureAddr,fieldPlace,jE hi,I]
   .exact h.elim
  .exact h.elim
 .exact h.elim
theorem qk{x v z:dB}{X T:eK}{ok:Bool}{d:TypeDesc}(W:P.underlying T=some d)(I:∀m,d≠.interface m)
 (N:∀w,(zeroValue T).run P w=.ok z w)(h:tB x T v z ok):Yields P (Instr.typeAssert x X T true) (.tuple #[v,.bool ok]):=by
 intro w
 unfold Instr.typeAssert
 rw[Sem.run_bind,fJ W]
 simp only[Result.andThen]
 rcases h with⟨rfl,rfl⟩|⟨rfl,rfl,rfl|⟨t,u,rfl,O⟩⟩
 .cases d<;>first|exact absurd rfl (I _)|simp
 .cases d<;>first|exact absurd rfl (I _)|simp[N]
 .cases d<;>first|exact absurd rfl (I _)|simp[N,O]
theorem te{v:dB}{X T:eK}{d:TypeDesc}(h:P.underlying T=some d)(u:∀m,d≠.interface m):
 Yields P (Instr.typeAssert (.iface T v) X T false) v:=by
 intro w
 unfold Instr.typeAssert
 rw[Sem.run_bind,fJ h]
 simp only[Result.andThen]
 cases d<;>first|exact absurd rfl (u _)|simp
theorem FL{x:dB}{X T:eK}{ok:Bool}(h:D0 P x T ok K):∃v,K v/\Yields P (Instr.typeAssert x X T ok) v:=by
 unfold D0 at h
 split at h
 .exact h.elim
 .exact h.elim
 .rename_i d u w
  have I:∀m,d≠.interface m:=λm e=>u m e
  cases ok with
  |true=>
   simp only at h
   obtain⟨i,z,hi,hz,h,N⟩:=kM h
   obtain⟨v,h⟩:=xx h
   obtain⟨b,O,h⟩:=h
   exact⟨_,h,qk w I N O⟩
  |false=>
   simp only at h
   obtain⟨v,W⟩:=xx h
   obtain⟨Y,Z⟩:=W
   subst Y
   exact⟨_,Z,te w I⟩
theorem DN{x:dB}{i:Nat}(h:xr x i K):∃v,K v/\Yields P (Instr.extract x i) v:=by
 unfold xr at h
 split at h
 .split at h
  .rename_i vs _ v u
   exact⟨_,h,λw=>by unfold Instr.extract;simp[u]⟩
  .exact h.elim
 .exact h.elim
theorem Hb{t:eK}{x:dB}(h:DF P t x K):∃v,K v/\Yields P (Instr.makeInterface t x) v:=by
 unfold DF at h
 split at h
 .exact h.elim
 .exact h.elim
 .rename_i d u I
  refine⟨_,h,λw=>?_⟩
  unfold Instr.makeInterface
  rw[Sem.run_bind,fJ I]
  simp only[Result.andThen]
  cases d<;>first|exact absurd I (u _)|simp
theorem O8{u:UnOp}{x:dB}(h:Ug u x K):∃v,K v/\Yields P (Op.unary u x) v:=by
 unfold Ug at h
 split at h
 .exact⟨_,h,λw=>by simp[Op.unary,Op.intArith]⟩
 .exact⟨_,h,λw=>by simp[Op.unary]⟩
 .exact⟨_,h,λw=>by simp[Op.unary,Op.intBits,Kl]⟩
 .exact h.elim
theorem BD{x:dB}(h:uL x K):∃a,x=.pointer (some a)/\K (.pointer (some a)):=by
 unfold uL at h
 split at h
 .obtain⟨a,rfl,h⟩:=h;exact⟨a,rfl,h⟩
 .exact h.elim
end
section
variable {P:eQ}
theorem xj{α β:Type}(g:α->Sem β)(h:α->β)(w:fe):∀l:List α,(∀x∈l,(g x).run P w=.ok (h x) w)->(l.mapM g).run P w=.ok (l.map h) w
 |[],_=>by simp
 |x::l,hh=>by
  rw[List.mapM_cons]
  simp[hh x (by simp),xj g h w l (λy u=>hh y (by simp[u]))]
theorem FO{α β:Type}(g:α->Sem β)(h:α->β)(w:fe)(a:Array α)(u:∀x∈a,(g x).run P w=.ok (h x) w):(a.mapM g).run P w=.ok (a.map h) w:=by
 rw[Array.mapM_eq_mapM_toList,Sem.run_map,xj g h w a.toList (λx I=>u x (by simpa using I))]
 cases a;simp
theorem AG{v:dB}{K:Prop}(h:Dr v K):K/\v.cells=#[v]/\(∀c,v≠.agg c)/\(∀c,v≠.tuple c):=by
 unfold Dr at h
 cases v<;>first|exact h.elim|exact⟨h,rfl,by simp,by simp⟩
theorem vj(h:Nat):∀(l:List dB)(k:Nat)(cs:List dB),
 (l.zipIdx k).foldl (λ(cs:Array dB)(x:dB×Nat)=>cs.setIfInBounds (h+x.2) x.1) cs.toArray=(oX cs (h+k) l).toArray
 |[],k,cs=>rfl
 |v::l,k,cs=>by
  simp only[List.zipIdx_cons,List.foldl_cons,List.setIfInBounds_toArray,oX]
  rw[vj h l (k+1)]
  rfl
theorem CG(h:Nat)(vs:Array dB)(cs:List dB):
 vs.zipIdx.foldl (λ(cs:Array dB)(x:dB×Nat)=>cs.setIfInBounds (h+x.2) x.1) cs.toArray=(oX cs h vs.toList).toArray:=by
 rw[<-Array.foldl_toList,Array.toList_zipIdx]
 exact vj h vs.toList 0 cs
theorem oP{w:Nat->Option (Nat×Nat×Bool)}:∀{parts:List (Nat×dB)}{u:List dB}{K:List dB->Prop},pH w u parts K->
 ∃cs,K cs/\Instr.fill (λi=>(w i).map λx=>(x.1,x.2.1)) u.toArray parts=some cs.toArray
 |[],u,K,h=>⟨u,by simpa[pH] using h,rfl⟩
 |(i,v)::rest,u,K,h=>by
  simp only[pH] at h
  split at h
  .exact h.elim
  .rename_i I O Z hp
   cases Z with
   |false=>
    simp only at h
    obtain⟨h,hc,_,_⟩:=AG h
    cases N:(Nat.blt I u.length&&Nat.beq O 1) with
    |false=>rw[N] at h;exact h.elim
    |true=>
     rw[N] at h
     simp only[Bool.and_eq_true] at N
     have h1:I<u.length:=by have:=N.1;rw[Nat.blt_eq] at this;exact this
     have h2:O=1:=Nat.eq_of_beq_eq_true N.2
     obtain⟨cs,W,Y⟩:=oP (show pH w (u.set I v) rest K from h)
     refine⟨cs,W,?_⟩
     unfold Instr.fill
     simp only[hp,Option.map_some,hc]
     rw[if_neg (by simp[h2];omega)]
     rw[<-Y]
     congr 1
     simp
   |true=>
    simp only at h
    split at h
    .rename_i vs
     cases N:(Nat.beq vs.size O&&Nat.ble (I+vs.size) u.length) with
     |false=>rw[N] at h;exact h.elim
     |true=>
      rw[N] at h
      simp only[Bool.and_eq_true] at N
      have h1:vs.size=O:=Nat.eq_of_beq_eq_true N.1
      have h2:I+vs.size<=u.length:=Nat.le_of_ble_eq_true N.2
      obtain⟨cs,W,Y⟩:=oP (show pH w (oX u I vs.toList) rest K from h)
      refine⟨cs,W,?_⟩
      unfold Instr.fill
      simp only[hp,Option.map_some]
      rw[if_neg (by simp[Value.cells,h1];omega)]
      rw[<-Y]
      congr 1
      exact CG I vs u
    .exact h.elim
theorem oS(v:dB):v.cells=(gH v).toArray:=by cases v<;>rfl
theorem Ht{K:dB->Prop}{t:eK}{parts:List (Nat×dB)}(h:DV P t parts K):∃v,K v/\Yields P (Instr.build t parts.toArray) v:=by
 unfold DV at h
 obtain⟨i,z,hi,hz,h,Y⟩:=kM h
 split at h
 .rename_i u Z
  cases I:zF P u with
  |false=>rw[I] at h;exact h.elim
  |true=>
   rw[I] at h
   obtain⟨cs,hk,N⟩:=oP (show pH (AA P u) (gH z) parts _ from h)
   refine⟨_,hk,λw=>?_⟩
   have hm:(u.mapM λ(f:Field)=>do pure (f.offset,<-sizeOf f.type)).run P w=.ok (u.map λ(f:Field)=>(f.offset,j6 P f.type)) w:=by
    refine FO _ _ w u λf N=>?_
    unfold zF at I
    have hs:=(Array.all_eq_true_iff_forall_mem.1 I) f N
    obtain⟨j,O⟩:=Option.isSome_iff_exists.1 hs
    rw[Sem.run_bind,jE O]
    simp[j6,O]
   have e:(λ(i:Nat)=>(u.map λ(f:Field)=>(f.offset,j6 P f.type))[i]?)=λi=>(AA P u i).map λx=>(x.1,x.2.1):=by
    funext i
    unfold AA
    rw[Array.getElem?_map]
    cases u[i]?<;>rfl
   unfold Instr.build
   rw[Sem.run_bind,Y]
   simp only[Result.andThen]
   rw[Sem.run_bind,fJ Z]
   simp only[Result.andThen]
   rw[Sem.run_bind,hm]
   simp only[Result.andThen,oS]
   rw[e,N]
   rfl
 .rename_i n W Z
  cases I:(P.info? W).isSome with
  |false=>rw[I] at h;exact h.elim
  |true=>
   rw[I] at h
   obtain⟨j,O⟩:=Option.isSome_iff_exists.1 I
   obtain⟨cs,hk,N⟩:=oP (show pH (λi=>some (i*j6 P W,j6 P W,iJ P W)) (gH z) parts _ from h)
   refine⟨_,hk,λw=>?_⟩
   have es:j6 P W=j.size:=by simp[j6,O]
   simp only[es,Option.map_some] at N
   unfold Instr.build
   rw[Sem.run_bind,Y]
   simp only[Result.andThen]
   rw[Sem.run_bind,fJ Z]
   simp only[Result.andThen]
   rw[Sem.run_bind,jE O]
   simp only[Result.andThen,oS]
   rw[N]
   rfl
 .exact h.elim
theorem iP.list{e:Env}{ρ:gU->dB}{l:List gU}{vs:List dB}(h:vs.map some=l.map (nN e))(u:iP e ρ l):l.map ρ=vs:=by
 induction l generalizing vs with
 |nil=>cases vs<;>simp_all
 |cons x l w=>
  cases vs with
  |nil=>simp at h
  |cons v vs=>
   simp only[List.map_cons,List.cons.injEq] at h
   rw[List.map_cons,u x (by simp) v h.1.symm,w h.2 (λy I=>u y (by simp[I]))]
theorem iP.Cc{e:Env}{ρ:gU->dB}{l:List (Nat×gU)}{vs:List (Nat×dB)}(h:vs.map (λv=>(v.1,some v.2))=l.map (λx=>(x.1,nN e x.2)))(u:iP e ρ (l.map (·.2))):
 l.map (λx=>(x.1,ρ x.2))=vs:=by
 induction l generalizing vs with
 |nil=>cases vs<;>simp_all
 |cons x l I=>
  cases vs with
  |nil=>simp at h
  |cons v vs=>
   simp only[List.map_cons,List.cons.injEq,Prod.mk.injEq] at h
   rw[List.map_cons,u x.2 (by simp) v.2 h.1.2.symm,I h.2 (λy w=>u y (by simp at w⊢;exact .inr w)),<-h.1.1]
theorem Fx{o:Oper}{e:Env}{K:dB->Prop}(h:gV P o.op e K):
 ∃v,K v/\∀ρ,iP e ρ o.op.operands.toList->∀w,(execOp ρ o).run P w=.ok (.value v) w:=by
 have N:∀{s:Sem dB},(∃v,K v/\Yields P s v)->(∀ρ,iP e ρ o.op.operands.toList->execOp ρ o=do pure (.value (<-s)))->∃v,K v/\∀ρ,iP e ρ o.op.operands.toList->∀w,(execOp ρ o).run P w=.ok (.value v) w:=by
  rintro s ⟨v,W,Y⟩ e
  refine⟨v,W,λρ I w=>?_⟩
  rw[e ρ I,Sem.run_bind,Y w]
  rfl
 obtain⟨az,op,ab,aA,au,guard⟩:=o
 simp only at h N⊢
 unfold gV at h
 split at h
 .rename_i x
  obtain⟨v,O,W⟩:=fT h
  exact⟨v,W,λρ I w=>by simp[execOp,I x (by simp[Op.operands]) v O]⟩
 .rename_i x
  obtain⟨v,O,W⟩:=fT h
  exact⟨v,W,λρ I w=>by simp[execOp,I x (by simp[Op.operands]) v O]⟩
 .rename_i c a b
  obtain⟨vc,O,W⟩:=fT h
  split at W
  .rename_i t
   rcases uY W with⟨rfl,W⟩|⟨rfl,W⟩
   .obtain⟨u,hu,W⟩:=fT W
    exact⟨u,W,λρ I w=>by simp[execOp,I c (by simp[Op.operands]) _ O,asBool,I a (by simp[Op.operands]) u hu]⟩
   .obtain⟨u,hu,W⟩:=fT W
    exact⟨u,W,λρ I w=>by simp[execOp,I c (by simp[Op.operands]) _ O,asBool,I b (by simp[Op.operands]) u hu]⟩
  .exact W.elim
 .rename_i x
  obtain⟨v,O,W⟩:=fT h
  obtain⟨a,ak,am⟩:=BD W
  exact⟨_,am,λρ I w=>by simp[execOp,I x (by simp[Op.operands]) _ O,ak]⟩
 .rename_i aB t x y _
  obtain⟨vx,hx,h⟩:=fT h
  obtain⟨vy,Y,h⟩:=fT h
  refine N (HB h (ox:=x) (oy:=y)) λρ I=>?_
  simp only[execOp,I x (by simp[Op.operands]) _ hx,I y (by simp[Op.operands]) _ Y]
 .rename_i aC _ x
  obtain⟨v,O,h⟩:=fT h
  exact N (O8 h) (λρ I=>by simp only[execOp,I x (by simp[Op.operands]) _ O])
 .rename_i s d x
  obtain⟨v,O,h⟩:=fT h
  exact N (KN h) (λρ I=>by simp only[execOp,I x (by simp[Op.operands]) _ O])
 .rename_i t x
  obtain⟨v,O,h⟩:=fT h
  exact N (Hb h) (λρ I=>by simp only[execOp,I x (by simp[Op.operands]) _ O])
 .rename_i t x lo hi
  obtain⟨v,O,h⟩:=fT h
  obtain⟨l,h,ao,ap⟩:=MR h
  obtain⟨u,h,aq,ar⟩:=MR h
  refine N (GI h) λρ I=>?_
  have el:lo.map ρ=l:=by
   cases lo with
   |none=>rw[ap rfl];rfl
   |some y=>obtain⟨z,rfl,hz⟩:=ao y rfl;simp[I y (by simp[Op.operands]) z hz]
  have eu:hi.map ρ=u:=by
   cases hi with
   |none=>rw[ar rfl];rfl
   |some y=>obtain⟨z,rfl,hz⟩:=aq y rfl;simp[I y (by simp[Op.operands]) z hz]
  simp only[execOp,I x (by simp[Op.operands]) _ O,el,eu,Option.map_none]
 .rename_i t x f
  obtain⟨v,O,h⟩:=fT h
  exact N (A5 h) (λρ I=>by simp only[execOp,I x (by simp[Op.operands]) _ O])
 .rename_i t x f
  obtain⟨v,O,h⟩:=fT h
  exact N (Hf h) (λρ I=>by simp only[execOp,I x (by simp[Op.operands]) _ O])
 .rename_i t x ix
  obtain⟨v,O,h⟩:=fT h
  obtain⟨i,hi,h⟩:=fT h
  exact N (AY h) (λρ I=>by simp only[execOp,I x (by simp[Op.operands]) _ O,I ix (by simp[Op.operands]) _ hi])
 .rename_i t x ix
  obtain⟨v,O,h⟩:=fT h
  obtain⟨i,hi,h⟩:=fT h
  exact N (Ha h) (λρ I=>by simp only[execOp,I x (by simp[Op.operands]) _ O,I ix (by simp[Op.operands]) _ hi])
 .rename_i x X T ok
  obtain⟨v,O,h⟩:=fT h
  exact N (FL (X:=X) h) (λρ I=>by simp only[execOp,I x (by simp[Op.operands]) _ O])
 .rename_i x i
  obtain⟨v,O,h⟩:=fT h
  exact N (DN h) (λρ I=>by simp only[execOp,I x (by simp[Op.operands]) _ O])
 .rename_i t parts
  obtain⟨ps,hp,h⟩:=Dp h
  refine N (Ht (by simpa using h)) λρ I=>?_
  have e:(parts.map λ(x:Nat×gU)=>(x.1,ρ x.2))=ps.toArray:=by
   have:=iP.Cc hp (λy Y=>I y (by simp[Op.operands];simpa using Y))
   rw[<-this]
   cases parts;simp
  simp only[execOp,e]
 .rename_i args Z
  split at h
  .rename_i x t hx ht
   obtain⟨v,O,h⟩:=fT h
   have ea:args=#[x]:=by cases args;simpa using hx
   have et:Z=#[t]:=by cases Z;simpa using ht
   subst ea et
   refine N (M9 (T:=ab) h) λρ I=>?_
   simp only[execOp,resolve,List.map_toArray,List.map_cons,List.map_nil,I x (by simp[Op.operands,Call.operands]) _ O,pure_bind,invoke,builtin]
  .exact h.elim
 .rename_i args Z
  split at h
  .rename_i x t hx ht
   obtain⟨v,O,h⟩:=fT h
   have ea:args=#[x]:=by cases args;simpa using hx
   have et:Z=#[t]:=by cases Z;simpa using ht
   subst ea et
   refine N (NV (T:=ab) h) λρ I=>?_
   simp only[execOp,resolve,List.map_toArray,List.map_cons,List.map_nil,I x (by simp[Op.operands,Call.operands]) _ O,pure_bind,invoke,builtin]
  .exact h.elim
 .rename_i args Z
  obtain⟨vs,ad,h⟩:=sA h
  simp only[List.nil_append] at h
  split at h
  .rename_i v r
   refine N (E7 h) λρ I=>?_
   have ea:=iP.list ad (λy Y=>I y (by simp[Op.operands,Call.operands];simpa using Y))
   have ae:args.map ρ=(v::r).toArray:=by rw[<-ea];cases args;simp
   simp only[execOp,resolve,ae,pure_bind,invoke,builtin,Builtin.max_]
  .exact h.elim
 .rename_i args Z
  obtain⟨vs,ad,h⟩:=sA h
  simp only[List.nil_append] at h
  split at h
  .rename_i v r
   refine N (E6 h) λρ I=>?_
   have ea:=iP.list ad (λy Y=>I y (by simp[Op.operands,Call.operands];simpa using Y))
   have ae:args.map ρ=(v::r).toArray:=by rw[<-ea];cases args;simp
   simp only[execOp,resolve,ae,pure_bind,invoke,builtin,Builtin.min_]
  .exact h.elim
 .exact h.elim
theorem kb{o:Oper}{e:Env}{K:dB->Prop}(h:kG P o.op e K):
 ∃v,K v/\∀ρ,iP e ρ o.op.operands.toList->∀w,(execOp ρ o).run P w=.ok (.value v) w:=by
 rcases h with h|h
 .exact Fx h
 .exact h o rfl
end
section
variable {P:eQ}
theorem cell_of{w:fe}{H:dw}(u:w.heap=H){a:dA}{v:dB}(h:dL H a=some v):w.cell? a=some v:=by rw[mZ,u,h]
theorem add_zero(a:dA):a.add 0=a:=by simp[Addr.add]
theorem EL{w:fe}{p:dC}{l c:Nat}{s:dE}(h:qZ w.heap p l s):(Conv.bytesToString (.slice p l c)).run P w=.ok (.string s) w:=by
 cases p with
 |none=>unfold qZ at h;subst h;rfl
 |some a=>
  obtain⟨N,O⟩:=h
  have I:(fV s).length=l:=by unfold fV;rw[List.length_map,Array.length_toList];exact N
  have u:=run_loadCells_list (P:=P) w a (fV s) (λj v W=>cell_of rfl (O j v W))
  rw[I] at u
  have e:(fV s).toArray=((s.data.toList.map λb=>(b.toNat:Int)).map (Value.int .u8)).toArray:=by
   unfold fV;rw[List.map_map];rfl
  rw[e] at u
  rw[run_bytesToString w a l c _ u,foldl_push_bytes]
  congr 2
  apply ByteArray.ext
  apply Array.ext'
  simp[List.map_map,Function.comp_def,UInt8.ofNat_toNat]
theorem Fw{o:Oper}{e:Env}{H:dw}{K:dB->Prop}(h:uQ P o.op e H K):
 ∃v,K v/\∀ρ,iP e ρ o.op.operands.toList->∀w,w.heap=H->(execOp ρ o).run P w=.ok (.value v) w:=by
 have N:∀{s:Sem dB},(∃v,K v/\∀w,w.heap=H->s.run P w=.ok v w)->(∀ρ,iP e ρ o.op.operands.toList->execOp ρ o=do pure (.value (<-s)))->∃v,K v/\∀ρ,iP e ρ o.op.operands.toList->∀w,w.heap=H->(execOp ρ o).run P w=.ok (.value v) w:=by
  rintro s ⟨v,O,hy⟩ e
  refine⟨v,O,λρ Z w W=>?_⟩
  rw[e ρ Z,Sem.run_bind,hy w W]
  rfl
 obtain⟨ap,op,aj,aq,ah,guard⟩:=o
 simp only at h N⊢
 unfold uQ at h
 split at h
 .rename_i t x
  obtain⟨v,hv,h⟩:=fT h
  refine N (s:=Instr.loadAt t v) ?_ (λρ Z=>by simp only[execOp,Z x (by simp[Op.operands]) _ hv])
  split at h
  .rename_i a
   have ab:∀w,(Instr.sureAddr (.pointer (some a))).run P w=.ok a w:=λw=>rfl
   have I:∀d,P.underlying t=some d->iJ P t=true->
    (bif Nat.beq (kY P 8 t).length (j6 P t)&&(P.info? t).isSome then DA H a (kY P 8 t) 0 [] λvs=>K (.agg vs.toArray) else False)->
    ∃v,K v/\∀w,w.heap=H->(Instr.loadAt t (.pointer (some a))).run P w=.ok v w:=by
    intro d u aa h
    cases Y:(Nat.beq (kY P 8 t).length (j6 P t)&&(P.info? t).isSome) with
    |false=>rw[Y] at h;exact h.elim
    |true=>
     rw[Y] at h
     simp only[Bool.and_eq_true] at Y
     obtain⟨i,hi⟩:=Option.isSome_iff_exists.1 Y.2
     have ar:(kY P 8 t).length=i.size:=by have:=Nat.eq_of_beq_eq_true Y.1;simpa[j6,hi] using this
     obtain⟨vs,hl,hc,O⟩:=AU (show DA H a (kY P 8 t) 0 [] _ from h)
     refine⟨_,O,λw W=>?_⟩
     have ae:=run_loadCells_list (P:=P) w a vs (λj v hj=>cell_of W (by simpa using hc j v hj))
     unfold Instr.loadAt loadVar
     rw[Sem.run_bind,ab]
     simp only[Result.andThen]
     rw[Sem.run_bind,vn u,aa]
     simp only[Result.andThen,if_true]
     rw[Sem.run_bind,jE hi]
     simp only[Result.andThen]
     rw[Sem.run_bind,show i.size=vs.length by omega,ae]
     simp
   split at h
   .exact h.elim
   .rename_i fs u;exact I _ u (by simp[iJ,u]) h
   .rename_i n el u;exact I _ u (by simp[iJ,u]) h
   .rename_i d af ag u
    have aa:iJ P t=false:=by
     unfold iJ;rw[u]
     cases d<;>first|rfl|exact absurd rfl (af _)|exact absurd rfl (ag _ _)
    obtain⟨v,hc,O⟩:=DC h
    refine⟨v,O,λw W=>?_⟩
    unfold Instr.loadAt loadVar
    rw[Sem.run_bind,ab]
    simp only[Result.andThen]
    rw[Sem.run_bind,vn u,aa]
    simp[cell_of W hc]
  .exact h.elim
 .rename_i s d x
  obtain⟨v,hv,h⟩:=fT h
  refine N (s:=convert s d v) ?_ (λρ Z=>by simp only[execOp,Z x (by simp[Op.operands]) _ hv])
  split at h
  .rename_i b p l c hs hd
   split at h
   .rename_i Y
    obtain⟨t,ht,O⟩:=h
    refine⟨_,O,λw W=>?_⟩
    rw[run_convert_bytes_string w s d b p l c hs Y hd]
    exact EL (by rw[W];exact ht)
   .exact h.elim
  .exact h.elim
 .exact h.elim
theorem ka{o:Oper}{e:Env}{H:dw}{K:dB->Prop}(h:oQ P o.op e H K):
 ∃v,K v/\∀ρ,iP e ρ o.op.operands.toList->∀w,w.heap=H->(execOp ρ o).run P w=.ok (.value v) w:=by
 rcases h with h|h
 .exact Fw h
 .exact h o rfl
theorem vY{z:dB}:z.cells.size=(gH z).length:=by rw[oS];simp
theorem vB(z:dB)(n:Nat):j5 z n=Builtin.zeroCells z.cells n:=by
 unfold j5 Builtin.zeroCells
 rw[vY]
 apply Array.map_congr_left
 intro i hi
 have w:i<n*(gH z).length:=by simpa using hi
 have u:0<(gH z).length:=by
  rcases Nat.eq_zero_or_pos (gH z).length with h|h
  .rw[h] at w;omega
  .exact h
 have I:i%(gH z).length<(gH z).length:=Nat.mod_lt _ u
 have N:i%(gH z).length<z.cells.size:=by rw[vY];exact I
 rw[getElem!_pos z.cells _ N,List.getD_eq_getElem?_getD,List.getElem?_eq_getElem I]
 simp only[Option.getD_some]
 have:=oS z
 simp[this]
theorem GM{w:fe}{a:dA}{v:dB}(h:(∀c,v≠.agg c)/\(∀c,v≠.tuple c)){u:dB}(I:dL w.heap a=some u)(N:fH w.heap a=false):
 (store a v).run P w=.ok () (w.setCell a v):=by
 have O:v.oneCell'=true:=by
  cases v<;>first|rfl|exact absurd rfl (h.1 _)|exact absurd rfl (h.2 _)
 rw[run_store P w a v .plain O,mZ,I]
 simp only[]
 rw[qy,N]
 rfl
theorem It{H:dw}{a:dA}{v:dB}{K:dw->Prop}(h:R8 H a v K):K (gO H a v)/\v.cells=#[v]/\∀w,w.heap=H->(store a v).run P w=.ok () (w.setCell a v):=by
 unfold R8 at h
 obtain⟨⟨⟨u,N⟩,O,W⟩,Y,Z,h2⟩:=AG h
 exact⟨W,Y,λw I=>GM ⟨Z,h2⟩ (by rw[I];exact N) (by rw[I];exact O)⟩
theorem Aj{a:dA}:∀{vs:List dB}{H:dw}{i:Nat}{K:dw->Prop},EI H a vs i K->
 ∀w,w.heap=H->∃w',(storeCells a vs i).run P w=.ok () w'/\ik w w'/\K w'.heap
 |[],H,i,K,h,w,hw=>⟨w,rfl,ik.refl w,by rw[hw];exact h⟩
 |v::vs,H,i,K,h,w,hw=>by
  obtain⟨N,_,O⟩:=It (P:=P) (show R8 H (a.add i) v _ from h)
  obtain⟨w',u,W,I⟩:=Aj N (w.setCell (a.add i) v) (by rw[nX,hw])
  refine⟨w',?_,(ik.setCell w _ _).trans W,I⟩
  unfold storeCells
  rw[Sem.run_bind,O w hw]
  exact u
theorem xJ{H:dw}{u n:Nat}{y:dB}{new:List dB}(h:oo H u y n new):∀w,w.heap=H->
 (Builtin.lenOf y).run P w=.ok n w/\(Builtin.firstCells u n y).run P w=.ok new.toArray w:=by
 intro w I
 unfold oo at h
 split at h
 .rename_i p l c
  obtain⟨rfl,h⟩:=h
  refine⟨rfl,?_⟩
  split at h
  .obtain⟨rfl,rfl⟩:=h;rfl
  .rename_i a
   exact run_firstCells_some w u n a n c new h.1 (λj v N=>cell_of I (h.2 j v N))
 .rename_i s
  obtain⟨rfl,rfl,rfl⟩:=h
  refine⟨rfl,?_⟩
  show Result.ok _ w=Result.ok _ w
  congr 1
  unfold fV
  apply Array.ext'
  have:s.extract 0 s.size=s:=by
   apply ByteArray.ext
   rw[ByteArray.data_extract]
   exact Array.extract_size
  rw[this]
  simp
 .exact h.elim
theorem SG{d:TypeDesc}(h:∀k,d≠.int k):(match d with|.int _=>true|_=>false)=false:=by
 cases d<;>first|rfl|exact absurd rfl (h _)
theorem N7{t u T:eK}{x y:dB}{H:dw}{K:dB->dw->Prop}{d:TypeDesc}(hu:P.underlying u=some d)(hd:∀k,d≠.int k)(h:N8 P t x y H K):
 ∀w,w.heap=H->∃v w',(Builtin.append_ #[t,u] T #[x,y]).run P w=.ok v w'/\ik w w'/\K v w'.heap:=by
 intro w I
 unfold N8 at h
 split at h
 .rename_i W ht
  split at h
  .rename_i p l c i hi
   obtain⟨i',z,ae,hz,h,ao⟩:=kM h
   obtain rfl:i=i':=by rw[hi] at ae;exact Option.some.inj ae
   obtain⟨n,new,af,h⟩:=h
   have N:=λw I=>(xJ (P:=P) af w I).1
   have Y:=λw I=>(xJ (P:=P) af w I).2
   have hm:=SG hd
   have Z:∀w,(sizeOf W).run P w=.ok i.size w:=jE hi
   rcases h with⟨aj,h⟩|⟨ac,hb,ap,aa,aq,ab,h⟩
   .cases p with
    |none=>
     obtain⟨rfl,hk⟩:=h
     refine⟨_,w,?_,ik.refl w,by rw[I];exact hk⟩
     have O:=Y w I
     have ad:l<=c:=by omega
     unfold Builtin.append_
     simp only[show((#[t,u]:Array eK)[0]?:Option eK)=some t from rfl,show((#[t,u]:Array eK)[1]?:Option eK)=some u from rfl,
      show((#[Value.slice none l c,y]:Array dB)[0]?:Option dB)=some (.slice none l c) from rfl,show((#[Value.slice none l c,y]:Array dB)[1]?:Option dB)=some y from rfl]
     simp[fJ ht,Z,fJ hu,N w I,ad,O]
    |some a=>
     obtain⟨w',ar,hs,hk⟩:=Aj (P:=P) h w I
     refine⟨_,w',?_,hs,hk⟩
     have O:=Y w I
     unfold Builtin.append_
     simp only[show((#[t,u]:Array eK)[0]?:Option eK)=some t from rfl,show((#[t,u]:Array eK)[1]?:Option eK)=some u from rfl,
      show((#[Value.slice (some a) l c,y]:Array dB)[0]?:Option dB)=some (.slice (some a) l c) from rfl,show((#[Value.slice (some a) l c,y]:Array dB)[1]?:Option dB)=some y from rfl]
     simp[fJ ht,Z,fJ hu,N w I,aj,O,ar]
   .have ag:w.drew.heap=H:=I
    have am:=Y w.drew ag
    have an:(Builtin.firstCells i.size l (.slice p l c)).run P w.drew=.ok aa.toArray w.drew:=by
     cases p with
     |none=>simp only[eY] at ab;subst ab;rfl
     |some a=>exact run_firstCells_some w.drew i.size l a l c aa aq (λj v hj=>cell_of ag (ab j v hj))
    have hK:=h (grownCap w (l+n) c W) (grownCap_ge w _ _ _)
    rw[<-I] at hK
    refine⟨.slice (some ⟨w.heap.size,0,none⟩) (l+n) (grownCap w (l+n) c W),w.drew.alloc (.cells (aa.toArray++new.toArray++j5 z (grownCap w (l+n) c W-(l+n))) W),?_,(ik.drew w).trans (ik.alloc _ _),hK⟩
    have hn:¬(l+n<=c):=by omega
    have av:¬(281474976710656<Builtin.nextslicecap (l+n) c*i.bytes):=by
     have:=growslice_fits (bytes:=i.bytes) ac hb
     omega
    unfold Builtin.append_
    simp only[show((#[t,u]:Array eK)[0]?:Option eK)=some t from rfl,show((#[t,u]:Array eK)[1]?:Option eK)=some u from rfl,
     show((#[Value.slice p l c,y]:Array dB)[0]?:Option dB)=some (.slice p l c) from rfl,show((#[Value.slice p l c,y]:Array dB)[1]?:Option dB)=some y from rfl]
    simp[fJ ht,Z,fJ hu,N w I,hn,Ay hi,ap,av,Question.forced,an,am,ao,newRow,grownCap,vB,I]
    congr 2
    apply Array.ext'
    simp[List.append_assoc]
  .exact h.elim
 .exact h.elim
end
end Go.Ex
