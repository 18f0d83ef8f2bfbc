/- Part AN of the proof that the law TopMany answers true at every input, under no condition. -/
import Derived.Test.YtmdbfgemefalmaaGreatDoorQAM
import Derived.KernelRfl
set_option linter.unusedVariables false
set_option maxHeartbeats 2000000
set_option maxRecDepth 100000
namespace Go.Proofs.iQ
open Go.Ex
theorem eF:j0 Tryz.prog=true:=by kernel_rfl
abbrev gv:Nat:=3
abbrev eC:Nat:=4
abbrev iD:Nat:=5
abbrev dZ:Nat:=9
abbrev gV:Nat:=20
abbrev ie:Nat:=28
abbrev su:Nat:=32
abbrev fq:Nat:=34
abbrev kj:Nat:=37
abbrev ij:Nat:=51
abbrev rl:Nat:=55
abbrev rM:Nat:=59
abbrev eH:Nat:=61
abbrev iI:Nat:=83
abbrev og:Nat:=84
abbrev lz:Nat:=88
abbrev ji:Nat:=90
abbrev iH:Nat:=96
abbrev jT:Nat:=99
abbrev mS:Nat:=102
abbrev BM:Nat:=117
abbrev IB:Nat:=133
abbrev uL:Nat:=139
abbrev j5:Nat:=154
abbrev kO:Nat:=158
abbrev pA:Nat:=160
abbrev iW:Nat:=162
abbrev qy:Nat:=163
abbrev yJ:Nat:=168
abbrev Em:Nat:=198
abbrev dE:Nat:=203
abbrev El:Nat:=211
abbrev mR:Nat:=213
abbrev ic:Nat:=215
abbrev la:Nat:=217
abbrev rq:Nat:=218
abbrev qz:Nat:=219
abbrev oJ:Nat:=224
abbrev ja:Nat:=228
abbrev jA:Nat:=279
abbrev lP:Nat:=301
abbrev mG:Nat:=5
def nR:List Value->Addr->Nat->Heap->(Heap->Prop)->Prop
 |[],_,_,H,K=>K H
 |v::r,a,j,H,K=>(∃u,dj H (a.add j)=some u)/\gO H (a.add j)=false/\nR r a (j+1) (nQ H (a.add j) v) K
abbrev sV(v:Value)(a:Addr)(H:Heap)(K:Heap->Prop):Prop:=(∃u,dj H a=some u)/\gO H a=false/\K (nQ H a v)
abbrev S3(H:Heap)(a:Addr)(K:Bool->Prop):Prop:=∃x0:Bool,dj H a=some (.bool x0)/\K x0
abbrev ff(H:Heap)(a:Addr)(K:Int->Prop):Prop:=∃x0:Int,dj H a=some (.int .i64 x0)/\K x0
abbrev jt(H:Heap)(a:Addr)(K:Int->Int->Int->Int->Prop):Prop:=∃x0:Int,dj H (a.add 0)=some (.int .i64 x0)/\∃x1:Int,dj H (a.add 1)=some (.int .i64 x1)/\∃x2:Int,dj H (a.add 2)=some (.int .i64 x2)/\∃x3:Int,dj H (a.add 3)=some (.int .i64 x3)/\K x0 x1 x2 x3
theorem qH{H:Heap}{a:Addr}{K:Int->Int->Int->Int->Prop}(I:Int)(x1:Int)(x2:Int)(x3:Int)(h:∀j,j<4->dj H (a.add j)=([.int .i64 I,.int .i64 x1,.int .i64 x2,.int .i64 x3]:List Value)[j]?)(hk:K I x1 x2 x3):jt H a K:=
 ⟨I,h 0 (by decide),x1,h 1 (by decide),x2,h 2 (by decide),x3,h 3 (by decide),hk⟩
abbrev sB(H:Heap)(a:Addr)(K:Int->Int->Int->ByteArray->ByteArray->Prop):Prop:=∃x0:Int,dj H (a.add 0)=some (.int .i64 x0)/\∃x1:Int,dj H (a.add 1)=some (.int .i64 x1)/\∃x2:Int,dj H (a.add 2)=some (.int .i64 x2)/\∃x3:ByteArray,dj H (a.add 3)=some (.string x3)/\∃x4:ByteArray,dj H (a.add 4)=some (.string x4)/\K x0 x1 x2 x3 x4
theorem uX{H:Heap}{a:Addr}{K:Int->Int->Int->ByteArray->ByteArray->Prop}(I:Int)(x1:Int)(x2:Int)(x3:ByteArray)(x4:ByteArray)(h:∀j,j<5->dj H (a.add j)=([.int .i64 I,.int .i64 x1,.int .i64 x2,.string x3,.string x4]:List Value)[j]?)(hk:K I x1 x2 x3 x4):sB H a K:=
 ⟨I,h 0 (by decide),x1,h 1 (by decide),x2,h 2 (by decide),x3,h 3 (by decide),x4,h 4 (by decide),hk⟩
abbrev kK(H:Heap)(a:Addr)(K:Int->Int->ByteArray->ByteArray->ByteArray->ByteArray->Option Addr->Nat->Nat->Prop):Prop:=∃x0:Int,dj H (a.add 0)=some (.int .i64 x0)/\∃x1:Int,dj H (a.add 1)=some (.int .i64 x1)/\∃x2:ByteArray,dj H (a.add 2)=some (.string x2)/\∃x3:ByteArray,dj H (a.add 3)=some (.string x3)/\∃x4:ByteArray,dj H (a.add 4)=some (.string x4)/\∃x5:ByteArray,dj H (a.add 5)=some (.string x5)/\∃(Ax:Option Addr)(Ca DA:Nat),dj H (a.add 6)=some (.slice Ax Ca DA)/\K x0 x1 x2 x3 x4 x5 Ax Ca DA
theorem nW{H:Heap}{a:Addr}{K:Int->Int->ByteArray->ByteArray->ByteArray->ByteArray->Option Addr->Nat->Nat->Prop}(x0:Int)(x1:Int)(x2:ByteArray)(x3:ByteArray)(x4:ByteArray)(x5:ByteArray)(I:Option Addr)(aa:Nat)(ab:Nat)(h:∀j,j<7->dj H (a.add j)=([.int .i64 x0,.int .i64 x1,.string x2,.string x3,.string x4,.string x5,.slice I aa ab]:List Value)[j]?)(hk:K x0 x1 x2 x3 x4 x5 I aa ab):kK H a K:=
 ⟨x0,h 0 (by decide),x1,h 1 (by decide),x2,h 2 (by decide),x3,h 3 (by decide),x4,h 4 (by decide),x5,h 5 (by decide),I,aa,ab,h 6 (by decide),hk⟩
abbrev nu(H:Heap)(a:Addr)(K:Int->Int->Option Addr->Nat->Nat->Option Addr->Nat->Nat->Prop):Prop:=∃x0:Int,dj H (a.add 0)=some (.int .i64 x0)/\∃x1:Int,dj H (a.add 1)=some (.int .i64 x1)/\∃(AJ:Option Addr)(AK AM:Nat),dj H (a.add 2)=some (.slice AJ AK AM)/\∃(AE:Option Addr)(AG AH:Nat),dj H (a.add 3)=some (.slice AE AG AH)/\K x0 x1 AJ AK AM AE AG AH
theorem xr{H:Heap}{a:Addr}{K:Int->Int->Option Addr->Nat->Nat->Option Addr->Nat->Nat->Prop}(x0:Int)(x1:Int)(I:Option Addr)(aa:Nat)(ab:Nat)(ad:Option Addr)(ae:Nat)(af:Nat)(h:∀j,j<4->dj H (a.add j)=([.int .i64 x0,.int .i64 x1,.slice I aa ab,.slice ad ae af]:List Value)[j]?)(hk:K x0 x1 I aa ab ad ae af):nu H a K:=
 ⟨x0,h 0 (by decide),x1,h 1 (by decide),I,aa,ab,h 2 (by decide),ad,ae,af,h 3 (by decide),hk⟩
abbrev C5(H:Heap)(a:Addr)(K:Int->ByteArray->ByteArray->ByteArray->Prop):Prop:=∃x0:Int,dj H (a.add 0)=some (.int .i64 x0)/\∃x1:ByteArray,dj H (a.add 1)=some (.string x1)/\∃x2:ByteArray,dj H (a.add 2)=some (.string x2)/\∃x3:ByteArray,dj H (a.add 3)=some (.string x3)/\K x0 x1 x2 x3
theorem EK{H:Heap}{a:Addr}{K:Int->ByteArray->ByteArray->ByteArray->Prop}(I:Int)(x1:ByteArray)(x2:ByteArray)(x3:ByteArray)(h:∀j,j<4->dj H (a.add j)=([.int .i64 I,.string x1,.string x2,.string x3]:List Value)[j]?)(hk:K I x1 x2 x3):C5 H a K:=
 ⟨I,h 0 (by decide),x1,h 1 (by decide),x2,h 2 (by decide),x3,h 3 (by decide),hk⟩
abbrev eE(H:Heap)(a:Addr)(K:Int->ByteArray->ByteArray->Option Addr->Nat->Nat->Bool->Prop):Prop:=∃x0:Int,dj H (a.add 0)=some (.int .i64 x0)/\∃x1:ByteArray,dj H (a.add 1)=some (.string x1)/\∃x2:ByteArray,dj H (a.add 2)=some (.string x2)/\∃(AE:Option Addr)(AG AH:Nat),dj H (a.add 3)=some (.slice AE AG AH)/\∃x4:Bool,dj H (a.add 4)=some (.bool x4)/\K x0 x1 x2 AE AG AH x4
theorem LL{H:Heap}{a:Addr}{K:Int->ByteArray->ByteArray->Option Addr->Nat->Nat->Bool->Prop}(x0:Int)(x1:ByteArray)(x2:ByteArray)(I:Option Addr)(aa:Nat)(ab:Nat)(x4:Bool)(h:∀j,j<5->dj H (a.add j)=([.int .i64 x0,.string x1,.string x2,.slice I aa ab,.bool x4]:List Value)[j]?)(hk:K x0 x1 x2 I aa ab x4):eE H a K:=
 ⟨x0,h 0 (by decide),x1,h 1 (by decide),x2,h 2 (by decide),I,aa,ab,h 3 (by decide),x4,h 4 (by decide),hk⟩
abbrev lj(H:Heap)(a:Addr)(K:Option Addr->Prop):Prop:=∃x0:Option Addr,dj H a=some (.pointer x0)/\K x0
abbrev amn(H:Heap)(a:Addr)(K:Int->Prop):Prop:=∃x0:Int,dj H a=some (.int .i32 x0)/\K x0
abbrev ae9(H:Heap)(a:Addr)(K:Int->Int->Prop):Prop:=∃x0:Int,dj H (a.add 0)=some (.int .i32 x0)/\∃x1:Int,dj H (a.add 1)=some (.int .i32 x1)/\K x0 x1
theorem Xx{H:Heap}{a:Addr}{K:Int->Int->Prop}(I:Int)(x1:Int)(h:∀j,j<2->dj H (a.add j)=([.int .i32 I,.int .i32 x1]:List Value)[j]?)(hk:K I x1):ae9 H a K:=
 ⟨I,h 0 (by decide),x1,h 1 (by decide),hk⟩
abbrev im(H:Heap)(a:Addr)(K:ByteArray->Prop):Prop:=∃x0:ByteArray,dj H a=some (.string x0)/\K x0
abbrev xq(H:Heap)(a:Addr)(K:ByteArray->Option Addr->Nat->Nat->Option Addr->Nat->Nat->Prop):Prop:=∃x0:ByteArray,dj H (a.add 0)=some (.string x0)/\∃(R4:Option Addr)(R5 R6:Nat),dj H (a.add 1)=some (.slice R4 R5 R6)/\∃(AJ:Option Addr)(AK AM:Nat),dj H (a.add 2)=some (.slice AJ AK AM)/\K x0 R4 R5 R6 AJ AK AM
theorem vP{H:Heap}{a:Addr}{K:ByteArray->Option Addr->Nat->Nat->Option Addr->Nat->Nat->Prop}(x0:ByteArray)(I:Option Addr)(aa:Nat)(ab:Nat)(ad:Option Addr)(ae:Nat)(af:Nat)(h:∀j,j<3->dj H (a.add j)=([.string x0,.slice I aa ab,.slice ad ae af]:List Value)[j]?)(hk:K x0 I aa ab ad ae af):xq H a K:=
 ⟨x0,h 0 (by decide),I,aa,ab,h 1 (by decide),ad,ae,af,h 2 (by decide),hk⟩
abbrev Xw(H:Heap)(a:Addr)(K:Value->Prop):Prop:=∃x0:Value,dj H a=some (x0)/\K x0
abbrev F6(H:Heap)(a:Addr)(K:Int->Prop):Prop:=∃x0:Int,dj H a=some (.int .u8 x0)/\K x0
abbrev eO(H:Heap)(a:Addr)(K:Option Addr->Nat->Nat->Prop):Prop:=∃(alu:Option Addr)(alv alw:Nat),dj H a=some (.slice alu alv alw)/\K alu alv alw
def nY.C(aa:Int)(I:Int)(H:Heap)(R:Bool->Heap->Prop):Prop:=Ex.Fn Tryz.prog 3 #[.int .i64 aa,.int .i64 I] H λv H'=>∃r0:Bool,v=.bool r0/\R r0 H'
def fM.C(I:Option Addr)(aa ab:Nat)(ad:Int)(ae:Int)(af:Int)(ag:Int)(H:Heap)(R:Option Addr->Int->Heap->Prop):Prop:=Ex.Fn Tryz.prog 5 #[.slice I aa ab,.agg #[.int .i64 ad,.int .i64 ae,.int .i64 af,.int .i64 ag]] H λv H'=>∃r0:Option Addr,∃r1:Int,v=.tuple #[.pointer r0,.int .i64 r1]/\R r0 r1 H'
def jW.C(I:Option Addr)(H:Heap)(R:ByteArray->Int->Heap->Prop):Prop:=Ex.Fn Tryz.prog 6 #[.pointer I] H λv H'=>∃r0:ByteArray,∃r1:Int,v=.tuple #[.string r0,.int .i64 r1]/\R r0 r1 H'
def iO.C(aq:Option Addr)(ai:Int)(aj:Int)(ak:Int)(al:ByteArray)(ao:ByteArray)(H:Heap)(R:Int->Int->Option Addr->Nat->Nat->Option Addr->Nat->Nat->Heap->Prop):Prop:=Ex.Fn Tryz.prog 7 #[.pointer aq,.agg #[.int .i64 ai,.int .i64 aj,.int .i64 ak,.string al,.string ao]] H λv H'=>∃ag:Int,∃ah:Int,∃(I:Option Addr)(aa ab:Nat),∃(ad:Option Addr)(ae af:Nat),v=.agg #[.int .i64 ag,.int .i64 ah,.slice I aa ab,.slice ad ae af]/\R ag ah I aa ab ad ae af H'
def ui.C(H:Heap)(R:Bool->Heap->Prop):Prop:=Ex.Fn Tryz.prog 8 #[] H λv H'=>∃I:Bool,v=.bool I/\R I H'
def kl.C(I:Int)(H:Heap)(R:ByteArray->Heap->Prop):Prop:=Ex.Fn Tryz.prog 9 #[.int .i64 I] H λv H'=>∃r0:ByteArray,v=.string r0/\R r0 H'
def gB.C(ad:Option Addr)(ae af:Nat)(ag:Int)(ah:Int)(ai:Int)(aj:Int)(H:Heap)(R:Option Addr->Nat->Nat->Int->Heap->Prop):Prop:=Ex.Fn Tryz.prog 15 #[.slice ad ae af,.agg #[.int .i64 ag,.int .i64 ah,.int .i64 ai,.int .i64 aj]] H λv H'=>∃(I:Option Addr)(aa ab:Nat),∃r1:Int,v=.tuple #[.slice I aa ab,.int .i64 r1]/\R I aa ab r1 H'
def jh.C(I:Option Addr)(aa ab:Nat)(H:Heap)(R:Option Addr->Int->Heap->Prop):Prop:=Ex.Fn Tryz.prog 16 #[.slice I aa ab] H λv H'=>∃r0:Option Addr,∃r1:Int,v=.tuple #[.pointer r0,.int .i64 r1]/\R r0 r1 H'
def lY.C(I:Option Addr)(H:Heap)(R:ByteArray->Int->Heap->Prop):Prop:=Ex.Fn Tryz.prog 17 #[.pointer I] H λv H'=>∃r0:ByteArray,∃r1:Int,v=.tuple #[.string r0,.int .i64 r1]/\R r0 r1 H'
def ln.C(I:Option Addr)(H:Heap)(R:Option Addr->Heap->Prop):Prop:=Ex.Fn Tryz.prog 18 #[.pointer I] H λv H'=>∃r0:Option Addr,v=.pointer r0/\R r0 H'
def jK.C(aq:Option Addr)(ai:Int)(aj:Int)(ak:Int)(al:ByteArray)(ao:ByteArray)(H:Heap)(R:Int->Int->Option Addr->Nat->Nat->Option Addr->Nat->Nat->Heap->Prop):Prop:=Ex.Fn Tryz.prog 19 #[.pointer aq,.agg #[.int .i64 ai,.int .i64 aj,.int .i64 ak,.string al,.string ao]] H λv H'=>∃ag:Int,∃ah:Int,∃(I:Option Addr)(aa ab:Nat),∃(ad:Option Addr)(ae af:Nat),v=.agg #[.int .i64 ag,.int .i64 ah,.slice I aa ab,.slice ad ae af]/\R ag ah I aa ab ad ae af H'
def dL.C(ad:Option Addr)(H:Heap)(R:Option Addr->Nat->Nat->Heap->Prop):Prop:=Ex.Fn Tryz.prog 29 #[.pointer ad] H λv H'=>∃(I:Option Addr)(aa ab:Nat),v=.slice I aa ab/\R I aa ab H'
def j6.C(I:Int)(aa:Int)(ab:Int)(ad:Int)(H:Heap)(R:Bool->Heap->Prop):Prop:=Ex.Fn Tryz.prog 30 #[.agg #[.int .i64 I,.int .i64 aa,.int .i64 ab,.int .i64 ad]] H λv H'=>∃r0:Bool,v=.bool r0/\R r0 H'
def iZ.C(I:Option Addr)(aa ab:Nat)(H:Heap)(R:ByteArray->Int->Heap->Prop):Prop:=Ex.Fn Tryz.prog 31 #[.slice I aa ab] H λv H'=>∃r0:ByteArray,∃r1:Int,v=.tuple #[.string r0,.int .i64 r1]/\R r0 r1 H'
def jG.C(ag:ByteArray)(I:Option Addr)(aa ab:Nat)(ad:Option Addr)(ae af:Nat)(H:Heap)(R:Option Addr->Heap->Prop):Prop:=Ex.Fn Tryz.prog 32 #[.agg #[.string ag,.slice I aa ab,.slice ad ae af]] H λv H'=>∃r0:Option Addr,v=.pointer r0/\R r0 H'
def fh.C(H:Heap)(R:Option Addr->Heap->Prop):Prop:=Ex.Fn Tryz.prog 33 #[] H λv H'=>∃I:Option Addr,v=.pointer I/\R I H'
def nf.C(I:Option Addr)(aa:ByteArray)(H:Heap)(R:Int->Heap->Prop):Prop:=Ex.Fn Tryz.prog 34 #[.pointer I,.string aa] H λv H'=>∃r0:Int,v=.int .i64 r0/\R r0 H'
def jB.C(I:Option Addr)(aa ab:Nat)(H:Heap)(R:Bool->Heap->Prop):Prop:=Ex.Fn Tryz.prog 35 #[.slice I aa ab] H λv H'=>∃r0:Bool,v=.bool r0/\R r0 H'
def dT.C(I:Option Addr)(aa ab:Nat)(H:Heap)(R:ByteArray->Heap->Prop):Prop:=Ex.Fn Tryz.prog 36 #[.slice I aa ab] H λv H'=>∃r0:ByteArray,v=.string r0/\R r0 H'
def jd.C(I:Option Addr)(aa ab:Nat)(H:Heap)(R:Option Addr->Int->Heap->Prop):Prop:=Ex.Fn Tryz.prog 37 #[.slice I aa ab] H λv H'=>∃r0:Option Addr,∃r1:Int,v=.tuple #[.pointer r0,.int .i64 r1]/\R r0 r1 H'
def fX.C(ad:Option Addr)(ae af:Nat)(H:Heap)(R:Option Addr->Nat->Nat->Heap->Prop):Prop:=Ex.Fn Tryz.prog 38 #[.slice ad ae af] H λv H'=>∃(I:Option Addr)(aa ab:Nat),v=.slice I aa ab/\R I aa ab H'
def j4.C(aa:Option Addr)(ab ad:Nat)(I:Int)(H:Heap)(R:Option Addr->Int->Heap->Prop):Prop:=Ex.Fn Tryz.prog 39 #[.slice aa ab ad,.int .i64 I] H λv H'=>∃r0:Option Addr,∃r1:Int,v=.tuple #[.pointer r0,.int .i64 r1]/\R r0 r1 H'
def jH.C(I:Option Addr)(aa ab:Nat)(H:Heap)(R:Option Addr->Int->Heap->Prop):Prop:=Ex.Fn Tryz.prog 40 #[.slice I aa ab] H λv H'=>∃r0:Option Addr,∃r1:Int,v=.tuple #[.pointer r0,.int .i64 r1]/\R r0 r1 H'
def mZ.C(I:Option Addr)(aa ab:Nat)(H:Heap)(R:Int->Heap->Prop):Prop:=Ex.Fn Tryz.prog 41 #[.slice I aa ab] H λv H'=>∃r0:Int,v=.int .i64 r0/\R r0 H'
def ky.C(I:Option Addr)(aa ab:Nat)(H:Heap)(R:ByteArray->Int->Heap->Prop):Prop:=Ex.Fn Tryz.prog 42 #[.slice I aa ab] H λv H'=>∃r0:ByteArray,∃r1:Int,v=.tuple #[.string r0,.int .i64 r1]/\R r0 r1 H'
def dQ.C(I:Option Addr)(H:Heap)(R:Int->Heap->Prop):Prop:=Ex.Fn Tryz.prog 43 #[.pointer I] H λv H'=>∃r0:Int,v=.int .i64 r0/\R r0 H'
def kr.C(I:Option Addr)(aa:Int)(H:Heap)(R:Bool->Heap->Prop):Prop:=Ex.Fn Tryz.prog 44 #[.pointer I,.int .i64 aa] H λv H'=>∃r0:Bool,v=.bool r0/\R r0 H'
def jJ.C(aq:Option Addr)(ai:Int)(aj:Int)(ak:Int)(al:ByteArray)(ao:ByteArray)(H:Heap)(R:Int->Int->Option Addr->Nat->Nat->Option Addr->Nat->Nat->Heap->Prop):Prop:=Ex.Fn Tryz.prog 45 #[.pointer aq,.agg #[.int .i64 ai,.int .i64 aj,.int .i64 ak,.string al,.string ao]] H λv H'=>∃ag:Int,∃ah:Int,∃(I:Option Addr)(aa ab:Nat),∃(ad:Option Addr)(ae af:Nat),v=.agg #[.int .i64 ag,.int .i64 ah,.slice I aa ab,.slice ad ae af]/\R ag ah I aa ab ad ae af H'
def dw.C(aj:Option Addr)(ak:Int)(H:Heap)(R:Int->Int->ByteArray->ByteArray->ByteArray->ByteArray->Option Addr->Nat->Nat->Heap->Prop):Prop:=Ex.Fn Tryz.prog 52 #[.pointer aj,.int .i64 ak] H λv H'=>∃ad:Int,∃ae:Int,∃af:ByteArray,∃ag:ByteArray,∃ah:ByteArray,∃ai:ByteArray,∃(I:Option Addr)(aa ab:Nat),v=.agg #[.int .i64 ad,.int .i64 ae,.string af,.string ag,.string ah,.string ai,.slice I aa ab]/\R ad ae af ag ah ai I aa ab H'
def mJ.C(I:Option Addr)(H:Heap)(R:Int->Heap->Prop):Prop:=Ex.Fn Tryz.prog 53 #[.pointer I] H λv H'=>∃r0:Int,v=.int .i64 r0/\R r0 H'
def lV.C(I:Option Addr)(H:Heap)(R:Bool->Heap->Prop):Prop:=Ex.Fn Tryz.prog 54 #[.pointer I] H λv H'=>∃r0:Bool,v=.bool r0/\R r0 H'
def jP.C(I:Option Addr)(aa:Option Addr)(H:Heap)(R:Int->Heap->Prop):Prop:=Ex.Fn Tryz.prog 55 #[.pointer I,.pointer aa] H λv H'=>∃r0:Int,v=.int .i64 r0/\R r0 H'
def fa.C(ab:Int)(I:Int)(aa:Int)(H:Heap)(R:Bool->Heap->Prop):Prop:=Ex.Fn Tryz.prog 56 #[.int .i64 ab,.int .i64 I,.int .i64 aa] H λv H'=>∃r0:Bool,v=.bool r0/\R r0 H'
def bytes_TrimPrefix.C(ag:Option Addr)(ah ai:Nat)(I:Option Addr)(aa ab:Nat)(H:Heap)(R:Option Addr->Nat->Nat->Heap->Prop):Prop:=Ex.Fn Tryz.prog 57 #[.slice ag ah ai,.slice I aa ab] H λv H'=>∃(ad:Option Addr)(ae af:Nat),v=.slice ad ae af/\R ad ae af H'
def gh.C(I:Option Addr)(aa ab:Nat)(H:Heap)(R:Bool->Heap->Prop):Prop:=Ex.Fn Tryz.prog 58 #[.slice I aa ab] H λv H'=>∃r0:Bool,v=.bool r0/\R r0 H'
def jz.C(I:ByteArray)(H:Heap)(R:ByteArray->Heap->Prop):Prop:=Ex.Fn Tryz.prog 59 #[.string I] H λv H'=>∃r0:ByteArray,v=.string r0/\R r0 H'
def iF.C(I:ByteArray)(H:Heap)(R:Int->Int->Heap->Prop):Prop:=Ex.Fn Tryz.prog 60 #[.string I] H λv H'=>∃r0:Int,∃r1:Int,v=.tuple #[.int .i64 r0,.int .i64 r1]/\R r0 r1 H'
def mj.C(aa:ByteArray)(I:Int)(H:Heap)(R:Int->Heap->Prop):Prop:=Ex.Fn Tryz.prog 61 #[.string aa,.int .i64 I] H λv H'=>∃r0:Int,v=.int .i64 r0/\R r0 H'
def eU.C(ai:ByteArray)(ah:Int)(H:Heap)(R:ByteArray->Option Addr->Nat->Nat->Option Addr->Nat->Nat->Int->Int->Heap->Prop):Prop:=Ex.Fn Tryz.prog 62 #[.string ai,.int .i64 ah] H λv H'=>∃ag:ByteArray,∃(I:Option Addr)(aa ab:Nat),∃(ad:Option Addr)(ae af:Nat),∃r1:Int,∃r2:Int,v=.tuple #[.agg #[.string ag,.slice I aa ab,.slice ad ae af],.int .i64 r1,.int .i64 r2]/\R ag I aa ab ad ae af r1 r2 H'
def nr.C(aa:Option Addr)(ab:ByteArray)(I:Int)(H:Heap)(R:Int->Int->Heap->Prop):Prop:=Ex.Fn Tryz.prog 63 #[.pointer aa,.string ab,.int .i64 I] H λv H'=>∃r0:Int,∃r1:Int,v=.tuple #[.int .i64 r0,.int .i64 r1]/\R r0 r1 H'
def fO.C(I:Option Addr)(aa ab:Nat)(ad:Int)(H:Heap)(R:Bool->Heap->Prop):Prop:=Ex.Fn Tryz.prog 64 #[.slice I aa ab,.int .i64 ad] H λv H'=>∃r0:Bool,v=.bool r0/\R r0 H'
def gY.C(ad:Int)(ae:Int)(af:ByteArray)(ag:ByteArray)(ah:ByteArray)(ai:ByteArray)(I:Option Addr)(aa ab:Nat)(H:Heap)(R:Bool->Heap->Prop):Prop:=Ex.Fn Tryz.prog 65 #[.agg #[.int .i64 ad,.int .i64 ae,.string af,.string ag,.string ah,.string ai,.slice I aa ab]] H λv H'=>∃r0:Bool,v=.bool r0/\R r0 H'
def eQ.C(ad:Int)(ae:Int)(af:ByteArray)(ag:ByteArray)(ah:ByteArray)(ai:ByteArray)(I:Option Addr)(aa ab:Nat)(aj:Option Addr)(H:Heap)(R:Bool->Heap->Prop):Prop:=Ex.Fn Tryz.prog 66 #[.agg #[.int .i64 ad,.int .i64 ae,.string af,.string ag,.string ah,.string ai,.slice I aa ab],.pointer aj] H λv H'=>∃r0:Bool,v=.bool r0/\R r0 H'
def fx.C(I:Option Addr)(aa:ByteArray)(H:Heap)(R:Int->Value->Heap->Prop):Prop:=Ex.Fn Tryz.prog 67 #[.pointer I,.string aa] H λv H'=>∃r0:Int,∃r1:Value,v=.tuple #[.int .i64 r0,r1]/\R r0 r1 H'
def gA.C(I:Option Addr)(H:Heap)(R:ByteArray->Heap->Prop):Prop:=Ex.Fn Tryz.prog 69 #[.pointer I] H λv H'=>∃r0:ByteArray,v=.string r0/\R r0 H'
def je.C(I:Option Addr)(aa ab:Nat)(H:Heap)(R:Bool->Heap->Prop):Prop:=Ex.Fn Tryz.prog 70 #[.slice I aa ab] H λv H'=>∃r0:Bool,v=.bool r0/\R r0 H'
def jq.C(I:Option Addr)(aa ab:Nat)(H:Heap)(R:Option Addr->Int->Heap->Prop):Prop:=Ex.Fn Tryz.prog 71 #[.slice I aa ab] H λv H'=>∃r0:Option Addr,∃r1:Int,v=.tuple #[.pointer r0,.int .i64 r1]/\R r0 r1 H'
def fL.C(I:Int)(H:Heap)(R:Int->Heap->Prop):Prop:=Ex.Fn Tryz.prog 72 #[.int .u64 I] H λv H'=>∃r0:Int,v=.int .i64 r0/\R r0 H'
def j9.C(I:Option Addr)(aa ab:Nat)(H:Heap)(R:Option Addr->Int->Heap->Prop):Prop:=Ex.Fn Tryz.prog 73 #[.slice I aa ab] H λv H'=>∃r0:Option Addr,∃r1:Int,v=.tuple #[.pointer r0,.int .i64 r1]/\R r0 r1 H'
def strings_Join.C(I:Option Addr)(aa ab:Nat)(ad:ByteArray)(H:Heap)(R:ByteArray->Heap->Prop):Prop:=Ex.Fn Tryz.prog 74 #[.slice I aa ab,.string ad] H λv H'=>∃r0:ByteArray,v=.string r0/\R r0 H'
def j7.C(I:Option Addr)(aa ab:Nat)(ad:Int)(H:Heap)(R:ByteArray->Int->Heap->Prop):Prop:=Ex.Fn Tryz.prog 75 #[.slice I aa ab,.int .i64 ad] H λv H'=>∃r0:ByteArray,∃r1:Int,v=.tuple #[.string r0,.int .i64 r1]/\R r0 r1 H'
def lZ.C(I:Option Addr)(H:Heap)(R:Int->Heap->Prop):Prop:=Ex.Fn Tryz.prog 76 #[.pointer I] H λv H'=>∃r0:Int,v=.int .i64 r0/\R r0 H'
def mw.C(I:Option Addr)(aa:Int)(H:Heap)(R:Option Addr->Int->Heap->Prop):Prop:=Ex.Fn Tryz.prog 77 #[.pointer I,.int .i64 aa] H λv H'=>∃r0:Option Addr,∃r1:Int,v=.tuple #[.pointer r0,.int .i64 r1]/\R r0 r1 H'
def dA.C(aj:Option Addr)(ak:Int)(H:Heap)(R:Int->Int->ByteArray->ByteArray->ByteArray->ByteArray->Option Addr->Nat->Nat->Int->Heap->Prop):Prop:=Ex.Fn Tryz.prog 78 #[.pointer aj,.int .i64 ak] H λv H'=>∃ad:Int,∃ae:Int,∃af:ByteArray,∃ag:ByteArray,∃ah:ByteArray,∃ai:ByteArray,∃(I:Option Addr)(aa ab:Nat),∃r1:Int,v=.tuple #[.agg #[.int .i64 ad,.int .i64 ae,.string af,.string ag,.string ah,.string ai,.slice I aa ab],.int .i64 r1]/\R ad ae af ag ah ai I aa ab r1 H'
def eo.C(aj:ByteArray)(ai:Bool)(H:Heap)(R:Int->Int->Option Addr->Nat->Nat->Option Addr->Nat->Nat->Heap->Prop):Prop:=Ex.Fn Tryz.prog 79 #[.string aj,.bool ai] H λv H'=>∃ag:Int,∃ah:Int,∃(I:Option Addr)(aa ab:Nat),∃(ad:Option Addr)(ae af:Nat),v=.agg #[.int .i64 ag,.int .i64 ah,.slice I aa ab,.slice ad ae af]/\R ag ah I aa ab ad ae af H'
theorem eo.mz{aj:ByteArray}{ai:Bool}{H:Heap}{R R':Int->Int->Option Addr->Nat->Nat->Option Addr->Nat->Nat->Heap->Prop}(h:eo.C aj ai H R)(hr:∀ag ah I aa ab ad ae af H',R ag ah I aa ab ad ae af H'->R' ag ah I aa ab ad ae af H'):eo.C aj ai H R':=
 Ex.Fn.mono h λ_ _⟨ag,ah,I,aa,ab,ad,ae,af,hv,hh⟩=>⟨ag,ah,I,aa,ab,ad,ae,af,hv,hr _ _ _ _ _ _ _ _ _ hh⟩
def fm.C(af:Option Addr)(ag:Int)(ae:ByteArray)(I:ByteArray)(H:Heap)(R:Option Addr->Nat->Nat->Int->Heap->Prop):Prop:=Ex.Fn Tryz.prog 82 #[.pointer af,.int .i64 ag,.string ae,.string I] H λv H'=>∃(aa:Option Addr)(ab ad:Nat),∃r1:Int,v=.tuple #[.slice aa ab ad,.int .i64 r1]/\R aa ab ad r1 H'
theorem fm.mz{ag:Option Addr}{ah:Int}{ae:ByteArray}{I:ByteArray}{H:Heap}{R R':Option Addr->Nat->Nat->Int->Heap->Prop}(h:fm.C ag ah ae I H R)(hr:∀aa ab ad r1 H',R aa ab ad r1 H'->R' aa ab ad r1 H'):fm.C ag ah ae I H R':=
 Ex.Fn.mono h λ_ _⟨aa,ab,ad,r1,hv,hh⟩=>⟨aa,ab,ad,r1,hv,hr _ _ _ _ _ hh⟩
def fi.C(I:Option Addr)(aa:Int)(H:Heap)(R:ByteArray->Heap->Prop):Prop:=Ex.Fn Tryz.prog 86 #[.pointer I,.int .i64 aa] H λv H'=>∃r0:ByteArray,v=.string r0/\R r0 H'
theorem fi.mz{aa:Option Addr}{ab:Int}{H:Heap}{R R':ByteArray->Heap->Prop}(h:fi.C aa ab H R)(hr:∀I H',R I H'->R' I H'):fi.C aa ab H R':=
 Ex.Fn.mono h λ_ _⟨I,hv,hh⟩=>⟨I,hv,hr _ _ hh⟩
def eA.C(aq:Option Addr)(ai:Int)(aj:Int)(ak:Int)(al:ByteArray)(ao:ByteArray)(H:Heap)(R:Int->Int->Option Addr->Nat->Nat->Option Addr->Nat->Nat->Heap->Prop):Prop:=Ex.Fn Tryz.prog 88 #[.pointer aq,.agg #[.int .i64 ai,.int .i64 aj,.int .i64 ak,.string al,.string ao]] H λv H'=>∃ag:Int,∃ah:Int,∃(I:Option Addr)(aa ab:Nat),∃(ad:Option Addr)(ae af:Nat),v=.agg #[.int .i64 ag,.int .i64 ah,.slice I aa ab,.slice ad ae af]/\R ag ah I aa ab ad ae af H'
theorem eA.mz{aq:Option Addr}{ai:Int}{aj:Int}{ak:Int}{al:ByteArray}{ao:ByteArray}{H:Heap}{R R':Int->Int->Option Addr->Nat->Nat->Option Addr->Nat->Nat->Heap->Prop}(h:eA.C aq ai aj ak al ao H R)(hr:∀ag ah I aa ab ad ae af H',R ag ah I aa ab ad ae af H'->R' ag ah I aa ab ad ae af H'):eA.C aq ai aj ak al ao H R':=
 Ex.Fn.mono h λ_ _⟨ag,ah,I,aa,ab,ad,ae,af,hv,hh⟩=>⟨ag,ah,I,aa,ab,ad,ae,af,hv,hr _ _ _ _ _ _ _ _ _ hh⟩
def dO.C(I:Option Addr)(aa:Int)(H:Heap)(R:Int->Int->Heap->Prop):Prop:=Ex.Fn Tryz.prog 95 #[.pointer I,.int .i64 aa] H λv H'=>∃r0:Int,∃r1:Int,v=.tuple #[.int .i64 r0,.int .i64 r1]/\R r0 r1 H'
def jO.C(I:Option Addr)(aa:Int)(H:Heap)(R:Int->Heap->Prop):Prop:=Ex.Fn Tryz.prog 96 #[.pointer I,.int .i64 aa] H λv H'=>∃r0:Int,v=.int .i64 r0/\R r0 H'
def jR.C(I:Option Addr)(aa:Int)(H:Heap)(R:Int->Heap->Prop):Prop:=Ex.Fn Tryz.prog 97 #[.pointer I,.int .i64 aa] H λv H'=>∃r0:Int,v=.int .i64 r0/\R r0 H'
def dC.C(I:Option Addr)(aa:Int)(H:Heap)(R:ByteArray->Int->Heap->Prop):Prop:=Ex.Fn Tryz.prog 98 #[.pointer I,.int .i64 aa] H λv H'=>∃r0:ByteArray,∃r1:Int,v=.tuple #[.string r0,.int .i64 r1]/\R r0 r1 H'
def dK.C(ad:ByteArray)(H:Heap)(R:Option Addr->Nat->Nat->Heap->Prop):Prop:=Ex.Fn Tryz.prog 99 #[.string ad] H λv H'=>∃(I:Option Addr)(aa ab:Nat),v=.slice I aa ab/\R I aa ab H'
def pn.C(ad:Option Addr)(I:Option Addr)(aa ab:Nat)(H:Heap)(R:Int->Heap->Prop):Prop:=Ex.Fn Tryz.prog 100 #[.pointer ad,.slice I aa ab] H λv H'=>∃r0:Int,v=.int .i64 r0/\R r0 H'
def dc.C(aa:Option Addr)(I:ByteArray)(H:Heap)(R:ByteArray->Bool->Heap->Prop):Prop:=Ex.Fn Tryz.prog 101 #[.pointer aa,.string I] H λv H'=>∃r0:ByteArray,∃r1:Bool,v=.tuple #[.string r0,.bool r1]/\R r0 r1 H'
def gZ.C(I:Int)(H:Heap)(R:Bool->Heap->Prop):Prop:=Ex.Fn Tryz.prog 103 #[.int .i32 I] H λv H'=>∃r0:Bool,v=.bool r0/\R r0 H'
def gU.C(I:Option Addr)(aa ab:Nat)(H:Heap)(R:Bool->Heap->Prop):Prop:=Ex.Fn Tryz.prog 104 #[.slice I aa ab] H λv H'=>∃r0:Bool,v=.bool r0/\R r0 H'
def strings_ReplaceAll.C(ab:ByteArray)(I:ByteArray)(aa:ByteArray)(H:Heap)(R:ByteArray->Heap->Prop):Prop:=Ex.Fn Tryz.prog 105 #[.string ab,.string I,.string aa] H λv H'=>∃r0:ByteArray,v=.string r0/\R r0 H'
def dG.C(aa:Option Addr)(I:ByteArray)(H:Heap)(R:Bool->Heap->Prop):Prop:=Ex.Fn Tryz.prog 106 #[.pointer aa,.string I] H λv H'=>∃r0:Bool,v=.bool r0/\R r0 H'
def zF.C(I:Option Addr)(H:Heap)(R:Bool->Heap->Prop):Prop:=Ex.Fn Tryz.prog 107 #[.pointer I] H λv H'=>∃r0:Bool,v=.bool r0/\R r0 H'
def fR.C(I:Int)(H:Heap)(R:Bool->Heap->Prop):Prop:=Ex.Fn Tryz.prog 113 #[.int .i32 I] H λv H'=>∃r0:Bool,v=.bool r0/\R r0 H'
def strings_HasPrefix.C(aa:ByteArray)(I:ByteArray)(H:Heap)(R:Bool->Heap->Prop):Prop:=Ex.Fn Tryz.prog 114 #[.string aa,.string I] H λv H'=>∃r0:Bool,v=.bool r0/\R r0 H'
def gf.C(ai:ByteArray)(ah:Int)(H:Heap)(R:Int->ByteArray->ByteArray->Option Addr->Nat->Nat->Bool->Int->Int->Heap->Prop):Prop:=Ex.Fn Tryz.prog 120 #[.string ai,.int .i64 ah] H λv H'=>∃ad:Int,∃ae:ByteArray,∃af:ByteArray,∃(I:Option Addr)(aa ab:Nat),∃ag:Bool,∃r1:Int,∃r2:Int,v=.tuple #[.agg #[.int .i64 ad,.string ae,.string af,.slice I aa ab,.bool ag],.int .i64 r1,.int .i64 r2]/\R ad ae af I aa ab ag r1 r2 H'
def jQ.C(aj:Option Addr)(ae:Int)(af:ByteArray)(ag:ByteArray)(I:Option Addr)(aa ab:Nat)(ah:Bool)(ak:ByteArray)(ai:Int)(ad:Int)(H:Heap)(R:Int->Int->Heap->Prop):Prop:=Ex.Fn Tryz.prog 122 #[.pointer aj,.agg #[.int .i64 ae,.string af,.string ag,.slice I aa ab,.bool ah],.string ak,.int .i64 ai,.int .i64 ad] H λv H'=>∃r0:Int,∃r1:Int,v=.tuple #[.int .i64 r0,.int .i64 r1]/\R r0 r1 H'
def gX.C(I:ByteArray)(H:Heap)(R:Bool->Heap->Prop):Prop:=Ex.Fn Tryz.prog 123 #[.string I] H λv H'=>∃r0:Bool,v=.bool r0/\R r0 H'
def strings_Contains.C(aa:ByteArray)(I:ByteArray)(H:Heap)(R:Bool->Heap->Prop):Prop:=Ex.Fn Tryz.prog 124 #[.string aa,.string I] H λv H'=>∃r0:Bool,v=.bool r0/\R r0 H'
def gW.C(I:ByteArray)(aa:ByteArray)(H:Heap)(R:Bool->Heap->Prop):Prop:=Ex.Fn Tryz.prog 127 #[.string I,.string aa] H λv H'=>∃r0:Bool,v=.bool r0/\R r0 H'
def fH.C(ad:Option Addr)(ae af:Nat)(H:Heap)(R:Option Addr->Nat->Nat->Heap->Prop):Prop:=Ex.Fn Tryz.prog 128 #[.slice ad ae af] H λv H'=>∃(I:Option Addr)(aa ab:Nat),v=.slice I aa ab/\R I aa ab H'
def fF.C(I:Option Addr)(aa ab:Nat)(ad:Option Addr)(ae af:Nat)(H:Heap)(R:Bool->Heap->Prop):Prop:=Ex.Fn Tryz.prog 131 #[.slice I aa ab,.slice ad ae af] H λv H'=>∃r0:Bool,v=.bool r0/\R r0 H'
def gJ.C(I:Option Addr)(H:Heap)(R:Heap->Prop):Prop:=Ex.Fn Tryz.prog 132 #[.pointer I] H λv H'=>v=.tuple #[]/\R H'
def nV.C(I:Int)(H:Heap)(R:Int->Heap->Prop):Prop:=Ex.Fn Tryz.prog 134 #[.int .u64 I] H λv H'=>∃r0:Int,v=.int .i64 r0/\R r0 H'
def bits_Len64.C(I:Int)(H:Heap)(R:Int->Heap->Prop):Prop:=Ex.Fn Tryz.prog 135 #[.int .u64 I] H λv H'=>∃r0:Int,v=.int .i64 r0/\R r0 H'
def kb.C(I:Option Addr)(aa ab:Nat)(H:Heap)(R:Option Addr->Heap->Prop):Prop:=Ex.Fn Tryz.prog 136 #[.slice I aa ab] H λv H'=>∃r0:Option Addr,v=.pointer r0/\R r0 H'
def jC.C(I:Option Addr)(aa ab:Nat)(ad:Int)(H:Heap)(R:Int->Heap->Prop):Prop:=Ex.Fn Tryz.prog 138 #[.slice I aa ab,.int .i64 ad] H λv H'=>∃r0:Int,v=.int .i64 r0/\R r0 H'
def nL.C(aa:Option Addr)(I:Int)(H:Heap)(R:Heap->Prop):Prop:=Ex.Fn Tryz.prog 139 #[.pointer aa,.int .i64 I] H λv H'=>v=.tuple #[]/\R H'
def j8.C(ad:Int)(ae:Int)(af:ByteArray)(ag:ByteArray)(ah:ByteArray)(ai:ByteArray)(I:Option Addr)(aa ab:Nat)(H:Heap)(R:ByteArray->Heap->Prop):Prop:=Ex.Fn Tryz.prog 140 #[.agg #[.int .i64 ad,.int .i64 ae,.string af,.string ag,.string ah,.string ai,.slice I aa ab]] H λv H'=>∃r0:ByteArray,v=.string r0/\R r0 H'
def mh.C(I:Option Addr)(H:Heap)(R:Int->Heap->Prop):Prop:=Ex.Fn Tryz.prog 141 #[.pointer I] H λv H'=>∃r0:Int,v=.int .i64 r0/\R r0 H'
def dd.C(aj:Option Addr)(ak:Int)(H:Heap)(R:Int->Int->ByteArray->ByteArray->ByteArray->ByteArray->Option Addr->Nat->Nat->Option Addr->Heap->Prop):Prop:=Ex.Fn Tryz.prog 142 #[.pointer aj,.int .i64 ak] H λv H'=>∃ad:Int,∃ae:Int,∃af:ByteArray,∃ag:ByteArray,∃ah:ByteArray,∃ai:ByteArray,∃(I:Option Addr)(aa ab:Nat),∃r1:Option Addr,v=.tuple #[.agg #[.int .i64 ad,.int .i64 ae,.string af,.string ag,.string ah,.string ai,.slice I aa ab],.pointer r1]/\R ad ae af ag ah ai I aa ab r1 H'
def iu.C(I:Option Addr)(aa:Int)(H:Heap)(R:Int->Heap->Prop):Prop:=Ex.Fn Tryz.prog 145 #[.pointer I,.int .i64 aa] H λv H'=>∃r0:Int,v=.int .i64 r0/\R r0 H'
def iw.C(I:Option Addr)(aa:Int)(H:Heap)(R:Int->Int->Heap->Prop):Prop:=Ex.Fn Tryz.prog 157 #[.pointer I,.int .i64 aa] H λv H'=>∃r0:Int,∃r1:Int,v=.tuple #[.int .i64 r0,.int .i64 r1]/\R r0 r1 H'
def jf.C(af:Option Addr)(ae:ByteArray)(I:ByteArray)(H:Heap)(R:Option Addr->Nat->Nat->Heap->Prop):Prop:=Ex.Fn Tryz.prog 158 #[.pointer af,.string ae,.string I] H λv H'=>∃(aa:Option Addr)(ab ad:Nat),v=.slice aa ab ad/\R aa ab ad H'
def dX.C(ab:Option Addr)(I:Int)(aa:Int)(ad:Int)(ae:Int)(H:Heap)(R:Int->Heap->Prop):Prop:=Ex.Fn Tryz.prog 159 #[.pointer ab,.int .i64 I,.int .i64 aa,.int .i64 ad,.int .i64 ae] H λv H'=>∃r0:Int,v=.int .i64 r0/\R r0 H'
def pq.C(I:Option Addr)(aa ab:Nat)(H:Heap)(R:Heap->Prop):Prop:=Ex.Fn Tryz.prog 160 #[.slice I aa ab] H λv H'=>v=.tuple #[]/\R H'
def jg.C(I:Option Addr)(aa:Int)(H:Heap)(R:Int->Heap->Prop):Prop:=Ex.Fn Tryz.prog 166 #[.pointer I,.int .i64 aa] H λv H'=>∃r0:Int,v=.int .i64 r0/\R r0 H'
def dY.C(I:Option Addr)(H:Heap)(R:Int->Heap->Prop):Prop:=Ex.Fn Tryz.prog 172 #[.pointer I] H λv H'=>∃r0:Int,v=.int .i64 r0/\R r0 H'
def pT.C(I:Option Addr)(aa:Int)(H:Heap)(R:Option Addr->Heap->Prop):Prop:=Ex.Fn Tryz.prog 173 #[.pointer I,.int .i64 aa] H λv H'=>∃r0:Option Addr,v=.pointer r0/\R r0 H'
def dR.C(I:Option Addr)(aa:Int)(H:Heap)(R:Bool->Int->Heap->Prop):Prop:=Ex.Fn Tryz.prog 174 #[.pointer I,.int .i64 aa] H λv H'=>∃r0:Bool,∃r1:Int,v=.tuple #[.bool r0,.int .i64 r1]/\R r0 r1 H'
def pR.C(ab:Option Addr)(ad:Int)(aa:Int)(I:Bool)(H:Heap)(R:Int->Heap->Prop):Prop:=Ex.Fn Tryz.prog 175 #[.pointer ab,.int .i64 ad,.int .i64 aa,.bool I] H λv H'=>∃r0:Int,v=.int .i64 r0/\R r0 H'
def iS.C(I:Option Addr)(aa:Int)(H:Heap)(R:Int->Heap->Prop):Prop:=Ex.Fn Tryz.prog 176 #[.pointer I,.int .i64 aa] H λv H'=>∃r0:Int,v=.int .i64 r0/\R r0 H'
def jI.C(aa:Option Addr)(ab:Int)(I:Bool)(H:Heap)(R:Int->Heap->Prop):Prop:=Ex.Fn Tryz.prog 177 #[.pointer aa,.int .i64 ab,.bool I] H λv H'=>∃r0:Int,v=.int .i64 r0/\R r0 H'
def eb.C(I:Option Addr)(H:Heap)(R:Int->Heap->Prop):Prop:=Ex.Fn Tryz.prog 178 #[.pointer I] H λv H'=>∃r0:Int,v=.int .i64 r0/\R r0 H'
def nG.C(I:Option Addr)(H:Heap)(R:Option Addr->Heap->Prop):Prop:=Ex.Fn Tryz.prog 179 #[.pointer I] H λv H'=>∃r0:Option Addr,v=.pointer r0/\R r0 H'
def dP.C(I:Option Addr)(aa:Int)(H:Heap)(R:Int->Int->Heap->Prop):Prop:=Ex.Fn Tryz.prog 180 #[.pointer I,.int .i64 aa] H λv H'=>∃r0:Int,∃r1:Int,v=.tuple #[.int .i64 r0,.int .i64 r1]/\R r0 r1 H'
def strings_Cut.C(aa:ByteArray)(I:ByteArray)(H:Heap)(R:ByteArray->ByteArray->Bool->Heap->Prop):Prop:=Ex.Fn Tryz.prog 181 #[.string aa,.string I] H λv H'=>∃r0:ByteArray,∃r1:ByteArray,∃r2:Bool,v=.tuple #[.string r0,.string r1,.bool r2]/\R r0 r1 r2 H'
def mH.C(ad:Option Addr)(ae:Int)(H:Heap)(R:Option Addr->Nat->Nat->Heap->Prop):Prop:=Ex.Fn Tryz.prog 185 #[.pointer ad,.int .i64 ae] H λv H'=>∃(I:Option Addr)(aa ab:Nat),v=.slice I aa ab/\R I aa ab H'
def jj.C(ad:Int)(I:Option Addr)(aa ab:Nat)(H:Heap)(R:Bool->Heap->Prop):Prop:=Ex.Fn Tryz.prog 187 #[.int .i32 ad,.slice I aa ab] H λv H'=>∃r0:Bool,v=.bool r0/\R r0 H'
def gI.C(H:Heap)(R:Option Addr->Nat->Nat->Heap->Prop):Prop:=Ex.Fn Tryz.prog 188 #[] H λv H'=>∃(I:Option Addr)(aa ab:Nat),v=.slice I aa ab/\R I aa ab H'
def lq.C(I:Option Addr)(aa ab:Nat)(H:Heap)(R:Int->Heap->Prop):Prop:=Ex.Fn Tryz.prog 189 #[.slice I aa ab] H λv H'=>∃r0:Int,v=.int .u64 r0/\R r0 H'
def mA.C(I:ByteArray)(H:Heap)(R:Int->Int->Heap->Prop):Prop:=Ex.Fn Tryz.prog 193 #[.string I] H λv H'=>∃r0:Int,∃r1:Int,v=.tuple #[.int .i32 r0,.int .i64 r1]/\R r0 r1 H'
def e9.C(aa:ByteArray)(I:Int)(H:Heap)(R:Int->Heap->Prop):Prop:=Ex.Fn Tryz.prog 196 #[.string aa,.int .i64 I] H λv H'=>∃r0:Int,v=.int .i64 r0/\R r0 H'
def eM.C(I:ByteArray)(H:Heap)(R:ByteArray->ByteArray->Bool->Heap->Prop):Prop:=Ex.Fn Tryz.prog 197 #[.string I] H λv H'=>∃r0:ByteArray,∃r1:ByteArray,∃r2:Bool,v=.tuple #[.string r0,.string r1,.bool r2]/\R r0 r1 r2 H'
def iX.C(ai:ByteArray)(ah:Int)(H:Heap)(R:Int->ByteArray->ByteArray->Option Addr->Nat->Nat->Bool->Int->Bool->Heap->Prop):Prop:=Ex.Fn Tryz.prog 202 #[.string ai,.int .i64 ah] H λv H'=>∃ad:Int,∃ae:ByteArray,∃af:ByteArray,∃(I:Option Addr)(aa ab:Nat),∃ag:Bool,∃r1:Int,∃r2:Bool,v=.tuple #[.agg #[.int .i64 ad,.string ae,.string af,.slice I aa ab,.bool ag],.int .i64 r1,.bool r2]/\R ad ae af I aa ab ag r1 r2 H'
def mM.C(aa:Option Addr)(I:Int)(H:Heap)(R:Heap->Prop):Prop:=Ex.Fn Tryz.prog 203 #[.pointer aa,.int .i64 I] H λv H'=>v=.tuple #[]/\R H'
def gj.C(ax:Int)(ay:ByteArray)(az:ByteArray)(ad:Option Addr)(ae af:Nat)(aA:Bool)(aB:ByteArray)(ag:Option Addr)(ah ai:Nat)(aj:Option Addr)(ak al:Nat)(aH:Option Addr)(aG:Option Addr)(aC:Int)(aD:Int)(aE:Int)(aF:Int)(H:Heap)(R:Int->Int->ByteArray->ByteArray->ByteArray->ByteArray->Option Addr->Nat->Nat->Int->Heap->Prop):Prop:=Ex.Fn Tryz.prog 204 #[.agg #[.int .i64 ax,.string ay,.string az,.slice ad ae af,.bool aA],.agg #[.string aB,.slice ag ah ai,.slice aj ak al],.pointer aH,.pointer aG,.agg #[.int .i64 aC,.int .i64 aD,.int .i64 aE,.int .i64 aF]] H λv H'=>∃ao:Int,∃aq:Int,∃ar:ByteArray,∃au:ByteArray,∃av:ByteArray,∃aw:ByteArray,∃(I:Option Addr)(aa ab:Nat),∃r1:Int,v=.tuple #[.agg #[.int .i64 ao,.int .i64 aq,.string ar,.string au,.string av,.string aw,.slice I aa ab],.int .i64 r1]/\R ao aq ar au av aw I aa ab r1 H'
def gq.C(ad:Option Addr)(ae:ByteArray)(ab:Int)(I:Int)(aa:ByteArray)(H:Heap)(R:Int->Int->Heap->Prop):Prop:=Ex.Fn Tryz.prog 205 #[.pointer ad,.string ae,.int .i64 ab,.int .i64 I,.string aa] H λv H'=>∃r0:Int,∃r1:Int,v=.tuple #[.int .i64 r0,.int .i64 r1]/\R r0 r1 H'
theorem gq.mz{af:Option Addr}{ag:ByteArray}{ab:Int}{I:Int}{aa:ByteArray}{H:Heap}{R R':Int->Int->Heap->Prop}(h:gq.C af ag ab I aa H R)(hr:∀r0 r1 H',R r0 r1 H'->R' r0 r1 H'):gq.C af ag ab I aa H R':=
 Ex.Fn.mono h λ_ _⟨r0,r1,hv,hh⟩=>⟨r0,r1,hv,hr _ _ _ hh⟩
def eD.C(I:ByteArray)(H:Heap)(R:Bool->Heap->Prop):Prop:=Ex.Fn Tryz.prog 208 #[.string I] H λv H'=>∃r0:Bool,v=.bool r0/\R r0 H'
def jy.C(I:ByteArray)(aa:ByteArray)(H:Heap)(R:ByteArray->Heap->Prop):Prop:=Ex.Fn Tryz.prog 209 #[.string I,.string aa] H λv H'=>∃r0:ByteArray,v=.string r0/\R r0 H'
def iN.C(I:Option Addr)(aa ab:Nat)(H:Heap)(R:Int->Heap->Prop):Prop:=Ex.Fn Tryz.prog 212 #[.slice I aa ab] H λv H'=>∃r0:Int,v=.int .u64 r0/\R r0 H'
def lg.C(aj:Option Addr)(ak al:Nat)(ao:Int)(H:Heap)(R:Int->Int->ByteArray->ByteArray->ByteArray->ByteArray->Option Addr->Nat->Nat->Bool->Heap->Prop):Prop:=Ex.Fn Tryz.prog 214 #[.slice aj ak al,.int .i64 ao] H λv H'=>∃ad:Int,∃ae:Int,∃af:ByteArray,∃ag:ByteArray,∃ah:ByteArray,∃ai:ByteArray,∃(I:Option Addr)(aa ab:Nat),∃r1:Bool,v=.tuple #[.agg #[.int .i64 ad,.int .i64 ae,.string af,.string ag,.string ah,.string ai,.slice I aa ab],.bool r1]/\R ad ae af ag ah ai I aa ab r1 H'
def jk.C(I:ByteArray)(aa:ByteArray)(H:Heap)(R:ByteArray->Heap->Prop):Prop:=Ex.Fn Tryz.prog 215 #[.string I,.string aa] H λv H'=>∃r0:ByteArray,v=.string r0/\R r0 H'
def Ed.C(I:ByteArray)(H:Heap)(R:ByteArray->Heap->Prop):Prop:=Ex.Fn Tryz.prog 217 #[.string I] H λv H'=>∃r0:ByteArray,v=.string r0/\R r0 H'
def lO.C(I:Option Addr)(aa:Int)(H:Heap)(R:Int->Heap->Prop):Prop:=Ex.Fn Tryz.prog 218 #[.pointer I,.int .i64 aa] H λv H'=>∃r0:Int,v=.int .i64 r0/\R r0 H'
def na.C(I:Option Addr)(aa:Int)(H:Heap)(R:Int->Heap->Prop):Prop:=Ex.Fn Tryz.prog 219 #[.pointer I,.int .i64 aa] H λv H'=>∃r0:Int,v=.int .i64 r0/\R r0 H'
def jb.C(I:Option Addr)(aa ab:Nat)(H:Heap)(R:Value->Heap->Prop):Prop:=Ex.Fn Tryz.prog 220 #[.slice I aa ab] H λv H'=>∃r0:Value,v=r0/\R r0 H'
def pQ.C(I:Option Addr)(aa:Int)(H:Heap)(R:Int->Heap->Prop):Prop:=Ex.Fn Tryz.prog 221 #[.pointer I,.int .i64 aa] H λv H'=>∃r0:Int,v=.int .i64 r0/\R r0 H'
def nK.C(I:Option Addr)(aa:Int)(H:Heap)(R:Int->Heap->Prop):Prop:=Ex.Fn Tryz.prog 226 #[.pointer I,.int .i64 aa] H λv H'=>∃r0:Int,v=.int .i64 r0/\R r0 H'
def fT.C(ae:Int)(af:Int)(ag:ByteArray)(ah:ByteArray)(ai:ByteArray)(aj:ByteArray)(I:Option Addr)(aa ab:Nat)(ak:ByteArray)(ad:ByteArray)(H:Heap)(R:Bool->Heap->Prop):Prop:=Ex.Fn Tryz.prog 229 #[.agg #[.int .i64 ae,.int .i64 af,.string ag,.string ah,.string ai,.string aj,.slice I aa ab],.string ak,.string ad] H λv H'=>∃r0:Bool,v=.bool r0/\R r0 H'
def eP.C(I:Option Addr)(aa:Int)(H:Heap)(R:Bool->Heap->Prop):Prop:=Ex.Fn Tryz.prog 230 #[.pointer I,.int .i64 aa] H λv H'=>∃r0:Bool,v=.bool r0/\R r0 H'
def dH.C(I:Option Addr)(aa:Int)(ab:Int)(H:Heap)(R:Int->Heap->Prop):Prop:=Ex.Fn Tryz.prog 231 #[.pointer I,.int .i64 aa,.int .i64 ab] H λv H'=>∃r0:Int,v=.int .i64 r0/\R r0 H'
def dI.C(I:Option Addr)(aa:Int)(ab:Int)(H:Heap)(R:Int->Heap->Prop):Prop:=Ex.Fn Tryz.prog 232 #[.pointer I,.int .i64 aa,.int .i64 ab] H λv H'=>∃r0:Int,v=.int .i64 r0/\R r0 H'
def dU.C(ab:Option Addr)(ad:Int)(H:Heap)(R:Int->Int->Heap->Prop):Prop:=Ex.Fn Tryz.prog 237 #[.pointer ab,.int .i64 ad] H λv H'=>∃I:Int,∃aa:Int,v=.agg #[.int .u64 I,.int .i64 aa]/\R I aa H'
def kB.C(aa:Option Addr)(ab:Int)(I:Bool)(H:Heap)(R:Int->Heap->Prop):Prop:=Ex.Fn Tryz.prog 238 #[.pointer aa,.int .i64 ab,.bool I] H λv H'=>∃r0:Int,v=.int .i64 r0/\R r0 H'
def ko.C(I:Int)(H:Heap)(R:Int->Heap->Prop):Prop:=Ex.Fn Tryz.prog 239 #[.int .u64 I] H λv H'=>∃r0:Int,v=.int .i64 r0/\R r0 H'
def ee.C(I:Option Addr)(H:Heap)(R:Int->Heap->Prop):Prop:=Ex.Fn Tryz.prog 240 #[.pointer I] H λv H'=>∃r0:Int,v=.int .i64 r0/\R r0 H'
def eg.C(I:Option Addr)(aa:Int)(H:Heap)(R:Int->Int->Heap->Prop):Prop:=Ex.Fn Tryz.prog 241 #[.pointer I,.int .i64 aa] H λv H'=>∃r0:Int,∃r1:Int,v=.tuple #[.int .u64 r0,.int .i64 r1]/\R r0 r1 H'
def eN.C(I:Int)(H:Heap)(R:Bool->Heap->Prop):Prop:=Ex.Fn Tryz.prog 250 #[.int .i32 I] H λv H'=>∃r0:Bool,v=.bool r0/\R r0 H'
def iY.C(ai:ByteArray)(ah:Int)(H:Heap)(R:Int->ByteArray->ByteArray->Option Addr->Nat->Nat->Bool->Int->Bool->Heap->Prop):Prop:=Ex.Fn Tryz.prog 261 #[.string ai,.int .i64 ah] H λv H'=>∃ad:Int,∃ae:ByteArray,∃af:ByteArray,∃(I:Option Addr)(aa ab:Nat),∃ag:Bool,∃r1:Int,∃r2:Bool,v=.tuple #[.agg #[.int .i64 ad,.string ae,.string af,.slice I aa ab,.bool ag],.int .i64 r1,.bool r2]/\R ad ae af I aa ab ag r1 r2 H'
def fP.C(ai:ByteArray)(ah:Int)(H:Heap)(R:Int->ByteArray->ByteArray->Option Addr->Nat->Nat->Bool->Int->Bool->Heap->Prop):Prop:=Ex.Fn Tryz.prog 262 #[.string ai,.int .i64 ah] H λv H'=>∃ad:Int,∃ae:ByteArray,∃af:ByteArray,∃(I:Option Addr)(aa ab:Nat),∃ag:Bool,∃r1:Int,∃r2:Bool,v=.tuple #[.agg #[.int .i64 ad,.string ae,.string af,.slice I aa ab,.bool ag],.int .i64 r1,.bool r2]/\R ad ae af I aa ab ag r1 r2 H'
def fQ.C(ai:ByteArray)(ah:Int)(H:Heap)(R:Int->ByteArray->ByteArray->Option Addr->Nat->Nat->Bool->Int->Bool->Heap->Prop):Prop:=Ex.Fn Tryz.prog 264 #[.string ai,.int .i64 ah] H λv H'=>∃ad:Int,∃ae:ByteArray,∃af:ByteArray,∃(I:Option Addr)(aa ab:Nat),∃ag:Bool,∃r1:Int,∃r2:Bool,v=.tuple #[.agg #[.int .i64 ad,.string ae,.string af,.slice I aa ab,.bool ag],.int .i64 r1,.bool r2]/\R ad ae af I aa ab ag r1 r2 H'
def lH.C(I:Option Addr)(H:Heap)(R:Int->Heap->Prop):Prop:=Ex.Fn Tryz.prog 265 #[.pointer I] H λv H'=>∃r0:Int,v=.int .i64 r0/\R r0 H'
def jw.C(I:Option Addr)(H:Heap)(R:Heap->Prop):Prop:=Ex.Fn Tryz.prog 266 #[.pointer I] H λv H'=>v=.tuple #[]/\R H'
def hE.C(ad:Int)(ae:ByteArray)(af:ByteArray)(I:Option Addr)(aa ab:Nat)(ag:Bool)(H:Heap)(R:Bool->Heap->Prop):Prop:=Ex.Fn Tryz.prog 267 #[.agg #[.int .i64 ad,.string ae,.string af,.slice I aa ab,.bool ag]] H λv H'=>∃r0:Bool,v=.bool r0/\R r0 H'
def eR.C(ao:Int)(aq:ByteArray)(ar:ByteArray)(I:Option Addr)(aa ab:Nat)(au:Bool)(av:ByteArray)(ad:Option Addr)(ae af:Nat)(ag:Option Addr)(ah ai:Nat)(aA:Option Addr)(aw:Int)(ax:Int)(ay:Int)(az:Int)(H:Heap)(R:Option Addr->Nat->Nat->Int->Heap->Prop):Prop:=Ex.Fn Tryz.prog 268 #[.agg #[.int .i64 ao,.string aq,.string ar,.slice I aa ab,.bool au],.agg #[.string av,.slice ad ae af,.slice ag ah ai],.pointer aA,.agg #[.int .i64 aw,.int .i64 ax,.int .i64 ay,.int .i64 az]] H λv H'=>∃(aj:Option Addr)(ak al:Nat),∃r1:Int,v=.tuple #[.slice aj ak al,.int .i64 r1]/\R aj ak al r1 H'
def fK.C(I:ByteArray)(H:Heap)(R:Bool->Heap->Prop):Prop:=Ex.Fn Tryz.prog 271 #[.string I] H λv H'=>∃r0:Bool,v=.bool r0/\R r0 H'
def dJ.C(I:Option Addr)(aa:Int)(ab:Int)(H:Heap)(R:Int->Heap->Prop):Prop:=Ex.Fn Tryz.prog 279 #[.pointer I,.int .i64 aa,.int .i64 ab] H λv H'=>∃r0:Int,v=.int .i64 r0/\R r0 H'
def iP.C(I:Option Addr)(aa:Int)(H:Heap)(R:Bool->Heap->Prop):Prop:=Ex.Fn Tryz.prog 280 #[.pointer I,.int .i64 aa] H λv H'=>∃r0:Bool,v=.bool r0/\R r0 H'
def lI.C(aa:Option Addr)(ab:Int)(I:Int)(H:Heap)(R:Int->Heap->Prop):Prop:=Ex.Fn Tryz.prog 284 #[.pointer aa,.int .i64 ab,.int .i64 I] H λv H'=>∃r0:Int,v=.int .i64 r0/\R r0 H'
def kf.C(aa:Option Addr)(ab:Int)(I:Int)(H:Heap)(R:Int->Heap->Prop):Prop:=Ex.Fn Tryz.prog 286 #[.pointer aa,.int .i64 ab,.int .i64 I] H λv H'=>∃r0:Int,v=.int .i64 r0/\R r0 H'
def n0.C(aa:Option Addr)(I:Int)(ab:Int)(H:Heap)(R:Int->Heap->Prop):Prop:=Ex.Fn Tryz.prog 289 #[.pointer aa,.int .i64 I,.int .i64 ab] H λv H'=>∃r0:Int,v=.int .i64 r0/\R r0 H'
def dN.C(I:Option Addr)(aa:Int)(ab:Int)(H:Heap)(R:Bool->Heap->Prop):Prop:=Ex.Fn Tryz.prog 290 #[.pointer I,.int .i64 aa,.int .i64 ab] H λv H'=>∃r0:Bool,v=.bool r0/\R r0 H'
def ef.C(I:Option Addr)(H:Heap)(R:Int->Heap->Prop):Prop:=Ex.Fn Tryz.prog 302 #[.pointer I] H λv H'=>∃r0:Int,v=.int .i64 r0/\R r0 H'
def eL.C(I:Int)(H:Heap)(R:Bool->Heap->Prop):Prop:=Ex.Fn Tryz.prog 310 #[.int .i32 I] H λv H'=>∃r0:Bool,v=.bool r0/\R r0 H'
def gH.C(H:Heap)(R:Option Addr->Nat->Nat->Heap->Prop):Prop:=Ex.Fn Tryz.prog 311 #[] H λv H'=>∃(I:Option Addr)(aa ab:Nat),v=.slice I aa ab/\R I aa ab H'
def strings_IndexAny.C(aa:ByteArray)(I:ByteArray)(H:Heap)(R:Int->Heap->Prop):Prop:=Ex.Fn Tryz.prog 321 #[.string aa,.string I] H λv H'=>∃r0:Int,v=.int .i64 r0/\R r0 H'
def o7.C(I:ByteArray)(H:Heap)(R:Bool->Heap->Prop):Prop:=Ex.Fn Tryz.prog 334 #[.string I] H λv H'=>∃r0:Bool,v=.bool r0/\R r0 H'
def nH.C(aa:Option Addr)(ab:Int)(I:Int)(H:Heap)(R:Int->Heap->Prop):Prop:=Ex.Fn Tryz.prog 341 #[.pointer aa,.int .i64 ab,.int .i64 I] H λv H'=>∃r0:Int,v=.int .i64 r0/\R r0 H'
def nh.C(ab:Option Addr)(I:Int)(aa:Int)(H:Heap)(R:Bool->Heap->Prop):Prop:=Ex.Fn Tryz.prog 342 #[.pointer ab,.int .i64 I,.int .i64 aa] H λv H'=>∃r0:Bool,v=.bool r0/\R r0 H'
def lA.C(ab:Option Addr)(ad:Int)(I:Int)(aa:Int)(H:Heap)(R:Int->Heap->Prop):Prop:=Ex.Fn Tryz.prog 343 #[.pointer ab,.int .i64 ad,.int .i64 I,.int .i64 aa] H λv H'=>∃r0:Int,v=.int .i64 r0/\R r0 H'
def fA.C(H:Heap)(R:Option Addr->Nat->Nat->Heap->Prop):Prop:=Ex.Fn Tryz.prog 355 #[] H λv H'=>∃(I:Option Addr)(aa ab:Nat),v=.slice I aa ab/\R I aa ab H'
end Go.Proofs.iQ
