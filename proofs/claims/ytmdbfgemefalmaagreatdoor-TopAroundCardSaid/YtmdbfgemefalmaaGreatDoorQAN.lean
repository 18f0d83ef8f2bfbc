/- Part AN of the proof that the law TopAround answers true at every input, under no condition. -/
import Derived.Test.YtmdbfgemefalmaaGreatDoorQAM
import Derived.KernelRfl
set_option linter.unusedVariables false
set_option maxHeartbeats 2000000
set_option maxRecDepth 100000
namespace Go.Proofs.fv
open Go.Ex
abbrev eV(H:dw):dA:=⟨Array.size H,0,none⟩
theorem PH:fF Tryz.prog=true:=by kernel_rfl
def kA{α:Type}:List (Nat×α)->Nat->Option α
 |[],_=>none
 |q::r,i=>bif Nat.beq i q.1 then some q.2 else kA r i
def aN(o:List (Nat×Go.X.An))(l j:List (Nat×Live))(c:List Nat):HS:={ord:=λi=>(kA o i).getD (.ord []),loop:=kA l,join:=kA j,cut:=λi=>c.any (Nat.beq i)}
theorem eM{a b:Prop}(e:b=a)(h:a):b:=e▸h
theorem mT(A:HS){f:jt}{u:Func}(w:Tryz.prog.funcs[f]?=some u){args:List dB}{R:dB->dw->Prop}{H:dw}(h:wF Tryz.prog A u args R H):Ex.Fn Tryz.prog f args.toArray H R:=LW PH w h
theorem m1(s:Sh)(A:HS){f:jt}{u:Func}(w:Tryz.prog.funcs[f]?=some u){args:List dB}{R:Uu s->dw->Prop}{H:dw}(h:wF Tryz.prog A u args (λv H'=>xS s v λr=>R r H') H):Ex.Fn Tryz.prog f args.toArray H λv H'=>∃r,v=KI s r/\R r H':=
 (mT A w h).mono λv H' h=>nS h
abbrev gP:Nat:=3
abbrev iz:Nat:=4
abbrev lI:Nat:=5
abbrev fp:Nat:=9
abbrev nw:Nat:=20
abbrev iG:Nat:=28
abbrev EF:Nat:=32
abbrev qp:Nat:=51
abbrev qO:Nat:=55
abbrev iW:Nat:=59
abbrev eC:Nat:=61
abbrev mq:Nat:=65
abbrev gL:Nat:=83
abbrev ic:Nat:=88
abbrev iX:Nat:=90
abbrev kc:Nat:=96
abbrev jN:Nat:=99
abbrev nU:Nat:=102
abbrev eF:Nat:=117
abbrev C0:Nat:=133
abbrev tN:Nat:=139
abbrev lJ:Nat:=154
abbrev mC:Nat:=158
abbrev pN:Nat:=160
abbrev kB:Nat:=162
abbrev qm:Nat:=163
abbrev wG:Nat:=168
abbrev jU:Nat:=193
abbrev qs:Nat:=198
abbrev eX:Nat:=203
abbrev Ad:Nat:=211
abbrev nT:Nat:=213
abbrev jO:Nat:=215
abbrev mO:Nat:=217
abbrev qP:Nat:=218
abbrev qo:Nat:=219
abbrev kQ:Nat:=253
abbrev pF:Nat:=262
abbrev kP:Nat:=279
abbrev gx:Nat:=323
abbrev ru:Nat:=0
abbrev jV:Nat:=1
abbrev gT:Nat:=5
def lj:List dB->dA->Nat->dw->(dw->Prop)->Prop
 |[],_,_,H,K=>K H
 |v::r,a,j,H,K=>(∃u,dL H (a.add j)=some u)/\fH H (a.add j)=false/\lj r a (j+1) (gO H (a.add j) v) K
abbrev j0(v:dB)(a:dA)(H:dw)(K:dw->Prop):Prop:=(∃u,dL H a=some u)/\fH H a=false/\K (gO H a v)
abbrev sF(H:dw)(a:dA)(K:Bool->Prop):Prop:=∃h:Bool,dL H a=some (.bool h)/\K h
abbrev gf(H:dw)(a:dA)(K:Int->Prop):Prop:=∃h:Int,dL H a=some (.int .i64 h)/\K h
abbrev kh(H:dw)(a:dA)(K:Int->Int->Int->Int->Prop):Prop:=∃h:Int,dL H (a.add 0)=some (.int .i64 h)/\∃u:Int,dL H (a.add 1)=some (.int .i64 u)/\∃w:Int,dL H (a.add 2)=some (.int .i64 w)/\∃I:Int,dL H (a.add 3)=some (.int .i64 I)/\K h u w I
theorem qx{H:dw}{a:dA}{K:Int->Int->Int->Int->Prop}(u:Int)(w:Int)(I:Int)(N:Int)(h:∀j,j<4->dL H (a.add j)=([.int .i64 u,.int .i64 w,.int .i64 I,.int .i64 N]:List dB)[j]?)(O:K u w I N):kh H a K:=
 ⟨u,h 0 (by decide),w,h 1 (by decide),I,h 2 (by decide),N,h 3 (by decide),O⟩
abbrev fx(H:dw)(a:dA)(K:Int->Int->dE->dE->dE->dE->dC->Nat->Nat->Prop):Prop:=∃I:Int,dL H (a.add 0)=some (.int .i64 I)/\∃N:Int,dL H (a.add 1)=some (.int .i64 N)/\∃O:dE,dL H (a.add 2)=some (.string O)/\∃W:dE,dL H (a.add 3)=some (.string W)/\∃Y:dE,dL H (a.add 4)=some (.string Y)/\∃Z:dE,dL H (a.add 5)=some (.string Z)/\∃(h:dC)(u w:Nat),dL H (a.add 6)=some (.slice h u w)/\K I N O W Y Z h u w
theorem ja{H:dw}{a:dA}{K:Int->Int->dE->dE->dE->dE->dC->Nat->Nat->Prop}(N:Int)(O:Int)(W:dE)(Y:dE)(Z:dE)(x5:dE)(u:dC)(w:Nat)(I:Nat)(h:∀j,j<7->dL H (a.add j)=([.int .i64 N,.int .i64 O,.string W,.string Y,.string Z,.string x5,.slice u w I]:List dB)[j]?)(hk:K N O W Y Z x5 u w I):fx H a K:=
 ⟨N,h 0 (by decide),O,h 1 (by decide),W,h 2 (by decide),Y,h 3 (by decide),Z,h 4 (by decide),x5,h 5 (by decide),u,w,I,h 6 (by decide),hk⟩
abbrev zD(H:dw)(a:dA)(K:Int->dE->dE->dE->Prop):Prop:=∃h:Int,dL H (a.add 0)=some (.int .i64 h)/\∃u:dE,dL H (a.add 1)=some (.string u)/\∃w:dE,dL H (a.add 2)=some (.string w)/\∃I:dE,dL H (a.add 3)=some (.string I)/\K h u w I
theorem AS{H:dw}{a:dA}{K:Int->dE->dE->dE->Prop}(u:Int)(w:dE)(I:dE)(N:dE)(h:∀j,j<4->dL H (a.add j)=([.int .i64 u,.string w,.string I,.string N]:List dB)[j]?)(O:K u w I N):zD H a K:=
 ⟨u,h 0 (by decide),w,h 1 (by decide),I,h 2 (by decide),N,h 3 (by decide),O⟩
abbrev fq(H:dw)(a:dA)(K:Int->dE->dE->dC->Nat->Nat->Bool->Prop):Prop:=∃I:Int,dL H (a.add 0)=some (.int .i64 I)/\∃N:dE,dL H (a.add 1)=some (.string N)/\∃O:dE,dL H (a.add 2)=some (.string O)/\∃(h:dC)(u w:Nat),dL H (a.add 3)=some (.slice h u w)/\∃W:Bool,dL H (a.add 4)=some (.bool W)/\K I N O h u w W
theorem Ff{H:dw}{a:dA}{K:Int->dE->dE->dC->Nat->Nat->Bool->Prop}(N:Int)(O:dE)(W:dE)(u:dC)(w:Nat)(I:Nat)(Y:Bool)(h:∀j,j<5->dL H (a.add j)=([.int .i64 N,.string O,.string W,.slice u w I,.bool Y]:List dB)[j]?)(Z:K N O W u w I Y):fq H a K:=
 ⟨N,h 0 (by decide),O,h 1 (by decide),W,h 2 (by decide),u,w,I,h 3 (by decide),Y,h 4 (by decide),Z⟩
abbrev tE(H:dw)(a:dA)(K:dC->Prop):Prop:=∃h:dC,dL H a=some (.pointer h)/\K h
abbrev fh(H:dw)(a:dA)(K:dE->Prop):Prop:=∃h:dE,dL H a=some (.string h)/\K h
abbrev tz(H:dw)(a:dA)(K:dE->dE->Prop):Prop:=∃h:dE,dL H (a.add 0)=some (.string h)/\∃u:dE,dL H (a.add 1)=some (.string u)/\K h u
theorem rS{H:dw}{a:dA}{K:dE->dE->Prop}(u:dE)(w:dE)(h:∀j,j<2->dL H (a.add j)=([.string u,.string w]:List dB)[j]?)(I:K u w):tz H a K:=
 ⟨u,h 0 (by decide),w,h 1 (by decide),I⟩
abbrev kg(H:dw)(a:dA)(K:dE->dE->dE->dE->Prop):Prop:=∃h:dE,dL H (a.add 0)=some (.string h)/\∃u:dE,dL H (a.add 1)=some (.string u)/\∃w:dE,dL H (a.add 2)=some (.string w)/\∃I:dE,dL H (a.add 3)=some (.string I)/\K h u w I
theorem G7{H:dw}{a:dA}{K:dE->dE->dE->dE->Prop}(u:dE)(w:dE)(I:dE)(N:dE)(h:∀j,j<4->dL H (a.add j)=([.string u,.string w,.string I,.string N]:List dB)[j]?)(O:K u w I N):kg H a K:=
 ⟨u,h 0 (by decide),w,h 1 (by decide),I,h 2 (by decide),N,h 3 (by decide),O⟩
abbrev oJ(H:dw)(a:dA)(K:dE->dC->Nat->Nat->dC->Nat->Nat->Prop):Prop:=∃W:dE,dL H (a.add 0)=some (.string W)/\∃(h:dC)(u w:Nat),dL H (a.add 1)=some (.slice h u w)/\∃(I:dC)(N O:Nat),dL H (a.add 2)=some (.slice I N O)/\K W h u w I N O
theorem mQ{H:dw}{a:dA}{K:dE->dC->Nat->Nat->dC->Nat->Nat->Prop}(Y:dE)(u:dC)(w:Nat)(I:Nat)(N:dC)(O:Nat)(W:Nat)(h:∀j,j<3->dL H (a.add j)=([.string Y,.slice u w I,.slice N O W]:List dB)[j]?)(Z:K Y u w I N O W):oJ H a K:=
 ⟨Y,h 0 (by decide),u,w,I,h 1 (by decide),N,O,W,h 2 (by decide),Z⟩
abbrev Vz(H:dw)(a:dA)(K:dB->Prop):Prop:=∃h:dB,dL H a=some (h)/\K h
abbrev vP(H:dw)(a:dA)(K:Int->Prop):Prop:=∃h:Int,dL H a=some (.int .u8 h)/\K h
abbrev Vy(H:dw)(a:dA)(K:Int->Int->Prop):Prop:=∃h:Int,dL H (a.add 0)=some (.int .u8 h)/\∃u:Int,dL H (a.add 1)=some (.int .u8 u)/\K h u
abbrev fU(H:dw)(a:dA)(K:dC->Nat->Nat->Prop):Prop:=∃(h:dC)(u w:Nat),dL H a=some (.slice h u w)/\K h u w
def iE.C(h:dC)(u w:Nat)(I:Int)(H:dw)(R:Bool->dw->Prop):Prop:=Ex.Fn Tryz.prog 4 #[.slice h u w,.int .i64 I] H λv H'=>∃N:Bool,v=.bool N/\R N H'
def lT.C(h:dC)(u w:Nat)(I:Int)(N:Int)(O:Int)(Y:Int)(H:dw)(R:dC->Int->dw->Prop):Prop:=Ex.Fn Tryz.prog 5 #[.slice h u w,.agg #[.int .i64 I,.int .i64 N,.int .i64 O,.int .i64 Y]] H λv H'=>∃Z:dC,∃r1:Int,v=.tuple #[.pointer Z,.int .i64 r1]/\R Z r1 H'
def tA.C(H:dw)(R:Bool->dw->Prop):Prop:=Ex.Fn Tryz.prog 8 #[] H λv H'=>∃h:Bool,v=.bool h/\R h H'
def iU.C(I:dC)(N O:Nat)(H:dw)(R:dC->Nat->Nat->dw->Prop):Prop:=Ex.Fn Tryz.prog 10 #[.slice I N O] H λv H'=>∃(h:dC)(u w:Nat),v=.slice h u w/\R h u w H'
def ij.C(h:dC)(u w:Nat)(I:Int)(H:dw)(R:dE->dw->Prop):Prop:=Ex.Fn Tryz.prog 11 #[.slice h u w,.int .i64 I] H λv H'=>∃N:dE,v=.string N/\R N H'
def jD.C(H:dw)(R:Int->Int->Int->Int->dw->Prop):Prop:=Ex.Fn Tryz.prog 12 #[] H λv H'=>∃h:Int,∃u:Int,∃w:Int,∃I:Int,v=.agg #[.int .i64 h,.int .i64 u,.int .i64 w,.int .i64 I]/\R h u w I H'
def iT.C(h:dC)(u w:Nat)(I:dC)(N O:Nat)(H:dw)(R:Bool->dw->Prop):Prop:=Ex.Fn Tryz.prog 13 #[.slice h u w,.slice I N O] H λv H'=>∃Y:Bool,v=.bool Y/\R Y H'
def iv.C(I:dC)(H:dw)(R:dC->Nat->Nat->dw->Prop):Prop:=Ex.Fn Tryz.prog 14 #[.pointer I] H λv H'=>∃(h:dC)(u w:Nat),v=.slice h u w/\R h u w H'
def nI.C(I:dC)(N O:Nat)(Y:Int)(Z:Int)(aa:Int)(ab:Int)(H:dw)(R:dC->Nat->Nat->Int->dw->Prop):Prop:=Ex.Fn Tryz.prog 15 #[.slice I N O,.agg #[.int .i64 Y,.int .i64 Z,.int .i64 aa,.int .i64 ab]] H λv H'=>∃(h:dC)(u w:Nat),∃r1:Int,v=.tuple #[.slice h u w,.int .i64 r1]/\R h u w r1 H'
def nR.C(h:dC)(u w:Nat)(H:dw)(R:dC->Int->dw->Prop):Prop:=Ex.Fn Tryz.prog 16 #[.slice h u w] H λv H'=>∃I:dC,∃N:Int,v=.tuple #[.pointer I,.int .i64 N]/\R I N H'
def jg.C(h:dC)(H:dw)(R:dC->dw->Prop):Prop:=Ex.Fn Tryz.prog 18 #[.pointer h] H λv H'=>∃u:dC,v=.pointer u/\R u H'
def fX.C(h:dC)(H:dw)(R:Bool->dw->Prop):Prop:=Ex.Fn Tryz.prog 20 #[.pointer h] H λv H'=>∃u:Bool,v=.bool u/\R u H'
def iF.C(I:Int)(H:dw)(R:dC->Nat->Nat->dw->Prop):Prop:=Ex.Fn Tryz.prog 21 #[.int .u64 I] H λv H'=>∃(h:dC)(u w:Nat),v=.slice h u w/\R h u w H'
def fO.C(I:dC)(h:dC)(u w:Nat)(H:dw)(R:Int->dw->Prop):Prop:=Ex.Fn Tryz.prog 22 #[.pointer I,.slice h u w] H λv H'=>∃N:Int,v=.int .i64 N/\R N H'
def gR.C(h:dC)(u:dC)(H:dw)(R:Bool->dw->Prop):Prop:=Ex.Fn Tryz.prog 23 #[.pointer h,.pointer u] H λv H'=>∃w:Bool,v=.bool w/\R w H'
def jq.C(h:dC)(u w:Nat)(H:dw)(R:Bool->dw->Prop):Prop:=Ex.Fn Tryz.prog 24 #[.slice h u w] H λv H'=>∃I:Bool,v=.bool I/\R I H'
def ia.C(I:Int)(N:Int)(O:dE)(Y:dE)(Z:dE)(aa:dE)(h:dC)(u w:Nat)(H:dw)(R:dE->dw->Prop):Prop:=Ex.Fn Tryz.prog 25 #[.agg #[.int .i64 I,.int .i64 N,.string O,.string Y,.string Z,.string aa,.slice h u w]] H λv H'=>∃r0:dE,v=.string r0/\R r0 H'
def ir.C(h:dC)(u w:Nat)(I:Int)(H:dw)(R:Int->dw->Prop):Prop:=Ex.Fn Tryz.prog 26 #[.slice h u w,.int .i64 I] H λv H'=>∃N:Int,v=.int .i64 N/\R N H'
def gQ.C(h:dE)(u:dE)(H:dw)(R:dE->dw->Prop):Prop:=Ex.Fn Tryz.prog 27 #[.string h,.string u] H λv H'=>∃w:dE,v=.string w/\R w H'
def jB.C(h:dC)(u w:Nat)(I:dC)(N O:Nat)(H:dw)(R:Int->dw->Prop):Prop:=Ex.Fn Tryz.prog 28 #[.slice h u w,.slice I N O] H λv H'=>∃Y:Int,v=.int .i64 Y/\R Y H'
def jY.C(I:dC)(H:dw)(R:dC->Nat->Nat->dw->Prop):Prop:=Ex.Fn Tryz.prog 29 #[.pointer I] H λv H'=>∃(h:dC)(u w:Nat),v=.slice h u w/\R h u w H'
def pf.C(h:Int)(u:Int)(w:Int)(I:Int)(H:dw)(R:Bool->dw->Prop):Prop:=Ex.Fn Tryz.prog 30 #[.agg #[.int .i64 h,.int .i64 u,.int .i64 w,.int .i64 I]] H λv H'=>∃N:Bool,v=.bool N/\R N H'
def nH.C(h:dC)(u w:Nat)(H:dw)(R:dE->Int->dw->Prop):Prop:=Ex.Fn Tryz.prog 31 #[.slice h u w] H λv H'=>∃I:dE,∃N:Int,v=.tuple #[.string I,.int .i64 N]/\R I N H'
def mW.C(Y:dE)(h:dC)(u w:Nat)(I:dC)(N O:Nat)(H:dw)(R:dC->dw->Prop):Prop:=Ex.Fn Tryz.prog 32 #[.agg #[.string Y,.slice h u w,.slice I N O]] H λv H'=>∃Z:dC,v=.pointer Z/\R Z H'
def kN.C(H:dw)(R:dC->dw->Prop):Prop:=Ex.Fn Tryz.prog 33 #[] H λv H'=>∃h:dC,v=.pointer h/\R h H'
def im.C(h:dC)(u:dE)(H:dw)(R:Int->dw->Prop):Prop:=Ex.Fn Tryz.prog 34 #[.pointer h,.string u] H λv H'=>∃w:Int,v=.int .i64 w/\R w H'
def o9.C(h:dC)(u w:Nat)(H:dw)(R:Bool->dw->Prop):Prop:=Ex.Fn Tryz.prog 35 #[.slice h u w] H λv H'=>∃I:Bool,v=.bool I/\R I H'
def jS.C(h:dC)(u w:Nat)(H:dw)(R:dE->dw->Prop):Prop:=Ex.Fn Tryz.prog 36 #[.slice h u w] H λv H'=>∃I:dE,v=.string I/\R I H'
def nJ.C(h:dC)(u w:Nat)(H:dw)(R:dC->Int->dw->Prop):Prop:=Ex.Fn Tryz.prog 37 #[.slice h u w] H λv H'=>∃I:dC,∃N:Int,v=.tuple #[.pointer I,.int .i64 N]/\R I N H'
def lX.C(I:dC)(N O:Nat)(H:dw)(R:dC->Nat->Nat->dw->Prop):Prop:=Ex.Fn Tryz.prog 38 #[.slice I N O] H λv H'=>∃(h:dC)(u w:Nat),v=.slice h u w/\R h u w H'
def o0.C(u:dC)(w I:Nat)(h:Int)(H:dw)(R:dC->Int->dw->Prop):Prop:=Ex.Fn Tryz.prog 39 #[.slice u w I,.int .i64 h] H λv H'=>∃N:dC,∃O:Int,v=.tuple #[.pointer N,.int .i64 O]/\R N O H'
def nZ.C(h:dC)(u w:Nat)(H:dw)(R:dC->Int->dw->Prop):Prop:=Ex.Fn Tryz.prog 40 #[.slice h u w] H λv H'=>∃I:dC,∃N:Int,v=.tuple #[.pointer I,.int .i64 N]/\R I N H'
def iC.C(h:dC)(u w:Nat)(H:dw)(R:Int->dw->Prop):Prop:=Ex.Fn Tryz.prog 41 #[.slice h u w] H λv H'=>∃I:Int,v=.int .i64 I/\R I H'
def ky.C(h:dC)(H:dw)(R:Int->dw->Prop):Prop:=Ex.Fn Tryz.prog 43 #[.pointer h] H λv H'=>∃u:Int,v=.int .i64 u/\R u H'
def kK.C(h:dE)(u:dE)(w:dE)(I:dE)(H:dw)(R:dE->Bool->dw->Prop):Prop:=Ex.Fn Tryz.prog 46 #[.agg #[.string h,.string u,.string w,.string I]] H λv H'=>∃N:dE,∃O:Bool,v=.tuple #[.string N,.bool O]/\R N O H'
def fW.C(u:dC)(h:dE)(H:dw)(R:dE->Bool->dw->Prop):Prop:=Ex.Fn Tryz.prog 47 #[.pointer u,.string h] H λv H'=>∃w:dE,∃I:Bool,v=.tuple #[.string w,.bool I]/\R w I H'
def gC.C(Y:Int)(Z:Int)(aa:dE)(ab:dE)(ac:dE)(ad:dE)(h:dC)(u w:Nat)(ae:Int)(af:Int)(ag:dE)(ah:dE)(ai:dE)(aj:dE)(I:dC)(N O:Nat)(H:dw)(R:Bool->dw->Prop):Prop:=Ex.Fn Tryz.prog 48 #[.agg #[.int .i64 Y,.int .i64 Z,.string aa,.string ab,.string ac,.string ad,.slice h u w],.agg #[.int .i64 ae,.int .i64 af,.string ag,.string ah,.string ai,.string aj,.slice I N O]] H λv H'=>∃r0:Bool,v=.bool r0/\R r0 H'
def hZ.C(ab:dC)(I:Int)(N:Int)(O:dE)(Y:dE)(Z:dE)(aa:dE)(h:dC)(u w:Nat)(H:dw)(R:Bool->dw->Prop):Prop:=Ex.Fn Tryz.prog 49 #[.pointer ab,.agg #[.int .i64 I,.int .i64 N,.string O,.string Y,.string Z,.string aa,.slice h u w]] H λv H'=>∃r0:Bool,v=.bool r0/\R r0 H'
def qG.C(I:Int)(N:Int)(O:dE)(W:dE)(Y:dE)(Z:dE)(h:dC)(u w:Nat)(H:dw)(R:Bool->dw->Prop):Prop:=Ex.Fn Tryz.prog 50 #[.agg #[.int .i64 I,.int .i64 N,.string O,.string W,.string Y,.string Z,.slice h u w]] H λv H'=>∃r0:Bool,v=.bool r0/\R r0 H'
def lH.C(u:dE)(h:Bool)(H:dw)(R:dE->dw->Prop):Prop:=Ex.Fn Tryz.prog 51 #[.string u,.bool h] H λv H'=>∃w:dE,v=.string w/\R w H'
def jX.C(ab:dC)(ac:Int)(H:dw)(R:Int->Int->dE->dE->dE->dE->dC->Nat->Nat->dw->Prop):Prop:=Ex.Fn Tryz.prog 52 #[.pointer ab,.int .i64 ac] H λv H'=>∃I:Int,∃N:Int,∃O:dE,∃Y:dE,∃Z:dE,∃aa:dE,∃(h:dC)(u w:Nat),v=.agg #[.int .i64 I,.int .i64 N,.string O,.string Y,.string Z,.string aa,.slice h u w]/\R I N O Y Z aa h u w H'
def iA.C(h:dC)(H:dw)(R:Int->dw->Prop):Prop:=Ex.Fn Tryz.prog 53 #[.pointer h] H λv H'=>∃u:Int,v=.int .i64 u/\R u H'
def gW.C(h:dC)(H:dw)(R:Bool->dw->Prop):Prop:=Ex.Fn Tryz.prog 54 #[.pointer h] H λv H'=>∃u:Bool,v=.bool u/\R u H'
def gZ.C(h:dC)(u:dC)(H:dw)(R:Int->dw->Prop):Prop:=Ex.Fn Tryz.prog 55 #[.pointer h,.pointer u] H λv H'=>∃w:Int,v=.int .i64 w/\R w H'
def lk.C(w:Int)(h:Int)(u:Int)(H:dw)(R:Bool->dw->Prop):Prop:=Ex.Fn Tryz.prog 56 #[.int .i64 w,.int .i64 h,.int .i64 u] H λv H'=>∃I:Bool,v=.bool I/\R I H'
def bytes_TrimPrefix.C(W:dC)(Y Z:Nat)(h:dC)(u w:Nat)(H:dw)(R:dC->Nat->Nat->dw->Prop):Prop:=Ex.Fn Tryz.prog 57 #[.slice W Y Z,.slice h u w] H λv H'=>∃(I:dC)(N O:Nat),v=.slice I N O/\R I N O H'
def mE.C(h:dC)(u w:Nat)(H:dw)(R:Bool->dw->Prop):Prop:=Ex.Fn Tryz.prog 58 #[.slice h u w] H λv H'=>∃I:Bool,v=.bool I/\R I H'
def oD.C(h:dE)(H:dw)(R:dE->dw->Prop):Prop:=Ex.Fn Tryz.prog 59 #[.string h] H λv H'=>∃u:dE,v=.string u/\R u H'
def mi.C(h:dE)(H:dw)(R:Int->Int->dw->Prop):Prop:=Ex.Fn Tryz.prog 60 #[.string h] H λv H'=>∃u:Int,∃w:Int,v=.tuple #[.int .i64 u,.int .i64 w]/\R u w H'
def gy.C(u:dE)(h:Int)(H:dw)(R:Int->dw->Prop):Prop:=Ex.Fn Tryz.prog 61 #[.string u,.int .i64 h] H λv H'=>∃w:Int,v=.int .i64 w/\R w H'
def jA.C(aa:dE)(Z:Int)(H:dw)(R:dE->dC->Nat->Nat->dC->Nat->Nat->Int->Int->dw->Prop):Prop:=Ex.Fn Tryz.prog 62 #[.string aa,.int .i64 Z] H λv H'=>∃Y:dE,∃(h:dC)(u w:Nat),∃(I:dC)(N O:Nat),∃r1:Int,∃r2:Int,v=.tuple #[.agg #[.string Y,.slice h u w,.slice I N O],.int .i64 r1,.int .i64 r2]/\R Y h u w I N O r1 r2 H'
def iR.C(u:dC)(w:dE)(h:Int)(H:dw)(R:Int->Int->dw->Prop):Prop:=Ex.Fn Tryz.prog 63 #[.pointer u,.string w,.int .i64 h] H λv H'=>∃I:Int,∃N:Int,v=.tuple #[.int .i64 I,.int .i64 N]/\R I N H'
def lU.C(h:dC)(u w:Nat)(I:Int)(H:dw)(R:Bool->dw->Prop):Prop:=Ex.Fn Tryz.prog 64 #[.slice h u w,.int .i64 I] H λv H'=>∃N:Bool,v=.bool N/\R N H'
def vH.C(I:Int)(N:Int)(O:dE)(W:dE)(Y:dE)(Z:dE)(h:dC)(u w:Nat)(H:dw)(R:Bool->dw->Prop):Prop:=Ex.Fn Tryz.prog 65 #[.agg #[.int .i64 I,.int .i64 N,.string O,.string W,.string Y,.string Z,.slice h u w]] H λv H'=>∃r0:Bool,v=.bool r0/\R r0 H'
def kR.C(I:Int)(N:Int)(O:dE)(Y:dE)(Z:dE)(aa:dE)(h:dC)(u w:Nat)(ab:dC)(H:dw)(R:Bool->dw->Prop):Prop:=Ex.Fn Tryz.prog 66 #[.agg #[.int .i64 I,.int .i64 N,.string O,.string Y,.string Z,.string aa,.slice h u w],.pointer ab] H λv H'=>∃r0:Bool,v=.bool r0/\R r0 H'
def ff.C(h:dC)(u:dE)(H:dw)(R:Int->dB->dw->Prop):Prop:=Ex.Fn Tryz.prog 67 #[.pointer h,.string u] H λv H'=>∃w:Int,∃I:dB,v=.tuple #[.int .i64 w,I]/\R w I H'
def th.C(h:Int)(H:dw)(R:dE->dw->Prop):Prop:=Ex.Fn Tryz.prog 68 #[.int .i64 h] H λv H'=>∃u:dE,v=.string u/\R u H'
def gz.C(h:dC)(H:dw)(R:dE->dw->Prop):Prop:=Ex.Fn Tryz.prog 69 #[.pointer h] H λv H'=>∃u:dE,v=.string u/\R u H'
def nK.C(h:dC)(u w:Nat)(H:dw)(R:Bool->dw->Prop):Prop:=Ex.Fn Tryz.prog 70 #[.slice h u w] H λv H'=>∃I:Bool,v=.bool I/\R I H'
def nh.C(h:dC)(u w:Nat)(H:dw)(R:dC->Int->dw->Prop):Prop:=Ex.Fn Tryz.prog 71 #[.slice h u w] H λv H'=>∃I:dC,∃N:Int,v=.tuple #[.pointer I,.int .i64 N]/\R I N H'
def lr.C(h:Int)(H:dw)(R:Int->dw->Prop):Prop:=Ex.Fn Tryz.prog 72 #[.int .u64 h] H λv H'=>∃u:Int,v=.int .i64 u/\R u H'
def pg.C(h:dC)(u w:Nat)(H:dw)(R:dC->Int->dw->Prop):Prop:=Ex.Fn Tryz.prog 73 #[.slice h u w] H λv H'=>∃I:dC,∃N:Int,v=.tuple #[.pointer I,.int .i64 N]/\R I N H'
def strings_Join.C(h:dC)(u w:Nat)(I:dE)(H:dw)(R:dE->dw->Prop):Prop:=Ex.Fn Tryz.prog 74 #[.slice h u w,.string I] H λv H'=>∃N:dE,v=.string N/\R N H'
def iH.C(h:dC)(H:dw)(R:Int->dw->Prop):Prop:=Ex.Fn Tryz.prog 76 #[.pointer h] H λv H'=>∃u:Int,v=.int .i64 u/\R u H'
def gA.C(h:dC)(u w:Nat)(I:dC)(N O:Nat)(H:dw)(R:Bool->dw->Prop):Prop:=Ex.Fn Tryz.prog 89 #[.slice h u w,.slice I N O] H λv H'=>∃Y:Bool,v=.bool Y/\R Y H'
def ny.C(h:dE)(u:dE)(H:dw)(R:Bool->dw->Prop):Prop:=Ex.Fn Tryz.prog 90 #[.string h,.string u] H λv H'=>∃w:Bool,v=.bool w/\R w H'
def qW.C(h:dE)(H:dw)(R:Bool->dw->Prop):Prop:=Ex.Fn Tryz.prog 91 #[.string h] H λv H'=>∃u:Bool,v=.bool u/\R u H'
def kn.C(h:dC)(u:Int)(H:dw)(R:Int->Int->dw->Prop):Prop:=Ex.Fn Tryz.prog 95 #[.pointer h,.int .i64 u] H λv H'=>∃w:Int,∃I:Int,v=.tuple #[.int .i64 w,.int .i64 I]/\R w I H'
def ig.C(h:dC)(u:Int)(H:dw)(R:Int->dw->Prop):Prop:=Ex.Fn Tryz.prog 96 #[.pointer h,.int .i64 u] H λv H'=>∃w:Int,v=.int .i64 w/\R w H'
def iB.C(h:dC)(u:Int)(H:dw)(R:Int->dw->Prop):Prop:=Ex.Fn Tryz.prog 97 #[.pointer h,.int .i64 u] H λv H'=>∃w:Int,v=.int .i64 w/\R w H'
def jQ.C(h:dC)(u:Int)(H:dw)(R:dE->Int->dw->Prop):Prop:=Ex.Fn Tryz.prog 98 #[.pointer h,.int .i64 u] H λv H'=>∃w:dE,∃I:Int,v=.tuple #[.string w,.int .i64 I]/\R w I H'
def jW.C(I:dE)(H:dw)(R:dC->Nat->Nat->dw->Prop):Prop:=Ex.Fn Tryz.prog 99 #[.string I] H λv H'=>∃(h:dC)(u w:Nat),v=.slice h u w/\R h u w H'
def jj.C(I:dC)(h:dC)(u w:Nat)(H:dw)(R:Int->dw->Prop):Prop:=Ex.Fn Tryz.prog 100 #[.pointer I,.slice h u w] H λv H'=>∃N:Int,v=.int .i64 N/\R N H'
def jc.C(u:dC)(h:dE)(H:dw)(R:dE->Bool->dw->Prop):Prop:=Ex.Fn Tryz.prog 101 #[.pointer u,.string h] H λv H'=>∃w:dE,∃I:Bool,v=.tuple #[.string w,.bool I]/\R w I H'
def vK.C(h:Int)(H:dw)(R:Bool->dw->Prop):Prop:=Ex.Fn Tryz.prog 103 #[.int .i32 h] H λv H'=>∃u:Bool,v=.bool u/\R u H'
def mB.C(h:dC)(u w:Nat)(H:dw)(R:Bool->dw->Prop):Prop:=Ex.Fn Tryz.prog 104 #[.slice h u w] H λv H'=>∃I:Bool,v=.bool I/\R I H'
def strings_ReplaceAll.C(w:dE)(h:dE)(u:dE)(H:dw)(R:dE->dw->Prop):Prop:=Ex.Fn Tryz.prog 105 #[.string w,.string h,.string u] H λv H'=>∃I:dE,v=.string I/\R I H'
def fy.C(u:dC)(h:dE)(H:dw)(R:Bool->dw->Prop):Prop:=Ex.Fn Tryz.prog 106 #[.pointer u,.string h] H λv H'=>∃w:Bool,v=.bool w/\R w H'
def ft.C(h:dC)(H:dw)(R:Bool->dw->Prop):Prop:=Ex.Fn Tryz.prog 107 #[.pointer h] H λv H'=>∃u:Bool,v=.bool u/\R u H'
def iq.C(u:dC)(h:dE)(H:dw)(R:dw->Prop):Prop:=Ex.Fn Tryz.prog 108 #[.pointer u,.string h] H λv H'=>v=.tuple #[]/\R H'
def jz.C(h:dC)(H:dw)(R:dw->Prop):Prop:=Ex.Fn Tryz.prog 109 #[.pointer h] H λv H'=>v=.tuple #[]/\R H'
def gq.C(h:dC)(H:dw)(R:dE->dw->Prop):Prop:=Ex.Fn Tryz.prog 110 #[.pointer h] H λv H'=>∃u:dE,v=.string u/\R u H'
def xA.C(h:dE)(H:dw)(R:Bool->dw->Prop):Prop:=Ex.Fn Tryz.prog 111 #[.string h] H λv H'=>∃u:Bool,v=.bool u/\R u H'
def qR.C(h:dE)(u:dE)(H:dw)(R:Bool->dw->Prop):Prop:=Ex.Fn Tryz.prog 112 #[.string h,.string u] H λv H'=>∃w:Bool,v=.bool w/\R w H'
def yL.C(h:Int)(H:dw)(R:Bool->dw->Prop):Prop:=Ex.Fn Tryz.prog 113 #[.int .i32 h] H λv H'=>∃u:Bool,v=.bool u/\R u H'
def strings_HasPrefix.C(u:dE)(h:dE)(H:dw)(R:Bool->dw->Prop):Prop:=Ex.Fn Tryz.prog 114 #[.string u,.string h] H λv H'=>∃w:Bool,v=.bool w/\R w H'
def jf.C(h:dC)(H:dw)(R:dw->Prop):Prop:=Ex.Fn Tryz.prog 115 #[.pointer h] H λv H'=>v=.tuple #[]/\R H'
def jn.C(h:dC)(H:dw)(R:dE->dw->Prop):Prop:=Ex.Fn Tryz.prog 116 #[.pointer h,.func (.func 117) #[] #[]] H λv H'=>∃u:dE,v=.string u/\R u H'
def Bd.C(h:dE)(H:dw)(R:Bool->dw->Prop):Prop:=Ex.Fn Tryz.prog 117 #[.string h] H λv H'=>∃u:Bool,v=.bool u/\R u H'
def hY.C(h:dC)(H:dw)(R:Bool->dw->Prop):Prop:=Ex.Fn Tryz.prog 118 #[.pointer h] H λv H'=>∃u:Bool,v=.bool u/\R u H'
def iD.C(h:dC)(H:dw)(R:dw->Prop):Prop:=Ex.Fn Tryz.prog 119 #[.pointer h] H λv H'=>v=.tuple #[]/\R H'
def j8.C(aa:dE)(Z:Int)(H:dw)(R:Int->dE->dE->dC->Nat->Nat->Bool->Int->Int->dw->Prop):Prop:=Ex.Fn Tryz.prog 120 #[.string aa,.int .i64 Z] H λv H'=>∃I:Int,∃N:dE,∃O:dE,∃(h:dC)(u w:Nat),∃Y:Bool,∃r1:Int,∃r2:Int,v=.tuple #[.agg #[.int .i64 I,.string N,.string O,.slice h u w,.bool Y],.int .i64 r1,.int .i64 r2]/\R I N O h u w Y r1 r2 H'
def hO.C(aa:dC)(N:Int)(O:dE)(Y:dE)(h:dC)(u w:Nat)(Z:Bool)(I:Int)(H:dw)(R:Int->dw->Prop):Prop:=Ex.Fn Tryz.prog 121 #[.pointer aa,.agg #[.int .i64 N,.string O,.string Y,.slice h u w,.bool Z],.int .i64 I] H λv H'=>∃r0:Int,v=.int .i64 r0/\R r0 H'
def gn.C(ab:dC)(N:Int)(O:dE)(Y:dE)(h:dC)(u w:Nat)(Z:Bool)(ac:dE)(aa:Int)(I:Int)(H:dw)(R:Int->Int->dw->Prop):Prop:=Ex.Fn Tryz.prog 122 #[.pointer ab,.agg #[.int .i64 N,.string O,.string Y,.slice h u w,.bool Z],.string ac,.int .i64 aa,.int .i64 I] H λv H'=>∃r0:Int,∃r1:Int,v=.tuple #[.int .i64 r0,.int .i64 r1]/\R r0 r1 H'
def Ag.C(h:dE)(H:dw)(R:Bool->dw->Prop):Prop:=Ex.Fn Tryz.prog 123 #[.string h] H λv H'=>∃u:Bool,v=.bool u/\R u H'
def strings_Contains.C(u:dE)(h:dE)(H:dw)(R:Bool->dw->Prop):Prop:=Ex.Fn Tryz.prog 124 #[.string u,.string h] H λv H'=>∃w:Bool,v=.bool w/\R w H'
def wJ.C(h:dE)(H:dw)(R:Bool->dw->Prop):Prop:=Ex.Fn Tryz.prog 126 #[.string h] H λv H'=>∃u:Bool,v=.bool u/\R u H'
def vG.C(h:dE)(u:dE)(H:dw)(R:Bool->dw->Prop):Prop:=Ex.Fn Tryz.prog 127 #[.string h,.string u] H λv H'=>∃w:Bool,v=.bool w/\R w H'
def lh.C(I:dC)(N O:Nat)(H:dw)(R:dC->Nat->Nat->dw->Prop):Prop:=Ex.Fn Tryz.prog 128 #[.slice I N O] H λv H'=>∃(h:dC)(u w:Nat),v=.slice h u w/\R h u w H'
def kl.C(h:dC)(u w:Nat)(I:dB)(H:dw)(R:Bool->dw->Prop):Prop:=Ex.Fn Tryz.prog 129 #[.slice h u w,I] H λv H'=>∃N:Bool,v=.bool N/\R N H'
def kD.C(h:dE)(u:dE)(w:dE)(I:dE)(O:dA)(H:dw)(R:Bool->dw->Prop):Prop:=Ex.Fn Tryz.prog 130 #[.agg #[.string h,.string u,.string w,.string I],.pointer (some O)] H λv H'=>∃N:Bool,v=.bool N/\R N H'
def kZ.C(h:dC)(u w:Nat)(I:dC)(N O:Nat)(H:dw)(R:Bool->dw->Prop):Prop:=Ex.Fn Tryz.prog 131 #[.slice h u w,.slice I N O] H λv H'=>∃Y:Bool,v=.bool Y/\R Y H'
def gj.C(h:dC)(H:dw)(R:dw->Prop):Prop:=Ex.Fn Tryz.prog 132 #[.pointer h] H λv H'=>v=.tuple #[]/\R H'
def iK.C(h:Int)(H:dw)(R:Int->dw->Prop):Prop:=Ex.Fn Tryz.prog 134 #[.int .u64 h] H λv H'=>∃u:Int,v=.int .i64 u/\R u H'
def mM.C(h:Int)(H:dw)(R:Int->dw->Prop):Prop:=Ex.Fn Tryz.prog 135 #[.int .u64 h] H λv H'=>∃u:Int,v=.int .i64 u/\R u H'
def ph.C(h:dC)(u w:Nat)(H:dw)(R:dC->dw->Prop):Prop:=Ex.Fn Tryz.prog 136 #[.slice h u w] H λv H'=>∃I:dC,v=.pointer I/\R I H'
def iu.C(h:dC)(H:dw)(R:Int->dw->Prop):Prop:=Ex.Fn Tryz.prog 141 #[.pointer h] H λv H'=>∃u:Int,v=.int .i64 u/\R u H'
def mc.C(h:dC)(u w:Nat)(I:dB)(H:dw)(R:Int->dw->Prop):Prop:=Ex.Fn Tryz.prog 143 #[.slice h u w,I] H λv H'=>∃N:Int,v=.int .i64 N/\R N H'
def nY.C(h:dE)(u:dE)(w:dE)(I:dE)(H:dw)(R:dE->Bool->dw->Prop):Prop:=Ex.Fn Tryz.prog 162 #[.agg #[.string h,.string u,.string w,.string I]] H λv H'=>∃N:dE,∃O:Bool,v=.tuple #[.string N,.bool O]/\R N O H'
def km.C(h:dC)(H:dw)(R:Int->dw->Prop):Prop:=Ex.Fn Tryz.prog 172 #[.pointer h] H λv H'=>∃u:Int,v=.int .i64 u/\R u H'
def jL.C(h:dC)(u:Int)(H:dw)(R:dC->dw->Prop):Prop:=Ex.Fn Tryz.prog 173 #[.pointer h,.int .i64 u] H λv H'=>∃w:dC,v=.pointer w/\R w H'
def kz.C(h:dC)(u:Int)(H:dw)(R:Bool->Int->dw->Prop):Prop:=Ex.Fn Tryz.prog 174 #[.pointer h,.int .i64 u] H λv H'=>∃w:Bool,∃I:Int,v=.tuple #[.bool w,.int .i64 I]/\R w I H'
def jw.C(w:dC)(I:Int)(u:Int)(h:Bool)(H:dw)(R:Int->dw->Prop):Prop:=Ex.Fn Tryz.prog 175 #[.pointer w,.int .i64 I,.int .i64 u,.bool h] H λv H'=>∃N:Int,v=.int .i64 N/\R N H'
def jk.C(h:dC)(u:Int)(H:dw)(R:Int->dw->Prop):Prop:=Ex.Fn Tryz.prog 176 #[.pointer h,.int .i64 u] H λv H'=>∃w:Int,v=.int .i64 w/\R w H'
def iL.C(u:dC)(w:Int)(h:Bool)(H:dw)(R:Int->dw->Prop):Prop:=Ex.Fn Tryz.prog 177 #[.pointer u,.int .i64 w,.bool h] H λv H'=>∃I:Int,v=.int .i64 I/\R I H'
def kq.C(h:dC)(H:dw)(R:Int->dw->Prop):Prop:=Ex.Fn Tryz.prog 178 #[.pointer h] H λv H'=>∃u:Int,v=.int .i64 u/\R u H'
def iI.C(h:dC)(H:dw)(R:dC->dw->Prop):Prop:=Ex.Fn Tryz.prog 179 #[.pointer h] H λv H'=>∃u:dC,v=.pointer u/\R u H'
def jR.C(h:dC)(u:Int)(H:dw)(R:Int->Int->dw->Prop):Prop:=Ex.Fn Tryz.prog 180 #[.pointer h,.int .i64 u] H λv H'=>∃w:Int,∃I:Int,v=.tuple #[.int .i64 w,.int .i64 I]/\R w I H'
def strings_Cut.C(u:dE)(h:dE)(H:dw)(R:dE->dE->Bool->dw->Prop):Prop:=Ex.Fn Tryz.prog 181 #[.string u,.string h] H λv H'=>∃w:dE,∃I:dE,∃N:Bool,v=.tuple #[.string w,.string I,.bool N]/\R w I N H'
def oF.C(h:dE)(H:dw)(R:Int->dB->dw->Prop):Prop:=Ex.Fn Tryz.prog 182 #[.string h] H λv H'=>∃u:Int,∃w:dB,v=.tuple #[.int .i64 u,w]/\R u w H'
def yJ.C(h:dE)(u:dE)(w:dE)(I:dE)(H:dw)(R:Bool->dw->Prop):Prop:=Ex.Fn Tryz.prog 183 #[.agg #[.string h,.string u,.string w,.string I]] H λv H'=>∃N:Bool,v=.bool N/\R N H'
def jh.C(h:dE)(u:dE)(w:dE)(I:dE)(O:dA)(H:dw)(R:Bool->dw->Prop):Prop:=Ex.Fn Tryz.prog 184 #[.agg #[.string h,.string u,.string w,.string I],.pointer (some O)] H λv H'=>∃N:Bool,v=.bool N/\R N H'
def iQ.C(I:dC)(N:Int)(H:dw)(R:dC->Nat->Nat->dw->Prop):Prop:=Ex.Fn Tryz.prog 185 #[.pointer I,.int .i64 N] H λv H'=>∃(h:dC)(u w:Nat),v=.slice h u w/\R h u w H'
def gK.C(h:dC)(u w:Nat)(H:dw)(R:Int->dw->Prop):Prop:=Ex.Fn Tryz.prog 189 #[.slice h u w] H λv H'=>∃I:Int,v=.int .u64 I/\R I H'
def kX.C(u:dE)(h:Int)(H:dw)(R:dE->Int->Bool->dw->Prop):Prop:=Ex.Fn Tryz.prog 191 #[.string u,.int .i64 h] H λv H'=>∃w:dE,∃I:Int,∃N:Bool,v=.tuple #[.string w,.int .i64 I,.bool N]/\R w I N H'
def nD.C(h:dE)(H:dw)(R:Int->Int->dw->Prop):Prop:=Ex.Fn Tryz.prog 193 #[.string h] H λv H'=>∃u:Int,∃w:Int,v=.tuple #[.int .i32 u,.int .i64 w]/\R u w H'
def j7.C(u:dE)(h:Int)(H:dw)(R:Int->dw->Prop):Prop:=Ex.Fn Tryz.prog 196 #[.string u,.int .i64 h] H λv H'=>∃w:Int,v=.int .i64 w/\R w H'
def pe.C(h:dE)(H:dw)(R:dE->dE->Bool->dw->Prop):Prop:=Ex.Fn Tryz.prog 197 #[.string h] H λv H'=>∃u:dE,∃w:dE,∃I:Bool,v=.tuple #[.string u,.string w,.bool I]/\R u w I H'
def jo.C(h:dC)(H:dw)(R:dw->Prop):Prop:=Ex.Fn Tryz.prog 200 #[.pointer h] H λv H'=>v=.tuple #[]/\R H'
def iS.C(h:dC)(H:dw)(R:dw->Prop):Prop:=Ex.Fn Tryz.prog 201 #[.pointer h] H λv H'=>v=.tuple #[]/\R H'
def nE.C(aa:dE)(Z:Int)(H:dw)(R:Int->dE->dE->dC->Nat->Nat->Bool->Int->Bool->dw->Prop):Prop:=Ex.Fn Tryz.prog 202 #[.string aa,.int .i64 Z] H λv H'=>∃I:Int,∃N:dE,∃O:dE,∃(h:dC)(u w:Nat),∃Y:Bool,∃r1:Int,∃r2:Bool,v=.tuple #[.agg #[.int .i64 I,.string N,.string O,.slice h u w,.bool Y],.int .i64 r1,.bool r2]/\R I N O h u w Y r1 r2 H'
def gM.C(u:dC)(h:Int)(H:dw)(R:dw->Prop):Prop:=Ex.Fn Tryz.prog 203 #[.pointer u,.int .i64 h] H λv H'=>v=.tuple #[]/\R H'
def l8.C(ak:Int)(am:dE)(an:dE)(I:dC)(N O:Nat)(ao:Bool)(ap:dE)(Y:dC)(Z aa:Nat)(ab:dC)(ac ad:Nat)(ax:dC)(aw:dC)(aq:Int)(ar:Int)(au:Int)(av:Int)(H:dw)(R:Int->Int->dE->dE->dE->dE->dC->Nat->Nat->Int->dw->Prop):Prop:=Ex.Fn Tryz.prog 204 #[.agg #[.int .i64 ak,.string am,.string an,.slice I N O,.bool ao],.agg #[.string ap,.slice Y Z aa,.slice ab ac ad],.pointer ax,.pointer aw,.agg #[.int .i64 aq,.int .i64 ar,.int .i64 au,.int .i64 av]] H λv H'=>∃ae:Int,∃af:Int,∃ag:dE,∃ah:dE,∃ai:dE,∃aj:dE,∃(h:dC)(u w:Nat),∃r1:Int,v=.tuple #[.agg #[.int .i64 ae,.int .i64 af,.string ag,.string ah,.string ai,.string aj,.slice h u w],.int .i64 r1]/\R ae af ag ah ai aj h u w r1 H'
def fw.C(I:dC)(N:dE)(w:Int)(h:Int)(u:dE)(H:dw)(R:Int->Int->dw->Prop):Prop:=Ex.Fn Tryz.prog 205 #[.pointer I,.string N,.int .i64 w,.int .i64 h,.string u] H λv H'=>∃O:Int,∃Y:Int,v=.tuple #[.int .i64 O,.int .i64 Y]/\R O Y H'
theorem fw.OA{Y:dC}{Z:dE}{I:Int}{u:Int}{w:dE}{H:dw}{R R':Int->Int->dw->Prop}(h:fw.C Y Z I u w H R)(hr:∀N O H',R N O H'->R' N O H'):fw.C Y Z I u w H R':=
 Ex.Fn.mono h λ_ _⟨N,O,hv,hh⟩=>⟨N,O,hv,hr _ _ _ hh⟩
def wR.C(h:dE)(H:dw)(R:Bool->dw->Prop):Prop:=Ex.Fn Tryz.prog 208 #[.string h] H λv H'=>∃u:Bool,v=.bool u/\R u H'
def gB.C(h:dC)(u w:Nat)(H:dw)(R:Int->dw->Prop):Prop:=Ex.Fn Tryz.prog 212 #[.slice h u w] H λv H'=>∃I:Int,v=.int .u64 I/\R I H'
def jT.C(w:dC)(I:Int)(H:dw)(R:Int->Int->dw->Prop):Prop:=Ex.Fn Tryz.prog 237 #[.pointer w,.int .i64 I] H λv H'=>∃h:Int,∃u:Int,v=.agg #[.int .u64 h,.int .i64 u]/\R h u H'
def gY.C(u:dC)(w:Int)(h:Bool)(H:dw)(R:Int->dw->Prop):Prop:=Ex.Fn Tryz.prog 238 #[.pointer u,.int .i64 w,.bool h] H λv H'=>∃I:Int,v=.int .i64 I/\R I H'
def ib.C(h:Int)(H:dw)(R:Int->dw->Prop):Prop:=Ex.Fn Tryz.prog 239 #[.int .u64 h] H λv H'=>∃u:Int,v=.int .i64 u/\R u H'
def kr.C(h:dC)(H:dw)(R:Int->dw->Prop):Prop:=Ex.Fn Tryz.prog 240 #[.pointer h] H λv H'=>∃u:Int,v=.int .i64 u/\R u H'
def kx.C(h:dC)(u:Int)(H:dw)(R:Int->Int->dw->Prop):Prop:=Ex.Fn Tryz.prog 241 #[.pointer h,.int .i64 u] H λv H'=>∃w:Int,∃I:Int,v=.tuple #[.int .u64 w,.int .i64 I]/\R w I H'
def Aq.C(h:Int)(H:dw)(R:Bool->dw->Prop):Prop:=Ex.Fn Tryz.prog 250 #[.int .i32 h] H λv H'=>∃u:Bool,v=.bool u/\R u H'
def ko.C(aa:dE)(Z:Int)(H:dw)(R:Int->dE->dE->dC->Nat->Nat->Bool->Int->Bool->dw->Prop):Prop:=Ex.Fn Tryz.prog 258 #[.string aa,.int .i64 Z] H λv H'=>∃I:Int,∃N:dE,∃O:dE,∃(h:dC)(u w:Nat),∃Y:Bool,∃r1:Int,∃r2:Bool,v=.tuple #[.agg #[.int .i64 I,.string N,.string O,.slice h u w,.bool Y],.int .i64 r1,.bool r2]/\R I N O h u w Y r1 r2 H'
def pd.C(aa:dE)(Z:Int)(H:dw)(R:Int->dE->dE->dC->Nat->Nat->Bool->Int->Bool->dw->Prop):Prop:=Ex.Fn Tryz.prog 260 #[.string aa,.int .i64 Z] H λv H'=>∃I:Int,∃N:dE,∃O:dE,∃(h:dC)(u w:Nat),∃Y:Bool,∃r1:Int,∃r2:Bool,v=.tuple #[.agg #[.int .i64 I,.string N,.string O,.slice h u w,.bool Y],.int .i64 r1,.bool r2]/\R I N O h u w Y r1 r2 H'
def nG.C(aa:dE)(Z:Int)(H:dw)(R:Int->dE->dE->dC->Nat->Nat->Bool->Int->Bool->dw->Prop):Prop:=Ex.Fn Tryz.prog 261 #[.string aa,.int .i64 Z] H λv H'=>∃I:Int,∃N:dE,∃O:dE,∃(h:dC)(u w:Nat),∃Y:Bool,∃r1:Int,∃r2:Bool,v=.tuple #[.agg #[.int .i64 I,.string N,.string O,.slice h u w,.bool Y],.int .i64 r1,.bool r2]/\R I N O h u w Y r1 r2 H'
def lV.C(aa:dE)(Z:Int)(H:dw)(R:Int->dE->dE->dC->Nat->Nat->Bool->Int->Bool->dw->Prop):Prop:=Ex.Fn Tryz.prog 262 #[.string aa,.int .i64 Z] H λv H'=>∃I:Int,∃N:dE,∃O:dE,∃(h:dC)(u w:Nat),∃Y:Bool,∃r1:Int,∃r2:Bool,v=.tuple #[.agg #[.int .i64 I,.string N,.string O,.slice h u w,.bool Y],.int .i64 r1,.bool r2]/\R I N O h u w Y r1 r2 H'
def lK.C(aa:dE)(Z:Int)(H:dw)(R:Int->dE->dE->dC->Nat->Nat->Bool->Int->Bool->dw->Prop):Prop:=Ex.Fn Tryz.prog 263 #[.string aa,.int .i64 Z] H λv H'=>∃I:Int,∃N:dE,∃O:dE,∃(h:dC)(u w:Nat),∃Y:Bool,∃r1:Int,∃r2:Bool,v=.tuple #[.agg #[.int .i64 I,.string N,.string O,.slice h u w,.bool Y],.int .i64 r1,.bool r2]/\R I N O h u w Y r1 r2 H'
def lW.C(aa:dE)(Z:Int)(H:dw)(R:Int->dE->dE->dC->Nat->Nat->Bool->Int->Bool->dw->Prop):Prop:=Ex.Fn Tryz.prog 264 #[.string aa,.int .i64 Z] H λv H'=>∃I:Int,∃N:dE,∃O:dE,∃(h:dC)(u w:Nat),∃Y:Bool,∃r1:Int,∃r2:Bool,v=.tuple #[.agg #[.int .i64 I,.string N,.string O,.slice h u w,.bool Y],.int .i64 r1,.bool r2]/\R I N O h u w Y r1 r2 H'
def iw.C(h:dC)(H:dw)(R:Int->dw->Prop):Prop:=Ex.Fn Tryz.prog 265 #[.pointer h] H λv H'=>∃u:Int,v=.int .i64 u/\R u H'
def gS.C(h:dC)(H:dw)(R:dw->Prop):Prop:=Ex.Fn Tryz.prog 266 #[.pointer h] H λv H'=>v=.tuple #[]/\R H'
def mF.C(I:Int)(N:dE)(O:dE)(h:dC)(u w:Nat)(Y:Bool)(H:dw)(R:Bool->dw->Prop):Prop:=Ex.Fn Tryz.prog 267 #[.agg #[.int .i64 I,.string N,.string O,.slice h u w,.bool Y]] H λv H'=>∃Z:Bool,v=.bool Z/\R Z H'
def kV.C(ae:Int)(af:dE)(ag:dE)(h:dC)(u w:Nat)(ah:Bool)(ai:dE)(I:dC)(N O:Nat)(Y:dC)(Z aa:Nat)(ao:dC)(aj:Int)(ak:Int)(am:Int)(an:Int)(H:dw)(R:dC->Nat->Nat->Int->dw->Prop):Prop:=Ex.Fn Tryz.prog 268 #[.agg #[.int .i64 ae,.string af,.string ag,.slice h u w,.bool ah],.agg #[.string ai,.slice I N O,.slice Y Z aa],.pointer ao,.agg #[.int .i64 aj,.int .i64 ak,.int .i64 am,.int .i64 an]] H λv H'=>∃(ab:dC)(ac ad:Nat),∃r1:Int,v=.tuple #[.slice ab ac ad,.int .i64 r1]/\R ab ac ad r1 H'
def jd.C(w:dC)(u:dE)(h:Int)(H:dw)(R:Int->dw->Prop):Prop:=Ex.Fn Tryz.prog 269 #[.pointer w,.string u,.int .i64 h] H λv H'=>∃I:Int,v=.int .i64 I/\R I H'
def sx.C(h:dE)(H:dw)(R:Bool->dw->Prop):Prop:=Ex.Fn Tryz.prog 271 #[.string h] H λv H'=>∃u:Bool,v=.bool u/\R u H'
def ku.C(h:dC)(H:dw)(R:Int->dw->Prop):Prop:=Ex.Fn Tryz.prog 302 #[.pointer h] H λv H'=>∃u:Int,v=.int .i64 u/\R u H'
def vg.C(h:dE)(H:dw)(R:Int->Bool->dw->Prop):Prop:=Ex.Fn Tryz.prog 312 #[.string h] H λv H'=>∃u:Int,∃w:Bool,v=.tuple #[.int .i32 u,.bool w]/\R u w H'
def mN.C(h:dC)(u w:Nat)(I:dB)(H:dw)(R:Int->dw->Prop):Prop:=Ex.Fn Tryz.prog 318 #[.slice h u w,I] H λv H'=>∃N:Int,v=.int .i64 N/\R N H'
def kE.C(w:dE)(u:Int)(h:dE)(H:dw)(R:dE->Int->Bool->dw->Prop):Prop:=Ex.Fn Tryz.prog 319 #[.string w,.int .i64 u,.string h] H λv H'=>∃I:dE,∃N:Int,∃O:Bool,v=.tuple #[.string I,.int .i64 N,.bool O]/\R I N O H'
def mD.C(I:dE)(w:Int)(H:dw)(R:dE->dE->Int->Bool->dw->Prop):Prop:=Ex.Fn Tryz.prog 320 #[.string I,.int .i64 w] H λv H'=>∃h:dE,∃u:dE,∃N:Int,∃O:Bool,v=.tuple #[.agg #[.string h,.string u],.int .i64 N,.bool O]/\R h u N O H'
def strings_IndexAny.C(u:dE)(h:dE)(H:dw)(R:Int->dw->Prop):Prop:=Ex.Fn Tryz.prog 321 #[.string u,.string h] H λv H'=>∃w:Int,v=.int .i64 w/\R w H'
def zW.C(I:dC)(w:dE)(h:Int)(u:Int)(H:dw)(R:dE->Int->dw->Prop):Prop:=Ex.Fn Tryz.prog 322 #[.pointer I,.string w,.int .i64 h,.int .i64 u] H λv H'=>∃N:dE,∃O:Int,v=.tuple #[.string N,.int .i64 O]/\R N O H'
def kp.C(aa:dE)(h:dC)(u w:Nat)(I:dC)(N O:Nat)(Y:dE)(Z:dE)(H:dw)(R:Int->dw->Prop):Prop:=Ex.Fn Tryz.prog 323 #[.agg #[.string aa,.slice h u w,.slice I N O],.string Y,.string Z] H λv H'=>∃r0:Int,v=.int .i64 r0/\R r0 H'
def Cb.C(h:dE)(H:dw)(R:dE->Bool->dw->Prop):Prop:=Ex.Fn Tryz.prog 327 #[.string h] H λv H'=>∃u:dE,∃w:Bool,v=.tuple #[.string u,.bool w]/\R u w H'
end Go.Proofs.fv
