/- Part AP of the proof that the law TopAround answers true at every input, under no condition. -/
import Derived.Test.YtmdbfgemefalmaaGreatDoorQAO
import Derived.KernelRfl
set_option linter.unusedVariables false
set_option maxHeartbeats 2000000
set_option maxRecDepth 100000
namespace Go.Proofs.fv
open Go.Ex
def jW.W(ai:dE)(R:dC->Nat->Nat->dw->Prop)(H0:dw):Prop:=
 eA (λaj=>
 fP (λL2 q2 Z=>(λ(Y:dE)(w:dC)(I N:Nat)=>
 eL (decide (Y≠dM)) (eG (eP Z #[.string dM,.string dM,.string dM] kQ) λH3:dw=>
 eA (λak=>
 fP (λL5 q5 H5=>(λ(Y:dE)(O:Int)=>
 eL (decide (O<3)) (strings_Cut.C Y rG H5 λad h av H6=>
 oF.C ad H6 λae aw H7=>
 eG (min (max ae 0) (h.size:Int)) λu:Int=>0<=u/\u<=(h.size:Int)/\0<=u/\u<=(h.size:Int)/\0<=O/\O<((3:Nat):Int)/\j0 (.string (h.extract 0 u.toNat)) ((⟨Array.size Z,0,none⟩:dA).add (jy O.toNat 1)) H7 λH8=>L5 (h.extract u.toNat h.size,(IntKind.i64.wrap (O+1):Int),()) H8) (ak (Y,()) H5)) q5.1 q5.2.1) (Y,(0:Int),()) H3)
 (λao H4=>(λ(Y:dE)=>0<=(0:Int)/\(0:Int)<((3:Nat):Int)/\fh H4 ((⟨Array.size Z,0,none⟩:dA).add (jy (0:Int).toNat 1)) λap=>0<=(1:Int)/\(1:Int)<((3:Nat):Int)/\fh H4 ((⟨Array.size Z,0,none⟩:dA).add (jy (1:Int).toNat 1)) λaq=>0<=(2:Int)/\(2:Int)<((3:Nat):Int)/\fh H4 ((⟨Array.size Z,0,none⟩:dA).add (jy (2:Int).toNat 1)) λar=>
 eG (eP H4 #[.string ap,.string aq,.string dM,.string ar] eF) λH9:dw=>ji eF 4 64 (.agg #[.string dM,.string dM,.string dM,.string dM]) w I N (.slice (some ⟨Array.size H4,0,none⟩) 1 1) H9 λaf ag ah au=>L2 (Y,(af,ag,ah),()) au) ao.1)) (aj ((w,I,N),()) Z)) q2.1 q2.2.1.1 q2.2.1.2.1 q2.2.1.2.2) (ai,(none,0,0),()) H0)
 (λab H1=>(λ(w:dC)(I N:Nat)=>R w I N H1) ab.1.1 ab.1.2.1 ab.1.2.2)
theorem jW.calls{u}{R}{w}(h:jW.W u R w):jW.C u w R:=
 (mT (aN [(10,.ord (List.range 10))] [(2,[(0,.one .str),(3,.one .slice)]),(5,[(0,.one .str),(13,.one (.int .i64))])] [(12,[(0,.one .str)]),(13,[(3,.one .slice)])] []) (R:=λv H'=>xS (.one .slice) v λr=>R r.1 r.2.1 r.2.2 H') Tryz.func99 (eM (by kernel_rfl) h)).mono λv H' h=>by obtain⟨x,I,N⟩:=nS h;exact⟨x.1,x.2.1,x.2.2,I,N⟩
def jj.W(Y:dC)(ab:dC)(O a5:Nat)(R:Int->dw->Prop)(H0:dw):Prop:=
 eL (Option.isNone Y) False (
 eA (λaP=>
 fP (λL5 q5 I=>(λ(h:dC)(u w:Nat)(N:Int)=>
 eL (decide (N<(O:Int))) (
 eA (λaG=>
 ∃aH:dA,ab=some aH/\0<=N/\N<(O:Int)/\kg I (aH.add (N.toNat*4)) λad ae af ag=>
 eG (eP I #[.string dM,.string dM,.string dM,.string dM] eF) λH4:dw=>lj [.string ad,.string ae,.string af,.string ag] (eV I) 0 H4 λH5=>kg H5 (eV I) λah ai aj ak=>
 nY.C ah ai aj ak H5 λa6 am H6=>
 eL (!am) (aG ((h,u,w),()) H6) (
 eA (λaR=>
 eA (λaI=>kg H6 (eV I) λan ao ap aq=>
 yJ.C an ao ap aq H6 λaS H9=>
 eL aS (aI (true,()) H9) (kl.C h u w (.func (.func 184) #[] #[.pointer (some (eV I))]) H9 λaU aV=>aI (aU,()) aV))
 (λaW H8=>(λ(aX:Bool)=>
 eL aX False (aR () H8)) aW.1))
 (λ_ H7=>kg H7 (eV I) λar au av aw=>
 eG (eP H7 #[.string ar,.string au,.string av,.string aw] eF) λaY:dw=>ji eF 4 64 (.agg #[.string dM,.string dM,.string dM,.string dM]) h u w (.slice (some (eV H7)) 1 1) aY λax ay az aZ=>aG ((ax,ay,az),()) aZ)))
 (λZ H3=>(λ(h:dC)(u w:Nat)=>L5 ((h,u,w),(IntKind.i64.wrap (N+1):Int),()) H3) Z.1.1 Z.1.2.1 Z.1.2.2)) (aP ((h,u,w),()) I)) q5.1.1 q5.1.2.1 q5.1.2.2 q5.2.1) ((none,0,0),(0:Int),()) H0)
 (λaa H1=>(λ(h:dC)(u w:Nat)=>
 ∃aJ:dA,Y=some aJ/\fU H1 (aJ.add 0) λaA aB aC=>
 eG (eP H1 #[.iface iW (.slice h u w)] nw) λa0:dw=>ji nw 1 16 (.nilIface) aA aB aC (.slice (some (eV H1)) 1 1) a0 λaD aE aF a3=>
 ∃aK:dA,Y=some aK/\j0 (.slice aD aE aF) (aK.add 0) a3 λa4=>R 0 a4) aa.1.1 aa.1.2.1 aa.1.2.2))
theorem jj.calls{N}{u}{w I}{R}{O}(h:jj.W N u w I R O):jj.C N u w I O R:=
 m1 (.one (.int .i64)) (aN [] [(5,[(5,.one .slice),(14,.one (.int .i64))])] [(10,[(31,.one .bool)]),(11,[]),(12,[(5,.one .slice)]),(13,[(5,.one .slice)])] [2,10]) Tryz.func100 (eM (by kernel_rfl) h)
def jc.W(N:dC)(h:dE)(R:dE->Bool->dw->Prop)(H0:dw):Prop:=
 eL (Option.isNone N) False (
 eA (λao=>
 ∃aj:dA,N=some aj/\fU H0 (aj.add 0) λaw Y ax=>
 eG (IntKind.i64.wrap ((Y:Int)-1)) λO:Int=>
 fP (λL4 q4 H2=>(λ(O:Int)=>
 eL (decide ((0:Int)<=O)) (
 eA (λJ5=>
 iQ.C N O H2 λZ w ay H4=>
 fP (λL7 q7 I=>(λ(u:Int)=>
 eL (decide (u<(w:Int))) (∃ak:dA,Z=some ak/\0<=u/\u<(w:Int)/\kg I (ak.add (u.toNat*4)) λaa ab ac ad=>
 eG (eP I #[.string dM,.string dM,.string dM,.string dM] eF) λH6:dw=>lj [.string aa,.string ab,.string ac,.string ad] (eV I) 0 H6 λH7=>kg H7 (eV I) λae af ag ah=>
 nY.C ae af ag ah H7 λai az H8=>
 eL (decide (ai=h)) (fh H8 (((eV I):dA).add 3) λar=>R ar true H8) (L7 ((IntKind.i64.wrap (u+1):Int),()) H8)) (J5 () I)) q7.1) ((0:Int),()) H4)
 (λ_ H3=>
 eG (IntKind.i64.wrap (O-1)) λau:Int=>L4 ((au:Int),()) H3)) (ao () H2)) q4.1) ((O:Int),()) H0)
 (λ_ H1=>
 eL (decide (h=tG)) (R pD true H1) (R dM (decide (h=dM)) H1)))
theorem jc.calls{w}{u}{R}{I}(h:jc.W w u R I):jc.C w u I R:=
 (mT (aN [] [(4,[(6,.one (.int .i64))]),(7,[(27,.one (.int .i64))])] [(5,[]),(13,[])] [2]) (R:=λv H'=>xT [.one .str,.one .bool] v λr=>R r.1 r.2.1 H') Tryz.func101 (eM (by kernel_rfl) h)).mono λv H' h=>by obtain⟨x,N,O⟩:=gI h;exact⟨x.1,x.2.1,N,O⟩
def mB.W(ag:dC)(I ah:Nat)(R:Bool->dw->Prop)(H0:dw):Prop:=
 0<=(I:Int)/\(I:Int)<=(ah:Int)/\0<=(I:Int)/\(I:Int)<=((I:Int).toNat:Int)/\
 eA (λav=>
 fP (λL2 q2 H2=>(λ(h:dC)(w u:Nat)=>
 eL (decide ((0:Int)<(w:Int))) (∃am:dA,h=some am/\0<=(0:Int)/\(0:Int)<(w:Int)/\vP H2 (am.add ((0:Int).toNat)) λO=>
 eA (λaw=>
 eL (decide (O<128)) (0<=(1:Int)/\(1:Int)<=(w:Int)/\
 eA (λJ7=>
 eL (decide ((8:Int)<(((w-((1:Int).toNat):Nat):Int)))) (gK.C ((if u=(1:Int).toNat then h else Option.map (λq:dA=>q.add ((1:Int).toNat)) h)) ((w-((1:Int).toNat):Nat)) ((u-((1:Int).toNat):Nat)) H2 λay H5=>J7 (decide ((lx .u64 ay 9259542123273814144)=0),()) H5) (J7 (false,()) H2))
 (λs7 H4=>(λ(az:Bool)=>
 eL az (0<=(8:Int)/\(8:Int)<=((w-((1:Int).toNat):Nat):Int)/\
 eA (λJ9=>
 eL (decide ((16:Int)<(((((w-((1:Int).toNat):Nat))-((8:Int).toNat):Nat):Int)))) (0<=(8:Int)/\(8:Int)<=((((w-((1:Int).toNat):Nat))-((8:Int).toNat):Nat):Int)/\gK.C ((if(u-((1:Int).toNat):Nat)=(8:Int).toNat then(if u=(1:Int).toNat then h else Option.map (λq:dA=>q.add ((1:Int).toNat)) h) else Option.map (λq:dA=>q.add ((8:Int).toNat)) ((if u=(1:Int).toNat then h else Option.map (λq:dA=>q.add ((1:Int).toNat)) h)))) ((((w-((1:Int).toNat):Nat))-((8:Int).toNat):Nat)) ((((u-((1:Int).toNat):Nat))-((8:Int).toNat):Nat)) H4 λaB H7=>
 gK.C ((if(((u-((1:Int).toNat):Nat))-((8:Int).toNat):Nat)=(8:Int).toNat then(if(u-((1:Int).toNat):Nat)=(8:Int).toNat then(if u=(1:Int).toNat then h else Option.map (λq:dA=>q.add ((1:Int).toNat)) h) else Option.map (λq:dA=>q.add ((8:Int).toNat)) ((if u=(1:Int).toNat then h else Option.map (λq:dA=>q.add ((1:Int).toNat)) h))) else Option.map (λq:dA=>q.add ((8:Int).toNat)) ((if(u-((1:Int).toNat):Nat)=(8:Int).toNat then(if u=(1:Int).toNat then h else Option.map (λq:dA=>q.add ((1:Int).toNat)) h) else Option.map (λq:dA=>q.add ((8:Int).toNat)) ((if u=(1:Int).toNat then h else Option.map (λq:dA=>q.add ((1:Int).toNat)) h)))))) ((((((w-((1:Int).toNat):Nat))-((8:Int).toNat):Nat))-((8:Int).toNat):Nat)) ((((((u-((1:Int).toNat):Nat))-((8:Int).toNat):Nat))-((8:Int).toNat):Nat)) H7 λaC H8=>J9 (decide ((lx .u64 (uI .u64 aB aC) 9259542123273814144)=0),()) H8) (J9 (false,()) H4))
 (λs9 H6=>(λ(aE:Bool)=>
 eL aE (0<=(16:Int)/\(16:Int)<=((((w-((1:Int).toNat):Nat))-((8:Int).toNat):Nat):Int)/\
 fP (λaF ac H9=>(λ(h:dC)(w u:Nat)=>
 eA (λaH=>
 eL (decide ((32:Int)<(w:Int))) (0<=(8:Int)/\(8:Int)<=(w:Int)/\0<=(16:Int)/\(16:Int)<=(w:Int)/\0<=(24:Int)/\(24:Int)<=(w:Int)/\gK.C h w u H9 λaI aJ=>
 gK.C ((if u=(8:Int).toNat then h else Option.map (λq:dA=>q.add ((8:Int).toNat)) h)) ((w-((8:Int).toNat):Nat)) ((u-((8:Int).toNat):Nat)) aJ λaK aL=>
 gK.C ((if u=(16:Int).toNat then h else Option.map (λq:dA=>q.add ((16:Int).toNat)) h)) ((w-((16:Int).toNat):Nat)) ((u-((16:Int).toNat):Nat)) aL λaM aO=>
 gK.C ((if u=(24:Int).toNat then h else Option.map (λq:dA=>q.add ((24:Int).toNat)) h)) ((w-((24:Int).toNat):Nat)) ((u-((24:Int).toNat):Nat)) aO λaP an=>
 eL (decide ((lx .u64 (uI .u64 (uI .u64 aI aK) (uI .u64 aM aP)) 9259542123273814144)=0)) (aH () an) (L2 ((h,w,u),()) an)) (L2 ((h,w,u),()) H9))
 (λ_ aQ=>0<=(32:Int)/\(32:Int)<=(w:Int)/\aF (((if u=(32:Int).toNat then h else Option.map (λq:dA=>q.add ((32:Int).toNat)) h),(w-((32:Int).toNat):Nat),(u-((32:Int).toNat):Nat)),()) aQ)) ac.1.1 ac.1.2.1 ac.1.2.2) (((if(((u-((1:Int).toNat):Nat))-((8:Int).toNat):Nat)=(16:Int).toNat then(if(u-((1:Int).toNat):Nat)=(8:Int).toNat then(if u=(1:Int).toNat then h else Option.map (λq:dA=>q.add ((1:Int).toNat)) h) else Option.map (λq:dA=>q.add ((8:Int).toNat)) ((if u=(1:Int).toNat then h else Option.map (λq:dA=>q.add ((1:Int).toNat)) h))) else Option.map (λq:dA=>q.add ((16:Int).toNat)) ((if(u-((1:Int).toNat):Nat)=(8:Int).toNat then(if u=(1:Int).toNat then h else Option.map (λq:dA=>q.add ((1:Int).toNat)) h) else Option.map (λq:dA=>q.add ((8:Int).toNat)) ((if u=(1:Int).toNat then h else Option.map (λq:dA=>q.add ((1:Int).toNat)) h))))),(((((w-((1:Int).toNat):Nat))-((8:Int).toNat):Nat))-((16:Int).toNat):Nat),(((((u-((1:Int).toNat):Nat))-((8:Int).toNat):Nat))-((16:Int).toNat):Nat)),()) H6) (L2 (((if(u-((1:Int).toNat):Nat)=(8:Int).toNat then(if u=(1:Int).toNat then h else Option.map (λq:dA=>q.add ((1:Int).toNat)) h) else Option.map (λq:dA=>q.add ((8:Int).toNat)) ((if u=(1:Int).toNat then h else Option.map (λq:dA=>q.add ((1:Int).toNat)) h))),(((w-((1:Int).toNat):Nat))-((8:Int).toNat):Nat),(((u-((1:Int).toNat):Nat))-((8:Int).toNat):Nat)),()) H6)) s9.1)) (L2 (((if u=(1:Int).toNat then h else Option.map (λq:dA=>q.add ((1:Int).toNat)) h),(w-((1:Int).toNat):Nat),(u-((1:Int).toNat):Nat)),()) H4)) s7.1)) (aw ((h,w,u),()) H2))
 (λad Z=>(λ(h:dC)(w u:Nat)=>0<=O/\O<((256:Nat):Int)/\vP Z ((⟨ru,0,none⟩:dA).add (jy O.toNat 1)) λY=>
 eG (IntKind.i64.wrap (lx .u8 Y 7)) λai:Int=>0<=(4:Int)/\0<=mu .u8 Y 4/\mu .u8 Y 4<((16:Nat):Int)/\Vy Z ((⟨jV,0,none⟩:dA).add (jy (mu .u8 Y 4).toNat 2)) λaj ak=>
 eG (eP Z #[.int .u8 0,.int .u8 0] pF) λaR:dw=>lj [.int .u8 aj,.int .u8 ak] (eV Z) 0 aR λN=>
 eL (decide (ai=2)) (
 eA (λaS=>
 eA (λae=>
 eL (decide ((w:Int)<2)) (ae (true,()) N) (∃ao:dA,h=some ao/\0<=(1:Int)/\(1:Int)<(w:Int)/\vP N (ao.add ((1:Int).toNat)) λaT=>vP N (((eV Z):dA).add 0) λaU=>
 eL (decide (aT<aU)) (ae (true,()) N) (vP N (((eV Z):dA).add 1) λaV=>
 ∃af:dA,h=some af/\0<=(1:Int)/\(1:Int)<(w:Int)/\vP N (af.add ((1:Int).toNat)) λar=>ae (decide (aV<ar),()) N)))
 (λaW aX=>(λ(au:Bool)=>
 eL au False (aS () aX)) aW.1))
 (λ_ aY=>0<=(2:Int)/\(2:Int)<=(w:Int)/\L2 (((if u=(2:Int).toNat then h else Option.map (λq:dA=>q.add ((2:Int).toNat)) h),(w-((2:Int).toNat):Nat),(u-((2:Int).toNat):Nat)),()) aY)) False) ad.1.1 ad.1.2.1 ad.1.2.2)) (av () H2)) q2.1.1 q2.1.2.1 q2.1.2.2) ((ag,(I:Int).toNat,(I:Int).toNat),()) H0)
 (λ_ H1=>R true H1)
theorem mB.calls{u}{w I}{R}{N}(h:mB.W u w I R N):mB.C u w I N R:=
 m1 (.one .bool) (aN [(8,.ord [0,1,2,3,4,6,7,5,8,9,10,11,12]),(10,.ord [0,1,2,3,4,6,7,10,11,13,14,5,8,9,12,15,16,17,18,19,20]),(18,.ord (List.range 19))] [(2,[(0,.one .slice)]),(10,[(0,.one .slice)])] [(7,[(31,.one .bool)]),(9,[(46,.one .bool)]),(11,[]),(12,[(0,.one .slice)]),(19,[(103,.one .bool)]),(20,[]),(29,[])] [19,21]) Tryz.func104 (eM (by kernel_rfl) h)
def fy.W(h:dC)(u:dE)(R:Bool->dw->Prop)(w:dw):Prop:=
 eA (λJ3=>
 eA (λJ2=>
 ∃x6:dA,h=some x6/\sF w (x6.add 2) λx8=>
 eL x8 (J2 (true,()) w) (∃O:dA,h=some O/\fh w (O.add 0) λI=>
 ∃Y:dA,h=some Y/\gf w (Y.add 1) λN=>0<=N/\N<=(I.size:Int)/\strings_HasPrefix.C (I.extract N.toNat I.size) u w λad H3=>J2 (!ad,()) H3))
 (λs2 H2=>(λ(af:Bool)=>
 eL af (R false H2) (J3 () H2)) s2.1))
 (λ_ H1=>
 ∃Z:dA,h=some Z/\gf H1 (Z.add 1) λah=>
 ∃aa:dA,h=some aa/\j0 (.int .i64 (IntKind.i64.wrap (ah+(u.size:Int)))) (aa.add 1) H1 λH4=>R true H4)
theorem fy.calls{w}{u}{R}{I}(h:fy.W w u R I):fy.C w u I R:=
 m1 (.one .bool) (aN [(1,.ord (List.range 18))] [] [(2,[(22,.one .bool)]),(3,[])] []) Tryz.func106 (eM (by kernel_rfl) h)
def ft.W(h:dC)(R:Bool->dw->Prop)(u:dw):Prop:=
 ∃Y:dA,h=some Y/\gf u (Y.add 1) λx7=>
 eA (λZ=>
 ∃x9:dA,h=some x9/\sF u (x9.add 2) λab=>
 eL (!ab) (∃w:dA,h=some w/\fh u (w.add 0) λac=>
 ∃I:dA,h=some I/\gf u (I.add 1) λad=>
 gy.C ac ad u λae H2=>
 ∃N:dA,h=some N/\j0 (.int .i64 ae) (N.add 1) H2 λH3=>Z () H3) (Z () u))
 (λ_ H1=>
 ∃O:dA,h=some O/\gf H1 (O.add 1) λag=>R (decide (x7<ag)) H1)
theorem ft.calls{u}{R}{w}(h:ft.W u R w):ft.C u w R:=
 m1 (.one .bool) (aN [(3,.ord (List.range 13))] [] [(4,[])] []) Tryz.func107 (eM (by kernel_rfl) h)
def iq.W(u:dC)(h:dE)(R:dw->Prop)(w:dw):Prop:=
 fy.C u h w λI N=>
 eL (!I) False (R N)
theorem iq.calls{w}{u}{R}{I}(h:iq.W w u R I):iq.C w u I R:=
 (mT (aN [] [] [] [1]) (R:=λv H'=>xT [] v λ_=>R H') Tryz.func108 (eM (by kernel_rfl) h)).mono λv H' h=>by obtain⟨x,N,O⟩:=gI h;exact⟨N,O⟩
def jz.W(h:dC)(R:dw->Prop)(u:dw):Prop:=
 ft.C h u λO w=>
 iq.C h Q8 w λI=>
 ft.C h I λY N=>R N
theorem jz.calls{u}{R}{w}(h:jz.W u R w):jz.C u w R:=
 (mT (aN [] [] [] []) (R:=λv H'=>xT [] v λ_=>R H') Tryz.func109 (eM (by kernel_rfl) h)).mono λv H' h=>by obtain⟨x,I,N⟩:=gI h;exact⟨I,N⟩
def gq.W(h:dC)(R:dE->dw->Prop)(H0:dw):Prop:=
 ∃x8:dA,h=some x8/\fh H0 (x8.add 0) λaf=>
 ∃O:dA,h=some O/\gf H0 (O.add 1) λag=>
 kX.C af ag H0 λw I N H1=>
 eA (λJ5=>
 eA (λJ3=>
 ∃Y:dA,h=some Y/\sF H1 (Y.add 2) λaj=>
 eL aj (∃u:dA,h=some u/\j0 (.bool true) (u.add 2) H1 λH4=>J3 () H4) (∃u:dA,h=some u/\j0 (.bool (!N)) (u.add 2) H1 λH5=>J3 () H5))
 (λ_ H3=>
 ∃Z:dA,h=some Z/\sF H3 (Z.add 2) λak=>
 eL (!ak) (∃aa:dA,h=some aa/\j0 (.int .i64 I) (aa.add 1) H3 λH6=>J5 () H6) (J5 () H3)))
 (λ_ H2=>R w H2)
theorem gq.calls{u}{R}{w}(h:gq.W u R w):gq.C u w R:=
 m1 (.one .str) (aN [(1,.ord (List.range 16))] [] [(3,[]),(5,[])] []) Tryz.func110 (eM (by kernel_rfl) h)
def jf.W(h:dC)(R:dw->Prop)(u:dw):Prop:=
 ft.C h u λw I=>
 eL (!w) False (R I)
theorem jf.calls{u}{R}{w}(h:jf.W u R w):jf.C u w R:=
 (mT (aN [] [] [] [1]) (R:=λv H'=>xT [] v λ_=>R H') Tryz.func115 (eM (by kernel_rfl) h)).mono λv H' h=>by obtain⟨x,I,N⟩:=gI h;exact⟨I,N⟩
def jn.W(h:dC)(R:dE->dw->Prop)(N:dw):Prop:=
 ∃x8:dA,h=some x8/\gf N (x8.add 1) λI=>
 eA (λJ4=>
 ∃Z:dA,h=some Z/\sF N (Z.add 2) λai=>
 eL (!ai) (∃aa:dA,h=some aa/\fh N (aa.add 0) λaj=>
 ∃ab:dA,h=some ab/\gf N (ab.add 1) λak=>
 j7.C aj ak N λam H2=>
 ∃ac:dA,h=some ac/\j0 (.int .i64 am) (ac.add 1) H2 λH3=>J4 () H3) (J4 () N))
 (λ_ O=>
 ∃ad:dA,h=some ad/\fh O (ad.add 0) λY=>
 ∃ae:dA,h=some ae/\gf O (ae.add 1) λu=>0<=u/\u<=(Y.size:Int)/\0<=I/\I<=(u.toNat:Int)/\
 eA (λJ6=>
 ∃af:dA,h=some af/\sF O (af.add 2) λao=>
 eL ao (∃w:dA,h=some w/\j0 (.bool true) (w.add 2) O λH5=>J6 () H5) (Bd.C (Y.extract I.toNat u.toNat) O λap H6=>
 ∃w:dA,h=some w/\j0 (.bool (!ap)) (w.add 2) H6 λH7=>J6 () H7))
 (λ_ H4=>R (Y.extract I.toNat u.toNat) H4))
theorem jn.calls{u}{R}{w}(h:jn.W u R w):jn.C u w R:=
 m1 (.one .str) (aN [(3,.ord (List.range 13)),(4,.ord (List.range 11))] [] [(4,[]),(6,[])] []) Tryz.func116 (eM (by kernel_rfl) h)
def hY.W(h:dC)(R:Bool->dw->Prop)(w:dw):Prop:=
 eA (λu=>
 fy.C h (⟨#[83,89,83,84,69,77]⟩:dE) w λI N=>
 eL I (jf.C h N λO=>
 gq.C h O λx9 Y=>u () Y) False)
 (λ_ Z=>R true Z)
theorem hY.calls{u}{R}{w}(h:hY.W u R w):hY.C u w R:=
 m1 (.one .bool) (aN [] [] [(10,[])] [5]) Tryz.func118 (eM (by kernel_rfl) h)
def iD.W(h:dC)(R:dw->Prop)(H0:dw):Prop:=
 fP (λw _ u=>
 ∃I:dA,h=some I/\sF u (I.add 2) λx5=>
 eL (!x5) (ft.C h u λx8 H2=>
 fy.C h (⟨#[93]⟩:dE) H2 λN O=>
 eL N (R O) (fy.C h (⟨#[60,33,69,78,84,73,84,89]⟩:dE) O λY H4=>
 eL Y False (fy.C h (⟨#[60,33,65,84,84,76,73,83,84]⟩:dE) H4 λZ H5=>
 eL Z False (
 eA (λJ9=>
 fy.C h (⟨#[60,33,69,76,69,77,69,78,84]⟩:dE) H5 λab H7=>
 eL ab (J9 (true,()) H7) (fy.C h (⟨#[60,33,78,79,84,65,84,73,79,78]⟩:dE) H7 λad H8=>J9 (ad,()) H8))
 (λs9 H6=>(λ(af:Bool)=>
 eL af (jo.C h H6 λH9=>w () H9) (iS.C h H6 λag=>w () ag)) s9.1))))) (R u)) () H0
theorem iD.calls{u}{R}{w}(h:iD.W u R w):iD.C u w R:=
 (mT (aN [] [(0,[])] [(9,[(24,.one .bool)])] [5,7]) (R:=λv H'=>xT [] v λ_=>R H') Tryz.func119 (eM (by kernel_rfl) h)).mono λv H' h=>by obtain⟨x,I,N⟩:=gI h;exact⟨I,N⟩
def j8.W(ad:dE)(h:Int)(R:Int->dE->dE->dC->Nat->Nat->Bool->Int->Int->dw->Prop)(H0:dw):Prop:=
 eG (eP H0 #[.int .i64 0,.string dM,.string dM,.slice none 0 0,.bool false] eX) λH1:dw=>
 eA (λJ5=>
 eA (λJ2=>
 eL (decide (h<0)) (J2 (true,()) H1) (J2 (decide ((ad.size:Int)<h),()) H1))
 (λs2 H3=>(λ(au:Bool)=>
 eL au False (eL (decide (h=(ad.size:Int))) False (J5 () H3))) s2.1))
 (λ_ H2=>
 nE.C ad h H2 λN O Y u w I Z ae af H4=>
 eG (eP H4 #[.int .i64 0,.string dM,.string dM,.slice none 0 0,.bool false] eX) λH5:dw=>lj [.int .i64 N,.string O,.string Y,.slice u w I,.bool Z] (eV H4) 0 H5 λH6=>
 eL (!af) False (fq H6 (eV H4) λag ah ai aa ab ac aj=>lj [.int .i64 ag,.string ah,.string ai,.slice aa ab ac,.bool aj] (eV H0) 0 H6 λH7=>fq H7 (eV H0) λax ay az ak am an aA=>R ax ay az ak am an aA ae 0 H7))
theorem j8.calls{w}{u}{R}{I}(h:j8.W w u R I):j8.C w u I R:=
 (mT (aN [] [] [(2,[(10,.one .bool)]),(5,[])] [2,4,7]) (R:=λv H'=>xT [.agg [.int .i64,.str,.str,.slice,.bool],.one (.int .i64),.one (.int .i64)] v λr=>R r.1.1 r.1.2.1 r.1.2.2.1 r.1.2.2.2.1.1 r.1.2.2.2.1.2.1 r.1.2.2.2.1.2.2 r.1.2.2.2.2.1 r.2.1 r.2.2.1 H') Tryz.func120 (eM (by kernel_rfl) h)).mono λv H' h=>by obtain⟨x,N,O⟩:=gI h;exact⟨x.1.1,x.1.2.1,x.1.2.2.1,x.1.2.2.2.1.1,x.1.2.2.2.1.2.1,x.1.2.2.2.1.2.2,x.1.2.2.2.2.1,x.2.1,x.2.2.1,N,O⟩
def hO.W(ae:dC)(aj:Int)(ak:dE)(am:dE)(N:dC)(O Y:Nat)(an:Bool)(h:Int)(R:Int->dw->Prop)(Z:dw):Prop:=
 eG (eP Z #[.int .i64 aj,.string ak,.string am,.slice N O Y,.bool an] eX) λH1:dw=>fh H1 (((eV Z):dA).add 2) λx9=>
 strings_Contains.C x9 HW H1 λaF H2=>
 eL aF False (gM.C ae h H2 λH3=>fh H3 (((eV Z):dA).add 2) λaG=>
 eG (eP H3 #[.int .i64 0,.int .i64 0,.string dM,.string dM,.string dM,.string dM,.slice none 0 0] eC) λH4:dw=>lj [.int .i64 4,.int .i64 h,.string dM,.string dM,.string dM,.string aG,.slice none 0 0] (eV H3) 0 H4 λH5=>
 eA (λJ7=>gf H5 (((eV Z):dA).add 0) λaI=>
 eL (decide (aI=5)) (fh H5 (((eV Z):dA).add 1) λaB=>j0 (.int .i64 5) (((eV H3):dA).add 0) H5 λH7=>(fh H7 (((eV Z):dA).add 1) λaD=>(.string aD:dB)=.string aB)/\j0 (.string aB) (((eV H3):dA).add 3) H7 λH8=>J7 () H8) (J7 () H5))
 (λ_ H6=>
 ∃af:dA,ae=some af/\fU H6 (af.add 0) λu w I=>fx H6 (eV H3) λaq ar au av aw ax ab ac ad=>
 eG (eP H6 #[.int .i64 aq,.int .i64 ar,.string au,.string av,.string aw,.string ax,.slice ab ac ad] eC) λH9:dw=>(fU H9 (af.add 0) λag ah ai=>(.slice ag ah ai:dB)=.slice u w I)/\ji eC 7 104 (.agg #[.int .i64 0,.int .i64 0,.string dM,.string dM,.string dM,.string dM,.slice none 0 0]) u w I (.slice (some (eV H6)) 1 1) H9 λay az aA aL=>
 ∃aC:dA,ae=some aC/\j0 (.slice ay az aA) (aC.add 0) aL λaM=>R 0 aM))
theorem hO.calls{ab}{O}{Y}{Z}{u}{w I}{aa}{N}{R}{H0}(h:hO.W ab O Y Z u w I aa N R H0):hO.C ab O Y Z u w I aa N H0 R:=
 m1 (.one (.int .i64)) (aN [(6,.ord (List.range 6)),(7,.ord (List.range 11))] [] [(7,[])] [2]) Tryz.func121 (eM (by kernel_rfl) h)
def gn.W(u:dC)(bK:Int)(bL:dE)(bM:dE)(bC:dC)(bD bE:Nat)(bN:Bool)(bR:dE)(a7:Int)(h:Int)(R:Int->Int->dw->Prop)(H0:dw):Prop:=
 eG (eP H0 #[.int .i64 bK,.string bL,.string bM,.slice bC bD bE,.bool bN] eX) λH1:dw=>
 gM.C u h H1 λH2=>
 ∃bS:dA,u=some bS/\gf H2 ((bS.add 1).add 1) λbW=>
 eL (decide (bW<h)) False (fq H2 (eV H0) λaF aG aH O Y Z aI=>
 ∃br:dA,u=some br/\oJ H2 (br.add 5) λaJ aa ab ac ad ae af=>
 ∃bu:dA,u=some bu/\tE H2 (bu.add 8) λbv=>
 ∃bw:dA,u=some bw/\tE H2 (bw.add 9) λbx=>
 ∃bz:dA,u=some bz/\kh H2 (bz.add 1) λaK aL aM aO=>(l8.C aF aG aH O Y Z aI aJ aa ab ac ad ae af bv bx aK aL aM aO H2 λaw ax ay az aA aB w I N aq H3=>
 eG (eP H3 #[.int .i64 0,.int .i64 0,.string dM,.string dM,.string dM,.string dM,.slice none 0 0] eC) λH4:dw=>(fq H4 (eV H0) λaQ aR aS ag ah ai aT=>(.agg #[.int .i64 aQ,.string aR,.string aS,.slice ag ah ai,.bool aT]:dB)=.agg #[.int .i64 aF,.string aG,.string aH,.slice O Y Z,.bool aI])/\(oJ H4 (br.add 5) λaU aj ak am an ao ap=>(.agg #[.string aU,.slice aj ak am,.slice an ao ap]:dB)=.agg #[.string aJ,.slice aa ab ac,.slice ad ae af])/\(tE H4 (bu.add 8) λbp=>(.pointer bp:dB)=.pointer bv)/\(tE H4 (bw.add 9) λbq=>(.pointer bq:dB)=.pointer bx)/\(kh H4 (bz.add 1) λaV aW aX aY=>(.agg #[.int .i64 aV,.int .i64 aW,.int .i64 aX,.int .i64 aY]:dB)=.agg #[.int .i64 aK,.int .i64 aL,.int .i64 aM,.int .i64 aO])/\lj [.int .i64 aw,.int .i64 ax,.string ay,.string az,.string aA,.string aB,.slice w I N] (eV H3) 0 H4 λH5=>
 eL (decide (aq≠0)) False (j0 (.int .i64 h) (((eV H3):dA).add 1) H5 λH6=>
 ∃aZ:dA,u=some aZ/\fU H6 (aZ.add 0) λar au av=>fx H6 (eV H3) λa8 a9 ba bb bc bd aC aD aE=>
 eG (eP H6 #[.int .i64 a8,.int .i64 a9,.string ba,.string bb,.string bc,.string bd,.slice aC aD aE] eC) λH7:dw=>(fU H7 (aZ.add 0) λa0 a3 a4=>(.slice a0 a3 a4:dB)=.slice ar au av)/\ji eC 7 104 (.agg #[.int .i64 0,.int .i64 0,.string dM,.string dM,.string dM,.string dM,.slice none 0 0]) ar au av (.slice (some (eV H6)) 1 1) H7 λbe bf bg H8=>
 ∃bk:dA,u=some bk/\j0 (.slice be bf bg) (bk.add 0) H8 λH9=>
 eA (λbm=>sF H9 (((eV H0):dA).add 4) λbG=>
 eL (!bG) (fh H9 (((eV H0):dA).add 1) λbH=>
 fw.C u bR a7 (IntKind.i64.wrap (h+1)) bH H9 λbh bi bY=>bm ((bh:Int),(bi:Int),()) bY) (bm ((a7:Int),(aq:Int),()) H9))
 (λbn bT=>(λ(bI:Int)(a5:Int)=>
 ∃bo:dA,u=some bo/\tE bT (bo.add 9) λbJ=>
 gW.C bJ bT λbZ b0=>R bI a5 b0) bn.1 bn.2.1)))/\(eG (eP H2 #[.int .i64 0,.int .i64 0,.string dM,.string dM,.string dM,.string dM,.slice none 0 0] eC) λa6:dw=>(fq a6 (eV H0) λaQ aR aS ag ah ai aT=>(.agg #[.int .i64 aQ,.string aR,.string aS,.slice ag ah ai,.bool aT]:dB)=.agg #[.int .i64 aF,.string aG,.string aH,.slice O Y Z,.bool aI])/\(oJ a6 (br.add 5) λaU aj ak am an ao ap=>(.agg #[.string aU,.slice aj ak am,.slice an ao ap]:dB)=.agg #[.string aJ,.slice aa ab ac,.slice ad ae af])/\(tE a6 (bu.add 8) λbp=>(.pointer bp:dB)=.pointer bv)/\(tE a6 (bw.add 9) λbq=>(.pointer bq:dB)=.pointer bx)/\(kh a6 (bz.add 1) λaV aW aX aY=>(.agg #[.int .i64 aV,.int .i64 aW,.int .i64 aX,.int .i64 aY]:dB)=.agg #[.int .i64 aK,.int .i64 aL,.int .i64 aM,.int .i64 aO])/\l8.C aF aG aH O Y Z aI aJ aa ab ac ad ae af bv bx aK aL aM aO a6 λaw ax ay az aA aB w I N aq b1=>lj [.int .i64 aw,.int .i64 ax,.string ay,.string az,.string aA,.string aB,.slice w I N] (eV H2) 0 b1 λb2=>
 eL (decide (aq≠0)) False (j0 (.int .i64 h) (((eV H2):dA).add 1) b2 λbA=>
 ∃aZ:dA,u=some aZ/\fU bA (aZ.add 0) λar au av=>fx bA (eV H2) λa8 a9 ba bb bc bd aC aD aE=>
 eG (eP bA #[.int .i64 a8,.int .i64 a9,.string ba,.string bb,.string bc,.string bd,.slice aC aD aE] eC) λbU:dw=>(fU bU (aZ.add 0) λa0 a3 a4=>(.slice a0 a3 a4:dB)=.slice ar au av)/\ji eC 7 104 (.agg #[.int .i64 0,.int .i64 0,.string dM,.string dM,.string dM,.string dM,.slice none 0 0]) ar au av (.slice (some (eV bA)) 1 1) bU λbe bf bg b3=>
 ∃bk:dA,u=some bk/\j0 (.slice be bf bg) (bk.add 0) b3 λbB=>
 eA (λbm=>sF bB (((eV H0):dA).add 4) λbG=>
 eL (!bG) (fh bB (((eV H0):dA).add 1) λbH=>
 fw.C u bR a7 (IntKind.i64.wrap (h+1)) bH bB λbh bi b4=>bm ((bh:Int),(bi:Int),()) b4) (bm ((a7:Int),(aq:Int),()) bB))
 (λbn bV=>(λ(bI:Int)(a5:Int)=>
 ∃bo:dA,u=some bo/\tE bV (bo.add 9) λbJ=>
 gW.C bJ bV λbZ b5=>R bI a5 b5) bn.1 bn.2.1))))
theorem gn.calls{ac}{O}{Y}{Z}{u}{w I}{aa}{ad}{ab}{N}{R}{H0}(h:gn.W ac O Y Z u w I aa ad ab N R H0):gn.C ac O Y Z u w I aa ad ab N H0 R:=
 (mT (aN [(4,.fl (List.range 21) 21 [22,23]),(8,.ord (List.range 11))] [] [(11,[(3,.one (.int .i64)),(13,.one (.int .i64))])] [3,6]) (R:=λv H'=>xT [.one (.int .i64),.one (.int .i64)] v λr=>R r.1 r.2.1 H') Tryz.func122 (eM (by kernel_rfl) h)).mono λv H' h=>by obtain⟨x,hv,hk⟩:=gI h;exact⟨x.1,x.2.1,hv,hk⟩
def lh.W(h:dC)(u w:Nat)(R:dC->Nat->Nat->dw->Prop)(I:dw):Prop:=
 eL (Option.isNone h) (R none 0 0 I) (eG (eP I #[] eF) λZ:dw=>ji eF 4 64 (.agg #[.string dM,.string dM,.string dM,.string dM]) (some (eV I)) 0 0 (.slice h u w) Z λN O Y H2=>R N O Y H2)
theorem lh.calls{u}{w I}{R}{N}(h:lh.W u w I R N):lh.C u w I N R:=
 (mT (aN [] [] [] []) (R:=λv H'=>xS (.one .slice) v λr=>R r.1 r.2.1 r.2.2 H') Tryz.func128 (eM (by kernel_rfl) h)).mono λv H' h=>by obtain⟨x,O,Y⟩:=nS h;exact⟨x.1,x.2.1,x.2.2,O,Y⟩
def kl.W(h:dC)(u w:Nat)(I:dB)(R:Bool->dw->Prop)(N:dw):Prop:=
 mc.C h u w I N λO Y=>R (decide ((0:Int)<=O)) Y
theorem kl.calls{u}{w I}{N}{R}{O}(h:kl.W u w I N R O):kl.C u w I N O R:=
 m1 (.one .bool) (aN [] [] [] []) Tryz.func129 (eM (by kernel_rfl) h)
def kD.W(u:dE)(w:dE)(I:dE)(N:dE)(Y:dA)(R:Bool->dw->Prop)(O:dw):Prop:=
 eG (eP O #[.string u,.string w,.string I,.string N] eF) λh:dw=>fh h (Y.add 0) λx5=>fh h (((eV O):dA).add 0) λx7=>
 eL (decide (x5=x7)) (fh h (Y.add 1) λZ=>fh h (((eV O):dA).add 1) λaa=>R (decide (Z=aa)) h) (R false h)
theorem kD.calls{u}{w}{I}{N}{O}{R}{Y}(h:kD.W u w I N O R Y):kD.C u w I N O Y R:=
 m1 (.one .bool) (aN [] [] [] []) Tryz.func130 (eM (by kernel_rfl) h)
def kZ.W(ag:dC)(u ai:Nat)(ah:dC)(I aj:Nat)(R:Bool->dw->Prop)(H0:dw):Prop:=
 eL (decide ((u:Int)≠(I:Int))) (R false H0) (
 eA (λJ9=>
 fP (λL4 q4 w=>(λ(h:Int)=>
 eL (decide (h<(u:Int))) (∃N:dA,ag=some N/\0<=h/\h<(u:Int)/\
 ∃Y:dE,dL w ((N.add (h.toNat*4)).add 0)=some (.string Y)/\
 ∃Z:dE,dL w ((N.add (h.toNat*4)).add 1)=some (.string Z)/\
 ∃aa:dE,dL w ((N.add (h.toNat*4)).add 2)=some (.string aa)/\
 ∃ab:dE,dL w ((N.add (h.toNat*4)).add 3)=some (.string ab)/\
 ∃O:dA,ah=some O/\0<=h/\h<(I:Int)/\
 ∃ac:dE,dL w ((O.add (h.toNat*4)).add 0)=some (.string ac)/\
 ∃ad:dE,dL w ((O.add (h.toNat*4)).add 1)=some (.string ad)/\
 ∃ae:dE,dL w ((O.add (h.toNat*4)).add 2)=some (.string ae)/\
 ∃af:dE,dL w ((O.add (h.toNat*4)).add 3)=some (.string af)/\
 eL (!(decide (Y=ac)&&(decide (Z=ad)&&(decide (aa=ae)&&(decide (ab=af)&&true))))) (R false w) (L4 ((IntKind.i64.wrap (h+1):Int),()) w)) (J9 () w)) q4.1) ((0:Int),()) H0)
 (λ_ H1=>R true H1))
theorem kZ.calls{u}{w I}{N}{O Y}{R}{Z}(h:kZ.W u w I N O Y R Z):kZ.C u w I N O Y Z R:=
 m1 (.one .bool) (aN [(6,.ord (List.range 9))] [(4,[(13,.one (.int .i64))])] [(9,[])] []) Tryz.func131 (eM (by kernel_rfl) h)
def gj.W(h:dC)(R:dw->Prop)(u:dw):Prop:=
 ∃N:dA,h=some N/\tE u (N.add 0) λY=>
 eL (Option.isNone Y) (Yo Tryz.prog ic h u/\zM Tryz.f210/\YA Tryz.prog ic h u/\
 ∃w:dA,h=some w/\j0 (.pointer h) (w.add 0) u λZ=>R Z) (∃I:dA,h=some I/\tE u (I.add 0) λO=>(O=h/\
 ∃b o,h=some ⟨b,o,none⟩)/\R u)
theorem gj.calls{u}{R}{w}(h:gj.W u R w):gj.C u w R:=
 (mT (aN [] [] [] []) (R:=λv H'=>xT [] v λ_=>R H') Tryz.func132 (eM (by kernel_rfl) h)).mono λv H' h=>by obtain⟨x,I,N⟩:=gI h;exact⟨I,N⟩
def iK.W(u:Int)(R:Int->dw->Prop)(w:dw):Prop:=
 0<=(1:Int)/\
 eG (IntKind.u64.wrap ((lx .u64 (mu .u64 u 1) 6148914691236517205)+(lx .u64 u 6148914691236517205))) λh:Int=>0<=(2:Int)/\
 eG (IntKind.u64.wrap ((lx .u64 (mu .u64 h 2) 3689348814741910323)+(lx .u64 h 3689348814741910323))) λh:Int=>0<=(4:Int)/\
 eG (lx .u64 (IntKind.u64.wrap ((mu .u64 h 4)+h)) 1085102592571150095) λh:Int=>0<=(8:Int)/\
 eG (IntKind.u64.wrap (h+(mu .u64 h 8))) λh:Int=>0<=(16:Int)/\
 eG (IntKind.u64.wrap (h+(mu .u64 h 16))) λh:Int=>0<=(32:Int)/\
 eG (IntKind.u64.wrap (h+(mu .u64 h 32))) λh:Int=>
 eG (lx .i64 (IntKind.i64.wrap h) 127) λI:Int=>R I w
theorem iK.calls{u}{R}{w}(h:iK.W u R w):iK.C u w R:=
 m1 (.one (.int .i64)) (aN [] [] [] []) Tryz.func134 (eM (by kernel_rfl) h)
def mM.W(w:Int)(R:Int->dw->Prop)(Y:dw):Prop:=
 eA (λZ=>
 eL (decide ((4294967296:Int)<=w)) (0<=(32:Int)/\
 eG (mu .u64 w 32) λh:Int=>Z ((h:Int),(32:Int),()) Y) (Z ((w:Int),(0:Int),()) Y))
 (λs4 H1=>(λ(h:Int)(u:Int)=>
 eA (λJ7=>
 eL (decide ((65536:Int)<=h)) (0<=(16:Int)/\
 eG (mu .u64 h 16) λI:Int=>
 eG (IntKind.i64.wrap (u+16)) λu:Int=>J7 ((I:Int),(u:Int),()) H1) (J7 ((h:Int),(u:Int),()) H1))
 (λs7 H2=>(λ(h:Int)(u:Int)=>
 eA (λN=>
 eL (decide ((256:Int)<=h)) (0<=(8:Int)/\
 eG (mu .u64 h 8) λI:Int=>
 eG (IntKind.i64.wrap (u+8)) λu:Int=>N ((I:Int),(u:Int),()) H2) (N ((h:Int),(u:Int),()) H2))
 (λO H3=>(λ(h:Int)(u:Int)=>0<=IntKind.u8.wrap h/\IntKind.u8.wrap h<(Q7.size:Int)/\
 eG (IntKind.i64.wrap (u+(IntKind.i64.wrap (bt Q7 (IntKind.u8.wrap h))))) λu:Int=>R u H3) O.1 O.2.1)) s7.1 s7.2.1)) s4.1 s4.2.1)
theorem mM.calls{u}{R}{w}(h:mM.W u R w):mM.C u w R:=
 m1 (.one (.int .i64)) (aN [] [] [(4,[(0,.one (.int .u64)),(2,.one (.int .i64))]),(7,[(0,.one (.int .u64)),(2,.one (.int .i64))]),(10,[(0,.one (.int .u64)),(2,.one (.int .i64))])] []) Tryz.func135 (eM (by kernel_rfl) h)
def ph.W(ad:dC)(N ak:Nat)(R:dC->dw->Prop)(Z:dw):Prop:=
 eG (eP Z #[.nilIface,.int .i64 (N:Int),.int .i64 0] kP) λH1:dw=>
 eA (λJ4=>
 eL (decide ((0:Int)<(N:Int))) (gB.C ad N ak H1 λaH H3=>
 lr.C aH H3 λaI H4=>
 ∃ae:dA,some (eV Z)=some ae/\(∃u,dL H4 (ae.add 2)=some u)/\fH H4 (ae.add 2)=false/\
 eG (gO H4 (ae.add 2) (.int .i64 aI)) λH5:dw=>J4 () H5) (J4 () H1))
 (λ_ H2=>
 ∃am:dA,some (eV Z)=some am/\
 ∃w:Int,dL H2 (am.add 1)=some (.int .i64 w)/\
 ∃an:dA,some (eV Z)=some an/\
 ∃I:Int,dL H2 (an.add 2)=some (.int .i64 I)/\(64:Int)≠0/\0<=IntKind.i64.wrap (Int.tdiv (IntKind.i64.wrap ((IntKind.i64.wrap ((IntKind.i64.wrap (w*I))+64))-1)) 64)/\IntKind.i64.wrap (Int.tdiv (IntKind.i64.wrap ((IntKind.i64.wrap ((IntKind.i64.wrap (w*I))+64))-1)) 64)<=IntKind.i64.wrap (Int.tdiv (IntKind.i64.wrap ((IntKind.i64.wrap ((IntKind.i64.wrap (w*I))+64))-1)) 64)/\((8:Nat):Int)*(IntKind.i64.wrap (Int.tdiv (IntKind.i64.wrap ((IntKind.i64.wrap ((IntKind.i64.wrap (w*I))+64))-1)) 64))<=281474976710656/\
 eG (eP H2 (j5 (.int .u64 0) ((IntKind.i64.wrap (Int.tdiv (IntKind.i64.wrap ((IntKind.i64.wrap ((IntKind.i64.wrap (w*I))+64))-1)) 64)).toNat)) kB) λH6:dw=>
 eA (λaJ=>
 fP (λL6 q6 H8=>(λ(O:Int)=>
 eL (decide (O<(N:Int))) (
 eA (λai=>
 ∃ao:dA,ad=some ao/\0<=O/\O<(N:Int)/\
 ∃aj:Int,dL H8 (ao.add O.toNat)=some (.int .u64 aj)/\
 ∃ap:dA,some (eV Z)=some ap/\
 ∃aq:Int,dL H8 (ap.add 2)=some (.int .i64 aq)/\(64:Int)≠0/\
 ∃ar:dA,some (eV Z)=some ar/\
 ∃au:Int,dL H8 (ar.add 2)=some (.int .i64 au)/\(64:Int)≠0/\
 eG (IntKind.i64.wrap (Int.tdiv (IntKind.i64.wrap (O*aq)) 64)) λh:Int=>
 eG (IntKind.u64.wrap (Int.tmod (IntKind.i64.wrap (O*au)) 64)) λY:Int=>
 ∃av:dA,some (eV Z)=some av/\
 ∃aw:Int,dL H8 (av.add 2)=some (.int .i64 aw)/\
 eL (decide (aw=0)) (ai () H8) (∃ax:dA,some (eV H2)=some ax/\0<=h/\h<((IntKind.i64.wrap (Int.tdiv (IntKind.i64.wrap ((IntKind.i64.wrap ((IntKind.i64.wrap (w*I))+64))-1)) 64)).toNat:Int)/\
 ∃ay:Int,dL H8 (ax.add h.toNat)=some (.int .u64 ay)/\0<=Y/\
 ∃af:dA,some (eV H2)=some af/\0<=h/\h<((IntKind.i64.wrap (Int.tdiv (IntKind.i64.wrap ((IntKind.i64.wrap ((IntKind.i64.wrap (w*I))+64))-1)) 64)).toNat:Int)/\(∃u,dL H8 (af.add h.toNat)=some u)/\fH H8 (af.add h.toNat)=false/\
 eG (gO H8 (af.add h.toNat) (.int .u64 (uI .u64 ay (mU .u64 aj Y)))) λab:dw=>
 ∃az:dA,some (eV Z)=some az/\
 ∃aA:Int,dL ab (az.add 2)=some (.int .i64 aA)/\
 eL (decide ((64:Int)<(IntKind.i64.wrap ((IntKind.i64.wrap Y)+aA)))) (∃aB:dA,some (eV H2)=some aB/\0<=IntKind.i64.wrap (h+1)/\IntKind.i64.wrap (h+1)<((IntKind.i64.wrap (Int.tdiv (IntKind.i64.wrap ((IntKind.i64.wrap ((IntKind.i64.wrap (w*I))+64))-1)) 64)).toNat:Int)/\
 ∃aC:Int,dL ab (aB.add ((IntKind.i64.wrap (h+1)).toNat))=some (.int .u64 aC)/\0<=(IntKind.u64.wrap (64-Y))/\
 ∃ag:dA,some (eV H2)=some ag/\0<=IntKind.i64.wrap (h+1)/\IntKind.i64.wrap (h+1)<((IntKind.i64.wrap (Int.tdiv (IntKind.i64.wrap ((IntKind.i64.wrap ((IntKind.i64.wrap (w*I))+64))-1)) 64)).toNat:Int)/\(∃u,dL ab (ag.add ((IntKind.i64.wrap (h+1)).toNat))=some u)/\fH ab (ag.add ((IntKind.i64.wrap (h+1)).toNat))=false/\
 eG (gO ab (ag.add ((IntKind.i64.wrap (h+1)).toNat)) (.int .u64 (uI .u64 aC (mu .u64 aj (IntKind.u64.wrap (64-Y)))))) λaK:dw=>ai () aK) (ai () ab)))
 (λ_ H9=>L6 ((IntKind.i64.wrap (O+1):Int),()) H9)) (aJ () H8)) q6.1) ((0:Int),()) H6)
 (λ_ H7=>
 ∃ah:dA,some (eV Z)=some ah/\(∃u,dL H7 (ah.add 0)=some u)/\fH H7 (ah.add 0)=false/\
 eG (gO H7 (ah.add 0) (.iface qP (.slice (some (eV H2)) ((IntKind.i64.wrap (Int.tdiv (IntKind.i64.wrap ((IntKind.i64.wrap ((IntKind.i64.wrap (w*I))+64))-1)) 64)).toNat) ((IntKind.i64.wrap (Int.tdiv (IntKind.i64.wrap ((IntKind.i64.wrap ((IntKind.i64.wrap (w*I))+64))-1)) 64)).toNat)))) λaL:dw=>R (some (eV Z)) aL))
theorem ph.calls{u}{w I}{R}{N}(h:ph.W u w I R N):ph.C u w I N R:=
 m1 (.one .ptr) (aN [(4,.ord (List.range 14)),(8,.ord (List.range 17))] [(6,[(37,.one (.int .i64))])] [(4,[]),(13,[]),(14,[])] []) Tryz.func136 (eM (by kernel_rfl) h)
def iu.W(h:dC)(R:Int->dw->Prop)(u:dw):Prop:=
 eL (Option.isNone h) (R 0 u) (∃w:dA,h=some w/\
 ∃I:Int,dL u (w.add 1)=some (.int .i64 I)/\R I u)
theorem iu.calls{u}{R}{w}(h:iu.W u R w):iu.C u w R:=
 m1 (.one (.int .i64)) (aN [] [] [] []) Tryz.func141 (eM (by kernel_rfl) h)
def mc.W(aa:dC)(w ae:Nat)(ac:dB)(R:Int->dw->Prop)(H0:dw):Prop:=
 eA (λJ7=>
 fP (λL2 q2 Z=>(λ(h:Int)=>
 eL (decide (h<(w:Int))) (∃u:dA,aa=some u/\0<=h/\h<(w:Int)/\
 ∃I:dE,dL Z ((u.add (h.toNat*4)).add 0)=some (.string I)/\
 ∃N:dE,dL Z ((u.add (h.toNat*4)).add 1)=some (.string N)/\
 ∃O:dE,dL Z ((u.add (h.toNat*4)).add 2)=some (.string O)/\
 ∃Y:dE,dL Z ((u.add (h.toNat*4)).add 3)=some (.string Y)/\Bg Tryz.prog ac [.agg #[.string I,.string N,.string O,.string Y]] Z λab H3=>Sn ab (R h H3) (L2 ((IntKind.i64.wrap (h+1):Int),()) H3)) (J7 () Z)) q2.1) ((0:Int),()) H0)
 (λ_ H1=>R (-1) H1)
theorem mc.calls{u}{w I}{N}{R}{O}(h:mc.W u w I N R O):mc.C u w I N O R:=
 m1 (.one (.int .i64)) (aN [] [(2,[(8,.one (.int .i64))])] [(7,[])] []) Tryz.func143 (eM (by kernel_rfl) h)
def km.W(h:dC)(R:Int->dw->Prop)(u:dw):Prop:=
 eL (Option.isNone h) (R 0 u) (∃w:dA,h=some w/\
 ∃I:Int,dL u (w.add 1)=some (.int .i64 I)/\R I u)
theorem km.calls{u}{R}{w}(h:km.W u R w):km.C u w R:=
 m1 (.one (.int .i64)) (aN [] [] [] []) Tryz.func172 (eM (by kernel_rfl) h)
def jL.W(ab:dC)(w:Int)(R:dC->dw->Prop)(H0:dw):Prop:=
 ∃x9:dA,ab=some x9/\
 ∃(h:dC)(u I:Nat),dL H0 (x9.add 0)=some (.slice h u I)/\
 ∃O:dA,h=some O/\0<=w/\w<(u:Int)/\
 ∃Y:dB,dL H0 (O.add w.toNat)=some Y/\
 ∃Z:dC,∃N:Bool,tB Y lJ (.pointer Z) (.pointer none) N/\R Z H0
theorem jL.calls{u}{w}{R}{I}(h:jL.W u w R I):jL.C u w I R:=
 m1 (.one .ptr) (aN [] [] [] []) Tryz.func173 (eM (by kernel_rfl) h)
def kz.W(w:dC)(h:Int)(R:Bool->Int->dw->Prop)(I:dw):Prop:=
 eA (λJ3=>
 eA (λN=>
 eL (decide (h<0)) (N (true,()) I) (iu.C w I λO H3=>N (decide (O<=h),()) H3))
 (λs2 Y=>(λ(Z:Bool)=>
 eL Z (R false 4 Y) (J3 () Y)) s2.1))
 (λ_ H1=>(64:Int)≠0/\jT.C w (IntKind.i64.wrap (Int.tdiv h 64)) H1 λu aa H4=>(64:Int)≠0/\0<=(IntKind.u64.wrap (Int.tmod h 64))/\R (decide ((lx .u64 (mu .u64 u (IntKind.u64.wrap (Int.tmod h 64))) 1)=1)) 0 H4)
theorem kz.calls{u}{w}{R}{I}(h:kz.W u w R I):kz.C u w I R:=
 (mT (aN [] [] [(2,[(13,.one .bool)]),(3,[])] []) (R:=λv H'=>xT [.one .bool,.one (.int .i64)] v λr=>R r.1 r.2.1 H') Tryz.func174 (eM (by kernel_rfl) h)).mono λv H' h=>by obtain⟨x,N,O⟩:=gI h;exact⟨x.1,x.2.1,N,O⟩
def jw.W(N:dC)(ad:Int)(ac:Int)(h:Bool)(R:Int->dw->Prop)(Y:dw):Prop:=
 ∃Z:dA,N=some Z/\
 ∃aa:Int,dL Y (Z.add 3)=some (.int .i64 aa)/\
 ∃w:dA,N=some w/\(∃u,dL Y (w.add 3)=some u)/\fH Y (w.add 3)=false/\
 eG (gO Y (w.add 3) (.int .i64 (IntKind.i64.wrap (aa+1)))) λH1:dw=>
 jL.C N ad H1 λI H2=>
 gY.C I ac h H2 λab H3=>
 eA (λJ6=>
 eL h (iu.C I H3 λag H5=>
 iu.C I H5 λah H6=>
 gY.C I ah true H6 λai H7=>
 eG (IntKind.i64.wrap (ab+(IntKind.i64.wrap (ag-ai)))) λO:Int=>J6 ((O:Int),()) H7) (J6 ((ab:Int),()) H3))
 (λs6 H4=>(λ(O:Int)=>R O H4) s6.1)
theorem jw.calls{I}{N}{w}{u}{R}{O}(h:jw.W I N w u R O):jw.C I N w u O R:=
 m1 (.one (.int .i64)) (aN [] [] [(6,[(10,.one (.int .i64))])] []) Tryz.func175 (eM (by kernel_rfl) h)
def jk.W(u:dC)(h:Int)(R:Int->dw->Prop)(w:dw):Prop:=
 ∃I:dA,u=some I/\
 ∃N:dC,dL w (I.add 0)=some (.pointer N)/\gY.C N (IntKind.i64.wrap (h+1)) true w λO Y=>
 eG (IntKind.i64.wrap ((IntKind.i64.wrap ((IntKind.i64.wrap (2*O))-h))-1)) λZ:Int=>R Z Y
theorem jk.calls{u}{w}{R}{I}(h:jk.W u w R I):jk.C u w I R:=
 m1 (.one (.int .i64)) (aN [] [] [] []) Tryz.func176 (eM (by kernel_rfl) h)
def iL.W(I:dC)(O:Int)(w:Bool)(R:Int->dw->Prop)(H0:dw):Prop:=
 eA (λJ3=>
 eA (λJ2=>
 eL (decide (O<0)) (J2 (true,()) H0) (iu.C I H0 λam H3=>
 gY.C I am w H3 λan H4=>J2 (decide (an<=O),()) H4))
 (λs2 H2=>(λ(ap:Bool)=>
 eL ap (R (-1) H2) (J3 () H2)) s2.1))
 (λ_ H1=>
 ∃ac:dA,I=some ac/\
 ∃(aa:dC)(Y ab:Nat),dL H1 (ac.add 0)=some (.slice aa Y ab)/\
 eG (IntKind.i64.wrap ((Y:Int)-1)) λN:Int=>
 eA (λJ9=>
 fP (λL4 q4 H6=>(λ(u:Int)(N:Int)=>
 eL (decide (u<N)) ((2:Int)≠0/\
 eG (IntKind.i64.wrap (Int.tdiv (IntKind.i64.wrap ((IntKind.i64.wrap (u+N))+1)) 2)) λm9:Int=>
 gY.C I (IntKind.i64.wrap (m9*64)) w H6 λaw H7=>
 eL (decide (aw<=O)) (L4 ((m9:Int),(N:Int),()) H7) (eG (IntKind.i64.wrap (m9-1)) λai:Int=>L4 ((u:Int),(ai:Int),()) H7)) (J9 ((u:Int),()) H6)) q4.1 q4.2.1) ((0:Int),(N:Int),()) H1)
 (λs9 H5=>(λ(u:Int)=>
 jT.C I u H5 λZ aI H8=>
 eA (λad=>
 eL (!w) (eG (Kl .u64 Z) λh:Int=>ad ((h:Int),()) H8) (ad ((Z:Int),()) H8))
 (λaz H9=>(λ(h:Int)=>
 eA (λaA=>
 gY.C I (IntKind.i64.wrap (u*64)) w H9 λaB aC=>
 fP (λaD ae af=>(λ(h:Int)(ag:Int)=>
 eL (decide (ag<(IntKind.i64.wrap (O-aB)))) (eG (lx .u64 h (IntKind.u64.wrap (h-1))) λh:Int=>aD ((h:Int),(IntKind.i64.wrap (ag+1):Int),()) af) (aA ((h:Int),()) af)) ae.1 ae.2.1) ((h:Int),(0:Int),()) aC)
 (λaE aF=>(λ(h:Int)=>
 ib.C h aF λaG aH=>
 eG (IntKind.i64.wrap ((IntKind.i64.wrap (u*64))+aG)) λx6:Int=>R x6 aH) aE.1)) az.1)) s9.1))
theorem iL.calls{w}{I}{u}{R}{N}(h:iL.W w I u R N):iL.C w I u N R:=
 m1 (.one (.int .i64)) (aN [(3,.ord (List.range 8))] [(4,[(7,.one (.int .i64)),(8,.one (.int .i64))]),(13,[(10,.one (.int .u64)),(61,.one (.int .i64))])] [(2,[(21,.one .bool)]),(3,[]),(9,[(7,.one (.int .i64))]),(12,[(10,.one (.int .u64))]),(16,[(10,.one (.int .u64))])] []) Tryz.func177 (eM (by kernel_rfl) h)
def kq.W(h:dC)(R:Int->dw->Prop)(u:dw):Prop:=
 eL (Option.isNone h) (R 0 u) (∃w:dA,h=some w/\
 ∃I:Int,dL u (w.add 2)=some (.int .i64 I)/\R I u)
theorem kq.calls{u}{R}{w}(h:kq.W u R w):kq.C u w R:=
 m1 (.one (.int .i64)) (aN [] [] [] []) Tryz.func178 (eM (by kernel_rfl) h)
def iI.W(w:dC)(R:dC->dw->Prop)(I:dw):Prop:=
 ∃N:dA,w=some N/\
 ∃O:dB,dL I (N.add 1)=some O/\
 ∃u:dC,∃h:Bool,tB O qm (.pointer u) (.pointer none) h/\R u I
theorem iI.calls{u}{R}{w}(h:iI.W u R w):iI.C u w R:=
 m1 (.one .ptr) (aN [] [] [] []) Tryz.func179 (eM (by kernel_rfl) h)
def jR.W(u:dC)(h:Int)(R:Int->Int->dw->Prop)(H0:dw):Prop:=
 eA (λJ3=>
 eA (λJ2=>
 eL (decide (h<0)) (J2 (true,()) H0) (kr.C u H0 λaj H3=>J2 (decide (aj<=h),()) H3))
 (λs2 H2=>(λ(am:Bool)=>
 eL am (R 0 4 H2) (J3 () H2)) s2.1))
 (λ_ Z=>
 ∃ab:dA,u=some ab/\
 ∃ac:dB,dL Z (ab.add 0)=some ac/\
 ∃ad:dC,∃w:Bool,tB ac lJ (.pointer ad) (.pointer none) w/\
 ∃ae:dA,u=some ae/\
 ∃af:dB,dL Z (ae.add 1)=some af/\
 ∃ag:dC,∃I:Bool,tB af qo (.pointer ag) (.pointer none) I/\
 eA (λJ7=>
 eA (λJ6=>
 eL (!w) (J6 (true,()) Z) (J6 (!I,()) Z))
 (λs6 H5=>(λ(ap:Bool)=>
 eL ap (R 0 4 H5) (J7 () H5)) s6.1))
 (λ_ H4=>
 kx.C ag h H4 λaa av H6=>
 ∃O:dA,u=some O/\
 ∃N:Int,dL H6 (O.add 3)=some (.int .i64 N)/\iL.C ad h true H6 λar H7=>(∃Y:Int,dL H7 (O.add 3)=some (.int .i64 Y)/\(.int .i64 Y:dB)=.int .i64 N)/\0<=(IntKind.u64.wrap N)/\
 eG (uI .i64 (mU .i64 (IntKind.i64.wrap (ar-h)) (IntKind.u64.wrap N)) (IntKind.i64.wrap aa)) λx4:Int=>R x4 0 H7))
theorem jR.calls{u}{w}{R}{I}(h:jR.W u w R I):jR.C u w I R:=
 (mT (aN [(8,.ord [0,1,3,5,6,7,8,9,11,12,2,4,10,13,14,15])] [] [(2,[(19,.one .bool)]),(3,[]),(6,[(41,.one .bool)]),(7,[])] []) (R:=λv H'=>xT [.one (.int .i64),.one (.int .i64)] v λr=>R r.1 r.2.1 H') Tryz.func180 (eM (by kernel_rfl) h)).mono λv H' h=>by obtain⟨x,N,O⟩:=gI h;exact⟨x.1,x.2.1,N,O⟩
def jh.W(u:dE)(w:dE)(I:dE)(N:dE)(Y:dA)(R:Bool->dw->Prop)(O:dw):Prop:=
 eG (eP O #[.string u,.string w,.string I,.string N] eF) λh:dw=>fh h (Y.add 0) λx5=>fh h (((eV O):dA).add 0) λx7=>
 eL (decide (x5=x7)) (fh h (Y.add 1) λZ=>fh h (((eV O):dA).add 1) λaa=>R (decide (Z=aa)) h) (R false h)
theorem jh.calls{u}{w}{I}{N}{O}{R}{Y}(h:jh.W u w I N O R Y):jh.C u w I N O Y R:=
 m1 (.one .bool) (aN [] [] [] []) Tryz.func184 (eM (by kernel_rfl) h)
def iQ.W(ab:dC)(I:Int)(R:dC->Nat->Nat->dw->Prop)(H0:dw):Prop:=
 ∃x9:dA,ab=some x9/\fU H0 (x9.add 0) λN O ae=>
 ∃Z:dA,N=some Z/\0<=I/\I<(O:Int)/\Vz H0 (Z.add I.toNat) λad=>
 ∃(h:dC)(u w:Nat),∃Y:Bool,tB ad iW (.slice h u w) (.slice none 0 0) Y/\R h u w H0
theorem iQ.calls{u}{w}{R}{I}(h:iQ.W u w R I):iQ.C u w I R:=
 (mT (aN [] [] [] []) (R:=λv H'=>xS (.one .slice) v λr=>R r.1 r.2.1 r.2.2 H') Tryz.func185 (eM (by kernel_rfl) h)).mono λv H' h=>by obtain⟨x,N,O⟩:=nS h;exact⟨x.1,x.2.1,x.2.2,N,O⟩
def gK.W(h:dC)(u am:Nat)(R:Int->dw->Prop)(w:dw):Prop:=
 ∃I:dA,h=some I/\0<=(0:Int)/\(0:Int)<(u:Int)/\vP w (I.add ((0:Int).toNat)) λad=>
 ∃N:dA,h=some N/\0<=(1:Int)/\(1:Int)<(u:Int)/\vP w (N.add ((1:Int).toNat)) λae=>0<=(8:Int)/\
 ∃O:dA,h=some O/\0<=(2:Int)/\(2:Int)<(u:Int)/\vP w (O.add ((2:Int).toNat)) λaf=>0<=(16:Int)/\
 ∃Y:dA,h=some Y/\0<=(3:Int)/\(3:Int)<(u:Int)/\vP w (Y.add ((3:Int).toNat)) λag=>0<=(24:Int)/\
 ∃Z:dA,h=some Z/\0<=(4:Int)/\(4:Int)<(u:Int)/\vP w (Z.add ((4:Int).toNat)) λah=>0<=(32:Int)/\
 ∃aa:dA,h=some aa/\0<=(5:Int)/\(5:Int)<(u:Int)/\vP w (aa.add ((5:Int).toNat)) λai=>0<=(40:Int)/\
 ∃ab:dA,h=some ab/\0<=(6:Int)/\(6:Int)<(u:Int)/\vP w (ab.add ((6:Int).toNat)) λaj=>0<=(48:Int)/\
 ∃ac:dA,h=some ac/\0<=(7:Int)/\(7:Int)<(u:Int)/\vP w (ac.add ((7:Int).toNat)) λak=>0<=(56:Int)/\
 eG (uI .u64 (uI .u64 (uI .u64 (uI .u64 (uI .u64 (uI .u64 (uI .u64 (IntKind.u64.wrap ad) (mU .u64 (IntKind.u64.wrap ae) 8)) (mU .u64 (IntKind.u64.wrap af) 16)) (mU .u64 (IntKind.u64.wrap ag) 24)) (mU .u64 (IntKind.u64.wrap ah) 32)) (mU .u64 (IntKind.u64.wrap ai) 40)) (mU .u64 (IntKind.u64.wrap aj) 48)) (mU .u64 (IntKind.u64.wrap ak) 56)) λx2:Int=>R x2 w
theorem gK.calls{u}{w I}{R}{N}(h:gK.W u w I R N):gK.C u w I N R:=
 m1 (.one (.int .u64)) (aN [(2,.ord (List.range 47))] [] [] []) Tryz.func189 (eM (by kernel_rfl) h)
def kX.W(u:dE)(h:Int)(R:dE->Int->Bool->dw->Prop)(I:dw):Prop:=
 eA (λJ3=>
 eA (λN=>
 eL (decide (h<0)) (N (true,()) I) (eL (decide ((u.size:Int)<=h)) (N (true,()) I) (0<=h/\h<(u.size:Int)/\
 eL (decide ((bt u h)≠34)) (0<=h/\h<(u.size:Int)/\N (decide ((bt u h)≠39),()) I) (N (false,()) I))))
 (λs2 H2=>(λ(Y:Bool)=>
 eL Y False (J3 () H2)) s2.1))
 (λ_ H1=>0<=IntKind.i64.wrap (h+1)/\IntKind.i64.wrap (h+1)<=(u.size:Int)/\0<=IntKind.i64.wrap (h+1)/\IntKind.i64.wrap (h+1)<=(u.size:Int)/\0<=h/\h<=((IntKind.i64.wrap (h+1)).toNat:Int)/\strings_Cut.C (u.extract ((IntKind.i64.wrap (h+1)).toNat) u.size) (u.extract h.toNat ((IntKind.i64.wrap (h+1)).toNat)) H1 λw Z O H3=>
 eL (!O) False (eG (IntKind.i64.wrap ((IntKind.i64.wrap (h+(w.size:Int)))+2)) λx5:Int=>R w x5 true H3))
theorem kX.calls{w}{u}{R}{I}(h:kX.W w u R I):kX.C w u I R:=
 (mT (aN [(3,.ord (List.range 17))] [] [(2,[(29,.one .bool)]),(3,[])] [2,5]) (R:=λv H'=>xT [.one .str,.one (.int .i64),.one .bool] v λr=>R r.1 r.2.1 r.2.2.1 H') Tryz.func191 (eM (by kernel_rfl) h)).mono λv H' h=>by obtain⟨x,N,O⟩:=gI h;exact⟨x.1,x.2.1,x.2.2.1,N,O⟩
def j7.W(I:dE)(u:Int)(R:Int->dw->Prop)(Y:dw):Prop:=
 eA (λJ7=>0<=u/\u<=(I.size:Int)/\
 eG (Y.push (.stringIter (I.extract u.toNat I.size) 0)) λH2:dw=>
 fP (λL2 _ Z=>
 ∃(w:dE)(h:Nat),Z[Array.size Y]?=some (.stringIter w h)/\
 eL (decide (h<w.size)) (eG (Array.setIfInBounds Z (Array.size Y) (.stringIter w (h+(Utf8.decode w h).2))) λH4:dw=>
 eG ((h:Int)) λN:Int=>
 eG (((Utf8.decode w h).1:Int)) λr6:Int=>0<=IntKind.i64.wrap (u+N)/\IntKind.i64.wrap (u+N)<=(I.size:Int)/\nD.C (I.extract ((IntKind.i64.wrap (u+N)).toNat) I.size) H4 λag O H5=>
 eA (λJ6=>
 Aq.C r6 H5 λad H7=>
 eL (!ad) (J6 (true,()) H7) (eL (decide (r6=65533)) (J6 (decide (O=1),()) H7) (J6 (false,()) H7)))
 (λs6 H6=>(λ(af:Bool)=>
 eL af (eG (IntKind.i64.wrap (u+N)) λx4:Int=>R x4 H6) (L2 () H6)) s6.1)) (J7 () Z)) () H2)
 (λ_ H1=>False)
theorem j7.calls{w}{u}{R}{I}(h:j7.W w u R I):j7.C w u I R:=
 m1 (.one (.int .i64)) (aN [] [(2,[])] [(6,[(36,.one .bool)]),(7,[])] [7]) Tryz.func196 (eM (by kernel_rfl) h)
def jo.W(h:dC)(R:dw->Prop)(H0:dw):Prop:=
 jf.C h H0 λH1=>
 fP (λL1 _ H2=>
 eA (λJ3=>
 ∃x5:dA,h=some x5/\sF H2 (x5.add 2) λx7=>
 eL (!x7) (fy.C h rH H2 λao H4=>
 eL (!ao) (J3 () H4) (R H4)) (R H2))
 (λ_ u=>
 eA (λJ4=>
 ∃Y:dA,h=some Y/\gf u (Y.add 1) λar=>
 ∃Z:dA,h=some Z/\fh u (Z.add 0) λau=>
 eL (decide (ar=(au.size:Int))) (J4 (true,()) u) (∃aa:dA,h=some aa/\fh u (aa.add 0) λab=>
 ∃ac:dA,h=some ac/\gf u (ac.add 1) λI=>0<=I/\I<(ab.size:Int)/\J4 (decide ((bt ab I)=60),()) u))
 (λs4 w=>(λ(av:Bool)=>
 eL av False (
 eA (λJ6=>
 ∃ad:dA,h=some ad/\fh w (ad.add 0) λae=>
 ∃af:dA,h=some af/\gf w (af.add 1) λN=>0<=N/\N<(ae.size:Int)/\
 eL (decide ((bt ae N)=34)) (J6 (true,()) w) (∃ag:dA,h=some ag/\fh w (ag.add 0) λah=>
 ∃ai:dA,h=some ai/\gf w (ai.add 1) λO=>0<=O/\O<(ah.size:Int)/\J6 (decide ((bt ah O)=39),()) w))
 (λs6 H6=>(λ(ay:Bool)=>
 eL ay False (∃aj:dA,h=some aj/\gf H6 (aj.add 1) λaz=>
 ∃ak:dA,h=some ak/\j0 (.int .i64 (IntKind.i64.wrap (az+1))) (ak.add 1) H6 λH7=>L1 () H7)) s6.1))) s4.1))) () H1
theorem jo.calls{u}{R}{w}(h:jo.W u R w):jo.C u w R:=
 (mT (aN [(3,.ord (List.range 23)),(5,.ord (List.range 23))] [(1,[])] [(3,[]),(4,[(21,.one .bool)]),(6,[(47,.one .bool)])] [4,6]) (R:=λv H'=>xT [] v λ_=>R H') Tryz.func200 (eM (by kernel_rfl) h)).mono λv H' h=>by obtain⟨x,I,N⟩:=gI h;exact⟨I,N⟩
def iS.W(af:dC)(R:dw->Prop)(H0:dw):Prop:=
 ∃x7:dA,af=some x7/\fh H0 (x7.add 0) λx9=>
 ∃ag:dA,af=some ag/\gf H0 (ag.add 1) λah=>(j8.C x9 ah H0 λI N O h u w Y Z aa H1=>
 eG (eP H1 #[.int .i64 0,.string dM,.string dM,.slice none 0 0,.bool false] eX) λH2:dw=>(fh H2 (x7.add 0) λai=>(.string ai:dB)=.string x9)/\(gf H2 (ag.add 1) λad=>(.int .i64 ad:dB)=.int .i64 ah)/\lj [.int .i64 I,.string N,.string O,.slice h u w,.bool Y] (eV H1) 0 H2 λH3=>
 eA (λJ3=>
 eA (λJ2=>
 eL (decide (aa≠0)) (J2 (true,()) H3) (gf H3 (((eV H1):dA).add 0) λak=>
 eL (decide (ak≠4)) (gf H3 (((eV H1):dA).add 0) λam=>J2 (decide (am≠5),()) H3) (J2 (false,()) H3)))
 (λs2 H5=>(λ(an:Bool)=>
 eL an False (J3 () H5)) s2.1))
 (λ_ H4=>
 ∃ab:dA,af=some ab/\j0 (.int .i64 Z) (ab.add 1) H4 λH6=>R H6))/\(eG (eP H0 #[.int .i64 0,.string dM,.string dM,.slice none 0 0,.bool false] eX) λH7:dw=>(fh H7 (x7.add 0) λai=>(.string ai:dB)=.string x9)/\(gf H7 (ag.add 1) λad=>(.int .i64 ad:dB)=.int .i64 ah)/\j8.C x9 ah H7 λI N O h u w Y Z aa H8=>lj [.int .i64 I,.string N,.string O,.slice h u w,.bool Y] (eV H0) 0 H8 λH9=>
 eA (λJ3=>
 eA (λJ2=>
 eL (decide (aa≠0)) (J2 (true,()) H9) (gf H9 (((eV H0):dA).add 0) λak=>
 eL (decide (ak≠4)) (gf H9 (((eV H0):dA).add 0) λam=>J2 (decide (am≠5),()) H9) (J2 (false,()) H9)))
 (λs2 ay=>(λ(an:Bool)=>
 eL an False (J3 () ay)) s2.1))
 (λ_ az=>
 ∃ab:dA,af=some ab/\j0 (.int .i64 Z) (ab.add 1) az λaA=>R aA))
theorem iS.calls{u}{R}{w}(h:iS.W u R w):iS.C u w R:=
 (mT (aN [(0,.fl (List.range 13) 13 [14,15,16])] [] [(2,[(29,.one .bool)]),(3,[])] [2]) (R:=λv H'=>xT [] v λ_=>R H') Tryz.func201 (eM (by kernel_rfl) h)).mono λv H' h=>by obtain⟨x,I,N⟩:=gI h;exact⟨I,N⟩
def nE.W(h:dE)(u:Int)(R:Int->dE->dE->dC->Nat->Nat->Bool->Int->Bool->dw->Prop)(H0:dw):Prop:=
 eG (eP H0 #[.int .i64 0,.string dM,.string dM,.slice none 0 0,.bool false] eX) λH1:dw=>0<=u/\u<=(h.size:Int)/\strings_HasPrefix.C (h.extract u.toNat h.size) HT H1 λbf H2=>
 eL bf (ko.C h u H2 λax ay az ac ad ae aA aW aX H3=>lj [.int .i64 ax,.string ay,.string az,.slice ac ad ae,.bool aA] (eV H0) 0 H3 λH4=>fq H4 (eV H0) λO Y Z w I N aa=>R O Y Z w I N aa aW aX H4) (strings_HasPrefix.C (h.extract u.toNat h.size) (⟨#[60,33,91,67,68,65,84,65,91]⟩:dE) H2 λbi H5=>
 eL bi False (strings_HasPrefix.C (h.extract u.toNat h.size) wm H5 λbj H6=>
 eL bj (pd.C h u H6 λaB aC aD af ag ah aE aY aZ H7=>lj [.int .i64 aB,.string aC,.string aD,.slice af ag ah,.bool aE] (eV H0) 0 H7 λH8=>fq H8 (eV H0) λO Y Z w I N aa=>R O Y Z w I N aa aY aZ H8) (strings_HasPrefix.C (h.extract u.toNat h.size) Eg H6 λbn H9=>
 eL bn (nG.C h u H9 λaF aG aH ai aj ak aI a3 a4 bo=>lj [.int .i64 aF,.string aG,.string aH,.slice ai aj ak,.bool aI] (eV H0) 0 bo λbb=>fq bb (eV H0) λO Y Z w I N aa=>R O Y Z w I N aa a3 a4 bb) (0<=(0:Int)/\(0:Int)<((h.extract u.toNat h.size).size:Int)/\
 eL (decide ((bt (h.extract u.toNat h.size) (0:Int))=60)) (lV.C h u H9 λaJ aK aL am an ao aM a5 a6 bp=>lj [.int .i64 aJ,.string aK,.string aL,.slice am an ao,.bool aM] (eV H0) 0 bp λbc=>fq bc (eV H0) λO Y Z w I N aa=>R O Y Z w I N aa a5 a6 bc) (0<=(0:Int)/\(0:Int)<((h.extract u.toNat h.size).size:Int)/\
 eL (decide ((bt (h.extract u.toNat h.size) (0:Int))=38)) (lK.C h u H9 λaO aP aQ ap aq ar aR a7 a8 bq=>lj [.int .i64 aO,.string aP,.string aQ,.slice ap aq ar,.bool aR] (eV H0) 0 bq λbd=>fq bd (eV H0) λO Y Z w I N aa=>R O Y Z w I N aa a7 a8 bd) (lW.C h u H9 λaS aT aU au av aw aV a9 ba br=>lj [.int .i64 aS,.string aT,.string aU,.slice au av aw,.bool aV] (eV H0) 0 br λbe=>fq be (eV H0) λO Y Z w I N aa=>R O Y Z w I N aa a9 ba be))))))
theorem nE.calls{w}{u}{R}{I}(h:nE.W w u R I):nE.C w u I R:=
 (mT (aN [] [] [] [5]) (R:=λv H'=>xT [.agg [.int .i64,.str,.str,.slice,.bool],.one (.int .i64),.one .bool] v λr=>R r.1.1 r.1.2.1 r.1.2.2.1 r.1.2.2.2.1.1 r.1.2.2.2.1.2.1 r.1.2.2.2.1.2.2 r.1.2.2.2.2.1 r.2.1 r.2.2.1 H') Tryz.func202 (eM (by kernel_rfl) h)).mono λv H' h=>by obtain⟨x,N,O⟩:=gI h;exact⟨x.1.1,x.1.2.1,x.1.2.2.1,x.1.2.2.2.1.1,x.1.2.2.2.1.2.1,x.1.2.2.2.1.2.2,x.1.2.2.2.2.1,x.2.1,x.2.2.1,N,O⟩
def gM.W(Y:dC)(aa:Int)(R:dw->Prop)(H0:dw):Prop:=
 ∃x5:dA,Y=some x5/\iw.C (some (x5.add 10)) H0 λx7 H1=>
 eL (decide ((0:Int)<x7)) (∃Z:dA,Y=some Z/\fU H1 (Z.add 0) λI N O=>
 ∃ae:dA,Y=some ae/\gz.C (some (ae.add 10)) H1 λak H2=>(fU H2 (Z.add 0) λh u w=>(.slice h u w:dB)=.slice I N O)/\
 eG (eP H2 #[.int .i64 3,.int .i64 aa,.string dM,.string dM,.string dM,.string ak,.slice none 0 0] eC) λH3:dw=>(fU H3 (Z.add 0) λh u w=>(.slice h u w:dB)=.slice I N O)/\ji eC 7 104 (.agg #[.int .i64 0,.int .i64 0,.string dM,.string dM,.string dM,.string dM,.slice none 0 0]) I N O (.slice (some (eV H2)) 1 1) H3 λab ac ad H4=>
 ∃af:dA,Y=some af/\j0 (.slice ab ac ad) (af.add 0) H4 λH5=>
 ∃ag:dA,Y=some ag/\gS.C (some (ag.add 10)) H5 λH6=>R H6) (R H1)
theorem gM.calls{w}{u}{R}{I}(h:gM.W w u R I):gM.C w u I R:=
 (mT (aN [(1,.ord (List.range 16))] [] [] []) (R:=λv H'=>xT [] v λ_=>R H') Tryz.func203 (eM (by kernel_rfl) h)).mono λv H' h=>by obtain⟨x,N,O⟩:=gI h;exact⟨N,O⟩
def l8.W(aB:Int)(aC:dE)(aD:dE)(Y:dC)(Z aa:Nat)(aE:Bool)(aF:dE)(ab:dC)(ac ad:Nat)(ae:dC)(af ag:Nat)(bF:dC)(bB:dC)(aG:Int)(aH:Int)(aI:Int)(aJ:Int)(R:Int->Int->dE->dE->dE->dE->dC->Nat->Nat->Int->dw->Prop)(H0:dw):Prop:=
 eG (eP H0 #[.int .i64 aB,.string aC,.string aD,.slice Y Z aa,.bool aE] eX) λH1:dw=>
 eG (eP H1 #[.string aF,.slice ab ac ad,.slice ae af ag] gL) λH2:dw=>
 eG (eP H2 #[.int .i64 aG,.int .i64 aH,.int .i64 aI,.int .i64 aJ] iG) λH3:dw=>
 eG (eP H3 #[.int .i64 0,.int .i64 0,.string dM,.string dM,.string dM,.string dM,.slice none 0 0] eC) λH4:dw=>fU H4 (((eV H0):dA).add 3) λb7 aL b8=>gf H4 (((eV H2):dA).add 3) λbH=>
 eL (decide (bH<(aL:Int))) False (fq H4 (eV H0) λaM aO aP ah ai aj aQ=>
 mF.C aM aO aP ah ai aj aQ H4 λbI H5=>
 eL (!bI) False (fq H5 (eV H0) λaS aT aU ak am an aV=>oJ H5 (eV H1) λaW ao ap aq ar au av=>kh H5 (eV H2) λaX aY aZ a0=>
 kV.C aS aT aU ak am an aV aW ao ap aq ar au av bF aX aY aZ a0 H5 λaw h bE a3 I=>
 eL (decide (a3≠0)) False (eG (eP I #[.int .i64 0,.int .i64 0,.string dM,.string dM,.string dM,.string dM,.slice none 0 0] eC) λH7:dw=>lj [.int .i64 2,.int .i64 0,.string dM,.string dM,.string dM,.string dM,.slice none 0 0] (eV I) 0 H7 λH8=>fh H8 (((eV H0):dA).add 1) λbK=>
 pe.C bK H8 λa4 a5 b9 H9=>j0 (.string a4) (((eV I):dA).add 2) H9 λbL=>j0 (.string a5) (((eV I):dA).add 3) bL λbM=>
 eA (λbN=>
 fP (λbO bP u=>(λ(N:Int)=>
 eL (decide (N<(h:Int))) (∃bw:dA,aw=some bw/\0<=N/\N<(h:Int)/\tz u (bw.add (N.toNat*2)) λa6 a7=>
 eG (eP u #[.string dM,.string dM] gx) λbQ:dw=>lj [.string a6,.string a7] (eV u) 0 bQ λw=>fh w (((eV u):dA).add 1) λbR=>
 eG (eP w #[.string dM,.string dM,.string dM,.string dM] eF) λbS:dw=>lj [.string dM,.string dM,.string dM,.string bR] (eV w) 0 bS λbx=>fh bx (((eV u):dA).add 0) λbT=>
 pe.C bT bx λa8 a9 ca bU=>j0 (.string a8) (((eV w):dA).add 0) bU λbV=>j0 (.string a9) (((eV w):dA).add 1) bV λO=>fU O (((eV I):dA).add 6) λba bb bc=>kg O (eV w) λbd be bf bg=>
 eG (eP O #[.string bd,.string be,.string bf,.string bg] eF) λbW:dw=>ji eF 4 64 (.agg #[.string dM,.string dM,.string dM,.string dM]) ba bb bc (.slice (some (eV O)) 1 1) bW λbh bi bj bX=>j0 (.slice bh bi bj) (((eV I):dA).add 6) bX λbY=>bO ((IntKind.i64.wrap (N+1):Int),()) bY) (bN () u)) bP.1) ((0:Int),()) bM)
 (λ_ bZ=>
 gZ.C bB (some (eV I)) bZ λb0 bz=>
 eL (decide (b0≠0)) False (fx bz (eV I) λbk bm bn bo bp bq ax ay az=>lj [.int .i64 bk,.int .i64 bm,.string bn,.string bo,.string bp,.string bq,.slice ax ay az] (eV H3) 0 bz λbA=>fx bA (eV H3) λb1 b2 b3 b4 b5 b6 br bu bv=>R b1 b2 b3 b4 b5 b6 br bu bv 0 bA)))))
theorem l8.calls{ac}{ad}{ae}{u}{w I}{af}{ag}{N}{O Y}{Z}{aa ab}{an}{am}{ah}{ai}{aj}{ak}{R}{H0}(h:l8.W ac ad ae u w I af ag N O Y Z aa ab an am ah ai aj ak R H0):l8.C ac ad ae u w I af ag N O Y Z aa ab an am ah ai aj ak H0 R:=
 (mT (aN [] [(11,[(53,.one (.int .i64))])] [(17,[])] [2,4,7,18]) (R:=λv H'=>xT [.agg [.int .i64,.int .i64,.str,.str,.str,.str,.slice],.one (.int .i64)] v λr=>R r.1.1 r.1.2.1 r.1.2.2.1 r.1.2.2.2.1 r.1.2.2.2.2.1 r.1.2.2.2.2.2.1 r.1.2.2.2.2.2.2.1.1 r.1.2.2.2.2.2.2.1.2.1 r.1.2.2.2.2.2.2.1.2.2 r.2.1 H') Tryz.func204 (eM (by kernel_rfl) h)).mono λv H' h=>by obtain⟨x,hv,hk⟩:=gI h;exact⟨x.1.1,x.1.2.1,x.1.2.2.1,x.1.2.2.2.1,x.1.2.2.2.2.1,x.1.2.2.2.2.2.1,x.1.2.2.2.2.2.2.1.1,x.1.2.2.2.2.2.2.1.2.1,x.1.2.2.2.2.2.2.1.2.2,x.2.1,hv,hk⟩
def fw.W(O:dC)(aG:dE)(aK:Int)(h:Int)(Y:dE)(R:Int->Int->dw->Prop)(H0:dw):Prop:=
 fP (λL1 q1 H1=>(λ(aq:Int)=>
 j8.C aG aq H1 λae af ag Z aa ab ah w N H2=>
 eG (eP H2 #[.int .i64 0,.string dM,.string dM,.slice none 0 0,.bool false] eX) λH3:dw=>lj [.int .i64 ae,.string af,.string ag,.slice Z aa ab,.bool ah] (eV H2) 0 H3 λH4=>
 eA (λJ4=>
 eA (λJ3=>
 eL (decide (N=6)) (J3 (decide (Y=dM),()) H4) (J3 (false,()) H4))
 (λs3 H6=>(λ(aO:Bool)=>
 eL aO False (J4 () H6)) s3.1))
 (λ_ H5=>
 eL (decide (N≠0)) False (
 eA (λad=>gf H5 (((eV H2):dA).add 0) λu=>
 eA (λar=>
 eL (decide (u=1)) (ar (decide (u=1),()) H5) (eL (decide (u=6)) (ar (decide (u=6),()) H5) (ar (decide (u=7),()) H5)))
 (λaP H8=>(λ(aQ:Bool)=>
 eL aQ (∃aH:dA,O=some aH/\fh H8 (((eV H2):dA).add 2) λaR=>
 ff.C (some (aH.add 10)) aR H8 λa4 a5 H9=>ad ((w:Int),(N:Int),()) H9) (eL (decide (u=8)) (fh H8 (((eV H2):dA).add 1) λaS=>
 jd.C O aS h H8 λaT aU=>ad ((w:Int),(aT:Int),()) aU) (
 eA (λaI=>
 eL (decide (u=4)) (aI (decide (u=4),()) H8) (aI (decide (u=5),()) H8))
 (λaV I=>(λ(aW:Bool)=>
 eL aW (fq I (eV H2) λaw ax ay aj ak am az=>
 hO.C O aw ax ay aj ak am az h I λaX aY=>ad ((w:Int),(aX:Int),()) aY) (eL (decide (u=2)) (fq I (eV H2) λaA aB aC an ao ap aD=>
 gn.C O aA aB aC an ao ap aD aG w h I λaE aF aZ=>ad ((aE:Int),(aF:Int),()) aZ) (fh I (((eV H2):dA).add 1) λa0=>
 eL (decide (a0≠Y)) False (gM.C O h I λa3=>R w 0 a3)))) aV.1)))) aP.1))
 (λaJ H7=>(λ(aq:Int)(au:Int)=>
 eL (decide (au≠0)) False (L1 ((aq:Int),()) H7)) aJ.1 aJ.2.1)))) q1.1) ((aK:Int),()) H0
theorem fw.calls{N}{O}{I}{u}{w}{R}{Y}(h:fw.W N O I u w R Y):fw.C N O I u w Y R:=
 (mT (aN [(15,.ord (List.range 6))] [(1,[(2,.one (.int .i64))])] [(3,[(27,.one .bool)]),(4,[]),(15,[(44,.one .bool)]),(20,[(61,.one .bool)]),(23,[(2,.one (.int .i64)),(14,.one (.int .i64))])] [3,5,9,24]) (R:=λv H'=>xT [.one (.int .i64),.one (.int .i64)] v λr=>R r.1 r.2.1 H') Tryz.func205 (eM (by kernel_rfl) h)).mono λv H' h=>by obtain⟨x,Z,hk⟩:=gI h;exact⟨x.1,x.2.1,Z,hk⟩
def gB.W(u:dC)(h ae:Nat)(R:Int->dw->Prop)(H0:dw):Prop:=
 eA (λJ3=>
 eL (decide ((h:Int)<1)) False (J3 () H0))
 (λ_ H1=>
 ∃N:dA,u=some N/\0<=(0:Int)/\(0:Int)<(h:Int)/\
 ∃O:Int,dL H1 (N.add ((0:Int).toNat))=some (.int .u64 O)/\
 eA (λJ8=>
 fP (λL5 q5 H3=>(λ(w:Int)(I:Int)=>
 eL (decide (I<(h:Int))) (∃Y:dA,u=some Y/\0<=I/\I<(h:Int)/\
 ∃Z:Int,dL H3 (Y.add I.toNat)=some (.int .u64 Z)/\
 eG (max w Z) λw:Int=>
 eG (IntKind.i64.wrap (I+1)) λad:Int=>L5 ((w:Int),(ad:Int),()) H3) (J8 ((w:Int),()) H3)) q5.1 q5.2.1) ((O:Int),(1:Int),()) H1)
 (λs8 H2=>(λ(w:Int)=>R w H2) s8.1))
theorem gB.calls{u}{w I}{R}{N}(h:gB.W u w I R N):gB.C u w I N R:=
 m1 (.one (.int .u64)) (aN [] [(5,[(3,.one (.int .u64)),(4,.one (.int .i64))])] [(3,[]),(8,[(3,.one (.int .u64))])] []) Tryz.func212 (eM (by kernel_rfl) h)
def jT.W(ao:dC)(ab:Int)(R:Int->Int->dw->Prop)(w:dw):Prop:=
 eG (eP w #[.int .u64 0,.int .i64 0] jO) λh:dw=>
 ∃x9:dA,ao=some x9/\
 ∃(I:dC)(N ad:Nat),dL h (x9.add 0)=some (.slice I N ad)/\
 ∃af:dA,I=some af/\0<=ab/\ab<(N:Int)/\
 ∃ag:dB,dL h (af.add ab.toNat)=some ag/\
 ∃O:Int,∃Y:Int,∃ae:Bool,tB ag jO (.agg #[.int .u64 O,.int .i64 Y]) (.agg #[.int .u64 0,.int .i64 0]) ae/\
 eG (eP h #[.int .u64 0,.int .i64 0] jO) λH2:dw=>(∃u,dL H2 (((eV h):dA).add 0)=some u)/\fH H2 (((eV h):dA).add 0)=false/\
 eG (gO H2 (((eV h):dA).add 0) (.int .u64 O)) λH4:dw=>(∃u,dL H4 (((eV h):dA).add 1)=some u)/\fH H4 (((eV h):dA).add 1)=false/\
 eG (gO H4 (((eV h):dA).add 1) (.int .i64 Y)) λH5:dw=>
 ∃Z:Int,dL H5 (((eV h):dA).add 0)=some (.int .u64 Z)/\
 ∃aa:Int,dL H5 (((eV h):dA).add 1)=some (.int .i64 aa)/\(∃u,dL H5 (((eV w):dA).add 0)=some u)/\fH H5 (((eV w):dA).add 0)=false/\
 eG (gO H5 (((eV w):dA).add 0) (.int .u64 Z)) λH7:dw=>(∃u,dL H7 (((eV w):dA).add 1)=some u)/\fH H7 (((eV w):dA).add 1)=false/\
 eG (gO H7 (((eV w):dA).add 1) (.int .i64 aa)) λH8:dw=>
 ∃ah:Int,dL H8 (((eV w):dA).add 0)=some (.int .u64 ah)/\
 ∃ai:Int,dL H8 (((eV w):dA).add 1)=some (.int .i64 ai)/\R ah ai H8
theorem jT.calls{u}{w}{R}{I}(h:jT.W u w R I):jT.C u w I R:=
 (mT (aN [] [] [] []) (R:=λv H'=>xS (.agg [.int .u64,.int .i64]) v λr=>R r.1 r.2.1 H') Tryz.func237 (eM (by kernel_rfl) h)).mono λv H' h=>by obtain⟨x,N,O⟩:=nS h;exact⟨x.1,x.2.1,N,O⟩
def gY.W(ab:dC)(ah:Int)(Y:Bool)(R:Int->dw->Prop)(H0:dw):Prop:=
 iu.C ab H0 λai H1=>
 eG (min (max ah 0) ai) λI:Int=>
 eL (decide (I=0)) (R 0 H1) ((64:Int)≠0/\jT.C ab (IntKind.i64.wrap (Int.tdiv I 64)) H1 λZ aa h=>
 eG (eP h #[.int .u64 0,.int .i64 0] jO) λH3:dw=>(∃u,dL H3 (((eV h):dA).add 0)=some u)/\fH H3 (((eV h):dA).add 0)=false/\
 eG (gO H3 (((eV h):dA).add 0) (.int .u64 Z)) λH5:dw=>(∃u,dL H5 (((eV h):dA).add 1)=some u)/\fH H5 (((eV h):dA).add 1)=false/\
 eG (gO H5 (((eV h):dA).add 1) (.int .i64 aa)) λH6:dw=>
 ∃N:Int,dL H6 (((eV h):dA).add 1)=some (.int .i64 N)/\
 ∃ac:Int,dL H6 (((eV h):dA).add 0)=some (.int .u64 ac)/\(64:Int)≠0/\0<=(IntKind.u64.wrap (Int.tmod I 64))/\iK.C (lx .u64 ac (IntKind.u64.wrap ((mU .u64 1 (IntKind.u64.wrap (Int.tmod I 64)))-1))) H6 λak H7=>(∃O:Int,dL H7 (((eV h):dA).add 1)=some (.int .i64 O)/\(.int .i64 O:dB)=.int .i64 N)/\
 eG (IntKind.i64.wrap (N+ak)) λw:Int=>
 eA (λJ8=>
 eL (!Y) (eG (IntKind.i64.wrap (I-w)) λw:Int=>J8 ((w:Int),()) H7) (J8 ((w:Int),()) H7))
 (λs8 H8=>(λ(w:Int)=>R w H8) s8.1))
theorem gY.calls{w}{I}{u}{R}{N}(h:gY.W w I u R N):gY.C w I u N R:=
 m1 (.one (.int .i64)) (aN [(5,.ord (List.range 13))] [] [(8,[(8,.one (.int .i64))])] []) Tryz.func238 (eM (by kernel_rfl) h)
def ib.W(h:Int)(R:Int->dw->Prop)(w:dw):Prop:=
 eL (decide (h=0)) (R 64 w) (0<=(58:Int)/\0<=mu .u64 (IntKind.u64.wrap ((lx .u64 h (IntKind.u64.wrap (0-h)))*285870213051353865)) 58/\mu .u64 (IntKind.u64.wrap ((lx .u64 h (IntKind.u64.wrap (0-h)))*285870213051353865)) 58<((64:Nat):Int)/\
 ∃u:Int,dL w ((⟨gT,0,none⟩:dA).add (jy (mu .u64 (IntKind.u64.wrap ((lx .u64 h (IntKind.u64.wrap (0-h)))*285870213051353865)) 58).toNat 1))=some (.int .u8 u)/\
 eG (IntKind.i64.wrap u) λI:Int=>R I w)
theorem ib.calls{u}{R}{w}(h:ib.W u R w):ib.C u w R:=
 m1 (.one (.int .i64)) (aN [] [] [] []) Tryz.func239 (eM (by kernel_rfl) h)
def kr.W(h:dC)(R:Int->dw->Prop)(u:dw):Prop:=
 eL (Option.isNone h) (R 0 u) (∃w:dA,h=some w/\
 ∃I:Int,dL u (w.add 2)=some (.int .i64 I)/\R I u)
theorem kr.calls{u}{R}{w}(h:kr.W u R w):kr.C u w R:=
 m1 (.one (.int .i64)) (aN [] [] [] []) Tryz.func240 (eM (by kernel_rfl) h)
def kx.W(u:dC)(Z:Int)(R:Int->Int->dw->Prop)(H0:dw):Prop:=
 eA (λJ3=>
 eA (λJ2=>
 eL (decide (Z<0)) (J2 (true,()) H0) (ku.C u H0 λaD H3=>J2 (decide (aD<=Z),()) H3))
 (λs2 H2=>(λ(aF:Bool)=>
 eL aF (R 0 4 H2) (J3 () H2)) s2.1))
 (λ_ H1=>
 ∃af:dA,u=some af/\
 ∃ag:dB,dL H1 (af.add 0)=some ag/\
 ∃(N:dC)(O ad:Nat),∃aa:Bool,tB ag qP (.slice N O ad) (.slice none 0 0) aa/\
 eA (λJ6=>
 eA (λJ5=>
 eL (!aa) (J5 (true,()) H1) (∃ah:dA,u=some ah/\
 ∃ai:Int,dL H1 (ah.add 2)=some (.int .i64 ai)/\J5 (decide (ai=0),()) H1))
 (λs5 H5=>(λ(aI:Bool)=>
 eL aI (R 0 0 H5) (J6 () H5)) s5.1))
 (λ_ Y=>
 ∃aj:dA,u=some aj/\
 ∃ak:Int,dL Y (aj.add 2)=some (.int .i64 ak)/\(64:Int)≠0/\
 ∃am:dA,u=some am/\
 ∃an:Int,dL Y (am.add 2)=some (.int .i64 an)/\(64:Int)≠0/\
 eG (IntKind.i64.wrap (Int.tdiv (IntKind.i64.wrap (Z*ak)) 64)) λI:Int=>
 eG (IntKind.u64.wrap (Int.tmod (IntKind.i64.wrap (Z*an)) 64)) λw:Int=>
 ∃ao:dA,N=some ao/\0<=I/\I<(O:Int)/\
 ∃ap:Int,dL Y (ao.add I.toNat)=some (.int .u64 ap)/\0<=w/\
 eG (mu .u64 ap w) λh:Int=>
 eA (λaq=>
 ∃ar:dA,u=some ar/\
 ∃au:Int,dL Y (ar.add 2)=some (.int .i64 au)/\
 eL (decide ((64:Int)<(IntKind.i64.wrap ((IntKind.i64.wrap w)+au)))) (∃av:dA,N=some av/\0<=IntKind.i64.wrap (I+1)/\IntKind.i64.wrap (I+1)<(O:Int)/\
 ∃aw:Int,dL Y (av.add ((IntKind.i64.wrap (I+1)).toNat))=some (.int .u64 aw)/\0<=(IntKind.u64.wrap (64-w))/\
 eG (uI .u64 h (mU .u64 aw (IntKind.u64.wrap (64-w)))) λh:Int=>aq ((h:Int),()) Y) (aq ((h:Int),()) Y))
 (λaJ H6=>(λ(h:Int)=>
 eA (λax=>
 ∃ay:dA,u=some ay/\
 ∃az:Int,dL H6 (ay.add 2)=some (.int .i64 az)/\
 eL (decide (az<64)) (∃aA:dA,u=some aA/\
 ∃ab:Int,dL H6 (aA.add 2)=some (.int .i64 ab)/\0<=(IntKind.u64.wrap ab)/\
 eG (lx .u64 h (IntKind.u64.wrap ((mU .u64 1 (IntKind.u64.wrap ab))-1))) λh:Int=>ax ((h:Int),()) H6) (ax ((h:Int),()) H6))
 (λaK H7=>(λ(h:Int)=>R h 0 H7) aK.1)) aJ.1)))
theorem kx.calls{u}{w}{R}{I}(h:kx.W u w R I):kx.C u w I R:=
 (mT (aN [(6,.ord (List.range 17))] [] [(2,[(18,.one .bool)]),(3,[]),(5,[(35,.one .bool)]),(6,[]),(10,[(10,.one (.int .u64))]),(12,[(10,.one (.int .u64))])] []) (R:=λv H'=>xT [.one (.int .u64),.one (.int .i64)] v λr=>R r.1 r.2.1 H') Tryz.func241 (eM (by kernel_rfl) h)).mono λv H' h=>by obtain⟨x,N,O⟩:=gI h;exact⟨x.1,x.2.1,N,O⟩
def ko.W(N:dE)(ae:Int)(R:Int->dE->dE->dC->Nat->Nat->Bool->Int->Bool->dw->Prop)(Y:dw):Prop:=
 eG (eP Y #[.int .i64 0,.string dM,.string dM,.slice none 0 0,.bool false] eX) λH1:dw=>
 kE.C N (IntKind.i64.wrap (ae+4)) (⟨#[45,45]⟩:dE) H1 λO h ad H2=>
 eL ad (0<=h/\h<=(N.size:Int)/\strings_HasPrefix.C (N.extract h.toNat N.size) rH H2 λah H3=>lj [.int .i64 4,.string dM,.string O,.slice none 0 0,.bool false] (eV Y) 0 H3 λH4=>
 eG (IntKind.i64.wrap (h+1)) λx5:Int=>fq H4 (eV Y) λZ aa ab u w I ac=>R Z aa ab u w I ac x5 ah H4) (lj [.int .i64 4,.string dM,.string O,.slice none 0 0,.bool false] (eV Y) 0 H2 λH5=>
 eG (IntKind.i64.wrap (h+1)) λx5:Int=>fq H5 (eV Y) λZ aa ab u w I ac=>R Z aa ab u w I ac x5 false H5)
theorem ko.calls{w}{u}{R}{I}(h:ko.W w u R I):ko.C w u I R:=
 (mT (aN [] [] [] []) (R:=λv H'=>xT [.agg [.int .i64,.str,.str,.slice,.bool],.one (.int .i64),.one .bool] v λr=>R r.1.1 r.1.2.1 r.1.2.2.1 r.1.2.2.2.1.1 r.1.2.2.2.1.2.1 r.1.2.2.2.1.2.2 r.1.2.2.2.2.1 r.2.1 r.2.2.1 H') Tryz.func258 (eM (by kernel_rfl) h)).mono λv H' h=>by obtain⟨x,N,O⟩:=gI h;exact⟨x.1.1,x.1.2.1,x.1.2.2.1,x.1.2.2.2.1.1,x.1.2.2.2.1.2.1,x.1.2.2.2.1.2.2,x.1.2.2.2.2.1,x.2.1,x.2.2.1,N,O⟩
def pd.W(aj:dE)(aE:Int)(R:Int->dE->dE->dC->Nat->Nat->Bool->Int->Bool->dw->Prop)(H0:dw):Prop:=
 eG (eP H0 #[.int .i64 0,.string dM,.string dM,.slice none 0 0,.bool false] eX) λH1:dw=>
 eG (IntKind.i64.wrap (aE+2)) λao:Int=>
 j7.C aj ao H1 λah H2=>0<=ah/\ah<=(aj.size:Int)/\0<=ao/\ao<=(ah.toNat:Int)/\
 eG (eP H2 #[.int .i64 0,.string dM,.string dM,.slice none 0 0,.bool false] eX) λH3:dw=>lj [.int .i64 5,.string (aj.extract ao.toNat ah.toNat),.string dM,.slice none 0 0,.bool false] (eV H2) 0 H3 λH4=>
 gy.C aj ah H4 λaA H5=>
 kE.C aj aA BY H5 λap ac ax H6=>j0 (.string ap) (((eV H2):dA).add 2) H6 λH7=>fq H7 (eV H2) λY Z aa h u w ab=>
 eL ax (fh H7 (((eV H2):dA).add 1) λaF=>
 wJ.C aF H7 λaG H8=>(fq H8 (eV H2) λar au av ak am an aw=>(.agg #[.int .i64 ar,.string au,.string av,.slice ak am an,.bool aw]:dB)=.agg #[.int .i64 Y,.string Z,.string aa,.slice h u w,.bool ab])/\
 eL aG (eL (decide (ah<aA)) (lj [.int .i64 Y,.string Z,.string aa,.slice h u w,.bool ab] (eV H0) 0 H8 λH9=>fq H9 (eV H0) λad ae af I N O ag=>R ad ae af I N O ag ac true H9) (lj [.int .i64 Y,.string Z,.string aa,.slice h u w,.bool ab] (eV H0) 0 H8 λaB=>fq aB (eV H0) λad ae af I N O ag=>R ad ae af I N O ag ac (decide (ap=dM)) aB)) (lj [.int .i64 Y,.string Z,.string aa,.slice h u w,.bool ab] (eV H0) 0 H8 λaC=>fq aC (eV H0) λad ae af I N O ag=>R ad ae af I N O ag ac false aC)) (lj [.int .i64 Y,.string Z,.string aa,.slice h u w,.bool ab] (eV H0) 0 H7 λaD=>fq aD (eV H0) λad ae af I N O ag=>R ad ae af I N O ag ac false aD)
theorem pd.calls{w}{u}{R}{I}(h:pd.W w u R I):pd.C w u I R:=
 (mT (aN [(7,.ord (List.range 20))] [] [] []) (R:=λv H'=>xT [.agg [.int .i64,.str,.str,.slice,.bool],.one (.int .i64),.one .bool] v λr=>R r.1.1 r.1.2.1 r.1.2.2.1 r.1.2.2.2.1.1 r.1.2.2.2.1.2.1 r.1.2.2.2.1.2.2 r.1.2.2.2.2.1 r.2.1 r.2.2.1 H') Tryz.func260 (eM (by kernel_rfl) h)).mono λv H' h=>by obtain⟨x,N,O⟩:=gI h;exact⟨x.1.1,x.1.2.1,x.1.2.2.1,x.1.2.2.2.1.1,x.1.2.2.2.1.2.1,x.1.2.2.2.1.2.2,x.1.2.2.2.2.1,x.2.1,x.2.2.1,N,O⟩
def nG.W(ac:dE)(aw:Int)(R:Int->dE->dE->dC->Nat->Nat->Bool->Int->Bool->dw->Prop)(H0:dw):Prop:=
 eG (eP H0 #[.int .i64 0,.string dM,.string dM,.slice none 0 0,.bool false] eX) λH1:dw=>
 eG (IntKind.i64.wrap (aw+2)) λan:Int=>
 j7.C ac an H1 λak H2=>0<=ak/\ak<=(ac.size:Int)/\0<=an/\an<=(ak.toNat:Int)/\
 eG (eP H2 #[.int .i64 0,.string dM,.string dM,.slice none 0 0,.bool false] eX) λH3:dw=>lj [.int .i64 3,.string (ac.extract an.toNat ak.toNat),.string dM,.slice none 0 0,.bool false] (eV H2) 0 H3 λH4=>
 gy.C ac ak H4 λam H5=>fq H5 (eV H2) λY Z aa h u w ab=>fh H5 (((eV H2):dA).add 1) λaA=>
 sx.C aA H5 λaB H6=>(fq H6 (eV H2) λad ae af I N O ag=>(.agg #[.int .i64 ad,.string ae,.string af,.slice I N O,.bool ag]:dB)=.agg #[.int .i64 Y,.string Z,.string aa,.slice h u w,.bool ab])/\
 eL aB (0<=am/\am<=(ac.size:Int)/\strings_HasPrefix.C (ac.extract am.toNat ac.size) rH H6 λaC H7=>(fq H7 (eV H2) λad ae af I N O ag=>(.agg #[.int .i64 ad,.string ae,.string af,.slice I N O,.bool ag]:dB)=.agg #[.int .i64 Y,.string Z,.string aa,.slice h u w,.bool ab])/\lj [.int .i64 Y,.string Z,.string aa,.slice h u w,.bool ab] (eV H0) 0 H7 λH8=>
 eG (IntKind.i64.wrap (am+1)) λx5:Int=>fq H8 (eV H0) λaq ar au ah ai aj av=>R aq ar au ah ai aj av x5 aC H8) (lj [.int .i64 Y,.string Z,.string aa,.slice h u w,.bool ab] (eV H0) 0 H6 λH9=>
 eG (IntKind.i64.wrap (am+1)) λx5:Int=>fq H9 (eV H0) λaq ar au ah ai aj av=>R aq ar au ah ai aj av x5 false H9)
theorem nG.calls{w}{u}{R}{I}(h:nG.W w u R I):nG.C w u I R:=
 (mT (aN [(5,.ord (List.range 15))] [] [] []) (R:=λv H'=>xT [.agg [.int .i64,.str,.str,.slice,.bool],.one (.int .i64),.one .bool] v λr=>R r.1.1 r.1.2.1 r.1.2.2.1 r.1.2.2.2.1.1 r.1.2.2.2.1.2.1 r.1.2.2.2.1.2.2 r.1.2.2.2.2.1 r.2.1 r.2.2.1 H') Tryz.func261 (eM (by kernel_rfl) h)).mono λv H' h=>by obtain⟨x,N,O⟩:=gI h;exact⟨x.1.1,x.1.2.1,x.1.2.2.1,x.1.2.2.2.1.1,x.1.2.2.2.1.2.1,x.1.2.2.2.1.2.2,x.1.2.2.2.2.1,x.2.1,x.2.2.1,N,O⟩
def lV.W(h:dE)(w:Int)(R:Int->dE->dE->dC->Nat->Nat->Bool->Int->Bool->dw->Prop)(H0:dw):Prop:=
 eG (eP H0 #[.int .i64 0,.string dM,.string dM,.slice none 0 0,.bool false] eX) λH1:dw=>
 j7.C h (IntKind.i64.wrap (w+1)) H1 λY Z=>0<=Y/\Y<=(h.size:Int)/\0<=IntKind.i64.wrap (w+1)/\IntKind.i64.wrap (w+1)<=(Y.toNat:Int)/\
 eG (eP Z #[.int .i64 0,.string dM,.string dM,.slice none 0 0,.bool false] eX) λH3:dw=>lj [.int .i64 2,.string (h.extract ((IntKind.i64.wrap (w+1)).toNat) Y.toNat),.string dM,.slice none 0 0,.bool false] (eV Z) 0 H3 λH4=>fh H4 (((eV Z):dA).add 1) λaR=>
 sx.C aR H4 λaS H5=>
 eL (!aS) False (
 fP (λL5 q5 H6=>(λ(aL:Int)=>
 gy.C h aL H6 λu H7=>0<=u/\u<=(h.size:Int)/\strings_HasPrefix.C (h.extract u.toNat h.size) Lk H7 λaT H8=>
 eL aT (j0 (.bool true) (((eV Z):dA).add 4) H8 λH9=>fq H9 (eV Z) λar au av ab ac ad aw=>lj [.int .i64 ar,.string au,.string av,.slice ab ac ad,.bool aw] (eV H0) 0 H9 λaM=>
 eG (IntKind.i64.wrap (u+2)) λx5:Int=>fq aM (eV H0) λak am an I N O ao=>R ak am an I N O ao x5 true aM) (0<=u/\u<=(h.size:Int)/\strings_HasPrefix.C (h.extract u.toNat h.size) rH H8 λaW ap=>
 eL aW (fq ap (eV Z) λax ay az ae af ag aA=>lj [.int .i64 ax,.string ay,.string az,.slice ae af ag,.bool aA] (eV H0) 0 ap λaO=>
 eG (IntKind.i64.wrap (u+1)) λx5:Int=>fq aO (eV H0) λak am an I N O ao=>R ak am an I N O ao x5 true aO) (eL (decide (u=aL)) False (mD.C h u ap λah ai aB aC aq=>
 eG (eP aq #[.string dM,.string dM] gx) λaX:dw=>lj [.string ah,.string ai] (eV aq) 0 aX λaa=>
 eL (!aC) False (fU aa (((eV Z):dA).add 3) λaD aE aF=>tz aa (eV aq) λaG aH=>
 eG (eP aa #[.string aG,.string aH] gx) λaY:dw=>ji gx 2 32 (.agg #[.string dM,.string dM]) aD aE aF (.slice (some (eV aa)) 1 1) aY λaI aJ aK aZ=>j0 (.slice aI aJ aK) (((eV Z):dA).add 3) aZ λa0=>L5 ((aB:Int),()) a0))))) q5.1) ((Y:Int),()) H5)
theorem lV.calls{w}{u}{R}{I}(h:lV.W w u R I):lV.C w u I R:=
 (mT (aN [] [(5,[(7,.one (.int .i64))])] [] [4,12,15]) (R:=λv H'=>xT [.agg [.int .i64,.str,.str,.slice,.bool],.one (.int .i64),.one .bool] v λr=>R r.1.1 r.1.2.1 r.1.2.2.1 r.1.2.2.2.1.1 r.1.2.2.2.1.2.1 r.1.2.2.2.1.2.2 r.1.2.2.2.2.1 r.2.1 r.2.2.1 H') Tryz.func262 (eM (by kernel_rfl) h)).mono λv H' h=>by obtain⟨x,N,O⟩:=gI h;exact⟨x.1.1,x.1.2.1,x.1.2.2.1,x.1.2.2.2.1.1,x.1.2.2.2.1.2.1,x.1.2.2.2.1.2.2,x.1.2.2.2.2.1,x.2.1,x.2.2.1,N,O⟩
def lK.W(ah:dE)(af:Int)(R:Int->dE->dE->dC->Nat->Nat->Bool->Int->Bool->dw->Prop)(H0:dw):Prop:=
 eG (eP H0 #[.int .i64 0,.string dM,.string dM,.slice none 0 0,.bool false] eX) λH1:dw=>
 kE.C ah (IntKind.i64.wrap (af+1)) Li H1 λh N ac H2=>
 strings_HasPrefix.C h (⟨#[35]⟩:dE) H2 λai H3=>
 eL ai (Lh.size+h.size<=9223372036854775807/\(Lh++h).size+Li.size<=9223372036854775807/\vg.C ((Lh++h)++Li) H3 λad ae H4=>
 eL ac (lj [.int .i64 7,.string dM,.string (Utf8.encode ad),.slice none 0 0,.bool false] (eV H0) 0 H4 λH5=>fq H5 (eV H0) λO Y Z u w I aa=>R O Y Z u w I aa N ae H5) (lj [.int .i64 7,.string dM,.string (Utf8.encode ad),.slice none 0 0,.bool false] (eV H0) 0 H4 λH6=>fq H6 (eV H0) λO Y Z u w I aa=>R O Y Z u w I aa N false H6)) (eL ac (wR.C h H3 λan H7=>lj [.int .i64 8,.string h,.string dM,.slice none 0 0,.bool false] (eV H0) 0 H7 λH8=>fq H8 (eV H0) λO Y Z u w I aa=>R O Y Z u w I aa N an H8) (lj [.int .i64 8,.string h,.string dM,.slice none 0 0,.bool false] (eV H0) 0 H3 λH9=>fq H9 (eV H0) λO Y Z u w I aa=>R O Y Z u w I aa N false H9))
theorem lK.calls{w}{u}{R}{I}(h:lK.W w u R I):lK.C w u I R:=
 (mT (aN [] [] [] []) (R:=λv H'=>xT [.agg [.int .i64,.str,.str,.slice,.bool],.one (.int .i64),.one .bool] v λr=>R r.1.1 r.1.2.1 r.1.2.2.1 r.1.2.2.2.1.1 r.1.2.2.2.1.2.1 r.1.2.2.2.1.2.2 r.1.2.2.2.2.1 r.2.1 r.2.2.1 H') Tryz.func263 (eM (by kernel_rfl) h)).mono λv H' h=>by obtain⟨x,N,O⟩:=gI h;exact⟨x.1.1,x.1.2.1,x.1.2.2.1,x.1.2.2.2.1.1,x.1.2.2.2.1.2.1,x.1.2.2.2.1.2.2,x.1.2.2.2.2.1,x.2.1,x.2.2.1,N,O⟩
def lW.W(w:dE)(h:Int)(R:Int->dE->dE->dC->Nat->Nat->Bool->Int->Bool->dw->Prop)(H0:dw):Prop:=
 eG (eP H0 #[.int .i64 0,.string dM,.string dM,.slice none 0 0,.bool false] eX) λH1:dw=>
 eG ((w.size:Int)) λu:Int=>
 eA (λJ5=>0<=h/\h<=(w.size:Int)/\strings_IndexAny.C (w.extract h.toNat w.size) (⟨#[60,38]⟩:dE) H1 λao H3=>
 eL (decide ((0:Int)<=ao)) (eG (IntKind.i64.wrap (h+ao)) λu:Int=>J5 ((u:Int),()) H3) (J5 ((u:Int),()) H3))
 (λs5 H2=>(λ(u:Int)=>0<=u/\u<=(w.size:Int)/\0<=h/\h<=(u.toNat:Int)/\
 eG (eP H2 #[.int .i64 0,.string dM,.string dM,.slice none 0 0,.bool false] eX) λH4:dw=>lj [.int .i64 1,.string dM,.string (w.extract h.toNat u.toNat),.slice none 0 0,.bool false] (eV H2) 0 H4 λH5=>fq H5 (eV H2) λab ac ad I N O ae=>fh H5 (((eV H2):dA).add 2) λav=>
 strings_Contains.C av Q6 H5 λaw H6=>(fq H6 (eV H2) λag ah ai Y Z aa aj=>(.agg #[.int .i64 ag,.string ah,.string ai,.slice Y Z aa,.bool aj]:dB)=.agg #[.int .i64 ab,.string ac,.string ad,.slice I N O,.bool ae])/\lj [.int .i64 ab,.string ac,.string ad,.slice I N O,.bool ae] (eV H0) 0 H6 λH7=>fq H7 (eV H0) λaz aA aB ak am an aC=>R az aA aB ak am an aC u (!aw) H7) s5.1)
theorem lW.calls{w}{u}{R}{I}(h:lW.W w u R I):lW.C w u I R:=
 (mT (aN [(6,.ord (List.range 9))] [] [(5,[(7,.one (.int .i64))])] []) (R:=λv H'=>xT [.agg [.int .i64,.str,.str,.slice,.bool],.one (.int .i64),.one .bool] v λr=>R r.1.1 r.1.2.1 r.1.2.2.1 r.1.2.2.2.1.1 r.1.2.2.2.1.2.1 r.1.2.2.2.1.2.2 r.1.2.2.2.2.1 r.2.1 r.2.2.1 H') Tryz.func264 (eM (by kernel_rfl) h)).mono λv H' h=>by obtain⟨x,N,O⟩:=gI h;exact⟨x.1.1,x.1.2.1,x.1.2.2.1,x.1.2.2.2.1.1,x.1.2.2.2.1.2.1,x.1.2.2.2.1.2.2,x.1.2.2.2.2.1,x.2.1,x.2.2.1,N,O⟩
def iw.W(u:dC)(R:Int->dw->Prop)(w:dw):Prop:=
 ∃I:dA,u=some I/\fU w (I.add 1) λN h O=>
 eG ((h:Int)) λY:Int=>R Y w
theorem iw.calls{u}{R}{w}(h:iw.W u R w):iw.C u w R:=
 m1 (.one (.int .i64)) (aN [] [] [] []) Tryz.func265 (eM (by kernel_rfl) h)
def gS.W(h:dC)(R:dw->Prop)(I:dw):Prop:=
 ∃u:dA,h=some u/\j0 (.pointer none) (u.add 0) I λN=>
 ∃w:dA,h=some w/\j0 (.slice none 0 0) (w.add 1) N λO=>R O
theorem gS.calls{u}{R}{w}(h:gS.W u R w):gS.C u w R:=
 (mT (aN [] [] [] []) (R:=λv H'=>xT [] v λ_=>R H') Tryz.func266 (eM (by kernel_rfl) h)).mono λv H' h=>by obtain⟨x,I,N⟩:=gI h;exact⟨I,N⟩
def mF.W(ai:Int)(aj:dE)(ak:dE)(ab:dC)(ac ad:Nat)(am:Bool)(R:Bool->dw->Prop)(H0:dw):Prop:=
 eG (eP H0 #[.int .i64 ai,.string aj,.string ak,.slice ab ac ad,.bool am] eX) λH1:dw=>fh H1 (((eV H0):dA).add 1) λaE=>
 pe.C aE H1 λaL aM an H2=>
 eG (H2.push (.map #[] 0)) λH3:dw=>
 eA (λaG=>fU H3 (((eV H0):dA).add 3) λap Z aO=>
 fP (λL4 q4 Y=>(λ(h:Bool)(N:Int)=>
 eL (decide (N<(Z:Int))) (
 eA (λJ9=>
 ∃ax:dA,ap=some ax/\0<=N/\N<(Z:Int)/\tz Y (ax.add (N.toNat*2)) λaq ar=>
 eG (eP Y #[.string dM,.string dM] gx) λH7:dw=>lj [.string aq,.string ar] (eV Y) 0 H7 λH8=>fh H8 (((eV Y):dA).add 0) λaJ=>
 pe.C aJ H8 λaP aQ au H9=>
 eA (λJ8=>
 eL h (eL au (fh H9 (((eV Y):dA).add 0) λay=>
 ∃(O:Array MapEntry)(af:Nat)(aa:Option (Nat×dB)),H9[(Array.size H2)]?=some (.map O af)/\(∀em w,(Instr.checkKey em 10000 fp (.string ay)).run Tryz.prog w=.ok () w)/\(∀w,(Instr.findKey fp (.string ay) O.toList).run Tryz.prog w=.ok aa w)/\WQ aa (λaw=>
 ∃az:Bool,aw=.bool az/\J8 (!az,()) H9) (J8 (true,()) H9)) (J8 (false,()) H9)) (J8 (false,()) H9))
 (λs8 ag=>(λ(h:Bool)=>fh ag (((eV Y):dA).add 0) λah=>
 ∃(u:Array MapEntry)(I:Nat),ag[(Array.size H2)]?=some (.map u I)/\(∀em w,(Instr.checkKey em 10000 fp (.string ah)).run Tryz.prog w=.ok () w)/\(∀w,(Instr.findKey fp (.string ah) u.toList).run Tryz.prog w=.ok none w)/\
 eG (Array.setIfInBounds ag (Array.size H2) (.map (u.push {key:=.string ah,val:=.bool true,born:=I}) (I+1))) λaC:dw=>J9 (h,()) aC) s8.1))
 (λs9 H6=>(λ(h:Bool)=>L4 (h,(IntKind.i64.wrap (N+1):Int),()) H6) s9.1)) (aG (h,()) Y)) q4.1 q4.2.1) (an,(0:Int),()) H3)
 (λaK H4=>(λ(h:Bool)=>R h H4) aK.1)
theorem mF.calls{N}{O}{Y}{u}{w I}{Z}{R}{H0}(h:mF.W N O Y u w I Z R H0):mF.C N O Y u w I Z H0 R:=
 m1 (.one .bool) (aN [] [(4,[(5,.one .bool),(23,.one (.int .i64))])] [(8,[(5,.one .bool)]),(9,[(5,.one .bool)]),(10,[(5,.one .bool)])] []) Tryz.func267 (eM (by kernel_rfl) h)
def kV.W(av:Int)(aw:dE)(ax:dE)(Z:dC)(aa ab:Nat)(ay:Bool)(az:dE)(ac:dC)(ad ae:Nat)(af:dC)(ag ah:Nat)(a0:dC)(aA:Int)(aB:Int)(aC:Int)(aD:Int)(R:dC->Nat->Nat->Int->dw->Prop)(H0:dw):Prop:=
 eG (eP H0 #[.int .i64 av,.string aw,.string ax,.slice Z aa ab,.bool ay] eX) λH1:dw=>
 eG (eP H1 #[.string az,.slice ac ad ae,.slice af ag ah] gL) λH2:dw=>
 eG (eP H2 #[.int .i64 aA,.int .i64 aB,.int .i64 aC,.int .i64 aD] iG) λH3:dw=>
 eA (λa4=>fU H3 (((eV H0):dA).add 3) λaE O bg=>
 fP (λL3 q3 I=>(λ(h:dC)(u w:Nat)(N:Int)=>
 eL (decide (N<(O:Int))) (∃aQ:dA,aE=some aQ/\0<=N/\N<(O:Int)/\tz I (aQ.add (N.toNat*2)) λaG aH=>
 eG (eP I #[.string dM,.string dM] gx) λH6:dw=>lj [.string aG,.string aH] (eV I) 0 H6 λH7=>fh H7 (((eV I):dA).add 1) λaR=>oJ H7 (eV H1) λaI aj ak am an ao ap=>fh H7 (((eV H0):dA).add 1) λa5=>fh H7 (((eV I):dA).add 0) λa6=>gf H7 (((eV H2):dA).add 2) λaS=>
 kp.C aI aj ak am an ao ap a5 a6 H7 λa7 H8=>(fh H8 (((eV I):dA).add 1) λaX=>(.string aX:dB)=.string aR)/\(gf H8 (((eV H2):dA).add 2) λaY=>(.int .i64 aY:dB)=.int .i64 aS)/\zW.C a0 aR a7 aS H8 λaJ aK H9=>
 eL (decide (aK≠0)) False (fh H9 (((eV I):dA).add 0) λa8=>
 eG (eP H9 #[.string a8,.string aJ] gx) λa9:dw=>ji gx 2 32 (.agg #[.string dM,.string dM]) h u w (.slice (some (eV H9)) 1 1) a9 λaL aM aO ba=>L3 ((aL,aM,aO),(IntKind.i64.wrap (N+1):Int),()) ba)) (a4 ((h,u,w),()) I)) q3.1.1 q3.1.2.1 q3.1.2.2 q3.2.1) ((none,0,0),(0:Int),()) H3)
 (λaq H4=>(λ(h:dC)(u w:Nat)=>
 eA (λbc=>fU H4 (((eV H1):dA).add 2) λbh aP bi=>
 fP (S:=((dC×Nat×Nat)×Int×Unit)) (λbm Y bd=>(λ(h:dC)(u w:Nat)(be:Int)=>
 eL (decide (be<(aP:Int))) (
 eA (S:=((dC×Nat×Nat)×Unit)) (λbn=>False)
 (λar bo=>(λ(h:dC)(u w:Nat)=>False) ar.1.1 ar.1.2.1 ar.1.2.2)) (bc ((h,u,w),()) bd)) Y.1.1 Y.1.2.1 Y.1.2.2 Y.2.1) ((h,u,w),(0:Int),()) H4)
 (λau bf=>(λ(h:dC)(u w:Nat)=>R h u w 0 bf) au.1.1 au.1.2.1 au.1.2.2)) aq.1.1 aq.1.2.1 aq.1.2.2)
theorem kV.calls{ac}{ad}{ae}{u}{w I}{af}{ag}{N}{O Y}{Z}{aa ab}{am}{ah}{ai}{aj}{ak}{R}{H0}(h:kV.W ac ad ae u w I af ag N O Y Z aa ab am ah ai aj ak R H0):kV.C ac ad ae u w I af ag N O Y Z aa ab am ah ai aj ak H0 R:=
 (mT (aN [(5,.ord [0,1,2,3,4,5,6,7,9,10,8,11,12,13,14,15,16])] [(3,[(10,.one .slice),(22,.one (.int .i64))]),(11,[(10,.one .slice),(55,.one (.int .i64))])] [(10,[(10,.one .slice)]),(20,[(10,.one .slice)]),(21,[(10,.one .slice)])] [7,12,20]) (R:=λv H'=>xT [.one .slice,.one (.int .i64)] v λr=>R r.1.1 r.1.2.1 r.1.2.2 r.2.1 H') Tryz.func268 (eM (by kernel_rfl) h)).mono λv H' h=>by obtain⟨x,hv,hk⟩:=gI h;exact⟨x.1.1,x.1.2.1,x.1.2.2,x.2.1,hv,hk⟩
def jd.W(O:dC)(h:dE)(N:Int)(R:Int->dw->Prop)(H0:dw):Prop:=
 Cb.C h H0 λu w H1=>
 eL w (∃I:dA,O=some I/\ff.C (some (I.add 10)) u H1 λY Z H2=>R 0 H2) False
theorem jd.calls{I}{w}{u}{R}{N}(h:jd.W I w u R N):jd.C I w u N R:=
 m1 (.one (.int .i64)) (aN [] [] [] [5]) Tryz.func269 (eM (by kernel_rfl) h)
def ku.W(h:dC)(R:Int->dw->Prop)(u:dw):Prop:=
 eL (Option.isNone h) (R 0 u) (∃w:dA,h=some w/\
 ∃I:Int,dL u (w.add 1)=some (.int .i64 I)/\R I u)
theorem ku.calls{u}{R}{w}(h:ku.W u R w):ku.C u w R:=
 m1 (.one (.int .i64)) (aN [] [] [] []) Tryz.func302 (eM (by kernel_rfl) h)
def mN.W(ab:dC)(I af:Nat)(ad:dB)(R:Int->dw->Prop)(H0:dw):Prop:=
 eA (λJ7=>
 fP (λL2 q2 w=>(λ(h:Int)=>
 eL (decide (h<(I:Int))) (∃u:dA,ab=some u/\0<=h/\h<(I:Int)/\
 ∃N:dE,dL w ((u.add (h.toNat*5)).add 0)=some (.string N)/\
 ∃O:dE,dL w ((u.add (h.toNat*5)).add 1)=some (.string O)/\
 ∃Y:Int,dL w ((u.add (h.toNat*5)).add 2)=some (.int .i64 Y)/\
 ∃Z:Bool,dL w ((u.add (h.toNat*5)).add 3)=some (.bool Z)/\
 ∃aa:dE,dL w ((u.add (h.toNat*5)).add 4)=some (.string aa)/\Bg Tryz.prog ad [.agg #[.string N,.string O,.int .i64 Y,.bool Z,.string aa]] w λac H3=>Sn ac (R h H3) (L2 ((IntKind.i64.wrap (h+1):Int),()) H3)) (J7 () w)) q2.1) ((0:Int),()) H0)
 (λ_ H1=>R (-1) H1)
theorem mN.calls{u}{w I}{N}{R}{O}(h:mN.W u w I N R O):mN.C u w I N O R:=
 m1 (.one (.int .i64)) (aN [] [(2,[(8,.one (.int .i64))])] [(7,[])] []) Tryz.func318 (eM (by kernel_rfl) h)
def kE.W(I:dE)(h:Int)(u:dE)(R:dE->Int->Bool->dw->Prop)(Y:dw):Prop:=
 0<=h/\h<=(I.size:Int)/\strings_Cut.C (I.extract h.toNat I.size) u Y λw O N Z=>
 eG (IntKind.i64.wrap ((IntKind.i64.wrap (h+(w.size:Int)))+(u.size:Int))) λx7:Int=>R w x7 N Z
theorem kE.calls{I}{w}{u}{R}{N}(h:kE.W I w u R N):kE.C I w u N R:=
 (mT (aN [] [] [] []) (R:=λv H'=>xT [.one .str,.one (.int .i64),.one .bool] v λr=>R r.1 r.2.1 r.2.2.1 H') Tryz.func319 (eM (by kernel_rfl) h)).mono λv H' h=>by obtain⟨x,O,Y⟩:=gI h;exact⟨x.1,x.2.1,x.2.2.1,O,Y⟩
def mD.W(h:dE)(w:Int)(R:dE->dE->Int->Bool->dw->Prop)(H0:dw):Prop:=
 eG (eP H0 #[.string dM,.string dM] gx) λH1:dw=>
 j7.C h w H1 λO H2=>0<=O/\O<=(h.size:Int)/\0<=w/\w<=(O.toNat:Int)/\
 eG (eP H2 #[.string dM,.string dM] gx) λH3:dw=>lj [.string (h.extract w.toNat O.toNat),.string dM] (eV H2) 0 H3 λH4=>
 gy.C h O H4 λY H5=>
 eA (λJ6=>
 eA (λJ5=>fh H5 (((eV H2):dA).add 0) λar=>
 sx.C ar H5 λau H8=>
 eL (!au) (J5 (true,()) H8) (0<=Y/\Y<=(h.size:Int)/\strings_HasPrefix.C (h.extract Y.toNat h.size) Q8 H8 λaw H9=>J5 (!aw,()) H9))
 (λs5 H7=>(λ(ax:Bool)=>
 eL ax False (J6 () H7)) s5.1))
 (λ_ H6=>
 gy.C h (IntKind.i64.wrap (Y+1)) H6 λu ad=>
 eA (λJ9=>
 eA (λJ8=>
 eL (decide (u=(h.size:Int))) (J8 (true,()) ad) (0<=u/\u<(h.size:Int)/\
 eL (decide ((bt h u)≠34)) (0<=u/\u<(h.size:Int)/\J8 (decide ((bt h u)≠39),()) ad) (J8 (false,()) ad)))
 (λs8 ay=>(λ(az:Bool)=>
 eL az False (J9 () ay)) s8.1))
 (λ_ aA=>0<=IntKind.i64.wrap (u+1)/\IntKind.i64.wrap (u+1)<=(h.size:Int)/\0<=u/\u<=((IntKind.i64.wrap (u+1)).toNat:Int)/\kE.C h (IntKind.i64.wrap (u+1)) (h.extract u.toNat ((IntKind.i64.wrap (u+1)).toNat)) aA λZ aa aj aB=>j0 (.string Z) (((eV H2):dA).add 1) aB λae=>tz ae (eV H2) λI N=>
 eL aj (strings_Contains.C Z HV ae λaC ak=>(tz ak (eV H2) λaf ag=>(.agg #[.string af,.string ag]:dB)=.agg #[.string I,.string N])/\lj [.string I,.string N] (eV H0) 0 ak λam=>tz am (eV H0) λah ai=>R ah ai aa (!aC) am) (lj [.string I,.string N] (eV H0) 0 ae λan=>tz an (eV H0) λah ai=>R ah ai aa false an)))
theorem mD.calls{w}{u}{R}{I}(h:mD.W w u R I):mD.C w u I R:=
 (mT (aN [(11,.ord (List.range 11))] [] [(5,[(32,.one .bool)]),(6,[]),(8,[(54,.one .bool)]),(9,[])] [5,8]) (R:=λv H'=>xT [.agg [.str,.str],.one (.int .i64),.one .bool] v λr=>R r.1.1 r.1.2.1 r.2.1 r.2.2.1 H') Tryz.func320 (eM (by kernel_rfl) h)).mono λv H' h=>by obtain⟨x,N,O⟩:=gI h;exact⟨x.1.1,x.1.2.1,x.2.1,x.2.2.1,N,O⟩
def kp.W(aa:dE)(h:dC)(u w:Nat)(I:dC)(N O:Nat)(Y:dE)(Z:dE)(R:Int->dw->Prop)(H0:dw):Prop:=
 eG (eP H0 #[.string aa,.slice h u w,.slice I N O] gL) λH1:dw=>
 eG (eP H1 #[.string Y] fp) λH2:dw=>
 eG (eP H2 #[.string Z] fp) λH3:dw=>fU H3 (((eV H0):dA).add 2) λab ac ad=>
 mN.C ab ac ad (.func (.func 364) #[] #[.pointer (some (eV H1)),.pointer (some (eV H2))]) H3 λai H4=>
 eL (decide (ai<0)) (R 1 H4) False
theorem kp.calls{ab}{u}{w I}{N}{O Y}{Z}{aa}{R}{H0}(h:kp.W ab u w I N O Y Z aa R H0):kp.C ab u w I N O Y Z aa H0 R:=
 m1 (.one (.int .i64)) (aN [] [] [] [4]) Tryz.func323 (eM (by kernel_rfl) h)
end Go.Proofs.fv
