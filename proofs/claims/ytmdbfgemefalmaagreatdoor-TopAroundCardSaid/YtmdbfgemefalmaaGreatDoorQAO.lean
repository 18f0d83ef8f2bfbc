/- Part AO of the proof that the law TopAround answers true at every input, under no condition. -/
import Derived.Test.YtmdbfgemefalmaaGreatDoorQAN
import Derived.KernelRfl
set_option linter.unusedVariables false
set_option maxHeartbeats 2000000
set_option maxRecDepth 100000
namespace Go.Proofs.fv
open Go.Ex
def iE.W(ab:dC)(ac ad:Nat)(ae:Int)(R:Bool->dw->Prop)(H0:dw):Prop:=
 iU.C ab ac ad H0 λw I N H1=>
 eG (IntKind.u64.wrap ae) λn6:Int=>
 eA (λJ6=>
 eL (decide ((lx .u64 n6 1)=1)) (J6 ((⟨#[239,187,191]⟩:dE),()) H1) (J6 (dM,()) H1))
 (λs6 H2=>(λ(h:dE)=>
 eA (λJ8=>
 eL (decide ((lx .u64 n6 2)=2)) (h.size+UF.size<=9223372036854775807/\J8 (h++UF,()) H2) (J8 (h,()) H2))
 (λs8 H3=>(λ(h:dE)=>
 eA (λao=>
 eL (decide ((lx .u64 n6 4)=4)) (h.size+UE.size<=9223372036854775807/\ao (h++UE,()) H3) (ao (h,()) H3))
 (λay H4=>(λ(h:dE)=>
 eA (λap=>
 eL (decide ((lx .u64 n6 8)=8)) (h.size+RP.size<=9223372036854775807/\ap (h++RP,()) H4) (ap (h,()) H4))
 (λaA H5=>(λ(h:dE)=>
 ij.C w I N 0 H5 λO H6=>h.size+O.size<=9223372036854775807/\
 eA (λaq=>
 eL (decide ((lx .u64 n6 16)=16)) ((h++O).size+UD.size<=9223372036854775807/\aq ((h++O)++UD,()) H6) (aq (h++O,()) H6))
 (λaC H7=>(λ(h:dE)=>∀u,h.size<=u->eG (H7.push (.cells ((fV h).toArray++Array.replicate (u-h.size) (.int .u8 0)) lI (u,u+1))) λH8:dw=>
 jD.C H8 λaf ag ah ai H9=>
 lT.C (some (eV H7)) h.size u af ag ah ai H9 λY aj aE=>
 tA.C aE λaF Z=>
 eL aF (eL (decide (aj=0)) (eL (Option.isSome Y) (iv.C Y Z λak am an aG=>
 iT.C ak am an w I N aG λaH aI=>R aH aI) (R false Z)) (R false Z)) (R false Z)) aC.1)) aA.1)) ay.1)) s8.1)) s6.1)
theorem iE.calls{u}{w I}{N}{R}{O}(h:iE.W u w I N R O):iE.C u w I N O R:=
 m1 (.one .bool) (aN [] [] [(6,[(7,.one .str)]),(8,[(7,.one .str)]),(10,[(7,.one .str)]),(12,[(7,.one .str)]),(15,[(7,.one .str)])] []) Tryz.func4 (eM (by kernel_rfl) h)
def lT.W(I:dC)(N O:Nat)(Y:Int)(Z:Int)(aa:Int)(ab:Int)(R:dC->Int->dw->Prop)(H0:dw):Prop:=
 eG (eP H0 #[.int .i64 Y,.int .i64 Z,.int .i64 aa,.int .i64 ab] iG) λH1:dw=>kh H1 (eV H0) λac ad ae af=>
 nI.C I N O ac ad ae af H1 λh u w ag H2=>
 eL (decide (ag≠0)) False (nR.C h u w H2 λah ai H3=>
 eL (decide (ai≠0)) False (eG (eP H3 #[.iface qp (.pointer ah)] qO) λH4:dw=>R (some (eV H3)) 0 H4))
theorem lT.calls{u}{w I}{N}{O}{Y}{Z}{R}{H0}(h:lT.W u w I N O Y Z R H0):lT.C u w I N O Y Z H0 R:=
 (mT (aN [] [] [] [3,6]) (R:=λv H'=>xT [.one .ptr,.one (.int .i64)] v λr=>R r.1 r.2.1 H') Tryz.func5 (eM (by kernel_rfl) h)).mono λv H' h=>by obtain⟨x,hv,hk⟩:=gI h;exact⟨x.1,x.2.1,hv,hk⟩
def iU.W(a7:dC)(an cE:Nat)(R:dC->Nat->Nat->dw->Prop)(H0:dw):Prop:=
 eG (eP H0 #[.int .i64 1,.int .i64 0,.string dM,.string dM,.string dM,.string dM,.slice none 0 0] eC) λH1:dw=>
 eG (eP H1 #[.slice none 0 0] mq) λH2:dw=>
 eA (λbg=>
 fP (λL5 q5 H4=>(λ(w:dC)(u I:Nat)(h:Bool)(i6:Int)=>
 eA (λJ7=>
 eL (decide (i6<(an:Int))) (eL (decide (i6<30)) (J7 () H4) (bg ((w,u,I),h,()) H4)) (bg ((w,u,I),h,()) H4))
 (λ_ H5=>
 eA (λJ6=>
 ∃bh:dA,a7=some bh/\0<=i6/\i6<(an:Int)/\gf H5 (bh.add i6.toNat) λb0=>
 eG (IntKind.u64.wrap b0) λO:Int=>
 ∃bi:dA,w=some bi/\0<=IntKind.i64.wrap ((u:Int)-1)/\IntKind.i64.wrap ((u:Int)-1)<(u:Int)/\fx H5 (bi.add ((IntKind.i64.wrap ((u:Int)-1)).toNat*7)) λa8 a9 ba bb bc bd ar au av=>
 eG (eP H5 #[.int .i64 0,.int .i64 0,.string dM,.string dM,.string dM,.string dM,.slice none 0 0] eC) λH7:dw=>lj [.int .i64 a8,.int .i64 a9,.string ba,.string bb,.string bc,.string bd,.slice ar au av] ⟨Array.size H5,0,none⟩ 0 H7 λH8=>gf H8 ((⟨Array.size H5,0,none⟩:dA).add 1) λbj=>
 eA (λbk=>
 eA (λbm=>gf H8 ((⟨Array.size H5,0,none⟩:dA).add 0) λb1=>
 eL (decide (b1=2)) (bm (true,()) H8) (gf H8 ((⟨Array.size H5,0,none⟩:dA).add 0) λb2=>bm (decide (b2=1),()) H8))
 (λb3 bn=>(λ(b4:Bool)=>
 eL b4 (eG (IntKind.i64.wrap (bj+1)) λaf:Int=>bk ((af:Int),()) bn) (bk ((bj:Int),()) bn)) b3.1))
 (λb5 H9=>(λ(af:Int)=>(64:Int)≠0/\(3:Int)≠0/\
 eG (IntKind.i64.wrap (af-(Int.tmod (IntKind.i64.wrap (IntKind.u64.wrap (Int.tdiv O 64))) 3))) λY:Int=>
 eA (λbo=>
 eL (decide (Y<1)) (bo ((1:Int),()) H9) (bo ((Y:Int),()) H9))
 (λb7 ay=>(λ(Y:Int)=>
 eA (λbp=>
 eA (λaz=>
 eL h (eL (decide (Y<2)) ((8:Int)≠0/\az (decide ((Int.tmod O 8)<6),()) ay) (az (false,()) ay)) (az (false,()) ay))
 (λb8 bq=>(λ(b9:Bool)=>
 eL b9 (eG (min 2 af) λY:Int=>bp ((Y:Int),()) bq) (bp ((Y:Int),()) bq)) b8.1))
 (λca cb=>(λ(Y:Int)=>
 eA (λcc=>
 fP (λcd _ aA=>
 ∃br:dA,some ⟨Array.size H1,0,none⟩=some br/\fU aA (br.add 0) λcF be cG=>
 eL (decide (Y<=(be:Int))) (fX.C (some ⟨Array.size H1,0,none⟩) aA λcN ce=>cd () ce) (cc () aA)) () cb)
 (λ_ N=>
 eG (eP N #[.int .i64 0,.int .i64 0,.string dM,.string dM,.string dM,.string dM,.slice none 0 0] eC) λcf:dw=>lj [.int .i64 0,.int .i64 Y,.string dM,.string dM,.string dM,.string dM,.slice none 0 0] ⟨Array.size N,0,none⟩ 0 cf λZ=>
 eA (λaa=>(8:Int)≠0/\
 eG (Int.tmod O 8) λaB:Int=>
 eL (decide (aB<4)) (
 eA (λbu=>
 eL (decide (Y=1)) (eL h (J6 ((w,u,I),h,()) Z) (bu () Z)) (bu () Z))
 (λ_ bv=>
 eG (eP bv #[.string UC,.string (⟨#[98]⟩:dE),.string UB,.string UC] fp) λbw:dw=>(8:Int)≠0/\(4:Int)≠0/\
 ∃aC:dA,some ⟨Array.size bv,0,none⟩=some aC/\0<=Int.tmod (IntKind.u64.wrap (Int.tdiv O 8)) 4/\Int.tmod (IntKind.u64.wrap (Int.tdiv O 8)) 4<(4:Int)/\fh bw (aC.add ((Int.tmod (IntKind.u64.wrap (Int.tdiv O 8)) 4).toNat)) λbL=>j0 (.int .i64 2) ((⟨Array.size N,0,none⟩:dA).add 0) bw λcg=>j0 (.string bL) ((⟨Array.size N,0,none⟩:dA).add 3) cg λch=>(32:Int)≠0/\iF.C (IntKind.u64.wrap (Int.tdiv O 32)) ch λaD aE aF ci=>j0 (.slice aD aE aF) ((⟨Array.size N,0,none⟩:dA).add 6) ci λbx=>
 eG (eP bx #[.string dM,.string dM,.string RO,.string HX] fp) λbz:dw=>(256:Int)≠0/\(4:Int)≠0/\
 ∃aG:dA,some ⟨Array.size bx,0,none⟩=some aG/\0<=Int.tmod (IntKind.u64.wrap (Int.tdiv O 256)) 4/\Int.tmod (IntKind.u64.wrap (Int.tdiv O 256)) 4<(4:Int)/\fh bz (aG.add ((Int.tmod (IntKind.u64.wrap (Int.tdiv O 256)) 4).toNat)) λbM=>j0 (.string bM) ((⟨Array.size N,0,none⟩:dA).add 2) bz λbA=>fU bA ((⟨Array.size N,0,none⟩:dA).add 6) λaH aI aJ=>
 fO.C (some ⟨Array.size H1,0,none⟩) aH aI aJ bA λbN bB=>
 eL (decide (bN≠0)) (J6 ((w,u,I),h,()) bB) (
 eA (λbC=>
 gR.C (some ⟨Array.size H1,0,none⟩) (some ⟨Array.size N,0,none⟩) bB λbO bD=>
 eL (!bO) (fX.C (some ⟨Array.size H1,0,none⟩) bD λcL cj=>j0 (.string dM) ((⟨Array.size N,0,none⟩:dA).add 2) cj λck=>j0 (.slice none 0 0) ((⟨Array.size N,0,none⟩:dA).add 6) ck λcm=>
 fO.C (some ⟨Array.size H1,0,none⟩) none 0 0 cm λbP bE=>
 eL (decide (bP≠0)) (J6 ((w,u,I),h,()) bE) (gR.C (some ⟨Array.size H1,0,none⟩) (some ⟨Array.size N,0,none⟩) bE λbQ bF=>
 eL (!bQ) (J6 ((w,u,I),h,()) bF) (bC () bF))) (bC () bD))
 (λ_ bG=>
 eL h (aa (true,()) bG) (aa (decide (Y=1),()) bG))))) (eL (decide (aB<6)) (eG (eP Z #[.string Ll,.string (⟨#[32,121,10]⟩:dE),.string (⟨#[60,38,62,34]⟩:dE),.string (⟨#[13,9]⟩:dE),.string (⟨#[195,169,93,93,62]⟩:dE),.string (⟨#[116,101,120,116]⟩:dE)] fp) λbH:dw=>(8:Int)≠0/\(6:Int)≠0/\
 ∃aK:dA,some ⟨Array.size Z,0,none⟩=some aK/\0<=Int.tmod (IntKind.u64.wrap (Int.tdiv O 8)) 6/\Int.tmod (IntKind.u64.wrap (Int.tdiv O 8)) 6<(6:Int)/\fh bH (aK.add ((Int.tmod (IntKind.u64.wrap (Int.tdiv O 8)) 6).toNat)) λbR=>j0 (.int .i64 3) ((⟨Array.size N,0,none⟩:dA).add 0) bH λcn=>j0 (.string bR) ((⟨Array.size N,0,none⟩:dA).add 5) cn λab=>
 eL (decide (Y=1)) (J6 ((w,u,I),h,()) ab) (gf ab ((⟨Array.size H5,0,none⟩:dA).add 0) λbS=>
 eL (decide (bS=3)) (gf ab ((⟨Array.size H5,0,none⟩:dA).add 1) λbT=>
 eL (decide (bT=Y)) (J6 ((w,u,I),h,()) ab) (aa (h,()) ab)) (aa (h,()) ab))) (eL (decide (aB=6)) (eG (eP Z #[.string dM,.string UB,.string (⟨#[32,45,32]⟩:dE),.string (⟨#[60,38,62]⟩:dE)] fp) λbI:dw=>(8:Int)≠0/\(4:Int)≠0/\
 ∃aL:dA,some ⟨Array.size Z,0,none⟩=some aL/\0<=Int.tmod (IntKind.u64.wrap (Int.tdiv O 8)) 4/\Int.tmod (IntKind.u64.wrap (Int.tdiv O 8)) 4<(4:Int)/\fh bI (aL.add ((Int.tmod (IntKind.u64.wrap (Int.tdiv O 8)) 4).toNat)) λbU=>j0 (.int .i64 4) ((⟨Array.size N,0,none⟩:dA).add 0) bI λco=>j0 (.string bU) ((⟨Array.size N,0,none⟩:dA).add 5) co λcp=>aa (h,()) cp) ((8:Int)≠0/\(2:Int)≠0/\(16:Int)≠0/\(3:Int)≠0/\(eG (eP Z #[.string Rf,.string HX] fp) λaM:dw=>
 ∃ac:dA,some ⟨Array.size Z,0,none⟩=some ac/\0<=Int.tmod (IntKind.u64.wrap (Int.tdiv O 8)) 2/\Int.tmod (IntKind.u64.wrap (Int.tdiv O 8)) 2<(2:Int)/\fh aM (ac.add ((Int.tmod (IntKind.u64.wrap (Int.tdiv O 8)) 2).toNat)) λao=>
 eG (eP aM #[.string dM,.string Re,.string Rc] fp) λaO:dw=>(fh aO (ac.add ((Int.tmod (IntKind.u64.wrap (Int.tdiv O 8)) 2).toNat)) λbV=>(.string bV:dB)=.string ao)/\
 ∃ad:dA,some ⟨Array.size aM,0,none⟩=some ad/\0<=Int.tmod (IntKind.u64.wrap (Int.tdiv O 16)) 3/\Int.tmod (IntKind.u64.wrap (Int.tdiv O 16)) 3<(3:Int)/\fh aO (ad.add ((Int.tmod (IntKind.u64.wrap (Int.tdiv O 16)) 3).toNat)) λap=>j0 (.int .i64 5) ((⟨Array.size N,0,none⟩:dA).add 0) aO λcq=>j0 (.string ao) ((⟨Array.size N,0,none⟩:dA).add 3) cq λcr=>j0 (.string ap) ((⟨Array.size N,0,none⟩:dA).add 5) cr λct=>aa (h,()) ct)/\(eG (eP Z #[.string dM,.string Re,.string Rc] fp) λaP:dw=>
 ∃ad:dA,some ⟨Array.size Z,0,none⟩=some ad/\0<=Int.tmod (IntKind.u64.wrap (Int.tdiv O 16)) 3/\Int.tmod (IntKind.u64.wrap (Int.tdiv O 16)) 3<(3:Int)/\fh aP (ad.add ((Int.tmod (IntKind.u64.wrap (Int.tdiv O 16)) 3).toNat)) λap=>
 eG (eP aP #[.string Rf,.string HX] fp) λaQ:dw=>(fh aQ (ad.add ((Int.tmod (IntKind.u64.wrap (Int.tdiv O 16)) 3).toNat)) λbW=>(.string bW:dB)=.string ap)/\
 ∃ac:dA,some ⟨Array.size aP,0,none⟩=some ac/\0<=Int.tmod (IntKind.u64.wrap (Int.tdiv O 8)) 2/\Int.tmod (IntKind.u64.wrap (Int.tdiv O 8)) 2<(2:Int)/\fh aQ (ac.add ((Int.tmod (IntKind.u64.wrap (Int.tdiv O 8)) 2).toNat)) λao=>j0 (.int .i64 5) ((⟨Array.size N,0,none⟩:dA).add 0) aQ λcu=>j0 (.string ao) ((⟨Array.size N,0,none⟩:dA).add 3) cu λcv=>j0 (.string ap) ((⟨Array.size N,0,none⟩:dA).add 5) cv λcw=>aa (h,()) cw)))))
 (λcx aR=>(λ(h:Bool)=>fx aR ⟨Array.size N,0,none⟩ λaS aT aU aV aW aX aj ak am=>
 eG (eP aR #[.int .i64 aS,.int .i64 aT,.string aU,.string aV,.string aW,.string aX,.slice aj ak am] eC) λcy:dw=>ji eC 7 104 (.agg #[.int .i64 0,.int .i64 0,.string dM,.string dM,.string dM,.string dM,.slice none 0 0]) w u I (.slice (some ⟨Array.size aR,0,none⟩) 1 1) cy λaY aZ a0 cz=>J6 ((aY,aZ,a0),h,()) cz) cx.1))) ca.1)) b7.1)) b5.1))
 (λs6 H6=>(λ(w:dC)(u I:Nat)(h:Bool)=>
 eG (IntKind.i64.wrap (i6+1)) λi6:Int=>L5 ((w,u,I),h,(i6:Int),()) H6) s6.1.1 s6.1.2.1 s6.1.2.2 s6.2.1))) q5.1.1 q5.1.2.1 q5.1.2.2 q5.2.1 q5.2.2.1) ((some ⟨Array.size H0,0,none⟩,1,1),false,(0:Int),()) H2)
 (λaq H3=>(λ(w:dC)(u I:Nat)(h:Bool)=>
 eA (λbJ=>
 eL (!h) (eG (eP H3 #[.int .i64 2,.int .i64 1,.string dM,.string (⟨#[114]⟩:dE),.string dM,.string dM,.slice none 0 0] eC) λcA:dw=>ji eC 7 104 (.agg #[.int .i64 0,.int .i64 0,.string dM,.string dM,.string dM,.string dM,.slice none 0 0]) w u I (.slice (some ⟨Array.size H3,0,none⟩) 1 1) cA λa3 a4 a5 cB=>bJ ((a3,a4,a5),()) cB) (bJ ((w,u,I),()) H3))
 (λa6 cC=>(λ(w:dC)(u I:Nat)=>
 jq.C w u I cC λbY cD=>
 eL (!bY) False (R w u I cD)) a6.1.1 a6.1.2.1 a6.1.2.2)) aq.1.1 aq.1.2.1 aq.1.2.2 aq.2.1)
theorem iU.calls{u}{w I}{R}{N}(h:iU.W u w I R N):iU.C u w I N R:=
 (mT (aN [(21,.ord [1,2,3,7,8,9,0,4,5,6,10,11,12,13,14,15,16,17,1,2,3,7,8,9,6,10,11,0,4,5,12,13,14,15,16,17])] [(5,[(3,.one .slice),(5,.one .bool),(6,.one (.int .i64))]),(17,[])] [(6,[(3,.one .slice),(5,.one .bool)]),(7,[]),(11,[(47,.one .bool)]),(12,[(9,.one (.int .i64))]),(15,[(10,.one (.int .i64))]),(16,[(67,.one .bool)]),(17,[(10,.one (.int .i64))]),(19,[]),(24,[]),(32,[]),(38,[(5,.one .bool)]),(39,[(3,.one .slice),(5,.one .bool)]),(41,[(3,.one .slice)])] [42]) (R:=λv H'=>xS (.one .slice) v λr=>R r.1 r.2.1 r.2.2 H') Tryz.func10 (eM (by kernel_rfl) h)).mono λv H' h=>by obtain⟨x,O,Y⟩:=nS h;exact⟨x.1,x.2.1,x.2.2,O,Y⟩
def ij.W(u:dC)(w O:Nat)(h:Int)(R:dE->dw->Prop)(H0:dw):Prop:=
 ∃ak:dA,u=some ak/\0<=h/\h<(w:Int)/\fx H0 (ak.add (h.toNat*7)) λad ae af ag ah ai Y Z aa=>
 ia.C ad ae af ag ah ai Y Z aa H0 λN H1=>
 eA (λJ7=>
 eG (IntKind.i64.wrap (h+1)) λi7:Int=>
 fP (λL4 q4 H3=>(λ(I:dE)(i7:Int)=>
 ir.C u w O h H3 λav H4=>
 eL (decide (i7<av)) (ij.C u w O i7 H4 λam H5=>I.size+am.size<=9223372036854775807/\ir.C u w O i7 H5 λax H6=>L4 (I++am,(ax:Int),()) H6) (J7 (I,()) H4)) q4.1 q4.2.1) (dM,(i7:Int),()) H1)
 (λs7 H2=>(λ(I:dE)=>
 ∃an:dA,u=some an/\0<=h/\h<(w:Int)/\gf H2 ((an.add (h.toNat*7)).add 0) λay=>
 eL (decide (ay≠2)) (N.size+I.size<=9223372036854775807/\R (N++I) H2) (ir.C u w O h H2 λaz H7=>
 eL (decide (az=(IntKind.i64.wrap (h+1)))) (N.size+Lk.size<=9223372036854775807/\R (N++Lk) H7) (N.size+rH.size<=9223372036854775807/\(N++rH).size+I.size<=9223372036854775807/\((N++rH)++I).size+Eg.size<=9223372036854775807/\
 ∃ao:dA,u=some ao/\0<=h/\h<(w:Int)/\fh H7 ((ao.add (h.toNat*7)).add 2) λaA=>
 ∃ap:dA,u=some ap/\0<=h/\h<(w:Int)/\fh H7 ((ap.add (h.toNat*7)).add 3) λaB=>
 gQ.C aA aB H7 λac H8=>(((N++rH)++I)++Eg).size+ac.size<=9223372036854775807/\((((N++rH)++I)++Eg)++ac).size+rH.size<=9223372036854775807/\R (((((N++rH)++I)++Eg)++ac)++rH) H8))) s7.1)
theorem ij.calls{u}{w I}{N}{R}{O}(h:ij.W u w I N R O):ij.C u w I N O R:=
 m1 (.one .str) (aN [(11,.ord (List.range 19))] [(4,[(6,.one .str),(7,.one (.int .i64))])] [(7,[(6,.one .str)])] []) Tryz.func11 (eM (by kernel_rfl) h)
def jD.W(R:Int->Int->Int->Int->dw->Prop)(h:dw):Prop:=
 eG (eP h #[.int .i64 0,.int .i64 0,.int .i64 0,.int .i64 0] iG) λY:dw=>lj [.int .i64 100000,.int .i64 30,.int .i64 3000,.int .i64 30] (eV h) 0 Y λu=>kh u (eV h) λw I N O=>R w I N O u
theorem jD.calls{R}{u}(h:jD.W R u):jD.C u R:=
 (mT (aN [] [] [] []) (R:=λv H'=>xS (.agg [.int .i64,.int .i64,.int .i64,.int .i64]) v λr=>R r.1 r.2.1 r.2.2.1 r.2.2.2.1 H') Tryz.func12 (eM (by kernel_rfl) h)).mono λv H' h=>by obtain⟨x,w,I⟩:=nS h;exact⟨x.1,x.2.1,x.2.2.1,x.2.2.2.1,w,I⟩
def iT.W(h:dC)(u w:Nat)(I:dC)(N O:Nat)(R:Bool->dw->Prop)(Y:dw):Prop:=
 jB.C h u w I N O Y λZ H1=>R (decide (Z<0)) H1
theorem iT.calls{u}{w I}{N}{O Y}{R}{Z}(h:iT.W u w I N O Y R Z):iT.C u w I N O Y Z R:=
 m1 (.one .bool) (aN [] [] [] []) Tryz.func13 (eM (by kernel_rfl) h)
def iv.W(I:dC)(R:dC->Nat->Nat->dw->Prop)(N:dw):Prop:=
 jg.C I N λO Y=>
 jY.C O Y λh u w Z=>R h u w Z
theorem iv.calls{u}{R}{w}(h:iv.W u R w):iv.C u w R:=
 (mT (aN [] [] [] []) (R:=λv H'=>xS (.one .slice) v λr=>R r.1 r.2.1 r.2.2 H') Tryz.func14 (eM (by kernel_rfl) h)).mono λv H' h=>by obtain⟨x,I,N⟩:=nS h;exact⟨x.1,x.2.1,x.2.2,I,N⟩
def nI.W(an:dC)(ai ao:Nat)(ap:Int)(aq:Int)(ar:Int)(au:Int)(R:dC->Nat->Nat->Int->dw->Prop)(H0:dw):Prop:=
 eG (eP H0 #[.int .i64 ap,.int .i64 aq,.int .i64 ar,.int .i64 au] iG) λH1:dw=>kh H1 (eV H0) λav aw ax ay=>
 pf.C av aw ax ay H1 λaJ H2=>
 eL (!aJ) False (gf H2 (((eV H0):dA).add 0) λaL=>
 eL (decide (aL<(ai:Int))) False (nH.C an ai ao H2 λaf az H3=>
 eL (decide (az≠0)) False (kh H3 (eV H0) λN O Y Z=>(mW.C dM none 0 0 (none) 0 0 H3 λaj H4=>(kh H4 (eV H0) λh u w I=>(.agg #[.int .i64 h,.int .i64 u,.int .i64 w,.int .i64 I]:dB)=.agg #[.int .i64 N,.int .i64 O,.int .i64 Y,.int .i64 Z])/\(kN.C H4 λag H5=>(kh H5 (eV H0) λh u w I=>(.agg #[.int .i64 h,.int .i64 u,.int .i64 w,.int .i64 I]:dB)=.agg #[.int .i64 N,.int .i64 O,.int .i64 Y,.int .i64 Z])/\
 eG (eP H5 #[.int .i64 1,.int .i64 0,.string dM,.string dM,.string dM,.string dM,.slice none 0 0] eC) λH6:dw=>(kh H6 (eV H0) λh u w I=>(.agg #[.int .i64 h,.int .i64 u,.int .i64 w,.int .i64 I]:dB)=.agg #[.int .i64 N,.int .i64 O,.int .i64 Y,.int .i64 Z])/\
 eG (eP H6 #[.slice (some (eV H5)) 1 1,.int .i64 N,.int .i64 O,.int .i64 Y,.int .i64 Z,.string dM,.slice none 0 0,.slice none 0 0,.pointer aj,.pointer ag,.pointer none,.slice none 0 0,.bool false] iX) λH7:dw=>
 im.C (some (eV H6)) af H7 λah H8=>
 eL (decide (ah≠0)) False (∃ad:dA,some (eV H6)=some ad/\fU H8 (ad.add 0) λaa ab ac=>R aa ab ac 0 H8))/\(eG (eP H4 #[.int .i64 1,.int .i64 0,.string dM,.string dM,.string dM,.string dM,.slice none 0 0] eC) λH9:dw=>(kh H9 (eV H0) λh u w I=>(.agg #[.int .i64 h,.int .i64 u,.int .i64 w,.int .i64 I]:dB)=.agg #[.int .i64 N,.int .i64 O,.int .i64 Y,.int .i64 Z])/\kN.C H9 λag ak=>(kh ak (eV H0) λh u w I=>(.agg #[.int .i64 h,.int .i64 u,.int .i64 w,.int .i64 I]:dB)=.agg #[.int .i64 N,.int .i64 O,.int .i64 Y,.int .i64 Z])/\
 eG (eP ak #[.slice (some (eV H4)) 1 1,.int .i64 N,.int .i64 O,.int .i64 Y,.int .i64 Z,.string dM,.slice none 0 0,.slice none 0 0,.pointer aj,.pointer ag,.pointer none,.slice none 0 0,.bool false] iX) λaP:dw=>
 im.C (some (eV ak)) af aP λah aD=>
 eL (decide (ah≠0)) False (∃ad:dA,some (eV ak)=some ad/\fU aD (ad.add 0) λaa ab ac=>R aa ab ac 0 aD)))/\(eG (eP H3 #[.int .i64 1,.int .i64 0,.string dM,.string dM,.string dM,.string dM,.slice none 0 0] eC) λaE:dw=>(kh aE (eV H0) λh u w I=>(.agg #[.int .i64 h,.int .i64 u,.int .i64 w,.int .i64 I]:dB)=.agg #[.int .i64 N,.int .i64 O,.int .i64 Y,.int .i64 Z])/\mW.C dM none 0 0 (none) 0 0 aE λaj aF=>(kh aF (eV H0) λh u w I=>(.agg #[.int .i64 h,.int .i64 u,.int .i64 w,.int .i64 I]:dB)=.agg #[.int .i64 N,.int .i64 O,.int .i64 Y,.int .i64 Z])/\kN.C aF λag am=>(kh am (eV H0) λh u w I=>(.agg #[.int .i64 h,.int .i64 u,.int .i64 w,.int .i64 I]:dB)=.agg #[.int .i64 N,.int .i64 O,.int .i64 Y,.int .i64 Z])/\
 eG (eP am #[.slice (some (eV H3)) 1 1,.int .i64 N,.int .i64 O,.int .i64 Y,.int .i64 Z,.string dM,.slice none 0 0,.slice none 0 0,.pointer aj,.pointer ag,.pointer none,.slice none 0 0,.bool false] iX) λaQ:dw=>
 im.C (some (eV am)) af aQ λah aG=>
 eL (decide (ah≠0)) False (∃ad:dA,some (eV am)=some ad/\fU aG (ad.add 0) λaa ab ac=>R aa ab ac 0 aG)))))
theorem nI.calls{u}{w I}{N}{O}{Y}{Z}{R}{H0}(h:nI.W u w I N O Y Z R H0):nI.C u w I N O Y Z H0 R:=
 (mT (aN [(8,.fl [0,2,3,4,5] 1 [6,7,8])] [] [] [2,4,7,11]) (R:=λv H'=>xT [.one .slice,.one (.int .i64)] v λr=>R r.1.1 r.1.2.1 r.1.2.2 r.2.1 H') Tryz.func15 (eM (by kernel_rfl) h)).mono λv H' h=>by obtain⟨x,hv,hk⟩:=gI h;exact⟨x.1.1,x.1.2.1,x.1.2.2,x.2.1,hv,hk⟩
def nR.W(aL:dC)(aB a9:Nat)(R:dC->Int->dw->Prop)(H0:dw):Prop:=
 o9.C aL aB a9 H0 λce H1=>
 eL (!ce) False (eG (eP H1 #[.pointer none,.pointer none,.pointer none,.slice none 0 0,.pointer none] kc) λH2:dw=>
 eG (H2.push (.map #[] 0)) λH3:dw=>
 eA (λcf=>
 fP (λL8 q8 H5=>(λ(Z:dC)(aa ab:Nat)(h:dC)(u I:Nat)(N:dC)(O Y:Nat)(a3:Int)=>
 eL (decide (a3<(aB:Int))) (
 eA (λbY=>
 ∃bZ:dA,aL=some bZ/\0<=a3/\a3<(aB:Int)/\fx H5 (bZ.add (a3.toNat*7)) λbK bL bM bN bO bP bi bj bk=>
 eG (eP H5 #[.int .i64 0,.int .i64 0,.string dM,.string dM,.string dM,.string dM,.slice none 0 0] eC) λH7:dw=>lj [.int .i64 bK,.int .i64 bL,.string bM,.string bN,.string bO,.string bP,.slice bi bj bk] ⟨Array.size H5,0,none⟩ 0 H7 λH8=>gf H8 ((⟨Array.size H5,0,none⟩:dA).add 0) λcg=>fh H8 ((⟨Array.size H5,0,none⟩:dA).add 2) λch=>fh H8 ((⟨Array.size H5,0,none⟩:dA).add 3) λci=>fh H8 ((⟨Array.size H5,0,none⟩:dA).add 4) λcj=>
 eG (eP H8 #[.int .i64 0,.string dM,.string dM,.string dM] jN) λH9:dw=>lj [.int .i64 cg,.string ch,.string ci,.string cj] ⟨Array.size H8,0,none⟩ 0 H9 λao=>zD ao ⟨Array.size H8,0,none⟩ λba bb bc bd=>
 ∃(a4:Array MapEntry)(bn:Nat)(be:Option (Nat×dB)),ao[(Array.size H2)]?=some (.map a4 bn)/\(∀em w,(Instr.checkKey em 10000 jN (.agg #[.int .i64 ba,.string bb,.string bc,.string bd])).run Tryz.prog w=.ok () w)/\(∀w,(Instr.findKey jN (.agg #[.int .i64 ba,.string bb,.string bc,.string bd]) a4.toList).run Tryz.prog w=.ok be w)/\WQ be (λbQ=>
 ∃b0:dB,bQ=b0/\
 ∃a5:Int,∃ar:Bool,tB b0 gP (.int .i64 a5) (.int .i64 0) ar/\
 eA (λa6=>
 eL (!ar) (∃a7:dA,some ⟨Array.size H1,0,none⟩=some a7/\fU ao (a7.add 3) λbR aO bS=>
 eG ((aO:Int)) λau:Int=>zD ao ⟨Array.size H8,0,none⟩ λag ah ai aj=>
 ∃(aC:Array MapEntry)(aD:Nat),ao[(Array.size H2)]?=some (.map aC aD)/\(∀em w,(Instr.checkKey em 10000 jN (.agg #[.int .i64 ag,.string ah,.string ai,.string aj])).run Tryz.prog w=.ok () w)/\(∀w,(Instr.findKey jN (.agg #[.int .i64 ag,.string ah,.string ai,.string aj]) aC.toList).run Tryz.prog w=.ok none w)/\
 eG (Array.setIfInBounds ao (Array.size H2) (.map (aC.push {key:=.agg #[.int .i64 ag,.string ah,.string ai,.string aj],val:=.iface gP (.int .i64 au),born:=aD}) (aD+1))) λap:dw=>
 ∃aE:dA,some ⟨Array.size H1,0,none⟩=some aE/\fU ap (aE.add 3) λav aw ax=>gf ap ((⟨Array.size H5,0,none⟩:dA).add 0) λbp=>fh ap ((⟨Array.size H5,0,none⟩:dA).add 2) λbq=>fh ap ((⟨Array.size H5,0,none⟩:dA).add 3) λbr=>fh ap ((⟨Array.size H5,0,none⟩:dA).add 4) λbu=>
 eG (eP ap #[.int .i64 bp,.int .i64 0,.string bq,.string br,.string bu,.string dM,.slice none 0 0] eC) λb1:dw=>(fU b1 (aE.add 3) λaF aG aH=>(.slice aF aG aH:dB)=.slice av aw ax)/\ji eC 7 104 (.agg #[.int .i64 0,.int .i64 0,.string dM,.string dM,.string dM,.string dM,.slice none 0 0]) av aw ax (.slice (some ⟨Array.size ap,0,none⟩) 1 1) b1 λaP aQ aR ck=>
 ∃a8:dA,some ⟨Array.size H1,0,none⟩=some a8/\j0 (.slice aP aQ aR) (a8.add 3) ck λcm=>a6 ((au:Int),()) cm) (a6 ((a5:Int),()) ao))
 (λbv b2=>(λ(au:Int)=>
 eG (eP b2 #[.int .i64 au] gP) λcn:dw=>ji gP 1 8 (.int .i64 0) Z aa ab (.slice (some ⟨Array.size b2,0,none⟩) 1 1) cn λaS aT aU bf=>fh bf ((⟨Array.size H5,0,none⟩:dA).add 5) λbw=>fU bf ((⟨Array.size H5,0,none⟩:dA).add 6) λak am an=>
 eG (eP bf #[.string bw] fp) λb3:dw=>(fU b3 ((⟨Array.size H5,0,none⟩:dA).add 6) λad ae af=>(.slice ad ae af:dB)=.slice ak am an)/\ji fp 1 16 (.string dM) h u I (.slice (some ⟨Array.size bf,0,none⟩) 1 1) b3 λaV aW aX b4=>(fU b4 ((⟨Array.size H5,0,none⟩:dA).add 6) λad ae af=>(.slice ad ae af:dB)=.slice ak am an)/\jS.C ak am an b4 λbx b5=>
 eG (eP b5 #[.string bx] fp) λco:dw=>ji fp 1 16 (.string dM) N O Y (.slice (some ⟨Array.size b5,0,none⟩) 1 1) co λaY aZ a0 cp=>bY ((aS,aT,aU),(aV,aW,aX),(aY,aZ,a0),()) cp) bv.1)) (∃a5:Int,∃ar:Bool,tB (.nilIface) gP (.int .i64 a5) (.int .i64 0) ar/\
 eA (λa6=>
 eL (!ar) (∃a7:dA,some ⟨Array.size H1,0,none⟩=some a7/\fU ao (a7.add 3) λbR aO bS=>
 eG ((aO:Int)) λau:Int=>zD ao ⟨Array.size H8,0,none⟩ λag ah ai aj=>
 ∃(aI:Array MapEntry)(aJ:Nat),ao[(Array.size H2)]?=some (.map aI aJ)/\(∀em w,(Instr.checkKey em 10000 jN (.agg #[.int .i64 ag,.string ah,.string ai,.string aj])).run Tryz.prog w=.ok () w)/\(∀w,(Instr.findKey jN (.agg #[.int .i64 ag,.string ah,.string ai,.string aj]) aI.toList).run Tryz.prog w=.ok none w)/\
 eG (Array.setIfInBounds ao (Array.size H2) (.map (aI.push {key:=.agg #[.int .i64 ag,.string ah,.string ai,.string aj],val:=.iface gP (.int .i64 au),born:=aJ}) (aJ+1))) λaq:dw=>
 ∃aE:dA,some ⟨Array.size H1,0,none⟩=some aE/\fU aq (aE.add 3) λav aw ax=>gf aq ((⟨Array.size H5,0,none⟩:dA).add 0) λbp=>fh aq ((⟨Array.size H5,0,none⟩:dA).add 2) λbq=>fh aq ((⟨Array.size H5,0,none⟩:dA).add 3) λbr=>fh aq ((⟨Array.size H5,0,none⟩:dA).add 4) λbu=>
 eG (eP aq #[.int .i64 bp,.int .i64 0,.string bq,.string br,.string bu,.string dM,.slice none 0 0] eC) λb6:dw=>(fU b6 (aE.add 3) λaF aG aH=>(.slice aF aG aH:dB)=.slice av aw ax)/\ji eC 7 104 (.agg #[.int .i64 0,.int .i64 0,.string dM,.string dM,.string dM,.string dM,.slice none 0 0]) av aw ax (.slice (some ⟨Array.size aq,0,none⟩) 1 1) b6 λaP aQ aR cq=>
 ∃a8:dA,some ⟨Array.size H1,0,none⟩=some a8/\j0 (.slice aP aQ aR) (a8.add 3) cq λcr=>a6 ((au:Int),()) cr) (a6 ((a5:Int),()) ao))
 (λbv b7=>(λ(au:Int)=>
 eG (eP b7 #[.int .i64 au] gP) λct:dw=>ji gP 1 8 (.int .i64 0) Z aa ab (.slice (some ⟨Array.size b7,0,none⟩) 1 1) ct λaS aT aU bg=>fh bg ((⟨Array.size H5,0,none⟩:dA).add 5) λbw=>fU bg ((⟨Array.size H5,0,none⟩:dA).add 6) λak am an=>
 eG (eP bg #[.string bw] fp) λb8:dw=>(fU b8 ((⟨Array.size H5,0,none⟩:dA).add 6) λad ae af=>(.slice ad ae af:dB)=.slice ak am an)/\ji fp 1 16 (.string dM) h u I (.slice (some ⟨Array.size bg,0,none⟩) 1 1) b8 λaV aW aX b9=>(fU b9 ((⟨Array.size H5,0,none⟩:dA).add 6) λad ae af=>(.slice ad ae af:dB)=.slice ak am an)/\jS.C ak am an b9 λbx ca=>
 eG (eP ca #[.string bx] fp) λcu:dw=>ji fp 1 16 (.string dM) N O Y (.slice (some ⟨Array.size ca,0,none⟩) 1 1) cu λaY aZ a0 cv=>bY ((aS,aT,aU),(aV,aW,aX),(aY,aZ,a0),()) cv) bv.1)))
 (λay H6=>(λ(Z:dC)(aa ab:Nat)(h:dC)(u I:Nat)(N:dC)(O Y:Nat)=>L8 ((Z,aa,ab),(h,u,I),(N,O,Y),(IntKind.i64.wrap (a3+1):Int),()) H6) ay.1.1 ay.1.2.1 ay.1.2.2 ay.2.1.1 ay.2.1.2.1 ay.2.1.2.2 ay.2.2.1.1 ay.2.2.1.2.1 ay.2.2.1.2.2)) (cf ((Z,aa,ab),(h,u,I),(N,O,Y),()) H5)) q8.1.1 q8.1.2.1 q8.1.2.2 q8.2.1.1 q8.2.1.2.1 q8.2.1.2.2 q8.2.2.1.1 q8.2.2.1.2.1 q8.2.2.1.2.2 q8.2.2.2.1) ((none,0,0),(none,0,0),(none,0,0),(0:Int),()) H3)
 (λaz H4=>(λ(Z:dC)(aa ab:Nat)(h:dC)(u I:Nat)(N:dC)(O Y:Nat)=>
 eG (eP H4 #[.int .i64 0,.int .i64 0,.int .i64 0,.int .i64 0] nU) λcw:dw=>
 lX.C aL aB a9 cw λbT bU bV cx=>
 nJ.C bT bU bV cx λbW bX cy=>
 ∃cb:dA,some ⟨Array.size H1,0,none⟩=some cb/\j0 (.pointer bW) (cb.add 0) cy λcz=>0<=(0:Int)/\(0:Int)<((4:Nat):Int)/\j0 (.int .i64 bX) ((⟨Array.size H4,0,none⟩:dA).add (jy (0:Int).toNat 1)) cz λcc=>
 ∃bz:dA,some ⟨Array.size H1,0,none⟩=some bz/\fU cc (bz.add 3) λcA bA cB=>
 o0.C Z aa ab ((bA:Int)) cc λbB bC cC=>
 ∃bD:dA,some ⟨Array.size H1,0,none⟩=some bD/\j0 (.pointer bB) (bD.add 1) cC λcD=>0<=(1:Int)/\(1:Int)<((4:Nat):Int)/\j0 (.int .i64 bC) ((⟨Array.size H4,0,none⟩:dA).add (jy (1:Int).toNat 1)) cD λcE=>
 nZ.C h u I cE λbE bF cF=>
 ∃bG:dA,some ⟨Array.size H1,0,none⟩=some bG/\j0 (.pointer bE) (bG.add 2) cF λcG=>0<=(2:Int)/\(2:Int)<((4:Nat):Int)/\j0 (.int .i64 bF) ((⟨Array.size H4,0,none⟩:dA).add (jy (2:Int).toNat 1)) cG λcH=>
 nZ.C N O Y cH λbH bI cI=>
 ∃bJ:dA,some ⟨Array.size H1,0,none⟩=some bJ/\j0 (.pointer bH) (bJ.add 4) cI λcJ=>0<=(3:Int)/\(3:Int)<((4:Nat):Int)/\j0 (.int .i64 bI) ((⟨Array.size H4,0,none⟩:dA).add (jy (3:Int).toNat 1)) cJ λcK=>
 iC.C ((some ⟨Array.size H4,0,none⟩)) 4 4 cK λcd cL=>
 eL (decide (cd≠0)) False (R (some ⟨Array.size H1,0,none⟩) 0 cL)) az.1.1 az.1.2.1 az.1.2.2 az.2.1.1 az.2.1.2.1 az.2.1.2.2 az.2.2.1.1 az.2.2.1.2.1 az.2.2.1.2.2))
theorem nR.calls{u}{w I}{R}{N}(h:nR.W u w I R N):nR.C u w I N R:=
 (mT (aN [(15,.ord (List.range 19)),(17,.ord [0,1,2,5,6,7,3,4,8,9,10,11,12])] [(8,[(6,.one .slice),(7,.one .slice),(8,.one .slice),(24,.one (.int .i64))])] [(16,[(12,.one (.int .i64))]),(18,[(6,.one .slice),(7,.one .slice),(8,.one .slice)]),(19,[(6,.one .slice),(7,.one .slice),(8,.one .slice)])] [2,26]) (R:=λv H'=>xT [.one .ptr,.one (.int .i64)] v λr=>R r.1 r.2.1 H') Tryz.func16 (eM (by kernel_rfl) h)).mono λv H' h=>by obtain⟨x,O,Y⟩:=gI h;exact⟨x.1,x.2.1,O,Y⟩
def jg.W(u:dC)(R:dC->dw->Prop)(I:dw):Prop:=
 eL (Option.isNone u) False (∃N:dA,u=some N/\Vz I (N.add 0) λO=>
 ∃w:dC,∃h:Bool,tB O qp (.pointer w) (.pointer none) h/\R w I)
theorem jg.calls{u}{R}{w}(h:jg.W u R w):jg.C u w R:=
 m1 (.one .ptr) (aN [] [] [] [2]) Tryz.func18 (eM (by kernel_rfl) h)
def fX.W(w:dC)(R:Bool->dw->Prop)(N:dw):Prop:=
 ∃x4:dA,w=some x4/\fU N (x4.add 0) λaf aa ag=>
 eL (decide ((aa:Int)=0)) False (∃O:dA,w=some O/\fU N (O.add 0) λI ac h=>
 ∃Y:dA,w=some Y/\fU N (Y.add 0) λad u ae=>0<=IntKind.i64.wrap ((u:Int)-1)/\IntKind.i64.wrap ((u:Int)-1)<=(h:Int)/\
 ∃Z:dA,w=some Z/\j0 (.slice ((if h=0 then I else Option.map (λq:dA=>q.add 0) I)) ((((IntKind.i64.wrap ((u:Int)-1)).toNat)-0:Nat)) (h-0:Nat)) (Z.add 0) N λH1=>R true H1)
theorem fX.calls{u}{R}{w}(h:fX.W u R w):fX.C u w R:=
 m1 (.one .bool) (aN [(3,.ord (List.range 15))] [] [] [2]) Tryz.func20 (eM (by kernel_rfl) h)
def iF.W(I:Int)(R:dC->Nat->Nat->dw->Prop)(H0:dw):Prop:=
 eA (λJ4=>
 eL (decide ((lx .u64 I 1)=1)) (eG (eP H0 #[.string Lj,.string (⟨#[118]⟩:dE)] fp) λH2:dw=>(2:Int)≠0/\(2:Int)≠0/\
 ∃ax:dA,some (eV H0)=some ax/\0<=Int.tmod (IntKind.u64.wrap (Int.tdiv I 2)) 2/\Int.tmod (IntKind.u64.wrap (Int.tdiv I 2)) 2<(2:Int)/\fh H2 (ax.add ((Int.tmod (IntKind.u64.wrap (Int.tdiv I 2)) 2).toNat)) λaO=>
 eG (eP H2 #[.string oZ,.string RO,.string mz,.string aO] eF) λH3:dw=>ji eF 4 64 (.agg #[.string dM,.string dM,.string dM,.string dM]) none 0 0 (.slice (some (eV H2)) 1 1) H3 λac ad ae H4=>J4 ((ac,ad,ae),()) H4) (J4 ((none,0,0),()) H0))
 (λs4 H1=>(λ(h:dC)(u w:Nat)=>
 eA (λJ6=>
 eL (decide ((lx .u64 I 4)=4)) (eG (eP H1 #[.string Lj,.string dM,.string (⟨#[119]⟩:dE)] fp) λH6:dw=>(8:Int)≠0/\(3:Int)≠0/\
 ∃ay:dA,some (eV H1)=some ay/\0<=Int.tmod (IntKind.u64.wrap (Int.tdiv I 8)) 3/\Int.tmod (IntKind.u64.wrap (Int.tdiv I 8)) 3<(3:Int)/\fh H6 (ay.add ((Int.tmod (IntKind.u64.wrap (Int.tdiv I 8)) 3).toNat)) λaQ=>
 eG (eP H6 #[.string dM,.string oZ,.string mz,.string aQ] eF) λH7:dw=>ji eF 4 64 (.agg #[.string dM,.string dM,.string dM,.string dM]) h u w (.slice (some (eV H6)) 1 1) H7 λaf ag ah H8=>J6 ((af,ag,ah),()) H8) (J6 ((h,u,w),()) H1))
 (λs6 H5=>(λ(h:dC)(u w:Nat)=>
 eA (λJ8=>
 eL (decide ((lx .u64 I 16)=16)) (eG (eP H5 #[.string (⟨#[49]⟩:dE),.string RP,.string (⟨#[60,34,38,62]⟩:dE),.string HW] fp) λN:dw=>(32:Int)≠0/\(4:Int)≠0/\
 ∃az:dA,some (eV H5)=some az/\0<=Int.tmod (IntKind.u64.wrap (Int.tdiv I 32)) 4/\Int.tmod (IntKind.u64.wrap (Int.tdiv I 32)) 4<(4:Int)/\fh N (az.add ((Int.tmod (IntKind.u64.wrap (Int.tdiv I 32)) 4).toNat)) λaS=>
 eG (eP N #[.string dM,.string Ll,.string dM,.string aS] eF) λaT:dw=>ji eF 4 64 (.agg #[.string dM,.string dM,.string dM,.string dM]) h u w (.slice (some (eV N)) 1 1) aT λai aj ak aU=>J8 ((ai,aj,ak),()) aU) (J8 ((h,u,w),()) H5))
 (λs8 H9=>(λ(h:dC)(u w:Nat)=>
 eA (λaA=>
 eL (decide ((lx .u64 I 64)=64)) (eG (eP H9 #[.string RO,.string Ll,.string dM,.string (⟨#[50]⟩:dE)] eF) λaV:dw=>ji eF 4 64 (.agg #[.string dM,.string dM,.string dM,.string dM]) h u w (.slice (some (eV H9)) 1 1) aV λam an ao aW=>aA ((am,an,ao),()) aW) (aA ((h,u,w),()) H9))
 (λO Y=>(λ(h:dC)(u w:Nat)=>
 eA (λaB=>
 eL (decide ((lx .u64 I 128)=128)) (eG (eP Y #[.string tG,.string (⟨#[105,100]⟩:dE),.string dM,.string (⟨#[105]⟩:dE)] eF) λaX:dw=>ji eF 4 64 (.agg #[.string dM,.string dM,.string dM,.string dM]) h u w (.slice (some (eV Y)) 1 1) aX λap aq ar aY=>aB ((ap,aq,ar),()) aY) (aB ((h,u,w),()) Y))
 (λZ aa=>(λ(h:dC)(u w:Nat)=>
 eA (λaC=>
 eL (decide ((lx .u64 I 256)=256)) (eG (eP aa #[.string oZ,.string HX,.string mz,.string Lj] eF) λaZ:dw=>ji eF 4 64 (.agg #[.string dM,.string dM,.string dM,.string dM]) h u w (.slice (some (eV aa)) 1 1) aZ λau av aw a0=>aC ((au,av,aw),()) a0) (aC ((h,u,w),()) aa))
 (λab a3=>(λ(h:dC)(u w:Nat)=>R h u w a3) ab.1.1 ab.1.2.1 ab.1.2.2)) Z.1.1 Z.1.2.1 Z.1.2.2)) O.1.1 O.1.2.1 O.1.2.2)) s8.1.1 s8.1.2.1 s8.1.2.2)) s6.1.1 s6.1.2.1 s6.1.2.2)) s4.1.1 s4.1.2.1 s4.1.2.2)
theorem iF.calls{u}{R}{w}(h:iF.W u R w):iF.C u w R:=
 (mT (aN [] [] [(4,[(3,.one .slice)]),(6,[(3,.one .slice)]),(8,[(3,.one .slice)]),(10,[(3,.one .slice)]),(12,[(3,.one .slice)]),(14,[(3,.one .slice)])] []) (R:=λv H'=>xS (.one .slice) v λr=>R r.1 r.2.1 r.2.2 H') Tryz.func21 (eM (by kernel_rfl) h)).mono λv H' h=>by obtain⟨x,I,N⟩:=nS h;exact⟨x.1,x.2.1,x.2.2,I,N⟩
def fO.W(aK:dC)(ab:dC)(Z bo:Nat)(R:Int->dw->Prop)(H0:dw):Prop:=
 eA (λa3=>
 fP (λL3 q3 H2=>(λ(aa:dC)(O ac:Nat)(Y:Int)=>
 eL (decide (Y<(Z:Int))) (
 eA (λJ4=>
 ∃aL:dA,ab=some aL/\0<=Y/\Y<(Z:Int)/\kg H2 (aL.add (Y.toNat*4)) λaF aG aH aI=>
 kK.C aF aG aH aI H2 λN aJ w=>
 eL (!aJ) (J4 ((aa,O,ac),()) w) (∃aM:dA,ab=some aM/\0<=Y/\Y<(Z:Int)/\fh w ((aM.add (Y.toNat*4)).add 3) λu=>
 ∃aO:dA,ab=some aO/\0<=Y/\Y<(Z:Int)/\fh w ((aO.add (Y.toNat*4)).add 0) λI=>
 eA (λa5=>
 eA (λh=>
 eL (decide (N=oZ)) (eL (!(decide (I=dM))) (h (true,()) w) (eL (decide (N=tG)) (eL (!(decide (I=dM))) (eL (decide (u≠pD)) (h (true,()) w) (eL (decide (N≠tG)) (eL (decide (u=pD)) (h (true,()) w) (eL (decide (u=mz)) (h (true,()) w) (eL (!(decide (I=dM))) (h (decide (u=dM),()) w) (h (false,()) w)))) (eL (decide (I=dM)) (eL (decide (u=pD)) (h (true,()) w) (eL (decide (u=mz)) (h (true,()) w) (eL (!(decide (I=dM))) (h (decide (u=dM),()) w) (h (false,()) w)))) (eL (decide (u=mz)) (h (true,()) w) (eL (!(decide (I=dM))) (h (decide (u=dM),()) w) (h (false,()) w)))))) (eL (decide (N≠tG)) (eL (decide (u=pD)) (h (true,()) w) (eL (decide (u=mz)) (h (true,()) w) (eL (!(decide (I=dM))) (h (decide (u=dM),()) w) (h (false,()) w)))) (eL (decide (I=dM)) (eL (decide (u=pD)) (h (true,()) w) (eL (decide (u=mz)) (h (true,()) w) (eL (!(decide (I=dM))) (h (decide (u=dM),()) w) (h (false,()) w)))) (eL (decide (u=mz)) (h (true,()) w) (eL (!(decide (I=dM))) (h (decide (u=dM),()) w) (h (false,()) w)))))) (eL (decide (N≠tG)) (eL (decide (u=pD)) (h (true,()) w) (eL (decide (u=mz)) (h (true,()) w) (eL (!(decide (I=dM))) (h (decide (u=dM),()) w) (h (false,()) w)))) (eL (decide (I=dM)) (eL (decide (u=pD)) (h (true,()) w) (eL (decide (u=mz)) (h (true,()) w) (eL (!(decide (I=dM))) (h (decide (u=dM),()) w) (h (false,()) w)))) (eL (decide (u=mz)) (h (true,()) w) (eL (!(decide (I=dM))) (h (decide (u=dM),()) w) (h (false,()) w))))))) (eL (decide (N=tG)) (eL (!(decide (I=dM))) (eL (decide (u≠pD)) (h (true,()) w) (eL (decide (N≠tG)) (eL (decide (u=pD)) (h (true,()) w) (eL (decide (u=mz)) (h (true,()) w) (eL (!(decide (I=dM))) (h (decide (u=dM),()) w) (h (false,()) w)))) (eL (decide (I=dM)) (eL (decide (u=pD)) (h (true,()) w) (eL (decide (u=mz)) (h (true,()) w) (eL (!(decide (I=dM))) (h (decide (u=dM),()) w) (h (false,()) w)))) (eL (decide (u=mz)) (h (true,()) w) (eL (!(decide (I=dM))) (h (decide (u=dM),()) w) (h (false,()) w)))))) (eL (decide (N≠tG)) (eL (decide (u=pD)) (h (true,()) w) (eL (decide (u=mz)) (h (true,()) w) (eL (!(decide (I=dM))) (h (decide (u=dM),()) w) (h (false,()) w)))) (eL (decide (I=dM)) (eL (decide (u=pD)) (h (true,()) w) (eL (decide (u=mz)) (h (true,()) w) (eL (!(decide (I=dM))) (h (decide (u=dM),()) w) (h (false,()) w)))) (eL (decide (u=mz)) (h (true,()) w) (eL (!(decide (I=dM))) (h (decide (u=dM),()) w) (h (false,()) w)))))) (eL (decide (N≠tG)) (eL (decide (u=pD)) (h (true,()) w) (eL (decide (u=mz)) (h (true,()) w) (eL (!(decide (I=dM))) (h (decide (u=dM),()) w) (h (false,()) w)))) (eL (decide (I=dM)) (eL (decide (u=pD)) (h (true,()) w) (eL (decide (u=mz)) (h (true,()) w) (eL (!(decide (I=dM))) (h (decide (u=dM),()) w) (h (false,()) w)))) (eL (decide (u=mz)) (h (true,()) w) (eL (!(decide (I=dM))) (h (decide (u=dM),()) w) (h (false,()) w)))))))
 (λa6 H6=>(λ(a7:Bool)=>
 eL a7 False (a5 () H6)) a6.1))
 (λ_ H5=>
 eA (λa8=>
 fP (λa9 ba H8=>(λ(ad:Int)=>
 eL (decide (ad<(O:Int))) (
 eA (λbb=>
 eA (λaP=>
 ∃aQ:dA,aa=some aQ/\0<=ad/\ad<(O:Int)/\fh H8 ((aQ.add (ad.toNat*4)).add 0) λbc=>
 ∃aR:dA,ab=some aR/\0<=Y/\Y<(Z:Int)/\fh H8 ((aR.add (Y.toNat*4)).add 0) λbd=>
 eL (decide (bc=bd)) (∃af:dA,aa=some af/\0<=ad/\ad<(O:Int)/\fh H8 ((af.add (ad.toNat*4)).add 1) λaV=>
 ∃ag:dA,ab=some ag/\0<=Y/\Y<(Z:Int)/\fh H8 ((ag.add (Y.toNat*4)).add 1) λaW=>aP (decide (aV=aW),()) H8) (aP (false,()) H8))
 (λbe bf=>(λ(aX:Bool)=>
 eL aX False (bb () bf)) be.1))
 (λ_ H9=>
 eG (IntKind.i64.wrap (ad+1)) λaY:Int=>a9 ((aY:Int),()) H9)) (a8 () H8)) ba.1) ((0:Int),()) H5)
 (λ_ H7=>
 ∃ah:dA,ab=some ah/\0<=Y/\Y<(Z:Int)/\kg H7 (ah.add (Y.toNat*4)) λai aj ak am=>
 eG (eP H7 #[.string ai,.string aj,.string ak,.string am] eF) λbg:dw=>ji eF 4 64 (.agg #[.string dM,.string dM,.string dM,.string dM]) aa O ac (.slice (some (eV H7)) 1 1) bg λan ao ap bh=>J4 ((an,ao,ap),()) bh))))
 (λs4 H3=>(λ(aa:dC)(O ac:Nat)=>
 eG (IntKind.i64.wrap (Y+1)) λbi:Int=>L3 ((aa,O,ac),(bi:Int),()) H3) s4.1.1 s4.1.2.1 s4.1.2.2)) (a3 ((aa,O,ac),()) H2)) q3.1.1 q3.1.2.1 q3.1.2.2 q3.2.1) ((none,0,0),(0:Int),()) H0)
 (λaq H1=>(λ(aa:dC)(O ac:Nat)=>
 eG (eP H1 #[] iW) λaS:dw=>
 ∃ar:dA,aK=some ar/\fU aS (ar.add 0) λau av aw=>ji iW 1 24 (.slice none 0 0) (some (eV H1)) 0 0 (.slice au av aw) aS λax ay az aT=>
 eG (eP aT #[.slice aa O ac] iW) λbk:dw=>ji iW 1 24 (.slice none 0 0) ax ay az (.slice (some (eV aT)) 1 1) bk λaA aB aC bm=>
 ∃aD:dA,aK=some aD/\j0 (.slice aA aB aC) (aD.add 0) bm λbn=>R 0 bn) aq.1.1 aq.1.2.1 aq.1.2.2)
theorem fO.calls{N}{u}{w I}{R}{O}(h:fO.W N u w I R O):fO.C N u w I O R:=
 m1 (.one (.int .i64)) (aN [(14,.ord (List.range 24))] [(3,[(5,.one .slice),(6,.one (.int .i64))]),(12,[(11,.one (.int .i64))])] [(4,[(5,.one .slice)]),(10,[(79,.one .bool)]),(11,[]),(13,[]),(15,[(109,.one .bool)]),(16,[]),(17,[(5,.one .slice)])] [10,15]) Tryz.func22 (eM (by kernel_rfl) h)
def gR.W(aP:dC)(h:dC)(R:Bool->dw->Prop)(H0:dw):Prop:=
 ∃aQ:dA,h=some aQ/\fh H0 (aQ.add 2) λbg=>
 fW.C aP bg H0 λaz aA H1=>
 ∃aR:dA,h=some aR/\j0 (.string az) (aR.add 4) H1 λH2=>
 eA (λJ5=>
 eA (λJ4=>
 eL (!aA) (J4 (true,()) H2) (∃aS:dA,h=some aS/\fh H2 (aS.add 2) λbi=>J4 (decide (bi=oZ),()) H2))
 (λs4 H4=>(λ(bk:Bool)=>
 eL bk (R false H4) (J5 () H4)) s4.1))
 (λ_ H3=>
 eA (λbm=>
 fP (λL6 q6 O=>(λ(u:Int)=>
 ∃aT:dA,h=some aT/\fU O (aT.add 6) λbN aB bO=>
 eL (decide (u<(aB:Int))) (
 eA (λJ7=>
 ∃aU:dA,h=some aU/\fU O (aU.add 6) λaC aD bP=>
 ∃aV:dA,aC=some aV/\0<=u/\u<(aD:Int)/\fh O ((aV.add (u.toNat*4)).add 2) λbn=>
 eL (decide (bn=mz)) (J7 () O) (∃aW:dA,h=some aW/\fU O (aW.add 6) λaE aF bQ=>
 ∃aX:dA,aE=some aX/\0<=u/\u<(aF:Int)/\j0 (.string dM) ((aX.add (u.toNat*4)).add 2) O λY=>
 ∃aY:dA,h=some aY/\fU Y (aY.add 6) λaG aH bR=>
 ∃aZ:dA,aG=some aZ/\0<=u/\u<(aH:Int)/\fh Y ((aZ.add (u.toNat*4)).add 0) λbo=>
 eL (decide (bo=dM)) (J7 () Y) (∃ab:dA,h=some ab/\fU Y (ab.add 6) λZ aa aI=>
 ∃a0:dA,h=some a0/\fU Y (a0.add 6) λaJ aK bS=>
 ∃a3:dA,aJ=some a3/\0<=u/\u<(aK:Int)/\fh Y ((a3.add (u.toNat*4)).add 0) λbp=>
 fW.C aP bp Y λaL aM H9=>(fU H9 (ab.add 6) λac ad ae=>(.slice ac ad ae:dB)=.slice Z aa aI)/\
 ∃a4:dA,Z=some a4/\0<=u/\u<(aa:Int)/\j0 (.string aL) ((a4.add (u.toNat*4)).add 2) H9 λa5=>
 eL (!aM) (R false a5) (J7 () a5))))
 (λ_ H7=>
 eG (IntKind.i64.wrap (u+1)) λbr:Int=>L6 ((br:Int),()) H7)) (bm () O)) q6.1) ((0:Int),()) H3)
 (λ_ H5=>
 eA (λbu=>
 fP (λbv bw af=>(λ(I:Int)=>
 ∃a6:dA,h=some a6/\fU af (a6.add 6) λbT aO bU=>
 eL (decide (I<(aO:Int))) (
 eA (λbx=>
 fP (λbz bA w=>(λ(N:Int)=>
 eL (decide (N<I)) (
 eA (λbB=>
 eA (λa7=>
 ∃ag:dA,h=some ag/\fU w (ag.add 6) λah ai bC=>
 ∃aj:dA,ah=some aj/\0<=N/\N<(ai:Int)/\fh w ((aj.add (N.toNat*4)).add 2) λba=>
 ∃ak:dA,h=some ak/\fU w (ak.add 6) λam an bD=>
 ∃ao:dA,am=some ao/\0<=I/\I<(an:Int)/\fh w ((ao.add (I.toNat*4)).add 2) λbb=>
 eL (decide (ba=bb)) (∃ap:dA,h=some ap/\fU w (ap.add 6) λaq ar bE=>
 ∃au:dA,aq=some au/\0<=N/\N<(ar:Int)/\fh w ((au.add (N.toNat*4)).add 1) λbc=>
 ∃av:dA,h=some av/\fU w (av.add 6) λaw ax bF=>
 ∃ay:dA,aw=some ay/\0<=I/\I<(ax:Int)/\fh w ((ay.add (I.toNat*4)).add 1) λbd=>a7 (decide (bc=bd),()) w) (a7 (false,()) w))
 (λbG bH=>(λ(be:Bool)=>
 eL be False (bB () bH)) bG.1))
 (λ_ bI=>
 eG (IntKind.i64.wrap (N+1)) λbJ:Int=>bz ((bJ:Int),()) bI)) (bx () w)) bA.1) ((0:Int),()) af)
 (λ_ bK=>
 eG (IntKind.i64.wrap (I+1)) λbL:Int=>bv ((bL:Int),()) bK)) (bu () af)) bw.1) ((0:Int),()) H5)
 (λ_ bM=>R true bM)))
theorem gR.calls{u}{w}{R}{I}(h:gR.W u w R I):gR.C u w I R:=
 m1 (.one .bool) (aN [(11,.ord (List.range 22)),(20,.ord (List.range 36))] [(6,[(6,.one (.int .i64))]),(15,[(7,.one (.int .i64))]),(18,[(8,.one (.int .i64))])] [(4,[(29,.one .bool)]),(5,[]),(7,[]),(14,[]),(16,[]),(19,[]),(21,[(135,.one .bool)]),(22,[])] [21]) Tryz.func23 (eM (by kernel_rfl) h)
def jq.W(I:dC)(u bL:Nat)(R:Bool->dw->Prop)(H0:dw):Prop:=
 eA (λJ3=>
 eA (λJ2=>
 eL (decide ((u:Int)<1)) (J2 (true,()) H0) (eL (decide ((1048576:Int)<(u:Int))) (J2 (true,()) H0) (∃aX:dA,I=some aX/\0<=(0:Int)/\(0:Int)<(u:Int)/\fx H0 (aX.add ((0:Int).toNat*7)) λaC aD aE aF aG aH ag ah ai=>
 gC.C aC aD aE aF aG aH ag ah ai 1 0 dM dM dM dM none 0 0 H0 λbg H3=>J2 (!bg,()) H3)))
 (λs2 H2=>(λ(bh:Bool)=>
 eL bh False (J3 () H2)) s2.1))
 (λ_ H1=>
 eG (eP H1 #[.slice none 0 0] mq) λH4:dw=>
 eA (λbi=>
 fP (λL6 q6 N=>(λ(h:Int)(w:Int)=>
 eL (decide (w<(u:Int))) (
 eA (λJ7=>
 ∃aY:dA,I=some aY/\0<=w/\w<(u:Int)/\fx N (aY.add (w.toNat*7)) λaJ aK aL aM aO aP aj ak am=>
 eG (eP N #[.int .i64 0,.int .i64 0,.string dM,.string dM,.string dM,.string dM,.slice none 0 0] eC) λH8:dw=>lj [.int .i64 aJ,.int .i64 aK,.string aL,.string aM,.string aO,.string aP,.slice aj ak am] ⟨Array.size N,0,none⟩ 0 H8 λY=>
 eA (λbk=>
 eA (λZ=>gf Y ((⟨Array.size N,0,none⟩:dA).add 1) λbm=>
 eL (decide (bm<1)) (Z (true,()) Y) (gf Y ((⟨Array.size N,0,none⟩:dA).add 1) λbn=>
 eL (decide ((201:Int)<bn)) (Z (true,()) Y) (gf Y ((⟨Array.size N,0,none⟩:dA).add 1) λbo=>
 ∃aZ:dA,I=some aZ/\0<=IntKind.i64.wrap (w-1)/\IntKind.i64.wrap (w-1)<(u:Int)/\gf Y ((aZ.add ((IntKind.i64.wrap (w-1)).toNat*7)).add 1) λbp=>
 eL (decide ((IntKind.i64.wrap (bp+1))<bo)) (Z (true,()) Y) (gf Y ((⟨Array.size N,0,none⟩:dA).add 1) λbq=>
 ∃a0:dA,I=some a0/\0<=IntKind.i64.wrap (w-1)/\IntKind.i64.wrap (w-1)<(u:Int)/\gf Y ((a0.add ((IntKind.i64.wrap (w-1)).toNat*7)).add 1) λbr=>
 eL (decide (br<bq)) (∃a3:dA,I=some a3/\0<=IntKind.i64.wrap (w-1)/\IntKind.i64.wrap (w-1)<(u:Int)/\gf Y ((a3.add ((IntKind.i64.wrap (w-1)).toNat*7)).add 0) λbu=>
 eL (decide (bu≠1)) (∃a4:dA,I=some a4/\0<=IntKind.i64.wrap (w-1)/\IntKind.i64.wrap (w-1)<(u:Int)/\gf Y ((a4.add ((IntKind.i64.wrap (w-1)).toNat*7)).add 0) λbv=>Z (decide (bv≠2),()) Y) (Z (false,()) Y)) (Z (false,()) Y)))))
 (λbw bx=>(λ(bz:Bool)=>
 eL bz False (bk () bx)) bw.1))
 (λ_ bA=>
 eA (λbB=>
 fP (λbC _ af=>
 ∃a5:dA,some ⟨Array.size H1,0,none⟩=some a5/\fU af (a5.add 0) λbM aQ bN=>gf af ((⟨Array.size N,0,none⟩:dA).add 1) λbD=>
 eL (decide (bD<=(aQ:Int))) (fX.C (some ⟨Array.size H1,0,none⟩) af λbY bE=>bC () bE) (bB () af)) () bA)
 (λ_ aa=>gf aa ((⟨Array.size N,0,none⟩:dA).add 0) λbF=>
 eL (decide (bF=2)) (fx aa ⟨Array.size N,0,none⟩ λaR aS aT aU aV aW an ao ap=>
 hZ.C (some ⟨Array.size H1,0,none⟩) aR aS aT aU aV aW an ao ap aa λbG aq=>
 eL (!bG) False (gf aq ((⟨Array.size N,0,none⟩:dA).add 1) λa8=>
 eL (decide (a8=1)) (eG (IntKind.i64.wrap (h+1)) λh:Int=>J7 ((h:Int),()) aq) (J7 ((h:Int),()) aq))) (
 eA (λab=>fx aa ⟨Array.size N,0,none⟩ λar au av aw ax ay ac ad ae=>
 qG.C ar au av aw ax ay ac ad ae aa λa9 O=>
 eL (!a9) (ab (true,()) O) (gf O ((⟨Array.size N,0,none⟩:dA).add 0) λba=>
 eL (decide (ba=3)) (gf O ((⟨Array.size N,0,none⟩:dA).add 1) λbb=>
 eL (decide (bb=1)) (ab (true,()) O) (∃az:dA,I=some az/\0<=IntKind.i64.wrap (w-1)/\IntKind.i64.wrap (w-1)<(u:Int)/\gf O ((az.add ((IntKind.i64.wrap (w-1)).toNat*7)).add 0) λbc=>
 eL (decide (bc=3)) (∃aA:dA,I=some aA/\0<=IntKind.i64.wrap (w-1)/\IntKind.i64.wrap (w-1)<(u:Int)/\gf O ((aA.add ((IntKind.i64.wrap (w-1)).toNat*7)).add 1) λbd=>gf O ((⟨Array.size N,0,none⟩:dA).add 1) λbe=>ab (decide (bd=be),()) O) (ab (false,()) O))) (ab (false,()) O)))
 (λbH bI=>(λ(bf:Bool)=>
 eL bf False (J7 ((h:Int),()) bI)) bH.1)))))
 (λs7 H7=>(λ(h:Int)=>
 eG (IntKind.i64.wrap (w+1)) λbJ:Int=>L6 ((h:Int),(bJ:Int),()) H7) s7.1)) (bi ((h:Int),()) N)) q6.1 q6.2.1) ((0:Int),(1:Int),()) H4)
 (λbK H5=>(λ(h:Int)=>R (decide (h=1)) H5) bK.1))
theorem jq.calls{u}{w I}{R}{N}(h:jq.W u w I R N):jq.C u w I N R:=
 m1 (.one .bool) (aN [(9,.ord (List.range 49)),(11,.ord (List.range 8)),(18,.ord (List.range 33))] [(6,[(4,.one (.int .i64)),(5,.one (.int .i64))]),(11,[])] [(2,[(22,.one .bool)]),(3,[]),(7,[(4,.one (.int .i64))]),(10,[(83,.one .bool)]),(11,[]),(13,[]),(19,[(138,.one .bool)]),(20,[(4,.one (.int .i64))])] [2,10,15,19]) Tryz.func24 (eM (by kernel_rfl) h)
def ia.W(an:Int)(ao:Int)(ap:dE)(aq:dE)(ar:dE)(au:dE)(ab:dC)(ac ad:Nat)(R:dE->dw->Prop)(h:dw):Prop:=
 eG (eP h #[.int .i64 an,.int .i64 ao,.string ap,.string aq,.string ar,.string au,.slice ab ac ad] eC) λu:dw=>
 eA (λaI=>gf u (((eV h):dA).add 0) λx6=>
 eL (decide (x6=2)) (fh u (((eV h):dA).add 2) λaJ=>fh u (((eV h):dA).add 3) λaK=>
 gQ.C aJ aK u λaC H3=>HV.size+aC.size<=9223372036854775807/\
 eA (λJ8=>
 fP (λL5 q5 I=>(λ(N:dE)(w:Int)=>fU I (((eV h):dA).add 6) λaT aw aU=>
 eL (decide (w<(aw:Int))) (N.size+vf.size<=9223372036854775807/\fU I (((eV h):dA).add 6) λax ay aV=>
 ∃aD:dA,ax=some aD/\0<=w/\w<(ay:Int)/\fh I ((aD.add (w.toNat*4)).add 0) λaM=>fU I (((eV h):dA).add 6) λaz aA aW=>
 ∃aE:dA,az=some aE/\0<=w/\w<(aA:Int)/\fh I ((aE.add (w.toNat*4)).add 1) λaO=>fU I (((eV h):dA).add 6) λZ aa aB=>
 ∃ae:dA,Z=some ae/\0<=w/\w<(aa:Int)/\fh I ((ae.add (w.toNat*4)).add 3) λaF=>
 gQ.C aM aO I λO H6=>(fU H6 (((eV h):dA).add 6) λaf ag ah=>(.slice af ag ah:dB)=.slice Z aa aB)/\(fh H6 ((ae.add (w.toNat*4)).add 3) λaH=>(.string aH:dB)=.string aF)/\(N++vf).size+O.size<=9223372036854775807/\((N++vf)++O).size+HU.size<=9223372036854775807/\lH.C aF true H6 λai H7=>(((N++vf)++O)++HU).size+ai.size<=9223372036854775807/\((((N++vf)++O)++HU)++ai).size+Rb.size<=9223372036854775807/\
 eG (IntKind.i64.wrap (w+1)) λaP:Int=>L5 (((((N++vf)++O)++HU)++ai)++Rb,(aP:Int),()) H7) (J8 (N,()) I)) q5.1 q5.2.1) (HV++aC,(0:Int),()) H3)
 (λs8 H4=>(λ(N:dE)=>R N H4) s8.1)) (eL (decide (x6=3)) (fh u (((eV h):dA).add 5) λaQ=>
 lH.C aQ false u λaR H8=>R aR H8) (eL (decide (x6=4)) (fh u (((eV h):dA).add 5) λaj=>HT.size+aj.size<=9223372036854775807/\(HT++aj).size+Ra.size<=9223372036854775807/\R ((HT++aj)++Ra) u) (eL (decide (x6=5)) (fh u (((eV h):dA).add 5) λaS=>
 eL (decide (aS=dM)) (fh u (((eV h):dA).add 3) λak=>wm.size+ak.size<=9223372036854775807/\(wm++ak).size+BY.size<=9223372036854775807/\R ((wm++ak)++BY) u) (fh u (((eV h):dA).add 3) λY=>wm.size+Y.size<=9223372036854775807/\(wm++Y).size+vf.size<=9223372036854775807/\fh u (((eV h):dA).add 5) λam=>((wm++Y)++vf).size+am.size<=9223372036854775807/\(((wm++Y)++vf)++am).size+BY.size<=9223372036854775807/\R ((((wm++Y)++vf)++am)++BY) u)) (aI () u)))))
 (λ_ H2=>R dM H2)
theorem ia.calls{N}{O}{Y}{Z}{aa}{ab}{u}{w I}{R}{H0}(h:ia.W N O Y Z aa ab u w I R H0):ia.C N O Y Z aa ab u w I H0 R:=
 m1 (.one .str) (aN [(7,.ord [0,1,2,3,4,5,6,7,8,9,10,11,12,13,17,18,19,20,21,22,14,15,16,23,24,25,26])] [(5,[(3,.one .str),(4,.one (.int .i64))])] [(8,[(3,.one .str)]),(17,[])] []) Tryz.func25 (eM (by kernel_rfl) h)
def ir.W(I:dC)(u af:Nat)(w:Int)(R:Int->dw->Prop)(Z:dw):Prop:=
 eA (λJ3=>
 eA (λJ2=>
 eL (decide (w<0)) (J2 (true,()) Z) (J2 (decide ((u:Int)<=w),()) Z))
 (λs2 H2=>(λ(ab:Bool)=>
 eL ab False (J3 () H2)) s2.1))
 (λ_ H1=>
 eG (IntKind.i64.wrap (w+1)) λh:Int=>
 eA (λJ6=>
 fP (λL4 q4 N=>(λ(h:Int)=>
 eA (λJ5=>
 eL (decide (h<(u:Int))) (∃O:dA,I=some O/\0<=h/\h<(u:Int)/\gf N ((O.add (h.toNat*7)).add 1) λad=>
 ∃Y:dA,I=some Y/\0<=w/\w<(u:Int)/\gf N ((Y.add (w.toNat*7)).add 1) λae=>
 eL (decide (ae<ad)) (J5 () N) (J6 ((h:Int),()) N)) (J6 ((h:Int),()) N))
 (λ_ H5=>
 eG (IntKind.i64.wrap (h+1)) λh:Int=>L4 ((h:Int),()) H5)) q4.1) ((h:Int),()) H1)
 (λs6 H3=>(λ(h:Int)=>R h H3) s6.1))
theorem ir.calls{u}{w I}{N}{R}{O}(h:ir.W u w I N R O):ir.C u w I N O R:=
 m1 (.one (.int .i64)) (aN [(4,.ord (List.range 17))] [(4,[(5,.one (.int .i64))])] [(2,[(13,.one .bool)]),(3,[]),(5,[]),(6,[(5,.one (.int .i64))])] [2]) Tryz.func26 (eM (by kernel_rfl) h)
def gQ.W(h:dE)(u:dE)(R:dE->dw->Prop)(w:dw):Prop:=
 eL (decide (h=dM)) (R u w) (h.size+rG.size<=9223372036854775807/\(h++rG).size+u.size<=9223372036854775807/\R ((h++rG)++u) w)
theorem gQ.calls{u}{w}{R}{I}(h:gQ.W u w R I):gQ.C u w I R:=
 m1 (.one .str) (aN [] [] [] []) Tryz.func27 (eM (by kernel_rfl) h)
def jB.W(ab:dC)(h az:Nat)(ac:dC)(u aA:Nat)(R:Int->dw->Prop)(H0:dw):Prop:=
 eA (λJ6=>
 fP (λL2 q2 H2=>(λ(w:Int)=>
 eA (λJ4=>
 eL (decide (w<(h:Int))) (eL (decide (w<(u:Int))) (J4 () H2) (J6 () H2)) (J6 () H2))
 (λ_ H3=>
 ∃aq:dA,ab=some aq/\0<=w/\w<(h:Int)/\fx H3 (aq.add (w.toNat*7)) λad ae af ag ah ai I N O=>
 ∃ar:dA,ac=some ar/\0<=w/\w<(u:Int)/\fx H3 (ar.add (w.toNat*7)) λaj ak am an ao ap Y Z aa=>
 gC.C ad ae af ag ah ai I N O aj ak am an ao ap Y Z aa H3 λax H4=>
 eL (!ax) False (eG (IntKind.i64.wrap (w+1)) λay:Int=>L2 ((ay:Int),()) H4))) q2.1) ((0:Int),()) H0)
 (λ_ H1=>
 eL (decide ((h:Int)≠(u:Int))) False (R (-1) H1))
theorem jB.calls{u}{w I}{N}{O Y}{R}{Z}(h:jB.W u w I N O Y R Z):jB.C u w I N O Y Z R:=
 m1 (.one (.int .i64)) (aN [(4,.ord (List.range 10))] [(2,[(5,.one (.int .i64))])] [(4,[]),(6,[])] [5,7]) Tryz.func28 (eM (by kernel_rfl) h)
def jY.W(aA:dC)(R:dC->Nat->Nat->dw->Prop)(H0:dw):Prop:=
 kN.C H0 λx7 H1=>
 eA (λaH=>
 ky.C aA H1 λx9 H3=>
 fP (λL4 q4 H4=>(λ(h:dC)(u w:Nat)(ac:Int)=>
 eL (decide (ac<x9)) (
 eA (λaJ=>
 jX.C aA ac H4 λai aj ak am an ao N O Y I=>
 eG (eP I #[.int .i64 0,.int .i64 0,.string dM,.string dM,.string dM,.string dM,.slice none 0 0] eC) λH7:dw=>lj [.int .i64 ai,.int .i64 aj,.string ak,.string am,.string an,.string ao,.slice N O Y] ⟨Array.size I,0,none⟩ 0 H7 λH8=>
 eA (λJ9=>
 fP (λL7 _ aB=>gf aB ((⟨Array.size I,0,none⟩:dA).add 1) λaC=>
 iA.C x7 aB λaK ad=>(gf ad ((⟨Array.size I,0,none⟩:dA).add 1) λaF=>(.int .i64 aF:dB)=.int .i64 aC)/\
 eL (decide ((max aC 1)<=aK)) (gW.C x7 ad λa4 aL=>L7 () aL) (J9 () ad)) () H8)
 (λ_ H9=>
 eA (λaD=>gf H9 ((⟨Array.size I,0,none⟩:dA).add 0) λaM=>
 eL (decide (aM=2)) (gZ.C x7 (some ⟨Array.size I,0,none⟩) H9 λa5 aO=>aD () aO) (aD () H9))
 (λ_ ae=>fx ae ⟨Array.size I,0,none⟩ λap aq ar au av aw Z aa ab=>
 eG (eP ae #[.int .i64 ap,.int .i64 aq,.string ar,.string au,.string av,.string aw,.slice Z aa ab] eC) λaP:dw=>ji eC 7 104 (.agg #[.int .i64 0,.int .i64 0,.string dM,.string dM,.string dM,.string dM,.slice none 0 0]) h u w (.slice (some ⟨Array.size ae,0,none⟩) 1 1) aP λax ay az aQ=>aJ ((ax,ay,az),()) aQ)))
 (λaf H5=>(λ(h:dC)(u w:Nat)=>L4 ((h,u,w),(IntKind.i64.wrap (ac+1):Int),()) H5) af.1.1 af.1.2.1 af.1.2.2)) (aH ((h,u,w),()) H4)) q4.1.1 q4.1.2.1 q4.1.2.2 q4.2.1) ((none,0,0),(0:Int),()) H3)
 (λag H2=>(λ(h:dC)(u w:Nat)=>R h u w H2) ag.1.1 ag.1.2.1 ag.1.2.2)
theorem jY.calls{u}{R}{w}(h:jY.W u R w):jY.C u w R:=
 (mT (aN [(7,.ord [0,2,3,4,1,5])] [(4,[(3,.one .slice),(10,.one (.int .i64))]),(7,[])] [(9,[]),(11,[]),(12,[(3,.one .slice)]),(13,[(3,.one .slice)])] []) (R:=λv H'=>xS (.one .slice) v λr=>R r.1 r.2.1 r.2.2 H') Tryz.func29 (eM (by kernel_rfl) h)).mono λv H' h=>by obtain⟨x,I,N⟩:=nS h;exact⟨x.1,x.2.1,x.2.2,I,N⟩
def pf.W(u:Int)(w:Int)(I:Int)(N:Int)(R:Bool->dw->Prop)(h:dw):Prop:=
 eG (eP h #[.int .i64 u,.int .i64 w,.int .i64 I,.int .i64 N] iG) λH1:dw=>gf H1 (((eV h):dA).add 0) λx6=>
 lk.C x6 0 1048576 H1 λx7 O=>
 eL x7 (gf O (((eV h):dA).add 1) λab=>
 lk.C ab 1 200 O λac Y=>
 eL ac (gf Y (((eV h):dA).add 2) λad=>
 lk.C ad 0 1048576 Y λae Z=>
 eL ae (gf Z (((eV h):dA).add 3) λaf=>
 lk.C af 0 100 Z λag H5=>R ag H5) (R false Z)) (R false Y)) (R false O)
theorem pf.calls{u}{w}{I}{N}{R}{O}(h:pf.W u w I N R O):pf.C u w I N O R:=
 m1 (.one .bool) (aN [] [] [] []) Tryz.func30 (eM (by kernel_rfl) h)
def nH.W(w:dC)(I N:Nat)(R:dE->Int->dw->Prop)(Z:dw):Prop:=
 eG (eP Z #[.int .u8 239,.int .u8 187,.int .u8 191] lI) λH1:dw=>
 bytes_TrimPrefix.C w I N (some (eV Z)) 3 3 H1 λh u Y H2=>
 mE.C h u Y H2 λx8 H3=>
 eL (!x8) False (∃O:dE,qZ H3 h u O/\oD.C O H3 λab H4=>R ab 0 H4)
theorem nH.calls{u}{w I}{R}{N}(h:nH.W u w I R N):nH.C u w I N R:=
 (mT (aN [] [] [] [3]) (R:=λv H'=>xT [.one .str,.one (.int .i64)] v λr=>R r.1 r.2.1 H') Tryz.func31 (eM (by kernel_rfl) h)).mono λv H' h=>by obtain⟨x,O,Y⟩:=gI h;exact⟨x.1,x.2.1,O,Y⟩
def mW.W(Y:dE)(h:dC)(u w:Nat)(I:dC)(N O:Nat)(R:dC->dw->Prop)(H0:dw):Prop:=
 eG (eP H0 #[.string Y,.slice h u w,.slice I N O] gL) λH1:dw=>
 eG (H1.push (.map #[] 0)) λH2:dw=>
 eG (eP H2 #[.map (some (Array.size H1)),.slice none 0 0,.int .i64 0] C0) λH3:dw=>
 eA (λJ9=>fU H3 (((eV H0):dA).add 1) λaf Z ag=>
 fP (S:=(Int×Unit)) (λL3 q3 H5=>(λ(ae:Int)=>
 eL (decide (ae<(Z:Int))) (
 eA (S:=Unit) (λJ8=>False)
 (λ_ H6=>False)) (J9 () H5)) q3.1) ((0:Int),()) H3)
 (λ_ H4=>R (some (eV H2)) H4)
theorem mW.calls{Z}{u}{w I}{N}{O Y}{R}{H0}(h:mW.W Z u w I N O Y R H0):mW.C Z u w I N O Y H0 R:=
 m1 (.one .ptr) (aN [] [(3,[(14,.one (.int .i64))])] [(8,[]),(9,[])] [4,8]) Tryz.func32 (eM (by kernel_rfl) h)
def kN.W(R:dC->dw->Prop)(h:dw):Prop:=
 eG (eP h #[.slice none 0 0] tN) λu:dw=>R (some (eV h)) u
theorem kN.calls{R}{u}(h:kN.W R u):kN.C u R:=
 m1 (.one .ptr) (aN [] [] [] []) Tryz.func33 (eM (by kernel_rfl) h)
def im.W(ab:dC)(w:dE)(R:Int->dw->Prop)(H0:dw):Prop:=
 mi.C w H0 λaG aH H1=>
 eA (λaM=>
 gy.C w aG H1 λaY H3=>
 fP (λL4 q4 H4=>(λ(ac:Int)(h:Int)(u:Bool)=>
 eA (λJ6=>
 eL (decide (h=0)) (eL (decide (ac<(w.size:Int))) (J6 () H4) (aM ((h:Int),()) H4)) (aM ((h:Int),()) H4))
 (λ_ H5=>
 eA (λJ5=>
 jA.C w ac H5 λau ad ae af ag ah ai aI aq H7=>
 eG (eP H7 #[.string dM,.slice none 0 0,.slice none 0 0] gL) λH8:dw=>lj [.string au,.slice ad ae af,.slice ag ah ai] (eV H7) 0 H8 λH9=>
 eL (decide (aq=6)) (iR.C ab w ac H9 λaJ aK a0=>J5 ((aJ:Int),(aK:Int),u,()) a0) (
 eA (λaD=>
 eL (decide (aq≠0)) (aD (true,()) H9) (eL u (aD (true,()) H9) (∃aO:dA,ab=some aO/\sF H9 (aO.add 12) λa3=>aD (a3,()) H9)))
 (λa4 aE=>(λ(a5:Bool)=>
 eL a5 False (oJ aE (eV H7) λar I N O Y Z aa=>oJ aE (eV H7) λaL av aw ax ay az aA=>
 mW.C aL av aw ax ay az aA aE λa6 aP=>(oJ aP (eV H7) λaF aj ak am an ao ap=>(.agg #[.string aF,.slice aj ak am,.slice an ao ap]:dB)=.agg #[.string ar,.slice I N O,.slice Y Z aa])/\
 ∃aQ:dA,ab=some aQ/\lj [.string ar,.slice I N O,.slice Y Z aa] (aQ.add 5) 0 aP λa7=>
 ∃aR:dA,ab=some aR/\j0 (.pointer a6) (aR.add 8) a7 λa8=>J5 ((aI:Int),(h:Int),true,()) a8)) a4.1)))
 (λs5 H6=>(λ(ac:Int)(h:Int)(u:Bool)=>
 gy.C w ac H6 λa9 ba=>L4 ((a9:Int),(h:Int),u,()) ba) s5.1 s5.2.1 s5.2.2.1))) q4.1 q4.2.1 q4.2.2.1) ((aY:Int),(aH:Int),false,()) H3)
 (λbb H2=>(λ(h:Int)=>
 eA (λbc=>
 eA (λaS=>
 eL (decide (h=0)) (∃aT:dA,ab=some aT/\sF H2 (aT.add 12) λbd=>aS (!bd,()) H2) (aS (false,()) H2))
 (λbe bf=>(λ(bg:Bool)=>
 eL bg False (bc ((h:Int),()) bf)) be.1))
 (λbh bi=>(λ(h:Int)=>R h bi) bh.1)) bb.1)
theorem im.calls{u}{w}{R}{I}(h:im.W u w R I):im.C u w I R:=
 m1 (.one (.int .i64)) (aN [(8,.ord (List.range 11))] [(4,[(5,.one (.int .i64)),(6,.one (.int .i64)),(7,.one .bool)])] [(5,[(5,.one (.int .i64)),(6,.one (.int .i64)),(7,.one .bool)]),(6,[]),(12,[(57,.one .bool)]),(13,[(6,.one (.int .i64))]),(14,[(77,.one .bool)]),(15,[(6,.one (.int .i64))])] [12,14]) Tryz.func34 (eM (by kernel_rfl) h)
def o9.W(ab:dC)(N ay:Nat)(R:Bool->dw->Prop)(H0:dw):Prop:=
 eA (λJ3=>
 eA (λJ2=>
 eL (decide ((N:Int)<1)) (J2 (true,()) H0) (J2 (decide ((1048576:Int)<(N:Int)),()) H0))
 (λs2 H2=>(λ(aY:Bool)=>
 eL aY False (J3 () H2)) s2.1))
 (λ_ H1=>
 kN.C H1 λaS H3=>
 eA (λaZ=>
 fP (λL7 q7 O=>(λ(I:Int)(u:dC)(h w:Nat)(Y:Int)=>
 eL (decide (Y<(N:Int))) (
 eA (λar=>
 ∃aT:dA,ab=some aT/\0<=Y/\Y<(N:Int)/\fx O (aT.add (Y.toNat*7)) λaz aA aB aC aD aE ag ah ai=>
 eG (eP O #[.int .i64 0,.int .i64 0,.string dM,.string dM,.string dM,.string dM,.slice none 0 0] eC) λH7:dw=>lj [.int .i64 az,.int .i64 aA,.string aB,.string aC,.string aD,.string aE,.slice ag ah ai] ⟨Array.size O,0,none⟩ 0 H7 λH8=>
 lU.C ab N ay Y H8 λa0 H9=>
 eL (!a0) False (
 eA (λaU=>
 fP (λa3 au Z=>(λ(u:dC)(h w:Nat)=>
 eA (λa4=>
 eL (decide ((0:Int)<(h:Int))) (∃aV:dA,u=some aV/\0<=IntKind.i64.wrap ((h:Int)-1)/\IntKind.i64.wrap ((h:Int)-1)<(h:Int)/\gf Z (aV.add ((IntKind.i64.wrap ((h:Int)-1)).toNat)) λa5=>gf Z ((⟨Array.size O,0,none⟩:dA).add 1) λa6=>
 eL (decide (a6<=a5)) (a4 () Z) (aU ((u,h,w),()) Z)) (aU ((u,h,w),()) Z))
 (λ_ a7=>0<=IntKind.i64.wrap ((h:Int)-1)/\IntKind.i64.wrap ((h:Int)-1)<=(w:Int)/\gW.C aS a7 λbv a8=>a3 (((if w=0 then u else Option.map (λq:dA=>q.add 0) u),(((IntKind.i64.wrap ((h:Int)-1)).toNat)-0:Nat),(w-0:Nat)),()) a8)) au.1.1 au.1.2.1 au.1.2.2) ((u,h,w),()) H9)
 (λav aa=>(λ(u:dC)(h w:Nat)=>gf aa ((⟨Array.size O,0,none⟩:dA).add 0) λa9=>
 eL (decide (a9≠2)) (fx aa ⟨Array.size O,0,none⟩ λaF aG aH aI aJ aK aj ak am=>
 vH.C aF aG aH aI aJ aK aj ak am aa λba bb=>
 eL (!ba) False (ar ((I:Int),(u,h,w),()) bb)) (fx aa ⟨Array.size O,0,none⟩ λaL aM aO aP aQ aR an ao ap=>
 kR.C aL aM aO aP aQ aR an ao ap aS aa λbc aw=>
 eL (!bc) False (gf aw ((⟨Array.size O,0,none⟩:dA).add 1) λbd=>
 eG (eP aw #[.int .i64 bd] gP) λbe:dw=>ji gP 1 8 (.int .i64 0) u h w (.slice (some ⟨Array.size aw,0,none⟩) 1 1) be λac ad ae ax=>gf ax ((⟨Array.size O,0,none⟩:dA).add 1) λbf=>
 eL (decide (bf=1)) (eG (IntKind.i64.wrap (I+1)) λI:Int=>ar ((I:Int),(ac,ad,ae),()) ax) (ar ((I:Int),(ac,ad,ae),()) ax)))) av.1.1 av.1.2.1 av.1.2.2)))
 (λaf H6=>(λ(I:Int)(u:dC)(h w:Nat)=>L7 ((I:Int),(u,h,w),(IntKind.i64.wrap (Y+1):Int),()) H6) af.1 af.2.1.1 af.2.1.2.1 af.2.1.2.2)) (aZ ((I:Int),()) O)) q7.1 q7.2.1.1 q7.2.1.2.1 q7.2.1.2.2 q7.2.2.1) ((0:Int),(none,0,0),(0:Int),()) H3)
 (λbg H4=>(λ(I:Int)=>R (decide (I=1)) H4) bg.1))
theorem o9.calls{u}{w I}{R}{N}(h:o9.W u w I R N):o9.C u w I N R:=
 m1 (.one .bool) (aN [(11,.ord (List.range 14))] [(7,[(3,.one (.int .i64)),(5,.one .slice),(19,.one (.int .i64))]),(11,[(5,.one .slice)])] [(2,[(15,.one .bool)]),(3,[]),(12,[]),(14,[(5,.one .slice)]),(22,[(3,.one (.int .i64)),(5,.one .slice)]),(23,[(3,.one (.int .i64))])] [2,10,16,18]) Tryz.func35 (eM (by kernel_rfl) h)
def jS.W(Z:dC)(I ar:Nat)(R:dE->dw->Prop)(H0:dw):Prop:=
 eG (eP H0 #[.pointer none,.slice none 0 0] ic) λH1:dw=>
 eA (λai=>
 fP (λL3 q3 w=>(λ(h:Int)=>
 eL (decide (h<(I:Int))) (
 eA (λaj=>
 ∃ae:dA,Z=some ae/\0<=h/\h<(I:Int)/\kg w (ae.add (h.toNat*4)) λaa ab ac ad=>
 eG (eP w #[.string dM,.string dM,.string dM,.string dM] eF) λH5:dw=>lj [.string aa,.string ab,.string ac,.string ad] ⟨Array.size w,0,none⟩ 0 H5 λN=>fh N ((⟨Array.size w,0,none⟩:dA).add 0) λak=>fh N ((⟨Array.size w,0,none⟩:dA).add 1) λam=>fh N ((⟨Array.size w,0,none⟩:dA).add 3) λan=>
 eG (eP N #[.string ak,.string am,.string an] fp) λH7:dw=>
 fP (λL6 q6 H8=>(λ(u:Int)=>
 eL (decide (u<(((3:Nat):Int)))) (∃af:dA,some ⟨Array.size N,0,none⟩=some af/\0<=u/\u<(3:Int)/\fh H8 (af.add u.toNat) λO=>
 th.C ((O.size:Int)) H8 λY H9=>Y.size+rG.size<=9223372036854775807/\(Y++rG).size+O.size<=9223372036854775807/\ff.C (some ⟨Array.size H0,0,none⟩) ((Y++rG)++O) H9 λau av ao=>L6 ((IntKind.i64.wrap (u+1):Int),()) ao) (aj () H8)) q6.1) ((0:Int),()) H7)
 (λ_ H4=>L3 ((IntKind.i64.wrap (h+1):Int),()) H4)) (ai () w)) q3.1) ((0:Int),()) H1)
 (λ_ H2=>
 gz.C (some ⟨Array.size H0,0,none⟩) H2 λap aq=>R ap aq)
theorem jS.calls{u}{w I}{R}{N}(h:jS.W u w I R N):jS.C u w I N R:=
 m1 (.one .str) (aN [] [(3,[(10,.one (.int .i64))]),(6,[(22,.one (.int .i64))])] [(10,[]),(11,[])] []) Tryz.func36 (eM (by kernel_rfl) h)
def nJ.W(ad:dC)(I aj:Nat)(R:dC->Int->dw->Prop)(H0:dw):Prop:=
 nK.C ad I aj H0 λaU H1=>
 eL (!aU) (R none 1 H1) (nh.C ad I aj H1 λaz aA H2=>
 eA (λJ6=>
 eA (λJ5=>
 eL (decide (aA≠0)) (J5 (true,()) H2) (J5 (decide ((4194304:Int)<(I:Int)),()) H2))
 (λs5 H4=>(λ(aZ:Bool)=>
 eL aZ (R none 7 H4) (J6 () H4)) s5.1))
 (λ_ O=>
 eG (eP O #[.pointer az,.nilIface,.int .i64 1,.int .i64 0] mC) λH5:dw=>
 eA (λJ9=>
 fP (λL7 _ H7=>
 ∃aB:dA,some ⟨Array.size O,0,none⟩=some aB/\
 ∃aC:Int,dL H7 (aB.add 2)=some (.int .i64 aC)/\
 eL (decide ((IntKind.i64.wrap (aC*64))<(I:Int))) (∃aD:dA,some ⟨Array.size O,0,none⟩=some aD/\
 ∃aE:Int,dL H7 (aD.add 2)=some (.int .i64 aE)/\
 ∃ak:dA,some ⟨Array.size O,0,none⟩=some ak/\(∃u,dL H7 (ak.add 2)=some u)/\fH H7 (ak.add 2)=false/\
 eG (gO H7 (ak.add 2) (.int .i64 (IntKind.i64.wrap (aE*2)))) λH8:dw=>L7 () H8) (J9 () H7)) () H5)
 (λ_ H6=>
 ∃aF:dA,some ⟨Array.size O,0,none⟩=some aF/\
 ∃w:Int,dL H6 (aF.add 2)=some (.int .i64 w)/\0<=IntKind.i64.wrap (2*w)/\IntKind.i64.wrap (2*w)<=IntKind.i64.wrap (2*w)/\((8:Nat):Int)*(IntKind.i64.wrap (2*w))<=281474976710656/\
 eG (eP H6 (j5 (.int .i64 0) ((IntKind.i64.wrap (2*w)).toNat)) gP) λH9:dw=>
 eA (λa3=>
 ∃aG:dA,some ⟨Array.size O,0,none⟩=some aG/\
 ∃aH:Int,dL H9 (aG.add 2)=some (.int .i64 aH)/\
 fP (λa4 a5 ah=>(λ(Y:Int)=>
 eL (decide (Y<aH)) (∃aI:dA,some ⟨Array.size O,0,none⟩=some aI/\
 ∃aa:Int,dL ah (aI.add 2)=some (.int .i64 aa)/\
 ∃am:dA,some ⟨Array.size H6,0,none⟩=some am/\0<=IntKind.i64.wrap (aa+Y)/\IntKind.i64.wrap (aa+Y)<((IntKind.i64.wrap (2*w)).toNat:Int)/\(∃u,dL ah (am.add ((IntKind.i64.wrap (aa+Y)).toNat))=some u)/\fH ah (am.add ((IntKind.i64.wrap (aa+Y)).toNat))=false/\
 eG (gO ah (am.add ((IntKind.i64.wrap (aa+Y)).toNat)) (.int .i64 (I:Int))) λa6:dw=>a4 ((IntKind.i64.wrap (Y+1):Int),()) a6) (a3 () ah)) a5.1) ((0:Int),()) H9)
 (λ_ a7=>
 eA (λa8=>
 fP (λa9 aJ an=>(λ(Z:Int)(ab:Int)=>
 eL (decide (ab<(I:Int))) (
 eA (λba=>
 ∃aK:dA,ad=some aK/\0<=ab/\ab<(I:Int)/\
 ∃aL:Bool,dL an (aK.add ab.toNat)=some (.bool aL)/\
 eA (λaM=>
 eG (IntKind.i64.wrap (Z-1)) λZ:Int=>
 eL aL (eG (IntKind.i64.wrap (Z+2)) λZ:Int=>aM ((Z:Int),()) an) (aM ((Z:Int),()) an))
 (λbb ai=>(λ(Z:Int)=>
 ∃aO:dA,some ⟨Array.size O,0,none⟩=some aO/\
 ∃aP:Int,dL ai (aO.add 2)=some (.int .i64 aP)/\(64:Int)≠0/\
 eG (IntKind.i64.wrap (aP+(IntKind.i64.wrap (Int.tdiv ab 64)))) λN:Int=>
 ∃aQ:dA,some ⟨Array.size H6,0,none⟩=some aQ/\0<=N/\N<((IntKind.i64.wrap (2*w)).toNat:Int)/\
 ∃aR:Int,dL ai (aQ.add N.toNat)=some (.int .i64 aR)/\
 ∃ao:dA,some ⟨Array.size H6,0,none⟩=some ao/\0<=N/\N<((IntKind.i64.wrap (2*w)).toNat:Int)/\(∃u,dL ai (ao.add N.toNat)=some u)/\fH ai (ao.add N.toNat)=false/\
 eG (gO ai (ao.add N.toNat) (.int .i64 (min aR Z))) λbc:dw=>ba ((Z:Int),()) bc) bb.1))
 (λbd be=>(λ(Z:Int)=>a9 ((Z:Int),(IntKind.i64.wrap (ab+1):Int),()) be) bd.1)) (a8 () an)) aJ.1 aJ.2.1) ((0:Int),(0:Int),()) a7)
 (λ_ aS=>
 eA (λbf=>
 ∃aq:dA,some ⟨Array.size O,0,none⟩=some aq/\
 ∃ar:Int,dL aS (aq.add 2)=some (.int .i64 ar)/\
 eG (IntKind.i64.wrap (ar-1)) λh:Int=>
 fP (λbg bh ac=>(λ(h:Int)=>
 eL (decide ((0:Int)<h)) (∃au:dA,some ⟨Array.size H6,0,none⟩=some au/\0<=IntKind.i64.wrap (2*h)/\IntKind.i64.wrap (2*h)<((IntKind.i64.wrap (2*w)).toNat:Int)/\
 ∃av:Int,dL ac (au.add ((IntKind.i64.wrap (2*h)).toNat))=some (.int .i64 av)/\
 ∃aw:dA,some ⟨Array.size H6,0,none⟩=some aw/\0<=IntKind.i64.wrap ((IntKind.i64.wrap (2*h))+1)/\IntKind.i64.wrap ((IntKind.i64.wrap (2*h))+1)<((IntKind.i64.wrap (2*w)).toNat:Int)/\
 ∃ax:Int,dL ac (aw.add ((IntKind.i64.wrap ((IntKind.i64.wrap (2*h))+1)).toNat))=some (.int .i64 ax)/\
 ∃af:dA,some ⟨Array.size H6,0,none⟩=some af/\0<=h/\h<((IntKind.i64.wrap (2*w)).toNat:Int)/\(∃u,dL ac (af.add h.toNat)=some u)/\fH ac (af.add h.toNat)=false/\
 eG (gO ac (af.add h.toNat) (.int .i64 (min av ax))) λbi:dw=>
 eG (IntKind.i64.wrap (h-1)) λaT:Int=>bg ((aT:Int),()) bi) (bf () ac)) bh.1) ((h:Int),()) aS)
 (λ_ ay=>
 ∃ag:dA,some ⟨Array.size O,0,none⟩=some ag/\(∃u,dL ay (ag.add 1)=some u)/\fH ay (ag.add 1)=false/\
 eG (gO ay (ag.add 1) (.iface EF (.slice (some ⟨Array.size H6,0,none⟩) ((IntKind.i64.wrap (2*w)).toNat) ((IntKind.i64.wrap (2*w)).toNat)))) λbj:dw=>R (some ⟨Array.size O,0,none⟩) 0 bj))))))
theorem nJ.calls{u}{w I}{R}{N}(h:nJ.W u w I R N):nJ.C u w I N R:=
 (mT (aN [(28,.ord (List.range 16))] [(7,[]),(11,[(57,.one (.int .i64))]),(17,[(9,.one (.int .i64)),(73,.one (.int .i64))]),(26,[(13,.one (.int .i64))])] [(5,[(28,.one .bool)]),(6,[]),(9,[]),(15,[]),(22,[(9,.one (.int .i64))]),(24,[(9,.one (.int .i64))]),(25,[]),(29,[])] []) (R:=λv H'=>xT [.one .ptr,.one (.int .i64)] v λr=>R r.1 r.2.1 H') Tryz.func37 (eM (by kernel_rfl) h)).mono λv H' h=>by obtain⟨x,O,Y⟩:=gI h;exact⟨x.1,x.2.1,O,Y⟩
def lX.W(aj:dC)(O aS:Nat)(R:dC->Nat->Nat->dw->Prop)(H0:dw):Prop:=
 eA (λaG=>
 fP (λL4 q4 H2=>(λ(u:dC)(w I:Nat)(h:Int)(x9:Int)=>
 eL (decide (x9<(O:Int))) (
 eA (λaH=>
 ∃aF:dA,aj=some aF/\0<=x9/\x9<(O:Int)/\fx H2 (aF.add (x9.toNat*7)) λak am an ao ap aq ab ac ad=>
 eG (eP H2 #[.int .i64 0,.int .i64 0,.string dM,.string dM,.string dM,.string dM,.slice none 0 0] eC) λH4:dw=>lj [.int .i64 ak,.int .i64 am,.string an,.string ao,.string ap,.string aq,.slice ab ac ad] (eV H2) 0 H4 λH5=>
 eA (λJ9=>
 fP (λL6 q6 H7=>(λ(u:dC)(w I:Nat)(h:Int)=>gf H7 (((eV H2):dA).add 1) λaI=>
 eL (decide (aI<h)) (eG (eP H7 #[.bool false] iz) λH8:dw=>ji iz 1 1 (.bool false) u w I (.slice (some (eV H7)) 1 1) H8 λav aw ax H9=>
 eG (IntKind.i64.wrap (h-1)) λN:Int=>L6 ((av,aw,ax),(N:Int),()) H9) (J9 ((u,w,I),(h:Int),()) H7)) q6.1.1 q6.1.2.1 q6.1.2.2 q6.2.1) ((u,w,I),(h:Int),()) H5)
 (λs9 H6=>(λ(u:dC)(w I:Nat)(h:Int)=>
 eG (eP H6 #[.bool true] iz) λaK:dw=>ji iz 1 1 (.bool false) u w I (.slice (some (eV H6)) 1 1) aK λaz aA aB aL=>
 eG (IntKind.i64.wrap (h+1)) λh:Int=>aH ((az,aA,aB),(h:Int),()) aL) s9.1.1 s9.1.2.1 s9.1.2.2 s9.2.1))
 (λY H3=>(λ(u:dC)(w I:Nat)(h:Int)=>L4 ((u,w,I),(h:Int),(IntKind.i64.wrap (x9+1):Int),()) H3) Y.1.1 Y.1.2.1 Y.1.2.2 Y.2.1)) (aG ((u,w,I),(h:Int),()) H2)) q4.1.1 q4.1.2.1 q4.1.2.2 q4.2.1 q4.2.2.1) ((none,0,0),(0:Int),(0:Int),()) H0)
 (λZ H1=>(λ(u:dC)(w I:Nat)(h:Int)=>
 eA (λaM=>
 fP (λaO aa ah=>(λ(u:dC)(w I:Nat)(h:Int)=>
 eL (decide ((0:Int)<h)) (eG (eP ah #[.bool false] iz) λaP:dw=>ji iz 1 1 (.bool false) u w I (.slice (some (eV ah)) 1 1) aP λaC aD aE aQ=>
 eG (IntKind.i64.wrap (h-1)) λN:Int=>aO ((aC,aD,aE),(N:Int),()) aQ) (aM ((u,w,I),()) ah)) aa.1.1 aa.1.2.1 aa.1.2.2 aa.2.1) ((u,w,I),(h:Int),()) H1)
 (λai aR=>(λ(u:dC)(w I:Nat)=>R u w I aR) ai.1.1 ai.1.2.1 ai.1.2.2)) Z.1.1 Z.1.2.1 Z.1.2.2 Z.2.1)
theorem lX.calls{u}{w I}{R}{N}(h:lX.W u w I R N):lX.C u w I N R:=
 (mT (aN [] [(4,[(3,.one .slice),(4,.one (.int .i64)),(9,.one (.int .i64))]),(6,[(3,.one .slice),(4,.one (.int .i64))]),(12,[(3,.one .slice),(4,.one (.int .i64))])] [(9,[(3,.one .slice),(4,.one (.int .i64))]),(11,[(3,.one .slice),(4,.one (.int .i64))]),(12,[(3,.one .slice),(4,.one (.int .i64))]),(15,[(3,.one .slice)])] []) (R:=λv H'=>xS (.one .slice) v λr=>R r.1 r.2.1 r.2.2 H') Tryz.func38 (eM (by kernel_rfl) h)).mono λv H' h=>by obtain⟨x,O,Y⟩:=nS h;exact⟨x.1,x.2.1,x.2.2,O,Y⟩
def o0.W(an:dC)(ac aG:Nat)(aa:Int)(R:dC->Int->dw->Prop)(H0:dw):Prop:=
 eA (λJ3=>
 eA (λJ2=>
 eL (decide (aa<1)) (J2 (true,()) H0) (J2 (decide ((1048576:Int)<aa),()) H0))
 (λs2 H2=>(λ(a4:Bool)=>
 eL a4 (R none 1 H2) (J3 () H2)) s2.1))
 (λ_ H1=>
 eA (λJ9=>
 fP (λL4 q4 H4=>(λ(ah:Int)=>
 eL (decide (ah<(ac:Int))) (
 eA (λJ8=>
 ∃aT:dA,an=some aT/\0<=ah/\ah<(ac:Int)/\
 ∃ax:Int,dL H4 (aT.add ah.toNat)=some (.int .i64 ax)/\
 eA (λJ7=>
 eL (decide (ax<0)) (J7 (true,()) H4) (J7 (decide (aa<=ax),()) H4))
 (λs7 H6=>(λ(a7:Bool)=>
 eL a7 (R none 1 H6) (J8 () H6)) s7.1))
 (λ_ H5=>L4 ((IntKind.i64.wrap (ah+1):Int),()) H5)) (J9 () H4)) q4.1) ((0:Int),()) H1)
 (λ_ H3=>
 eL (decide ((1048576:Int)<(ac:Int))) (R none 7 H3) (eG (eP H3 #[.slice none 0 0,.int .i64 (ac:Int),.int .i64 aa,.int .i64 0] pN) λH7:dw=>
 eA (λa8=>
 lr.C (IntKind.u64.wrap (IntKind.i64.wrap (aa-1))) H7 λa9 H9=>
 eG (IntKind.i64.wrap (a9-1)) λk9:Int=>
 fP (λba ao ai=>(λ(am:dC)(Z az:Nat)(k9:Int)=>
 eL (decide ((0:Int)<=k9)) (
 eA (λbb=>0<=(Z:Int)/\(Z:Int)<=(Z:Int)/\((1:Nat):Int)*(Z:Int)<=281474976710656/\
 eG (eP ai (j5 (.bool false) ((Z:Int).toNat)) iz) λbc:dw=>
 eA (λbd=>
 fP (λbe ad aj=>(λ(h:dC)(w I:Nat)(N:dC)(O Y:Nat)(ab:Int)=>
 eL (decide (ab<(Z:Int))) (
 eA (λaU=>
 ∃aV:dA,am=some aV/\0<=ab/\ab<(Z:Int)/\
 ∃ap:Int,dL aj (aV.add ab.toNat)=some (.int .i64 ap)/\0<=(IntKind.u64.wrap k9)/\
 ∃aq:dA,some ⟨Array.size ai,0,none⟩=some aq/\0<=ab/\ab<((Z:Int).toNat:Int)/\(∃u,dL aj (aq.add ab.toNat)=some u)/\fH aj (aq.add ab.toNat)=false/\
 eG (gO aj (aq.add ab.toNat) (.bool (decide ((lx .i64 (mu .i64 ap (IntKind.u64.wrap k9)) 1)=1)))) λak:dw=>
 ∃aW:dA,some ⟨Array.size ai,0,none⟩=some aW/\0<=ab/\ab<((Z:Int).toNat:Int)/\
 ∃aX:Bool,dL ak (aW.add ab.toNat)=some (.bool aX)/\
 eL aX (eG (eP ak #[.int .i64 ap] gP) λbf:dw=>ji gP 1 8 (.int .i64 0) N O Y (.slice (some ⟨Array.size ak,0,none⟩) 1 1) bf λaI aJ aK bg=>aU ((h,w,I),(aI,aJ,aK),()) bg) (eG (eP ak #[.int .i64 ap] gP) λbh:dw=>ji gP 1 8 (.int .i64 0) h w I (.slice (some ⟨Array.size ak,0,none⟩) 1 1) bh λaL aM aO bi=>aU ((aL,aM,aO),(N,O,Y),()) bi))
 (λae bj=>(λ(h:dC)(w I:Nat)(N:dC)(O Y:Nat)=>be ((h,w,I),(N,O,Y),(IntKind.i64.wrap (ab+1):Int),()) bj) ae.1.1 ae.1.2.1 ae.1.2.2 ae.2.1.1 ae.2.1.2.1 ae.2.1.2.2)) (bd ((h,w,I),(N,O,Y),()) aj)) ad.1.1 ad.1.2.1 ad.1.2.2 ad.2.1.1 ad.2.1.2.1 ad.2.1.2.2 ad.2.2.1) ((none,0,0),(none,0,0),(0:Int),()) bc)
 (λaf bk=>(λ(h:dC)(w I:Nat)(N:dC)(O Y:Nat)=>
 nh.C (some ⟨Array.size ai,0,none⟩) ((Z:Int).toNat) ((Z:Int).toNat) bk λaP br aA=>
 ∃aY:dA,some ⟨Array.size H3,0,none⟩=some aY/\
 ∃(ar:dC)(au av:Nat),dL aA (aY.add 0)=some (.slice ar au av)/\
 eG (eP aA #[.iface lJ (.pointer aP)] nw) λbm:dw=>ji nw 1 16 (.nilIface) ar au av (.slice (some ⟨Array.size aA,0,none⟩) 1 1) bm λaQ aR aS aB=>
 ∃ag:dA,some ⟨Array.size H3,0,none⟩=some ag/\(∃u,dL aB (ag.add 0)=some u)/\fH aB (ag.add 0)=false/\
 eG (gO aB (ag.add 0) (.slice aQ aR aS)) λbn:dw=>ji gP 1 8 (.int .i64 0) h w I (.slice N O Y) bn λaC aD aE bo=>bb ((aC,aD,aE),()) bo) af.1.1 af.1.2.1 af.1.2.2 af.2.1.1 af.2.1.2.1 af.2.1.2.2))
 (λaF bp=>(λ(am:dC)(Z az:Nat)=>
 eG (IntKind.i64.wrap (k9-1)) λbq:Int=>ba ((am,Z,az),(bq:Int),()) bp) aF.1.1 aF.1.2.1 aF.1.2.2)) (a8 () ai)) ao.1.1 ao.1.2.1 ao.1.2.2 ao.2.1) ((an,ac,aG),(k9:Int),()) H9)
 (λ_ H8=>R (some ⟨Array.size H3,0,none⟩) 0 H8))))
theorem o0.calls{w}{I N}{u}{R}{O}(h:o0.W w I N u R O):o0.C w I N u O R:=
 (mT (aN [] [(4,[(25,.one (.int .i64))]),(13,[(0,.one .slice),(9,.one (.int .i64))]),(18,[(11,.one .slice),(12,.one .slice),(59,.one (.int .i64))])] [(2,[(22,.one .bool)]),(3,[]),(7,[(35,.one .bool)]),(8,[]),(9,[]),(14,[(0,.one .slice)]),(24,[(11,.one .slice),(12,.one .slice)]),(25,[(11,.one .slice),(12,.one .slice)]),(28,[])] []) (R:=λv H'=>xT [.one .ptr,.one (.int .i64)] v λr=>R r.1 r.2.1 H') Tryz.func39 (eM (by kernel_rfl) h)).mono λv H' h=>by obtain⟨x,Y,Z⟩:=gI h;exact⟨x.1,x.2.1,Y,Z⟩
def nZ.W(Y:dC)(I aa:Nat)(R:dC->Int->dw->Prop)(H0:dw):Prop:=
 eG (eP H0 #[.int .i64 0] gP) λH1:dw=>
 eA (λJ9=>
 fP (λL3 q3 O=>(λ(u:dC)(w N:Nat)(h:Int)=>
 eL (decide (h<(I:Int))) (∃ah:dA,Y=some ah/\0<=h/\h<(I:Int)/\
 ∃Z:dE,dL O (ah.add h.toNat)=some (.string Z)/\
 ∃ai:dA,u=some ai/\0<=h/\h<(w:Int)/\
 ∃aj:Int,dL O (ai.add h.toNat)=some (.int .i64 aj)/\
 eL (decide ((IntKind.i64.wrap (8388608-aj))<(Z.size:Int))) (R none 7 O) (∃ak:dA,u=some ak/\0<=h/\h<(w:Int)/\
 ∃am:Int,dL O (ak.add h.toNat)=some (.int .i64 am)/\
 eG (eP O #[.int .i64 (IntKind.i64.wrap (am+(Z.size:Int)))] gP) λH4:dw=>ji gP 1 8 (.int .i64 0) u w N (.slice (some (eV O)) 1 1) H4 λac ad ae H5=>L3 ((ac,ad,ae),(IntKind.i64.wrap (h+1):Int),()) H5)) (J9 ((u,w,N),()) O)) q3.1.1 q3.1.2.1 q3.1.2.2 q3.2.1) ((some (eV H0),1,1),(0:Int),()) H1)
 (λs9 H2=>(λ(u:dC)(w N:Nat)=>
 pg.C u w N H2 λaf ag H6=>
 eL (decide (ag≠0)) (R none 7 H6) (strings_Join.C Y I aa dM H6 λaq H7=>
 eG (eP H7 #[.string aq,.iface qm (.pointer af),.int .i64 (I:Int)] wG) λH8:dw=>R (some (eV H7)) 0 H8)) s9.1.1 s9.1.2.1 s9.1.2.2)
theorem nZ.calls{u}{w I}{R}{N}(h:nZ.W u w I R N):nZ.C u w I N R:=
 (mT (aN [] [(3,[(4,.one .slice),(12,.one (.int .i64))])] [(9,[(4,.one .slice)])] []) (R:=λv H'=>xT [.one .ptr,.one (.int .i64)] v λr=>R r.1 r.2.1 H') Tryz.func40 (eM (by kernel_rfl) h)).mono λv H' h=>by obtain⟨x,O,Y⟩:=gI h;exact⟨x.1,x.2.1,O,Y⟩
def iC.W(u:dC)(h ae:Nat)(R:Int->dw->Prop)(H0:dw):Prop:=
 eA (λJ3=>
 eL (decide ((h:Int)<1)) False (J3 () H0))
 (λ_ H1=>
 ∃N:dA,u=some N/\0<=(0:Int)/\(0:Int)<(h:Int)/\
 ∃O:Int,dL H1 (N.add ((0:Int).toNat))=some (.int .i64 O)/\
 eA (λJ8=>
 fP (λL5 q5 H3=>(λ(w:Int)(I:Int)=>
 eL (decide (I<(h:Int))) (∃Y:dA,u=some Y/\0<=I/\I<(h:Int)/\
 ∃Z:Int,dL H3 (Y.add I.toNat)=some (.int .i64 Z)/\
 eG (max w Z) λw:Int=>
 eG (IntKind.i64.wrap (I+1)) λad:Int=>L5 ((w:Int),(ad:Int),()) H3) (J8 ((w:Int),()) H3)) q5.1 q5.2.1) ((O:Int),(1:Int),()) H1)
 (λs8 H2=>(λ(w:Int)=>R w H2) s8.1))
theorem iC.calls{u}{w I}{R}{N}(h:iC.W u w I R N):iC.C u w I N R:=
 m1 (.one (.int .i64)) (aN [] [(5,[(3,.one (.int .i64)),(4,.one (.int .i64))])] [(3,[]),(8,[(3,.one (.int .i64))])] []) Tryz.func41 (eM (by kernel_rfl) h)
def ky.W(h:dC)(R:Int->dw->Prop)(u:dw):Prop:=
 eL (Option.isNone h) False (∃w:dA,h=some w/\tE u (w.add 0) λI=>
 iH.C I u λN O=>(2:Int)≠0/\
 eG (IntKind.i64.wrap (Int.tdiv N 2)) λY:Int=>R Y O)
theorem ky.calls{u}{R}{w}(h:ky.W u R w):ky.C u w R:=
 m1 (.one (.int .i64)) (aN [] [] [] [2]) Tryz.func43 (eM (by kernel_rfl) h)
def fW.W(N:dC)(h:dE)(R:dE->Bool->dw->Prop)(H0:dw):Prop:=
 eL (decide (h=tG)) (R pD true H0) (
 eA (λaC=>
 ∃aq:dA,N=some aq/\fU H0 (aq.add 0) λaH Y aI=>
 eG (IntKind.i64.wrap ((Y:Int)-1)) λu:Int=>
 fP (λL4 q4 H2=>(λ(u:Int)=>
 eL (decide ((0:Int)<=u)) (
 eA (λJ5=>
 fP (λL7 q7 I=>(λ(w:Int)=>
 ∃ar:dA,N=some ar/\fU I (ar.add 0) λZ aa aJ=>
 ∃au:dA,Z=some au/\0<=u/\u<(aa:Int)/\fU I (au.add u.toNat) λaK ab aL=>
 eL (decide (w<(ab:Int))) (∃av:dA,N=some av/\fU I (av.add 0) λac ad aM=>
 ∃aw:dA,ac=some aw/\0<=u/\u<(ad:Int)/\fU I (aw.add u.toNat) λae af aO=>
 ∃ax:dA,ae=some ax/\0<=w/\w<(af:Int)/\kg I (ax.add (w.toNat*4)) λag ah ai aj=>
 kK.C ag ah ai aj I λak aP O=>
 eL (decide (ak=h)) (∃ay:dA,N=some ay/\fU O (ay.add 0) λam an aQ=>
 ∃az:dA,am=some az/\0<=u/\u<(an:Int)/\fU O (az.add u.toNat) λao ap aR=>
 ∃aA:dA,ao=some aA/\0<=w/\w<(ap:Int)/\fh O ((aA.add (w.toNat*4)).add 3) λaE=>R aE true O) (eG (IntKind.i64.wrap (w+1)) λaF:Int=>L7 ((aF:Int),()) O)) (J5 () I)) q7.1) ((0:Int),()) H2)
 (λ_ H3=>
 eG (IntKind.i64.wrap (u-1)) λaG:Int=>L4 ((aG:Int),()) H3)) (aC () H2)) q4.1) ((u:Int),()) H0)
 (λ_ H1=>R dM (decide (h=dM)) H1))
theorem fW.calls{w}{u}{R}{I}(h:fW.W w u R I):fW.C w u I R:=
 (mT (aN [] [(4,[(6,.one (.int .i64))]),(7,[(7,.one (.int .i64))])] [(5,[]),(12,[])] []) (R:=λv H'=>xT [.one .str,.one .bool] v λr=>R r.1 r.2.1 H') Tryz.func47 (eM (by kernel_rfl) h)).mono λv H' h=>by obtain⟨x,N,O⟩:=gI h;exact⟨x.1,x.2.1,N,O⟩
def gC.W(ab:Int)(ac:Int)(ad:dE)(ae:dE)(af:dE)(ag:dE)(I:dC)(N O:Nat)(ah:Int)(ai:Int)(aj:dE)(ak:dE)(am:dE)(an:dE)(Y:dC)(Z aa:Nat)(R:Bool->dw->Prop)(u:dw):Prop:=
 eG (eP u #[.int .i64 ab,.int .i64 ac,.string ad,.string ae,.string af,.string ag,.slice I N O] eC) λw:dw=>
 eG (eP w #[.int .i64 ah,.int .i64 ai,.string aj,.string ak,.string am,.string an,.slice Y Z aa] eC) λh:dw=>gf h (((eV u):dA).add 0) λx6=>gf h (((eV w):dA).add 0) λx8=>
 eL (decide (x6=x8)) (gf h (((eV u):dA).add 1) λaw=>gf h (((eV w):dA).add 1) λax=>
 eL (decide (aw=ax)) (fh h (((eV u):dA).add 2) λay=>fh h (((eV w):dA).add 2) λaz=>
 eL (decide (ay=az)) (fh h (((eV u):dA).add 3) λaA=>fh h (((eV w):dA).add 3) λaB=>
 eL (decide (aA=aB)) (fh h (((eV u):dA).add 4) λaC=>fh h (((eV w):dA).add 4) λaD=>
 eL (decide (aC=aD)) (fh h (((eV u):dA).add 5) λaE=>fh h (((eV w):dA).add 5) λaF=>
 eL (decide (aE=aF)) (fU h (((eV u):dA).add 6) λao ap aq=>fU h (((eV w):dA).add 6) λar au av=>
 gA.C ao ap aq ar au av h λaG H3=>R aG H3) (R false h)) (R false h)) (R false h)) (R false h)) (R false h)) (R false h)
theorem gC.calls{Z}{aa}{ab}{ac}{ad}{ae}{u}{w I}{af}{ag}{ah}{ai}{aj}{ak}{N}{O Y}{R}{H0}(h:gC.W Z aa ab ac ad ae u w I af ag ah ai aj ak N O Y R H0):gC.C Z aa ab ac ad ae u w I af ag ah ai aj ak N O Y H0 R:=
 m1 (.one .bool) (aN [] [] [] []) Tryz.func48 (eM (by kernel_rfl) h)
def hZ.W(a6:dC)(aw:Int)(ax:Int)(ay:dE)(az:dE)(aA:dE)(aB:dE)(aa:dC)(ab ac:Nat)(R:Bool->dw->Prop)(Y:dw):Prop:=
 eG (eP Y #[.int .i64 aw,.int .i64 ax,.string ay,.string az,.string aA,.string aB,.slice aa ab ac] eC) λH1:dw=>
 eA (λJ3=>
 eA (λJ2=>fh H1 (((eV Y):dA).add 2) λbp=>fh H1 (((eV Y):dA).add 3) λbq=>
 ny.C bp bq H1 λbr H4=>
 eL (!br) (J2 (true,()) H4) (fh H4 (((eV Y):dA).add 5) λbu=>J2 (decide (bu≠dM),()) H4))
 (λs2 H3=>(λ(bv:Bool)=>
 eL bv False (J3 () H3)) s2.1))
 (λ_ u=>fx u (eV Y) λaC aD aE aF aG aH ad ae af=>
 eG (eP u #[.int .i64 0,.int .i64 0,.string dM,.string dM,.string dM,.string dM,.slice none 0 0] eC) λH5:dw=>lj [.int .i64 aC,.int .i64 aD,.string aE,.string aF,.string aG,.string aH,.slice ad ae af] (eV u) 0 H5 λH6=>
 eG (eP H6 #[] eF) λH7:dw=>fU H7 (((eV Y):dA).add 6) λaI aJ aK=>ji eF 4 64 (.agg #[.string dM,.string dM,.string dM,.string dM]) (some (eV H6)) 0 0 (.slice aI aJ aK) H7 λaL aM aO H8=>j0 (.slice aL aM aO) (((eV u):dA).add 6) H8 λH9=>
 eA (λbz=>
 fP (λL6 q6 h=>(λ(I:Int)=>fU h (((eV u):dA).add 6) λca aP cb=>
 eL (decide (I<(aP:Int))) (
 eA (λJ7=>fU h (((eV u):dA).add 6) λaQ aR cc=>
 ∃a7:dA,aQ=some a7/\0<=I/\I<(aR:Int)/\kg h (a7.add (I.toNat*4)) λaS aT aU aV=>
 eG (eP h #[.string dM,.string dM,.string dM,.string dM] eF) λbB:dw=>lj [.string aS,.string aT,.string aU,.string aV] (eV h) 0 bB λag=>
 eA (λbC=>
 eA (λa8=>fh ag (((eV h):dA).add 0) λbD=>fh ag (((eV h):dA).add 1) λbE=>
 ny.C bD bE ag λbF ah=>
 eL (!bF) (a8 (true,()) ah) (fh ah (((eV h):dA).add 3) λbG=>
 qW.C bG ah λbH bI=>a8 (!bH,()) bI))
 (λbJ bK=>(λ(bL:Bool)=>
 eL bL False (bC () bK)) bJ.1))
 (λ_ bM=>
 eA (λbN=>
 fP (λbO bP w=>(λ(Z:Int)=>
 eL (decide (Z<I)) (
 eA (λbQ=>
 eA (λa9=>fU w (((eV u):dA).add 6) λaW aX cd=>
 ∃ba:dA,aW=some ba/\0<=Z/\Z<(aX:Int)/\fh w ((ba.add (Z.toNat*4)).add 0) λbR=>fh w (((eV h):dA).add 0) λbS=>
 eL (decide (bR=bS)) (fU w (((eV u):dA).add 6) λaY aZ ce=>
 ∃bb:dA,aY=some bb/\0<=Z/\Z<(aZ:Int)/\fh w ((bb.add (Z.toNat*4)).add 1) λbT=>fh w (((eV h):dA).add 1) λbU=>a9 (decide (bT=bU),()) w) (a9 (false,()) w))
 (λbV bW=>(λ(bX:Bool)=>
 eL bX False (bQ () bW)) bV.1))
 (λ_ bY=>
 eG (IntKind.i64.wrap (Z+1)) λbZ:Int=>bO ((bZ:Int),()) bY)) (bN () w)) bP.1) ((0:Int),()) bM)
 (λ_ bc=>fU bc (((eV u):dA).add 6) λa0 a3 cf=>
 ∃bd:dA,a0=some bd/\0<=I/\I<(a3:Int)/\j0 (.string dM) ((bd.add (I.toNat*4)).add 2) bc λO=>
 eA (λai=>fh O (((eV h):dA).add 0) λb0=>
 eL (decide (b0=oZ)) (ai (true,()) O) (fh O (((eV h):dA).add 0) λb1=>
 eL (decide (b1=dM)) (fh O (((eV h):dA).add 1) λb2=>ai (decide (b2=oZ),()) O) (ai (false,()) O)))
 (λb3 aj=>(λ(b4:Bool)=>
 eL b4 (fU aj (((eV u):dA).add 6) λa4 a5 cg=>
 ∃be:dA,a4=some be/\0<=I/\I<(a5:Int)/\j0 (.string mz) ((be.add (I.toNat*4)).add 2) aj λb5=>J7 () b5) (J7 () aj)) b3.1))))
 (λ_ b6=>
 eG (IntKind.i64.wrap (I+1)) λb7:Int=>L6 ((b7:Int),()) b6)) (bz () h)) q6.1) ((0:Int),()) H9)
 (λ_ bf=>fU bf (((eV u):dA).add 6) λak am an=>
 fO.C a6 ak am an bf λbi b8=>
 eL (decide (bi≠0)) False (gR.C a6 (some (eV u)) b8 λbj N=>
 eL bj (fh N (((eV u):dA).add 4) λbk=>fh N (((eV Y):dA).add 4) λbm=>
 eL (decide (bk=bm)) (fU N (((eV u):dA).add 6) λao ap aq=>fU N (((eV Y):dA).add 6) λar au av=>
 gA.C ao ap aq ar au av N λbn b9=>R bn b9) (R false N)) (R false N))))
theorem hZ.calls{ac}{N}{O}{Y}{Z}{aa}{ab}{u}{w I}{R}{H0}(h:hZ.W ac N O Y Z aa ab u w I R H0):hZ.C ac N O Y Z aa ab u w I H0 R:=
 m1 (.one .bool) (aN [(14,.ord (List.range 20))] [(6,[(6,.one (.int .i64))]),(12,[(8,.one (.int .i64))])] [(2,[(19,.one .bool)]),(3,[]),(7,[]),(10,[(49,.one .bool)]),(11,[]),(13,[]),(15,[(74,.one .bool)]),(16,[]),(18,[(92,.one .bool)]),(19,[])] [2,10,15,20]) Tryz.func49 (eM (by kernel_rfl) h)
def jX.W(u:dC)(w:Int)(R:Int->Int->dE->dE->dE->dE->dC->Nat->Nat->dw->Prop)(H0:dw):Prop:=
 eG (eP H0 #[.int .i64 0,.int .i64 0,.string dM,.string dM,.string dM,.string dM,.slice none 0 0] eC) λI:dw=>
 eG (eP I #[.int .i64 0,.int .i64 0,.string dM,.string dM,.string dM,.string dM,.slice none 0 0] eC) λH2:dw=>
 eA (λJ5=>
 ∃aF:dA,u=some aF/\tE H2 (aF.add 1) λaX=>
 kn.C aX w H2 λh ad H4=>
 eA (λJ4=>
 eL (decide (ad=0)) (∃aG:dA,u=some aG/\fU H4 (aG.add 3) λbi ae bj=>J4 (decide (h<(ae:Int)),()) H4) (J4 (false,()) H4))
 (λs4 H5=>(λ(aZ:Bool)=>
 eL aZ (∃aH:dA,u=some aH/\fU H5 (aH.add 3) λag ah bk=>
 ∃aI:dA,ag=some aI/\0<=h/\h<(ah:Int)/\fx H5 (aI.add (h.toNat*7)) λai aj ak am an ao N O Y=>lj [.int .i64 ai,.int .i64 aj,.string ak,.string am,.string an,.string ao,.slice N O Y] (eV I) 0 H5 λH6=>J5 () H6) (J5 () H5)) s4.1))
 (λ_ H3=>
 ∃ac:dA,u=some ac/\tE H3 (ac.add 0) λaJ=>
 ∃aK:dA,u=some aK/\tE H3 (aK.add 0) λa0=>
 iB.C a0 w H3 λa3 H7=>(tE H7 (ac.add 0) λaU=>(.pointer aU:dB)=.pointer aJ)/\ig.C aJ a3 H7 λa5 H8=>j0 (.int .i64 (IntKind.i64.wrap (a5-1))) (((eV I):dA).add 1) H8 λH9=>
 ∃aL:dA,u=some aL/\tE H9 (aL.add 2) λa7=>
 jQ.C a7 w H9 λap bm a8=>j0 (.string ap) (((eV I):dA).add 5) a8 λaM=>
 ∃aO:dA,u=some aO/\tE aM (aO.add 4) λa9=>
 jQ.C a9 w aM λaq bn ba=>
 jW.C aq ba λar au av bb=>j0 (.slice ar au av) (((eV I):dA).add 6) bb λaP=>fx aP (eV I) λaw ax ay az aA aB Z aa ab=>lj [.int .i64 aw,.int .i64 ax,.string ay,.string az,.string aA,.string aB,.slice Z aa ab] (eV H0) 0 aP λaQ=>fx aQ (eV H0) λbc bd be bf bg bh aC aD aE=>R bc bd be bf bg bh aC aD aE aQ)
theorem jX.calls{u}{w}{R}{I}(h:jX.W u w R I):jX.C u w I R:=
 (mT (aN [(5,.ord (List.range 14))] [] [(4,[(29,.one .bool)]),(5,[])] []) (R:=λv H'=>xS (.agg [.int .i64,.int .i64,.str,.str,.str,.str,.slice]) v λr=>R r.1 r.2.1 r.2.2.1 r.2.2.2.1 r.2.2.2.2.1 r.2.2.2.2.2.1 r.2.2.2.2.2.2.1.1 r.2.2.2.2.2.2.1.2.1 r.2.2.2.2.2.2.1.2.2 H') Tryz.func52 (eM (by kernel_rfl) h)).mono λv H' h=>by obtain⟨x,N,O⟩:=nS h;exact⟨x.1,x.2.1,x.2.2.1,x.2.2.2.1,x.2.2.2.2.1,x.2.2.2.2.2.1,x.2.2.2.2.2.2.1.1,x.2.2.2.2.2.2.1.2.1,x.2.2.2.2.2.2.1.2.2,N,O⟩
def iA.W(h:dC)(R:Int->dw->Prop)(w:dw):Prop:=
 eL (Option.isNone h) False (∃I:dA,h=some I/\fU w (I.add 0) λN u O=>
 eG ((u:Int)) λY:Int=>R Y w)
theorem iA.calls{u}{R}{w}(h:iA.W u R w):iA.C u w R:=
 m1 (.one (.int .i64)) (aN [] [] [] [2]) Tryz.func53 (eM (by kernel_rfl) h)
def gW.W(w:dC)(R:Bool->dw->Prop)(H0:dw):Prop:=
 iA.C w H0 λx4 Y=>
 eL (decide (x4=0)) False (∃Z:dA,w=some Z/\fU Y (Z.add 0) λI aa h=>
 ∃N:dA,w=some N/\fU Y (N.add 0) λab u ac=>0<=IntKind.i64.wrap ((u:Int)-1)/\IntKind.i64.wrap ((u:Int)-1)<=(h:Int)/\
 ∃O:dA,w=some O/\j0 (.slice ((if h=0 then I else Option.map (λq:dA=>q.add 0) I)) ((((IntKind.i64.wrap ((u:Int)-1)).toNat)-0:Nat)) (h-0:Nat)) (O.add 0) Y λH2=>R true H2)
theorem gW.calls{u}{R}{w}(h:gW.W u R w):gW.C u w R:=
 m1 (.one .bool) (aN [(3,.ord (List.range 15))] [] [] [2]) Tryz.func54 (eM (by kernel_rfl) h)
def gZ.W(aG:dC)(I:dC)(R:Int->dw->Prop)(H0:dw):Prop:=
 eA (λJ7=>
 ∃be:dA,I=some be/\fU H0 (be.add 6) λaU av b6=>
 fP (λL2 q2 H2=>(λ(O:Int)=>
 eL (decide (O<(av:Int))) (
 eA (λJ6=>
 ∃bf:dA,aU=some bf/\0<=O/\O<(av:Int)/\kg H2 (bf.add (O.toNat*4)) λaV aW aX aY=>
 eG (eP H2 #[.string dM,.string dM,.string dM,.string dM] eF) λH4:dw=>lj [.string aV,.string aW,.string aX,.string aY] ⟨Array.size H2,0,none⟩ 0 H4 λH5=>
 eA (λJ5=>fh H5 ((⟨Array.size H2,0,none⟩:dA).add 0) λbC=>
 eL (decide (bC=oZ)) (J5 (true,()) H5) (fh H5 ((⟨Array.size H2,0,none⟩:dA).add 0) λbD=>
 eL (decide (bD=dM)) (fh H5 ((⟨Array.size H2,0,none⟩:dA).add 1) λbE=>J5 (decide (bE=oZ),()) H5) (J5 (false,()) H5)))
 (λs5 H6=>(λ(bF:Bool)=>
 eL bF (∃bg:dA,I=some bg/\fU H6 (bg.add 6) λaZ a0 b7=>
 ∃bh:dA,aZ=some bh/\0<=O/\O<(a0:Int)/\j0 (.string mz) ((bh.add (O.toNat*4)).add 2) H6 λH7=>J6 () H7) (J6 () H6)) s5.1))
 (λ_ H3=>L2 ((IntKind.i64.wrap (O+1):Int),()) H3)) (J7 () H2)) q2.1) ((0:Int),()) H0)
 (λ_ H1=>
 ∃bi:dA,I=some bi/\fU H1 (bi.add 6) λa3 a4 a5=>
 jj.C aG a3 a4 a5 H1 λbH H8=>
 eL (decide (bH≠0)) False (∃bj:dA,I=some bj/\fh H8 (bj.add 2) λbJ=>
 jc.C aG bJ H8 λaw a6 H9=>
 eA (λbk=>
 eL a6 (∃bm:dA,I=some bm/\fh H9 (bm.add 2) λbK=>
 ∃af:dA,I=some af/\j0 (.string aw) (af.add 4) H9 λbL=>bk (decide (bK≠oZ),()) bL) (∃af:dA,I=some af/\j0 (.string aw) (af.add 4) H9 λbM=>bk (false,()) bM))
 (λbN ax=>(λ(h:Bool)=>
 eG (ax.push (.map #[] 0)) λbn:dw=>
 eA (λbO=>
 ∃bo:dA,I=some bo/\fU bn (bo.add 6) λa7 ay b8=>
 fP (λbP bp N=>(λ(h:Bool)(u:Int)=>
 eL (decide (u<(ay:Int))) (
 eA (λbQ=>
 ∃bq:dA,a7=some bq/\0<=u/\u<(ay:Int)/\kg N (bq.add (u.toNat*4)) λa8 a9 ba bb=>
 eG (eP N #[.string dM,.string dM,.string dM,.string dM] eF) λbR:dw=>lj [.string a8,.string a9,.string ba,.string bb] ⟨Array.size N,0,none⟩ 0 bR λaz=>
 eA (λaH=>
 eA (λbr=>fh az ((⟨Array.size N,0,none⟩:dA).add 2) λbS=>
 eL (decide (bS=dM)) (fh az ((⟨Array.size N,0,none⟩:dA).add 0) λbT=>br (decide (bT≠dM),()) az) (br (false,()) az))
 (λbU aI=>(λ(bV:Bool)=>
 eL bV (fh aI ((⟨Array.size N,0,none⟩:dA).add 0) λbW=>
 jc.C aG bW aI λag aJ aK=>
 ∃aL:dA,I=some aL/\fU aK (aL.add 6) λah ai bX=>
 eL h (∃Y:dA,ah=some Y/\0<=u/\u<(ai:Int)/\j0 (.string ag) ((Y.add (u.toNat*4)).add 2) aK λbY=>aH (aJ,()) bY) (∃Y:dA,ah=some Y/\0<=u/\u<(ai:Int)/\j0 (.string ag) ((Y.add (u.toNat*4)).add 2) aK λbZ=>aH (false,()) bZ)) (aH (h,()) aI)) bU.1))
 (λb0 Z=>(λ(h:Bool)=>
 ∃ar:dA,I=some ar/\fU Z (ar.add 6) λaj ak aM=>
 ∃au:dA,aj=some au/\0<=u/\u<(ak:Int)/\fh Z ((au.add (u.toNat*4)).add 2) λaO=>fh Z ((⟨Array.size N,0,none⟩:dA).add 1) λaP=>
 eG (eP Z #[.string dM,.string dM] jU) λaA:dw=>(fU aA (ar.add 6) λaC aD aE=>(.slice aC aD aE:dB)=.slice aj ak aM)/\(fh aA ((au.add (u.toNat*4)).add 2) λbc=>(.string bc:dB)=.string aO)/\(fh aA ((⟨Array.size N,0,none⟩:dA).add 1) λbd=>(.string bd:dB)=.string aP)/\lj [.string aO,.string aP] ⟨Array.size Z,0,none⟩ 0 aA λam=>
 eA (λaQ=>
 eL h (tz am ⟨Array.size Z,0,none⟩ λan ao=>
 ∃(ae:Array MapEntry)(aF:Nat)(ap:Option (Nat×dB)),am[(Array.size ax)]?=some (.map ae aF)/\(∀em w,(Instr.checkKey em 10000 jU (.agg #[.string an,.string ao])).run Tryz.prog w=.ok () w)/\(∀w,(Instr.findKey jU (.agg #[.string an,.string ao]) ae.toList).run Tryz.prog w=.ok ap w)/\WQ ap (λaR=>
 ∃aS:Bool,aR=.bool aS/\aQ (!aS,()) am) (aQ (true,()) am)) (aQ (false,()) am))
 (λb1 aT=>(λ(h:Bool)=>tz aT ⟨Array.size Z,0,none⟩ λaa ab=>
 ∃(ac:Array MapEntry)(ad:Nat),aT[(Array.size ax)]?=some (.map ac ad)/\(∀em w,(Instr.checkKey em 10000 jU (.agg #[.string aa,.string ab])).run Tryz.prog w=.ok () w)/\(∀w,(Instr.findKey jU (.agg #[.string aa,.string ab]) ac.toList).run Tryz.prog w=.ok none w)/\
 eG (Array.setIfInBounds aT (Array.size ax) (.map (ac.push {key:=.agg #[.string aa,.string ab],val:=.bool true,born:=ad}) (ad+1))) λbz:dw=>bQ (h,()) bz) b1.1)) b0.1))
 (λb2 b3=>(λ(h:Bool)=>bP (h,(IntKind.i64.wrap (u+1):Int),()) b3) b2.1)) (bO (h,()) N)) bp.1 bp.2.1) (h,(0:Int),()) bn)
 (λb4 b5=>(λ(h:Bool)=>
 eL (!h) False (R 0 b5)) b4.1)) bN.1)))
theorem gZ.calls{u}{w}{R}{I}(h:gZ.W u w R I):gZ.C u w I R:=
 m1 (.one (.int .i64)) (aN [(19,.ord (List.range 13))] [(2,[(21,.one (.int .i64))]),(14,[(9,.one .bool),(83,.one (.int .i64))])] [(5,[(38,.one .bool)]),(6,[]),(7,[]),(12,[(9,.one .bool)]),(17,[(95,.one .bool)]),(19,[(9,.one .bool)]),(21,[(9,.one .bool)]),(22,[(9,.one .bool)]),(23,[(9,.one .bool)])] [9,24]) Tryz.func55 (eM (by kernel_rfl) h)
def lk.W(h:Int)(u:Int)(w:Int)(R:Bool->dw->Prop)(I:dw):Prop:=
 eL (decide (u<=h)) (R (decide (h<=w)) I) (R false I)
theorem lk.calls{I}{u}{w}{R}{N}(h:lk.W I u w R N):lk.C I u w N R:=
 m1 (.one .bool) (aN [] [] [] []) Tryz.func56 (eM (by kernel_rfl) h)
def mE.W(w:dC)(I N:Nat)(R:Bool->dw->Prop)(O:dw):Prop:=
 eA (λJ6=>
 ∃Z:dE,qZ O w I Z/\
 eG (O.push (.stringIter Z 0)) λH2:dw=>
 fP (λL2 _ Y=>
 ∃(h:dE)(u:Nat),Y[Array.size O]?=some (.stringIter h u)/\
 eL (decide (u<h.size)) (eG (Array.setIfInBounds Y (Array.size O) (.stringIter h (u+(Utf8.decode h u).2))) λH4:dw=>
 eG (((Utf8.decode h u).1:Int)) λr4:Int=>
 vK.C r4 H4 λaa H5=>
 eL (!aa) False (L2 () H5)) (J6 () Y)) () H2)
 (λ_ H1=>
 mB.C w I N H1 λab H6=>R ab H6)
theorem mE.calls{u}{w I}{R}{N}(h:mE.W u w I R N):mE.C u w I N R:=
 m1 (.one .bool) (aN [] [(2,[])] [(6,[])] [5]) Tryz.func58 (eM (by kernel_rfl) h)
def oD.W(h:dE)(R:dE->dw->Prop)(u:dw):Prop:=
 strings_ReplaceAll.C h (⟨#[13,10]⟩:dE) Q9 u λw I=>
 strings_ReplaceAll.C w HW Q9 I λN O=>R N O
theorem oD.calls{u}{R}{w}(h:oD.W u R w):oD.C u w R:=
 m1 (.one .str) (aN [] [] [] []) Tryz.func59 (eM (by kernel_rfl) h)
def mi.W(av:dE)(R:Int->Int->dw->Prop)(h:dw):Prop:=
 eG (eP h #[.string av,.int .i64 0,.bool false,.string dM,.slice none 0 0,.slice none 0 0] qs) λH1:dw=>
 eA (λJ4=>
 eA (λJ3=>
 fy.C (some ⟨Array.size h,0,none⟩) (⟨#[60,63,120,109,108]⟩:dE) H1 λax H4=>
 eL (!ax) (J3 (true,()) H4) (ft.C (some ⟨Array.size h,0,none⟩) H4 λaz H5=>J3 (!az,()) H5))
 (λs3 H3=>(λ(aB:Bool)=>
 eL aB (R 0 0 H3) (J4 () H3)) s3.1))
 (λ_ H2=>
 iq.C (some ⟨Array.size h,0,none⟩) (⟨#[118,101,114,115,105,111,110]⟩:dE) H2 λH6=>
 jz.C (some ⟨Array.size h,0,none⟩) H6 λH7=>
 gq.C (some ⟨Array.size h,0,none⟩) H7 λaC H8=>
 eA (λJ8=>
 ∃aa:dA,some ⟨Array.size h,0,none⟩=some aa/\sF H8 (aa.add 2) λaE=>
 eL aE (∃w:dA,some ⟨Array.size h,0,none⟩=some w/\j0 (.bool true) (w.add 2) H8 λaF=>J8 () aF) (xA.C aC H8 λaG aH=>
 ∃w:dA,some ⟨Array.size h,0,none⟩=some w/\j0 (.bool (!aG)) (w.add 2) aH λaI=>J8 () aI))
 (λ_ H9=>
 ft.C (some ⟨Array.size h,0,none⟩) H9 λab ac=>
 eA (λad=>
 eA (λae=>
 eL ab (fy.C (some ⟨Array.size h,0,none⟩) (⟨#[101,110,99,111,100,105,110,103]⟩:dE) ac λaJ aK=>ae (aJ,()) aK) (ae (false,()) ac))
 (λaL af=>(λ(aM:Bool)=>
 eL aM (jz.C (some ⟨Array.size h,0,none⟩) af λaO=>
 gq.C (some ⟨Array.size h,0,none⟩) aO λaP O=>
 eA (λag=>
 ∃ah:dA,some ⟨Array.size h,0,none⟩=some ah/\sF O (ah.add 2) λaQ=>
 eL aQ (∃I:dA,some ⟨Array.size h,0,none⟩=some I/\j0 (.bool true) (I.add 2) O λaR=>ag () aR) (qR.C aP (⟨#[117,116,102,45,56]⟩:dE) O λaS aT=>
 ∃I:dA,some ⟨Array.size h,0,none⟩=some I/\j0 (.bool (!aS)) (I.add 2) aT λaU=>ag () aU))
 (λ_ aV=>
 ft.C (some ⟨Array.size h,0,none⟩) aV λaW aX=>ad (aW,()) aX)) (ad (ab,()) af)) aL.1))
 (λaY ai=>(λ(au:Bool)=>
 eA (λaj=>
 eA (λak=>
 eL au (fy.C (some ⟨Array.size h,0,none⟩) (⟨#[115,116,97,110,100,97,108,111,110,101]⟩:dE) ai λaZ a0=>ak (aZ,()) a0) (ak (false,()) ai))
 (λa3 am=>(λ(a4:Bool)=>
 eL a4 (jz.C (some ⟨Array.size h,0,none⟩) am λa5=>
 gq.C (some ⟨Array.size h,0,none⟩) a5 λan N=>
 eA (λY=>
 ∃ao:dA,some ⟨Array.size h,0,none⟩=some ao/\sF N (ao.add 2) λa6=>
 eL a6 (∃u:dA,some ⟨Array.size h,0,none⟩=some u/\j0 (.bool true) (u.add 2) N λa7=>Y () a7) (eL (decide (an≠(⟨#[121,101,115]⟩:dE))) (∃u:dA,some ⟨Array.size h,0,none⟩=some u/\j0 (.bool (decide (an≠(⟨#[110,111]⟩:dE)))) (u.add 2) N λa8=>Y () a8) (∃u:dA,some ⟨Array.size h,0,none⟩=some u/\j0 (.bool false) (u.add 2) N λa9=>Y () a9)))
 (λ_ ba=>
 ft.C (some ⟨Array.size h,0,none⟩) ba λbo bb=>aj () bb)) (aj () am)) a3.1))
 (λ_ bc=>
 iq.C (some ⟨Array.size h,0,none⟩) BY bc λZ=>
 ∃ap:dA,some ⟨Array.size h,0,none⟩=some ap/\sF Z (ap.add 2) λbd=>
 eL bd False (∃aq:dA,some ⟨Array.size h,0,none⟩=some aq/\gf Z (aq.add 1) λbe=>R be 0 Z))) aY.1)))
theorem mi.calls{u}{R}{w}(h:mi.W u R w):mi.C u w R:=
 (mT (aN [] [] [(3,[(17,.one .bool)]),(4,[]),(8,[]),(10,[(42,.one .bool)]),(13,[]),(14,[(6,.one .bool)]),(15,[(65,.one .bool)]),(18,[]),(19,[])] [21]) (R:=λv H'=>xT [.one (.int .i64),.one (.int .i64)] v λr=>R r.1 r.2.1 H') Tryz.func60 (eM (by kernel_rfl) h)).mono λv H' h=>by obtain⟨x,I,N⟩:=gI h;exact⟨x.1,x.2.1,I,N⟩
def gy.W(I:dE)(w:Int)(R:Int->dw->Prop)(N:dw):Prop:=
 eA (λJ6=>0<=w/\w<=(I.size:Int)/\
 eG (N.push (.stringIter (I.extract w.toNat I.size) 0)) λH2:dw=>
 fP (λL2 _ O=>
 ∃(u:dE)(h:Nat),O[Array.size N]?=some (.stringIter u h)/\
 eL (decide (h<u.size)) (eG (Array.setIfInBounds O (Array.size N) (.stringIter u (h+(Utf8.decode u h).2))) λH4:dw=>
 eG ((h:Int)) λk5:Int=>
 eG (((Utf8.decode u h).1:Int)) λr6:Int=>
 yL.C r6 H4 λZ H5=>
 eL (!Z) (eG (IntKind.i64.wrap (w+k5)) λY:Int=>R Y H5) (L2 () H5)) (J6 () O)) () H2)
 (λ_ H1=>
 eG ((I.size:Int)) λY:Int=>R Y H1)
theorem gy.calls{w}{u}{R}{I}(h:gy.W w u R I):gy.C w u I R:=
 m1 (.one (.int .i64)) (aN [] [(2,[])] [(6,[])] []) Tryz.func61 (eM (by kernel_rfl) h)
def jA.W(aa:dE)(h:Int)(R:dE->dC->Nat->Nat->dC->Nat->Nat->Int->Int->dw->Prop)(H0:dw):Prop:=
 eG (eP H0 #[.string dM,.slice none 0 0,.slice none 0 0] gL) λH1:dw=>
 eA (λJ3=>
 eA (λJ2=>
 eL (decide (h<0)) (J2 (true,()) H1) (eL (decide ((aa.size:Int)<h)) (J2 (true,()) H1) (0<=h/\h<=(aa.size:Int)/\strings_HasPrefix.C (aa.extract h.toNat aa.size) (⟨#[60,33,68,79,67,84,89,80,69]⟩:dE) H1 λaB H4=>J2 (!aB,()) H4)))
 (λs2 H3=>(λ(aD:Bool)=>
 eL aD (lj [.string dM,.slice none 0 0,.slice none 0 0] ⟨Array.size H0,0,none⟩ 0 H3 λH5=>oJ H5 ⟨Array.size H0,0,none⟩ λaj w I N O Y Z=>R aj w I N O Y Z h 6 H5) (J3 () H3)) s2.1))
 (λ_ u=>
 eG (eP u #[.string aa,.int .i64 (IntKind.i64.wrap (h+9)),.bool false,.string dM,.slice none 0 0,.slice none 0 0] qs) λH6:dw=>
 jf.C (some ⟨Array.size u,0,none⟩) H6 λH7=>
 jn.C (some ⟨Array.size u,0,none⟩) H7 λaF H8=>
 ∃ao:dA,some ⟨Array.size u,0,none⟩=some ao/\j0 (.string aF) ((ao.add 3).add 0) H8 λH9=>
 eA (λJ8=>
 eA (λJ7=>
 ft.C (some ⟨Array.size u,0,none⟩) H9 λaI ap=>
 eL aI (hY.C (some ⟨Array.size u,0,none⟩) ap λaJ aK=>J7 (aJ,()) aK) (J7 (false,()) ap))
 (λs7 aq=>(λ(aL:Bool)=>
 eL aL (ft.C (some ⟨Array.size u,0,none⟩) aq λa4 aM=>J8 () aM) (J8 () aq)) s7.1))
 (λ_ aO=>
 eA (λar=>
 fy.C (some ⟨Array.size u,0,none⟩) (⟨#[91]⟩:dE) aO λaP au=>
 eL aP (iD.C (some ⟨Array.size u,0,none⟩) au λaQ=>
 ft.C (some ⟨Array.size u,0,none⟩) aQ λa5 aR=>ar () aR) (ar () au))
 (λ_ aS=>
 iq.C (some ⟨Array.size u,0,none⟩) rH aS λab=>
 ∃av:dA,some ⟨Array.size u,0,none⟩=some av/\sF ab (av.add 2) λaT=>
 eL aT False (∃aw:dA,some ⟨Array.size u,0,none⟩=some aw/\oJ ab (aw.add 3) λan ac ad ae af ag ah=>
 ∃ak:dA,some ⟨Array.size u,0,none⟩=some ak/\gf ab (ak.add 1) λax=>lj [.string an,.slice ac ad ae,.slice af ag ah] ⟨Array.size H0,0,none⟩ 0 ab λam=>(gf am (ak.add 1) λaA=>(.int .i64 aA:dB)=.int .i64 ax)/\oJ am ⟨Array.size H0,0,none⟩ λaj w I N O Y Z=>R aj w I N O Y Z ax 0 am))))
theorem jA.calls{w}{u}{R}{I}(h:jA.W w u R I):jA.C w u I R:=
 (mT (aN [(14,.ord (List.range 11))] [] [(2,[(22,.one .bool)]),(3,[]),(7,[(43,.one .bool)]),(8,[]),(11,[])] [13]) (R:=λv H'=>xT [.agg [.str,.slice,.slice],.one (.int .i64),.one (.int .i64)] v λr=>R r.1.1 r.1.2.1.1 r.1.2.1.2.1 r.1.2.1.2.2 r.1.2.2.1.1 r.1.2.2.1.2.1 r.1.2.2.1.2.2 r.2.1 r.2.2.1 H') Tryz.func62 (eM (by kernel_rfl) h)).mono λv H' h=>by obtain⟨x,N,O⟩:=gI h;exact⟨x.1.1,x.1.2.1.1,x.1.2.1.2.1,x.1.2.1.2.2,x.1.2.2.1.1,x.1.2.2.1.2.1,x.1.2.2.1.2.2,x.2.1,x.2.2.1,N,O⟩
def iR.W(N:dC)(ay:dE)(aB:Int)(R:Int->Int->dw->Prop)(H0:dw):Prop:=
 j8.C ay aB H0 λY Z aa h u w ab O aj I=>
 eG (eP I #[.int .i64 0,.string dM,.string dM,.slice none 0 0,.bool false] eX) λH2:dw=>lj [.int .i64 Y,.string Z,.string aa,.slice h u w,.bool ab] (eV I) 0 H2 λH3=>
 eA (λJ9=>
 eL (decide (aj≠0)) False (
 eA (λJ5=>gf H3 (((eV I):dA).add 0) λaD=>
 eL (decide (aD=4)) (J5 (true,()) H3) (gf H3 (((eV I):dA).add 0) λaE=>J5 (decide (aE=5),()) H3))
 (λs5 H5=>(λ(aF:Bool)=>
 eL aF (fq H5 (eV I) λam an ao ad ae af ap=>
 hO.C N am an ao ad ae af ap 1 H5 λaG H6=>R O aG H6) (
 eA (λJ7=>gf H5 (((eV I):dA).add 0) λaI=>
 eL (decide (aI=2)) (∃az:dA,N=some az/\sF H5 (az.add 12) λaJ=>J7 (!aJ,()) H5) (J7 (false,()) H5))
 (λs7 H7=>(λ(aL:Bool)=>
 eL aL (∃aA:dA,N=some aA/\j0 (.bool true) (aA.add 12) H7 λH8=>fq H8 (eV I) λaq ar au ag ah ai av=>
 gn.C N aq ar au ag ah ai av ay O 1 H8 λaw ax H9=>R aw ax H9) (J9 () H7)) s7.1))) s5.1)))
 (λ_ H4=>False)
theorem iR.calls{w}{I}{u}{R}{N}(h:iR.W w I u R N):iR.C w I u N R:=
 (mT (aN [] [] [(5,[(22,.one .bool)]),(7,[(35,.one .bool)]),(9,[])] [3,9]) (R:=λv H'=>xT [.one (.int .i64),.one (.int .i64)] v λr=>R r.1 r.2.1 H') Tryz.func63 (eM (by kernel_rfl) h)).mono λv H' h=>by obtain⟨x,O,Y⟩:=gI h;exact⟨x.1,x.2.1,O,Y⟩
def lU.W(Y:dC)(Z aW:Nat)(u:Int)(R:Bool->dw->Prop)(h:dw):Prop:=
 ∃x9:dA,Y=some x9/\0<=u/\u<(Z:Int)/\fx h (x9.add (u.toNat*7)) λah ai aj ak am an aa ab ac=>
 eG (eP h #[.int .i64 0,.int .i64 0,.string dM,.string dM,.string dM,.string dM,.slice none 0 0] eC) λH1:dw=>lj [.int .i64 ah,.int .i64 ai,.string aj,.string ak,.string am,.string an,.slice aa ab ac] (eV h) 0 H1 λH2=>
 eA (λJ4=>
 eA (λJ3=>
 eL (decide (u=0)) (J3 (true,()) H2) (gf H2 (((eV h):dA).add 0) λaC=>J3 (decide (aC=1),()) H2))
 (λs3 H4=>(λ(aD:Bool)=>
 eL aD (eL (decide (u=0)) (gf H4 (((eV h):dA).add 0) λaE=>
 eL (decide (aE=1)) (gf H4 (((eV h):dA).add 1) λaF=>R (decide (aF=0)) H4) (R false H4)) (R false H4)) (J4 () H4)) s3.1))
 (λ_ w=>
 ∃aw:dA,Y=some aw/\0<=IntKind.i64.wrap (u-1)/\IntKind.i64.wrap (u-1)<(Z:Int)/\fx w (aw.add ((IntKind.i64.wrap (u-1)).toNat*7)) λao ap aq ar au av ae af ag=>
 eG (eP w #[.int .i64 0,.int .i64 0,.string dM,.string dM,.string dM,.string dM,.slice none 0 0] eC) λH5:dw=>lj [.int .i64 ao,.int .i64 ap,.string aq,.string ar,.string au,.string av,.slice ae af ag] (eV w) 0 H5 λN=>
 eA (λJ9=>
 eA (λJ6=>gf N (((eV h):dA).add 1) λaG=>
 eL (decide (aG<1)) (J6 (true,()) N) (gf N (((eV h):dA).add 1) λaH=>
 eL (decide ((201:Int)<aH)) (J6 (true,()) N) (gf N (((eV h):dA).add 1) λaI=>gf N (((eV w):dA).add 1) λaJ=>J6 (decide ((IntKind.i64.wrap (aJ+1))<aI),()) N)))
 (λs6 O=>(λ(aK:Bool)=>
 eL aK False (
 eA (λJ8=>gf O (((eV h):dA).add 1) λaL=>gf O (((eV w):dA).add 1) λaM=>
 eL (decide (aM<aL)) (gf O (((eV w):dA).add 0) λaO=>
 eL (decide (aO≠1)) (gf O (((eV w):dA).add 0) λaP=>J8 (decide (aP≠2),()) O) (J8 (false,()) O)) (J8 (false,()) O))
 (λs8 H9=>(λ(aQ:Bool)=>
 eL aQ False (J9 () H9)) s8.1))) s6.1))
 (λ_ I=>gf I (((eV h):dA).add 0) λaR=>
 eL (decide (aR≠3)) (R true I) (gf I (((eV h):dA).add 1) λaS=>
 eL (decide ((1:Int)<aS)) (gf I (((eV w):dA).add 0) λaT=>
 eL (decide (aT≠3)) (R true I) (gf I (((eV w):dA).add 1) λaU=>gf I (((eV h):dA).add 1) λaV=>R (decide (aU≠aV)) I)) (R false I))))
theorem lU.calls{u}{w I}{N}{R}{O}(h:lU.W u w I N R O):lU.C u w I N O R:=
 m1 (.one .bool) (aN [] [] [(3,[(17,.one .bool)]),(4,[]),(6,[(35,.one .bool)]),(8,[(52,.one .bool)]),(9,[])] [6,8]) Tryz.func64 (eM (by kernel_rfl) h)
def kR.W(ak:Int)(am:Int)(an:dE)(ao:dE)(ap:dE)(aq:dE)(ac:dC)(ad ae:Nat)(aX:dC)(R:Bool->dw->Prop)(I:dw):Prop:=
 eG (eP I #[.int .i64 ak,.int .i64 am,.string an,.string ao,.string ap,.string aq,.slice ac ad ae] eC) λH1:dw=>
 eA (λJ2=>fh H1 (((eV I):dA).add 2) λa4=>fh H1 (((eV I):dA).add 3) λa5=>
 vG.C a4 a5 H1 λa6 H3=>
 eL a6 (fh H3 (((eV I):dA).add 5) λa7=>J2 (decide (a7=dM),()) H3) (J2 (false,()) H3))
 (λs2 O=>(λ(h:Bool)=>fx O (eV I) λar au av aw ax ay af ag ah=>
 eG (eP O #[.int .i64 0,.int .i64 0,.string dM,.string dM,.string dM,.string dM,.slice none 0 0] eC) λH4:dw=>lj [.int .i64 ar,.int .i64 au,.string av,.string aw,.string ax,.string ay,.slice af ag ah] (eV O) 0 H4 λH5=>fU H5 (((eV I):dA).add 6) λaz aA aB=>
 lh.C az aA aB H5 λaC aD aE H6=>j0 (.slice aC aD aE) (((eV O):dA).add 6) H6 λH7=>
 eA (λba=>fU H7 (((eV I):dA).add 6) λaF Z bx=>
 fP (λL5 q5 Y=>(λ(h:Bool)(u:Int)=>
 eL (decide (u<(Z:Int))) (
 eA (λaT=>
 ∃aU:dA,aF=some aU/\0<=u/\u<(Z:Int)/\kg Y (aU.add (u.toNat*4)) λaG aH aI aJ=>
 eG (eP Y #[.string dM,.string dM,.string dM,.string dM] eF) λbc:dw=>lj [.string aG,.string aH,.string aI,.string aJ] (eV Y) 0 bc λaV=>fU aV (((eV O):dA).add 6) λaK aL bz=>
 ∃aW:dA,aK=some aW/\0<=u/\u<(aL:Int)/\j0 (.string dM) ((aW.add (u.toNat*4)).add 2) aV λaa=>
 eA (λJ9=>
 eL h (fh aa (((eV Y):dA).add 0) λbd=>fh aa (((eV Y):dA).add 1) λbe=>
 vG.C bd be aa λbf ai=>
 eL bf (fh ai (((eV Y):dA).add 3) λbg=>
 Ag.C bg ai λbh bi=>J9 (bh,()) bi) (J9 (false,()) ai)) (J9 (false,()) aa))
 (λs9 aj=>(λ(h:Bool)=>
 eL h (fU aj (((eV I):dA).add 6) λab bA N=>0<=u/\u<=(N:Int)/\kl.C ((if N=0 then ab else Option.map (λq:dA=>q.add (0*4)) ab)) (u.toNat-0:Nat) (N-0:Nat) (.func (.func 130) #[] #[.pointer (some (eV Y))]) aj λbj bk=>aT (!bj,()) bk) (aT (false,()) aj)) s9.1))
 (λbm bn=>(λ(h:Bool)=>L5 (h,(IntKind.i64.wrap (u+1):Int),()) bn) bm.1)) (ba (h,()) Y)) q5.1 q5.2.1) (h,(0:Int),()) H7)
 (λbo H8=>(λ(h:Bool)=>
 eL h (gZ.C aX (some (eV O)) H8 λbq w=>
 eL (decide (bq=0)) (fh w (((eV O):dA).add 4) λbr=>fh w (((eV I):dA).add 4) λbu=>
 eL (decide (br=bu)) (fU w (((eV O):dA).add 6) λaM aO aP=>fU w (((eV I):dA).add 6) λaQ aR aS=>
 kZ.C aM aO aP aQ aR aS w λbv bw=>R bv bw) (R false w)) (R false w)) (R false H8)) bo.1)) s2.1)
theorem kR.calls{N}{O}{Y}{Z}{aa}{ab}{u}{w I}{ac}{R}{H0}(h:kR.W N O Y Z aa ab u w I ac R H0):kR.C N O Y Z aa ab u w I ac H0 R:=
 m1 (.one .bool) (aN [] [(5,[(5,.one .bool),(27,.one (.int .i64))])] [(2,[(5,.one .bool)]),(9,[(5,.one .bool)]),(10,[(5,.one .bool)]),(11,[(5,.one .bool)])] []) Tryz.func66 (eM (by kernel_rfl) h)
def ff.W(h:dC)(Z:dE)(R:Int->dB->dw->Prop)(H0:dw):Prop:=
 gj.C h H0 λH1=>
 ∃aa:dA,h=some aa/\fU H1 (aa.add 1) λu w I=>ji lI 1 1 (.int .u8 0) u w I (.string Z) H1 λN O Y H2=>
 ∃ab:dA,h=some ab/\j0 (.slice N O Y) (ab.add 1) H2 λH3=>
 eG ((Z.size:Int)) λx4:Int=>R x4 (.nilIface) H3
theorem ff.calls{u}{w}{R}{I}(h:ff.W u w R I):ff.C u w I R:=
 (mT (aN [] [] [] []) (R:=λv H'=>xT [.one (.int .i64),.one .raw] v λr=>R r.1 r.2.1 H') Tryz.func67 (eM (by kernel_rfl) h)).mono λv H' h=>by obtain⟨x,N,O⟩:=gI h;exact⟨x.1,x.2.1,N,O⟩
def gz.W(w:dC)(R:dE->dw->Prop)(I:dw):Prop:=
 ∃O:dA,w=some O/\fU I (O.add 1) λh ac N=>(h.isSome=true->N≠0)/\
 ∃Y:dA,w=some Y/\fU I (Y.add 1) λaa u ab=>Yn Tryz.prog Ad h (u:Int) I λZ H1=>R Z H1
theorem gz.calls{u}{R}{w}(h:gz.W u R w):gz.C u w R:=
 m1 (.one .str) (aN [(1,.ord (List.range 12))] [] [] []) Tryz.func69 (eM (by kernel_rfl) h)
def nK.W(I:dC)(u ag:Nat)(R:Bool->dw->Prop)(H0:dw):Prop:=
 eA (λZ=>
 fP (λL3 q3 N=>(λ(h:Int)(w:Int)=>
 eL (decide (w<(u:Int))) (
 eA (λab=>
 ∃O:dA,I=some O/\0<=w/\w<(u:Int)/\
 ∃Y:Bool,dL N (O.add w.toNat)=some (.bool Y)/\
 eA (λJ8=>
 eG (IntKind.i64.wrap (h-1)) λh:Int=>
 eL Y (eG (IntKind.i64.wrap (h+2)) λh:Int=>J8 ((h:Int),()) N) (J8 ((h:Int),()) N))
 (λs8 H4=>(λ(h:Int)=>
 eL (decide (h<0)) (R false H4) (ab ((h:Int),()) H4)) s8.1))
 (λae H3=>(λ(h:Int)=>L3 ((h:Int),(IntKind.i64.wrap (w+1):Int),()) H3) ae.1)) (Z ((h:Int),()) N)) q3.1 q3.2.1) ((0:Int),(0:Int),()) H0)
 (λaf H1=>(λ(h:Int)=>R (decide (h=0)) H1) af.1)
theorem nK.calls{u}{w I}{R}{N}(h:nK.W u w I R N):nK.C u w I N R:=
 m1 (.one .bool) (aN [] [(3,[(3,.one (.int .i64)),(8,.one (.int .i64))])] [(8,[(3,.one (.int .i64))]),(10,[(3,.one (.int .i64))]),(11,[(3,.one (.int .i64))])] []) Tryz.func70 (eM (by kernel_rfl) h)
def nh.W(aq:dC)(w aM:Nat)(R:dC->Int->dw->Prop)(H0:dw):Prop:=
 eL (decide ((4194304:Int)<(w:Int))) (R none 7 H0) (eG (eP H0 #[.slice none 0 0,.int .i64 (w:Int)] nT) λh:dw=>
 eG (eP h #[.int .u64 0,.int .i64 0] jO) λH2:dw=>
 eA (λaD=>
 fP (λL6 q6 H4=>(λ(k6:Int)=>
 eL (decide (k6<=(w:Int))) (
 eA (λJ7=>(∃u,dL H4 (((eV h):dA).add 0)=some u)/\fH H4 (((eV h):dA).add 0)=false/\
 eG (gO H4 (((eV h):dA).add 0) (.int .u64 0)) λH6:dw=>
 eA (λaE=>
 fP (λaF aG H8=>(λ(i7:Int)=>
 eL (decide (i7<(min (IntKind.i64.wrap (k6+64)) (w:Int)))) (
 eA (λax=>
 ∃ay:dA,aq=some ay/\0<=i7/\i7<(w:Int)/\
 ∃az:Bool,dL H8 (ay.add i7.toNat)=some (.bool az)/\
 eL az (∃aA:Int,dL H8 (((eV h):dA).add 0)=some (.int .u64 aA)/\0<=(IntKind.u64.wrap (IntKind.i64.wrap (i7-k6)))/\(∃u,dL H8 (((eV h):dA).add 0)=some u)/\fH H8 (((eV h):dA).add 0)=false/\
 eG (gO H8 (((eV h):dA).add 0) (.int .u64 (uI .u64 aA (mU .u64 1 (IntKind.u64.wrap (IntKind.i64.wrap (i7-k6))))))) λaH:dw=>ax () aH) (ax () H8))
 (λ_ H9=>
 eG (IntKind.i64.wrap (i7+1)) λaI:Int=>aF ((aI:Int),()) H9)) (aE () H8)) aG.1) ((k6:Int),()) H6)
 (λ_ H7=>
 ∃ak:dA,some (eV H0)=some ak/\
 ∃(I:dC)(N O:Nat),dL H7 (ak.add 0)=some (.slice I N O)/\
 ∃ad:Int,dL H7 (((eV h):dA).add 0)=some (.int .u64 ad)/\
 ∃ae:Int,dL H7 (((eV h):dA).add 1)=some (.int .i64 ae)/\
 eG (eP H7 #[.iface jO (.agg #[.int .u64 ad,.int .i64 ae])] nw) λaB:dw=>(∃(Y:dC)(Z aa:Nat),dL aB (ak.add 0)=some (.slice Y Z aa)/\(.slice Y Z aa:dB)=.slice I N O)/\ji nw 1 16 (.nilIface) I N O (.slice (some (eV H7)) 1 1) aB λau av aw am=>
 ∃af:dA,some (eV H0)=some af/\(∃u,dL am (af.add 0)=some u)/\fH am (af.add 0)=false/\
 eG (gO am (af.add 0) (.slice au av aw)) λan:dw=>
 ∃ao:Int,dL an (((eV h):dA).add 1)=some (.int .i64 ao)/\
 ∃aC:Int,dL an (((eV h):dA).add 0)=some (.int .u64 aC)/\iK.C aC an λaJ ag=>(∃ap:Int,dL ag (((eV h):dA).add 1)=some (.int .i64 ap)/\(.int .i64 ap:dB)=.int .i64 ao)/\(∃u,dL ag (((eV h):dA).add 1)=some u)/\fH ag (((eV h):dA).add 1)=false/\
 eG (gO ag (((eV h):dA).add 1) (.int .i64 (IntKind.i64.wrap (ao+aJ)))) λaK:dw=>J7 () aK))
 (λ_ H5=>
 eG (IntKind.i64.wrap (k6+64)) λaL:Int=>L6 ((aL:Int),()) H5)) (aD () H4)) q6.1) ((0:Int),()) H2)
 (λ_ H3=>R (some (eV H0)) 0 H3))
theorem nh.calls{u}{w I}{R}{N}(h:nh.W u w I R N):nh.C u w I N R:=
 (mT (aN [(14,.ord (List.range 12)),(15,.ord (List.range 8))] [(6,[(6,.one (.int .i64))]),(10,[(7,.one (.int .i64))])] [(7,[]),(11,[]),(14,[]),(16,[])] []) (R:=λv H'=>xT [.one .ptr,.one (.int .i64)] v λr=>R r.1 r.2.1 H') Tryz.func71 (eM (by kernel_rfl) h)).mono λv H' h=>by obtain⟨x,O,Y⟩:=gI h;exact⟨x.1,x.2.1,O,Y⟩
def lr.W(h:Int)(R:Int->dw->Prop)(u:dw):Prop:=
 mM.C h u λw I=>R w I
theorem lr.calls{u}{R}{w}(h:lr.W u R w):lr.C u w R:=
 m1 (.one (.int .i64)) (aN [] [] [] []) Tryz.func72 (eM (by kernel_rfl) h)
def pg.W(ai:dC)(I a5:Nat)(R:dC->Int->dw->Prop)(H0:dw):Prop:=
 eA (λJ9=>
 fP (λL3 q3 H2=>(λ(h:Int)(ah:Int)=>
 eL (decide (ah<(I:Int))) (∃aG:dA,ai=some aG/\0<=ah/\ah<(I:Int)/\
 ∃ao:Int,dL H2 (aG.add ah.toNat)=some (.int .i64 ao)/\
 eL (decide (ao<h)) (R none 1 H2) (L3 ((ao:Int),(IntKind.i64.wrap (ah+1):Int),()) H2)) (J9 ((h:Int),()) H2)) q3.1 q3.2.1) ((0:Int),(0:Int),()) H0)
 (λs9 N=>(λ(h:Int)=>
 eL (decide ((8388608:Int)<h)) (R none 1 N) (eG (eP N #[.nilIface,.nilIface,.int .i64 (I:Int),.int .i64 0,.int .i64 0] mO) λH3:dw=>
 eA (λaH=>
 ∃aI:dA,some (eV N)=some aI/\
 ∃aJ:Int,dL H3 (aI.add 2)=some (.int .i64 aJ)/\
 eL (decide ((0:Int)<aJ)) (∃aK:dA,some (eV N)=some aK/\
 ∃ap:Int,dL H3 (aK.add 2)=some (.int .i64 ap)/\ap≠0/\lr.C (IntKind.u64.wrap (IntKind.i64.wrap (Int.tdiv h ap))) H3 λaV H5=>
 ∃aj:dA,some (eV N)=some aj/\(∃u,dL H5 (aj.add 3)=some u)/\fH H5 (aj.add 3)=false/\
 eG (gO H5 (aj.add 3) (.int .i64 (max (IntKind.i64.wrap (aV-1)) 0))) λH6:dw=>aH () H6) (aH () H3))
 (λ_ H4=>
 ∃aL:dA,some (eV N)=some aL/\
 ∃aq:Int,dL H4 (aL.add 3)=some (.int .i64 aq)/\0<=(IntKind.u64.wrap aq)/\
 ∃ak:dA,some (eV N)=some ak/\(∃u,dL H4 (ak.add 4)=some u)/\fH H4 (ak.add 4)=false/\
 eG (gO H4 (ak.add 4) (.int .i64 (mu .i64 h (IntKind.u64.wrap aq)))) λH7:dw=>
 ∃aM:dA,some (eV N)=some aM/\
 ∃O:Int,dL H7 (aM.add 2)=some (.int .i64 O)/\
 ∃aO:dA,some (eV N)=some aO/\
 ∃Y:Int,dL H7 (aO.add 4)=some (.int .i64 Y)/\0<=IntKind.i64.wrap ((IntKind.i64.wrap (O+Y))+1)/\IntKind.i64.wrap ((IntKind.i64.wrap (O+Y))+1)<=IntKind.i64.wrap ((IntKind.i64.wrap (O+Y))+1)/\((1:Nat):Int)*(IntKind.i64.wrap ((IntKind.i64.wrap (O+Y))+1))<=281474976710656/\
 eG (eP H7 (j5 (.bool false) ((IntKind.i64.wrap ((IntKind.i64.wrap (O+Y))+1)).toNat)) iz) λH8:dw=>
 eA (λaW=>
 fP (λaX am ae=>(λ(Z:dC)(aa ab:Nat)(w:Int)=>
 eL (decide (w<(I:Int))) (∃aP:dA,ai=some aP/\0<=w/\w<(I:Int)/\
 ∃ac:Int,dL ae (aP.add w.toNat)=some (.int .i64 ac)/\
 ∃aQ:dA,some (eV N)=some aQ/\
 ∃ad:Int,dL ae (aQ.add 3)=some (.int .i64 ad)/\0<=(IntKind.u64.wrap ad)/\
 ∃an:dA,some (eV H7)=some an/\0<=IntKind.i64.wrap ((mu .i64 ac (IntKind.u64.wrap ad))+w)/\IntKind.i64.wrap ((mu .i64 ac (IntKind.u64.wrap ad))+w)<((IntKind.i64.wrap ((IntKind.i64.wrap (O+Y))+1)).toNat:Int)/\(∃u,dL ae (an.add ((IntKind.i64.wrap ((mu .i64 ac (IntKind.u64.wrap ad))+w)).toNat))=some u)/\fH ae (an.add ((IntKind.i64.wrap ((mu .i64 ac (IntKind.u64.wrap ad))+w)).toNat))=false/\
 eG (gO ae (an.add ((IntKind.i64.wrap ((mu .i64 ac (IntKind.u64.wrap ad))+w)).toNat)) (.bool true)) λau:dw=>
 ∃aR:dA,some (eV N)=some aR/\
 ∃av:Int,dL au (aR.add 3)=some (.int .i64 av)/\0<=(IntKind.u64.wrap av)/\
 eG (eP au #[.int .u64 (IntKind.u64.wrap (lx .i64 ac (IntKind.i64.wrap ((mU .i64 1 (IntKind.u64.wrap av))-1))))] kB) λaY:dw=>ji kB 1 8 (.int .u64 0) Z aa ab (.slice (some (eV au)) 1 1) aY λaD aE aF aZ=>aX ((aD,aE,aF),(IntKind.i64.wrap (w+1):Int),()) aZ) (aW ((Z,aa,ab),()) ae)) am.1.1 am.1.2.1 am.1.2.2 am.2.1) ((none,0,0),(0:Int),()) H8)
 (λaw H9=>(λ(Z:dC)(aa ab:Nat)=>
 nh.C (some (eV H7)) ((IntKind.i64.wrap ((IntKind.i64.wrap (O+Y))+1)).toNat) ((IntKind.i64.wrap ((IntKind.i64.wrap (O+Y))+1)).toNat) H9 λax a0 ay=>
 ∃af:dA,some (eV N)=some af/\(∃u,dL ay (af.add 0)=some u)/\fH ay (af.add 0)=false/\
 eG (gO ay (af.add 0) (.iface lJ (.pointer ax))) λa3:dw=>
 ph.C Z aa ab a3 λaT az=>
 ∃ag:dA,some (eV N)=some ag/\(∃u,dL az (ag.add 1)=some u)/\fH az (ag.add 1)=false/\
 eG (gO az (ag.add 1) (.iface qo (.pointer aT))) λa4:dw=>R (some (eV N)) 0 a4) aw.1.1 aw.1.2.1 aw.1.2.2)))) s9.1)
theorem pg.calls{u}{w I}{R}{N}(h:pg.W u w I R N):pg.C u w I N R:=
 (mT (aN [(15,.ord (List.range 12))] [(3,[(4,.one (.int .i64)),(14,.one (.int .i64))]),(18,[(9,.one .slice),(70,.one (.int .i64))])] [(9,[(4,.one (.int .i64))]),(14,[]),(23,[(9,.one .slice)])] []) (R:=λv H'=>xT [.one .ptr,.one (.int .i64)] v λr=>R r.1 r.2.1 H') Tryz.func73 (eM (by kernel_rfl) h)).mono λv H' h=>by obtain⟨x,O,Y⟩:=gI h;exact⟨x.1,x.2.1,O,Y⟩
def iH.W(h:dC)(R:Int->dw->Prop)(u:dw):Prop:=
 eL (Option.isNone h) (R 0 u) (∃w:dA,h=some w/\
 ∃I:dC,dL u (w.add 0)=some (.pointer I)/\iu.C I u λN O=>R N O)
theorem iH.calls{u}{R}{w}(h:iH.W u R w):iH.C u w R:=
 m1 (.one (.int .i64)) (aN [] [] [] []) Tryz.func76 (eM (by kernel_rfl) h)
def gA.W(I:dC)(h aj:Nat)(N:dC)(w ak:Nat)(R:Bool->dw->Prop)(H0:dw):Prop:=
 eL (decide ((h:Int)≠(w:Int))) False (
 eA (λJ8=>
 fP (λL4 q4 O=>(λ(u:Int)=>
 eL (decide (u<(h:Int))) (∃ag:dA,I=some ag/\0<=u/\u<(h:Int)/\kg O (ag.add (u.toNat*4)) λY Z aa ab=>
 ∃ah:dA,N=some ah/\0<=u/\u<(w:Int)/\kg O (ah.add (u.toNat*4)) λac ad ae af=>
 eL (!(decide (Y=ac)&&(decide (Z=ad)&&(decide (aa=ae)&&(decide (ab=af)&&true))))) False (eG (IntKind.i64.wrap (u+1)) λai:Int=>L4 ((ai:Int),()) O)) (J8 () O)) q4.1) ((0:Int),()) H0)
 (λ_ H1=>R true H1))
theorem gA.calls{u}{w I}{N}{O Y}{R}{Z}(h:gA.W u w I N O Y R Z):gA.C u w I N O Y Z R:=
 m1 (.one .bool) (aN [(6,.ord (List.range 9))] [(4,[(5,.one (.int .i64))])] [(8,[])] [2,7]) Tryz.func89 (eM (by kernel_rfl) h)
def kn.W(w:dC)(Z:Int)(R:Int->Int->dw->Prop)(H0:dw):Prop:=
 eA (λJ3=>
 eA (λJ2=>
 eL (decide (Z<0)) (J2 (true,()) H0) (km.C w H0 λak H3=>J2 (decide (ak<=Z),()) H3))
 (λs2 H2=>(λ(an:Bool)=>
 eL an (R 0 4 H2) (J3 () H2)) s2.1))
 (λ_ H1=>
 ∃I:dA,w=some I/\(∃u,dL H1 (I.add 3)=some u)/\fH H1 (I.add 3)=false/\
 eG (gO H1 (I.add 3) (.int .i64 0)) λH4:dw=>
 eA (λap=>
 ∃ad:dA,w=some ad/\
 ∃(aa:dC)(N ab:Nat),dL H4 (ad.add 0)=some (.slice aa N ab)/\
 fP (λL6 q6 H6=>(λ(k1:Int)(h:Int)(O:Int)=>
 eL (decide (O<(N:Int))) (
 eA (λar=>
 jL.C w O H6 λau H8=>
 kz.C au k1 H8 λY aB H9=>
 eA (λae=>
 eG (IntKind.i64.wrap (h*2)) λh:Int=>
 eL Y (eG (IntKind.i64.wrap (h+1)) λh:Int=>ae ((h:Int),()) H9) (ae ((h:Int),()) H9))
 (λaw ax=>(λ(h:Int)=>
 jw.C w O k1 Y ax λay az=>ar ((ay:Int),(h:Int),()) az) aw.1))
 (λaf H7=>(λ(k1:Int)(h:Int)=>L6 ((k1:Int),(h:Int),(IntKind.i64.wrap (O+1):Int),()) H7) af.1 af.2.1)) (ap ((h:Int),()) H6)) q6.1 q6.2.1 q6.2.2.1) ((Z:Int),(0:Int),(0:Int),()) H4)
 (λaA H5=>(λ(h:Int)=>R h 0 H5) aA.1))
theorem kn.calls{u}{w}{R}{I}(h:kn.W u w R I):kn.C u w I R:=
 (mT (aN [] [(6,[(1,.one (.int .i64)),(6,.one (.int .i64)),(26,.one (.int .i64))])] [(2,[(17,.one .bool)]),(3,[]),(12,[(6,.one (.int .i64))]),(13,[(1,.one (.int .i64)),(6,.one (.int .i64))]),(14,[(6,.one (.int .i64))])] []) (R:=λv H'=>xT [.one (.int .i64),.one (.int .i64)] v λr=>R r.1 r.2.1 H') Tryz.func95 (eM (by kernel_rfl) h)).mono λv H' h=>by obtain⟨x,N,O⟩:=gI h;exact⟨x.1,x.2.1,N,O⟩
def ig.W(u:dC)(h:Int)(R:Int->dw->Prop)(w:dw):Prop:=
 eA (λJ3=>
 eA (λI=>
 eL (decide (h<0)) (I (true,()) w) (iH.C u w λN H3=>I (decide (N<=h),()) H3))
 (λs2 O=>(λ(Y:Bool)=>
 eL Y (R (-1) O) (J3 () O)) s2.1))
 (λ_ H1=>
 jk.C u h H1 λZ H4=>R Z H4)
theorem ig.calls{u}{w}{R}{I}(h:ig.W u w R I):ig.C u w I R:=
 m1 (.one (.int .i64)) (aN [] [] [(2,[(12,.one .bool)]),(3,[])] []) Tryz.func96 (eM (by kernel_rfl) h)
def iB.W(h:dC)(I:Int)(R:Int->dw->Prop)(w:dw):Prop:=
 eL (Option.isNone h) (R (-1) w) (∃N:dA,h=some N/\
 ∃u:dC,dL w (N.add 0)=some (.pointer u)/\iL.C u I true w λO Y=>R O Y)
theorem iB.calls{u}{w}{R}{I}(h:iB.W u w R I):iB.C u w I R:=
 m1 (.one (.int .i64)) (aN [] [] [] []) Tryz.func97 (eM (by kernel_rfl) h)
def jQ.W(w:dC)(I:Int)(R:dE->Int->dw->Prop)(Y:dw):Prop:=
 eA (λJ3=>
 eA (λZ=>
 eL (decide (I<0)) (Z (true,()) Y) (kq.C w Y λaa H3=>Z (decide (aa<=I),()) H3))
 (λs2 H2=>(λ(ac:Bool)=>
 eL ac (R dM 4 H2) (J3 () H2)) s2.1))
 (λ_ H1=>
 iI.C w H1 λad H4=>
 jR.C ad I H4 λu ag H5=>
 iI.C w H5 λae H6=>
 jR.C ae (IntKind.i64.wrap (I+1)) H6 λh ah H7=>
 ∃O:dA,w=some O/\
 ∃N:dE,dL H7 (O.add 0)=some (.string N)/\0<=h/\h<=(N.size:Int)/\0<=u/\u<=(h.toNat:Int)/\R (N.extract u.toNat h.toNat) 0 H7)
theorem jQ.calls{u}{w}{R}{I}(h:jQ.W u w R I):jQ.C u w I R:=
 (mT (aN [] [] [(2,[(17,.one .bool)]),(3,[])] []) (R:=λv H'=>xT [.one .str,.one (.int .i64)] v λr=>R r.1 r.2.1 H') Tryz.func98 (eM (by kernel_rfl) h)).mono λv H' h=>by obtain⟨x,N,O⟩:=gI h;exact⟨x.1,x.2.1,N,O⟩
end Go.Proofs.fv
