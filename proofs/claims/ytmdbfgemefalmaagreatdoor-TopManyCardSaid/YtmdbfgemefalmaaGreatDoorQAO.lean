/- Part AO of the proof that the law TopMany answers true at every input, under no condition. -/
import Derived.Test.YtmdbfgemefalmaaGreatDoorQAN
import Derived.KernelRfl
set_option linter.unusedVariables false
set_option maxHeartbeats 2000000
set_option maxRecDepth 100000
namespace Go.Proofs.iQ
open Go.Ex
def nY.gD:gR:={ord:=λi=>bif Nat.beq i 21 then .ord [0,1,2,3,4,5,6,7,8,9,10,11,12,13,14,15,16,17,18,19,20,21,22,23,24,25,26,27,28,29,30,31,32,33,34,35,36,37,38,39,40,41,42,43,44,45,46,47,48,49,50] else .ord [],loop:=λi=>bif Nat.beq i 4 then some [(7,.one .str),(8,.one (.int .i64)),(9,.one (.int .i64))] else bif Nat.beq i 7 then some [(7,.one .str),(8,.one (.int .i64))] else bif Nat.beq i 11 then some [(7,.one .str),(8,.one (.int .i64))] else none,join:=λi=>bif Nat.beq i 5 then some [(7,.one .str),(8,.one (.int .i64))] else bif Nat.beq i 10 then some [(7,.one .str),(8,.one (.int .i64))] else bif Nat.beq i 11 then some [(7,.one .str),(8,.one (.int .i64))] else bif Nat.beq i 14 then some [(7,.one .str)] else bif Nat.beq i 16 then some [(66,.one .bool)] else bif Nat.beq i 17 then some [] else none,cut:=λi=>[16].any (Nat.beq i)}
def nY.W(bg:Int)(aE:Int)(R:Bool->Heap->Prop)(H0:Heap):Prop:=
 (800:Int)≠0/\(100:Int)≠0/\
 eX (IntKind.i64.wrap (1+(IntKind.i64.wrap (Int.tmod (IntKind.u64.wrap bg) 800)))) λa5:Int=>
 eX (IntKind.i64.wrap (1+(IntKind.i64.wrap (Int.tmod (IntKind.u64.wrap aE) 100)))) λb6:Int=>
 eW (S:=(ByteArray×Int×Unit)) (λbh=>
 lD (S:=(ByteArray×Int×Int×Unit)) (λL4 q4 H2=>(λ(s7:ByteArray)(I:Int)(i9:Int)=>
 gn (decide (i9<a5)) (
 eW (S:=(ByteArray×Int×Unit)) (λJ5=>
 eW (S:=(ByteArray×Int×Unit)) (λaW=>b6≠0/\
 gn (decide ((Int.tmod i9 b6)=0)) (
 lD (S:=(ByteArray×Int×Unit)) (λL7 q7 H5=>(λ(s7:ByteArray)(I:Int)=>
 gn (decide ((0:Int)<I)) (s7.size+(⟨#[60,47,98,62]⟩:ByteArray).size<=9223372036854775807/\
 eX (IntKind.i64.wrap (I-1)) λaf:Int=>L7 (s7++(⟨#[60,47,98,62]⟩:ByteArray),(af:Int),()) H5) (aW (s7,(I:Int),()) H5)) q7.1 q7.2.1) (s7,(I:Int),()) H2) (aW (s7,(I:Int),()) H2))
 (λaX H4=>(λ(s7:ByteArray)(I:Int)=>s7.size+(⟨#[60,98,62,120]⟩:ByteArray).size<=9223372036854775807/\
 eX (IntKind.i64.wrap (I+1)) λI:Int=>J5 (s7++(⟨#[60,98,62,120]⟩:ByteArray),(I:Int),()) H4) aX.1 aX.2.1))
 (λs5 H3=>(λ(s7:ByteArray)(I:Int)=>
 eX (IntKind.i64.wrap (i9+1)) λbn:Int=>L4 (s7,(I:Int),(bn:Int),()) H3) s5.1 s5.2.1)) (bh (s7,(I:Int),()) H2)) q4.1 q4.2.1 q4.2.2.1) ((⟨#[]⟩:ByteArray),(0:Int),(0:Int),()) H0)
 (λaY H1=>(λ(s7:ByteArray)(I:Int)=>
 eW (S:=(ByteArray×Unit)) (λbo=>
 lD (S:=(ByteArray×Int×Unit)) (λbq aZ H7=>(λ(s7:ByteArray)(I:Int)=>
 gn (decide ((0:Int)<I)) (s7.size+(⟨#[60,47,98,62]⟩:ByteArray).size<=9223372036854775807/\
 eX (IntKind.i64.wrap (I-1)) λaf:Int=>bq (s7++(⟨#[60,47,98,62]⟩:ByteArray),(af:Int),()) H7) (bo (s7,()) H7)) aZ.1 aZ.2.1) (s7,(I:Int),()) H1)
 (λbw H6=>(λ(s7:ByteArray)=>(⟨#[60,97,62]⟩:ByteArray).size+s7.size<=9223372036854775807/\((⟨#[60,97,62]⟩:ByteArray)++s7).size+(⟨#[60,47,97,62]⟩:ByteArray).size<=9223372036854775807/\∀ad,(((⟨#[60,97,62]⟩:ByteArray)++s7)++(⟨#[60,47,97,62]⟩:ByteArray)).size<=ad->eX (H6.push (.cells ((mg (((⟨#[60,97,62]⟩:ByteArray)++s7)++(⟨#[60,47,97,62]⟩:ByteArray))).toArray++Array.replicate (ad-(((⟨#[60,97,62]⟩:ByteArray)++s7)++(⟨#[60,47,97,62]⟩:ByteArray)).size) (.int .u8 0)) iD (ad,ad+1))) λH8:Heap=>
 fM.C (some ⟨Array.size H6,0,none⟩) ((((⟨#[60,97,62]⟩:ByteArray)++s7)++(⟨#[60,47,97,62]⟩:ByteArray)).size) ad (100000) (101) (0) (0) H8 λae aM H9=>
 eW (S:=Unit) (λbz=>
 eW (S:=(Bool×Unit)) (λa6=>
 gn (decide (aM≠0)) (a6 (true,()) H9) (a6 (Option.isNone (ae),()) H9))
 (λbA bB=>(λ(bC:Bool)=>
 gn bC (False) (bz () bB)) bA.1))
 (λ_ bD=>
 jW.C (ae) bD λaN aO bE=>
 iO.C (ae) (11) (0) (0) (⟨#[]⟩:ByteArray) (⟨#[98]⟩:ByteArray) bE λaP aQ ah ai aj ak al ao aF=>
 eX (gy aF #[.int .i64 0,.int .i64 0,.slice none 0 0,.slice none 0 0] fq) λbF:Heap=>nR [.int .i64 aP,.int .i64 aQ,.slice ah ai aj,.slice ak al ao] ⟨Array.size aF,0,none⟩ 0 bF λbG=>
 iO.C (ae) (14) (0) (0) (⟨#[]⟩:ByteArray) (⟨#[]⟩:ByteArray) bG λaR aS aq ar au av aw ax ag=>
 eX (gy ag #[.int .i64 0,.int .i64 0,.slice none 0 0,.slice none 0 0] fq) λbH:Heap=>nR [.int .i64 aR,.int .i64 aS,.slice aq ar au,.slice av aw ax] ⟨Array.size ag,0,none⟩ 0 bH λbI=>
 iO.C (ae) (17) (IntKind.i64.wrap ((IntKind.i64.wrap (2*a5))+1)) (0) (⟨#[]⟩:ByteArray) (⟨#[]⟩:ByteArray) bI λaT aU ay az aA aB aC aD aG=>
 eX (gy aG #[.int .i64 0,.int .i64 0,.slice none 0 0,.slice none 0 0] fq) λbJ:Heap=>nR [.int .i64 aT,.int .i64 aU,.slice ay az aA,.slice aB aC aD] ⟨Array.size aG,0,none⟩ 0 bJ λbK=>
 ui.C bK λbL ab=>
 gn bL (gn (decide (aO=0)) ((⟨#[60,97,62]⟩:ByteArray).size+s7.size<=9223372036854775807/\((⟨#[60,97,62]⟩:ByteArray)++s7).size+(⟨#[60,47,97,62]⟩:ByteArray).size<=9223372036854775807/\
 gn (decide (aN=((⟨#[60,97,62]⟩:ByteArray)++s7)++(⟨#[60,47,97,62]⟩:ByteArray))) (eO ab ((⟨Array.size aF,0,none⟩:Addr).add 3) λbQ aV bR=>
 gn (decide ((aV:Int)=a5)) (eO ab ((⟨Array.size ag,0,none⟩:Addr).add 2) λbM aH bN=>
 gn (decide ((aH:Int)=1)) (eO ab ((⟨Array.size ag,0,none⟩:Addr).add 2) λaI aJ bO=>
 ∃aK:Addr,aI=some aK/\0<=(0:Int)/\(0:Int)<(aJ:Int)/\im ab (aK.add ((0:Int).toNat)) λba=>
 gn (decide ((ba.size:Int)=a5)) (ff ab ((⟨Array.size aG,0,none⟩:Addr).add 1) λbb=>b6≠0/\
 gn (decide (bb=(IntKind.i64.wrap ((Int.tmod (IntKind.i64.wrap (a5-1)) b6)+3)))) (kl.C (a5) ab λbf bP=>R (decide ((0:Int)<(bf.size:Int))) bP) (R false ab)) (R false ab)) (R false ab)) (R false ab)) (R false ab)) (R false ab)) (R false ab))) bw.1)) aY.1 aY.2.1)
theorem nY.eq(aa:Int)(I:Int)(R:Bool->Heap->Prop)(H0:Heap):
 wF Tryz.prog nY.gD Tryz.f3 [.int .i64 aa,.int .i64 I] (λv H'=>xS (.one .bool) v λr=>R r H') H0=nY.W aa I R H0:=by kernel_rfl
theorem nY.calls{aa}{I}{R}{H0}(h:nY.W aa I R H0):nY.C aa I H0 R:=
 (dp eF Tryz.func3 (by rw[nY.eq];exact h)).mono λv H' h=>by obtain⟨x,hv,hk⟩:=fS h;exact⟨x,hv,hk⟩
def fM.gD:gR:={ord:=λ_=>.ord [],loop:=λ_=>none,join:=λ_=>none,cut:=λi=>[3,6].any (Nat.beq i)}
def fM.W(ad:Option Addr)(ae af:Nat)(ag:Int)(ah:Int)(ai:Int)(aj:Int)(R:Option Addr->Int->Heap->Prop)(H0:Heap):Prop:=
 eX (gy H0 #[.int .i64 ag,.int .i64 ah,.int .i64 ai,.int .i64 aj] ie) λH1:Heap=>jt H1 ⟨Array.size H0,0,none⟩ λak al ao aq=>
 gB.C (ad) ae af (ak) (al) (ao) (aq) H1 λI aa ab ar H2=>
 gn (decide (ar≠0)) (False) (jh.C (I) aa ab H2 λau av H3=>
 gn (decide (av≠0)) (False) (eX (gy H3 #[.iface ij (.pointer au)] rl) λH4:Heap=>R (some ⟨Array.size H3,0,none⟩) (0) H4))
theorem fM.eq(I:Option Addr)(aa ab:Nat)(ad:Int)(ae:Int)(af:Int)(ag:Int)(R:Option Addr->Int->Heap->Prop)(H0:Heap):
 wF Tryz.prog fM.gD Tryz.f5 [.slice I aa ab,.agg #[.int .i64 ad,.int .i64 ae,.int .i64 af,.int .i64 ag]] (λv H'=>xT [.one .ptr,.one (.int .i64)] v λr=>R r.1 r.2.1 H') H0=fM.W I aa ab ad ae af ag R H0:=by kernel_rfl
theorem fM.calls{I}{aa ab}{ad}{ae}{af}{ag}{R}{H0}(h:fM.W I aa ab ad ae af ag R H0):fM.C I aa ab ad ae af ag H0 R:=
 (dp eF Tryz.func5 (by rw[fM.eq];exact h)).mono λv H' h=>by obtain⟨x,hv,hk⟩:=dB h;exact⟨x.1,x.2.1,hv,hk⟩
def jW.gD:gR:={ord:=λ_=>.ord [],loop:=λ_=>none,join:=λ_=>none}
def jW.W(ab:Option Addr)(R:ByteArray->Int->Heap->Prop)(H0:Heap):Prop:=
 ln.C (ab) H0 λx5 H1=>
 lY.C (x5) H1 λI aa H2=>R I (aa) H2
theorem jW.eq(I:Option Addr)(R:ByteArray->Int->Heap->Prop)(H0:Heap):
 wF Tryz.prog jW.gD Tryz.f6 [.pointer I] (λv H'=>xT [.one .str,.one (.int .i64)] v λr=>R r.1 r.2.1 H') H0=jW.W I R H0:=by kernel_rfl
theorem jW.calls{I}{R}{H0}(h:jW.W I R H0):jW.C I H0 R:=
 (dp eF Tryz.func6 (by rw[jW.eq];exact h)).mono λv H' h=>by obtain⟨x,hv,hk⟩:=dB h;exact⟨x.1,x.2.1,hv,hk⟩
def iO.gD:gR:={ord:=λi=>bif Nat.beq i 1 then .ord [0,2,1,3,4] else .ord [],loop:=λ_=>none,join:=λ_=>none}
def iO.W(aJ:Option Addr)(al:Int)(ao:Int)(aq:Int)(ar:ByteArray)(au:ByteArray)(R:Int->Int->Option Addr->Nat->Nat->Option Addr->Nat->Nat->Heap->Prop)(H0:Heap):Prop:=
 eX (gy H0 #[.int .i64 al,.int .i64 ao,.int .i64 aq,.string ar,.string au] kj) λH1:Heap=>
 eX (gy H1 #[.int .i64 0,.int .i64 0,.slice none 0 0,.slice none 0 0] fq) λH2:Heap=>sB H2 ⟨Array.size H0,0,none⟩ λI aa ab ad ae=>
 ln.C (aJ) H2 λx6 H3=>(sB H3 ⟨Array.size H0,0,none⟩ λav aw ax ay az=>(.agg #[.int .i64 av,.int .i64 aw,.int .i64 ax,.string ay,.string az]:Value)=.agg #[.int .i64 I,.int .i64 aa,.int .i64 ab,.string ad,.string ae])/\jK.C (x6) (I) (aa) (ab) ad ae H3 λaH aI af ag ah ai aj ak H4=>nR [.int .i64 aH,.int .i64 aI,.slice af ag ah,.slice ai aj ak] ⟨Array.size H1,0,none⟩ 0 H4 λH5=>nu H5 ⟨Array.size H1,0,none⟩ λaN aO aA aB aC aD aE aF=>R (aN) (aO) (aA) aB aC (aD) aE aF H5
theorem iO.eq(af:Option Addr)(I:Int)(aa:Int)(ab:Int)(ad:ByteArray)(ae:ByteArray)(R:Int->Int->Option Addr->Nat->Nat->Option Addr->Nat->Nat->Heap->Prop)(H0:Heap):
 wF Tryz.prog iO.gD Tryz.f7 [.pointer af,.agg #[.int .i64 I,.int .i64 aa,.int .i64 ab,.string ad,.string ae]] (λv H'=>xS (.agg [.int .i64,.int .i64,.slice,.slice]) v λr=>R r.1 r.2.1 r.2.2.1.1 r.2.2.1.2.1 r.2.2.1.2.2 r.2.2.2.1.1 r.2.2.2.1.2.1 r.2.2.2.1.2.2 H') H0=iO.W af I aa ab ad ae R H0:=by kernel_rfl
theorem iO.calls{af}{I}{aa}{ab}{ad}{ae}{R}{H0}(h:iO.W af I aa ab ad ae R H0):iO.C af I aa ab ad ae H0 R:=
 (dp eF Tryz.func7 (by rw[iO.eq];exact h)).mono λv H' h=>by obtain⟨x,hv,hk⟩:=fS h;exact⟨x.1,x.2.1,x.2.2.1.1,x.2.2.1.2.1,x.2.2.1.2.2,x.2.2.2.1.1,x.2.2.2.1.2.1,x.2.2.2.1.2.2,hv,hk⟩
def kl.gD:gR:={ord:=λ_=>.ord [],loop:=λi=>bif Nat.beq i 2 then some [(0,.one (.int .i64)),(3,.one .str)] else none,join:=λi=>bif Nat.beq i 5 then some [(0,.one (.int .i64)),(3,.one .str)] else none}
def kl.W(ab:Int)(R:ByteArray->Heap->Prop)(H0:Heap):Prop:=
 eW (S:=(Int×ByteArray×Unit)) (λJ5=>
 lD (S:=(Int×ByteArray×Unit)) (λL2 q2 H2=>(λ(I:Int)(s3:ByteArray)=>
 gn (decide ((9:Int)<I)) ((10:Int)≠0/\(10:Int)≠0/\0<=IntKind.i64.wrap ((Int.tmod I 10)+1)/\IntKind.i64.wrap ((Int.tmod I 10)+1)<=((⟨#[48,49,50,51,52,53,54,55,56,57]⟩:ByteArray).size:Int)/\0<=Int.tmod I 10/\Int.tmod I 10<=((IntKind.i64.wrap ((Int.tmod I 10)+1)).toNat:Int)/\((⟨#[48,49,50,51,52,53,54,55,56,57]⟩:ByteArray).extract ((Int.tmod I 10).toNat) ((IntKind.i64.wrap ((Int.tmod I 10)+1)).toNat)).size+s3.size<=9223372036854775807/\(10:Int)≠0/\
 eX (IntKind.i64.wrap (Int.tdiv I 10)) λaf:Int=>L2 ((af:Int),((⟨#[48,49,50,51,52,53,54,55,56,57]⟩:ByteArray).extract ((Int.tmod I 10).toNat) ((IntKind.i64.wrap ((Int.tmod I 10)+1)).toNat))++s3,()) H2) (J5 ((I:Int),s3,()) H2)) q2.1 q2.2.1) ((ab:Int),(⟨#[]⟩:ByteArray),()) H0)
 (λs5 H1=>(λ(I:Int)(s3:ByteArray)=>0<=IntKind.i64.wrap (I+1)/\IntKind.i64.wrap (I+1)<=((⟨#[48,49,50,51,52,53,54,55,56,57]⟩:ByteArray).size:Int)/\0<=I/\I<=((IntKind.i64.wrap (I+1)).toNat:Int)/\((⟨#[48,49,50,51,52,53,54,55,56,57]⟩:ByteArray).extract I.toNat ((IntKind.i64.wrap (I+1)).toNat)).size+s3.size<=9223372036854775807/\R (((⟨#[48,49,50,51,52,53,54,55,56,57]⟩:ByteArray).extract I.toNat ((IntKind.i64.wrap (I+1)).toNat))++s3) H1) s5.1 s5.2.1)
theorem kl.eq(I:Int)(R:ByteArray->Heap->Prop)(H0:Heap):
 wF Tryz.prog kl.gD Tryz.f9 [.int .i64 I] (λv H'=>xS (.one .str) v λr=>R r H') H0=kl.W I R H0:=by kernel_rfl
theorem kl.calls{I}{R}{H0}(h:kl.W I R H0):kl.C I H0 R:=
 (dp eF Tryz.func9 (by rw[kl.eq];exact h)).mono λv H' h=>by obtain⟨x,hv,hk⟩:=fS h;exact⟨x,hv,hk⟩
def gB.gD:gR:={ord:=λi=>bif Nat.beq i 8 then .fl [0,2,3,4,5] 1 [6,7,8] else .ord [],loop:=λ_=>none,join:=λ_=>none,cut:=λi=>[2,4,7,11].any (Nat.beq i)}
def gB.W(az:Option Addr)(av aA:Nat)(aB:Int)(aC:Int)(aD:Int)(aE:Int)(R:Option Addr->Nat->Nat->Int->Heap->Prop)(H0:Heap):Prop:=
 eX (gy H0 #[.int .i64 aB,.int .i64 aC,.int .i64 aD,.int .i64 aE] ie) λH1:Heap=>jt H1 ⟨Array.size H0,0,none⟩ λaF aG aH aI=>
 j6.C (aF) (aG) (aH) (aI) H1 λaR H2=>
 gn (!aR) (False) (ff H2 ((⟨Array.size H0,0,none⟩:Addr).add 0) λaT=>
 gn (decide (aT<(av:Int))) (False) (iZ.C (az) av aA H2 λaq aJ H3=>
 gn (decide (aJ≠0)) (False) (jt H3 ⟨Array.size H0,0,none⟩ λae af ag ah=>(jG.C (⟨#[]⟩:ByteArray) (none) 0 0 (none) 0 0 H3 λaw H4=>(jt H4 ⟨Array.size H0,0,none⟩ λI aa ab ad=>(.agg #[.int .i64 I,.int .i64 aa,.int .i64 ab,.int .i64 ad]:Value)=.agg #[.int .i64 ae,.int .i64 af,.int .i64 ag,.int .i64 ah])/\(fh.C H4 λar H5=>(jt H5 ⟨Array.size H0,0,none⟩ λI aa ab ad=>(.agg #[.int .i64 I,.int .i64 aa,.int .i64 ab,.int .i64 ad]:Value)=.agg #[.int .i64 ae,.int .i64 af,.int .i64 ag,.int .i64 ah])/\
 eX (gy H5 #[.int .i64 1,.int .i64 0,.string (⟨#[]⟩:ByteArray),.string (⟨#[]⟩:ByteArray),.string (⟨#[]⟩:ByteArray),.string (⟨#[]⟩:ByteArray),.slice none 0 0] eH) λH6:Heap=>(jt H6 ⟨Array.size H0,0,none⟩ λI aa ab ad=>(.agg #[.int .i64 I,.int .i64 aa,.int .i64 ab,.int .i64 ad]:Value)=.agg #[.int .i64 ae,.int .i64 af,.int .i64 ag,.int .i64 ah])/\
 eX (gy H6 #[.slice (some ⟨Array.size H5,0,none⟩) 1 1,.int .i64 ae,.int .i64 af,.int .i64 ag,.int .i64 ah,.string (⟨#[]⟩:ByteArray),.slice none 0 0,.slice none 0 0,.pointer aw,.pointer ar,.pointer none,.slice none 0 0,.bool false] ji) λH7:Heap=>
 nf.C (some ⟨Array.size H6,0,none⟩) aq H7 λau H8=>
 gn (decide (au≠0)) (False) (∃al:Addr,some ⟨Array.size H6,0,none⟩=some al/\eO H8 (al.add 0) λai aj ak=>R (ai) aj ak (0) H8))/\(eX (gy H4 #[.int .i64 1,.int .i64 0,.string (⟨#[]⟩:ByteArray),.string (⟨#[]⟩:ByteArray),.string (⟨#[]⟩:ByteArray),.string (⟨#[]⟩:ByteArray),.slice none 0 0] eH) λH9:Heap=>(jt H9 ⟨Array.size H0,0,none⟩ λI aa ab ad=>(.agg #[.int .i64 I,.int .i64 aa,.int .i64 ab,.int .i64 ad]:Value)=.agg #[.int .i64 ae,.int .i64 af,.int .i64 ag,.int .i64 ah])/\fh.C H9 λar ax=>(jt ax ⟨Array.size H0,0,none⟩ λI aa ab ad=>(.agg #[.int .i64 I,.int .i64 aa,.int .i64 ab,.int .i64 ad]:Value)=.agg #[.int .i64 ae,.int .i64 af,.int .i64 ag,.int .i64 ah])/\
 eX (gy ax #[.slice (some ⟨Array.size H4,0,none⟩) 1 1,.int .i64 ae,.int .i64 af,.int .i64 ag,.int .i64 ah,.string (⟨#[]⟩:ByteArray),.slice none 0 0,.slice none 0 0,.pointer aw,.pointer ar,.pointer none,.slice none 0 0,.bool false] ji) λaW:Heap=>
 nf.C (some ⟨Array.size ax,0,none⟩) aq aW λau aM=>
 gn (decide (au≠0)) (False) (∃al:Addr,some ⟨Array.size ax,0,none⟩=some al/\eO aM (al.add 0) λai aj ak=>R (ai) aj ak (0) aM)))/\(eX (gy H3 #[.int .i64 1,.int .i64 0,.string (⟨#[]⟩:ByteArray),.string (⟨#[]⟩:ByteArray),.string (⟨#[]⟩:ByteArray),.string (⟨#[]⟩:ByteArray),.slice none 0 0] eH) λaN:Heap=>(jt aN ⟨Array.size H0,0,none⟩ λI aa ab ad=>(.agg #[.int .i64 I,.int .i64 aa,.int .i64 ab,.int .i64 ad]:Value)=.agg #[.int .i64 ae,.int .i64 af,.int .i64 ag,.int .i64 ah])/\jG.C (⟨#[]⟩:ByteArray) (none) 0 0 (none) 0 0 aN λaw aO=>(jt aO ⟨Array.size H0,0,none⟩ λI aa ab ad=>(.agg #[.int .i64 I,.int .i64 aa,.int .i64 ab,.int .i64 ad]:Value)=.agg #[.int .i64 ae,.int .i64 af,.int .i64 ag,.int .i64 ah])/\fh.C aO λar ay=>(jt ay ⟨Array.size H0,0,none⟩ λI aa ab ad=>(.agg #[.int .i64 I,.int .i64 aa,.int .i64 ab,.int .i64 ad]:Value)=.agg #[.int .i64 ae,.int .i64 af,.int .i64 ag,.int .i64 ah])/\
 eX (gy ay #[.slice (some ⟨Array.size H3,0,none⟩) 1 1,.int .i64 ae,.int .i64 af,.int .i64 ag,.int .i64 ah,.string (⟨#[]⟩:ByteArray),.slice none 0 0,.slice none 0 0,.pointer aw,.pointer ar,.pointer none,.slice none 0 0,.bool false] ji) λaX:Heap=>
 nf.C (some ⟨Array.size ay,0,none⟩) aq aX λau aP=>
 gn (decide (au≠0)) (False) (∃al:Addr,some ⟨Array.size ay,0,none⟩=some al/\eO aP (al.add 0) λai aj ak=>R (ai) aj ak (0) aP)))))
theorem gB.eq(I:Option Addr)(aa ab:Nat)(ad:Int)(ae:Int)(af:Int)(ag:Int)(R:Option Addr->Nat->Nat->Int->Heap->Prop)(H0:Heap):
 wF Tryz.prog gB.gD Tryz.f15 [.slice I aa ab,.agg #[.int .i64 ad,.int .i64 ae,.int .i64 af,.int .i64 ag]] (λv H'=>xT [.one .slice,.one (.int .i64)] v λr=>R r.1.1 r.1.2.1 r.1.2.2 r.2.1 H') H0=gB.W I aa ab ad ae af ag R H0:=by kernel_rfl
theorem gB.calls{I}{aa ab}{ad}{ae}{af}{ag}{R}{H0}(h:gB.W I aa ab ad ae af ag R H0):gB.C I aa ab ad ae af ag H0 R:=
 (dp eF Tryz.func15 (by rw[gB.eq];exact h)).mono λv H' h=>by obtain⟨x,hv,hk⟩:=dB h;exact⟨x.1.1,x.1.2.1,x.1.2.2,x.2.1,hv,hk⟩
def jh.gD:gR:={ord:=λi=>bif Nat.beq i 15 then .ord [0,1,2,3,4,5,6,7,8,9,10,11,12,13,14,15,16,17,18] else bif Nat.beq i 17 then .ord [0,1,2,5,6,7,3,4,8,9,10,11,12] else .ord [],loop:=λi=>bif Nat.beq i 8 then some [(6,.one .slice),(7,.one .slice),(8,.one .slice),(24,.one (.int .i64))] else none,join:=λi=>bif Nat.beq i 16 then some [(12,.one (.int .i64))] else bif Nat.beq i 18 then some [(6,.one .slice),(7,.one .slice),(8,.one .slice)] else bif Nat.beq i 19 then some [(6,.one .slice),(7,.one .slice),(8,.one .slice)] else none,cut:=λi=>[2,26].any (Nat.beq i)}
def jh.W(aT:Option Addr)(aJ br:Nat)(R:Option Addr->Int->Heap->Prop)(H0:Heap):Prop:=
 jB.C (aT) aJ br H0 λcB H1=>
 gn (!cB) (False) (eX (gy H1 #[.pointer none,.pointer none,.pointer none,.slice none 0 0,.pointer none] iH) λH2:Heap=>
 eX (H2.push (.map #[] 0)) λH3:Heap=>
 eW (S:=((Option Addr×Nat×Nat)×(Option Addr×Nat×Nat)×(Option Addr×Nat×Nat)×Unit)) (λcC=>
 lD (S:=((Option Addr×Nat×Nat)×(Option Addr×Nat×Nat)×(Option Addr×Nat×Nat)×Int×Unit)) (λL8 q8 H5=>(λ(ag:Option Addr)(ah ai:Nat)(I:Option Addr)(aa ab:Nat)(ad:Option Addr)(ae af:Nat)(bj:Int)=>
 gn (decide (bj<(aJ:Int))) (
 eW (S:=((Option Addr×Nat×Nat)×(Option Addr×Nat×Nat)×(Option Addr×Nat×Nat)×Unit)) (λch=>
 ∃cj:Addr,aT=some cj/\0<=bj/\bj<(aJ:Int)/\kK H5 (cj.add (bj.toNat*7)) λb2 b3 b4 b5 b6 b7 bF bG bH=>
 eX (gy H5 #[.int .i64 0,.int .i64 0,.string (⟨#[]⟩:ByteArray),.string (⟨#[]⟩:ByteArray),.string (⟨#[]⟩:ByteArray),.string (⟨#[]⟩:ByteArray),.slice none 0 0] eH) λH7:Heap=>nR [.int .i64 b2,.int .i64 b3,.string b4,.string b5,.string b6,.string b7,.slice bF bG bH] ⟨Array.size H5,0,none⟩ 0 H7 λH8=>ff H8 ((⟨Array.size H5,0,none⟩:Addr).add 0) λcD=>im H8 ((⟨Array.size H5,0,none⟩:Addr).add 2) λcE=>im H8 ((⟨Array.size H5,0,none⟩:Addr).add 3) λcF=>im H8 ((⟨Array.size H5,0,none⟩:Addr).add 4) λcG=>
 eX (gy H8 #[.int .i64 0,.string (⟨#[]⟩:ByteArray),.string (⟨#[]⟩:ByteArray),.string (⟨#[]⟩:ByteArray)] jT) λH9:Heap=>nR [.int .i64 cD,.string cE,.string cF,.string cG] ⟨Array.size H8,0,none⟩ 0 H9 λaz=>C5 az ⟨Array.size H8,0,none⟩ λbw bx bz bA=>
 ∃(bk:Array MapEntry)(bJ:Nat)(bB:Option (Nat×Value)),az[(Array.size H2)]?=some (.map bk bJ)/\(∀em w,(Instr.checkKey em 10000 jT (.agg #[.int .i64 bw,.string bx,.string bz,.string bA])).run Tryz.prog w=.ok () w)/\(∀w,(Instr.findKey jT (.agg #[.int .i64 bw,.string bx,.string bz,.string bA]) bk.toList).run Tryz.prog w=.ok bB w)/\PK bB (λb8=>
 ∃ck:Value,b8=ck/\
 ∃bm:Int,∃aC:Bool,pc (ck) gv (.int .i64 bm) (.int .i64 0) aC/\
 eW (S:=(Int×Unit)) (λbn=>
 gn (!aC) (∃bo:Addr,some ⟨Array.size H1,0,none⟩=some bo/\eO az (bo.add 3) λb9 aV ca=>
 eX ((aV:Int)) λaD:Int=>C5 az ⟨Array.size H8,0,none⟩ λaq ar au av=>
 ∃(aK:Array MapEntry)(aL:Nat),az[(Array.size H2)]?=some (.map aK aL)/\(∀em w,(Instr.checkKey em 10000 jT (.agg #[.int .i64 aq,.string ar,.string au,.string av])).run Tryz.prog w=.ok () w)/\(∀w,(Instr.findKey jT (.agg #[.int .i64 aq,.string ar,.string au,.string av]) aK.toList).run Tryz.prog w=.ok none w)/\
 eX (Array.setIfInBounds az (Array.size H2) (.map (aK.push {key:=.agg #[.int .i64 aq,.string ar,.string au,.string av],val:=.iface gv (.int .i64 aD),born:=aL}) (aL+1))) λaA:Heap=>
 ∃aM:Addr,some ⟨Array.size H1,0,none⟩=some aM/\eO aA (aM.add 3) λaE aF aG=>ff aA ((⟨Array.size H5,0,none⟩:Addr).add 0) λbK=>im aA ((⟨Array.size H5,0,none⟩:Addr).add 2) λbL=>im aA ((⟨Array.size H5,0,none⟩:Addr).add 3) λbM=>im aA ((⟨Array.size H5,0,none⟩:Addr).add 4) λbN=>
 eX (gy aA #[.int .i64 bK,.int .i64 0,.string bL,.string bM,.string bN,.string (⟨#[]⟩:ByteArray),.slice none 0 0] eH) λcl:Heap=>(eO cl (aM.add 3) λaN aO aP=>(.slice aN aO aP:Value)=.slice aE aF aG)/\jN eH 7 104 (.agg #[.int .i64 0,.int .i64 0,.string (⟨#[]⟩:ByteArray),.string (⟨#[]⟩:ByteArray),.string (⟨#[]⟩:ByteArray),.string (⟨#[]⟩:ByteArray),.slice none 0 0]) aE aF aG (.slice (some ⟨Array.size aA,0,none⟩) 1 1) cl λaW aX aY cH=>
 ∃bq:Addr,some ⟨Array.size H1,0,none⟩=some bq/\sV (.slice aW aX aY) (bq.add 3) cH λcI=>bn ((aD:Int),()) cI) (bn ((bm:Int),()) az))
 (λbO cm=>(λ(aD:Int)=>
 eX (gy cm #[.int .i64 aD] gv) λcJ:Heap=>jN gv 1 8 (.int .i64 0) ag ah ai (.slice (some ⟨Array.size cm,0,none⟩) 1 1) cJ λaZ a6 a7 bC=>im bC ((⟨Array.size H5,0,none⟩:Addr).add 5) λbP=>eO bC ((⟨Array.size H5,0,none⟩:Addr).add 6) λaw ax ay=>
 eX (gy bC #[.string bP] dZ) λcn:Heap=>(eO cn ((⟨Array.size H5,0,none⟩:Addr).add 6) λak al ao=>(.slice ak al ao:Value)=.slice aw ax ay)/\jN dZ 1 16 (.string (⟨#[]⟩:ByteArray)) I aa ab (.slice (some ⟨Array.size bC,0,none⟩) 1 1) cn λa8 ba bb cp=>(eO cp ((⟨Array.size H5,0,none⟩:Addr).add 6) λak al ao=>(.slice ak al ao:Value)=.slice aw ax ay)/\dT.C (aw) ax ay cp λbQ cq=>
 eX (gy cq #[.string bQ] dZ) λcK:Heap=>jN dZ 1 16 (.string (⟨#[]⟩:ByteArray)) ad ae af (.slice (some ⟨Array.size cq,0,none⟩) 1 1) cK λbf bg bh cL=>ch ((aZ,a6,a7),(a8,ba,bb),(bf,bg,bh),()) cL) bO.1)) (∃bm:Int,∃aC:Bool,pc (.nilIface) gv (.int .i64 bm) (.int .i64 0) aC/\
 eW (S:=(Int×Unit)) (λbn=>
 gn (!aC) (∃bo:Addr,some ⟨Array.size H1,0,none⟩=some bo/\eO az (bo.add 3) λb9 aV ca=>
 eX ((aV:Int)) λaD:Int=>C5 az ⟨Array.size H8,0,none⟩ λaq ar au av=>
 ∃(aQ:Array MapEntry)(aR:Nat),az[(Array.size H2)]?=some (.map aQ aR)/\(∀em w,(Instr.checkKey em 10000 jT (.agg #[.int .i64 aq,.string ar,.string au,.string av])).run Tryz.prog w=.ok () w)/\(∀w,(Instr.findKey jT (.agg #[.int .i64 aq,.string ar,.string au,.string av]) aQ.toList).run Tryz.prog w=.ok none w)/\
 eX (Array.setIfInBounds az (Array.size H2) (.map (aQ.push {key:=.agg #[.int .i64 aq,.string ar,.string au,.string av],val:=.iface gv (.int .i64 aD),born:=aR}) (aR+1))) λaB:Heap=>
 ∃aM:Addr,some ⟨Array.size H1,0,none⟩=some aM/\eO aB (aM.add 3) λaE aF aG=>ff aB ((⟨Array.size H5,0,none⟩:Addr).add 0) λbK=>im aB ((⟨Array.size H5,0,none⟩:Addr).add 2) λbL=>im aB ((⟨Array.size H5,0,none⟩:Addr).add 3) λbM=>im aB ((⟨Array.size H5,0,none⟩:Addr).add 4) λbN=>
 eX (gy aB #[.int .i64 bK,.int .i64 0,.string bL,.string bM,.string bN,.string (⟨#[]⟩:ByteArray),.slice none 0 0] eH) λcr:Heap=>(eO cr (aM.add 3) λaN aO aP=>(.slice aN aO aP:Value)=.slice aE aF aG)/\jN eH 7 104 (.agg #[.int .i64 0,.int .i64 0,.string (⟨#[]⟩:ByteArray),.string (⟨#[]⟩:ByteArray),.string (⟨#[]⟩:ByteArray),.string (⟨#[]⟩:ByteArray),.slice none 0 0]) aE aF aG (.slice (some ⟨Array.size aB,0,none⟩) 1 1) cr λaW aX aY cM=>
 ∃bq:Addr,some ⟨Array.size H1,0,none⟩=some bq/\sV (.slice aW aX aY) (bq.add 3) cM λcN=>bn ((aD:Int),()) cN) (bn ((bm:Int),()) az))
 (λbO ct=>(λ(aD:Int)=>
 eX (gy ct #[.int .i64 aD] gv) λcO:Heap=>jN gv 1 8 (.int .i64 0) ag ah ai (.slice (some ⟨Array.size ct,0,none⟩) 1 1) cO λaZ a6 a7 bD=>im bD ((⟨Array.size H5,0,none⟩:Addr).add 5) λbP=>eO bD ((⟨Array.size H5,0,none⟩:Addr).add 6) λaw ax ay=>
 eX (gy bD #[.string bP] dZ) λcu:Heap=>(eO cu ((⟨Array.size H5,0,none⟩:Addr).add 6) λak al ao=>(.slice ak al ao:Value)=.slice aw ax ay)/\jN dZ 1 16 (.string (⟨#[]⟩:ByteArray)) I aa ab (.slice (some ⟨Array.size bD,0,none⟩) 1 1) cu λa8 ba bb cv=>(eO cv ((⟨Array.size H5,0,none⟩:Addr).add 6) λak al ao=>(.slice ak al ao:Value)=.slice aw ax ay)/\dT.C (aw) ax ay cv λbQ cx=>
 eX (gy cx #[.string bQ] dZ) λcP:Heap=>jN dZ 1 16 (.string (⟨#[]⟩:ByteArray)) ad ae af (.slice (some ⟨Array.size cx,0,none⟩) 1 1) cP λbf bg bh cQ=>ch ((aZ,a6,a7),(a8,ba,bb),(bf,bg,bh),()) cQ) bO.1)))
 (λaH H6=>(λ(ag:Option Addr)(ah ai:Nat)(I:Option Addr)(aa ab:Nat)(ad:Option Addr)(ae af:Nat)=>L8 ((ag,ah,ai),(I,aa,ab),(ad,ae,af),(IntKind.i64.wrap (bj+1):Int),()) H6) aH.1.1 aH.1.2.1 aH.1.2.2 aH.2.1.1 aH.2.1.2.1 aH.2.1.2.2 aH.2.2.1.1 aH.2.2.1.2.1 aH.2.2.1.2.2)) (cC ((ag,ah,ai),(I,aa,ab),(ad,ae,af),()) H5)) q8.1.1 q8.1.2.1 q8.1.2.2 q8.2.1.1 q8.2.1.2.1 q8.2.1.2.2 q8.2.2.1.1 q8.2.2.1.2.1 q8.2.2.1.2.2 q8.2.2.2.1) ((none,0,0),(none,0,0),(none,0,0),(0:Int),()) H3)
 (λaI H4=>(λ(ag:Option Addr)(ah ai:Nat)(I:Option Addr)(aa ab:Nat)(ad:Option Addr)(ae af:Nat)=>
 eX (gy H4 #[.int .i64 0,.int .i64 0,.int .i64 0,.int .i64 0] mS) λcR:Heap=>
 fX.C (aT) aJ br cR λcb cc cd cS=>
 jd.C (cb) cc cd cS λcf cg cT=>
 ∃cy:Addr,some ⟨Array.size H1,0,none⟩=some cy/\sV (.pointer cf) (cy.add 0) cT λcU=>0<=(0:Int)/\(0:Int)<((4:Nat):Int)/\sV (.int .i64 cg) ((⟨Array.size H4,0,none⟩:Addr).add (oM (0:Int).toNat 1)) cU λcz=>
 ∃bR:Addr,some ⟨Array.size H1,0,none⟩=some bR/\eO cz (bR.add 3) λcW bS cX=>
 j4.C (ag) ah ai ((bS:Int)) cz λbT bU cY=>
 ∃bV:Addr,some ⟨Array.size H1,0,none⟩=some bV/\sV (.pointer bT) (bV.add 1) cY λcZ=>0<=(1:Int)/\(1:Int)<((4:Nat):Int)/\sV (.int .i64 bU) ((⟨Array.size H4,0,none⟩:Addr).add (oM (1:Int).toNat 1)) cZ λc0=>
 jH.C (I) aa ab c0 λbW bX c1=>
 ∃bY:Addr,some ⟨Array.size H1,0,none⟩=some bY/\sV (.pointer bW) (bY.add 2) c1 λc2=>0<=(2:Int)/\(2:Int)<((4:Nat):Int)/\sV (.int .i64 bX) ((⟨Array.size H4,0,none⟩:Addr).add (oM (2:Int).toNat 1)) c2 λc4=>
 jH.C (ad) ae af c4 λbZ b0 c6=>
 ∃b1:Addr,some ⟨Array.size H1,0,none⟩=some b1/\sV (.pointer bZ) (b1.add 4) c6 λc7=>0<=(3:Int)/\(3:Int)<((4:Nat):Int)/\sV (.int .i64 b0) ((⟨Array.size H4,0,none⟩:Addr).add (oM (3:Int).toNat 1)) c7 λc8=>
 mZ.C ((some ⟨Array.size H4,0,none⟩)) 4 4 c8 λcA c9=>
 gn (decide (cA≠0)) (False) (R (some ⟨Array.size H1,0,none⟩) (0) c9)) aI.1.1 aI.1.2.1 aI.1.2.2 aI.2.1.1 aI.2.1.2.1 aI.2.1.2.2 aI.2.2.1.1 aI.2.2.1.2.1 aI.2.2.1.2.2))
theorem jh.eq(I:Option Addr)(aa ab:Nat)(R:Option Addr->Int->Heap->Prop)(H0:Heap):
 wF Tryz.prog jh.gD Tryz.f16 [.slice I aa ab] (λv H'=>xT [.one .ptr,.one (.int .i64)] v λr=>R r.1 r.2.1 H') H0=jh.W I aa ab R H0:=by kernel_rfl
theorem jh.calls{I}{aa ab}{R}{H0}(h:jh.W I aa ab R H0):jh.C I aa ab H0 R:=
 (dp eF Tryz.func16 (by rw[jh.eq];exact h)).mono λv H' h=>by obtain⟨x,hv,hk⟩:=dB h;exact⟨x.1,x.2.1,hv,hk⟩
def lY.gD:gR:={ord:=λ_=>.ord [],loop:=λ_=>none,join:=λ_=>none,cut:=λi=>[2].any (Nat.beq i)}
def lY.W(I:Option Addr)(R:ByteArray->Int->Heap->Prop)(H0:Heap):Prop:=
 gn (Option.isNone (I)) (False) (dL.C (I) H0 λaa ab ad H1=>
 ky.C (aa) ab ad H1 λae af H2=>R ae (af) H2)
theorem lY.eq(I:Option Addr)(R:ByteArray->Int->Heap->Prop)(H0:Heap):
 wF Tryz.prog lY.gD Tryz.f17 [.pointer I] (λv H'=>xT [.one .str,.one (.int .i64)] v λr=>R r.1 r.2.1 H') H0=lY.W I R H0:=by kernel_rfl
theorem lY.calls{I}{R}{H0}(h:lY.W I R H0):lY.C I H0 R:=
 (dp eF Tryz.func17 (by rw[lY.eq];exact h)).mono λv H' h=>by obtain⟨x,hv,hk⟩:=dB h;exact⟨x.1,x.2.1,hv,hk⟩
def ln.gD:gR:={ord:=λ_=>.ord [],loop:=λ_=>none,join:=λ_=>none,cut:=λi=>[2].any (Nat.beq i)}
def ln.W(aa:Option Addr)(R:Option Addr->Heap->Prop)(H0:Heap):Prop:=
 gn (Option.isNone (aa)) (False) (∃x9:Addr,aa=some x9/\Xw H0 (x9.add 0) λaf=>
 ∃ab:Option Addr,∃I:Bool,pc (af) ij (.pointer ab) (.pointer none) I/\R (ab) H0)
theorem ln.eq(I:Option Addr)(R:Option Addr->Heap->Prop)(H0:Heap):
 wF Tryz.prog ln.gD Tryz.f18 [.pointer I] (λv H'=>xS (.one .ptr) v λr=>R r H') H0=ln.W I R H0:=by kernel_rfl
theorem ln.calls{I}{R}{H0}(h:ln.W I R H0):ln.C I H0 R:=
 (dp eF Tryz.func18 (by rw[ln.eq];exact h)).mono λv H' h=>by obtain⟨x,hv,hk⟩:=fS h;exact⟨x,hv,hk⟩
def jK.gD:gR:={ord:=λ_=>.ord [],loop:=λ_=>none,join:=λi=>bif Nat.beq i 6 then some [(16,.one .bool)] else bif Nat.beq i 7 then some [] else none,cut:=λi=>[2,4,6].any (Nat.beq i)}
def jK.W(I:Option Addr)(aj:Int)(ak:Int)(al:Int)(ao:ByteArray)(aq:ByteArray)(R:Int->Int->Option Addr->Nat->Nat->Option Addr->Nat->Nat->Heap->Prop)(H0:Heap):Prop:=
 eX (gy H0 #[.int .i64 aj,.int .i64 ak,.int .i64 al,.string ao,.string aq] kj) λH1:Heap=>
 eX (gy H1 #[.int .i64 0,.int .i64 0,.slice none 0 0,.slice none 0 0] fq) λH2:Heap=>
 eW (S:=Unit) (λJ7=>
 gn (Option.isNone (I)) (False) (ff H2 ((⟨Array.size H0,0,none⟩:Addr).add 0) λaI=>
 gn (decide (aI=16)) (False) (
 eW (S:=(Bool×Unit)) (λJ6=>ff H2 ((⟨Array.size H0,0,none⟩:Addr).add 1) λaJ=>
 kr.C (I) (aJ) H2 λaK H5=>
 gn (!aK) (J6 (true,()) H5) (ff H5 ((⟨Array.size H0,0,none⟩:Addr).add 0) λaL=>
 gn (decide (aL=15)) (ff H5 ((⟨Array.size H0,0,none⟩:Addr).add 2) λaM=>
 kr.C (I) (aM) H5 λaN H6=>J6 (!aN,()) H6) (J6 (false,()) H5)))
 (λs6 H4=>(λ(aO:Bool)=>
 gn aO (False) (J7 () H4)) s6.1))))
 (λ_ H3=>sB H3 ⟨Array.size H0,0,none⟩ λar au av aw ax=>
 jJ.C (I) (ar) (au) (av) aw ax H3 λay az ab ad ae af ag ah H7=>nR [.int .i64 ay,.int .i64 az,.slice ab ad ae,.slice af ag ah] ⟨Array.size H1,0,none⟩ 0 H7 λH8=>nu H8 ⟨Array.size H1,0,none⟩ λaR aS aA aB aC aD aE aF=>R (aR) (aS) (aA) aB aC (aD) aE aF H8)
theorem jK.eq(af:Option Addr)(I:Int)(aa:Int)(ab:Int)(ad:ByteArray)(ae:ByteArray)(R:Int->Int->Option Addr->Nat->Nat->Option Addr->Nat->Nat->Heap->Prop)(H0:Heap):
 wF Tryz.prog jK.gD Tryz.f19 [.pointer af,.agg #[.int .i64 I,.int .i64 aa,.int .i64 ab,.string ad,.string ae]] (λv H'=>xS (.agg [.int .i64,.int .i64,.slice,.slice]) v λr=>R r.1 r.2.1 r.2.2.1.1 r.2.2.1.2.1 r.2.2.1.2.2 r.2.2.2.1.1 r.2.2.2.1.2.1 r.2.2.2.1.2.2 H') H0=jK.W af I aa ab ad ae R H0:=by kernel_rfl
theorem jK.calls{af}{I}{aa}{ab}{ad}{ae}{R}{H0}(h:jK.W af I aa ab ad ae R H0):jK.C af I aa ab ad ae H0 R:=
 (dp eF Tryz.func19 (by rw[jK.eq];exact h)).mono λv H' h=>by obtain⟨x,hv,hk⟩:=fS h;exact⟨x.1,x.2.1,x.2.2.1.1,x.2.2.1.2.1,x.2.2.1.2.2,x.2.2.2.1.1,x.2.2.2.1.2.1,x.2.2.2.1.2.2,hv,hk⟩
def dL.gD:gR:={ord:=λi=>bif Nat.beq i 7 then .ord [0,2,3,4,1,5] else .ord [],loop:=λi=>bif Nat.beq i 4 then some [(3,.one .slice),(10,.one (.int .i64))] else bif Nat.beq i 7 then some [] else none,join:=λi=>bif Nat.beq i 9 then some [] else bif Nat.beq i 11 then some [] else bif Nat.beq i 12 then some [(3,.one .slice)] else bif Nat.beq i 13 then some [(3,.one .slice)] else none}
def dL.W(aJ:Option Addr)(R:Option Addr->Nat->Nat->Heap->Prop)(H0:Heap):Prop:=
 fh.C H0 λx7 H1=>
 eW (S:=((Option Addr×Nat×Nat)×Unit)) (λaQ=>
 dQ.C (aJ) H1 λx9 H3=>
 lD (S:=((Option Addr×Nat×Nat)×Int×Unit)) (λL4 q4 H4=>(λ(I:Option Addr)(aa ab:Nat)(aj:Int)=>
 gn (decide (aj<x9)) (
 eW (S:=((Option Addr×Nat×Nat)×Unit)) (λaS=>
 dw.C (aJ) (aj) H4 λau av aw ax ay az ad ae af H6=>
 eX (gy H6 #[.int .i64 0,.int .i64 0,.string (⟨#[]⟩:ByteArray),.string (⟨#[]⟩:ByteArray),.string (⟨#[]⟩:ByteArray),.string (⟨#[]⟩:ByteArray),.slice none 0 0] eH) λH7:Heap=>nR [.int .i64 au,.int .i64 av,.string aw,.string ax,.string ay,.string az,.slice ad ae af] ⟨Array.size H6,0,none⟩ 0 H7 λH8=>
 eW (S:=Unit) (λJ9=>
 lD (S:=Unit) (λL7 _ aK=>ff aK ((⟨Array.size H6,0,none⟩:Addr).add 1) λaL=>
 mJ.C (x7) aK λaT ak=>(ff ak ((⟨Array.size H6,0,none⟩:Addr).add 1) λaO=>(.int .i64 aO:Value)=.int .i64 aL)/\
 gn (decide ((max aL 1)<=aT)) (lV.C (x7) ak λbk aU=>L7 () aU) (J9 () ak)) () H8)
 (λ_ H9=>
 eW (S:=Unit) (λaM=>ff H9 ((⟨Array.size H6,0,none⟩:Addr).add 0) λaV=>
 gn (decide (aV=2)) (jP.C (x7) (some ⟨Array.size H6,0,none⟩) H9 λbm aW=>aM () aW) (aM () H9))
 (λ_ al=>kK al ⟨Array.size H6,0,none⟩ λaA aB aC aD aE aF ag ah ai=>
 eX (gy al #[.int .i64 aA,.int .i64 aB,.string aC,.string aD,.string aE,.string aF,.slice ag ah ai] eH) λaX:Heap=>jN eH 7 104 (.agg #[.int .i64 0,.int .i64 0,.string (⟨#[]⟩:ByteArray),.string (⟨#[]⟩:ByteArray),.string (⟨#[]⟩:ByteArray),.string (⟨#[]⟩:ByteArray),.slice none 0 0]) I aa ab (.slice (some ⟨Array.size al,0,none⟩) 1 1) aX λaG aH aI aY=>aS ((aG,aH,aI),()) aY)))
 (λao H5=>(λ(I:Option Addr)(aa ab:Nat)=>L4 ((I,aa,ab),(IntKind.i64.wrap (aj+1):Int),()) H5) ao.1.1 ao.1.2.1 ao.1.2.2)) (aQ ((I,aa,ab),()) H4)) q4.1.1 q4.1.2.1 q4.1.2.2 q4.2.1) ((none,0,0),(0:Int),()) H3)
 (λaq H2=>(λ(I:Option Addr)(aa ab:Nat)=>R (I) aa ab H2) aq.1.1 aq.1.2.1 aq.1.2.2)
theorem dL.eq(I:Option Addr)(R:Option Addr->Nat->Nat->Heap->Prop)(H0:Heap):
 wF Tryz.prog dL.gD Tryz.f29 [.pointer I] (λv H'=>xS (.one .slice) v λr=>R r.1 r.2.1 r.2.2 H') H0=dL.W I R H0:=by kernel_rfl
theorem dL.calls{I}{R}{H0}(h:dL.W I R H0):dL.C I H0 R:=
 (dp eF Tryz.func29 (by rw[dL.eq];exact h)).mono λv H' h=>by obtain⟨x,hv,hk⟩:=fS h;exact⟨x.1,x.2.1,x.2.2,hv,hk⟩
def j6.gD:gR:={ord:=λ_=>.ord [],loop:=λ_=>none,join:=λ_=>none}
def j6.W(aa:Int)(ab:Int)(ad:Int)(ae:Int)(R:Bool->Heap->Prop)(I:Heap):Prop:=
 eX (gy I #[.int .i64 aa,.int .i64 ab,.int .i64 ad,.int .i64 ae] ie) λH1:Heap=>ff H1 ((⟨Array.size I,0,none⟩:Addr).add 0) λx6=>
 fa.C (x6) (0) (1048576) H1 λx7 H2=>
 gn x7 (ff H2 ((⟨Array.size I,0,none⟩:Addr).add 1) λai=>
 fa.C (ai) (1) (200) H2 λaj H3=>
 gn aj (ff H3 ((⟨Array.size I,0,none⟩:Addr).add 2) λak=>
 fa.C (ak) (0) (1048576) H3 λal H4=>
 gn al (ff H4 ((⟨Array.size I,0,none⟩:Addr).add 3) λao=>
 fa.C (ao) (0) (100) H4 λaq H5=>R (aq) H5) (R false H4)) (R false H3)) (R false H2)
theorem j6.eq(I:Int)(aa:Int)(ab:Int)(ad:Int)(R:Bool->Heap->Prop)(H0:Heap):
 wF Tryz.prog j6.gD Tryz.f30 [.agg #[.int .i64 I,.int .i64 aa,.int .i64 ab,.int .i64 ad]] (λv H'=>xS (.one .bool) v λr=>R r H') H0=j6.W I aa ab ad R H0:=by kernel_rfl
theorem j6.calls{I}{aa}{ab}{ad}{R}{H0}(h:j6.W I aa ab ad R H0):j6.C I aa ab ad H0 R:=
 (dp eF Tryz.func30 (by rw[j6.eq];exact h)).mono λv H' h=>by obtain⟨x,hv,hk⟩:=fS h;exact⟨x,hv,hk⟩
def iZ.gD:gR:={ord:=λ_=>.ord [],loop:=λ_=>none,join:=λ_=>none,cut:=λi=>[3].any (Nat.beq i)}
def iZ.W(ab:Option Addr)(ad ae:Nat)(R:ByteArray->Int->Heap->Prop)(H0:Heap):Prop:=
 eX (gy H0 #[.int .u8 239,.int .u8 187,.int .u8 191] iD) λH1:Heap=>
 bytes_TrimPrefix.C (ab) ad ae (some ⟨Array.size H0,0,none⟩) 3 3 H1 λI aa ag H2=>
 gh.C (I) aa ag H2 λx8 H3=>
 gn (!x8) (False) (∃af:ByteArray,tU H3 I aa af/\jz.C af H3 λaj H4=>R aj (0) H4)
theorem iZ.eq(I:Option Addr)(aa ab:Nat)(R:ByteArray->Int->Heap->Prop)(H0:Heap):
 wF Tryz.prog iZ.gD Tryz.f31 [.slice I aa ab] (λv H'=>xT [.one .str,.one (.int .i64)] v λr=>R r.1 r.2.1 H') H0=iZ.W I aa ab R H0:=by kernel_rfl
theorem iZ.calls{I}{aa ab}{R}{H0}(h:iZ.W I aa ab R H0):iZ.C I aa ab H0 R:=
 (dp eF Tryz.func31 (by rw[iZ.eq];exact h)).mono λv H' h=>by obtain⟨x,hv,hk⟩:=dB h;exact⟨x.1,x.2.1,hv,hk⟩
def jG.gD:gR:={ord:=λ_=>.ord [],loop:=λi=>bif Nat.beq i 3 then some [(14,.one (.int .i64))] else none,join:=λi=>bif Nat.beq i 8 then some [] else bif Nat.beq i 9 then some [] else none,cut:=λi=>[4,8].any (Nat.beq i)}
def jG.W(ag:ByteArray)(I:Option Addr)(aa ab:Nat)(ad:Option Addr)(ae af:Nat)(R:Option Addr->Heap->Prop)(H0:Heap):Prop:=
 eX (gy H0 #[.string ag,.slice I aa ab,.slice ad ae af] iI) λH1:Heap=>
 eX (H1.push (.map #[] 0)) λH2:Heap=>
 eX (gy H2 #[.map (some (Array.size H1)),.slice none 0 0,.int .i64 0] IB) λH3:Heap=>
 eW (S:=Unit) (λJ9=>eO H3 ((⟨Array.size H0,0,none⟩:Addr).add 1) λao ah aq=>
 lD (S:=(Int×Unit)) (λL3 q3 H5=>(λ(al:Int)=>
 gn (decide (al<(ah:Int))) (
 eW (S:=Unit) (λJ8=>False)
 (λ_ H6=>False)) (J9 () H5)) q3.1) ((0:Int),()) H3)
 (λ_ H4=>R (some ⟨Array.size H2,0,none⟩) H4)
theorem jG.eq(ag:ByteArray)(I:Option Addr)(aa ab:Nat)(ad:Option Addr)(ae af:Nat)(R:Option Addr->Heap->Prop)(H0:Heap):
 wF Tryz.prog jG.gD Tryz.f32 [.agg #[.string ag,.slice I aa ab,.slice ad ae af]] (λv H'=>xS (.one .ptr) v λr=>R r H') H0=jG.W ag I aa ab ad ae af R H0:=by kernel_rfl
theorem jG.calls{ag}{I}{aa ab}{ad}{ae af}{R}{H0}(h:jG.W ag I aa ab ad ae af R H0):jG.C ag I aa ab ad ae af H0 R:=
 (dp eF Tryz.func32 (by rw[jG.eq];exact h)).mono λv H' h=>by obtain⟨x,hv,hk⟩:=fS h;exact⟨x,hv,hk⟩
def fh.gD:gR:={ord:=λ_=>.ord [],loop:=λ_=>none,join:=λ_=>none}
def fh.W(R:Option Addr->Heap->Prop)(I:Heap):Prop:=
 eX (gy I #[.slice none 0 0] uL) λH1:Heap=>R (some ⟨Array.size I,0,none⟩) H1
theorem fh.eq(R:Option Addr->Heap->Prop)(I:Heap):
 wF Tryz.prog fh.gD Tryz.f33 [] (λv H'=>xS (.one .ptr) v λr=>R r H') I=fh.W R I:=by kernel_rfl
theorem fh.calls{R}{I}(h:fh.W R I):fh.C I R:=
 (dp eF Tryz.func33 (by rw[fh.eq];exact h)).mono λv H' h=>by obtain⟨x,hv,hk⟩:=fS h;exact⟨x,hv,hk⟩
def nf.gD:gR:={ord:=λ_=>.ord [],loop:=λi=>bif Nat.beq i 4 then some [(5,.one (.int .i64)),(6,.one (.int .i64)),(7,.one .bool)] else none,join:=λi=>bif Nat.beq i 5 then some [(5,.one (.int .i64)),(6,.one (.int .i64)),(7,.one .bool)] else bif Nat.beq i 6 then some [] else bif Nat.beq i 12 then some [(57,.one .bool)] else bif Nat.beq i 13 then some [(6,.one (.int .i64))] else bif Nat.beq i 14 then some [(77,.one .bool)] else bif Nat.beq i 15 then some [(6,.one (.int .i64))] else none,cut:=λi=>[7,11,12,14].any (Nat.beq i)}
def nf.W(av:Option Addr)(ab:ByteArray)(R:Int->Heap->Prop)(H0:Heap):Prop:=
 iF.C ab H0 λal ao H1=>
 eW (S:=(Int×Unit)) (λaw=>
 mj.C ab (al) H1 λaD H3=>
 lD (S:=(Int×Int×Bool×Unit)) (λL4 q4 H4=>(λ(ad:Int)(I:Int)(aa:Bool)=>
 eW (S:=Unit) (λJ6=>
 gn (decide (I=0)) (gn (decide (ad<(ab.size:Int))) (J6 () H4) (aw ((I:Int),()) H4)) (aw ((I:Int),()) H4))
 (λ_ H5=>
 eW (S:=(Int×Int×Bool×Unit)) (λJ5=>
 eU.C ab (ad) H5 λak ae af ag ah ai aj aS aq H7=>
 eX (gy H7 #[.string (⟨#[]⟩:ByteArray),.slice none 0 0,.slice none 0 0] iI) λH8:Heap=>nR [.string ak,.slice ae af ag,.slice ah ai aj] ⟨Array.size H7,0,none⟩ 0 H8 λH9=>
 gn (decide (aq=6)) (nr.C (av) ab (ad) H9 λar au aF=>J5 ((ar:Int),(au:Int),aa,()) aF) (
 eW (S:=(Bool×Unit)) (λa7=>False)
 (λaG a8=>(λ(aH:Bool)=>
 gn aH (False) (False)) aG.1)))
 (λs5 H6=>(λ(ad:Int)(I:Int)(aa:Bool)=>
 mj.C ab (ad) H6 λaI aJ=>L4 ((aI:Int),(I:Int),aa,()) aJ) s5.1 s5.2.1 s5.2.2.1))) q4.1 q4.2.1 q4.2.2.1) ((aD:Int),(ao:Int),false,()) H3)
 (λaK H2=>(λ(I:Int)=>
 eW (S:=(Int×Unit)) (λaL=>
 eW (S:=(Bool×Unit)) (λax=>
 gn (decide (I=0)) (∃ay:Addr,av=some ay/\S3 H2 (ay.add 12) λaM=>ax (!aM,()) H2) (ax (false,()) H2))
 (λaN aO=>(λ(aP:Bool)=>
 gn aP (False) (aL ((I:Int),()) aO)) aN.1))
 (λaQ aR=>(λ(I:Int)=>R (I) aR) aQ.1)) aK.1)
theorem nf.eq(I:Option Addr)(aa:ByteArray)(R:Int->Heap->Prop)(H0:Heap):
 wF Tryz.prog nf.gD Tryz.f34 [.pointer I,.string aa] (λv H'=>xS (.one (.int .i64)) v λr=>R r H') H0=nf.W I aa R H0:=by kernel_rfl
theorem nf.calls{I}{aa}{R}{H0}(h:nf.W I aa R H0):nf.C I aa H0 R:=
 (dp eF Tryz.func34 (by rw[nf.eq];exact h)).mono λv H' h=>by obtain⟨x,hv,hk⟩:=fS h;exact⟨x,hv,hk⟩
def jB.gD:gR:={ord:=λi=>bif Nat.beq i 11 then .ord [0,1,2,3,4,5,6,7,8,9,10,11,12,13] else .ord [],loop:=λi=>bif Nat.beq i 7 then some [(3,.one (.int .i64)),(5,.one .slice),(19,.one (.int .i64))] else bif Nat.beq i 11 then some [(5,.one .slice)] else none,join:=λi=>bif Nat.beq i 2 then some [(15,.one .bool)] else bif Nat.beq i 3 then some [] else bif Nat.beq i 12 then some [] else bif Nat.beq i 14 then some [(5,.one .slice)] else bif Nat.beq i 22 then some [(3,.one (.int .i64)),(5,.one .slice)] else bif Nat.beq i 23 then some [(3,.one (.int .i64))] else none,cut:=λi=>[2,10,16,18].any (Nat.beq i)}
def jB.W(aj:Option Addr)(ae aI:Nat)(R:Bool->Heap->Prop)(H0:Heap):Prop:=
 eW (S:=Unit) (λJ3=>
 eW (S:=(Bool×Unit)) (λJ2=>
 gn (decide ((ae:Int)<1)) (J2 (true,()) H0) (J2 (decide ((1048576:Int)<(ae:Int)),()) H0))
 (λs2 H2=>(λ(bh:Bool)=>
 gn bh (False) (J3 () H2)) s2.1))
 (λ_ H1=>
 fh.C H1 λa7 H3=>
 eW (S:=(Int×Unit)) (λbj=>
 lD (S:=(Int×(Option Addr×Nat×Nat)×Int×Unit)) (λL7 q7 H5=>(λ(ad:Int)(aa:Option Addr)(I ab:Nat)(ag:Int)=>
 gn (decide (ag<(ae:Int))) (
 eW (S:=(Int×(Option Addr×Nat×Nat)×Unit)) (λaD=>
 ∃a8:Addr,aj=some a8/\0<=ag/\ag<(ae:Int)/\kK H5 (a8.add (ag.toNat*7)) λaJ aK aL aM aN aO ar au av=>
 eX (gy H5 #[.int .i64 0,.int .i64 0,.string (⟨#[]⟩:ByteArray),.string (⟨#[]⟩:ByteArray),.string (⟨#[]⟩:ByteArray),.string (⟨#[]⟩:ByteArray),.slice none 0 0] eH) λH7:Heap=>nR [.int .i64 aJ,.int .i64 aK,.string aL,.string aM,.string aN,.string aO,.slice ar au av] ⟨Array.size H5,0,none⟩ 0 H7 λH8=>
 fO.C (aj) ae aI (ag) H8 λbk H9=>
 gn (!bk) (False) (
 eW (S:=((Option Addr×Nat×Nat)×Unit)) (λba=>
 lD (S:=((Option Addr×Nat×Nat)×Unit)) (λbm aE ah=>(λ(aa:Option Addr)(I ab:Nat)=>
 eW (S:=Unit) (λbn=>
 gn (decide ((0:Int)<(I:Int))) (∃bb:Addr,aa=some bb/\0<=IntKind.i64.wrap ((I:Int)-1)/\IntKind.i64.wrap ((I:Int)-1)<(I:Int)/\ff ah (bb.add ((IntKind.i64.wrap ((I:Int)-1)).toNat)) λbo=>ff ah ((⟨Array.size H5,0,none⟩:Addr).add 1) λbq=>
 gn (decide (bq<=bo)) (bn () ah) (ba ((aa,I,ab),()) ah)) (ba ((aa,I,ab),()) ah))
 (λ_ br=>0<=IntKind.i64.wrap ((I:Int)-1)/\IntKind.i64.wrap ((I:Int)-1)<=(ab:Int)/\lV.C (a7) br λbO bw=>bm (((if ab=0 then aa else Option.map (λq:Addr=>q.add 0) aa),(((IntKind.i64.wrap ((I:Int)-1)).toNat)-0:Nat),(ab-0:Nat)),()) bw)) aE.1.1 aE.1.2.1 aE.1.2.2) ((aa,I,ab),()) H9)
 (λaF ai=>(λ(aa:Option Addr)(I ab:Nat)=>ff ai ((⟨Array.size H5,0,none⟩:Addr).add 0) λbx=>
 gn (decide (bx≠2)) (kK ai ⟨Array.size H5,0,none⟩ λaP aQ aR aS aT aU aw ax ay=>
 gY.C (aP) (aQ) aR aS aT aU (aw) ax ay ai λbz bA=>
 gn (!bz) (False) (aD ((ad:Int),(aa,I,ab),()) bA)) (kK ai ⟨Array.size H5,0,none⟩ λaV aW aX aY aZ a6 az aA aB=>
 eQ.C (aV) (aW) aX aY aZ a6 (az) aA aB (a7) ai λbB aG=>
 gn (!bB) (False) (ff aG ((⟨Array.size H5,0,none⟩:Addr).add 1) λbC=>
 eX (gy aG #[.int .i64 bC] gv) λbD:Heap=>jN gv 1 8 (.int .i64 0) aa I ab (.slice (some ⟨Array.size aG,0,none⟩) 1 1) bD λak al ao aH=>ff aH ((⟨Array.size H5,0,none⟩:Addr).add 1) λbE=>
 gn (decide (bE=1)) (eX (IntKind.i64.wrap (ad+1)) λad:Int=>aD ((ad:Int),(ak,al,ao),()) aH) (aD ((ad:Int),(ak,al,ao),()) aH)))) aF.1.1 aF.1.2.1 aF.1.2.2)))
 (λaq H6=>(λ(ad:Int)(aa:Option Addr)(I ab:Nat)=>L7 ((ad:Int),(aa,I,ab),(IntKind.i64.wrap (ag+1):Int),()) H6) aq.1 aq.2.1.1 aq.2.1.2.1 aq.2.1.2.2)) (bj ((ad:Int),()) H5)) q7.1 q7.2.1.1 q7.2.1.2.1 q7.2.1.2.2 q7.2.2.1) ((0:Int),(none,0,0),(0:Int),()) H3)
 (λbF H4=>(λ(ad:Int)=>R (decide (ad=1)) H4) bF.1))
theorem jB.eq(I:Option Addr)(aa ab:Nat)(R:Bool->Heap->Prop)(H0:Heap):
 wF Tryz.prog jB.gD Tryz.f35 [.slice I aa ab] (λv H'=>xS (.one .bool) v λr=>R r H') H0=jB.W I aa ab R H0:=by kernel_rfl
theorem jB.calls{I}{aa ab}{R}{H0}(h:jB.W I aa ab R H0):jB.C I aa ab H0 R:=
 (dp eF Tryz.func35 (by rw[jB.eq];exact h)).mono λv H' h=>by obtain⟨x,hv,hk⟩:=fS h;exact⟨x,hv,hk⟩
def dT.gD:gR:={ord:=λ_=>.ord [],loop:=λi=>bif Nat.beq i 3 then some [(10,.one (.int .i64))] else none,join:=λi=>bif Nat.beq i 10 then some [] else bif Nat.beq i 11 then some [] else none,cut:=λi=>[4,10].any (Nat.beq i)}
def dT.W(af:Option Addr)(I ag:Nat)(R:ByteArray->Heap->Prop)(H0:Heap):Prop:=
 eX (gy H0 #[.pointer none,.slice none 0 0] lz) λH1:Heap=>
 eW (S:=Unit) (λab=>
 lD (S:=(Int×Unit)) (λL3 q3 H3=>(λ(ad:Int)=>
 gn (decide (ad<(I:Int))) (
 eW (S:=Unit) (λal=>False)
 (λ_ H4=>False)) (ab () H3)) q3.1) ((0:Int),()) H1)
 (λ_ H2=>
 gA.C (some ⟨Array.size H0,0,none⟩) H2 λae H5=>R ae H5)
theorem dT.eq(I:Option Addr)(aa ab:Nat)(R:ByteArray->Heap->Prop)(H0:Heap):
 wF Tryz.prog dT.gD Tryz.f36 [.slice I aa ab] (λv H'=>xS (.one .str) v λr=>R r H') H0=dT.W I aa ab R H0:=by kernel_rfl
theorem dT.calls{I}{aa ab}{R}{H0}(h:dT.W I aa ab R H0):dT.C I aa ab H0 R:=
 (dp eF Tryz.func36 (by rw[dT.eq];exact h)).mono λv H' h=>by obtain⟨x,hv,hk⟩:=fS h;exact⟨x,hv,hk⟩
def jd.gD:gR:={ord:=λi=>bif Nat.beq i 28 then .ord [0,1,2,3,4,5,6,7,8,9,10,11,12,13,14,15] else .ord [],loop:=λi=>bif Nat.beq i 7 then some [] else bif Nat.beq i 11 then some [(57,.one (.int .i64))] else bif Nat.beq i 17 then some [(9,.one (.int .i64)),(73,.one (.int .i64))] else bif Nat.beq i 26 then some [(13,.one (.int .i64))] else none,join:=λi=>bif Nat.beq i 5 then some [(28,.one .bool)] else bif Nat.beq i 6 then some [] else bif Nat.beq i 9 then some [] else bif Nat.beq i 15 then some [] else bif Nat.beq i 22 then some [(9,.one (.int .i64))] else bif Nat.beq i 24 then some [(9,.one (.int .i64))] else bif Nat.beq i 25 then some [] else bif Nat.beq i 29 then some [] else none}
def jd.W(ak:Option Addr)(ab au:Nat)(R:Option Addr->Int->Heap->Prop)(H0:Heap):Prop:=
 je.C (ak) ab au H0 λa7 H1=>
 gn (!a7) (R (none) (1) H1) (jq.C (ak) ab au H1 λaH aI H2=>
 eW (S:=Unit) (λJ6=>
 eW (S:=(Bool×Unit)) (λJ5=>
 gn (decide (aI≠0)) (J5 (true,()) H2) (J5 (decide ((4194304:Int)<(ab:Int)),()) H2))
 (λs5 H4=>(λ(bf:Bool)=>
 gn bf (R (none) (7) H4) (J6 () H4)) s5.1))
 (λ_ H3=>
 eX (gy H3 #[.pointer aH,.nilIface,.int .i64 1,.int .i64 0] kO) λH5:Heap=>
 eW (S:=Unit) (λJ9=>
 lD (S:=Unit) (λL7 _ H7=>
 ∃aJ:Addr,some ⟨Array.size H3,0,none⟩=some aJ/\
 ∃aK:Int,dj H7 (aJ.add 2)=some (.int .i64 aK)/\
 gn (decide ((IntKind.i64.wrap (aK*64))<(ab:Int))) (∃aL:Addr,some ⟨Array.size H3,0,none⟩=some aL/\
 ∃aM:Int,dj H7 (aL.add 2)=some (.int .i64 aM)/\
 ∃av:Addr,some ⟨Array.size H3,0,none⟩=some av/\(∃u,dj H7 (av.add 2)=some u)/\gO H7 (av.add 2)=false/\
 eX (nQ H7 (av.add 2) (.int .i64 (IntKind.i64.wrap (aM*2)))) λH8:Heap=>L7 () H8) (J9 () H7)) () H5)
 (λ_ H6=>
 ∃aN:Addr,some ⟨Array.size H3,0,none⟩=some aN/\
 ∃aa:Int,dj H6 (aN.add 2)=some (.int .i64 aa)/\0<=IntKind.i64.wrap (2*aa)/\IntKind.i64.wrap (2*aa)<=IntKind.i64.wrap (2*aa)/\((8:Nat):Int)*(IntKind.i64.wrap (2*aa))<=281474976710656/\
 eX (gy H6 (iq (.int .i64 0) ((IntKind.i64.wrap (2*aa)).toNat)) gv) λH9:Heap=>
 eW (S:=Unit) (λbh=>
 ∃aO:Addr,some ⟨Array.size H3,0,none⟩=some aO/\
 ∃aP:Int,dj H9 (aO.add 2)=some (.int .i64 aP)/\
 lD (S:=(Int×Unit)) (λbj bk aq=>(λ(af:Int)=>
 gn (decide (af<aP)) (∃aQ:Addr,some ⟨Array.size H3,0,none⟩=some aQ/\
 ∃ah:Int,dj aq (aQ.add 2)=some (.int .i64 ah)/\
 ∃aw:Addr,some ⟨Array.size H6,0,none⟩=some aw/\0<=IntKind.i64.wrap (ah+af)/\IntKind.i64.wrap (ah+af)<((IntKind.i64.wrap (2*aa)).toNat:Int)/\(∃u,dj aq (aw.add ((IntKind.i64.wrap (ah+af)).toNat))=some u)/\gO aq (aw.add ((IntKind.i64.wrap (ah+af)).toNat))=false/\
 eX (nQ aq (aw.add ((IntKind.i64.wrap (ah+af)).toNat)) (.int .i64 (ab:Int))) λbm:Heap=>bj ((IntKind.i64.wrap (af+1):Int),()) bm) (bh () aq)) bk.1) ((0:Int),()) H9)
 (λ_ bn=>
 eW (S:=Unit) (λbo=>
 lD (S:=(Int×Int×Unit)) (λbq aR ax=>(λ(n9:Int)(ai:Int)=>
 gn (decide (ai<(ab:Int))) (
 eW (S:=(Int×Unit)) (λbr=>
 ∃aS:Addr,ak=some aS/\0<=ai/\ai<(ab:Int)/\
 ∃aT:Bool,dj ax (aS.add ai.toNat)=some (.bool aT)/\
 eW (S:=(Int×Unit)) (λaU=>
 eX (IntKind.i64.wrap (n9-1)) λn9:Int=>
 gn aT (eX (IntKind.i64.wrap (n9+2)) λn9:Int=>aU ((n9:Int),()) ax) (aU ((n9:Int),()) ax))
 (λbw ar=>(λ(n9:Int)=>
 ∃aV:Addr,some ⟨Array.size H3,0,none⟩=some aV/\
 ∃aW:Int,dj ar (aV.add 2)=some (.int .i64 aW)/\(64:Int)≠0/\
 eX (IntKind.i64.wrap (aW+(IntKind.i64.wrap (Int.tdiv ai 64)))) λad:Int=>
 ∃aX:Addr,some ⟨Array.size H6,0,none⟩=some aX/\0<=ad/\ad<((IntKind.i64.wrap (2*aa)).toNat:Int)/\
 ∃aY:Int,dj ar (aX.add ad.toNat)=some (.int .i64 aY)/\
 ∃ay:Addr,some ⟨Array.size H6,0,none⟩=some ay/\0<=ad/\ad<((IntKind.i64.wrap (2*aa)).toNat:Int)/\(∃u,dj ar (ay.add ad.toNat)=some u)/\gO ar (ay.add ad.toNat)=false/\
 eX (nQ ar (ay.add ad.toNat) (.int .i64 (min aY n9))) λbx:Heap=>br ((n9:Int),()) bx) bw.1))
 (λbz bA=>(λ(n9:Int)=>bq ((n9:Int),(IntKind.i64.wrap (ai+1):Int),()) bA) bz.1)) (bo () ax)) aR.1 aR.2.1) ((0:Int),(0:Int),()) bn)
 (λ_ aZ=>
 eW (S:=Unit) (λbB=>
 ∃aA:Addr,some ⟨Array.size H3,0,none⟩=some aA/\
 ∃aB:Int,dj aZ (aA.add 2)=some (.int .i64 aB)/\
 eX (IntKind.i64.wrap (aB-1)) λI:Int=>
 lD (S:=(Int×Unit)) (λbC bD aj=>(λ(I:Int)=>
 gn (decide ((0:Int)<I)) (∃aC:Addr,some ⟨Array.size H6,0,none⟩=some aC/\0<=IntKind.i64.wrap (2*I)/\IntKind.i64.wrap (2*I)<((IntKind.i64.wrap (2*aa)).toNat:Int)/\
 ∃aD:Int,dj aj (aC.add ((IntKind.i64.wrap (2*I)).toNat))=some (.int .i64 aD)/\
 ∃aE:Addr,some ⟨Array.size H6,0,none⟩=some aE/\0<=IntKind.i64.wrap ((IntKind.i64.wrap (2*I))+1)/\IntKind.i64.wrap ((IntKind.i64.wrap (2*I))+1)<((IntKind.i64.wrap (2*aa)).toNat:Int)/\
 ∃aF:Int,dj aj (aE.add ((IntKind.i64.wrap ((IntKind.i64.wrap (2*I))+1)).toNat))=some (.int .i64 aF)/\
 ∃al:Addr,some ⟨Array.size H6,0,none⟩=some al/\0<=I/\I<((IntKind.i64.wrap (2*aa)).toNat:Int)/\(∃u,dj aj (al.add I.toNat)=some u)/\gO aj (al.add I.toNat)=false/\
 eX (nQ aj (al.add I.toNat) (.int .i64 (min aD aF))) λbE:Heap=>
 eX (IntKind.i64.wrap (I-1)) λa6:Int=>bC ((a6:Int),()) bE) (bB () aj)) bD.1) ((I:Int),()) aZ)
 (λ_ aG=>
 ∃ao:Addr,some ⟨Array.size H3,0,none⟩=some ao/\(∃u,dj aG (ao.add 1)=some u)/\gO aG (ao.add 1)=false/\
 eX (nQ aG (ao.add 1) (.iface su (.slice (some ⟨Array.size H6,0,none⟩) ((IntKind.i64.wrap (2*aa)).toNat) ((IntKind.i64.wrap (2*aa)).toNat)))) λbF:Heap=>R (some ⟨Array.size H3,0,none⟩) (0) bF))))))
theorem jd.eq(I:Option Addr)(aa ab:Nat)(R:Option Addr->Int->Heap->Prop)(H0:Heap):
 wF Tryz.prog jd.gD Tryz.f37 [.slice I aa ab] (λv H'=>xT [.one .ptr,.one (.int .i64)] v λr=>R r.1 r.2.1 H') H0=jd.W I aa ab R H0:=by kernel_rfl
theorem jd.calls{I}{aa ab}{R}{H0}(h:jd.W I aa ab R H0):jd.C I aa ab H0 R:=
 (dp eF Tryz.func37 (by rw[jd.eq];exact h)).mono λv H' h=>by obtain⟨x,hv,hk⟩:=dB h;exact⟨x.1,x.2.1,hv,hk⟩
def fX.gD:gR:={ord:=λ_=>.ord [],loop:=λi=>bif Nat.beq i 4 then some [(3,.one .slice),(4,.one (.int .i64)),(9,.one (.int .i64))] else bif Nat.beq i 6 then some [(3,.one .slice),(4,.one (.int .i64))] else bif Nat.beq i 12 then some [(3,.one .slice),(4,.one (.int .i64))] else none,join:=λi=>bif Nat.beq i 9 then some [(3,.one .slice),(4,.one (.int .i64))] else bif Nat.beq i 11 then some [(3,.one .slice),(4,.one (.int .i64))] else bif Nat.beq i 12 then some [(3,.one .slice),(4,.one (.int .i64))] else bif Nat.beq i 15 then some [(3,.one .slice)] else none}
def fX.W(aw:Option Addr)(af a6:Nat)(R:Option Addr->Nat->Nat->Heap->Prop)(H0:Heap):Prop:=
 eW (S:=((Option Addr×Nat×Nat)×Int×Unit)) (λaQ=>
 lD (S:=((Option Addr×Nat×Nat)×Int×Int×Unit)) (λL4 q4 H2=>(λ(aa:Option Addr)(ab ad:Nat)(I:Int)(x9:Int)=>
 gn (decide (x9<(af:Int))) (
 eW (S:=((Option Addr×Nat×Nat)×Int×Unit)) (λaR=>
 ∃aP:Addr,aw=some aP/\0<=x9/\x9<(af:Int)/\kK H2 (aP.add (x9.toNat*7)) λax ay az aA aB aC aj ak al=>
 eX (gy H2 #[.int .i64 0,.int .i64 0,.string (⟨#[]⟩:ByteArray),.string (⟨#[]⟩:ByteArray),.string (⟨#[]⟩:ByteArray),.string (⟨#[]⟩:ByteArray),.slice none 0 0] eH) λH4:Heap=>nR [.int .i64 ax,.int .i64 ay,.string az,.string aA,.string aB,.string aC,.slice aj ak al] ⟨Array.size H2,0,none⟩ 0 H4 λH5=>
 eW (S:=((Option Addr×Nat×Nat)×Int×Unit)) (λJ9=>
 lD (S:=((Option Addr×Nat×Nat)×Int×Unit)) (λL6 q6 H7=>(λ(aa:Option Addr)(ab ad:Nat)(I:Int)=>ff H7 ((⟨Array.size H2,0,none⟩:Addr).add 1) λaS=>
 gn (decide (aS<I)) (eX (gy H7 #[.bool false] eC) λH8:Heap=>jN eC 1 1 (.bool false) aa ab ad (.slice (some ⟨Array.size H7,0,none⟩) 1 1) H8 λaF aG aH H9=>
 eX (IntKind.i64.wrap (I-1)) λae:Int=>L6 ((aF,aG,aH),(ae:Int),()) H9) (J9 ((aa,ab,ad),(I:Int),()) H7)) q6.1.1 q6.1.2.1 q6.1.2.2 q6.2.1) ((aa,ab,ad),(I:Int),()) H5)
 (λs9 H6=>(λ(aa:Option Addr)(ab ad:Nat)(I:Int)=>
 eX (gy H6 #[.bool true] eC) λaT:Heap=>jN eC 1 1 (.bool false) aa ab ad (.slice (some ⟨Array.size H6,0,none⟩) 1 1) aT λaJ aK aL aU=>
 eX (IntKind.i64.wrap (I+1)) λI:Int=>aR ((aJ,aK,aL),(I:Int),()) aU) s9.1.1 s9.1.2.1 s9.1.2.2 s9.2.1))
 (λag H3=>(λ(aa:Option Addr)(ab ad:Nat)(I:Int)=>L4 ((aa,ab,ad),(I:Int),(IntKind.i64.wrap (x9+1):Int),()) H3) ag.1.1 ag.1.2.1 ag.1.2.2 ag.2.1)) (aQ ((aa,ab,ad),(I:Int),()) H2)) q4.1.1 q4.1.2.1 q4.1.2.2 q4.2.1 q4.2.2.1) ((none,0,0),(0:Int),(0:Int),()) H0)
 (λah H1=>(λ(aa:Option Addr)(ab ad:Nat)(I:Int)=>
 eW (S:=((Option Addr×Nat×Nat)×Unit)) (λaV=>
 lD (S:=((Option Addr×Nat×Nat)×Int×Unit)) (λaW ai au=>(λ(aa:Option Addr)(ab ad:Nat)(I:Int)=>
 gn (decide ((0:Int)<I)) (eX (gy au #[.bool false] eC) λaX:Heap=>jN eC 1 1 (.bool false) aa ab ad (.slice (some ⟨Array.size au,0,none⟩) 1 1) aX λaM aN aO aY=>
 eX (IntKind.i64.wrap (I-1)) λae:Int=>aW ((aM,aN,aO),(ae:Int),()) aY) (aV ((aa,ab,ad),()) au)) ai.1.1 ai.1.2.1 ai.1.2.2 ai.2.1) ((aa,ab,ad),(I:Int),()) H1)
 (λav aZ=>(λ(aa:Option Addr)(ab ad:Nat)=>R (aa) ab ad aZ) av.1.1 av.1.2.1 av.1.2.2)) ah.1.1 ah.1.2.1 ah.1.2.2 ah.2.1)
theorem fX.eq(I:Option Addr)(aa ab:Nat)(R:Option Addr->Nat->Nat->Heap->Prop)(H0:Heap):
 wF Tryz.prog fX.gD Tryz.f38 [.slice I aa ab] (λv H'=>xS (.one .slice) v λr=>R r.1 r.2.1 r.2.2 H') H0=fX.W I aa ab R H0:=by kernel_rfl
theorem fX.calls{I}{aa ab}{R}{H0}(h:fX.W I aa ab R H0):fX.C I aa ab H0 R:=
 (dp eF Tryz.func38 (by rw[fX.eq];exact h)).mono λv H' h=>by obtain⟨x,hv,hk⟩:=fS h;exact⟨x.1,x.2.1,x.2.2,hv,hk⟩
def j4.gD:gR:={ord:=λ_=>.ord [],loop:=λi=>bif Nat.beq i 4 then some [(25,.one (.int .i64))] else bif Nat.beq i 13 then some [(0,.one .slice),(9,.one (.int .i64))] else bif Nat.beq i 18 then some [(11,.one .slice),(12,.one .slice),(59,.one (.int .i64))] else none,join:=λi=>bif Nat.beq i 2 then some [(22,.one .bool)] else bif Nat.beq i 3 then some [] else bif Nat.beq i 7 then some [(35,.one .bool)] else bif Nat.beq i 8 then some [] else bif Nat.beq i 9 then some [] else bif Nat.beq i 14 then some [(0,.one .slice)] else bif Nat.beq i 24 then some [(11,.one .slice),(12,.one .slice)] else bif Nat.beq i 25 then some [(11,.one .slice),(12,.one .slice)] else bif Nat.beq i 28 then some [] else none}
def j4.W(ay:Option Addr)(aj aP:Nat)(ah:Int)(R:Option Addr->Int->Heap->Prop)(H0:Heap):Prop:=
 eW (S:=Unit) (λJ3=>
 eW (S:=(Bool×Unit)) (λJ2=>
 gn (decide (ah<1)) (J2 (true,()) H0) (J2 (decide ((1048576:Int)<ah),()) H0))
 (λs2 H2=>(λ(bm:Bool)=>
 gn bm (R (none) (1) H2) (J3 () H2)) s2.1))
 (λ_ H1=>
 eW (S:=Unit) (λJ9=>
 lD (S:=(Int×Unit)) (λL4 q4 H4=>(λ(ar:Int)=>
 gn (decide (ar<(aj:Int))) (
 eW (S:=Unit) (λJ8=>
 ∃a7:Addr,ay=some a7/\0<=ar/\ar<(aj:Int)/\
 ∃aG:Int,dj H4 (a7.add ar.toNat)=some (.int .i64 aG)/\
 eW (S:=(Bool×Unit)) (λJ7=>
 gn (decide (aG<0)) (J7 (true,()) H4) (J7 (decide (ah<=aG),()) H4))
 (λs7 H6=>(λ(bo:Bool)=>
 gn bo (R (none) (1) H6) (J8 () H6)) s7.1))
 (λ_ H5=>L4 ((IntKind.i64.wrap (ar+1):Int),()) H5)) (J9 () H4)) q4.1) ((0:Int),()) H1)
 (λ_ H3=>
 gn (decide ((1048576:Int)<(aj:Int))) (R (none) (7) H3) (eX (gy H3 #[.slice none 0 0,.int .i64 (aj:Int),.int .i64 ah,.int .i64 0] pA) λH7:Heap=>
 eW (S:=Unit) (λbq=>
 fL.C (IntKind.u64.wrap (IntKind.i64.wrap (ah-1))) H7 λbr H9=>
 eX (IntKind.i64.wrap (br-1)) λk9:Int=>
 lD (S:=((Option Addr×Nat×Nat)×Int×Unit)) (λbw az au=>(λ(ax:Option Addr)(ag aI:Nat)(k9:Int)=>
 gn (decide ((0:Int)<=k9)) (
 eW (S:=((Option Addr×Nat×Nat)×Unit)) (λbx=>0<=(ag:Int)/\(ag:Int)<=(ag:Int)/\((1:Nat):Int)*(ag:Int)<=281474976710656/\
 eX (gy au (iq (.bool false) ((ag:Int).toNat)) eC) λbz:Heap=>
 eW (S:=((Option Addr×Nat×Nat)×(Option Addr×Nat×Nat)×Unit)) (λbA=>
 lD (S:=((Option Addr×Nat×Nat)×(Option Addr×Nat×Nat)×Int×Unit)) (λbB ak av=>(λ(I:Option Addr)(aa ab:Nat)(ad:Option Addr)(ae af:Nat)(ai:Int)=>
 gn (decide (ai<(ag:Int))) (
 eW (S:=((Option Addr×Nat×Nat)×(Option Addr×Nat×Nat)×Unit)) (λa8=>
 ∃ba:Addr,ax=some ba/\0<=ai/\ai<(ag:Int)/\
 ∃aA:Int,dj av (ba.add ai.toNat)=some (.int .i64 aA)/\0<=(IntKind.u64.wrap k9)/\
 ∃aB:Addr,some ⟨Array.size au,0,none⟩=some aB/\0<=ai/\ai<((ag:Int).toNat:Int)/\(∃u,dj av (aB.add ai.toNat)=some u)/\gO av (aB.add ai.toNat)=false/\
 eX (nQ av (aB.add ai.toNat) (.bool (decide ((lN .i64 (kP .i64 aA (IntKind.u64.wrap k9)) 1)=1)))) λaw:Heap=>
 ∃bb:Addr,some ⟨Array.size au,0,none⟩=some bb/\0<=ai/\ai<((ag:Int).toNat:Int)/\
 ∃bf:Bool,dj aw (bb.add ai.toNat)=some (.bool bf)/\
 gn bf (eX (gy aw #[.int .i64 aA] gv) λbC:Heap=>jN gv 1 8 (.int .i64 0) ad ae af (.slice (some ⟨Array.size aw,0,none⟩) 1 1) bC λaR aS aT bD=>a8 ((I,aa,ab),(aR,aS,aT),()) bD) (eX (gy aw #[.int .i64 aA] gv) λbE:Heap=>jN gv 1 8 (.int .i64 0) I aa ab (.slice (some ⟨Array.size aw,0,none⟩) 1 1) bE λaU aV aW bF=>a8 ((aU,aV,aW),(ad,ae,af),()) bF))
 (λal bG=>(λ(I:Option Addr)(aa ab:Nat)(ad:Option Addr)(ae af:Nat)=>bB ((I,aa,ab),(ad,ae,af),(IntKind.i64.wrap (ai+1):Int),()) bG) al.1.1 al.1.2.1 al.1.2.2 al.2.1.1 al.2.1.2.1 al.2.1.2.2)) (bA ((I,aa,ab),(ad,ae,af),()) av)) ak.1.1 ak.1.2.1 ak.1.2.2 ak.2.1.1 ak.2.1.2.1 ak.2.1.2.2 ak.2.2.1) ((none,0,0),(none,0,0),(0:Int),()) bz)
 (λao bH=>(λ(I:Option Addr)(aa ab:Nat)(ad:Option Addr)(ae af:Nat)=>
 jq.C (some ⟨Array.size au,0,none⟩) ((ag:Int).toNat) ((ag:Int).toNat) bH λaX bN aJ=>
 ∃bg:Addr,some ⟨Array.size H3,0,none⟩=some bg/\
 ∃(aC:Option Addr)(aD aE:Nat),dj aJ (bg.add 0)=some (.slice aC aD aE)/\
 eX (gy aJ #[.iface j5 (.pointer aX)] gV) λbI:Heap=>jN gV 1 16 (.nilIface) aC aD aE (.slice (some ⟨Array.size aJ,0,none⟩) 1 1) bI λaY aZ a6 aK=>
 ∃aq:Addr,some ⟨Array.size H3,0,none⟩=some aq/\(∃u,dj aK (aq.add 0)=some u)/\gO aK (aq.add 0)=false/\
 eX (nQ aK (aq.add 0) (.slice aY aZ a6)) λbJ:Heap=>jN gv 1 8 (.int .i64 0) I aa ab (.slice ad ae af) bJ λaL aM aN bK=>bx ((aL,aM,aN),()) bK) ao.1.1 ao.1.2.1 ao.1.2.2 ao.2.1.1 ao.2.1.2.1 ao.2.1.2.2))
 (λaO bL=>(λ(ax:Option Addr)(ag aI:Nat)=>
 eX (IntKind.i64.wrap (k9-1)) λbM:Int=>bw ((ax,ag,aI),(bM:Int),()) bL) aO.1.1 aO.1.2.1 aO.1.2.2)) (bq () au)) az.1.1 az.1.2.1 az.1.2.2 az.2.1) ((ay,aj,aP),(k9:Int),()) H9)
 (λ_ H8=>R (some ⟨Array.size H3,0,none⟩) (0) H8))))
theorem j4.eq(aa:Option Addr)(ab ad:Nat)(I:Int)(R:Option Addr->Int->Heap->Prop)(H0:Heap):
 wF Tryz.prog j4.gD Tryz.f39 [.slice aa ab ad,.int .i64 I] (λv H'=>xT [.one .ptr,.one (.int .i64)] v λr=>R r.1 r.2.1 H') H0=j4.W aa ab ad I R H0:=by kernel_rfl
theorem j4.calls{aa}{ab ad}{I}{R}{H0}(h:j4.W aa ab ad I R H0):j4.C aa ab ad I H0 R:=
 (dp eF Tryz.func39 (by rw[j4.eq];exact h)).mono λv H' h=>by obtain⟨x,hv,hk⟩:=dB h;exact⟨x.1,x.2.1,hv,hk⟩
def jH.gD:gR:={ord:=λ_=>.ord [],loop:=λi=>bif Nat.beq i 3 then some [(4,.one .slice),(12,.one (.int .i64))] else none,join:=λi=>bif Nat.beq i 9 then some [(4,.one .slice)] else none}
def jH.W(ag:Option Addr)(ad ai:Nat)(R:Option Addr->Int->Heap->Prop)(H0:Heap):Prop:=
 eX (gy H0 #[.int .i64 0] gv) λH1:Heap=>
 eW (S:=((Option Addr×Nat×Nat)×Unit)) (λJ9=>
 lD (S:=((Option Addr×Nat×Nat)×Int×Unit)) (λL3 q3 H3=>(λ(aa:Option Addr)(ab ae:Nat)(I:Int)=>
 gn (decide (I<(ad:Int))) (∃au:Addr,ag=some au/\0<=I/\I<(ad:Int)/\
 ∃ah:ByteArray,dj H3 (au.add I.toNat)=some (.string ah)/\
 ∃av:Addr,aa=some av/\0<=I/\I<(ab:Int)/\
 ∃aw:Int,dj H3 (av.add I.toNat)=some (.int .i64 aw)/\
 gn (decide ((IntKind.i64.wrap (8388608-aw))<(ah.size:Int))) (R (none) (7) H3) (∃ax:Addr,aa=some ax/\0<=I/\I<(ab:Int)/\
 ∃ay:Int,dj H3 (ax.add I.toNat)=some (.int .i64 ay)/\
 eX (gy H3 #[.int .i64 (IntKind.i64.wrap (ay+(ah.size:Int)))] gv) λH4:Heap=>jN gv 1 8 (.int .i64 0) aa ab ae (.slice (some ⟨Array.size H3,0,none⟩) 1 1) H4 λak al ao H5=>L3 ((ak,al,ao),(IntKind.i64.wrap (I+1):Int),()) H5)) (J9 ((aa,ab,ae),()) H3)) q3.1.1 q3.1.2.1 q3.1.2.2 q3.2.1) ((some ⟨Array.size H0,0,none⟩,1,1),(0:Int),()) H1)
 (λs9 H2=>(λ(aa:Option Addr)(ab ae:Nat)=>
 j9.C (aa) ab ae H2 λaq ar H6=>
 gn (decide (ar≠0)) (R (none) (7) H6) (strings_Join.C (ag) ad ai (⟨#[]⟩:ByteArray) H6 λaB H7=>
 eX (gy H7 #[.string aB,.iface qy (.pointer aq),.int .i64 (ad:Int)] yJ) λH8:Heap=>R (some ⟨Array.size H7,0,none⟩) (0) H8)) s9.1.1 s9.1.2.1 s9.1.2.2)
theorem jH.eq(I:Option Addr)(aa ab:Nat)(R:Option Addr->Int->Heap->Prop)(H0:Heap):
 wF Tryz.prog jH.gD Tryz.f40 [.slice I aa ab] (λv H'=>xT [.one .ptr,.one (.int .i64)] v λr=>R r.1 r.2.1 H') H0=jH.W I aa ab R H0:=by kernel_rfl
theorem jH.calls{I}{aa ab}{R}{H0}(h:jH.W I aa ab R H0):jH.C I aa ab H0 R:=
 (dp eF Tryz.func40 (by rw[jH.eq];exact h)).mono λv H' h=>by obtain⟨x,hv,hk⟩:=dB h;exact⟨x.1,x.2.1,hv,hk⟩
def mZ.gD:gR:={ord:=λ_=>.ord [],loop:=λi=>bif Nat.beq i 5 then some [(3,.one (.int .i64)),(4,.one (.int .i64))] else none,join:=λi=>bif Nat.beq i 3 then some [] else bif Nat.beq i 8 then some [(3,.one (.int .i64))] else none}
def mZ.W(aa:Option Addr)(I aj:Nat)(R:Int->Heap->Prop)(H0:Heap):Prop:=
 eW (S:=Unit) (λJ3=>
 gn (decide ((I:Int)<1)) (False) (J3 () H0))
 (λ_ H1=>
 ∃ab:Addr,aa=some ab/\0<=(0:Int)/\(0:Int)<(I:Int)/\
 ∃ad:Int,dj H1 (ab.add ((0:Int).toNat))=some (.int .i64 ad)/\
 eW (S:=(Int×Unit)) (λJ8=>
 lD (S:=(Int×Int×Unit)) (λL5 q5 H3=>(λ(m3:Int)(i4:Int)=>
 gn (decide (i4<(I:Int))) (∃ae:Addr,aa=some ae/\0<=i4/\i4<(I:Int)/\
 ∃af:Int,dj H3 (ae.add i4.toNat)=some (.int .i64 af)/\
 eX (max m3 af) λm3:Int=>
 eX (IntKind.i64.wrap (i4+1)) λai:Int=>L5 ((m3:Int),(ai:Int),()) H3) (J8 ((m3:Int),()) H3)) q5.1 q5.2.1) ((ad:Int),(1:Int),()) H1)
 (λs8 H2=>(λ(m3:Int)=>R (m3) H2) s8.1))
theorem mZ.eq(I:Option Addr)(aa ab:Nat)(R:Int->Heap->Prop)(H0:Heap):
 wF Tryz.prog mZ.gD Tryz.f41 [.slice I aa ab] (λv H'=>xS (.one (.int .i64)) v λr=>R r H') H0=mZ.W I aa ab R H0:=by kernel_rfl
theorem mZ.calls{I}{aa ab}{R}{H0}(h:mZ.W I aa ab R H0):mZ.C I aa ab H0 R:=
 (dp eF Tryz.func41 (by rw[mZ.eq];exact h)).mono λv H' h=>by obtain⟨x,hv,hk⟩:=fS h;exact⟨x,hv,hk⟩
def ky.gD:gR:={ord:=λ_=>.ord [],loop:=λ_=>none,join:=λ_=>none}
def ky.W(I:Option Addr)(aa ab:Nat)(R:ByteArray->Int->Heap->Prop)(H0:Heap):Prop:=
 j7.C (I) aa ab (0) H0 λad ae H1=>R ad (ae) H1
theorem ky.eq(I:Option Addr)(aa ab:Nat)(R:ByteArray->Int->Heap->Prop)(H0:Heap):
 wF Tryz.prog ky.gD Tryz.f42 [.slice I aa ab] (λv H'=>xT [.one .str,.one (.int .i64)] v λr=>R r.1 r.2.1 H') H0=ky.W I aa ab R H0:=by kernel_rfl
theorem ky.calls{I}{aa ab}{R}{H0}(h:ky.W I aa ab R H0):ky.C I aa ab H0 R:=
 (dp eF Tryz.func42 (by rw[ky.eq];exact h)).mono λv H' h=>by obtain⟨x,hv,hk⟩:=dB h;exact⟨x.1,x.2.1,hv,hk⟩
def dQ.gD:gR:={ord:=λ_=>.ord [],loop:=λ_=>none,join:=λ_=>none,cut:=λi=>[2].any (Nat.beq i)}
def dQ.W(I:Option Addr)(R:Int->Heap->Prop)(H0:Heap):Prop:=
 gn (Option.isNone (I)) (False) (∃x6:Addr,I=some x6/\lj H0 (x6.add 0) λx8=>
 lZ.C (x8) H0 λx9 H1=>(2:Int)≠0/\
 eX (IntKind.i64.wrap (Int.tdiv x9 2)) λx2:Int=>R (x2) H1)
theorem dQ.eq(I:Option Addr)(R:Int->Heap->Prop)(H0:Heap):
 wF Tryz.prog dQ.gD Tryz.f43 [.pointer I] (λv H'=>xS (.one (.int .i64)) v λr=>R r H') H0=dQ.W I R H0:=by kernel_rfl
theorem dQ.calls{I}{R}{H0}(h:dQ.W I R H0):dQ.C I H0 R:=
 (dp eF Tryz.func43 (by rw[dQ.eq];exact h)).mono λv H' h=>by obtain⟨x,hv,hk⟩:=fS h;exact⟨x,hv,hk⟩
def kr.gD:gR:={ord:=λ_=>.ord [],loop:=λ_=>none,join:=λ_=>none}
def kr.W(aa:Option Addr)(ab:Int)(R:Bool->Heap->Prop)(H0:Heap):Prop:=
 mw.C (aa) (ab) H0 λad I H1=>R (decide ((0:Int)<=I)) H1
theorem kr.eq(I:Option Addr)(aa:Int)(R:Bool->Heap->Prop)(H0:Heap):
 wF Tryz.prog kr.gD Tryz.f44 [.pointer I,.int .i64 aa] (λv H'=>xS (.one .bool) v λr=>R r H') H0=kr.W I aa R H0:=by kernel_rfl
theorem kr.calls{I}{aa}{R}{H0}(h:kr.W I aa R H0):kr.C I aa H0 R:=
 (dp eF Tryz.func44 (by rw[kr.eq];exact h)).mono λv H' h=>by obtain⟨x,hv,hk⟩:=fS h;exact⟨x,hv,hk⟩
def jJ.gD:gR:={ord:=λ_=>.ord [],loop:=λ_=>none,join:=λi=>bif Nat.beq i 19 then some [(87,.one .bool)] else bif Nat.beq i 28 then some [] else none,cut:=λi=>[4,6,8,10,12,19,27].any (Nat.beq i)}
def jJ.W(aF:Option Addr)(aY:Int)(aZ:Int)(a6:Int)(a7:ByteArray)(a8:ByteArray)(R:Int->Int->Option Addr->Nat->Nat->Option Addr->Nat->Nat->Heap->Prop)(H0:Heap):Prop:=
 eX (gy H0 #[.int .i64 aY,.int .i64 aZ,.int .i64 a6,.string a7,.string a8] kj) λH1:Heap=>
 eX (gy H1 #[.int .i64 0,.int .i64 0,.slice none 0 0,.slice none 0 0] fq) λH2:Heap=>ff H2 ((⟨Array.size H0,0,none⟩:Addr).add 1) λbn=>
 dA.C (aF) (bn) H2 λaG aH aI aJ aK aL ai aj ak bF H3=>
 eX (gy H3 #[.int .i64 0,.int .i64 0,.string (⟨#[]⟩:ByteArray),.string (⟨#[]⟩:ByteArray),.string (⟨#[]⟩:ByteArray),.string (⟨#[]⟩:ByteArray),.slice none 0 0] eH) λH4:Heap=>nR [.int .i64 aG,.int .i64 aH,.string aI,.string aJ,.string aK,.string aL,.slice ai aj ak] ⟨Array.size H3,0,none⟩ 0 H4 λH5=>
 eW (S:=Unit) (λbq=>ff H5 ((⟨Array.size H0,0,none⟩:Addr).add 0) λI=>
 gn (decide (I=1)) (False) (gn (decide (I=2)) (False) (gn (decide (I=3)) (False) (gn (decide (I=4)) (False) (gn (decide (I=10)) (False) (gn (decide (I=11)) (ff H5 ((⟨Array.size H0,0,none⟩:Addr).add 1) λbr=>im H5 ((⟨Array.size H0,0,none⟩:Addr).add 3) λbw=>im H5 ((⟨Array.size H0,0,none⟩:Addr).add 4) λbx=>
 fm.C (aF) (br) bw bx H5 λaM aN aO ba H7=>nR [.int .i64 ba,.int .i64 0,.slice none 0 0,.slice aM aN aO] ⟨Array.size H1,0,none⟩ 0 H7 λH8=>nu H8 ⟨Array.size H1,0,none⟩ λal ao aa ab ad ae af ag=>R (al) (ao) (aa) ab ad (ae) af ag H8) (
 eW (S:=(Bool×Unit)) (λbb=>
 gn (decide (I=12)) (bb (decide (I=12),()) H5) (bb (decide (I=13),()) H5))
 (λbA H9=>(λ(bB:Bool)=>
 gn bB (False) (gn (decide (I=14)) (ff H9 ((⟨Array.size H0,0,none⟩:Addr).add 1) λbj=>
 fi.C (aF) (bj) H9 λbk bC=>
 eo.C bk true bC λaP aQ ar au av aw ax ay bD=>nR [.int .i64 aP,.int .i64 aQ,.slice ar au av,.slice aw ax ay] ⟨Array.size H1,0,none⟩ 0 bD λbf=>nu bf ⟨Array.size H1,0,none⟩ λal ao aa ab ad ae af ag=>R (al) (ao) (aa) ab ad (ae) af ag bf) (gn (decide (I=15)) (False) (bq () H9)))) bA.1))))))))
 (λ_ H6=>sB H6 ⟨Array.size H0,0,none⟩ λaR aS aT aU aV=>
 eA.C (aF) (aR) (aS) (aT) aU aV H6 λaW aX az aA aB aC aD aE bE=>nR [.int .i64 aW,.int .i64 aX,.slice az aA aB,.slice aC aD aE] ⟨Array.size H1,0,none⟩ 0 bE λbg=>nu bg ⟨Array.size H1,0,none⟩ λal ao aa ab ad ae af ag=>R (al) (ao) (aa) ab ad (ae) af ag bg)
theorem jJ.eq(af:Option Addr)(I:Int)(aa:Int)(ab:Int)(ad:ByteArray)(ae:ByteArray)(R:Int->Int->Option Addr->Nat->Nat->Option Addr->Nat->Nat->Heap->Prop)(H0:Heap):
 wF Tryz.prog jJ.gD Tryz.f45 [.pointer af,.agg #[.int .i64 I,.int .i64 aa,.int .i64 ab,.string ad,.string ae]] (λv H'=>xS (.agg [.int .i64,.int .i64,.slice,.slice]) v λr=>R r.1 r.2.1 r.2.2.1.1 r.2.2.1.2.1 r.2.2.1.2.2 r.2.2.2.1.1 r.2.2.2.1.2.1 r.2.2.2.1.2.2 H') H0=jJ.W af I aa ab ad ae R H0:=by kernel_rfl
theorem jJ.calls{af}{I}{aa}{ab}{ad}{ae}{R}{H0}(h:jJ.W af I aa ab ad ae R H0):jJ.C af I aa ab ad ae H0 R:=
 (dp eF Tryz.func45 (by rw[jJ.eq];exact h)).mono λv H' h=>by obtain⟨x,hv,hk⟩:=fS h;exact⟨x.1,x.2.1,x.2.2.1.1,x.2.2.1.2.1,x.2.2.1.2.2,x.2.2.2.1.1,x.2.2.2.1.2.1,x.2.2.2.1.2.2,hv,hk⟩
def dw.gD:gR:={ord:=λi=>bif Nat.beq i 5 then .ord [0,1,2,3,4,5,6,7,8,9,10,11,12,13] else .ord [],loop:=λ_=>none,join:=λi=>bif Nat.beq i 4 then some [(29,.one .bool)] else bif Nat.beq i 5 then some [] else none}
def dw.W(aa:Option Addr)(ab:Int)(R:Int->Int->ByteArray->ByteArray->ByteArray->ByteArray->Option Addr->Nat->Nat->Heap->Prop)(H0:Heap):Prop:=
 eX (gy H0 #[.int .i64 0,.int .i64 0,.string (⟨#[]⟩:ByteArray),.string (⟨#[]⟩:ByteArray),.string (⟨#[]⟩:ByteArray),.string (⟨#[]⟩:ByteArray),.slice none 0 0] eH) λH1:Heap=>
 eX (gy H1 #[.int .i64 0,.int .i64 0,.string (⟨#[]⟩:ByteArray),.string (⟨#[]⟩:ByteArray),.string (⟨#[]⟩:ByteArray),.string (⟨#[]⟩:ByteArray),.slice none 0 0] eH) λH2:Heap=>
 eW (S:=Unit) (λJ5=>
 ∃aO:Addr,aa=some aO/\lj H2 (aO.add 1) λbf=>
 dO.C (bf) (ab) H2 λI ak H4=>
 eW (S:=(Bool×Unit)) (λJ4=>
 gn (decide (ak=0)) (∃aP:Addr,aa=some aP/\eO H4 (aP.add 3) λbG al bH=>J4 (decide (I<(al:Int)),()) H4) (J4 (false,()) H4))
 (λs4 H5=>(λ(bh:Bool)=>
 gn bh (∃aQ:Addr,aa=some aQ/\eO H5 (aQ.add 3) λaq ar bI=>
 ∃aR:Addr,aq=some aR/\0<=I/\I<(ar:Int)/\kK H5 (aR.add (I.toNat*7)) λau av aw ax ay az ad ae af=>nR [.int .i64 au,.int .i64 av,.string aw,.string ax,.string ay,.string az,.slice ad ae af] ⟨Array.size H1,0,none⟩ 0 H5 λH6=>J5 () H6) (J5 () H5)) s4.1))
 (λ_ H3=>
 ∃aj:Addr,aa=some aj/\lj H3 (aj.add 0) λaS=>
 ∃aT:Addr,aa=some aT/\lj H3 (aT.add 0) λbj=>
 jR.C (bj) (ab) H3 λbk H7=>(lj H7 (aj.add 0) λa8=>(.pointer a8:Value)=.pointer aS)/\jO.C (aS) (bk) H7 λbn H8=>sV (.int .i64 (IntKind.i64.wrap (bn-1))) ((⟨Array.size H1,0,none⟩:Addr).add 1) H8 λH9=>
 ∃aU:Addr,aa=some aU/\lj H9 (aU.add 2) λbq=>
 dC.C (bq) (ab) H9 λaA bJ br=>sV (.string aA) ((⟨Array.size H1,0,none⟩:Addr).add 5) br λaV=>
 ∃aW:Addr,aa=some aW/\lj aV (aW.add 4) λbw=>
 dC.C (bw) (ab) aV λaB bK bx=>
 dK.C aB bx λaC aD aE bz=>sV (.slice aC aD aE) ((⟨Array.size H1,0,none⟩:Addr).add 6) bz λaX=>kK aX ⟨Array.size H1,0,none⟩ λaF aG aH aI aJ aK ag ah ai=>nR [.int .i64 aF,.int .i64 aG,.string aH,.string aI,.string aJ,.string aK,.slice ag ah ai] ⟨Array.size H0,0,none⟩ 0 aX λaY=>kK aY ⟨Array.size H0,0,none⟩ λbA bB bC bD bE bF aL aM aN=>R (bA) (bB) bC bD bE bF (aL) aM aN aY)
theorem dw.eq(I:Option Addr)(aa:Int)(R:Int->Int->ByteArray->ByteArray->ByteArray->ByteArray->Option Addr->Nat->Nat->Heap->Prop)(H0:Heap):
 wF Tryz.prog dw.gD Tryz.f52 [.pointer I,.int .i64 aa] (λv H'=>xS (.agg [.int .i64,.int .i64,.str,.str,.str,.str,.slice]) v λr=>R r.1 r.2.1 r.2.2.1 r.2.2.2.1 r.2.2.2.2.1 r.2.2.2.2.2.1 r.2.2.2.2.2.2.1.1 r.2.2.2.2.2.2.1.2.1 r.2.2.2.2.2.2.1.2.2 H') H0=dw.W I aa R H0:=by kernel_rfl
theorem dw.calls{I}{aa}{R}{H0}(h:dw.W I aa R H0):dw.C I aa H0 R:=
 (dp eF Tryz.func52 (by rw[dw.eq];exact h)).mono λv H' h=>by obtain⟨x,hv,hk⟩:=fS h;exact⟨x.1,x.2.1,x.2.2.1,x.2.2.2.1,x.2.2.2.2.1,x.2.2.2.2.2.1,x.2.2.2.2.2.2.1.1,x.2.2.2.2.2.2.1.2.1,x.2.2.2.2.2.2.1.2.2,hv,hk⟩
def mJ.gD:gR:={ord:=λ_=>.ord [],loop:=λ_=>none,join:=λ_=>none,cut:=λi=>[2].any (Nat.beq i)}
def mJ.W(I:Option Addr)(R:Int->Heap->Prop)(H0:Heap):Prop:=
 gn (Option.isNone (I)) (False) (∃x6:Addr,I=some x6/\eO H0 (x6.add 0) λae aa af=>
 eX ((aa:Int)) λx2:Int=>R (x2) H0)
theorem mJ.eq(I:Option Addr)(R:Int->Heap->Prop)(H0:Heap):
 wF Tryz.prog mJ.gD Tryz.f53 [.pointer I] (λv H'=>xS (.one (.int .i64)) v λr=>R r H') H0=mJ.W I R H0:=by kernel_rfl
theorem mJ.calls{I}{R}{H0}(h:mJ.W I R H0):mJ.C I H0 R:=
 (dp eF Tryz.func53 (by rw[mJ.eq];exact h)).mono λv H' h=>by obtain⟨x,hv,hk⟩:=fS h;exact⟨x,hv,hk⟩
def lV.gD:gR:={ord:=λi=>bif Nat.beq i 3 then .ord [0,1,2,3,4,5,6,7,8,9,10,11,12,13,14] else .ord [],loop:=λ_=>none,join:=λ_=>none,cut:=λi=>[2].any (Nat.beq i)}
def lV.W(ab:Option Addr)(R:Bool->Heap->Prop)(H0:Heap):Prop:=
 mJ.C (ab) H0 λx4 H1=>
 gn (decide (x4=0)) (False) (∃x8:Addr,ab=some x8/\eO H1 (x8.add 0) λad ah I=>
 ∃ae:Addr,ab=some ae/\eO H1 (ae.add 0) λai aa aj=>0<=IntKind.i64.wrap ((aa:Int)-1)/\IntKind.i64.wrap ((aa:Int)-1)<=(I:Int)/\
 ∃af:Addr,ab=some af/\sV (.slice ((if I=0 then ad else Option.map (λq:Addr=>q.add 0) ad)) ((((IntKind.i64.wrap ((aa:Int)-1)).toNat)-0:Nat)) (I-0:Nat)) (af.add 0) H1 λH2=>R true H2)
theorem lV.eq(I:Option Addr)(R:Bool->Heap->Prop)(H0:Heap):
 wF Tryz.prog lV.gD Tryz.f54 [.pointer I] (λv H'=>xS (.one .bool) v λr=>R r H') H0=lV.W I R H0:=by kernel_rfl
theorem lV.calls{I}{R}{H0}(h:lV.W I R H0):lV.C I H0 R:=
 (dp eF Tryz.func54 (by rw[lV.eq];exact h)).mono λv H' h=>by obtain⟨x,hv,hk⟩:=fS h;exact⟨x,hv,hk⟩
def jP.gD:gR:={ord:=λ_=>.ord [],loop:=λi=>bif Nat.beq i 2 then some [(21,.one (.int .i64))] else bif Nat.beq i 14 then some [(9,.one .bool),(83,.one (.int .i64))] else none,join:=λi=>bif Nat.beq i 6 then some [] else bif Nat.beq i 7 then some [] else bif Nat.beq i 12 then some [(9,.one .bool)] else bif Nat.beq i 22 then some [(9,.one .bool)] else bif Nat.beq i 23 then some [(9,.one .bool)] else none,cut:=λi=>[3,6,9,15,22,24].any (Nat.beq i)}
def jP.W(ak:Option Addr)(aa:Option Addr)(R:Int->Heap->Prop)(H0:Heap):Prop:=
 eW (S:=Unit) (λJ7=>
 ∃al:Addr,aa=some al/\eO H0 (al.add 6) λaM ae aN=>
 lD (S:=(Int×Unit)) (λL2 q2 H2=>(λ(az:Int)=>
 gn (decide (az<(ae:Int))) (
 eW (S:=Unit) (λJ6=>False)
 (λ_ H3=>False)) (J7 () H2)) q2.1) ((0:Int),()) H0)
 (λ_ H1=>
 ∃ao:Addr,aa=some ao/\eO H1 (ao.add 6) λaf ag ah=>
 pn.C (ak) (af) ag ah H1 λaA H4=>
 gn (decide (aA≠0)) (False) (∃aq:Addr,aa=some aq/\im H4 (aq.add 2) λaC=>
 dc.C (ak) aC H4 λad ai H5=>
 eW (S:=(Bool×Unit)) (λar=>
 gn ai (∃au:Addr,aa=some au/\im H5 (au.add 2) λaD=>
 ∃ab:Addr,aa=some ab/\sV (.string ad) (ab.add 4) H5 λH7=>ar (decide (aD≠(⟨#[120,109,108,110,115]⟩:ByteArray)),()) H7) (∃ab:Addr,aa=some ab/\sV (.string ad) (ab.add 4) H5 λH8=>ar (false,()) H8))
 (λaE H6=>(λ(I:Bool)=>
 eX (H6.push (.map #[] 0)) λH9:Heap=>
 eW (S:=(Bool×Unit)) (λaG=>
 ∃av:Addr,aa=some av/\eO H9 (av.add 6) λaO aj aP=>
 lD (S:=(Bool×Int×Unit)) (λaV aw aH=>(λ(I:Bool)(aI:Int)=>
 gn (decide (aI<(aj:Int))) (
 eW (S:=(Bool×Unit)) (λaW=>False)
 (λaJ aX=>(λ(I:Bool)=>False) aJ.1)) (aG (I,()) aH)) aw.1 aw.2.1) (I,(0:Int),()) H9)
 (λaK aL=>(λ(I:Bool)=>
 gn (!I) (False) (R (0) aL)) aK.1)) aE.1)))
theorem jP.eq(I:Option Addr)(aa:Option Addr)(R:Int->Heap->Prop)(H0:Heap):
 wF Tryz.prog jP.gD Tryz.f55 [.pointer I,.pointer aa] (λv H'=>xS (.one (.int .i64)) v λr=>R r H') H0=jP.W I aa R H0:=by kernel_rfl
theorem jP.calls{I}{aa}{R}{H0}(h:jP.W I aa R H0):jP.C I aa H0 R:=
 (dp eF Tryz.func55 (by rw[jP.eq];exact h)).mono λv H' h=>by obtain⟨x,hv,hk⟩:=fS h;exact⟨x,hv,hk⟩
def fa.gD:gR:={ord:=λ_=>.ord [],loop:=λ_=>none,join:=λ_=>none}
def fa.W(I:Int)(aa:Int)(ab:Int)(R:Bool->Heap->Prop)(H0:Heap):Prop:=
 gn (decide (aa<=I)) (R (decide (I<=ab)) H0) (R false H0)
theorem fa.eq(ab:Int)(I:Int)(aa:Int)(R:Bool->Heap->Prop)(H0:Heap):
 wF Tryz.prog fa.gD Tryz.f56 [.int .i64 ab,.int .i64 I,.int .i64 aa] (λv H'=>xS (.one .bool) v λr=>R r H') H0=fa.W ab I aa R H0:=by kernel_rfl
theorem fa.calls{ab}{I}{aa}{R}{H0}(h:fa.W ab I aa R H0):fa.C ab I aa H0 R:=
 (dp eF Tryz.func56 (by rw[fa.eq];exact h)).mono λv H' h=>by obtain⟨x,hv,hk⟩:=fS h;exact⟨x,hv,hk⟩
def gh.gD:gR:={ord:=λ_=>.ord [],loop:=λi=>bif Nat.beq i 2 then some [] else none,join:=λi=>bif Nat.beq i 6 then some [] else none,cut:=λi=>[5].any (Nat.beq i)}
def gh.W(ab:Option Addr)(ad ae:Nat)(R:Bool->Heap->Prop)(H0:Heap):Prop:=
 eW (S:=Unit) (λJ6=>
 ∃x6:ByteArray,tU H0 ab ad x6/\
 eX (H0.push (.stringIter x6 0)) λH2:Heap=>
 lD (S:=Unit) (λL2 _ H3=>
 ∃(I:ByteArray)(aa:Nat),H3[Array.size H0]?=some (.stringIter I aa)/\
 gn (decide (aa<I.size)) (eX (Array.setIfInBounds H3 (Array.size H0) (.stringIter I (aa+(Utf8.decode I aa).2))) λH4:Heap=>
 eX (((Utf8.decode I aa).1:Int)) λr4:Int=>
 gZ.C (r4) H4 λai H5=>
 gn (!ai) (False) (L2 () H5)) (J6 () H3)) () H2)
 (λ_ H1=>
 gU.C (ab) ad ae H1 λaj H6=>R (aj) H6)
theorem gh.eq(I:Option Addr)(aa ab:Nat)(R:Bool->Heap->Prop)(H0:Heap):
 wF Tryz.prog gh.gD Tryz.f58 [.slice I aa ab] (λv H'=>xS (.one .bool) v λr=>R r H') H0=gh.W I aa ab R H0:=by kernel_rfl
theorem gh.calls{I}{aa ab}{R}{H0}(h:gh.W I aa ab R H0):gh.C I aa ab H0 R:=
 (dp eF Tryz.func58 (by rw[gh.eq];exact h)).mono λv H' h=>by obtain⟨x,hv,hk⟩:=fS h;exact⟨x,hv,hk⟩
def jz.gD:gR:={ord:=λ_=>.ord [],loop:=λ_=>none,join:=λ_=>none}
def jz.W(I:ByteArray)(R:ByteArray->Heap->Prop)(H0:Heap):Prop:=
 strings_ReplaceAll.C I (⟨#[13,10]⟩:ByteArray) (⟨#[10]⟩:ByteArray) H0 λx4 H1=>
 strings_ReplaceAll.C x4 (⟨#[13]⟩:ByteArray) (⟨#[10]⟩:ByteArray) H1 λx5 H2=>R x5 H2
theorem jz.eq(I:ByteArray)(R:ByteArray->Heap->Prop)(H0:Heap):
 wF Tryz.prog jz.gD Tryz.f59 [.string I] (λv H'=>xS (.one .str) v λr=>R r H') H0=jz.W I R H0:=by kernel_rfl
theorem jz.calls{I}{R}{H0}(h:jz.W I R H0):jz.C I H0 R:=
 (dp eF Tryz.func59 (by rw[jz.eq];exact h)).mono λv H' h=>by obtain⟨x,hv,hk⟩:=fS h;exact⟨x,hv,hk⟩
def iF.gD:gR:={ord:=λ_=>.ord [],loop:=λ_=>none,join:=λi=>bif Nat.beq i 3 then some [(17,.one .bool)] else bif Nat.beq i 4 then some [] else none,cut:=λi=>[4].any (Nat.beq i)}
def iF.W(aa:ByteArray)(R:Int->Int->Heap->Prop)(I:Heap):Prop:=
 eX (gy I #[.string aa,.int .i64 0,.bool false,.string (⟨#[]⟩:ByteArray),.slice none 0 0,.slice none 0 0] Em) λH1:Heap=>
 eW (S:=Unit) (λJ4=>
 eW (S:=(Bool×Unit)) (λJ3=>
 dG.C (some ⟨Array.size I,0,none⟩) (⟨#[60,63,120,109,108]⟩:ByteArray) H1 λad H4=>
 gn (!ad) (J3 (true,()) H4) (zF.C (some ⟨Array.size I,0,none⟩) H4 λaf H5=>J3 (!af,()) H5))
 (λs3 H3=>(λ(ah:Bool)=>
 gn ah (R (0) (0) H3) (J4 () H3)) s3.1))
 (λ_ H2=>False)
theorem iF.eq(I:ByteArray)(R:Int->Int->Heap->Prop)(H0:Heap):
 wF Tryz.prog iF.gD Tryz.f60 [.string I] (λv H'=>xT [.one (.int .i64),.one (.int .i64)] v λr=>R r.1 r.2.1 H') H0=iF.W I R H0:=by kernel_rfl
theorem iF.calls{I}{R}{H0}(h:iF.W I R H0):iF.C I H0 R:=
 (dp eF Tryz.func60 (by rw[iF.eq];exact h)).mono λv H' h=>by obtain⟨x,hv,hk⟩:=dB h;exact⟨x.1,x.2.1,hv,hk⟩
def mj.gD:gR:={ord:=λ_=>.ord [],loop:=λi=>bif Nat.beq i 2 then some [] else none,join:=λi=>bif Nat.beq i 6 then some [] else none}
def mj.W(ad:ByteArray)(ab:Int)(R:Int->Heap->Prop)(H0:Heap):Prop:=
 eW (S:=Unit) (λJ6=>0<=ab/\ab<=(ad.size:Int)/\
 eX (H0.push (.stringIter (ad.extract ab.toNat ad.size) 0)) λH2:Heap=>
 lD (S:=Unit) (λL2 _ H3=>
 ∃(aa:ByteArray)(I:Nat),H3[Array.size H0]?=some (.stringIter aa I)/\
 gn (decide (I<aa.size)) (eX (Array.setIfInBounds H3 (Array.size H0) (.stringIter aa (I+(Utf8.decode aa I).2))) λH4:Heap=>
 eX ((I:Int)) λk5:Int=>
 eX (((Utf8.decode aa I).1:Int)) λr6:Int=>
 fR.C (r6) H4 λah H5=>
 gn (!ah) (eX (IntKind.i64.wrap (ab+k5)) λx4:Int=>R (x4) H5) (L2 () H5)) (J6 () H3)) () H2)
 (λ_ H1=>
 eX ((ad.size:Int)) λx4:Int=>R (x4) H1)
theorem mj.eq(aa:ByteArray)(I:Int)(R:Int->Heap->Prop)(H0:Heap):
 wF Tryz.prog mj.gD Tryz.f61 [.string aa,.int .i64 I] (λv H'=>xS (.one (.int .i64)) v λr=>R r H') H0=mj.W aa I R H0:=by kernel_rfl
theorem mj.calls{aa}{I}{R}{H0}(h:mj.W aa I R H0):mj.C aa I H0 R:=
 (dp eF Tryz.func61 (by rw[mj.eq];exact h)).mono λv H' h=>by obtain⟨x,hv,hk⟩:=fS h;exact⟨x,hv,hk⟩
def eU.gD:gR:={ord:=λ_=>.ord [],loop:=λ_=>none,join:=λi=>bif Nat.beq i 2 then some [(22,.one .bool)] else bif Nat.beq i 3 then some [] else none,cut:=λi=>[3].any (Nat.beq i)}
def eU.W(aa:ByteArray)(I:Int)(R:ByteArray->Option Addr->Nat->Nat->Option Addr->Nat->Nat->Int->Int->Heap->Prop)(H0:Heap):Prop:=
 eX (gy H0 #[.string (⟨#[]⟩:ByteArray),.slice none 0 0,.slice none 0 0] iI) λH1:Heap=>
 eW (S:=Unit) (λJ3=>
 eW (S:=(Bool×Unit)) (λJ2=>
 gn (decide (I<0)) (J2 (true,()) H1) (gn (decide ((aa.size:Int)<I)) (J2 (true,()) H1) (0<=I/\I<=(aa.size:Int)/\strings_HasPrefix.C (aa.extract I.toNat aa.size) (⟨#[60,33,68,79,67,84,89,80,69]⟩:ByteArray) H1 λak H4=>J2 (!ak,()) H4)))
 (λs2 H3=>(λ(ao:Bool)=>
 gn ao (nR [.string (⟨#[]⟩:ByteArray),.slice none 0 0,.slice none 0 0] ⟨Array.size H0,0,none⟩ 0 H3 λH5=>xq H5 ⟨Array.size H0,0,none⟩ λar ab ad ae af ag ah=>R ar (ab) ad ae (af) ag ah (I) (6) H5) (J3 () H3)) s2.1))
 (λ_ H2=>False)
theorem eU.eq(aa:ByteArray)(I:Int)(R:ByteArray->Option Addr->Nat->Nat->Option Addr->Nat->Nat->Int->Int->Heap->Prop)(H0:Heap):
 wF Tryz.prog eU.gD Tryz.f62 [.string aa,.int .i64 I] (λv H'=>xT [.agg [.str,.slice,.slice],.one (.int .i64),.one (.int .i64)] v λr=>R r.1.1 r.1.2.1.1 r.1.2.1.2.1 r.1.2.1.2.2 r.1.2.2.1.1 r.1.2.2.1.2.1 r.1.2.2.1.2.2 r.2.1 r.2.2.1 H') H0=eU.W aa I R H0:=by kernel_rfl
theorem eU.calls{aa}{I}{R}{H0}(h:eU.W aa I R H0):eU.C aa I H0 R:=
 (dp eF Tryz.func62 (by rw[eU.eq];exact h)).mono λv H' h=>by obtain⟨x,hv,hk⟩:=dB h;exact⟨x.1.1,x.1.2.1.1,x.1.2.1.2.1,x.1.2.1.2.2,x.1.2.2.1.1,x.1.2.2.1.2.1,x.1.2.2.1.2.2,x.2.1,x.2.2.1,hv,hk⟩
def nr.gD:gR:={ord:=λ_=>.ord [],loop:=λ_=>none,join:=λi=>bif Nat.beq i 5 then some [(22,.one .bool)] else bif Nat.beq i 7 then some [(35,.one .bool)] else bif Nat.beq i 9 then some [] else none,cut:=λi=>[3,5,9].any (Nat.beq i)}
def nr.W(ak:Option Addr)(aA:ByteArray)(aD:Int)(R:Int->Int->Heap->Prop)(H0:Heap):Prop:=
 gf.C aA (aD) H0 λad ae af I aa ab ag al ao H1=>
 eX (gy H1 #[.int .i64 0,.string (⟨#[]⟩:ByteArray),.string (⟨#[]⟩:ByteArray),.slice none 0 0,.bool false] dE) λH2:Heap=>nR [.int .i64 ad,.string ae,.string af,.slice I aa ab,.bool ag] ⟨Array.size H1,0,none⟩ 0 H2 λH3=>
 eW (S:=Unit) (λJ9=>
 gn (decide (ao≠0)) (False) (
 eW (S:=(Bool×Unit)) (λJ5=>ff H3 ((⟨Array.size H1,0,none⟩:Addr).add 0) λaF=>
 gn (decide (aF=4)) (J5 (true,()) H3) (ff H3 ((⟨Array.size H1,0,none⟩:Addr).add 0) λaG=>J5 (decide (aG=5),()) H3))
 (λs5 H5=>(λ(aH:Bool)=>
 gn aH (False) (
 eW (S:=(Bool×Unit)) (λJ7=>ff H5 ((⟨Array.size H1,0,none⟩:Addr).add 0) λaJ=>
 gn (decide (aJ=2)) (∃aB:Addr,ak=some aB/\S3 H5 (aB.add 12) λaK=>J7 (!aK,()) H5) (J7 (false,()) H5))
 (λs7 H6=>(λ(aL:Bool)=>
 gn aL (∃aC:Addr,ak=some aC/\sV (.bool true) (aC.add 12) H6 λH7=>eE H7 ⟨Array.size H1,0,none⟩ λau av aw ah ai aj ax=>
 jQ.C (ak) (au) av aw (ah) ai aj (ax) aA (al) (1) H7 λay az H8=>R (ay) (az) H8) (J9 () H6)) s7.1))) s5.1)))
 (λ_ H4=>False)
theorem nr.eq(aa:Option Addr)(ab:ByteArray)(I:Int)(R:Int->Int->Heap->Prop)(H0:Heap):
 wF Tryz.prog nr.gD Tryz.f63 [.pointer aa,.string ab,.int .i64 I] (λv H'=>xT [.one (.int .i64),.one (.int .i64)] v λr=>R r.1 r.2.1 H') H0=nr.W aa ab I R H0:=by kernel_rfl
theorem nr.calls{aa}{ab}{I}{R}{H0}(h:nr.W aa ab I R H0):nr.C aa ab I H0 R:=
 (dp eF Tryz.func63 (by rw[nr.eq];exact h)).mono λv H' h=>by obtain⟨x,hv,hk⟩:=dB h;exact⟨x.1,x.2.1,hv,hk⟩
def fO.gD:gR:={ord:=λ_=>.ord [],loop:=λ_=>none,join:=λi=>bif Nat.beq i 3 then some [(17,.one .bool)] else bif Nat.beq i 4 then some [] else bif Nat.beq i 6 then some [(35,.one .bool)] else bif Nat.beq i 8 then some [(52,.one .bool)] else bif Nat.beq i 9 then some [] else none,cut:=λi=>[6,8].any (Nat.beq i)}
def fO.W(af:Option Addr)(ag bb:Nat)(aa:Int)(R:Bool->Heap->Prop)(I:Heap):Prop:=
 ∃x9:Addr,af=some x9/\0<=aa/\aa<(ag:Int)/\kK I (x9.add (aa.toNat*7)) λar au av aw ax ay ah ai aj=>
 eX (gy I #[.int .i64 0,.int .i64 0,.string (⟨#[]⟩:ByteArray),.string (⟨#[]⟩:ByteArray),.string (⟨#[]⟩:ByteArray),.string (⟨#[]⟩:ByteArray),.slice none 0 0] eH) λH1:Heap=>nR [.int .i64 ar,.int .i64 au,.string av,.string aw,.string ax,.string ay,.slice ah ai aj] ⟨Array.size I,0,none⟩ 0 H1 λH2=>
 eW (S:=Unit) (λJ4=>
 eW (S:=(Bool×Unit)) (λJ3=>
 gn (decide (aa=0)) (J3 (true,()) H2) (ff H2 ((⟨Array.size I,0,none⟩:Addr).add 0) λaL=>J3 (decide (aL=1),()) H2))
 (λs3 H4=>(λ(aM:Bool)=>
 gn aM (gn (decide (aa=0)) (ff H4 ((⟨Array.size I,0,none⟩:Addr).add 0) λaN=>
 gn (decide (aN=1)) (ff H4 ((⟨Array.size I,0,none⟩:Addr).add 1) λaO=>R (decide (aO=0)) H4) (R false H4)) (R false H4)) (J4 () H4)) s3.1))
 (λ_ H3=>
 ∃aF:Addr,af=some aF/\0<=IntKind.i64.wrap (aa-1)/\IntKind.i64.wrap (aa-1)<(ag:Int)/\kK H3 (aF.add ((IntKind.i64.wrap (aa-1)).toNat*7)) λaz aA aB aC aD aE al ao aq=>
 eX (gy H3 #[.int .i64 0,.int .i64 0,.string (⟨#[]⟩:ByteArray),.string (⟨#[]⟩:ByteArray),.string (⟨#[]⟩:ByteArray),.string (⟨#[]⟩:ByteArray),.slice none 0 0] eH) λH5:Heap=>nR [.int .i64 az,.int .i64 aA,.string aB,.string aC,.string aD,.string aE,.slice al ao aq] ⟨Array.size H3,0,none⟩ 0 H5 λH6=>
 eW (S:=Unit) (λJ9=>
 eW (S:=(Bool×Unit)) (λJ6=>ff H6 ((⟨Array.size I,0,none⟩:Addr).add 1) λaP=>
 gn (decide (aP<1)) (J6 (true,()) H6) (ff H6 ((⟨Array.size I,0,none⟩:Addr).add 1) λaQ=>
 gn (decide ((201:Int)<aQ)) (J6 (true,()) H6) (ff H6 ((⟨Array.size I,0,none⟩:Addr).add 1) λaR=>ff H6 ((⟨Array.size H3,0,none⟩:Addr).add 1) λaS=>J6 (decide ((IntKind.i64.wrap (aS+1))<aR),()) H6)))
 (λs6 H8=>(λ(aT:Bool)=>
 gn aT (False) (
 eW (S:=(Bool×Unit)) (λJ8=>ff H8 ((⟨Array.size I,0,none⟩:Addr).add 1) λaU=>ff H8 ((⟨Array.size H3,0,none⟩:Addr).add 1) λaV=>
 gn (decide (aV<aU)) (ff H8 ((⟨Array.size H3,0,none⟩:Addr).add 0) λaW=>
 gn (decide (aW≠1)) (ff H8 ((⟨Array.size H3,0,none⟩:Addr).add 0) λaX=>J8 (decide (aX≠2),()) H8) (J8 (false,()) H8)) (J8 (false,()) H8))
 (λs8 H9=>(λ(aY:Bool)=>
 gn aY (False) (J9 () H9)) s8.1))) s6.1))
 (λ_ H7=>ff H7 ((⟨Array.size I,0,none⟩:Addr).add 0) λaZ=>
 gn (decide (aZ≠3)) (R true H7) (ff H7 ((⟨Array.size I,0,none⟩:Addr).add 1) λa6=>
 gn (decide ((1:Int)<a6)) (ff H7 ((⟨Array.size H3,0,none⟩:Addr).add 0) λa7=>
 gn (decide (a7≠3)) (R true H7) (ff H7 ((⟨Array.size H3,0,none⟩:Addr).add 1) λa8=>ff H7 ((⟨Array.size I,0,none⟩:Addr).add 1) λba=>R (decide (a8≠ba)) H7)) (R false H7))))
theorem fO.eq(I:Option Addr)(aa ab:Nat)(ad:Int)(R:Bool->Heap->Prop)(H0:Heap):
 wF Tryz.prog fO.gD Tryz.f64 [.slice I aa ab,.int .i64 ad] (λv H'=>xS (.one .bool) v λr=>R r H') H0=fO.W I aa ab ad R H0:=by kernel_rfl
theorem fO.calls{I}{aa ab}{ad}{R}{H0}(h:fO.W I aa ab ad R H0):fO.C I aa ab ad H0 R:=
 (dp eF Tryz.func64 (by rw[fO.eq];exact h)).mono λv H' h=>by obtain⟨x,hv,hk⟩:=fS h;exact⟨x,hv,hk⟩
def gY.gD:gR:={ord:=λ_=>.ord [],loop:=λ_=>none,join:=λi=>bif Nat.beq i 2 then some [(22,.one .bool)] else bif Nat.beq i 3 then some [] else none,cut:=λi=>[2,8].any (Nat.beq i)}
def gY.W(af:Int)(ag:Int)(ah:ByteArray)(ai:ByteArray)(aj:ByteArray)(ak:ByteArray)(ab:Option Addr)(ad ae:Nat)(R:Bool->Heap->Prop)(I:Heap):Prop:=
 eX (gy I #[.int .i64 af,.int .i64 ag,.string ah,.string ai,.string aj,.string ak,.slice ab ad ae] eH) λH1:Heap=>
 eW (S:=Unit) (λJ3=>
 eW (S:=(Bool×Unit)) (λJ2=>im H1 ((⟨Array.size I,0,none⟩:Addr).add 2) λx4=>
 gn (decide (x4≠(⟨#[]⟩:ByteArray))) (J2 (true,()) H1) (im H1 ((⟨Array.size I,0,none⟩:Addr).add 4) λx8=>
 gn (decide (x8≠(⟨#[]⟩:ByteArray))) (J2 (true,()) H1) (eO H1 ((⟨Array.size I,0,none⟩:Addr).add 6) λaA ao aB=>
 gn (decide ((0:Int)<(ao:Int))) (J2 (true,()) H1) (im H1 ((⟨Array.size I,0,none⟩:Addr).add 5) λar=>
 gX.C ar H1 λau H4=>J2 (!au,()) H4))))
 (λs2 H3=>(λ(av:Bool)=>
 gn av (False) (J3 () H3)) s2.1))
 (λ_ H2=>ff H2 ((⟨Array.size I,0,none⟩:Addr).add 0) λaq=>
 gn (decide (aq=1)) (im H2 ((⟨Array.size I,0,none⟩:Addr).add 3) λaw=>
 gn (decide (aw=(⟨#[]⟩:ByteArray))) (im H2 ((⟨Array.size I,0,none⟩:Addr).add 5) λax=>R (decide (ax=(⟨#[]⟩:ByteArray))) H2) (R false H2)) (gn (decide (aq=3)) (im H2 ((⟨Array.size I,0,none⟩:Addr).add 3) λay=>
 gn (decide (ay=(⟨#[]⟩:ByteArray))) (im H2 ((⟨Array.size I,0,none⟩:Addr).add 5) λaz=>R (decide (az≠(⟨#[]⟩:ByteArray))) H2) (R false H2)) (False)))
theorem gY.eq(ad:Int)(ae:Int)(af:ByteArray)(ag:ByteArray)(ah:ByteArray)(ai:ByteArray)(I:Option Addr)(aa ab:Nat)(R:Bool->Heap->Prop)(H0:Heap):
 wF Tryz.prog gY.gD Tryz.f65 [.agg #[.int .i64 ad,.int .i64 ae,.string af,.string ag,.string ah,.string ai,.slice I aa ab]] (λv H'=>xS (.one .bool) v λr=>R r H') H0=gY.W ad ae af ag ah ai I aa ab R H0:=by kernel_rfl
theorem gY.calls{ad}{ae}{af}{ag}{ah}{ai}{I}{aa ab}{R}{H0}(h:gY.W ad ae af ag ah ai I aa ab R H0):gY.C ad ae af ag ah ai I aa ab H0 R:=
 (dp eF Tryz.func65 (by rw[gY.eq];exact h)).mono λv H' h=>by obtain⟨x,hv,hk⟩:=fS h;exact⟨x,hv,hk⟩
def eQ.gD:gR:={ord:=λ_=>.ord [],loop:=λi=>bif Nat.beq i 5 then some [(5,.one .bool),(27,.one (.int .i64))] else none,join:=λi=>bif Nat.beq i 2 then some [(5,.one .bool)] else bif Nat.beq i 10 then some [(5,.one .bool)] else bif Nat.beq i 11 then some [(5,.one .bool)] else none,cut:=λi=>[6,10].any (Nat.beq i)}
def eQ.W(ak:Int)(al:Int)(ao:ByteArray)(aq:ByteArray)(ar:ByteArray)(au:ByteArray)(ae:Option Addr)(af ag:Nat)(aO:Option Addr)(R:Bool->Heap->Prop)(H0:Heap):Prop:=
 eX (gy H0 #[.int .i64 ak,.int .i64 al,.string ao,.string aq,.string ar,.string au,.slice ae af ag] eH) λH1:Heap=>
 eW (S:=(Bool×Unit)) (λJ2=>im H1 ((⟨Array.size H0,0,none⟩:Addr).add 2) λaR=>im H1 ((⟨Array.size H0,0,none⟩:Addr).add 3) λaS=>
 gW.C aR aS H1 λaT H3=>
 gn aT (im H3 ((⟨Array.size H0,0,none⟩:Addr).add 5) λaU=>J2 (decide (aU=(⟨#[]⟩:ByteArray)),()) H3) (J2 (false,()) H3))
 (λs2 H2=>(λ(I:Bool)=>kK H2 ⟨Array.size H0,0,none⟩ λav aw ax ay az aA ah ai aj=>
 eX (gy H2 #[.int .i64 0,.int .i64 0,.string (⟨#[]⟩:ByteArray),.string (⟨#[]⟩:ByteArray),.string (⟨#[]⟩:ByteArray),.string (⟨#[]⟩:ByteArray),.slice none 0 0] eH) λH4:Heap=>nR [.int .i64 av,.int .i64 aw,.string ax,.string ay,.string az,.string aA,.slice ah ai aj] ⟨Array.size H2,0,none⟩ 0 H4 λH5=>eO H5 ((⟨Array.size H0,0,none⟩:Addr).add 6) λaB aC aD=>
 fH.C (aB) aC aD H5 λaE aF aG H6=>sV (.slice aE aF aG) ((⟨Array.size H2,0,none⟩:Addr).add 6) H6 λH7=>
 eW (S:=(Bool×Unit)) (λaX=>eO H7 ((⟨Array.size H0,0,none⟩:Addr).add 6) λbj aH bk=>
 lD (S:=(Bool×Int×Unit)) (λL5 q5 H9=>(λ(I:Bool)(aZ:Int)=>
 gn (decide (aZ<(aH:Int))) (
 eW (S:=(Bool×Unit)) (λbo=>False)
 (λa6 bq=>(λ(I:Bool)=>False) a6.1)) (aX (I,()) H9)) q5.1 q5.2.1) (I,(0:Int),()) H7)
 (λa7 H8=>(λ(I:Bool)=>
 gn I (jP.C (aO) (some ⟨Array.size H2,0,none⟩) H8 λba aa=>
 gn (decide (ba=0)) (im aa ((⟨Array.size H2,0,none⟩:Addr).add 4) λbb=>im aa ((⟨Array.size H0,0,none⟩:Addr).add 4) λbf=>
 gn (decide (bb=bf)) (eO aa ((⟨Array.size H2,0,none⟩:Addr).add 6) λaI aJ aK=>eO aa ((⟨Array.size H0,0,none⟩:Addr).add 6) λaL aM aN=>
 fF.C (aI) aJ aK (aL) aM aN aa λbg bh=>R (bg) bh) (R false aa)) (R false aa)) (R false H8)) a7.1)) s2.1)
theorem eQ.eq(ad:Int)(ae:Int)(af:ByteArray)(ag:ByteArray)(ah:ByteArray)(ai:ByteArray)(I:Option Addr)(aa ab:Nat)(aj:Option Addr)(R:Bool->Heap->Prop)(H0:Heap):
 wF Tryz.prog eQ.gD Tryz.f66 [.agg #[.int .i64 ad,.int .i64 ae,.string af,.string ag,.string ah,.string ai,.slice I aa ab],.pointer aj] (λv H'=>xS (.one .bool) v λr=>R r H') H0=eQ.W ad ae af ag ah ai I aa ab aj R H0:=by kernel_rfl
theorem eQ.calls{ad}{ae}{af}{ag}{ah}{ai}{I}{aa ab}{aj}{R}{H0}(h:eQ.W ad ae af ag ah ai I aa ab aj R H0):eQ.C ad ae af ag ah ai I aa ab aj H0 R:=
 (dp eF Tryz.func66 (by rw[eQ.eq];exact h)).mono λv H' h=>by obtain⟨x,hv,hk⟩:=fS h;exact⟨x,hv,hk⟩
def fx.gD:gR:={ord:=λ_=>.ord [],loop:=λ_=>none,join:=λ_=>none}
def fx.W(I:Option Addr)(ah:ByteArray)(R:Int->Value->Heap->Prop)(H0:Heap):Prop:=
 gJ.C (I) H0 λH1=>
 ∃ai:Addr,I=some ai/\eO H1 (ai.add 1) λaa ab ad=>jN iD 1 1 (.int .u8 0) aa ab ad (.string ah) H1 λae af ag H2=>
 ∃aj:Addr,I=some aj/\sV (.slice ae af ag) (aj.add 1) H2 λH3=>
 eX ((ah.size:Int)) λx4:Int=>R (x4) (.nilIface) H3
theorem fx.eq(I:Option Addr)(aa:ByteArray)(R:Int->Value->Heap->Prop)(H0:Heap):
 wF Tryz.prog fx.gD Tryz.f67 [.pointer I,.string aa] (λv H'=>xT [.one (.int .i64),.one .raw] v λr=>R r.1 r.2.1 H') H0=fx.W I aa R H0:=by kernel_rfl
theorem fx.calls{I}{aa}{R}{H0}(h:fx.W I aa R H0):fx.C I aa H0 R:=
 (dp eF Tryz.func67 (by rw[fx.eq];exact h)).mono λv H' h=>by obtain⟨x,hv,hk⟩:=dB h;exact⟨x.1,x.2.1,hv,hk⟩
def gA.gD:gR:={ord:=λi=>bif Nat.beq i 1 then .ord [0,1,2,3,4,5,6,7,8,9,10,11] else .ord [],loop:=λ_=>none,join:=λ_=>none}
def gA.W(ab:Option Addr)(R:ByteArray->Heap->Prop)(H0:Heap):Prop:=
 ∃x4:Addr,ab=some x4/\eO H0 (x4.add 1) λI ak ae=>(I.isSome=true->ae≠0)/\
 ∃x9:Addr,ab=some x9/\eO H0 (x9.add 1) λai aa aj=>Vi Tryz.prog El I (aa:Int) H0 λah H1=>R ah H1
theorem gA.eq(I:Option Addr)(R:ByteArray->Heap->Prop)(H0:Heap):
 wF Tryz.prog gA.gD Tryz.f69 [.pointer I] (λv H'=>xS (.one .str) v λr=>R r H') H0=gA.W I R H0:=by kernel_rfl
theorem gA.calls{I}{R}{H0}(h:gA.W I R H0):gA.C I H0 R:=
 (dp eF Tryz.func69 (by rw[gA.eq];exact h)).mono λv H' h=>by obtain⟨x,hv,hk⟩:=fS h;exact⟨x,hv,hk⟩
def je.gD:gR:={ord:=λ_=>.ord [],loop:=λi=>bif Nat.beq i 3 then some [(3,.one (.int .i64)),(8,.one (.int .i64))] else none,join:=λi=>bif Nat.beq i 8 then some [(3,.one (.int .i64))] else bif Nat.beq i 10 then some [(3,.one (.int .i64))] else bif Nat.beq i 11 then some [(3,.one (.int .i64))] else none}
def je.W(ab:Option Addr)(I aq:Nat)(R:Bool->Heap->Prop)(H0:Heap):Prop:=
 eW (S:=(Int×Unit)) (λag=>
 lD (S:=(Int×Int×Unit)) (λL3 q3 H2=>(λ(n3:Int)(x8:Int)=>
 gn (decide (x8<(I:Int))) (
 eW (S:=(Int×Unit)) (λai=>
 ∃ae:Addr,ab=some ae/\0<=x8/\x8<(I:Int)/\
 ∃af:Bool,dj H2 (ae.add x8.toNat)=some (.bool af)/\
 eW (S:=(Int×Unit)) (λJ8=>
 eX (IntKind.i64.wrap (n3-1)) λn3:Int=>
 gn af (eX (IntKind.i64.wrap (n3+2)) λn3:Int=>J8 ((n3:Int),()) H2) (J8 ((n3:Int),()) H2))
 (λs8 H4=>(λ(n3:Int)=>
 gn (decide (n3<0)) (R false H4) (ai ((n3:Int),()) H4)) s8.1))
 (λal H3=>(λ(n3:Int)=>L3 ((n3:Int),(IntKind.i64.wrap (x8+1):Int),()) H3) al.1)) (ag ((n3:Int),()) H2)) q3.1 q3.2.1) ((0:Int),(0:Int),()) H0)
 (λao H1=>(λ(n3:Int)=>R (decide (n3=0)) H1) ao.1)
theorem je.eq(I:Option Addr)(aa ab:Nat)(R:Bool->Heap->Prop)(H0:Heap):
 wF Tryz.prog je.gD Tryz.f70 [.slice I aa ab] (λv H'=>xS (.one .bool) v λr=>R r H') H0=je.W I aa ab R H0:=by kernel_rfl
theorem je.calls{I}{aa ab}{R}{H0}(h:je.W I aa ab R H0):je.C I aa ab H0 R:=
 (dp eF Tryz.func70 (by rw[je.eq];exact h)).mono λv H' h=>by obtain⟨x,hv,hk⟩:=fS h;exact⟨x,hv,hk⟩
def jq.gD:gR:={ord:=λi=>bif Nat.beq i 14 then .ord [0,1,2,3,4,5,6,7,8,9,10,11] else bif Nat.beq i 15 then .ord [0,1,2,3,4,5,6,7] else .ord [],loop:=λi=>bif Nat.beq i 6 then some [(6,.one (.int .i64))] else bif Nat.beq i 10 then some [(7,.one (.int .i64))] else none,join:=λi=>bif Nat.beq i 7 then some [] else bif Nat.beq i 11 then some [] else bif Nat.beq i 14 then some [] else bif Nat.beq i 16 then some [] else none}
def jq.W(az:Option Addr)(I aT:Nat)(R:Option Addr->Int->Heap->Prop)(H0:Heap):Prop:=
 gn (decide ((4194304:Int)<(I:Int))) (R (none) (7) H0) (eX (gy H0 #[.slice none 0 0,.int .i64 (I:Int)] mR) λH1:Heap=>
 eX (gy H1 #[.int .u64 0,.int .i64 0] ic) λH2:Heap=>
 eW (S:=Unit) (λaK=>
 lD (S:=(Int×Unit)) (λL6 q6 H4=>(λ(k6:Int)=>
 gn (decide (k6<=(I:Int))) (
 eW (S:=Unit) (λJ7=>(∃u,dj H4 ((⟨Array.size H1,0,none⟩:Addr).add 0)=some u)/\gO H4 ((⟨Array.size H1,0,none⟩:Addr).add 0)=false/\
 eX (nQ H4 ((⟨Array.size H1,0,none⟩:Addr).add 0) (.int .u64 0)) λH6:Heap=>
 eW (S:=Unit) (λaL=>
 lD (S:=(Int×Unit)) (λaM aN H8=>(λ(i7:Int)=>
 gn (decide (i7<(min (IntKind.i64.wrap (k6+64)) (I:Int)))) (
 eW (S:=Unit) (λaE=>
 ∃aF:Addr,az=some aF/\0<=i7/\i7<(I:Int)/\
 ∃aG:Bool,dj H8 (aF.add i7.toNat)=some (.bool aG)/\
 gn aG (∃aH:Int,dj H8 ((⟨Array.size H1,0,none⟩:Addr).add 0)=some (.int .u64 aH)/\0<=(IntKind.u64.wrap (IntKind.i64.wrap (i7-k6)))/\(∃u,dj H8 ((⟨Array.size H1,0,none⟩:Addr).add 0)=some u)/\gO H8 ((⟨Array.size H1,0,none⟩:Addr).add 0)=false/\
 eX (nQ H8 ((⟨Array.size H1,0,none⟩:Addr).add 0) (.int .u64 (BT .u64 aH (pf .u64 1 (IntKind.u64.wrap (IntKind.i64.wrap (i7-k6))))))) λaO:Heap=>aE () aO) (aE () H8))
 (λ_ H9=>
 eX (IntKind.i64.wrap (i7+1)) λaP:Int=>aM ((aP:Int),()) H9)) (aL () H8)) aN.1) ((k6:Int),()) H6)
 (λ_ H7=>
 ∃au:Addr,some ⟨Array.size H0,0,none⟩=some au/\
 ∃(aa:Option Addr)(ab ad:Nat),dj H7 (au.add 0)=some (.slice aa ab ad)/\
 ∃ai:Int,dj H7 ((⟨Array.size H1,0,none⟩:Addr).add 0)=some (.int .u64 ai)/\
 ∃aj:Int,dj H7 ((⟨Array.size H1,0,none⟩:Addr).add 1)=some (.int .i64 aj)/\
 eX (gy H7 #[.iface ic (.agg #[.int .u64 ai,.int .i64 aj])] gV) λaI:Heap=>(∃(ae:Option Addr)(af ag:Nat),dj aI (au.add 0)=some (.slice ae af ag)/\(.slice ae af ag:Value)=.slice aa ab ad)/\jN gV 1 16 (.nilIface) aa ab ad (.slice (some ⟨Array.size H7,0,none⟩) 1 1) aI λaB aC aD av=>
 ∃ak:Addr,some ⟨Array.size H0,0,none⟩=some ak/\(∃u,dj av (ak.add 0)=some u)/\gO av (ak.add 0)=false/\
 eX (nQ av (ak.add 0) (.slice aB aC aD)) λaw:Heap=>
 ∃ax:Int,dj aw ((⟨Array.size H1,0,none⟩:Addr).add 1)=some (.int .i64 ax)/\
 ∃aJ:Int,dj aw ((⟨Array.size H1,0,none⟩:Addr).add 0)=some (.int .u64 aJ)/\nV.C (aJ) aw λaQ al=>(∃ay:Int,dj al ((⟨Array.size H1,0,none⟩:Addr).add 1)=some (.int .i64 ay)/\(.int .i64 ay:Value)=.int .i64 ax)/\(∃u,dj al ((⟨Array.size H1,0,none⟩:Addr).add 1)=some u)/\gO al ((⟨Array.size H1,0,none⟩:Addr).add 1)=false/\
 eX (nQ al ((⟨Array.size H1,0,none⟩:Addr).add 1) (.int .i64 (IntKind.i64.wrap (ax+aQ)))) λaR:Heap=>J7 () aR))
 (λ_ H5=>
 eX (IntKind.i64.wrap (k6+64)) λaS:Int=>L6 ((aS:Int),()) H5)) (aK () H4)) q6.1) ((0:Int),()) H2)
 (λ_ H3=>R (some ⟨Array.size H0,0,none⟩) (0) H3))
theorem jq.eq(I:Option Addr)(aa ab:Nat)(R:Option Addr->Int->Heap->Prop)(H0:Heap):
 wF Tryz.prog jq.gD Tryz.f71 [.slice I aa ab] (λv H'=>xT [.one .ptr,.one (.int .i64)] v λr=>R r.1 r.2.1 H') H0=jq.W I aa ab R H0:=by kernel_rfl
theorem jq.calls{I}{aa ab}{R}{H0}(h:jq.W I aa ab R H0):jq.C I aa ab H0 R:=
 (dp eF Tryz.func71 (by rw[jq.eq];exact h)).mono λv H' h=>by obtain⟨x,hv,hk⟩:=dB h;exact⟨x.1,x.2.1,hv,hk⟩
def fL.gD:gR:={ord:=λ_=>.ord [],loop:=λ_=>none,join:=λ_=>none}
def fL.W(I:Int)(R:Int->Heap->Prop)(H0:Heap):Prop:=
 bits_Len64.C (I) H0 λx4 H1=>R (x4) H1
theorem fL.eq(I:Int)(R:Int->Heap->Prop)(H0:Heap):
 wF Tryz.prog fL.gD Tryz.f72 [.int .u64 I] (λv H'=>xS (.one (.int .i64)) v λr=>R r H') H0=fL.W I R H0:=by kernel_rfl
theorem fL.calls{I}{R}{H0}(h:fL.W I R H0):fL.C I H0 R:=
 (dp eF Tryz.func72 (by rw[fL.eq];exact h)).mono λv H' h=>by obtain⟨x,hv,hk⟩:=fS h;exact⟨x,hv,hk⟩
def j9.gD:gR:={ord:=λi=>bif Nat.beq i 15 then .ord [0,1,2,3,4,5,6,7,8,9,10,11] else .ord [],loop:=λi=>bif Nat.beq i 3 then some [(4,.one (.int .i64)),(14,.one (.int .i64))] else bif Nat.beq i 18 then some [(9,.one .slice),(70,.one (.int .i64))] else none,join:=λi=>bif Nat.beq i 9 then some [(4,.one (.int .i64))] else bif Nat.beq i 14 then some [] else bif Nat.beq i 23 then some [(9,.one .slice)] else none}
def j9.W(ar:Option Addr)(ab bm:Nat)(R:Option Addr->Int->Heap->Prop)(H0:Heap):Prop:=
 eW (S:=(Int×Unit)) (λJ9=>
 lD (S:=(Int×Int×Unit)) (λL3 q3 H2=>(λ(I:Int)(aq:Int)=>
 gn (decide (aq<(ab:Int))) (∃aO:Addr,ar=some aO/\0<=aq/\aq<(ab:Int)/\
 ∃ay:Int,dj H2 (aO.add aq.toNat)=some (.int .i64 ay)/\
 gn (decide (ay<I)) (R (none) (1) H2) (L3 ((ay:Int),(IntKind.i64.wrap (aq+1):Int),()) H2)) (J9 ((I:Int),()) H2)) q3.1 q3.2.1) ((0:Int),(0:Int),()) H0)
 (λs9 H1=>(λ(I:Int)=>
 gn (decide ((8388608:Int)<I)) (R (none) (1) H1) (eX (gy H1 #[.nilIface,.nilIface,.int .i64 (ab:Int),.int .i64 0,.int .i64 0] la) λH3:Heap=>
 eW (S:=Unit) (λaP=>
 ∃aQ:Addr,some ⟨Array.size H1,0,none⟩=some aQ/\
 ∃aR:Int,dj H3 (aQ.add 2)=some (.int .i64 aR)/\
 gn (decide ((0:Int)<aR)) (∃aS:Addr,some ⟨Array.size H1,0,none⟩=some aS/\
 ∃az:Int,dj H3 (aS.add 2)=some (.int .i64 az)/\az≠0/\fL.C (IntKind.u64.wrap (IntKind.i64.wrap (Int.tdiv I az))) H3 λa8 H5=>
 ∃au:Addr,some ⟨Array.size H1,0,none⟩=some au/\(∃u,dj H5 (au.add 3)=some u)/\gO H5 (au.add 3)=false/\
 eX (nQ H5 (au.add 3) (.int .i64 (max (IntKind.i64.wrap (a8-1)) 0))) λH6:Heap=>aP () H6) (aP () H3))
 (λ_ H4=>
 ∃aT:Addr,some ⟨Array.size H1,0,none⟩=some aT/\
 ∃aA:Int,dj H4 (aT.add 3)=some (.int .i64 aA)/\0<=(IntKind.u64.wrap aA)/\
 ∃av:Addr,some ⟨Array.size H1,0,none⟩=some av/\(∃u,dj H4 (av.add 4)=some u)/\gO H4 (av.add 4)=false/\
 eX (nQ H4 (av.add 4) (.int .i64 (kP .i64 I (IntKind.u64.wrap aA)))) λH7:Heap=>
 ∃aU:Addr,some ⟨Array.size H1,0,none⟩=some aU/\
 ∃ad:Int,dj H7 (aU.add 2)=some (.int .i64 ad)/\
 ∃aV:Addr,some ⟨Array.size H1,0,none⟩=some aV/\
 ∃ae:Int,dj H7 (aV.add 4)=some (.int .i64 ae)/\0<=IntKind.i64.wrap ((IntKind.i64.wrap (ad+ae))+1)/\IntKind.i64.wrap ((IntKind.i64.wrap (ad+ae))+1)<=IntKind.i64.wrap ((IntKind.i64.wrap (ad+ae))+1)/\((1:Nat):Int)*(IntKind.i64.wrap ((IntKind.i64.wrap (ad+ae))+1))<=281474976710656/\
 eX (gy H7 (iq (.bool false) ((IntKind.i64.wrap ((IntKind.i64.wrap (ad+ae))+1)).toNat)) eC) λH8:Heap=>
 eW (S:=((Option Addr×Nat×Nat)×Unit)) (λba=>
 lD (S:=((Option Addr×Nat×Nat)×Int×Unit)) (λbb aw ak=>(λ(af:Option Addr)(ag ah:Nat)(aa:Int)=>
 gn (decide (aa<(ab:Int))) (∃aW:Addr,ar=some aW/\0<=aa/\aa<(ab:Int)/\
 ∃ai:Int,dj ak (aW.add aa.toNat)=some (.int .i64 ai)/\
 ∃aX:Addr,some ⟨Array.size H1,0,none⟩=some aX/\
 ∃aj:Int,dj ak (aX.add 3)=some (.int .i64 aj)/\0<=(IntKind.u64.wrap aj)/\
 ∃ax:Addr,some ⟨Array.size H7,0,none⟩=some ax/\0<=IntKind.i64.wrap ((kP .i64 ai (IntKind.u64.wrap aj))+aa)/\IntKind.i64.wrap ((kP .i64 ai (IntKind.u64.wrap aj))+aa)<((IntKind.i64.wrap ((IntKind.i64.wrap (ad+ae))+1)).toNat:Int)/\(∃u,dj ak (ax.add ((IntKind.i64.wrap ((kP .i64 ai (IntKind.u64.wrap aj))+aa)).toNat))=some u)/\gO ak (ax.add ((IntKind.i64.wrap ((kP .i64 ai (IntKind.u64.wrap aj))+aa)).toNat))=false/\
 eX (nQ ak (ax.add ((IntKind.i64.wrap ((kP .i64 ai (IntKind.u64.wrap aj))+aa)).toNat)) (.bool true)) λaC:Heap=>
 ∃aY:Addr,some ⟨Array.size H1,0,none⟩=some aY/\
 ∃aD:Int,dj aC (aY.add 3)=some (.int .i64 aD)/\0<=(IntKind.u64.wrap aD)/\
 eX (gy aC #[.int .u64 (IntKind.u64.wrap (lN .i64 ai (IntKind.i64.wrap ((pf .i64 1 (IntKind.u64.wrap aD))-1))))] iW) λbf:Heap=>jN iW 1 8 (.int .u64 0) af ag ah (.slice (some ⟨Array.size aC,0,none⟩) 1 1) bf λaL aM aN bg=>bb ((aL,aM,aN),(IntKind.i64.wrap (aa+1):Int),()) bg) (ba ((af,ag,ah),()) ak)) aw.1.1 aw.1.2.1 aw.1.2.2 aw.2.1) ((none,0,0),(0:Int),()) H8)
 (λaE H9=>(λ(af:Option Addr)(ag ah:Nat)=>
 jq.C (some ⟨Array.size H7,0,none⟩) ((IntKind.i64.wrap ((IntKind.i64.wrap (ad+ae))+1)).toNat) ((IntKind.i64.wrap ((IntKind.i64.wrap (ad+ae))+1)).toNat) H9 λaF bh aG=>
 ∃al:Addr,some ⟨Array.size H1,0,none⟩=some al/\(∃u,dj aG (al.add 0)=some u)/\gO aG (al.add 0)=false/\
 eX (nQ aG (al.add 0) (.iface j5 (.pointer aF))) λbj:Heap=>
 kb.C (af) ag ah bj λa6 aH=>
 ∃ao:Addr,some ⟨Array.size H1,0,none⟩=some ao/\(∃u,dj aH (ao.add 1)=some u)/\gO aH (ao.add 1)=false/\
 eX (nQ aH (ao.add 1) (.iface qz (.pointer a6))) λbk:Heap=>R (some ⟨Array.size H1,0,none⟩) (0) bk) aE.1.1 aE.1.2.1 aE.1.2.2)))) s9.1)
theorem j9.eq(I:Option Addr)(aa ab:Nat)(R:Option Addr->Int->Heap->Prop)(H0:Heap):
 wF Tryz.prog j9.gD Tryz.f73 [.slice I aa ab] (λv H'=>xT [.one .ptr,.one (.int .i64)] v λr=>R r.1 r.2.1 H') H0=j9.W I aa ab R H0:=by kernel_rfl
theorem j9.calls{I}{aa ab}{R}{H0}(h:j9.W I aa ab R H0):j9.C I aa ab H0 R:=
 (dp eF Tryz.func73 (by rw[j9.eq];exact h)).mono λv H' h=>by obtain⟨x,hv,hk⟩:=dB h;exact⟨x.1,x.2.1,hv,hk⟩
def j7.gD:gR:={ord:=λi=>bif Nat.beq i 11 then .ord [0,1,2,3,4,5] else bif Nat.beq i 13 then .ord [0,1,2,3,4,5,6,7,8,9,10,11] else .ord [],loop:=λi=>bif Nat.beq i 7 then some [(1,.one (.int .i64))] else none,join:=λi=>bif Nat.beq i 4 then some [(13,.one .bool)] else bif Nat.beq i 5 then some [] else bif Nat.beq i 8 then some [] else bif Nat.beq i 17 then some [] else none,cut:=λi=>[2,4,16].any (Nat.beq i)}
def j7.W(aa:Option Addr)(I ab:Nat)(af:Int)(R:ByteArray->Int->Heap->Prop)(H0:Heap):Prop:=
 eW (S:=Unit) (λJ5=>
 jB.C (aa) I ab H0 λbg H2=>
 gn (!bg) (False) (
 eW (S:=(Bool×Unit)) (λJ4=>
 gn (decide (af<0)) (J4 (true,()) H2) (J4 (decide ((I:Int)<=af),()) H2))
 (λs4 H3=>(λ(bk:Bool)=>
 gn bk (False) (J5 () H3)) s4.1)))
 (λ_ H1=>
 eX (gy H1 #[.pointer none,.slice none 0 0,.slice none 0 0] oJ) λH4:Heap=>
 eW (S:=Unit) (λbm=>
 jC.C (aa) I ab (af) H4 λbn H6=>
 lD (S:=(Int×Unit)) (λL7 q7 H7=>(λ(k1:Int)=>
 gn (decide (k1<bn)) (
 eW (S:=Unit) (λJ8=>
 ∃aY:Addr,aa=some aY/\0<=k1/\k1<(I:Int)/\kK H7 (aY.add (k1.toNat*7)) λaD aE aF aG aH aI ak al ao=>
 eX (gy H7 #[.int .i64 0,.int .i64 0,.string (⟨#[]⟩:ByteArray),.string (⟨#[]⟩:ByteArray),.string (⟨#[]⟩:ByteArray),.string (⟨#[]⟩:ByteArray),.slice none 0 0] eH) λH9:Heap=>nR [.int .i64 aD,.int .i64 aE,.string aF,.string aG,.string aH,.string aI,.slice ak al ao] ⟨Array.size H7,0,none⟩ 0 H9 λaZ=>ff aZ ((⟨Array.size H7,0,none⟩:Addr).add 1) λbq=>
 nL.C (some ⟨Array.size H1,0,none⟩) (bq) aZ λa6=>
 ∃a7:Addr,some ⟨Array.size H1,0,none⟩=some a7/\kK a6 ⟨Array.size H7,0,none⟩ λaJ aK aL aM aN aO aq ar au=>
 j8.C (aJ) (aK) aL aM aN aO (aq) ar au a6 λbr bw=>
 fx.C (some (a7.add 0)) br bw λbH bI ay=>ff ay ((⟨Array.size H7,0,none⟩:Addr).add 0) λbx=>
 gn (decide (bx≠2)) (J8 () ay) (jC.C (aa) I ab (k1) ay λbz bA=>
 gn (decide (bz=(IntKind.i64.wrap (k1+1)))) (False) (∃a8:Addr,some ⟨Array.size H1,0,none⟩=some a8/\fx.C (some (a8.add 0)) (⟨#[62]⟩:ByteArray) bA λbJ bK ag=>
 ∃az:Addr,some ⟨Array.size H1,0,none⟩=some az/\eO ag (az.add 2) λah ai aj=>kK ag ⟨Array.size H7,0,none⟩ λaP aQ aR aS aT aU av aw ax=>
 eX (gy ag #[.iface eH (.agg #[.int .i64 aP,.int .i64 aQ,.string aR,.string aS,.string aT,.string aU,.slice av aw ax])] gV) λba:Heap=>(eO ba (az.add 2) λaA aB aC=>(.slice aA aB aC:Value)=.slice ah ai aj)/\jN gV 1 16 (.nilIface) ah ai aj (.slice (some ⟨Array.size ag,0,none⟩) 1 1) ba λaV aW aX bB=>
 ∃bb:Addr,some ⟨Array.size H1,0,none⟩=some bb/\sV (.slice aV aW aX) (bb.add 2) bB λbC=>J8 () bC)))
 (λ_ H8=>
 eX (IntKind.i64.wrap (k1+1)) λbD:Int=>L7 ((bD:Int),()) H8)) (bm () H7)) q7.1) ((af:Int),()) H6)
 (λ_ H5=>
 nL.C (some ⟨Array.size H1,0,none⟩) (0) H5 λbE=>
 ∃bf:Addr,some ⟨Array.size H1,0,none⟩=some bf/\gA.C (some (bf.add 0)) bE λbF bG=>R bF (0) bG))
theorem j7.eq(I:Option Addr)(aa ab:Nat)(ad:Int)(R:ByteArray->Int->Heap->Prop)(H0:Heap):
 wF Tryz.prog j7.gD Tryz.f75 [.slice I aa ab,.int .i64 ad] (λv H'=>xT [.one .str,.one (.int .i64)] v λr=>R r.1 r.2.1 H') H0=j7.W I aa ab ad R H0:=by kernel_rfl
theorem j7.calls{I}{aa ab}{ad}{R}{H0}(h:j7.W I aa ab ad R H0):j7.C I aa ab ad H0 R:=
 (dp eF Tryz.func75 (by rw[j7.eq];exact h)).mono λv H' h=>by obtain⟨x,hv,hk⟩:=dB h;exact⟨x.1,x.2.1,hv,hk⟩
def lZ.gD:gR:={ord:=λ_=>.ord [],loop:=λ_=>none,join:=λ_=>none}
def lZ.W(I:Option Addr)(R:Int->Heap->Prop)(H0:Heap):Prop:=
 gn (Option.isNone (I)) (R (0) H0) (∃x6:Addr,I=some x6/\
 ∃x8:Option Addr,dj H0 (x6.add 0)=some (.pointer x8)/\mh.C (x8) H0 λx9 H1=>R (x9) H1)
theorem lZ.eq(I:Option Addr)(R:Int->Heap->Prop)(H0:Heap):
 wF Tryz.prog lZ.gD Tryz.f76 [.pointer I] (λv H'=>xS (.one (.int .i64)) v λr=>R r H') H0=lZ.W I R H0:=by kernel_rfl
theorem lZ.calls{I}{R}{H0}(h:lZ.W I R H0):lZ.C I H0 R:=
 (dp eF Tryz.func76 (by rw[lZ.eq];exact h)).mono λv H' h=>by obtain⟨x,hv,hk⟩:=fS h;exact⟨x,hv,hk⟩
def mw.gD:gR:={ord:=λi=>bif Nat.beq i 3 then .ord [0,1,2,3,4,5,6,7,8,9,10,11] else .ord [],loop:=λ_=>none,join:=λi=>bif Nat.beq i 2 then some [(11,.one .bool)] else bif Nat.beq i 3 then some [] else none,cut:=λi=>[2].any (Nat.beq i)}
def mw.W(I:Option Addr)(ab:Int)(R:Option Addr->Int->Heap->Prop)(H0:Heap):Prop:=
 eW (S:=Unit) (λJ3=>
 eW (S:=(Bool×Unit)) (λJ2=>
 gn (Option.isNone (I)) (J2 (true,()) H0) (J2 (decide (ab<0),()) H0))
 (λs2 H2=>(λ(ai:Bool)=>
 gn ai (False) (J3 () H2)) s2.1))
 (λ_ H1=>
 ∃aa:Addr,I=some aa/\lj H1 (aa.add 0) λad=>
 ∃ae:Addr,I=some ae/\lj H1 (ae.add 0) λaj=>
 jR.C (aj) (ab) H1 λak H3=>(lj H3 (aa.add 0) λaf=>(.pointer af:Value)=.pointer ad)/\R (ad) (ak) H3)
theorem mw.eq(I:Option Addr)(aa:Int)(R:Option Addr->Int->Heap->Prop)(H0:Heap):
 wF Tryz.prog mw.gD Tryz.f77 [.pointer I,.int .i64 aa] (λv H'=>xT [.one .ptr,.one (.int .i64)] v λr=>R r.1 r.2.1 H') H0=mw.W I aa R H0:=by kernel_rfl
theorem mw.calls{I}{aa}{R}{H0}(h:mw.W I aa R H0):mw.C I aa H0 R:=
 (dp eF Tryz.func77 (by rw[mw.eq];exact h)).mono λv H' h=>by obtain⟨x,hv,hk⟩:=dB h;exact⟨x.1,x.2.1,hv,hk⟩
def dA.gD:gR:={ord:=λ_=>.ord [],loop:=λ_=>none,join:=λi=>bif Nat.beq i 2 then some [(15,.one .bool)] else bif Nat.beq i 3 then some [] else none,cut:=λi=>[2].any (Nat.beq i)}
def dA.W(aB:Option Addr)(ao:Int)(R:Int->Int->ByteArray->ByteArray->ByteArray->ByteArray->Option Addr->Nat->Nat->Int->Heap->Prop)(H0:Heap):Prop:=
 eX (gy H0 #[.int .i64 0,.int .i64 0,.string (⟨#[]⟩:ByteArray),.string (⟨#[]⟩:ByteArray),.string (⟨#[]⟩:ByteArray),.string (⟨#[]⟩:ByteArray),.slice none 0 0] eH) λH1:Heap=>
 eW (S:=Unit) (λJ3=>
 eW (S:=(Bool×Unit)) (λJ2=>
 gn (decide (ao<0)) (J2 (true,()) H1) (dQ.C (aB) H1 λaF H4=>J2 (decide (aF<=ao),()) H4))
 (λs2 H3=>(λ(aG:Bool)=>
 gn aG (False) (J3 () H3)) s2.1))
 (λ_ H2=>
 dd.C (aB) (ao) H2 λad ae af ag ah ai I aa ab aP H5=>
 eX (gy H5 #[.int .i64 0,.int .i64 0,.string (⟨#[]⟩:ByteArray),.string (⟨#[]⟩:ByteArray),.string (⟨#[]⟩:ByteArray),.string (⟨#[]⟩:ByteArray),.slice none 0 0] eH) λH6:Heap=>nR [.int .i64 ad,.int .i64 ae,.string af,.string ag,.string ah,.string ai,.slice I aa ab] ⟨Array.size H5,0,none⟩ 0 H6 λH7=>kK H7 ⟨Array.size H5,0,none⟩ λaq ar au av aw ax aj ak al=>nR [.int .i64 aq,.int .i64 ar,.string au,.string av,.string aw,.string ax,.slice aj ak al] ⟨Array.size H0,0,none⟩ 0 H7 λH8=>kK H8 ⟨Array.size H0,0,none⟩ λaJ aK aL aM aN aO ay az aA=>R (aJ) (aK) aL aM aN aO (ay) az aA (0) H8)
theorem dA.eq(I:Option Addr)(aa:Int)(R:Int->Int->ByteArray->ByteArray->ByteArray->ByteArray->Option Addr->Nat->Nat->Int->Heap->Prop)(H0:Heap):
 wF Tryz.prog dA.gD Tryz.f78 [.pointer I,.int .i64 aa] (λv H'=>xT [.agg [.int .i64,.int .i64,.str,.str,.str,.str,.slice],.one (.int .i64)] v λr=>R r.1.1 r.1.2.1 r.1.2.2.1 r.1.2.2.2.1 r.1.2.2.2.2.1 r.1.2.2.2.2.2.1 r.1.2.2.2.2.2.2.1.1 r.1.2.2.2.2.2.2.1.2.1 r.1.2.2.2.2.2.2.1.2.2 r.2.1 H') H0=dA.W I aa R H0:=by kernel_rfl
theorem dA.calls{I}{aa}{R}{H0}(h:dA.W I aa R H0):dA.C I aa H0 R:=
 (dp eF Tryz.func78 (by rw[dA.eq];exact h)).mono λv H' h=>by obtain⟨x,hv,hk⟩:=dB h;exact⟨x.1.1,x.1.2.1,x.1.2.2.1,x.1.2.2.2.1,x.1.2.2.2.2.1,x.1.2.2.2.2.2.1,x.1.2.2.2.2.2.2.1.1,x.1.2.2.2.2.2.2.1.2.1,x.1.2.2.2.2.2.2.1.2.2,x.2.1,hv,hk⟩
def eo.gD:gR:={ord:=λ_=>.ord [],loop:=λ_=>none,join:=λ_=>none,cut:=λi=>[2].any (Nat.beq i)}
def eo.W(ai:ByteArray)(ag:Bool)(R:Int->Int->Option Addr->Nat->Nat->Option Addr->Nat->Nat->Heap->Prop)(H0:Heap):Prop:=
 eX (gy H0 #[.int .i64 0,.int .i64 0,.slice none 0 0,.slice none 0 0] fq) λH1:Heap=>
 gn (!ag) (False) (eX (gy H1 #[.string ai] dZ) λH2:Heap=>nR [.int .i64 0,.int .i64 0,.slice (some ⟨Array.size H1,0,none⟩) 1 1,.slice none 0 0] ⟨Array.size H0,0,none⟩ 0 H2 λH3=>nu H3 ⟨Array.size H0,0,none⟩ λak al I aa ab ad ae af=>R (ak) (al) (I) aa ab (ad) ae af H3)
theorem eo.eq(aa:ByteArray)(I:Bool)(R:Int->Int->Option Addr->Nat->Nat->Option Addr->Nat->Nat->Heap->Prop)(H0:Heap):
 wF Tryz.prog eo.gD Tryz.f79 [.string aa,.bool I] (λv H'=>xS (.agg [.int .i64,.int .i64,.slice,.slice]) v λr=>R r.1 r.2.1 r.2.2.1.1 r.2.2.1.2.1 r.2.2.1.2.2 r.2.2.2.1.1 r.2.2.2.1.2.1 r.2.2.2.1.2.2 H') H0=eo.W aa I R H0:=by kernel_rfl
theorem eo.calls{aa}{I}{R}{H0}(h:eo.W aa I R H0):eo.C aa I H0 R:=
 (dp eF Tryz.func79 (by rw[eo.eq];exact h)).mono λv H' h=>by obtain⟨x,hv,hk⟩:=fS h;exact⟨x.1,x.2.1,x.2.2.1.1,x.2.2.1.2.1,x.2.2.1.2.2,x.2.2.2.1.1,x.2.2.2.1.2.1,x.2.2.2.1.2.2,hv,hk⟩
def fm.gD:gR:={ord:=λ_=>.ord [],loop:=λi=>bif Nat.beq i 8 then some [(12,.one .slice),(38,.one (.int .i64))] else bif Nat.beq i 12 then some [(12,.one .slice),(17,.one (.int .i64))] else none,join:=λi=>bif Nat.beq i 17 then some [(12,.one .slice)] else bif Nat.beq i 18 then some [(12,.one .slice)] else none,cut:=λi=>[2,4].any (Nat.beq i)}
def fm.W(ad:Option Addr)(az:Int)(ao:ByteArray)(aj:ByteArray)(R:Option Addr->Nat->Nat->Int->Heap->Prop)(H0:Heap):Prop:=
 gn (Option.isNone (ad)) (False) (kr.C (ad) (az) H0 λaI H1=>
 gn (!aI) (False) (iw.C (ad) (az) H1 λaq ar H2=>
 eW (S:=((Option Addr×Nat×Nat)×Unit)) (λaJ=>
 jf.C (ad) ao aj H2 λau af aP H4=>
 lD (S:=((Option Addr×Nat×Nat)×Int×Unit)) (λL8 q8 H5=>(λ(I:Option Addr)(aa ab:Nat)(ae:Int)=>
 gn (decide (ae<(af:Int))) (
 eW (S:=((Option Addr×Nat×Nat)×Unit)) (λaA=>
 ∃aB:Addr,au=some aB/\0<=ae/\ae<(af:Int)/\Xw H5 (aB.add ae.toNat) λaK=>
 ∃aC:Int,∃ag:Bool,pc (aK) gv (.int .i64 aC) (.int .i64 0) ag/\
 lD (S:=((Option Addr×Nat×Nat)×Int×Unit)) (λaL ah H7=>(λ(I:Option Addr)(aa ab:Nat)(ai:Int)=>
 gn ag (∃aD:Addr,ad=some aD/\lj H7 (aD.add 1) λaM=>
 dX.C (aM) (aq) (ar) (aC) (ai) H7 λaE H8=>
 gn (decide (aE<0)) (aA ((I,aa,ab),()) H8) (eX (gy H8 #[.int .i64 aE] gv) λH9:Heap=>jN gv 1 8 (.int .i64 0) I aa ab (.slice (some ⟨Array.size H8,0,none⟩) 1 1) H9 λaw ax ay aN=>
 eX (IntKind.i64.wrap (ai+1)) λai:Int=>aL ((aw,ax,ay),(ai:Int),()) aN)) (aA ((I,aa,ab),()) H7)) ah.1.1 ah.1.2.1 ah.1.2.2 ah.2.1) ((I,aa,ab),(0:Int),()) H5)
 (λak H6=>(λ(I:Option Addr)(aa ab:Nat)=>L8 ((I,aa,ab),(IntKind.i64.wrap (ae+1):Int),()) H6) ak.1.1 ak.1.2.1 ak.1.2.2)) (aJ ((I,aa,ab),()) H5)) q8.1.1 q8.1.2.1 q8.1.2.2 q8.2.1) ((none,0,0),(0:Int),()) H4)
 (λal H3=>(λ(I:Option Addr)(aa ab:Nat)=>
 pq.C (I) aa ab H3 λaO=>R (I) aa ab (0) aO) al.1.1 al.1.2.1 al.1.2.2)))
theorem fm.eq(ab:Option Addr)(ad:Int)(aa:ByteArray)(I:ByteArray)(R:Option Addr->Nat->Nat->Int->Heap->Prop)(H0:Heap):
 wF Tryz.prog fm.gD Tryz.f82 [.pointer ab,.int .i64 ad,.string aa,.string I] (λv H'=>xT [.one .slice,.one (.int .i64)] v λr=>R r.1.1 r.1.2.1 r.1.2.2 r.2.1 H') H0=fm.W ab ad aa I R H0:=by kernel_rfl
theorem fm.calls{ab}{ad}{aa}{I}{R}{H0}(h:fm.W ab ad aa I R H0):fm.C ab ad aa I H0 R:=
 (dp eF Tryz.func82 (by rw[fm.eq];exact h)).mono λv H' h=>by obtain⟨x,hv,hk⟩:=dB h;exact⟨x.1.1,x.1.2.1,x.1.2.2,x.2.1,hv,hk⟩
def fi.gD:gR:={ord:=λ_=>.ord [],loop:=λi=>bif Nat.beq i 6 then some [(8,.one (.int .i64))] else none,join:=λi=>bif Nat.beq i 3 then some [(26,.one .bool)] else bif Nat.beq i 4 then some [] else bif Nat.beq i 7 then some [] else bif Nat.beq i 12 then some [] else none,cut:=λi=>[3].any (Nat.beq i)}
def fi.W(aa:Option Addr)(ag:Int)(R:ByteArray->Heap->Prop)(H0:Heap):Prop:=
 dA.C (aa) (ag) H0 λah ai aj ak al ao ab ad ae aT H1=>
 eX (gy H1 #[.int .i64 0,.int .i64 0,.string (⟨#[]⟩:ByteArray),.string (⟨#[]⟩:ByteArray),.string (⟨#[]⟩:ByteArray),.string (⟨#[]⟩:ByteArray),.slice none 0 0] eH) λH2:Heap=>nR [.int .i64 ah,.int .i64 ai,.string aj,.string ak,.string al,.string ao,.slice ab ad ae] ⟨Array.size H1,0,none⟩ 0 H2 λH3=>
 eW (S:=Unit) (λJ4=>
 eW (S:=(Bool×Unit)) (λJ3=>ff H3 ((⟨Array.size H1,0,none⟩:Addr).add 0) λaE=>
 gn (decide (aE≠1)) (ff H3 ((⟨Array.size H1,0,none⟩:Addr).add 0) λaF=>J3 (decide (aF≠2),()) H3) (J3 (false,()) H3))
 (λs3 H5=>(λ(aG:Bool)=>
 gn aG (False) (J4 () H5)) s3.1))
 (λ_ H4=>
 eX (gy H4 #[.pointer none,.slice none 0 0] lz) λH6:Heap=>
 eW (S:=Unit) (λaH=>
 eX (IntKind.i64.wrap (ag+1)) λp8:Int=>
 lD (S:=(Int×Unit)) (λL6 q6 H8=>(λ(p8:Int)=>
 iu.C (aa) (ag) H8 λaI H9=>
 gn (decide (p8<(IntKind.i64.wrap (ag+aI)))) (
 eW (S:=Unit) (λJ7=>
 ∃ax:Addr,aa=some ax/\lj H9 (ax.add 1) λaK=>
 dO.C (aK) (p8) H9 λI aU af=>
 ∃ay:Addr,aa=some ay/\eO af (ay.add 3) λau av aV=>
 ∃az:Addr,au=some az/\0<=I/\I<(av:Int)/\ff af ((az.add (I.toNat*7)).add 0) λaL=>
 gn (decide (aL=3)) (∃aA:Addr,aa=some aA/\lj af (aA.add 2) λaM=>
 dC.C (aM) (p8) af λaw aW aN=>
 fx.C (some ⟨Array.size H4,0,none⟩) aw aN λaX aY aO=>J7 () aO) (J7 () af))
 (λ_ aP=>
 eX (IntKind.i64.wrap (p8+1)) λaQ:Int=>L6 ((aQ:Int),()) aP)) (aH () H9)) q6.1) ((p8:Int),()) H6)
 (λ_ H7=>
 gA.C (some ⟨Array.size H4,0,none⟩) H7 λaR aS=>R aR aS))
theorem fi.eq(I:Option Addr)(aa:Int)(R:ByteArray->Heap->Prop)(H0:Heap):
 wF Tryz.prog fi.gD Tryz.f86 [.pointer I,.int .i64 aa] (λv H'=>xS (.one .str) v λr=>R r H') H0=fi.W I aa R H0:=by kernel_rfl
theorem fi.calls{I}{aa}{R}{H0}(h:fi.W I aa R H0):fi.C I aa H0 R:=
 (dp eF Tryz.func86 (by rw[fi.eq];exact h)).mono λv H' h=>by obtain⟨x,hv,hk⟩:=fS h;exact⟨x,hv,hk⟩
def eA.gD:gR:={ord:=λ_=>.ord [],loop:=λ_=>none,join:=λ_=>none,cut:=λi=>[4].any (Nat.beq i)}
def eA.W(aX:Option Addr)(aQ:Int)(aR:Int)(aS:Int)(aT:ByteArray)(aU:ByteArray)(R:Int->Int->Option Addr->Nat->Nat->Option Addr->Nat->Nat->Heap->Prop)(H0:Heap):Prop:=
 eX (gy H0 #[.int .i64 aQ,.int .i64 aR,.int .i64 aS,.string aT,.string aU] kj) λH1:Heap=>
 eX (gy H1 #[.int .i64 0,.int .i64 0,.slice none 0 0,.slice none 0 0] fq) λH2:Heap=>
 eX (H2.push (.map #[] 0)) λH3:Heap=>
 ∃(ae:Array MapEntry)(af:Nat),H3[(Array.size H2)]?=some (.map ae af)/\(∀em w,(Instr.checkKey em 10000 gv (.int .i64 5)).run Tryz.prog w=.ok () w)/\(∀w,(Instr.findKey gv (.int .i64 5) ae.toList).run Tryz.prog w=.ok none w)/\
 eX (Array.setIfInBounds H3 (Array.size H2) (.map (ae.push {key:=.int .i64 5,val:=.iface ja (.func (.func 147) #[] #[]),born:=af}) (af+1))) λaY:Heap=>
 ∃(ag:Array MapEntry)(ah:Nat),aY[(Array.size H2)]?=some (.map ag ah)/\(∀em w,(Instr.checkKey em 10000 gv (.int .i64 6)).run Tryz.prog w=.ok () w)/\(∀w,(Instr.findKey gv (.int .i64 6) ag.toList).run Tryz.prog w=.ok none w)/\
 eX (Array.setIfInBounds aY (Array.size H2) (.map (ag.push {key:=.int .i64 6,val:=.iface ja (.func (.func 164) #[] #[]),born:=ah}) (ah+1))) λaZ:Heap=>
 ∃(ai:Array MapEntry)(aj:Nat),aZ[(Array.size H2)]?=some (.map ai aj)/\(∀em w,(Instr.checkKey em 10000 gv (.int .i64 7)).run Tryz.prog w=.ok () w)/\(∀w,(Instr.findKey gv (.int .i64 7) ai.toList).run Tryz.prog w=.ok none w)/\
 eX (Array.setIfInBounds aZ (Array.size H2) (.map (ai.push {key:=.int .i64 7,val:=.iface ja (.func (.func 165) #[] #[]),born:=aj}) (aj+1))) λa6:Heap=>
 ∃(ak:Array MapEntry)(al:Nat),a6[(Array.size H2)]?=some (.map ak al)/\(∀em w,(Instr.checkKey em 10000 gv (.int .i64 8)).run Tryz.prog w=.ok () w)/\(∀w,(Instr.findKey gv (.int .i64 8) ak.toList).run Tryz.prog w=.ok none w)/\
 eX (Array.setIfInBounds a6 (Array.size H2) (.map (ak.push {key:=.int .i64 8,val:=.iface ja (.func (.func 152) #[] #[]),born:=al}) (al+1))) λa7:Heap=>
 ∃(ao:Array MapEntry)(aq:Nat),a7[(Array.size H2)]?=some (.map ao aq)/\(∀em w,(Instr.checkKey em 10000 gv (.int .i64 9)).run Tryz.prog w=.ok () w)/\(∀w,(Instr.findKey gv (.int .i64 9) ao.toList).run Tryz.prog w=.ok none w)/\
 eX (Array.setIfInBounds a7 (Array.size H2) (.map (ao.push {key:=.int .i64 9,val:=.iface ja (.func (.func 153) #[] #[]),born:=aq}) (aq+1))) λa8:Heap=>
 ∃(ar:Array MapEntry)(au:Nat),a8[(Array.size H2)]?=some (.map ar au)/\(∀em w,(Instr.checkKey em 10000 gv (.int .i64 17)).run Tryz.prog w=.ok () w)/\(∀w,(Instr.findKey gv (.int .i64 17) ar.toList).run Tryz.prog w=.ok none w)/\
 eX (Array.setIfInBounds a8 (Array.size H2) (.map (ar.push {key:=.int .i64 17,val:=.iface ja (.func (.func 166) #[] #[]),born:=au}) (au+1))) λad:Heap=>ff ad ((⟨Array.size H0,0,none⟩:Addr).add 0) λba=>
 ∃(aB:Array MapEntry)(aE:Nat)(aD:Option (Nat×Value)),ad[(Array.size H2)]?=some (.map aB aE)/\(∀em w,(Instr.checkKey em 10000 gv (.int .i64 ba)).run Tryz.prog w=.ok () w)/\(∀w,(Instr.findKey gv (.int .i64 ba) aB.toList).run Tryz.prog w=.ok aD w)/\PK aD (λaW=>
 ∃bb:Value,aW=bb/\
 ∃aC:Value,∃ab:Bool,pc (bb) ja (aC) (.nilFunc) ab/\
 gn (!ab) (False) (ff ad ((⟨Array.size H0,0,none⟩:Addr).add 1) λaF=>MD Tryz.prog aC [.pointer aX,.int .i64 aF] ad λI aG=>A1 I ((∃u,dj aG ((⟨Array.size H1,0,none⟩:Addr).add 0)=some u)/\gO aG ((⟨Array.size H1,0,none⟩:Addr).add 0)=false/\
 eX (nQ aG ((⟨Array.size H1,0,none⟩:Addr).add 0) (.int .i64 0)) λaH:Heap=>A1 I ((∃u,dj aH ((⟨Array.size H1,0,none⟩:Addr).add 1)=some u)/\gO aH ((⟨Array.size H1,0,none⟩:Addr).add 1)=false/\
 eX (nQ aH ((⟨Array.size H1,0,none⟩:Addr).add 1) (I)) λaI:Heap=>(∃u,dj aI ((⟨Array.size H1,0,none⟩:Addr).add 2)=some u)/\gO aI ((⟨Array.size H1,0,none⟩:Addr).add 2)=false/\
 eX (nQ aI ((⟨Array.size H1,0,none⟩:Addr).add 2) (.slice none 0 0)) λaJ:Heap=>(∃u,dj aJ ((⟨Array.size H1,0,none⟩:Addr).add 3)=some u)/\gO aJ ((⟨Array.size H1,0,none⟩:Addr).add 3)=false/\
 eX (nQ aJ ((⟨Array.size H1,0,none⟩:Addr).add 3) (.slice none 0 0)) λbf:Heap=>nu bf ⟨Array.size H1,0,none⟩ λaK aL av aw ax ay az aA=>R (aK) (aL) (av) aw ax (ay) az aA bf)))) (∃aC:Value,∃ab:Bool,pc (.nilIface) ja (aC) (.nilFunc) ab/\
 gn (!ab) (False) (ff ad ((⟨Array.size H0,0,none⟩:Addr).add 1) λaF=>MD Tryz.prog aC [.pointer aX,.int .i64 aF] ad λI aM=>A1 I ((∃u,dj aM ((⟨Array.size H1,0,none⟩:Addr).add 0)=some u)/\gO aM ((⟨Array.size H1,0,none⟩:Addr).add 0)=false/\
 eX (nQ aM ((⟨Array.size H1,0,none⟩:Addr).add 0) (.int .i64 0)) λaN:Heap=>A1 I ((∃u,dj aN ((⟨Array.size H1,0,none⟩:Addr).add 1)=some u)/\gO aN ((⟨Array.size H1,0,none⟩:Addr).add 1)=false/\
 eX (nQ aN ((⟨Array.size H1,0,none⟩:Addr).add 1) (I)) λaO:Heap=>(∃u,dj aO ((⟨Array.size H1,0,none⟩:Addr).add 2)=some u)/\gO aO ((⟨Array.size H1,0,none⟩:Addr).add 2)=false/\
 eX (nQ aO ((⟨Array.size H1,0,none⟩:Addr).add 2) (.slice none 0 0)) λaP:Heap=>(∃u,dj aP ((⟨Array.size H1,0,none⟩:Addr).add 3)=some u)/\gO aP ((⟨Array.size H1,0,none⟩:Addr).add 3)=false/\
 eX (nQ aP ((⟨Array.size H1,0,none⟩:Addr).add 3) (.slice none 0 0)) λbg:Heap=>nu bg ⟨Array.size H1,0,none⟩ λaK aL av aw ax ay az aA=>R (aK) (aL) (av) aw ax (ay) az aA bg))))
theorem eA.eq(af:Option Addr)(I:Int)(aa:Int)(ab:Int)(ad:ByteArray)(ae:ByteArray)(R:Int->Int->Option Addr->Nat->Nat->Option Addr->Nat->Nat->Heap->Prop)(H0:Heap):
 wF Tryz.prog eA.gD Tryz.f88 [.pointer af,.agg #[.int .i64 I,.int .i64 aa,.int .i64 ab,.string ad,.string ae]] (λv H'=>xS (.agg [.int .i64,.int .i64,.slice,.slice]) v λr=>R r.1 r.2.1 r.2.2.1.1 r.2.2.1.2.1 r.2.2.1.2.2 r.2.2.2.1.1 r.2.2.2.1.2.1 r.2.2.2.1.2.2 H') H0=eA.W af I aa ab ad ae R H0:=by kernel_rfl
theorem eA.calls{af}{I}{aa}{ab}{ad}{ae}{R}{H0}(h:eA.W af I aa ab ad ae R H0):eA.C af I aa ab ad ae H0 R:=
 (dp eF Tryz.func88 (by rw[eA.eq];exact h)).mono λv H' h=>by obtain⟨x,hv,hk⟩:=fS h;exact⟨x.1,x.2.1,x.2.2.1.1,x.2.2.1.2.1,x.2.2.1.2.2,x.2.2.2.1.1,x.2.2.2.1.2.1,x.2.2.2.1.2.2,hv,hk⟩
def dO.gD:gR:={ord:=λ_=>.ord [],loop:=λi=>bif Nat.beq i 6 then some [(1,.one (.int .i64)),(6,.one (.int .i64)),(26,.one (.int .i64))] else none,join:=λi=>bif Nat.beq i 2 then some [(17,.one .bool)] else bif Nat.beq i 3 then some [] else bif Nat.beq i 12 then some [(6,.one (.int .i64))] else bif Nat.beq i 13 then some [(1,.one (.int .i64)),(6,.one (.int .i64))] else bif Nat.beq i 14 then some [(6,.one (.int .i64))] else none}
def dO.W(aa:Option Addr)(ag:Int)(R:Int->Int->Heap->Prop)(H0:Heap):Prop:=
 eW (S:=Unit) (λJ3=>
 eW (S:=(Bool×Unit)) (λJ2=>
 gn (decide (ag<0)) (J2 (true,()) H0) (dY.C (aa) H0 λav H3=>J2 (decide (av<=ag),()) H3))
 (λs2 H2=>(λ(ax:Bool)=>
 gn ax (R (0) (4) H2) (J3 () H2)) s2.1))
 (λ_ H1=>
 ∃ab:Addr,aa=some ab/\(∃u,dj H1 (ab.add 3)=some u)/\gO H1 (ab.add 3)=false/\
 eX (nQ H1 (ab.add 3) (.int .i64 0)) λH4:Heap=>
 eW (S:=(Int×Unit)) (λaz=>
 ∃ak:Addr,aa=some ak/\
 ∃(ah:Option Addr)(ad ai:Nat),dj H4 (ak.add 0)=some (.slice ah ad ai)/\
 lD (S:=(Int×Int×Int×Unit)) (λL6 q6 H6=>(λ(k1:Int)(I:Int)(ae:Int)=>
 gn (decide (ae<(ad:Int))) (
 eW (S:=(Int×Int×Unit)) (λaA=>
 pT.C (aa) (ae) H6 λaB H8=>
 dR.C (aB) (k1) H8 λaf aI H9=>
 eW (S:=(Int×Unit)) (λal=>
 eX (IntKind.i64.wrap (I*2)) λI:Int=>
 gn af (eX (IntKind.i64.wrap (I+1)) λI:Int=>al ((I:Int),()) H9) (al ((I:Int),()) H9))
 (λaD aE=>(λ(I:Int)=>
 pR.C (aa) (ae) (k1) (af) aE λaF aG=>aA ((aF:Int),(I:Int),()) aG) aD.1))
 (λao H7=>(λ(k1:Int)(I:Int)=>L6 ((k1:Int),(I:Int),(IntKind.i64.wrap (ae+1):Int),()) H7) ao.1 ao.2.1)) (az ((I:Int),()) H6)) q6.1 q6.2.1 q6.2.2.1) ((ag:Int),(0:Int),(0:Int),()) H4)
 (λaH H5=>(λ(I:Int)=>R (I) (0) H5) aH.1))
theorem dO.eq(I:Option Addr)(aa:Int)(R:Int->Int->Heap->Prop)(H0:Heap):
 wF Tryz.prog dO.gD Tryz.f95 [.pointer I,.int .i64 aa] (λv H'=>xT [.one (.int .i64),.one (.int .i64)] v λr=>R r.1 r.2.1 H') H0=dO.W I aa R H0:=by kernel_rfl
theorem dO.calls{I}{aa}{R}{H0}(h:dO.W I aa R H0):dO.C I aa H0 R:=
 (dp eF Tryz.func95 (by rw[dO.eq];exact h)).mono λv H' h=>by obtain⟨x,hv,hk⟩:=dB h;exact⟨x.1,x.2.1,hv,hk⟩
def jO.gD:gR:={ord:=λ_=>.ord [],loop:=λ_=>none,join:=λi=>bif Nat.beq i 2 then some [(12,.one .bool)] else bif Nat.beq i 3 then some [] else none}
def jO.W(aa:Option Addr)(I:Int)(R:Int->Heap->Prop)(H0:Heap):Prop:=
 eW (S:=Unit) (λJ3=>
 eW (S:=(Bool×Unit)) (λJ2=>
 gn (decide (I<0)) (J2 (true,()) H0) (lZ.C (aa) H0 λae H3=>J2 (decide (ae<=I),()) H3))
 (λs2 H2=>(λ(ag:Bool)=>
 gn ag (R (-1) H2) (J3 () H2)) s2.1))
 (λ_ H1=>
 iS.C (aa) (I) H1 λah H4=>R (ah) H4)
theorem jO.eq(I:Option Addr)(aa:Int)(R:Int->Heap->Prop)(H0:Heap):
 wF Tryz.prog jO.gD Tryz.f96 [.pointer I,.int .i64 aa] (λv H'=>xS (.one (.int .i64)) v λr=>R r H') H0=jO.W I aa R H0:=by kernel_rfl
theorem jO.calls{I}{aa}{R}{H0}(h:jO.W I aa R H0):jO.C I aa H0 R:=
 (dp eF Tryz.func96 (by rw[jO.eq];exact h)).mono λv H' h=>by obtain⟨x,hv,hk⟩:=fS h;exact⟨x,hv,hk⟩
def jR.gD:gR:={ord:=λ_=>.ord [],loop:=λ_=>none,join:=λ_=>none}
def jR.W(I:Option Addr)(ad:Int)(R:Int->Heap->Prop)(H0:Heap):Prop:=
 gn (Option.isNone (I)) (R (-1) H0) (∃x8:Addr,I=some x8/\
 ∃aa:Option Addr,dj H0 (x8.add 0)=some (.pointer aa)/\jI.C (aa) (ad) true H0 λaf H1=>R (af) H1)
theorem jR.eq(I:Option Addr)(aa:Int)(R:Int->Heap->Prop)(H0:Heap):
 wF Tryz.prog jR.gD Tryz.f97 [.pointer I,.int .i64 aa] (λv H'=>xS (.one (.int .i64)) v λr=>R r H') H0=jR.W I aa R H0:=by kernel_rfl
theorem jR.calls{I}{aa}{R}{H0}(h:jR.W I aa R H0):jR.C I aa H0 R:=
 (dp eF Tryz.func97 (by rw[jR.eq];exact h)).mono λv H' h=>by obtain⟨x,hv,hk⟩:=fS h;exact⟨x,hv,hk⟩
def dC.gD:gR:={ord:=λ_=>.ord [],loop:=λ_=>none,join:=λi=>bif Nat.beq i 2 then some [(17,.one .bool)] else bif Nat.beq i 3 then some [] else none}
def dC.W(ab:Option Addr)(ad:Int)(R:ByteArray->Int->Heap->Prop)(H0:Heap):Prop:=
 eW (S:=Unit) (λJ3=>
 eW (S:=(Bool×Unit)) (λJ2=>
 gn (decide (ad<0)) (J2 (true,()) H0) (eb.C (ab) H0 λai H3=>J2 (decide (ai<=ad),()) H3))
 (λs2 H2=>(λ(ak:Bool)=>
 gn ak (R (⟨#[]⟩:ByteArray) (4) H2) (J3 () H2)) s2.1))
 (λ_ H1=>
 nG.C (ab) H1 λal H4=>
 dP.C (al) (ad) H4 λaa ar H5=>
 nG.C (ab) H5 λao H6=>
 dP.C (ao) (IntKind.i64.wrap (ad+1)) H6 λI au H7=>
 ∃af:Addr,ab=some af/\
 ∃ae:ByteArray,dj H7 (af.add 0)=some (.string ae)/\0<=I/\I<=(ae.size:Int)/\0<=aa/\aa<=(I.toNat:Int)/\R (ae.extract aa.toNat I.toNat) (0) H7)
theorem dC.eq(I:Option Addr)(aa:Int)(R:ByteArray->Int->Heap->Prop)(H0:Heap):
 wF Tryz.prog dC.gD Tryz.f98 [.pointer I,.int .i64 aa] (λv H'=>xT [.one .str,.one (.int .i64)] v λr=>R r.1 r.2.1 H') H0=dC.W I aa R H0:=by kernel_rfl
theorem dC.calls{I}{aa}{R}{H0}(h:dC.W I aa R H0):dC.C I aa H0 R:=
 (dp eF Tryz.func98 (by rw[dC.eq];exact h)).mono λv H' h=>by obtain⟨x,hv,hk⟩:=dB h;exact⟨x.1,x.2.1,hv,hk⟩
def dK.gD:gR:={ord:=λ_=>.ord [],loop:=λi=>bif Nat.beq i 2 then some [(0,.one .str),(3,.one .slice)] else none,join:=λi=>bif Nat.beq i 13 then some [(3,.one .slice)] else none,cut:=λi=>[3].any (Nat.beq i)}
def dK.W(af:ByteArray)(R:Option Addr->Nat->Nat->Heap->Prop)(H0:Heap):Prop:=
 eW (S:=((Option Addr×Nat×Nat)×Unit)) (λag=>
 lD (S:=(ByteArray×(Option Addr×Nat×Nat)×Unit)) (λL2 q2 H2=>(λ(s0:ByteArray)(I:Option Addr)(aa ab:Nat)=>
 gn (decide (s0≠(⟨#[]⟩:ByteArray))) (False) (ag ((I,aa,ab),()) H2)) q2.1 q2.2.1.1 q2.2.1.2.1 q2.2.1.2.2) (af,(none,0,0),()) H0)
 (λad H1=>(λ(I:Option Addr)(aa ab:Nat)=>R (I) aa ab H1) ad.1.1 ad.1.2.1 ad.1.2.2)
theorem dK.eq(I:ByteArray)(R:Option Addr->Nat->Nat->Heap->Prop)(H0:Heap):
 wF Tryz.prog dK.gD Tryz.f99 [.string I] (λv H'=>xS (.one .slice) v λr=>R r.1 r.2.1 r.2.2 H') H0=dK.W I R H0:=by kernel_rfl
theorem dK.calls{I}{R}{H0}(h:dK.W I R H0):dK.C I H0 R:=
 (dp eF Tryz.func99 (by rw[dK.eq];exact h)).mono λv H' h=>by obtain⟨x,hv,hk⟩:=fS h;exact⟨x.1,x.2.1,x.2.2,hv,hk⟩
def pn.gD:gR:={ord:=λ_=>.ord [],loop:=λi=>bif Nat.beq i 5 then some [(5,.one .slice),(14,.one (.int .i64))] else none,join:=λi=>bif Nat.beq i 12 then some [(5,.one .slice)] else bif Nat.beq i 13 then some [(5,.one .slice)] else none,cut:=λi=>[2,6,12].any (Nat.beq i)}
def pn.W(ad:Option Addr)(ax:Option Addr)(ag ay:Nat)(R:Int->Heap->Prop)(H0:Heap):Prop:=
 gn (Option.isNone (ad)) (False) (
 eW (S:=((Option Addr×Nat×Nat)×Unit)) (λav=>
 lD (S:=((Option Addr×Nat×Nat)×Int×Unit)) (λL5 q5 H2=>(λ(I:Option Addr)(aa ab:Nat)(aw:Int)=>
 gn (decide (aw<(ag:Int))) (
 eW (S:=((Option Addr×Nat×Nat)×Unit)) (λaD=>False)
 (λae H3=>(λ(I:Option Addr)(aa ab:Nat)=>False) ae.1.1 ae.1.2.1 ae.1.2.2)) (av ((I,aa,ab),()) H2)) q5.1.1 q5.1.2.1 q5.1.2.2 q5.2.1) ((none,0,0),(0:Int),()) H0)
 (λaf H1=>(λ(I:Option Addr)(aa ab:Nat)=>
 ∃ar:Addr,ad=some ar/\eO H1 (ar.add 0) λai aj ak=>
 eX (gy H1 #[.iface rM (.slice I aa ab)] gV) λH4:Heap=>jN gV 1 16 (.nilIface) ai aj ak (.slice (some ⟨Array.size H1,0,none⟩) 1 1) H4 λal ao aq H5=>
 ∃au:Addr,ad=some au/\sV (.slice al ao aq) (au.add 0) H5 λH6=>R (0) H6) af.1.1 af.1.2.1 af.1.2.2))
theorem pn.eq(ad:Option Addr)(I:Option Addr)(aa ab:Nat)(R:Int->Heap->Prop)(H0:Heap):
 wF Tryz.prog pn.gD Tryz.f100 [.pointer ad,.slice I aa ab] (λv H'=>xS (.one (.int .i64)) v λr=>R r H') H0=pn.W ad I aa ab R H0:=by kernel_rfl
theorem pn.calls{ad}{I}{aa ab}{R}{H0}(h:pn.W ad I aa ab R H0):pn.C ad I aa ab H0 R:=
 (dp eF Tryz.func100 (by rw[pn.eq];exact h)).mono λv H' h=>by obtain⟨x,hv,hk⟩:=fS h;exact⟨x,hv,hk⟩
def dc.gD:gR:={ord:=λ_=>.ord [],loop:=λi=>bif Nat.beq i 4 then some [(6,.one (.int .i64))] else bif Nat.beq i 7 then some [(27,.one (.int .i64))] else none,join:=λi=>bif Nat.beq i 5 then some [] else bif Nat.beq i 13 then some [] else none,cut:=λi=>[2,8,14].any (Nat.beq i)}
def dc.W(aa:Option Addr)(I:ByteArray)(R:ByteArray->Bool->Heap->Prop)(H0:Heap):Prop:=
 gn (Option.isNone (aa)) (False) (
 eW (S:=Unit) (λah=>
 ∃af:Addr,aa=some af/\eO H0 (af.add 0) λal ad ao=>
 eX (IntKind.i64.wrap ((ad:Int)-1)) λk6:Int=>
 lD (S:=(Int×Unit)) (λL4 q4 H2=>(λ(k6:Int)=>
 gn (decide ((0:Int)<=k6)) (
 eW (S:=Unit) (λJ5=>
 mH.C (aa) (k6) H2 λaq ae ar H4=>
 lD (S:=(Int×Unit)) (λL7 q7 H5=>(λ(aj:Int)=>
 gn (decide (aj<(ae:Int))) (False) (J5 () H5)) q7.1) ((0:Int),()) H4)
 (λ_ H3=>
 eX (IntKind.i64.wrap (k6-1)) λak:Int=>L4 ((ak:Int),()) H3)) (ah () H2)) q4.1) ((k6:Int),()) H0)
 (λ_ H1=>
 gn (decide (I=(⟨#[120,109,108]⟩:ByteArray))) (False) (R (⟨#[]⟩:ByteArray) (decide (I=(⟨#[]⟩:ByteArray))) H1)))
theorem dc.eq(aa:Option Addr)(I:ByteArray)(R:ByteArray->Bool->Heap->Prop)(H0:Heap):
 wF Tryz.prog dc.gD Tryz.f101 [.pointer aa,.string I] (λv H'=>xT [.one .str,.one .bool] v λr=>R r.1 r.2.1 H') H0=dc.W aa I R H0:=by kernel_rfl
theorem dc.calls{aa}{I}{R}{H0}(h:dc.W aa I R H0):dc.C aa I H0 R:=
 (dp eF Tryz.func101 (by rw[dc.eq];exact h)).mono λv H' h=>by obtain⟨x,hv,hk⟩:=dB h;exact⟨x.1,x.2.1,hv,hk⟩
def gZ.gD:gR:={ord:=λ_=>.ord [],loop:=λ_=>none,join:=λ_=>none}
def gZ.W(ad:Int)(R:Bool->Heap->Prop)(H0:Heap):Prop:=
 gI.C H0 λI aa ab H1=>
 jj.C (ad) (I) aa ab H1 λx5 H2=>R (x5) H2
theorem gZ.eq(I:Int)(R:Bool->Heap->Prop)(H0:Heap):
 wF Tryz.prog gZ.gD Tryz.f103 [.int .i32 I] (λv H'=>xS (.one .bool) v λr=>R r H') H0=gZ.W I R H0:=by kernel_rfl
theorem gZ.calls{I}{R}{H0}(h:gZ.W I R H0):gZ.C I H0 R:=
 (dp eF Tryz.func103 (by rw[gZ.eq];exact h)).mono λv H' h=>by obtain⟨x,hv,hk⟩:=fS h;exact⟨x,hv,hk⟩
def gU.gD:gR:={ord:=λi=>bif Nat.beq i 8 then .ord [0,1,2,3,4,6,7,5,8,9,10,11,12] else bif Nat.beq i 10 then .ord [0,1,2,3,4,6,7,10,11,13,14,5,8,9,12,15,16,17,18,19,20] else .ord [],loop:=λi=>bif Nat.beq i 2 then some [(0,.one .slice)] else bif Nat.beq i 10 then some [(0,.one .slice)] else none,join:=λi=>bif Nat.beq i 7 then some [(31,.one .bool)] else bif Nat.beq i 9 then some [(46,.one .bool)] else bif Nat.beq i 11 then some [] else bif Nat.beq i 12 then some [(0,.one .slice)] else bif Nat.beq i 29 then some [] else none,cut:=λi=>[12].any (Nat.beq i)}
def gU.W(ah:Option Addr)(ad ai:Nat)(R:Bool->Heap->Prop)(H0:Heap):Prop:=
 0<=(ad:Int)/\(ad:Int)<=(ai:Int)/\0<=(ad:Int)/\(ad:Int)<=((ad:Int).toNat:Int)/\
 eW (S:=Unit) (λar=>
 lD (S:=((Option Addr×Nat×Nat)×Unit)) (λL2 q2 H2=>(λ(I:Option Addr)(ab aa:Nat)=>
 gn (decide ((0:Int)<(ab:Int))) (∃ak:Addr,I=some ak/\0<=(0:Int)/\(0:Int)<(ab:Int)/\F6 H2 (ak.add ((0:Int).toNat)) λau=>
 eW (S:=((Option Addr×Nat×Nat)×Unit)) (λav=>
 gn (decide (au<128)) (0<=(1:Int)/\(1:Int)<=(ab:Int)/\
 eW (S:=(Bool×Unit)) (λJ7=>
 gn (decide ((8:Int)<(((ab-((1:Int).toNat):Nat):Int)))) (lq.C ((if aa=(1:Int).toNat then I else Option.map (λq:Addr=>q.add ((1:Int).toNat)) I)) ((ab-((1:Int).toNat):Nat)) ((aa-((1:Int).toNat):Nat)) H2 λax H5=>J7 (decide ((lN .u64 ax 9259542123273814144)=0),()) H5) (J7 (false,()) H2))
 (λs7 H4=>(λ(ay:Bool)=>
 gn ay (0<=(8:Int)/\(8:Int)<=((ab-((1:Int).toNat):Nat):Int)/\
 eW (S:=(Bool×Unit)) (λJ9=>
 gn (decide ((16:Int)<(((((ab-((1:Int).toNat):Nat))-((8:Int).toNat):Nat):Int)))) (0<=(8:Int)/\(8:Int)<=((((ab-((1:Int).toNat):Nat))-((8:Int).toNat):Nat):Int)/\lq.C ((if(aa-((1:Int).toNat):Nat)=(8:Int).toNat then(if aa=(1:Int).toNat then I else Option.map (λq:Addr=>q.add ((1:Int).toNat)) I) else Option.map (λq:Addr=>q.add ((8:Int).toNat)) ((if aa=(1:Int).toNat then I else Option.map (λq:Addr=>q.add ((1:Int).toNat)) I)))) ((((ab-((1:Int).toNat):Nat))-((8:Int).toNat):Nat)) ((((aa-((1:Int).toNat):Nat))-((8:Int).toNat):Nat)) H4 λaA H7=>
 lq.C ((if(((aa-((1:Int).toNat):Nat))-((8:Int).toNat):Nat)=(8:Int).toNat then(if(aa-((1:Int).toNat):Nat)=(8:Int).toNat then(if aa=(1:Int).toNat then I else Option.map (λq:Addr=>q.add ((1:Int).toNat)) I) else Option.map (λq:Addr=>q.add ((8:Int).toNat)) ((if aa=(1:Int).toNat then I else Option.map (λq:Addr=>q.add ((1:Int).toNat)) I))) else Option.map (λq:Addr=>q.add ((8:Int).toNat)) ((if(aa-((1:Int).toNat):Nat)=(8:Int).toNat then(if aa=(1:Int).toNat then I else Option.map (λq:Addr=>q.add ((1:Int).toNat)) I) else Option.map (λq:Addr=>q.add ((8:Int).toNat)) ((if aa=(1:Int).toNat then I else Option.map (λq:Addr=>q.add ((1:Int).toNat)) I)))))) ((((((ab-((1:Int).toNat):Nat))-((8:Int).toNat):Nat))-((8:Int).toNat):Nat)) ((((((aa-((1:Int).toNat):Nat))-((8:Int).toNat):Nat))-((8:Int).toNat):Nat)) H7 λaB H8=>J9 (decide ((lN .u64 (BT .u64 aA aB) 9259542123273814144)=0),()) H8) (J9 (false,()) H4))
 (λs9 H6=>(λ(aC:Bool)=>
 gn aC (0<=(16:Int)/\(16:Int)<=((((ab-((1:Int).toNat):Nat))-((8:Int).toNat):Nat):Int)/\
 lD (S:=((Option Addr×Nat×Nat)×Unit)) (λaD af H9=>(λ(I:Option Addr)(ab aa:Nat)=>
 eW (S:=Unit) (λaF=>
 gn (decide ((32:Int)<(ab:Int))) (0<=(8:Int)/\(8:Int)<=(ab:Int)/\0<=(16:Int)/\(16:Int)<=(ab:Int)/\0<=(24:Int)/\(24:Int)<=(ab:Int)/\lq.C (I) ab aa H9 λaG aH=>
 lq.C ((if aa=(8:Int).toNat then I else Option.map (λq:Addr=>q.add ((8:Int).toNat)) I)) ((ab-((8:Int).toNat):Nat)) ((aa-((8:Int).toNat):Nat)) aH λaI aJ=>
 lq.C ((if aa=(16:Int).toNat then I else Option.map (λq:Addr=>q.add ((16:Int).toNat)) I)) ((ab-((16:Int).toNat):Nat)) ((aa-((16:Int).toNat):Nat)) aJ λaK aL=>
 lq.C ((if aa=(24:Int).toNat then I else Option.map (λq:Addr=>q.add ((24:Int).toNat)) I)) ((ab-((24:Int).toNat):Nat)) ((aa-((24:Int).toNat):Nat)) aL λaM al=>
 gn (decide ((lN .u64 (BT .u64 (BT .u64 aG aI) (BT .u64 aK aM)) 9259542123273814144)=0)) (aF () al) (L2 ((I,ab,aa),()) al)) (L2 ((I,ab,aa),()) H9))
 (λ_ aN=>0<=(32:Int)/\(32:Int)<=(ab:Int)/\aD (((if aa=(32:Int).toNat then I else Option.map (λq:Addr=>q.add ((32:Int).toNat)) I),(ab-((32:Int).toNat):Nat),(aa-((32:Int).toNat):Nat)),()) aN)) af.1.1 af.1.2.1 af.1.2.2) (((if(((aa-((1:Int).toNat):Nat))-((8:Int).toNat):Nat)=(16:Int).toNat then(if(aa-((1:Int).toNat):Nat)=(8:Int).toNat then(if aa=(1:Int).toNat then I else Option.map (λq:Addr=>q.add ((1:Int).toNat)) I) else Option.map (λq:Addr=>q.add ((8:Int).toNat)) ((if aa=(1:Int).toNat then I else Option.map (λq:Addr=>q.add ((1:Int).toNat)) I))) else Option.map (λq:Addr=>q.add ((16:Int).toNat)) ((if(aa-((1:Int).toNat):Nat)=(8:Int).toNat then(if aa=(1:Int).toNat then I else Option.map (λq:Addr=>q.add ((1:Int).toNat)) I) else Option.map (λq:Addr=>q.add ((8:Int).toNat)) ((if aa=(1:Int).toNat then I else Option.map (λq:Addr=>q.add ((1:Int).toNat)) I))))),(((((ab-((1:Int).toNat):Nat))-((8:Int).toNat):Nat))-((16:Int).toNat):Nat),(((((aa-((1:Int).toNat):Nat))-((8:Int).toNat):Nat))-((16:Int).toNat):Nat)),()) H6) (L2 (((if(aa-((1:Int).toNat):Nat)=(8:Int).toNat then(if aa=(1:Int).toNat then I else Option.map (λq:Addr=>q.add ((1:Int).toNat)) I) else Option.map (λq:Addr=>q.add ((8:Int).toNat)) ((if aa=(1:Int).toNat then I else Option.map (λq:Addr=>q.add ((1:Int).toNat)) I))),(((ab-((1:Int).toNat):Nat))-((8:Int).toNat):Nat),(((aa-((1:Int).toNat):Nat))-((8:Int).toNat):Nat)),()) H6)) s9.1)) (L2 (((if aa=(1:Int).toNat then I else Option.map (λq:Addr=>q.add ((1:Int).toNat)) I),(ab-((1:Int).toNat):Nat),(aa-((1:Int).toNat):Nat)),()) H4)) s7.1)) (av ((I,ab,aa),()) H2))
 (λag H3=>(λ(I:Option Addr)(ab aa:Nat)=>False) ag.1.1 ag.1.2.1 ag.1.2.2)) (ar () H2)) q2.1.1 q2.1.2.1 q2.1.2.2) ((ah,(ad:Int).toNat,(ad:Int).toNat),()) H0)
 (λ_ H1=>R true H1)
theorem gU.eq(I:Option Addr)(aa ab:Nat)(R:Bool->Heap->Prop)(H0:Heap):
 wF Tryz.prog gU.gD Tryz.f104 [.slice I aa ab] (λv H'=>xS (.one .bool) v λr=>R r H') H0=gU.W I aa ab R H0:=by kernel_rfl
theorem gU.calls{I}{aa ab}{R}{H0}(h:gU.W I aa ab R H0):gU.C I aa ab H0 R:=
 (dp eF Tryz.func104 (by rw[gU.eq];exact h)).mono λv H' h=>by obtain⟨x,hv,hk⟩:=fS h;exact⟨x,hv,hk⟩
def dG.gD:gR:={ord:=λi=>bif Nat.beq i 1 then .ord [0,1,2,3,4,5,6,7,8,9,10,11,12,13,14,15,16,17] else .ord [],loop:=λ_=>none,join:=λi=>bif Nat.beq i 2 then some [(22,.one .bool)] else bif Nat.beq i 3 then some [] else none,cut:=λi=>[3].any (Nat.beq i)}
def dG.W(I:Option Addr)(aa:ByteArray)(R:Bool->Heap->Prop)(H0:Heap):Prop:=
 eW (S:=Unit) (λJ3=>
 eW (S:=(Bool×Unit)) (λJ2=>
 ∃x6:Addr,I=some x6/\S3 H0 (x6.add 2) λx8=>
 gn x8 (J2 (true,()) H0) (∃af:Addr,I=some af/\im H0 (af.add 0) λad=>
 ∃ag:Addr,I=some ag/\ff H0 (ag.add 1) λae=>0<=ae/\ae<=(ad.size:Int)/\strings_HasPrefix.C (ad.extract ae.toNat ad.size) aa H0 λaj H3=>J2 (!aj,()) H3))
 (λs2 H2=>(λ(al:Bool)=>
 gn al (R false H2) (J3 () H2)) s2.1))
 (λ_ H1=>False)
theorem dG.eq(aa:Option Addr)(I:ByteArray)(R:Bool->Heap->Prop)(H0:Heap):
 wF Tryz.prog dG.gD Tryz.f106 [.pointer aa,.string I] (λv H'=>xS (.one .bool) v λr=>R r H') H0=dG.W aa I R H0:=by kernel_rfl
theorem dG.calls{aa}{I}{R}{H0}(h:dG.W aa I R H0):dG.C aa I H0 R:=
 (dp eF Tryz.func106 (by rw[dG.eq];exact h)).mono λv H' h=>by obtain⟨x,hv,hk⟩:=fS h;exact⟨x,hv,hk⟩
def fR.gD:gR:={ord:=λ_=>.ord [],loop:=λ_=>none,join:=λ_=>none}
def fR.W(I:Int)(R:Bool->Heap->Prop)(H0:Heap):Prop:=
 gn (decide (I=32)) (R true H0) (gn (decide (I=9)) (R true H0) (gn (decide (I=13)) (R true H0) (R (decide (I=10)) H0)))
theorem fR.eq(I:Int)(R:Bool->Heap->Prop)(H0:Heap):
 wF Tryz.prog fR.gD Tryz.f113 [.int .i32 I] (λv H'=>xS (.one .bool) v λr=>R r H') H0=fR.W I R H0:=by kernel_rfl
theorem fR.calls{I}{R}{H0}(h:fR.W I R H0):fR.C I H0 R:=
 (dp eF Tryz.func113 (by rw[fR.eq];exact h)).mono λv H' h=>by obtain⟨x,hv,hk⟩:=fS h;exact⟨x,hv,hk⟩
def gf.gD:gR:={ord:=λ_=>.ord [],loop:=λ_=>none,join:=λi=>bif Nat.beq i 2 then some [(10,.one .bool)] else bif Nat.beq i 5 then some [] else none,cut:=λi=>[2,4,7].any (Nat.beq i)}
def gf.W(al:ByteArray)(I:Int)(R:Int->ByteArray->ByteArray->Option Addr->Nat->Nat->Bool->Int->Int->Heap->Prop)(H0:Heap):Prop:=
 eX (gy H0 #[.int .i64 0,.string (⟨#[]⟩:ByteArray),.string (⟨#[]⟩:ByteArray),.slice none 0 0,.bool false] dE) λH1:Heap=>
 eW (S:=Unit) (λJ5=>
 eW (S:=(Bool×Unit)) (λJ2=>
 gn (decide (I<0)) (J2 (true,()) H1) (J2 (decide ((al.size:Int)<I),()) H1))
 (λs2 H3=>(λ(aD:Bool)=>
 gn aD (False) (gn (decide (I=(al.size:Int))) (False) (J5 () H3))) s2.1))
 (λ_ H2=>
 iX.C al (I) H2 λae af ag aa ab ad ah ao aq H4=>
 eX (gy H4 #[.int .i64 0,.string (⟨#[]⟩:ByteArray),.string (⟨#[]⟩:ByteArray),.slice none 0 0,.bool false] dE) λH5:Heap=>nR [.int .i64 ae,.string af,.string ag,.slice aa ab ad,.bool ah] ⟨Array.size H4,0,none⟩ 0 H5 λH6=>
 gn (!aq) (False) (eE H6 ⟨Array.size H4,0,none⟩ λar au av ai aj ak aw=>nR [.int .i64 ar,.string au,.string av,.slice ai aj ak,.bool aw] ⟨Array.size H0,0,none⟩ 0 H6 λH7=>eE H7 ⟨Array.size H0,0,none⟩ λaF aG aH ax ay az aI=>R (aF) aG aH (ax) ay az (aI) (ao) (0) H7))
theorem gf.eq(aa:ByteArray)(I:Int)(R:Int->ByteArray->ByteArray->Option Addr->Nat->Nat->Bool->Int->Int->Heap->Prop)(H0:Heap):
 wF Tryz.prog gf.gD Tryz.f120 [.string aa,.int .i64 I] (λv H'=>xT [.agg [.int .i64,.str,.str,.slice,.bool],.one (.int .i64),.one (.int .i64)] v λr=>R r.1.1 r.1.2.1 r.1.2.2.1 r.1.2.2.2.1.1 r.1.2.2.2.1.2.1 r.1.2.2.2.1.2.2 r.1.2.2.2.2.1 r.2.1 r.2.2.1 H') H0=gf.W aa I R H0:=by kernel_rfl
theorem gf.calls{aa}{I}{R}{H0}(h:gf.W aa I R H0):gf.C aa I H0 R:=
 (dp eF Tryz.func120 (by rw[gf.eq];exact h)).mono λv H' h=>by obtain⟨x,hv,hk⟩:=dB h;exact⟨x.1.1,x.1.2.1,x.1.2.2.1,x.1.2.2.2.1.1,x.1.2.2.2.1.2.1,x.1.2.2.2.1.2.2,x.1.2.2.2.2.1,x.2.1,x.2.2.1,hv,hk⟩
end Go.Proofs.iQ
