/- Part AP of the proof that the law TopMany answers true at every input, under no condition. -/
import Derived.Test.YtmdbfgemefalmaaGreatDoorQAO
import Derived.KernelRfl
set_option linter.unusedVariables false
set_option maxHeartbeats 2000000
set_option maxRecDepth 100000
namespace Go.Proofs.iQ
open Go.Ex
def jQ.gD:gR:={ord:=λi=>bif Nat.beq i 4 then .fl [0,1,2,3,4,5,6,7,8,9,10,11,12,13,14,15,16,17,18,19,20] 21 [22,23] else bif Nat.beq i 8 then .ord [0,1,2,3,4,5,6,7,8,9,10] else .ord [],loop:=λ_=>none,join:=λi=>bif Nat.beq i 11 then some [(3,.one (.int .i64)),(13,.one (.int .i64))] else none,cut:=λi=>[3,6].any (Nat.beq i)}
def jQ.W(aa:Option Addr)(b5:Int)(b6:ByteArray)(b7:ByteArray)(bX:Option Addr)(bY bZ:Nat)(b8:Bool)(cb:ByteArray)(br:Int)(I:Int)(R:Int->Int->Heap->Prop)(H0:Heap):Prop:=
 eX (gy H0 #[.int .i64 b5,.string b6,.string b7,.slice bX bY bZ,.bool b8] dE) λH1:Heap=>
 mM.C (aa) (I) H1 λH2=>
 ∃cc:Addr,aa=some cc/\ff H2 ((cc.add 1).add 1) λch=>
 gn (decide (ch<I)) (False) (eE H2 ⟨Array.size H0,0,none⟩ λaP aQ aR af ag ah aS=>
 ∃bP:Addr,aa=some bP/\xq H2 (bP.add 5) λaT ai aj ak al ao aq=>
 ∃bQ:Addr,aa=some bQ/\lj H2 (bQ.add 8) λbR=>
 ∃bS:Addr,aa=some bS/\lj H2 (bS.add 9) λbT=>
 ∃bU:Addr,aa=some bU/\jt H2 (bU.add 1) λaU aV aW aX=>(gj.C (aP) aQ aR (af) ag ah (aS) aT (ai) aj ak (al) ao aq (bR) (bT) (aU) (aV) (aW) (aX) H2 λaG aH aI aJ aK aL ab ad ae aC H3=>
 eX (gy H3 #[.int .i64 0,.int .i64 0,.string (⟨#[]⟩:ByteArray),.string (⟨#[]⟩:ByteArray),.string (⟨#[]⟩:ByteArray),.string (⟨#[]⟩:ByteArray),.slice none 0 0] eH) λH4:Heap=>(eE H4 ⟨Array.size H0,0,none⟩ λaZ a6 a7 ar au av a8=>(.agg #[.int .i64 aZ,.string a6,.string a7,.slice ar au av,.bool a8]:Value)=.agg #[.int .i64 aP,.string aQ,.string aR,.slice af ag ah,.bool aS])/\(xq H4 (bP.add 5) λba aw ax ay az aA aB=>(.agg #[.string ba,.slice aw ax ay,.slice az aA aB]:Value)=.agg #[.string aT,.slice ai aj ak,.slice al ao aq])/\(lj H4 (bQ.add 8) λbN=>(.pointer bN:Value)=.pointer bR)/\(lj H4 (bS.add 9) λbO=>(.pointer bO:Value)=.pointer bT)/\(jt H4 (bU.add 1) λbb bf bg bh=>(.agg #[.int .i64 bb,.int .i64 bf,.int .i64 bg,.int .i64 bh]:Value)=.agg #[.int .i64 aU,.int .i64 aV,.int .i64 aW,.int .i64 aX])/\nR [.int .i64 aG,.int .i64 aH,.string aI,.string aJ,.string aK,.string aL,.slice ab ad ae] ⟨Array.size H3,0,none⟩ 0 H4 λH5=>
 gn (decide (aC≠0)) (False) (sV (.int .i64 I) ((⟨Array.size H3,0,none⟩:Addr).add 1) H5 λH6=>
 ∃bj:Addr,aa=some bj/\eO H6 (bj.add 0) λaD aE aF=>kK H6 ⟨Array.size H3,0,none⟩ λbw bx bz bA bB bC aM aN aO=>
 eX (gy H6 #[.int .i64 bw,.int .i64 bx,.string bz,.string bA,.string bB,.string bC,.slice aM aN aO] eH) λH7:Heap=>(eO H7 (bj.add 0) λbk bm bn=>(.slice bk bm bn:Value)=.slice aD aE aF)/\jN eH 7 104 (.agg #[.int .i64 0,.int .i64 0,.string (⟨#[]⟩:ByteArray),.string (⟨#[]⟩:ByteArray),.string (⟨#[]⟩:ByteArray),.string (⟨#[]⟩:ByteArray),.slice none 0 0]) aD aE aF (.slice (some ⟨Array.size H6,0,none⟩) 1 1) H7 λbD bE bF H8=>
 ∃bJ:Addr,aa=some bJ/\sV (.slice bD bE bF) (bJ.add 0) H8 λH9=>
 eW (S:=(Int×Int×Unit)) (λbK=>S3 H9 ((⟨Array.size H0,0,none⟩:Addr).add 4) λb1=>
 gn (!b1) (im H9 ((⟨Array.size H0,0,none⟩:Addr).add 1) λb2=>
 gq.C (aa) cb (br) (IntKind.i64.wrap (I+1)) b2 H9 λbG bH ck=>bK ((bG:Int),(bH:Int),()) ck) (bK ((br:Int),(aC:Int),()) H9))
 (λbL cd=>(λ(b3:Int)(bo:Int)=>
 ∃bM:Addr,aa=some bM/\lj cd (bM.add 9) λb4=>
 lV.C (b4) cd λcl cm=>R (b3) (bo) cm) bL.1 bL.2.1)))/\(eX (gy H2 #[.int .i64 0,.int .i64 0,.string (⟨#[]⟩:ByteArray),.string (⟨#[]⟩:ByteArray),.string (⟨#[]⟩:ByteArray),.string (⟨#[]⟩:ByteArray),.slice none 0 0] eH) λbq:Heap=>(eE bq ⟨Array.size H0,0,none⟩ λaZ a6 a7 ar au av a8=>(.agg #[.int .i64 aZ,.string a6,.string a7,.slice ar au av,.bool a8]:Value)=.agg #[.int .i64 aP,.string aQ,.string aR,.slice af ag ah,.bool aS])/\(xq bq (bP.add 5) λba aw ax ay az aA aB=>(.agg #[.string ba,.slice aw ax ay,.slice az aA aB]:Value)=.agg #[.string aT,.slice ai aj ak,.slice al ao aq])/\(lj bq (bQ.add 8) λbN=>(.pointer bN:Value)=.pointer bR)/\(lj bq (bS.add 9) λbO=>(.pointer bO:Value)=.pointer bT)/\(jt bq (bU.add 1) λbb bf bg bh=>(.agg #[.int .i64 bb,.int .i64 bf,.int .i64 bg,.int .i64 bh]:Value)=.agg #[.int .i64 aU,.int .i64 aV,.int .i64 aW,.int .i64 aX])/\gj.C (aP) aQ aR (af) ag ah (aS) aT (ai) aj ak (al) ao aq (bR) (bT) (aU) (aV) (aW) (aX) bq λaG aH aI aJ aK aL ab ad ae aC cn=>nR [.int .i64 aG,.int .i64 aH,.string aI,.string aJ,.string aK,.string aL,.slice ab ad ae] ⟨Array.size H2,0,none⟩ 0 cn λcp=>
 gn (decide (aC≠0)) (False) (sV (.int .i64 I) ((⟨Array.size H2,0,none⟩:Addr).add 1) cp λbV=>
 ∃bj:Addr,aa=some bj/\eO bV (bj.add 0) λaD aE aF=>kK bV ⟨Array.size H2,0,none⟩ λbw bx bz bA bB bC aM aN aO=>
 eX (gy bV #[.int .i64 bw,.int .i64 bx,.string bz,.string bA,.string bB,.string bC,.slice aM aN aO] eH) λcf:Heap=>(eO cf (bj.add 0) λbk bm bn=>(.slice bk bm bn:Value)=.slice aD aE aF)/\jN eH 7 104 (.agg #[.int .i64 0,.int .i64 0,.string (⟨#[]⟩:ByteArray),.string (⟨#[]⟩:ByteArray),.string (⟨#[]⟩:ByteArray),.string (⟨#[]⟩:ByteArray),.slice none 0 0]) aD aE aF (.slice (some ⟨Array.size bV,0,none⟩) 1 1) cf λbD bE bF cq=>
 ∃bJ:Addr,aa=some bJ/\sV (.slice bD bE bF) (bJ.add 0) cq λbW=>
 eW (S:=(Int×Int×Unit)) (λbK=>S3 bW ((⟨Array.size H0,0,none⟩:Addr).add 4) λb1=>
 gn (!b1) (im bW ((⟨Array.size H0,0,none⟩:Addr).add 1) λb2=>
 gq.C (aa) cb (br) (IntKind.i64.wrap (I+1)) b2 bW λbG bH cr=>bK ((bG:Int),(bH:Int),()) cr) (bK ((br:Int),(aC:Int),()) bW))
 (λbL cg=>(λ(b3:Int)(bo:Int)=>
 ∃bM:Addr,aa=some bM/\lj cg (bM.add 9) λb4=>
 lV.C (b4) cg λcl ct=>R (b3) (bo) ct) bL.1 bL.2.1))))
theorem jQ.eq(aj:Option Addr)(ae:Int)(af:ByteArray)(ag:ByteArray)(I:Option Addr)(aa ab:Nat)(ah:Bool)(ak:ByteArray)(ai:Int)(ad:Int)(R:Int->Int->Heap->Prop)(H0:Heap):
 wF Tryz.prog jQ.gD Tryz.f122 [.pointer aj,.agg #[.int .i64 ae,.string af,.string ag,.slice I aa ab,.bool ah],.string ak,.int .i64 ai,.int .i64 ad] (λv H'=>xT [.one (.int .i64),.one (.int .i64)] v λr=>R r.1 r.2.1 H') H0=jQ.W aj ae af ag I aa ab ah ak ai ad R H0:=by kernel_rfl
theorem jQ.calls{aj}{ae}{af}{ag}{I}{aa ab}{ah}{ak}{ai}{ad}{R}{H0}(h:jQ.W aj ae af ag I aa ab ah ak ai ad R H0):jQ.C aj ae af ag I aa ab ah ak ai ad H0 R:=
 (dp eF Tryz.func122 (by rw[jQ.eq];exact h)).mono λv H' h=>by obtain⟨x,hv,hk⟩:=dB h;exact⟨x.1,x.2.1,hv,hk⟩
def gX.gD:gR:={ord:=λ_=>.ord [],loop:=λ_=>none,join:=λ_=>none}
def gX.W(aa:ByteArray)(R:Bool->Heap->Prop)(H0:Heap):Prop:=
 ∀I,aa.size<=I->eX (H0.push (.cells ((mg aa).toArray++Array.replicate (I-aa.size) (.int .u8 0)) iD (I,I+1))) λH1:Heap=>
 gh.C (some ⟨Array.size H0,0,none⟩) aa.size I H1 λx5 H2=>R (x5) H2
theorem gX.eq(I:ByteArray)(R:Bool->Heap->Prop)(H0:Heap):
 wF Tryz.prog gX.gD Tryz.f123 [.string I] (λv H'=>xS (.one .bool) v λr=>R r H') H0=gX.W I R H0:=by kernel_rfl
theorem gX.calls{I}{R}{H0}(h:gX.W I R H0):gX.C I H0 R:=
 (dp eF Tryz.func123 (by rw[gX.eq];exact h)).mono λv H' h=>by obtain⟨x,hv,hk⟩:=fS h;exact⟨x,hv,hk⟩
def gW.gD:gR:={ord:=λ_=>.ord [],loop:=λ_=>none,join:=λ_=>none}
def gW.W(I:ByteArray)(aa:ByteArray)(R:Bool->Heap->Prop)(H0:Heap):Prop:=
 jy.C I aa H0 λag H1=>
 eM.C ag H1 λab ad ae H2=>
 gn ae (gn (decide (ab=I)) (R (decide (ad=aa)) H2) (R false H2)) (R false H2)
theorem gW.eq(I:ByteArray)(aa:ByteArray)(R:Bool->Heap->Prop)(H0:Heap):
 wF Tryz.prog gW.gD Tryz.f127 [.string I,.string aa] (λv H'=>xS (.one .bool) v λr=>R r H') H0=gW.W I aa R H0:=by kernel_rfl
theorem gW.calls{I}{aa}{R}{H0}(h:gW.W I aa R H0):gW.C I aa H0 R:=
 (dp eF Tryz.func127 (by rw[gW.eq];exact h)).mono λv H' h=>by obtain⟨x,hv,hk⟩:=fS h;exact⟨x,hv,hk⟩
def fH.gD:gR:={ord:=λ_=>.ord [],loop:=λ_=>none,join:=λ_=>none}
def fH.W(I:Option Addr)(aa ab:Nat)(R:Option Addr->Nat->Nat->Heap->Prop)(H0:Heap):Prop:=
 gn (Option.isNone (I)) (R (none) 0 0 H0) (eX (gy H0 #[] BM) λH1:Heap=>jN BM 4 64 (.agg #[.string (⟨#[]⟩:ByteArray),.string (⟨#[]⟩:ByteArray),.string (⟨#[]⟩:ByteArray),.string (⟨#[]⟩:ByteArray)]) (some ⟨Array.size H0,0,none⟩) 0 0 (.slice I aa ab) H1 λae af ag H2=>R (ae) af ag H2)
theorem fH.eq(I:Option Addr)(aa ab:Nat)(R:Option Addr->Nat->Nat->Heap->Prop)(H0:Heap):
 wF Tryz.prog fH.gD Tryz.f128 [.slice I aa ab] (λv H'=>xS (.one .slice) v λr=>R r.1 r.2.1 r.2.2 H') H0=fH.W I aa ab R H0:=by kernel_rfl
theorem fH.calls{I}{aa ab}{R}{H0}(h:fH.W I aa ab R H0):fH.C I aa ab H0 R:=
 (dp eF Tryz.func128 (by rw[fH.eq];exact h)).mono λv H' h=>by obtain⟨x,hv,hk⟩:=fS h;exact⟨x.1,x.2.1,x.2.2,hv,hk⟩
def fF.gD:gR:={ord:=λi=>bif Nat.beq i 6 then .ord [0,1,2,3,4,5,6,7,8] else .ord [],loop:=λi=>bif Nat.beq i 4 then some [(13,.one (.int .i64))] else none,join:=λi=>bif Nat.beq i 9 then some [] else none}
def fF.W(ar:Option Addr)(aa av:Nat)(au:Option Addr)(ad aw:Nat)(R:Bool->Heap->Prop)(H0:Heap):Prop:=
 gn (decide ((aa:Int)≠(ad:Int))) (R false H0) (
 eW (S:=Unit) (λJ9=>
 lD (S:=(Int×Unit)) (λL4 q4 H2=>(λ(I:Int)=>
 gn (decide (I<(aa:Int))) (∃ae:Addr,ar=some ae/\0<=I/\I<(aa:Int)/\
 ∃ag:ByteArray,dj H2 ((ae.add (I.toNat*4)).add 0)=some (.string ag)/\
 ∃ah:ByteArray,dj H2 ((ae.add (I.toNat*4)).add 1)=some (.string ah)/\
 ∃ai:ByteArray,dj H2 ((ae.add (I.toNat*4)).add 2)=some (.string ai)/\
 ∃aj:ByteArray,dj H2 ((ae.add (I.toNat*4)).add 3)=some (.string aj)/\
 ∃af:Addr,au=some af/\0<=I/\I<(ad:Int)/\
 ∃ak:ByteArray,dj H2 ((af.add (I.toNat*4)).add 0)=some (.string ak)/\
 ∃al:ByteArray,dj H2 ((af.add (I.toNat*4)).add 1)=some (.string al)/\
 ∃ao:ByteArray,dj H2 ((af.add (I.toNat*4)).add 2)=some (.string ao)/\
 ∃aq:ByteArray,dj H2 ((af.add (I.toNat*4)).add 3)=some (.string aq)/\
 gn (!(decide (ag=ak)&&(decide (ah=al)&&(decide (ai=ao)&&(decide (aj=aq)&&true))))) (R false H2) (L4 ((IntKind.i64.wrap (I+1):Int),()) H2)) (J9 () H2)) q4.1) ((0:Int),()) H0)
 (λ_ H1=>R true H1))
theorem fF.eq(I:Option Addr)(aa ab:Nat)(ad:Option Addr)(ae af:Nat)(R:Bool->Heap->Prop)(H0:Heap):
 wF Tryz.prog fF.gD Tryz.f131 [.slice I aa ab,.slice ad ae af] (λv H'=>xS (.one .bool) v λr=>R r H') H0=fF.W I aa ab ad ae af R H0:=by kernel_rfl
theorem fF.calls{I}{aa ab}{ad}{ae af}{R}{H0}(h:fF.W I aa ab ad ae af R H0):fF.C I aa ab ad ae af H0 R:=
 (dp eF Tryz.func131 (by rw[fF.eq];exact h)).mono λv H' h=>by obtain⟨x,hv,hk⟩:=fS h;exact⟨x,hv,hk⟩
def gJ.gD:gR:={ord:=λ_=>.ord [],loop:=λ_=>none,join:=λ_=>none}
def gJ.W(I:Option Addr)(R:Heap->Prop)(H0:Heap):Prop:=
 ∃x3:Addr,I=some x3/\lj H0 (x3.add 0) λx5=>
 gn (Option.isNone (x5)) (Vj Tryz.prog lz I H0/\Dg Tryz.f210/\Z7 Tryz.prog lz I H0/\
 ∃ab:Addr,I=some ab/\sV (.pointer I) (ab.add 0) H0 λH2=>R H2) (∃ad:Addr,I=some ad/\lj H0 (ad.add 0) λaf=>(af=I/\
 ∃b o,I=some ⟨b,o,none⟩)/\R H0)
theorem gJ.eq(I:Option Addr)(R:Heap->Prop)(H0:Heap):
 wF Tryz.prog gJ.gD Tryz.f132 [.pointer I] (λv H'=>xT [] v λ_=>R H') H0=gJ.W I R H0:=by kernel_rfl
theorem gJ.calls{I}{R}{H0}(h:gJ.W I R H0):gJ.C I H0 R:=
 (dp eF Tryz.func132 (by rw[gJ.eq];exact h)).mono λv H' h=>by obtain⟨x,hv,hk⟩:=dB h;exact⟨hv,hk⟩
def nV.gD:gR:={ord:=λ_=>.ord [],loop:=λ_=>none,join:=λ_=>none}
def nV.W(aa:Int)(R:Int->Heap->Prop)(H0:Heap):Prop:=
 0<=(1:Int)/\
 eX (IntKind.u64.wrap ((lN .u64 (kP .u64 aa 1) 6148914691236517205)+(lN .u64 aa 6148914691236517205))) λI:Int=>0<=(2:Int)/\
 eX (IntKind.u64.wrap ((lN .u64 (kP .u64 I 2) 3689348814741910323)+(lN .u64 I 3689348814741910323))) λI:Int=>0<=(4:Int)/\
 eX (lN .u64 (IntKind.u64.wrap ((kP .u64 I 4)+I)) 1085102592571150095) λI:Int=>0<=(8:Int)/\
 eX (IntKind.u64.wrap (I+(kP .u64 I 8))) λI:Int=>0<=(16:Int)/\
 eX (IntKind.u64.wrap (I+(kP .u64 I 16))) λI:Int=>0<=(32:Int)/\
 eX (IntKind.u64.wrap (I+(kP .u64 I 32))) λI:Int=>
 eX (lN .i64 (IntKind.i64.wrap I) 127) λx2:Int=>R (x2) H0
theorem nV.eq(I:Int)(R:Int->Heap->Prop)(H0:Heap):
 wF Tryz.prog nV.gD Tryz.f134 [.int .u64 I] (λv H'=>xS (.one (.int .i64)) v λr=>R r H') H0=nV.W I R H0:=by kernel_rfl
theorem nV.calls{I}{R}{H0}(h:nV.W I R H0):nV.C I H0 R:=
 (dp eF Tryz.func134 (by rw[nV.eq];exact h)).mono λv H' h=>by obtain⟨x,hv,hk⟩:=fS h;exact⟨x,hv,hk⟩
def bits_Len64.gD:gR:={ord:=λ_=>.ord [],loop:=λ_=>none,join:=λi=>bif Nat.beq i 4 then some [(0,.one (.int .u64)),(2,.one (.int .i64))] else bif Nat.beq i 7 then some [(0,.one (.int .u64)),(2,.one (.int .i64))] else bif Nat.beq i 10 then some [(0,.one (.int .u64)),(2,.one (.int .i64))] else none}
def bits_Len64.W(ab:Int)(R:Int->Heap->Prop)(H0:Heap):Prop:=
 eW (S:=(Int×Int×Unit)) (λJ4=>
 gn (decide ((4294967296:Int)<=ab)) (0<=(32:Int)/\
 eX (kP .u64 ab 32) λI:Int=>J4 ((I:Int),(32:Int),()) H0) (J4 ((ab:Int),(0:Int),()) H0))
 (λs4 H1=>(λ(I:Int)(n2:Int)=>
 eW (S:=(Int×Int×Unit)) (λJ7=>
 gn (decide ((65536:Int)<=I)) (0<=(16:Int)/\
 eX (kP .u64 I 16) λad:Int=>
 eX (IntKind.i64.wrap (n2+16)) λn2:Int=>J7 ((ad:Int),(n2:Int),()) H1) (J7 ((I:Int),(n2:Int),()) H1))
 (λs7 H2=>(λ(I:Int)(n2:Int)=>
 eW (S:=(Int×Int×Unit)) (λae=>
 gn (decide ((256:Int)<=I)) (0<=(8:Int)/\
 eX (kP .u64 I 8) λad:Int=>
 eX (IntKind.i64.wrap (n2+8)) λn2:Int=>ae ((ad:Int),(n2:Int),()) H2) (ae ((I:Int),(n2:Int),()) H2))
 (λaf H3=>(λ(I:Int)(n2:Int)=>0<=IntKind.u8.wrap I/\IntKind.u8.wrap I<((⟨#[0,1,2,2,3,3,3,3,4,4,4,4,4,4,4,4,5,5,5,5,5,5,5,5,5,5,5,5,5,5,5,5,6,6,6,6,6,6,6,6,6,6,6,6,6,6,6,6,6,6,6,6,6,6,6,6,6,6,6,6,6,6,6,6,7,7,7,7,7,7,7,7,7,7,7,7,7,7,7,7,7,7,7,7,7,7,7,7,7,7,7,7,7,7,7,7,7,7,7,7,7,7,7,7,7,7,7,7,7,7,7,7,7,7,7,7,7,7,7,7,7,7,7,7,7,7,7,7,8,8,8,8,8,8,8,8,8,8,8,8,8,8,8,8,8,8,8,8,8,8,8,8,8,8,8,8,8,8,8,8,8,8,8,8,8,8,8,8,8,8,8,8,8,8,8,8,8,8,8,8,8,8,8,8,8,8,8,8,8,8,8,8,8,8,8,8,8,8,8,8,8,8,8,8,8,8,8,8,8,8,8,8,8,8,8,8,8,8,8,8,8,8,8,8,8,8,8,8,8,8,8,8,8,8,8,8,8,8,8,8,8,8,8,8,8,8,8,8,8,8,8,8,8,8,8,8]⟩:ByteArray).size:Int)/\
 eX (IntKind.i64.wrap (n2+(IntKind.i64.wrap (bt (⟨#[0,1,2,2,3,3,3,3,4,4,4,4,4,4,4,4,5,5,5,5,5,5,5,5,5,5,5,5,5,5,5,5,6,6,6,6,6,6,6,6,6,6,6,6,6,6,6,6,6,6,6,6,6,6,6,6,6,6,6,6,6,6,6,6,7,7,7,7,7,7,7,7,7,7,7,7,7,7,7,7,7,7,7,7,7,7,7,7,7,7,7,7,7,7,7,7,7,7,7,7,7,7,7,7,7,7,7,7,7,7,7,7,7,7,7,7,7,7,7,7,7,7,7,7,7,7,7,7,8,8,8,8,8,8,8,8,8,8,8,8,8,8,8,8,8,8,8,8,8,8,8,8,8,8,8,8,8,8,8,8,8,8,8,8,8,8,8,8,8,8,8,8,8,8,8,8,8,8,8,8,8,8,8,8,8,8,8,8,8,8,8,8,8,8,8,8,8,8,8,8,8,8,8,8,8,8,8,8,8,8,8,8,8,8,8,8,8,8,8,8,8,8,8,8,8,8,8,8,8,8,8,8,8,8,8,8,8,8,8,8,8,8,8,8,8,8,8,8,8,8,8,8,8,8,8,8]⟩:ByteArray) (IntKind.u8.wrap I))))) λn2:Int=>R (n2) H3) af.1 af.2.1)) s7.1 s7.2.1)) s4.1 s4.2.1)
theorem bits_Len64.eq(I:Int)(R:Int->Heap->Prop)(H0:Heap):
 wF Tryz.prog bits_Len64.gD Tryz.f135 [.int .u64 I] (λv H'=>xS (.one (.int .i64)) v λr=>R r H') H0=bits_Len64.W I R H0:=by kernel_rfl
theorem bits_Len64.calls{I}{R}{H0}(h:bits_Len64.W I R H0):bits_Len64.C I H0 R:=
 (dp eF Tryz.func135 (by rw[bits_Len64.eq];exact h)).mono λv H' h=>by obtain⟨x,hv,hk⟩:=fS h;exact⟨x,hv,hk⟩
def kb.gD:gR:={ord:=λi=>bif Nat.beq i 4 then .ord [0,1,2,3,4,5,6,7,8,9,10,11,12,13] else bif Nat.beq i 8 then .ord [0,1,2,3,4,5,6,7,8,9,10,11,12,13,14,15,16] else .ord [],loop:=λi=>bif Nat.beq i 6 then some [(37,.one (.int .i64))] else none,join:=λi=>bif Nat.beq i 4 then some [] else bif Nat.beq i 13 then some [] else bif Nat.beq i 14 then some [] else none}
def kb.W(ak:Option Addr)(ad aw:Nat)(R:Option Addr->Heap->Prop)(H0:Heap):Prop:=
 eX (gy H0 #[.nilIface,.int .i64 (ad:Int),.int .i64 0] jA) λH1:Heap=>
 eW (S:=Unit) (λJ4=>
 gn (decide ((0:Int)<(ad:Int))) (iN.C (ak) ad aw H1 λaP H3=>
 fL.C (aP) H3 λaQ H4=>
 ∃al:Addr,some ⟨Array.size H0,0,none⟩=some al/\(∃u,dj H4 (al.add 2)=some u)/\gO H4 (al.add 2)=false/\
 eX (nQ H4 (al.add 2) (.int .i64 aQ)) λH5:Heap=>J4 () H5) (J4 () H1))
 (λ_ H2=>
 ∃ax:Addr,some ⟨Array.size H0,0,none⟩=some ax/\
 ∃aa:Int,dj H2 (ax.add 1)=some (.int .i64 aa)/\
 ∃ay:Addr,some ⟨Array.size H0,0,none⟩=some ay/\
 ∃ab:Int,dj H2 (ay.add 2)=some (.int .i64 ab)/\(64:Int)≠0/\0<=IntKind.i64.wrap (Int.tdiv (IntKind.i64.wrap ((IntKind.i64.wrap ((IntKind.i64.wrap (aa*ab))+64))-1)) 64)/\IntKind.i64.wrap (Int.tdiv (IntKind.i64.wrap ((IntKind.i64.wrap ((IntKind.i64.wrap (aa*ab))+64))-1)) 64)<=IntKind.i64.wrap (Int.tdiv (IntKind.i64.wrap ((IntKind.i64.wrap ((IntKind.i64.wrap (aa*ab))+64))-1)) 64)/\((8:Nat):Int)*(IntKind.i64.wrap (Int.tdiv (IntKind.i64.wrap ((IntKind.i64.wrap ((IntKind.i64.wrap (aa*ab))+64))-1)) 64))<=281474976710656/\
 eX (gy H2 (iq (.int .u64 0) ((IntKind.i64.wrap (Int.tdiv (IntKind.i64.wrap ((IntKind.i64.wrap ((IntKind.i64.wrap (aa*ab))+64))-1)) 64)).toNat)) iW) λH6:Heap=>
 eW (S:=Unit) (λaR=>
 lD (S:=(Int×Unit)) (λL6 q6 H8=>(λ(ae:Int)=>
 gn (decide (ae<(ad:Int))) (
 eW (S:=Unit) (λau=>
 ∃az:Addr,ak=some az/\0<=ae/\ae<(ad:Int)/\
 ∃av:Int,dj H8 (az.add ae.toNat)=some (.int .u64 av)/\
 ∃aA:Addr,some ⟨Array.size H0,0,none⟩=some aA/\
 ∃aB:Int,dj H8 (aA.add 2)=some (.int .i64 aB)/\(64:Int)≠0/\
 ∃aC:Addr,some ⟨Array.size H0,0,none⟩=some aC/\
 ∃aD:Int,dj H8 (aC.add 2)=some (.int .i64 aD)/\(64:Int)≠0/\
 eX (IntKind.i64.wrap (Int.tdiv (IntKind.i64.wrap (ae*aB)) 64)) λI:Int=>
 eX (IntKind.u64.wrap (Int.tmod (IntKind.i64.wrap (ae*aD)) 64)) λaf:Int=>
 ∃aE:Addr,some ⟨Array.size H0,0,none⟩=some aE/\
 ∃aF:Int,dj H8 (aE.add 2)=some (.int .i64 aF)/\
 gn (decide (aF=0)) (au () H8) (∃aG:Addr,some ⟨Array.size H2,0,none⟩=some aG/\0<=I/\I<((IntKind.i64.wrap (Int.tdiv (IntKind.i64.wrap ((IntKind.i64.wrap ((IntKind.i64.wrap (aa*ab))+64))-1)) 64)).toNat:Int)/\
 ∃aH:Int,dj H8 (aG.add I.toNat)=some (.int .u64 aH)/\0<=af/\
 ∃ao:Addr,some ⟨Array.size H2,0,none⟩=some ao/\0<=I/\I<((IntKind.i64.wrap (Int.tdiv (IntKind.i64.wrap ((IntKind.i64.wrap ((IntKind.i64.wrap (aa*ab))+64))-1)) 64)).toNat:Int)/\(∃u,dj H8 (ao.add I.toNat)=some u)/\gO H8 (ao.add I.toNat)=false/\
 eX (nQ H8 (ao.add I.toNat) (.int .u64 (BT .u64 aH (pf .u64 av af)))) λai:Heap=>
 ∃aI:Addr,some ⟨Array.size H0,0,none⟩=some aI/\
 ∃aJ:Int,dj ai (aI.add 2)=some (.int .i64 aJ)/\
 gn (decide ((64:Int)<(IntKind.i64.wrap ((IntKind.i64.wrap af)+aJ)))) (∃aK:Addr,some ⟨Array.size H2,0,none⟩=some aK/\0<=IntKind.i64.wrap (I+1)/\IntKind.i64.wrap (I+1)<((IntKind.i64.wrap (Int.tdiv (IntKind.i64.wrap ((IntKind.i64.wrap ((IntKind.i64.wrap (aa*ab))+64))-1)) 64)).toNat:Int)/\
 ∃aL:Int,dj ai (aK.add ((IntKind.i64.wrap (I+1)).toNat))=some (.int .u64 aL)/\0<=(IntKind.u64.wrap (64-af))/\
 ∃aq:Addr,some ⟨Array.size H2,0,none⟩=some aq/\0<=IntKind.i64.wrap (I+1)/\IntKind.i64.wrap (I+1)<((IntKind.i64.wrap (Int.tdiv (IntKind.i64.wrap ((IntKind.i64.wrap ((IntKind.i64.wrap (aa*ab))+64))-1)) 64)).toNat:Int)/\(∃u,dj ai (aq.add ((IntKind.i64.wrap (I+1)).toNat))=some u)/\gO ai (aq.add ((IntKind.i64.wrap (I+1)).toNat))=false/\
 eX (nQ ai (aq.add ((IntKind.i64.wrap (I+1)).toNat)) (.int .u64 (BT .u64 aL (kP .u64 av (IntKind.u64.wrap (64-af)))))) λaS:Heap=>au () aS) (au () ai)))
 (λ_ H9=>L6 ((IntKind.i64.wrap (ae+1):Int),()) H9)) (aR () H8)) q6.1) ((0:Int),()) H6)
 (λ_ H7=>
 ∃ar:Addr,some ⟨Array.size H0,0,none⟩=some ar/\(∃u,dj H7 (ar.add 0)=some u)/\gO H7 (ar.add 0)=false/\
 eX (nQ H7 (ar.add 0) (.iface rq (.slice (some ⟨Array.size H2,0,none⟩) ((IntKind.i64.wrap (Int.tdiv (IntKind.i64.wrap ((IntKind.i64.wrap ((IntKind.i64.wrap (aa*ab))+64))-1)) 64)).toNat) ((IntKind.i64.wrap (Int.tdiv (IntKind.i64.wrap ((IntKind.i64.wrap ((IntKind.i64.wrap (aa*ab))+64))-1)) 64)).toNat)))) λaT:Heap=>R (some ⟨Array.size H0,0,none⟩) aT))
theorem kb.eq(I:Option Addr)(aa ab:Nat)(R:Option Addr->Heap->Prop)(H0:Heap):
 wF Tryz.prog kb.gD Tryz.f136 [.slice I aa ab] (λv H'=>xS (.one .ptr) v λr=>R r H') H0=kb.W I aa ab R H0:=by kernel_rfl
theorem kb.calls{I}{aa ab}{R}{H0}(h:kb.W I aa ab R H0):kb.C I aa ab H0 R:=
 (dp eF Tryz.func136 (by rw[kb.eq];exact h)).mono λv H' h=>by obtain⟨x,hv,hk⟩:=fS h;exact⟨x,hv,hk⟩
def jC.gD:gR:={ord:=λi=>bif Nat.beq i 5 then .ord [0,1,2,3,4,5,6,7,8,9,10,11,12,13] else .ord [],loop:=λi=>bif Nat.beq i 5 then some [(1,.one (.int .i64))] else none,join:=λi=>bif Nat.beq i 6 then some [] else bif Nat.beq i 7 then some [(1,.one (.int .i64))] else none,cut:=λi=>[3].any (Nat.beq i)}
def jC.W(af:Option Addr)(aa aq:Nat)(au:Int)(R:Int->Heap->Prop)(H0:Heap):Prop:=
 lg.C (af) aa aq (au) H0 λag ah ai aj ak al ab ad ae ar H1=>
 eX (gy H1 #[.int .i64 0,.int .i64 0,.string (⟨#[]⟩:ByteArray),.string (⟨#[]⟩:ByteArray),.string (⟨#[]⟩:ByteArray),.string (⟨#[]⟩:ByteArray),.slice none 0 0] eH) λH2:Heap=>nR [.int .i64 ag,.int .i64 ah,.string ai,.string aj,.string ak,.string al,.slice ab ad ae] ⟨Array.size H1,0,none⟩ 0 H2 λH3=>
 gn (!ar) (False) (
 eW (S:=(Int×Unit)) (λJ7=>
 eX (IntKind.i64.wrap (au+1)) λI:Int=>
 lD (S:=(Int×Unit)) (λL5 q5 H5=>(λ(I:Int)=>
 eW (S:=Unit) (λJ6=>
 gn (decide (I<(aa:Int))) (∃av:Addr,af=some av/\0<=I/\I<(aa:Int)/\ff H5 ((av.add (I.toNat*7)).add 1) λax=>ff H5 ((⟨Array.size H1,0,none⟩:Addr).add 1) λay=>
 gn (decide (ay<ax)) (J6 () H5) (J7 ((I:Int),()) H5)) (J7 ((I:Int),()) H5))
 (λ_ H6=>
 eX (IntKind.i64.wrap (I+1)) λI:Int=>L5 ((I:Int),()) H6)) q5.1) ((I:Int),()) H3)
 (λs7 H4=>(λ(I:Int)=>R (I) H4) s7.1))
theorem jC.eq(I:Option Addr)(aa ab:Nat)(ad:Int)(R:Int->Heap->Prop)(H0:Heap):
 wF Tryz.prog jC.gD Tryz.f138 [.slice I aa ab,.int .i64 ad] (λv H'=>xS (.one (.int .i64)) v λr=>R r H') H0=jC.W I aa ab ad R H0:=by kernel_rfl
theorem jC.calls{I}{aa ab}{ad}{R}{H0}(h:jC.W I aa ab ad R H0):jC.C I aa ab ad H0 R:=
 (dp eF Tryz.func138 (by rw[jC.eq];exact h)).mono λv H' h=>by obtain⟨x,hv,hk⟩:=fS h;exact⟨x,hv,hk⟩
def nL.gD:gR:={ord:=λi=>bif Nat.beq i 1 then .ord [0,1,2,3,4,5,6,7,8,9,10,11,12,13,14,15,16,17,18] else bif Nat.beq i 3 then .ord [0,1,2,3,4,5,6,7,8,9,10] else bif Nat.beq i 4 then .ord [0,1,2,3,4,5,6,7,8,9,10,11,12,13,14] else .ord [],loop:=λi=>bif Nat.beq i 0 then some [] else none,join:=λi=>bif Nat.beq i 3 then some [] else none}
def nL.W(aa:Option Addr)(aw:Int)(R:Heap->Prop)(H0:Heap):Prop:=
 lD (S:=Unit) (λL0 _ H1=>
 ∃x7:Addr,aa=some x7/\eO H1 (x7.add 2) λbf aR bg=>
 gn (decide ((0:Int)<(aR:Int))) (∃ax:Addr,aa=some ax/\eO H1 (ax.add 2) λah ai aH=>
 ∃ay:Addr,aa=some ay/\eO H1 (ay.add 2) λaI I aJ=>
 ∃az:Addr,ah=some az/\0<=IntKind.i64.wrap ((I:Int)-1)/\IntKind.i64.wrap ((I:Int)-1)<(ai:Int)/\Xw H1 (az.add ((IntKind.i64.wrap ((I:Int)-1)).toNat)) λaM=>
 ∃aj:Int,∃ak:Int,∃al:ByteArray,∃ao:ByteArray,∃aq:ByteArray,∃ar:ByteArray,∃(ab:Option Addr)(ad ae:Nat),∃au:Bool,pc (aM) eH (.agg #[.int .i64 aj,.int .i64 ak,.string al,.string ao,.string aq,.string ar,.slice ab ad ae]) (.agg #[.int .i64 0,.int .i64 0,.string (⟨#[]⟩:ByteArray),.string (⟨#[]⟩:ByteArray),.string (⟨#[]⟩:ByteArray),.string (⟨#[]⟩:ByteArray),.slice none 0 0]) au/\
 eX (gy H1 #[.int .i64 0,.int .i64 0,.string (⟨#[]⟩:ByteArray),.string (⟨#[]⟩:ByteArray),.string (⟨#[]⟩:ByteArray),.string (⟨#[]⟩:ByteArray),.slice none 0 0] eH) λH2:Heap=>(eO H2 (ax.add 2) λaA aB aC=>(.slice aA aB aC:Value)=.slice ah ai aH)/\(eO H2 (ay.add 2) λaD aE aF=>(.slice aD aE aF:Value)=.slice aI I aJ)/\(Xw H2 (az.add ((IntKind.i64.wrap ((I:Int)-1)).toNat)) λaS=>(aS:Value)=aM)/\nR [.int .i64 aj,.int .i64 ak,.string al,.string ao,.string aq,.string ar,.slice ab ad ae] ⟨Array.size H1,0,none⟩ 0 H2 λH3=>
 eW (S:=Unit) (λJ3=>
 gn (!au) (R H3) (ff H3 ((⟨Array.size H1,0,none⟩:Addr).add 1) λaV=>
 gn (decide (aV<aw)) (R H3) (J3 () H3)))
 (λ_ H4=>
 ∃aN:Addr,aa=some aN/\im H4 ((⟨Array.size H1,0,none⟩:Addr).add 2) λaW=>im H4 ((⟨Array.size H1,0,none⟩:Addr).add 3) λaX=>
 jk.C aW aX H4 λaG H5=>(⟨#[60,47]⟩:ByteArray).size+aG.size<=9223372036854775807/\((⟨#[60,47]⟩:ByteArray)++aG).size+(⟨#[62]⟩:ByteArray).size<=9223372036854775807/\fx.C (some (aN.add 0)) (((⟨#[60,47]⟩:ByteArray)++aG)++(⟨#[62]⟩:ByteArray)) H5 λaY aZ H6=>
 ∃aO:Addr,aa=some aO/\eO H6 (aO.add 2) λav a6 af=>
 ∃aP:Addr,aa=some aP/\eO H6 (aP.add 2) λa7 ag a8=>0<=IntKind.i64.wrap ((ag:Int)-1)/\IntKind.i64.wrap ((ag:Int)-1)<=(af:Int)/\
 ∃aQ:Addr,aa=some aQ/\sV (.slice ((if af=0 then av else Option.map (λq:Addr=>q.add 0) av)) ((((IntKind.i64.wrap ((ag:Int)-1)).toNat)-0:Nat)) (af-0:Nat)) (aQ.add 2) H6 λH7=>L0 () H7)) (R H1)) () H0
theorem nL.eq(aa:Option Addr)(I:Int)(R:Heap->Prop)(H0:Heap):
 wF Tryz.prog nL.gD Tryz.f139 [.pointer aa,.int .i64 I] (λv H'=>xT [] v λ_=>R H') H0=nL.W aa I R H0:=by kernel_rfl
theorem nL.calls{aa}{I}{R}{H0}(h:nL.W aa I R H0):nL.C aa I H0 R:=
 (dp eF Tryz.func139 (by rw[nL.eq];exact h)).mono λv H' h=>by obtain⟨x,hv,hk⟩:=dB h;exact⟨hv,hk⟩
def j8.gD:gR:={ord:=λ_=>.ord [],loop:=λi=>bif Nat.beq i 5 then some [(3,.one .str),(19,.one (.int .i64))] else none,join:=λi=>bif Nat.beq i 9 then some [(3,.one .str)] else bif Nat.beq i 18 then some [] else none,cut:=λi=>[6,13,15].any (Nat.beq i)}
def j8.W(ae:Int)(af:Int)(ag:ByteArray)(ah:ByteArray)(ai:ByteArray)(aj:ByteArray)(I:Option Addr)(aa ab:Nat)(R:ByteArray->Heap->Prop)(H0:Heap):Prop:=
 eX (gy H0 #[.int .i64 ae,.int .i64 af,.string ag,.string ah,.string ai,.string aj,.slice I aa ab] eH) λH1:Heap=>
 eW (S:=Unit) (λar=>ff H1 ((⟨Array.size H0,0,none⟩:Addr).add 0) λx7=>
 gn (decide (x7=2)) (im H1 ((⟨Array.size H0,0,none⟩:Addr).add 2) λau=>im H1 ((⟨Array.size H0,0,none⟩:Addr).add 3) λav=>
 jk.C au av H1 λao H3=>(⟨#[60]⟩:ByteArray).size+ao.size<=9223372036854775807/\
 eW (S:=(ByteArray×Unit)) (λJ9=>eO H3 ((⟨Array.size H0,0,none⟩:Addr).add 6) λaB al aC=>
 lD (S:=(ByteArray×Int×Unit)) (λL5 q5 H5=>(λ(s3:ByteArray)(ay:Int)=>
 gn (decide (ay<(al:Int))) (False) (J9 (s3,()) H5)) q5.1 q5.2.1) ((⟨#[60]⟩:ByteArray)++ao,(0:Int),()) H3)
 (λs9 H4=>(λ(s3:ByteArray)=>R s3 H4) s9.1)) (gn (decide (x7=3)) (im H1 ((⟨Array.size H0,0,none⟩:Addr).add 5) λaz=>
 Ed.C az H1 λaA H6=>R aA H6) (gn (decide (x7=4)) (False) (gn (decide (x7=5)) (False) (ar () H1)))))
 (λ_ H2=>R (⟨#[]⟩:ByteArray) H2)
theorem j8.eq(ad:Int)(ae:Int)(af:ByteArray)(ag:ByteArray)(ah:ByteArray)(ai:ByteArray)(I:Option Addr)(aa ab:Nat)(R:ByteArray->Heap->Prop)(H0:Heap):
 wF Tryz.prog j8.gD Tryz.f140 [.agg #[.int .i64 ad,.int .i64 ae,.string af,.string ag,.string ah,.string ai,.slice I aa ab]] (λv H'=>xS (.one .str) v λr=>R r H') H0=j8.W ad ae af ag ah ai I aa ab R H0:=by kernel_rfl
theorem j8.calls{ad}{ae}{af}{ag}{ah}{ai}{I}{aa ab}{R}{H0}(h:j8.W ad ae af ag ah ai I aa ab R H0):j8.C ad ae af ag ah ai I aa ab H0 R:=
 (dp eF Tryz.func140 (by rw[j8.eq];exact h)).mono λv H' h=>by obtain⟨x,hv,hk⟩:=fS h;exact⟨x,hv,hk⟩
def mh.gD:gR:={ord:=λ_=>.ord [],loop:=λ_=>none,join:=λ_=>none}
def mh.W(I:Option Addr)(R:Int->Heap->Prop)(H0:Heap):Prop:=
 gn (Option.isNone (I)) (R (0) H0) (∃x6:Addr,I=some x6/\
 ∃x8:Int,dj H0 (x6.add 1)=some (.int .i64 x8)/\R (x8) H0)
theorem mh.eq(I:Option Addr)(R:Int->Heap->Prop)(H0:Heap):
 wF Tryz.prog mh.gD Tryz.f141 [.pointer I] (λv H'=>xS (.one (.int .i64)) v λr=>R r H') H0=mh.W I R H0:=by kernel_rfl
theorem mh.calls{I}{R}{H0}(h:mh.W I R H0):mh.C I H0 R:=
 (dp eF Tryz.func141 (by rw[mh.eq];exact h)).mono λv H' h=>by obtain⟨x,hv,hk⟩:=fS h;exact⟨x,hv,hk⟩
def iu.gD:gR:={ord:=λ_=>.ord [],loop:=λ_=>none,join:=λ_=>none}
def iu.W(ab:Option Addr)(ad:Int)(R:Int->Heap->Prop)(H0:Heap):Prop:=
 mw.C (ab) (ad) H0 λI aa H1=>
 pQ.C (I) (aa) H1 λae H2=>R (ae) H2
theorem iu.eq(I:Option Addr)(aa:Int)(R:Int->Heap->Prop)(H0:Heap):
 wF Tryz.prog iu.gD Tryz.f145 [.pointer I,.int .i64 aa] (λv H'=>xS (.one (.int .i64)) v λr=>R r H') H0=iu.W I aa R H0:=by kernel_rfl
theorem iu.calls{I}{aa}{R}{H0}(h:iu.W I aa R H0):iu.C I aa H0 R:=
 (dp eF Tryz.func145 (by rw[iu.eq];exact h)).mono λv H' h=>by obtain⟨x,hv,hk⟩:=fS h;exact⟨x,hv,hk⟩
def iw.gD:gR:={ord:=λ_=>.ord [],loop:=λ_=>none,join:=λ_=>none}
def iw.W(aa:Option Addr)(I:Int)(R:Int->Int->Heap->Prop)(H0:Heap):Prop:=
 iu.C (aa) (I) H0 λab H1=>
 eX (IntKind.i64.wrap (I+1)) λx4:Int=>
 eX (IntKind.i64.wrap (I+ab)) λx5:Int=>R (x4) (x5) H1
theorem iw.eq(I:Option Addr)(aa:Int)(R:Int->Int->Heap->Prop)(H0:Heap):
 wF Tryz.prog iw.gD Tryz.f157 [.pointer I,.int .i64 aa] (λv H'=>xT [.one (.int .i64),.one (.int .i64)] v λr=>R r.1 r.2.1 H') H0=iw.W I aa R H0:=by kernel_rfl
theorem iw.calls{I}{aa}{R}{H0}(h:iw.W I aa R H0):iw.C I aa H0 R:=
 (dp eF Tryz.func157 (by rw[iw.eq];exact h)).mono λv H' h=>by obtain⟨x,hv,hk⟩:=dB h;exact⟨x.1,x.2.1,hv,hk⟩
def jf.gD:gR:={ord:=λ_=>.ord [],loop:=λi=>bif Nat.beq i 3 then some [(7,.one .slice),(15,.one (.int .i64))] else none,join:=λi=>bif Nat.beq i 7 then some [(7,.one .slice)] else bif Nat.beq i 8 then some [(7,.one .slice)] else none}
def jf.W(aO:Option Addr)(aq:ByteArray)(af:ByteArray)(R:Option Addr->Nat->Nat->Heap->Prop)(H0:Heap):Prop:=
 eW (S:=((Option Addr×Nat×Nat)×Unit)) (λJ8=>
 ∃aK:Addr,aO=some aK/\eO H0 (aK.add 3) λar ae aT=>
 lD (S:=((Option Addr×Nat×Nat)×Int×Unit)) (λL3 q3 H2=>(λ(I:Option Addr)(aa ab:Nat)(ad:Int)=>
 gn (decide (ad<(ae:Int))) (
 eW (S:=((Option Addr×Nat×Nat)×Unit)) (λJ7=>
 ∃aL:Addr,ar=some aL/\0<=ad/\ad<(ae:Int)/\kK H2 (aL.add (ad.toNat*7)) λav aw ax ay az aA ag ah ai=>
 eX (gy H2 #[.int .i64 0,.int .i64 0,.string (⟨#[]⟩:ByteArray),.string (⟨#[]⟩:ByteArray),.string (⟨#[]⟩:ByteArray),.string (⟨#[]⟩:ByteArray),.slice none 0 0] eH) λH4:Heap=>nR [.int .i64 av,.int .i64 aw,.string ax,.string ay,.string az,.string aA,.slice ag ah ai] ⟨Array.size H2,0,none⟩ 0 H4 λH5=>kK H5 ⟨Array.size H2,0,none⟩ λaB aC aD aE aF aG aj ak al=>
 fT.C (aB) (aC) aD aE aF aG (aj) ak al aq af H5 λaS H6=>
 gn aS (eX (gy H6 #[.iface gv (.int .i64 ad)] gV) λH7:Heap=>jN gV 1 16 (.nilIface) I aa ab (.slice (some ⟨Array.size H6,0,none⟩) 1 1) H7 λaH aI aJ H8=>J7 ((aH,aI,aJ),()) H8) (J7 ((I,aa,ab),()) H6))
 (λs7 H3=>(λ(I:Option Addr)(aa ab:Nat)=>L3 ((I,aa,ab),(IntKind.i64.wrap (ad+1):Int),()) H3) s7.1.1 s7.1.2.1 s7.1.2.2)) (J8 ((I,aa,ab),()) H2)) q3.1.1 q3.1.2.1 q3.1.2.2 q3.2.1) ((none,0,0),(0:Int),()) H0)
 (λs8 H1=>(λ(I:Option Addr)(aa ab:Nat)=>R (I) aa ab H1) s8.1.1 s8.1.2.1 s8.1.2.2)
theorem jf.eq(ab:Option Addr)(aa:ByteArray)(I:ByteArray)(R:Option Addr->Nat->Nat->Heap->Prop)(H0:Heap):
 wF Tryz.prog jf.gD Tryz.f158 [.pointer ab,.string aa,.string I] (λv H'=>xS (.one .slice) v λr=>R r.1 r.2.1 r.2.2 H') H0=jf.W ab aa I R H0:=by kernel_rfl
theorem jf.calls{ab}{aa}{I}{R}{H0}(h:jf.W ab aa I R H0):jf.C ab aa I H0 R:=
 (dp eF Tryz.func158 (by rw[jf.eq];exact h)).mono λv H' h=>by obtain⟨x,hv,hk⟩:=fS h;exact⟨x.1,x.2.1,x.2.2,hv,hk⟩
def dX.gD:gR:={ord:=λ_=>.ord [],loop:=λ_=>none,join:=λi=>bif Nat.beq i 2 then some [(27,.one .bool)] else bif Nat.beq i 3 then some [] else none}
def dX.W(I:Option Addr)(ak:Int)(al:Int)(ab:Int)(ad:Int)(R:Int->Heap->Prop)(H0:Heap):Prop:=
 eW (S:=Unit) (λJ3=>
 eW (S:=(Bool×Unit)) (λJ2=>
 eP.C (I) (ab) H0 λaq H3=>
 gn (!aq) (J2 (true,()) H3) (gn (decide (ad<0)) (J2 (true,()) H3) (∃af:Addr,I=some af/\
 ∃ag:Int,dj H3 (af.add 1)=some (.int .i64 ag)/\J2 (decide (ag<=ad),()) H3)))
 (λs2 H2=>(λ(au:Bool)=>
 gn au (R (-1) H2) (J3 () H2)) s2.1))
 (λ_ H1=>
 ∃aa:Addr,I=some aa/\(∃u,dj H1 (aa.add 3)=some u)/\gO H1 (aa.add 3)=false/\
 eX (nQ H1 (aa.add 3) (.int .i64 0)) λH4:Heap=>
 dI.C (I) (ak) (ab) H4 λav H5=>
 dH.C (I) (IntKind.i64.wrap (av+ad)) (ab) H5 λah H6=>
 ∃ai:Addr,I=some ai/\
 ∃aj:Int,dj H6 (ai.add 1)=some (.int .i64 aj)/\
 gn (decide ((min al aj)<=ah)) (R (-1) H6) (R (ah) H6))
theorem dX.eq(ab:Option Addr)(I:Int)(aa:Int)(ad:Int)(ae:Int)(R:Int->Heap->Prop)(H0:Heap):
 wF Tryz.prog dX.gD Tryz.f159 [.pointer ab,.int .i64 I,.int .i64 aa,.int .i64 ad,.int .i64 ae] (λv H'=>xS (.one (.int .i64)) v λr=>R r H') H0=dX.W ab I aa ad ae R H0:=by kernel_rfl
theorem dX.calls{ab}{I}{aa}{ad}{ae}{R}{H0}(h:dX.W ab I aa ad ae R H0):dX.C ab I aa ad ae H0 R:=
 (dp eF Tryz.func159 (by rw[dX.eq];exact h)).mono λv H' h=>by obtain⟨x,hv,hk⟩:=fS h;exact⟨x,hv,hk⟩
def jg.gD:gR:={ord:=λ_=>.ord [],loop:=λ_=>none,join:=λ_=>none}
def jg.W(ab:Option Addr)(ad:Int)(R:Int->Heap->Prop)(H0:Heap):Prop:=
 mw.C (ab) (ad) H0 λI aa H1=>
 jO.C (I) (aa) H1 λae H2=>
 eX (max (IntKind.i64.wrap (ae-1)) (-1)) λx4:Int=>R (x4) H2
theorem jg.eq(I:Option Addr)(aa:Int)(R:Int->Heap->Prop)(H0:Heap):
 wF Tryz.prog jg.gD Tryz.f166 [.pointer I,.int .i64 aa] (λv H'=>xS (.one (.int .i64)) v λr=>R r H') H0=jg.W I aa R H0:=by kernel_rfl
theorem jg.calls{I}{aa}{R}{H0}(h:jg.W I aa R H0):jg.C I aa H0 R:=
 (dp eF Tryz.func166 (by rw[jg.eq];exact h)).mono λv H' h=>by obtain⟨x,hv,hk⟩:=fS h;exact⟨x,hv,hk⟩
def dY.gD:gR:={ord:=λ_=>.ord [],loop:=λ_=>none,join:=λ_=>none}
def dY.W(I:Option Addr)(R:Int->Heap->Prop)(H0:Heap):Prop:=
 gn (Option.isNone (I)) (R (0) H0) (∃x6:Addr,I=some x6/\
 ∃x8:Int,dj H0 (x6.add 1)=some (.int .i64 x8)/\R (x8) H0)
theorem dY.eq(I:Option Addr)(R:Int->Heap->Prop)(H0:Heap):
 wF Tryz.prog dY.gD Tryz.f172 [.pointer I] (λv H'=>xS (.one (.int .i64)) v λr=>R r H') H0=dY.W I R H0:=by kernel_rfl
theorem dY.calls{I}{R}{H0}(h:dY.W I R H0):dY.C I H0 R:=
 (dp eF Tryz.func172 (by rw[dY.eq];exact h)).mono λv H' h=>by obtain⟨x,hv,hk⟩:=fS h;exact⟨x,hv,hk⟩
def pT.gD:gR:={ord:=λ_=>.ord [],loop:=λ_=>none,join:=λ_=>none}
def pT.W(aj:Option Addr)(ab:Int)(R:Option Addr->Heap->Prop)(H0:Heap):Prop:=
 ∃x9:Addr,aj=some x9/\
 ∃(I:Option Addr)(aa ad:Nat),dj H0 (x9.add 0)=some (.slice I aa ad)/\
 ∃af:Addr,I=some af/\0<=ab/\ab<(aa:Int)/\
 ∃ag:Value,dj H0 (af.add ab.toNat)=some (ag)/\
 ∃ah:Option Addr,∃ae:Bool,pc (ag) j5 (.pointer ah) (.pointer none) ae/\R (ah) H0
theorem pT.eq(I:Option Addr)(aa:Int)(R:Option Addr->Heap->Prop)(H0:Heap):
 wF Tryz.prog pT.gD Tryz.f173 [.pointer I,.int .i64 aa] (λv H'=>xS (.one .ptr) v λr=>R r H') H0=pT.W I aa R H0:=by kernel_rfl
theorem pT.calls{I}{aa}{R}{H0}(h:pT.W I aa R H0):pT.C I aa H0 R:=
 (dp eF Tryz.func173 (by rw[pT.eq];exact h)).mono λv H' h=>by obtain⟨x,hv,hk⟩:=fS h;exact⟨x,hv,hk⟩
def dR.gD:gR:={ord:=λ_=>.ord [],loop:=λ_=>none,join:=λi=>bif Nat.beq i 2 then some [(13,.one .bool)] else bif Nat.beq i 3 then some [] else none}
def dR.W(ab:Option Addr)(I:Int)(R:Bool->Int->Heap->Prop)(H0:Heap):Prop:=
 eW (S:=Unit) (λJ3=>
 eW (S:=(Bool×Unit)) (λJ2=>
 gn (decide (I<0)) (J2 (true,()) H0) (mh.C (ab) H0 λaf H3=>J2 (decide (af<=I),()) H3))
 (λs2 H2=>(λ(ah:Bool)=>
 gn ah (R false (4) H2) (J3 () H2)) s2.1))
 (λ_ H1=>(64:Int)≠0/\dU.C (ab) (IntKind.i64.wrap (Int.tdiv I 64)) H1 λaa ai H4=>(64:Int)≠0/\0<=(IntKind.u64.wrap (Int.tmod I 64))/\R (decide ((lN .u64 (kP .u64 aa (IntKind.u64.wrap (Int.tmod I 64))) 1)=1)) (0) H4)
theorem dR.eq(I:Option Addr)(aa:Int)(R:Bool->Int->Heap->Prop)(H0:Heap):
 wF Tryz.prog dR.gD Tryz.f174 [.pointer I,.int .i64 aa] (λv H'=>xT [.one .bool,.one (.int .i64)] v λr=>R r.1 r.2.1 H') H0=dR.W I aa R H0:=by kernel_rfl
theorem dR.calls{I}{aa}{R}{H0}(h:dR.W I aa R H0):dR.C I aa H0 R:=
 (dp eF Tryz.func174 (by rw[dR.eq];exact h)).mono λv H' h=>by obtain⟨x,hv,hk⟩:=dB h;exact⟨x.1,x.2.1,hv,hk⟩
def pR.gD:gR:={ord:=λ_=>.ord [],loop:=λ_=>none,join:=λi=>bif Nat.beq i 6 then some [(10,.one (.int .i64))] else none}
def pR.W(ad:Option Addr)(ak:Int)(aj:Int)(I:Bool)(R:Int->Heap->Prop)(H0:Heap):Prop:=
 ∃ag:Addr,ad=some ag/\
 ∃ah:Int,dj H0 (ag.add 3)=some (.int .i64 ah)/\
 ∃aa:Addr,ad=some aa/\(∃u,dj H0 (aa.add 3)=some u)/\gO H0 (aa.add 3)=false/\
 eX (nQ H0 (aa.add 3) (.int .i64 (IntKind.i64.wrap (ah+1)))) λH1:Heap=>
 pT.C (ad) (ak) H1 λab H2=>
 kB.C (ab) (aj) (I) H2 λai H3=>
 eW (S:=(Int×Unit)) (λJ6=>
 gn I (mh.C (ab) H3 λaq H5=>
 mh.C (ab) H5 λar H6=>
 kB.C (ab) (ar) true H6 λau H7=>
 eX (IntKind.i64.wrap (ai+(IntKind.i64.wrap (aq-au)))) λae:Int=>J6 ((ae:Int),()) H7) (J6 ((ai:Int),()) H3))
 (λs6 H4=>(λ(ae:Int)=>R (ae) H4) s6.1)
theorem pR.eq(ab:Option Addr)(ad:Int)(aa:Int)(I:Bool)(R:Int->Heap->Prop)(H0:Heap):
 wF Tryz.prog pR.gD Tryz.f175 [.pointer ab,.int .i64 ad,.int .i64 aa,.bool I] (λv H'=>xS (.one (.int .i64)) v λr=>R r H') H0=pR.W ab ad aa I R H0:=by kernel_rfl
theorem pR.calls{ab}{ad}{aa}{I}{R}{H0}(h:pR.W ab ad aa I R H0):pR.C ab ad aa I H0 R:=
 (dp eF Tryz.func175 (by rw[pR.eq];exact h)).mono λv H' h=>by obtain⟨x,hv,hk⟩:=fS h;exact⟨x,hv,hk⟩
def iS.gD:gR:={ord:=λ_=>.ord [],loop:=λ_=>none,join:=λ_=>none}
def iS.W(aa:Option Addr)(I:Int)(R:Int->Heap->Prop)(H0:Heap):Prop:=
 ∃x6:Addr,aa=some x6/\
 ∃x8:Option Addr,dj H0 (x6.add 0)=some (.pointer x8)/\kB.C (x8) (IntKind.i64.wrap (I+1)) true H0 λaf H1=>
 eX (IntKind.i64.wrap ((IntKind.i64.wrap ((IntKind.i64.wrap (2*af))-I))-1)) λx4:Int=>R (x4) H1
theorem iS.eq(I:Option Addr)(aa:Int)(R:Int->Heap->Prop)(H0:Heap):
 wF Tryz.prog iS.gD Tryz.f176 [.pointer I,.int .i64 aa] (λv H'=>xS (.one (.int .i64)) v λr=>R r H') H0=iS.W I aa R H0:=by kernel_rfl
theorem iS.calls{I}{aa}{R}{H0}(h:iS.W I aa R H0):iS.C I aa H0 R:=
 (dp eF Tryz.func176 (by rw[iS.eq];exact h)).mono λv H' h=>by obtain⟨x,hv,hk⟩:=fS h;exact⟨x,hv,hk⟩
def jI.gD:gR:={ord:=λi=>bif Nat.beq i 3 then .ord [0,1,2,3,4,5,6,7] else .ord [],loop:=λi=>bif Nat.beq i 4 then some [(7,.one (.int .i64)),(8,.one (.int .i64))] else bif Nat.beq i 13 then some [(10,.one (.int .u64)),(61,.one (.int .i64))] else none,join:=λi=>bif Nat.beq i 2 then some [(21,.one .bool)] else bif Nat.beq i 3 then some [] else bif Nat.beq i 9 then some [(7,.one (.int .i64))] else bif Nat.beq i 12 then some [(10,.one (.int .u64))] else bif Nat.beq i 16 then some [(10,.one (.int .u64))] else none}
def jI.W(ad:Option Addr)(af:Int)(ab:Bool)(R:Int->Heap->Prop)(H0:Heap):Prop:=
 eW (S:=Unit) (λJ3=>
 eW (S:=(Bool×Unit)) (λJ2=>
 gn (decide (af<0)) (J2 (true,()) H0) (mh.C (ad) H0 λax H3=>
 kB.C (ad) (ax) (ab) H3 λay H4=>J2 (decide (ay<=af),()) H4))
 (λs2 H2=>(λ(aA:Bool)=>
 gn aA (R (-1) H2) (J3 () H2)) s2.1))
 (λ_ H1=>
 ∃ak:Addr,ad=some ak/\
 ∃(ai:Option Addr)(ag aj:Nat),dj H1 (ak.add 0)=some (.slice ai ag aj)/\
 eX (IntKind.i64.wrap ((ag:Int)-1)) λae:Int=>
 eW (S:=(Int×Unit)) (λJ9=>
 lD (S:=(Int×Int×Unit)) (λL4 q4 H6=>(λ(aa:Int)(ae:Int)=>
 gn (decide (aa<ae)) ((2:Int)≠0/\
 eX (IntKind.i64.wrap (Int.tdiv (IntKind.i64.wrap ((IntKind.i64.wrap (aa+ae))+1)) 2)) λm9:Int=>
 kB.C (ad) (IntKind.i64.wrap (m9*64)) (ab) H6 λaD H7=>
 gn (decide (aD<=af)) (L4 ((m9:Int),(ae:Int),()) H7) (eX (IntKind.i64.wrap (m9-1)) λau:Int=>L4 ((aa:Int),(au:Int),()) H7)) (J9 ((aa:Int),()) H6)) q4.1 q4.2.1) ((0:Int),(ae:Int),()) H1)
 (λs9 H5=>(λ(aa:Int)=>
 dU.C (ad) (aa) H5 λah aP H8=>
 eW (S:=(Int×Unit)) (λal=>
 gn (!ab) (eX (SW .u64 ah) λI:Int=>al ((I:Int),()) H8) (al ((ah:Int),()) H8))
 (λaG H9=>(λ(I:Int)=>
 eW (S:=(Int×Unit)) (λaH=>
 kB.C (ad) (IntKind.i64.wrap (aa*64)) (ab) H9 λaI aJ=>
 lD (S:=(Int×Int×Unit)) (λaK ao aq=>(λ(I:Int)(ar:Int)=>
 gn (decide (ar<(IntKind.i64.wrap (af-aI)))) (eX (lN .u64 I (IntKind.u64.wrap (I-1))) λI:Int=>aK ((I:Int),(IntKind.i64.wrap (ar+1):Int),()) aq) (aH ((I:Int),()) aq)) ao.1 ao.2.1) ((I:Int),(0:Int),()) aJ)
 (λaL aM=>(λ(I:Int)=>
 ko.C (I) aM λaN aO=>
 eX (IntKind.i64.wrap ((IntKind.i64.wrap (aa*64))+aN)) λx6:Int=>R (x6) aO) aL.1)) aG.1)) s9.1))
theorem jI.eq(aa:Option Addr)(ab:Int)(I:Bool)(R:Int->Heap->Prop)(H0:Heap):
 wF Tryz.prog jI.gD Tryz.f177 [.pointer aa,.int .i64 ab,.bool I] (λv H'=>xS (.one (.int .i64)) v λr=>R r H') H0=jI.W aa ab I R H0:=by kernel_rfl
theorem jI.calls{aa}{ab}{I}{R}{H0}(h:jI.W aa ab I R H0):jI.C aa ab I H0 R:=
 (dp eF Tryz.func177 (by rw[jI.eq];exact h)).mono λv H' h=>by obtain⟨x,hv,hk⟩:=fS h;exact⟨x,hv,hk⟩
def eb.gD:gR:={ord:=λ_=>.ord [],loop:=λ_=>none,join:=λ_=>none}
def eb.W(I:Option Addr)(R:Int->Heap->Prop)(H0:Heap):Prop:=
 gn (Option.isNone (I)) (R (0) H0) (∃x6:Addr,I=some x6/\
 ∃x8:Int,dj H0 (x6.add 2)=some (.int .i64 x8)/\R (x8) H0)
theorem eb.eq(I:Option Addr)(R:Int->Heap->Prop)(H0:Heap):
 wF Tryz.prog eb.gD Tryz.f178 [.pointer I] (λv H'=>xS (.one (.int .i64)) v λr=>R r H') H0=eb.W I R H0:=by kernel_rfl
theorem eb.calls{I}{R}{H0}(h:eb.W I R H0):eb.C I H0 R:=
 (dp eF Tryz.func178 (by rw[eb.eq];exact h)).mono λv H' h=>by obtain⟨x,hv,hk⟩:=fS h;exact⟨x,hv,hk⟩
def nG.gD:gR:={ord:=λ_=>.ord [],loop:=λ_=>none,join:=λ_=>none}
def nG.W(ab:Option Addr)(R:Option Addr->Heap->Prop)(H0:Heap):Prop:=
 ∃x7:Addr,ab=some x7/\
 ∃x9:Value,dj H0 (x7.add 1)=some (x9)/\
 ∃aa:Option Addr,∃I:Bool,pc (x9) qy (.pointer aa) (.pointer none) I/\R (aa) H0
theorem nG.eq(I:Option Addr)(R:Option Addr->Heap->Prop)(H0:Heap):
 wF Tryz.prog nG.gD Tryz.f179 [.pointer I] (λv H'=>xS (.one .ptr) v λr=>R r H') H0=nG.W I R H0:=by kernel_rfl
theorem nG.calls{I}{R}{H0}(h:nG.W I R H0):nG.C I H0 R:=
 (dp eF Tryz.func179 (by rw[nG.eq];exact h)).mono λv H' h=>by obtain⟨x,hv,hk⟩:=fS h;exact⟨x,hv,hk⟩
def dP.gD:gR:={ord:=λi=>bif Nat.beq i 8 then .ord [0,1,3,5,6,7,8,9,11,12,2,4,10,13,14,15] else .ord [],loop:=λ_=>none,join:=λi=>bif Nat.beq i 2 then some [(19,.one .bool)] else bif Nat.beq i 3 then some [] else bif Nat.beq i 6 then some [(41,.one .bool)] else bif Nat.beq i 7 then some [] else none}
def dP.W(aa:Option Addr)(I:Int)(R:Int->Int->Heap->Prop)(H0:Heap):Prop:=
 eW (S:=Unit) (λJ3=>
 eW (S:=(Bool×Unit)) (λJ2=>
 gn (decide (I<0)) (J2 (true,()) H0) (ee.C (aa) H0 λav H3=>J2 (decide (av<=I),()) H3))
 (λs2 H2=>(λ(ax:Bool)=>
 gn ax (R (0) (4) H2) (J3 () H2)) s2.1))
 (λ_ H1=>
 ∃ai:Addr,aa=some ai/\
 ∃aj:Value,dj H1 (ai.add 0)=some (aj)/\
 ∃ak:Option Addr,∃ab:Bool,pc (aj) j5 (.pointer ak) (.pointer none) ab/\
 ∃al:Addr,aa=some al/\
 ∃ao:Value,dj H1 (al.add 1)=some (ao)/\
 ∃aq:Option Addr,∃ad:Bool,pc (ao) qz (.pointer aq) (.pointer none) ad/\
 eW (S:=Unit) (λJ7=>
 eW (S:=(Bool×Unit)) (λJ6=>
 gn (!ab) (J6 (true,()) H1) (J6 (!ad,()) H1))
 (λs6 H5=>(λ(aA:Bool)=>
 gn aA (R (0) (4) H5) (J7 () H5)) s6.1))
 (λ_ H4=>
 eg.C (aq) (I) H4 λah aD H6=>
 ∃af:Addr,aa=some af/\
 ∃ae:Int,dj H6 (af.add 3)=some (.int .i64 ae)/\jI.C (ak) (I) true H6 λaB H7=>(∃ag:Int,dj H7 (af.add 3)=some (.int .i64 ag)/\(.int .i64 ag:Value)=.int .i64 ae)/\0<=(IntKind.u64.wrap ae)/\
 eX (BT .i64 (pf .i64 (IntKind.i64.wrap (aB-I)) (IntKind.u64.wrap ae)) (IntKind.i64.wrap ah)) λx4:Int=>R (x4) (0) H7))
theorem dP.eq(I:Option Addr)(aa:Int)(R:Int->Int->Heap->Prop)(H0:Heap):
 wF Tryz.prog dP.gD Tryz.f180 [.pointer I,.int .i64 aa] (λv H'=>xT [.one (.int .i64),.one (.int .i64)] v λr=>R r.1 r.2.1 H') H0=dP.W I aa R H0:=by kernel_rfl
theorem dP.calls{I}{aa}{R}{H0}(h:dP.W I aa R H0):dP.C I aa H0 R:=
 (dp eF Tryz.func180 (by rw[dP.eq];exact h)).mono λv H' h=>by obtain⟨x,hv,hk⟩:=dB h;exact⟨x.1,x.2.1,hv,hk⟩
def mH.gD:gR:={ord:=λ_=>.ord [],loop:=λ_=>none,join:=λ_=>none}
def mH.W(aj:Option Addr)(ad:Int)(R:Option Addr->Nat->Nat->Heap->Prop)(H0:Heap):Prop:=
 ∃x9:Addr,aj=some x9/\eO H0 (x9.add 0) λae af ao=>
 ∃ah:Addr,ae=some ah/\0<=ad/\ad<(af:Int)/\Xw H0 (ah.add ad.toNat) λal=>
 ∃(I:Option Addr)(aa ab:Nat),∃ag:Bool,pc (al) rM (.slice I aa ab) (.slice none 0 0) ag/\R (I) aa ab H0
theorem mH.eq(I:Option Addr)(aa:Int)(R:Option Addr->Nat->Nat->Heap->Prop)(H0:Heap):
 wF Tryz.prog mH.gD Tryz.f185 [.pointer I,.int .i64 aa] (λv H'=>xS (.one .slice) v λr=>R r.1 r.2.1 r.2.2 H') H0=mH.W I aa R H0:=by kernel_rfl
theorem mH.calls{I}{aa}{R}{H0}(h:mH.W I aa R H0):mH.C I aa H0 R:=
 (dp eF Tryz.func185 (by rw[mH.eq];exact h)).mono λv H' h=>by obtain⟨x,hv,hk⟩:=fS h;exact⟨x.1,x.2.1,x.2.2,hv,hk⟩
def jj.gD:gR:={ord:=λ_=>.ord [],loop:=λi=>bif Nat.beq i 2 then some [(9,.one (.int .i64))] else none,join:=λi=>bif Nat.beq i 5 then some [(22,.one .bool)] else bif Nat.beq i 6 then some [] else bif Nat.beq i 7 then some [] else none}
def jj.W(ah:Int)(ad:Option Addr)(I aq:Nat)(R:Bool->Heap->Prop)(H0:Heap):Prop:=
 eW (S:=Unit) (λJ7=>
 lD (S:=(Int×Unit)) (λL2 q2 H2=>(λ(x9:Int)=>
 gn (decide (x9<(I:Int))) (
 eW (S:=Unit) (λJ6=>
 ∃ai:Addr,ad=some ai/\0<=x9/\x9<(I:Int)/\ae9 H2 (ai.add (x9.toNat*2)) λae af=>
 eX (gy H2 #[.int .i32 0,.int .i32 0] lP) λH4:Heap=>nR [.int .i32 ae,.int .i32 af] ⟨Array.size H2,0,none⟩ 0 H4 λH5=>
 eW (S:=(Bool×Unit)) (λJ5=>amn H5 ((⟨Array.size H2,0,none⟩:Addr).add 0) λak=>
 gn (decide (ak<=ah)) (amn H5 ((⟨Array.size H2,0,none⟩:Addr).add 1) λal=>J5 (decide (ah<=al),()) H5) (J5 (false,()) H5))
 (λs5 H6=>(λ(ao:Bool)=>
 gn ao (R true H6) (J6 () H6)) s5.1))
 (λ_ H3=>L2 ((IntKind.i64.wrap (x9+1):Int),()) H3)) (J7 () H2)) q2.1) ((0:Int),()) H0)
 (λ_ H1=>R false H1)
theorem jj.eq(ad:Int)(I:Option Addr)(aa ab:Nat)(R:Bool->Heap->Prop)(H0:Heap):
 wF Tryz.prog jj.gD Tryz.f187 [.int .i32 ad,.slice I aa ab] (λv H'=>xS (.one .bool) v λr=>R r H') H0=jj.W ad I aa ab R H0:=by kernel_rfl
theorem jj.calls{ad}{I}{aa ab}{R}{H0}(h:jj.W ad I aa ab R H0):jj.C ad I aa ab H0 R:=
 (dp eF Tryz.func187 (by rw[jj.eq];exact h)).mono λv H' h=>by obtain⟨x,hv,hk⟩:=fS h;exact⟨x,hv,hk⟩
def gI.gD:gR:={ord:=λ_=>.ord [],loop:=λ_=>none,join:=λ_=>none}
def gI.W(R:Option Addr->Nat->Nat->Heap->Prop)(I:Heap):Prop:=
 eX (gy I #[.int .i32 9,.int .i32 10,.int .i32 13,.int .i32 13,.int .i32 32,.int .i32 55295,.int .i32 57344,.int .i32 65533,.int .i32 65536,.int .i32 1114111] lP) λH1:Heap=>R (some ⟨Array.size I,0,none⟩) 5 5 H1
theorem gI.eq(R:Option Addr->Nat->Nat->Heap->Prop)(I:Heap):
 wF Tryz.prog gI.gD Tryz.f188 [] (λv H'=>xS (.one .slice) v λr=>R r.1 r.2.1 r.2.2 H') I=gI.W R I:=by kernel_rfl
theorem gI.calls{R}{I}(h:gI.W R I):gI.C I R:=
 (dp eF Tryz.func188 (by rw[gI.eq];exact h)).mono λv H' h=>by obtain⟨x,hv,hk⟩:=fS h;exact⟨x.1,x.2.1,x.2.2,hv,hk⟩
def lq.gD:gR:={ord:=λi=>bif Nat.beq i 2 then .ord [0,1,2,3,4,5,6,7,8,9,10,11,12,13,14,15,16,17,18,19,20,21,22,23,24,25,26,27,28,29,30,31,32,33,34,35,36,37,38,39,40,41,42,43,44,45,46] else .ord [],loop:=λ_=>none,join:=λ_=>none}
def lq.W(I:Option Addr)(aa ay:Nat)(R:Int->Heap->Prop)(H0:Heap):Prop:=
 ∃ad:Addr,I=some ad/\0<=(0:Int)/\(0:Int)<(aa:Int)/\F6 H0 (ad.add ((0:Int).toNat)) λal=>
 ∃ae:Addr,I=some ae/\0<=(1:Int)/\(1:Int)<(aa:Int)/\F6 H0 (ae.add ((1:Int).toNat)) λao=>0<=(8:Int)/\
 ∃af:Addr,I=some af/\0<=(2:Int)/\(2:Int)<(aa:Int)/\F6 H0 (af.add ((2:Int).toNat)) λaq=>0<=(16:Int)/\
 ∃ag:Addr,I=some ag/\0<=(3:Int)/\(3:Int)<(aa:Int)/\F6 H0 (ag.add ((3:Int).toNat)) λar=>0<=(24:Int)/\
 ∃ah:Addr,I=some ah/\0<=(4:Int)/\(4:Int)<(aa:Int)/\F6 H0 (ah.add ((4:Int).toNat)) λau=>0<=(32:Int)/\
 ∃ai:Addr,I=some ai/\0<=(5:Int)/\(5:Int)<(aa:Int)/\F6 H0 (ai.add ((5:Int).toNat)) λav=>0<=(40:Int)/\
 ∃aj:Addr,I=some aj/\0<=(6:Int)/\(6:Int)<(aa:Int)/\F6 H0 (aj.add ((6:Int).toNat)) λaw=>0<=(48:Int)/\
 ∃ak:Addr,I=some ak/\0<=(7:Int)/\(7:Int)<(aa:Int)/\F6 H0 (ak.add ((7:Int).toNat)) λax=>0<=(56:Int)/\
 eX (BT .u64 (BT .u64 (BT .u64 (BT .u64 (BT .u64 (BT .u64 (BT .u64 (IntKind.u64.wrap al) (pf .u64 (IntKind.u64.wrap ao) 8)) (pf .u64 (IntKind.u64.wrap aq) 16)) (pf .u64 (IntKind.u64.wrap ar) 24)) (pf .u64 (IntKind.u64.wrap au) 32)) (pf .u64 (IntKind.u64.wrap av) 40)) (pf .u64 (IntKind.u64.wrap aw) 48)) (pf .u64 (IntKind.u64.wrap ax) 56)) λx2:Int=>R (x2) H0
theorem lq.eq(I:Option Addr)(aa ab:Nat)(R:Int->Heap->Prop)(H0:Heap):
 wF Tryz.prog lq.gD Tryz.f189 [.slice I aa ab] (λv H'=>xS (.one (.int .u64)) v λr=>R r H') H0=lq.W I aa ab R H0:=by kernel_rfl
theorem lq.calls{I}{aa ab}{R}{H0}(h:lq.W I aa ab R H0):lq.C I aa ab H0 R:=
 (dp eF Tryz.func189 (by rw[lq.eq];exact h)).mono λv H' h=>by obtain⟨x,hv,hk⟩:=fS h;exact⟨x,hv,hk⟩
def e9.gD:gR:={ord:=λ_=>.ord [],loop:=λi=>bif Nat.beq i 2 then some [] else none,join:=λi=>bif Nat.beq i 6 then some [(36,.one .bool)] else bif Nat.beq i 7 then some [] else none,cut:=λi=>[7].any (Nat.beq i)}
def e9.W(ad:ByteArray)(aa:Int)(R:Int->Heap->Prop)(H0:Heap):Prop:=
 eW (S:=Unit) (λJ7=>0<=aa/\aa<=(ad.size:Int)/\
 eX (H0.push (.stringIter (ad.extract aa.toNat ad.size) 0)) λH2:Heap=>
 lD (S:=Unit) (λL2 _ H3=>
 ∃(ab:ByteArray)(I:Nat),H3[Array.size H0]?=some (.stringIter ab I)/\
 gn (decide (I<ab.size)) (eX (Array.setIfInBounds H3 (Array.size H0) (.stringIter ab (I+(Utf8.decode ab I).2))) λH4:Heap=>
 eX ((I:Int)) λk5:Int=>
 eX (((Utf8.decode ab I).1:Int)) λr6:Int=>0<=IntKind.i64.wrap (aa+k5)/\IntKind.i64.wrap (aa+k5)<=(ad.size:Int)/\mA.C (ad.extract ((IntKind.i64.wrap (aa+k5)).toNat) ad.size) H4 λaq af H5=>
 eW (S:=(Bool×Unit)) (λJ6=>
 eN.C (r6) H5 λal H7=>
 gn (!al) (J6 (true,()) H7) (gn (decide (r6=65533)) (J6 (decide (af=1),()) H7) (J6 (false,()) H7)))
 (λs6 H6=>(λ(ao:Bool)=>
 gn ao (eX (IntKind.i64.wrap (aa+k5)) λx4:Int=>R (x4) H6) (L2 () H6)) s6.1)) (J7 () H3)) () H2)
 (λ_ H1=>False)
theorem e9.eq(aa:ByteArray)(I:Int)(R:Int->Heap->Prop)(H0:Heap):
 wF Tryz.prog e9.gD Tryz.f196 [.string aa,.int .i64 I] (λv H'=>xS (.one (.int .i64)) v λr=>R r H') H0=e9.W aa I R H0:=by kernel_rfl
theorem e9.calls{aa}{I}{R}{H0}(h:e9.W aa I R H0):e9.C aa I H0 R:=
 (dp eF Tryz.func196 (by rw[e9.eq];exact h)).mono λv H' h=>by obtain⟨x,hv,hk⟩:=fS h;exact⟨x,hv,hk⟩
def eM.gD:gR:={ord:=λ_=>.ord [],loop:=λ_=>none,join:=λi=>bif Nat.beq i 4 then some [(5,.one .str),(6,.one .str)] else bif Nat.beq i 5 then some [(27,.one .bool)] else bif Nat.beq i 6 then some [] else none,cut:=λi=>[5].any (Nat.beq i)}
def eM.W(af:ByteArray)(R:ByteArray->ByteArray->Bool->Heap->Prop)(H0:Heap):Prop:=
 strings_Cut.C af (⟨#[58]⟩:ByteArray) H0 λad ae ab H1=>
 eW (S:=(ByteArray×ByteArray×Unit)) (λJ4=>
 gn (!ab) (J4 ((⟨#[]⟩:ByteArray),af,()) H1) (J4 (ad,ae,()) H1))
 (λs4 H2=>(λ(I:ByteArray)(aa:ByteArray)=>
 eW (S:=Unit) (λJ6=>
 eW (S:=(Bool×Unit)) (λJ5=>
 eD.C aa H2 λak H5=>
 gn (!ak) (J5 (true,()) H5) (gn ab (eD.C I H5 λal H6=>J5 (!al,()) H6) (J5 (false,()) H5)))
 (λs5 H4=>(λ(ao:Bool)=>
 gn ao (False) (J6 () H4)) s5.1))
 (λ_ H3=>R I aa true H3)) s4.1 s4.2.1)
theorem eM.eq(I:ByteArray)(R:ByteArray->ByteArray->Bool->Heap->Prop)(H0:Heap):
 wF Tryz.prog eM.gD Tryz.f197 [.string I] (λv H'=>xT [.one .str,.one .str,.one .bool] v λr=>R r.1 r.2.1 r.2.2.1 H') H0=eM.W I R H0:=by kernel_rfl
theorem eM.calls{I}{R}{H0}(h:eM.W I R H0):eM.C I H0 R:=
 (dp eF Tryz.func197 (by rw[eM.eq];exact h)).mono λv H' h=>by obtain⟨x,hv,hk⟩:=dB h;exact⟨x.1,x.2.1,x.2.2.1,hv,hk⟩
def iX.gD:gR:={ord:=λ_=>.ord [],loop:=λ_=>none,join:=λ_=>none,cut:=λi=>[3,5,7,13].any (Nat.beq i)}
def iX.W(I:ByteArray)(aa:Int)(R:Int->ByteArray->ByteArray->Option Addr->Nat->Nat->Bool->Int->Bool->Heap->Prop)(H0:Heap):Prop:=
 eX (gy H0 #[.int .i64 0,.string (⟨#[]⟩:ByteArray),.string (⟨#[]⟩:ByteArray),.slice none 0 0,.bool false] dE) λH1:Heap=>0<=aa/\aa<=(I.size:Int)/\strings_HasPrefix.C (I.extract aa.toNat I.size) (⟨#[60,33,45,45]⟩:ByteArray) H1 λaS H2=>
 gn aS (False) (strings_HasPrefix.C (I.extract aa.toNat I.size) (⟨#[60,33,91,67,68,65,84,65,91]⟩:ByteArray) H2 λaT H3=>
 gn aT (False) (strings_HasPrefix.C (I.extract aa.toNat I.size) (⟨#[60,63]⟩:ByteArray) H3 λaU H4=>
 gn aU (False) (strings_HasPrefix.C (I.extract aa.toNat I.size) (⟨#[60,47]⟩:ByteArray) H4 λaV H5=>
 gn aV (iY.C I (aa) H5 λay az aA af ag ah aB aK aL H6=>nR [.int .i64 ay,.string az,.string aA,.slice af ag ah,.bool aB] ⟨Array.size H0,0,none⟩ 0 H6 λH7=>eE H7 ⟨Array.size H0,0,none⟩ λai aj ak ab ad ae al=>R (ai) aj ak (ab) ad ae (al) (aK) (aL) H7) (0<=(0:Int)/\(0:Int)<((I.extract aa.toNat I.size).size:Int)/\
 gn (decide ((bt (I.extract aa.toNat I.size) (0:Int))=60)) (fP.C I (aa) H5 λaC aD aE ao aq ar aF aM aN H8=>nR [.int .i64 aC,.string aD,.string aE,.slice ao aq ar,.bool aF] ⟨Array.size H0,0,none⟩ 0 H8 λH9=>eE H9 ⟨Array.size H0,0,none⟩ λai aj ak ab ad ae al=>R (ai) aj ak (ab) ad ae (al) (aM) (aN) H9) (0<=(0:Int)/\(0:Int)<((I.extract aa.toNat I.size).size:Int)/\
 gn (decide ((bt (I.extract aa.toNat I.size) (0:Int))=38)) (False) (fQ.C I (aa) H5 λaG aH aI au av aw aJ aO aP aY=>nR [.int .i64 aG,.string aH,.string aI,.slice au av aw,.bool aJ] ⟨Array.size H0,0,none⟩ 0 aY λaQ=>eE aQ ⟨Array.size H0,0,none⟩ λai aj ak ab ad ae al=>R (ai) aj ak (ab) ad ae (al) (aO) (aP) aQ))))))
theorem iX.eq(aa:ByteArray)(I:Int)(R:Int->ByteArray->ByteArray->Option Addr->Nat->Nat->Bool->Int->Bool->Heap->Prop)(H0:Heap):
 wF Tryz.prog iX.gD Tryz.f202 [.string aa,.int .i64 I] (λv H'=>xT [.agg [.int .i64,.str,.str,.slice,.bool],.one (.int .i64),.one .bool] v λr=>R r.1.1 r.1.2.1 r.1.2.2.1 r.1.2.2.2.1.1 r.1.2.2.2.1.2.1 r.1.2.2.2.1.2.2 r.1.2.2.2.2.1 r.2.1 r.2.2.1 H') H0=iX.W aa I R H0:=by kernel_rfl
theorem iX.calls{aa}{I}{R}{H0}(h:iX.W aa I R H0):iX.C aa I H0 R:=
 (dp eF Tryz.func202 (by rw[iX.eq];exact h)).mono λv H' h=>by obtain⟨x,hv,hk⟩:=dB h;exact⟨x.1.1,x.1.2.1,x.1.2.2.1,x.1.2.2.2.1.1,x.1.2.2.2.1.2.1,x.1.2.2.2.1.2.2,x.1.2.2.2.2.1,x.2.1,x.2.2.1,hv,hk⟩
def mM.gD:gR:={ord:=λi=>bif Nat.beq i 1 then .ord [0,1,2,3,4,5,6,7,8,9,10,11,12,13,14,15] else .ord [],loop:=λ_=>none,join:=λ_=>none}
def mM.W(ag:Option Addr)(ai:Int)(R:Heap->Prop)(H0:Heap):Prop:=
 ∃x5:Addr,ag=some x5/\lH.C (some (x5.add 10)) H0 λx7 H1=>
 gn (decide ((0:Int)<x7)) (∃ah:Addr,ag=some ah/\eO H1 (ah.add 0) λad ae af=>
 ∃ao:Addr,ag=some ao/\gA.C (some (ao.add 10)) H1 λaw H2=>(eO H2 (ah.add 0) λI aa ab=>(.slice I aa ab:Value)=.slice ad ae af)/\
 eX (gy H2 #[.int .i64 3,.int .i64 ai,.string (⟨#[]⟩:ByteArray),.string (⟨#[]⟩:ByteArray),.string (⟨#[]⟩:ByteArray),.string aw,.slice none 0 0] eH) λH3:Heap=>(eO H3 (ah.add 0) λI aa ab=>(.slice I aa ab:Value)=.slice ad ae af)/\jN eH 7 104 (.agg #[.int .i64 0,.int .i64 0,.string (⟨#[]⟩:ByteArray),.string (⟨#[]⟩:ByteArray),.string (⟨#[]⟩:ByteArray),.string (⟨#[]⟩:ByteArray),.slice none 0 0]) ad ae af (.slice (some ⟨Array.size H2,0,none⟩) 1 1) H3 λaj ak al H4=>
 ∃aq:Addr,ag=some aq/\sV (.slice aj ak al) (aq.add 0) H4 λH5=>
 ∃ar:Addr,ag=some ar/\jw.C (some (ar.add 10)) H5 λH6=>R H6) (R H1)
theorem mM.eq(aa:Option Addr)(I:Int)(R:Heap->Prop)(H0:Heap):
 wF Tryz.prog mM.gD Tryz.f203 [.pointer aa,.int .i64 I] (λv H'=>xT [] v λ_=>R H') H0=mM.W aa I R H0:=by kernel_rfl
theorem mM.calls{aa}{I}{R}{H0}(h:mM.W aa I R H0):mM.C aa I H0 R:=
 (dp eF Tryz.func203 (by rw[mM.eq];exact h)).mono λv H' h=>by obtain⟨x,hv,hk⟩:=dB h;exact⟨hv,hk⟩
def gj.gD:gR:={ord:=λ_=>.ord [],loop:=λi=>bif Nat.beq i 11 then some [(53,.one (.int .i64))] else none,join:=λi=>bif Nat.beq i 17 then some [] else none,cut:=λi=>[2,4,7,12,18].any (Nat.beq i)}
def gj.W(aF:Int)(aG:ByteArray)(aH:ByteArray)(I:Option Addr)(aa ab:Nat)(aI:Bool)(aJ:ByteArray)(ad:Option Addr)(ae af:Nat)(ag:Option Addr)(ah ai:Nat)(bF:Option Addr)(bA:Option Addr)(aK:Int)(aL:Int)(aM:Int)(aN:Int)(R:Int->Int->ByteArray->ByteArray->ByteArray->ByteArray->Option Addr->Nat->Nat->Int->Heap->Prop)(H0:Heap):Prop:=
 eX (gy H0 #[.int .i64 aF,.string aG,.string aH,.slice I aa ab,.bool aI] dE) λH1:Heap=>
 eX (gy H1 #[.string aJ,.slice ad ae af,.slice ag ah ai] iI) λH2:Heap=>
 eX (gy H2 #[.int .i64 aK,.int .i64 aL,.int .i64 aM,.int .i64 aN] ie) λH3:Heap=>
 eX (gy H3 #[.int .i64 0,.int .i64 0,.string (⟨#[]⟩:ByteArray),.string (⟨#[]⟩:ByteArray),.string (⟨#[]⟩:ByteArray),.string (⟨#[]⟩:ByteArray),.slice none 0 0] eH) λH4:Heap=>eO H4 ((⟨Array.size H0,0,none⟩:Addr).add 3) λbY aP bZ=>ff H4 ((⟨Array.size H2,0,none⟩:Addr).add 3) λbG=>
 gn (decide (bG<(aP:Int))) (False) (eE H4 ⟨Array.size H0,0,none⟩ λaQ aR aS aj ak al aT=>
 hE.C (aQ) aR aS (aj) ak al (aT) H4 λbH H5=>
 gn (!bH) (False) (eE H5 ⟨Array.size H0,0,none⟩ λaV aW aX ao aq ar aY=>xq H5 ⟨Array.size H1,0,none⟩ λaZ au av aw ax ay az=>jt H5 ⟨Array.size H2,0,none⟩ λa6 a7 a8 ba=>
 eR.C (aV) aW aX (ao) aq ar (aY) aZ (au) av aw (ax) ay az (bF) (a6) (a7) (a8) (ba) H5 λbD aA bE bb H6=>
 gn (decide (bb≠0)) (False) (eX (gy H6 #[.int .i64 0,.int .i64 0,.string (⟨#[]⟩:ByteArray),.string (⟨#[]⟩:ByteArray),.string (⟨#[]⟩:ByteArray),.string (⟨#[]⟩:ByteArray),.slice none 0 0] eH) λH7:Heap=>nR [.int .i64 2,.int .i64 0,.string (⟨#[]⟩:ByteArray),.string (⟨#[]⟩:ByteArray),.string (⟨#[]⟩:ByteArray),.string (⟨#[]⟩:ByteArray),.slice none 0 0] ⟨Array.size H6,0,none⟩ 0 H7 λH8=>im H8 ((⟨Array.size H0,0,none⟩:Addr).add 1) λbJ=>
 eM.C bJ H8 λbf bg b0 H9=>sV (.string bf) ((⟨Array.size H6,0,none⟩:Addr).add 2) H9 λbK=>sV (.string bg) ((⟨Array.size H6,0,none⟩:Addr).add 3) bK λbL=>
 eW (S:=Unit) (λbM=>
 lD (S:=(Int×Unit)) (λb3 bN bO=>(λ(bP:Int)=>
 gn (decide (bP<(aA:Int))) (False) (bM () bO)) bN.1) ((0:Int),()) bL)
 (λ_ bQ=>
 jP.C (bA) (some ⟨Array.size H6,0,none⟩) bQ λbR bx=>
 gn (decide (bR≠0)) (False) (kK bx ⟨Array.size H6,0,none⟩ λbh bj bk bm bn bo aB aC aD=>nR [.int .i64 bh,.int .i64 bj,.string bk,.string bm,.string bn,.string bo,.slice aB aC aD] ⟨Array.size H3,0,none⟩ 0 bx λbz=>kK bz ⟨Array.size H3,0,none⟩ λbS bT bU bV bW bX bq br bw=>R (bS) (bT) bU bV bW bX (bq) br bw (0) bz)))))
theorem gj.eq(aj:Int)(ak:ByteArray)(al:ByteArray)(I:Option Addr)(aa ab:Nat)(ao:Bool)(aq:ByteArray)(ad:Option Addr)(ae af:Nat)(ag:Option Addr)(ah ai:Nat)(ay:Option Addr)(ax:Option Addr)(ar:Int)(au:Int)(av:Int)(aw:Int)(R:Int->Int->ByteArray->ByteArray->ByteArray->ByteArray->Option Addr->Nat->Nat->Int->Heap->Prop)(H0:Heap):
 wF Tryz.prog gj.gD Tryz.f204 [.agg #[.int .i64 aj,.string ak,.string al,.slice I aa ab,.bool ao],.agg #[.string aq,.slice ad ae af,.slice ag ah ai],.pointer ay,.pointer ax,.agg #[.int .i64 ar,.int .i64 au,.int .i64 av,.int .i64 aw]] (λv H'=>xT [.agg [.int .i64,.int .i64,.str,.str,.str,.str,.slice],.one (.int .i64)] v λr=>R r.1.1 r.1.2.1 r.1.2.2.1 r.1.2.2.2.1 r.1.2.2.2.2.1 r.1.2.2.2.2.2.1 r.1.2.2.2.2.2.2.1.1 r.1.2.2.2.2.2.2.1.2.1 r.1.2.2.2.2.2.2.1.2.2 r.2.1 H') H0=gj.W aj ak al I aa ab ao aq ad ae af ag ah ai ay ax ar au av aw R H0:=by kernel_rfl
theorem gj.calls{aj}{ak}{al}{I}{aa ab}{ao}{aq}{ad}{ae af}{ag}{ah ai}{ay}{ax}{ar}{au}{av}{aw}{R}{H0}(h:gj.W aj ak al I aa ab ao aq ad ae af ag ah ai ay ax ar au av aw R H0):gj.C aj ak al I aa ab ao aq ad ae af ag ah ai ay ax ar au av aw H0 R:=
 (dp eF Tryz.func204 (by rw[gj.eq];exact h)).mono λv H' h=>by obtain⟨x,hv,hk⟩:=dB h;exact⟨x.1.1,x.1.2.1,x.1.2.2.1,x.1.2.2.2.1,x.1.2.2.2.2.1,x.1.2.2.2.2.2.1,x.1.2.2.2.2.2.2.1.1,x.1.2.2.2.2.2.2.1.2.1,x.1.2.2.2.2.2.2.1.2.2,x.2.1,hv,hk⟩
def gq.gD:gR:={ord:=λi=>bif Nat.beq i 15 then .ord [0,1,2,3,4,5] else .ord [],loop:=λi=>bif Nat.beq i 1 then some [(2,.one (.int .i64))] else none,join:=λi=>bif Nat.beq i 3 then some [(27,.one .bool)] else bif Nat.beq i 4 then some [] else bif Nat.beq i 15 then some [(44,.one .bool)] else bif Nat.beq i 20 then some [(61,.one .bool)] else bif Nat.beq i 23 then some [(2,.one (.int .i64)),(14,.one (.int .i64))] else none,cut:=λi=>[3,5,9,17,20,24].any (Nat.beq i)}
def gq.W(aw:Option Addr)(aI:ByteArray)(aN:Int)(aa:Int)(ae:ByteArray)(R:Int->Int->Heap->Prop)(H0:Heap):Prop:=
 lD (S:=(Int×Unit)) (λL1 q1 H1=>(λ(ax:Int)=>
 gf.C aI (ax) H1 λaj ak al af ag ah ao ab ad H2=>
 eX (gy H2 #[.int .i64 0,.string (⟨#[]⟩:ByteArray),.string (⟨#[]⟩:ByteArray),.slice none 0 0,.bool false] dE) λH3:Heap=>nR [.int .i64 aj,.string ak,.string al,.slice af ag ah,.bool ao] ⟨Array.size H2,0,none⟩ 0 H3 λH4=>
 eW (S:=Unit) (λJ4=>
 eW (S:=(Bool×Unit)) (λJ3=>
 gn (decide (ad=6)) (J3 (decide (ae=(⟨#[]⟩:ByteArray)),()) H4) (J3 (false,()) H4))
 (λs3 H6=>(λ(aQ:Bool)=>
 gn aQ (False) (J4 () H6)) s3.1))
 (λ_ H5=>
 gn (decide (ad≠0)) (False) (
 eW (S:=(Int×Int×Unit)) (λaJ=>ff H5 ((⟨Array.size H2,0,none⟩:Addr).add 0) λI=>
 eW (S:=(Bool×Unit)) (λay=>
 gn (decide (I=1)) (ay (decide (I=1),()) H5) (gn (decide (I=6)) (ay (decide (I=6),()) H5) (ay (decide (I=7),()) H5)))
 (λaR H8=>(λ(aS:Bool)=>
 gn aS (∃aK:Addr,aw=some aK/\im H8 ((⟨Array.size H2,0,none⟩:Addr).add 2) λaT=>
 fx.C (some (aK.add 10)) aT H8 λaZ a6 H9=>aJ ((ab:Int),(ad:Int),()) H9) (gn (decide (I=8)) (False) (
 eW (S:=(Bool×Unit)) (λaL=>
 gn (decide (I=4)) (aL (decide (I=4),()) H8) (aL (decide (I=5),()) H8))
 (λaU ai=>(λ(aV:Bool)=>
 gn aV (False) (gn (decide (I=2)) (eE ai ⟨Array.size H2,0,none⟩ λaC aD aE ar au av aF=>
 jQ.C (aw) (aC) aD aE (ar) au av (aF) aI (ab) (aa) ai λaG aH aW=>aJ ((aG:Int),(aH:Int),()) aW) (im ai ((⟨Array.size H2,0,none⟩:Addr).add 1) λaX=>
 gn (decide (aX≠ae)) (False) (mM.C (aw) (aa) ai λaY=>R (ab) (0) aY)))) aU.1)))) aR.1))
 (λaM H7=>(λ(ax:Int)(az:Int)=>
 gn (decide (az≠0)) (False) (L1 ((ax:Int),()) H7)) aM.1 aM.2.1)))) q1.1) ((aN:Int),()) H0
theorem gq.eq(ad:Option Addr)(ae:ByteArray)(ab:Int)(I:Int)(aa:ByteArray)(R:Int->Int->Heap->Prop)(H0:Heap):
 wF Tryz.prog gq.gD Tryz.f205 [.pointer ad,.string ae,.int .i64 ab,.int .i64 I,.string aa] (λv H'=>xT [.one (.int .i64),.one (.int .i64)] v λr=>R r.1 r.2.1 H') H0=gq.W ad ae ab I aa R H0:=by kernel_rfl
theorem gq.calls{ad}{ae}{ab}{I}{aa}{R}{H0}(h:gq.W ad ae ab I aa R H0):gq.C ad ae ab I aa H0 R:=
 (dp eF Tryz.func205 (by rw[gq.eq];exact h)).mono λv H' h=>by obtain⟨x,hv,hk⟩:=dB h;exact⟨x.1,x.2.1,hv,hk⟩
def eD.gD:gR:={ord:=λ_=>.ord [],loop:=λ_=>none,join:=λ_=>none}
def eD.W(I:ByteArray)(R:Bool->Heap->Prop)(H0:Heap):Prop:=
 fK.C I H0 λx4 H1=>
 gn x4 (strings_Contains.C I (⟨#[58]⟩:ByteArray) H1 λx7 H2=>R (!x7) H2) (R false H1)
theorem eD.eq(I:ByteArray)(R:Bool->Heap->Prop)(H0:Heap):
 wF Tryz.prog eD.gD Tryz.f208 [.string I] (λv H'=>xS (.one .bool) v λr=>R r H') H0=eD.W I R H0:=by kernel_rfl
theorem eD.calls{I}{R}{H0}(h:eD.W I R H0):eD.C I H0 R:=
 (dp eF Tryz.func208 (by rw[eD.eq];exact h)).mono λv H' h=>by obtain⟨x,hv,hk⟩:=fS h;exact⟨x,hv,hk⟩
def jy.gD:gR:={ord:=λ_=>.ord [],loop:=λ_=>none,join:=λ_=>none,cut:=λi=>[3].any (Nat.beq i)}
def jy.W(I:ByteArray)(aa:ByteArray)(R:ByteArray->Heap->Prop)(H0:Heap):Prop:=
 gn (decide (I=(⟨#[]⟩:ByteArray))) (R aa H0) (False)
theorem jy.eq(I:ByteArray)(aa:ByteArray)(R:ByteArray->Heap->Prop)(H0:Heap):
 wF Tryz.prog jy.gD Tryz.f209 [.string I,.string aa] (λv H'=>xS (.one .str) v λr=>R r H') H0=jy.W I aa R H0:=by kernel_rfl
theorem jy.calls{I}{aa}{R}{H0}(h:jy.W I aa R H0):jy.C I aa H0 R:=
 (dp eF Tryz.func209 (by rw[jy.eq];exact h)).mono λv H' h=>by obtain⟨x,hv,hk⟩:=fS h;exact⟨x,hv,hk⟩
def iN.gD:gR:={ord:=λ_=>.ord [],loop:=λi=>bif Nat.beq i 5 then some [(3,.one (.int .u64)),(4,.one (.int .i64))] else none,join:=λi=>bif Nat.beq i 3 then some [] else bif Nat.beq i 8 then some [(3,.one (.int .u64))] else none}
def iN.W(aa:Option Addr)(I aj:Nat)(R:Int->Heap->Prop)(H0:Heap):Prop:=
 eW (S:=Unit) (λJ3=>
 gn (decide ((I:Int)<1)) (False) (J3 () H0))
 (λ_ H1=>
 ∃ab:Addr,aa=some ab/\0<=(0:Int)/\(0:Int)<(I:Int)/\
 ∃ad:Int,dj H1 (ab.add ((0:Int).toNat))=some (.int .u64 ad)/\
 eW (S:=(Int×Unit)) (λJ8=>
 lD (S:=(Int×Int×Unit)) (λL5 q5 H3=>(λ(m3:Int)(i4:Int)=>
 gn (decide (i4<(I:Int))) (∃ae:Addr,aa=some ae/\0<=i4/\i4<(I:Int)/\
 ∃af:Int,dj H3 (ae.add i4.toNat)=some (.int .u64 af)/\
 eX (max m3 af) λm3:Int=>
 eX (IntKind.i64.wrap (i4+1)) λai:Int=>L5 ((m3:Int),(ai:Int),()) H3) (J8 ((m3:Int),()) H3)) q5.1 q5.2.1) ((ad:Int),(1:Int),()) H1)
 (λs8 H2=>(λ(m3:Int)=>R (m3) H2) s8.1))
theorem iN.eq(I:Option Addr)(aa ab:Nat)(R:Int->Heap->Prop)(H0:Heap):
 wF Tryz.prog iN.gD Tryz.f212 [.slice I aa ab] (λv H'=>xS (.one (.int .u64)) v λr=>R r H') H0=iN.W I aa ab R H0:=by kernel_rfl
theorem iN.calls{I}{aa ab}{R}{H0}(h:iN.W I aa ab R H0):iN.C I aa ab H0 R:=
 (dp eF Tryz.func212 (by rw[iN.eq];exact h)).mono λv H' h=>by obtain⟨x,hv,hk⟩:=fS h;exact⟨x,hv,hk⟩
def lg.gD:gR:={ord:=λ_=>.ord [],loop:=λ_=>none,join:=λi=>bif Nat.beq i 2 then some [(13,.one .bool)] else bif Nat.beq i 3 then some [] else none,cut:=λi=>[2].any (Nat.beq i)}
def lg.W(af:Option Addr)(aa aG:Nat)(I:Int)(R:Int->Int->ByteArray->ByteArray->ByteArray->ByteArray->Option Addr->Nat->Nat->Bool->Heap->Prop)(H0:Heap):Prop:=
 eX (gy H0 #[.int .i64 0,.int .i64 0,.string (⟨#[]⟩:ByteArray),.string (⟨#[]⟩:ByteArray),.string (⟨#[]⟩:ByteArray),.string (⟨#[]⟩:ByteArray),.slice none 0 0] eH) λH1:Heap=>
 eW (S:=Unit) (λJ3=>
 eW (S:=(Bool×Unit)) (λJ2=>
 gn (decide (I<0)) (J2 (true,()) H1) (J2 (decide ((aa:Int)<=I),()) H1))
 (λs2 H3=>(λ(ax:Bool)=>
 gn ax (False) (J3 () H3)) s2.1))
 (λ_ H2=>
 ∃au:Addr,af=some au/\0<=I/\I<(aa:Int)/\kK H2 (au.add (I.toNat*7)) λag ah ai aj ak al ab ad ae=>nR [.int .i64 ag,.int .i64 ah,.string ai,.string aj,.string ak,.string al,.slice ab ad ae] ⟨Array.size H0,0,none⟩ 0 H2 λH4=>kK H4 ⟨Array.size H0,0,none⟩ λaA aB aC aD aE aF ao aq ar=>R (aA) (aB) aC aD aE aF (ao) aq ar true H4)
theorem lg.eq(I:Option Addr)(aa ab:Nat)(ad:Int)(R:Int->Int->ByteArray->ByteArray->ByteArray->ByteArray->Option Addr->Nat->Nat->Bool->Heap->Prop)(H0:Heap):
 wF Tryz.prog lg.gD Tryz.f214 [.slice I aa ab,.int .i64 ad] (λv H'=>xT [.agg [.int .i64,.int .i64,.str,.str,.str,.str,.slice],.one .bool] v λr=>R r.1.1 r.1.2.1 r.1.2.2.1 r.1.2.2.2.1 r.1.2.2.2.2.1 r.1.2.2.2.2.2.1 r.1.2.2.2.2.2.2.1.1 r.1.2.2.2.2.2.2.1.2.1 r.1.2.2.2.2.2.2.1.2.2 r.2.1 H') H0=lg.W I aa ab ad R H0:=by kernel_rfl
theorem lg.calls{I}{aa ab}{ad}{R}{H0}(h:lg.W I aa ab ad R H0):lg.C I aa ab ad H0 R:=
 (dp eF Tryz.func214 (by rw[lg.eq];exact h)).mono λv H' h=>by obtain⟨x,hv,hk⟩:=dB h;exact⟨x.1.1,x.1.2.1,x.1.2.2.1,x.1.2.2.2.1,x.1.2.2.2.2.1,x.1.2.2.2.2.2.1,x.1.2.2.2.2.2.2.1.1,x.1.2.2.2.2.2.2.1.2.1,x.1.2.2.2.2.2.2.1.2.2,x.2.1,hv,hk⟩
def jk.gD:gR:={ord:=λ_=>.ord [],loop:=λ_=>none,join:=λ_=>none,cut:=λi=>[3].any (Nat.beq i)}
def jk.W(I:ByteArray)(aa:ByteArray)(R:ByteArray->Heap->Prop)(H0:Heap):Prop:=
 gn (decide (I=(⟨#[]⟩:ByteArray))) (R aa H0) (False)
theorem jk.eq(I:ByteArray)(aa:ByteArray)(R:ByteArray->Heap->Prop)(H0:Heap):
 wF Tryz.prog jk.gD Tryz.f215 [.string I,.string aa] (λv H'=>xS (.one .str) v λr=>R r H') H0=jk.W I aa R H0:=by kernel_rfl
theorem jk.calls{I}{aa}{R}{H0}(h:jk.W I aa R H0):jk.C I aa H0 R:=
 (dp eF Tryz.func215 (by rw[jk.eq];exact h)).mono λv H' h=>by obtain⟨x,hv,hk⟩:=fS h;exact⟨x,hv,hk⟩
def lO.gD:gR:={ord:=λ_=>.ord [],loop:=λ_=>none,join:=λ_=>none}
def lO.W(I:Option Addr)(aa:Int)(R:Int->Heap->Prop)(H0:Heap):Prop:=
 dJ.C (I) (aa) (1) H0 λx7 H1=>R (x7) H1
theorem lO.eq(I:Option Addr)(aa:Int)(R:Int->Heap->Prop)(H0:Heap):
 wF Tryz.prog lO.gD Tryz.f218 [.pointer I,.int .i64 aa] (λv H'=>xS (.one (.int .i64)) v λr=>R r H') H0=lO.W I aa R H0:=by kernel_rfl
theorem lO.calls{I}{aa}{R}{H0}(h:lO.W I aa R H0):lO.C I aa H0 R:=
 (dp eF Tryz.func218 (by rw[lO.eq];exact h)).mono λv H' h=>by obtain⟨x,hv,hk⟩:=fS h;exact⟨x,hv,hk⟩
def na.gD:gR:={ord:=λ_=>.ord [],loop:=λ_=>none,join:=λ_=>none}
def na.W(I:Option Addr)(aa:Int)(R:Int->Heap->Prop)(H0:Heap):Prop:=
 iP.C (I) (aa) H0 λx7 H1=>
 gn (!x7) (R (-1) H1) (∃ab:Addr,I=some ab/\
 ∃ad:Option Addr,dj H1 (ab.add 0)=some (.pointer ad)/\kB.C (ad) (aa) true H1 λae H2=>R (ae) H2)
theorem na.eq(I:Option Addr)(aa:Int)(R:Int->Heap->Prop)(H0:Heap):
 wF Tryz.prog na.gD Tryz.f219 [.pointer I,.int .i64 aa] (λv H'=>xS (.one (.int .i64)) v λr=>R r H') H0=na.W I aa R H0:=by kernel_rfl
theorem na.calls{I}{aa}{R}{H0}(h:na.W I aa R H0):na.C I aa H0 R:=
 (dp eF Tryz.func219 (by rw[na.eq];exact h)).mono λv H' h=>by obtain⟨x,hv,hk⟩:=fS h;exact⟨x,hv,hk⟩
def pQ.gD:gR:={ord:=λ_=>.ord [],loop:=λ_=>none,join:=λ_=>none}
def pQ.W(aa:Option Addr)(I:Int)(R:Int->Heap->Prop)(H0:Heap):Prop:=
 iP.C (aa) (I) H0 λx7 H1=>
 gn (!x7) (R (0) H1) (nK.C (aa) (I) H1 λab H2=>(2:Int)≠0/\
 eX (IntKind.i64.wrap (Int.tdiv (IntKind.i64.wrap ((IntKind.i64.wrap (ab-I))+1)) 2)) λx4:Int=>R (x4) H2)
theorem pQ.eq(I:Option Addr)(aa:Int)(R:Int->Heap->Prop)(H0:Heap):
 wF Tryz.prog pQ.gD Tryz.f221 [.pointer I,.int .i64 aa] (λv H'=>xS (.one (.int .i64)) v λr=>R r H') H0=pQ.W I aa R H0:=by kernel_rfl
theorem pQ.calls{I}{aa}{R}{H0}(h:pQ.W I aa R H0):pQ.C I aa H0 R:=
 (dp eF Tryz.func221 (by rw[pQ.eq];exact h)).mono λv H' h=>by obtain⟨x,hv,hk⟩:=fS h;exact⟨x,hv,hk⟩
def nK.gD:gR:={ord:=λ_=>.ord [],loop:=λ_=>none,join:=λ_=>none}
def nK.W(I:Option Addr)(aa:Int)(R:Int->Heap->Prop)(H0:Heap):Prop:=
 gn (Option.isNone (I)) (R (-1) H0) (∃x8:Addr,I=some x8/\(∃u,dj H0 (x8.add 3)=some u)/\gO H0 (x8.add 3)=false/\
 eX (nQ H0 (x8.add 3) (.int .i64 0)) λH1:Heap=>
 iP.C (I) (aa) H1 λae H2=>
 gn (!ae) (R (-1) H2) (iS.C (I) (aa) H2 λag H3=>
 lI.C (I) (aa) (IntKind.i64.wrap (ag-1)) H3 λah H4=>R (ah) H4))
theorem nK.eq(I:Option Addr)(aa:Int)(R:Int->Heap->Prop)(H0:Heap):
 wF Tryz.prog nK.gD Tryz.f226 [.pointer I,.int .i64 aa] (λv H'=>xS (.one (.int .i64)) v λr=>R r H') H0=nK.W I aa R H0:=by kernel_rfl
theorem nK.calls{I}{aa}{R}{H0}(h:nK.W I aa R H0):nK.C I aa H0 R:=
 (dp eF Tryz.func226 (by rw[nK.eq];exact h)).mono λv H' h=>by obtain⟨x,hv,hk⟩:=fS h;exact⟨x,hv,hk⟩
def fT.gD:gR:={ord:=λ_=>.ord [],loop:=λ_=>none,join:=λ_=>none}
def fT.W(ah:Int)(ai:Int)(aj:ByteArray)(ak:ByteArray)(al:ByteArray)(ao:ByteArray)(ab:Option Addr)(ad ae:Nat)(aa:ByteArray)(I:ByteArray)(R:Bool->Heap->Prop)(H0:Heap):Prop:=
 eX (gy H0 #[.int .i64 ah,.int .i64 ai,.string aj,.string ak,.string al,.string ao,.slice ab ad ae] eH) λH1:Heap=>ff H1 ((⟨Array.size H0,0,none⟩:Addr).add 0) λx8=>
 gn (decide (x8=2)) (gn (decide (aa=(⟨#[42]⟩:ByteArray))) (gn (decide (I=(⟨#[42]⟩:ByteArray))) (R true H1) (im H1 ((⟨Array.size H0,0,none⟩:Addr).add 3) λag=>R (decide (ag=I)) H1)) (im H1 ((⟨Array.size H0,0,none⟩:Addr).add 4) λaq=>
 gn (decide (aq=aa)) (gn (decide (I=(⟨#[42]⟩:ByteArray))) (R true H1) (im H1 ((⟨Array.size H0,0,none⟩:Addr).add 3) λag=>R (decide (ag=I)) H1)) (R false H1))) (R false H1)
theorem fT.eq(ae:Int)(af:Int)(ag:ByteArray)(ah:ByteArray)(ai:ByteArray)(aj:ByteArray)(I:Option Addr)(aa ab:Nat)(ak:ByteArray)(ad:ByteArray)(R:Bool->Heap->Prop)(H0:Heap):
 wF Tryz.prog fT.gD Tryz.f229 [.agg #[.int .i64 ae,.int .i64 af,.string ag,.string ah,.string ai,.string aj,.slice I aa ab],.string ak,.string ad] (λv H'=>xS (.one .bool) v λr=>R r H') H0=fT.W ae af ag ah ai aj I aa ab ak ad R H0:=by kernel_rfl
theorem fT.calls{ae}{af}{ag}{ah}{ai}{aj}{I}{aa ab}{ak}{ad}{R}{H0}(h:fT.W ae af ag ah ai aj I aa ab ak ad R H0):fT.C ae af ag ah ai aj I aa ab ak ad H0 R:=
 (dp eF Tryz.func229 (by rw[fT.eq];exact h)).mono λv H' h=>by obtain⟨x,hv,hk⟩:=fS h;exact⟨x,hv,hk⟩
def eP.gD:gR:={ord:=λ_=>.ord [],loop:=λ_=>none,join:=λ_=>none}
def eP.W(aa:Option Addr)(ab:Int)(R:Bool->Heap->Prop)(I:Heap):Prop:=
 gn (Option.isSome (aa)) (gn (decide ((0:Int)<=ab)) (∃ad:Addr,aa=some ad/\
 ∃ae:Int,dj I (ad.add 2)=some (.int .i64 ae)/\R (decide (ab<ae)) I) (R false I)) (R false I)
theorem eP.eq(I:Option Addr)(aa:Int)(R:Bool->Heap->Prop)(H0:Heap):
 wF Tryz.prog eP.gD Tryz.f230 [.pointer I,.int .i64 aa] (λv H'=>xS (.one .bool) v λr=>R r H') H0=eP.W I aa R H0:=by kernel_rfl
theorem eP.calls{I}{aa}{R}{H0}(h:eP.W I aa R H0):eP.C I aa H0 R:=
 (dp eF Tryz.func230 (by rw[eP.eq];exact h)).mono λv H' h=>by obtain⟨x,hv,hk⟩:=fS h;exact⟨x,hv,hk⟩
def dH.gD:gR:={ord:=λ_=>.ord [],loop:=λi=>bif Nat.beq i 5 then some [(7,.one (.int .i64)),(8,.one (.int .i64))] else none,join:=λi=>bif Nat.beq i 3 then some [(27,.one .bool)] else bif Nat.beq i 4 then some [] else bif Nat.beq i 6 then some [(7,.one (.int .i64))] else bif Nat.beq i 12 then some [(7,.one (.int .i64))] else none}
def dH.W(aa:Option Addr)(aj:Int)(ag:Int)(R:Int->Heap->Prop)(H0:Heap):Prop:=
 n0.C (aa) (0) (ag) H0 λav H1=>
 eX (IntKind.i64.wrap (av+aj)) λI:Int=>
 eW (S:=Unit) (λJ4=>
 eW (S:=(Bool×Unit)) (λJ3=>
 gn (decide (aj<0)) (J3 (true,()) H1) (∃ak:Addr,aa=some ak/\
 ∃al:Int,dj H1 (ak.add 1)=some (.int .i64 al)/\n0.C (aa) (al) (ag) H1 λax H4=>J3 (decide (ax<=I),()) H4))
 (λs3 H3=>(λ(az:Bool)=>
 gn az (R (-1) H3) (J4 () H3)) s3.1))
 (λ_ H2=>
 eW (S:=(Int×Unit)) (λaB=>
 ∃ao:Addr,aa=some ao/\
 ∃(ah:Option Addr)(ad ai:Nat),dj H2 (ao.add 0)=some (.slice ah ad ai)/\
 eX (IntKind.i64.wrap ((ad:Int)-1)) λk8:Int=>
 lD (S:=(Int×Int×Unit)) (λL5 q5 H6=>(λ(I:Int)(k8:Int)=>
 gn (decide ((0:Int)<=k8)) (
 eW (S:=(Int×Unit)) (λJ6=>
 ∃aq:Addr,aa=some aq/\
 ∃ar:Int,dj H6 (aq.add 3)=some (.int .i64 ar)/\
 ∃ae:Addr,aa=some ae/\(∃u,dj H6 (ae.add 3)=some u)/\gO H6 (ae.add 3)=false/\
 eX (nQ H6 (ae.add 3) (.int .i64 (IntKind.i64.wrap (ar+1)))) λH8:Heap=>
 pT.C (aa) (k8) H8 λab H9=>
 dN.C (aa) (k8) (ag) H9 λaE au=>
 gn aE (mh.C (ab) au λaF aG=>
 mh.C (ab) aG λaH aI=>
 kB.C (ab) (aH) true aI λaJ aK=>
 jI.C (ab) (IntKind.i64.wrap (I-(IntKind.i64.wrap (aF-aJ)))) true aK λaL aM=>J6 ((aL:Int),()) aM) (jI.C (ab) (I) false au λaN aO=>J6 ((aN:Int),()) aO))
 (λs6 H7=>(λ(I:Int)=>
 eX (IntKind.i64.wrap (k8-1)) λaP:Int=>L5 ((I:Int),(aP:Int),()) H7) s6.1)) (aB ((I:Int),()) H6)) q5.1 q5.2.1) ((I:Int),(k8:Int),()) H2)
 (λaQ H5=>(λ(I:Int)=>R (I) H5) aQ.1))
theorem dH.eq(I:Option Addr)(aa:Int)(ab:Int)(R:Int->Heap->Prop)(H0:Heap):
 wF Tryz.prog dH.gD Tryz.f231 [.pointer I,.int .i64 aa,.int .i64 ab] (λv H'=>xS (.one (.int .i64)) v λr=>R r H') H0=dH.W I aa ab R H0:=by kernel_rfl
theorem dH.calls{I}{aa}{ab}{R}{H0}(h:dH.W I aa ab R H0):dH.C I aa ab H0 R:=
 (dp eF Tryz.func231 (by rw[dH.eq];exact h)).mono λv H' h=>by obtain⟨x,hv,hk⟩:=fS h;exact⟨x,hv,hk⟩
def dI.gD:gR:={ord:=λ_=>.ord [],loop:=λ_=>none,join:=λ_=>none}
def dI.W(I:Option Addr)(ae:Int)(aa:Int)(R:Int->Heap->Prop)(H0:Heap):Prop:=
 ∃ab:Addr,I=some ab/\
 ∃ad:Int,dj H0 (ab.add 1)=some (.int .i64 ad)/\n0.C (I) (min (max ae 0) ad) (aa) H0 λag H1=>
 n0.C (I) (0) (aa) H1 λah H2=>
 eX (IntKind.i64.wrap (ag-ah)) λx6:Int=>R (x6) H2
theorem dI.eq(I:Option Addr)(aa:Int)(ab:Int)(R:Int->Heap->Prop)(H0:Heap):
 wF Tryz.prog dI.gD Tryz.f232 [.pointer I,.int .i64 aa,.int .i64 ab] (λv H'=>xS (.one (.int .i64)) v λr=>R r H') H0=dI.W I aa ab R H0:=by kernel_rfl
theorem dI.calls{I}{aa}{ab}{R}{H0}(h:dI.W I aa ab R H0):dI.C I aa ab H0 R:=
 (dp eF Tryz.func232 (by rw[dI.eq];exact h)).mono λv H' h=>by obtain⟨x,hv,hk⟩:=fS h;exact⟨x,hv,hk⟩
def dU.gD:gR:={ord:=λ_=>.ord [],loop:=λ_=>none,join:=λ_=>none}
def dU.W(ay:Option Addr)(ah:Int)(R:Int->Int->Heap->Prop)(I:Heap):Prop:=
 eX (gy I #[.int .u64 0,.int .i64 0] ic) λH1:Heap=>
 ∃x9:Addr,ay=some x9/\
 ∃(aa:Option Addr)(ab aj:Nat),dj H1 (x9.add 0)=some (.slice aa ab aj)/\
 ∃al:Addr,aa=some al/\0<=ah/\ah<(ab:Int)/\
 ∃ao:Value,dj H1 (al.add ah.toNat)=some (ao)/\
 ∃ad:Int,∃ae:Int,∃ak:Bool,pc (ao) ic (.agg #[.int .u64 ad,.int .i64 ae]) (.agg #[.int .u64 0,.int .i64 0]) ak/\
 eX (gy H1 #[.int .u64 0,.int .i64 0] ic) λH2:Heap=>(∃u,dj H2 ((⟨Array.size H1,0,none⟩:Addr).add 0)=some u)/\gO H2 ((⟨Array.size H1,0,none⟩:Addr).add 0)=false/\
 eX (nQ H2 ((⟨Array.size H1,0,none⟩:Addr).add 0) (.int .u64 ad)) λH4:Heap=>(∃u,dj H4 ((⟨Array.size H1,0,none⟩:Addr).add 1)=some u)/\gO H4 ((⟨Array.size H1,0,none⟩:Addr).add 1)=false/\
 eX (nQ H4 ((⟨Array.size H1,0,none⟩:Addr).add 1) (.int .i64 ae)) λH5:Heap=>
 ∃af:Int,dj H5 ((⟨Array.size H1,0,none⟩:Addr).add 0)=some (.int .u64 af)/\
 ∃ag:Int,dj H5 ((⟨Array.size H1,0,none⟩:Addr).add 1)=some (.int .i64 ag)/\(∃u,dj H5 ((⟨Array.size I,0,none⟩:Addr).add 0)=some u)/\gO H5 ((⟨Array.size I,0,none⟩:Addr).add 0)=false/\
 eX (nQ H5 ((⟨Array.size I,0,none⟩:Addr).add 0) (.int .u64 af)) λH7:Heap=>(∃u,dj H7 ((⟨Array.size I,0,none⟩:Addr).add 1)=some u)/\gO H7 ((⟨Array.size I,0,none⟩:Addr).add 1)=false/\
 eX (nQ H7 ((⟨Array.size I,0,none⟩:Addr).add 1) (.int .i64 ag)) λH8:Heap=>
 ∃aq:Int,dj H8 ((⟨Array.size I,0,none⟩:Addr).add 0)=some (.int .u64 aq)/\
 ∃ar:Int,dj H8 ((⟨Array.size I,0,none⟩:Addr).add 1)=some (.int .i64 ar)/\R (aq) (ar) H8
theorem dU.eq(I:Option Addr)(aa:Int)(R:Int->Int->Heap->Prop)(H0:Heap):
 wF Tryz.prog dU.gD Tryz.f237 [.pointer I,.int .i64 aa] (λv H'=>xS (.agg [.int .u64,.int .i64]) v λr=>R r.1 r.2.1 H') H0=dU.W I aa R H0:=by kernel_rfl
theorem dU.calls{I}{aa}{R}{H0}(h:dU.W I aa R H0):dU.C I aa H0 R:=
 (dp eF Tryz.func237 (by rw[dU.eq];exact h)).mono λv H' h=>by obtain⟨x,hv,hk⟩:=fS h;exact⟨x.1,x.2.1,hv,hk⟩
def kB.gD:gR:={ord:=λi=>bif Nat.beq i 5 then .ord [0,1,2,3,4,5,6,7,8,9,10,11,12] else .ord [],loop:=λ_=>none,join:=λi=>bif Nat.beq i 8 then some [(8,.one (.int .i64))] else none}
def kB.W(ai:Option Addr)(aq:Int)(af:Bool)(R:Int->Heap->Prop)(H0:Heap):Prop:=
 mh.C (ai) H0 λar H1=>
 eX (min (max aq 0) ar) λk1:Int=>
 gn (decide (k1=0)) (R (0) H1) ((64:Int)≠0/\dU.C (ai) (IntKind.i64.wrap (Int.tdiv k1 64)) H1 λag ah I=>
 eX (gy I #[.int .u64 0,.int .i64 0] ic) λH3:Heap=>(∃u,dj H3 ((⟨Array.size I,0,none⟩:Addr).add 0)=some u)/\gO H3 ((⟨Array.size I,0,none⟩:Addr).add 0)=false/\
 eX (nQ H3 ((⟨Array.size I,0,none⟩:Addr).add 0) (.int .u64 ag)) λH5:Heap=>(∃u,dj H5 ((⟨Array.size I,0,none⟩:Addr).add 1)=some u)/\gO H5 ((⟨Array.size I,0,none⟩:Addr).add 1)=false/\
 eX (nQ H5 ((⟨Array.size I,0,none⟩:Addr).add 1) (.int .i64 ah)) λH6:Heap=>
 ∃ad:Int,dj H6 ((⟨Array.size I,0,none⟩:Addr).add 1)=some (.int .i64 ad)/\
 ∃aj:Int,dj H6 ((⟨Array.size I,0,none⟩:Addr).add 0)=some (.int .u64 aj)/\(64:Int)≠0/\0<=(IntKind.u64.wrap (Int.tmod k1 64))/\nV.C (lN .u64 aj (IntKind.u64.wrap ((pf .u64 1 (IntKind.u64.wrap (Int.tmod k1 64)))-1))) H6 λau H7=>(∃ae:Int,dj H7 ((⟨Array.size I,0,none⟩:Addr).add 1)=some (.int .i64 ae)/\(.int .i64 ae:Value)=.int .i64 ad)/\
 eX (IntKind.i64.wrap (ad+au)) λn8:Int=>
 eW (S:=(Int×Unit)) (λJ8=>
 gn (!af) (eX (IntKind.i64.wrap (k1-n8)) λn8:Int=>J8 ((n8:Int),()) H7) (J8 ((n8:Int),()) H7))
 (λs8 H8=>(λ(n8:Int)=>R (n8) H8) s8.1))
theorem kB.eq(aa:Option Addr)(ab:Int)(I:Bool)(R:Int->Heap->Prop)(H0:Heap):
 wF Tryz.prog kB.gD Tryz.f238 [.pointer aa,.int .i64 ab,.bool I] (λv H'=>xS (.one (.int .i64)) v λr=>R r H') H0=kB.W aa ab I R H0:=by kernel_rfl
theorem kB.calls{aa}{ab}{I}{R}{H0}(h:kB.W aa ab I R H0):kB.C aa ab I H0 R:=
 (dp eF Tryz.func238 (by rw[kB.eq];exact h)).mono λv H' h=>by obtain⟨x,hv,hk⟩:=fS h;exact⟨x,hv,hk⟩
def ko.gD:gR:={ord:=λ_=>.ord [],loop:=λ_=>none,join:=λ_=>none}
def ko.W(I:Int)(R:Int->Heap->Prop)(H0:Heap):Prop:=
 gn (decide (I=0)) (R (64) H0) (0<=(58:Int)/\0<=kP .u64 (IntKind.u64.wrap ((lN .u64 I (IntKind.u64.wrap (0-I)))*285870213051353865)) 58/\kP .u64 (IntKind.u64.wrap ((lN .u64 I (IntKind.u64.wrap (0-I)))*285870213051353865)) 58<((64:Nat):Int)/\
 ∃aa:Int,dj H0 ((⟨mG,0,none⟩:Addr).add (oM (kP .u64 (IntKind.u64.wrap ((lN .u64 I (IntKind.u64.wrap (0-I)))*285870213051353865)) 58).toNat 1))=some (.int .u8 aa)/\
 eX (IntKind.i64.wrap aa) λx2:Int=>R (x2) H0)
theorem ko.eq(I:Int)(R:Int->Heap->Prop)(H0:Heap):
 wF Tryz.prog ko.gD Tryz.f239 [.int .u64 I] (λv H'=>xS (.one (.int .i64)) v λr=>R r H') H0=ko.W I R H0:=by kernel_rfl
theorem ko.calls{I}{R}{H0}(h:ko.W I R H0):ko.C I H0 R:=
 (dp eF Tryz.func239 (by rw[ko.eq];exact h)).mono λv H' h=>by obtain⟨x,hv,hk⟩:=fS h;exact⟨x,hv,hk⟩
def ee.gD:gR:={ord:=λ_=>.ord [],loop:=λ_=>none,join:=λ_=>none}
def ee.W(I:Option Addr)(R:Int->Heap->Prop)(H0:Heap):Prop:=
 gn (Option.isNone (I)) (R (0) H0) (∃x6:Addr,I=some x6/\
 ∃x8:Int,dj H0 (x6.add 2)=some (.int .i64 x8)/\R (x8) H0)
theorem ee.eq(I:Option Addr)(R:Int->Heap->Prop)(H0:Heap):
 wF Tryz.prog ee.gD Tryz.f240 [.pointer I] (λv H'=>xS (.one (.int .i64)) v λr=>R r H') H0=ee.W I R H0:=by kernel_rfl
theorem ee.calls{I}{R}{H0}(h:ee.W I R H0):ee.C I H0 R:=
 (dp eF Tryz.func240 (by rw[ee.eq];exact h)).mono λv H' h=>by obtain⟨x,hv,hk⟩:=fS h;exact⟨x,hv,hk⟩
def eg.gD:gR:={ord:=λi=>bif Nat.beq i 6 then .ord [0,1,2,3,4,5,6,7,8,9,10,11,12,13,14,15,16] else .ord [],loop:=λ_=>none,join:=λi=>bif Nat.beq i 2 then some [(18,.one .bool)] else bif Nat.beq i 3 then some [] else bif Nat.beq i 5 then some [(35,.one .bool)] else bif Nat.beq i 6 then some [] else bif Nat.beq i 10 then some [(10,.one (.int .u64))] else bif Nat.beq i 12 then some [(10,.one (.int .u64))] else none}
def eg.W(aa:Option Addr)(ag:Int)(R:Int->Int->Heap->Prop)(H0:Heap):Prop:=
 eW (S:=Unit) (λJ3=>
 eW (S:=(Bool×Unit)) (λJ2=>
 gn (decide (ag<0)) (J2 (true,()) H0) (ef.C (aa) H0 λaK H3=>J2 (decide (aK<=ag),()) H3))
 (λs2 H2=>(λ(aM:Bool)=>
 gn aM (R (0) (4) H2) (J3 () H2)) s2.1))
 (λ_ H1=>
 ∃ak:Addr,aa=some ak/\
 ∃al:Value,dj H1 (ak.add 0)=some (al)/\
 ∃(ad:Option Addr)(ae aj:Nat),∃ah:Bool,pc (al) rq (.slice ad ae aj) (.slice none 0 0) ah/\
 eW (S:=Unit) (λJ6=>
 eW (S:=(Bool×Unit)) (λJ5=>
 gn (!ah) (J5 (true,()) H1) (∃ao:Addr,aa=some ao/\
 ∃aq:Int,dj H1 (ao.add 2)=some (.int .i64 aq)/\J5 (decide (aq=0),()) H1))
 (λs5 H5=>(λ(aP:Bool)=>
 gn aP (R (0) (0) H5) (J6 () H5)) s5.1))
 (λ_ H4=>
 ∃ar:Addr,aa=some ar/\
 ∃au:Int,dj H4 (ar.add 2)=some (.int .i64 au)/\(64:Int)≠0/\
 ∃av:Addr,aa=some av/\
 ∃aw:Int,dj H4 (av.add 2)=some (.int .i64 aw)/\(64:Int)≠0/\
 eX (IntKind.i64.wrap (Int.tdiv (IntKind.i64.wrap (ag*au)) 64)) λat8:Int=>
 eX (IntKind.u64.wrap (Int.tmod (IntKind.i64.wrap (ag*aw)) 64)) λab:Int=>
 ∃ax:Addr,ad=some ax/\0<=at8/\at8<(ae:Int)/\
 ∃ay:Int,dj H4 (ax.add at8.toNat)=some (.int .u64 ay)/\0<=ab/\
 eX (kP .u64 ay ab) λI:Int=>
 eW (S:=(Int×Unit)) (λaz=>
 ∃aA:Addr,aa=some aA/\
 ∃aB:Int,dj H4 (aA.add 2)=some (.int .i64 aB)/\
 gn (decide ((64:Int)<(IntKind.i64.wrap ((IntKind.i64.wrap ab)+aB)))) (∃aC:Addr,ad=some aC/\0<=IntKind.i64.wrap (at8+1)/\IntKind.i64.wrap (at8+1)<(ae:Int)/\
 ∃aD:Int,dj H4 (aC.add ((IntKind.i64.wrap (at8+1)).toNat))=some (.int .u64 aD)/\0<=(IntKind.u64.wrap (64-ab))/\
 eX (BT .u64 I (pf .u64 aD (IntKind.u64.wrap (64-ab)))) λI:Int=>az ((I:Int),()) H4) (az ((I:Int),()) H4))
 (λaQ H6=>(λ(I:Int)=>
 eW (S:=(Int×Unit)) (λaE=>
 ∃aF:Addr,aa=some aF/\
 ∃aG:Int,dj H6 (aF.add 2)=some (.int .i64 aG)/\
 gn (decide (aG<64)) (∃aH:Addr,aa=some aH/\
 ∃ai:Int,dj H6 (aH.add 2)=some (.int .i64 ai)/\0<=(IntKind.u64.wrap ai)/\
 eX (lN .u64 I (IntKind.u64.wrap ((pf .u64 1 (IntKind.u64.wrap ai))-1))) λI:Int=>aE ((I:Int),()) H6) (aE ((I:Int),()) H6))
 (λaR H7=>(λ(I:Int)=>R (I) (0) H7) aR.1)) aQ.1)))
theorem eg.eq(I:Option Addr)(aa:Int)(R:Int->Int->Heap->Prop)(H0:Heap):
 wF Tryz.prog eg.gD Tryz.f241 [.pointer I,.int .i64 aa] (λv H'=>xT [.one (.int .u64),.one (.int .i64)] v λr=>R r.1 r.2.1 H') H0=eg.W I aa R H0:=by kernel_rfl
theorem eg.calls{I}{aa}{R}{H0}(h:eg.W I aa R H0):eg.C I aa H0 R:=
 (dp eF Tryz.func241 (by rw[eg.eq];exact h)).mono λv H' h=>by obtain⟨x,hv,hk⟩:=dB h;exact⟨x.1,x.2.1,hv,hk⟩
def eN.gD:gR:={ord:=λ_=>.ord [],loop:=λ_=>none,join:=λ_=>none}
def eN.W(I:Int)(R:Bool->Heap->Prop)(H0:Heap):Prop:=
 eL.C (I) H0 λx4 H1=>
 gn x4 (R true H1) (gH.C H1 λaa ab ad H2=>
 jj.C (I) (aa) ab ad H2 λx8 H3=>R (x8) H3)
theorem eN.eq(I:Int)(R:Bool->Heap->Prop)(H0:Heap):
 wF Tryz.prog eN.gD Tryz.f250 [.int .i32 I] (λv H'=>xS (.one .bool) v λr=>R r H') H0=eN.W I R H0:=by kernel_rfl
theorem eN.calls{I}{R}{H0}(h:eN.W I R H0):eN.C I H0 R:=
 (dp eF Tryz.func250 (by rw[eN.eq];exact h)).mono λv H' h=>by obtain⟨x,hv,hk⟩:=fS h;exact⟨x,hv,hk⟩
def iY.gD:gR:={ord:=λi=>bif Nat.beq i 5 then .ord [0,1,2,3,4,5,6,7,8,9,10,11,12,13,14] else .ord [],loop:=λ_=>none,join:=λ_=>none}
def iY.W(ak:ByteArray)(aG:Int)(R:Int->ByteArray->ByteArray->Option Addr->Nat->Nat->Bool->Int->Bool->Heap->Prop)(H0:Heap):Prop:=
 eX (gy H0 #[.int .i64 0,.string (⟨#[]⟩:ByteArray),.string (⟨#[]⟩:ByteArray),.slice none 0 0,.bool false] dE) λH1:Heap=>
 eX (IntKind.i64.wrap (aG+2)) λaz:Int=>
 e9.C ak (az) H1 λax H2=>0<=ax/\ax<=(ak.size:Int)/\0<=az/\az<=(ax.toNat:Int)/\
 eX (gy H2 #[.int .i64 0,.string (⟨#[]⟩:ByteArray),.string (⟨#[]⟩:ByteArray),.slice none 0 0,.bool false] dE) λH3:Heap=>nR [.int .i64 3,.string (ak.extract az.toNat ax.toNat),.string (⟨#[]⟩:ByteArray),.slice none 0 0,.bool false] ⟨Array.size H2,0,none⟩ 0 H3 λH4=>
 mj.C ak (ax) H4 λay H5=>eE H5 ⟨Array.size H2,0,none⟩ λag ah ai I aa ab aj=>im H5 ((⟨Array.size H2,0,none⟩:Addr).add 1) λaJ=>
 fK.C aJ H5 λaK H6=>(eE H6 ⟨Array.size H2,0,none⟩ λal ao aq ad ae af ar=>(.agg #[.int .i64 al,.string ao,.string aq,.slice ad ae af,.bool ar]:Value)=.agg #[.int .i64 ag,.string ah,.string ai,.slice I aa ab,.bool aj])/\
 gn aK (0<=ay/\ay<=(ak.size:Int)/\strings_HasPrefix.C (ak.extract ay.toNat ak.size) (⟨#[62]⟩:ByteArray) H6 λaL H7=>(eE H7 ⟨Array.size H2,0,none⟩ λal ao aq ad ae af ar=>(.agg #[.int .i64 al,.string ao,.string aq,.slice ad ae af,.bool ar]:Value)=.agg #[.int .i64 ag,.string ah,.string ai,.slice I aa ab,.bool aj])/\nR [.int .i64 ag,.string ah,.string ai,.slice I aa ab,.bool aj] ⟨Array.size H0,0,none⟩ 0 H7 λH8=>
 eX (IntKind.i64.wrap (ay+1)) λx5:Int=>eE H8 ⟨Array.size H0,0,none⟩ λaC aD aE au av aw aF=>R (aC) aD aE (au) av aw (aF) (x5) (aL) H8) (nR [.int .i64 ag,.string ah,.string ai,.slice I aa ab,.bool aj] ⟨Array.size H0,0,none⟩ 0 H6 λH9=>
 eX (IntKind.i64.wrap (ay+1)) λx5:Int=>eE H9 ⟨Array.size H0,0,none⟩ λaC aD aE au av aw aF=>R (aC) aD aE (au) av aw (aF) (x5) false H9)
theorem iY.eq(aa:ByteArray)(I:Int)(R:Int->ByteArray->ByteArray->Option Addr->Nat->Nat->Bool->Int->Bool->Heap->Prop)(H0:Heap):
 wF Tryz.prog iY.gD Tryz.f261 [.string aa,.int .i64 I] (λv H'=>xT [.agg [.int .i64,.str,.str,.slice,.bool],.one (.int .i64),.one .bool] v λr=>R r.1.1 r.1.2.1 r.1.2.2.1 r.1.2.2.2.1.1 r.1.2.2.2.1.2.1 r.1.2.2.2.1.2.2 r.1.2.2.2.2.1 r.2.1 r.2.2.1 H') H0=iY.W aa I R H0:=by kernel_rfl
theorem iY.calls{aa}{I}{R}{H0}(h:iY.W aa I R H0):iY.C aa I H0 R:=
 (dp eF Tryz.func261 (by rw[iY.eq];exact h)).mono λv H' h=>by obtain⟨x,hv,hk⟩:=dB h;exact⟨x.1.1,x.1.2.1,x.1.2.2.1,x.1.2.2.2.1.1,x.1.2.2.2.1.2.1,x.1.2.2.2.1.2.2,x.1.2.2.2.2.1,x.2.1,x.2.2.1,hv,hk⟩
def fP.gD:gR:={ord:=λ_=>.ord [],loop:=λi=>bif Nat.beq i 5 then some [(7,.one (.int .i64))] else none,join:=λ_=>none,cut:=λi=>[4,7,11].any (Nat.beq i)}
def fP.W(I:ByteArray)(ab:Int)(R:Int->ByteArray->ByteArray->Option Addr->Nat->Nat->Bool->Int->Bool->Heap->Prop)(H0:Heap):Prop:=
 eX (gy H0 #[.int .i64 0,.string (⟨#[]⟩:ByteArray),.string (⟨#[]⟩:ByteArray),.slice none 0 0,.bool false] dE) λH1:Heap=>
 e9.C I (IntKind.i64.wrap (ab+1)) H1 λad H2=>0<=ad/\ad<=(I.size:Int)/\0<=IntKind.i64.wrap (ab+1)/\IntKind.i64.wrap (ab+1)<=(ad.toNat:Int)/\
 eX (gy H2 #[.int .i64 0,.string (⟨#[]⟩:ByteArray),.string (⟨#[]⟩:ByteArray),.slice none 0 0,.bool false] dE) λH3:Heap=>nR [.int .i64 2,.string (I.extract ((IntKind.i64.wrap (ab+1)).toNat) ad.toNat),.string (⟨#[]⟩:ByteArray),.slice none 0 0,.bool false] ⟨Array.size H2,0,none⟩ 0 H3 λH4=>im H4 ((⟨Array.size H2,0,none⟩:Addr).add 1) λax=>
 fK.C ax H4 λay H5=>
 gn (!ay) (False) (
 lD (S:=(Int×Unit)) (λL5 q5 H6=>(λ(az:Int)=>
 mj.C I (az) H6 λaa H7=>0<=aa/\aa<=(I.size:Int)/\strings_HasPrefix.C (I.extract aa.toNat I.size) (⟨#[47,62]⟩:ByteArray) H7 λaA H8=>
 gn aA (False) (0<=aa/\aa<=(I.size:Int)/\strings_HasPrefix.C (I.extract aa.toNat I.size) (⟨#[62]⟩:ByteArray) H8 λaB H9=>
 gn aB (eE H9 ⟨Array.size H2,0,none⟩ λai aj ak ae af ag al=>nR [.int .i64 ai,.string aj,.string ak,.slice ae af ag,.bool al] ⟨Array.size H0,0,none⟩ 0 H9 λau=>
 eX (IntKind.i64.wrap (aa+1)) λx5:Int=>eE au ⟨Array.size H0,0,none⟩ λaD aE aF ao aq ar aG=>R (aD) aE aF (ao) aq ar (aG) (x5) true au) (False))) q5.1) ((ad:Int),()) H5)
theorem fP.eq(aa:ByteArray)(I:Int)(R:Int->ByteArray->ByteArray->Option Addr->Nat->Nat->Bool->Int->Bool->Heap->Prop)(H0:Heap):
 wF Tryz.prog fP.gD Tryz.f262 [.string aa,.int .i64 I] (λv H'=>xT [.agg [.int .i64,.str,.str,.slice,.bool],.one (.int .i64),.one .bool] v λr=>R r.1.1 r.1.2.1 r.1.2.2.1 r.1.2.2.2.1.1 r.1.2.2.2.1.2.1 r.1.2.2.2.1.2.2 r.1.2.2.2.2.1 r.2.1 r.2.2.1 H') H0=fP.W aa I R H0:=by kernel_rfl
theorem fP.calls{aa}{I}{R}{H0}(h:fP.W aa I R H0):fP.C aa I H0 R:=
 (dp eF Tryz.func262 (by rw[fP.eq];exact h)).mono λv H' h=>by obtain⟨x,hv,hk⟩:=dB h;exact⟨x.1.1,x.1.2.1,x.1.2.2.1,x.1.2.2.2.1.1,x.1.2.2.2.1.2.1,x.1.2.2.2.1.2.2,x.1.2.2.2.2.1,x.2.1,x.2.2.1,hv,hk⟩
def fQ.gD:gR:={ord:=λi=>bif Nat.beq i 6 then .ord [0,1,2,3,4,5,6,7,8] else .ord [],loop:=λ_=>none,join:=λi=>bif Nat.beq i 5 then some [(7,.one (.int .i64))] else none}
def fQ.W(ab:ByteArray)(I:Int)(R:Int->ByteArray->ByteArray->Option Addr->Nat->Nat->Bool->Int->Bool->Heap->Prop)(H0:Heap):Prop:=
 eX (gy H0 #[.int .i64 0,.string (⟨#[]⟩:ByteArray),.string (⟨#[]⟩:ByteArray),.slice none 0 0,.bool false] dE) λH1:Heap=>
 eX ((ab.size:Int)) λaa:Int=>
 eW (S:=(Int×Unit)) (λJ5=>0<=I/\I<=(ab.size:Int)/\strings_IndexAny.C (ab.extract I.toNat ab.size) (⟨#[60,38]⟩:ByteArray) H1 λaA H3=>
 gn (decide ((0:Int)<=aA)) (eX (IntKind.i64.wrap (I+aA)) λaa:Int=>J5 ((aa:Int),()) H3) (J5 ((aa:Int),()) H3))
 (λs5 H2=>(λ(aa:Int)=>0<=aa/\aa<=(ab.size:Int)/\0<=I/\I<=(aa.toNat:Int)/\
 eX (gy H2 #[.int .i64 0,.string (⟨#[]⟩:ByteArray),.string (⟨#[]⟩:ByteArray),.slice none 0 0,.bool false] dE) λH4:Heap=>nR [.int .i64 1,.string (⟨#[]⟩:ByteArray),.string (ab.extract I.toNat aa.toNat),.slice none 0 0,.bool false] ⟨Array.size H2,0,none⟩ 0 H4 λH5=>eE H5 ⟨Array.size H2,0,none⟩ λaj ak al ad ae af ao=>im H5 ((⟨Array.size H2,0,none⟩:Addr).add 2) λaF=>
 strings_Contains.C aF (⟨#[93,93,62]⟩:ByteArray) H5 λaG H6=>(eE H6 ⟨Array.size H2,0,none⟩ λar au av ag ah ai aw=>(.agg #[.int .i64 ar,.string au,.string av,.slice ag ah ai,.bool aw]:Value)=.agg #[.int .i64 aj,.string ak,.string al,.slice ad ae af,.bool ao])/\nR [.int .i64 aj,.string ak,.string al,.slice ad ae af,.bool ao] ⟨Array.size H0,0,none⟩ 0 H6 λH7=>eE H7 ⟨Array.size H0,0,none⟩ λaI aJ aK ax ay az aL=>R (aI) aJ aK (ax) ay az (aL) (aa) (!aG) H7) s5.1)
theorem fQ.eq(aa:ByteArray)(I:Int)(R:Int->ByteArray->ByteArray->Option Addr->Nat->Nat->Bool->Int->Bool->Heap->Prop)(H0:Heap):
 wF Tryz.prog fQ.gD Tryz.f264 [.string aa,.int .i64 I] (λv H'=>xT [.agg [.int .i64,.str,.str,.slice,.bool],.one (.int .i64),.one .bool] v λr=>R r.1.1 r.1.2.1 r.1.2.2.1 r.1.2.2.2.1.1 r.1.2.2.2.1.2.1 r.1.2.2.2.1.2.2 r.1.2.2.2.2.1 r.2.1 r.2.2.1 H') H0=fQ.W aa I R H0:=by kernel_rfl
theorem fQ.calls{aa}{I}{R}{H0}(h:fQ.W aa I R H0):fQ.C aa I H0 R:=
 (dp eF Tryz.func264 (by rw[fQ.eq];exact h)).mono λv H' h=>by obtain⟨x,hv,hk⟩:=dB h;exact⟨x.1.1,x.1.2.1,x.1.2.2.1,x.1.2.2.2.1.1,x.1.2.2.2.1.2.1,x.1.2.2.2.1.2.2,x.1.2.2.2.2.1,x.2.1,x.2.2.1,hv,hk⟩
def lH.gD:gR:={ord:=λ_=>.ord [],loop:=λ_=>none,join:=λ_=>none}
def lH.W(aa:Option Addr)(R:Int->Heap->Prop)(H0:Heap):Prop:=
 ∃x4:Addr,aa=some x4/\eO H0 (x4.add 1) λae I af=>
 eX ((I:Int)) λx2:Int=>R (x2) H0
theorem lH.eq(I:Option Addr)(R:Int->Heap->Prop)(H0:Heap):
 wF Tryz.prog lH.gD Tryz.f265 [.pointer I] (λv H'=>xS (.one (.int .i64)) v λr=>R r H') H0=lH.W I R H0:=by kernel_rfl
theorem lH.calls{I}{R}{H0}(h:lH.W I R H0):lH.C I H0 R:=
 (dp eF Tryz.func265 (by rw[lH.eq];exact h)).mono λv H' h=>by obtain⟨x,hv,hk⟩:=fS h;exact⟨x,hv,hk⟩
def jw.gD:gR:={ord:=λ_=>.ord [],loop:=λ_=>none,join:=λ_=>none}
def jw.W(I:Option Addr)(R:Heap->Prop)(H0:Heap):Prop:=
 ∃x3:Addr,I=some x3/\sV (.pointer none) (x3.add 0) H0 λH1=>
 ∃x6:Addr,I=some x6/\sV (.slice none 0 0) (x6.add 1) H1 λH2=>R H2
theorem jw.eq(I:Option Addr)(R:Heap->Prop)(H0:Heap):
 wF Tryz.prog jw.gD Tryz.f266 [.pointer I] (λv H'=>xT [] v λ_=>R H') H0=jw.W I R H0:=by kernel_rfl
theorem jw.calls{I}{R}{H0}(h:jw.W I R H0):jw.C I H0 R:=
 (dp eF Tryz.func266 (by rw[jw.eq];exact h)).mono λv H' h=>by obtain⟨x,hv,hk⟩:=dB h;exact⟨hv,hk⟩
def hE.gD:gR:={ord:=λ_=>.ord [],loop:=λi=>bif Nat.beq i 4 then some [(5,.one .bool),(23,.one (.int .i64))] else none,join:=λi=>bif Nat.beq i 9 then some [(5,.one .bool)] else bif Nat.beq i 10 then some [(5,.one .bool)] else none,cut:=λi=>[5,9].any (Nat.beq i)}
def hE.W(ae:Int)(af:ByteArray)(ag:ByteArray)(aa:Option Addr)(ab ad:Nat)(ah:Bool)(R:Bool->Heap->Prop)(H0:Heap):Prop:=
 eX (gy H0 #[.int .i64 ae,.string af,.string ag,.slice aa ab ad,.bool ah] dE) λH1:Heap=>im H1 ((⟨Array.size H0,0,none⟩:Addr).add 1) λal=>
 eM.C al H1 λaw ax ai H2=>
 eX (H2.push (.map #[] 0)) λH3:Heap=>
 eW (S:=(Bool×Unit)) (λaq=>eO H3 ((⟨Array.size H0,0,none⟩:Addr).add 3) λay aj az=>
 lD (S:=(Bool×Int×Unit)) (λL4 q4 H5=>(λ(I:Bool)(au:Int)=>
 gn (decide (au<(aj:Int))) (
 eW (S:=(Bool×Unit)) (λJ9=>False)
 (λs9 H6=>(λ(I:Bool)=>False) s9.1)) (aq (I,()) H5)) q4.1 q4.2.1) (ai,(0:Int),()) H3)
 (λav H4=>(λ(I:Bool)=>R (I) H4) av.1)
theorem hE.eq(ad:Int)(ae:ByteArray)(af:ByteArray)(I:Option Addr)(aa ab:Nat)(ag:Bool)(R:Bool->Heap->Prop)(H0:Heap):
 wF Tryz.prog hE.gD Tryz.f267 [.agg #[.int .i64 ad,.string ae,.string af,.slice I aa ab,.bool ag]] (λv H'=>xS (.one .bool) v λr=>R r H') H0=hE.W ad ae af I aa ab ag R H0:=by kernel_rfl
theorem hE.calls{ad}{ae}{af}{I}{aa ab}{ag}{R}{H0}(h:hE.W ad ae af I aa ab ag R H0):hE.C ad ae af I aa ab ag H0 R:=
 (dp eF Tryz.func267 (by rw[hE.eq];exact h)).mono λv H' h=>by obtain⟨x,hv,hk⟩:=fS h;exact⟨x,hv,hk⟩
def eR.gD:gR:={ord:=λ_=>.ord [],loop:=λi=>bif Nat.beq i 3 then some [(10,.one .slice),(22,.one (.int .i64))] else bif Nat.beq i 11 then some [(10,.one .slice),(55,.one (.int .i64))] else none,join:=λi=>bif Nat.beq i 10 then some [(10,.one .slice)] else bif Nat.beq i 20 then some [(10,.one .slice)] else bif Nat.beq i 21 then some [(10,.one .slice)] else none,cut:=λi=>[4,12,20].any (Nat.beq i)}
def eR.W(av:Int)(aw:ByteArray)(ax:ByteArray)(ae:Option Addr)(af ag:Nat)(ay:Bool)(az:ByteArray)(ah:Option Addr)(ai aj:Nat)(ak:Option Addr)(al ao:Nat)(aV:Option Addr)(aA:Int)(aB:Int)(aC:Int)(aD:Int)(R:Option Addr->Nat->Nat->Int->Heap->Prop)(H0:Heap):Prop:=
 eX (gy H0 #[.int .i64 av,.string aw,.string ax,.slice ae af ag,.bool ay] dE) λH1:Heap=>
 eX (gy H1 #[.string az,.slice ah ai aj,.slice ak al ao] iI) λH2:Heap=>
 eX (gy H2 #[.int .i64 aA,.int .i64 aB,.int .i64 aC,.int .i64 aD] ie) λH3:Heap=>
 eW (S:=((Option Addr×Nat×Nat)×Unit)) (λaJ=>eO H3 ((⟨Array.size H0,0,none⟩:Addr).add 3) λaO aE aP=>
 lD (S:=((Option Addr×Nat×Nat)×Int×Unit)) (λL3 q3 H5=>(λ(I:Option Addr)(aa ab:Nat)(aK:Int)=>
 gn (decide (aK<(aE:Int))) (False) (aJ ((I,aa,ab),()) H5)) q3.1.1 q3.1.2.1 q3.1.2.2 q3.2.1) ((none,0,0),(0:Int),()) H3)
 (λaq H4=>(λ(I:Option Addr)(aa ab:Nat)=>
 eW (S:=((Option Addr×Nat×Nat)×Unit)) (λaM=>eO H4 ((⟨Array.size H1,0,none⟩:Addr).add 2) λaQ aG aR=>
 lD (S:=((Option Addr×Nat×Nat)×Int×Unit)) (λaW ad H7=>(λ(I:Option Addr)(aa ab:Nat)(aN:Int)=>
 gn (decide (aN<(aG:Int))) (
 eW (S:=((Option Addr×Nat×Nat)×Unit)) (λaX=>False)
 (λar H8=>(λ(I:Option Addr)(aa ab:Nat)=>False) ar.1.1 ar.1.2.1 ar.1.2.2)) (aM ((I,aa,ab),()) H7)) ad.1.1 ad.1.2.1 ad.1.2.2 ad.2.1) ((I,aa,ab),(0:Int),()) H4)
 (λau H6=>(λ(I:Option Addr)(aa ab:Nat)=>R (I) aa ab (0) H6) au.1.1 au.1.2.1 au.1.2.2)) aq.1.1 aq.1.2.1 aq.1.2.2)
theorem eR.eq(aj:Int)(ak:ByteArray)(al:ByteArray)(I:Option Addr)(aa ab:Nat)(ao:Bool)(aq:ByteArray)(ad:Option Addr)(ae af:Nat)(ag:Option Addr)(ah ai:Nat)(ax:Option Addr)(ar:Int)(au:Int)(av:Int)(aw:Int)(R:Option Addr->Nat->Nat->Int->Heap->Prop)(H0:Heap):
 wF Tryz.prog eR.gD Tryz.f268 [.agg #[.int .i64 aj,.string ak,.string al,.slice I aa ab,.bool ao],.agg #[.string aq,.slice ad ae af,.slice ag ah ai],.pointer ax,.agg #[.int .i64 ar,.int .i64 au,.int .i64 av,.int .i64 aw]] (λv H'=>xT [.one .slice,.one (.int .i64)] v λr=>R r.1.1 r.1.2.1 r.1.2.2 r.2.1 H') H0=eR.W aj ak al I aa ab ao aq ad ae af ag ah ai ax ar au av aw R H0:=by kernel_rfl
theorem eR.calls{aj}{ak}{al}{I}{aa ab}{ao}{aq}{ad}{ae af}{ag}{ah ai}{ax}{ar}{au}{av}{aw}{R}{H0}(h:eR.W aj ak al I aa ab ao aq ad ae af ag ah ai ax ar au av aw R H0):eR.C aj ak al I aa ab ao aq ad ae af ag ah ai ax ar au av aw H0 R:=
 (dp eF Tryz.func268 (by rw[eR.eq];exact h)).mono λv H' h=>by obtain⟨x,hv,hk⟩:=dB h;exact⟨x.1.1,x.1.2.1,x.1.2.2,x.2.1,hv,hk⟩
def fK.gD:gR:={ord:=λ_=>.ord [],loop:=λi=>bif Nat.beq i 2 then some [] else none,join:=λi=>bif Nat.beq i 5 then some [(22,.one .bool)] else bif Nat.beq i 6 then some [] else none,cut:=λi=>[5].any (Nat.beq i)}
def fK.W(ab:ByteArray)(R:Bool->Heap->Prop)(H0:Heap):Prop:=
 eW (S:=Unit) (λJ6=>
 eX (H0.push (.stringIter ab 0)) λH2:Heap=>
 lD (S:=Unit) (λL2 _ H3=>
 ∃(aa:ByteArray)(I:Nat),H3[Array.size H0]?=some (.stringIter aa I)/\
 gn (decide (I<aa.size)) (eX (Array.setIfInBounds H3 (Array.size H0) (.stringIter aa (I+(Utf8.decode aa I).2))) λH4:Heap=>
 eX ((I:Int)) λk3:Int=>
 eX (((Utf8.decode aa I).1:Int)) λr4:Int=>
 eW (S:=(Bool×Unit)) (λJ5=>
 gn (decide (k3=0)) (eL.C (r4) H4 λaj H6=>
 gn (!aj) (J5 (true,()) H6) (eN.C (r4) H6 λad H7=>J5 (!ad,()) H7)) (eN.C (r4) H4 λad H8=>J5 (!ad,()) H8))
 (λs5 H5=>(λ(ak:Bool)=>
 gn ak (False) (L2 () H5)) s5.1)) (J6 () H3)) () H2)
 (λ_ H1=>
 gn (decide (ab≠(⟨#[]⟩:ByteArray))) (o7.C ab H1 λal H9=>R (al) H9) (R false H1))
theorem fK.eq(I:ByteArray)(R:Bool->Heap->Prop)(H0:Heap):
 wF Tryz.prog fK.gD Tryz.f271 [.string I] (λv H'=>xS (.one .bool) v λr=>R r H') H0=fK.W I R H0:=by kernel_rfl
theorem fK.calls{I}{R}{H0}(h:fK.W I R H0):fK.C I H0 R:=
 (dp eF Tryz.func271 (by rw[fK.eq];exact h)).mono λv H' h=>by obtain⟨x,hv,hk⟩:=fS h;exact⟨x,hv,hk⟩
def dJ.gD:gR:={ord:=λ_=>.ord [],loop:=λ_=>none,join:=λi=>bif Nat.beq i 5 then some [(26,.one .bool)] else bif Nat.beq i 6 then some [] else none}
def dJ.W(I:Option Addr)(aa:Int)(ab:Int)(R:Int->Heap->Prop)(H0:Heap):Prop:=
 gn (Option.isNone (I)) (R (-1) H0) (∃ad:Addr,I=some ad/\(∃u,dj H0 (ad.add 3)=some u)/\gO H0 (ad.add 3)=false/\
 eX (nQ H0 (ad.add 3) (.int .i64 0)) λH1:Heap=>
 eW (S:=Unit) (λJ6=>
 eW (S:=(Bool×Unit)) (λJ5=>
 iP.C (I) (aa) H1 λah H4=>
 gn (!ah) (J5 (true,()) H4) (gn (decide (ab<0)) (J5 (true,()) H4) (iS.C (I) (aa) H4 λai H5=>J5 (decide (ai<=ab),()) H5)))
 (λs5 H3=>(λ(ak:Bool)=>
 gn ak (R (-1) H3) (J6 () H3)) s5.1))
 (λ_ H2=>
 gn (decide (ab=0)) (R (aa) H2) (iS.C (I) (aa) H2 λao H6=>
 kf.C (I) (aa) (IntKind.i64.wrap ((IntKind.i64.wrap (ao-1))-ab)) H6 λaq H7=>
 eX (IntKind.i64.wrap (aq+1)) λx6:Int=>R (x6) H7)))
theorem dJ.eq(I:Option Addr)(aa:Int)(ab:Int)(R:Int->Heap->Prop)(H0:Heap):
 wF Tryz.prog dJ.gD Tryz.f279 [.pointer I,.int .i64 aa,.int .i64 ab] (λv H'=>xS (.one (.int .i64)) v λr=>R r H') H0=dJ.W I aa ab R H0:=by kernel_rfl
theorem dJ.calls{I}{aa}{ab}{R}{H0}(h:dJ.W I aa ab R H0):dJ.C I aa ab H0 R:=
 (dp eF Tryz.func279 (by rw[dJ.eq];exact h)).mono λv H' h=>by obtain⟨x,hv,hk⟩:=fS h;exact⟨x,hv,hk⟩
def iP.gD:gR:={ord:=λ_=>.ord [],loop:=λ_=>none,join:=λ_=>none}
def iP.W(aa:Option Addr)(af:Int)(R:Bool->Heap->Prop)(H0:Heap):Prop:=
 gn (Option.isNone (aa)) (R false H0) (∃ab:Addr,aa=some ab/\
 ∃ad:Option Addr,dj H0 (ab.add 0)=some (.pointer ad)/\dR.C (ad) (af) H0 λI ag H1=>R (I) H1)
theorem iP.eq(I:Option Addr)(aa:Int)(R:Bool->Heap->Prop)(H0:Heap):
 wF Tryz.prog iP.gD Tryz.f280 [.pointer I,.int .i64 aa] (λv H'=>xS (.one .bool) v λr=>R r H') H0=iP.W I aa R H0:=by kernel_rfl
theorem iP.calls{I}{aa}{R}{H0}(h:iP.W I aa R H0):iP.C I aa H0 R:=
 (dp eF Tryz.func280 (by rw[iP.eq];exact h)).mono λv H' h=>by obtain⟨x,hv,hk⟩:=fS h;exact⟨x,hv,hk⟩
def lI.gD:gR:={ord:=λ_=>.ord [],loop:=λi=>bif Nat.beq i 5 then some [(8,.one (.int .i64))] else bif Nat.beq i 11 then some [(8,.one (.int .i64))] else bif Nat.beq i 18 then some [(10,.one (.int .i64)),(11,.one (.int .i64))] else none,join:=λi=>bif Nat.beq i 9 then some [(8,.one (.int .i64))] else bif Nat.beq i 11 then some [(8,.one (.int .i64))] else bif Nat.beq i 15 then some [(8,.one (.int .i64))] else bif Nat.beq i 19 then some [(10,.one (.int .i64))] else bif Nat.beq i 23 then some [(10,.one (.int .i64))] else bif Nat.beq i 25 then some [] else none}
def lI.W(ab:Option Addr)(af:Int)(ad:Int)(R:Int->Heap->Prop)(H0:Heap):Prop:=
 nH.C (ab) (af) (ad) H0 λag H1=>
 gn (decide ((0:Int)<=ag)) (R (ag) H1) (∃ah:Addr,ab=some ah/\
 ∃ai:Int,dj H1 (ah.add 2)=some (.int .i64 ai)/\(64:Int)≠0/\
 eX (IntKind.i64.wrap (ai+(IntKind.i64.wrap (Int.tdiv af 64)))) λnode8:Int=>
 eW (S:=(Int×Unit)) (λaD=>
 lD (S:=(Int×Unit)) (λL5 q5 H3=>(λ(node8:Int)=>
 eW (S:=(Int×Unit)) (λJ9=>
 lD (S:=(Int×Unit)) (λL5 q5 H5=>(λ(node8:Int)=>(2:Int)≠0/\
 gn (decide ((Int.tmod node8 2)=1)) (gn (decide (node8=1)) (R (-1) H5) ((2:Int)≠0/\
 eX (IntKind.i64.wrap (Int.tdiv node8 2)) λI:Int=>L5 ((I:Int),()) H5)) (J9 ((node8:Int),()) H5)) q5.1) ((node8:Int),()) H3)
 (λs9 H4=>(λ(node8:Int)=>
 eX (IntKind.i64.wrap (node8+1)) λnode8:Int=>
 nh.C (ab) (node8) (ad) H4 λaE H6=>
 gn aE (aD ((node8:Int),()) H6) (L5 ((node8:Int),()) H6)) s9.1)) q5.1) ((node8:Int),()) H1)
 (λaF H2=>(λ(node8:Int)=>
 eW (S:=(Int×Unit)) (λaG=>
 lD (S:=(Int×Unit)) (λaj aH H8=>(λ(node8:Int)=>
 ∃ak:Addr,ab=some ak/\
 ∃al:Int,dj H8 (ak.add 2)=some (.int .i64 al)/\
 gn (decide (node8<al)) (eX (IntKind.i64.wrap (node8*2)) λI:Int=>
 nh.C (ab) (I) (ad) H8 λaI H9=>
 gn (!aI) (eX (IntKind.i64.wrap (I+1)) λI:Int=>aj ((I:Int),()) H9) (aj ((I:Int),()) H9)) (aG ((node8:Int),()) H8)) aH.1) ((node8:Int),()) H2)
 (λaK H7=>(λ(node8:Int)=>
 ∃ao:Addr,ab=some ao/\
 ∃aq:Int,dj H7 (ao.add 2)=some (.int .i64 aq)/\
 eX (IntKind.i64.wrap ((IntKind.i64.wrap (node8-aq))*64)) λae:Int=>
 iS.C (ab) (IntKind.i64.wrap (ae-1)) H7 λaM aN=>
 eW (S:=Unit) (λaO=>
 lD (S:=(Int×Int×Unit)) (λaP ar aQ=>(λ(aa:Int)(i11:Int)=>
 lZ.C (ab) aQ λaR au=>
 gn (decide (i11<(min (IntKind.i64.wrap (ae+64)) aR))) (
 eW (S:=(Int×Unit)) (λaS=>
 eW (S:=(Int×Unit)) (λav=>
 eX (IntKind.i64.wrap (aa-1)) λaa:Int=>
 iP.C (ab) (i11) au λaT aw=>
 gn aT (eX (IntKind.i64.wrap (aa+2)) λaa:Int=>av ((aa:Int),()) aw) (av ((aa:Int),()) aw))
 (λaU ax=>(λ(aa:Int)=>
 gn (decide (aa=ad)) (R (i11) ax) (aS ((aa:Int),()) ax)) aU.1))
 (λaV aW=>(λ(aa:Int)=>
 eX (IntKind.i64.wrap (i11+1)) λaC:Int=>aP ((aa:Int),(aC:Int),()) aW) aV.1)) (aO () au)) ar.1 ar.2.1) ((aM:Int),(ae:Int),()) aN)
 (λ_ aX=>R (-1) aX)) aK.1)) aF.1))
theorem lI.eq(aa:Option Addr)(ab:Int)(I:Int)(R:Int->Heap->Prop)(H0:Heap):
 wF Tryz.prog lI.gD Tryz.f284 [.pointer aa,.int .i64 ab,.int .i64 I] (λv H'=>xS (.one (.int .i64)) v λr=>R r H') H0=lI.W aa ab I R H0:=by kernel_rfl
theorem lI.calls{aa}{ab}{I}{R}{H0}(h:lI.W aa ab I R H0):lI.C aa ab I H0 R:=
 (dp eF Tryz.func284 (by rw[lI.eq];exact h)).mono λv H' h=>by obtain⟨x,hv,hk⟩:=fS h;exact⟨x,hv,hk⟩
def kf.gD:gR:={ord:=λ_=>.ord [],loop:=λi=>bif Nat.beq i 5 then some [(8,.one (.int .i64))] else bif Nat.beq i 10 then some [(8,.one (.int .i64))] else none,join:=λi=>bif Nat.beq i 7 then some [(8,.one (.int .i64))] else bif Nat.beq i 14 then some [(8,.one (.int .i64))] else bif Nat.beq i 16 then some [] else none}
def kf.W(aa:Option Addr)(ad:Int)(ab:Int)(R:Int->Heap->Prop)(H0:Heap):Prop:=
 (64:Int)≠0/\lA.C (aa) (ad) (IntKind.i64.wrap ((IntKind.i64.wrap (Int.tdiv ad 64))*64)) (ab) H0 λaf H1=>
 gn (decide ((0:Int)<=af)) (R (af) H1) (∃ag:Addr,aa=some ag/\
 ∃ah:Int,dj H1 (ag.add 2)=some (.int .i64 ah)/\(64:Int)≠0/\
 eX (IntKind.i64.wrap (ah+(IntKind.i64.wrap (Int.tdiv ad 64)))) λnode8:Int=>
 eW (S:=Unit) (λav=>
 lD (S:=(Int×Unit)) (λL5 q5 H3=>(λ(node8:Int)=>
 eW (S:=(Int×Unit)) (λJ7=>
 lD (S:=(Int×Unit)) (λL5 q5 H5=>(λ(node8:Int)=>(2:Int)≠0/\
 gn (decide ((Int.tmod node8 2)=0)) ((2:Int)≠0/\
 eX (IntKind.i64.wrap (Int.tdiv node8 2)) λI:Int=>L5 ((I:Int),()) H5) (J7 ((node8:Int),()) H5)) q5.1) ((node8:Int),()) H3)
 (λs7 H4=>(λ(node8:Int)=>
 gn (decide (node8=1)) (av () H4) (eX (IntKind.i64.wrap (node8-1)) λI:Int=>
 nh.C (aa) (I) (ab) H4 λay H6=>
 gn ay (
 eW (S:=(Int×Unit)) (λaz=>
 lD (S:=(Int×Unit)) (λai aA H8=>(λ(node8:Int)=>
 ∃aj:Addr,aa=some aj/\
 ∃ak:Int,dj H8 (aj.add 2)=some (.int .i64 ak)/\
 gn (decide (node8<ak)) (eX (IntKind.i64.wrap ((IntKind.i64.wrap (2*node8))+1)) λI:Int=>
 nh.C (aa) (I) (ab) H8 λaB H9=>
 gn (!aB) (eX (IntKind.i64.wrap (I-1)) λI:Int=>ai ((I:Int),()) H9) (ai ((I:Int),()) H9)) (az ((node8:Int),()) H8)) aA.1) ((I:Int),()) H6)
 (λaD H7=>(λ(node8:Int)=>
 ∃al:Addr,aa=some al/\
 ∃ao:Int,dj H7 (al.add 2)=some (.int .i64 ao)/\
 eX (IntKind.i64.wrap ((IntKind.i64.wrap ((IntKind.i64.wrap (node8-ao))+1))*64)) λae:Int=>
 lA.C (aa) (ae) (IntKind.i64.wrap (ae-64)) (ab) H7 λaF aG=>R (aF) aG) aD.1)) (L5 ((I:Int),()) H6))) s7.1)) q5.1) ((node8:Int),()) H1)
 (λ_ H2=>
 gn (decide (ab=0)) (R (-1) H2) (R (-2) H2)))
theorem kf.eq(aa:Option Addr)(ab:Int)(I:Int)(R:Int->Heap->Prop)(H0:Heap):
 wF Tryz.prog kf.gD Tryz.f286 [.pointer aa,.int .i64 ab,.int .i64 I] (λv H'=>xS (.one (.int .i64)) v λr=>R r H') H0=kf.W aa ab I R H0:=by kernel_rfl
theorem kf.calls{aa}{ab}{I}{R}{H0}(h:kf.W aa ab I R H0):kf.C aa ab I H0 R:=
 (dp eF Tryz.func286 (by rw[kf.eq];exact h)).mono λv H' h=>by obtain⟨x,hv,hk⟩:=fS h;exact⟨x,hv,hk⟩
def n0.gD:gR:={ord:=λ_=>.ord [],loop:=λi=>bif Nat.beq i 2 then some [(1,.one (.int .i64)),(13,.one (.int .i64))] else none,join:=λi=>bif Nat.beq i 6 then some [(1,.one (.int .i64))] else none}
def n0.W(ad:Option Addr)(ag:Int)(ah:Int)(R:Int->Heap->Prop)(H0:Heap):Prop:=
 eW (S:=(Int×Unit)) (λJ6=>
 ∃x9:Addr,ad=some x9/\
 ∃(ae:Option Addr)(I af:Nat),dj H0 (x9.add 0)=some (.slice ae I af)/\
 lD (S:=(Int×Int×Unit)) (λL2 q2 H2=>(λ(aa:Int)(ab:Int)=>
 gn (decide (ab<(I:Int))) (dN.C (ad) (ab) (ah) H2 λao H3=>
 pR.C (ad) (ab) (aa) (ao) H3 λaq H4=>L2 ((aq:Int),(IntKind.i64.wrap (ab+1):Int),()) H4) (J6 ((aa:Int),()) H2)) q2.1 q2.2.1) ((ag:Int),(0:Int),()) H0)
 (λs6 H1=>(λ(aa:Int)=>R (aa) H1) s6.1)
theorem n0.eq(aa:Option Addr)(I:Int)(ab:Int)(R:Int->Heap->Prop)(H0:Heap):
 wF Tryz.prog n0.gD Tryz.f289 [.pointer aa,.int .i64 I,.int .i64 ab] (λv H'=>xS (.one (.int .i64)) v λr=>R r H') H0=n0.W aa I ab R H0:=by kernel_rfl
theorem n0.calls{aa}{I}{ab}{R}{H0}(h:n0.W aa I ab R H0):n0.C aa I ab H0 R:=
 (dp eF Tryz.func289 (by rw[n0.eq];exact h)).mono λv H' h=>by obtain⟨x,hv,hk⟩:=fS h;exact⟨x,hv,hk⟩
def dN.gD:gR:={ord:=λ_=>.ord [],loop:=λ_=>none,join:=λ_=>none}
def dN.W(ae:Option Addr)(ad:Int)(af:Int)(R:Bool->Heap->Prop)(H0:Heap):Prop:=
 ∃x9:Addr,ae=some x9/\
 ∃(aa:Option Addr)(I ab:Nat),dj H0 (x9.add 0)=some (.slice aa I ab)/\0<=(IntKind.u64.wrap (IntKind.i64.wrap ((IntKind.i64.wrap ((I:Int)-1))-ad)))/\R (decide ((lN .i64 (kP .i64 af (IntKind.u64.wrap (IntKind.i64.wrap ((IntKind.i64.wrap ((I:Int)-1))-ad)))) 1)=1)) H0
theorem dN.eq(I:Option Addr)(aa:Int)(ab:Int)(R:Bool->Heap->Prop)(H0:Heap):
 wF Tryz.prog dN.gD Tryz.f290 [.pointer I,.int .i64 aa,.int .i64 ab] (λv H'=>xS (.one .bool) v λr=>R r H') H0=dN.W I aa ab R H0:=by kernel_rfl
theorem dN.calls{I}{aa}{ab}{R}{H0}(h:dN.W I aa ab R H0):dN.C I aa ab H0 R:=
 (dp eF Tryz.func290 (by rw[dN.eq];exact h)).mono λv H' h=>by obtain⟨x,hv,hk⟩:=fS h;exact⟨x,hv,hk⟩
def ef.gD:gR:={ord:=λ_=>.ord [],loop:=λ_=>none,join:=λ_=>none}
def ef.W(I:Option Addr)(R:Int->Heap->Prop)(H0:Heap):Prop:=
 gn (Option.isNone (I)) (R (0) H0) (∃x6:Addr,I=some x6/\
 ∃x8:Int,dj H0 (x6.add 1)=some (.int .i64 x8)/\R (x8) H0)
theorem ef.eq(I:Option Addr)(R:Int->Heap->Prop)(H0:Heap):
 wF Tryz.prog ef.gD Tryz.f302 [.pointer I] (λv H'=>xS (.one (.int .i64)) v λr=>R r H') H0=ef.W I R H0:=by kernel_rfl
theorem ef.calls{I}{R}{H0}(h:ef.W I R H0):ef.C I H0 R:=
 (dp eF Tryz.func302 (by rw[ef.eq];exact h)).mono λv H' h=>by obtain⟨x,hv,hk⟩:=fS h;exact⟨x,hv,hk⟩
def eL.gD:gR:={ord:=λ_=>.ord [],loop:=λ_=>none,join:=λ_=>none}
def eL.W(ad:Int)(R:Bool->Heap->Prop)(H0:Heap):Prop:=
 fA.C H0 λI aa ab H1=>
 jj.C (ad) (I) aa ab H1 λx5 H2=>R (x5) H2
theorem eL.eq(I:Int)(R:Bool->Heap->Prop)(H0:Heap):
 wF Tryz.prog eL.gD Tryz.f310 [.int .i32 I] (λv H'=>xS (.one .bool) v λr=>R r H') H0=eL.W I R H0:=by kernel_rfl
theorem eL.calls{I}{R}{H0}(h:eL.W I R H0):eL.C I H0 R:=
 (dp eF Tryz.func310 (by rw[eL.eq];exact h)).mono λv H' h=>by obtain⟨x,hv,hk⟩:=fS h;exact⟨x,hv,hk⟩
def gH.gD:gR:={ord:=λ_=>.ord [],loop:=λ_=>none,join:=λ_=>none}
def gH.W(R:Option Addr->Nat->Nat->Heap->Prop)(I:Heap):Prop:=
 eX (gy I #[.int .i32 45,.int .i32 46,.int .i32 48,.int .i32 57,.int .i32 183,.int .i32 183,.int .i32 768,.int .i32 879,.int .i32 8255,.int .i32 8256] lP) λH1:Heap=>R (some ⟨Array.size I,0,none⟩) 5 5 H1
theorem gH.eq(R:Option Addr->Nat->Nat->Heap->Prop)(I:Heap):
 wF Tryz.prog gH.gD Tryz.f311 [] (λv H'=>xS (.one .slice) v λr=>R r.1 r.2.1 r.2.2 H') I=gH.W R I:=by kernel_rfl
theorem gH.calls{R}{I}(h:gH.W R I):gH.C I R:=
 (dp eF Tryz.func311 (by rw[gH.eq];exact h)).mono λv H' h=>by obtain⟨x,hv,hk⟩:=fS h;exact⟨x.1,x.2.1,x.2.2,hv,hk⟩
def nH.gD:gR:={ord:=λ_=>.ord [],loop:=λi=>bif Nat.beq i 4 then some [(7,.one (.int .i64)),(8,.one (.int .i64))] else none,join:=λi=>bif Nat.beq i 5 then some [(7,.one (.int .i64))] else bif Nat.beq i 9 then some [(7,.one (.int .i64))] else bif Nat.beq i 11 then some [] else none}
def nH.W(aa:Option Addr)(ad:Int)(ah:Int)(R:Int->Heap->Prop)(H0:Heap):Prop:=
 ∃af:Addr,aa=some af/\
 ∃ag:Int,dj H0 (af.add 3)=some (.int .i64 ag)/\
 ∃ab:Addr,aa=some ab/\(∃u,dj H0 (ab.add 3)=some u)/\gO H0 (ab.add 3)=false/\
 eX (nQ H0 (ab.add 3) (.int .i64 (IntKind.i64.wrap (ag+1)))) λH1:Heap=>
 iS.C (aa) (ad) H1 λai H2=>
 eW (S:=Unit) (λaj=>
 eX (IntKind.i64.wrap (ad+1)) λi8:Int=>
 lD (S:=(Int×Int×Unit)) (λL4 q4 H4=>(λ(I:Int)(i8:Int)=>(64:Int)≠0/\lZ.C (aa) H4 λal H5=>
 gn (decide (i8<(min (IntKind.i64.wrap ((IntKind.i64.wrap ((IntKind.i64.wrap (Int.tdiv ad 64))+1))*64)) al))) (
 eW (S:=(Int×Unit)) (λJ5=>
 eW (S:=(Int×Unit)) (λJ9=>
 eX (IntKind.i64.wrap (I-1)) λI:Int=>
 iP.C (aa) (i8) H5 λar H8=>
 gn ar (eX (IntKind.i64.wrap (I+2)) λI:Int=>J9 ((I:Int),()) H8) (J9 ((I:Int),()) H8))
 (λs9 H7=>(λ(I:Int)=>
 gn (decide (I=ah)) (R (i8) H7) (J5 ((I:Int),()) H7)) s9.1))
 (λs5 H6=>(λ(I:Int)=>
 eX (IntKind.i64.wrap (i8+1)) λaw:Int=>L4 ((I:Int),(aw:Int),()) H6) s5.1)) (aj () H5)) q4.1 q4.2.1) ((ai:Int),(i8:Int),()) H2)
 (λ_ H3=>R (-1) H3)
theorem nH.eq(aa:Option Addr)(ab:Int)(I:Int)(R:Int->Heap->Prop)(H0:Heap):
 wF Tryz.prog nH.gD Tryz.f341 [.pointer aa,.int .i64 ab,.int .i64 I] (λv H'=>xS (.one (.int .i64)) v λr=>R r H') H0=nH.W aa ab I R H0:=by kernel_rfl
theorem nH.calls{aa}{ab}{I}{R}{H0}(h:nH.W aa ab I R H0):nH.C aa ab I H0 R:=
 (dp eF Tryz.func341 (by rw[nH.eq];exact h)).mono λv H' h=>by obtain⟨x,hv,hk⟩:=fS h;exact⟨x,hv,hk⟩
def nh.gD:gR:={ord:=λ_=>.ord [],loop:=λ_=>none,join:=λ_=>none}
def nh.W(ae:Option Addr)(I:Int)(ar:Int)(R:Bool->Heap->Prop)(H0:Heap):Prop:=
 ∃ai:Addr,ae=some ai/\
 ∃aj:Int,dj H0 (ai.add 3)=some (.int .i64 aj)/\
 ∃aa:Addr,ae=some aa/\(∃u,dj H0 (aa.add 3)=some u)/\gO H0 (aa.add 3)=false/\
 eX (nQ H0 (aa.add 3) (.int .i64 (IntKind.i64.wrap (aj+1)))) λH1:Heap=>
 ∃ak:Addr,ae=some ak/\
 ∃al:Value,dj H1 (ak.add 1)=some (al)/\
 ∃(ab:Option Addr)(ad ag:Nat),∃ah:Bool,pc (al) su (.slice ab ad ag) (.slice none 0 0) ah/\
 ∃ao:Addr,ab=some ao/\0<=I/\I<(ad:Int)/\
 ∃aq:Int,dj H1 (ao.add I.toNat)=some (.int .i64 aq)/\R (decide (aq<=ar)) H1
theorem nh.eq(ab:Option Addr)(I:Int)(aa:Int)(R:Bool->Heap->Prop)(H0:Heap):
 wF Tryz.prog nh.gD Tryz.f342 [.pointer ab,.int .i64 I,.int .i64 aa] (λv H'=>xS (.one .bool) v λr=>R r H') H0=nh.W ab I aa R H0:=by kernel_rfl
theorem nh.calls{ab}{I}{aa}{R}{H0}(h:nh.W ab I aa R H0):nh.C ab I aa H0 R:=
 (dp eF Tryz.func342 (by rw[nh.eq];exact h)).mono λv H' h=>by obtain⟨x,hv,hk⟩:=fS h;exact⟨x,hv,hk⟩
def lA.gD:gR:={ord:=λ_=>.ord [],loop:=λi=>bif Nat.beq i 4 then some [(9,.one (.int .i64)),(10,.one (.int .i64))] else none,join:=λi=>bif Nat.beq i 5 then some [(9,.one (.int .i64))] else bif Nat.beq i 9 then some [(9,.one (.int .i64))] else bif Nat.beq i 11 then some [] else none}
def lA.W(aa:Option Addr)(af:Int)(ad:Int)(ai:Int)(R:Int->Heap->Prop)(H0:Heap):Prop:=
 ∃ag:Addr,aa=some ag/\
 ∃ah:Int,dj H0 (ag.add 3)=some (.int .i64 ah)/\
 ∃ab:Addr,aa=some ab/\(∃u,dj H0 (ab.add 3)=some u)/\gO H0 (ab.add 3)=false/\
 eX (nQ H0 (ab.add 3) (.int .i64 (IntKind.i64.wrap (ah+1)))) λH1:Heap=>
 iS.C (aa) (af) H1 λak H2=>
 eW (S:=Unit) (λal=>
 eX (IntKind.i64.wrap (af-1)) λi10:Int=>
 lD (S:=(Int×Int×Unit)) (λL4 q4 H4=>(λ(I:Int)(i10:Int)=>
 gn (decide (ad<=i10)) (
 eW (S:=(Int×Unit)) (λJ5=>
 eW (S:=(Int×Unit)) (λJ9=>
 eX (IntKind.i64.wrap (I+1)) λI:Int=>
 iP.C (aa) (IntKind.i64.wrap (i10+1)) H4 λau H7=>
 gn au (eX (IntKind.i64.wrap (I-2)) λI:Int=>J9 ((I:Int),()) H7) (J9 ((I:Int),()) H7))
 (λs9 H6=>(λ(I:Int)=>
 gn (decide (I=ai)) (R (i10) H6) (J5 ((I:Int),()) H6)) s9.1))
 (λs5 H5=>(λ(I:Int)=>
 eX (IntKind.i64.wrap (i10-1)) λaj:Int=>L4 ((I:Int),(aj:Int),()) H5) s5.1)) (al () H4)) q4.1 q4.2.1) ((ak:Int),(i10:Int),()) H2)
 (λ_ H3=>R (-2) H3)
theorem lA.eq(ab:Option Addr)(ad:Int)(I:Int)(aa:Int)(R:Int->Heap->Prop)(H0:Heap):
 wF Tryz.prog lA.gD Tryz.f343 [.pointer ab,.int .i64 ad,.int .i64 I,.int .i64 aa] (λv H'=>xS (.one (.int .i64)) v λr=>R r H') H0=lA.W ab ad I aa R H0:=by kernel_rfl
theorem lA.calls{ab}{ad}{I}{aa}{R}{H0}(h:lA.W ab ad I aa R H0):lA.C ab ad I aa H0 R:=
 (dp eF Tryz.func343 (by rw[lA.eq];exact h)).mono λv H' h=>by obtain⟨x,hv,hk⟩:=fS h;exact⟨x,hv,hk⟩
def fA.gD:gR:={ord:=λ_=>.ord [],loop:=λ_=>none,join:=λ_=>none}
def fA.W(R:Option Addr->Nat->Nat->Heap->Prop)(I:Heap):Prop:=
 eX (gy I #[.int .i32 58,.int .i32 58,.int .i32 65,.int .i32 90,.int .i32 95,.int .i32 95,.int .i32 97,.int .i32 122,.int .i32 192,.int .i32 214,.int .i32 216,.int .i32 246,.int .i32 248,.int .i32 767,.int .i32 880,.int .i32 893,.int .i32 895,.int .i32 8191,.int .i32 8204,.int .i32 8205,.int .i32 8304,.int .i32 8591,.int .i32 11264,.int .i32 12271,.int .i32 12289,.int .i32 55295,.int .i32 63744,.int .i32 64975,.int .i32 65008,.int .i32 65533,.int .i32 65536,.int .i32 983039] lP) λH1:Heap=>R (some ⟨Array.size I,0,none⟩) 16 16 H1
theorem fA.eq(R:Option Addr->Nat->Nat->Heap->Prop)(I:Heap):
 wF Tryz.prog fA.gD Tryz.f355 [] (λv H'=>xS (.one .slice) v λr=>R r.1 r.2.1 r.2.2 H') I=fA.W R I:=by kernel_rfl
theorem fA.calls{R}{I}(h:fA.W R I):fA.C I R:=
 (dp eF Tryz.func355 (by rw[fA.eq];exact h)).mono λv H' h=>by obtain⟨x,hv,hk⟩:=fS h;exact⟨x.1,x.2.1,x.2.2,hv,hk⟩
end Go.Proofs.iQ
