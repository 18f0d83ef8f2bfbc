/- Part AY of the proof that the law TopMany answers true at every input, under no condition. -/
import Derived.Test.YtmdbfgemefalmaaGreatDoorQAX
import Derived.KernelRfl
set_option linter.unusedVariables false
set_option maxHeartbeats 2000000
set_option maxRecDepth 100000
namespace Go.Proofs.iQ
open Go.Ex
def dd.arl:gR:={ord:=λi=>bif Nat.beq i 15 then .ord [0,1,2,3] else .ord [],loop:=λi=>bif Nat.beq i 3 then some [(6,.one .slice),(7,.one (.int .i64))] else none,join:=λi=>bif Nat.beq i 6 then some [(6,.one .slice)] else none}
def dd.WR(a6:Option Addr)(a7:Int)(R:Int->Int->ByteArray->ByteArray->ByteArray->ByteArray->Option Addr->Nat->Nat->Option Addr->Heap->Prop)(H0:Heap):Prop:=
 eX (gy H0 #[.pointer a6] ij) λH1:Heap=>
 eX (gy H1 #[.int .i64 0,.int .i64 0,.string (⟨#[]⟩:ByteArray),.string (⟨#[]⟩:ByteArray),.string (⟨#[]⟩:ByteArray),.string (⟨#[]⟩:ByteArray),.slice none 0 0] eH) λH2:Heap=>
 eW (S:=((Option Addr×Nat×Nat)×Unit)) (λJ6=>lj H2 ⟨Array.size H0,0,none⟩ λa8=>
 ∃aQ:Addr,a8=some aQ/\lj H2 (aQ.add 0) λba=>
 jR.C (ba) (a7) H2 λbb H4=>
 lD (S:=((Option Addr×Nat×Nat)×Int×Unit)) (λL3 q3 H5=>(λ(aa:Option Addr)(ab ad:Nat)(p7:Int)=>
 gn (decide ((0:Int)<=p7)) (lj H5 ⟨Array.size H0,0,none⟩ λbf=>
 ∃aR:Addr,bf=some aR/\lj H5 (aR.add 0) λbg=>
 na.C (bg) (p7) H5 λbh H6=>
 eX (gy H6 #[.int .i64 bh] gv) λH7:Heap=>jN gv 1 8 (.int .i64 0) aa ab ad (.slice (some ⟨Array.size H6,0,none⟩) 1 1) H7 λay az aA H8=>lj H8 ⟨Array.size H0,0,none⟩ λbj=>
 ∃aS:Addr,bj=some aS/\lj H8 (aS.add 0) λbk=>
 lO.C (bk) (p7) H8 λbm H9=>L3 ((ay,az,aA),(bm:Int),()) H9) (J6 ((aa,ab,ad),()) H5)) q3.1.1 q3.1.2.1 q3.1.2.2 q3.2.1) ((none,0,0),(bb:Int),()) H4)
 (λs6 H3=>(λ(aa:Option Addr)(ab ad:Nat)=>
 fh.C H3 λbn ae=>
 eX (gy ae #[.pointer none] og) λbo:Heap=>sV (.pointer bn) ⟨Array.size ae,0,none⟩ bo λI=>
 eX (gy I #[.int .i64 0,.int .i64 0,.string (⟨#[]⟩:ByteArray),.string (⟨#[]⟩:ByteArray),.string (⟨#[]⟩:ByteArray),.string (⟨#[]⟩:ByteArray),.slice none 0 0] eH) λbq:Heap=>
 jb.C (aa) ab ad bq λbr aq=>
 ∃BR:Nat,br=.func (.func 281) #[] #[.pointer (some ⟨BR,0,none⟩)]/\aoR BR aq (λ(kR zR:Int) SR ER bz=>SR bz λaT=>lj aT ⟨Array.size H0,0,none⟩ λbA=>
 dw.C (bA) (zR) aT λaB aC aD aE aF aG ag ah ai bB=>nR [.int .i64 aB,.int .i64 aC,.string aD,.string aE,.string aF,.string aG,.slice ag ah ai] ⟨Array.size I,0,none⟩ 0 bB λaf=>im af ((⟨Array.size I,0,none⟩:Addr).add 4) λbC=>ff af ((⟨Array.size I,0,none⟩:Addr).add 0) λbD=>
 gn (decide (bD=2)) (lj af ⟨Array.size ae,0,none⟩ λbE=>
 jP.C (bE) (some ⟨Array.size I,0,none⟩) af λbV bF=>sV (.string bC) ((⟨Array.size I,0,none⟩:Addr).add 4) bF λbG=>ER bG) (ER af)) (λar=>kK ar ⟨Array.size I,0,none⟩ λaH aI aJ aK aL aM aj ak al=>lj ar ⟨Array.size ae,0,none⟩ λaU=>nR [.int .i64 aH,.int .i64 aI,.string aJ,.string aK,.string aL,.string aM,.slice aj ak al] ⟨Array.size H1,0,none⟩ 0 ar λau=>(lj au ⟨Array.size ae,0,none⟩ λaZ=>(.pointer aZ:Value)=.pointer aU)/\au[(Array.size aq)]?=some (.deferred (some []))/\
 eX (Array.setIfInBounds au (Array.size aq) (.deferred none)) λav:Heap=>kK av ⟨Array.size H1,0,none⟩ λbH bI bJ bK bL bM aN aO aP=>R (bH) (bI) bJ bK bL bM (aN) aO aP (aU) av)) s6.1.1 s6.1.2.1 s6.1.2.2)
theorem dd.eqR(I:Option Addr)(aa:Int)(R:Int->Int->ByteArray->ByteArray->ByteArray->ByteArray->Option Addr->Nat->Nat->Option Addr->Heap->Prop)(H0:Heap):
 Pe Tryz.prog dd.arl 281 Tryz.f142 [.pointer I,.int .i64 aa] (λv H'=>xT [.agg [.int .i64,.int .i64,.str,.str,.str,.str,.slice],.one .ptr] v λr=>R r.1.1 r.1.2.1 r.1.2.2.1 r.1.2.2.2.1 r.1.2.2.2.2.1 r.1.2.2.2.2.2.1 r.1.2.2.2.2.2.2.1.1 r.1.2.2.2.2.2.2.1.2.1 r.1.2.2.2.2.2.2.1.2.2 r.2.1 H') H0=dd.WR I aa R H0:=by kernel_rfl
theorem dd.aix{I}{aa}{R}{H0}(h:dd.WR I aa R H0):dd.C I aa H0 R:=
 (Sq eF ⟨_,Tryz.func281,rfl⟩ back_ok Tryz.func142 (by rw[dd.eqR];exact h)).mono λv H' h=>by obtain⟨x,hv,hk⟩:=dB h;exact⟨x.1.1,x.1.2.1,x.1.2.2.1,x.1.2.2.2.1,x.1.2.2.2.2.1,x.1.2.2.2.2.2.1,x.1.2.2.2.2.2.2.1.1,x.1.2.2.2.2.2.2.1.2.1,x.1.2.2.2.2.2.2.1.2.2,x.2.1,hv,hk⟩
def jb.gD:gR:={ord:=λ_=>.ord [],loop:=λ_=>none,join:=λ_=>none}
def jb.W(I:Option Addr)(aa ab:Nat)(R:Value->Heap->Prop)(H0:Heap):Prop:=
 eX (gy H0 #[.slice I aa ab] su) λH1:Heap=>R (.func (.func 281) #[] #[.pointer (some ⟨Array.size H0,0,none⟩)]) H1
theorem jb.eq(I:Option Addr)(aa ab:Nat)(R:Value->Heap->Prop)(H0:Heap):
 wF Tryz.prog jb.gD Tryz.f220 [.slice I aa ab] (λv H'=>xS (.one .raw) v λr=>R r H') H0=jb.W I aa ab R H0:=by kernel_rfl
theorem jb.calls{I}{aa ab}{R}{H0}(h:jb.W I aa ab R H0):jb.C I aa ab H0 R:=
 (dp eF Tryz.func220 (by rw[jb.eq];exact h)).mono λv H' h=>by obtain⟨x,hv,hk⟩:=fS h;exact⟨x,hv,hk⟩
end Go.Proofs.iQ
namespace Go.Ex
theorem acS{m:List Bool}{k x:Int}(h:HY m k 1 x):x=-1\/∃(q:Nat)(hq:q<m.length),x=(q:Int)/\m[q]=true/\(q:Int)<k:=by
 rcases h with⟨i,n',y,hi,rfl,ho,hn,⟨hle,he,hb⟩,rfl⟩|⟨h,_⟩
 ·obtain rfl:n'=1:=by omega
  have hy:y<i:=by
   rcases Nat.lt_or_ge y i with h|h
   ·exact h
   ·obtain rfl:y=i:=by omega
    omega
  have:=hb (y+1) (by omega) (by omega)
  rw[lS (by omega)] at this
  refine .inr ⟨y,by omega,rfl,?_,by omega⟩
  cases hm:m[y] with
  |true=>rfl
  |false=>rw[hm] at this;simp at this;omega
 ·exact .inl h
end Go.Ex
namespace Go.Proofs.iQ
open Go.Ex
abbrev WG(zs:List Nat):List Value:=zs.map λz:Nat=>.int .i64 (z:Int)
structure Vb(t:List Nd)(i:Nat)(zs:List Nat)(p:Int):Prop where
 lt:∀z∈zs,z<t.length
 sW:zs.length+(p+1).toNat<=2*t.length
 at0:zs=[]->∃(q:Nat)(hq:q<(kD 0 (kM t)).length),p=(q:Int)/\(kD 0 (kM t))[q]=true/\rk (kD 0 (kM t)) q true=i
 hd:zs≠[]->zs[0]?=some i
 pl:p=-1\/∃(q:Nat)(hq:q<(kD 0 (kM t)).length),p=(q:Int)/\(kD 0 (kM t))[q]=true
structure RB(b gs gw N U:Nat)(t:List Nd)(zs:List Nat)(H:Heap)(oz os g ol pb c dr:Nat)(H':Heap):Prop where
 doc:oT H' b gs gw N U t
 fr:Fr (gF gs gw) H H'
 box:H'[Array.size H]?=some (.cells #[.pointer (some ⟨b,0,none⟩)] ij (0,0))
 zz:gT H' oz ⟨0,0,eS,eS⟩
 sc:H'[os]?=some (.cells #[.pointer (some ⟨g,0,none⟩)] og (0,0))
 sl:H'[ol]?=some (.cells #[.slice (some ⟨pb,0,none⟩) zs.length c] su (0,0))
 row:Sl H' gv (WG zs) (some ⟨pb,0,none⟩) zs.length c
 df:H'[dr]?=some (.deferred (some []))
theorem RB.fy{b gs gw N U:Nat}{t:List Nd}{zs:List Nat}{H:Heap}{oz os g ol pb c dr:Nat}{H' mK:Heap}(h:RB b gs gw N U t zs H oz os g ol pb c dr H'){G:Nat->Prop}(f:Fr G H' mK)(d:oT mK b gs gw N U t){m:Nat}(hm:gs<U/\gw<U/\U<=Array.size H/\Array.size H<oz/\oz<pb/\pb<m/\m<=os/\m<=ol/\m<=dr)
 (hG:∀k,G k->gF gs gw k\/m<=k/\k≠os/\k≠ol/\k≠dr):RB b gs gw N U t zs H oz os g ol pb c dr mK:=by
 have ng:∀{k:Nat},Array.size H<=k->(k<m\/k=os\/k=ol\/k=dr)->¬G k:=λ{k} h1 h2 h3=>by
  rcases hG k h3 with(rfl|rfl)|h<;>omega
 exact⟨d,h.fr.trans f λk hk=>(hG k hk).imp id λh=>by omega,f.fv h.box (ng (by omega) (by omega)),f.fv h.zz (ng (by omega) (by omega)),f.fv h.sc (ng (by omega) (by omega)),f.fv h.sl (ng (by omega) (by omega)),
  h.row.fy f λk hk=>(by obtain⟨_,e,rfl⟩:=hk;cases e;exact ng (k:=pb) (by omega) (by omega)),f.fv h.df (ng (by omega) (by omega))⟩
theorem OZ{H:Heap}{b gs gw N U:Nat}{t:List Nd}(s:oT H b gs gw N U t)(ht:kZ t){i:Nat}{n:Nd}(hn:t[i]?=some n){R:Int->Int->ByteArray->ByteArray->ByteArray->ByteArray->Option Addr->Nat->Nat->Option Addr->Heap->Prop}
 (hR:∀q H',oT H' b gs gw N U t->Fr (gF gs gw) H H'->R n.k n.d eS n.loc eS n.val none 0 0 q H'):dd.C (some ⟨b,0,none⟩) (i:Int) H R:=by
 apply dd.aix
 unfold dd.WR
 have hi:=(List.getElem?_eq_some_iff.1 hn).1
 have hu:=s.up
 have hz:=s.Ch
 have Ua:=ht.len
 obtain⟨M0,Ox⟩:=IJ ht
 refine db λH1 h1=>db λH2 h2=>?_
 have f1:Fr gz H H1:=h1▸Fr.new H _ _
 have f2:Fr gz H1 H2:=h2▸Fr.new H1 _ _
 have b1:H1[Array.size H]?=some (.cells #[.pointer (some ⟨b,0,none⟩)] ij (0,0)):=h1▸eV
 have n2:gT H2 (Array.size H1) ⟨0,0,eS,eS⟩:=h2▸eV
 have l1:=fe b1
 have l2:=fe n2
 have sX:=f1.eZ f2
 have s2:=s.oP sX
 have b2:=f2.fv b1 λh=>h
 have ng:∀{k:Nat},Array.size H<=k->¬gF gs gw k:=λhk h=>by rcases h with rfl|rfl<;>omega
 have sk:∀{H' mK:Heap}{G:Nat->Prop},oT H' b gs gw N U t->Fr G H' mK->(∀k,G k->Array.size H<=k)->oT mK b gs gw N U t:=λs f hG=>s.fy f λk hk=>by have:=hG k hk;omega
 have fk:∀{H' mK:Heap}{G:Nat->Prop},Fr (gF gs gw) H H'->Fr G H' mK->(∀k,G k->gF gs gw k\/Array.size H<=k)->Fr (gF gs gw) H mK:=λf f' hG=>f.trans f' hG
 have aqY:Fr (gF gs gw) H H2:=sX.mono λ_ h=>h.elim
 obtain⟨T6,aqk⟩:∃o,o=Array.size H1:=⟨_,rfl⟩
 rw[<-aqk] at n2 l2⊢
 have ho1:Array.size H<T6:=by omega
 refine dW (λq H'=>∃(p:Option Addr)(c:Nat)(zs:List Nat),q=((p,zs.length,c),())/\zs≠[]/\Vb t i zs (-1)/\Sl H' gv (WG zs) p zs.length c/\(∀k,fw p k->T6<k)/\oT H' b gs gw N U t/\Fr (gF gs gw) H H'/\H'[Array.size H]?=some (.cells #[.pointer (some ⟨b,0,none⟩)] ij (0,0))/\gT H' T6 ⟨0,0,eS,eS⟩) ?_ ?_
 ·obtain⟨gp,ga,np,nc,k1,_⟩:=s2.fv
  refine⟨_,(kc b2 0).trans rfl,_,rfl,_,(dh k1 0 0).trans rfl,xi s2 ht hn λp H4 hp ho hr he s4 f4=>?_⟩
  have oA:=fk aqY f4 λk h=>.inl h
  rw[qB hp] at ho
  have ho:(kD 0 (kM t))[p]=true:=ho
  have g0:Vb t i [] (p:Int):=⟨λ_ h=>(by cases h),by rw[List.length_nil];omega,λ_=>⟨p,hp,rfl,ho,hr⟩,λh=>absurd rfl h,.inr ⟨p,hp,rfl,ho⟩⟩
  refine fJ (λm q H'=>∃(pp:Option Addr)(c:Nat)(zs:List Nat)(p:Int),m=(p+1).toNat/\q=((pp,zs.length,c),p,())/\Vb t i zs p/\Sl H' gv (WG zs) pp zs.length c/\(∀k,fw pp k->T6<k)/\oT H' b gs gw N U t/\Fr (gF gs gw) H H'/\H'[Array.size H]?=some (.cells #[.pointer (some ⟨b,0,none⟩)] ij (0,0))/\gT H' T6 ⟨0,0,eS,eS⟩) ((p:Int)+1).toNat
   ⟨none,0,[],p,rfl,rfl,g0,Sl.nil _ _,λk hk=>(by obtain⟨_,h,_⟩:=hk;cases h),s4,oA,f4.fv b2 (ng (Nat.le_refl _)),f4.fv n2 (ng (by omega))⟩ ?_
  rintro m _ H5 ⟨pp,c,zs,p,rfl,rfl,g,sl,ob,s5,f5,b5,n5⟩
  refine ft (λJ1=>?_) λJ1=>?_
  ·have J1:0<=p:=J1
   obtain⟨q,hq,rfl,V3⟩:∃(q:Nat)(hq:q<(kD 0 (kM t)).length),p=(q:Int)/\(kD 0 (kM t))[q]=true:=g.pl.resolve_left (by omega)
   obtain⟨gp,ga,np,nc,k1,_⟩:=s5.fv
   refine⟨_,(kc b5 0).trans rfl,_,rfl,_,(dh k1 0 0).trans rfl,?_⟩
   obtain⟨F,ps,hF⟩:=s5.ps
   refine ps.number _ λH6 VB=>?_
   have s6:=s5.shape hF VB
   have f56:Fr (gF gs gw) H5 H6:=VB.fr.mono λ_ h=>.inl h
   have e6:(if Qq (kD 0 (kM t)) ((q:Nat):Int)=true then(rk (kD 0 (kM t)) ((q:Nat):Int).toNat true:Int) else-1)=((rk (kD 0 (kM t)) q true:Nat):Int):=by
    rw[if_pos (by rw[qB hq];exact V3),Int.toNat_natCast]
   rw[e6]
   have sl6:=sl.fy f56 λk hk=>ng (by have:=ob k hk;omega)
   have oU:=g.sW
   refine zN (z:=.int .i64 0) sl6 rfl ⟨by simp,by simp⟩ (show(zs.length+1)*8<=140737488355328 by omega) (by decide) λp' c' H8 sl8 f8 p8=>?_
   have VJ:∀k,fw p' k->T6<k:=λk hk=>(p8 k hk).elim (ob k) λh=>by have:=fe (f56.fv n5 (ng (by omega)));omega
   have s8:=sk s6 f8 λk hk=>by have:=ob k hk;omega
   have ta:=fk (fk f5 f56 λk h=>.inl h) f8 λk hk=>.inr (by have:=ob k hk;omega)
   have b8:=f8.fv (f56.fv b5 (ng (Nat.le_refl _))) λhk=>by have:=ob _ hk;omega
   have n8:=f8.fv (f56.fv n5 (ng (by omega))) λhk=>by have:=ob _ hk;omega
   obtain⟨gp,ga,np,nc,k1,_⟩:=s8.fv
   refine⟨_,(kc b8 0).trans rfl,_,rfl,_,(dh k1 0 0).trans rfl,?_⟩
   obtain⟨F,ps,hF⟩:=s8.ps
   refine ps.adW _ λx H9 hx VA=>?_
   have s9:=s8.shape hF VA
   have f89:Fr (gF gs gw) H8 H9:=VA.fr.mono λ_ h=>.inl h
   have hx:x=-1\/∃(q':Nat)(hq:q'<(kD 0 (kM t)).length),x=(q':Int)/\(kD 0 (kM t))[q']=true/\(q':Int)<(q:Int):=acS hx
   have He:(x+1).toNat<((q:Int)+1).toNat:=by rcases hx with rfl|⟨_,_,rfl,_,h⟩<;>omega
   have asr:(x+1).toNat+1<=((q:Int)+1).toNat:=He
   have el:(zs++[rk (kD 0 (kM t)) q true]).length=zs.length+1:=by simp
   refine⟨(x+1).toNat,He,p',c',zs++[rk (kD 0 (kM t)) q true],x,rfl,by rw[el],⟨λz hz=>?_,by rw[el];omega,λh=>by simp at h,λ_=>?_,hx.imp id λ⟨q',BG,e,o,_⟩=>⟨q',BG,e,o⟩⟩,?_,VJ,s9,fk ta f89 λk h=>.inl h,f89.fv b8 (ng (Nat.le_refl _)),f89.fv n8 (ng (by omega))⟩
   ·rw[List.mem_append,List.mem_singleton] at hz
    rcases hz with h|rfl
    ·exact g.lt z h
    ·have:=oS hq V3;omega
   ·cases zs with
    |nil=>
     obtain⟨q',BG,e,o,XT⟩:=g.at0 rfl
     obtain rfl:q=q':=by omega
     simp[XT]
    |cons a r=>have:=g.hd (by simp);simpa using this
   ·rw[el]
    have:=sl8.fy f89 λk hk=>ng (by have:=VJ k hk;omega)
    rwa[WG,List.map_append]
  ·have hpm:p=-1:=g.pl.resolve_right λ⟨q,_,e,_⟩=>J1 (by show(0:Int)<=p;omega)
   subst hpm
   exact⟨pp,c,zs,rfl,λe=>by obtain⟨q,_,e,_⟩:=g.at0 e;omega,g,sl,ob,s5,f5,b5,n5⟩
 ·rintro _ H3 ⟨pp,c,zs,rfl,hZ,g,Vt,ob3,s3,f3,b3,n3⟩
  refine sR λCw F de alQ f10 hF=>db λfg QT=>?_
  have f11:Fr gz de fg:=QT▸Fr.new de _ _
  have Ur:fg[Array.size de]?=some (.cells #[.pointer none] og (0,0)):=QT▸eV
  have l11:=fe Ur
  have aso:=f10.size
  refine kQ (o:=0) Ur (by simp) λfZ TG f12=>db λgS Um=>?_
  have f13:Fr gz fZ gS:=Um▸Fr.new fZ _ _
  have pU:gT gS (Array.size fZ) ⟨0,0,eS,eS⟩:=Um▸eV
  have l13:=fe pU
  have ar2:=f12.size
  apply jb.calls
  unfold jb.W
  refine db λgK Ha=>⟨_,rfl,?_⟩
  have f14:Fr gz gS gK:=Ha▸Fr.new gS _ _
  have zY:gK[Array.size gS]?=some (.cells #[.slice pp zs.length c] su (0,0)):=Ha▸eV
  have l14:=fe zY
  have f314:Fr gz H3 gK:=(((f10.eZ f11).fresh f12 λk hk=>by omega).eZ f13).eZ f14
  have T9:zs.length≠0:=λh=>hZ (List.length_eq_zero_iff.1 h)
  obtain⟨pb,cs,rfl,hpb,_⟩:=Vt.2.resolve_left λh=>T9 h.2.1
  have lpb:=fe hpb
  have opb:=ob3 pb ⟨_,rfl,rfl⟩
  have oU:=g.sW
  have hm:gs<U/\gw<U/\U<=Array.size H/\Array.size H<T6/\T6<pb/\pb<Array.size H3/\Array.size H3<=Array.size de/\Array.size H3<=Array.size gS/\Array.size H3<=Array.size gK:=by omega
  refine⟨pb,0,zs.length,c,zs.map λz:Nat=>(z:Int),λr k H'=>RB b gs gw N U t zs H T6 (Array.size de) Cw (Array.size gS) pb c (Array.size gK) H'/\H'[Array.size gK+1]?=some (.loop r)/\
   (∃nd,gT H' (Array.size fZ) nd/\∀z,zs[k]?=some z->t[z]?=some nd)/\
   ∃F lv,kN H' Cw F lv/\lv+k<=zs.length/\∀j,F j->Array.size H3<=j/\j≠Array.size de/\j≠Array.size fZ/\j≠Array.size gS/\j≠Array.size gK/\j≠Array.size gK+1,by omega,λr pY D0=>⟨?_,?_,?_,?_⟩⟩
  ·rintro k H' ⟨B,hl,_,_⟩
   refine⟨(kc B.sl 0).trans rfl,λj hj=>?_,hl⟩
   obtain⟨b',As,e,rb,fU,F8,hc'⟩:=B.row.2.resolve_left λh=>T9 h.2.1
   cases e
   rw[kc rb,Nat.zero_add,hc' j hj]
   simp[WG,List.getElem?_eq_getElem hj]
  ·have fp:Fr gz gK ((gK.push (.deferred (some []))).push (.loop r)):=(Fr.push _ _).eZ (Fr.push _ _)
   have Hi:=f314.eZ fp
   have aqX:=((f11.fresh f12 λk hk=>by omega).eZ f13).eZ f14 |>.eZ fp
   refine⟨⟨s3.oP Hi,f3.trans Hi λk h=>h.elim,Hi.fv b3 λh=>h,Hi.fv n3 λh=>h,fp.fv (f14.fv (f13.fv TG λh=>h) λh=>h) λh=>h,fp.fv zY λh=>h,Vt.fy Hi λ_ _ h=>h,?_⟩,?_,⟨_,fp.fv (f14.fv pU λh=>h) λh=>h,λz hz=>?_⟩,F,0,alQ.fy aqX λk _ h=>h,by omega,λj hj=>?_⟩
   ·rw[Array.getElem?_push_lt (by simp)];simp
   ·have:=kE (gK.push (.deferred (some []))) (.loop r)
    rwa[Array.size_push] at this
   ·rw[List.getElem?_eq_none (Nat.le_refl _)] at hz;cases hz
   ·have h1:=hF j hj
    obtain⟨_,_,_,_,_,_,h5⟩:=alQ
    have h2:=h5 j hj
    omega
  ·rintro k jY ⟨B,hl,⟨nd,FO,_⟩,F',lv,sc,yA,Ul⟩ hk
   have VU:zs[k]?=some zs[k]:=List.getElem?_eq_getElem hk
   have hzt:=g.lt zs[k] (List.getElem_mem hk)
   obtain⟨nz,V4⟩:=ht.at hzt
   have ez:(zs.map λz:Nat=>(z:Int))[k]?.getD 0=((zs[k]:Nat):Int):=by simp[List.getElem?_map,VU]
   rw[ez]
   refine⟨hl,?_⟩
   have lL:=fe hl
   obtain⟨lW,zU⟩:∃lW,lW=Array.setIfInBounds jY (Array.size gK+1) (.loop {r with state:=.busy}):=⟨_,rfl⟩
   rw[<-zU]
   have f16:Fr (λk=>k=Array.size gK+1) jY lW:=zU▸Fr.uO _ _ _
   have Nq:lW[Array.size gK+1]?=some (.loop {r with state:=.busy}):=zU▸mn lL _
   have Vd:=B.fy f16 (sk B.doc f16 λk hk=>by omega) hm λk hk=>.inr (by omega)
   have n16:=f16.fv FO (by omega)
   have apK:=sc.fy f16 λk hk e=>by have:=Ul k hk;omega
   refine⟨_,(kc Vd.box 0).trans rfl,Hv Vd.doc ht V4 λuo J0 f18=>?_⟩
   have B18:=Vd.fy f18 J0 hm λk hk=>.inl hk
   have LF:=f18.fv n16 (ng (by omega))
   have e18:=f18.fv Nq (ng (by omega))
   have apJ:=apK.fy f18 λk hk e=>ng (by have:=Ul k hk;omega) e
   refine o9 LF rfl λpk Od f19=>?_
   have Od:gT pk (Array.size fZ) nz:=Od
   have O8:=B18.fy f19 (sk J0 f19 λk hk=>by omega) hm λk hk=>.inr (by omega)
   have CI:=f19.fv e18 (by omega)
   have alO:=apJ.fy f19 λk hk e=>by have:=Ul k hk;omega
   have fin:∀rG F2 JV,RB b gs gw N U t zs H T6 (Array.size de) Cw (Array.size gS) pb c (Array.size gK) rG->rG[Array.size gK+1]?=some (.loop {r with state:=.busy})->gT rG (Array.size fZ) nz->kN rG Cw F2 JV->JV<=lv+1->
    (∀j,F2 j->Array.size H3<=j/\j≠Array.size de/\j≠Array.size fZ/\j≠Array.size gS/\j≠Array.size gK/\j≠Array.size gK+1)->rG[Array.size gK+1]?=some (.loop {r with state:=.busy})/\
    (RB b gs gw N U t zs H T6 (Array.size de) Cw (Array.size gS) pb c (Array.size gK) (Array.setIfInBounds rG (Array.size gK+1) (.loop r))/\(Array.setIfInBounds rG (Array.size gK+1) (.loop r))[Array.size gK+1]?=some (.loop r)/\
    (∃nd,gT (Array.setIfInBounds rG (Array.size gK+1) (.loop r)) (Array.size fZ) nd/\∀z,zs[k]?=some z->t[z]?=some nd)/\
    ∃F lv,kN (Array.setIfInBounds rG (Array.size gK+1) (.loop r)) Cw F lv/\lv+k<=zs.length/\∀j,F j->Array.size H3<=j/\j≠Array.size de/\j≠Array.size fZ/\j≠Array.size gS/\j≠Array.size gK/\j≠Array.size gK+1):=by
    intro rG F2 JV B21 Z2 DN apH asA Zq
    have f22:=Fr.uO rG (Array.size gK+1) (.loop r)
    refine⟨Z2,B21.fy f22 (sk B21.doc f22 λk hk=>by omega) hm λk hk=>.inr (by omega),mn (fe Z2) _,⟨nz,f22.fv DN (by omega),λz hz=>?_⟩,F2,JV,apH.fy f22 λk hk e=>by have:=Zq k hk;omega,by omega,Zq⟩
    rw[VU] at hz
    cases hz
    exact V4
   refine⟨_,Od.cell 4,_,Od.cell 0,ft (λ_=>⟨_,(kc O8.sc 0).trans rfl,tT alO (by omega) Od (λh=>(Ul _ h).2.2.1 rfl) λF2 xZ apI g20 n20 nF=>?_⟩) λ_=>fin pk F' lv O8 CI Od alO (by omega) Ul⟩
   have B20:=O8.fy g20.fr (sk O8.doc g20.fr λk hk=>by have:=Ul k hk;omega) hm λk hk=>.inr (by have:=Ul k hk;omega)
   have e20:=g20.fr.fv CI λhk=>by have:=Ul _ hk;omega
   refine kQ (o:=4) n20 (by simp[pI]) λrG DN f21=>?_
   have DN:gT rG (Array.size fZ) nz:=by rw[gT,DN];simp[pI]
   refine fin rG F2 (lv+1) (B20.fy f21 (sk B20.doc f21 λk hk=>by omega) hm λk hk=>.inr (by omega)) (f21.fv e20 (by omega)) DN (apI.fy f21 λk hk e=>nF (e▸hk)) (by omega) λj hj=>?_
   rcases g20.up j hj with h|h
   ·exact Ul j h
   ·have PO:=fe CI
    omega
  ·rintro jY ⟨B,hl,⟨nd,FO,BD⟩,_⟩
   have h0:=BD i (g.hd hZ)
   rw[hn] at h0
   obtain rfl:n=nd:=Option.some.inj h0
   obtain⟨pd,ZX⟩:∃pd,pd=Array.setIfInBounds jY (Array.size gK+1) (.loop {r with state:=.exhausted}):=⟨_,rfl⟩
   rw[<-ZX]
   have f17:Fr (λk=>k=Array.size gK+1) jY pd:=ZX▸Fr.uO _ _ _
   have CQ:=B.fy f17 (sk B.doc f17 λk hk=>by omega) hm λk hk=>.inr (by omega)
   have JL:gT pd (Array.size fZ) n:=f17.fv FO (by omega)
   refine nW _ _ _ _ _ _ _ _ _ (λj hj=>JL.cell j) ⟨_,(kc CQ.sc 0).trans rfl,o9 CQ.zz rfl λux n22 f22=>?_⟩
   refine⟨⟨_,(kc (f22.fv CQ.sc (by omega)) 0).trans rfl,rfl⟩,f22.fv CQ.df (by omega),db λRo h23=>?_⟩
   have f23:Fr (λk=>k=Array.size gK) ux Ro:=h23▸Fr.uO _ _ _
   have n23:gT Ro T6 n:=f23.fv n22 (by omega)
   exact nW _ _ _ _ _ _ _ _ _ (λj hj=>n23.cell j) (hR _ Ro (sk (sk CQ.doc f22 λk hk=>by omega) f23 λk hk=>by omega) (fk (fk CQ.fr f22 λk hk=>.inr (by omega)) f23 λk hk=>.inr (by omega)))
end Go.Proofs.iQ
namespace Go.Ex
theorem WA{t:List Nd}(ht:kZ t):pj (kD 0 (kM t)) 0 (2*t.length-1):=by
 obtain⟨D,hD,lu⟩:=ht.kM
 obtain⟨m,hm,hs⟩:=yQ lu
 have hl:=(IJ ht).2
 have hlen:=ht.len
 rw[hD] at hl⊢
 rw[hm] at hl⊢
 rw[List.length_append,List.length_singleton] at hl
 have he:=zA m false
 rw[hs.pos.2] at he
 refine⟨by omega,by rw[List.length_append,List.length_singleton];omega,?_,λy h0 h1=>?_⟩
 ·rw[show 2*t.length-1+1=m.length+1 by omega,he,nv];rfl
 ·rw[nv,qO _ _ (by omega)]
  have:=hs.pos.1 y h0 (by omega)
  omega
end Go.Ex
namespace Go.Proofs.iQ
open Go.Ex
section
variable {H:Heap} {b gs gw N U:Nat} {t:List Nd}
theorem Fi(s:oT H b gs gw N U t)(ht:kZ t){i:Nat}{n:Nd}(hn:t[i]?=some n){R:Option Addr->Int->Heap->Prop}
 (hR:∀(p:Nat) H',p<(kD 0 (kM t)).length->Qq (kD 0 (kM t)) (p:Int)=true->rk (kD 0 (kM t)) p true=i->eK (kD 0 (kM t)) (p+1)=n.d+1->oT H' b gs gw N U t->Fr (gF gs gw) H H'->R (some ⟨gs,0,none⟩) (p:Int) H'):mw.C (some ⟨b,0,none⟩) (i:Int) H R:=by
 apply mw.calls
 unfold mw.W
 refine dW (λ_ H'=>H=H') (dW (λs H'=>s=(false,())/\H=H') (eY rfl ⟨by rw[decide_eq_false (by omega)],rfl⟩) ?_) ?_
 ·rintro _ _ ⟨rfl,rfl⟩
  exact eY rfl rfl
 rintro _ _ rfl
 obtain⟨gp,ga,np,nc,h1,_⟩:=s.fv
 have c0:=(dh h1 0 0).trans rfl
 refine⟨_,rfl,_,c0,_,rfl,_,c0,xi s ht hn λp H' hp ho hr he s' f'=>?_⟩
 obtain⟨gp,ga,np,nc,vj,_⟩:=s'.fv
 exact⟨⟨_,(dh vj 0 0).trans rfl,rfl⟩,hR p H' hp ho hr he s' f'⟩
theorem MS(s:oT H b gs gw N U t)(ht:kZ t){i:Nat}{n:Nd}(hn:t[i]?=some n){R:Bool->Heap->Prop}(hR:∀H',oT H' b gs gw N U t->Fr (gF gs gw) H H'->R true H'):kr.C (some ⟨b,0,none⟩) (i:Int) H R:=by
 apply kr.calls
 unfold kr.W
 refine Fi s ht hn λp H' hp ho hr he s' f'=>?_
 rw[decide_eq_true (by omega)]
 exact hR H' s' f'
theorem FK(s:oT H b gs gw N U t)(ht:kZ t){R:Int->Heap->Prop}(hR:∀H',oT H' b gs gw N U t->Fr (gF gs gw) H H'->R (t.length:Int) H'):iu.C (some ⟨b,0,none⟩) 0 H R:=by
 apply iu.calls
 unfold iu.W
 have afn:=WA ht
 have hlen:=ht.len
 refine Fi s ht (i:=0) ht.head λp H1 hp ho hr he s1 f1=>?_
 have J1:p=0:=by
  obtain⟨h0,h1⟩:=afn.opens
  have RH:(kD 0 (kM t))[p]=true:=by rw[<-qB hp];exact ho
  exact vF hp h0 RH h1 (by rw[hr];simp[rk])
 subst J1
 obtain⟨F,ps,hF⟩:=s1.ps
 refine ps.span _ λx H2 hx VC=>?_
 have hx:x=(t.length:Int):=by
  rcases hx with⟨i,c,hi,hc,rfl⟩|⟨hx,_⟩
  ·have hi:i=0:=by omega
   subst hi
   rw[hc.uniq afn]
   congr 1
   omega
  ·rw[ho] at hx;cases hx
 rw[hx]
 exact hR H2 (s1.shape hF VC) (f1.trans VC.fr λk h=>.inl (.inl h))
theorem MU(s:oT H b gs gw N U t)(ht:kZ t){i:Nat}{n:Nd}(hn:t[i]?=some n){R:Int->Heap->Prop}(hR:∀H',oT H' b gs gw N U t->Fr (gF gs gw) H H'->R n.d H'):jg.C (some ⟨b,0,none⟩) (i:Int) H R:=by
 apply jg.calls
 unfold jg.W
 have hd:=ht.d0 hn
 refine Fi s ht hn λp H1 hp ho hr he s1 f1=>B0 s1 hp λH2 s2 f2=>db λx hx=>?_
 have:x=n.d:=by rw[hx,he,dM (by omega) (by omega)];omega
 rw[this]
 exact hR H2 s2 (f1.trans f2 λk h=>.inl h)
theorem HF(s:oT H b gs gw N U t)(ht:kZ t){i:Nat}{n:Nd}(hn:t[i]?=some n){R:Int->Int->ByteArray->ByteArray->ByteArray->ByteArray->Option Addr->Nat->Nat->Int->Heap->Prop}
 (hR:∀H',oT H' b gs gw N U t->Fr (gF gs gw) H H'->R n.k n.d eS n.loc eS n.val none 0 0 0 H'):dA.C (some ⟨b,0,none⟩) (i:Int) H R:=by
 apply dA.calls
 unfold dA.W
 have lC:=(List.getElem?_eq_some_iff.1 hn).1
 have hu:=s.up
 have hz:=s.Ch
 refine db λH1 g1=>?_
 have f1:Fr gz H H1:=g1▸Fr.new H _ _
 have n1:gT H1 (Array.size H) ⟨0,0,eS,eS⟩:=g1▸eV
 have l1:=fe n1
 refine dW (λ_ H'=>H1=H') (dW (λs H'=>s=(false,())/\H1=H') (e8 (by omega) (HH (s.oP f1) ht ⟨by rw[decide_eq_false (by omega)],rfl⟩)) ?_) ?_
 ·rintro _ _ ⟨rfl,rfl⟩
  exact eY rfl rfl
 rintro _ _ rfl
 refine OZ (s.oP f1) ht hn λq H5 s5 f5=>db λH6 g6=>?_
 have f6:Fr gz H5 H6:=g6▸Fr.new H5 _ _
 have z5:=f5.size
 refine o9 (cs:=(pI ⟨0,0,eS,eS⟩).toArray) (g6▸eV) rfl λH7 b7 f7=>?_
 have b7:gT H7 (Array.size H5) n:=b7
 have n7:gT H7 (Array.size H) ⟨0,0,eS,eS⟩:=f7.fv (f6.fv (f5.fv n1 λh=>by rcases h with h|h<;>omega) λh=>h) (by omega)
 refine nW _ _ _ _ _ _ _ _ _ (λj hj=>b7.cell j) (o9 n7 rfl λH8 n8 f8=>?_)
 have n8:gT H8 (Array.size H) n:=n8
 refine nW _ _ _ _ _ _ _ _ _ (λj hj=>n8.cell j) (hR H8 (((s5.oP f6).fy f7 λk(hk:k=Array.size H5)=>by omega).fy f8 λk(hk:k=Array.size H)=>by omega) ?_)
 have FT:Fr (gF gs gw) H H5:=(f1.mono λ_ h=>h.elim).trans f5 λk h=>.inl h
 exact((FT.trans f6 λ_ h=>h.elim).trans f7 λk(hk:k=Array.size H5)=>.inr (by have:=f1.size;omega)).trans f8 λk(hk:k=Array.size H)=>.inr (by omega)
end
end Go.Proofs.iQ
namespace Go.Ex
theorem Oa{i:Nat}(h:i<4):∃n,tR[i]?=some n/\(n.k=2/\n.loc=iT [98]↔i=2)/\(n.k=3↔i=3):=by
 rcases(show i=0\/i=1\/i=2\/i=3 by omega) with rfl|rfl|rfl|rfl
 ·exact⟨_,rfl,by simp,by simp⟩
 ·exact⟨_,rfl,by decide,by decide⟩
 ·exact⟨_,rfl,by simp,by decide⟩
 ·exact⟨_,rfl,by simp,by decide⟩
def nB(p:Nat):Nat:=(p-1)/2
theorem Ep{L:List Nat}{p:Nat}(hp:p<(eI L).length):∃n,(eI L)[p]?=some n/\(tg n=2↔2<=p/\p%2=0)/\(tg n=3↔3<=p/\p%2=1)/\(tg n=3->n.val=iT [120]):=by
 rw[jo] at hp
 rcases p with _|_|p
 ·exact⟨_,rfl,by decide,by decide,by decide⟩
 ·exact⟨_,rfl,by decide,by decide,by decide⟩
 ·have hj:p/2<L.length:=by omega
  have hd:L.drop (p/2)=L[p/2]::L.drop (p/2+1):=List.drop_eq_getElem_cons hj
  obtain⟨h1,h2⟩:=zD hd
  rcases Nat.mod_two_eq_zero_or_one p with e|e
  ·refine⟨_,by rw[show p+1+1=2+2*(p/2) by omega];exact h1,?_⟩
   have ht:tg ⟨2,(L[p/2]:Int)+2,iT [98],eS⟩=2:=by unfold tg;rw[if_neg (by show¬(2:Int)=1;decide),if_neg (by show¬(2:Int)=3;decide),if_neg (by show¬iT [98]=iT [97];decide)]
   rw[ht]
   exact⟨by omega,by omega,by omega⟩
  ·refine⟨_,by rw[show p+1+1=3+2*(p/2) by omega];exact h2,?_⟩
   have ht:tg ⟨3,(L[p/2]:Int)+3,eS,iT [120]⟩=3:=by unfold tg;rw[if_neg (by show¬(3:Int)=1;decide),if_pos rfl]
   rw[ht]
   exact⟨by omega,by omega,λ_=>rfl⟩
theorem Rb(L:List Nat):∀p,p<=(eI L).length->pM ((eI L).map tg) p 2=nB p
 |0,_=>by rw[Ty];rfl
 |p+1,hp=>by
  have ih:=Rb L p (by omega)
  have Ud:p<((eI L).map tg).length:=by rw[List.length_map];omega
  rw[v7 Ud,ih]
  obtain⟨n,hn,h2,_⟩:=Ep (L:=L) (p:=p) (by omega)
  have:((eI L).map tg)[p]=tg n:=by rw[List.getElem_map,(List.getElem?_eq_some_iff.1 hn).2]
  rw[this]
  unfold nB
  by_cases h:tg n=2
  ·have:=h2.1 h
   rw[if_pos (by rw[h];rfl)]
   omega
  ·have:¬(2<=p/\p%2=0):=λhh=>h (h2.2 hh)
   rw[if_neg (by omega)]
   omega
theorem alY(L:List Nat){j:Nat}{x:Int}(h:B5 ((eI L).map tg) 1 ((eI L).length:Int) 2 (j:Int) x):(j<L.length->0<=x)/\(L.length<=j->x<0):=by
 have hl:((eI L).map tg).length=2*L.length+2:=by rw[List.length_map,jo]
 have c1:pM ((eI L).map tg) ((1:Int).toNat) 2=0:=by rw[Rb L _ (by rw[jo];show(1:Nat)<=_;omega)];rfl
 rcases h with⟨i,nN,rfl,e1,e2,e3,e4⟩|⟨rfl,wL⟩
 ·refine⟨λ_=>by omega,λhj=>?_⟩
  rw[c1,Rb L i (by rw[jo];omega)] at e4
  unfold nB at e4
  have vQ:2<=i/\i%2=0:=by
   obtain⟨n,hn,h2,_⟩:=Ep (L:=L) (p:=i) (by rw[jo];omega)
   have:((eI L).map tg)[i]=tg n:=by rw[List.getElem_map,(List.getElem?_eq_some_iff.1 hn).2]
   rw[this] at e1
   exact h2.1 (by omega)
  omega
 ·refine⟨λhj=>?_,λ_=>by omega⟩
  exfalso
  obtain⟨n,hn,h2,_⟩:=Ep (L:=L) (p:=2+2*j) (by rw[jo];omega)
  have:((eI L).map tg)[2+2*j]'(by omega)=tg n:=by rw[List.getElem_map,(List.getElem?_eq_some_iff.1 hn).2]
  refine wL (2+2*j) (by omega) (by rw[this,h2.2 (by omega)];rfl) (by omega) (by rw[jo];omega) ?_
  rw[c1,Rb L _ (by rw[jo];omega)]
  unfold nB
  omega
end Go.Ex
namespace Go.Proofs.iQ
open Go.Ex
theorem O4{H:Heap}{i:Nat}(hi:i<4){n:Nd}(hn:tR[i]?=some n){R:Bool->Heap->Prop}(hR:∀H',Fr gz H H'->R (decide (i=2)) H'):fT.C n.k n.d eS n.loc eS n.val none 0 0 eS (iT [98]) H R:=by
 apply fT.calls
 unfold fT.W
 obtain⟨n',Ow,h2,h3⟩:=Oa hi
 rw[hn] at Ow
 cases Ow
 refine db λH1 h1=>?_
 have f1:Fr gz H H1:=h1▸Fr.new H _ _
 have b1:gT H1 (Array.size H) n:=h1▸eV
 have hR:=hR H1 f1
 refine⟨_,b1.cell 0,ft (λhk=>?_) λhk=>?_⟩
 ·have hk:n.k=2:=hk
  refine e8 (by decide) ⟨_,b1.cell 4,kY rfl (e8 (by decide) ⟨_,b1.cell 3,?_⟩)⟩
  have:(decide (n.loc=iT [98]))=decide (i=2):=by
   by_cases h:n.loc=iT [98]
   ·rw[decide_eq_true h,decide_eq_true (h2.1 ⟨hk,h⟩)]
   ·rw[decide_eq_false h,decide_eq_false λe=>h (h2.2 e).2]
  show R (decide (n.loc=iT [98])) H1
  rw[this];exact hR
 ·have hk:n.k≠2:=hk
  rw[decide_eq_false λe=>hk (h2.2 e).1] at hR
  exact hR
theorem SC{H:Heap}{b gs gw N U:Nat}{t:List Nd}(s:oT H b gs gw N U t){R:Option Addr->Nat->Nat->Heap->Prop}
 (hR:∀p c H',Sl H' gV [.iface gv (.int .i64 2)] p 1 c->Fr gz H H'->(∀k,fw p k->Array.size H<=k)->R p 1 c H'):jf.C (some ⟨b,0,none⟩) eS (iT [98]) H R:=by
 apply jf.calls
 unfold jf.W
 obtain⟨gp,ga,np,nc,h1,h2,_⟩:=s.fv
 have nil:∀i,¬fw none i:=λi⟨_,h,_⟩=>by cases h
 refine dW (λs H'=>∃p c,s=((p,1,c),())/\Sl H' gV [.iface gv (.int .i64 2)] p 1 c/\Fr gz H H'/\∀k,fw p k->Array.size H<=k) ⟨_,rfl,_,_,_,(dh h1 0 3).trans rfl,?_⟩ ?_
 ·refine fJ (λm s H'=>∃(i:Nat)(p:Option Addr)(l c:Nat),i<=4/\m=4-i/\s=((p,l,c),(i:Int),())/\Sl H' gV (if i<=2 then[] else[.iface gv (.int .i64 2)]) p l c/\Fr gz H H'/\∀k,fw p k->Array.size H<=k) 4 ⟨0,none,0,0,by omega,rfl,rfl,Sl.nil _ _,Fr.refl _ _,λk hk=>absurd hk (nil k)⟩ ?_
  rintro m _ H2 ⟨i,p,l,c,hi,rfl,rfl,s2,f2,hp⟩
  refine ft (λlC=>?_) λiG=>?_
  ·have lC:i<4:=by have lC:(i:Int)<((4:Nat):Int):=lC;omega
   obtain⟨n,hn,_⟩:=Oa lC
   refine dW (λs H'=>∃(p:Option Addr)(l c:Nat),s=((p,l,c),())/\Sl H' gV (if i+1<=2 then[] else[.iface gv (.int .i64 2)]) p l c/\Fr gz H H'/\∀k,fw p k->Array.size H<=k) ?_ ?_
   ·refine zg (h2.oP f2) hn (db λH4 g4=>?_)
    have f4:Fr gz H2 H4:=g4▸Fr.new H2 _ _
    refine o9 (cs:=(pI ⟨0,0,eS,eS⟩).toArray) (g4▸eV) rfl λH5 b5 f5=>?_
    have b5:gT H5 (Array.size H2) n:=b5
    have f25:Fr gz H2 H5:=f4.fresh f5 λi hi=>by omega
    refine nW _ _ _ _ _ _ _ _ _ (λj hj=>b5.cell j) (O4 lC hn λH6 f6=>?_)
    have f26:=f25.eZ f6
    have s6:=s2.fy f26 λ_ _ h=>h
    have Mm:=f2.eZ f26
    by_cases h:i=2
    ·subst h
     refine iR rfl (zN (v:=.iface gv (.int .i64 2)) s6 rfl ⟨by simp,by simp⟩ ?_ (by decide) λp' c' H8 s8 f8 Uc=>⟨p',l+1,c',rfl,s8,Mm.fresh f8 hp,λk hk=>?_⟩)
     ·have BJ:l=0:=by have:=s2.1;simpa using this.symm
      show(l+1)*16<=140737488355328
      omega
     ·rcases Uc k hk with hh|hh
      ·exact hp k hh
      ·have:=Mm.size;omega
    ·refine eY (by rw[decide_eq_false h]) ⟨p,l,c,rfl,?_,Mm,hp⟩
     by_cases h3:i<=2
     ·rw[if_pos h3] at s6
      rw[if_pos (by omega)]
      exact s6
     ·rw[if_neg h3] at s6
      rw[if_neg (by omega)]
      exact s6
   ·rintro _ H3 ⟨p,l,c,rfl,s3,f3,KR⟩
    have:IntKind.i64.wrap ((i:Int)+1)=((i+1:Nat):Int):=by rw[dM (by omega) (by omega)];omega
    exact⟨4-(i+1),by omega,i+1,p,l,c,by omega,rfl,by rw[<-this],s3,f3,KR⟩
  ·have iG:i=4:=by have iG:¬(i:Int)<((4:Nat):Int):=iG;omega
   subst iG
   have u3:l=1:=by have:=s2.1;simpa using this.symm
   subst u3
   exact⟨p,c,rfl,s2,f2,hp⟩
 ·rintro _ H1 ⟨p,c,rfl,s1,f1,qD⟩
  exact hR p c H1 s1 f1 qD
theorem TP{H:Heap}{xs:List Int}{p:Option Addr}{l c:Nat}(s:Sl H gv (wJ xs) p l c)(hl:0<l)(hb:l<=1000000){R:Heap->Prop}(hR:∀H',Fr (fw p) H H'->R H'):pq.C p l c H R:=by
 intro w hw
 subst hw
 have He:xs.length=l:=by have:=s.1;simpa using this
 rcases s.2 with⟨_,h0,_⟩|⟨b,cs,rfl,sC,pg,qX,xW⟩
 ·omega
 subst He
 refine(Tryz.slices_Sort_int b 0 c xs w (λj hj=>⟨?_,?_⟩) (fe sC) (by omega)).mono λe w'⟨h1,n,os,h2⟩=>?_
 ·have hj:j<xs.length:=by simpa using hj
  rw[kA,<-iM,dh sC,Nat.zero_add,xW j hj,List.getElem?_map,List.getElem?_eq_getElem hj]
  simp[hj]
 ·have:=qJ sC (0+j)
  exact this
 ·subst h2
  refine⟨_,h1,⟨rfl,rfl,rfl⟩,rfl,hR _ ⟨?_,λk hk hn=>?_⟩⟩
  ·show Array.size w.heap<=Array.size (Array.modify w.heap b _++os)
   rw[Array.size_append,Array.size_modify];omega
  ·show(Array.modify w.heap b _++os)[k]?=w.heap[k]?
   rw[Array.getElem?_append_left (by rw[Array.size_modify];exact hk),Array.getElem?_modify,if_neg λe=>hn ⟨_,rfl,e⟩]
end Go.Proofs.iQ
namespace Go.Proofs.iQ
open Go.Ex
theorem Pf{H:Heap}{b gs gw N U:Nat}{L:List Nat}(s:oT H b gs gw N U (eI L))(ht:kZ (eI L))(hZ:L≠[]){R:Option Addr->Nat->Nat->Int->Heap->Prop}
 (hR:∀p c H',oT H' b gs gw N U (eI L)->Fr (gF gs gw) H H'->R p L.length c 0 H'):fm.C (some ⟨b,0,none⟩) 0 eS (iT [98]) H R:=by
 apply fm.calls
 unfold fm.W
 have hlen:=ht.len
 have RX:=jo L
 have hz:=s.Ch
 have hu:=s.up
 have hL0:0<L.length:=List.length_pos_iff.2 hZ
 have nil:∀i,¬fw none i:=λi⟨_,h,_⟩=>by cases h
 refine eY rfl (MS s ht (i:=0) ht.head λH1 s1 f1=>eY rfl ?_)
 apply iw.calls
 unfold iw.W
 refine FK s1 ht λH2 s2 f2=>db λx hx=>db λy hy=>?_
 have hx:x=1:=hx.trans (dM (by decide) (by decide))
 have hy:y=((eI L).length:Int):=by rw[hy,dM (by omega) (by omega)];omega
 subst hx hy
 have sX:=f1.trans f2 λk h=>.inl h
 have z2:=sX.size
 have ng:∀{k:Nat},Array.size H<=k->¬gF gs gw k:=λhk h=>by rcases h with rfl|rfl<;>omega
 refine dW (λq H'=>∃(p:Option Addr)(c:Nat)(xs:List Int),q=((p,L.length,c),())/\Sl H' gv (wJ xs) p L.length c/\oT H' b gs gw N U (eI L)/\Fr (gF gs gw) H H'/\∀k,fw p k->Array.size H<=k) (SC s2 λtp tc H4 t4 f4 tn4=>?_) ?_
 ·have oA:=sX.trans f4 λ_ h=>h.elim
  refine fJ (λm q H'=>∃(p:Option Addr)(l c:Nat)(xs:List Int),m<=1/\q=((p,l,c),((1-m:Nat):Int),())/\Sl H' gv (wJ xs) p l c/\l=(if m=0 then L.length else 0)/\Sl H' gV [.iface gv (.int .i64 2)] tp 1 tc/\oT H' b gs gw N U (eI L)/\Fr (gF gs gw) H H'/\∀k,fw p k->Array.size H<=k) 1 ⟨none,0,0,[],by omega,rfl,Sl.nil _ _,rfl,t4,s2.oP f4,oA,λk hk=>absurd hk (nil k)⟩ ?_
  rintro m _ H5 ⟨p,l,c,xs,hm,rfl,s5,hl,t5,d5,f5,KQ⟩
  rcases(show m=0\/m=1 by omega) with rfl|rfl
  ·rw[if_pos rfl] at hl
   subst hl
   exact e8 (by show¬((1-0:Nat):Int)<((1:Nat):Int);omega) ⟨p,c,xs,rfl,s5,d5,f5,KQ⟩
  ·rw[if_neg (by omega)] at hl
   subst hl
   refine kY (by show((1-1:Nat):Int)<((1:Nat):Int);omega) (dW (λq H'=>∃(p:Option Addr)(c:Nat)(xs:List Int),q=((p,L.length,c),())/\Sl H' gv (wJ xs) p L.length c/\Sl H' gV [.iface gv (.int .i64 2)] tp 1 tc/\oT H' b gs gw N U (eI L)/\Fr (gF gs gw) H H'/\∀k,fw p k->Array.size H<=k) ?_ ?_)
   ·obtain⟨a,ha,hc⟩:=t5.rd.get (i:=0) (v:=.iface gv (.int .i64 2)) rfl
    refine⟨a,ha,by show(0:Int)<=((1-1:Nat):Int);omega,by show((1-1:Nat):Int)<((1:Nat):Int);omega,_,hc,2,true,.inl ⟨rfl,rfl⟩,?_⟩
    have ap7:xs=[]:=by have:=s5.1;simpa using this
    subst ap7
    refine fJ (λm q H'=>∃(p:Option Addr)(j c:Nat)(xs:List Int),j<=L.length/\m=L.length-j/\q=((p,j,c),(j:Int),())/\Sl H' gv (wJ xs) p j c/\Sl H' gV [.iface gv (.int .i64 2)] tp 1 tc/\oT H' b gs gw N U (eI L)/\Fr (gF gs gw) H H'/\∀k,fw p k->Array.size H<=k) L.length ⟨p,0,c,[],by omega,rfl,rfl,s5,t5,d5,f5,KQ⟩ ?_
    rintro m _ H7 ⟨p,j,c,xs,hj,rfl,rfl,s7,t7,d7,f7,D4⟩
    obtain⟨gp,ga,np,nc,h1,_⟩:=d7.fv
    obtain⟨W,w,hW⟩:=d7.wb
    refine iR rfl ⟨_,rfl,_,(dh h1 0 1).trans rfl,MP w d7.Z0 d7.nd.2.1 1 _ 2 _ λx H8 hx w8 f8=>?_⟩
    have V5:=alY L hx
    have d8:=d7.agC hW w8 f8
    have ta:=f7.trans f8 λk h=>.inl (.inr h)
    have z8:=ta.size
    have t8:=t7.fy f8 λk hk e=>by have:=tn4 k hk;omega
    have s8:=s7.fy f8 λk hk e=>by have:=D4 k hk;omega
    refine ft (λadF=>?_) λzr=>?_
    ·have adF:x<0:=adF
     obtain rfl:j=L.length:=by
      rcases Nat.lt_or_ge j L.length with h|h
      ·have:=V5.1 h;omega
      ·omega
     exact⟨p,c,xs,rfl,s8,t8,d8,ta,D4⟩
    ·have zr:¬x<0:=zr
     have yC:j<L.length:=by
      rcases Nat.lt_or_ge j L.length with h|h
      ·exact h
      ·exact absurd (V5.2 h) zr
     refine zN (v:=.int .i64 x) s8 rfl ⟨by simp,by simp⟩ (by show(j+1)*8<=140737488355328;omega) (by decide) λp' c' de vD f10 ahu=>db λk hk=>⟨L.length-(j+1),by omega,p',j+1,c',xs++[x],by omega,rfl,?_,by rw[wJ,List.map_append];exact vD,?_,d8.fy f10 λk hk=>by have:=D4 k hk;omega,ta.trans f10 λk hk=>.inr (D4 k hk),λk hk=>?_⟩
     ·have hk:k=IntKind.i64.wrap ((j:Int)+1):=hk
      rw[hk,dM (by omega) (by omega)]
      rfl
     ·exact t8.fy f10 λk hk hh=>by obtain⟨_,h'⟩:=t8.ty hk;obtain⟨_,sU⟩:=s8.ty hh;exact oR h' sU (by decide)
     ·rcases ahu k hk with hh|hh
      ·exact D4 k hh
      ·omega
   ·rintro _ H6 ⟨p,c,xs,rfl,s6,t6,d6,f6,KO⟩
    exact⟨0,by omega,p,L.length,c,xs,by omega,rfl,s6,rfl,t6,d6,f6,KO⟩
 ·rintro _ H3 ⟨p,c,xs,rfl,s3,d3,f3,KR⟩
  exact TP s3 hL0 (by omega) λfg f11=>hR p c fg (d3.fy f11 λk hk=>by have:=KR k hk;omega) (f3.trans f11 λk hk=>.inr (KR k hk))
end Go.Proofs.iQ
namespace Go.Proofs.iQ
open Go.Ex
theorem SB{H:Heap}{b gs gw N U:Nat}{L:List Nat}(s:oT H b gs gw N U (eI L))(ht:kZ (eI L))(hZ:L≠[]){R:ByteArray->Heap->Prop}
 (hR:∀H',oT H' b gs gw N U (eI L)->Fr (gF gs gw) H H'->R (iT (List.replicate L.length 120)) H'):fi.C (some ⟨b,0,none⟩) 0 H R:=by
 apply fi.calls
 unfold fi.W
 have hlen:=ht.len
 have RX:=jo L
 have hz:=s.Ch
 have hu:=s.up
 have ng:∀{k:Nat},Array.size H<=k->¬gF gs gw k:=λhk h=>by rcases h with rfl|rfl<;>omega
 refine HF s ht (i:=0) ht.head λH1 s1 f1=>db λH2 g2=>?_
 have f2:Fr gz H1 H2:=g2▸Fr.new H1 _ _
 have z1:=f1.size
 refine o9 (cs:=(pI ⟨0,0,eS,eS⟩).toArray) (g2▸eV) rfl λH3 b3 f3=>?_
 have b3:gT H3 (Array.size H1) Mu:=b3
 have f13:Fr gz H1 H3:=f2.fresh f3 λi hi=>by omega
 have s3:=s1.oP f13
 have xX:=f1.trans f13 λ_ h=>h.elim
 refine dW (λ_ H'=>H3=H') (dW (λq H'=>q=(false,())/\H3=H') ⟨_,b3.cell 0,e8 (λh=>h rfl) ⟨rfl,rfl⟩⟩ ?_) ?_
 ·rintro _ _ ⟨rfl,rfl⟩
  exact eY rfl rfl
 rintro _ _ rfl
 refine db λH6 g6=>?_
 have f6:Fr gz H3 H6:=g6▸Fr.new H3 _ _
 have w6:H6[Array.size H3]?=some (.cells #[.pointer none,.slice none 0 0] lz (0,0)):=g6▸eV
 have z3:=xX.size
 have Sk:Array.size H<=Array.size H3:=z3
 generalize hB:Array.size H3=B at*
 have nil:∀i,¬fw none i:=λi⟨_,h,_⟩=>by cases h
 refine dW (λ_ H'=>∃(q:Option Addr)(bp:Option Addr)(bl bc:Nat),H'[B]?=some (.cells #[.pointer q,.slice bp bl bc] lz (0,0))/\(q=none\/q=some ⟨B,0,none⟩)/\Sl H' iD (zJ (List.replicate L.length 120)) bp bl bc/\(∀k,fw bp k->Array.size H<=k)/\oT H' b gs gw N U (eI L)/\Fr (gF gs gw) H H'/\B<Array.size H') (db λp0 J1=>?_) ?_
 ·have J1:p0=1:=J1.trans (dM (by decide) (by decide))
  subst J1
  refine fJ (λm s H'=>∃(p:Nat)(q:Option Addr)(bp:Option Addr)(bl bc:Nat),1<=p/\p<=(eI L).length/\m=(eI L).length-p/\s=((p:Int),())/\H'[B]?=some (.cells #[.pointer q,.slice bp bl bc] lz (0,0))/\(q=none\/q=some ⟨B,0,none⟩)/\Sl H' iD (zJ (List.replicate ((p-2)/2) 120)) bp bl bc/\(∀k,fw bp k->Array.size H<=k)/\oT H' b gs gw N U (eI L)/\Fr (gF gs gw) H H') ((eI L).length-1)
   ⟨1,none,none,0,0,by omega,by omega,rfl,rfl,w6,.inl rfl,Sl.nil _ _,λk hk=>absurd hk (nil k),s3.oP f6,xX.trans f6 λ_ h=>h.elim⟩ ?_
  rintro m _ H8 ⟨p,q,bp,bl,bc,qD,uI,rfl,rfl,w8,hq,u8,QS,d8,f8⟩
  refine FK d8 ht λH9 d9 f9=>?_
  have Ml:=f8.trans f9 λk h=>.inl h
  have w9:=f9.fv w8 (ng Sk)
  have u9:=u8.fy f9 λk hk=>ng (QS k hk)
  have ec:IntKind.i64.wrap (0+((eI L).length:Int))=((eI L).length:Int):=by rw[dM (by omega) (by omega)];omega
  rw[ec]
  refine ft (λlC=>?_) λiG=>?_
  ·have lC:p<(eI L).length:=by have lC:(p:Int)<((eI L).length:Int):=lC;omega
   obtain⟨n,hn,h2,h3,hv⟩:=Ep lC
   have Ua:=Eo n
   refine dW (λ_ H'=>∃(q:Option Addr)(bp:Option Addr)(bl bc:Nat),H'[B]?=some (.cells #[.pointer q,.slice bp bl bc] lz (0,0))/\(q=none\/q=some ⟨B,0,none⟩)/\Sl H' iD (zJ (List.replicate ((p+1-2)/2) 120)) bp bl bc/\(∀k,fw bp k->Array.size H<=k)/\oT H' b gs gw N U (eI L)/\Fr (gF gs gw) H H') ?_ ?_
   ·obtain⟨gp,ga,np,nc,h1,_⟩:=d9.fv
    obtain⟨W,w,hW⟩:=d9.wb
    refine⟨_,rfl,_,(dh h1 0 1).trans rfl,B3 w _ (λi' nN fg e Pw f11=>?_) λho=>by rw[List.length_map] at ho;omega⟩
    obtain rfl:p=i':=by omega
    have T5:((eI L).map tg)[p]=tg n:=by rw[List.getElem_map,(List.getElem?_eq_some_iff.1 hn).2]
    rw[T5]
    have d11:=d9.agC hW Pw f11
    have aik:Fr (gF gs gw) H9 fg:=f11.mono λk h=>.inr h
    have Bk:=Ml.trans aik λk h=>.inl h
    have agE:=aik.fv w9 (ng Sk)
    have T4:=u9.fy aik λk hk=>ng (QS k hk)
    obtain⟨gp,ga,np,nc,h1,hnm,amG,_⟩:=d11.fv
    obtain⟨nn,qE,_,Ue⟩:=Oa Ua
    obtain⟨a,ha,hc⟩:=(zh hnm).2 _ nn qE
    refine⟨_,rfl,_,_,_,(dh h1 0 3).trans rfl,a,ha,by omega,by show((tg n:Nat):Int)<((4:Nat):Int);omega,_,by rw[Int.toNat_natCast];exact hc 0 (by omega),?_⟩
    refine ft (λhk=>?_) λhk=>?_
    ·have hk:nn.k=3:=hk
     have VZ:=Ue.1 hk
     have amL:=h3.1 VZ
     have xw:=hv VZ
     refine⟨_,rfl,_,(dh h1 0 2).trans rfl,rY amG.agY d11.Z0 _ (λi' nN fZ e f12=>?_) λho=>by rw[List.length_map] at ho;omega⟩
     obtain rfl:p=i':=by omega
     have ev:((eI L).map Nd.val)[p]=iT [120]:=by rw[List.getElem_map,(List.getElem?_eq_some_iff.1 hn).2,xw]
     rw[ev]
     have nB:¬fw bp B:=λhh=>by obtain⟨_,h'⟩:=T4.ty hh;exact oR h' agE (by decide)
     refine oG (f12.fv agE λh=>h) OM (o:=0) rfl hq rfl (T4.fy f12 λ_ _ h=>h) nB [120] (by simp;omega) λn1 v1 p' l' c' gS w13 A0 apq asl Mk=>⟨some ⟨B,0,none⟩,p',l',c',?_,.inr rfl,?_,λk hk=>?_,(d11.oP f12).fy Mk λk hk=>?_,(Bk.trans f12 λ_ h=>h.elim).trans Mk λk hk=>.inr ?_⟩
     ·rw[w13];simp
     ·have:List.replicate ((p+1-2)/2) (120:UInt8)=List.replicate ((p-2)/2) 120++[120]:=by
       rw[show(p+1-2)/2=(p-2)/2+1 by omega,List.replicate_succ']
      rw[this];exact A0
     ·rcases apq k hk with hh|hh
      ·exact QS k hh
      ·have:=Bk.size;have:=f12.size;omega
     ·rcases hk with rfl|hk
      ·omega
      ·have:=QS k hk;omega
     ·rcases hk with rfl|hk
      ·exact Sk
      ·exact QS k hk
    ·have hk:nn.k≠3:=hk
     have ar4:¬(3<=p/\p%2=1):=λhh=>hk (Ue.2 (h3.2 hh))
     exact⟨q,bp,bl,bc,agE,hq,by rw[show(p+1-2)/2=(p-2)/2 by omega];exact T4,QS,d11,Bk⟩
   ·rintro _ de ⟨q,bp,bl,bc,Ss,hq,DI,aqR,d10,f10⟩
    refine db λk hk=>⟨(eI L).length-(p+1),by omega,p+1,q,bp,bl,bc,by omega,by omega,rfl,?_,Ss,hq,DI,aqR,d10,f10⟩
    have hk:k=IntKind.i64.wrap ((p:Int)+1):=hk
    rw[hk,dM (by omega) (by omega)]
    rfl
  ·have iG:p=(eI L).length:=by have iG:¬(p:Int)<((eI L).length:Int):=iG;omega
   have e:(p-2)/2=L.length:=by omega
   rw[e] at u9
   exact⟨q,bp,bl,bc,w9,hq,u9,QS,d9,Ml,fe w9⟩
 ·rintro _ H7 ⟨q,bp,bl,bc,w7,hq,u7,Za,d7,f7,_⟩
  have sq:L.length=bl:=by have:=u7.1;rw[tI,List.length_replicate] at this;exact this
  have pK:=u7.cap
  have:=List.length_pos_iff.2 hZ
  refine rE w7 (o:=0) rfl u7 (λ_=>by omega) (by simp;omega) λgK f14=>hR gK (d7.fy f14 λk hk=>by have:=Za k hk;omega) (f7.trans f14 λk hk=>.inr (Za k hk))
end Go.Proofs.iQ
namespace Go.Proofs.iQ
open Go.Ex
theorem TN{H:Heap}(s:ByteArray){R:Int->Int->Option Addr->Nat->Nat->Option Addr->Nat->Nat->Heap->Prop}
 (hR:∀q H',H'[q]?=some (.cells #[.string s] dZ (0,0))->Array.size H<=q->Fr gz H H'->R 0 0 (some ⟨q,0,none⟩) 1 1 none 0 0 H'):eo.C s true H R:=by
 apply eo.calls
 unfold eo.W
 refine db λH1 h1=>eY rfl (db λH2 h2=>?_)
 have f1:Fr gz H H1:=h1▸Fr.new H _ _
 have f2:Fr gz H1 H2:=h2▸Fr.new H1 _ _
 have b1:H1[Array.size H]?=some (.cells #[.int .i64 0,.int .i64 0,.slice none 0 0,.slice none 0 0] fq (0,0)):=h1▸eV
 have b2:H2[Array.size H1]?=some (.cells #[.string s] dZ (0,0)):=h2▸eV
 have l1:=fe b1
 refine o9 (f2.fv b1 λh=>h) rfl λH3 b3 f3=>?_
 refine xr _ _ _ _ _ _ _ _ (λj hj=>by rw[dh b3,Nat.zero_add];simp) (hR (Array.size H1) H3 (f3.fv b2 (by omega)) (by omega) ((f1.eZ f2).fresh f3 λi hi=>by omega))
def rL(k f j:Nat):MapEntry:={key:=.int .i64 (k:Int),val:=.iface ja (.func (.func f) #[] #[]),born:=j}
theorem NB(k:Nat)(h:k=5\/k=6\/k=7\/k=8\/k=9\/k=17)(em)(w:World):(Instr.checkKey em 10000 gv (.int .i64 (k:Int))).run Tryz.prog w=.ok () w:=by
 rcases h with rfl|rfl|rfl|rfl|rfl|rfl<;>kernel_rfl
theorem apn(w:World):(Instr.findKey gv (.int .i64 5) (#[]:Array MapEntry).toList).run Tryz.prog w=.ok none w:=by kernel_rfl
theorem apm(w:World):(Instr.findKey gv (.int .i64 6) (#[rL 5 147 0]:Array MapEntry).toList).run Tryz.prog w=.ok none w:=by kernel_rfl
theorem apl(w:World):(Instr.findKey gv (.int .i64 7) (#[rL 5 147 0,rL 6 164 1]:Array MapEntry).toList).run Tryz.prog w=.ok none w:=by kernel_rfl
theorem apk(w:World):(Instr.findKey gv (.int .i64 8) (#[rL 5 147 0,rL 6 164 1,rL 7 165 2]:Array MapEntry).toList).run Tryz.prog w=.ok none w:=by kernel_rfl
theorem apj(w:World):(Instr.findKey gv (.int .i64 9) (#[rL 5 147 0,rL 6 164 1,rL 7 165 2,rL 8 152 3]:Array MapEntry).toList).run Tryz.prog w=.ok none w:=by kernel_rfl
theorem alz(w:World):(Instr.findKey gv (.int .i64 17) (#[rL 5 147 0,rL 6 164 1,rL 7 165 2,rL 8 152 3,rL 9 153 4]:Array MapEntry).toList).run Tryz.prog w=.ok none w:=by kernel_rfl
theorem alC(w:World):(Instr.findKey gv (.int .i64 17) (#[rL 5 147 0,rL 6 164 1,rL 7 165 2,rL 8 152 3,rL 9 153 4,rL 17 166 5]:Array MapEntry).toList).run Tryz.prog w=.ok (some (5,.iface ja (.func (.func 166) #[] #[]))) w:=by kernel_rfl
theorem MC{H:Heap}{d:Option Addr}{i:Int}{K:Value->Heap->Prop}(h:jg.C d i H λr H'=>K (.int .i64 r) H'):MD Tryz.prog (.func (.func 166) #[] #[]) [.pointer d,.int .i64 i] H K:=by
 have e:MD Tryz.prog (.func (.func 166) #[] #[]) [.pointer d,.int .i64 i] H K=Ex.Fn Tryz.prog 166 #[.pointer d,.int .i64 i] H λv H'=>∃n:Int,v=.int .i64 n/\K (.int .i64 n) H':=by kernel_rfl
 rw[e]
 exact h
theorem Iq{v:Value}{b o:Nat}{H:Heap}{cs:Array Value}{t:TypeId}{K:Heap->Prop}(hb:H[b]?=some (.cells cs t (0,0)))(ho:o<cs.size)
 (h:∀H',H'[b]?=some (.cells (cs.setIfInBounds o v) t (0,0))->Fr (λk=>k=b) H H'->K H'):
 (∃u,dj H ((⟨b,0,none⟩:Addr).add o)=some u)/\gO H ((⟨b,0,none⟩:Addr).add o)=false/\eX (nQ H ((⟨b,0,none⟩:Addr).add o) v) K:=AY hb ho h
theorem NA{H:Heap}{b gs gw N U:Nat}{t:List Nd}(s:oT H b gs gw N U t)(ht:kZ t){i:Nat}{n:Nd}(hn:t[i]?=some n){c2:Int}{c3 c4:ByteArray}{R:Int->Int->Option Addr->Nat->Nat->Option Addr->Nat->Nat->Heap->Prop}
 (hR:∀H',oT H' b gs gw N U t->Fr (gF gs gw) H H'->R 0 n.d none 0 0 none 0 0 H'):eA.C (some ⟨b,0,none⟩) 17 (i:Int) c2 c3 c4 H R:=by
 apply eA.calls
 unfold eA.W
 have hu:=s.up
 have hz:=s.Ch
 refine db λH1 h1=>db λH2 h2=>db λH3 h3=>?_
 have f1:Fr gz H H1:=h1▸Fr.new H _ _
 have f2:Fr gz H1 H2:=h2▸Fr.new H1 _ _
 have f3:Fr gz H2 H3:=h3▸Fr.push _ _
 have b1:H1[Array.size H]?=some (.cells #[.int .i64 17,.int .i64 i,.int .i64 c2,.string c3,.string c4] kj (0,0)):=h1▸eV
 have b2:H2[Array.size H1]?=some (.cells #[.int .i64 0,.int .i64 0,.slice none 0 0,.slice none 0 0] fq (0,0)):=h2▸eV
 have m3:H3[Array.size H2]?=some (.map #[] 0):=h3▸kE _ _
 have l1:=fe b1
 have l2:=fe b2
 have l3:=fe m3
 have xX:=(f1.eZ f2).eZ f3
 generalize hM:Array.size H2=M at*
 have st:∀{H' mK:Heap}{es:Array MapEntry}{ck:Nat},M<Array.size H'->mK=Array.setIfInBounds H' M (.map es ck)->mK[M]?=some (.map es ck)/\Fr (λk=>k=M) H' mK/\M<Array.size mK:=λhl e=>⟨e▸mn hl _,e▸Fr.uO _ _ _,by rw[e,Array.size_setIfInBounds];exact hl⟩
 refine⟨#[],0,m3,NB 5 (by simp),apn,db λH4 h4=>?_⟩
 obtain⟨m4,f4,l4⟩:=st l3 h4
 refine⟨_,_,m4,NB 6 (by simp),apm,db λH5 h5=>?_⟩
 obtain⟨m5,f5,l5⟩:=st l4 h5
 refine⟨_,_,m5,NB 7 (by simp),apl,db λH6 h6=>?_⟩
 obtain⟨m6,f6,l6⟩:=st l5 h6
 refine⟨_,_,m6,NB 8 (by simp),apk,db λH7 h7=>?_⟩
 obtain⟨m7,f7,l7⟩:=st l6 h7
 refine⟨_,_,m7,NB 9 (by simp),apj,db λH8 h8=>?_⟩
 obtain⟨m8,f8,l8⟩:=st l7 h8
 refine⟨_,_,m8,NB 17 (by simp),alz,db λH9 h9=>?_⟩
 obtain⟨m9,f9,l9⟩:=st l8 h9
 have f39:Fr (λk=>k=M) H3 H9:=((((f4.trans f5 λk h=>.inl h).trans f6 λk h=>.inl h).trans f7 λk h=>.inl h).trans f8 λk h=>.inl h).trans f9 λk h=>.inl h
 have hMN:Array.size H<=M:=by omega
 have s9:=(s.oP xX).fy f39 λk hk=>by omega
 have Ml:Fr gz H H9:=xX.fresh f39 λk hk=>by omega
 have b9:=f39.fv (f3.fv (f2.fv b1 λh=>h) λh=>h) (by omega)
 have a9:=f39.fv (f3.fv b2 λh=>h) (by omega)
 refine⟨_,(dh b9 0 0).trans rfl,_,_,_,m9,NB 17 (by simp),alC,_,rfl,_,true,.inl ⟨rfl,rfl⟩,eY rfl ⟨_,(dh b9 0 1).trans rfl,MC (MU s9 ht hn λde vD f10=>?_)⟩⟩
 have ng:∀{k:Nat},Array.size H<=k->¬gF gs gw k:=λhk h=>by rcases h with rfl|rfl<;>omega
 have a10:=f10.fv a9 (ng (by omega))
 have ail:=(Ml.mono (G:=gF gs gw) λ_ h=>h.elim).trans f10 λk h=>.inl h
 have g:∀{H' mK:Heap},Fr (gF gs gw) H H'->Fr (λk=>k=Array.size H1) H' mK->Fr (gF gs gw) H mK:=λf f'=>f.trans f' λk hk=>.inr (by omega)
 refine IU (λc h=>by cases h) (λc h=>by cases h) (Iq (o:=0) a10 (by simp) λfZ a12 f12=>IU (λc h=>by cases h) (λc h=>by cases h) (Iq (o:=1) a12 (by simp) λgS a13 f13=>Iq (o:=2) a13 (by simp) λgK a14 f14=>Iq (o:=3) a14 (by simp) λjY a15 f15=>?_))
 have sk:∀{H' mK:Heap},oT H' b gs gw N U t->Fr (λk=>k=Array.size H1) H' mK->oT mK b gs gw N U t:=λs f=>s.fy f λk hk=>by omega
 refine xr 0 n.d none 0 0 none 0 0 (λj hj=>?_) (hR jY (sk (sk (sk (sk vD f12) f13) f14) f15) (g (g (g (g ail f12) f13) f14) f15))
 rw[dh a15,Nat.zero_add]
 rcases j with _|_|_|_|j<;>first|simp|omega
end Go.Proofs.iQ
namespace Go.Proofs.iQ
open Go.Ex
def TH(a b:Int)(p:Option Addr)(l c:Nat)(q:Option Addr)(m d:Nat):List Value:=[.int .i64 a,.int .i64 b,.slice p l c,.slice q m d]
abbrev Kd(H:Heap)(x:Nat)(a b:Int)(p:Option Addr)(l c:Nat)(q:Option Addr)(m d:Nat):Prop:=H[x]?=some (.cells (TH a b p l c q m d).toArray fq (0,0))
theorem Kd.ld{H:Heap}{x:Nat}{a b:Int}{p:Option Addr}{l c:Nat}{q:Option Addr}{m d:Nat}(h:Kd H x a b p l c q m d){K:Int->Int->Option Addr->Nat->Nat->Option Addr->Nat->Nat->Prop}(hk:K a b p l c q m d):nu H ⟨x,0,none⟩ K:=
 xr _ _ _ _ _ _ _ _ (λj hj=>by rw[dh h,Nat.zero_add];simp[TH]) hk
theorem Kd.cell{H:Heap}{x:Nat}{a b:Int}{p:Option Addr}{l c:Nat}{q:Option Addr}{m d:Nat}(h:Kd H x a b p l c q m d)(j:Nat):dj H ((⟨x,0,none⟩:Addr).add j)=(TH a b p l c q m d)[j]?:=by
 rw[dh h,Nat.zero_add];simp
section
variable {b gs gw N U:Nat} {t:List Nd}
theorem Fv{H:Heap}(s:oT H b gs gw N U t)(ht:kZ t){i:Nat}{n:Nd}(hn:t[i]?=some n)(kd c2:Int)(c3 c4:ByteArray){R:Int->Int->Option Addr->Nat->Nat->Option Addr->Nat->Nat->Heap->Prop}
 (P:Int->Int->Option Addr->Nat->Nat->Option Addr->Nat->Nat->Heap->Prop)
 (hP:(kd=11/\∀H1,oT H1 b gs gw N U t->Array.size H+2<=Array.size H1->fm.C (some ⟨b,0,none⟩) (i:Int) c3 c4 H1 λp l c e H'=>oT H' b gs gw N U t/\Fr (gF gs gw) H1 H'/\P e 0 none 0 0 p l c H')\/
  (kd=14/\∀H1,oT H1 b gs gw N U t->Array.size H+2<=Array.size H1->fi.C (some ⟨b,0,none⟩) (i:Int) H1 λs H2=>eo.C s true H2 λe m p l c q k d H'=>oT H' b gs gw N U t/\Fr (gF gs gw) H1 H'/\P e m p l c q k d H')\/
  (kd=17/\∀H1,oT H1 b gs gw N U t->Array.size H+2<=Array.size H1->eA.C (some ⟨b,0,none⟩) 17 (i:Int) c2 c3 c4 H1 λe m p l c q k d H'=>oT H' b gs gw N U t/\Fr (gF gs gw) H1 H'/\P e m p l c q k d H'))
 (sT:∀e m p l c q k d H1 H2,P e m p l c q k d H1->Fr (λk=>k=Array.size H+1) H1 H2->P e m p l c q k d H2)
 (hR:∀e m p l c q k d H',oT H' b gs gw N U t->Fr (gF gs gw) H H'->P e m p l c q k d H'->R e m p l c q k d H'):jJ.C (some ⟨b,0,none⟩) kd (i:Int) c2 c3 c4 H R:=by
 apply jJ.calls
 unfold jJ.W
 have hu:=s.up
 have hz:=s.Ch
 refine db λH1 h1=>db λH2 h2=>?_
 have f1:Fr gz H H1:=h1▸Fr.new H _ _
 have f2:Fr gz H1 H2:=h2▸Fr.new H1 _ _
 have b1:H1[Array.size H]?=some (.cells #[.int .i64 kd,.int .i64 i,.int .i64 c2,.string c3,.string c4] kj (0,0)):=h1▸eV
 have a2:Kd H2 (Array.size H1) 0 0 none 0 0 none 0 0:=h2▸eV
 have l1:Array.size H1=Array.size H+1:=h1▸gC
 have l2:=fe a2
 have ng:∀{k:Nat},Array.size H<=k->¬gF gs gw k:=λhk h=>by rcases h with rfl|rfl<;>omega
 have b2:=f2.fv b1 λh=>h
 refine⟨_,(dh b2 0 1).trans rfl,HF ((s.oP f1).oP f2) ht hn λH3 s3 f3=>db λH4 h4=>?_⟩
 have f4:Fr gz H3 H4:=h4▸Fr.new H3 _ _
 have z3:=f3.size
 refine o9 (cs:=(pI ⟨0,0,eS,eS⟩).toArray) (h4▸eV) rfl λH5 n5 f5=>?_
 have f35:Fr gz H3 H5:=f4.fresh f5 λi hi=>by omega
 have s5:=s3.oP f35
 have FT:Fr (gF gs gw) H H5:=(((f1.eZ f2).mono (G:=gF gs gw) λ_ h=>h.elim).trans f3 λk h=>.inl h).trans f35 λ_ h=>h.elim
 have b5:=f35.fv (f3.fv b2 (ng (by omega))) λh=>h
 have a5:Kd H5 (Array.size H1) 0 0 none 0 0 none 0 0:=f35.fv (f3.fv a2 (ng (by omega))) λh=>h
 have z5:Array.size H+2<=Array.size H5:=by have:=fe a5;omega
 have k0:=(dh b5 0 0).trans rfl
 have fin:∀{e m:Int}{p:Option Addr}{l c:Nat}{q:Option Addr}{k d:Nat}{H7:Heap},oT H7 b gs gw N U t->Fr (gF gs gw) H5 H7->P e m p l c q k d H7->nR [.int .i64 e,.int .i64 m,.slice p l c,.slice q k d] ⟨Array.size H1,0,none⟩ 0 H7 λH8=>nu H8 ⟨Array.size H1,0,none⟩ λpZ qZ mN mO mP iA iB iC=>R pZ qZ mN mO mP iA iB iC H8:=λs7 f7 p7=>by
  have a7:=f7.fv a5 (ng (by omega))
  refine o9 a7 rfl λH8 a8 f8=>?_
  have HX:Kd H8 _ _ _ _ _ _ _ _ _:=a8
  exact HX.ld (hR _ _ _ _ _ _ _ _ H8 (s7.fy f8 λk hk=>by omega) ((FT.trans f7 λk h=>.inl h).trans f8 λk hk=>.inr (by omega)) (sT _ _ _ _ _ _ _ _ _ _ p7 (l1▸f8)))
 refine eG ⟨_,k0,?_⟩
 rcases hP with⟨rfl,hP⟩|⟨rfl,hP⟩|⟨rfl,hP⟩
 ·refine e8 (by decide) (e8 (by decide) (e8 (by decide) (e8 (by decide) (e8 (by decide) (kY rfl ⟨_,(dh b5 0 1).trans rfl,_,(dh b5 0 3).trans rfl,_,(dh b5 0 4).trans rfl,?_⟩)))))
  exact fm.mz (hP H5 s5 z5) λp l c e H7⟨s7,f7,p7⟩=>fin s7 f7 p7
 ·refine e8 (by decide) (e8 (by decide) (e8 (by decide) (e8 (by decide) (e8 (by decide) (e8 (by decide) (eG (e8 (by decide) (eY rfl (kY rfl ⟨_,(dh b5 0 1).trans rfl,?_⟩)))))))))
  exact fi.mz (hP H5 s5 z5) λs de h=>eo.mz h λe m p l c q k d H7⟨s7,f7,p7⟩=>fin s7 f7 p7
 ·refine e8 (by decide) (e8 (by decide) (e8 (by decide) (e8 (by decide) (e8 (by decide) (e8 (by decide) (eG (e8 (by decide) (eY rfl (e8 (by decide) (e8 (by decide) ?_))))))))))
  refine uX 17 i c2 c3 c4 (λj hj=>by rw[dh b5,Nat.zero_add];simp) ?_
  exact eA.mz (hP H5 s5 z5) λe m p l c q k d H7⟨s7,f7,p7⟩=>fin s7 f7 p7
end
end Go.Proofs.iQ
namespace Go.Proofs.iQ
open Go.Ex
section
variable {b gs gw N U:Nat} {t:List Nd}
theorem FL{H:Heap}(s:oT H b gs gw N U t)(ht:kZ t){i:Nat}{n:Nd}(hn:t[i]?=some n){kd:Int}(hk:kd=11\/kd=14\/kd=17)(c2:Int)(c3 c4:ByteArray){R:Int->Int->Option Addr->Nat->Nat->Option Addr->Nat->Nat->Heap->Prop}
 (P:Int->Int->Option Addr->Nat->Nat->Option Addr->Nat->Nat->Heap->Prop)
 (hA:∀H1,oT H1 b gs gw N U t->Array.size H+2<=Array.size H1->∀{R:Int->Int->Option Addr->Nat->Nat->Option Addr->Nat->Nat->Heap->Prop},(∀e m p l c q k d H',oT H' b gs gw N U t->Fr (gF gs gw) H1 H'->P e m p l c q k d H'->R e m p l c q k d H')->jJ.C (some ⟨b,0,none⟩) kd (i:Int) c2 c3 c4 H1 R)
 (sT:∀e m p l c q k d H1 H2,P e m p l c q k d H1->Fr (λk=>k=Array.size H+1) H1 H2->P e m p l c q k d H2)
 (hR:∀e m p l c q k d H',oT H' b gs gw N U t->Fr (gF gs gw) H H'->P e m p l c q k d H'->R e m p l c q k d H'):jK.C (some ⟨b,0,none⟩) kd (i:Int) c2 c3 c4 H R:=by
 apply jK.calls
 unfold jK.W
 have hu:=s.up
 have hz:=s.Ch
 refine db λH1 h1=>db λH2 h2=>?_
 have f1:Fr gz H H1:=h1▸Fr.new H _ _
 have f2:Fr gz H1 H2:=h2▸Fr.new H1 _ _
 have b1:H1[Array.size H]?=some (.cells #[.int .i64 kd,.int .i64 i,.int .i64 c2,.string c3,.string c4] kj (0,0)):=h1▸eV
 have a2:Kd H2 (Array.size H1) 0 0 none 0 0 none 0 0:=h2▸eV
 have l1:Array.size H1=Array.size H+1:=h1▸gC
 have l2:=fe a2
 have ng:∀{k:Nat},Array.size H<=k->¬gF gs gw k:=λhk h=>by rcases h with rfl|rfl<;>omega
 have b2:=f2.fv b1 λh=>h
 refine dW (λ_ H'=>oT H' b gs gw N U t/\Fr (gF gs gw) H2 H') (eY rfl ⟨_,(dh b2 0 0).trans rfl,e8 (by omega) (dW (λq H'=>q=(false,())/\oT H' b gs gw N U t/\Fr (gF gs gw) H2 H') ⟨_,(dh b2 0 1).trans rfl,MS ((s.oP f1).oP f2) ht hn λH5 s5 f5=>eY rfl ⟨_,(dh (f5.fv b2 (ng (by omega))) 0 0).trans rfl,e8 (by omega) ⟨rfl,s5,f5⟩⟩⟩ ?_)⟩) ?_
 ·rintro _ H4 ⟨rfl,s4,f4⟩
  exact eY rfl ⟨s4,f4⟩
 rintro _ H3 ⟨s3,f3⟩
 have b3:=f3.fv b2 (ng (by omega))
 have a3:Kd H3 (Array.size H1) 0 0 none 0 0 none 0 0:=f3.fv a2 (ng (by omega))
 have xX:Fr (gF gs gw) H H3:=((f1.eZ f2).mono (G:=gF gs gw) λ_ h=>h.elim).trans f3 λk h=>.inl h
 have z3:=f3.size
 have z03:=xX.size
 refine uX kd i c2 c3 c4 (λj hj=>by rw[dh b3,Nat.zero_add];simp) (hA H3 s3 (by omega) λe m p l c q k d H7 s7 f7 p7=>?_)
 have a7:=f7.fv a3 (ng (by omega))
 refine o9 a7 rfl λH8 a8 f8=>?_
 have HX:Kd H8 _ _ _ _ _ _ _ _ _:=a8
 exact HX.ld (hR _ _ _ _ _ _ _ _ H8 (s7.fy f8 λk hk=>by omega) ((xX.trans f7 λk h=>.inl h).trans f8 λk hk=>.inr (by omega)) (sT _ _ _ _ _ _ _ _ _ _ p7 (l1▸f8)))
def Gf(H:Heap)(x b:Nat):Prop:=H[x]?=some (.cells #[.iface ij (.pointer (some ⟨b,0,none⟩))] rl (0,0))
theorem GN{H:Heap}{x:Nat}(h:Gf H x b){R:Option Addr->Heap->Prop}(hR:R (some ⟨b,0,none⟩) H):ln.C (some ⟨x,0,none⟩) H R:=by
 apply ln.calls
 unfold ln.W
 exact eY rfl ⟨_,rfl,_,(dh h 0 0).trans rfl,_,true,.inl ⟨rfl,rfl⟩,hR⟩
theorem Bw{H:Heap}{x:Nat}(h:Gf H x b)(hx:x≠gs/\x≠gw)(s:oT H b gs gw N U t)(ht:kZ t){i:Nat}{n:Nd}(hn:t[i]?=some n){kd:Int}(hk:kd=11\/kd=14\/kd=17)(c2:Int)(c3 c4:ByteArray){R:Int->Int->Option Addr->Nat->Nat->Option Addr->Nat->Nat->Heap->Prop}
 (P:Int->Int->Option Addr->Nat->Nat->Option Addr->Nat->Nat->Heap->Prop)
 (hA:∀H1,oT H1 b gs gw N U t->Array.size H+2<=Array.size H1->∀{R:Int->Int->Option Addr->Nat->Nat->Option Addr->Nat->Nat->Heap->Prop},(∀e m p l c q k d H',oT H' b gs gw N U t->Fr (gF gs gw) H1 H'->P e m p l c q k d H'->R e m p l c q k d H')->jK.C (some ⟨b,0,none⟩) kd (i:Int) c2 c3 c4 H1 R)
 (sT:∀e m p l c q k d H1 H2,P e m p l c q k d H1->Fr (λk=>k=Array.size H+1) H1 H2->P e m p l c q k d H2)
 (hR:∀e m p l c q k d H',oT H' b gs gw N U t->Fr (gF gs gw) H H'->P e m p l c q k d H'->R e m p l c q k d H'):iO.C (some ⟨x,0,none⟩) kd (i:Int) c2 c3 c4 H R:=by
 apply iO.calls
 unfold iO.W
 have hu:=s.up
 have hz:=s.Ch
 refine db λH1 h1=>db λH2 h2=>?_
 have f1:Fr gz H H1:=h1▸Fr.new H _ _
 have f2:Fr gz H1 H2:=h2▸Fr.new H1 _ _
 have b1:H1[Array.size H]?=some (.cells #[.int .i64 kd,.int .i64 i,.int .i64 c2,.string c3,.string c4] kj (0,0)):=h1▸eV
 have a2:Kd H2 (Array.size H1) 0 0 none 0 0 none 0 0:=h2▸eV
 have l1:Array.size H1=Array.size H+1:=h1▸gC
 have l2:=fe a2
 have ng:∀{k:Nat},Array.size H<=k->¬gF gs gw k:=λhk h=>by rcases h with rfl|rfl<;>omega
 have b2:=f2.fv b1 λh=>h
 have VQ:∀{K:Int->Int->Int->ByteArray->ByteArray->Prop},K kd i c2 c3 c4->sB H2 ⟨Array.size H,0,none⟩ K:=λhk=>uX kd i c2 c3 c4 (λj hj=>by rw[dh b2,Nat.zero_add];simp) hk
 refine VQ (GN (f2.fv (f1.fv h λh=>h) λh=>h) ⟨VQ rfl,hA H2 ((s.oP f1).oP f2) (by omega) λe m p l c q k d H7 s7 f7 p7=>?_⟩)
 have vk:Fr (gF gs gw) H H7:=((f1.eZ f2).mono (G:=gF gs gw) λ_ h=>h.elim).trans f7 λk h=>.inl h
 have a7:=f7.fv a2 (ng (by omega))
 refine o9 a7 rfl λH8 a8 f8=>?_
 have HX:Kd H8 _ _ _ _ _ _ _ _ _:=a8
 exact HX.ld (hR _ _ _ _ _ _ _ _ H8 (s7.fy f8 λk hk=>by omega) (vk.trans f8 λk hk=>.inr (by omega)) (sT _ _ _ _ _ _ _ _ _ _ p7 (l1▸f8)))
end
theorem MN{H:Heap}{x b gs gw N U:Nat}{L:List Nat}(h:Gf H x b)(s:oT H b gs gw N U (eI L))(ZO:Go.X.sO H)(h6:7<gs/\7<gw)(lu:Ok 0 L)(hd:∀d∈L,d<=198)(hZ:L≠[])(hL:L.length<=40000)(hS:(whole L).length<=1048576)
 {R:ByteArray->Int->Heap->Prop}(hR:∀H',oT H' b gs gw N U (eI L)->Fr (gF gs gw) H H'->R (iT (whole L)) 0 H'):jW.C (some ⟨x,0,none⟩) H R:=by
 apply jW.calls
 unfold jW.W
 refine GN h ?_
 apply lY.calls
 unfold lY.W
 refine eY rfl (Pg s (Df lu hd hL) λp l c H1 t1 s1 f1 qD=>?_)
 apply ky.calls
 unfold ky.W
 have l6:6<Array.size H:=by obtain⟨_,_,_,hm⟩:=ZO.ml;exact fe hm
 exact O2 (AV ZO f1 λi hi h=>by rcases h with h|h<;>omega) (Nat.lt_of_lt_of_le l6 f1.size) lu hd hZ hL hS t1 λH2 f2=>hR H2 (s1.oP f2) (f1.trans f2 λ_ h=>h.elim)
theorem MO{H:Heap}(hm:jX H)(X9:CA H){L:List Nat}{pb c:Nat}(hb:jZ H (some ⟨pb,0,none⟩) (zJ (whole L)))(hc:(whole L).length<=c)(hS:(whole L).length<=100000)(lu:Ok 0 L)(hd:∀d∈L,d<=99)(hZ:L≠[])(hL:L.length<=40000)(hg:aiK (eI L))
 {R:Option Addr->Int->Heap->Prop}(hR:∀x b gs gw N U H',Gf H' x b->x≠gs/\x≠gw->oT H' b gs gw N U (eI L)->Fr gz H H'->Array.size H<=gs->Array.size H<=gw->R (some ⟨x,0,none⟩) 0 H'):fM.C (some ⟨pb,0,none⟩) (whole L).length c 100000 101 0 0 H R:=by
 apply fM.calls
 unfold fM.W
 have l6:6<Array.size H:=by obtain⟨_,_,_,hm⟩:=hm;exact fe hm
 refine db λH1 h1=>?_
 have f1:Fr gz H H1:=h1▸Fr.new H _ _
 have b1:H1[Array.size H]?=some (.cells #[.int .i64 100000,.int .i64 101,.int .i64 0,.int .i64 0] ie (0,0)):=h1▸eV
 refine qH 100000 101 0 0 (λj hj=>by rw[dh b1,Nat.zero_add];simp) ?_
 refine TM (hm.oP f1) (Nat.lt_of_lt_of_le l6 f1.size) (by decide) (by decide) (by decide) (by decide) (hb.oP f1) hc (by omega) lu (λd RW=>by have:=hd d RW;omega) (by omega) λp l c H2 t2 f2=>e8 (λh=>h rfl) ?_
 have sX:=f1.eZ f2
 refine TX (hm.oP sX) (Nat.lt_of_lt_of_le l6 sX.size) (X9.oP sX) t2 (Df lu (λd RW=>by have:=hd d RW;omega) hL) hg λb gs gw N U H3 s3 f3 RP hgw=>e8 (λh=>h rfl) (db λH4 h4=>?_)
 have f4:Fr gz H3 H4:=h4▸Fr.new H3 _ _
 have z:=sX.size
 have hz:=s3.Ch
 have hu:=s3.up
 exact hR (Array.size H3) b gs gw N U H4 (h4▸eV) ⟨by omega,by omega⟩ (s3.oP f4) ((sX.eZ f3).eZ f4) (by omega) (by omega)
end Go.Proofs.iQ
namespace Go.Ex
def Ms(b:Nat):Nat->Nat->List Nat
 |_,0=>[]
 |i,n+1=>(i%b)::Ms b (i+1) n
theorem Q7(b:Nat):∀n i,(Ms b i n).length=n
 |0,_=>rfl
 |n+1,i=>by simp[Ms,Q7 b n (i+1)]
theorem mod_succ{b:Nat}(hb:0<b)(i:Nat):(i+1)%b=0\/(i+1)%b=i%b+1:=by
 have h1:=Nat.mod_lt i hb
 have h2:=Nat.div_add_mod i b
 rcases Nat.lt_or_ge (i%b+1) b with h|h
 ·right
  rw[show i+1=i%b+1+b*(i/b) by omega,Nat.add_mul_mod_self_left,Nat.mod_eq_of_lt h]
 ·left
  rw[show i+1=b*(i/b+1) by rw[Nat.mul_add,Nat.mul_one];omega,Nat.mul_mod_right]
theorem YH{b:Nat}(hb:0<b):∀n i k,i%b<=k->Ok k (Ms b i n)
 |0,_,_,_=>trivial
 |n+1,i,k,h=>⟨h,YH hb n (i+1) (i%b+1) (by rcases mod_succ hb i with h|h<;>omega)⟩
theorem Q6{b:Nat}(hb:0<b):∀n i,∀d∈Ms b i n,d<b
 |n+1,i,d,h=>by
  simp only[Ms,List.mem_cons] at h
  rcases h with rfl|h
  ·exact Nat.mod_lt _ hb
  ·exact Q6 hb n (i+1) d h
theorem Mr(b:Nat):∀j n i,j<=n->(Ms b i n).drop j=Ms b (i+j) (n-j)
 |0,n,i,_=>by simp
 |j+1,0,i,h=>by omega
 |j+1,n+1,i,h=>by
  rw[show(Ms b i (n+1)).drop (j+1)=(Ms b (i+1) n).drop j from rfl,Mr b j n (i+1) (by omega),show i+1+j=i+(j+1) by omega,show n+1-(j+1)=n-j by omega]
theorem zH:∀n,(cls n).length=4*n
 |0=>rfl
 |n+1=>by simp[cls,zH n];omega
theorem IC:∀(L:List Nat)(k:Nat),Ok k L->(ti k L).length=4*k+8*L.length
 |[],k,_=>by simp[ti,zH]
 |d::L,k,h=>by
  have ih:=IC L (d+1) h.2
  have hd:=h.1
  simp[ti,zH,ih]
  omega
theorem Sn{L:List Nat}(h:Ok 0 L):(whole L).length=8*L.length+7:=by
 simp[whole,IC L 0 h]
theorem We{b i n k:Nat}(h:i%b=0\/k=i%b):ti k (Ms b i (n+1))=cls (if i%b=0 then k else 0)++[60,98,62,120]++ti (i%b+1) (Ms b (i+1) n):=by
 show cls (k-i%b)++60::98::62::120::ti (i%b+1) (Ms b (i+1) n)=_
 have e:k-i%b=if i%b=0 then k else 0:=by
  split
  ·omega
  ·rcases h with h|h
   ·omega
   ·omega
 rw[e]
 simp
theorem agJ{L:List Nat}(hZ:L≠[]):aiK (eI L) where
 len:=by rw[jo];have:=List.length_pos_iff.2 hZ;omega
 fst i n hn hi:=by
  have hL:=List.length_pos_iff.2 hZ
  obtain⟨n',Ow,h2,h3,_⟩:=Ep (L:=L) (p:=i) (List.getElem?_eq_some_iff.1 hn).1
  rw[hn] at Ow
  cases Ow
  rcases(show i=0\/i=1\/i=2\/i=3 by omega) with rfl|rfl|rfl|rfl
  ·cases hn;rfl
  ·cases hn;decide
  ·exact h2.2 (by omega)
  ·exact h3.2 (by omega)
theorem adx{b a:Nat}(hb:0<b)(ha:0<a):∃n,(eI (Ms b 0 a))[2*a+1]?=some n/\n.d=(((a-1)%b:Nat):Int)+3:=by
 have hd:(Ms b 0 a).drop (a-1)=((a-1)%b)::[]:=by
  rw[Mr b (a-1) a 0 (by omega),show a-(a-1)=1 by omega,Nat.zero_add]
  rfl
 obtain⟨_,h2⟩:=zD hd
 exact⟨_,by rw[show 2*a+1=3+2*(a-1) by omega];exact h2,rfl⟩
end Go.Ex
namespace Go.Proofs.iQ
open Go.Ex
theorem Wn{H:Heap}(h:Go.X.sO H):CA H:=by
 have e:Go.X.qT Go.X.zV=((List.range 64).map λi=>Value.int .u8 ((Go.Lib.deBruijn64tab.getD i 0:Nat):Int)).toArray:=by kernel_rfl
 intro i hi
 rw[dh h.h5,Nat.zero_add,e]
 simp[hi]
theorem JT{H:Heap}{n:Nat}(hn:n<=1000){R:ByteArray->Heap->Prop}(hR:∀s,0<s.size->R s H):kl.C (n:Int) H R:=by
 apply kl.calls
 unfold kl.W
 have hx:∀m:Nat,m<=9->((⟨#[48,49,50,51,52,53,54,55,56,57]⟩:ByteArray).extract m (m+1)).size=1:=λm hm=>by
  rw[ByteArray.size_extract]
  show min (m+1) 10-m=1
  omega
 refine dW (λq H'=>∃(m:Nat)(s:ByteArray),q=((m:Int),s,())/\m<=9/\s.size<=2000/\H=H') ?_ ?_
 ·refine fJ (λk q H'=>∃(m:Nat)(s:ByteArray),m=k/\q=((m:Int),s,())/\s.size+m<=2000/\H=H') n ⟨n,⟨#[]⟩,rfl,rfl,by show 0+n<=2000;omega,rfl⟩ ?_
  rintro k _ _ ⟨m,s,rfl,rfl,hs,rfl⟩
  refine ft (λlC=>?_) λiG=>?_
  ·have lC:9<m:=by have lC:(9:Int)<(m:Int):=lC;omega
   have et:Int.tmod (m:Int) 10=((m%10:Nat):Int):=rfl
   have ed:Int.tdiv (m:Int) 10=((m/10:Nat):Int):=rfl
   have V6:m%10<=9:=by omega
   have ew:IntKind.i64.wrap ((Int.tmod (m:Int) 10)+1)=((m%10+1:Nat):Int):=by rw[et,dM (by omega) (by omega)];omega
   show(10:Int)≠0/\(10:Int)≠0/\0<=IntKind.i64.wrap ((Int.tmod (m:Int) 10)+1)/\IntKind.i64.wrap ((Int.tmod (m:Int) 10)+1)<=_/\0<=Int.tmod (m:Int) 10/\Int.tmod (m:Int) 10<=((IntKind.i64.wrap ((Int.tmod (m:Int) 10)+1)).toNat:Int)/\_
   rw[ew,et,ed,Int.toNat_natCast,Int.toNat_natCast]
   refine⟨by decide,by decide,by omega,by show((m%10+1:Nat):Int)<=10;omega,by omega,by omega,by rw[hx _ V6];show 1+s.size<=9223372036854775807;omega,by decide,db λx hxx=>⟨m/10,by omega,m/10,(⟨#[48,49,50,51,52,53,54,55,56,57]⟩:ByteArray).extract (m%10) (m%10+1)++s,rfl,?_,?_,rfl⟩⟩
   ·rw[hxx,dM (by omega) (by omega)]
   ·rw[ByteArray.size_append,hx _ V6]
    omega
  ·have iG:¬(9:Int)<(m:Int):=iG
   exact⟨m,s,rfl,by omega,by omega,rfl⟩
 ·rintro _ _ ⟨m,s,rfl,hm,hs,rfl⟩
  have ew:IntKind.i64.wrap ((m:Int)+1)=((m+1:Nat):Int):=by rw[dM (by omega) (by omega)];omega
  show 0<=IntKind.i64.wrap ((m:Int)+1)/\IntKind.i64.wrap ((m:Int)+1)<=_/\0<=(m:Int)/\(m:Int)<=((IntKind.i64.wrap ((m:Int)+1)).toNat:Int)/\_
  rw[ew,Int.toNat_natCast,Int.toNat_natCast]
  exact⟨by omega,by show((m+1:Nat):Int)<=10;omega,by omega,by omega,by rw[hx _ hm];show 1+s.size<=9223372036854775807;omega,hR _ (by rw[ByteArray.size_append,hx _ hm];omega)⟩
theorem Fq{H:Heap}{s:List UInt8}{k:Nat}(hk:k<=1000)(hs:s.length<=1000000){J:(ByteArray×Int×Unit)->Heap->Prop}(hJ:J (iT (s++cls k),0,()) H):
 lD (S:=(ByteArray×Int×Unit)) (λL7 q7 H5=>(λ(s7:ByteArray)(ly:Int)=>
 gn (decide ((0:Int)<ly)) (s7.size+(⟨#[60,47,98,62]⟩:ByteArray).size<=9223372036854775807/\
 eX (IntKind.i64.wrap (ly-1)) λFc:Int=>L7 (s7++(⟨#[60,47,98,62]⟩:ByteArray),(Fc:Int),()) H5) (J (s7,(ly:Int),()) H5)) q7.1 q7.2.1) (iT s,(k:Int),()) H:=by
 refine fJ (λm q H'=>∃s':List UInt8,q=(iT s',(m:Int),())/\m<=k/\s'++cls m=s++cls k/\H=H') k ⟨s,rfl,Nat.le_refl _,rfl,rfl⟩ ?_
 rintro m _ _ ⟨s',rfl,hm,e,rfl⟩
 have hl:=congrArg List.length e
 simp only[List.length_append,zH] at hl
 refine ft (λlC=>?_) λiG=>?_
 ·have lC:(0:Int)<(m:Int):=lC
  obtain⟨m,rfl⟩:∃m',m=m'+1:=⟨m-1,by omega⟩
  refine⟨by rw[jv];show s'.length+4<=_;omega,db λx hx=>⟨m,by omega,s'++[60,47,98,62],?_,by omega,?_,rfl⟩⟩
  ·have hx:x=IntKind.i64.wrap (((m+1:Nat):Int)-1):=hx
   have e1:iT s'++(⟨#[60,47,98,62]⟩:ByteArray)=iT (s'++[60,47,98,62]):=tz s' [60,47,98,62]
   rw[hx,dM (by omega) (by omega),e1,show((m+1:Nat):Int)-1=(m:Int) by omega]
  ·rw[<-e]
   show _=s'++(60::47::98::62::cls m)
   simp
 ·have iG:¬(0:Int)<(m:Int):=iG
  obtain rfl:m=0:=by omega
  have:s'=s++cls k:=by simpa[cls] using e
  rw[this]
  exact hJ
end Go.Proofs.iQ
namespace Go.Proofs.iQ
open Go.Ex
section
variable {x b gs gw N U:Nat} {L:List Nat}
theorem aef{H:Heap}(h:Gf H x b)(hx:x≠gs/\x≠gw)(s:oT H b gs gw N U (eI L))(ht:kZ (eI L))(hZ:L≠[]){R:Int->Int->Option Addr->Nat->Nat->Option Addr->Nat->Nat->Heap->Prop}
 (hR:∀p c H',oT H' b gs gw N U (eI L)->Fr (gF gs gw) H H'->R 0 0 none 0 0 p L.length c H'):iO.C (some ⟨x,0,none⟩) 11 0 0 (⟨#[]⟩:ByteArray) (⟨#[98]⟩:ByteArray) H R:=by
 let P:Int->Int->Option Addr->Nat->Nat->Option Addr->Nat->Nat->Heap->Prop:=λe m p l c q k d _=>e=0/\m=0/\p=none/\l=0/\c=0/\k=L.length
 refine Bw h hx s ht (i:=0) ht.head (kd:=11) (.inl rfl) 0 _ _ P (λH1 s1 z1 R hR=>?_) (λ_ _ _ _ _ _ _ _ _ _ h _=>h) ?_
 ·refine FL s1 ht (i:=0) ht.head (kd:=11) (.inl rfl) 0 _ _ P (λH2 s2 z2 R hR=>?_) (λ_ _ _ _ _ _ _ _ _ _ h _=>h) hR
  exact Fv s2 ht (i:=0) ht.head 11 0 _ _ P (.inl ⟨rfl,λH3 s3 z3=>Pf s3 ht hZ λp c H' s' f'=>⟨s',f',rfl,rfl,rfl,rfl,rfl,rfl⟩⟩) (λ_ _ _ _ _ _ _ _ _ _ h _=>h) hR
 ·rintro e m p l c q k d H' s' f' ⟨rfl,rfl,rfl,rfl,rfl,rfl⟩
  exact hR q d H' s' f'
theorem aee{H:Heap}(h:Gf H x b)(hx:x≠gs/\x≠gw)(s:oT H b gs gw N U (eI L))(ht:kZ (eI L))(hZ:L≠[]){R:Int->Int->Option Addr->Nat->Nat->Option Addr->Nat->Nat->Heap->Prop}
 (hR:∀q c d H',H'[q]?=some (.cells #[.string (iT (List.replicate L.length 120))] dZ (0,0))->Array.size H<=q->oT H' b gs gw N U (eI L)->Fr (gF gs gw) H H'->∀e m r k,R e m (some ⟨q,0,none⟩) 1 c r k d H'):iO.C (some ⟨x,0,none⟩) 14 0 0 (⟨#[]⟩:ByteArray) (⟨#[]⟩:ByteArray) H R:=by
 let P:Nat->Int->Int->Option Addr->Nat->Nat->Option Addr->Nat->Nat->Heap->Prop:=λB e m p l c q k d H'=>∃q',p=some ⟨q',0,none⟩/\l=1/\B<=q'/\H'[q']?=some (.cells #[.string (iT (List.replicate L.length 120))] dZ (0,0))
 have sT:∀B B',B'+2<=B->∀e m p l c q k d H1 H2,P B e m p l c q k d H1->Fr (λk=>k=B'+1) H1 H2->P B e m p l c q k d H2:=by
  rintro B B' hB e m p l c q k d H1 H2 ⟨q',h1,h2,h3,h4⟩ f
  exact⟨q',h1,h2,h3,f.fv h4 λe=>by omega⟩
 have Zc:∀B B',B'<=B->∀e m p l c q k d H1,P B e m p l c q k d H1->P B' e m p l c q k d H1:=by
  rintro B B' hB e m p l c q k d H1 ⟨q',h1,h2,h3,h4⟩
  exact⟨q',h1,h2,by omega,h4⟩
 refine Bw h hx s ht (i:=0) ht.head (kd:=14) (.inr (.inl rfl)) 0 _ _ (P (Array.size H+2)) (λH1 s1 z1 R hR=>?_) (sT _ _ (Nat.le_refl _)) ?_
 ·refine FL s1 ht (i:=0) ht.head (kd:=14) (.inr (.inl rfl)) 0 _ _ (P (Array.size H1+2)) (λH2 s2 z2 R hR=>?_) (sT _ _ (Nat.le_refl _)) λe m p l c q k d H' s' f' p'=>hR _ _ _ _ _ _ _ _ H' s' f' (Zc _ _ (by omega) e m p l c q k d H' p')
  refine Fv s2 ht (i:=0) ht.head 14 0 _ _ (P (Array.size H2+2)) (.inr (.inl ⟨rfl,λH3 s3 z3=>SB s3 ht hZ λH4 s4 f4=>TN _ λq H5 b5 hq f5=>⟨s4.oP f5,f4.trans f5 λ_ h=>h.elim,q,rfl,rfl,?_,b5⟩⟩)) (sT _ _ (Nat.le_refl _)) λe m p l c q k d H' s' f' p'=>hR _ _ _ _ _ _ _ _ H' s' f' (Zc _ _ (by omega) e m p l c q k d H' p')
  have:=f4.size
  omega
 ·rintro e m p l c q k d H' s' f' ⟨q',rfl,rfl,h3,h4⟩
  exact hR q' c d H' h4 (by omega) s' f' e m q k
theorem Y3{H:Heap}(h:Gf H x b)(hx:x≠gs/\x≠gw)(s:oT H b gs gw N U (eI L))(ht:kZ (eI L)){i:Nat}{n:Nd}(hn:(eI L)[i]?=some n){R:Int->Int->Option Addr->Nat->Nat->Option Addr->Nat->Nat->Heap->Prop}
 (hR:∀H',oT H' b gs gw N U (eI L)->Fr (gF gs gw) H H'->∀e p l c q k d,R e n.d p l c q k d H'):iO.C (some ⟨x,0,none⟩) 17 (i:Int) 0 (⟨#[]⟩:ByteArray) (⟨#[]⟩:ByteArray) H R:=by
 let P:Int->Int->Option Addr->Nat->Nat->Option Addr->Nat->Nat->Heap->Prop:=λe m p l c q k d _=>m=n.d
 refine Bw h hx s ht hn (kd:=17) (.inr (.inr rfl)) 0 _ _ P (λH1 s1 z1 R hR=>?_) (λ_ _ _ _ _ _ _ _ _ _ h _=>h) ?_
 ·refine FL s1 ht hn (kd:=17) (.inr (.inr rfl)) 0 _ _ P (λH2 s2 z2 R hR=>?_) (λ_ _ _ _ _ _ _ _ _ _ h _=>h) hR
  exact Fv s2 ht hn 17 0 _ _ P (.inr (.inr ⟨rfl,λH3 s3 z3=>NA s3 ht hn λH' s' f'=>⟨s',f',rfl⟩⟩)) (λ_ _ _ _ _ _ _ _ _ _ h _=>h) hR
 ·rintro e m p l c q k d H' s' f' rfl
  exact hR H' s' f' e p l c q k d
end
end Go.Proofs.iQ
namespace Go.Proofs.iQ
open Go.Ex
theorem GQ(x b:Int)(hb:0<b):∃r:Nat,(IntKind.u64.wrap x).tmod b=(r:Int)/\(r:Int)<b:=by
 have h0:0<=IntKind.u64.wrap x:=by
  show 0<=x%18446744073709551616
  exact Int.emod_nonneg _ (by omega)
 refine⟨((IntKind.u64.wrap x).tmod b).toNat,(Int.toNat_of_nonneg (Int.tmod_nonneg _ h0)).symm,?_⟩
 rw[Int.toNat_of_nonneg (Int.tmod_nonneg _ h0)]
 exact Int.tmod_lt_of_pos _ hb
theorem Xy{H:Heap}(ZO:Go.X.sO H)(n deep:Int):nY.C n deep H λr H'=>r=true/\Fr gz H H':=by
 apply nY.calls
 unfold nY.W
 obtain⟨r1,e1,pY⟩:=GQ n 800 (by omega)
 obtain⟨r2,e2,D0⟩:=GQ deep 100 (by omega)
 refine⟨by decide,by decide,?_⟩
 rw[e1,e2,dM (n:=(r1:Int)) (by omega) (by omega),dM (n:=(r2:Int)) (by omega) (by omega),dM (by omega) (by omega),dM (by omega) (by omega)]
 refine db λa5 GF=>db λb6 hb6=>?_
 obtain⟨a,rfl,Sc,Yh⟩:∃a:Nat,a5=(a:Int)/\1<=a/\a<=800:=⟨r1+1,by omega,by omega,by omega⟩
 obtain⟨b,rfl,qg,Tq⟩:∃b:Nat,b6=(b:Int)/\1<=b/\b<=100:=⟨r2+1,by omega,by omega,by omega⟩
 clear GF hb6 e1 e2 pY D0
 generalize GH:Ms b 0 a=L at*
 have Yi:L.length=a:=by rw[<-GH,Q7]
 have lu:Ok 0 L:=by rw[<-GH];exact YH qg a 0 0 (by simp)
 have qI:∀d∈L,d<=99:=λd hd=>by rw[<-GH] at hd;have:=Q6 qg a 0 d hd;omega
 have hZ:L≠[]:=λe=>by rw[e] at Yi;simp at Yi;omega
 have Ua:=IC L 0 lu
 have Kc:=Sn lu
 refine dW (λq H'=>∃(k:Nat)(s:List UInt8),q=(iT s,(k:Int),())/\H=H'/\s++cls k=ti 0 L/\k<=100) ?_ ?_
 ·refine fJ (λm q H'=>∃(i k:Nat)(s:List UInt8),i<=a/\m=a-i/\q=(iT s,(k:Int),(i:Int),())/\H=H'/\s++ti k (Ms b i (a-i))=ti 0 L/\(i%b=0\/k=i%b)/\k<=100) a ⟨0,0,[],by omega,rfl,rfl,rfl,by rw[Nat.sub_zero,GH];rfl,.inl (by simp),by omega⟩ ?_
  rintro m _ _ ⟨i,k,s,hi,rfl,rfl,rfl,hs,Wj,hk⟩
  have hsl:s.length<=6400:=by have:=congrArg List.length hs;rw[List.length_append,Ua] at this;omega
  refine ft (λlC=>?_) λiG=>?_
  ·have lC:i<a:=by have lC:(i:Int)<(a:Int):=lC;omega
   have hm:=Nat.mod_lt i qg
   refine dW (λq H'=>q=(iT (s++cls (if i%b=0 then k else 0)++[60,98,62,120]),((i%b+1:Nat):Int),())/\H=H') ?_ ?_
   ·refine dW (λq H'=>q=(iT (s++cls (if i%b=0 then k else 0)),((i%b:Nat):Int),())/\H=H') ⟨by omega,ft (λh0=>?_) λh0=>?_⟩ ?_
    ·have h0:((i%b:Nat):Int)=0:=h0
     have h0:i%b=0:=by omega
     refine Fq (s:=s) (k:=k) (J:=λq H'=>q=(iT (s++cls (if i%b=0 then k else 0)),((i%b:Nat):Int),())/\H=H') (by omega) (by omega) ⟨?_,rfl⟩
     rw[if_pos h0,h0]
     rfl
    ·have h0:¬((i%b:Nat):Int)=0:=h0
     have h0:i%b≠0:=by omega
     refine⟨?_,rfl⟩
     have hkk:k=i%b:=Wj.resolve_left h0
     rw[if_neg h0,<-hkk]
     simp[cls]
    ·rintro _ _ ⟨rfl,rfl⟩
     have Mg:=zH (if i%b=0 then k else 0)
     have Uh:(if i%b=0 then k else 0)<=100:=by split<;>omega
     refine⟨by rw[jv,List.length_append,Mg];show _+4<=_;omega,db λx hx=>⟨?_,rfl⟩⟩
     have hx:x=IntKind.i64.wrap (((i%b:Nat):Int)+1):=hx
     have e1:iT (s++cls (if i%b=0 then k else 0))++(⟨#[60,98,62,120]⟩:ByteArray)=iT (s++cls (if i%b=0 then k else 0)++[60,98,62,120]):=tz _ [60,98,62,120]
     rw[hx,dM (by omega) (by omega),e1]
     rfl
   ·rintro _ _ ⟨rfl,rfl⟩
    refine db λx hx=>⟨a-(i+1),by omega,i+1,i%b+1,s++cls (if i%b=0 then k else 0)++[60,98,62,120],by omega,rfl,?_,rfl,?_,?_,by omega⟩
    ·have hx:x=IntKind.i64.wrap ((i:Int)+1):=hx
     rw[hx,dM (by omega) (by omega)]
     rfl
    ·rw[<-hs,show a-i=(a-(i+1))+1 by omega,We Wj]
     simp
    ·rcases mod_succ qg i with h|h
     ·exact .inl h
     ·exact .inr h.symm
  ·have iG:i=a:=by have iG:¬(i:Int)<(a:Int):=iG;omega
   subst iG
   rw[Nat.sub_self] at hs
   exact⟨k,s,rfl,rfl,hs,hk⟩
 rintro _ _ ⟨k,s,rfl,rfl,hs,hk⟩
 have hsl:s.length<=6400:=by have:=congrArg List.length hs;rw[List.length_append,Ua] at this;omega
 refine dW (λq H'=>q=(iT (ti 0 L),())/\H=H') (Fq (s:=s) (k:=k) (J:=λq H'=>(q.1,())=(iT (ti 0 L),())/\H=H') (by omega) (by omega) ⟨by rw[hs],rfl⟩) ?_
 rintro _ _ ⟨rfl,rfl⟩
 have ew:((⟨#[60,97,62]⟩:ByteArray)++iT (ti 0 L))++(⟨#[60,47,97,62]⟩:ByteArray)=iT (whole L):=by
  have h1:(⟨#[60,97,62]⟩:ByteArray)++iT (ti 0 L)=iT ([60,97,62]++ti 0 L):=tz [60,97,62] _
  rw[h1]
  have h2:iT ([60,97,62]++ti 0 L)++(⟨#[60,47,97,62]⟩:ByteArray)=iT (([60,97,62]++ti 0 L)++[60,47,97,62]):=tz _ [60,47,97,62]
  rw[h2]
  simp[whole,Bn]
 have ZI:(⟨#[60,97,62]⟩:ByteArray).size+(iT (ti 0 L)).size<=9223372036854775807:=by rw[jv,Ua];show 3+_<=_;omega
 have ZH:((⟨#[60,97,62]⟩:ByteArray)++iT (ti 0 L)).size+(⟨#[60,47,97,62]⟩:ByteArray).size<=9223372036854775807:=by rw[ByteArray.size_append,jv,Ua];show 3+_+4<=_;omega
 dsimp only
 refine⟨ZI,ZH,?_⟩
 rw[ew]
 intro c hc
 refine db λH8 h8=>?_
 have f8:Fr gz H H8:=h8▸Fr.push _ _
 have PE:=yL ZO f8
 rw[jv] at hc h8⊢
 have QS:jZ H8 (some ⟨Array.size H,0,none⟩) (zJ (whole L)):=by
  intro j v hj
  have lC:=(List.getElem?_eq_some_iff.1 hj).1
  rw[h8,dh (kE _ _),Nat.zero_add,kX,Array.getElem?_append_left (by simpa using lC)]
  simpa using hj
 refine MO (La PE) (Wn PE) QS hc (by omega) lu qI hZ (by omega) (agJ hZ) λx bb gs gw N U H9 w9 hx s9 f9 RP hgw=>?_
 have z8:=f8.size
 have l7:7<Array.size H:=fe ZO.h7
 have Ml:=f8.eZ f9
 have Vm:=yL PE f9
 have ht:=Df lu (λd hd=>by have:=qI d hd;omega) (by omega)
 have tk:∀{H' mK:Heap},Go.X.sO H'->Fr (gF gs gw) H' mK->Go.X.sO mK:=λt f=>AV t f λi hi h=>by rcases h with h|h<;>omega
 refine eG (dW (λq H'=>q=(false,())/\H9=H') (e8 (λh=>h rfl) ⟨rfl,rfl⟩) ?_)
 rintro _ _ ⟨rfl,rfl⟩
 refine eY rfl ?_
 have us:=s9.up
 have uz:=s9.Ch
 have ng:∀{k:Nat},Array.size H9<=k->¬gF gs gw k:=λhk h=>by rcases h with rfl|rfl<;>omega
 have nx:¬gF gs gw x:=λh=>h.elim hx.1 hx.2
 refine MN w9 s9 Vm ⟨by omega,by omega⟩ lu (λd hd=>by have:=qI d hd;omega) hZ (by omega) (by omega) λfZ wj f12=>?_
 have w12:Gf fZ x bb:=f12.fv w9 nx
 refine aef w12 hx wj ht hZ λVG c13 gS A0 f13=>db λgK Ha=>?_
 have z9:=f12.size
 have z12:=f13.size
 have f14:Fr gz gS gK:=Ha▸Fr.new gS _ _
 refine o9 (cs:=(TH 0 0 none 0 0 none 0 0).toArray) (Ha▸eV) rfl λjY tf f15=>?_
 have tf:Kd jY (Array.size gS) 0 0 none 0 0 VG L.length c13:=tf
 have afC:Fr gz gS jY:=f14.fresh f15 λi hi=>by omega
 have Aq:=A0.oP afC
 have anj:Fr (gF gs gw) H9 jY:=(f12.trans f13 λk h=>.inl h).trans afC λ_ h=>h.elim
 have w15:Gf jY x bb:=anj.fv w9 nx
 have VR:=fe tf
 refine aee w15 hx Aq ht hZ λVz c16 d16 lW t16 asw WH f16 Nq m16 Vx VT=>db λpd ZX=>?_
 have z16:=f16.size
 have f17:Fr gz lW pd:=ZX▸Fr.new lW _ _
 refine o9 (cs:=(TH 0 0 none 0 0 none 0 0).toArray) (ZX▸eV) rfl λuo OU f18=>?_
 have OU:Kd uo (Array.size lW) Nq m16 (some ⟨Vz,0,none⟩) 1 c16 Vx VT d16:=OU
 have Ys:Fr gz lW uo:=f17.fresh f18 λi hi=>by omega
 have J0:=WH.oP Ys
 have afB:Fr (gF gs gw) jY uo:=f16.trans Ys λ_ h=>h.elim
 have ani:Fr (gF gs gw) H9 uo:=anj.trans afB λk h=>.inl h
 have Pt:Gf uo x bb:=ani.fv w9 nx
 have t18:=Ys.fv t16 λh=>h
 have l18:=fe OU
 obtain⟨nn,qE,FO⟩:=adx (b:=b) (a:=a) qg Sc
 rw[GH] at qE
 have e2a:IntKind.i64.wrap ((IntKind.i64.wrap (2*(a:Int)))+1)=((2*a+1:Nat):Int):=by rw[dM (n:=2*(a:Int)) (by omega) (by omega),dM (by omega) (by omega)];omega
 rw[e2a]
 refine Y3 Pt hx J0 ht qE λpk CX f19 CI DJ PO c19 Vy VS d19=>db λxZ Nl=>?_
 have f20:Fr gz pk xZ:=Nl▸Fr.new pk _ _
 have z18:=f19.size
 refine o9 (cs:=(TH 0 0 none 0 0 none 0 0).toArray) (Nl▸eV) rfl λrG U5 f21=>?_
 have U5:Kd rG (Array.size pk) CI nn.d DJ PO c19 Vy VS d19:=U5
 have anp:Fr gz pk rG:=f20.fresh f21 λi hi=>by omega
 have Yr:Fr (gF gs gw) uo rG:=f19.trans anp λ_ h=>h.elim
 have anh:Fr (gF gs gw) H9 rG:=ani.trans Yr λk h=>.inl h
 refine SA (tk Vm anh) λux f22=>iR rfl (kY rfl ⟨ZI,ZH,?_⟩)
 have anq:Fr (gF gs gw) jY ux:=(afB.trans Yr λk h=>.inl h).trans f22 λ_ h=>h.elim
 have afA:Fr (gF gs gw) uo ux:=Yr.trans f22 λ_ h=>h.elim
 have c15:Kd ux (Array.size gS) 0 0 none 0 0 VG L.length c13:=anq.fv tf (ng (by omega))
 have c18:Kd ux (Array.size lW) Nq m16 (some ⟨Vz,0,none⟩) 1 c16 Vx VT d16:=afA.fv OU (ng (by omega))
 have c21:Kd ux (Array.size pk) CI nn.d DJ PO c19 Vy VS d19:=f22.fv U5 λh=>h
 have t22:=afA.fv t18 (ng (by omega))
 refine kY ew.symm ⟨_,_,_,c15.cell 3,kY (by omega) ⟨_,_,_,c18.cell 2,kY rfl ⟨_,_,_,c18.cell 2,_,rfl,by omega,by decide,_,(dh t22 0 0).trans rfl,kY ?_ ⟨_,c21.cell 1,by omega,kY ?_ (JT (by omega) λs hs=>⟨?_,?_⟩)⟩⟩⟩⟩
 ·show((iT (List.replicate L.length 120)).size:Int)=(a:Int)
  rw[jv,List.length_replicate,Yi]
 ·show nn.d=_
  have et:Int.tmod (IntKind.i64.wrap ((a:Int)-1)) (b:Int)=(((a-1)%b:Nat):Int):=by
   rw[dM (by omega) (by omega),show(a:Int)-1=((a-1:Nat):Int) by omega]
   rfl
  have hm:=Nat.mod_lt (a-1) qg
  rw[et,FO,dM (by omega) (by omega)]
 ·rw[decide_eq_true (by omega)]
 ·exact Ml.fresh (anh.trans f22 λ_ h=>h.elim) λk hk=>by rcases hk with rfl|rfl<;>omega
end Go.Proofs.iQ
