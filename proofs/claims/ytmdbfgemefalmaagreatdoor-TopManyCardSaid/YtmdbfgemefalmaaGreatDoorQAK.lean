/- Part AK of the proof that the law TopMany answers true at every input, under no condition. -/
import Derived.Test.YtmdbfgemefalmaaGreatDoorQAJ
import Derived.Test.YtmdbfgemefalmaaGreatDoorRows
import Derived.Lib.LaidU8
import Derived.Shelf.Vars
import Derived.LaidMore
import Derived.Lay
set_option linter.unusedVariables false
set_option maxHeartbeats 2000000
set_option maxRecDepth 100000
namespace Go.X
open Go.Ex Go.Proofs Go.Lib
def Ai:V->Value
 |.int k n=>.int k n
 |_=>.bool false
noncomputable def qT(c:List V):Array Value:=(c.map Ai).toArray
theorem IA:∀{p q:Ps},Cf p=Cf q->p=q
 |.h,.h,_=>rfl
 |.h,.o _,h=>by simp only[Cf] at h;omega
 |.h,.i _,h=>by simp only[Cf] at h;omega
 |.o _,.h,h=>by simp only[Cf] at h;omega
 |.o p,.o q,h=>by simp only[Cf] at h;rw[IA (p:=p) (q:=q) (by omega)]
 |.o _,.i _,h=>by simp only[Cf] at h;omega
 |.i _,.h,h=>by simp only[Cf] at h;omega
 |.i _,.o _,h=>by simp only[Cf] at h;omega
 |.i p,.i q,h=>by simp only[Cf] at h;rw[IA (p:=p) (q:=q) (by omega)]
def ac0:ig:=λp=>match p with|.o q=>some (Cf q,0,0)|_=>none
structure sO(H:Heap):Prop where
 h0:H[0]?=some (.cells (qT Cz) 260 (0,0))
 h1:H[1]?=some (.cells (qT ZZ) 263 (0,0))
 h5:H[5]?=some (.cells (qT zV) 345 (0,0))
 h7:H[7]?=some (.cells (qT Cx) 374 (0,0))
 ml:∃t fr m,H[6]?=some (.cells #[.int .i64 m] t fr)
def QD(i:Nat):Bool:=Nat.beq i 0||Nat.beq i 1||Nat.beq i 5||Nat.beq i 7
def wz(H:Heap):Un:=λi=>bif QD i then none else H[i]?
theorem ahi(c:List V)(h:(c.all λv=>match v with|.int _ _=>true|_=>false)=true){ρ:ig}{M:Nat}:∀(j:Nat) v,c[j]?=some v->Dn ρ M v (Ai v):=by
 intro j v hv
 have:=List.all_eq_true.1 h v (List.mem_of_getElem? hv)
 cases v<;>first|exact .int _ _|cases this
theorem Qs{ρ:ig}{M t:Nat}(c:List V)(h:(c.all λv=>match v with|.int _ _=>true|_=>false)=true):TT ρ M 0 0 (.cells c t 0 false true) (.cells (qT c) t (0,0)):=by
 refine⟨_,_,rfl,λj v hv=>⟨Ai v,?_,ahi c h j v hv⟩,Nat.le_refl _,by simp[qT,uc],⟨(λh=>by cases h),λ_=>⟨rfl,λ_ _=>rfl⟩⟩⟩
 rw[Nat.zero_add]
 simp[qT,hv]
theorem ahc{q:Ps}{o:Ob}(h:look q G=some o):(q=lQ 0/\o=VN)\/(q=lQ 1/\o=VM)\/(q=lQ 5/\o=VL)\/(q=lQ 7/\o=VK):=by
 have e0:lQ 0=.h:=by kernel_rfl
 have e1:lQ 1=.o .h:=by kernel_rfl
 have e6:lQ 5=.o (.i .h):=by kernel_rfl
 have e7:lQ 7=.o (.o (.o .h)):=by kernel_rfl
 rw[e0,e1,e6,e7]
 unfold G at h
 match q,h with
 |.h,h=>simp only[look,Option.some.injEq] at h;exact .inl ⟨rfl,h.symm⟩
 |.o .h,h=>simp only[look,Option.some.injEq] at h;exact .inr (.inl ⟨rfl,h.symm⟩)
 |.o (.o .h),h=>simp[look] at h
 |.o (.o (.o .h)),h=>simp only[look,Option.some.injEq] at h;exact .inr (.inr (.inr ⟨rfl,h.symm⟩))
 |.o (.o (.o (.o p))),h=>simp[look,js] at h
 |.o (.o (.o (.i p))),h=>simp[look,js] at h
 |.o (.o (.i p)),h=>simp[look,js] at h
 |.o (.i .h),h=>simp only[look,Option.some.injEq] at h;exact .inr (.inr (.inl ⟨rfl,h.symm⟩))
 |.o (.i (.o p)),h=>simp[look,js] at h
 |.o (.i (.i p)),h=>simp[look,js] at h
 |.i p,h=>simp[look,js] at h
theorem pz(n:Nat):Cf (lQ n)=n:=yI n n (Nat.le_refl _)
theorem afe:(Cz.all λv=>match v with|.int _ _=>true|_=>false)=true:=by kernel_rfl
theorem afd:(ZZ.all λv=>match v with|.int _ _=>true|_=>false)=true:=by kernel_rfl
theorem afc:(zV.all λv=>match v with|.int _ _=>true|_=>false)=true:=by kernel_rfl
theorem afb:(Cx.all λv=>match v with|.int _ _=>true|_=>false)=true:=by kernel_rfl
theorem ac1{H:Heap}(ht:sO H){M hi:Nat}(hM:M<=hi):R ac0 M (wz H) (Te G 0 hi) H:=by
 have key:∀b o,look b (Te G 0 hi).t=some o->∃q,b=.o q/\look q G=some o:=by
  intro b o hb
  cases b with
  |h=>cases hb
  |o q=>exact⟨q,rfl,hb⟩
  |i q=>have:look q (Tr.lf:Tr Ob)=some o:=hb;rw[js] at this;cases this
 refine⟨λg=>?_,λp hp=>absurd rfl hp,λb o hb _=>?_,λb b' o o' x x' h1 h2 _ _ e1 e2 e=>?_,λi o hi=>?_,⟨Nat.zero_le _,hM⟩,?_⟩
 ·show some (Cf (lQ g),0,0)=_
  rw[pz]
 ·obtain⟨q,rfl,hq⟩:=key b o hb
  rcases ahc hq with⟨rfl,rfl⟩|⟨rfl,rfl⟩|⟨rfl,rfl⟩|⟨rfl,rfl⟩
  ·exact⟨0,0,0,_,by show some (Cf (lQ 0),0,0)=_;rw[pz],ht.h0,rfl,Qs Cz afe⟩
  ·exact⟨1,0,0,_,by show some (Cf (lQ 1),0,0)=_;rw[pz],ht.h1,rfl,Qs ZZ afd⟩
  ·exact⟨5,0,0,_,by show some (Cf (lQ 5),0,0)=_;rw[pz],ht.h5,rfl,Qs zV afc⟩
  ·exact⟨7,0,0,_,by show some (Cf (lQ 7),0,0)=_;rw[pz],ht.h7,rfl,Qs Cx afb⟩
 ·obtain⟨q,rfl,_⟩:=key b o h1
  obtain⟨q',rfl,_⟩:=key b' o' h2
  cases e1;cases e2
  rw[IA e]
 ·unfold wz at hi
  cases h:QD i with
  |true=>rw[h] at hi;cases hi
  |false=>rw[h] at hi;exact hi
 ·exact ht.ml
theorem aiH{c:List V}{arr:Array Value}{ρ:ig}{M:Nat}(hc:(c.all λv=>match v with|.int _ _=>true|_=>false)=true)(h:∀(j:Nat) v,c[j]?=some v->∃y,arr[0+j]?=some y/\Dn ρ M v y)(hs:0+uc c 0 0 false=arr.size):arr=qT c:=by
 apply Array.ext_getElem?
 intro j
 by_cases hj:j<c.length
 ·obtain⟨y,hy,hd⟩:=h j c[j] (by simp[hj])
  rw[Nat.zero_add] at hy
  rw[hy]
  have h1:=List.all_eq_true.1 hc c[j] (List.getElem_mem hj)
  have:y=Ai c[j]:=by
   generalize hv:c[j]=v at hd h1
   cases hd with
   |int=>rfl
   |_=>cases h1
  simp[qT,hj,this]
 ·rw[Array.getElem?_eq_none (by simp[uc] at hs;omega),Array.getElem?_eq_none (by simp[qT];omega)]
theorem agW{ρ':ig}{M:Nat}{H H':Heap}{h':Hp}(ht:sO H)(hl:Le ac0 ρ')(r:R ρ' M (wz H) h' H')(hG:wQ (QU h'.t) G=true)(pg:0<H.size):H.size<=H'.size/\∀k,k<H.size->H'[k]?=H[k]?:=by
 have hg:=(IE hG).1
 have vA:∀(q:Ps)(c:List V)(t:Nat),look q G=some (.cells c t 0 false true)->(c.all λv=>match v with|.int _ _=>true|_=>false)=true->H'[Cf q]?=some (.cells (qT c) t (0,0)):=by
  intro q c t hq hc
  obtain⟨fv,base,kap,x,h1,h2,_,arr,lk,rfl,h4,_,h6,_,h8⟩:=r.ob (.o q) (.cells c t 0 false true) (by rw[<-EJ,hg];exact hq) trivial
  have:=hl (.o q) _ rfl
  rw[this] at h1
  cases h1
  obtain⟨_,h9⟩:=h8 rfl
  rw[h9 rfl rfl] at h2
  rw[h2,aiH hc h4 h6]
 have all:∀k,k<H.size->H'[k]?=H[k]?:=by
  intro k hk
  cases hi:QD k with
  |false=>
   have:wz H k=some H[k]:=by unfold wz;rw[hi];simp[hk]
   rw[r.un k _ this]
   simp[hk]
  |true=>
   unfold QD at hi
   simp only[Bool.or_eq_true,Nat.beq_eq] at hi
   rcases hi with((rfl|rfl)|rfl)|rfl
   ·rw[ht.h0];have:=vA (lQ 0) Cz 260 rfl afe;rwa[pz] at this
   ·rw[ht.h1];have:=vA (lQ 1) ZZ 263 rfl afd;rwa[pz] at this
   ·rw[ht.h5];have:=vA (lQ 5) zV 345 rfl afc;rwa[pz] at this
   ·rw[ht.h7];have:=vA (lQ 7) Cx 374 rfl afb;rwa[pz] at this
 refine⟨?_,all⟩
 have:=all (H.size-1) (by omega)
 rcases Nat.lt_or_ge (H.size-1) H'.size with h|h
 ·omega
 ·rw[Array.getElem?_eq_none h,Array.getElem?_eq_getElem (by omega)] at this
  cases this
theorem WT{f:FuncId}{vs:List V}{xs:List Value}{res:V}{u:Value}(hb:∃fn,Tryz.prog.funcs[f]?=some fn/\fn.body.isSome=true)(ju:Nv f vs (Te G 0 QM) (wH G res)=true)(hd:∀ρ M,iz ρ M vs xs)(hu:∀ρ M v,Dn ρ M res v->v=u){H:Heap}(ht:sO H):
 Ex.Fn Tryz.prog f xs.toArray H λv H'=>v=u/\H.size<=H'.size/\∀k,k<H.size->H'[k]?=H[k]?:=by
 have r:=ac1 ht (M:=0) (hi:=QM) (Nat.zero_le _)
 have pg:0<H.size:=(Array.getElem?_eq_some_iff.1 ht.h0).1
 have fin:∀v H',Af ac0 0 (wz H) (wH G res) v H'->v=u/\H.size<=H'.size/\∀k,k<H.size->H'[k]?=H[k]?:=by
  rintro v H' ⟨ρ',v',h',hle,r',ZT,hf⟩
  obtain⟨h1,h2⟩:=gQ (show(fE v' res&&wQ (QU h'.t) G)=true from hf)
  obtain⟨rfl,_⟩:=OE h1
  obtain⟨q1,q2⟩:=agW ht hle r' h2 pg
  exact⟨hu _ _ _ ZT,q1,q2⟩
 rcases aiw 0 ac0 (wz H) (Te G 0 QM) H f vs xs _ r (hd _ _) ju with⟨fn,hf,afs,X5⟩|ahw
 ·exact X5.mono λv H' h=>fin v H' h
 ·intro w hw
  obtain⟨fn,hf,afs⟩:=hb
  obtain⟨u',w',h1,_⟩:=ahw w hw
  rw[sw vJ hf afs] at h1
  cases h1
theorem acK{H:Heap}(ht:sO H):Ex.Fn Tryz.prog 8 #[] H λv H'=>v=.bool true/\H.size<=H'.size/\∀k,k<H.size->H'[k]?=H[k]?:=
 WT (xs:=[]) ⟨_,Tryz.func8,by kernel_rfl⟩ Wi (λ_ _=>.nil) (λ_ _ v h=>by cases h;rfl) ht
theorem Wl:Nv 217 [.str 1 120] (Te G 0 QM) (wH G (.str 1 120))=true:=by kernel_rfl
theorem acL{H:Heap}(ht:sO H):Ex.Fn Tryz.prog 217 #[.string (strOf 1 120)] H λv H'=>v=.string (strOf 1 120)/\H.size<=H'.size/\∀k,k<H.size->H'[k]?=H[k]?:=
 WT (xs:=[.string (strOf 1 120)]) ⟨_,Tryz.func217,by kernel_rfl⟩ Wl (λ_ _=>.cons (.str _ _) .nil) (λ_ _ v h=>by cases h;rfl) ht
end Go.X
namespace Go.X
open Go.Ex Go.Proofs Go.Lib Go.Proofs.YtmdbfgemefalmaaGreatDoor
theorem Et{w:World}(h:w.ShapedOpen Tryz.prog){g t:Nat}(hg:g<Tryz.prog.globals.size)(h0:(((begin Tryz.prog (λ_ _=>0) default).world.heap[g]?).bind Obj.row?).map (·.2)=some t):
 ∃cs n,w.heap[g]?=some (.cells cs t (0,0))/\cs.size=n/\(((begin Tryz.prog (λ_ _=>0) default).world.heap[g]?).bind Obj.row?).map (·.1.size)=some n:=by
 obtain⟨⟨zero,t'⟩,hz,rfl⟩:=Option.map_eq_some_iff.1 h0
 obtain⟨cs,hh,hs,_⟩:=h.1 g zero t' hg hz
 exact⟨cs,_,hh,hs,by rw[hz];rfl⟩
theorem NH{w:World}(h:w.ShapedOpen Tryz.prog){n:String}{d:DataW Unit}(hr:VarReads Tryz.prog w n d){g t e len:Nat}{k:IntKind}{zs:List Int}(hg:g<Tryz.prog.globals.size)
 (h0:(((begin Tryz.prog (λ_ _=>0) default).world.heap[g]?).bind Obj.row?).map (·.2)=some t)(hn:Tryz.prog.globalNamed n=some g)(ht:(Tryz.prog.globals[g]?).map (·.type)=some t)
 (hu:Tryz.prog.underlying t=some (.array len e))(he:Tryz.prog.underlying e=some (.int k))(R0:Tryz.prog.cellsOf e=1)(M0:Tryz.prog.cellsOf t=len)(hd:d=tabData k zs){arr:Array Value}(ha:arr=(zs.map λz=>Value.int k z).toArray):
 w.heap[g]?=some (.cells arr t (0,0)):=by
 obtain⟨cs,_,hh,_⟩:=Et h hg h0
 obtain⟨g',t',As,fuel,p,QP,BF,hv,ZT⟩:=hr
 obtain rfl:=Option.some.inj (hn.symm.trans QP)
 obtain rfl:=Option.some.inj (ht.symm.trans BF)
 subst hd
 have xW:=cells_of_tab hu he R0 M0 ZT
 unfold World.var? at hv
 rw[hn] at hv
 simp only[Option.bind_some,hh,Option.some.injEq] at hv
 subst hv
 rw[hh,ha,<-xW]
theorem Y8:((List.range 16).all λi=>match ZZ[2*i]?,ZZ[2*i+1]? with|some (.int .u8 a),some (.int .u8 b)=>decide (a=accLo i)&&decide (b=accHi i)|_,_=>false)=true:=by kernel_rfl
theorem aiI{i:Nat}(hi:i<16):ZZ[2*i]?=some (.int .u8 (accLo i))/\ZZ[2*i+1]?=some (.int .u8 (accHi i)):=by
 have h:=List.all_eq_true.1 Y8 i (List.mem_range.2 hi)
 split at h
 ·rename_i a b h1 h2
  simp only[Bool.and_eq_true,decide_eq_true_eq] at h
  rw[h1,h2,h.1,h.2]
  exact⟨rfl,rfl⟩
 ·cases h
theorem amh{w:World}(h:w.ShapedOpen Tryz.prog):∃t fr m,w.heap[6]?=some (.cells #[.int .i64 m] t fr):=by
 obtain⟨cs,n,hh,hs,hn⟩:=Et h (g:=6) (t:=3) (of_decide_eq_true (by kernel_rfl)) (by kernel_rfl)
 have h1:(((begin Tryz.prog (λ_ _=>0) default).world.heap[6]?).bind Obj.row?).map (·.1.size)=some 1:=by kernel_rfl
 obtain rfl:=Option.some.inj (h1.symm.trans hn)
 obtain⟨m,hm⟩:=cell_of_shapedOpen_int (P:=Tryz.prog) (g:=6) (t:=3) (zero:=#[.int .i64 0]) h (of_decide_eq_true (by kernel_rfl)) (by kernel_rfl) rfl (by kernel_rfl) (by kernel_rfl) Tryz.underlying3
 unfold World.cell? at hm
 simp only[hh] at hm
 refine⟨3,(0,0),m,?_⟩
 rw[hh]
 congr 2
 apply Array.ext_getElem?
 intro j
 match j with
 |0=>simpa using hm
 |j+1=>rw[Array.getElem?_eq_none (by omega),Array.getElem?_eq_none (by simp)]
theorem acM{w:World}(h:w.ShapedOpen Tryz.prog)(hl:laidMetH Tryz.prog Rows.topManyRow.laid w):sO w.heap:=by
 rw[MakeChecks.laidMetH_plain _ _ _ (by kernel_rfl)] at hl
 have r0:=laidMet.reads hl (n:= "unicode/utf8.first") (d:=Rows.laid_unicode_utf8_first) (by simp[Rows.topManyRow])
 have r1:=laidMet.reads hl (n:= "unicode/utf8.acceptRanges") (d:=Rows.laid_unicode_utf8_acceptRanges) (by simp[Rows.topManyRow])
 have r6:=laidMet.reads hl (n:= "internal/strconv.uint64pow10") (d:=Rows.laid_internal_strconv_uint64pow10) (by simp[Rows.topManyRow])
 have r7:=laidMet.reads hl (n:= "math/bits.deBruijn64tab") (d:=Rows.laid_math_bits_deBruijn64tab) (by simp[Rows.topManyRow])
 refine⟨?_,?_,?_,?_,?_⟩
 ·exact NH h r0 (len:=256) (e:=5) (k:=.u8) (zs:=Cz.map λv=>match v with|.int _ n=>n|_=>0) (of_decide_eq_true (by kernel_rfl)) (by kernel_rfl) (by kernel_rfl) (by kernel_rfl) (by kernel_rfl) (by kernel_rfl) (by kernel_rfl) (by kernel_rfl) (by kernel_rfl) (by kernel_rfl)
 ·have hg:1<Tryz.prog.globals.size:=of_decide_eq_true (by kernel_rfl)
  obtain⟨cs,n,hh,hs,hn⟩:=Et h hg (t:=263) (by kernel_rfl)
  have Zw:(((begin Tryz.prog (λ_ _=>0) default).world.heap[1]?).bind Obj.row?).map (·.1.size)=some 32:=by kernel_rfl
  obtain rfl:=Option.some.inj (Zw.symm.trans hn)
  obtain⟨g,t,As,fuel,p,QP,BF,hv,hd⟩:=r1
  obtain rfl:=Option.some.inj ((show Tryz.prog.globalNamed "unicode/utf8.acceptRanges" =some 1 by kernel_rfl).symm.trans QP)
  obtain rfl:=Option.some.inj ((show(Tryz.prog.globals[1]?).map (·.type)=some 263 by kernel_rfl).symm.trans BF)
  unfold World.var? at hv
  rw[QP] at hv
  simp only[Option.bind_some,hh,Option.some.injEq] at hv
  subst hv
  have hda:(Rows.laid_unicode_utf8_acceptRanges:DataW Unit)=acceptData:=by kernel_rfl
  rw[hda] at hd
  have cell:∀i,i<16->cs[2*i]?=some (.int .u8 (accLo i))/\cs[2*i+1]?=some (.int .u8 (accHi i)):=by
   intro i hi
   obtain⟨ar8,d,q,Xp,he⟩:=array_elem (show Tryz.prog.underlying 263=some (.array 16 262) by kernel_rfl) hd i hi
   simp only[List.getElem?_map,List.getElem?_range hi,Option.map_some,Option.some.injEq] at Xp
   subst Xp
   have hc:Tryz.prog.cellsOf 262=2:=by kernel_rfl
   rw[hc] at he
   obtain⟨fs,yW,RU,Gz,X5⟩:∃fs:Array Field,Tryz.prog.underlying 262=some (.struct fs)/\(fs[0]?).map (λf=>(Tryz.prog.underlying f.type,f.offset,Tryz.prog.cellsOf f.type))=some (some (.int .u8),0,1)/\(fs[1]?).map (λf=>(Tryz.prog.underlying f.type,f.offset,Tryz.prog.cellsOf f.type))=some (some (.int .u8),1,1)/\fs.size=2:=⟨_,Tryz.underlying262,by kernel_rfl,by kernel_rfl,by kernel_rfl⟩
   have xW:=ints_of_struct yW (λj f hj=>by
    match j,hj with
    |0,hj=>rw[hj] at RU;simp only[Option.map_some,Option.some.injEq,Prod.mk.injEq] at RU;exact RU
    |1,hj=>rw[hj] at Gz;simp only[Option.map_some,Option.some.injEq,Prod.mk.injEq] at Gz;exact Gz
    |j+2,hj=>rw[Array.getElem?_eq_none (by omega)] at hj;cases hj) (by rw[hc,X5]) he
   have e0:=congrArg (·[0]?) xW
   have e1:=congrArg (·[1]?) xW
   simp only[List.getElem?_take,List.getElem?_drop] at e0 e1
   constructor
   ·rw[<-Array.getElem?_toList];simpa[Nat.mul_comm] using e0
   ·rw[<-Array.getElem?_toList];simpa[Nat.mul_comm] using e1
  rw[hh]
  congr 2
  apply Array.ext_getElem?
  intro j
  have u3:ZZ.length=32:=by kernel_rfl
  by_cases hj:j<32
  ·have hi:j/2<16:=by omega
   obtain⟨c1,c2⟩:=cell _ hi
   obtain⟨a1,a2⟩:=aiI hi
   rcases Nat.mod_two_eq_zero_or_one j with hm|hm
   ·have:j=2*(j/2):=by omega
    rw[this,c1]
    simp[qT,a1,Ai]
   ·have:j=2*(j/2)+1:=by omega
    rw[this,c2]
    simp[qT,a2,Ai]
  ·rw[Array.getElem?_eq_none (by omega),Array.getElem?_eq_none (by simp[qT,u3];omega)]
 ·exact NH h r7 (len:=64) (e:=5) (k:=.u8) (zs:=zV.map λv=>match v with|.int _ n=>n|_=>0) (of_decide_eq_true (by kernel_rfl)) (by kernel_rfl) (by kernel_rfl) (by kernel_rfl) (by kernel_rfl) (by kernel_rfl) (by kernel_rfl) (by kernel_rfl) (by kernel_rfl) (by kernel_rfl)
 ·exact NH h r6 (len:=20) (e:=162) (k:=.u64) (zs:=Cx.map λv=>match v with|.int _ n=>n|_=>0) (of_decide_eq_true (by kernel_rfl)) (by kernel_rfl) (by kernel_rfl) (by kernel_rfl) (by kernel_rfl) (by kernel_rfl) (by kernel_rfl) (by kernel_rfl) (by kernel_rfl) (by kernel_rfl)
 ·exact amh h
end Go.X
