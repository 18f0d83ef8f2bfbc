/- Part AK of the proof that the law TopAround answers true at every input, under no condition. -/
import Derived.Test.YtmdbfgemefalmaaGreatDoorQAJ
import Derived.Test.YtmdbfgemefalmaaGreatDoorRows
import Derived.Lib.LaidU8
import Derived.Shelf.Vars
import Derived.LaidMore
import Derived.Lay
set_option linter.unusedVariables false
set_option maxHeartbeats 2000000
set_option maxRecDepth 100000
namespace Go.X
open Go.Ex Go.Proofs Go.Lib
def Uf:V->dB
 |.int k n=>.int k n
 |_=>.bool false
noncomputable def oA(c:List V):Array dB:=(c.map Uf).toArray
theorem CZ:∀{p q:Ps},yW p=yW q->p=q
 |.h,.h,_=>rfl
 |.h,.o _,h=>by simp only[yW] at h;omega
 |.h,.i _,h=>by simp only[yW] at h;omega
 |.o _,.h,h=>by simp only[yW] at h;omega
 |.o p,.o q,h=>by simp only[yW] at h;rw[CZ (p:=p) (q:=q) (by omega)]
 |.o _,.i _,h=>by simp only[yW] at h;omega
 |.i _,.h,h=>by simp only[yW] at h;omega
 |.i _,.o _,h=>by simp only[yW] at h;omega
 |.i p,.i q,h=>by simp only[yW] at h;rw[CZ (p:=p) (q:=q) (by omega)]
def Df:jF:=λp=>match p with|.o q=>some (yW q,0,0)|_=>none
structure gG(H:dw):Prop where
 h0:H[0]?=some (.cells (oA S0) 260 (0,0))
 h1:H[1]?=some (.cells (oA Lb) 263 (0,0))
 h5:H[5]?=some (.cells (oA SZ) 345 (0,0))
 h7:H[7]?=some (.cells (oA Us) 374 (0,0))
 ml:∃t fr m,H[6]?=some (.cells #[.int .i64 m] t fr)
def I3(i:Nat):Bool:=Nat.beq i 0||Nat.beq i 1||Nat.beq i 5||Nat.beq i 7
def K8(H:dw):Un:=λi=>bif I3 i then none else H[i]?
theorem SX(c:List V)(h:(c.all λv=>match v with|.int _ _=>true|_=>false)=true){ρ:jF}{M:Nat}:∀(j:Nat) v,c[j]?=some v->Dn ρ M v (Uf v):=by
 intro j v u
 have:=List.all_eq_true.1 h v (List.mem_of_getElem? u)
 cases v<;>first|exact .int _ _|cases this
theorem II{ρ:jF}{M t:Nat}(c:List V)(h:(c.all λv=>match v with|.int _ _=>true|_=>false)=true):K6 ρ M 0 0 (.cells c t 0 false true) (.cells (oA c) t (0,0)):=by
 refine⟨_,_,rfl,λj v u=>⟨Uf v,?_,SX c h j v u⟩,Nat.le_refl _,by simp[oA,tm],⟨(λh=>by cases h),λ_=>⟨rfl,λ_ _=>rfl⟩⟩⟩
 rw[Nat.zero_add]
 simp[oA,u]
theorem SQ{q:Ps}{o:Ob}(h:look q G=some o):(q=mX 0/\o=Yt)\/(q=mX 1/\o=Ys)\/(q=mX 5/\o=Yr)\/(q=mX 7/\o=Yq):=by
 have u:mX 0=.h:=by kernel_rfl
 have w:mX 1=.o .h:=by kernel_rfl
 have I:mX 5=.o (.i .h):=by kernel_rfl
 have N:mX 7=.o (.o (.o .h)):=by kernel_rfl
 rw[u,w,I,N]
 unfold G at h
 match q,h with
 |.h,h=>simp only[look,Option.some.injEq] at h;exact .inl ⟨rfl,h.symm⟩
 |.o .h,h=>simp only[look,Option.some.injEq] at h;exact .inr (.inl ⟨rfl,h.symm⟩)
 |.o (.o .h),h=>simp[look] at h
 |.o (.o (.o .h)),h=>simp only[look,Option.some.injEq] at h;exact .inr (.inr (.inr ⟨rfl,h.symm⟩))
 |.o (.o (.o (.o p))),h=>simp[look,kf] at h
 |.o (.o (.o (.i p))),h=>simp[look,kf] at h
 |.o (.o (.i p)),h=>simp[look,kf] at h
 |.o (.i .h),h=>simp only[look,Option.some.injEq] at h;exact .inr (.inr (.inl ⟨rfl,h.symm⟩))
 |.o (.i (.o p)),h=>simp[look,kf] at h
 |.o (.i (.i p)),h=>simp[look,kf] at h
 |.i p,h=>simp[look,kf] at h
theorem pM(n:Nat):yW (mX n)=n:=wE n n (Nat.le_refl _)
theorem RB:(S0.all λv=>match v with|.int _ _=>true|_=>false)=true:=by kernel_rfl
theorem RA:(Lb.all λv=>match v with|.int _ _=>true|_=>false)=true:=by kernel_rfl
theorem Rz:(SZ.all λv=>match v with|.int _ _=>true|_=>false)=true:=by kernel_rfl
theorem Ry:(Us.all λv=>match v with|.int _ _=>true|_=>false)=true:=by kernel_rfl
theorem Di{H:dw}(u:gG H){M hi:Nat}(N:M<=hi):R Df M (K8 H) (Fp G 0 hi) H:=by
 have w:∀b o,look b (Fp G 0 hi).t=some o->∃q,b=.o q/\look q G=some o:=by
  intro b o I
  cases b with
  |h=>cases I
  |o q=>exact⟨q,rfl,I⟩
  |i q=>have:look q (Tr.lf:Tr Ob)=some o:=I;rw[kf] at this;cases this
 refine⟨λg=>?_,λp O=>absurd rfl O,λb o I _=>?_,λb W o o' x x' Y Z _ _ e1 e2 e=>?_,λi o hi=>?_,⟨Nat.zero_le _,N⟩,?_⟩
 .show some (yW (mX g),0,0)=_
  rw[pM]
 .obtain⟨q,rfl,hq⟩:=w b o I
  rcases SQ hq with⟨rfl,rfl⟩|⟨rfl,rfl⟩|⟨rfl,rfl⟩|⟨rfl,rfl⟩
  .exact⟨0,0,0,_,by show some (yW (mX 0),0,0)=_;rw[pM],u.h0,rfl,II S0 RB⟩
  .exact⟨1,0,0,_,by show some (yW (mX 1),0,0)=_;rw[pM],u.h1,rfl,II Lb RA⟩
  .exact⟨5,0,0,_,by show some (yW (mX 5),0,0)=_;rw[pM],u.h5,rfl,II SZ Rz⟩
  .exact⟨7,0,0,_,by show some (yW (mX 7),0,0)=_;rw[pM],u.h7,rfl,II Us Ry⟩
 .obtain⟨q,rfl,_⟩:=w b o Y
  obtain⟨q',rfl,_⟩:=w W o' Z
  cases e1;cases e2
  rw[CZ e]
 .unfold K8 at hi
  cases h:I3 i with
  |true=>rw[h] at hi;cases hi
  |false=>rw[h] at hi;exact hi
 .exact u.ml
theorem TX{c:List V}{u:Array dB}{ρ:jF}{M:Nat}(W:(c.all λv=>match v with|.int _ _=>true|_=>false)=true)(h:∀(j:Nat) v,c[j]?=some v->∃y,u[0+j]?=some y/\Dn ρ M v y)(Y:0+tm c 0 0 false=u.size):u=oA c:=by
 apply Array.ext_getElem?
 intro j
 by_cases w:j<c.length
 .obtain⟨y,I,N⟩:=h j c[j] (by simp[w])
  rw[Nat.zero_add] at I
  rw[I]
  have O:=List.all_eq_true.1 W c[j] (List.getElem_mem w)
  have:y=Uf c[j]:=by
   generalize Z:c[j]=v at N O
   cases N with
   |int=>rfl
   |_=>cases O
  simp[oA,w,this]
 .rw[Array.getElem?_eq_none (by simp[tm] at Y;omega),Array.getElem?_eq_none (by simp[oA];omega)]
theorem GV{ρ':jF}{M:Nat}{H H':dw}{h':Hp}(w:gG H)(Y:Le Df ρ')(r:R ρ' M (K8 H) h' H')(Z:JU (vo h'.t) G=true)(ai:0<H.size):H.size<=H'.size/\∀k,k<H.size->H'[k]?=H[k]?:=by
 have hg:=(C3 Z).1
 have u:∀(q:Ps)(c:List V)(t:Nat),look q G=some (.cells c t 0 false true)->(c.all λv=>match v with|.int _ _=>true|_=>false)=true->H'[yW q]?=some (.cells (oA c) t (0,0)):=by
  intro q c t hq hc
  obtain⟨aj,ad,kap,x,N,O,_,ak,am,rfl,h4,_,h6,_,h8⟩:=r.ob (.o q) (.cells c t 0 false true) (by rw[<-AR,hg];exact hq) trivial
  have:=Y (.o q) _ rfl
  rw[this] at N
  cases N
  obtain⟨_,h9⟩:=h8 rfl
  rw[h9 rfl rfl] at O
  rw[O,TX hc h4 h6]
 have I:∀k,k<H.size->H'[k]?=H[k]?:=by
  intro k W
  cases hi:I3 k with
  |false=>
   have:K8 H k=some H[k]:=by unfold K8;rw[hi];simp[W]
   rw[r.un k _ this]
   simp[W]
  |true=>
   unfold I3 at hi
   simp only[Bool.or_eq_true,Nat.beq_eq] at hi
   rcases hi with((rfl|rfl)|rfl)|rfl
   .rw[w.h0];have:=u (mX 0) S0 260 rfl RB;rwa[pM] at this
   .rw[w.h1];have:=u (mX 1) Lb 263 rfl RA;rwa[pM] at this
   .rw[w.h5];have:=u (mX 5) SZ 345 rfl Rz;rwa[pM] at this
   .rw[w.h7];have:=u (mX 7) Us 374 rfl Ry;rwa[pM] at this
 refine⟨?_,I⟩
 have:=I (H.size-1) (by omega)
 rcases Nat.lt_or_ge (H.size-1) H'.size with h|h
 .omega
 .rw[Array.getElem?_eq_none h,Array.getElem?_eq_getElem (by omega)] at this
  cases this
theorem So{f:jt}{vs:List V}{xs:List dB}{I:V}{u:dB}(hb:∃O,Tryz.prog.funcs[f]?=some O/\O.body.isSome=true)(Z:za f vs (Fp G 0 Cl) (wV G I)=true)(hd:∀ρ M,jZ ρ M vs xs)(hu:∀ρ M v,Dn ρ M I v->v=u){H:dw}(ht:gG H):
 Ex.Fn Tryz.prog f xs.toArray H λv H'=>v=u/\H.size<=H'.size/\∀k,k<H.size->H'[k]?=H[k]?:=by
 have r:=Di ht (M:=0) (hi:=Cl) (Nat.zero_le _)
 have ac:0<H.size:=(Array.getElem?_eq_some_iff.1 ht.h0).1
 have ad:∀v H',Af Df 0 (K8 H) (wV G I) v H'->v=u/\H.size<=H'.size/\∀k,k<H.size->H'[k]?=H[k]?:=by
  rintro v H' ⟨ρ',v',h',ae,r',af,W⟩
  obtain⟨Y,h2⟩:=jr (show(fE v' I&&JU (vo h'.t) G)=true from W)
  obtain⟨rfl,_⟩:=DM Y
  obtain⟨q1,q2⟩:=GV ht ae r' h2 ac
  exact⟨hu _ _ _ af,q1,q2⟩
 rcases kH 0 Df (K8 H) (Fp G 0 Cl) H f vs xs _ r (hd _ _) Z with⟨O,W,N,ag⟩|ab
 .exact ag.mono λv H' h=>ad v H' h
 .intro w hw
  obtain⟨O,W,N⟩:=hb
  obtain⟨u',w',Y,_⟩:=ab w hw
  rw[p9 qS W N] at Y
  cases Y
theorem Pd{H:dw}(u:gG H):Ex.Fn Tryz.prog 8 #[] H λv H'=>v=.bool true/\H.size<=H'.size/\∀k,k<H.size->H'[k]?=H[k]?:=
 So (xs:=[]) ⟨_,Tryz.func8,by kernel_rfl⟩ L9 (λ_ _=>.nil) (λ_ _ v h=>by cases h;rfl) u
open Go.Ex Go.Proofs Go.Lib Go.Proofs.YtmdbfgemefalmaaGreatDoor
theorem Am{w:fe}(h:w.ShapedOpen Tryz.prog){g t:Nat}(I:g<Tryz.prog.globals.size)(N:(((begin Tryz.prog (λ_ _=>0) default).world.heap[g]?).bind Obj.row?).map (·.2)=some t):
 ∃cs n,w.heap[g]?=some (.cells cs t (0,0))/\cs.size=n/\(((begin Tryz.prog (λ_ _=>0) default).world.heap[g]?).bind Obj.row?).map (·.1.size)=some n:=by
 obtain⟨⟨zero,O⟩,u,rfl⟩:=Option.map_eq_some_iff.1 N
 obtain⟨cs,W,Y,_⟩:=h.1 g zero O I u
 exact⟨cs,_,W,Y,by rw[u];rfl⟩
theorem GB{w:fe}(h:w.ShapedOpen Tryz.prog){n:String}{d:DataW Unit}(hr:VarReads Tryz.prog w n d){g t e len:Nat}{k:IntKind}{zs:List Int}(hg:g<Tryz.prog.globals.size)
 (h0:(((begin Tryz.prog (λ_ _=>0) default).world.heap[g]?).bind Obj.row?).map (·.2)=some t)(N:Tryz.prog.globalNamed n=some g)(ht:(Tryz.prog.globals[g]?).map (·.type)=some t)
 (hu:Tryz.prog.underlying t=some (.array len e))(he:Tryz.prog.underlying e=some (.int k))(O:Tryz.prog.cellsOf e=1)(W:Tryz.prog.cellsOf t=len)(hd:d=tabData k zs){I:Array dB}(ha:I=(zs.map λz=>Value.int k z).toArray):
 w.heap[g]?=some (.cells I t (0,0)):=by
 obtain⟨cs,_,Y,_⟩:=Am h hg h0
 obtain⟨g',t',an,am,p,Z,aa,u,ab⟩:=hr
 obtain rfl:=Option.some.inj (N.symm.trans Z)
 obtain rfl:=Option.some.inj (ht.symm.trans aa)
 subst hd
 have ac:=cells_of_tab hu he O W ab
 unfold World.var? at u
 rw[N] at u
 simp only[Option.bind_some,Y,Option.some.injEq] at u
 subst u
 rw[Y,ha,<-ac]
theorem Oc:((List.range 16).all λi=>match Lb[2*i]?,Lb[2*i+1]? with|some (.int .u8 a),some (.int .u8 b)=>decide (a=accLo i)&&decide (b=accHi i)|_,_=>false)=true:=by kernel_rfl
theorem TZ{i:Nat}(hi:i<16):Lb[2*i]?=some (.int .u8 (accLo i))/\Lb[2*i+1]?=some (.int .u8 (accHi i)):=by
 have h:=List.all_eq_true.1 Oc i (List.mem_range.2 hi)
 split at h
 .rename_i a b u w
  simp only[Bool.and_eq_true,decide_eq_true_eq] at h
  rw[u,w,h.1,h.2]
  exact⟨rfl,rfl⟩
 .cases h
theorem Vs{w:fe}(h:w.ShapedOpen Tryz.prog):∃t N m,w.heap[6]?=some (.cells #[.int .i64 m] t N):=by
 obtain⟨cs,n,I,Y,O⟩:=Am h (g:=6) (t:=3) (of_decide_eq_true (by kernel_rfl)) (by kernel_rfl)
 have W:(((begin Tryz.prog (λ_ _=>0) default).world.heap[6]?).bind Obj.row?).map (·.1.size)=some 1:=by kernel_rfl
 obtain rfl:=Option.some.inj (W.symm.trans O)
 obtain⟨m,u⟩:=cell_of_shapedOpen_int (P:=Tryz.prog) (g:=6) (t:=3) (zero:=#[.int .i64 0]) h (of_decide_eq_true (by kernel_rfl)) (by kernel_rfl) rfl (by kernel_rfl) (by kernel_rfl) Tryz.underlying3
 unfold World.cell? at u
 simp only[I] at u
 refine⟨3,(0,0),m,?_⟩
 rw[I]
 congr 2
 apply Array.ext_getElem?
 intro j
 match j with
 |0=>simpa using u
 |j+1=>rw[Array.getElem?_eq_none (by omega),Array.getElem?_eq_none (by simp)]
theorem Pe{w:fe}(h:w.ShapedOpen Tryz.prog)(I:laidMetH Tryz.prog Rows.topAroundRow.laid w):gG w.heap:=by
 rw[MakeChecks.laidMetH_plain _ _ _ (by kernel_rfl)] at I
 have r0:=laidMet.reads I (n:= "unicode/utf8.first") (d:=Rows.laid_unicode_utf8_first) (by simp[Rows.topAroundRow])
 have r1:=laidMet.reads I (n:= "unicode/utf8.acceptRanges") (d:=Rows.laid_unicode_utf8_acceptRanges) (by simp[Rows.topAroundRow])
 have r6:=laidMet.reads I (n:= "internal/strconv.uint64pow10") (d:=Rows.laid_internal_strconv_uint64pow10) (by simp[Rows.topAroundRow])
 have r7:=laidMet.reads I (n:= "math/bits.deBruijn64tab") (d:=Rows.laid_math_bits_deBruijn64tab) (by simp[Rows.topAroundRow])
 refine⟨?_,?_,?_,?_,?_⟩
 .exact GB h r0 (len:=256) (e:=5) (k:=.u8) (zs:=S0.map λv=>match v with|.int _ n=>n|_=>0) (of_decide_eq_true (by kernel_rfl)) (by kernel_rfl) (by kernel_rfl) (by kernel_rfl) (by kernel_rfl) (by kernel_rfl) (by kernel_rfl) (by kernel_rfl) (by kernel_rfl) (by kernel_rfl)
 .have hg:1<Tryz.prog.globals.size:=of_decide_eq_true (by kernel_rfl)
  obtain⟨cs,n,hh,hs,hn⟩:=Am h hg (t:=263) (by kernel_rfl)
  have ae:(((begin Tryz.prog (λ_ _=>0) default).world.heap[1]?).bind Obj.row?).map (·.1.size)=some 32:=by kernel_rfl
  obtain rfl:=Option.some.inj (ae.symm.trans hn)
  obtain⟨g,t,aD,az,p,Z,af,Y,hd⟩:=r1
  obtain rfl:=Option.some.inj ((show Tryz.prog.globalNamed "unicode/utf8.acceptRanges" =some 1 by kernel_rfl).symm.trans Z)
  obtain rfl:=Option.some.inj ((show(Tryz.prog.globals[1]?).map (·.type)=some 263 by kernel_rfl).symm.trans af)
  unfold World.var? at Y
  rw[Z] at Y
  simp only[Option.bind_some,hh,Option.some.injEq] at Y
  subst Y
  have ah:(Rows.laid_unicode_utf8_acceptRanges:DataW Unit)=acceptData:=by kernel_rfl
  rw[ah] at hd
  have ac:∀i,i<16->cs[2*i]?=some (.int .u8 (accLo i))/\cs[2*i+1]?=some (.int .u8 (accHi i)):=by
   intro i hi
   obtain⟨aq,d,q,aa,he⟩:=array_elem (show Tryz.prog.underlying 263=some (.array 16 262) by kernel_rfl) hd i hi
   simp only[List.getElem?_map,List.getElem?_range hi,Option.map_some,Option.some.injEq] at aa
   subst aa
   have hc:Tryz.prog.cellsOf 262=2:=by kernel_rfl
   rw[hc] at he
   obtain⟨N,ak,O,W,am⟩:∃N:Array Field,Tryz.prog.underlying 262=some (.struct N)/\(N[0]?).map (λf=>(Tryz.prog.underlying f.type,f.offset,Tryz.prog.cellsOf f.type))=some (some (.int .u8),0,1)/\(N[1]?).map (λf=>(Tryz.prog.underlying f.type,f.offset,Tryz.prog.cellsOf f.type))=some (some (.int .u8),1,1)/\N.size=2:=⟨_,Tryz.underlying262,by kernel_rfl,by kernel_rfl,by kernel_rfl⟩
   have ab:=ints_of_struct ak (λj f u=>by
    match j,u with
    |0,u=>rw[u] at O;simp only[Option.map_some,Option.some.injEq,Prod.mk.injEq] at O;exact O
    |1,u=>rw[u] at W;simp only[Option.map_some,Option.some.injEq,Prod.mk.injEq] at W;exact W
    |j+2,u=>rw[Array.getElem?_eq_none (by omega)] at u;cases u) (by rw[hc,am]) he
   have e0:=congrArg (·[0]?) ab
   have e1:=congrArg (·[1]?) ab
   simp only[List.getElem?_take,List.getElem?_drop] at e0 e1
   constructor
   .rw[<-Array.getElem?_toList];simpa[Nat.mul_comm] using e0
   .rw[<-Array.getElem?_toList];simpa[Nat.mul_comm] using e1
  rw[hh]
  congr 2
  apply Array.ext_getElem?
  intro j
  have ap:Lb.length=32:=by kernel_rfl
  by_cases u:j<32
  .have hi:j/2<16:=by omega
   obtain⟨c1,c2⟩:=ac _ hi
   obtain⟨a1,a2⟩:=TZ hi
   rcases Nat.mod_two_eq_zero_or_one j with hm|hm
   .have:j=2*(j/2):=by omega
    rw[this,c1]
    simp[oA,a1,Uf]
   .have:j=2*(j/2)+1:=by omega
    rw[this,c2]
    simp[oA,a2,Uf]
  .rw[Array.getElem?_eq_none (by omega),Array.getElem?_eq_none (by simp[oA,ap];omega)]
 .exact GB h r7 (len:=64) (e:=5) (k:=.u8) (zs:=SZ.map λv=>match v with|.int _ n=>n|_=>0) (of_decide_eq_true (by kernel_rfl)) (by kernel_rfl) (by kernel_rfl) (by kernel_rfl) (by kernel_rfl) (by kernel_rfl) (by kernel_rfl) (by kernel_rfl) (by kernel_rfl) (by kernel_rfl)
 .exact GB h r6 (len:=20) (e:=162) (k:=.u64) (zs:=Us.map λv=>match v with|.int _ n=>n|_=>0) (of_decide_eq_true (by kernel_rfl)) (by kernel_rfl) (by kernel_rfl) (by kernel_rfl) (by kernel_rfl) (by kernel_rfl) (by kernel_rfl) (by kernel_rfl) (by kernel_rfl) (by kernel_rfl)
 .exact Vs h
end Go.X
