/- The tie of the listed variables to the text of the program. -/
import Derived.Test.YtmdbfgemefalmaaGreatDoorRows
import Derived.LaidOnce
import Derived.SevenTiedAt
set_option linter.unusedVariables false
namespace Go.Proofs.YtmdbfgemefalmaaGreatDoor
open Go
theorem pP:Tryz.pinned.checked.prog.pinnedFits "unicode/utf8.first" =true:=by kernel_rfl
theorem pQ:Tryz.pinned.checked.prog.pinnedFits "unicode.CaseRanges" =true:=by kernel_rfl
theorem E1:Tryz.pinned.checked.prog.headLifts.contains "ownunsafe" =false:=by kernel_rfl
theorem VH:Tryz.pinned.checked.prog.listedFits [("unicode/utf8.first",Rows.laid_unicode_utf8_first),("unicode/utf8.acceptRanges",Rows.laid_unicode_utf8_acceptRanges),("unicode.asciiFold",Rows.laid_unicode_asciiFold),("unicode.caseOrbit",Rows.laid_unicode_caseOrbit),("unicode.CaseRanges",Rows.laid_unicode_CaseRanges),("internal/strconv.uint64pow10",Rows.laid_internal_strconv_uint64pow10),("math/bits.deBruijn32tab",Rows.laid_math_bits_deBruijn32tab),("math/bits.deBruijn64tab",Rows.laid_math_bits_deBruijn64tab),("strconv.ErrSyntax",Rows.laid_strconv_ErrSyntax),("strconv.ErrRange",Rows.laid_strconv_ErrRange)]=true:=by
 unfold Program.listedFits
 rw[E1]
 kernel_rfl
def C5:List (String×DataW Unit):=[("unicode/utf8.acceptRanges",Rows.laid_unicode_utf8_acceptRanges),("unicode.asciiFold",Rows.laid_unicode_asciiFold),("unicode.caseOrbit",Rows.laid_unicode_caseOrbit),("internal/strconv.uint64pow10",Rows.laid_internal_strconv_uint64pow10),("math/bits.deBruijn32tab",Rows.laid_math_bits_deBruijn32tab),("math/bits.deBruijn64tab",Rows.laid_math_bits_deBruijn64tab),("strconv.ErrSyntax",Rows.laid_strconv_ErrSyntax),("strconv.ErrRange",Rows.laid_strconv_ErrRange)]
theorem Xq:Tryz.prog.worded (varsWordLater true)=true:=by kernel_rfl
theorem Xp:Tryz.prog.worded (varsWordLater !true)=false:=by kernel_rfl
theorem Xo:Tryz.prog.worded rootWordLater=true:=by kernel_rfl
theorem Xn:C5.map (λx=>Tryz.prog.kindOfLater x.1)=([.data,.data,.data,.data,.data,.data,.sentinel,.sentinel]:List LaidKind).map some:=by kernel_rfl
theorem Xm:(Tryz.prog.funcNamed "gosem.cut.vars").isSome=true:=by kernel_rfl
theorem Xl:varsNamedLaterB Tryz.prog (varsId Tryz.prog) C5=true:=by kernel_rfl
theorem Xk:∀os tape,varsDone Tryz.prog 400 (varsId Tryz.prog) os tape=true:=λ_ _=>by kernel_rfl
theorem Xj:∀os tape,(DataW.laidRun Tryz.prog (varsWorld Tryz.prog 400 (varsId Tryz.prog) os tape).memory 8 (C5.map (·.1))).map (·.1)=some C5:=λ_ _=>by kernel_rfl
theorem UM:∀os tape,(DataW.laidRun Tryz.prog (varsWorld Tryz.prog 400 (varsId Tryz.prog) os tape).memory 8 (C5.map (·.1))).map (λx=>nodupBits 4096 x.2 0)=some true:=λ_ _=>by kernel_rfl
theorem UL:∀os tape,(DataW.laidRun Tryz.prog (varsWorld Tryz.prog 400 (varsId Tryz.prog) os tape).memory 8 (C5.map (·.1))).map (λx=>laidRowsB Tryz.prog (varsWorld Tryz.prog 400 (varsId Tryz.prog) os tape).memory x.2)=some true:=λ_ _=>by kernel_rfl
theorem Xi:∀os tape,(DataW.laidRun Tryz.prog (varsWorld Tryz.prog 400 (varsId Tryz.prog) os tape).memory 8 (C5.map (·.1))).map (λx=>decide x.2.Nodup&&laidRowsB Tryz.prog (varsWorld Tryz.prog 400 (varsId Tryz.prog) os tape).memory x.2)=some true:=by
 intro os tape
 have ha:=UM os tape
 have hb:=UL os tape
 cases hx:(DataW.laidRun Tryz.prog (varsWorld Tryz.prog 400 (varsId Tryz.prog) os tape).memory 8 (C5.map (·.1))) with
 |none=>rw[hx] at ha;cases ha
 |some x=>
  rw[hx] at ha hb
  simp only[Option.map_some,Option.some.injEq] at ha hb⊢
  rw[hb,decide_eq_true (nodupBits_sound ha).1]
  rfl
theorem tie:Tryz.prog.laidByTextLater C5 [.data,.data,.data,.data,.data,.data,.sentinel,.sentinel] true:=
 Program.laidByTextLater_by_run 400 8 Xq Xp Xo Xn Xm Xl Xk Xj Xi
theorem wI:Rows.topAroundRow.laidByTextAt .later Tryz.pinned [.pinned,.data,.data,.data,.pinned,.data,.data,.data,.sentinel,.sentinel] true:=
 OpenClaim.laidByTextAt_pinned rfl rfl tie rfl rfl rfl rfl (λy hy _e=>by
  simp only[Rows.topAroundRow,List.zip_cons_cons,List.zip_nil_right,List.mem_cons,List.mem_nil_iff,or_false] at hy
  rcases hy with rfl|rfl|rfl|rfl|rfl|rfl|rfl|rfl|rfl|rfl
  .exact⟨pP,by kernel_rfl⟩
  .cases _e
  .cases _e
  .cases _e
  .exact⟨pQ,by kernel_rfl⟩
  .cases _e
  .cases _e
  .cases _e
  .cases _e
  .cases _e) VH
end Go.Proofs.YtmdbfgemefalmaaGreatDoor
