import Derived.Test.YtojhnakgmihedaaDoorRows
import Derived.Test.YtojhnakgmihedaaDoorTie
import Derived.Test.YtojhnakgmihedaaDoorRepJ
import Derived.Test.YtojhnakgmihedaaDoorEvRow
import Derived.ProofKit
import Derived.OpenShut
import Derived.LaidMore
import Derived.Lay
import Derived.Stop.Joined
import Derived.Lib.LaidU8
/-! From the listed variables to the powers of ten. -/
namespace Go.Proofs.YtojhnakgmihedaaDoor
open Go.Ev Go.RowKit
set_option linter.unusedVariables false
theorem pow_of_laid {W : World} (h : laidMetH Tryd.prog [("math/bits.deBruijn32tab", Rows.laid_math_bits_deBruijn32tab), ("math/bits.deBruijn64tab", Rows.laid_math_bits_deBruijn64tab), ("internal/strconv.uint64pow10", Rows.laid_internal_strconv_uint64pow10)] W) : Pow10 W.heap := by
  intro w hw
  rw [MakeChecks.laidMetH_plain _ _ _ (by kernel_rfl)] at h
  obtain ⟨g, t, cs, fuel, p, hg, ht, hv, hd⟩ := Go.Lib.laidMet.reads h (n := "internal/strconv.uint64pow10") (d := Rows.laid_internal_strconv_uint64pow10) (List.mem_cons_of_mem _ (List.mem_cons_of_mem _ (List.mem_cons_self ..)))
  obtain rfl := Option.some.inj ((show Tryd.prog.globalNamed "internal/strconv.uint64pow10" = some gl_strconv_uint64pow10 by kernel_rfl).symm.trans hg)
  have ht' : (Tryd.prog.globals[gl_strconv_uint64pow10]?).map (·.type) = some gt_strconv_uint64pow10 := by kernel_rfl
  obtain rfl := Option.some.inj (ht'.symm.trans ht)
  have e : (Rows.laid_internal_strconv_uint64pow10 : DataW Unit) = Go.Lib.tabData .u64 Go.Lib.pow10Tab := by kernel_rfl
  rw [e] at hd
  have hc := Go.Lib.cells_of_tab (show Tryd.prog.underlying gt_strconv_uint64pow10 = some (.array 20 ge_strconv_uint64pow10) by kernel_rfl) (show Tryd.prog.underlying ge_strconv_uint64pow10 = some (.int .u64) by kernel_rfl) (by kernel_rfl) (by kernel_rfl) hd
  unfold Go.Lib.TabIs
  rw [← hc]
  unfold World.var? at hv ⊢
  rw [hw]
  exact hv
end Go.Proofs.YtojhnakgmihedaaDoor
