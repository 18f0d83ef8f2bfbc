import Derived.Test.YtmijfoikdjcmlaaDoorRows
import Derived.Test.YtmijfoikdjcmlaaDoorTie
import Derived.Test.YtmijfoikdjcmlaaDoorBits2
import Derived.Test.YtmijfoikdjcmlaaDoorEvRow
import Derived.ProofKit
import Derived.OpenShut
import Derived.LaidMore
import Derived.Lay
import Derived.Stop.Joined
/-! From the listed variable to the table's cells. -/
namespace Go.Proofs.YtmijfoikdjcmlaaDoor
open Go.Ev Go.RowKit
set_option linter.unusedVariables false
theorem deb_of_laid {W : World} (h : laidMetH Tryd.prog [("math/bits.deBruijn64tab", Rows.laid_math_bits_deBruijn64tab)] W) : Deb W.heap := by
  intro r hr
  rw [MakeChecks.laidMetH_plain _ _ _ (by kernel_rfl)] at h
  obtain ⟨ps, ⟨g, t, cs, fuel, p, q, hg, ht, hv, hd, _, _⟩, _, _⟩ := h
  obtain rfl := Option.some.inj ((show Tryd.prog.globalNamed "math/bits.deBruijn64tab" = some gl_bits_deBruijn64tab by kernel_rfl).symm.trans hg)
  have ht' : (Tryd.prog.globals[gl_bits_deBruijn64tab]?).map (·.type) = some gt_bits_deBruijn64tab := by kernel_rfl
  obtain rfl := Option.some.inj (ht'.symm.trans ht)
  obtain ⟨xs, m, _, ex, _, hl, hel⟩ := DataW.trod_array (show Tryd.prog.underlying gt_bits_deBruijn64tab = some (.array 64 ge_bits_deBruijn64tab) by kernel_rfl) hd
  have c5 : Tryd.prog.cellsOf ge_bits_deBruijn64tab = 1 := by kernel_rfl
  have hE := hel r hr
  rw [c5, Nat.mul_one, List.getElem?_eq_getElem (by omega)] at hE
  obtain ⟨z, e1, e2, _⟩ := DataW.trod_int (show Tryd.prog.underlying ge_bits_deBruijn64tab = some (.int .u8) by kernel_rfl) hE
  have hlen : Go.Lib.deBruijn64tab.length = 64 := by decide
  have e3 : (xs.map (·.1)) = Go.Lib.deBruijn64tab.map fun n : Nat => .lit (.int .u8 (n : Int)) := (DataW.agg.inj (Prod.mk.inj ex).1).symm
  have e4 : (xs.map (·.1))[r]? = (Go.Lib.deBruijn64tab.map fun n : Nat => (DataW.lit (.int .u8 (n : Int)) : DataW Unit))[r]? := by rw [e3]
  rw [List.getElem?_map, List.getElem?_map, List.getElem?_eq_getElem (by omega : r < xs.length), List.getElem?_eq_getElem (by omega : r < Go.Lib.deBruijn64tab.length), e2] at e4
  have hz : z = (Go.Lib.deBruijn64tab.getD r 0 : Int) := by
    simp only [Option.map_some, Option.some.injEq, DataW.lit.injEq, Lit.int.injEq, true_and] at e4
    rw [e4, List.getD_eq_getElem?_getD, List.getElem?_eq_getElem (by omega : r < Go.Lib.deBruijn64tab.length)]; rfl
  rw [add_mk, Nat.zero_add, ← cell?_eq, World.var?_cell hg hv r, ← hz]
  have : cs.toList[r]? = some (.int .u8 z) := by
    have h0 : ((cs.toList.drop r).take 1)[0]? = some (.int .u8 z) := by rw [e1]; rfl
    simpa using h0
  simpa using this
end Go.Proofs.YtmijfoikdjcmlaaDoor
