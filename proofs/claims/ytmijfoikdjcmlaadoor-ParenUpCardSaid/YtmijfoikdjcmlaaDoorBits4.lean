import Derived.Test.YtmijfoikdjcmlaaDoorBits3
/-! Package bits: sizes; what the document does; a few. -/
namespace Go.Ev
theorem rk_unique {m : List Bool} {bit : Bool} {p q : Nat} (hp : p < m.length) (hq : q < m.length) (bp : m[p] = bit) (bq : m[q] = bit) (h : rk m p bit = rk m q bit) : p = q := by
  rcases Nat.lt_trichotomy p q with h1 | h1 | h1
  · have := rk_mono m (show p + 1 ≤ q by omega) bit
    rw [rk_succ hp, if_pos bp] at this
    omega
  · exact h1
  · have := rk_mono m (show q + 1 ≤ p by omega) bit
    rw [rk_succ hq, if_pos bq] at this
    omega
theorem rk_lt_count {m : List Bool} {bit : Bool} {p : Nat} (hp : p < m.length) (bp : m[p] = bit) : rk m p bit < m.count bit := by
  have := rk_mono m (show p + 1 ≤ m.length by omega) bit
  rw [rk_succ hp, if_pos bp, rk_all m (Nat.le_refl _)] at this
  omega
def sizeB (n : Nat) : Nat := 80 * ((n + 63) / 64) + 32 * ((n + 511) / 512)
end Go.Ev
namespace Go.Proofs.YtmijfoikdjcmlaaDoor
open Go.Ev
set_option linter.unusedVariables false

end Go.Proofs.YtmijfoikdjcmlaaDoor
