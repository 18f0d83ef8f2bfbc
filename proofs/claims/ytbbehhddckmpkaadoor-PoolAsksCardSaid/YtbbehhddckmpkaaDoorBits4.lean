import Derived.Test.YtbbehhddckmpkaaDoorBits3
/-! Package bits: sizes; what the document does; a few. -/
namespace Go.Ev
theorem rk_unique {m : List Bool} {bit : Bool} {p q : Nat} (hp : p < m.length) (hq : q < m.length) (bp : m[p] = bit) (bq : m[q] = bit) (h : rk m p bit = rk m q bit) : p = q := by
  rcases Nat.lt_trichotomy p q with h1 | h1 | h1
  · have := rk_mono m (show p + 1 ≤ q by omega) bit
    rw [rk_succ hp, if_pos bp] at this
    omega
  · exact h1
  · have := rk_mono m (show q + 1 ≤ p by omega) bit
    rw [rk_succ hq, if_pos bq] at this
    omega
theorem rk_lt_count {m : List Bool} {bit : Bool} {p : Nat} (hp : p < m.length) (bp : m[p] = bit) : rk m p bit < m.count bit := by
  have := rk_mono m (show p + 1 ≤ m.length by omega) bit
  rw [rk_succ hp, if_pos bp, rk_all m (Nat.le_refl _)] at this
  omega
def sizeB (n : Nat) : Nat := 80 * ((n + 63) / 64) + 32 * ((n + 511) / 512)
end Go.Ev
namespace Go.Proofs.YtbbehhddckmpkaaDoor
open Go.Ev
set_option linter.unusedVariables false

theorem Bound_spec {n : Nat} (hn : n ≤ 1099511627776) {H : Heap} {R : Int → Heap → Prop} (hR : R (sizeB n : Int) H) : bits_Bound.C (n : Int) H R := by
  apply bits_Bound.calls
  unfold bits_Bound.W
  refine ⟨by decide, by decide, letV_mk fun x hx => ?_⟩
  have e : x = (sizeB n : Int) := by
    rw [hx, wrap_i64 (n := (n : Int) + 64) (by omega) (by omega), wrap_i64 (n := (n : Int) + 64 - 1) (by omega) (by omega), wrap_i64 (n := (n : Int) + 512) (by omega) (by omega), wrap_i64 (n := (n : Int) + 512 - 1) (by omega) (by omega),
      show (n : Int) + 64 - 1 = ((n + 63 : Nat) : Int) by omega, show (n : Int) + 512 - 1 = ((n + 511 : Nat) : Int) by omega, show Int.tdiv ((n + 63 : Nat) : Int) 64 = (((n + 63) / 64 : Nat) : Int) from rfl, show Int.tdiv ((n + 511 : Nat) : Int) 512 = (((n + 511) / 512 : Nat) : Int) from rfl,
      wrap_i64 (n := (((n + 63) / 64 : Nat) : Int)) (by omega) (by omega), wrap_i64 (n := (((n + 511) / 512 : Nat) : Int)) (by omega) (by omega), wrap_i64 (n := 80 * (((n + 63) / 64 : Nat) : Int)) (by omega) (by omega), wrap_i64 (n := 32 * (((n + 511) / 512 : Nat) : Int)) (by omega) (by omega), wrap_i64 (by omega) (by omega)]
    unfold sizeB
    omega
  rw [e]
  exact hR
end Go.Proofs.YtbbehhddckmpkaaDoor
