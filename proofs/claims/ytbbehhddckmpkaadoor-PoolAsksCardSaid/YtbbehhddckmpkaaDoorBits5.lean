import Derived.Test.YtbbehhddckmpkaaDoorBits4
/-! The laws of package bits. -/
namespace Go.Proofs.YtbbehhddckmpkaaDoor
open Go.Ev
set_option linter.unusedVariables false

theorem begun_spec {n b : Nat} (hn : n ≤ 1099511627776) (hb : 0 < b) (hb2 : b ≤ 1099511627776) {H : Heap} {R : Int → Heap → Prop} (hR : R (((n + b - 1) / b : Nat) : Int) H) : brackenref1_begun.C (n : Int) (b : Int) H R := by
  apply brackenref1_begun.calls
  unfold brackenref1_begun.W
  refine ⟨by omega, letV_mk fun x hx => ?_⟩
  have hd : (n + b - 1) / b ≤ n + b - 1 := Nat.div_le_self _ _
  generalize hq : (n + b - 1) / b = q at hd hR
  have e : x = (q : Int) := by
    rw [hx, wrap_i64 (n := (n : Int) + b) (by omega) (by omega), wrap_i64 (n := (n : Int) + b - 1) (by omega) (by omega), show (n : Int) + b - 1 = ((n + b - 1 : Nat) : Int) by omega,
      show Int.tdiv ((n + b - 1 : Nat) : Int) (b : Int) = (q : Int) from by rw [← hq]; rfl, wrap_i64 (by omega) (by omega)]
  rw [e]
  exact hR
theorem refBitsSize_spec {n : Nat} (hn : n ≤ 1099511627776) {H : Heap} {R : Int → Heap → Prop} (hR : R (sizeB n : Int) H) : brackenref1_BitsSize.C (n : Int) H R := by
  apply brackenref1_BitsSize.calls
  unfold brackenref1_BitsSize.W
  refine begun_spec (b := 64) hn (by decide) (by decide) ?_
  refine begun_spec (b := 512) hn (by decide) (by decide) ?_
  refine begun_spec (b := 64) hn (by decide) (by decide) ?_
  refine letV_mk fun x hx => ?_
  rw [show n + 64 - 1 = n + 63 by omega, show n + 512 - 1 = n + 511 by omega] at hx
  have e : x = (sizeB n : Int) := by
    rw [hx, wrap_i64 (n := 64 * (((n + 63) / 64 : Nat) : Int)) (by omega) (by omega), wrap_i64 (n := 32 * (((n + 511) / 512 : Nat) : Int)) (by omega) (by omega), wrap_i64 (n := 16 * (((n + 63) / 64 : Nat) : Int)) (by omega) (by omega),
      wrap_i64 (n := 64 * (((n + 63) / 64 : Nat) : Int) + 32 * (((n + 511) / 512 : Nat) : Int)) (by omega) (by omega), wrap_i64 (by omega) (by omega)]
    unfold sizeB
    omega
  rw [e]
  exact hR
theorem set_bool (ms : List Bool) (i : Nat) (v : Bool) : (ms.map Value.bool).set i (Value.bool v) = (ms.set i v).map Value.bool := by rw [List.map_set]
end Go.Proofs.YtbbehhddckmpkaaDoor
