import Derived.Test.YtmijfoikdjcmlaaDoorInts2
/-! The laws of package ints. -/
namespace Go.Proofs.YtmijfoikdjcmlaaDoor
open Go.Ev
set_option linter.unusedVariables false

theorem zero_of (m : Nat) (h : ¬ (0 : Int) < (m : Int)) : m = 0 := by omega
theorem refWidth_spec {n : Nat} (hn : n < 2 ^ 64) {H : Heap} {R : Int → Heap → Prop} (hR : R (blen n : Int) H) : brackenref1_Width.C (n : Int) H R := by
  apply brackenref1_Width.calls
  unfold brackenref1_Width.W
  have h64 := blen_64 hn
  refine joinW_thru ?_
  refine loopW_mk (fun k q H' => H' = H ∧ ∃ i : Nat, i ≤ blen n ∧ k = blen n - i ∧ q.1 = ((n >>> i : Nat) : Int) ∧ q.2.1 = (i : Int)) (blen n) ⟨rfl, 0, by omega, rfl, rfl, rfl⟩ ?_
  rintro k ⟨x, y, _⟩ H' ⟨rfl, i, hi, rfl, hx, hy⟩
  simp only at hx hy
  subst hx hy
  dsimp only
  have hb := blen_shr n i
  refine brW_dec (fun h0 => ?_) (fun h0 => ?_)
  · have hp := blen_pos (n := n >>> i) (by omega)
    refine letV_mk fun w hw => ⟨by decide, letV_mk fun m hm => ⟨blen n - (i + 1), by omega, rfl, i + 1, by omega, rfl, ?_, ?_⟩⟩
    · show m = _
      rw [hm, show (1 : Int) = ((1 : Nat) : Int) from rfl, shrW_nat (shr_lt hn i), ← Nat.shiftRight_add]
    · show w = _
      rw [hw, wrap_i64 (by omega) (by omega)]; rfl
  · have : n >>> i = 0 := zero_of _ h0
    rw [this, blen_zero] at hb
    have : i = blen n := by omega
    subst this
    exact hR
theorem wide_snoc (l : List Nat) (x : Nat) : wide (l ++ [x]) = max (wide l) (blen x) := by unfold wide; rw [maxL_snoc, blen_max]
theorem wide_zeros (k : Nat) : wide (List.replicate k 0) = 0 := by
  have : maxL (List.replicate k 0) = 0 := Nat.le_zero.1 (maxL_le fun x hx => by rw [List.mem_replicate] at hx; omega)
  unfold wide
  rw [this]
  rfl
end Go.Proofs.YtmijfoikdjcmlaaDoor
