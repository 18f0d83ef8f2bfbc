import Derived.Test.YtmijfoikdjcmlaaDoorBits4
/-! The laws of package bits. -/
namespace Go.Proofs.YtmijfoikdjcmlaaDoor
open Go.Ev
set_option linter.unusedVariables false

theorem refRank_spec {H : Heap} {m : List Bool} {p : Option Addr} {n c : Nat} (hrd : Rd H (m.map Value.bool) p n) (hn : n ≤ 4194304) (k : Int) (bit : Bool) {R : Int → Heap → Prop} (hR : R (rk m k.toNat bit : Int) H) : brackenref1_Rank.C p n c k bit H R := by
  apply brackenref1_Rank.calls
  unfold brackenref1_Rank.W
  have hl : m.length = n := by have := hrd.1; simpa using this
  refine joinW_thru ?_
  refine loopW_mk (fun s q H' => H' = H ∧ ∃ i : Nat, i ≤ n ∧ (i : Int) ≤ max k 0 ∧ s = n - i ∧ q.1 = (rk m i bit : Int) ∧ q.2.1 = (i : Int)) n ⟨rfl, 0, by omega, by omega, rfl, by simp [rk], rfl⟩ ?_
  rintro s ⟨x, y, _⟩ H2 ⟨rfl, i, hi, hik, rfl, hx, hy⟩
  simp only at hx hy
  subst hx hy
  dsimp only
  have hle := rk_le m i bit
  refine joinW_mk (fun _ H' => H' = H2 ∧ (i : Int) < k ∧ i < n) ?_ ?_
  · refine brW_dec (fun h1 => brW_dec (fun h2 => ⟨rfl, h1, by omega⟩) (fun h2 => ?_)) (fun h1 => ?_)
    · have : rk m i bit = rk m k.toNat bit := by rw [rk_all m (by omega), rk_all m (by omega)]
      rw [this]; exact hR
    · have : i = k.toNat := by omega
      rw [this]; exact hR
  · rintro _ H3 ⟨rfl, h1, h2⟩
    obtain ⟨h2', a, rfl, hc⟩ := rd_bool hrd h2
    refine joinW_mk (fun q H' => H' = H3 ∧ q.1 = (rk m (i + 1) bit : Int)) ?_ ?_
    · refine ⟨a, rfl, by omega, by omega, _, by rw [Int.toNat_natCast]; exact hc, ?_⟩
      rw [rk_succ h2']
      refine brW_dec (fun hb => letV_mk fun n7 hn7 => ⟨rfl, ?_⟩) (fun hb => ⟨rfl, ?_⟩)
      · show n7 = _
        rw [hn7, if_pos hb, wrap_i64 (by omega) (by omega)]; rfl
      · rw [if_neg hb]; rfl
    · rintro ⟨x, _⟩ H4 ⟨rfl, hx⟩
      simp only at hx
      subst hx
      refine letV_mk fun i8 hi8 => ⟨n - (i + 1), by omega, rfl, i + 1, by omega, by omega, rfl, rfl, ?_⟩
      show i8 = _
      rw [hi8, wrap_i64 (by omega) (by omega)]; rfl
theorem refSelect_spec {H : Heap} {m : List Bool} {p : Option Addr} {n c : Nat} (hrd : Rd H (m.map Value.bool) p n) (hn : n ≤ 4194304) (j : Int) (bit : Bool) {R : Int → Heap → Prop}
    (h1 : ∀ (p : Nat) (hp : p < m.length), m[p] = bit → (rk m p bit : Int) = j → R (p : Int) H) (h2 : (j < 0 ∨ (m.count bit : Int) ≤ j) → R (-1) H) : brackenref1_Select.C p n c j bit H R := by
  apply brackenref1_Select.calls
  unfold brackenref1_Select.W
  have hl : m.length = n := by have := hrd.1; simpa using this
  refine joinW_thru ?_
  refine loopW_mk (fun s q H' => H' = H ∧ ∃ i : Nat, i ≤ n ∧ (j < 0 ∨ (rk m i bit : Int) ≤ j) ∧ s = n - i ∧ q.1 = (rk m i bit : Int) ∧ q.2.1 = (i : Int)) n ⟨rfl, 0, by omega, by simp [rk]; omega, rfl, by simp [rk], rfl⟩ ?_
  rintro s ⟨x, y, _⟩ H2 ⟨rfl, i, hi, hij, rfl, hx, hy⟩
  simp only at hx hy
  subst hx hy
  dsimp only
  have hle := rk_le m i bit
  refine brW_dec (fun hlt => ?_) (fun hge => ?_)
  · obtain ⟨h2', a, rfl, hc⟩ := rd_bool hrd (i := i) (by omega)
    refine joinW_mk (fun q H' => H' = H2 ∧ q.1 = (rk m (i + 1) bit : Int) ∧ (j < 0 ∨ (rk m (i + 1) bit : Int) ≤ j)) ?_ ?_
    · refine ⟨a, rfl, by omega, by omega, _, by rw [Int.toNat_natCast]; exact hc, ?_⟩
      have hs := rk_succ h2' bit
      refine brW_dec (fun hb => brW_dec (fun hj => h1 i h2' hb hj) (fun hj => letV_mk fun n7 hn7 => ⟨rfl, ?_, ?_⟩)) (fun hb => ⟨rfl, ?_, ?_⟩)
      · show n7 = _
        rw [hn7, hs, if_pos hb, wrap_i64 (by omega) (by omega)]; rfl
      · rw [hs, if_pos hb]; omega
      · rw [hs, if_neg hb]; rfl
      · rw [hs, if_neg hb]; exact hij
    · rintro ⟨x, _⟩ H4 ⟨rfl, hx, hj⟩
      simp only at hx
      subst hx
      refine letV_mk fun i8 hi8 => ⟨n - (i + 1), by omega, rfl, i + 1, by omega, hj, rfl, rfl, ?_⟩
      show i8 = _
      rw [hi8, wrap_i64 (by omega) (by omega)]; rfl
  · have : i = n := by omega
    subst this
    rw [rk_all m (by omega)] at hij
    exact h2 hij
theorem set_bool (ms : List Bool) (i : Nat) (v : Bool) : (ms.map Value.bool).set i (Value.bool v) = (ms.set i v).map Value.bool := by rw [List.map_set]
end Go.Proofs.YtmijfoikdjcmlaaDoor
