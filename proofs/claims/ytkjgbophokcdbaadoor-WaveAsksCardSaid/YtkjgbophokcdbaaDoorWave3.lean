import Derived.Test.YtkjgbophokcdbaaDoorWave2
/-! Package wave: ranks. -/
namespace Go.Proofs.YtkjgbophokcdbaaDoor
open Go.Ev
set_option linter.unusedVariables false
section
variable {H : Heap} {g : Nat} {l : List Nat} {sg st : Nat} {F : Nat → Prop}
theorem Wave.sym (h : Wave H g l sg st F) : (∀ x ∈ l, x < 2 ^ nRows sg) ∧ ∀ s, s < sg → s < 2 ^ nRows sg := by
  have hp := h.few
  have hl := lt_blen (sg - 1)
  obtain ⟨_, _, _, _, h, _⟩ := h
  unfold nRows
  exact ⟨fun x hx => by have := h.vals x hx; omega, fun s hs => by omega⟩
theorem Wave_rank_spec (h : Wave H g l sg st F) (hst : st ≤ 274877906944) (k : Int) {s : Nat} (hs : s < sg) {R : Int → Heap → Prop}
    (hR : ∀ H', Wave H' g l sg (st + 2 * nRows sg) F → Fr (fun k => k = g) H H' → R ((l.take k.toNat).count s : Int) H') : wave_Wave_rank.C (some ⟨g, 0, none⟩) k (s : Int) H R := by
  obtain ⟨_, c1, _⟩ := h.cells
  have hfew := h.few
  have hn := nRows_le hfew.2.2
  obtain ⟨hv, hsy⟩ := h.sym
  apply wave_Wave_rank.calls
  unfold wave_Wave_rank.W
  obtain ⟨c, hc, hcl, htk⟩ : ∃ c : Nat, min (max k 0) (l.length : Int) = (c : Int) ∧ c ≤ l.length ∧ l.take k.toNat = l.take c := by
    rcases Nat.le_total k.toNat l.length with h | h
    · exact ⟨k.toNat, by omega, h, rfl⟩
    · exact ⟨l.length, by omega, Nat.le_refl _, by rw [List.take_of_length_le h, List.take_length]⟩
  refine ⟨_, rfl, _, c1, ?_⟩
  rw [hc]
  refine Wave_fall_spec h (by omega) (by omega) fun H1 w1 f1 => ?_
  refine Wave_fall_spec (at_ := 0) w1 (by omega) (by omega) fun H2 w2 f2 => letV_mk fun x hx => ?_
  have hfr := fall_rank hv (hsy s hs) hcl
  have hle : (l.take c).count s ≤ l.length := Nat.le_trans List.count_le_length (by simp; omega)
  have e : x = ((l.take k.toNat).count s : Int) := by
    rw [hx, hfr, htk, show ((fallF (nRows sg) l s 0 (nRows sg) + (l.take c).count s : Nat) : Int) - (fallF (nRows sg) l s 0 (nRows sg) : Int) = ((l.take c).count s : Int) by omega, wrap_i64 (by omega) (by omega)]
  rw [e]
  exact hR H2 (by rw [show st + 2 * nRows sg = st + nRows sg + nRows sg by omega]; exact w2) (f1.trans f2 fun k hk => .inl hk)
theorem Wave_is_spec (h : Wave H g l sg st F) (s : Int) {R : Bool → Heap → Prop} (hR : R (decide (0 ≤ s ∧ s < (sg : Int))) H) : wave_Wave_is.C (some ⟨g, 0, none⟩) s H R := by
  obtain ⟨_, _, c2, _⟩ := h.cells
  apply wave_Wave_is.calls
  unfold wave_Wave_is.W
  refine brW_true rfl (brW_dec (fun h0 => ⟨_, rfl, _, c2, ?_⟩) (fun h0 => ?_))
  · have : decide (0 ≤ s ∧ s < (sg : Int)) = decide (s < (sg : Int)) := by simp [h0]
    rw [this] at hR
    exact hR
  · have : decide (0 ≤ s ∧ s < (sg : Int)) = false := by simp [h0]
    rw [this] at hR
    exact hR
theorem Wave_Len_spec (h : Wave H g l sg st F) {R : Int → Heap → Prop} (hR : R (l.length : Int) H) : wave_Wave_Len.C (some ⟨g, 0, none⟩) H R := by
  obtain ⟨_, c1, _⟩ := h.cells
  apply wave_Wave_Len.calls
  unfold wave_Wave_Len.W
  exact brW_false rfl ⟨_, rfl, _, c1, hR⟩
theorem Wave_Steps_spec (h : Wave H g l sg st F) {R : Int → Heap → Prop} (hR : R (st : Int) H) : wave_Wave_Steps.C (some ⟨g, 0, none⟩) H R := by
  obtain ⟨_, _, _, c3, _⟩ := h.cells
  apply wave_Wave_Steps.calls
  unfold wave_Wave_Steps.W
  exact brW_false rfl ⟨_, rfl, _, c3, hR⟩
end
end Go.Proofs.YtkjgbophokcdbaaDoor
