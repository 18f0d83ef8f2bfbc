import Derived.Test.YtkjgbophokcdbaaDoorWave3
/-! Package wave: Rank, Count, Size. -/
namespace Go.Proofs.YtkjgbophokcdbaaDoor
open Go.Ev
set_option linter.unusedVariables false
section
variable {H : Heap} {g : Nat} {l : List Nat} {sg st : Nat} {F : Nat → Prop}
theorem Wave_Rank_spec (h : Wave H g l sg st F) (k : Int) (s : Int) {R : Int → Heap → Prop}
    (h1 : ∀ (s' : Nat) H', s = (s' : Int) → s' < sg → Wave H' g l sg (2 * nRows sg) F → Fr (fun k => k = g) H H' → R ((l.take k.toNat).count s' : Int) H') (h2 : (s < 0 ∨ (sg : Int) ≤ s) → R 0 H) : wave_Wave_Rank.C (some ⟨g, 0, none⟩) k s H R := by
  obtain ⟨_, _, _, c3, z3⟩ := h.cells
  apply wave_Wave_Rank.calls
  unfold wave_Wave_Rank.W
  refine Wave_is_spec h s (brW_mk (fun hb => h2 ?_) (fun hb => ?_))
  · simp at hb
    omega
  · simp at hb
    obtain ⟨s', rfl⟩ : ∃ n : Nat, s = (n : Int) := ⟨s.toNat, by omega⟩
    refine ⟨_, rfl, ⟨_, c3⟩, z3, letV_mk fun H2 hH2 => ?_⟩
    obtain ⟨w2, f2⟩ := h.step 0 hH2
    refine Wave_rank_spec w2 (by omega) k (by omega) fun H3 w3 f3 => ?_
    rw [Nat.zero_add] at w3
    exact h1 s' H3 rfl (by omega) w3 (f2.trans f3 fun k hk => .inl hk)
theorem Wave_Size_spec (h : Wave H g l sg st F) {R : Int → Heap → Prop} (hR : R ((nRows sg * sizeB l.length : Nat) : Int) H) : wave_Wave_Size.C (some ⟨g, 0, none⟩) H R := by
  obtain ⟨⟨lp, lc, c0⟩, c1, _⟩ := h.cells
  have hfew := h.few
  have hn := nRows_le hfew.2.2
  apply wave_Wave_Size.calls
  unfold wave_Wave_Size.W
  refine brW_false rfl ⟨_, rfl, _, _, _, c0, _, rfl, _, c1, ?_⟩
  refine Bound_spec (by omega) ⟨⟨_, _, _, c0, rfl⟩, letV_mk fun x hx => ?_⟩
  have hsz : sizeB l.length ≤ 2097152 := by unfold sizeB; omega
  have hm : nRows sg * sizeB l.length ≤ 20 * 2097152 := Nat.mul_le_mul hn hsz
  have e : x = ((nRows sg * sizeB l.length : Nat) : Int) := by
    rw [hx, show (nRows sg : Int) * (sizeB l.length : Int) = ((nRows sg * sizeB l.length : Nat) : Int) by push_cast; rfl, wrap_i64 (by omega) (by omega)]
  rw [e]
  exact hR
theorem Wave_Count_spec (h : Wave H g l sg st F) (lo hi : Int) (s : Int) {R : Int → Heap → Prop}
    (h1 : ∀ (s' : Nat) H', s = (s' : Int) → s' < sg → Wave H' g l sg (4 * nRows sg) F → Fr (fun k => k = g) H H' → R (max (((l.take hi.toNat).count s' : Int) - ((l.take lo.toNat).count s' : Int)) 0) H') (h2 : (s < 0 ∨ (sg : Int) ≤ s) → R 0 H) : wave_Wave_Count.C (some ⟨g, 0, none⟩) lo hi s H R := by
  obtain ⟨_, _, _, c3, z3⟩ := h.cells
  have hfew := h.few
  have hn := nRows_le hfew.2.2
  apply wave_Wave_Count.calls
  unfold wave_Wave_Count.W
  refine Wave_is_spec h s (brW_mk (fun hb => h2 ?_) (fun hb => ?_))
  · simp at hb
    omega
  · simp at hb
    obtain ⟨s', rfl⟩ : ∃ n : Nat, s = (n : Int) := ⟨s.toNat, by omega⟩
    refine ⟨_, rfl, ⟨_, c3⟩, z3, letV_mk fun H2 hH2 => ?_⟩
    obtain ⟨w2, f2⟩ := h.step 0 hH2
    refine Wave_rank_spec w2 (by omega) hi (by omega) fun H3 w3 f3 => ?_
    refine Wave_rank_spec w3 (by omega) lo (by omega) fun H4 w4 f4 => letV_mk fun x hx => ?_
    have e1 : (l.take hi.toNat).count s' ≤ l.length := Nat.le_trans List.count_le_length (by simp; omega)
    have e2 : (l.take lo.toNat).count s' ≤ l.length := Nat.le_trans List.count_le_length (by simp; omega)
    rw [wrap_i64 (by omega) (by omega)] at hx
    rw [hx]
    exact h1 s' H4 rfl (by omega) (by rw [show 4 * nRows sg = 0 + 2 * nRows sg + 2 * nRows sg by omega]; exact w4) ((f2.trans f3 fun k hk => .inl hk).trans f4 fun k hk => .inl hk)
end
end Go.Proofs.YtkjgbophokcdbaaDoor
