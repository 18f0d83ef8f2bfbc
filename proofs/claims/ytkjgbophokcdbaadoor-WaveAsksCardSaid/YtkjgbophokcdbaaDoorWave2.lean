import Derived.Test.YtkjgbophokcdbaaDoorWave1
/-! Package wave: down, fall, rank. -/
namespace Go.Proofs.YtkjgbophokcdbaaDoor
open Go.Ev
set_option linter.unusedVariables false

theorem rowB_len (W : Nat) (l : List Nat) (k : Nat) : (rowB W l k).length = l.length := by unfold rowB; rw [List.length_map, rowL_len]
theorem count_two (m : List Bool) : m.count true + m.count false = m.length := by
  induction m with
  | nil => rfl
  | cons b l ih => cases b <;> simp <;> omega
section
variable {H : Heap} {g : Nat} {l : List Nat} {sg st : Nat} {F : Nat → Prop}
theorem Wave.few (h : Wave H g l sg st F) : l.length ≤ 1048576 ∧ 1 ≤ sg ∧ sg ≤ 1048576 := by obtain ⟨_, _, _, _, h, _⟩ := h; exact ⟨h.few, h.pos⟩
theorem Wave.own (h : Wave H g l sg st F) : F g ∧ ∀ k, F k → k < Array.size H := by obtain ⟨_, _, _, _, _, h1, _, _, h4⟩ := h; exact ⟨h1, h4⟩
theorem Wave_down_spec (h : Wave H g l sg st F) (hst : st ≤ 1099511627776) {k at_ : Nat} (hk : k < nRows sg) (bit : Bool) {R : Int → Heap → Prop}
    (hR : ∀ H', Wave H' g l sg (st + 1) F → Fr (fun k => k = g) H H' → R (downF (nRows sg) l k at_ bit : Int) H') : wave_Wave_down.C (some ⟨g, 0, none⟩) (k : Int) (at_ : Int) bit H R := by
  obtain ⟨_, _, _, c3, z3⟩ := h.cells
  have hfew := h.few
  apply wave_Wave_down.calls
  unfold wave_Wave_down.W
  refine ⟨_, rfl, _, c3, _, rfl, ⟨_, c3⟩, z3, letV_mk fun H1 h1 => ?_⟩
  rw [wrap_i64 (n := (st : Int) + 1) (by omega) (by omega), show (st : Int) + 1 = ((st + 1 : Nat) : Int) by omega] at h1
  obtain ⟨w1, f1⟩ := h.step (st + 1) h1
  clear h1
  refine Wave_row_spec w1 hk fun b Fb hb hng => ?_
  have hlen := rowB_len (nRows sg) l k
  refine Bits_Rank_spec hb _ bit fun H3 f3 => joinW_thru ?_
  rw [Int.toNat_natCast]
  have hr := rk_le (rowB (nRows sg) l k) at_ bit
  have fin : ∀ H', Fr noF H1 H' → Wave H' g l sg (st + 1) F ∧ Fr (fun k => k = g) H H' := fun H' hf => ⟨w1.old hf, f1.trans hf fun _ h => h.elim⟩
  refine brW_mk (fun hb1 => ?_) (fun hb0 => ?_)
  · subst hb1
    have hb3 := hb.old f3
    refine Bits_Len_spec hb3 (Bits_Len_spec hb3 ?_)
    refine Bits_Rank_spec hb3 _ true fun H7 f7 => letV_mk fun n hn => ?_
    rw [Int.toNat_natCast, rk_all _ (Nat.le_refl _)] at hn
    have hct := count_two (rowB (nRows sg) l k)
    have e : n = (downF (nRows sg) l k at_ true : Int) := by
      rw [hn, wrap_i64 (n := ((rowB (nRows sg) l k).length : Int) - ((rowB (nRows sg) l k).count true : Int)) (by omega) (by omega), wrap_i64 (by omega) (by omega)]
      unfold downF
      rw [if_pos rfl]
      omega
    rw [e]
    obtain ⟨a1, a2⟩ := fin H7 (f3.trans0 f7)
    exact hR H7 a1 a2
  · subst hb0
    obtain ⟨a1, a2⟩ := fin H3 f3
    have e : (rk (rowB (nRows sg) l k) at_ false : Int) = (downF (nRows sg) l k at_ false : Int) := by unfold downF; simp
    dsimp only
    rw [e]
    exact hR H3 a1 a2
theorem Wave_fall_spec (h : Wave H g l sg st F) (hst : st ≤ 549755813888) {at_ s : Nat} (hs : s < 2 ^ 63) {R : Int → Heap → Prop}
    (hR : ∀ H', Wave H' g l sg (st + nRows sg) F → Fr (fun k => k = g) H H' → R (fallF (nRows sg) l s at_ (nRows sg) : Int) H') : wave_Wave_fall.C (some ⟨g, 0, none⟩) (at_ : Int) (s : Int) H R := by
  obtain ⟨⟨lp, lc, c0⟩, _⟩ := h.cells
  have hn := nRows_le h.few.2.2
  apply wave_Wave_fall.calls
  unfold wave_Wave_fall.W
  refine joinW_thru ⟨_, rfl, _, _, _, c0, ?_⟩
  refine loopW_mk (fun m q H' => ∃ k : Nat, k ≤ nRows sg ∧ m = nRows sg - k ∧ q.1 = (fallF (nRows sg) l s at_ k : Int) ∧ q.2.1 = (k : Int) ∧ Wave H' g l sg (st + k) F ∧ Fr (fun k => k = g) H H') (nRows sg) ⟨0, by omega, rfl, rfl, rfl, h, Fr.refl _ _⟩ ?_
  rintro m ⟨x, y, _⟩ H2 ⟨k, hk, rfl, hx, hy, w, f⟩
  simp only at hx hy
  subst hx hy
  dsimp only
  refine brW_dec (fun hlt => ?_) (fun hge => ?_)
  · refine Wave_bit_spec w (by omega) hs ?_
    refine Wave_down_spec w (by omega) (by omega) _ fun H4 w4 f4 => ?_
    refine ⟨nRows sg - (k + 1), by omega, k + 1, by omega, rfl, rfl, ?_, w4, f.trans f4 fun k hk => .inl hk⟩
    show IntKind.i64.wrap ((k : Int) + 1) = _
    rw [wrap_i64 (by omega) (by omega)]; rfl
  · have : k = nRows sg := by omega
    subst this
    exact hR H2 w f
end
end Go.Proofs.YtkjgbophokcdbaaDoor
