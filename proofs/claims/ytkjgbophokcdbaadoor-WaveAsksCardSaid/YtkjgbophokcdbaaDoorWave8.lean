import Derived.Test.YtkjgbophokcdbaaDoorWave7
/-! Package wave: a symbol of a place. -/
namespace Go.Ev
theorem shr_step (s W i : Nat) (h : i < W) : 2 * (s >>> (W - i)) + (if s.testBit (W - 1 - i) then 1 else 0) = s >>> (W - (i + 1)) := by
  obtain ⟨r, hr⟩ : ∃ r, W = i + 1 + r := ⟨W - (i + 1), by omega⟩
  subst hr
  rw [show i + 1 + r - i = r + 1 by omega, show i + 1 + r - 1 - i = r by omega, show i + 1 + r - (i + 1) = r by omega, Nat.shiftRight_succ, Nat.testBit_eq_decide_div_mod_eq, ← Nat.shiftRight_eq_div_pow]
  generalize s >>> r = x
  by_cases hx : x % 2 = 1
  · simp [hx]; omega
  · simp [hx]; omega
theorem bit_test {s : Nat} (hs : s < 2 ^ 63) (r : Nat) : decide (andW .i64 (shrW .i64 (s : Int) (r : Int)) 1 = 1) = s.testBit r := by
  have hsh : s >>> r < 2 ^ 63 := by rw [Nat.shiftRight_eq_div_pow]; exact Nat.lt_of_le_of_lt (Nat.div_le_self _ _) hs
  rw [shr_i64 hs, show (1 : Int) = ((1 : Nat) : Int) from rfl, and_i64 hsh (by decide), Nat.and_one_is_mod, Nat.testBit_eq_decide_div_mod_eq, Nat.shiftRight_eq_div_pow, Bool.eq_iff_iff]
  simp only [decide_eq_true_eq]
  constructor <;> intro h <;> first | exact_mod_cast h | omega
end Go.Ev
namespace Go.Proofs.YtkjgbophokcdbaaDoor
open Go.Ev
set_option linter.unusedVariables false
section
variable {H : Heap} {g : Nat} {l : List Nat} {sg st : Nat} {F : Nat → Prop}
theorem WB_Get_spec (h : WB H g l sg F) (k : Int) {R : Int → Int → Heap → Prop} (hin : ∀ (i : Nat) (hi : i < l.length) H', k = (i : Int) → WB H' g l sg F → Fr (fun k => k = g) H H' → R (l[i] : Int) 0 H') (hout : (k < 0 ∨ (l.length : Int) ≤ k) → R 0 4 H) :
    wave_Wave_Get.C (some ⟨g, 0, none⟩) k H R := by
  have hb := h
  have hfew := h.few
  have hvals := h.vals
  have hn := nRows_le hfew.2.2
  obtain ⟨st, hst, h⟩ := h
  obtain ⟨_, _, _, c3, z3⟩ := h.cells
  apply wave_Wave_Get.calls
  unfold wave_Wave_Get.W
  refine joinW_thru (joinW_thru ?_)
  refine brW_dec (fun h0 => brW_true rfl (hout (.inl h0))) (fun h0 => ?_)
  refine Wave_Len_spec h (brW_dec (fun h1 => hout (.inr h1)) (fun h1 => ?_))
  obtain ⟨p, rfl⟩ : ∃ n : Nat, k = (n : Int) := ⟨k.toNat, by omega⟩
  have hp : p < l.length := by omega
  obtain ⟨hv, hsy⟩ := h.sym
  have hvp := hvals _ (List.getElem_mem hp)
  refine ⟨_, rfl, ⟨_, c3⟩, z3, letV_mk fun H4 hH4 => ?_⟩
  obtain ⟨w4, f4⟩ := h.step 0 hH4
  obtain ⟨⟨lp, lc, c0⟩, _⟩ := w4.cells
  refine joinW_thru ⟨_, rfl, _, _, _, c0, ?_⟩
  refine loopW_mk (fun m q H' => ∃ i : Nat, i ≤ nRows sg ∧ m = nRows sg - i ∧ q.1 = (fallF (nRows sg) l l[p] p i : Int) ∧ q.2.1 = ((l[p] >>> (nRows sg - i) : Nat) : Int) ∧ q.2.2.1 = (i : Int) ∧ Wave H' g l sg i F ∧ Fr (fun k => k = g) H H') (nRows sg) ⟨0, by omega, rfl, rfl, ?_, rfl, w4, f4⟩ ?_
  · have : l[p] >>> (nRows sg - 0) = 0 := by
      rw [Nat.shiftRight_eq_div_pow]
      exact Nat.div_eq_of_lt (hv _ (List.getElem_mem hp))
    rw [this]
    rfl
  rintro m ⟨x, y, z, _⟩ H6 ⟨i, hi, rfl, hx, hy, hz, w, f⟩
  simp only at hx hy hz
  subst hx hy hz
  dsimp only
  refine brW_dec (fun hlt => ?_) (fun hge => ?_)
  · have hbit := bit_at (nRows sg) l l[p] hp i (agree_self _ _ _)
    obtain ⟨hq1, hq2⟩ := List.getElem?_eq_some_iff.1 hbit
    refine joinW_thru ?_
    refine Wave_row_spec w (by omega) fun b Fb hb hng => ?_
    refine Bits_Get_spec hb _ (fun q hq H9 e f9 => ?_) (fun hno => by omega)
    have : q = fallF (nRows sg) l l[p] p i := by omega
    subst this
    rw [hq2]
    have w9 := w.old f9
    have hss := shr_step l[p] (nRows sg) i (by omega)
    have hle : l[p] >>> (nRows sg - i) ≤ l[p] := Nat.shiftRight_le _ _
    have hle2 : l[p] >>> (nRows sg - (i + 1)) ≤ l[p] := Nat.shiftRight_le _ _
    refine joinW_thru (letV_mk fun s6 hs6 => ?_)
    rw [wrap_i64 (by omega) (by omega)] at hs6
    have go : ∀ v : Int, v = ((l[p] >>> (nRows sg - (i + 1)) : Nat) : Int) → wave_Wave_down.C (some ⟨g, 0, none⟩) (i : Int) (fallF (nRows sg) l l[p] p i : Int) (l[p].testBit (nRows sg - 1 - i)) H9 fun x46 H11 => ∃ m, m < nRows sg - i ∧ ∃ i' : Nat, i' ≤ nRows sg ∧ m = nRows sg - i' ∧ x46 = (fallF (nRows sg) l l[p] p i' : Int) ∧ v = ((l[p] >>> (nRows sg - i') : Nat) : Int) ∧ IntKind.i64.wrap ((i : Int) + 1) = (i' : Int) ∧ Wave H11 g l sg i' F ∧ Fr (fun k => k = g) H H11 := by
      intro v hv
      refine Wave_down_spec w9 (by omega) (by omega) _ fun H11 w11 f11 => ⟨nRows sg - (i + 1), by omega, i + 1, by omega, rfl, rfl, hv, by rw [wrap_i64 (by omega) (by omega)]; rfl, w11, (f.trans f9 fun _ h => h.elim).trans f11 fun k hk => .inl hk⟩
    refine brW_mk (fun hb1 => letV_mk fun s7 hs7 => ?_) (fun hb0 => ?_)
    · rw [hb1, if_pos rfl] at hss
      rw [wrap_i64 (by omega) (by omega)] at hs7
      exact go s7 (by omega)
    · rw [hb0] at hss
      simp only [Bool.false_eq_true, if_false] at hss
      exact go s6 (by omega)
  · have : i = nRows sg := by omega
    subst this
    rw [Nat.sub_self]
    exact hin p hp H6 rfl ⟨_, by omega, w⟩ f
end
end Go.Proofs.YtkjgbophokcdbaaDoor
