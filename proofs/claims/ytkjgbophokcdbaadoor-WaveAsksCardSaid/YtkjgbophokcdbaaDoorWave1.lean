import Derived.Test.YtkjgbophokcdbaaDoorWaveP
import Derived.Test.YtkjgbophokcdbaaDoorEvI64
import Derived.Test.YtkjgbophokcdbaaDoorBits4
import Derived.Test.YtkjgbophokcdbaaDoorEvPack
/-! Package wave: its inner calls. -/
namespace Go.Proofs.YtkjgbophokcdbaaDoor
open Go.Ev
set_option linter.unusedVariables false

abbrev rowV (b : Nat) : Value := .iface ty_p_bits_Bits (.pointer (some ⟨b, 0, none⟩))
/-- The rows: each a Bits of its own. -/
structure WaveAt (H : Heap) (g : Nat) (l : List Nat) (sg st : Nat) (gs : List Nat) (lp : Option Addr) (lc : Nat) (Fb : Nat → Prop) : Prop where
  blk : H[g]? = some (.cells #[.slice lp gs.length lc, .int .i64 (l.length : Int), .int .i64 (sg : Int), .int .i64 (st : Int)] ty_wave_Wave (0, 0))
  sl : Sl H ty_any (gs.map rowV) lp gs.length lc
  wid : gs.length = blen (sg - 1)
  rows : ∀ k (h : k < gs.length), Bits H gs[k] (rowB gs.length l k) Fb
  vals : ∀ x ∈ l, x < sg
  few : l.length ≤ 1048576
  pos : 1 ≤ sg ∧ sg ≤ 1048576
  ng : ¬ Fb g
def Wave (H : Heap) (g : Nat) (l : List Nat) (sg st : Nat) (F : Nat → Prop) : Prop := ∃ gs lp lc Fb, WaveAt H g l sg st gs lp lc Fb ∧ F g ∧ (∀ k, blkIs lp k → F k) ∧ (∀ k, Fb k → F k) ∧ ∀ k, F k → k < Array.size H
theorem Wave.keep {H H' : Heap} {g : Nat} {l : List Nat} {sg st : Nat} {F G : Nat → Prop} (h : Wave H g l sg st F) (hf : Fr G H H') (hd : ∀ k, F k → ¬ G k) : Wave H' g l sg st F := by
  obtain ⟨gs, lp, lc, Fb, h, h1, h2, h3, h4⟩ := h
  exact ⟨gs, lp, lc, Fb, ⟨hf.blk h.blk (hd _ h1), h.sl.keep hf fun k hk => hd k (h2 k hk), h.wid, fun k hk => (h.rows k hk).keep hf fun j hj => hd j (h3 j hj), h.vals, h.few, h.pos, h.ng⟩, h1, h2, h3, fun k hk => Nat.lt_of_lt_of_le (h4 k hk) hf.size⟩
theorem Wave.old {H H' : Heap} {g : Nat} {l : List Nat} {sg st : Nat} {F : Nat → Prop} (h : Wave H g l sg st F) (hf : Fr noF H H') : Wave H' g l sg st F := h.keep hf fun _ _ h => h
section
variable {H : Heap} {g : Nat} {l : List Nat} {sg st : Nat} {F : Nat → Prop}
/-- How many rows. -/
def nRows (sg : Nat) : Nat := blen (sg - 1)
theorem nRows_le {sg : Nat} (h : sg ≤ 1048576) : nRows sg ≤ 20 := blen_le.2 (by omega)
/-- The number of steps is turned. -/
theorem Wave.step (h : Wave H g l sg st F) (n : Nat) {H' : Heap} (hH : H' = hset H ((⟨g, 0, none⟩ : Addr).add 3) (.int .i64 (n : Int))) : Wave H' g l sg n F ∧ Fr (fun k => k = g) H H' := by
  have hf := set_fr hH
  obtain ⟨gs, lp, lc, Fb, h, h1, h2, h3, h4⟩ := h
  refine ⟨⟨gs, lp, lc, Fb, ⟨set_blk hH h.blk, h.sl.keep hf fun k hk e => h.sl.ne h.blk (by decide) (e ▸ hk), h.wid, fun k hk => (h.rows k hk).keep hf fun j hj e => h.ng (e ▸ hj), h.vals, h.few, h.pos, h.ng⟩, h1, h2, h3, fun k hk => Nat.lt_of_lt_of_le (h4 k hk) hf.size⟩, hf⟩
theorem Wave.cells (h : Wave H g l sg st F) : (∃ lp lc, hcell H ((⟨g, 0, none⟩ : Addr).add 0) = some (.slice lp (nRows sg) lc)) ∧ hcell H ((⟨g, 0, none⟩ : Addr).add 1) = some (.int .i64 (l.length : Int)) ∧ hcell H ((⟨g, 0, none⟩ : Addr).add 2) = some (.int .i64 (sg : Int)) ∧ hcell H ((⟨g, 0, none⟩ : Addr).add 3) = some (.int .i64 (st : Int)) ∧ hfrozen H ((⟨g, 0, none⟩ : Addr).add 3) = false := by
  obtain ⟨gs, lp, lc, Fb, h, _⟩ := h
  refine ⟨⟨lp, lc, ?_⟩, (hcell_add h.blk 0 1).trans rfl, (hcell_add h.blk 0 2).trans rfl, (hcell_add h.blk 0 3).trans rfl, hfrozen_add h.blk 0 3⟩
  unfold nRows
  rw [← h.wid]
  exact (hcell_add h.blk 0 0).trans rfl
theorem Wave_row_spec (h : Wave H g l sg st F) {k : Nat} (hk : k < nRows sg) {R : Option Addr → Heap → Prop} (hR : ∀ b Fb, Bits H b (rowB (nRows sg) l k) Fb → ¬ Fb g → R (some ⟨b, 0, none⟩) H) : wave_Wave_row.C (some ⟨g, 0, none⟩) (k : Int) H R := by
  obtain ⟨gs, lp, lc, Fb, h, _⟩ := h
  have hw : gs.length = nRows sg := h.wid
  apply wave_Wave_row.calls
  unfold wave_Wave_row.W
  have hk' : k < gs.length := by omega
  obtain ⟨a, ha, hc⟩ := h.sl.rd.get (i := k) (v := rowV gs[k]) (by rw [List.getElem?_map, List.getElem?_eq_getElem hk']; rfl)
  have hb := h.rows k hk'
  rw [hw] at hb
  exact ⟨_, rfl, _, _, _, (hcell_add h.blk 0 0).trans rfl, a, ha, by omega, by omega, _, by rw [Int.toNat_natCast]; exact hc, _, true, .inl ⟨rfl, rfl⟩, hR _ _ hb h.ng⟩
theorem Wave_bit_spec (h : Wave H g l sg st F) {k s : Nat} (hk : k < nRows sg) (hs : s < 2 ^ 63) {R : Bool → Heap → Prop} (hR : R (s.testBit (nRows sg - 1 - k)) H) : wave_Wave_bit.C (some ⟨g, 0, none⟩) (k : Int) (s : Int) H R := by
  obtain ⟨⟨lp, lc, c0⟩, _⟩ := h.cells
  have hsg : sg ≤ 1048576 := by obtain ⟨_, _, _, _, h, _⟩ := h; exact h.pos.2
  have hn := nRows_le hsg
  apply wave_Wave_bit.calls
  unfold wave_Wave_bit.W
  refine ⟨_, rfl, _, _, _, c0, ?_⟩
  rw [wrap_i64 (n := (nRows sg : Int) - 1) (by omega) (by omega), wrap_i64 (n := (nRows sg : Int) - 1 - (k : Int)) (by omega) (by omega), show (nRows sg : Int) - 1 - (k : Int) = ((nRows sg - 1 - k : Nat) : Int) by omega, wrap_natlt (by omega)]
  refine ⟨by omega, ?_⟩
  have hsh : s >>> (nRows sg - 1 - k) < 2 ^ 63 := by rw [Nat.shiftRight_eq_div_pow]; exact Nat.lt_of_le_of_lt (Nat.div_le_self _ _) hs
  rw [shr_i64 hs, show (1 : Int) = ((1 : Nat) : Int) from rfl, and_i64 hsh (by decide), Nat.and_one_is_mod]
  have e : decide (((s >>> (nRows sg - 1 - k) % 2 : Nat) : Int) = ((1 : Nat) : Int)) = s.testBit (nRows sg - 1 - k) := by
    rw [Nat.testBit_eq_decide_div_mod_eq, Nat.shiftRight_eq_div_pow, Bool.eq_iff_iff]
    simp only [decide_eq_true_eq]
    constructor <;> intro h <;> first | exact_mod_cast h | omega
  rw [e]
  exact hR
end
end Go.Proofs.YtkjgbophokcdbaaDoor
