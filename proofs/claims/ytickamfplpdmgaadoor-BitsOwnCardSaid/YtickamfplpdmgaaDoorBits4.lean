import Derived.Test.YtickamfplpdmgaaDoorBits3
/-! Package bits: sizes; what the document does; a few. -/
namespace Go.Ev
theorem rk_unique {m : List Bool} {bit : Bool} {p q : Nat} (hp : p < m.length) (hq : q < m.length) (bp : m[p] = bit) (bq : m[q] = bit) (h : rk m p bit = rk m q bit) : p = q := by
  rcases Nat.lt_trichotomy p q with h1 | h1 | h1
  · have := rk_mono m (show p + 1 ≤ q by omega) bit
    rw [rk_succ hp, if_pos bp] at this
    omega
  · exact h1
  · have := rk_mono m (show q + 1 ≤ p by omega) bit
    rw [rk_succ hq, if_pos bq] at this
    omega
theorem rk_lt_count {m : List Bool} {bit : Bool} {p : Nat} (hp : p < m.length) (bp : m[p] = bit) : rk m p bit < m.count bit := by
  have := rk_mono m (show p + 1 ≤ m.length by omega) bit
  rw [rk_succ hp, if_pos bp, rk_all m (Nat.le_refl _)] at this
  omega
def sizeB (n : Nat) : Nat := 80 * ((n + 63) / 64) + 32 * ((n + 511) / 512)
end Go.Ev
namespace Go.Proofs.YtickamfplpdmgaaDoor
open Go.Ev
set_option linter.unusedVariables false

theorem Bound_spec {n : Nat} (hn : n ≤ 1099511627776) {H : Heap} {R : Int → Heap → Prop} (hR : R (sizeB n : Int) H) : bits_Bound.C (n : Int) H R := by
  apply bits_Bound.calls
  unfold bits_Bound.W
  refine ⟨by decide, by decide, letV_mk fun x hx => ?_⟩
  have e : x = (sizeB n : Int) := by
    rw [hx, wrap_i64 (n := (n : Int) + 64) (by omega) (by omega), wrap_i64 (n := (n : Int) + 64 - 1) (by omega) (by omega), wrap_i64 (n := (n : Int) + 512) (by omega) (by omega), wrap_i64 (n := (n : Int) + 512 - 1) (by omega) (by omega),
      show (n : Int) + 64 - 1 = ((n + 63 : Nat) : Int) by omega, show (n : Int) + 512 - 1 = ((n + 511 : Nat) : Int) by omega, show Int.tdiv ((n + 63 : Nat) : Int) 64 = (((n + 63) / 64 : Nat) : Int) from rfl, show Int.tdiv ((n + 511 : Nat) : Int) 512 = (((n + 511) / 512 : Nat) : Int) from rfl,
      wrap_i64 (n := (((n + 63) / 64 : Nat) : Int)) (by omega) (by omega), wrap_i64 (n := (((n + 511) / 512 : Nat) : Int)) (by omega) (by omega), wrap_i64 (n := 80 * (((n + 63) / 64 : Nat) : Int)) (by omega) (by omega), wrap_i64 (n := 32 * (((n + 511) / 512 : Nat) : Int)) (by omega) (by omega), wrap_i64 (by omega) (by omega)]
    unfold sizeB
    omega
  rw [e]
  exact hR
theorem Bits_Size_spec {H : Heap} {g : Nat} {m : List Bool} {F : Nat → Prop} (h : Bits H g m F) {R : Int → Heap → Prop} (hR : R (sizeB m.length : Int) H) : bits_Bits_Size.C (some ⟨g, 0, none⟩) H R := by
  apply bits_Bits_Size.calls
  unfold bits_Bits_Size.W
  exact Bits_Len_spec h (Bound_spec (by have := h.few; omega) hR)
theorem begun_spec {n b : Nat} (hn : n ≤ 1099511627776) (hb : 0 < b) (hb2 : b ≤ 1099511627776) {H : Heap} {R : Int → Heap → Prop} (hR : R (((n + b - 1) / b : Nat) : Int) H) : brackenref1_begun.C (n : Int) (b : Int) H R := by
  apply brackenref1_begun.calls
  unfold brackenref1_begun.W
  refine ⟨by omega, letV_mk fun x hx => ?_⟩
  have hd : (n + b - 1) / b ≤ n + b - 1 := Nat.div_le_self _ _
  generalize hq : (n + b - 1) / b = q at hd hR
  have e : x = (q : Int) := by
    rw [hx, wrap_i64 (n := (n : Int) + b) (by omega) (by omega), wrap_i64 (n := (n : Int) + b - 1) (by omega) (by omega), show (n : Int) + b - 1 = ((n + b - 1 : Nat) : Int) by omega,
      show Int.tdiv ((n + b - 1 : Nat) : Int) (b : Int) = (q : Int) from by rw [← hq]; rfl, wrap_i64 (by omega) (by omega)]
  rw [e]
  exact hR
theorem refBitsSize_spec {n : Nat} (hn : n ≤ 1099511627776) {H : Heap} {R : Int → Heap → Prop} (hR : R (sizeB n : Int) H) : brackenref1_BitsSize.C (n : Int) H R := by
  apply brackenref1_BitsSize.calls
  unfold brackenref1_BitsSize.W
  refine begun_spec (b := 64) hn (by decide) (by decide) ?_
  refine begun_spec (b := 512) hn (by decide) (by decide) ?_
  refine begun_spec (b := 64) hn (by decide) (by decide) ?_
  refine letV_mk fun x hx => ?_
  rw [show n + 64 - 1 = n + 63 by omega, show n + 512 - 1 = n + 511 by omega] at hx
  have e : x = (sizeB n : Int) := by
    rw [hx, wrap_i64 (n := 64 * (((n + 63) / 64 : Nat) : Int)) (by omega) (by omega), wrap_i64 (n := 32 * (((n + 511) / 512 : Nat) : Int)) (by omega) (by omega), wrap_i64 (n := 16 * (((n + 63) / 64 : Nat) : Int)) (by omega) (by omega),
      wrap_i64 (n := 64 * (((n + 63) / 64 : Nat) : Int) + 32 * (((n + 511) / 512 : Nat) : Int)) (by omega) (by omega), wrap_i64 (by omega) (by omega)]
    unfold sizeB
    omega
  rw [e]
  exact hR
theorem refRank_spec {H : Heap} {m : List Bool} {p : Option Addr} {n c : Nat} (hrd : Rd H (m.map Value.bool) p n) (hn : n ≤ 4194304) (k : Int) (bit : Bool) {R : Int → Heap → Prop} (hR : R (rk m k.toNat bit : Int) H) : brackenref1_Rank.C p n c k bit H R := by
  apply brackenref1_Rank.calls
  unfold brackenref1_Rank.W
  have hl : m.length = n := by have := hrd.1; simpa using this
  refine joinW_thru ?_
  refine loopW_mk (fun s q H' => H' = H ∧ ∃ i : Nat, i ≤ n ∧ (i : Int) ≤ max k 0 ∧ s = n - i ∧ q.1 = (rk m i bit : Int) ∧ q.2.1 = (i : Int)) n ⟨rfl, 0, by omega, by omega, rfl, by simp [rk], rfl⟩ ?_
  rintro s ⟨x, y, _⟩ H2 ⟨rfl, i, hi, hik, rfl, hx, hy⟩
  simp only at hx hy
  subst hx hy
  dsimp only
  have hle := rk_le m i bit
  refine joinW_mk (fun _ H' => H' = H2 ∧ (i : Int) < k ∧ i < n) ?_ ?_
  · refine brW_dec (fun h1 => brW_dec (fun h2 => ⟨rfl, h1, by omega⟩) (fun h2 => ?_)) (fun h1 => ?_)
    · have : rk m i bit = rk m k.toNat bit := by rw [rk_all m (by omega), rk_all m (by omega)]
      rw [this]; exact hR
    · have : i = k.toNat := by omega
      rw [this]; exact hR
  · rintro _ H3 ⟨rfl, h1, h2⟩
    obtain ⟨h2', a, rfl, hc⟩ := rd_bool hrd h2
    refine joinW_mk (fun q H' => H' = H3 ∧ q.1 = (rk m (i + 1) bit : Int)) ?_ ?_
    · refine ⟨a, rfl, by omega, by omega, _, by rw [Int.toNat_natCast]; exact hc, ?_⟩
      rw [rk_succ h2']
      refine brW_dec (fun hb => letV_mk fun n7 hn7 => ⟨rfl, ?_⟩) (fun hb => ⟨rfl, ?_⟩)
      · show n7 = _
        rw [hn7, if_pos hb, wrap_i64 (by omega) (by omega)]; rfl
      · rw [if_neg hb]; rfl
    · rintro ⟨x, _⟩ H4 ⟨rfl, hx⟩
      simp only at hx
      subst hx
      refine letV_mk fun i8 hi8 => ⟨n - (i + 1), by omega, rfl, i + 1, by omega, by omega, rfl, rfl, ?_⟩
      show i8 = _
      rw [hi8, wrap_i64 (by omega) (by omega)]; rfl
theorem refSelect_spec {H : Heap} {m : List Bool} {p : Option Addr} {n c : Nat} (hrd : Rd H (m.map Value.bool) p n) (hn : n ≤ 4194304) (j : Int) (bit : Bool) {R : Int → Heap → Prop}
    (h1 : ∀ (p : Nat) (hp : p < m.length), m[p] = bit → (rk m p bit : Int) = j → R (p : Int) H) (h2 : (j < 0 ∨ (m.count bit : Int) ≤ j) → R (-1) H) : brackenref1_Select.C p n c j bit H R := by
  apply brackenref1_Select.calls
  unfold brackenref1_Select.W
  have hl : m.length = n := by have := hrd.1; simpa using this
  refine joinW_thru ?_
  refine loopW_mk (fun s q H' => H' = H ∧ ∃ i : Nat, i ≤ n ∧ (j < 0 ∨ (rk m i bit : Int) ≤ j) ∧ s = n - i ∧ q.1 = (rk m i bit : Int) ∧ q.2.1 = (i : Int)) n ⟨rfl, 0, by omega, by simp [rk]; omega, rfl, by simp [rk], rfl⟩ ?_
  rintro s ⟨x, y, _⟩ H2 ⟨rfl, i, hi, hij, rfl, hx, hy⟩
  simp only at hx hy
  subst hx hy
  dsimp only
  have hle := rk_le m i bit
  refine brW_dec (fun hlt => ?_) (fun hge => ?_)
  · obtain ⟨h2', a, rfl, hc⟩ := rd_bool hrd (i := i) (by omega)
    refine joinW_mk (fun q H' => H' = H2 ∧ q.1 = (rk m (i + 1) bit : Int) ∧ (j < 0 ∨ (rk m (i + 1) bit : Int) ≤ j)) ?_ ?_
    · refine ⟨a, rfl, by omega, by omega, _, by rw [Int.toNat_natCast]; exact hc, ?_⟩
      have hs := rk_succ h2' bit
      refine brW_dec (fun hb => brW_dec (fun hj => h1 i h2' hb hj) (fun hj => letV_mk fun n7 hn7 => ⟨rfl, ?_, ?_⟩)) (fun hb => ⟨rfl, ?_, ?_⟩)
      · show n7 = _
        rw [hn7, hs, if_pos hb, wrap_i64 (by omega) (by omega)]; rfl
      · rw [hs, if_pos hb]; omega
      · rw [hs, if_neg hb]; rfl
      · rw [hs, if_neg hb]; exact hij
    · rintro ⟨x, _⟩ H4 ⟨rfl, hx, hj⟩
      simp only at hx
      subst hx
      refine letV_mk fun i8 hi8 => ⟨n - (i + 1), by omega, rfl, i + 1, by omega, hj, rfl, rfl, ?_⟩
      show i8 = _
      rw [hi8, wrap_i64 (by omega) (by omega)]; rfl
  · have : i = n := by omega
    subst this
    rw [rk_all m (by omega)] at hij
    exact h2 hij
theorem told_spec {H : Heap} (hd : Deb H) {R : Bool → Heap → Prop} (hR : ∀ H', Fr noF H H' → R true H') : brackenlaw3_told.C H R := by
  apply brackenlaw3_told.calls
  unfold brackenlaw3_told.W
  refine letV_mk fun H1 h1 => ?_
  have f1 : Fr noF H H1 := by rw [h1]; exact Fr.new _ _ _
  have hs : Sl H1 ty_bool ([true, false, true].map Value.bool) (some ⟨Array.size H, 0, none⟩) 3 3 := by
    rw [h1]
    exact Sl.lit H ty_bool [.bool true, .bool false, .bool true]
  clear h1
  refine Bits_New_spec hs.rd (by decide) fun g H2 t f2 => joinW_thru (joinW_thru ?_)
  refine brW_neg (by decide) (brW_false rfl ?_)
  refine Bits_Get_spec t 3 (fun k hk H' he _ => ?_) (fun _ => ?_)
  · have : k < 3 := hk
    omega
  refine ⟨by decide, by decide, by decide, letV_mk fun H6 h6 => ?_⟩
  have f6 : Fr noF H2 H6 := by rw [h6]; exact Fr.new _ _ _
  have hs6 : Sl H6 ty_bool ((List.replicate 65 false).map Value.bool) (some ⟨Array.size H2, 0, none⟩) 65 65 := by
    rw [h6, List.map_replicate]
    exact Sl.made H2 ty_bool (z := .bool false) rfl 65
  clear h6
  refine Bits_New_spec hs6.rd (by decide) fun g' H7 t' f7 => brW_pos rfl ?_
  have fr7 := ((f1.trans0 f2).trans0 f6).trans0 f7
  have t7 := (t.old f6).old f7
  refine Bits_Rank_spec t7 _ _ fun H8 f8 => brW_pos (by decide) ?_
  have t8 := t7.old f8
  refine Bits_Rank_spec t8 _ _ fun H9 f9 => brW_pos (by decide) ?_
  have t9 := t8.old f9
  refine Bits_Rank_spec t9 _ _ fun H10 f10 => brW_pos (by decide) ?_
  have t10 := t9.old f10
  have fr10 := ((fr7.trans0 f8).trans0 f9).trans0 f10
  refine Bits_Select_spec t10 (hd.old fr10) 1 true (fun p hp H11 hb hr f11 => ?_) (fun H' h _ => absurd h (by decide))
  have hp2 : p = 2 := by
    have hp : p < 3 := hp
    have hr : rk [true, false, true] p true = 1 := by omega
    match p, hp, hr with
    | 0, _, hr => exact absurd hr (by decide)
    | 1, _, _ => exact absurd (show false = true from hb) (by decide)
    | 2, _, _ => rfl
  subst hp2
  refine brW_pos rfl ?_
  have t11 := t10.old f11
  refine Bits_Select_spec t11 (hd.old (fr10.trans0 f11)) 1 false (fun p hp H12 hb hr f12 => ?_) (fun H12 _ f12 => ?_)
  · exfalso
    have hp : p < 3 := hp
    have hr : rk [true, false, true] p false = 1 := by omega
    match p, hp, hr with
    | 0, _, hr => exact absurd hr (by decide)
    | 1, _, hr => exact absurd hr (by decide)
    | 2, _, _ => exact absurd (show true = false from hb) (by decide)
  refine brW_pos rfl (brW_pos rfl ?_)
  have fr12 := (fr10.trans0 f11).trans0 f12
  have t12 := ((((((t'.old f8).old f9).old f10).old f11).old f12))
  refine Bits_Size_spec t12 (brW_pos (by rw [List.length_replicate]; decide) ?_)
  refine Bits_Len_nil (brW_pos rfl ?_)
  refine Bits_Select_nil rfl ?_
  exact hR H12 fr12
end Go.Proofs.YtickamfplpdmgaaDoor
