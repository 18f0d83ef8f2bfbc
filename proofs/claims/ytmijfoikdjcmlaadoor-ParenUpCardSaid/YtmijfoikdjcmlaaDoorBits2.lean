import Derived.Test.YtmijfoikdjcmlaaDoorBits1
/-! Package bits: making, finding. -/
namespace Go.Ev
theorem valL_zeros : ∀ n, valL (List.replicate n false) = 0
  | 0 => rfl
  | n + 1 => by simp [List.replicate_succ, valL, valL_zeros n]
theorem valL_pos {l : List Bool} (hm : true ∈ l) : 0 < valL l := by
  rcases Nat.eq_zero_or_pos (valL l) with h0 | h0
  · obtain ⟨i, hi, he⟩ := List.getElem_of_mem hm
    have := valL_testBit l i
    rw [h0, List.getD_eq_getElem?_getD, List.getElem?_eq_getElem hi, he] at this
    simp at this
  · exact h0
def clrN : Nat → List Bool → List Bool
  | 0, l => l
  | n + 1, l => clr (clrN n l)
theorem clrN_len (n : Nat) (l : List Bool) : (clrN n l).length = l.length := by
  induction n with
  | zero => rfl
  | succ n ih => rw [clrN, clr_len, ih]
theorem clrN_count (n : Nat) (l : List Bool) : (clrN n l).count true = l.count true - n := by
  induction n with
  | zero => rfl
  | succ n ih => rw [clrN, count_clr, ih]; omega
theorem clrN_nth (l : List Bool) : ∀ (n t : Nat), t + n < l.count true → nth (clrN n l) t = nth l (t + n)
  | 0, t, _ => rfl
  | n + 1, t, h => by
    rw [clrN, nth_clr _ _ (by rw [clrN_count]; omega), clrN_nth l n (t + 1) (by omega)]
    congr 1
    omega
/-- A chunk's word, and that of its 0s. -/
def word (c : List Bool) (bit : Bool) : List Bool := (c ++ List.replicate (64 - c.length) false).map fun x => x == bit
theorem word_len {c : List Bool} (h : c.length ≤ 64) (bit : Bool) : (word c bit).length = 64 := by simp [word]; omega
theorem valL_word_true {c : List Bool} : valL (word c true) = valL c := by
  have : word c true = c ++ List.replicate (64 - c.length) false := by simp [word]
  rw [this, valL_append, valL_zeros]
  omega
theorem valL_word_false {c : List Bool} (h : c.length ≤ 64) : valL (word c false) = 2 ^ 64 - 1 - valL c := by
  have h1 : word c false = (word c true).map not := by
    unfold word
    rw [List.map_map]
    apply List.map_congr_left
    intro x _
    cases x <;> rfl
  rw [h1, ← valL_not (word_len h true), valL_word_true]
theorem word_take {c : List Bool} (bit : Bool) {i : Nat} (hi : i ≤ c.length) : ((word c bit).take i).count true = (c.take i).count bit := by
  unfold word
  rw [← List.map_take, List.take_append_of_le_length hi]
  generalize c.take i = l
  induction l with
  | nil => rfl
  | cons b l ih =>
    rw [List.map_cons, List.count_cons, List.count_cons, ih]
    cases b <;> cases bit <;> simp
theorem word_get {c : List Bool} (bit : Bool) {i : Nat} (hi : i < c.length) (h2 : i < (word c bit).length) : (word c bit)[i] = (c[i] == bit) := by
  have : (word c bit)[i]? = some (c[i] == bit) := by
    unfold word
    rw [List.getElem?_map, List.getElem?_append_left hi, List.getElem?_eq_getElem hi]
    rfl
  rw [List.getElem?_eq_getElem h2] at this
  exact Option.some.inj this
end Go.Ev
namespace Go.Proofs.YtmijfoikdjcmlaaDoor
open Go.Ev
set_option linter.unusedVariables false

/-- The table by which the lowest 1 is found. -/
def Deb (H : Heap) : Prop := ∀ i, i < 64 → hcell H ((⟨gl_bits_deBruijn64tab, 0, none⟩ : Addr).add i) = some (.int .u8 (Go.Lib.deBruijn64tab.getD i 0 : Int))
theorem Deb.old {H H' : Heap} (h : Deb H) (hf : Fr noF H H') : Deb H' := fun i hi => hf.cell (h i hi) fun h => h
theorem deb_small : ∀ i, i < 64 → Go.Lib.deBruijn64tab.getD i 0 < 64 := by decide
theorem deB : ∀ k, k < 64 → 2 ^ k * 285870213051353865 % 2 ^ 64 / 2 ^ 58 < 64 ∧ Go.Lib.deBruijn64tab.getD (2 ^ k * 285870213051353865 % 2 ^ 64 / 2 ^ 58) 0 = k := by decide +kernel
theorem neg_u64 {x : Nat} (h : x < 2 ^ 64) (h0 : 0 < x) : IntKind.u64.wrap (0 - (x : Int)) = ((2 ^ 64 - x : Nat) : Int) := by
  unfold IntKind.wrap; simp [IntKind.bits, IntKind.signed]; omega
theorem tz_word {x k c : Nat} (hlt : x < 2 ^ 64) (h0 : 0 < x) (hlow : x &&& (2 ^ 64 - x) = 2 ^ k) :
    shrW .u64 (IntKind.u64.wrap ((andW .u64 (x : Int) (IntKind.u64.wrap (0 - (x : Int)))) * (c : Int))) ((58 : Nat) : Int) = ((2 ^ k * c % 2 ^ 64 / 2 ^ 58 : Nat) : Int) := by
  rw [neg_u64 hlt h0, andW_nat hlt (by omega), hlow, ← Int.natCast_mul, wrap_nat, shrW_nat (Nat.mod_lt _ (by decide)), Nat.shiftRight_eq_div_pow]
theorem TrailingZeros64_spec {l : List Bool} (hl : l.length ≤ 64) (hm : true ∈ l) {H : Heap} (hd : Deb H) {R : Int → Heap → Prop} (hR : R (nth l 0 : Int) H) : bits_TrailingZeros64.C (valL l : Int) H R := by
  apply bits_TrailingZeros64.calls
  unfold bits_TrailingZeros64.W
  have hpos := valL_pos hm
  have hlt : valL l < 2 ^ 64 := Nat.lt_of_lt_of_le (valL_lt l) (Nat.pow_le_pow_right (by decide) hl)
  have hne : valL l ≠ 0 := Nat.pos_iff_ne_zero.1 hpos
  have hctz : Go.Lib.ctz 64 (valL l) = nth l 0 := by
    unfold Go.Lib.ctz
    rw [if_neg hne, ctz_valL 64 l hm hl]
  have hlb := Go.Lib.lowest_bit 64 (valL l) hne hlt
  rw [hctz] at hlb
  clear hctz
  obtain ⟨hlow, hk⟩ := hlb
  obtain ⟨i, e2, hb1, hb2⟩ : ∃ i : Nat, shrW .u64 (IntKind.u64.wrap ((andW .u64 (valL l : Int) (IntKind.u64.wrap (0 - (valL l : Int)))) * ((285870213051353865 : Nat) : Int))) ((58 : Nat) : Int) = (i : Int) ∧ i < 64 ∧ Go.Lib.deBruijn64tab.getD i 0 = nth l 0 :=
    ⟨_, tz_word hlt hpos hlow, (deB _ hk).1, (deB _ hk).2⟩
  clear hlow hlt
  refine brW_neg (fun h => hne (by exact_mod_cast h)) ⟨by decide, ?_⟩
  rw [show (285870213051353865 : Int) = ((285870213051353865 : Nat) : Int) from rfl, show (58 : Int) = ((58 : Nat) : Int) from rfl, e2, Int.toNat_natCast]
  clear e2
  refine ⟨by omega, by omega, _, hd i hb1, letV_mk fun y hy => ?_⟩
  rw [hb2, wrap_i64 (by omega) (by omega)] at hy
  rw [hy]
  exact hR
theorem Bits_Select_spec {H : Heap} {g : Nat} {m : List Bool} {F : Nat → Prop} (h : Bits H g m F) (hd : Deb H) (j : Int) (bit : Bool) {R : Int → Heap → Prop}
    (h1 : ∀ (p : Nat) (hp : p < m.length) H', m[p] = bit → (rk m p bit : Int) = j → Fr noF H H' → R (p : Int) H') (h2 : ∀ H', (j < 0 ∨ (m.count bit : Int) ≤ j) → Fr noF H H' → R (-1) H') : bits_Bits_Select.C (some ⟨g, 0, none⟩) j bit H R := by
  apply bits_Bits_Select.calls
  unfold bits_Bits_Select.W
  have hfew := h.few
  refine joinW_mk (fun q H' => Fr noF H H' ∧ (q.1 = true → (j < 0 ∨ (m.count bit : Int) ≤ j)) ∧ (q.1 = false → 0 ≤ j ∧ j < (m.count bit : Int))) ?_ ?_ |> joinW_thru
  · refine brW_dec (fun hn => ⟨Fr.refl _ _, fun _ => .inl hn, fun h => by cases h⟩) (fun hn => ?_)
    refine Bits_Len_spec h ?_
    refine Bits_Rank_spec h _ bit fun H4 f4 => ?_
    rw [Int.toNat_natCast, rk_all m (Nat.le_refl _)]
    exact ⟨f4, fun h => .inr (of_decide_eq_true h), fun h => ⟨by omega, by have := of_decide_eq_false h; omega⟩⟩
  rintro ⟨q, _⟩ H1 ⟨f1, hq1, hq2⟩
  dsimp only at hq1 hq2 ⊢
  refine brW_mk (fun hb => h2 H1 (hq1 hb) f1) (fun hb => ?_)
  obtain ⟨hj0, hj1⟩ := hq2 hb
  obtain ⟨j, rfl⟩ : ∃ n : Nat, j = (n : Int) := ⟨j.toNat, by omega⟩
  clear h2 hq1 hq2 hb hj0
  have hcnt : m.count bit ≤ m.length := List.count_le_length
  have b1 := h.old f1
  obtain ⟨lp, lc, hat, _⟩ := b1
  refine ⟨_, rfl, _, _, _, (hcell_add hat.blk 0 0).trans rfl, letV_mk fun hi8 hhi => joinW_thru ?_⟩
  have hhi : hi8 = ((m.length / 64 : Nat) : Int) := by rw [hhi, wrap_i64 (by omega) (by omega)]; omega
  subst hhi
  refine loopW_mk (fun n q H' => ∃ lo hi : Nat, q.1 = (lo : Int) ∧ q.2.1 = (hi : Int) ∧ n = hi - lo ∧ lo ≤ hi ∧ hi ≤ m.length / 64 ∧ rk m (64 * lo) bit ≤ j ∧ (hi = m.length / 64 ∨ j < rk m (64 * (hi + 1)) bit) ∧ Fr noF H H') (m.length / 64)
    ⟨0, m.length / 64, rfl, rfl, by omega, by omega, Nat.le_refl _, by simp [rk], .inl rfl, f1⟩ ?_
  rintro n ⟨x, y, _⟩ H6 ⟨lo, hi, hx, hy, rfl, hlh, hhn, hlo, hhi, f6⟩
  simp only at hx hy
  subst hx hy
  dsimp only
  refine brW_dec (fun hlt => ?_) (fun hge => ?_)
  · refine ⟨by decide, letV_mk fun mid hmid => ?_⟩
    obtain ⟨mi, hmi, hm1, hm2⟩ : ∃ mi : Nat, mid = (mi : Int) ∧ lo < mi ∧ mi ≤ hi := by
      rw [wrap_i64 (n := (lo : Int) + (hi : Int)) (by omega) (by omega), wrap_i64 (n := (lo : Int) + (hi : Int) + 1) (by omega) (by omega), show (lo : Int) + (hi : Int) + 1 = ((lo + hi + 1 : Nat) : Int) by omega, show Int.tdiv ((lo + hi + 1 : Nat) : Int) 2 = (((lo + hi + 1) / 2 : Nat) : Int) from rfl, wrap_i64 (by omega) (by omega)] at hmid
      exact ⟨_, hmid, by omega, by omega⟩
    subst hmi
    clear hmid
    rw [show IntKind.i64.wrap ((mi : Int) * 64) = ((64 * mi : Nat) : Int) by rw [wrap_i64 (by omega) (by omega)]; omega]
    refine Bits_Rank_spec (h.old f6) _ bit fun H7 f7 => ?_
    rw [Int.toNat_natCast]
    refine brW_dec (fun hle => ?_) (fun hgt => letV_mk fun h8 hh8 => ?_)
    · exact ⟨hi - mi, by omega, mi, hi, rfl, rfl, rfl, hm2, hhn, by omega, hhi, f6.trans0 f7⟩
    · refine ⟨mi - 1 - lo, by omega, lo, mi - 1, rfl, ?_, rfl, by omega, by omega, hlo, .inr ?_, f6.trans0 f7⟩
      · show h8 = _
        rw [hh8, wrap_i64 (by omega) (by omega)]; omega
      · rw [show mi - 1 + 1 = mi by omega]; omega
  · have : lo = hi := by omega
    subst this
    clear hge hlh
    have b6 := h.old f6
    refine Bits_at_spec b6 (by omega) fun H8 f8 => ?_
    have f8 := f6.trans0 f8
    -- the chunk has it
    have hcl : (chunk m lo).length ≤ 64 := by rw [chunk_len]; omega
    have hrc := rk_chunk m lo 64 (Nat.le_refl _) bit
    rw [List.take_of_length_le hcl] at hrc
    have hj64 : j < rk m (64 * lo + 64) bit := by
      rcases hhi with h | h
      · rw [rk_all m (by omega)]; omega
      · rw [show 64 * lo + 64 = 64 * (lo + 1) by omega]; exact h
    have hw64 := word_len hcl bit
    have hwc : ((word (chunk m lo) bit).take (chunk m lo).length).count true = (chunk m lo).count bit := by rw [word_take bit (Nat.le_refl _), List.take_length]
    have hwle : ((word (chunk m lo) bit).take (chunk m lo).length).count true ≤ (word (chunk m lo) bit).count true := (List.take_sublist _ _).count_le _
    refine joinW_mk (fun q H' => q.1 = (valL (word (chunk m lo) bit) : Int) ∧ H' = H8) ?_ ?_
    · refine brW_mk (fun hb => ?_) (fun hb => ?_)
      · have hb : bit = false := by simpa using hb
        subst hb
        refine letV_mk fun w hw => ⟨?_, rfl⟩
        show w = _
        rw [hw, notW_nat (valL_chunk_lt m lo), valL_word_false hcl]
      · have hb : bit = true := by simpa using hb
        subst hb
        refine ⟨?_, rfl⟩
        show (valL (chunk m lo) : Int) = _
        rw [valL_word_true]
    rintro ⟨w, _⟩ H9 ⟨hw, rfl⟩
    simp only at hw
    subst hw
    dsimp only
    rw [show IntKind.i64.wrap ((lo : Int) * 64) = ((64 * lo : Nat) : Int) by rw [wrap_i64 (by omega) (by omega)]; omega]
    refine joinW_mk (fun q H' => q.1 = (valL (clrN (j - rk m (64 * lo) bit) (word (chunk m lo) bit)) : Int) ∧ Fr noF H H') ?_ ?_
    · refine Bits_Rank_spec (h.old f8) _ bit fun H11 f11 => ?_
      rw [Int.toNat_natCast]
      refine loopW_mk (fun n q H' => H' = H11 ∧ ∃ i : Nat, i ≤ j - rk m (64 * lo) bit ∧ n = j - rk m (64 * lo) bit - i ∧ q.1 = (valL (clrN i (word (chunk m lo) bit)) : Int) ∧ q.2.1 = (i : Int)) (j - rk m (64 * lo) bit) ⟨rfl, 0, by omega, rfl, rfl, rfl⟩ ?_
      rintro n ⟨x, y, _⟩ H12 ⟨rfl, i, hi, rfl, hx, hy⟩
      simp only at hx hy
      subst hx hy
      dsimp only
      rw [wrap_i64 (n := (j : Int) - (rk m (64 * lo) bit : Int)) (by omega) (by omega)]
      refine brW_dec (fun hlt => letV_mk fun w hw => ?_) (fun hge => ?_)
      · have hcc := clrN_count i (word (chunk m lo) bit)
        have hmem : true ∈ clrN i (word (chunk m lo) bit) := List.count_pos_iff.1 (by omega)
        have hp := valL_pos hmem
        have hlt64 : valL (clrN i (word (chunk m lo) bit)) < 2 ^ 64 := by have := valL_lt (clrN i (word (chunk m lo) bit)); rwa [clrN_len, hw64] at this
        refine ⟨j - rk m (64 * lo) bit - (i + 1), by omega, rfl, i + 1, by omega, rfl, ?_, ?_⟩
        · show w = _
          rw [hw, show ((valL (clrN i (word (chunk m lo) bit)) : Nat) : Int) - 1 = ((valL (clrN i (word (chunk m lo) bit)) - 1 : Nat) : Int) by omega, wrap_natlt (by omega), andW_nat hlt64 (by omega), valL_clr hmem]
          rfl
        · show IntKind.i64.wrap ((i : Int) + 1) = _
          rw [wrap_i64 (by omega) (by omega)]; rfl
      · have : i = j - rk m (64 * lo) bit := by omega
        rw [← this]
        exact ⟨rfl, f8.trans0 f11⟩
    rintro ⟨w, _⟩ H10 ⟨hw, f10⟩
    simp only at hw
    subst hw
    dsimp only
    have hcc := clrN_count (j - rk m (64 * lo) bit) (word (chunk m lo) bit)
    have hmem : true ∈ clrN (j - rk m (64 * lo) bit) (word (chunk m lo) bit) := List.count_pos_iff.1 (by omega)
    refine TrailingZeros64_spec (by rw [clrN_len, hw64]; exact Nat.le_refl _) hmem (hd.old f10) ?_
    rw [clrN_nth _ _ 0 (by omega), Nat.zero_add]
    obtain ⟨n1, n2, n3⟩ := nth_spec (word (chunk m lo) bit) (j - rk m (64 * lo) bit) (by omega)
    generalize nth (word (chunk m lo) bit) (j - rk m (64 * lo) bit) = p at n1 n2 n3 ⊢
    have hpc : p < (chunk m lo).length := by
      rcases Nat.lt_or_ge p (chunk m lo).length with h | h
      · exact h
      · have := (List.take_sublist_take_left (l := word (chunk m lo) bit) h).count_le true
        omega
    obtain ⟨hlt, hge⟩ := chunk_get hpc
    rw [word_get bit hpc] at n2
    rw [word_take bit (Nat.le_of_lt hpc)] at n3
    have hrk := rk_chunk m lo p (by omega) bit
    refine letV_mk fun r hr => ?_
    have hr : r = ((64 * lo + p : Nat) : Int) := by rw [hr, wrap_i64 (by omega) (by omega)]; omega
    rw [hr]
    refine h1 _ hlt H10 ?_ ?_ f10
    · rw [← hge]; simpa using n2
    · omega
theorem Bits_Select_nil {H : Heap} {j : Int} {bit : Bool} {R : Int → Heap → Prop} (hj : j = 0) (hR : R (-1) H) : bits_Bits_Select.C none j bit H R := by
  subst hj
  apply bits_Bits_Select.calls
  unfold bits_Bits_Select.W
  refine joinW_thru (joinW_thru (brW_neg (by decide) ?_))
  refine Bits_Len_nil ?_
  apply bits_Bits_Rank.calls
  unfold bits_Bits_Rank.W
  refine Bits_Len_nil (letV_mk fun k hk => ?_)
  have : k = 0 := by rw [hk]; rfl
  subst this
  exact brW_pos rfl (brW_true rfl hR)
end Go.Proofs.YtmijfoikdjcmlaaDoor
