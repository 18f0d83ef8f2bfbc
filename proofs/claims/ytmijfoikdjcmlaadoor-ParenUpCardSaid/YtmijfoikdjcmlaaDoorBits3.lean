import Derived.Test.YtmijfoikdjcmlaaDoorBits2
/-! Package bits: keeping bits; a row of them. -/
namespace Go.Proofs.YtmijfoikdjcmlaaDoor
open Go.Ev
set_option linter.unusedVariables false

theorem rd_bool {H : Heap} {bs : List Bool} {p : Option Addr} {l : Nat} (h : Rd H (bs.map Value.bool) p l) {i : Nat} (hi : i < l) : ∃ (h2 : i < bs.length) (a : Addr), p = some a ∧ hcell H (a.add i) = some (.bool bs[i]) := by
  have hl : bs.length = l := by have := h.1; simpa using this
  have h2 : i < bs.length := by omega
  obtain ⟨a, ha, hc⟩ := h.get (i := i) (v := .bool bs[i]) (by rw [List.getElem?_map, List.getElem?_eq_getElem h2]; rfl)
  exact ⟨h2, a, ha, hc⟩
theorem valL_take_succ {c : List Bool} {t : Nat} (h : t < c.length) : valL (c.take (t + 1)) = if c[t] = true then valL (c.take t) ||| 2 ^ t else valL (c.take t) := by
  rw [List.take_succ_eq_append_getElem h]
  have hl : (c.take t).length = t := by simp; omega
  obtain ⟨h1, h2⟩ := valL_snoc (c.take t)
  rw [hl] at h1
  cases hb : c[t] with
  | true => rw [h1]; simp
  | false => rw [h2]; simp
theorem Bits_New_spec {H : Heap} {m : List Bool} {p : Option Addr} {n c : Nat} (hrd : Rd H (m.map Value.bool) p n) (hn : n ≤ 4194304) {R : Option Addr → Int → Heap → Prop}
    (hR : ∀ g H', Bits H' g m (fun k => Array.size H ≤ k ∧ k < Array.size H') → Fr noF H H' → R (some ⟨g, 0, none⟩) 0 H') : bits_New.C p n c H R := by
  apply bits_New.calls
  unfold bits_New.W
  have hl : m.length = n := by have := hrd.1; simpa using this
  subst hl
  refine brW_neg (by omega) (letV_mk fun H1 h1 => ?_)
  have f1 : Fr noF H H1 := by rw [h1]; exact Fr.new _ _ _
  have s1 : Array.size H1 = Array.size H + 1 := by rw [h1]; exact hnew_size
  have g1 := new_part h1
  clear h1
  refine letV_mk fun H2 h2 => ?_
  have f2 : Fr noF H1 H2 := by rw [h2]; exact Fr.new _ _ _
  have s2 : Array.size H2 = Array.size H1 + 1 := by rw [h2]; exact hnew_size
  have p2 := new_part h2
  have g2 := f2.blk g1 fun h => h
  clear h2
  refine joinW_thru ?_
  refine loopW_mk (fun k q H' => ∃ (j : Nat) (lp : Option Addr) (lc : Nat) (w : Int), j ≤ m.length / 64 + 1 ∧ k = m.length / 64 + 1 - j ∧ q.1 = ((64 * j : Nat) : Int) ∧
    H'[Array.size H]? = some (.cells #[.slice lp j lc, .int .i64 (m.length : Int)] ty_bits_Bits (0, 0)) ∧ H'[Array.size H1]? = some (.cells #[.int .u64 w, .int .i64 (rk m (64 * j) true : Int)] ty_bits_part (0, 0)) ∧
    Sl H' ty_any (parts m j) lp j lc ∧ (∀ k, blkIs lp k → Array.size H ≤ k) ∧ Fr noF H H') (m.length / 64 + 1)
    ⟨0, none, 0, 0, by omega, rfl, rfl, g2, p2, Sl.nil _ _, (by rintro k ⟨a, ha, _⟩; cases ha), f1.trans0 f2⟩ ?_
  rintro k ⟨x, _⟩ H4 ⟨j, lp, lc, w, hj, rfl, hx, hg4, hp4, hsl4, hlp4, f4⟩
  simp only at hx
  subst hx
  dsimp only
  refine brW_dec (fun hle => ?_) (fun hgt => ?_)
  · have hjn : j < m.length / 64 + 1 := by omega
    refine joinW_thru ⟨⟨_, (hcell_add hp4 0 0).trans rfl⟩, hfrozen_add hp4 0 0, letV_mk fun H6 h6 => ?_⟩
    have hp6 := set_blk h6 hp4
    have f6 := set_fr h6
    have hgp : Array.size H ≠ Array.size H1 := by omega
    have hg6 := f6.blk hg4 hgp
    have hsl6 := hsl4.keep f6 fun k hk e => hsl4.ne hp4 (by decide) (e ▸ hk)
    have fr6 : Fr noF H H6 := f4.trans f6 fun k hk => .inr (by omega)
    clear h6
    refine joinW_thru ?_
    have hcl := chunk_len m j
    refine loopW_mk (fun k q H' => ∃ t : Nat, t ≤ (chunk m j).length ∧ k = (chunk m j).length - t ∧ q.1 = ((64 * j + t : Nat) : Int) ∧
      H'[Array.size H]? = some (.cells #[.slice lp j lc, .int .i64 (m.length : Int)] ty_bits_Bits (0, 0)) ∧ H'[Array.size H1]? = some (.cells #[.int .u64 (valL ((chunk m j).take t) : Int), .int .i64 (rk m (64 * j) true : Int)] ty_bits_part (0, 0)) ∧
      Sl H' ty_any (parts m j) lp j lc ∧ Fr noF H H') (chunk m j).length ⟨0, by omega, rfl, rfl, hg6, hp6, hsl6, fr6⟩ ?_
    clear hg4 hp4 hsl4 f4 hp6 f6 hg6 hsl6 fr6
    rintro k ⟨x, _⟩ H8 ⟨t, ht, rfl, hx, hg8, hp8, hsl8, f8⟩
    simp only at hx
    subst hx
    dsimp only
    rw [wrap_i64 (n := ((64 * j : Nat) : Int) + 64) (by omega) (by omega)]
    refine brW_dec (fun hlt => ?_) (fun hge => ?_)
    · have htl : t < (chunk m j).length := by omega
      obtain ⟨hm, hcg⟩ := chunk_get htl
      refine joinW_mk (fun _ H' => H'[Array.size H]? = some (.cells #[.slice lp j lc, .int .i64 (m.length : Int)] ty_bits_Bits (0, 0)) ∧ H'[Array.size H1]? = some (.cells #[.int .u64 (valL ((chunk m j).take (t + 1)) : Int), .int .i64 (rk m (64 * j) true : Int)] ty_bits_part (0, 0)) ∧
        Sl H' ty_any (parts m j) lp j lc ∧ Fr noF H H') ?_ ?_
      · obtain ⟨h2, a, rfl, hc⟩ := rd_bool (hrd.old f8) hm
        refine ⟨a, rfl, by omega, by omega, _, by rw [Int.toNat_natCast]; exact hc, ?_⟩
        rw [valL_take_succ htl, hcg]
        refine brW_mk (fun hb => ?_) (fun hb => ?_)
        · rw [if_pos hb]
          refine ⟨_, (hcell_add hp8 0 0).trans rfl, ?_⟩
          rw [show ((64 * j + t : Nat) : Int) - ((64 * j : Nat) : Int) = (t : Int) by omega, wrap_i64 (n := (t : Int)) (by omega) (by omega), wrap_natlt (a := t) (by omega)]
          refine ⟨by omega, ⟨_, (hcell_add hp8 0 0).trans rfl⟩, hfrozen_add hp8 0 0, letV_mk fun H10 h10 => ?_⟩
          have hvl : valL ((chunk m j).take t) < 2 ^ 64 := Nat.lt_of_lt_of_le (valL_lt _) (Nat.pow_le_pow_right (by decide) (by simp; omega))
          have hp2 : 2 ^ t < 2 ^ 64 := Nat.pow_lt_pow_right (by decide) (by omega)
          have hval : orW .u64 (valL ((chunk m j).take t) : Int) (shlW .u64 1 (t : Int)) = ((valL ((chunk m j).take t) ||| 2 ^ t : Nat) : Int) := by
            rw [show (1 : Int) = ((1 : Nat) : Int) from rfl, shlW_nat, Nat.shiftLeft_eq, Nat.one_mul, Nat.mod_eq_of_lt hp2, orW_nat hvl hp2]
          rw [hval] at h10
          have hp10 := set_blk h10 hp8
          have f10 := set_fr h10
          exact ⟨f10.blk hg8 hgp, hp10, hsl8.keep f10 fun k hk e => hsl8.ne hp8 (by decide) (e ▸ hk), f8.trans f10 fun k hk => .inr (by omega)⟩
        · rw [if_neg (by rw [hb]; decide)]
          exact ⟨hg8, hp8, hsl8, f8⟩
      · rintro _ H9 ⟨hg9, hp9, hsl9, f9⟩
        refine letV_mk fun i7 hi7 => ⟨(chunk m j).length - (t + 1), by omega, t + 1, by omega, rfl, ?_, hg9, hp9, hsl9, f9⟩
        show i7 = _
        rw [hi7, wrap_i64 (by omega) (by omega)]; omega
    · have : t = (chunk m j).length := by omega
      subst this
      rw [List.take_length] at hp8
      refine ⟨_, rfl, _, _, _, (hcell_add hg8 0 0).trans rfl, _, (hcell_add hp8 0 0).trans rfl, _, (hcell_add hp8 0 1).trans rfl, letV_mk fun H11 h11 => ?_⟩
      have f11 : Fr noF H8 H11 := by rw [h11]; exact Fr.new _ _ _
      have hg11 := f11.blk hg8 fun h => h
      have hp11 := f11.blk hp8 fun h => h
      refine ⟨⟨_, _, _, (hcell_add hg11 0 0).trans rfl, rfl⟩, ?_⟩
      refine app1_at hsl8 h11 rfl ⟨by simp, by simp⟩ (by omega) (by decide) fun lp' lc' H12 hsl12 f12 hb12 => ?_
      have hsl11 := hsl8.keep f11 fun _ _ h => h
      have hg12 := f12.blk hg11 (hsl11.ne hg11 (by decide))
      have hp12 := f12.blk hp11 (hsl11.ne hp11 (by decide))
      have hsl12 : Sl H12 ty_any (parts m (j + 1)) lp' (j + 1) lc' := by rw [parts_succ]; exact hsl12
      have fr12 : Fr noF H H12 := (f8.trans0 f11).trans f12 fun k hk => .inr (hlp4 k hk)
      have hlp12 : ∀ k, blkIs lp' k → Array.size H ≤ k := fun k hk => by
        rcases hb12 k hk with h | h
        · exact hlp4 k h
        · have := f8.size; have := f11.size; omega
      clear h11 f11 f12 hg11 hp11 hsl11 hb12
      refine ⟨_, rfl, ⟨_, (hcell_add hg12 0 0).trans rfl⟩, hfrozen_add hg12 0 0, letV_mk fun H13 h13 => ?_⟩
      have hg13 := set_blk h13 hg12
      have f13 := set_fr h13
      have hp13 := f13.blk hp12 (fun e => hgp e.symm)
      have hsl13 := hsl12.keep f13 fun k hk e => hsl12.ne hg12 (by decide) (e ▸ hk)
      have fr13 : Fr noF H H13 := fr12.trans f13 fun k hk => .inr (by omega)
      clear h13
      refine ⟨_, (hcell_add hp13 0 1).trans rfl, _, (hcell_add hp13 0 0).trans rfl, ?_⟩
      refine OnesCount64_spec (valL_chunk_lt m j) ?_
      rw [pop_valL (by omega)]
      refine ⟨⟨_, (hcell_add hp13 0 1).trans rfl, rfl⟩, ⟨_, (hcell_add hp13 0 1).trans rfl⟩, hfrozen_add hp13 0 1, letV_mk fun H15 h15 => letV_mk fun k6 hk6 => ?_⟩
      have hrk := rk_chunk m j 64 (Nat.le_refl _) true
      rw [List.take_of_length_le (l := chunk m j) (by omega)] at hrk
      have hle := rk_le m (64 * j + 64) true
      have hval : IntKind.i64.wrap ((rk m (64 * j) true : Int) + ((chunk m j).count true : Int)) = (rk m (64 * (j + 1)) true : Int) := by
        rw [wrap_i64 (by omega) (by omega), show 64 * (j + 1) = 64 * j + 64 by omega, hrk]; omega
      rw [hval] at h15
      have hp15 := set_blk h15 hp13
      have f15 := set_fr h15
      refine ⟨m.length / 64 + 1 - (j + 1), by omega, j + 1, lp', lc', _, by omega, rfl, ?_, f15.blk hg13 hgp, hp15, hsl13.keep f15 fun k hk e => hsl13.ne hp13 (by decide) (e ▸ hk), hlp12, fr13.trans f15 fun k hk => .inr (by omega)⟩
      show k6 = _
      rw [hk6]; omega
  · have : j = m.length / 64 + 1 := by omega
    subst this
    refine hR _ H4 ⟨lp, lc, ⟨hg4, hsl4, hn⟩, ⟨Nat.le_refl _, lt_of_blk hg4⟩, fun k hk => ⟨hlp4 k hk, hsl4.blk_lt hk⟩, fun k hk => hk.2⟩ f4
end Go.Proofs.YtmijfoikdjcmlaaDoor
