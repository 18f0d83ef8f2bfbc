import Derived.Test.YtmijfoikdjcmlaaDoorParen3
/-! Package paren: making. -/
namespace Go.Ev
theorem tset_eq {T : List Int} {i : Nat} (h : i < T.length) (x : Int) : (T.set i x).getD i 0 = x := by simp [List.getD_eq_getElem?_getD, h]
theorem tset_ne {T : List Int} {i j : Nat} (h : i ≠ j) (x : Int) : (T.set i x).getD j 0 = T.getD j 0 := by simp [List.getD_eq_getElem?_getD, List.getElem?_set_ne h]
end Go.Ev
namespace Go.Proofs.YtmijfoikdjcmlaaDoor
open Go.Ev
set_option linter.unusedVariables false
theorem May_spec {H : Heap} {m : List Bool} {p : Option Addr} {n c : Nat} (hrd : Rd H (m.map Value.bool) p n) (hn : n ≤ 4194304) {R : Bool → Heap → Prop} (hT : Bal m → R true H) (hF : ¬ Bal m → R false H) : paren_May.C p n c H R := by
  have hl : m.length = n := by have := hrd.1; simpa using this
  apply paren_May.calls
  unfold paren_May.W
  refine joinW_thru ?_
  refine loopW_mk (fun k (q : Int × Int × Unit) H' => ∃ i : Nat, i ≤ n ∧ k = n - i ∧ q.1 = exc m i ∧ q.2.1 = (i : Int) ∧ H = H' ∧ ∀ j, j ≤ i → 0 ≤ exc m j) n ⟨0, Nat.zero_le _, rfl, (exc_zero m).symm, rfl, rfl, fun j hj => (show j = 0 by omega) ▸ (by rw [exc_zero]; omega)⟩ ?_
  rintro k ⟨x, y, _⟩ _ ⟨i, hi, rfl, hx, hy, rfl, hall⟩
  simp only at hx hy
  subst hx hy
  dsimp only
  refine brW_dec (fun hlt => ?_) (fun hge => ?_)
  · have hi' : i < m.length := by omega
    obtain ⟨h2, a, ha, hc⟩ := rd_bool hrd (i := i) (by omega)
    have hb := exc_le m i
    have hb1 := exc_le m (i + 1)
    have hs := exc_succ hi'
    refine joinW_mk (fun (q : Int × Unit) H' => H = H' ∧ q.1 = exc m (i + 1) ∧ 0 ≤ exc m (i + 1)) ?_ ?_
    · refine ⟨a, ha, by omega, by omega, _, by rw [Int.toNat_natCast]; exact hc, ?_⟩
      refine joinW_mk (fun (q : Int × Unit) H' => H = H' ∧ q.1 = exc m (i + 1)) ?_ ?_
      · refine letV_mk fun n7 hn7 => ?_
        rw [wrap_i64 (by omega) (by omega)] at hn7
        refine brW_mk (fun hb1' => letV_mk fun n8 hn8 => ⟨rfl, ?_⟩) (fun hb0 => ⟨rfl, ?_⟩)
        · rw [if_pos hb1'] at hs
          rw [wrap_i64 (by omega) (by omega)] at hn8
          show n8 = _
          omega
        · rw [if_neg (by rw [hb0]; decide)] at hs
          show n7 = _
          omega
      · rintro ⟨q, _⟩ _ ⟨rfl, hq⟩
        simp only at hq
        subst hq
        exact brW_dec (fun h0 => hF fun hb => by have := hb.1 (i + 1) (by omega); omega) (fun h0 => ⟨rfl, rfl, by omega⟩)
    · rintro ⟨q, _⟩ _ ⟨rfl, hq, h0⟩
      simp only at hq
      subst hq
      refine ⟨n - (i + 1), by omega, i + 1, by omega, rfl, rfl, by show IntKind.i64.wrap ((i : Int) + 1) = _; rw [wrap_i64 (by omega) (by omega)]; rfl, rfl, fun j hj => ?_⟩
      rcases Nat.lt_or_ge j (i + 1) with h | h
      · exact hall j (by omega)
      · obtain rfl : j = i + 1 := by omega
        exact h0
  · obtain rfl : i = m.length := by omega
    by_cases h0 : exc m m.length = 0
    · rw [decide_eq_true h0]
      exact hT ⟨hall, h0⟩
    · rw [decide_eq_false h0]
      exact hF fun hb => h0 hb.2
structure NewAt (H0 H : Heap) (g gb gt w : Nat) (m : List Bool) (T : List Int) (Fb : Nat → Prop) : Prop where
  blk : H[g]? = some (.cells #[.pointer (some ⟨gb, 0, none⟩), .nilIface, .int .i64 (w : Int), .int .i64 0] ty_paren_Paren (0, 0))
  sl : Sl H ty_int (T.map (Value.int .i64)) (some ⟨gt, 0, none⟩) (2 * w) (2 * w)
  len : T.length = 2 * w
  bits : Bits H gb m Fb
  fr : Fr noF H0 H
  low : Array.size H0 ≤ g
  gt : g < gt
  fb : ∀ k, Fb k → k < g ∧ Array.size H0 ≤ k
section
variable {H0 H : Heap} {g gb gt w : Nat} {m : List Bool} {T : List Int} {Fb : Nat → Prop}
theorem NewAt.wide (n : NewAt H0 H g gb gt w m T Fb) : hcell H ((⟨g, 0, none⟩ : Addr).add 2) = some (.int .i64 (w : Int)) := (hcell_add n.blk 0 2).trans rfl
theorem NewAt.read (n : NewAt H0 H g gb gt w m T Fb) {i : Nat} (hi : i < 2 * w) : hcell H ((⟨gt, 0, none⟩ : Addr).add i) = some (.int .i64 (T.getD i 0)) := by
  have hiT : i < T.length := by rw [n.len]; exact hi
  obtain ⟨a, ha, hc⟩ := n.sl.rd.get (i := i) (v := .int .i64 (T.getD i 0)) (by rw [List.getElem?_map, List.getD_eq_getElem?_getD, List.getElem?_eq_getElem hiT]; rfl)
  cases ha
  exact hc
theorem NewAt.store (n : NewAt H0 H g gb gt w m T Fb) {i : Nat} (hi : i < 2 * w) (x : Int) : (∃ u, hcell H ((⟨gt, 0, none⟩ : Addr).add i) = some u) ∧ hfrozen H ((⟨gt, 0, none⟩ : Addr).add i) = false ∧ ∀ H', H' = hset H ((⟨gt, 0, none⟩ : Addr).add i) (.int .i64 x) → NewAt H0 H' g gb gt w m (T.set i x) Fb := by
  obtain ⟨a, ha, hex, hfz, hs, hf⟩ := n.sl.store hi (.int .i64 x)
  cases ha
  refine ⟨hex, hfz, fun H' e => ?_⟩
  subst e
  have hne : ∀ k, blkIs (some ⟨gt, 0, none⟩) k → k = gt := by rintro k ⟨a, ha, rfl⟩; cases ha; rfl
  have hlow := n.low
  have hgt := n.gt
  refine ⟨hf.blk n.blk fun h => by have := hne _ h; omega, ?_, by rw [List.length_set]; exact n.len, n.bits.keep hf fun k hk h => by have := hne _ h; have := (n.fb k hk).1; omega, n.fr.trans hf fun k hk => .inr (by have := hne _ hk; omega), n.low, n.gt, n.fb⟩
  rw [List.map_set] at *
  exact hs
end
theorem paren_New_spec {H : Heap} (hd : Deb H) {m : List Bool} {p : Option Addr} {n c : Nat} (hrd : Rd H (m.map Value.bool) p n) (hn : n ≤ 4194304) {R : Option Addr → Int → Heap → Prop}
    (hbad : ¬ Bal m → R none 1 H) (hok : Bal m → ∀ g F H', PS H H' g m F → R (some ⟨g, 0, none⟩) 0 H') : paren_New.C p n c H R := by
  have hl : m.length = n := by have := hrd.1; simpa using this
  apply paren_New.calls
  unfold paren_New.W
  refine May_spec hrd hn (fun hb => brW_false rfl ?_) (fun hb => brW_true rfl (hbad hb))
  have hok := hok hb
  refine Bits_New_spec hrd hn fun gb H2 tb f2 => joinW_thru (joinW_thru (brW_neg (by decide) (brW_neg (by omega) (letV_mk fun H5 h5 => ?_))))
  have f5 : Fr noF H2 H5 := by rw [h5]; exact Fr.new _ _ _
  have s5 : Array.size H5 = Array.size H2 + 1 := by rw [h5]; exact hnew_size
  have g5 := new_part h5
  clear h5
  have sz2 := f2.size
  generalize hgd : Array.size H2 = g at *
  have tb5 := tb.old f5
  -- the width
  refine joinW_mk (fun _ H' => ∃ t, t ≤ 16 ∧ t ≤ blen n ∧ n ≤ 2 ^ t * 64 ∧ H'[g]? = some (.cells #[.pointer (some ⟨gb, 0, none⟩), .nilIface, .int .i64 ((2 ^ t : Nat) : Int), .int .i64 0] ty_paren_Paren (0, 0)) ∧ Bits H' gb m (fun k => Array.size H ≤ k ∧ k < g) ∧ Fr noF H H' ∧ g < Array.size H') ?_ ?_
  · refine loopW_mk (fun k (q : Unit) H' => ∃ t, k = 17 - t ∧ t ≤ 16 ∧ (t = 0 ∨ 2 ^ t * 32 < n) ∧ H'[g]? = some (.cells #[.pointer (some ⟨gb, 0, none⟩), .nilIface, .int .i64 ((2 ^ t : Nat) : Int), .int .i64 0] ty_paren_Paren (0, 0)) ∧ Bits H' gb m (fun k => Array.size H ≤ k ∧ k < g) ∧ Fr noF H H' ∧ g < Array.size H') 17 ⟨0, rfl, by omega, .inl rfl, g5, tb5, f2.trans0 f5, by omega⟩ ?_
    rintro k _ H7 ⟨t, rfl, ht, hor, hg7, tb7, f7, hs7⟩
    have hp := pow16 ht
    have hp0 := pow2_pos t
    have c2 : hcell H7 ((⟨g, 0, none⟩ : Addr).add 2) = some (.int .i64 ((2 ^ t : Nat) : Int)) := (hcell_add hg7 0 2).trans rfl
    refine ⟨_, rfl, _, c2, ?_⟩
    rw [wrap_i64 (n := ((2 ^ t : Nat) : Int) * 64) (by omega) (by omega)]
    have hps := pow2_succ t
    refine brW_dec (fun hlt => ⟨_, rfl, _, c2, _, rfl, ⟨_, c2⟩, hfrozen_add hg7 0 2, letV_mk fun H8 h8 => ?_⟩) (fun hge => ⟨t, ht, ?_, by omega, hg7, tb7, f7, hs7⟩)
    · rw [wrap_i64 (by omega) (by omega), show ((2 ^ t : Nat) : Int) * 2 = ((2 ^ (t + 1) : Nat) : Int) by omega] at h8
      have g8 := set_blk h8 hg7
      have f8 := set_fr h8
      have ht16 : t < 16 := by
        rcases Nat.lt_or_ge t 16 with h | h
        · exact h
        · obtain rfl : t = 16 := by omega
          omega
      exact ⟨17 - (t + 1), by omega, t + 1, rfl, by omega, .inr (by omega), g8, tb7.keep f8 fun k hk e => by omega, f7.trans f8 fun k hk => .inr (by omega), Nat.lt_of_lt_of_le hs7 f8.size⟩
    · rcases hor with h | h
      · omega
      · rcases Nat.lt_or_ge (blen n) t with e | e
        · have h1 := blen_le.1 (Nat.le_refl (blen n))
          have h2 : 2 ^ blen n ≤ 2 ^ t := Nat.pow_le_pow_right (by decide) (by omega)
          omega
        · exact e
  clear tb tb5 g5 f5 s5
  rintro _ H6 ⟨t, ht, htb, hfit, hg6, tb6, f6, hs6⟩
  have hp := pow16 ht
  have hp0 := pow2_pos t
  have c2 : hcell H6 ((⟨g, 0, none⟩ : Addr).add 2) = some (.int .i64 ((2 ^ t : Nat) : Int)) := (hcell_add hg6 0 2).trans rfl
  refine ⟨_, rfl, _, c2, ?_⟩
  rw [wrap_i64 (n := 2 * ((2 ^ t : Nat) : Int)) (by omega) (by omega), show 2 * ((2 ^ t : Nat) : Int) = ((2 * 2 ^ t : Nat) : Int) by omega]
  generalize hw : 2 ^ t = w at *
  refine ⟨by omega, by omega, by omega, ?_⟩
  rw [Int.toNat_natCast]
  refine letV_mk fun H9 h9 => ?_
  have f9 : Fr noF H6 H9 := by rw [h9]; exact Fr.new _ _ _
  have sl9 : Sl H9 ty_int ((List.replicate (2 * w) (0 : Int)).map (Value.int .i64)) (some ⟨Array.size H6, 0, none⟩) (2 * w) (2 * w) := by
    rw [h9, List.map_replicate]
    exact Sl.made H6 ty_int (z := .int .i64 0) rfl (2 * w)
  clear h9
  have n9 : NewAt H H9 g gb (Array.size H6) w m (List.replicate (2 * w) (0 : Int)) (fun k => Array.size H ≤ k ∧ k < g) :=
    ⟨f9.blk hg6 fun h => h, sl9, List.length_replicate, tb6.old f9, f6.trans0 f9, by omega, hs6, fun k hk => ⟨hk.2, hk.1⟩⟩
  generalize Array.size H6 = gt at *
  clear hg6 tb6 f6 c2 f9 sl9
  -- all blocks as yet empty
  refine joinW_mk (fun _ H' => ∃ T, NewAt H H' g gb gt w m T (fun k => Array.size H ≤ k ∧ k < g) ∧ ∀ b, b < w → T.getD (w + b) 0 = (n : Int)) ?_ ?_
  · refine ⟨_, rfl, _, n9.wide, ?_⟩
    refine loopW_mk (fun k (q : Int × Unit) H' => ∃ (i : Nat) (T : List Int), i ≤ w ∧ k = w - i ∧ q.1 = (i : Int) ∧ NewAt H H' g gb gt w m T (fun k => Array.size H ≤ k ∧ k < g) ∧ ∀ b, b < i → T.getD (w + b) 0 = (n : Int)) w ⟨0, _, Nat.zero_le _, rfl, rfl, n9, fun b hb => by omega⟩ ?_
    rintro k ⟨x, _⟩ H11 ⟨i, T, hi, rfl, hx, n11, hT⟩
    simp only at hx
    subst hx
    dsimp only
    refine brW_dec (fun hlt => ?_) (fun hge => ⟨T, n11, fun b hb => hT b (by omega)⟩)
    refine ⟨_, rfl, _, n11.wide, ?_⟩
    rw [wrap_i64 (n := (w : Int) + (i : Int)) (by omega) (by omega), show (w : Int) + (i : Int) = ((w + i : Nat) : Int) by omega, Int.toNat_natCast]
    obtain ⟨a1, a2, a3⟩ := n11.store (i := w + i) (by omega) (n : Int)
    refine ⟨_, rfl, by omega, by omega, a1, a2, letV_mk fun H12 h12 => ?_⟩
    refine ⟨w - (i + 1), by omega, i + 1, _, by omega, rfl, by show IntKind.i64.wrap ((i : Int) + 1) = _; rw [wrap_i64 (by omega) (by omega)]; rfl, a3 H12 h12, fun b hb => ?_⟩
    rcases Nat.lt_or_ge b i with e | e
    · rw [tset_ne (by omega)]
      exact hT b e
    · obtain rfl : b = i := by omega
      exact tset_eq (by rw [n11.len]; omega) _
  clear n9
  rintro _ H10 ⟨T10, n10, hT10⟩
  -- the least of each block
  refine joinW_mk (fun _ H' => ∃ T, NewAt H H' g gb gt w m T (fun k => Array.size H ≤ k ∧ k < g) ∧ ∀ b, b < w → ∀ to : Int, to < m.length → (T.getD (w + b) 0 ≤ to ↔ ∃ i, i < m.length ∧ i / 64 = b ∧ exc m (i + 1) ≤ to)) ?_ ?_
  · refine loopW_mk (fun k (q : Int × Int × Unit) H' => ∃ (i : Nat) (T : List Int), i ≤ n ∧ k = n - i ∧ q.1 = exc m i ∧ q.2.1 = (i : Int) ∧ NewAt H H' g gb gt w m T (fun k => Array.size H ≤ k ∧ k < g) ∧ ∀ b, b < w → ∀ to : Int, to < m.length → (T.getD (w + b) 0 ≤ to ↔ ∃ j, j < i ∧ j / 64 = b ∧ exc m (j + 1) ≤ to)) n
      ⟨0, T10, Nat.zero_le _, rfl, (exc_zero m).symm, rfl, n10, fun b hb to hto => by
        rw [hT10 b hb]
        exact ⟨fun h => by omega, fun ⟨j, h, _⟩ => by omega⟩⟩ ?_
    rintro k ⟨x, y, _⟩ H14 ⟨i, T, hi, rfl, hx, hy, n14, hT⟩
    simp only at hx hy
    subst hx hy
    dsimp only
    refine brW_dec (fun hlt => ?_) (fun hge => ?_)
    · have hi' : i < m.length := by omega
      obtain ⟨h2, a, ha, hc⟩ := rd_bool (hrd.old n14.fr) (i := i) (by omega)
      have hb := exc_le m i
      have hb1 := exc_le m (i + 1)
      have hs := exc_succ hi'
      have hiw : i / 64 < w := by omega
      refine joinW_mk (fun (q : Int × Unit) H' => q.1 = exc m (i + 1) ∧ ∃ T, NewAt H H' g gb gt w m T (fun k => Array.size H ≤ k ∧ k < g) ∧ ∀ b, b < w → ∀ to : Int, to < m.length → (T.getD (w + b) 0 ≤ to ↔ ∃ j, j < i + 1 ∧ j / 64 = b ∧ exc m (j + 1) ≤ to)) ?_ ?_
      · refine ⟨a, ha, by omega, by omega, _, by rw [Int.toNat_natCast]; exact hc, ?_⟩
        refine joinW_mk (fun (q : Int × Unit) H' => H14 = H' ∧ q.1 = exc m (i + 1)) ?_ ?_
        · refine letV_mk fun n7 hn7 => ?_
          rw [wrap_i64 (by omega) (by omega)] at hn7
          refine brW_mk (fun hb1' => letV_mk fun n8 hn8 => ⟨rfl, ?_⟩) (fun hb0 => ⟨rfl, ?_⟩)
          · rw [if_pos hb1'] at hs
            rw [wrap_i64 (by omega) (by omega)] at hn8
            show n8 = _
            omega
          · rw [if_neg (by rw [hb0]; decide)] at hs
            show n7 = _
            omega
        · rintro ⟨q, _⟩ _ ⟨rfl, hq⟩
          simp only at hq
          subst hq
          dsimp only
          refine ⟨_, rfl, _, n14.wide, by decide, letV_mk fun at12 hat => ?_⟩
          rw [show Int.tdiv (i : Int) 64 = ((i / 64 : Nat) : Int) from rfl, wrap_i64 (n := ((i / 64 : Nat) : Int)) (by omega) (by omega), wrap_i64 (by omega) (by omega), show (w : Int) + ((i / 64 : Nat) : Int) = ((w + i / 64 : Nat) : Int) by omega] at hat
          subst hat
          rw [Int.toNat_natCast]
          obtain ⟨a1, a2, a3⟩ := n14.store (i := w + i / 64) (by omega) (min (T.getD (w + i / 64) 0) (exc m (i + 1)))
          refine ⟨_, rfl, by omega, by omega, _, n14.read (by omega), _, rfl, by omega, by omega, a1, a2, letV_mk fun H17 h17 => ⟨rfl, _, a3 H17 h17, fun b hb to hto => ?_⟩⟩
          rcases Classical.em (b = i / 64) with e | e
          · subst e
            rw [tset_eq (by rw [n14.len]; omega)]
            have h1 := hT (i / 64) hb to hto
            constructor
            · intro hm
              rcases Classical.em (T.getD (w + i / 64) 0 ≤ to) with h | h
              · obtain ⟨j, a, b, c⟩ := h1.1 h
                exact ⟨j, by omega, b, c⟩
              · exact ⟨i, by omega, rfl, by omega⟩
            · rintro ⟨j, a, b, c⟩
              rcases Nat.lt_or_ge j i with h | h
              · have := h1.2 ⟨j, h, b, c⟩
                omega
              · obtain rfl : j = i := by omega
                omega
          · rw [tset_ne (by omega), hT b hb to hto]
            constructor
            · rintro ⟨j, a, b, c⟩
              exact ⟨j, by omega, b, c⟩
            · rintro ⟨j, a, b, c⟩
              rcases Nat.lt_or_ge j i with h | h
              · exact ⟨j, h, b, c⟩
              · obtain rfl : j = i := by omega
                omega
      · rintro ⟨q, _⟩ H15 ⟨hq, T', n15, hT'⟩
        simp only at hq
        subst hq
        exact ⟨n - (i + 1), by omega, i + 1, T', by omega, rfl, rfl, by show IntKind.i64.wrap ((i : Int) + 1) = _; rw [wrap_i64 (by omega) (by omega)]; rfl, n15, hT'⟩
    · obtain rfl : i = m.length := by omega
      exact ⟨T, n14, hT⟩
  clear n10 hT10
  rintro _ H13 ⟨T13, n13, hT13⟩
  -- of each two
  refine joinW_mk (fun _ H' => ∃ T, NewAt H H' g gb gt w m T (fun k => Array.size H ≤ k ∧ k < g) ∧ (∀ b, b < w → ∀ to : Int, to < m.length → (T.getD (w + b) 0 ≤ to ↔ ∃ i, i < m.length ∧ i / 64 = b ∧ exc m (i + 1) ≤ to)) ∧ ∀ v, 1 ≤ v → v < w → T.getD v 0 = min (T.getD (2 * v) 0) (T.getD (2 * v + 1) 0)) ?_ ?_
  · refine ⟨_, rfl, _, n13.wide, letV_mk fun k13 hk13 => ?_⟩
    rw [wrap_i64 (by omega) (by omega)] at hk13
    refine loopW_mk (fun k' (q : Int × Unit) H' => ∃ (k : Nat) (T : List Int), k < w ∧ k' = k ∧ q.1 = (k : Int) ∧ NewAt H H' g gb gt w m T (fun k => Array.size H ≤ k ∧ k < g) ∧ (∀ b, b < w → ∀ to : Int, to < m.length → (T.getD (w + b) 0 ≤ to ↔ ∃ i, i < m.length ∧ i / 64 = b ∧ exc m (i + 1) ≤ to)) ∧ ∀ v, k < v → v < w → T.getD v 0 = min (T.getD (2 * v) 0) (T.getD (2 * v + 1) 0)) (w - 1)
      ⟨w - 1, T13, by omega, rfl, by show k13 = _; omega, n13, hT13, fun v h1 h2 => by omega⟩ ?_
    rintro k' ⟨x, _⟩ H19 ⟨k, T, hk, rfl, hx, n19, hT, hin⟩
    simp only at hx
    subst hx
    dsimp only
    refine brW_dec (fun hlt => ?_) (fun hge => ⟨T, n19, hT, fun v h1 h2 => hin v (by omega) h2⟩)
    rw [wrap_i64 (n := 2 * (k' : Int)) (by omega) (by omega), wrap_i64 (n := 2 * (k' : Int) + 1) (by omega) (by omega), show 2 * (k' : Int) + 1 = ((2 * k' + 1 : Nat) : Int) by omega, show 2 * (k' : Int) = ((2 * k' : Nat) : Int) by omega, Int.toNat_natCast, Int.toNat_natCast, Int.toNat_natCast]
    obtain ⟨a1, a2, a3⟩ := n19.store (i := k') (by omega) (min (T.getD (2 * k') 0) (T.getD (2 * k' + 1) 0))
    refine ⟨_, rfl, by omega, by omega, _, n19.read (by omega), _, rfl, by omega, by omega, _, n19.read (by omega), _, rfl, by omega, by omega, a1, a2, letV_mk fun H20 h20 => letV_mk fun k14 hk14 => ?_⟩
    rw [wrap_i64 (by omega) (by omega)] at hk14
    refine ⟨k' - 1, by omega, k' - 1, _, by omega, rfl, by show k14 = _; omega, a3 H20 h20, fun b hb to hto => ?_, fun v h1 h2 => ?_⟩
    · rw [tset_ne (by omega)]
      exact hT b hb to hto
    · rw [tset_ne (j := 2 * v) (by omega), tset_ne (j := 2 * v + 1) (by omega)]
      rcases Classical.em (v = k') with e | e
      · subst e
        rw [tset_eq (by rw [n19.len]; omega)]
      · rw [tset_ne (by omega)]
        exact hin v (by omega) h2
  clear n13 hT13
  rintro _ H18 ⟨T, n18, hleaf, hin⟩
  refine ⟨_, rfl, ⟨_, (hcell_add n18.blk 0 1).trans rfl⟩, hfrozen_add n18.blk 0 1, letV_mk fun H21 h21 => ?_⟩
  have g21 := set_blk h21 n18.blk
  have f21 := set_fr h21
  clear h21
  have hgtlt := n18.sl.blk_lt (k := gt) ⟨_, rfl, rfl⟩
  have hgt := n18.gt
  have hsz := f21.size
  subst hw
  refine hok g (fun k => Array.size H ≤ k ∧ k < Array.size H21) H21 ⟨⟨t, 0, by omega, T, gb, _, _, _, ⟨g21, n18.sl.keep f21 fun k hk e => n18.sl.ne n18.blk (by decide) (e ▸ hk), n18.bits.keep f21 fun k hk e => by have := hk.2; omega, ⟨n18.len, by omega, fun s v hs h1 h2 to hto => tree_law hleaf hin (t - s) s (by omega) v h1 h2 to hto⟩, hb, ⟨ht, by rw [hl]; exact htb⟩, fun h => by omega⟩, ⟨n18.low, by omega⟩, ?_, fun k hk => ⟨hk.1, by omega⟩, fun k hk => hk.2⟩, n18.fr.trans f21 fun k hk => .inr (by have := n18.low; omega), n18.low, hd⟩
  rintro k ⟨a, ha, rfl⟩
  cases ha
  have := n18.low
  exact ⟨by show Array.size H ≤ gt; omega, by show gt < _; omega⟩
end Go.Proofs.YtmijfoikdjcmlaaDoor
