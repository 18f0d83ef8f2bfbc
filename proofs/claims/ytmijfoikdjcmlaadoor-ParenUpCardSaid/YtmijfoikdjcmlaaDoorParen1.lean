import Derived.Test.YtmijfoikdjcmlaaDoorParenP
import Derived.Test.YtmijfoikdjcmlaaDoorEvI64
import Derived.Test.YtmijfoikdjcmlaaDoorDeb
/-! Package paren: its inner calls. -/
namespace Go.Ev
/-- Does one open? -/
def opn (m : List Bool) (k : Int) : Bool := if 0 ≤ k then (m[k.toNat]?).getD false else false
theorem opn_in {m : List Bool} {i : Nat} (hi : i < m.length) : opn m (i : Int) = m[i] := by
  unfold opn
  rw [if_pos (by omega), Int.toNat_natCast, List.getElem?_eq_getElem hi]
  rfl
theorem opn_out {m : List Bool} {k : Int} (h : k < 0 ∨ (m.length : Int) ≤ k) : opn m k = false := by
  unfold opn
  split
  · rw [List.getElem?_eq_none (by omega)]
    rfl
  · rfl
theorem opn_true {m : List Bool} {k : Int} (h : opn m k = true) : ∃ (i : Nat) (hi : i < m.length), k = (i : Int) ∧ m[i] = true := by
  rcases Classical.em (k < 0 ∨ (m.length : Int) ≤ k) with ho | ho
  · rw [opn_out ho] at h
    cases h
  · obtain ⟨i, rfl⟩ : ∃ n : Nat, k = (n : Int) := ⟨k.toNat, by omega⟩
    have hi : i < m.length := by omega
    rw [opn_in hi] at h
    exact ⟨i, hi, rfl, h⟩
end Go.Ev
namespace Go.Proofs.YtmijfoikdjcmlaaDoor
open Go.Ev
set_option linter.unusedVariables false
structure ParenAt (H : Heap) (g : Nat) (m : List Bool) (h st : Nat) (T : List Int) (gb : Nat) (lp : Option Addr) (lc : Nat) (Fb : Nat → Prop) : Prop where
  blk : H[g]? = some (.cells #[.pointer (some ⟨gb, 0, none⟩), .iface ty_s_int (.slice lp (2 * 2 ^ h) lc), .int .i64 ((2 ^ h : Nat) : Int), .int .i64 (st : Int)] ty_paren_Paren (0, 0))
  sl : Sl H ty_int (T.map (Value.int .i64)) lp (2 * 2 ^ h) lc
  bits : Bits H gb m Fb
  tree : Tree m h T
  bal : Bal m
  high : h ≤ 16 ∧ h ≤ blen m.length
  ng : ¬ Fb g
def Paren (H : Heap) (g : Nat) (m : List Bool) (h st : Nat) (F : Nat → Prop) : Prop := ∃ T gb lp lc Fb, ParenAt H g m h st T gb lp lc Fb ∧ F g ∧ (∀ k, blkIs lp k → F k) ∧ (∀ k, Fb k → F k) ∧ ∀ k, F k → k < Array.size H
theorem Paren.keep {H H' : Heap} {g : Nat} {m : List Bool} {h st : Nat} {F G : Nat → Prop} (p : Paren H g m h st F) (hf : Fr G H H') (hd : ∀ k, F k → ¬ G k) : Paren H' g m h st F := by
  obtain ⟨T, gb, lp, lc, Fb, a, h1, h2, h3, h4⟩ := p
  exact ⟨T, gb, lp, lc, Fb, ⟨hf.blk a.blk (hd _ h1), a.sl.keep hf fun k hk => hd k (h2 k hk), a.bits.keep hf fun k hk => hd k (h3 k hk), a.tree, a.bal, a.high, a.ng⟩, h1, h2, h3, fun k hk => Nat.lt_of_lt_of_le (h4 k hk) hf.size⟩
theorem Paren.old {H H' : Heap} {g : Nat} {m : List Bool} {h st : Nat} {F : Nat → Prop} (p : Paren H g m h st F) (hf : Fr noF H H') : Paren H' g m h st F := p.keep hf fun _ _ h => h
section
variable {H : Heap} {g : Nat} {m : List Bool} {h st : Nat} {F : Nat → Prop}
theorem Paren.step (p : Paren H g m h st F) (n : Nat) {H' : Heap} (hH : H' = hset H ((⟨g, 0, none⟩ : Addr).add 3) (.int .i64 (n : Int))) : Paren H' g m h n F ∧ Fr (fun k => k = g) H H' := by
  have hf := set_fr hH
  obtain ⟨T, gb, lp, lc, Fb, a, h1, h2, h3, h4⟩ := p
  exact ⟨⟨T, gb, lp, lc, Fb, ⟨set_blk hH a.blk, a.sl.keep hf fun k hk e => a.sl.ne a.blk (by decide) (e ▸ hk), a.bits.keep hf fun k hk e => a.ng (e ▸ hk), a.tree, a.bal, a.high, a.ng⟩, h1, h2, h3, fun k hk => Nat.lt_of_lt_of_le (h4 k hk) hf.size⟩, hf⟩
theorem Paren.facts (p : Paren H g m h st F) : Bal m ∧ m.length ≤ 4194304 ∧ m.length ≤ 2 ^ h * 64 ∧ h ≤ 16 ∧ h ≤ blen m.length := by
  obtain ⟨T, gb, lp, lc, Fb, a, _⟩ := p
  exact ⟨a.bal, a.bits.few, a.tree.fit, a.high⟩
theorem Paren.own (p : Paren H g m h st F) : F g ∧ ∀ k, F k → k < Array.size H := by
  obtain ⟨T, gb, lp, lc, Fb, a, h1, _, _, h4⟩ := p
  exact ⟨h1, h4⟩
theorem pow16 {h : Nat} (hh : h ≤ 16) : 2 ^ h ≤ 65536 := Nat.pow_le_pow_right (n := 2) (by decide) hh
theorem Paren.cells (p : Paren H g m h st F) : (∃ gb Fb, hcell H ((⟨g, 0, none⟩ : Addr).add 0) = some (.pointer (some ⟨gb, 0, none⟩)) ∧ Bits H gb m Fb) ∧ hcell H ((⟨g, 0, none⟩ : Addr).add 2) = some (.int .i64 ((2 ^ h : Nat) : Int)) ∧ hcell H ((⟨g, 0, none⟩ : Addr).add 3) = some (.int .i64 (st : Int)) ∧ hfrozen H ((⟨g, 0, none⟩ : Addr).add 3) = false := by
  obtain ⟨T, gb, lp, lc, Fb, a, _⟩ := p
  exact ⟨⟨gb, Fb, (hcell_add a.blk 0 0).trans rfl, a.bits⟩, (hcell_add a.blk 0 2).trans rfl, (hcell_add a.blk 0 3).trans rfl, hfrozen_add a.blk 0 3⟩
theorem upto_spec (p : Paren H g m h st F) {k : Int} {i : Nat} (hk : k + 1 = (i : Int)) (hi : i ≤ m.length) {R : Int → Heap → Prop} (hR : ∀ H', Fr noF H H' → R (exc m i) H') : paren_Paren_upto.C (some ⟨g, 0, none⟩) k H R := by
  obtain ⟨⟨gb, Fb, c0, b⟩, _⟩ := p.cells
  have hfew := b.few
  apply paren_Paren_upto.calls
  unfold paren_Paren_upto.W
  rw [hk, wrap_i64 (n := (i : Int)) (by omega) (by omega)]
  refine ⟨_, rfl, _, c0, ?_⟩
  refine Bits_Rank_spec b _ true fun H1 f1 => letV_mk fun x hx => ?_
  rw [Int.toNat_natCast] at hx
  have hr := rk_le m i true
  have e : x = exc m i := by
    rw [hx, wrap_i64 (n := 2 * (rk m i true : Int)) (by omega) (by omega), wrap_i64 (n := 2 * (rk m i true : Int) - k) (by omega) (by omega), wrap_i64 (by omega) (by omega)]
    unfold exc
    omega
  rw [e]
  exact hR H1 f1
theorem Open_spec (p : Paren H g m h st F) (k : Int) {R : Bool → Heap → Prop} (hR : ∀ H', Fr noF H H' → R (opn m k) H') : paren_Paren_Open.C (some ⟨g, 0, none⟩) k H R := by
  obtain ⟨⟨gb, Fb, c0, b⟩, _⟩ := p.cells
  apply paren_Paren_Open.calls
  unfold paren_Paren_Open.W
  refine brW_false rfl ⟨_, rfl, _, c0, ?_⟩
  refine Bits_Get_spec b k (fun i hi H' e f => ?_) (fun ho => ?_)
  · subst e
    have := hR H' f
    rwa [opn_in hi] at this
  · have := hR H (Fr.refl _ _)
    rwa [opn_out ho] at this
theorem PLen_spec (p : Paren H g m h st F) {R : Int → Heap → Prop} (hR : R (m.length : Int) H) : paren_Paren_Len.C (some ⟨g, 0, none⟩) H R := by
  obtain ⟨⟨gb, Fb, c0, b⟩, _⟩ := p.cells
  apply paren_Paren_Len.calls
  unfold paren_Paren_Len.W
  exact brW_false rfl ⟨_, rfl, _, c0, Bits_Len_spec b hR⟩
theorem low_spec (p : Paren H g m h st F) (hst : st ≤ 1000) {v s : Nat} (hs : s ≤ h) (h1 : 2 ^ s ≤ v) (h2 : v < 2 * 2 ^ s) {to : Int} (ht : to < m.length) {R : Bool → Heap → Prop}
    (hR : ∀ b H', (b = true ↔ ∃ i, i < m.length ∧ anc h i s = v ∧ exc m (i + 1) ≤ to) → Paren H' g m h (st + 1) F → Fr (fun k => k = g) H H' → R b H') : paren_Paren_low.C (some ⟨g, 0, none⟩) (v : Int) to H R := by
  obtain ⟨_, _, c3, z3⟩ := p.cells
  apply paren_Paren_low.calls
  unfold paren_Paren_low.W
  refine ⟨_, rfl, _, c3, _, rfl, ⟨_, c3⟩, z3, letV_mk fun H1 hH => ?_⟩
  rw [wrap_i64 (n := (st : Int) + 1) (by omega) (by omega), show (st : Int) + 1 = ((st + 1 : Nat) : Int) by omega] at hH
  obtain ⟨p1, f1⟩ := p.step (st + 1) hH
  clear hH
  have p1' := p1
  obtain ⟨T, gb, lp, lc, Fb, a, _⟩ := p1
  have hp : 2 ^ s ≤ 2 ^ h := Nat.pow_le_pow_right (by decide) hs
  have hvT : v < T.length := by rw [a.tree.len]; omega
  obtain ⟨a0, ha, hc⟩ := a.sl.rd.get (i := v) (v := .int .i64 (T.getD v 0)) (by rw [List.getElem?_map, List.getD_eq_getElem?_getD, List.getElem?_eq_getElem hvT]; rfl)
  refine ⟨_, rfl, _, (hcell_add a.blk 0 1).trans rfl, _, _, _, true, .inl ⟨rfl, rfl⟩, a0, ha, by omega, by omega, _, by rw [Int.toNat_natCast]; exact hc, ?_⟩
  refine hR _ H1 ?_ p1' f1
  rw [decide_eq_true_eq]
  exact a.tree.law s v hs h1 h2 to ht
theorem ahead_spec (p : Paren H g m h st F) (hst : st ≤ 1000) {k : Nat} (hk : k < m.length) {to : Int} (hto : to < exc m (k + 1)) {R : Int → Heap → Prop}
    (h1 : ∀ i H', k < i → i < m.length → exc m (i + 1) = to → (∀ j, k < j → j < i → to < exc m (j + 1)) → Paren H' g m h (st + 1) F → Fr (fun k => k = g) H H' → R (i : Int) H')
    (h2 : ∀ H', (∀ j, k < j → j < m.length → j / 64 = k / 64 → to < exc m (j + 1)) → Paren H' g m h (st + 1) F → Fr (fun k => k = g) H H' → R (-1) H') : paren_Paren_ahead.C (some ⟨g, 0, none⟩) (k : Int) to H R := by
  obtain ⟨_, _, c3, z3⟩ := p.cells
  have hfew := p.facts
  apply paren_Paren_ahead.calls
  unfold paren_Paren_ahead.W
  refine ⟨_, rfl, _, c3, _, rfl, ⟨_, c3⟩, z3, letV_mk fun H1 hH => ?_⟩
  rw [wrap_i64 (n := (st : Int) + 1) (by omega) (by omega), show (st : Int) + 1 = ((st + 1 : Nat) : Int) by omega] at hH
  obtain ⟨p1, f1⟩ := p.step (st + 1) hH
  clear hH
  refine upto_spec p1 (i := k + 1) (by omega) (by omega) fun H2 f2 => joinW_thru (letV_mk fun i8 hi8 => ?_)
  have f12 : Fr (fun k => k = g) H H2 := f1.trans f2 fun _ h => h.elim
  have hcap : IntKind.i64.wrap ((IntKind.i64.wrap ((IntKind.i64.wrap (Int.tdiv (k : Int) 64)) + 1)) * 64) = (((k / 64 + 1) * 64 : Nat) : Int) := by
    rw [show Int.tdiv (k : Int) 64 = ((k / 64 : Nat) : Int) from rfl, wrap_i64 (n := ((k / 64 : Nat) : Int)) (by omega) (by omega), wrap_i64 (n := ((k / 64 : Nat) : Int) + 1) (by omega) (by omega), wrap_i64 (by omega) (by omega)]
    omega
  rw [wrap_i64 (by omega) (by omega)] at hi8
  refine loopW_mk (fun n (q : Int × Int × Unit) H' => ∃ i : Nat, k < i ∧ i ≤ m.length ∧ n = m.length - i ∧ q.1 = exc m i ∧ q.2.1 = (i : Int) ∧ Paren H' g m h (st + 1) F ∧ Fr (fun k => k = g) H H' ∧ ∀ j, k < j → j < i → to < exc m (j + 1)) (m.length - (k + 1)) ⟨k + 1, by omega, by omega, rfl, rfl, hi8, p1.old f2, f12, fun j a b => by omega⟩ ?_
  rintro n ⟨x, y, _⟩ H4 ⟨i, hki, hil, rfl, hx, hy, p4, f4, hall⟩
  simp only at hx hy
  subst hx hy
  dsimp only
  rw [hcap]
  refine ⟨by decide, PLen_spec p4 (brW_dec (fun hlt => ?_) (fun hge => ?_))⟩
  · have hi : i < m.length := by omega
    refine joinW_mk (fun (q : Int × Unit) H' => q.1 = exc m (i + 1) ∧ to < exc m (i + 1) ∧ Paren H' g m h (st + 1) F ∧ Fr (fun k => k = g) H H') ?_ ?_
    · refine joinW_mk (fun (q : Int × Unit) H' => q.1 = exc m (i + 1) ∧ Paren H' g m h (st + 1) F ∧ Fr (fun k => k = g) H H') ?_ ?_
      · have hb := exc_le m i
        have hb1 := exc_le m (i + 1)
        have hs := exc_succ hi
        refine letV_mk fun n7 hn7 => ?_
        rw [wrap_i64 (by omega) (by omega)] at hn7
        refine Open_spec p4 _ fun H8 f8 => ?_
        rw [opn_in hi]
        refine brW_mk (fun hb1' => letV_mk fun n8 hn8 => ⟨?_, p4.old f8, f4.trans f8 fun _ h => h.elim⟩) (fun hb0 => ⟨?_, p4.old f8, f4.trans f8 fun _ h => h.elim⟩)
        · rw [if_pos hb1'] at hs
          rw [wrap_i64 (by omega) (by omega)] at hn8
          show n8 = _
          omega
        · rw [if_neg (by rw [hb0]; decide)] at hs
          show n7 = _
          omega
      · rintro ⟨q, _⟩ H7 ⟨hq, p7, f7⟩
        simp only at hq
        subst hq
        refine brW_dec (fun he => h1 i H7 hki hi he hall p7 f7) (fun he => ⟨rfl, ?_, p7, f7⟩)
        have hgt : to < exc m i := by
          rcases Nat.eq_or_lt_of_le (show k + 1 ≤ i by omega) with e | e
          · rw [← e]; exact hto
          · have := hall (i - 1) (by omega) (by omega)
            rwa [show i - 1 + 1 = i by omega] at this
        have := exc_step hi
        omega
    · rintro ⟨q, _⟩ H6 ⟨hq, hgt, p6, f6⟩
      simp only at hq
      subst hq
      refine letV_mk fun i9 hi9 => ⟨m.length - (i + 1), by omega, i + 1, by omega, by omega, rfl, rfl, ?_, p6, f6, fun j a b => ?_⟩
      · show i9 = _
        rw [hi9, wrap_i64 (by omega) (by omega)]; rfl
      · rcases Nat.lt_or_ge j i with h | h
        · exact hall j a h
        · have : j = i := by omega
          subst this
          exact hgt
  · exact h2 H4 (fun j a b e => hall j a (by omega)) p4 f4
theorem behind_spec (p : Paren H g m h st F) (hst : st ≤ 1000) {k from_ : Nat} (hk : k < m.length) (hf : from_ ≤ k) {to : Int} (hto : to ≤ exc m k) {R : Int → Heap → Prop}
    (h1 : ∀ i H', from_ ≤ i → i < k → exc m (i + 1) = to → (∀ j, i < j → j < k → to < exc m (j + 1)) → Paren H' g m h (st + 1) F → Fr (fun k => k = g) H H' → R (i : Int) H')
    (h2 : ∀ H', (∀ j, from_ ≤ j → j < k → to < exc m (j + 1)) → Paren H' g m h (st + 1) F → Fr (fun k => k = g) H H' → R (-2) H') : paren_Paren_behind.C (some ⟨g, 0, none⟩) (k : Int) (from_ : Int) to H R := by
  obtain ⟨_, _, c3, z3⟩ := p.cells
  have hfew := p.facts
  apply paren_Paren_behind.calls
  unfold paren_Paren_behind.W
  refine ⟨_, rfl, _, c3, _, rfl, ⟨_, c3⟩, z3, letV_mk fun H1 hH => ?_⟩
  rw [wrap_i64 (n := (st : Int) + 1) (by omega) (by omega), show (st : Int) + 1 = ((st + 1 : Nat) : Int) by omega] at hH
  obtain ⟨p1, f1⟩ := p.step (st + 1) hH
  clear hH
  refine upto_spec p1 (i := k + 1) (by omega) (by omega) fun H2 f2 => joinW_thru (letV_mk fun i8 hi8 => ?_)
  have f12 : Fr (fun k => k = g) H H2 := f1.trans f2 fun _ h => h.elim
  rw [wrap_i64 (by omega) (by omega)] at hi8
  refine loopW_mk (fun n (q : Int × Int × Unit) H' => ∃ t : Nat, from_ ≤ t ∧ t ≤ k ∧ n = t - from_ ∧ q.1 = exc m (t + 1) ∧ q.2.1 = (t : Int) - 1 ∧ to ≤ exc m t ∧ Paren H' g m h (st + 1) F ∧ Fr (fun k => k = g) H H' ∧ ∀ j, t ≤ j → j < k → to < exc m (j + 1)) (k - from_) ⟨k, hf, Nat.le_refl _, rfl, rfl, hi8, hto, p1.old f2, f12, fun j a b => by omega⟩ ?_
  rintro n ⟨x, y, _⟩ H4 ⟨t, hft, htk, rfl, hx, hy, hle, p4, f4, hall⟩
  simp only at hx hy
  subst hx hy
  dsimp only
  refine brW_dec (fun hlt => ?_) (fun hge => ?_)
  · have ht : t < m.length := by omega
    refine joinW_mk (fun (q : Int × Unit) H' => q.1 = exc m t ∧ exc m t ≠ to ∧ Paren H' g m h (st + 1) F ∧ Fr (fun k => k = g) H H') ?_ ?_
    · refine joinW_mk (fun (q : Int × Unit) H' => q.1 = exc m t ∧ Paren H' g m h (st + 1) F ∧ Fr (fun k => k = g) H H') ?_ ?_
      · have hb := exc_le m t
        have hb1 := exc_le m (t + 1)
        have hs := exc_succ ht
        refine letV_mk fun n7 hn7 => ?_
        rw [wrap_i64 (by omega) (by omega)] at hn7
        rw [wrap_i64 (n := (t : Int) - 1 + 1) (by omega) (by omega), show (t : Int) - 1 + 1 = (t : Int) by omega]
        refine Open_spec p4 _ fun H8 f8 => ?_
        rw [opn_in ht]
        refine brW_mk (fun hb1' => letV_mk fun n8 hn8 => ⟨?_, p4.old f8, f4.trans f8 fun _ h => h.elim⟩) (fun hb0 => ⟨?_, p4.old f8, f4.trans f8 fun _ h => h.elim⟩)
        · rw [if_pos hb1'] at hs
          rw [wrap_i64 (by omega) (by omega)] at hn8
          show n8 = _
          omega
        · rw [if_neg (by rw [hb0]; decide)] at hs
          show n7 = _
          omega
      · rintro ⟨q, _⟩ H7 ⟨hq, p7, f7⟩
        simp only at hq
        subst hq
        refine brW_dec (fun he => ?_) (fun he => ⟨rfl, he, p7, f7⟩)
        rw [show (t : Int) - 1 = ((t - 1 : Nat) : Int) by omega]
        exact h1 (t - 1) H7 (by omega) (by omega) (by rw [show t - 1 + 1 = t by omega]; exact he) (fun j a b => hall j (by omega) b) p7 f7
    · rintro ⟨q, _⟩ H6 ⟨hq, hgt, p6, f6⟩
      simp only at hq
      subst hq
      have hst2 := exc_step (m := m) (k := t - 1) (by omega)
      rw [show t - 1 + 1 = t by omega] at hst2
      refine letV_mk fun i9 hi9 => ⟨t - 1 - from_, by omega, t - 1, by omega, by omega, rfl, ?_, ?_, by omega, p6, f6, fun j a b => ?_⟩
      · show exc m t = _
        rw [show t - 1 + 1 = t by omega]
      · show i9 = _
        rw [hi9, wrap_i64 (by omega) (by omega)]; omega
      · rcases Nat.lt_or_ge j t with h | h
        · have : j + 1 = t := by omega
          rw [this]
          omega
        · exact hall j h b
  · exact h2 H4 (fun j a b => hall j (by omega) b) p4 f4
end
end Go.Proofs.YtmijfoikdjcmlaaDoor
