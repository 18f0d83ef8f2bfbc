import Derived.Test.YtmijfoikdjcmlaaDoorParen1
/-! Package paren: the search ahead and the search behind. -/
namespace Go.Ev
theorem pow2_pos (s : Nat) : 0 < 2 ^ s := Nat.pow_pos (by decide)
theorem pow2_succ (s : Nat) : 2 ^ (s + 1) = 2 * 2 ^ s := by rw [Nat.pow_succ, Nat.mul_comm]
theorem depth_pos {s v : Nat} (h1 : v < 2 * 2 ^ s) (h2 : 2 ≤ v) : ∃ r, s = r + 1 := by
  cases s with
  | zero => simp at h1; omega
  | succ r => exact ⟨r, rfl⟩
theorem depth_zero {s : Nat} (h1 : 2 ^ s ≤ 1) : s = 0 := by
  cases s with
  | zero => rfl
  | succ r =>
    have := pow2_pos r
    rw [pow2_succ] at h1
    omega
theorem depth_leaf {s h v : Nat} (hs : s ≤ h) (h1 : v < 2 * 2 ^ s) (h2 : 2 ^ h ≤ v) : s = h := by
  rcases Nat.eq_or_lt_of_le hs with e | e
  · exact e
  · have : 2 ^ (s + 1) ≤ 2 ^ h := Nat.pow_le_pow_right (by decide) e
    rw [pow2_succ] at this
    omega
theorem depth_in {s h v : Nat} (hs : s ≤ h) (h1 : 2 ^ s ≤ v) (h2 : v < 2 ^ h) : s < h := by
  rcases Nat.eq_or_lt_of_le hs with e | e
  · subst e; omega
  · exact e
theorem tmod2 (v : Nat) : Int.tmod (v : Int) 2 = ((v % 2 : Nat) : Int) := rfl
theorem tdiv2 (v : Nat) : Int.tdiv (v : Int) 2 = ((v / 2 : Nat) : Int) := rfl
end Go.Ev
namespace Go.Proofs.YtmijfoikdjcmlaaDoor
open Go.Ev
set_option linter.unusedVariables false
section
variable {H : Heap} {g : Nat} {m : List Bool} {h st : Nat} {F : Nat → Prop}
theorem forward_spec (p : Paren H g m h st F) (hst : st ≤ 100) {k : Nat} (hk : k < m.length) {to : Int} (hto : to < exc m (k + 1)) {R : Int → Heap → Prop}
    (h1 : ∀ i H' st', k < i → i < m.length → exc m (i + 1) = to → (∀ j, k < j → j < i → to < exc m (j + 1)) → st' ≤ st + 2 * h + 2 → Paren H' g m h st' F → Fr (fun k => k = g) H H' → R (i : Int) H')
    (h2 : ∀ H' st', (∀ j, k < j → j < m.length → to < exc m (j + 1)) → st' ≤ st + 2 * h + 2 → Paren H' g m h st' F → Fr (fun k => k = g) H H' → R (-1) H') : paren_Paren_forward.C (some ⟨g, 0, none⟩) (k : Int) to H R := by
  obtain ⟨hbal, hfew, hfit, hh, _⟩ := p.facts
  have hw := pow16 hh
  have hle := exc_le m (k + 1)
  have hleaf : ∀ i, i < m.length → i / 64 < 2 ^ h := fun i hi => by omega
  apply paren_Paren_forward.calls
  unfold paren_Paren_forward.W
  refine ahead_spec p (by omega) hk hto (fun i H1 a b c d p1 f1 => brW_pos (by omega) (h1 i H1 _ a b c d (by omega) p1 f1)) (fun H1 hno p1 f1 => brW_neg (by decide) ?_)
  obtain ⟨_, c2, _⟩ := p1.cells
  refine ⟨_, rfl, _, c2, by decide, letV_mk fun node hnode => ?_⟩
  rw [show Int.tdiv (k : Int) 64 = ((k / 64 : Nat) : Int) from rfl, wrap_i64 (n := ((k / 64 : Nat) : Int)) (by omega) (by omega), wrap_i64 (by omega) (by omega)] at hnode
  refine joinW_mk (fun (q : Int × Unit) H' => ∃ v s st', q.1 = ((v : Nat) : Int) ∧ s ≤ h ∧ 2 ^ s ≤ v ∧ v < 2 * 2 ^ s ∧ st' ≤ st + 2 + h + s ∧ Paren H' g m h st' F ∧ Fr (fun k => k = g) H H' ∧ anc h k s < v ∧ (∃ i, i < m.length ∧ anc h i s = v ∧ exc m (i + 1) ≤ to) ∧ ∀ j, k < j → j < m.length → anc h j s < v → to < exc m (j + 1)) ?_ ?_
  · refine loopW_mk (fun n (q : Int × Unit) H' => ∃ v s st', n = v / 2 + (1 - v % 2) ∧ q.1 = ((v : Nat) : Int) ∧ s ≤ h ∧ 2 ^ s ≤ v ∧ v < 2 * 2 ^ s ∧ st' ≤ st + 1 + (h - s) + v % 2 ∧ Paren H' g m h st' F ∧ Fr (fun k => k = g) H H' ∧ anc h k s ≤ v ∧ ∀ j, k < j → j < m.length → anc h j s ≤ v → to < exc m (j + 1)) ((2 ^ h + k / 64) / 2 + (1 - (2 ^ h + k / 64) % 2))
      ⟨2 ^ h + k / 64, h, st + 1, rfl, by show node = _; omega, Nat.le_refl _, by omega, by have := hleaf k hk; omega, by omega, p1, f1, by rw [anc_leaf]; omega, fun j a b c => by rw [anc_leaf] at c; exact hno j a b (by omega)⟩ ?_
    rintro n ⟨x, _⟩ H3 ⟨v0, s0, st0, rfl, hx, hs0, hv0, hv0', hst0, p3, f3, ha3, hall3⟩
    simp only at hx
    subst hx
    dsimp only
    refine joinW_mk (fun (q : Int × Unit) H' => ∃ v s st', q.1 = ((v : Nat) : Int) ∧ v % 2 = 0 ∧ (v = v0 ∨ v ≤ v0 / 2 ∧ 1 ≤ v0 / 2) ∧ s ≤ h ∧ 2 ^ s ≤ v ∧ v < 2 * 2 ^ s ∧ st' ≤ st + 1 + (h - s) ∧ Paren H' g m h st' F ∧ Fr (fun k => k = g) H H' ∧ anc h k s ≤ v ∧ ∀ j, k < j → j < m.length → anc h j s ≤ v → to < exc m (j + 1)) ?_ ?_
    · refine loopW_mk (fun n (q : Int × Unit) H' => ∃ v s st', n = v ∧ q.1 = ((v : Nat) : Int) ∧ (v = v0 ∨ v ≤ v0 / 2 ∧ 1 ≤ v0 / 2) ∧ s ≤ h ∧ 2 ^ s ≤ v ∧ v < 2 * 2 ^ s ∧ st' ≤ st + 1 + (h - s) + v % 2 ∧ Paren H' g m h st' F ∧ Fr (fun k => k = g) H H' ∧ anc h k s ≤ v ∧ ∀ j, k < j → j < m.length → anc h j s ≤ v → to < exc m (j + 1)) v0
        ⟨v0, s0, st0, rfl, rfl, .inl rfl, hs0, hv0, hv0', hst0, p3, f3, ha3, hall3⟩ ?_
      clear hst0 p3 f3 ha3 hall3
      rintro n ⟨x, _⟩ H5 ⟨v, s, st', rfl, hx, hvv, hs, hv, hv', hst', p5, f5, ha5, hall5⟩
      simp only at hx
      subst hx
      dsimp only
      rw [tmod2, tdiv2]
      have hps : 2 ^ s ≤ 2 ^ h := Nat.pow_le_pow_right (by decide) hs
      refine ⟨by decide, brW_dec (fun hodd => brW_dec (fun h1v => ?_) (fun hn1 => ?_)) (fun heven => ?_)⟩
      · have hn : n = 1 := by omega
        subst hn
        have hs00 := depth_zero hv
        subst hs00
        exact h2 H5 st' (fun j a b => hall5 j a b (by rw [anc_root (hleaf j b)]; omega)) (by omega) p5 f5
      · refine ⟨by decide, letV_mk fun node8 hnode8 => ?_⟩
        rw [wrap_i64 (by omega) (by omega)] at hnode8
        obtain ⟨r, rfl⟩ := depth_pos hv' (by omega)
        rw [pow2_succ] at hv hv'
        refine ⟨n / 2, by omega, n / 2, r, st', rfl, hnode8, ?_, by omega, by omega, by omega, by omega, p5, f5, ?_, fun j a b c => hall5 j a b ?_⟩
        · rcases hvv with e | e
          · subst e; exact .inr ⟨Nat.le_refl _, by omega⟩
          · exact .inr ⟨by omega, e.2⟩
        · rw [anc_par h k (by omega)]
          omega
        · rw [anc_par h j (by omega)] at c
          omega
      · exact ⟨n, s, st', rfl, by omega, hvv, hs, hv, hv', by omega, p5, f5, ha5, hall5⟩
    · clear hst0 p3 f3 ha3 hall3
      rintro ⟨x, _⟩ H4 ⟨v, s, st', hx, hev, hvv, hs, hv, hv', hst', p4, f4, ha4, hall4⟩
      simp only at hx
      subst hx
      dsimp only
      have hps : 2 ^ s ≤ 2 ^ h := Nat.pow_le_pow_right (by decide) hs
      refine letV_mk fun node8 hnode8 => ?_
      rw [wrap_i64 (by omega) (by omega), show (v : Int) + 1 = ((v + 1 : Nat) : Int) by omega] at hnode8
      subst hnode8
      refine low_spec p4 (by omega) (v := v + 1) hs (by omega) (by omega) (by omega) fun b H6 hb p6 f6 => ?_
      have f06 := f4.trans f6 fun k hk => .inl hk
      refine brW_mk (fun hb1 => ?_) (fun hb0 => ?_)
      · exact ⟨v + 1, s, st' + 1, rfl, hs, by omega, by omega, by omega, p6, f06, by omega, hb.1 hb1, fun j a b c => hall4 j a b (by omega)⟩
      · refine ⟨_, ?_, v + 1, s, st' + 1, rfl, rfl, hs, by omega, by omega, by omega, p6, f06, by omega, fun j a b c => ?_⟩
        · rcases hvv with e | e
          · subst e; omega
          · omega
        · rcases Nat.lt_or_ge (anc h j s) (v + 1) with e | e
          · exact hall4 j a b (by omega)
          · have hno' : ¬ ∃ i, i < m.length ∧ anc h i s = v + 1 ∧ exc m (i + 1) ≤ to := fun hc => by rw [hb.2 hc] at hb0; cases hb0
            rcases Classical.em (exc m (j + 1) ≤ to) with e' | e'
            · exact absurd ⟨j, b, by omega, e'⟩ hno'
            · omega
  clear p1 f1 c2 hnode hno
  rintro ⟨x, _⟩ H2 ⟨v, s, st', hx, hs, hv, hv', hst', p2, f2, ha2, hex2, hall2⟩
  simp only at hx
  subst hx
  dsimp only
  refine joinW_mk (fun (q : Int × Unit) H' => ∃ v st', q.1 = ((v : Nat) : Int) ∧ 2 ^ h ≤ v ∧ v < 2 * 2 ^ h ∧ st' ≤ st + 2 + h + h ∧ Paren H' g m h st' F ∧ Fr (fun k => k = g) H H' ∧ anc h k h < v ∧ (∃ i, i < m.length ∧ anc h i h = v ∧ exc m (i + 1) ≤ to) ∧ ∀ j, k < j → j < m.length → anc h j h < v → to < exc m (j + 1)) ?_ ?_
  · refine loopW_mk (fun n (q : Int × Unit) H' => ∃ v s st', n = h - s ∧ q.1 = ((v : Nat) : Int) ∧ s ≤ h ∧ 2 ^ s ≤ v ∧ v < 2 * 2 ^ s ∧ st' ≤ st + 2 + h + s ∧ Paren H' g m h st' F ∧ Fr (fun k => k = g) H H' ∧ anc h k s < v ∧ (∃ i, i < m.length ∧ anc h i s = v ∧ exc m (i + 1) ≤ to) ∧ ∀ j, k < j → j < m.length → anc h j s < v → to < exc m (j + 1)) (h - s)
      ⟨v, s, st', rfl, rfl, hs, hv, hv', hst', p2, f2, ha2, hex2, hall2⟩ ?_
    clear hs hv hv' hst' p2 f2 ha2 hex2 hall2
    rintro n ⟨x, _⟩ H8 ⟨v, s, st', rfl, hx, hs, hv, hv', hst', p8, f8, ha8, ⟨i, hi1, hi2, hi3⟩, hall8⟩
    simp only at hx
    subst hx
    dsimp only
    obtain ⟨_, c2, _⟩ := p8.cells
    have hps : 2 ^ s ≤ 2 ^ h := Nat.pow_le_pow_right (by decide) hs
    refine ⟨_, rfl, _, c2, brW_dec (fun hlt => ?_) (fun hge => ?_)⟩
    · have hsh := depth_in hs hv (by omega)
      have hp1 := pow2_succ s
      refine letV_mk fun node8 hnode8 => ?_
      rw [wrap_i64 (by omega) (by omega), show (v : Int) * 2 = ((2 * v : Nat) : Int) by omega] at hnode8
      subst hnode8
      refine low_spec p8 (by omega) (v := 2 * v) (s := s + 1) hsh (by omega) (by omega) (by omega) fun b H9 hb p9 f9 => ?_
      have f09 := f8.trans f9 fun k hk => .inl hk
      have hka := anc_par h k hsh
      refine brW_mk (fun hb1 => letV_mk fun node9 hnode9 => ?_) (fun hb0 => ?_)
      · have hno' : ¬ ∃ i, i < m.length ∧ anc h i (s + 1) = 2 * v ∧ exc m (i + 1) ≤ to := fun hc => by rw [hb.2 hc] at hb1; cases hb1
        rw [wrap_i64 (by omega) (by omega), show ((2 * v : Nat) : Int) + 1 = ((2 * v + 1 : Nat) : Int) by omega] at hnode9
        subst hnode9
        have hia := anc_par h i hsh
        refine ⟨h - (s + 1), by omega, 2 * v + 1, s + 1, st' + 1, rfl, rfl, hsh, by omega, by omega, by omega, p9, f09, by omega, ⟨i, hi1, ?_, hi3⟩, fun j a b c => ?_⟩
        · rcases Classical.em (anc h i (s + 1) = 2 * v) with e | e
          · exact absurd ⟨i, hi1, e, hi3⟩ hno'
          · omega
        · have hja := anc_par h j hsh
          rcases Classical.em (anc h j (s + 1) = 2 * v) with e | e
          · rcases Classical.em (exc m (j + 1) ≤ to) with e' | e'
            · exact absurd ⟨j, b, e, e'⟩ hno'
            · omega
          · exact hall8 j a b (by omega)
      · have hb0 : b = true := by cases b with
          | true => rfl
          | false => cases hb0
        refine ⟨h - (s + 1), by omega, 2 * v, s + 1, st' + 1, rfl, rfl, hsh, by omega, by omega, by omega, p9, f09, by omega, hb.1 hb0, fun j a b c => ?_⟩
        have hja := anc_par h j hsh
        exact hall8 j a b (by omega)
    · have hsh := depth_leaf hs hv' (by omega)
      subst hsh
      exact ⟨v, st', rfl, hv, hv', hst', p8, f8, ha8, ⟨i, hi1, hi2, hi3⟩, hall8⟩
  clear hs hv hv' hst' p2 f2 ha2 hex2 hall2
  rintro ⟨x, _⟩ H7 ⟨v, st', hx, hv, hv', hst', p7, f7, ha7, ⟨i0, hi1, hi2, hi3⟩, hall7⟩
  simp only at hx
  subst hx
  dsimp only
  obtain ⟨_, c2, _⟩ := p7.cells
  rw [anc_leaf] at hi2 ha7
  obtain ⟨b, rfl⟩ : ∃ b, v = 2 ^ h + b := ⟨v - 2 ^ h, by omega⟩
  refine ⟨_, rfl, _, c2, letV_mk fun from9 hfrom => ?_⟩
  rw [wrap_i64 (n := ((2 ^ h + b : Nat) : Int) - ((2 ^ h : Nat) : Int)) (by omega) (by omega), wrap_i64 (by omega) (by omega), show (((2 ^ h + b : Nat) : Int) - ((2 ^ h : Nat) : Int)) * 64 = ((b * 64 : Nat) : Int) by omega] at hfrom
  subst hfrom
  rw [wrap_i64 (n := ((b * 64 : Nat) : Int) - 1) (by omega) (by omega)]
  refine upto_spec p7 (i := b * 64) (by omega) (by omega) fun H10 f10 => joinW_thru ?_
  have hcap : IntKind.i64.wrap (((b * 64 : Nat) : Int) + 64) = ((b * 64 + 64 : Nat) : Int) := by rw [wrap_i64 (by omega) (by omega)]; omega
  rw [hcap]
  refine loopW_mk (fun n (q : Int × Int × Unit) H' => ∃ i : Nat, b * 64 ≤ i ∧ i ≤ m.length ∧ n = m.length - i ∧ q.1 = exc m i ∧ q.2.1 = (i : Int) ∧ Paren H' g m h st' F ∧ Fr (fun k => k = g) H H' ∧ ∀ j, k < j → j < i → to < exc m (j + 1)) (m.length - b * 64) ⟨b * 64, Nat.le_refl _, by omega, rfl, rfl, rfl, p7.old f10, f7.trans f10 fun _ h => h.elim, fun j a c => hall7 j a (by omega) (by rw [anc_leaf]; omega)⟩ ?_
  rintro n ⟨x, y, _⟩ H12 ⟨i, hbi, hil, rfl, hx, hy, p12, f12, hall⟩
  simp only at hx hy
  subst hx hy
  dsimp only
  refine PLen_spec p12 (brW_dec (fun hlt => ?_) (fun hge => ?_))
  · have hi : i < m.length := by omega
    refine joinW_mk (fun (q : Int × Unit) H' => q.1 = exc m (i + 1) ∧ to < exc m (i + 1) ∧ Paren H' g m h st' F ∧ Fr (fun k => k = g) H H') ?_ ?_
    · refine joinW_mk (fun (q : Int × Unit) H' => q.1 = exc m (i + 1) ∧ Paren H' g m h st' F ∧ Fr (fun k => k = g) H H') ?_ ?_
      · have hb := exc_le m i
        have hb1 := exc_le m (i + 1)
        have hs := exc_succ hi
        refine letV_mk fun n7 hn7 => ?_
        rw [wrap_i64 (by omega) (by omega)] at hn7
        refine Open_spec p12 _ fun H8 f8 => ?_
        rw [opn_in hi]
        refine brW_mk (fun hb1' => letV_mk fun n8 hn8 => ⟨?_, p12.old f8, f12.trans f8 fun _ h => h.elim⟩) (fun hb0 => ⟨?_, p12.old f8, f12.trans f8 fun _ h => h.elim⟩)
        · rw [if_pos hb1'] at hs
          rw [wrap_i64 (by omega) (by omega)] at hn8
          show n8 = _
          omega
        · rw [if_neg (by rw [hb0]; decide)] at hs
          show n7 = _
          omega
      · rintro ⟨q, _⟩ H15 ⟨hq, p15, f15⟩
        simp only at hq
        subst hq
        refine brW_dec (fun he => h1 i H15 st' (by omega) hi he hall (by omega) p15 f15) (fun he => ⟨rfl, ?_, p15, f15⟩)
        have hgt : to < exc m i := by
          rcases Nat.eq_or_lt_of_le (show k + 1 ≤ i by omega) with e | e
          · rw [← e]; exact hto
          · have := hall (i - 1) (by omega) (by omega)
            rwa [show i - 1 + 1 = i by omega] at this
        have := exc_step hi
        omega
    · rintro ⟨q, _⟩ H14 ⟨hq, hgt, p14, f14⟩
      simp only at hq
      subst hq
      refine letV_mk fun i9 hi9 => ⟨m.length - (i + 1), by omega, i + 1, by omega, by omega, rfl, rfl, ?_, p14, f14, fun j a b => ?_⟩
      · show i9 = _
        rw [hi9, wrap_i64 (by omega) (by omega)]; rfl
      · rcases Nat.lt_or_ge j i with h | h
        · exact hall j a h
        · have : j = i := by omega
          subst this
          exact hgt
  · exfalso
    have := hall i0 (by omega) (by omega)
    omega
theorem backward_spec (p : Paren H g m h st F) (hst : st ≤ 100) {k : Nat} (hk : k < m.length) {to : Int} (hto : to < exc m k) {R : Int → Heap → Prop}
    (h1 : ∀ i H' st', i < k → exc m (i + 1) = to → (∀ j, i < j → j < k → to < exc m (j + 1)) → st' ≤ st + 2 * h + 3 → Paren H' g m h st' F → Fr (fun k => k = g) H H' → R (i : Int) H')
    (h2 : ∀ H' st', (∀ j, j < k → to < exc m (j + 1)) → st' ≤ st + 2 * h + 3 → Paren H' g m h st' F → Fr (fun k => k = g) H H' → R (if to = 0 then -1 else -2) H') : paren_Paren_backward.C (some ⟨g, 0, none⟩) (k : Int) to H R := by
  obtain ⟨hbal, hfew, hfit, hh, _⟩ := p.facts
  have hw := pow16 hh
  have hle := exc_le m k
  have hleaf : ∀ i, i < m.length → i / 64 < 2 ^ h := fun i hi => by omega
  apply paren_Paren_backward.calls
  unfold paren_Paren_backward.W
  rw [show Int.tdiv (k : Int) 64 = ((k / 64 : Nat) : Int) from rfl, wrap_i64 (n := ((k / 64 : Nat) : Int)) (by omega) (by omega), wrap_i64 (n := ((k / 64 : Nat) : Int) * 64) (by omega) (by omega), show ((k / 64 : Nat) : Int) * 64 = ((k / 64 * 64 : Nat) : Int) by omega]
  refine ⟨by decide, ?_⟩
  refine behind_spec p (by omega) (from_ := k / 64 * 64) hk (by omega) (by omega) (fun i H1 a b c d p1 f1 => brW_pos (by omega) (h1 i H1 _ b c d (by omega) p1 f1)) (fun H1 hno p1 f1 => brW_neg (by decide) ?_)
  obtain ⟨_, c2, _⟩ := p1.cells
  refine ⟨_, rfl, _, c2, by decide, letV_mk fun node hnode => ?_⟩
  rw [wrap_i64 (by omega) (by omega)] at hnode
  refine joinW_mk (fun _ H' => ∃ st', st' ≤ st + 2 * h + 3 ∧ Paren H' g m h st' F ∧ Fr (fun k => k = g) H H' ∧ ∀ j, j < k → to < exc m (j + 1)) ?_ ?_
  · refine loopW_mk (fun n (q : Int × Unit) H' => ∃ v s st', n = v ∧ q.1 = ((v : Nat) : Int) ∧ s ≤ h ∧ 2 ^ s ≤ v ∧ v < 2 * 2 ^ s ∧ st' ≤ st + 1 + (h - s) + (1 - v % 2) ∧ Paren H' g m h st' F ∧ Fr (fun k => k = g) H H' ∧ v ≤ anc h k s ∧ ∀ j, j < k → v ≤ anc h j s → to < exc m (j + 1)) (2 ^ h + k / 64)
      ⟨2 ^ h + k / 64, h, st + 1, rfl, by show node = _; omega, Nat.le_refl _, by omega, by have := hleaf k hk; omega, by omega, p1, f1, by rw [anc_leaf]; omega, fun j b c => by rw [anc_leaf] at c; exact hno j (by omega) b⟩ ?_
    rintro n ⟨x, _⟩ H3 ⟨v0, s0, st0, rfl, hx, hs0, hv0, hv0', hst0, p3, f3, ha3, hall3⟩
    simp only at hx
    subst hx
    dsimp only
    refine joinW_mk (fun (q : Int × Unit) H' => ∃ v s st', q.1 = ((v : Nat) : Int) ∧ v % 2 = 1 ∧ v ≤ n ∧ s ≤ h ∧ 2 ^ s ≤ v ∧ v < 2 * 2 ^ s ∧ st' ≤ st + 1 + (h - s) ∧ Paren H' g m h st' F ∧ Fr (fun k => k = g) H H' ∧ v ≤ anc h k s ∧ ∀ j, j < k → v ≤ anc h j s → to < exc m (j + 1)) ?_ ?_
    · refine loopW_mk (fun n' (q : Int × Unit) H' => ∃ v s st', n' = v ∧ q.1 = ((v : Nat) : Int) ∧ v ≤ n ∧ s ≤ h ∧ 2 ^ s ≤ v ∧ v < 2 * 2 ^ s ∧ st' ≤ st + 1 + (h - s) + (1 - v % 2) ∧ Paren H' g m h st' F ∧ Fr (fun k => k = g) H H' ∧ v ≤ anc h k s ∧ ∀ j, j < k → v ≤ anc h j s → to < exc m (j + 1)) n
        ⟨n, s0, st0, rfl, rfl, Nat.le_refl _, hs0, hv0, hv0', hst0, p3, f3, ha3, hall3⟩ ?_
      clear hst0 p3 f3 ha3 hall3
      rintro v ⟨x, _⟩ H5 ⟨v, s, st', rfl, hx, hvv, hs, hv, hv', hst', p5, f5, ha5, hall5⟩
      simp only at hx
      subst hx
      dsimp only
      rw [tmod2, tdiv2]
      have hps : 2 ^ s ≤ 2 ^ h := Nat.pow_le_pow_right (by decide) hs
      have hp0 := pow2_pos s
      refine ⟨by decide, brW_dec (fun hev => ?_) (fun hodd => ?_)⟩
      · refine ⟨by decide, letV_mk fun node8 hnode8 => ?_⟩
        rw [wrap_i64 (by omega) (by omega)] at hnode8
        obtain ⟨r, rfl⟩ := depth_pos hv' (by omega)
        rw [pow2_succ] at hv hv'
        refine ⟨v / 2, by omega, v / 2, r, st', rfl, hnode8, by omega, by omega, by omega, by omega, by omega, p5, f5, ?_, fun j b c => hall5 j b ?_⟩
        · rw [anc_par h k (by omega)]
          omega
        · rw [anc_par h j (by omega)] at c
          omega
      · exact ⟨v, s, st', rfl, by omega, hvv, hs, hv, hv', by omega, p5, f5, ha5, hall5⟩
    · clear hst0 p3 f3 ha3 hall3
      rintro ⟨x, _⟩ H4 ⟨v, s, st', hx, hod, hvv, hs, hv, hv', hst', p4, f4, ha4, hall4⟩
      simp only at hx
      subst hx
      dsimp only
      have hps : 2 ^ s ≤ 2 ^ h := Nat.pow_le_pow_right (by decide) hs
      refine brW_dec (fun h1v => ?_) (fun hn1 => ?_)
      · have hv1 : v = 1 := by omega
        subst hv1
        have hs00 := depth_zero hv
        subst hs00
        exact ⟨st', by omega, p4, f4, fun j b => hall4 j b (by rw [anc_root (hleaf j (by omega))]; omega)⟩
      · obtain ⟨r, rfl⟩ := depth_pos hv' (by omega)
        have hpr := pow2_succ r
        refine letV_mk fun node8 hnode8 => ?_
        rw [wrap_i64 (by omega) (by omega), show (v : Int) - 1 = ((v - 1 : Nat) : Int) by omega] at hnode8
        subst hnode8
        refine low_spec p4 (by omega) (v := v - 1) hs (by omega) (by omega) (by omega) fun b H6 hb p6 f6 => ?_
        have f06 := f4.trans f6 fun k hk => .inl hk
        refine brW_mk (fun hb1 => ?_) (fun hb0 => ?_)
        · refine joinW_mk (fun (q : Int × Unit) H' => ∃ v st', q.1 = ((v : Nat) : Int) ∧ 2 ^ h ≤ v ∧ v < 2 * 2 ^ h ∧ st' ≤ st + 2 + h + h ∧ Paren H' g m h st' F ∧ Fr (fun k => k = g) H H' ∧ v < anc h k h ∧ (∃ i, i < m.length ∧ anc h i h = v ∧ exc m (i + 1) ≤ to) ∧ ∀ j, j < k → v < anc h j h → to < exc m (j + 1)) ?_ ?_
          · refine loopW_mk (fun n (q : Int × Unit) H' => ∃ v s st', n = h - s ∧ q.1 = ((v : Nat) : Int) ∧ s ≤ h ∧ 2 ^ s ≤ v ∧ v < 2 * 2 ^ s ∧ st' ≤ st + 2 + h + s ∧ Paren H' g m h st' F ∧ Fr (fun k => k = g) H H' ∧ v < anc h k s ∧ (∃ i, i < m.length ∧ anc h i s = v ∧ exc m (i + 1) ≤ to) ∧ ∀ j, j < k → v < anc h j s → to < exc m (j + 1)) (h - (r + 1))
              ⟨v - 1, r + 1, st' + 1, rfl, rfl, hs, by omega, by omega, by omega, p6, f06, by omega, hb.1 hb1, fun j b c => hall4 j b (by omega)⟩ ?_
            clear hs hv hv' hst' p4 f4 ha4 hall4 p6 f6 f06 hb hb1 hod hvv hn1 hps hpr
            rintro n ⟨x, _⟩ H8 ⟨v, s, st', rfl, hx, hs, hv, hv', hst', p8, f8, ha8, ⟨i, hi1, hi2, hi3⟩, hall8⟩
            simp only at hx
            subst hx
            dsimp only
            obtain ⟨_, c2, _⟩ := p8.cells
            have hps : 2 ^ s ≤ 2 ^ h := Nat.pow_le_pow_right (by decide) hs
            refine ⟨_, rfl, _, c2, brW_dec (fun hlt => ?_) (fun hge => ?_)⟩
            · have hsh := depth_in hs hv (by omega)
              have hp1 := pow2_succ s
              refine letV_mk fun node8 hnode8 => ?_
              rw [wrap_i64 (n := 2 * (v : Int)) (by omega) (by omega), wrap_i64 (by omega) (by omega), show 2 * (v : Int) + 1 = ((2 * v + 1 : Nat) : Int) by omega] at hnode8
              subst hnode8
              refine low_spec p8 (by omega) (v := 2 * v + 1) (s := s + 1) hsh (by omega) (by omega) (by omega) fun b H9 hb p9 f9 => ?_
              have f09 := f8.trans f9 fun k hk => .inl hk
              have hka := anc_par h k hsh
              refine brW_mk (fun hb1 => letV_mk fun node9 hnode9 => ?_) (fun hb0 => ?_)
              · have hno' : ¬ ∃ i, i < m.length ∧ anc h i (s + 1) = 2 * v + 1 ∧ exc m (i + 1) ≤ to := fun hc => by rw [hb.2 hc] at hb1; cases hb1
                rw [wrap_i64 (by omega) (by omega), show ((2 * v + 1 : Nat) : Int) - 1 = ((2 * v : Nat) : Int) by omega] at hnode9
                subst hnode9
                have hia := anc_par h i hsh
                refine ⟨h - (s + 1), by omega, 2 * v, s + 1, st' + 1, rfl, rfl, hsh, by omega, by omega, by omega, p9, f09, by omega, ⟨i, hi1, ?_, hi3⟩, fun j b c => ?_⟩
                · rcases Classical.em (anc h i (s + 1) = 2 * v + 1) with e | e
                  · exact absurd ⟨i, hi1, e, hi3⟩ hno'
                  · omega
                · have hja := anc_par h j hsh
                  rcases Classical.em (anc h j (s + 1) = 2 * v + 1) with e | e
                  · rcases Classical.em (exc m (j + 1) ≤ to) with e' | e'
                    · exact absurd ⟨j, by omega, e, e'⟩ hno'
                    · omega
                  · exact hall8 j b (by omega)
              · have hb0 : b = true := by cases b with
                  | true => rfl
                  | false => cases hb0
                refine ⟨h - (s + 1), by omega, 2 * v + 1, s + 1, st' + 1, rfl, rfl, hsh, by omega, by omega, by omega, p9, f09, by omega, hb.1 hb0, fun j b c => ?_⟩
                have hja := anc_par h j hsh
                exact hall8 j b (by omega)
            · have hsh := depth_leaf hs hv' (by omega)
              subst hsh
              exact ⟨v, st', rfl, hv, hv', hst', p8, f8, ha8, ⟨i, hi1, hi2, hi3⟩, hall8⟩
          · clear hs hv hv' hst' p4 f4 ha4 hall4 p6 f6 f06 hb hb1 hod hvv hn1 hps hpr
            rintro ⟨x, _⟩ H7 ⟨v, st', hx, hv, hv', hst', p7, f7, ha7, ⟨i0, hi1, hi2, hi3⟩, hall7⟩
            simp only at hx
            subst hx
            dsimp only
            obtain ⟨_, c2, _⟩ := p7.cells
            rw [anc_leaf] at hi2 ha7
            obtain ⟨b, rfl⟩ : ∃ b, v = 2 ^ h + b := ⟨v - 2 ^ h, by omega⟩
            refine ⟨_, rfl, _, c2, letV_mk fun end9 hend => ?_⟩
            rw [wrap_i64 (n := ((2 ^ h + b : Nat) : Int) - ((2 ^ h : Nat) : Int)) (by omega) (by omega), wrap_i64 (n := ((2 ^ h + b : Nat) : Int) - ((2 ^ h : Nat) : Int) + 1) (by omega) (by omega), wrap_i64 (by omega) (by omega), show (((2 ^ h + b : Nat) : Int) - ((2 ^ h : Nat) : Int) + 1) * 64 = ((b * 64 + 64 : Nat) : Int) by omega] at hend
            subst hend
            rw [wrap_i64 (n := ((b * 64 + 64 : Nat) : Int) - 64) (by omega) (by omega), show ((b * 64 + 64 : Nat) : Int) - 64 = ((b * 64 : Nat) : Int) by omega]
            have hek : b * 64 + 64 ≤ k := by omega
            have hall7' : ∀ j, b * 64 + 64 ≤ j → j < k → to < exc m (j + 1) := fun j a c => hall7 j c (by rw [anc_leaf]; omega)
            have hle7 : to ≤ exc m (b * 64 + 64) := by
              rcases Nat.eq_or_lt_of_le hek with e | e
              · rw [e]; omega
              · have := hall7' _ (Nat.le_refl _) e
                have := exc_step (m := m) (k := b * 64 + 64) (by omega)
                omega
            refine behind_spec p7 (by omega) (from_ := b * 64) (by omega) (by omega) hle7 (fun i H10 a b' c d p10 f10 => ?_) (fun H10 hn p10 f10 => ?_)
            · exact h1 i H10 _ (by omega) c (fun j x y => by
                rcases Nat.lt_or_ge j (b * 64 + 64) with e | e
                · exact d j x e
                · exact hall7' j e y) (by omega) p10 (f7.trans f10 fun k hk => .inl hk)
            · exfalso
              have := hn i0 (by omega) (by omega)
              omega
        · refine ⟨v - 1, by omega, v - 1, r + 1, st' + 1, rfl, rfl, hs, by omega, by omega, by omega, p6, f06, by omega, fun j b c => ?_⟩
          rcases Nat.lt_or_ge (anc h j (r + 1)) v with e | e
          · have hno' : ¬ ∃ i, i < m.length ∧ anc h i (r + 1) = v - 1 ∧ exc m (i + 1) ≤ to := fun hc => by rw [hb.2 hc] at hb0; cases hb0
            rcases Classical.em (exc m (j + 1) ≤ to) with e' | e'
            · exact absurd ⟨j, by omega, by omega, e'⟩ hno'
            · omega
          · exact hall4 j b e
  · rintro _ H2 ⟨st', hst', p2, f2, hall⟩
    have := h2 H2 st' hall hst' p2 f2
    refine brW_dec (fun h0 => ?_) (fun h0 => ?_)
    · rwa [if_pos h0] at this
    · rwa [if_neg h0] at this
end
end Go.Proofs.YtmijfoikdjcmlaaDoor
