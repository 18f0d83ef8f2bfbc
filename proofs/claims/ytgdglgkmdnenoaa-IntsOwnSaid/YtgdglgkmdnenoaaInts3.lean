import Derived.Test.YtgdglgkmdnenoaaInts2
/-! The laws of package ints. -/
namespace Go.Proofs.Ytgdglgkmdnenoaa
open Go.Ev
set_option linter.unusedVariables false

theorem zero_of (m : Nat) (h : ¬ (0 : Int) < (m : Int)) : m = 0 := by omega
theorem refWidth_spec {n : Nat} (hn : n < 2 ^ 64) {H : Heap} {R : Int → Heap → Prop} (hR : R (blen n : Int) H) : brackenref1_Width.C (n : Int) H R := by
  apply brackenref1_Width.calls
  unfold brackenref1_Width.W
  have h64 := blen_64 hn
  refine joinW_thru ?_
  refine loopW_mk (fun k q H' => H' = H ∧ ∃ i : Nat, i ≤ blen n ∧ k = blen n - i ∧ q.1 = ((n >>> i : Nat) : Int) ∧ q.2.1 = (i : Int)) (blen n) ⟨rfl, 0, by omega, rfl, rfl, rfl⟩ ?_
  rintro k ⟨x, y, _⟩ H' ⟨rfl, i, hi, rfl, hx, hy⟩
  simp only at hx hy
  subst hx hy
  dsimp only
  have hb := blen_shr n i
  refine brW_dec (fun h0 => ?_) (fun h0 => ?_)
  · have hp := blen_pos (n := n >>> i) (by omega)
    refine letV_mk fun w hw => ⟨by decide, letV_mk fun m hm => ⟨blen n - (i + 1), by omega, rfl, i + 1, by omega, rfl, ?_, ?_⟩⟩
    · show m = _
      rw [hm, show (1 : Int) = ((1 : Nat) : Int) from rfl, shrW_nat (shr_lt hn i), ← Nat.shiftRight_add]
    · show w = _
      rw [hw, wrap_i64 (by omega) (by omega)]; rfl
  · have : n >>> i = 0 := zero_of _ h0
    rw [this, blen_zero] at hb
    have : i = blen n := by omega
    subst this
    exact hR
theorem refWidest_spec {H : Heap} {l : List Nat} {p : Option Addr} {n c : Nat} (hrd : Rd H (l.map u64V) p n) (hl : All64 l) (hb : n ≤ 1099511627776) {R : Int → Heap → Prop} (hR : R (wide l : Int) H) : brackenref1_Widest.C p n c H R := by
  apply brackenref1_Widest.calls
  unfold brackenref1_Widest.W
  have hn : l.length = n := by have := hrd.1; simpa using this
  refine joinW_thru ?_
  refine loopW_mk (fun k q H' => H' = H ∧ ∃ i : Nat, i ≤ n ∧ k = n - i ∧ q.1 = (blen (maxL (l.take i)) : Int) ∧ q.2.1 = (i : Int)) n ⟨rfl, 0, by omega, rfl, rfl, rfl⟩ ?_
  rintro k ⟨x, y, _⟩ H' ⟨rfl, i, hi, rfl, hx, hy⟩
  simp only at hx hy
  subst hx hy
  dsimp only
  refine brW_dec (fun hlt => ?_) (fun hge => ?_)
  · obtain ⟨h2, a, rfl, hc⟩ := rd_u64 hrd (i := i) (by omega)
    refine ⟨a, rfl, by omega, by omega, _, by rw [Int.toNat_natCast]; exact hc, ?_⟩
    refine refWidth_spec (hl _ (List.getElem_mem h2)) ?_
    refine letV_mk fun m hm => letV_mk fun i4 hi4 => ⟨n - (i + 1), by omega, rfl, i + 1, by omega, rfl, ?_, ?_⟩
    · show m = _
      rw [hm, maxL_take h2, blen_max]; omega
    · show i4 = _
      rw [hi4, wrap_i64 (by omega) (by omega)]; rfl
  · have : i = n := by omega
    subst this
    rw [List.take_of_length_le (by omega)]
    exact hR
theorem IntsSize_spec {n w : Nat} (hp : n * w ≤ 70368744177664) {H : Heap} {R : Int → Heap → Prop} (hR : R (upTo64 (n * w) : Int) H) : brackenref1_IntsSize.C (n : Int) (w : Int) H R := by
  apply brackenref1_IntsSize.calls
  unfold brackenref1_IntsSize.W
  have e : (n : Int) * (w : Int) = ((n * w : Nat) : Int) := by push_cast; rfl
  rw [e]
  generalize n * w = m at hp hR
  rw [wrap_i64 (n := (m : Int)) (by omega) (by omega)]
  apply brackenref1_begun.calls
  unfold brackenref1_begun.W
  refine ⟨by decide, letV_mk fun x hx => letV_mk fun y hy => ?_⟩
  rw [wrap_i64 (n := (m : Int) + 64) (by omega) (by omega), wrap_i64 (n := (m : Int) + 64 - 1) (by omega) (by omega), show (m : Int) + 64 - 1 = ((m + 63 : Nat) : Int) by omega,
      show Int.tdiv ((m + 63 : Nat) : Int) 64 = (((m + 63) / 64 : Nat) : Int) from rfl, wrap_i64 (by omega) (by omega)] at hx
  rw [hx, wrap_i64 (by omega) (by omega)] at hy
  have : y = (upTo64 m : Int) := by rw [hy]; unfold upTo64; omega
  rw [this]
  exact hR
theorem IntsAsks_fn (H : Heap) (a : Option Addr) (len cap : Nat) (zs : List Int) (hrd0 : Rd H (zs.map (Value.int .u64)) a len) (hw : ∀ z ∈ zs, (Lit.int .u64 z).wf = true) (k : Int) (hk : (Lit.int .i64 k).wf = true) :
    brackenlaw4_IntsAsks.C a len cap k H fun b H' => b = true ∧ Fr noF H H' := by
  obtain ⟨l, hrd, hl⟩ := nats_rd hrd0 hw
  clear hrd0 hw
  have hn : l.length = len := by have := hrd.1; simpa using this
  apply brackenlaw4_IntsAsks.calls
  unfold brackenlaw4_IntsAsks.W
  refine brW_dec (fun _ => told_spec fun H' f => ⟨rfl, f⟩) (fun hle => ?_)
  refine Ints_New_spec hrd hl (by omega) fun g H2 t f2 => ?_
  refine joinW_thru (joinW_thru (brW_false rfl ?_))
  refine Ints_Len_spec t (brW_neg (fun h => h (by rw [hn])) ?_)
  refine Ints_Width_spec t ?_
  refine refWidest_spec (hrd.old f2) hl (by omega) (brW_neg (fun h => h rfl) ?_)
  refine Ints_Size_spec t ?_
  refine refWidest_spec (hrd.old f2) hl (by omega) ?_
  have hp := t.prod
  refine IntsSize_spec (by rw [← hn]; exact hp) ?_
  refine brW_neg (fun h => h (by rw [hn])) ?_
  refine joinW_thru ?_
  refine loopW_mk (fun m q H' => H' = H2 ∧ ∃ i : Nat, i ≤ len ∧ m = len - i ∧ q.1 = (i : Int)) len ⟨rfl, 0, by omega, rfl, rfl⟩ ?_
  rintro m ⟨x, _⟩ H12 ⟨rfl, i, hi, rfl, hx⟩
  simp only at hx
  subst hx
  dsimp only
  refine brW_dec (fun hlt => ?_) (fun hge => ?_)
  · refine joinW_thru ?_
    refine Ints_Get_spec t i (fun j hj he => ?_) (fun h => by omega)
    have : j = i := by omega
    subst this
    refine joinW_thru (brW_neg (fun h => h rfl) ?_)
    obtain ⟨h2, ad, rfl, hc⟩ := rd_u64 (hrd.old f2) (i := j) (by omega)
    refine ⟨ad, rfl, by omega, by omega, _, by rw [Int.toNat_natCast]; exact hc, brW_neg (fun h => h rfl) ?_⟩
    refine Width_spec (hl _ (List.getElem_mem h2)) ?_
    refine refWidth_spec (hl _ (List.getElem_mem h2)) ?_
    refine brW_neg (fun h => h rfl) ?_
    refine letV_mk fun i6 hi6 => ⟨len - (j + 1), by omega, rfl, j + 1, by omega, rfl, ?_⟩
    show i6 = _
    rw [hi6, wrap_i64 (by omega) (by omega)]; rfl
  · refine Ints_Get_spec t k (fun j hj he => ?_) (fun h => ?_)
    · refine told_spec fun H' f => brW_true rfl (brW_pos (by omega) (brW_pos ?_ (brW_pos rfl ⟨rfl, f2.trans0 f⟩)))
      rw [Bool.eq_iff_iff]
      simp
      omega
    · refine told_spec fun H' f => brW_true rfl ?_
      refine brW_dec (fun h0 => ?_) (fun h0 => ?_)
      · refine brW_pos ?_ (brW_neg (by decide) (brW_pos rfl ⟨by decide, f2.trans0 f⟩))
        rw [Bool.eq_iff_iff]
        simp
        omega
      · exact brW_pos (by decide) (brW_neg (by decide) (brW_pos rfl ⟨by decide, f2.trans0 f⟩))
theorem wide_snoc (l : List Nat) (x : Nat) : wide (l ++ [x]) = max (wide l) (blen x) := by unfold wide; rw [maxL_snoc, blen_max]
theorem wide_zeros (k : Nat) : wide (List.replicate k 0) = 0 := by
  have : maxL (List.replicate k 0) = 0 := Nat.le_zero.1 (maxL_le fun x hx => by rw [List.mem_replicate] at hx; omega)
  unfold wide
  rw [this]
  rfl
theorem IntsNoughts_fn (H : Heap) (n : Int) (hn : (Lit.int .i64 n).wf = true) (z : Int) (hz : (Lit.int .u64 z).wf = true) : brackenlaw4_IntsNoughts.C n z H fun b H' => b = true ∧ Fr noF H H' := by
  apply brackenlaw4_IntsNoughts.calls
  unfold brackenlaw4_IntsNoughts.W
  obtain ⟨x, rfl, hx⟩ : ∃ x : Nat, z = (x : Int) ∧ x < 2 ^ 64 := by
    simp [Lit.wf, IntKind.min, IntKind.max, IntKind.signed, IntKind.bits] at hz
    exact ⟨z.toNat, by omega, by omega⟩
  refine ⟨by decide, letV_mk fun k5 hk5 => ?_⟩
  have hkk : ∃ k : Nat, k < 501 ∧ k5 = (k : Int) := by
    have hr := wrap_u64_range n
    have h1 : 0 ≤ Int.tmod (IntKind.u64.wrap n) 501 ∧ Int.tmod (IntKind.u64.wrap n) 501 < 501 := by
      rw [Int.tmod_eq_emod_of_nonneg hr.1]
      omega
    rw [wrap_i64 (by omega) (by omega)] at hk5
    exact ⟨k5.toNat, by omega, by omega⟩
  obtain ⟨k, hk, rfl⟩ := hkk
  clear hk5
  refine ⟨by omega, by omega, by omega, letV_mk fun H1 h1 => ?_⟩
  rw [Int.toNat_natCast] at h1 ⊢
  have f1 : Fr noF H H1 := by rw [h1]; exact Fr.new _ _ _
  have hs1 : Sl H1 ty_uint64 ((List.replicate k 0).map u64V) (some ⟨Array.size H, 0, none⟩) k k := by
    rw [h1, List.map_replicate]
    exact Sl.made H ty_uint64 (z := .int .u64 0) rfl k
  clear h1
  have all0 : All64 (List.replicate k 0) := All64.zeros k
  refine Ints_New_spec hs1.rd all0 (by omega) fun g H2 t f2 => ?_
  have hs2 := hs1.keep f2 fun _ _ h => h
  refine letV_mk fun H3 h3 => ?_
  have f3 : Fr noF H2 H3 := by rw [h3]; exact Fr.new _ _ _
  have hs3 := hs2.keep f3 fun _ _ h => h
  have he3 : Sl H3 ty_uint64 [] (some ⟨Array.size H2, 0, none⟩) 0 0 := by rw [h3]; exact Sl.lit H2 ty_uint64 []
  clear h3
  have t3 := t.old f3
  have hbl : ∀ k, blkIs (some ⟨Array.size H2, 0, none⟩) k → noF k ∨ Array.size H2 ≤ k := by
    rintro k ⟨a, ha, rfl⟩
    cases ha
    exact .inr (Nat.le_refl _)
  refine appW_own (new := (List.replicate k 0).map u64V) he3 rfl (appended_rd hs3.rd) (by simp) (by simp [Go.Ev.One]) (by omega) (by decide) fun p4 c4 H4 hs4 f4 hb4 => ?_
  have fr4 : Fr noF H2 H4 := f3.trans f4 hbl
  rw [List.nil_append, Nat.zero_add] at hs4
  rw [Nat.zero_add]
  refine app1 (t1 := ty_uint64) hs4 rfl ⟨by simp, by simp⟩ (by omega) (by decide) fun p6 c6 H6 hs6 f6 hb6 => ?_
  have fr6 : Fr noF H2 H6 := fr4.trans f6 fun k hk => by
    rcases hb4 k hk with h | h
    · exact hbl k h
    · exact .inr (Nat.le_trans f3.size h)
  have hmap : (List.replicate k 0).map u64V ++ [.int .u64 (x : Int)] = (List.replicate k 0 ++ [x]).map u64V := by simp
  rw [hmap] at hs6
  have all6 : All64 (List.replicate k 0 ++ [x]) := by
    intro y hy
    rcases List.mem_append.1 hy with h | h
    · exact all0 y h
    · rw [List.mem_singleton] at h; rw [h]; exact hx
  refine Ints_New_spec hs6.rd all6 (by omega) fun g' H7 t' f7 => ?_
  have t7 := (t.old fr6).old f7
  have frA : Fr noF H H7 := ((f1.trans0 f2).trans0 fr6).trans0 f7
  refine joinW_thru (joinW_thru (brW_false rfl (brW_false rfl ?_)))
  refine joinW_thru ?_
  refine loopW_mk (fun m q H' => H' = H7 ∧ ∃ i : Nat, i ≤ k ∧ m = k - i ∧ q.1 = (i : Int)) k ⟨rfl, 0, by omega, rfl, rfl⟩ ?_
  rintro m ⟨y, _⟩ H11 ⟨rfl, i, hi, rfl, hy⟩
  simp only at hy
  subst hy
  dsimp only
  have len0 : (List.replicate k 0).length = k := by simp
  have len1 : (List.replicate k 0 ++ [x]).length = k + 1 := by simp
  refine brW_dec (fun hlt => ?_) (fun hge => ?_)
  · refine joinW_thru ?_
    refine Ints_Get_spec t7 i (fun j hj he => ?_) (fun h => by rw [len0] at h; omega)
    have : j = i := by omega
    subst this
    refine Ints_Get_spec t' j (fun j' hj' he' => ?_) (fun h => by rw [len1] at h; omega)
    have : j' = j := by omega
    subst this
    refine joinW_thru (brW_neg (fun h => h rfl) (brW_neg (fun h => h rfl) (brW_neg (fun h => h ?_) (brW_neg (fun h => h ?_) ?_))))
    · rw [List.getElem_replicate]; rfl
    · rw [List.getElem_append_left (by simp; omega), List.getElem_replicate]; rfl
    refine letV_mk fun i9 hi9 => ⟨k - (j' + 1), by omega, rfl, j' + 1, by omega, rfl, ?_⟩
    show i9 = _
    rw [hi9, wrap_i64 (by omega) (by omega)]; rfl
  · refine Ints_Get_spec t' k (fun j hj he => ?_) (fun h => by rw [len1] at h; omega)
    have : j = k := by omega
    subst this
    refine told_spec fun H17 f17 => brW_true rfl (brW_pos rfl (brW_pos ?_ ?_))
    · rw [List.getElem_append_right (by simp)]; simp
    have t17 := t7.old f17
    have t17' := t'.old f17
    refine Ints_Size_spec t17 (brW_pos (by rw [wide_zeros, Nat.mul_zero]; rfl) ?_)
    refine Ints_Width_spec t17 (brW_pos (by rw [wide_zeros]; rfl) ?_)
    refine Ints_Width_spec t17' ?_
    refine Width_spec hx (brW_pos (by rw [wide_snoc, wide_zeros]; simp) ?_)
    refine Ints_Len_spec t17 ⟨?_, frA.trans0 f17⟩
    rw [len0]
    exact decide_eq_true rfl
theorem IntsWidths_fn (H : Heap) (z : Int) (hz : (Lit.int .u64 z).wf = true) : brackenlaw4_IntsWidths.C z H fun b H' => b = true ∧ Fr noF H H' := by
  apply brackenlaw4_IntsWidths.calls
  unfold brackenlaw4_IntsWidths.W
  obtain ⟨n, rfl, hn⟩ : ∃ x : Nat, z = (x : Int) ∧ x < 2 ^ 64 := by
    simp [Lit.wf, IntKind.min, IntKind.max, IntKind.signed, IntKind.bits] at hz
    exact ⟨z.toNat, by omega, by omega⟩
  have h64 := blen_64 hn
  refine joinW_thru ?_
  refine loopW_mk (fun k q H' => H' = H ∧ ∃ i : Nat, i ≤ 64 ∧ k = 64 - i ∧ q.1 = ((min i (blen n) : Nat) : Int) ∧ q.2.1 = (i : Int)) 64 ⟨rfl, 0, by omega, rfl, by rw [Nat.zero_min]; rfl, rfl⟩ ?_
  rintro k ⟨x, y, _⟩ H' ⟨rfl, i, hi, rfl, hx, hy⟩
  simp only at hx hy
  subst hx hy
  dsimp only
  refine brW_dec (fun hlt => ?_) (fun hge => ?_)
  · have hb := blen_shr n i
    refine joinW_mk (fun q H'' => H'' = H' ∧ q.1 = ((min (i + 1) (blen n) : Nat) : Int)) ?_ ?_
    · refine ⟨by omega, ?_⟩
      rw [shrW_nat hn]
      refine brW_dec (fun h0 => letV_mk fun w hw => ⟨rfl, ?_⟩) (fun h0 => ⟨rfl, ?_⟩)
      · have := blen_pos (n := n >>> i) (by omega)
        show w = _
        rw [hw, wrap_i64 (by omega) (by omega)]
        omega
      · have : n >>> i = 0 := by omega
        rw [this, blen_zero] at hb
        show ((min i (blen n) : Nat) : Int) = _
        omega
    · rintro ⟨w, _⟩ H'' ⟨rfl, hw⟩
      simp only at hw
      subst hw
      refine letV_mk fun i4 hi4 => ⟨64 - (i + 1), by omega, rfl, i + 1, by omega, rfl, rfl, ?_⟩
      show i4 = _
      rw [hi4, wrap_u64 (by omega) (by omega)]; rfl
  · have : i = 64 := by omega
    subst this
    rw [Nat.min_eq_right h64]
    refine letV_mk fun H4 h4 => ?_
    have f4 : Fr noF H' H4 := by rw [h4]; exact Fr.new _ _ _
    have hs4 : Sl H4 ty_uint64 ([n, 0, n].map u64V) (some ⟨Array.size H', 0, none⟩) 3 3 := by
      rw [h4]
      exact Sl.lit H' ty_uint64 [u64V n, u64V 0, u64V n]
    clear h4
    have all : All64 [n, 0, n] := by
      intro x hx
      simp at hx
      omega
    refine Ints_New_spec hs4.rd all (by decide) fun g H5 t f5 => brW_false rfl ?_
    refine Ints_Get_spec t 2 (fun j hj he => ?_) (fun h => absurd h (by simp))
    have : j = 2 := by omega
    subst this
    refine told_spec fun H7 f7 => brW_true rfl ?_
    refine Width_spec hn (brW_pos rfl (brW_pos rfl (brW_pos rfl ?_)))
    refine Ints_Width_spec (t.old f7) ⟨?_, (f4.trans0 f5).trans0 f7⟩
    have : wide [n, 0, n] = blen n := by
      show blen (max (max (max 0 n) 0) n) = _
      simp
    rw [this]
    exact decide_eq_true rfl
theorem IntsOwn_fn (H : Heap) (a : Option Addr) (len cap : Nat) (zs : List Int) (hrd0 : Rd H (zs.map (Value.int .u64)) a len) (hw : ∀ z ∈ zs, (Lit.int .u64 z).wf = true) :
    brackenlaw4_IntsOwn.C a len cap H fun b H' => b = true ∧ Fr noF H H' := by
  obtain ⟨l, hrd, hl⟩ := nats_rd hrd0 hw
  clear hrd0 hw
  have hn : l.length = len := by have := hrd.1; simpa using this
  apply brackenlaw4_IntsOwn.calls
  unfold brackenlaw4_IntsOwn.W
  refine joinW_thru (joinW_thru ?_)
  refine brW_dec (fun _ => brW_true rfl (told_spec fun H' f => ⟨rfl, f⟩)) (fun h1 => ?_)
  refine brW_dec (fun _ => told_spec fun H' f => ⟨rfl, f⟩) (fun h100 => ?_)
  refine letV_mk fun H4 h4 => ?_
  have f4 : Fr noF H H4 := by rw [h4]; exact Fr.new _ _ _
  have he4 : Sl H4 ty_uint64 [] (some ⟨Array.size H, 0, none⟩) 0 0 := by rw [h4]; exact Sl.lit H ty_uint64 []
  clear h4
  have hbl : ∀ k, blkIs (some ⟨Array.size H, 0, none⟩) k → noF k ∨ Array.size H ≤ k := by
    rintro k ⟨a, ha, rfl⟩
    cases ha
    exact .inr (Nat.le_refl _)
  refine appW_own (new := l.map u64V) he4 rfl (appended_rd (hrd.old f4)) (by simp [hn]) (by simp [Go.Ev.One]) (by omega) (by decide) fun p5 c5 H5 hs5 f5 hb5 => ?_
  rw [List.nil_append, Nat.zero_add] at hs5
  rw [Nat.zero_add]
  have fr5 : Fr noF H H5 := f4.trans f5 hbl
  have hb5' : ∀ k, blkIs p5 k → Array.size H ≤ k ∧ k < Array.size H5 := fun k hk => by
    refine ⟨?_, hs5.blk_lt hk⟩
    rcases hb5 k hk with h | h
    · rcases hbl k h with h | h
      · exact h.elim
      · exact h
    · exact Nat.le_trans f4.size h
  refine Ints_New_spec hs5.rd hl (by omega) fun g H6 t f6 => brW_false rfl ?_
  refine joinW_thru ?_
  refine loopW_mk (fun m q H' => ∃ (i : Nat) (ms : List Nat), i ≤ len ∧ m = len - i ∧ q.1 = (i : Int) ∧ All64 ms ∧ Sl H' ty_uint64 (ms.map u64V) p5 len c5 ∧ Ints H' g l (fun k => Array.size H5 ≤ k ∧ k < Array.size H6) ∧ Fr noF H H') len
    ⟨0, l, by omega, rfl, rfl, hl, hs5.keep f6 fun _ _ h => h, t, fr5.trans0 f6⟩ ?_
  rintro m ⟨y, _⟩ H8 ⟨i, ms, hi, rfl, hy, hms, hs8, t8, fr8⟩
  simp only at hy
  subst hy
  dsimp only
  refine brW_dec (fun hlt => ?_) (fun hge => ?_)
  · obtain ⟨h2, ad, e, hc⟩ := rd_u64 hs8.rd (i := i) (by omega)
    subst e
    have hm := hms _ (List.getElem_mem h2)
    obtain ⟨ad', e', hc', hz', hs9, fr9⟩ := hs8.store (i := i) (by omega) (u64V (2 ^ 64 - 1 - ms[i]))
    cases e'
    rw [set_u64] at hs9
    refine ⟨_, rfl, by omega, by omega, _, by rw [Int.toNat_natCast]; exact hc, _, rfl, by omega, by omega, by rw [Int.toNat_natCast]; exact hc', by rw [Int.toNat_natCast]; exact hz', letV_mk fun H9 h9 => letV_mk fun i5 hi5 => ?_⟩
    rw [Int.toNat_natCast, notW_nat hm] at h9
    have h9 : H9 = hset H8 (ad.add i) (u64V (2 ^ 64 - 1 - ms[i])) := h9
    rw [← h9] at hs9 fr9
    refine ⟨len - (i + 1), by omega, i + 1, _, by omega, rfl, ?_, hms.set i (v := 2 ^ 64 - 1 - ms[i]) (by omega), hs9, ?_, ?_⟩
    · show i5 = _
      rw [hi5, wrap_i64 (by omega) (by omega)]; rfl
    · exact t8.keep fr9 fun k hk hb => by have := (hb5' k hb).2; omega
    · exact fr8.trans fr9 fun k hk => .inr (hb5' k hk).1
  · refine joinW_thru ?_
    clear hi hge hms hs8 h1
    refine loopW_mk (fun m q H' => H' = H8 ∧ ∃ i : Nat, i ≤ len ∧ m = len - i ∧ q.1 = (i : Int)) len ⟨rfl, 0, by omega, rfl, rfl⟩ ?_
    rintro m ⟨y, _⟩ H11 ⟨rfl, i, hi, rfl, hy⟩
    simp only at hy
    subst hy
    dsimp only
    refine brW_dec (fun hlt => ?_) (fun hge => ?_)
    · refine joinW_thru ?_
      refine Ints_Get_spec t8 i (fun j hj he => ?_) (fun h => by omega)
      have : j = i := by omega
      subst this
      refine joinW_thru (brW_neg (fun h => h rfl) ?_)
      obtain ⟨h2, ad, rfl, hc⟩ := rd_u64 (hrd.old fr8) (i := j) (by omega)
      refine ⟨ad, rfl, by omega, by omega, _, by rw [Int.toNat_natCast]; exact hc, brW_neg (fun h => h rfl) ?_⟩
      refine letV_mk fun i6 hi6 => ⟨len - (j + 1), by omega, rfl, j + 1, by omega, rfl, ?_⟩
      show i6 = _
      rw [hi6, wrap_i64 (by omega) (by omega)]; rfl
    · refine Ints_Width_spec t8 (letV_mk fun n9 hn9 => ?_)
      refine told_spec fun H16 f16 => brW_true rfl ?_
      have t16 := t8.old f16
      have hp := t16.prod
      rw [← hn, show (l.length : Int) * (wide l : Int) = ((l.length * wide l : Nat) : Int) by push_cast; rfl, wrap_i64 (by omega) (by omega)] at hn9
      have hu : upTo64 (l.length * wide l) = (l.length * wide l + 63) / 64 * 64 := rfl
      generalize hu64 : upTo64 (l.length * wide l) = U at hu
      refine Ints_Size_spec t16 ⟨by decide, ?_⟩
      rw [hu64]
      refine brW_pos ?_ ?_
      · rw [show Int.tmod (U : Int) 64 = ((U % 64 : Nat) : Int) from rfl]
        omega
      refine Ints_Size_spec t16 ?_
      rw [hu64]
      refine brW_pos (by omega) ?_
      refine Ints_Size_spec t16 ?_
      rw [hu64]
      refine ⟨decide_eq_true ?_, fr8.trans0 f16⟩
      rw [wrap_i64 (by omega) (by omega)]
      omega
end Go.Proofs.Ytgdglgkmdnenoaa
