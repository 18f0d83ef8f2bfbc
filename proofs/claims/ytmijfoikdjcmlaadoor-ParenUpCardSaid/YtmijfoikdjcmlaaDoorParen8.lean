import Derived.Test.YtmijfoikdjcmlaaDoorParen7
/-! The laws of package paren: asks, deep and wide ones, level by level. -/
namespace Go.Ev
theorem modP (z : Int) {N : Nat} (h0 : 0 < N) (h1 : N ≤ 4611686018427387904) : ∃ k : Nat, k < N ∧ IntKind.i64.wrap (Int.tmod (IntKind.u64.wrap z) (N : Int)) = (k : Int) := by
  have hr := wrap_u64_range z
  obtain ⟨a, ha⟩ : ∃ a : Nat, IntKind.u64.wrap z = (a : Int) := ⟨(IntKind.u64.wrap z).toNat, by omega⟩
  have hm := Nat.mod_lt a h0
  rw [ha, show Int.tmod (a : Int) (N : Int) = ((a % N : Nat) : Int) from rfl, wrap_i64 (by omega) (by omega)]
  exact ⟨_, hm, rfl⟩
theorem modP1 (z : Int) {N : Nat} (h0 : 0 < N) (h1 : N ≤ 1048576) {x : Int} (hx : x = IntKind.i64.wrap (1 + IntKind.i64.wrap (Int.tmod (IntKind.u64.wrap z) (N : Int)))) : ∃ k : Nat, (1 ≤ k ∧ k ≤ N) ∧ x = (k : Int) := by
  obtain ⟨k, hk, e⟩ := modP z h0 (by omega)
  rw [e, wrap_i64 (by omega) (by omega)] at hx
  exact ⟨1 + k, by omega, by omega⟩
theorem len1P {l : Nat} (h : l ≤ 1048576) : IntKind.u64.wrap (IntKind.i64.wrap ((l : Int) + 1)) = ((l + 1 : Nat) : Int) := by
  rw [wrap_i64 (by omega) (by omega), show (l : Int) + 1 = ((l + 1 : Nat) : Int) by omega, wrap_natlt (by omega)]
theorem UpR.big {m : List Bool} (hb : Bal m) {k n : Int} (h : (m.length : Int) < n) : UpR m k n (-1) := by
  refine .inr ⟨rfl, fun i n' y hi e ho e' hu => ?_⟩
  obtain ⟨a, b, _⟩ := hu
  have h1 := hb.1 y (by omega)
  have h2 := exc_le m i
  omega
theorem exc_at {m : List Bool} {i : Nat} (hi : i < m.length) : (if 0 ≤ (i : Int) ∧ (i : Int) < (m.length : Int) then exc m ((i : Int) + 1).toNat else -1) = exc m (i + 1) := by
  rw [if_pos (by omega)]
  congr 1
theorem deep_bal {a : Nat} : Bal (deepL a (2 * a)) := by
  constructor
  · intro k hk
    rw [deep_len] at hk
    rw [deep_exc a hk]
    split <;> omega
  · rw [deep_len, deep_exc a (Nat.le_refl _)]
    split <;> omega
theorem deep_pair {a x : Nat} (hx : x < a) : IsPair (deepL a (2 * a)) x (2 * a - 1 - x) := by
  refine ⟨by omega, by rw [deep_len]; omega, ?_, fun y h1 h2 => ?_⟩
  · rw [deep_exc a (by omega), deep_exc a (by omega)]
    split <;> split <;> omega
  · rw [deep_exc a (by omega), deep_exc a (by omega)]
    split <;> split <;> omega
theorem deep_up {a x y : Nat} (hx : x < a) (hy : y ≤ x) : IsUp (deepL a (2 * a)) x (x - y) y := by
  refine ⟨hy, ?_, fun z h1 h2 => ?_⟩
  · rw [deep_exc a (by omega), deep_exc a (by omega)]
    split <;> split <;> omega
  · rw [deep_exc a (by omega), deep_exc a (by omega)]
    split <;> split <;> omega
theorem wideF_len (a : Nat) : (wideL (2 * a + 1) ++ [false]).length = 2 * a + 2 := by simp [wide_len]
theorem wide_bal (a : Nat) : Bal (wideL (2 * a + 1) ++ [false]) := by
  constructor
  · intro k hk
    rw [wideF_len] at hk
    rw [wide_exc hk]
    repeat' split
    all_goals omega
  · rw [wideF_len, wide_exc (Nat.le_refl _), if_neg (by omega), if_pos rfl]
theorem wide_all (a : Nat) : IsPair (wideL (2 * a + 1) ++ [false]) 0 (2 * a + 1) := by
  refine ⟨Nat.zero_le _, by rw [wideF_len]; omega, ?_, fun y h1 h2 => ?_⟩
  · rw [wide_exc (by omega), exc_zero, if_neg (by omega), if_pos (by omega)]
  · rw [exc_zero, wide_exc (by omega), if_neg (by omega), if_neg (by omega)]
    split <;> omega
theorem wide_pair {a j : Nat} (hj : j < a) : IsPair (wideL (2 * a + 1) ++ [false]) (1 + 2 * j) (1 + 2 * j + 1) := by
  refine ⟨by omega, by rw [wideF_len]; omega, ?_, fun y h1 h2 => ?_⟩
  · rw [wide_exc (by omega), wide_exc (by omega), if_neg (by omega), if_neg (by omega), if_pos (by omega), if_neg (by omega), if_neg (by omega), if_pos (by omega)]
  · obtain rfl : y = 1 + 2 * j + 1 := by omega
    rw [wide_exc (by omega), wide_exc (by omega), if_neg (by omega), if_neg (by omega), if_pos (by omega), if_neg (by omega), if_neg (by omega), if_neg (by omega)]
    omega
theorem wide_up {a j : Nat} (hj : j < a) : IsUp (wideL (2 * a + 1) ++ [false]) (1 + 2 * j) 1 0 := by
  refine ⟨Nat.zero_le _, ?_, fun y h1 h2 => ?_⟩
  · rw [exc_zero, wide_exc (by omega), if_neg (by omega), if_neg (by omega), if_pos (by omega)]
    rfl
  · rw [exc_zero, wide_exc (by omega), if_neg (by omega), if_neg (by omega)]
    split <;> omega
end Go.Ev
namespace Go.Proofs.YtmijfoikdjcmlaaDoor
open Go.Ev
set_option linter.unusedVariables false
theorem ParenAsks_fn (H : Heap) (hd : Deb H) (a : Option Addr) (len cap : Nat) (zs : List Int) (hrd : Rd H (zs.map (Value.int .i64)) a len) (hw : ∀ z ∈ zs, (Lit.int .i64 z).wf = true) (hb : len ≤ 9223372036854775807) (xk : Int) (hxk : (Lit.int .i64 xk).wf = true) (xn : Int) (hxn : (Lit.int .i64 xn).wf = true) :
    brackenlaw5_ParenAsks.C a len cap xk xn H fun b H' => b = true ∧ Fr noF H H' := by
  apply brackenlaw5_ParenAsks.calls
  unfold brackenlaw5_ParenAsks.W
  refine PRow_spec (most := 1000) hrd hb (by decide) fun p l c m H1 hsl hml hl hbal f1 => ?_
  refine paren_New_spec (hd.old f1) hsl.rd (by omega) (fun h => absurd hbal h) fun _ g F H2 s2 => ?_
  refine joinW_thru (joinW_thru (brW_neg (by decide) (brW_false rfl (s2.len (brW_neg (by omega) ?_)))))
  have hrng : ∀ z : Int, (Lit.int .i64 z).wf = true → -9223372036854775808 ≤ z ∧ z ≤ 9223372036854775807 := by
    intro z hz
    simp [Lit.wf, IntKind.min, IntKind.max, IntKind.signed, IntKind.bits] at hz
    omega
  refine joinW_mk (fun _ H' => PS H1 H' g m F) ?_ ?_
  · refine loopW_mk (fun t (q : Int × Int × Int × Unit) H' => ∃ i : Nat, t = 2 - i ∧ i ≤ 2 ∧ q.2.2.1 = (i : Int) ∧ q.2.1 ≤ 9223372036854775807 ∧ PS H1 H' g m F) 2 ⟨0, rfl, by omega, rfl, (hrng _ hxn).2, s2⟩ ?_
    rintro t ⟨k, n, t', _⟩ H7 ⟨i, rfl, hi, ht, hn, s7⟩
    simp only at ht hn
    subst ht
    dsimp only
    refine brW_dec (fun hlt => ?_) (fun _ => s7)
    refine joinW_mk (fun (q : Int × Int × Unit) H' => q.2.1 ≤ 9223372036854775807 ∧ PS H1 H' g m F) ?_ ?_
    · refine joinW_mk (fun _ H' => PS H1 H' g m F) ?_ ?_
      · refine joinW_thru ?_
        refine s7.opens k fun H11 s11 => ?_
        have rd : 0 ≤ k → k < (l : Int) → ∃ ad, p = some ad ∧ hcell H11 (ad.add k.toNat) = some (.bool (opn m k)) := by
          intro h0 h1
          obtain ⟨j, hj, rfl, e⟩ := opn_range (m := m) (k := k) ⟨h0, by omega⟩
          obtain ⟨h2, ad, hp, hc⟩ := rd_bool (hsl.rd.old s11.fr) (i := j) (by omega)
          exact ⟨ad, hp, by rw [Int.toNat_natCast, e]; exact hc⟩
        refine brW_dec (fun h0 => brW_dec (fun h1 => (rd h0 h1).elim fun ad h => ⟨ad, h.1, h0, h1, _, h.2, brW_neg (fun h => h rfl) ?_⟩) (fun h1 => brW_neg (fun h => h (opn_out (by omega))) ?_)) (fun h0 => brW_neg (fun h => h (opn_out (by omega))) ?_)
        all_goals (
          refine s11.excess k fun H12 s12 => refExcess_spec (hsl.rd.old s12.fr) (by omega) k (brW_neg (fun h => h rfl) ?_)
          refine s12.close k fun x H14 hx s14 => refClose_spec (hsl.rd.old s14.fr) (by omega) hbal k fun y hy => ?_
          obtain rfl := hx.unique hy
          refine brW_neg (fun h => h rfl) (s14.steps (brW_false rfl ?_))
          refine s14.begins k fun x H17 hx s17 => refBegin_spec (hsl.rd.old s17.fr) (by omega) hbal k fun y hy => ?_
          obtain rfl := hx.unique hy
          refine brW_neg (fun h => h rfl) (s17.steps (brW_false rfl ?_))
          refine s17.enclose k fun x H20 hx s20 => refEnclose_spec (hsl.rd.old s20.fr) (by omega) hbal k fun y hy => ?_
          obtain rfl := hx.unique hy
          refine brW_neg (fun h => h rfl) (s20.steps (brW_false rfl ?_))
          refine s20.up k n hn fun x H23 hx s23 => refUp_spec (hsl.rd.old s23.fr) (by omega) hbal k _ (by omega) fun y hy => ?_
          have hxy : x = y := by
            rcases Classical.em (n ≤ 3000) with h | h
            · rw [show min n 3000 = n by omega] at hy
              exact hx.unique hy
            · rw [hx.unique (.big hbal (by omega)), hy.unique (.big hbal (by omega))]
          subst hxy
          exact brW_neg (fun h => h rfl) (s23.steps (brW_false rfl s23)))
      · intro _ H9 s9
        refine joinW_mk (fun _ H' => PS H1 H' g m F) ?_ ?_
        · refine joinW_thru ?_
          refine s9.place k fun x H56 hx s56 => refPlace_spec (hsl.rd.old s56.fr) (by omega) k fun y hy => ?_
          obtain rfl := hx.unique hy
          refine brW_neg (fun h => h rfl) ?_
          refine s56.number k fun H58 s58 => refNumber_spec (hsl.rd.old s58.fr) (by omega) k (brW_neg (fun h => h rfl) ?_)
          refine s58.span k fun x H60 hx s60 => refSpan_spec (hsl.rd.old s60.fr) (by omega) hbal k fun y hy => ?_
          obtain rfl := hx.unique hy
          exact brW_neg (fun h => h rfl) s60
        · intro _ H54 s54
          rw [len1P (by omega)]
          refine ⟨by omega, letV_mk fun k1 hk1 => ⟨by decide, letV_mk fun n2 hn2 => ⟨?_, s54⟩⟩⟩
          show n2 ≤ _
          rw [hn2]
          exact (wrap_i64_range _).2
    · rintro ⟨k1, n2, _⟩ H8 ⟨hn2, s8⟩
      refine letV_mk fun t2 ht2 => ⟨2 - (i + 1), by omega, i + 1, rfl, by omega, ?_, hn2, s8⟩
      show t2 = _
      rw [ht2, wrap_i64 (by omega) (by omega)]; rfl
  · intro _ H6 s6
    exact PTold_spec (s6.deb.old s6.fr) fun H62 f62 => ⟨rfl, f1.trans0 (s6.old f62).fr⟩
theorem ParenDeep_fn (H : Heap) (hd : Deb H) (xn : Int) (hxn : (Lit.int .i64 xn).wf = true) (xk : Int) (hxk : (Lit.int .i64 xk).wf = true) (xj : Int) (hxj : (Lit.int .i64 xj).wf = true) :
    brackenlaw5_ParenDeep.C xn xk xj H fun b H' => b = true ∧ Fr noF H H' := by
  apply brackenlaw5_ParenDeep.calls
  unfold brackenlaw5_ParenDeep.W
  refine ⟨by decide, letV_mk fun a7 ha7 => ?_⟩
  obtain ⟨a, ha, rfl⟩ := modP1 xn (N := 1000) (by decide) (by decide) ha7
  clear ha7
  rw [wrap_i64 (n := 2 * (a : Int)) (by omega) (by omega), show 2 * (a : Int) = ((2 * a : Nat) : Int) by omega]
  refine joinW_mk (fun (q : (Option Addr × Nat × Nat) × Unit) H' => Sl H' ty_bool ((deepL a (2 * a)).map Value.bool) q.1.1 q.1.2.1 q.1.2.2 ∧ q.1.2.1 = 2 * a ∧ Fr noF H H') ?_ ?_
  · refine loopW_mk (fun t (q : (Option Addr × Nat × Nat) × Int × Unit) H' => ∃ i : Nat, i ≤ 2 * a ∧ t = 2 * a - i ∧ q.2.1 = (i : Int) ∧ q.1.2.1 = i ∧ Sl H' ty_bool ((deepL a i).map Value.bool) q.1.1 q.1.2.1 q.1.2.2 ∧ (∀ k, blkIs q.1.1 k → Array.size H ≤ k) ∧ Fr noF H H') (2 * a)
      ⟨0, Nat.zero_le _, rfl, rfl, rfl, Sl.nil _ _, (by rintro k ⟨a, ha, _⟩; cases ha), Fr.refl _ _⟩ ?_
    rintro t ⟨⟨op, ol, oc⟩, x, _⟩ H2 ⟨i, hi, rfl, hx, hol, hsl, hob, hf⟩
    simp only at hx hol hsl hob
    subst hx hol
    dsimp only
    refine brW_dec (fun hlt => ?_) (fun hge => ?_)
    · have hdec : decide ((ol : Int) < (a : Int)) = decide (ol < a) := by simp
      rw [hdec]
      refine app1 (v := .bool (decide (ol < a))) hsl rfl ⟨by simp, by simp⟩ (by omega) (by decide) fun p' c' H4 hs4 f4 hb4 => letV_mk fun i9 hi9 => ?_
      refine ⟨2 * a - (ol + 1), by omega, ol + 1, by omega, rfl, ?_, rfl, ?_, fun k hk => ?_, hf.trans f4 fun k hk => .inr (hob k hk)⟩
      · show i9 = _
        rw [hi9, wrap_i64 (by omega) (by omega)]; rfl
      · show Sl H4 ty_bool ((deepL a (ol + 1)).map Value.bool) p' (ol + 1) c'
        rw [deep_succ, List.map_append]
        exact hs4
      · rcases hb4 k hk with h | h
        · exact hob k h
        · exact Nat.le_trans hf.size h
    · obtain rfl : ol = 2 * a := by omega
      exact ⟨hsl, rfl, hf⟩
  rintro ⟨⟨op, ol, oc⟩, _⟩ H1 ⟨hsl, hol, f1⟩
  simp only at hsl hol
  subst hol
  dsimp only
  refine paren_New_spec (hd.old f1) hsl.rd (by omega) (fun h => absurd deep_bal h) fun hbal g F H5 s5 => ?_
  refine joinW_thru (joinW_thru (brW_neg (by decide) (brW_false rfl ?_)))
  rw [wrap_natlt (a := a) (by omega)]
  refine ⟨by omega, by omega, letV_mk fun x12 hx12 => letV_mk fun y13 hy13 => ?_⟩
  obtain ⟨x0, hx0, ex0⟩ := modP xk (N := a) (by omega) (by omega)
  obtain ⟨y0, hy0, ey0⟩ := modP xj (N := a) (by omega) (by omega)
  rw [ex0] at hx12
  rw [ey0] at hy13
  subst hx12 hy13
  clear ex0 ey0
  refine joinW_mk (fun (q : Int × Int × Unit) H' => H5 = H' ∧ ∃ x y : Nat, q.1 = (x : Int) ∧ q.2.1 = (y : Int) ∧ y ≤ x ∧ x < a) ?_ ?_
  · exact brW_dec (fun h => ⟨rfl, y0, x0, rfl, rfl, by omega, by omega⟩) (fun h => ⟨rfl, x0, y0, rfl, rfl, by omega, by omega⟩)
  clear hx0 hy0
  rintro ⟨x12, y13, _⟩ _ ⟨rfl, x, y, hx, hy, hxy, hxa⟩
  simp only at hx hy
  subst hx hy
  dsimp only
  have hpair := deep_pair hxa
  obtain ⟨hxl, hox⟩ := hpair.opens
  have hex : exc (deepL a (2 * a)) x = (x : Int) := by rw [deep_exc a (by omega), if_pos (by omega)]
  refine PTold_spec (s5.deb.old s5.fr) fun H9 f9 => brW_true rfl ?_
  have s9 := s5.old f9
  refine s9.close x fun z H10 hz s10 => ?_
  obtain rfl : z = ((2 * a - 1 - x : Nat) : Int) := hz.unique (.inl ⟨x, _, rfl, hpair, rfl⟩)
  rw [wrap_i64 (n := ((2 * a : Nat) : Int) - 1) (by omega) (by omega), wrap_i64 (n := ((2 * a : Nat) : Int) - 1 - (x : Int)) (by omega) (by omega)]
  refine brW_pos (by omega) (s10.steps (brW_true rfl ?_))
  rw [wrap_i64 (n := (x : Int) - (y : Int)) (by omega) (by omega), show (x : Int) - (y : Int) = ((x - y : Nat) : Int) by omega]
  refine s10.up x _ (by omega) fun z H12 hz s12 => ?_
  obtain rfl : z = (y : Int) := hz.unique (.inl ⟨x, x - y, y, hxl, rfl, hox, rfl, deep_up hxa hxy, rfl⟩)
  refine brW_pos rfl (s12.steps (brW_true rfl ?_))
  rw [wrap_i64 (n := (x : Int) + 1) (by omega) (by omega)]
  refine s12.up x _ (by omega) fun z H14 hz s14 => ?_
  obtain rfl : z = -1 := hz.unique (.none hbal (.inr (.inr ⟨x, rfl, by omega⟩)))
  refine brW_pos rfl (s14.excess x fun H15 s15 => ?_)
  rw [exc_at hxl, of_up hxl hox, hex]
  refine brW_pos rfl (s15.span x fun z H16 hz s16 => ⟨?_, f1.trans0 s16.fr⟩)
  obtain rfl : z = (((2 * a - 1 - x - x + 1) / 2 : Nat) : Int) := hz.unique (.inl ⟨x, _, rfl, hpair, rfl⟩)
  rw [wrap_i64 (by omega) (by omega)]
  exact decide_eq_true (by omega)
theorem ParenWide_fn (H : Heap) (hd : Deb H) (xn : Int) (hxn : (Lit.int .i64 xn).wf = true) (xk : Int) (hxk : (Lit.int .i64 xk).wf = true) :
    brackenlaw5_ParenWide.C xn xk H fun b H' => b = true ∧ Fr noF H H' := by
  apply brackenlaw5_ParenWide.calls
  unfold brackenlaw5_ParenWide.W
  refine ⟨by decide, letV_mk fun a7 ha7 => ?_⟩
  obtain ⟨a, ha, rfl⟩ := modP1 xn (N := 2000) (by decide) (by decide) ha7
  clear ha7
  refine letV_mk fun H1 h1 => ?_
  have f1 : Fr noF H H1 := by rw [h1]; exact Fr.new _ _ _
  have hs1 : Sl H1 ty_bool ((wideL 1).map Value.bool) (some ⟨Array.size H, 0, none⟩) 1 1 := by rw [h1]; exact Sl.lit H ty_bool [.bool true]
  clear h1
  refine joinW_mk (fun (q : (Option Addr × Nat × Nat) × Unit) H' => Sl H' ty_bool ((wideL (2 * a + 1)).map Value.bool) q.1.1 q.1.2.1 q.1.2.2 ∧ q.1.2.1 = 2 * a + 1 ∧ (∀ k, blkIs q.1.1 k → Array.size H ≤ k) ∧ Fr noF H H') ?_ ?_
  · refine loopW_mk (fun t (q : (Option Addr × Nat × Nat) × Int × Unit) H' => ∃ i : Nat, i ≤ a ∧ t = a - i ∧ q.2.1 = (i : Int) ∧ q.1.2.1 = 2 * i + 1 ∧ Sl H' ty_bool ((wideL (2 * i + 1)).map Value.bool) q.1.1 q.1.2.1 q.1.2.2 ∧ (∀ k, blkIs q.1.1 k → Array.size H ≤ k) ∧ Fr noF H H') a
      ⟨0, Nat.zero_le _, rfl, rfl, rfl, hs1, (by rintro k ⟨a, ha, rfl⟩; cases ha; exact Nat.le_refl _), f1⟩ ?_
    rintro t ⟨⟨op, ol, oc⟩, x, _⟩ H3 ⟨i, hi, rfl, hx, hol, hsl, hob, hf⟩
    simp only at hx hol hsl hob
    subst hx hol
    dsimp only
    refine brW_dec (fun hlt => ?_) (fun hge => ?_)
    · refine letV_mk fun H4 h4 => ?_
      have f4 : Fr noF H3 H4 := by rw [h4]; exact Fr.new _ _ _
      have hs4 : Sl H4 ty_bool [.bool true, .bool false] (some ⟨Array.size H3, 0, none⟩) 2 2 := by rw [h4]; exact Sl.lit H3 ty_bool [.bool true, .bool false]
      have sz4 := f4.size
      clear h4
      refine appW_own (hsl.keep f4 fun _ _ h => h) rfl (appended_rd hs4.rd) rfl (fun v hv => by
        simp only [List.mem_cons, List.not_mem_nil, or_false] at hv
        rcases hv with rfl | rfl <;> exact ⟨by simp, by simp⟩) (by omega) (by decide) fun p' c' H5 hs5 f5 hb5 => letV_mk fun i7 hi7 => ?_
      refine ⟨a - (i + 1), by omega, i + 1, by omega, rfl, ?_, by show 2 * i + 1 + 2 = _; omega, ?_, fun k hk => ?_, (hf.trans0 f4).trans f5 fun k hk => .inr (hob k hk)⟩
      · show i7 = _
        rw [hi7, wrap_i64 (by omega) (by omega)]; rfl
      · show Sl H5 ty_bool ((wideL (2 * (i + 1) + 1)).map Value.bool) p' (2 * i + 1 + 2) c'
        rw [show 2 * (i + 1) + 1 = 2 * i + 1 + 1 + 1 by omega, wide_succ, wide_succ, List.map_append, List.map_append, List.append_assoc]
        have e1 : decide (2 * i + 1 = 0 ∨ (2 * i + 1) % 2 = 1) = true := decide_eq_true (by omega)
        have e2 : decide (2 * i + 1 + 1 = 0 ∨ (2 * i + 1 + 1) % 2 = 1) = false := decide_eq_false (by omega)
        rw [e1, e2]
        exact hs5
      · rcases hb5 k hk with h | h
        · exact hob k h
        · have := hf.size; omega
    · obtain rfl : i = a := by omega
      exact ⟨hsl, rfl, hob, hf⟩
  rintro ⟨⟨op, ol, oc⟩, _⟩ H2 ⟨hsl2, hol, hob2, f2⟩
  simp only at hsl2 hol hob2
  subst hol
  dsimp only
  refine app1 (v := .bool false) hsl2 rfl ⟨by simp, by simp⟩ (by omega) (by decide) fun p' c' H7 hs7 f7 hb7 => ?_
  have f17 := f2.trans f7 fun k hk => .inr (hob2 k hk)
  have hsl : Sl H7 ty_bool ((wideL (2 * a + 1) ++ [false]).map Value.bool) p' (2 * a + 1 + 1) c' := by rw [List.map_append]; exact hs7
  refine paren_New_spec (hd.old f17) hsl.rd (by omega) (fun h => absurd (wide_bal a) h) fun hbal g F H8 s8 => ?_
  refine joinW_thru (joinW_thru (brW_neg (by decide) (brW_false rfl ?_)))
  rw [wrap_natlt (a := a) (by omega)]
  refine ⟨by omega, letV_mk fun x10 hx10 => ?_⟩
  obtain ⟨j, hj, ej⟩ := modP xk (N := a) (by omega) (by omega)
  rw [ej, wrap_i64 (n := 2 * (j : Int)) (by omega) (by omega), wrap_i64 (by omega) (by omega), show 1 + 2 * (j : Int) = ((1 + 2 * j : Nat) : Int) by omega] at hx10
  subst hx10
  clear ej
  have hall := wide_all a
  have hpair := wide_pair hj
  obtain ⟨hxl, hox⟩ := hpair.opens
  rw [wrap_i64 (n := 2 * (a : Int)) (by omega) (by omega), wrap_i64 (n := 2 * (a : Int) + 1) (by omega) (by omega), show 2 * (a : Int) + 1 = ((2 * a + 1 : Nat) : Int) by omega, wrap_i64 (n := ((1 + 2 * j : Nat) : Int) + 1) (by omega) (by omega), wrap_i64 (n := (a : Int) + 1) (by omega) (by omega)]
  have hd2 : Int.tdiv (((1 + 2 * j : Nat) : Int) + 1) 2 = ((j + 1 : Nat) : Int) := by
    rw [show ((1 + 2 * j : Nat) : Int) + 1 = ((1 + 2 * j + 1 : Nat) : Int) by omega, show Int.tdiv ((1 + 2 * j + 1 : Nat) : Int) 2 = (((1 + 2 * j + 1) / 2 : Nat) : Int) from rfl]
    omega
  rw [hd2, wrap_i64 (n := ((j + 1 : Nat) : Int)) (by omega) (by omega)]
  refine PTold_spec (s8.deb.old s8.fr) fun H11 f11 => brW_true rfl ?_
  have s11 := s8.old f11
  refine s11.close 0 fun z H12 hz s12 => ?_
  obtain rfl : z = ((2 * a + 1 : Nat) : Int) := hz.unique (.inl ⟨0, _, rfl, hall, rfl⟩)
  refine brW_pos rfl (s12.steps (brW_true rfl ?_))
  refine s12.close _ fun z H14 hz s14 => ?_
  obtain rfl : z = ((1 + 2 * j + 1 : Nat) : Int) := hz.unique (.inl ⟨_, _, rfl, hpair, rfl⟩)
  refine brW_pos (by omega) (s14.steps (brW_true rfl ?_))
  have hup : UpR (wideL (2 * a + 1) ++ [false]) ((1 + 2 * j : Nat) : Int) 1 0 := .inl ⟨1 + 2 * j, 1, 0, hxl, rfl, hox, rfl, wide_up hj, rfl⟩
  refine s14.enclose _ fun z H16 hz s16 => ?_
  obtain rfl : z = 0 := hz.unique hup
  refine brW_pos rfl (s16.steps (brW_true rfl ?_))
  refine s16.begins _ fun z H18 hz s18 => ?_
  obtain rfl : z = 0 := hz.unique (.inl ⟨0, _, rfl, hall, rfl⟩)
  refine brW_pos rfl (s18.steps (brW_true rfl ?_))
  refine s18.up _ 1 (by decide) fun z H20 hz s20 => ?_
  obtain rfl : z = 0 := hz.unique hup
  refine brW_pos rfl (s20.steps (brW_true rfl ?_))
  refine s20.span 0 fun z H22 hz s22 => ?_
  obtain rfl : z = (((2 * a + 1 - 0 + 1) / 2 : Nat) : Int) := hz.unique (.inl ⟨0, _, rfl, hall, rfl⟩)
  refine brW_pos (by omega) (s22.number _ fun H23 s23 => ⟨by decide, ?_⟩)
  have hrk : rk (wideL (2 * a + 1) ++ [false]) (1 + 2 * j) true = j + 1 := by
    have h := wide_exc (a := a) (k := 1 + 2 * j) (by omega)
    rw [if_neg (by omega), if_neg (by omega), if_pos (by omega)] at h
    unfold exc at h
    omega
  rw [if_pos (by rw [opn_in hxl, hox]), Int.toNat_natCast, hrk]
  refine brW_pos rfl ⟨by decide, s23.place _ fun z H24 hz s24 => ⟨?_, f17.trans0 s24.fr⟩⟩
  obtain rfl : z = ((1 + 2 * j : Nat) : Int) := hz.unique (.inl ⟨1 + 2 * j, hxl, hox, by rw [hrk], rfl⟩)
  exact decide_eq_true rfl
theorem ParenUp_fn (H : Heap) (hd : Deb H) (a : Option Addr) (len cap : Nat) (zs : List Int) (hrd : Rd H (zs.map (Value.int .i64)) a len) (hw : ∀ z ∈ zs, (Lit.int .i64 z).wf = true) (hb : len ≤ 9223372036854775807) (xk : Int) (hxk : (Lit.int .i64 xk).wf = true) :
    brackenlaw5_ParenUp.C a len cap xk H fun b H' => b = true ∧ Fr noF H H' := by
  apply brackenlaw5_ParenUp.calls
  unfold brackenlaw5_ParenUp.W
  refine PRow_spec (most := 400) hrd hb (by decide) fun p l c m H1 hsl hml hl hbal f1 => ?_
  refine paren_New_spec (hd.old f1) hsl.rd (by omega) (fun h => absurd hbal h) fun _ g F H2 s2 => ?_
  refine joinW_mk (fun _ H' => H2 = H' ∧ l ≠ 0) ?_ ?_
  · refine joinW_thru (brW_neg (by decide) (brW_false rfl (brW_dec (fun h => ?_) (fun h => ⟨rfl, by omega⟩))))
    exact PTold_spec (s2.deb.old s2.fr) fun H5 f5 => brW_true rfl ⟨rfl, f1.trans0 (s2.old f5).fr⟩
  rintro _ _ ⟨rfl, hl0⟩
  have hhalf := half_true hbal
  rw [half_tdiv (by omega), wrap_natlt (a := l / 2) (by omega)]
  refine ⟨by decide, by omega, ?_⟩
  obtain ⟨n, hn, en⟩ := modP xk (N := l / 2) (by omega) (by omega)
  rw [en]
  refine s2.place n fun x43 H6 hx s6 => ?_
  obtain ⟨k, hk, ho, hrk, rfl⟩ : ∃ (q : Nat) (hq : q < m.length), m[q] = true ∧ (rk m q true : Int) = (n : Int) ∧ x43 = (q : Int) := by
    rcases hx with h | ⟨h, _⟩
    · exact h
    · omega
  have hup := of_up hk ho
  have hle := exc_le m k
  refine brW_neg (by omega) ?_
  refine joinW_mk (fun _ H' => PS H1 H' g m F) ?_ ?_
  · refine loopW_mk (fun t (q : Int × Int × Unit) H' => ∃ i : Nat, t = l + 1 - i ∧ q.2.1 = (i : Int) ∧ ((∃ y : Nat, q.1 = (y : Int) ∧ IsUp m k i y) ∨ q.1 = -1) ∧ PS H1 H' g m F) (l + 1) ⟨0, rfl, rfl, .inl ⟨k, rfl, IsUp.zero m k⟩, s6⟩ ?_
    rintro t ⟨x, i', _⟩ H8 ⟨i, rfl, hi, hx', s8⟩
    simp only at hi hx'
    subst hi
    dsimp only
    refine joinW_mk (fun _ H' => H8 = H' ∧ i ≤ l ∧ ∃ y : Nat, x = (y : Int) ∧ IsUp m k i y) ?_ ?_
    · refine brW_dec (fun h1 => brW_dec (fun h2 => ⟨rfl, by omega, ?_⟩) (fun _ => s8)) (fun _ => s8)
      rcases hx' with h | h
      · exact h
      · omega
    rintro _ _ ⟨rfl, hil, y, rfl, hu⟩
    obtain ⟨hy, hoy⟩ := hu.opens hk ho
    have hupy := of_up hy hoy
    have h21 := hu.2.1
    refine joinW_mk (fun (q : Int × Unit) H' => ((∃ y : Nat, q.1 = (y : Int) ∧ IsUp m k (i + 1) y) ∨ q.1 = -1) ∧ PS H1 H' g m F) ?_ ?_
    · refine joinW_mk (fun _ H' => PS H1 H' g m F) ?_ ?_
      · refine joinW_thru ?_
        refine s8.up k i (by omega) fun z H13 hz s13 => ?_
        obtain rfl : z = (y : Int) := hz.unique (.inl ⟨k, i, y, hk, rfl, ho, rfl, hu, rfl⟩)
        refine brW_neg (fun h => h rfl) ?_
        refine s13.excess y fun H14 s14 => s14.excess k fun H15 s15 => ?_
        rw [exc_at hy, exc_at hk, wrap_i64 (n := exc m (k + 1) - (i : Int)) (by omega) (by omega)]
        exact brW_neg (by omega) (s15.steps (brW_false rfl s15))
      · intro _ H11 s11
        refine s11.enclose y fun z H17 hz s17 => ⟨?_, s17⟩
        rcases hz with ⟨i2, n2, y2, _, e1, _, e2, hu2, rfl⟩ | ⟨rfl, _⟩
        · obtain rfl : y = i2 := by omega
          obtain rfl : n2 = 1 := by omega
          exact .inl ⟨y2, rfl, hu.trans hu2⟩
        · exact .inr rfl
    · rintro ⟨z, _⟩ H10 ⟨hz, s10⟩
      refine letV_mk fun i10 hi10 => ⟨l + 1 - (i + 1), by omega, i + 1, rfl, ?_, hz, s10⟩
      show i10 = _
      rw [hi10, wrap_i64 (by omega) (by omega)]; rfl
  · intro _ H7 s7
    refine PTold_spec (s7.deb.old s7.fr) fun H18 f18 => brW_true rfl ?_
    have s18 := s7.old f18
    refine s18.excess k fun H19 s19 => ?_
    rw [exc_at hk]
    refine s19.up k _ (by omega) fun z H20 hz s20 => ?_
    obtain rfl : z = -1 := hz.unique (.none hbal (.inr (.inr ⟨k, rfl, by omega⟩)))
    refine brW_pos rfl (s20.up k (-1) (by decide) fun z H21 hz s21 => ⟨?_, f1.trans0 s21.fr⟩)
    obtain rfl : z = -1 := hz.unique (.none hbal (.inr (.inl (by decide))))
    rfl
end Go.Proofs.YtmijfoikdjcmlaaDoor
