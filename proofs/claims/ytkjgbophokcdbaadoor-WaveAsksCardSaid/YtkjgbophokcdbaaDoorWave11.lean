import Derived.Test.YtkjgbophokcdbaaDoorWave10
/-! The laws of package wave. -/
namespace Go.Ev
theorem modU (z : Int) {N : Nat} (h0 : 0 < N) (h1 : N ≤ 4611686018427387904) : ∃ k : Nat, k < N ∧ IntKind.i64.wrap (Int.tmod (IntKind.u64.wrap z) (N : Int)) = (k : Int) := by
  have hr := wrap_u64_range z
  obtain ⟨a, ha⟩ : ∃ a : Nat, IntKind.u64.wrap z = (a : Int) := ⟨(IntKind.u64.wrap z).toNat, by omega⟩
  have hm := Nat.mod_lt a h0
  rw [ha, show Int.tmod (a : Int) (N : Int) = ((a % N : Nat) : Int) from rfl, wrap_i64 (by omega) (by omega)]
  exact ⟨_, hm, rfl⟩
theorem modU1 (z : Int) {N : Nat} (h0 : 0 < N) (h1 : N ≤ 1048576) {x : Int} (hx : x = IntKind.i64.wrap (1 + IntKind.i64.wrap (Int.tmod (IntKind.u64.wrap z) (N : Int)))) : ∃ k : Nat, (1 ≤ k ∧ k ≤ N) ∧ x = (k : Int) := by
  obtain ⟨k, hk, e⟩ := modU z h0 (by omega)
  rw [e, wrap_i64 (by omega) (by omega)] at hx
  exact ⟨1 + k, by omega, by omega⟩
theorem wrap_len1 {l : Nat} (h : l ≤ 1048576) : IntKind.u64.wrap (IntKind.i64.wrap ((l : Int) + 1)) = ((l + 1 : Nat) : Int) := by
  rw [wrap_i64 (by omega) (by omega), show (l : Int) + 1 = ((l + 1 : Nat) : Int) by omega, wrap_natlt (by omega)]
/-- How many below a place are below a symbol. -/
def below (l : List Nat) (k s : Nat) : Nat := (l.take k).countP fun x => decide (x < s)
theorem below_succ (l : List Nat) (k s : Nat) : below l k (s + 1) = below l k s + cntZ l k (s : Int) := by
  unfold below cntZ
  generalize l.take k = r
  induction r with
  | nil => rfl
  | cons x r ih =>
    rw [List.countP_cons, List.countP_cons, List.countP_cons, ih]
    rcases Nat.lt_trichotomy x s with h | h | h
    · rw [if_pos (by simp; omega), if_pos (by simp; omega), if_neg (by simp; omega)]; omega
    · rw [if_pos (by simp; omega), if_neg (by simp; omega), if_pos (by simp; omega)]; omega
    · rw [if_neg (by simp; omega), if_neg (by simp; omega), if_neg (by simp; omega)]; omega
theorem below_zero (l : List Nat) (k : Nat) : below l k 0 = 0 := by
  unfold below
  rw [List.countP_eq_zero]
  intro x _
  simp
theorem below_all {l : List Nat} {sg : Nat} (hl : ∀ x ∈ l, x < sg) {k : Nat} (hk : k ≤ l.length) : below l k sg = k := by
  unfold below
  rw [List.countP_eq_length.2]
  · simp; omega
  · intro x hx
    exact decide_eq_true (hl x (List.mem_of_mem_take hx))
theorem below_le (l : List Nat) (k s : Nat) : below l k s ≤ l.length := by
  unfold below
  exact Nat.le_trans List.countP_le_length (by simp; omega)
theorem below_mono (l : List Nat) {k k' : Nat} (h : k ≤ k') (s : Nat) : below l k s ≤ below l k' s := by
  unfold below
  exact (List.take_sublist_take_left h).countP_le
theorem cntZ_rep (n c i : Nat) : cntZ (List.replicate n c) i (c : Int) = min i n := by
  rw [cntZ_nat, List.take_replicate, List.count_replicate_self]
theorem rep_set {k c i : Nat} (hi : i < k) : ((List.replicate i c ++ List.replicate (k - i) 0).map natV).set i (natV c) = (List.replicate (i + 1) c ++ List.replicate (k - (i + 1)) 0).map natV := by
  rw [List.map_append, List.map_append, List.set_append_right _ _ (by simp), show k - i = k - (i + 1) + 1 by omega, List.replicate_succ, List.replicate_succ']
  simp
end Go.Ev
namespace Go.Proofs.YtkjgbophokcdbaaDoor
open Go.Ev
set_option linter.unusedVariables false
theorem WaveRaw_fn (H : Heap) (hd : Deb H) (a : Option Addr) (len cap : Nat) (zs : List Int) (hrd : Rd H (zs.map (Value.int .i64)) a len) (hw : ∀ z ∈ zs, (Lit.int .i64 z).wf = true) (hb : len ≤ 9223372036854775807) (sg : Int) (hsg : (Lit.int .i64 sg).wf = true) :
    brackenlaw6_WaveRaw.C a len cap sg H fun b H' => b = true ∧ Fr noF H H' := by
  apply brackenlaw6_WaveRaw.calls
  unfold brackenlaw6_WaveRaw.W
  refine brW_dec (fun _ => WaveTold_spec hd fun H' f => ⟨rfl, f⟩) (fun hle => ?_)
  refine Wave_New_spec hrd (by omega) sg (fun hbad => ?_) (fun l s g H2 e1 e2 hs hv w f2 => ?_)
  · refine refMaySyms_spec hrd (by omega) sg (fun hg => ?_) (fun _ => ?_)
    · exfalso
      rcases hbad with h | h | ⟨z, hz, h⟩
      · omega
      · omega
      · have := hg.2.2 z hz
        omega
    · exact WaveTold_spec hd fun H4 f4 => brW_true rfl (brW_pos (by decide) (brW_pos rfl (brW_neg (by decide) ⟨by decide, f4⟩)))
  · refine refMaySyms_spec (hrd.old f2) (by omega) sg (fun hg => ?_) (fun hno => ?_)
    · exact WaveTold_spec (hd.old f2) fun H4 f4 => brW_true rfl (brW_pos (by decide) (brW_pos rfl (brW_pos rfl ⟨rfl, f2.trans0 f4⟩)))
    · exfalso
      refine hno ⟨by omega, by omega, fun z hz => ?_⟩
      rw [e1] at hz
      obtain ⟨x, hx, rfl⟩ := List.mem_map.1 hz
      have := hv x hx
      omega
theorem WaveSelects_fn (H : Heap) (hd : Deb H) (a : Option Addr) (len cap : Nat) (zs : List Int) (hrd : Rd H (zs.map (Value.int .i64)) a len) (hw : ∀ z ∈ zs, (Lit.int .i64 z).wf = true) (hb : len ≤ 9223372036854775807) (sg : Int) (hsg : (Lit.int .i64 sg).wf = true) :
    brackenlaw6_WaveSelects.C a len cap sg H fun b H' => b = true ∧ Fr noF H H' := by
  apply brackenlaw6_WaveSelects.calls
  unfold brackenlaw6_WaveSelects.W
  refine ⟨by decide, letV_mk fun n5 hn5 => ?_⟩
  obtain ⟨sn, hs, rfl⟩ := modU1 sg (N := 100) (by decide) (by decide) hn5
  clear hn5
  refine WaveRow_spec (most := 300) hrd hb (by decide) (by omega) fun p l c m H1 hsl hl hml hm f1 => ?_
  refine WS.made (hd.old f1) hsl.rd (by omega) (by omega) hm fun g F H2 w2 => joinW_thru (joinW_thru (brW_neg (by decide) (brW_false rfl ?_)))
  refine joinW_mk (fun _ H' => WS H1 H' g m sn F) ?_ ?_
  · refine loopW_mk (fun k q H' => ∃ i : Nat, i ≤ l ∧ k = l - i ∧ q.1 = (i : Int) ∧ WS H1 H' g m sn F) l ⟨0, by omega, rfl, rfl, w2⟩ ?_
    rintro k ⟨x, _⟩ H6 ⟨i, hi, rfl, hx, w⟩
    simp only at hx
    subst hx
    dsimp only
    refine brW_dec (fun hlt => ?_) (fun _ => w)
    have hil : i < m.length := by omega
    refine joinW_mk (fun _ H' => WS H1 H' g m sn F) ?_ ?_
    · refine w.get _ fun x e H8 he w8 => ?_
      obtain ⟨rfl, rfl⟩ : x = (m[i] : Int) ∧ e = 0 := by
        rcases he with ⟨i', hi', e1, e2, e3⟩ | ⟨h, _⟩
        · have : i' = i := by omega
          subst this
          exact ⟨e2, e3⟩
        · omega
      obtain ⟨a1, ha1, hc1⟩ := rd_nat (hsl.rd.old w8.fr) hil
      refine ⟨a1, ha1, by omega, by omega, _, by rw [Int.toNat_natCast]; exact hc1, ?_⟩
      refine w8.rank _ _ fun H9 w9 => joinW_thru (brW_neg (by decide) ?_)
      obtain ⟨a2, ha2, hc2⟩ := rd_nat (hsl.rd.old w9.fr) hil
      refine ⟨a2, ha2, by omega, by omega, _, by rw [Int.toNat_natCast]; exact hc2, brW_neg (fun h => h rfl) ?_⟩
      rw [Int.toNat_natCast]
      have hcl := cntZ_le m i (m[i] : Int)
      have h0 : cntZ m (0 : Int).toNat (m[i] : Int) = 0 := cntZ_zero _ _
      refine w9.select _ _ (by omega) fun x H11 hx w11 => ?_
      obtain rfl : x = (i : Int) := hx.unique (.inl ⟨i, hil, rfl, rfl, by omega, by omega, by omega⟩)
      refine brW_neg (fun h => h rfl) ?_
      refine w11.nth _ _ _ _ fun x H12 hx w12 => ?_
      obtain rfl : x = (i : Int) := hx.unique (.inl ⟨i, hil, rfl, rfl, by omega, by omega, by omega⟩)
      refine brW_neg (fun h => h rfl) ?_
      refine w12.nth _ _ _ _ fun x H13 hx w13 => ?_
      obtain rfl : x = (i : Int) := hx.unique (.inl ⟨i, hil, rfl, rfl, by omega, by omega, by rw [Int.toNat_natCast]; omega⟩)
      refine brW_neg (fun h => h rfl) ?_
      rw [wrap_i64 (n := (i : Int) + 1) (by omega) (by omega)]
      refine w13.nth _ _ _ _ fun x H14 hx w14 => brW_neg (fun e => ?_) w14
      rcases hx with ⟨i', _, rfl, _, h, _⟩ | ⟨rfl, _⟩ <;> omega
    · intro _ H7 w7
      refine letV_mk fun i9 hi9 => ⟨l - (i + 1), by omega, i + 1, by omega, rfl, ?_, w7⟩
      show i9 = _
      rw [hi9, wrap_i64 (by omega) (by omega)]; rfl
  · intro _ H5 w5
    refine WaveTold_spec (w5.deb.old w5.fr) fun H15 f15 => brW_true rfl ?_
    have w15 := w5.old f15
    refine WB_Len_spec w15.wb ⟨?_, f1.trans0 w15.fr⟩
    rw [hml]
    exact decide_eq_true rfl
theorem WaveParts_fn (H : Heap) (hd : Deb H) (a : Option Addr) (len cap : Nat) (zs : List Int) (hrd : Rd H (zs.map (Value.int .i64)) a len) (hw : ∀ z ∈ zs, (Lit.int .i64 z).wf = true) (hb : len ≤ 9223372036854775807) (sg : Int) (hsg : (Lit.int .i64 sg).wf = true) (xa : Int) (hxa : (Lit.int .i64 xa).wf = true) (xb : Int) (hxb : (Lit.int .i64 xb).wf = true) :
    brackenlaw6_WaveParts.C a len cap sg xa xb H fun b H' => b = true ∧ Fr noF H H' := by
  apply brackenlaw6_WaveParts.calls
  unfold brackenlaw6_WaveParts.W
  refine ⟨by decide, letV_mk fun n5 hn5 => ?_⟩
  obtain ⟨sn, hs, rfl⟩ := modU1 sg (N := 40) (by decide) (by decide) hn5
  clear hn5
  refine WaveRow_spec (most := 300) hrd hb (by decide) (by omega) fun p l c m H1 hsl hl hml hm f1 => ?_
  refine WS.made (hd.old f1) hsl.rd (by omega) (by omega) hm fun g F H2 w2 => joinW_thru (joinW_thru (brW_neg (by decide) (brW_false rfl ?_)))
  rw [wrap_len1 (by omega)]
  refine ⟨by omega, by omega, letV_mk fun x13 hx13 => letV_mk fun y14 hy14 => ?_⟩
  obtain ⟨x0, hx0, ex0⟩ := modU xa (N := l + 1) (by omega) (by omega)
  obtain ⟨y0, hy0, ey0⟩ := modU xb (N := l + 1) (by omega) (by omega)
  rw [ex0] at hx13
  rw [ey0] at hy14
  subst hx13 hy14
  clear ex0 ey0
  refine joinW_mk (fun (q : Int × Int × Unit) H' => H2 = H' ∧ ∃ x y : Nat, q.1 = (x : Int) ∧ q.2.1 = (y : Int) ∧ x ≤ y ∧ y ≤ l) ?_ ?_
  · exact brW_dec (fun h => ⟨rfl, y0, x0, rfl, rfl, by omega, by omega⟩) (fun h => ⟨rfl, x0, y0, rfl, rfl, by omega, by omega⟩)
  clear hx0 hy0
  rintro ⟨x13, y14, _⟩ _ ⟨rfl, x, y, hx, hy, hxy, hyl⟩
  simp only at hx hy
  subst hx hy
  dsimp only
  refine joinW_mk (fun (q : Int × Unit) H' => q.1 = (y : Int) - (x : Int) ∧ WS H1 H' g m sn F) ?_ ?_
  · refine loopW_mk (fun k (q : Int × Int × Unit) H' => ∃ s : Nat, s ≤ sn ∧ k = sn - s ∧ q.1 = (below m y s : Int) - (below m x s : Int) ∧ q.2.1 = (s : Int) ∧ WS H1 H' g m sn F) sn ⟨0, by omega, rfl, by rw [below_zero, below_zero]; rfl, rfl, w2⟩ ?_
    rintro k ⟨sum, s', _⟩ H7 ⟨s, hs', rfl, hsum, hss, w⟩
    simp only at hsum hss
    subst hsum hss
    dsimp only
    refine brW_dec (fun hlt => ?_) (fun hge => ?_)
    · have m1 := cntZ_mono m hxy (s : Int)
      have m2 := cntZ_mono m hyl (s : Int)
      have m3 := cntZ_mono m (Nat.zero_le x) (s : Int)
      have z0 := cntZ_zero m (s : Int)
      have hall := cntZ_le m l (s : Int)
      have b1 := below_le m y s
      have b2 := below_le m x s
      have b1' := below_succ m y s
      have b2' := below_succ m x s
      have b3 := below_le m y (s + 1)
      have b4 := below_mono m hxy s
      refine joinW_mk (fun (q : Int × Unit) H' => q.1 = (below m y (s + 1) : Int) - (below m x (s + 1) : Int) ∧ WS H1 H' g m sn F) ?_ ?_
      · refine w.count _ _ _ fun H9 w9 => ?_
        rw [Int.toNat_natCast, Int.toNat_natCast]
        refine joinW_mk (fun _ H' => WS H1 H' g m sn F) ?_ ?_
        · refine joinW_thru (brW_neg (by omega) ?_)
          refine w9.count _ _ _ fun H12 w12 => ?_
          refine w12.count _ _ _ fun H13 w13 => ?_
          refine w13.rank _ _ fun H14 w14 => brW_neg (fun h => h ?_) w14
          rw [Int.toNat_natCast, Int.toNat_natCast, Int.toNat_natCast]
          have e0 : cntZ m (0 : Int).toNat (s : Int) = 0 := z0
          rw [e0, wrap_i64 (n := max ((cntZ m x (s : Int) : Int) - ((0 : Nat) : Int)) 0 + max ((cntZ m y (s : Int) : Int) - (cntZ m x (s : Int) : Int)) 0) (by omega) (by omega), wrap_i64 (by omega) (by omega)]
          omega
        · intro _ H10 w10
          refine letV_mk fun sum' hsum' => ⟨?_, w10⟩
          show sum' = _
          rw [hsum', wrap_i64 (by omega) (by omega)]
          omega
      · rintro ⟨q, _⟩ H8 ⟨hq, w8⟩
        simp only at hq
        subst hq
        refine letV_mk fun s16 hs16 => ⟨sn - (s + 1), by omega, s + 1, by omega, rfl, rfl, ?_, w8⟩
        show s16 = _
        rw [hs16, wrap_i64 (by omega) (by omega)]; rfl
    · have : s = sn := by omega
      subst this
      refine ⟨?_, w⟩
      show (below m y s : Int) - (below m x s : Int) = _
      rw [below_all hm (by omega), below_all hm (by omega)]
  · rintro ⟨q, _⟩ H6 ⟨hq, w6⟩
    simp only at hq
    subst hq
    dsimp only
    refine joinW_mk (fun _ H' => WS H1 H' g m sn F) ?_ ?_
    · refine loopW_mk (fun k (q : Int × Unit) H' => ∃ i : Nat, x ≤ i ∧ k = l + 1 - i ∧ q.1 = (i : Int) ∧ WS H1 H' g m sn F) (l + 1 - x) ⟨x, Nat.le_refl _, rfl, rfl, w6⟩ ?_
      rintro k ⟨i', _⟩ H16 ⟨i, hxi, rfl, hi, w⟩
      simp only at hi
      subst hi
      dsimp only
      refine brW_dec (fun hlt => ?_) (fun _ => w)
      have hil : i < m.length := by omega
      obtain ⟨a1, ha1, hc1⟩ := rd_nat (hsl.rd.old w.fr) hil
      refine ⟨a1, ha1, by omega, by omega, _, by rw [Int.toNat_natCast]; exact hc1, a1, ha1, by omega, by omega, _, by rw [Int.toNat_natCast]; exact hc1, ?_⟩
      refine w.count _ _ _ fun H17 w17 => ?_
      obtain ⟨a2, ha2, hc2⟩ := rd_nat (hsl.rd.old w17.fr) hil
      have : a2 = a1 := by rw [ha1] at ha2; exact (Option.some.inj ha2).symm
      subst this
      refine ⟨⟨_, by rw [Int.toNat_natCast]; exact hc2, rfl⟩, ?_⟩
      rw [Int.toNat_natCast, Int.toNat_natCast]
      have m1 := cntZ_mono m hxi (m[i] : Int)
      refine w17.nth _ _ _ _ fun z H18 hz w18 => ?_
      obtain rfl : z = (i : Int) := hz.unique (.inl ⟨i, hil, rfl, rfl, by omega, by omega, by rw [Int.toNat_natCast]; omega⟩)
      refine brW_neg (fun h => h rfl) ⟨by decide, letV_mk fun k18 hk18 => ?_⟩
      have hdv : Int.tdiv ((y - x : Nat) : Int) 20 = (((y - x) / 20 : Nat) : Int) := rfl
      have hdl : (y - x) / 20 ≤ y - x := Nat.div_le_self _ _
      rw [wrap_i64 (n := (y : Int) - (x : Int)) (by omega) (by omega), show (y : Int) - (x : Int) = ((y - x : Nat) : Int) by omega, hdv, wrap_i64 (n := (i : Int) + 1) (by omega) (by omega), wrap_i64 (n := (((y - x) / 20 : Nat) : Int)) (by omega) (by omega), wrap_i64 (by omega) (by omega)] at hk18
      refine ⟨l + 1 - (i + 1 + (y - x) / 20), by omega, i + 1 + (y - x) / 20, by omega, rfl, ?_, w18⟩
      show k18 = _
      omega
    · intro _ H15 w15
      refine WaveTold_spec (w15.deb.old w15.fr) fun H19 f19 => brW_true rfl ⟨?_, f1.trans0 (w15.old f19).fr⟩
      rw [wrap_i64 (by omega) (by omega)]
      exact decide_eq_true rfl
theorem WaveOne_fn (H : Heap) (hd : Deb H) (xn : Int) (hxn : (Lit.int .i64 xn).wf = true) (sg : Int) (hsg : (Lit.int .i64 sg).wf = true) (xs : Int) (hxs : (Lit.int .i64 xs).wf = true) :
    brackenlaw6_WaveOne.C xn sg xs H fun b H' => b = true ∧ Fr noF H H' := by
  apply brackenlaw6_WaveOne.calls
  unfold brackenlaw6_WaveOne.W
  refine ⟨by decide, by decide, letV_mk fun k7 hk7 => letV_mk fun m8 hm8 => ?_⟩
  obtain ⟨k, hk, ek⟩ := modU xn (N := 301) (by decide) (by decide)
  obtain rfl : k7 = (k : Int) := hk7.trans ek
  obtain ⟨sn, hs, rfl⟩ := modU1 sg (N := 200) (by decide) (by decide) hm8
  clear hk7 hm8 ek
  rw [wrap_natlt (by omega)]
  refine ⟨by omega, letV_mk fun c9 hc9 => ?_⟩
  obtain ⟨c, hc, ec⟩ := modU xs (N := sn) (by omega) (by omega)
  rw [ec] at hc9
  subst hc9
  refine ⟨by omega, by omega, by omega, ?_⟩
  rw [Int.toNat_natCast]
  refine letV_mk fun H1 h1 => ?_
  have f1 : Fr noF H H1 := by rw [h1]; exact Fr.new _ _ _
  have hs1 : Sl H1 ty_int ((List.replicate 0 c ++ List.replicate (k - 0) 0).map natV) (some ⟨Array.size H, 0, none⟩) k k := by
    rw [h1, List.replicate_zero, List.nil_append, List.map_replicate]
    exact Sl.made H ty_int (z := .int .i64 0) rfl k
  clear h1
  refine joinW_mk (fun _ H' => Sl H' ty_int ((List.replicate k c).map natV) (some ⟨Array.size H, 0, none⟩) k k ∧ Fr noF H H') ?_ ?_
  · refine loopW_mk (fun n (q : Int × Unit) H' => ∃ i : Nat, i ≤ k ∧ n = k - i ∧ q.1 = (i : Int) ∧ Sl H' ty_int ((List.replicate i c ++ List.replicate (k - i) 0).map natV) (some ⟨Array.size H, 0, none⟩) k k ∧ Fr noF H H') k ⟨0, by omega, rfl, rfl, hs1, f1⟩ ?_
    rintro n ⟨x, _⟩ H3 ⟨i, hi, rfl, hx, hs3, f3⟩
    simp only at hx
    subst hx
    dsimp only
    refine brW_dec (fun hlt => ?_) (fun hge => ?_)
    · obtain ⟨a2, ha2, hex, hfz, hs4, f4⟩ := hs3.store (i := i) (by omega) (natV c)
      cases ha2
      rw [Int.toNat_natCast]
      refine ⟨_, rfl, by omega, by omega, hex, hfz, letV_mk fun H4 h4 => letV_mk fun i11 hi11 => ?_⟩
      rw [← h4, rep_set (by omega)] at hs4
      rw [← h4] at f4
      refine ⟨k - (i + 1), by omega, i + 1, by omega, rfl, ?_, hs4, f3.trans f4 fun j hj => .inr (by obtain ⟨a, ha, rfl⟩ := hj; cases ha; exact Nat.le_refl _)⟩
      show i11 = _
      rw [hi11, wrap_i64 (by omega) (by omega)]; rfl
    · have : i = k := by omega
      subst this
      rw [Nat.sub_self, List.replicate_zero, List.append_nil] at hs3
      exact ⟨hs3, f3⟩
  rintro _ H2 ⟨hsl, f2⟩
  have hlen : (List.replicate k c).length = k := List.length_replicate
  have hv : ∀ x ∈ List.replicate k c, x < sn := fun x hx => by have := List.eq_of_mem_replicate hx; omega
  refine WS.made (hd.old f2) hsl.rd (by omega) (by omega) hv fun g F H5 w5 => joinW_thru (joinW_thru (brW_neg (by decide) (brW_false rfl ?_)))
  have z0 : cntZ (List.replicate k c) (0 : Int).toNat (c : Int) = 0 := cntZ_zero _ _
  refine joinW_mk (fun _ H' => WS H2 H' g (List.replicate k c) sn F) ?_ ?_
  · refine loopW_mk (fun n (q : Int × Unit) H' => ∃ i : Nat, n = k + 1 - i ∧ q.1 = (i : Int) ∧ WS H2 H' g (List.replicate k c) sn F) (k + 1) ⟨0, rfl, rfl, w5⟩ ?_
    rintro n ⟨x, _⟩ H9 ⟨i, rfl, hx, w⟩
    simp only at hx
    subst hx
    dsimp only
    refine brW_dec (fun hlt => ?_) (fun _ => w)
    have ci := cntZ_rep k c i
    have hil : i < (List.replicate k c).length := by omega
    have hget : ((List.replicate k c)[i] : Int) = (c : Int) := by rw [List.getElem_replicate]
    refine joinW_mk (fun _ H' => WS H2 H' g (List.replicate k c) sn F) ?_ ?_
    · refine joinW_thru ?_
      refine w.rank _ _ fun H12 w12 => ?_
      rw [Int.toNat_natCast]
      refine brW_neg (by omega) ?_
      refine w12.select _ _ (by omega) fun x H13 hx w13 => ?_
      obtain rfl : x = (i : Int) := hx.unique (.inl ⟨i, hil, rfl, hget, by omega, by omega, by omega⟩)
      refine brW_neg (fun h => h rfl) ?_
      refine w13.nth _ _ _ _ fun x H14 hx w14 => ?_
      obtain rfl : x = (i : Int) := hx.unique (.inl ⟨i, hil, rfl, hget, by omega, by omega, by rw [Int.toNat_natCast]; omega⟩)
      refine brW_neg (fun h => h rfl) ?_
      refine w14.count _ _ _ fun H15 w15 => brW_neg (fun h => h ?_) w15
      rw [Int.toNat_natCast, z0]
      omega
    · intro _ H10 w10
      refine ⟨by decide, letV_mk fun i14 hi14 => ?_⟩
      have hdv : Int.tdiv (k : Int) 20 = ((k / 20 : Nat) : Int) := rfl
      have hdl : k / 20 ≤ k := Nat.div_le_self _ _
      rw [hdv, wrap_i64 (n := (i : Int) + 1) (by omega) (by omega), wrap_i64 (n := ((k / 20 : Nat) : Int)) (by omega) (by omega), wrap_i64 (by omega) (by omega)] at hi14
      refine ⟨k + 1 - (i + 1 + k / 20), by omega, i + 1 + k / 20, rfl, ?_, w10⟩
      show i14 = _
      omega
  · intro _ H8 w8
    refine WaveTold_spec (w8.deb.old w8.fr) fun H16 f16 => brW_true rfl ?_
    have w16 := w8.old f16
    have ck := cntZ_rep k c k
    refine w16.rank _ _ fun H17 w17 => ?_
    rw [Int.toNat_natCast]
    refine brW_pos (by omega) ?_
    refine w17.select _ _ (by omega) fun x H18 hx w18 => ?_
    obtain rfl : x = -1 := hx.unique (.sel (.inr ⟨rfl, .inr (by rw [hlen, ck]; omega)⟩))
    refine brW_pos rfl (brW_dec (fun _ => ⟨rfl, f2.trans0 w18.fr⟩) (fun h1 => ?_))
    refine WB_Size_spec w18.wb ⟨?_, f2.trans0 w18.fr⟩
    have : sn = 1 := by omega
    subst this
    have : nRows 1 = 0 := rfl
    rw [this, Nat.zero_mul]
    rfl
theorem WaveAsks_fn (H : Heap) (hd : Deb H) (a : Option Addr) (len cap : Nat) (zs : List Int) (hrd : Rd H (zs.map (Value.int .i64)) a len) (hw : ∀ z ∈ zs, (Lit.int .i64 z).wf = true) (hb : len ≤ 9223372036854775807) (sg : Int) (hsg : (Lit.int .i64 sg).wf = true) (xk : Int) (hxk : (Lit.int .i64 xk).wf = true) (xs : Int) (hxs : (Lit.int .i64 xs).wf = true)
    (xlo : Int) (hxlo : (Lit.int .i64 xlo).wf = true) (xhi : Int) (hxhi : (Lit.int .i64 xhi).wf = true) : brackenlaw6_WaveAsks.C a len cap sg xk xs xlo xhi H fun b H' => b = true ∧ Fr noF H H' := by
  apply brackenlaw6_WaveAsks.calls
  unfold brackenlaw6_WaveAsks.W
  refine ⟨by decide, letV_mk fun n5 hn5 => ?_⟩
  obtain ⟨sn, hs, rfl⟩ := modU1 sg (N := 300) (by decide) (by decide) hn5
  clear hn5
  refine WaveRow_spec (most := 400) hrd hb (by decide) (by omega) fun p l c m H1 hsl hl hml hm f1 => ?_
  refine WS.made (hd.old f1) hsl.rd (by omega) (by omega) hm fun g F H2 w2 => joinW_thru (joinW_thru (brW_neg (by decide) (brW_false rfl ?_)))
  refine WB_Len_spec w2.wb (brW_neg (by omega) ?_)
  refine WB_Size_spec w2.wb ?_
  refine refWaveSize_spec (by omega) (by omega) ?_
  rw [hml]
  refine brW_neg (fun h => h rfl) ?_
  have hrng : ∀ z : Int, (Lit.int .i64 z).wf = true → -9223372036854775808 ≤ z ∧ z ≤ 9223372036854775807 := by
    intro z hz
    simp [Lit.wf, IntKind.min, IntKind.max, IntKind.signed, IntKind.bits] at hz
    omega
  refine joinW_mk (fun _ H' => WS H1 H' g m sn F) ?_ ?_
  · refine loopW_mk (fun n (q : Int × Int × Int × Int × Unit) H' => ∃ t : Nat, n = 2 - t ∧ t ≤ 2 ∧ q.2.2.2.1 = (t : Int) ∧ (-9223372036854775808 ≤ q.1 ∧ q.1 ≤ 9223372036854775807) ∧ WS H1 H' g m sn F) 2 ⟨0, rfl, by omega, rfl, hrng _ hxk, w2⟩ ?_
    rintro n ⟨k, s, lo, t', _⟩ H9 ⟨t, rfl, ht, htt, hk, w⟩
    simp only at htt hk
    subst htt
    dsimp only
    refine brW_dec (fun hlt => ?_) (fun _ => w)
    refine joinW_mk (fun (q : Int × Int × Int × Unit) H' => (-9223372036854775808 ≤ q.1 ∧ q.1 ≤ 9223372036854775807) ∧ WS H1 H' g m sn F) ?_ ?_
    · refine w.get k fun x e H11 he w11 => ?_
      refine joinW_mk (fun _ H' => WS H1 H' g m sn F) ?_ ?_
      · refine joinW_mk (fun q H' => H11 = H' ∧ q.1 = decide (0 ≤ k ∧ k < (l : Int))) ?_ ?_
        · refine brW_dec (fun h => ⟨rfl, ?_⟩) (fun h => ⟨rfl, ?_⟩)
          · show decide (k < (l : Int)) = _
            simp [h]
          · show false = _
            simp [h]
        rintro ⟨q, _⟩ _ ⟨rfl, hq⟩
        simp only at hq
        subst hq
        dsimp only
        refine joinW_thru ?_
        rcases he with ⟨i, hi, e1, rfl, rfl⟩ | ⟨h, rfl, rfl⟩
        · subst e1
          have hin : decide (0 ≤ (i : Int) ∧ (i : Int) < (l : Int)) = true := decide_eq_true ⟨by omega, by omega⟩
          rw [hin]
          obtain ⟨a1, ha1, hc1⟩ := rd_nat (hsl.rd.old w11.fr) hi
          refine brW_neg (by decide) (brW_true rfl ⟨a1, ha1, by omega, by omega, _, by rw [Int.toNat_natCast]; exact hc1, brW_neg (fun h => h rfl) (brW_false rfl (w11.steps (brW_false rfl w11)))⟩)
        · have hin : decide (0 ≤ k ∧ k < (l : Int)) = false := decide_eq_false (by omega)
          rw [hin]
          refine brW_neg (by decide) (brW_false rfl (brW_true rfl (brW_neg (by decide) (brW_neg (by decide) (w11.steps (brW_false rfl w11))))))
      · intro _ H12 w12
        refine joinW_mk (fun q H' => H12 = H' ∧ q.1 = decide (0 ≤ s ∧ s < (sn : Int))) ?_ ?_
        · refine brW_dec (fun h => ⟨rfl, ?_⟩) (fun h => ⟨rfl, ?_⟩)
          · show decide (s < (sn : Int)) = _
            simp [h]
          · show false = _
            simp [h]
        rintro ⟨q, _⟩ _ ⟨rfl, hq⟩
        simp only at hq
        subst hq
        dsimp only
        refine joinW_mk (fun q H' => H12 = H' ∧ q.1 = (cntZ m k.toNat s : Int)) ?_ ?_
        · refine brW_dec (fun h => ?_) (fun h => ⟨rfl, ?_⟩)
          · refine refCount_spec (hsl.rd.old w12.fr) (by omega) 0 k s ⟨rfl, ?_⟩
            have z0 : cntZ m (0 : Int).toNat s = 0 := cntZ_zero m s
            show max ((cntZ m k.toNat s : Int) - (cntZ m (0 : Int).toNat s : Int)) 0 = _
            rw [z0]
            omega
          · show (0 : Int) = _
            rw [cntZ_out hm (by omega)]
            rfl
        rintro ⟨q, _⟩ _ ⟨rfl, hq⟩
        simp only at hq
        subst hq
        dsimp only
        refine joinW_mk (fun _ H' => WS H1 H' g m sn F) ?_ ?_
        · refine joinW_thru ?_
          refine w12.rank _ _ fun H24 w24 => brW_neg (fun h => h rfl) (w24.steps (brW_false rfl ?_))
          refine w24.select _ _ hk fun x H26 hx w26 => ?_
          refine refNth_spec (hsl.rd.old w26.fr) (by omega) _ _ _ _ fun y hy => ?_
          rw [hml] at hx
          obtain rfl := hx.unique hy
          refine brW_neg (fun h => h rfl) (w26.steps (brW_false rfl ?_))
          refine w26.count _ _ _ fun H29 w29 => ?_
          refine refCount_spec (hsl.rd.old w29.fr) (by omega) _ _ _ (brW_neg (fun h => h rfl) (w29.steps (brW_false rfl ?_)))
          refine w29.nth _ _ _ _ fun x H32 hx w32 => ?_
          refine refNth_spec (hsl.rd.old w32.fr) (by omega) _ _ _ _ fun y hy => ?_
          obtain rfl := hx.unique hy
          exact brW_neg (fun h => h rfl) (w32.steps (brW_false rfl w32))
        · intro _ H22 w22
          rw [wrap_len1 (by omega)]
          refine ⟨by omega, by rw [wrap_natlt (by omega)]; omega, by omega, letV_mk fun k2 hk2 => letV_mk fun s3 hs3 => letV_mk fun lo4 hlo4 => ⟨?_, w22⟩⟩
          show -9223372036854775808 ≤ k2 ∧ k2 ≤ 9223372036854775807
          rw [hk2]
          exact wrap_i64_range _
    · rintro ⟨k2, s2, lo2, _⟩ H10 ⟨hk2, w10⟩
      refine letV_mk fun t2 ht2 => ⟨2 - (t + 1), by omega, t + 1, rfl, by omega, ?_, hk2, w10⟩
      show t2 = _
      rw [ht2, wrap_i64 (by omega) (by omega)]; rfl
  · intro _ H8 w8
    exact WaveTold_spec (w8.deb.old w8.fr) fun H35 f35 => ⟨rfl, f1.trans0 (w8.old f35).fr⟩
end Go.Proofs.YtkjgbophokcdbaaDoor
