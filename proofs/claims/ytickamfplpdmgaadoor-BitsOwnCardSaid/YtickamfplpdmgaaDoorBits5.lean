import Derived.Test.YtickamfplpdmgaaDoorBits4
/-! The laws of package bits. -/
namespace Go.Proofs.YtickamfplpdmgaaDoor
open Go.Ev
set_option linter.unusedVariables false

theorem set_bool (ms : List Bool) (i : Nat) (v : Bool) : (ms.map Value.bool).set i (Value.bool v) = (ms.set i v).map Value.bool := by rw [List.map_set]
theorem BitsAsks_fn (H : Heap) (hd : Deb H) (a : Option Addr) (len cap : Nat) (zs : List Int) (hrd : Rd H (zs.map (Value.int .i64)) a len) (hw : ∀ z ∈ zs, (Lit.int .i64 z).wf = true) (hb : len ≤ 9223372036854775807) (k : Int) (hk : (Lit.int .i64 k).wf = true) (bit : Bool) :
    brackenlaw3_BitsAsks.C a len cap k bit H fun b H' => b = true ∧ Fr noF H H' := by
  apply brackenlaw3_BitsAsks.calls
  unfold brackenlaw3_BitsAsks.W
  refine Row_spec (most := 1500) hrd hb (by decide) fun p l c m H1 hsl hl hbl f1 => ?_
  have hml : m.length = l := by have := hsl.1; simpa using this
  refine Bits_New_spec hsl.rd (by omega) fun g H2 t f2 => joinW_thru (joinW_thru ?_)
  refine brW_neg (by decide) (brW_false rfl ?_)
  have fr2 := f1.trans0 f2
  have hsl2 := hsl.keep f2 fun _ _ h => h
  -- what stands behind
  have tail : ∀ H8, Fr noF H2 H8 → bits_Bits_Rank.C (some ⟨g, 0, none⟩) k bit H8 fun x82 H9 =>
      brackenref1_Rank.C p l c k bit H9 fun x86 H10 =>
      brW (decide (x82 = x86)) (bits_Bits_Select.C (some ⟨g, 0, none⟩) k bit H10 fun x93 H11 =>
      brackenref1_Select.C p l c k bit H11 fun x97 H12 =>
      brW (decide (x93 = x97)) (bits_Bits_Size.C (some ⟨g, 0, none⟩) H12 fun x102 H13 =>
      brackenref1_BitsSize.C (l : Int) H13 fun x105 H14 => decide (x102 = x105) = true ∧ Fr noF H H14) (false = true ∧ Fr noF H H12)) (false = true ∧ Fr noF H H10) := by
    intro H8 f8
    refine Bits_Rank_spec (t.old f8) k bit fun H9 f9 => ?_
    have f9 := f8.trans0 f9
    refine refRank_spec ((hsl2.keep f9 fun _ _ h => h).rd) (by omega) k bit (brW_pos rfl ?_)
    have fin : ∀ H12, Fr noF H2 H12 → bits_Bits_Size.C (some ⟨g, 0, none⟩) H12 fun x102 H13 => brackenref1_BitsSize.C (l : Int) H13 fun x105 H14 => decide (x102 = x105) = true ∧ Fr noF H H14 := by
      intro H12 f12
      refine Bits_Size_spec (t.old f12) ?_
      rw [hml]
      exact refBitsSize_spec (by omega) ⟨decide_eq_true rfl, fr2.trans0 f12⟩
    refine Bits_Select_spec (t.old f9) (hd.old (fr2.trans0 f9)) k bit (fun q hq H11 hb hr f11 => ?_) (fun H11 h f11 => ?_)
    · have f11 := f9.trans0 f11
      refine refSelect_spec ((hsl2.keep f11 fun _ _ h => h).rd) (by omega) k bit (fun q' hq' hb' hr' => ?_) (fun h => ?_)
      · have := rk_unique hq hq' hb hb' (by omega)
        exact brW_pos (by rw [this]) (fin H11 f11)
      · exfalso
        have := rk_lt_count hq hb
        omega
    · have f11 := f9.trans0 f11
      refine refSelect_spec ((hsl2.keep f11 fun _ _ h => h).rd) (by omega) k bit (fun q' hq' hb' hr' => ?_) (fun h => brW_pos rfl (fin H11 f11))
      exfalso
      have := rk_lt_count hq' hb'
      omega
  refine Bits_Get_spec t k (fun j hj H5 he f5 => ?_) (fun hout => ?_)
  · refine joinW_thru ?_
    refine brW_pos (by omega) ?_
    refine told_spec (hd.old (fr2.trans0 f5)) fun H7 f7 => brW_true rfl ?_
    have f7 := f5.trans0 f7
    refine Bits_Len_spec (t.old f7) (brW_pos (by rw [hml]) (brW_pos ?_ (brW_pos rfl ?_)))
    · have : k < (l : Int) := by omega
      simp [this]
    · refine brW_false (by have : k < (l : Int) := by omega
                           simp [this]) ?_
      obtain ⟨h2, ad, hp, hc⟩ := rd_bool (hsl2.keep f7 fun _ _ h => h).rd (i := j) (by omega)
      subst he
      exact ⟨ad, hp, by omega, by omega, _, by rw [Int.toNat_natCast]; exact hc, brW_pos rfl (tail H7 f7)⟩
  · have hin : ∀ (A B : Bool → Prop), (k < 0 → B false) → (¬ k < 0 → A (decide (k < (l : Int)))) → True := fun _ _ _ _ => trivial
    refine joinW_mk (fun q H' => q.1 = false ∧ H' = H2) ?_ ?_
    · refine brW_dec (fun h0 => ⟨decide_eq_false (by omega), rfl⟩) (fun h0 => ⟨rfl, rfl⟩)
    · rintro ⟨q, _⟩ H6 ⟨hq, rfl⟩
      simp only at hq
      subst hq
      dsimp only
      refine told_spec (hd.old fr2) fun H7 f7 => brW_true rfl ?_
      refine Bits_Len_spec (t.old f7) (brW_pos (by rw [hml]) (brW_pos (by decide) (brW_neg (by decide) (brW_pos rfl (brW_true rfl (brW_true rfl (tail H7 f7)))))))
theorem BitsSizes_fn (H : Heap) (hd : Deb H) (a : Int) (ha : (Lit.int .i64 a).wf = true) (b : Int) (hb : (Lit.int .i64 b).wf = true) : brackenlaw3_BitsSizes.C a b H fun b H' => b = true ∧ Fr noF H H' := by
  apply brackenlaw3_BitsSizes.calls
  unfold brackenlaw3_BitsSizes.W
  have key : ∀ n : Int, ∃ k : Nat, k < 4001 ∧ IntKind.i64.wrap (Int.tmod (IntKind.u64.wrap n) 4001) = (k : Int) := by
    intro n
    have hr := wrap_u64_range n
    have h1 : 0 ≤ Int.tmod (IntKind.u64.wrap n) 4001 ∧ Int.tmod (IntKind.u64.wrap n) 4001 < 4001 := by
      rw [Int.tmod_eq_emod_of_nonneg hr.1]
      omega
    refine ⟨(Int.tmod (IntKind.u64.wrap n) 4001).toNat, by omega, ?_⟩
    rw [wrap_i64 (by omega) (by omega)]
    omega
  obtain ⟨x, hx, ex⟩ := key a
  obtain ⟨y, hy, ey⟩ := key b
  rw [ex, ey]
  refine ⟨by decide, by decide, letV_mk fun x5 h5 => letV_mk fun y6 h6 => ?_⟩
  subst h5 h6
  refine joinW_mk (fun q H' => ∃ x y : Nat, q.1 = (x : Int) ∧ q.2.1 = (y : Int) ∧ x ≤ y ∧ y < 4001 ∧ H' = H) ?_ ?_
  · exact brW_dec (fun h => ⟨y, x, rfl, rfl, by omega, by omega, rfl⟩) (fun h => ⟨x, y, rfl, rfl, by omega, by omega, rfl⟩)
  clear hx hy ex ey key
  rintro ⟨x5, y6, _⟩ H1 ⟨x, y, h5, h6, hxy, hy, rfl⟩
  simp only at h5 h6
  subst h5 h6
  dsimp only
  refine ⟨by omega, by omega, by omega, letV_mk fun H2 h2 => ?_⟩
  rw [Int.toNat_natCast] at h2 ⊢
  have f2 : Fr noF H1 H2 := by rw [h2]; exact Fr.new _ _ _
  have hs2 : Sl H2 ty_bool ((List.replicate x false).map Value.bool) (some ⟨Array.size H1, 0, none⟩) x x := by
    rw [h2, List.map_replicate]
    exact Sl.made H1 ty_bool (z := .bool false) rfl x
  clear h2
  refine Bits_New_spec hs2.rd (by omega) fun g H3 t f3 => ?_
  refine ⟨by omega, by omega, by omega, letV_mk fun H4 h4 => ?_⟩
  rw [Int.toNat_natCast] at h4 ⊢
  have f4 : Fr noF H3 H4 := by rw [h4]; exact Fr.new _ _ _
  have hs4 : Sl H4 ty_bool ((List.replicate y false).map Value.bool) (some ⟨Array.size H3, 0, none⟩) y y := by
    rw [h4, List.map_replicate]
    exact Sl.made H3 ty_bool (z := .bool false) rfl y
  clear h4
  refine Bits_New_spec hs4.rd (by omega) fun g' H5 t' f5 => joinW_thru (joinW_thru ?_)
  refine brW_neg (by decide) (brW_neg (by decide) (brW_false rfl (brW_false rfl ?_)))
  have fr := ((f2.trans0 f3).trans0 f4).trans0 f5
  have t5 := (t.old f4).old f5
  refine told_spec (hd.old fr) fun H8 f8 => brW_true rfl ?_
  have t8 := t5.old f8
  have t8' := t'.old f8
  refine Bits_Size_spec t8 (Bits_Size_spec t8' ?_)
  rw [List.length_replicate, List.length_replicate]
  unfold sizeB
  refine brW_pos (by omega) ?_
  refine Bits_Size_spec t8' ?_
  rw [List.length_replicate]
  unfold sizeB
  refine brW_pos (by omega) ?_
  refine Bits_Size_spec t8' ⟨?_, fr.trans0 f8⟩
  rw [List.length_replicate]
  unfold sizeB
  refine decide_eq_true ?_
  rw [wrap_i64 (by omega) (by omega), wrap_i64 (n := 4 * (y : Int)) (by omega) (by omega), wrap_i64 (by omega) (by omega)]
  omega
theorem BitsOwn_fn (H : Heap) (hd : Deb H) (a : Option Addr) (len cap : Nat) (zs : List Int) (hrd : Rd H (zs.map (Value.int .i64)) a len) (hw : ∀ z ∈ zs, (Lit.int .i64 z).wf = true) (hb : len ≤ 9223372036854775807) (k : Int) (hk : (Lit.int .i64 k).wf = true) :
    brackenlaw3_BitsOwn.C a len cap k H fun b H' => b = true ∧ Fr noF H H' := by
  apply brackenlaw3_BitsOwn.calls
  unfold brackenlaw3_BitsOwn.W
  refine Row_spec (most := 300) hrd hb (by decide) fun p l c m H1 hsl hl hbl f1 => ?_
  have hml : m.length = l := by have := hsl.1; simpa using this
  refine brW_dec (fun h0 => told_spec (hd.old f1) fun H2 f2 => ⟨rfl, f1.trans0 f2⟩) (fun h0 => ?_)
  refine Bits_New_spec hsl.rd (by omega) fun g H3 t f3 => joinW_thru (joinW_thru ?_)
  refine brW_neg (by decide) (brW_false rfl ?_)
  have hs3 := hsl.keep f3 fun _ _ h => h
  have fr3 := f1.trans0 f3
  rw [wrap_u64 (n := (l : Int)) (by omega) (by omega)]
  refine ⟨by omega, letV_mk fun k8 hk8 => ?_⟩
  obtain ⟨q, hq, rfl⟩ : ∃ q : Nat, q < l ∧ k8 = (q : Int) := by
    have hr := wrap_u64_range k
    have h1 : 0 ≤ Int.tmod (IntKind.u64.wrap k) (l : Int) ∧ Int.tmod (IntKind.u64.wrap k) (l : Int) < l := by
      rw [Int.tmod_eq_emod_of_nonneg hr.1]
      exact ⟨Int.emod_nonneg _ (by omega), Int.emod_lt_of_pos _ (by omega)⟩
    rw [wrap_i64 (by omega) (by omega)] at hk8
    exact ⟨k8.toNat, by omega, by omega⟩
  clear hk8
  obtain ⟨hqm, ad, rfl, hc⟩ := rd_bool hs3.rd hq
  refine ⟨ad, rfl, by omega, by omega, _, by rw [Int.toNat_natCast]; exact hc, joinW_thru ?_⟩
  have hbl' : ∀ k, blkIs (some ad) k → Array.size H ≤ k ∧ k < Array.size H1 := fun k hk => ⟨hbl k hk, hsl.blk_lt hk⟩
  refine loopW_mk (fun s q H' => ∃ (i : Nat) (ms : List Bool), i ≤ l ∧ s = l - i ∧ q.1 = (i : Int) ∧ Sl H' ty_bool (ms.map Value.bool) (some ad) l c ∧ Bits H' g m (fun k => Array.size H1 ≤ k ∧ k < Array.size H3) ∧ Fr noF H H') l
    ⟨0, m, by omega, rfl, rfl, hs3, t, fr3⟩ ?_
  rintro s ⟨x, _⟩ H7 ⟨i, ms, hi, rfl, hx, hs7, t7, fr7⟩
  simp only at hx
  subst hx
  dsimp only
  refine brW_dec (fun hlt => ?_) (fun hge => ?_)
  · obtain ⟨h2, ad1, e1, hc1⟩ := rd_bool hs7.rd (i := i) (by omega)
    cases e1
    obtain ⟨ad2, e2, hc2, hz2, hs8, f8⟩ := hs7.store (i := i) (by omega) (.bool (!ms[i]))
    cases e2
    rw [set_bool] at hs8
    refine ⟨ad, rfl, by omega, by omega, _, by rw [Int.toNat_natCast]; exact hc1, ad, rfl, by omega, by omega, by rw [Int.toNat_natCast]; exact hc2, by rw [Int.toNat_natCast]; exact hz2, letV_mk fun H8 h8 => letV_mk fun i10 hi10 => ?_⟩
    rw [Int.toNat_natCast] at h8
    rw [← h8] at hs8 f8
    refine ⟨l - (i + 1), by omega, i + 1, _, by omega, rfl, ?_, hs8, t7.keep f8 fun k hk hb => by have := (hbl' k hb).2; omega, fr7.trans f8 fun k hk => .inr (hbl' k hk).1⟩
    show i10 = _
    rw [hi10, wrap_i64 (by omega) (by omega)]; rfl
  · refine Bits_Get_spec t7 q (fun j hj H9 he f9 => ?_) (fun h => by omega)
    have : j = q := by omega
    subst this
    have fr9 := fr7.trans0 f9
    exact told_spec (hd.old fr9) fun H10 f10 => brW_true rfl (brW_pos rfl ⟨decide_eq_true rfl, fr9.trans0 f10⟩)
theorem BitsPlaces_fn (H : Heap) (hd : Deb H) (a : Option Addr) (len cap : Nat) (zs : List Int) (hrd : Rd H (zs.map (Value.int .i64)) a len) (hw : ∀ z ∈ zs, (Lit.int .i64 z).wf = true) (hb : len ≤ 9223372036854775807) (k : Int) (hk : (Lit.int .i64 k).wf = true) :
    brackenlaw3_BitsPlaces.C a len cap k H fun b H' => b = true ∧ Fr noF H H' := by
  apply brackenlaw3_BitsPlaces.calls
  unfold brackenlaw3_BitsPlaces.W
  refine Row_spec (most := 1500) hrd hb (by decide) fun p l c m H1 hsl hl hbl f1 => ?_
  have hml : m.length = l := by have := hsl.1; simpa using this
  refine Bits_New_spec hsl.rd (by omega) fun g H2 t f2 => joinW_thru (joinW_thru ?_)
  refine brW_neg (by decide) (brW_false rfl ?_)
  have fr2 := f1.trans0 f2
  have hsl2 := hsl.keep f2 fun _ _ h => h
  refine joinW_thru ?_
  refine loopW_mk (fun s q H' => ∃ i : Nat, i ≤ 60 ∧ s = 60 - i ∧ q.1 = (i : Int) ∧ Fr noF H2 H') 60 ⟨0, by omega, rfl, rfl, Fr.refl _ _⟩ ?_
  rintro s ⟨x, _⟩ H6 ⟨i, hi, rfl, hx, f6⟩
  simp only at hx
  subst hx
  dsimp only
  have fin : bits_Bits_Rank.C (some ⟨g, 0, none⟩) (l : Int) true H6 fun x89 H15 =>
      brackenlaw3_told.C H15 fun x90 H16 =>
      brW x90 (bits_Bits_Select.C (some ⟨g, 0, none⟩) x89 true H16 fun x94 H17 =>
      brW (decide (x94 = (-1))) (bits_Bits_Select.C (some ⟨g, 0, none⟩) (IntKind.i64.wrap ((l : Int) - x89)) false H17 fun x103 H18 =>
      brW (decide (x103 = (-1))) (bits_Bits_Select.C (some ⟨g, 0, none⟩) (-1) true H18 fun x108 H19 => decide (x108 = (-1)) = true ∧ Fr noF H H19) (false = true ∧ Fr noF H H18)) (false = true ∧ Fr noF H H17)) (false = true ∧ Fr noF H H16) := by
    refine Bits_Rank_spec (t.old f6) _ true fun H15 f15 => ?_
    have f15 := f6.trans0 f15
    rw [Int.toNat_natCast]
    refine told_spec (hd.old (fr2.trans0 f15)) fun H16 f16 => brW_true rfl ?_
    have f16 := f15.trans0 f16
    have hall := rk_all m (k := l) (by omega) true
    have hboth := rk_both m l (by omega)
    rw [rk_all m (k := l) (by omega) false] at hboth
    refine Bits_Select_spec (t.old f16) (hd.old (fr2.trans0 f16)) _ true (fun q hq H17 hb hr f17 => ?_) (fun H17 _ f17 => brW_pos rfl ?_)
    · exfalso
      have := rk_lt_count hq hb
      omega
    have f17 := f16.trans0 f17
    rw [wrap_i64 (by omega) (by omega)]
    refine Bits_Select_spec (t.old f17) (hd.old (fr2.trans0 f17)) _ false (fun q hq H18 hb hr f18 => ?_) (fun H18 _ f18 => brW_pos rfl ?_)
    · exfalso
      have := rk_lt_count hq hb
      omega
    have f18 := f17.trans0 f18
    refine Bits_Select_spec (t.old f18) (hd.old (fr2.trans0 f18)) _ true (fun q hq H19 hb hr f19 => ?_) (fun H19 _ f19 => ⟨decide_eq_true rfl, (fr2.trans0 f18).trans0 f19⟩)
    exfalso
    omega
  refine joinW_mk (fun _ H' => H' = H6 ∧ (i : Int) < l ∧ i < 60) ?_ ?_
  · exact brW_dec (fun h1 => brW_dec (fun h2 => ⟨rfl, h1, by omega⟩) (fun _ => fin)) (fun _ => fin)
  rintro _ H7 ⟨rfl, hil, hi60⟩
  refine joinW_thru ⟨by decide, by omega, letV_mk fun k9 hk9 => ?_⟩
  obtain ⟨q, hq, rfl⟩ : ∃ q : Nat, q < l ∧ k9 = (q : Int) := by
    have hr := wrap_u64_range k
    have h1 : 0 ≤ Int.tmod (IntKind.u64.wrap k) 1500 ∧ Int.tmod (IntKind.u64.wrap k) 1500 < 1500 := by
      rw [Int.tmod_eq_emod_of_nonneg hr.1]
      omega
    generalize Int.tmod (IntKind.u64.wrap k) 1500 = r at h1 hk9
    rw [wrap_u64 (n := (i : Int)) (by omega) (by omega), wrap_u64 (n := (i : Int) * 23) (by omega) (by omega), wrap_u64 (by omega) (by omega), wrap_i64 (by omega) (by omega)] at hk9
    have h2 : 0 ≤ k9 ∧ k9 < l := by
      rw [hk9, Int.tmod_eq_emod_of_nonneg (by omega)]
      exact ⟨Int.emod_nonneg _ (by omega), Int.emod_lt_of_pos _ (by omega)⟩
    exact ⟨k9.toNat, by omega, by omega⟩
  clear hk9
  have rdq : ∀ {H' : Heap}, Fr noF H2 H' → ∃ (h2 : q < m.length) (a : Addr), p = some a ∧ hcell H' (a.add q) = some (.bool m[q]) := fun hf => rd_bool (hsl2.keep hf fun _ _ h => h).rd hq
  obtain ⟨hqm, ad, rfl, hc⟩ := rdq f6
  refine ⟨ad, rfl, by omega, by omega, _, by rw [Int.toNat_natCast]; exact hc, ?_⟩
  refine Bits_Rank_spec (t.old f6) _ _ fun H9 f9 => joinW_thru ?_
  have f9 := f6.trans0 f9
  rw [Int.toNat_natCast]
  obtain ⟨_, ad', e', hc9⟩ := rdq f9
  cases e'
  refine ⟨ad, rfl, by omega, by omega, _, by first | exact hc9 | (rw [Int.toNat_natCast]; exact hc9), ?_⟩
  refine Bits_Select_spec (t.old f9) (hd.old (fr2.trans0 f9)) _ _ (fun q' hq' H11 hb hr f11 => ?_) (fun H11 h _ => ?_)
  · have := rk_unique hqm hq' rfl hb (by omega)
    subst this
    have f11 := f9.trans0 f11
    refine brW_neg (fun h => h rfl) ?_
    obtain ⟨_, ad', e', hc11⟩ := rdq f11
    cases e'
    refine ⟨ad, rfl, by omega, by omega, _, by first | exact hc11 | (rw [Int.toNat_natCast]; exact hc11), ?_⟩
    rw [wrap_i64 (n := (q : Int) + 1) (by omega) (by omega), show (q : Int) + 1 = ((q + 1 : Nat) : Int) by omega]
    refine Bits_Rank_spec (t.old f11) _ _ fun H12 f12 => ?_
    have f12 := f11.trans0 f12
    have hle := rk_le m q m[q]
    rw [Int.toNat_natCast, rk_succ hqm, if_pos rfl, wrap_i64 (by omega) (by omega)]
    refine brW_neg (fun h => h (by omega)) ?_
    refine Bits_Rank_spec (t.old f12) _ _ fun H13 f13 => ?_
    have f13 := f12.trans0 f13
    refine Bits_Rank_spec (t.old f13) _ _ fun H14 f14 => ?_
    have f14 := f13.trans0 f14
    try rw [Int.toNat_natCast]
    have hboth := rk_both m q (by omega)
    have hl1 := rk_le m q true
    have hl2 := rk_le m q false
    refine brW_neg (fun h => h (by rw [wrap_i64 (by omega) (by omega)]; omega)) ?_
    refine letV_mk fun i8 hi8 => ⟨60 - (i + 1), by omega, i + 1, by omega, rfl, ?_, f14⟩
    show i8 = _
    rw [hi8, wrap_i64 (by omega) (by omega)]; rfl
  · exfalso
    have := rk_lt_count hqm (rfl : m[q] = m[q])
    omega
end Go.Proofs.YtickamfplpdmgaaDoor
