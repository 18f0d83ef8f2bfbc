import Derived.Test.YtlimijffmfbhpaaDoorOffs3
/-! Package offs: the laws of steps. -/
namespace Go.Proofs.YtlimijffmfbhpaaDoor
open Go.Ev
set_option linter.unusedVariables false

theorem step_rng (z : Int) : ∃ s : Nat, s ≤ 10000 ∧ IntKind.i64.wrap (Int.tmod (IntKind.u64.wrap z) 10001) = (s : Int) := by
  have hr := wrap_u64_range z
  have h1 : 0 ≤ Int.tmod (IntKind.u64.wrap z) 10001 ∧ Int.tmod (IntKind.u64.wrap z) 10001 < 10001 := by
    rw [Int.tmod_eq_emod_of_nonneg hr.1]
    omega
  refine ⟨(Int.tmod (IntKind.u64.wrap z) 10001).toNat, by omega, ?_⟩
  rw [wrap_i64 (by omega) (by omega)]
  omega
/-- What the steps come to. -/
structure Stepped (H H' : Heap) (i : Nat) (l : List Nat) (p : Option Addr) (n c : Nat) (at_ : Int) : Prop where
  sl : Sl H' ty_int (l.map i64V) p n c
  len : l.length = i
  at_ : at_ = (lastN l : Int)
  last : lastN l ≤ i * 10000
  rises : Rises l
  own : ∀ k, blkIs p k → Array.size H ≤ k
  fr : Fr noF H H'
theorem Stepped.zero (H : Heap) : Stepped H H 0 [] none 0 0 0 :=
  ⟨Sl.nil _ _, rfl, rfl, by decide, fun i j hi _ _ => absurd hi (by simp), (by rintro k ⟨a, ha, _⟩; cases ha), Fr.refl _ _⟩
theorem zs_of (l : List Nat) : (l.map Int.ofNat).map (Value.int .i64) = l.map i64V := by rw [List.map_map]; rfl
set_option maxRecDepth 20000 in
theorem OffsLow_fn (H : Heap) (hd : Deb H) (a : Option Addr) (len cap : Nat) (zs : List Int) (hrd : Rd H (zs.map (Value.int .i64)) a len) (hw : ∀ z ∈ zs, (Lit.int .i64 z).wf = true) (hb : len ≤ 9223372036854775807) :
    brackenlaw7_OffsLow.C a len cap H fun b H' => b = true ∧ Fr noF H H' := by
  apply brackenlaw7_OffsLow.calls
  unfold brackenlaw7_OffsLow.W
  refine joinW_mk (fun q H' => ∃ (i : Nat) (l : List Nat), i ≤ 150 ∧ Stepped H H' i l q.1.1 q.1.2.1 q.1.2.2 q.2.1) ?_ ?_
  · refine loopW_mk (fun s q H' => ∃ (i : Nat) (l : List Nat), i ≤ 150 ∧ s = 150 - i ∧ q.2.2.1 = (i : Int) ∧ Stepped H H' i l q.1.1 q.1.2.1 q.1.2.2 q.2.1) 150 ⟨0, [], by decide, rfl, rfl, Stepped.zero H⟩ ?_
    rintro s ⟨⟨lp, ll, lc⟩, at_, x, _⟩ H2 ⟨i, l, hi, rfl, hx, st⟩
    simp only at hx st
    subst hx
    dsimp only
    refine joinW_mk (fun _ H' => H' = H2 ∧ i < len ∧ i < 150) ?_ ?_
    · refine brW_dec (fun h1 => ?_) (fun _ => ⟨i, l, hi, st⟩)
      refine brW_dec (fun h2 => ?_) (fun _ => ?_)
      · exact ⟨rfl, by omega, by omega⟩
      · exact ⟨i, l, hi, st⟩
    rintro _ H3 ⟨rfl, h1, h2⟩
    obtain ⟨_, ad, rfl, hc⟩ := rdz (hrd.old st.fr) h1
    refine ⟨ad, rfl, by omega, by omega, _, by rw [Int.toNat_natCast]; exact hc, (fun h => by cases h), ?_⟩
    obtain ⟨sp, hsp, es⟩ := step_rng zs[i]
    have hlen := st.len
    have hll : ll = i := by have := st.sl.1; simp at this; omega
    have hla := st.last
    rw [es, st.at_, wrap_i64 (by omega) (by omega), show ((lastN l : Nat) : Int) + (sp : Int) = ((lastN l + sp : Nat) : Int) by omega]
    refine letV_mk fun at4 h4 => ?_
    subst h4
    refine app1 (t1 := ty_int) st.sl rfl ⟨by simp, by simp⟩ (by omega) (by decide) fun p' c' H5 sl5 f5 hb5 => ?_
    refine letV_mk fun i5 hi5 => ⟨150 - (i + 1), by omega, i + 1, l ++ [lastN l + sp], by omega, rfl, ?_, ?_, by simp [hlen], ?_, ?_, rises_snoc st.rises (by omega), ?_, st.fr.trans f5 fun k hk => .inr (st.own k hk)⟩
    · show i5 = _
      rw [hi5, wrap_i64 (by omega) (by omega)]; rfl
    · show Sl H5 ty_int ((l ++ [lastN l + sp]).map i64V) p' (ll + 1) c'
      rw [List.map_append]; exact sl5
    · show ((lastN l + sp : Nat) : Int) = _
      rw [lastN_snoc]
    · rw [lastN_snoc]; omega
    · intro k hk
      rcases hb5 k hk with h | h
      · exact st.own k h
      · exact Nat.le_trans st.fr.size h
  rintro ⟨⟨lp, ll, lc⟩, at_, _⟩ H1 ⟨i, l, hi, st⟩
  simp only at st
  dsimp only
  have hla := st.last
  have hlen := st.len
  have hll : ll = i := by have := st.sl.1; simp at this; omega
  subst hll
  have hlast : lastN l ≤ 8388608 := by omega
  refine Offs_New_spec (zs := l.map Int.ofNat) (by rw [zs_of]; exact st.sl.rd) (by omega) (fun l' _ hl' _ _ g H6 t f6 => ?_) (fun h => by rw [may_yes st.rises hlast] at h; cases h)
  have : l' = l := by have := nat_list hl'; rw [this, List.map_map]; have : Int.toNat ∘ Int.ofNat = id := by funext x; rfl
                      rw [this, List.map_id]
  subst this
  have fr6 := st.fr.trans0 f6
  refine joinW_thru (joinW_thru (brW_neg (by decide) (brW_false rfl ?_)))
  have hk := kOf_le hlast
  have hh := high_le l'
  refine brW_dec (fun h0 => ?_) (fun h0 => ?_)
  · have : l' = [] := List.eq_nil_of_length_eq_zero (by omega)
    refine told_spec (hd.old fr6) fun H9 f9 => brW_true rfl (Offs_Low_spec (t.old f9) ⟨?_, fr6.trans0 f9⟩)
    rw [this]
    decide
  · refine told_spec (hd.old fr6) fun H9 f9 => brW_true rfl ?_
    have t9 := t.old f9
    have fr9 := fr6.trans0 f9
    have hkk : kOf l' = lowK (lastN l') l'.length := by unfold kOf; rw [if_neg (by omega)]
    have hlt := high_lt (last := lastN l') (n := l'.length) (by omega)
    have hge := high_ge (last := lastN l') (n := l'.length) (by omega)
    rw [← hkk] at hlt hge
    have hsv : shrW .i64 at_ (kOf l' : Int) = ((lastN l' >>> kOf l' : Nat) : Int) := by rw [st.at_]; exact shr_i64 (by omega) _
    refine Offs_Low_spec t9 (brW_pos (by omega) ?_)
    refine Offs_Low_spec t9 ?_
    rw [wrap_natlt (by omega), hsv]
    generalize lastN l' >>> kOf l' = hi_ at hlt hge hsv ⊢
    refine ⟨by omega, ?_⟩
    rw [wrap_i64 (n := 2 * (ll : Int)) (by omega) (by omega)]
    refine brW_pos (by omega) ?_
    refine Offs_Low_spec t9 (brW_dec (fun _ => ⟨rfl, fr9⟩) (fun hne => ?_))
    refine Offs_Low_spec t9 ⟨by rw [wrap_natlt (by omega)]; omega, by decide, decide_eq_true ?_, fr9⟩
    have := hge (by omega)
    rw [wrap_natlt (by omega), hsv, show Int.tdiv (ll : Int) 2 = ((ll / 2 : Nat) : Int) from rfl, wrap_i64 (by omega) (by omega)]
    omega
set_option maxRecDepth 20000 in
theorem OffsRise_fn (H : Heap) (hd : Deb H) (a : Option Addr) (len cap : Nat) (zs : List Int) (hrd : Rd H (zs.map (Value.int .i64)) a len) (hw : ∀ z ∈ zs, (Lit.int .i64 z).wf = true) (hb : len ≤ 9223372036854775807) :
    brackenlaw7_OffsRise.C a len cap H fun b H' => b = true ∧ Fr noF H H' := by
  apply brackenlaw7_OffsRise.calls
  unfold brackenlaw7_OffsRise.W
  refine joinW_mk (fun q H' => ∃ (i : Nat) (l : List Nat) (at_ : Int), i ≤ 150 ∧ Stepped H H' i l q.1.1 q.1.2.1 q.1.2.2 at_) ?_ ?_
  · refine loopW_mk (fun s q H' => ∃ (i : Nat) (l : List Nat), i ≤ 150 ∧ s = 150 - i ∧ q.2.2.1 = (i : Int) ∧ Stepped H H' i l q.1.1 q.1.2.1 q.1.2.2 q.2.1) 150 ⟨0, [], by decide, rfl, rfl, Stepped.zero H⟩ ?_
    rintro s ⟨⟨lp, ll, lc⟩, at_, x, _⟩ H2 ⟨i, l, hi, rfl, hx, st⟩
    simp only at hx st
    subst hx
    dsimp only
    refine joinW_mk (fun _ H' => H' = H2 ∧ i < len ∧ i < 150) ?_ ?_
    · refine brW_dec (fun h1 => ?_) (fun _ => ⟨i, l, _, hi, st⟩)
      refine brW_dec (fun h2 => ?_) (fun _ => ?_)
      · exact ⟨rfl, by omega, by omega⟩
      · exact ⟨i, l, _, hi, st⟩
    rintro _ H3 ⟨rfl, h1, h2⟩
    obtain ⟨_, ad, rfl, hc⟩ := rdz (hrd.old st.fr) h1
    refine ⟨ad, rfl, by omega, by omega, _, by rw [Int.toNat_natCast]; exact hc, (fun h => by cases h), ?_⟩
    obtain ⟨sp, hsp, es⟩ := step_rng zs[i]
    have hlen := st.len
    have hll : ll = i := by have := st.sl.1; simp at this; omega
    have hla := st.last
    rw [es, st.at_, wrap_i64 (by omega) (by omega), show ((lastN l : Nat) : Int) + (sp : Int) = ((lastN l + sp : Nat) : Int) by omega]
    refine letV_mk fun at4 h4 => ?_
    subst h4
    refine app1 (t1 := ty_int) st.sl rfl ⟨by simp, by simp⟩ (by omega) (by decide) fun p' c' H5 sl5 f5 hb5 => ?_
    refine letV_mk fun i5 hi5 => ⟨150 - (i + 1), by omega, i + 1, l ++ [lastN l + sp], by omega, rfl, ?_, ?_, by simp [hlen], ?_, ?_, rises_snoc st.rises (by omega), ?_, st.fr.trans f5 fun k hk => .inr (st.own k hk)⟩
    · show i5 = _
      rw [hi5, wrap_i64 (by omega) (by omega)]; rfl
    · show Sl H5 ty_int ((l ++ [lastN l + sp]).map i64V) p' (ll + 1) c'
      rw [List.map_append]; exact sl5
    · show ((lastN l + sp : Nat) : Int) = _
      rw [lastN_snoc]
    · rw [lastN_snoc]; omega
    · intro k hk
      rcases hb5 k hk with h | h
      · exact st.own k h
      · exact Nat.le_trans st.fr.size h
  rintro ⟨⟨lp, ll, lc⟩, _⟩ H1 ⟨i, l, at_, hi, st⟩
  simp only at st
  dsimp only
  have hla := st.last
  have hlen := st.len
  have hll : ll = i := by have := st.sl.1; simp at this; omega
  subst hll
  have hlast : lastN l ≤ 8388608 := by omega
  refine Offs_New_spec (zs := l.map Int.ofNat) (by rw [zs_of]; exact st.sl.rd) (by omega) (fun l' _ hl' _ _ g H6 t f6 => ?_) (fun h => by rw [may_yes st.rises hlast] at h; cases h)
  have : l' = l := by have := nat_list hl'; rw [this, List.map_map]; have : Int.toNat ∘ Int.ofNat = id := by funext x; rfl
                      rw [this, List.map_id]
  subst this
  have fr6 := st.fr.trans0 f6
  have hrl : Rd H6 (l'.map i64V) lp ll := (st.sl.keep f6 fun _ _ h => h).rd
  refine joinW_thru (joinW_thru (brW_neg (by decide) (brW_false rfl ?_)))
  refine joinW_thru (letV_mk fun i8 h8 => ?_)
  have h8 : i8 = (ll : Int) - 1 := by rw [h8, wrap_i64 (by omega) (by omega)]
  subst h8
  refine loopW_mk (fun m q H' => m ≤ ll ∧ q.1 = (m : Int) - 1 ∧ Fr noF H6 H') ll ⟨Nat.le_refl _, rfl, Fr.refl _ _⟩ ?_
  rintro m ⟨x, _⟩ H10 ⟨hm, hx, f10⟩
  simp only at hx
  subst hx
  dsimp only
  have fr10 := fr6.trans0 f10
  refine brW_dec (fun h0 => ?_) (fun h0 => ?_)
  · refine joinW_thru ?_
    refine Offs_Get_spec (t.old f10) (hd.old fr10) _ (fun j hj H12 he f12 => ?_) (fun h => by omega)
    have hjm : j = m - 1 := by omega
    refine joinW_thru (brW_neg (fun h => h rfl) ?_)
    obtain ⟨_, ad, rfl, hc⟩ := rd_i64 ((hrl.old f10).old f12) (i := j) (by omega)
    rw [he]
    refine ⟨ad, rfl, by omega, by omega, _, by rw [Int.toNat_natCast]; exact hc, brW_neg (fun h => h rfl) ?_⟩
    refine letV_mk fun i8 hi8 => ⟨m - 1, by omega, by omega, ?_, f10.trans0 f12⟩
    show i8 = _
    rw [hi8, wrap_i64 (by omega) (by omega)]; omega
  · refine told_spec (hd.old fr10) fun H14 f14 => brW_true rfl ?_
    have t14 := (t.old f10).old f14
    refine Offs_Size_spec t14 (Offs_Low_spec t14 ⟨decide_eq_true ?_, fr10.trans0 f14⟩)
    have hk := kOf_le hlast
    have hh := high_le l'
    have hpr : l'.length * kOf l' ≤ 150 * 23 := Nat.mul_le_mul (by omega) hk
    have hm7 : l'.length * (kOf l' + 7) = l'.length * kOf l' + 7 * l'.length := by rw [Nat.mul_add, Nat.mul_comm _ 7]
    have e1 : (ll : Int) * IntKind.i64.wrap ((kOf l' : Int) + 7) = ((l'.length * (kOf l' + 7) : Nat) : Int) := by
      rw [wrap_i64 (by omega) (by omega), ← hlen]; push_cast; rfl
    rw [e1, hm7]
    unfold sizeO upTo64 sizeB
    generalize l'.length * kOf l' = n at hpr ⊢
    rw [wrap_i64 (n := ((n + 7 * l'.length : Nat) : Int)) (by omega) (by omega), wrap_i64 (by omega) (by omega)]
    omega
end Go.Proofs.YtlimijffmfbhpaaDoor
