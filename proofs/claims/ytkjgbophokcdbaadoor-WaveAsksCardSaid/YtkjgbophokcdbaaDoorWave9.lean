import Derived.Test.YtkjgbophokcdbaaDoorWave8
import Derived.Test.YtkjgbophokcdbaaDoorInts1
/-! Package wave: making. -/
namespace Go.Ev
theorem Rd.keep0 {H H' : Heap} {xs : List Value} {p : Option Addr} {l : Nat} {F : Nat → Prop} (h : Rd H xs p l) (hf : Fr F H H') (hn : 0 < l → ∀ k, blkIs p k → ¬ F k) : Rd H' xs p l := by
  rcases Nat.eq_zero_or_pos l with h0 | h0
  · subst h0
    exact ⟨h.1, fun i hi => absurd hi (Nat.not_lt_zero i)⟩
  · exact h.keep hf fun k _ hk => hn h0 k hk
theorem Rd.lt {H : Heap} {xs : List Value} {p : Option Addr} {l : Nat} (h : Rd H xs p l) (h0 : 0 < l) : ∀ k, blkIs p k → k < Array.size H := by
  rintro k ⟨a, rfl, rfl⟩
  obtain ⟨a', ha, hc⟩ := h.2 0 h0
  cases ha
  rw [List.getElem?_eq_getElem (by rw [h.1]; exact h0)] at hc
  have := hcell_lt hc
  rw [add_block] at this
  exact this
abbrev natV (x : Nat) : Value := .int .i64 (x : Int)
theorem row_set {L : List Nat} {f : Nat → Bool} {i : Nat} (hi : i < L.length) : (((L.take i).map f ++ List.replicate (L.length - i) false).map Value.bool).set i (.bool (f L[i])) = ((L.take (i + 1)).map f ++ List.replicate (L.length - (i + 1)) false).map Value.bool := by
  rw [List.take_succ_eq_append_getElem hi, show L.length - i = L.length - (i + 1) + 1 by omega, List.replicate_succ, List.map_append, List.map_append, List.map_append, List.map_append]
  rw [List.set_append_right _ _ (by simp; omega)]
  have : i - (List.map Value.bool ((L.take i).map f)).length = 0 := by simp; omega
  rw [this]
  simp
end Go.Ev
namespace Go.Proofs.YtkjgbophokcdbaaDoor
open Go.Ev
set_option linter.unusedVariables false
theorem Bits.grow {H : Heap} {g : Nat} {m : List Bool} {F G : Nat → Prop} (h : Bits H g m F) (h1 : ∀ k, F k → G k) (h2 : ∀ k, G k → k < Array.size H) : Bits H g m G := by
  obtain ⟨lp, lc, h, a, b, c⟩ := h
  exact ⟨lp, lc, h, h1 _ a, fun k hk => h1 _ (b k hk), h2⟩
theorem Wave_New_spec {H : Heap} {zs : List Int} {p : Option Addr} {n c : Nat} (hrd : Rd H (zs.map (Value.int .i64)) p n) (hn : n ≤ 1048576) (sg : Int) {R : Option Addr → Int → Heap → Prop}
    (hbad : (sg < 1 ∨ 1048576 < sg ∨ ∃ z, z ∈ zs ∧ (z < 0 ∨ sg ≤ z)) → R none 1 H)
    (hok : ∀ (l : List Nat) (s : Nat) g H', zs = l.map (fun x : Nat => (x : Int)) → sg = (s : Int) → 1 ≤ s ∧ s ≤ 1048576 → (∀ x ∈ l, x < s) → WB H' g l s (fun k => Array.size H ≤ k ∧ k < Array.size H') → Fr noF H H' → R (some ⟨g, 0, none⟩) 0 H') :
    wave_New.C p n c sg H R := by
  apply wave_New.calls
  unfold wave_New.W
  have hlen : zs.length = n := by have := hrd.1; simpa using this
  refine joinW_mk (fun _ H' => H = H' ∧ 1 ≤ sg ∧ sg ≤ 1048576) ?_ ?_
  · exact joinW_thru (brW_dec (fun h0 => brW_true rfl (hbad (.inl h0))) (fun h0 => brW_dec (fun h1 => hbad (.inr (.inl h1))) (fun h1 => ⟨rfl, by omega, by omega⟩)))
  rintro _ _ ⟨rfl, hs1, hs2⟩
  refine joinW_mk (fun _ H' => H = H' ∧ ∀ z ∈ zs, 0 ≤ z ∧ z < sg) ?_ ?_
  · refine loopW_mk (fun m q H' => ∃ i : Nat, i ≤ n ∧ m = n - i ∧ q.1 = (i : Int) ∧ H = H' ∧ ∀ j (hj : j < zs.length), j < i → 0 ≤ zs[j] ∧ zs[j] < sg) n ⟨0, by omega, rfl, rfl, rfl, fun j _ h => absurd h (Nat.not_lt_zero j)⟩ ?_
    rintro m ⟨x, _⟩ _ ⟨i, hi, rfl, hx, rfl, hall⟩
    simp only at hx
    subst hx
    dsimp only
    refine brW_dec (fun hlt => ?_) (fun hge => ⟨rfl, fun z hz => ?_⟩)
    · have hi' : i < zs.length := by omega
      obtain ⟨a, ha, hc⟩ := hrd.get (i := i) (v := .int .i64 zs[i]) (by rw [List.getElem?_map, List.getElem?_eq_getElem hi']; rfl)
      refine joinW_mk (fun _ H' => H = H' ∧ 0 ≤ zs[i] ∧ zs[i] < sg) ?_ ?_
      · exact ⟨a, ha, by omega, by omega, _, by rw [Int.toNat_natCast]; exact hc, joinW_thru (brW_dec (fun h0 => brW_true rfl (hbad (.inr (.inr ⟨_, List.getElem_mem hi', .inl h0⟩)))) (fun h0 => brW_dec (fun h1 => hbad (.inr (.inr ⟨_, List.getElem_mem hi', .inr h1⟩))) (fun h1 => ⟨rfl, by omega, by omega⟩)))⟩
      · rintro _ _ ⟨rfl, h0, h1⟩
        refine ⟨n - (i + 1), by omega, i + 1, by omega, rfl, by show IntKind.i64.wrap ((i : Int) + 1) = _; rw [wrap_i64 (by omega) (by omega)]; rfl, rfl, fun j hj hji => ?_⟩
        rcases Nat.lt_or_ge j i with h | h
        · exact hall j hj h
        · have : j = i := by omega
          subst this
          exact ⟨h0, h1⟩
    · obtain ⟨j, hj, rfl⟩ := List.getElem_of_mem hz
      exact hall j hj (by omega)
  rintro _ _ ⟨rfl, hall⟩
  clear hbad
  refine brW_neg (by omega) (letV_mk fun H7 h7 => joinW_thru ?_)
  obtain ⟨l, rfl⟩ : ∃ l : List Nat, zs = l.map (fun x : Nat => (x : Int)) := ⟨zs.map Int.toNat, by
    rw [List.map_map]
    conv => lhs; rw [← List.map_id zs]
    apply List.map_congr_left
    intro z hz
    have := hall z hz
    simp
    omega⟩
  obtain ⟨s, rfl⟩ : ∃ s : Nat, sg = (s : Int) := ⟨sg.toNat, by omega⟩
  have hvals : ∀ x ∈ l, x < s := fun x hx => by
    have := (hall (x : Int) (List.mem_map.2 ⟨x, hx, rfl⟩)).2
    omega
  have hok := fun g H' => hok l s g H' rfl rfl (by omega) hvals
  have hlen : l.length = n := by simpa using hlen
  have hrd : Rd H (l.map natV) p n := by rw [List.map_map] at hrd; exact hrd
  clear hall
  rw [wrap_i64 (n := (s : Int) - 1) (by omega) (by omega), show (s : Int) - 1 = ((s - 1 : Nat) : Int) by omega, wrap_natlt (by omega)]
  refine Width_spec (by omega) (letV_mk fun k9 hk9 => ?_)
  have hW : blen (s - 1) = nRows s := rfl
  have hW20 := nRows_le (sg := s) (by omega)
  rw [hW, wrap_i64 (by omega) (by omega)] at hk9
  have f7 : Fr noF H H7 := by rw [h7]; exact Fr.new _ _ _
  have g7 := new_part h7
  clear h7
  generalize hgd : Array.size H = g at *
  generalize hWd : nRows s = W at *
  have hgt : ∀ k, k < Array.size H → k ≠ g := fun k hk => by omega
  refine loopW_mk (fun m (q : (Option Addr × Nat × Nat) × Int × Unit) H' => ∃ (j : Nat) (gs : List Nat) (lp : Option Addr) (lc : Nat) (Fb : Nat → Prop), j ≤ W ∧ m = W - j ∧ q.2.1 = (W : Int) - 1 - (j : Int) ∧ q.1.2.1 = n ∧
    H'[g]? = some (.cells #[.slice lp j lc, .int .i64 (n : Int), .int .i64 (s : Int), .int .i64 0] ty_wave_Wave (0, 0)) ∧ gs.length = j ∧ Sl H' ty_any (gs.map rowV) lp j lc ∧ (∀ k (h : k < gs.length), Bits H' gs[k] (rowB W l k) Fb) ∧
    (∀ k, Fb k → g ≤ k ∧ k ≠ g ∧ ¬ blkIs lp k ∧ k < Array.size H') ∧ (∀ k, blkIs lp k → g ≤ k) ∧ Rd H' ((rowL W l j).map natV) q.1.1 n ∧ (0 < n → ∀ k, blkIs q.1.1 k → k ≠ g ∧ ¬ blkIs lp k) ∧ Fr noF H H') W
    ⟨0, [], none, 0, noF, by omega, rfl, by show k9 = _; omega, rfl, g7, rfl, Sl.nil _ _, fun k h => absurd h (Nat.not_lt_zero k), fun _ h => h.elim, (by rintro k ⟨a, ha, _⟩; cases ha), hrd.old f7, fun h0 k hk => ⟨hgt k (hrd.lt h0 k hk), by rintro ⟨a, ha, _⟩; cases ha⟩, f7⟩ ?_
  rintro m ⟨⟨xp, xl, xc⟩, y, _⟩ H10 ⟨j, gs, lp, lc, Fb, hj, rfl, hy, hxl, hg10, hgl, hsl, hrows, hFb, hlp, hrd10, hdis, f10⟩
  simp only at hy hxl hrd10 hdis
  subst hy hxl
  dsimp only
  refine brW_dec (fun hge => ?_) (fun hlt => ?_)
  · have hjW : j < W := by omega
    generalize hbd : W - 1 - j = b
    rw [show (W : Int) - 1 - (j : Int) = ((b : Nat) : Int) by omega]
    have hL := rowL_len W l j
    generalize hLd : rowL W l j = L at *
    rw [hlen] at hL
    refine joinW_mk (fun (q : (Option Addr × Nat × Nat) × Unit) H' => ∃ (gs : List Nat) (lp : Option Addr) (lc : Nat) (Fb : Nat → Prop), q.1.2.1 = xl ∧
      H'[g]? = some (.cells #[.slice lp (j + 1) lc, .int .i64 (xl : Int), .int .i64 (s : Int), .int .i64 0] ty_wave_Wave (0, 0)) ∧ gs.length = j + 1 ∧ Sl H' ty_any (gs.map rowV) lp (j + 1) lc ∧ (∀ k (h : k < gs.length), Bits H' gs[k] (rowB W l k) Fb) ∧
      (∀ k, Fb k → g ≤ k ∧ k ≠ g ∧ ¬ blkIs lp k ∧ k < Array.size H') ∧ (∀ k, blkIs lp k → g ≤ k) ∧ Rd H' ((nextL b L).map natV) q.1.1 xl ∧ (0 < xl → ∀ k, blkIs q.1.1 k → k ≠ g ∧ ¬ blkIs lp k) ∧ Fr noF H H') ?_ ?_
    · refine ⟨by omega, by omega, by omega, ?_⟩
      rw [Int.toNat_natCast]
      refine letV_mk fun H12 h12 => ?_
      have f12 : Fr noF H10 H12 := by rw [h12]; exact Fr.new _ _ _
      have hr12 : Sl H12 ty_bool ((List.replicate xl false).map Value.bool) (some ⟨Array.size H10, 0, none⟩) xl xl := by
        rw [h12, List.map_replicate]
        exact Sl.made H10 ty_bool (z := .bool false) rfl xl
      have s12 : Array.size H12 = Array.size H10 + 1 := by rw [h12]; exact hnew_size
      clear h12
      refine joinW_mk (fun (q : (Option Addr × Nat × Nat) × (Option Addr × Nat × Nat) × Unit) H' => Sl H' ty_int ((L.filter (fun x => !x.testBit b)).map natV) q.1.1 q.1.2.1 q.1.2.2 ∧ Sl H' ty_int ((L.filter (fun x => x.testBit b)).map natV) q.2.1.1 q.2.1.2.1 q.2.1.2.2 ∧
        Sl H' ty_bool ((L.map fun x => x.testBit b).map Value.bool) (some ⟨Array.size H10, 0, none⟩) xl xl ∧ Fr noF H10 H' ∧ (∀ k, blkIs q.1.1 k → Array.size H10 ≤ k) ∧ (∀ k, blkIs q.1.1 k → ¬ blkIs q.2.1.1 k)) ?_ ?_
      · refine loopW_mk (fun m (q : (Option Addr × Nat × Nat) × (Option Addr × Nat × Nat) × Int × Unit) H' => ∃ i : Nat, i ≤ xl ∧ m = xl - i ∧ q.2.2.1 = (i : Int) ∧ Sl H' ty_int (((L.take i).filter (fun x => !x.testBit b)).map natV) q.1.1 q.1.2.1 q.1.2.2 ∧ Sl H' ty_int (((L.take i).filter (fun x => x.testBit b)).map natV) q.2.1.1 q.2.1.2.1 q.2.1.2.2 ∧
          Sl H' ty_bool (((L.take i).map (fun x => x.testBit b) ++ List.replicate (L.length - i) false).map Value.bool) (some ⟨Array.size H10, 0, none⟩) xl xl ∧ Fr noF H10 H' ∧ (∀ k, blkIs q.1.1 k → Array.size H10 ≤ k) ∧ (∀ k, blkIs q.2.1.1 k → Array.size H10 ≤ k) ∧ (∀ k, blkIs q.1.1 k → ¬ blkIs q.2.1.1 k)) xl
          ⟨0, by omega, rfl, rfl, Sl.nil _ _, Sl.nil _ _, by simpa [hL] using hr12, f12, (by rintro k ⟨a, ha, _⟩; cases ha), (by rintro k ⟨a, ha, _⟩; cases ha), (by rintro k ⟨a, ha, _⟩; cases ha)⟩ ?_
        rintro m ⟨⟨zp, zl, zc⟩, ⟨op, ol, oc⟩, t, _⟩ H14 ⟨i, hi, rfl, ht, hz, ho, hr, f14, hzb, hob, hzo⟩
        simp only at ht hz ho hr hzb hob hzo
        subst ht
        dsimp only
        have hzl := hz.1
        have hol := ho.1
        have hzl2 : zl ≤ i := by rw [← hzl]; simp; exact Nat.le_trans (List.length_filter_le _ _) (by simp; omega)
        have hol2 : ol ≤ i := by rw [← hol]; simp; exact Nat.le_trans (List.length_filter_le _ _) (by simp; omega)
        refine brW_dec (fun hlt => ?_) (fun hge => ?_)
        · have hiL : i < L.length := by omega
          refine joinW_mk (fun (q : (Option Addr × Nat × Nat) × (Option Addr × Nat × Nat) × Unit) H' => Sl H' ty_int (((L.take (i + 1)).filter (fun x => !x.testBit b)).map natV) q.1.1 q.1.2.1 q.1.2.2 ∧ Sl H' ty_int (((L.take (i + 1)).filter (fun x => x.testBit b)).map natV) q.2.1.1 q.2.1.2.1 q.2.1.2.2 ∧
            Sl H' ty_bool (((L.take (i + 1)).map (fun x => x.testBit b) ++ List.replicate (L.length - (i + 1)) false).map Value.bool) (some ⟨Array.size H10, 0, none⟩) xl xl ∧ Fr noF H10 H' ∧ (∀ k, blkIs q.1.1 k → Array.size H10 ≤ k) ∧ (∀ k, blkIs q.2.1.1 k → Array.size H10 ≤ k) ∧ (∀ k, blkIs q.1.1 k → ¬ blkIs q.2.1.1 k)) ?_ ?_
          · obtain ⟨a, ha, hc⟩ := (hrd10.old f14).get (i := i) (v := natV L[i]) (by rw [List.getElem?_map, List.getElem?_eq_getElem hiL]; rfl)
            have hLi : L[i] < 2 ^ 63 := by
              have : L[i] ∈ rowL W l j := by rw [hLd]; exact List.getElem_mem hiL
              have h2 : ∀ j x, x ∈ rowL W l j → x ∈ l := by
                intro j
                induction j with
                | zero => exact fun x h => h
                | succ j ih =>
                  intro x hx
                  rw [rowL_succ] at hx
                  unfold nextL at hx
                  simp only [List.mem_append, List.mem_filter] at hx
                  rcases hx with h | h <;> exact ih x h.1
              have := hvals _ (h2 j _ this)
              omega
            refine ⟨a, ha, by omega, by omega, _, by rw [Int.toNat_natCast]; exact hc, ?_⟩
            rw [wrap_natlt (a := b) (by omega), bit_test hLi]
            obtain ⟨a2, ha2, hex, hfz, hr16, f16⟩ := hr.store (i := i) (by omega) (.bool (L[i].testBit b))
            cases ha2
            refine ⟨by omega, _, rfl, by omega, by omega, by rw [Int.toNat_natCast]; exact hex, by rw [Int.toNat_natCast]; exact hfz, ?_⟩
            rw [Int.toNat_natCast]
            refine letV_mk fun H16 h16 => ?_
            rw [← h16, row_set (f := fun x => x.testBit b) hiL] at hr16
            rw [← h16] at f16
            clear h16
            obtain ⟨a3, ha3, hc3⟩ := hr16.rd.get (i := i) (v := .bool (L[i].testBit b)) (by
              rw [List.take_succ_eq_append_getElem hiL, List.map_append, List.map_append, List.map_append, List.append_assoc, List.getElem?_append_right (by simp; omega)]
              simp [Nat.min_eq_left (Nat.le_of_lt hiL)])
            cases ha3
            refine ⟨_, rfl, by omega, by omega, _, hc3, ?_⟩
            have hz16 := hz.keep f16 fun k hk hr' => hz.ne' hr (by decide) k hk hr'
            have ho16 := ho.keep f16 fun k hk hr' => ho.ne' hr (by decide) k hk hr'
            have fr16 : Fr noF H10 H16 := f14.trans f16 fun k hk => .inr (by obtain ⟨a, ha, rfl⟩ := hk; cases ha; exact Nat.le_refl _)
            rw [List.take_succ_eq_append_getElem hiL, List.filter_append, List.filter_append, List.filter_cons, List.filter_cons] at *
            refine brW_mk (fun hb1 => ?_) (fun hb0 => ?_)
            · refine app1 ho16 rfl ⟨by simp, by simp⟩ (by omega) (by decide) fun p' c' H18 hs18 f18 hb18 => ?_
              refine ⟨?_, ?_, hr16.keep f18 fun k hk ho' => ho16.ne' hr16 (by decide) k ho' hk, fr16.trans f18 fun k hk => .inr (hob k hk), hzb, fun k hk => ?_, fun k hk hk' => ?_⟩
              · rw [hb1]
                simp only [Bool.not_true, Bool.false_eq_true, if_false, List.filter_nil, List.append_nil]
                exact hz16.keep f18 hzo
              · rw [hb1]
                simp only [if_true, List.filter_nil, List.map_append, List.map_cons, List.map_nil]
                exact hs18
              · rcases hb18 k hk with h | h
                · exact hob k h
                · have := fr16.size; omega
              · rcases hb18 k hk' with h | h
                · exact hzo k hk h
                · have := hz16.blk_lt hk; omega
            · refine app1 hz16 rfl ⟨by simp, by simp⟩ (by omega) (by decide) fun p' c' H18 hs18 f18 hb18 => ?_
              refine ⟨?_, ?_, hr16.keep f18 fun k hk ho' => hz16.ne' hr16 (by decide) k ho' hk, fr16.trans f18 fun k hk => .inr (hzb k hk), fun k hk => ?_, hob, fun k hk hk' => ?_⟩
              · rw [hb0]
                simp only [Bool.not_false, if_true, List.filter_nil, List.map_append, List.map_cons, List.map_nil]
                exact hs18
              · rw [hb0]
                simp only [Bool.false_eq_true, if_false, List.filter_nil, List.append_nil]
                exact ho16.keep f18 fun k hk hk' => hzo k hk' hk
              · rcases hb18 k hk with h | h
                · exact hzb k h
                · have := fr16.size; omega
              · rcases hb18 k hk with h | h
                · exact hzo k h hk'
                · have := ho16.blk_lt hk'; omega
          · rintro ⟨⟨zp', zl', zc'⟩, ⟨op', ol', oc'⟩, _⟩ H15 ⟨hz', ho', hr', f15, hzb', hob', hzo'⟩
            exact ⟨xl - (i + 1), by omega, i + 1, by omega, rfl, by show IntKind.i64.wrap ((i : Int) + 1) = _; rw [wrap_i64 (by omega) (by omega)]; rfl, hz', ho', hr', f15, hzb', hob', hzo'⟩
        · have : i = L.length := by omega
          subst this
          rw [List.take_length] at hz ho hr
          rw [Nat.sub_self, List.replicate_zero, List.append_nil] at hr
          exact ⟨hz, ho, hr, f14, hzb, hzo⟩
      rintro ⟨⟨zp, zl, zc⟩, ⟨op, ol, oc⟩, _⟩ H13 ⟨hz, ho, hr, f13, hzb, hzo⟩
      simp only at hz ho hr hzb hzo
      dsimp only
      have hrb : (L.map fun x => x.testBit b) = rowB W l j := by unfold rowB; rw [hLd, hbd]
      rw [hrb] at hr
      refine Bits_New_spec hr.rd (by omega) fun gb H21 tb f21 => ?_
      have f1021 := f13.trans0 f21
      have hg21 := f1021.blk hg10 fun h => h
      have hsl21 := hsl.keep f1021 fun _ _ h => h
      have sz13 := f13.size
      have sz21 := f21.size
      have hlp10 : ∀ k, blkIs lp k → k < Array.size H10 := fun k hk => hsl.blk_lt hk
      have hg10lt := lt_of_blk hg10
      refine ⟨_, rfl, _, _, _, (hcell_add hg21 0 0).trans rfl, ?_⟩
      refine app1 hsl21 rfl ⟨by simp, by simp⟩ (by omega) (by decide) fun lp' lc' H23 hsl23 f23 hb23 => ?_
      have sz23 := f23.size
      have hg23 := f23.blk hg21 (hsl21.ne hg21 (by decide))
      refine ⟨_, rfl, ⟨_, (hcell_add hg23 0 0).trans rfl⟩, hfrozen_add hg23 0 0, letV_mk fun H24 h24 => ?_⟩
      have hg24 := set_blk h24 hg23
      have f24 := set_fr h24
      clear h24
      have sz24 := f24.size
      have hlpz : ∀ k, blkIs zp k → ¬ blkIs lp k := fun k hk h => by have := hzb k hk; have := hlp10 k h; omega
      have hz23 := (hz.keep f21 fun _ _ h => h).keep f23 hlpz
      have ho23 := (ho.keep f21 fun _ _ h => h).keep f23 fun k hk h => (ho.keep f21 fun _ _ h => h).ne' hsl21 (by decide) k hk h
      have hz24 := hz23.keep f24 fun k hk e => hz23.ne hg23 (by decide) (e ▸ hk)
      have ho24 := ho23.keep f24 fun k hk e => ho23.ne hg23 (by decide) (e ▸ hk)
      have hsl24 := hsl23.keep f24 fun k hk e => hsl23.ne hg23 (by decide) (e ▸ hk)
      have hzl := hz.1
      have hol := ho.1
      have hnl : (nextL b L).length = xl := by rw [nextL_len, hL]
      have hnl2 : zl + ol = xl := by
        unfold nextL at hnl
        rw [List.length_append] at hnl
        rw [List.length_map] at hzl hol
        omega
      refine appW_own hz24 rfl (appended_rd ho24.rd) ho24.1 (fun v hv => by obtain ⟨x, _, rfl⟩ := List.mem_map.1 hv; exact ⟨by simp, by simp⟩) (by omega) (by decide) fun p' c' H25 hs25 f25 hb25 => ?_
      have sz25 := f25.size
      have hsl25 := hsl24.keep f25 fun k hk h => hz24.ne' hsl24 (by decide) k h hk
      have hg25 := f25.blk hg24 (hz24.ne hg24 (by decide))
      have hs25' : Sl H25 ty_int ((nextL b L).map natV) p' (zl + ol) c' := by
        unfold nextL
        rw [List.map_append]
        exact hs25
      have hFz : ∀ k, Fb k → ¬ blkIs zp k := fun k hk h => by have := hzb k h; have := (hFb k hk).2.2.2; omega
      have hzlt : ∀ k, blkIs zp k → k < Array.size H13 := fun k hk => hz.blk_lt hk
      refine ⟨gs ++ [gb], lp', lc', fun k => Fb k ∨ (Array.size H13 ≤ k ∧ k < Array.size H21), hnl2, hg25, by simp [hgl], by rw [List.map_append]; exact hsl25, ?_, ?_, ?_, by rw [hnl2] at hs25'; exact hs25'.rd, ?_, ?_⟩
      · intro k hk
        have hgrow : ∀ k, Fb k ∨ (Array.size H13 ≤ k ∧ k < Array.size H21) → k < Array.size H25 := fun k h => by
          rcases h with h | h
          · have := (hFb k h).2.2.2; omega
          · omega
        rcases Nat.lt_or_ge k j with hkj | hkj
        · rw [List.getElem_append_left (by omega)]
          have t := hrows k (by omega)
          have t21 := t.keep f1021 fun _ _ h => h
          have t23 := t21.keep f23 fun i hi => (hFb i hi).2.2.1
          have t24 := t23.keep f24 fun i hi => (hFb i hi).2.1
          exact (t24.keep f25 hFz).grow (fun i hi => .inl hi) hgrow
        · have : k = j := by simp [hgl] at hk; omega
          subst this
          rw [List.getElem_append_right (by omega)]
          have e : [gb][k - gs.length]'(by simp; omega) = gb := by simp
          rw [e]
          have t23 := tb.keep f23 fun i hi h => by have := hlp10 i h; omega
          have t24 := t23.keep f24 fun i hi h => by omega
          have t25 := t24.keep f25 fun i hi h => by have := hzlt i h; omega
          exact t25.grow (fun i hi => .inr hi) hgrow
      · intro k hk
        rcases hk with h | h
        · obtain ⟨a1, a2, a3, a4⟩ := hFb k h
          refine ⟨a1, a2, fun hb => ?_, by omega⟩
          rcases hb23 k hb with h' | h'
          · exact a3 h'
          · omega
        · refine ⟨by omega, by omega, fun hb => ?_, by omega⟩
          rcases hb23 k hb with h' | h'
          · have := hlp10 k h'; omega
          · omega
      · intro k hb
        rcases hb23 k hb with h' | h'
        · exact hlp k h'
        · omega
      · intro _ k hk
        refine ⟨?_, fun h => hs25.ne' hsl25 (by decide) k hk h⟩
        rcases hb25 k hk with h | h
        · have := hzb k h; omega
        · omega
      · have f1023 : Fr noF H H23 := (f10.trans0 f1021).trans f23 fun k hk => .inr (by have := hlp k hk; omega)
        exact (f1023.trans f24 fun k hk => .inr (by omega)).trans f25 fun k hk => .inr (by have := hzb k hk; omega)
    · rintro ⟨⟨xp', xl', xc'⟩, _⟩ H11 ⟨gs', lp', lc', Fb', h1, h2, h3, h4, h5, h6, h7, h8, h9, h10⟩
      refine letV_mk fun k9' hk9' => ?_
      rw [wrap_i64 (by omega) (by omega)] at hk9'
      refine ⟨W - (j + 1), by omega, j + 1, gs', lp', lc', Fb', by omega, rfl, ?_, h1, h2, h3, h4, h5, h6, h7, ?_, h9, h10⟩
      · show k9' = _
        omega
      · rw [rowL_succ, hbd, hLd]
        exact h8
  · have : j = W := by omega
    subst this
    refine hok g H10 ⟨0, by omega, gs, lp, lc, Fb, ⟨?_, ?_, ?_, ?_, hvals, by omega, by omega, fun h => (hFb g h).2.1 rfl⟩, ⟨Nat.le_refl _, lt_of_blk hg10⟩, fun k hk => ⟨hlp k hk, hsl.blk_lt hk⟩, fun k hk => ⟨(hFb k hk).1, (hFb k hk).2.2.2⟩, fun k hk => hk.2⟩ f10
    · rw [hgl, hlen]; exact hg10
    · rw [hgl]; exact hsl
    · rw [hgl, ← hWd]; rfl
    · intro k hk
      rw [hgl]
      exact hrows k hk
end Go.Proofs.YtkjgbophokcdbaaDoor
