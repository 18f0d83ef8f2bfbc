import Derived.Test.YtojhnakgmihedaaDoorRep9
/-! Package report: what a made tree goes through: levels pushed, names given. -/
namespace Go.Proofs.YtojhnakgmihedaaDoor
open Go.Ev
set_option linter.unusedVariables false
theorem appended_sl {H : Heap} {t : TypeId} {xs : List Value} {p : Option Addr} {l c : Nat} (h : Sl H t xs p l c) : appended H 1 (.slice p l c) l xs := by
  refine ⟨rfl, ?_⟩
  cases p with
  | none =>
    rcases h.2 with ⟨_, hl, _⟩ | ⟨b, cs, hp, _⟩
    · exact ⟨hl, List.eq_nil_of_length_eq_zero (by rw [h.1, hl])⟩
    · cases hp
  | some a =>
    refine ⟨by rw [h.1, Nat.mul_one], fun j v hj => ?_⟩
    obtain ⟨a', ha, hc⟩ := h.rd.get hj
    cases ha
    exact hc
theorem lvV_one (lv : List (Option Addr × Nat × Nat)) : ∀ v ∈ lv.map lvV, One v := by
  intro v hv
  obtain ⟨x, _, rfl⟩ := List.mem_map.1 hv
  exact ⟨by simp [lvV], by simp [lvV]⟩
set_option maxHeartbeats 2000000 in
theorem Push_spec {H : Heap} {g l : Nat} {F : Nat → Prop} (sc : Sc H g F l) (hl : l ≤ 1000) {L : List At} {ap : Option Addr} {al ac : Nat} (hA : AtRd H L ap al) (hal : al ≤ 8) (hg : ∀ q ∈ L, AttOk q) {R : Int → Heap → Prop}
    (h2 : ∀ H', Fr noF H H' → R 2 H') (h0 : ∀ H' F', Sc H' g F' (l + 1) → (∀ k, F' k → F k ∨ Array.size H ≤ k) → Fr (fun k => k = g) H H' → R 0 H') : brackenref10_Scope_Push.C (some ⟨g, 0, none⟩) ap al ac H R := by
  have hLl := hA.1
  apply brackenref10_Scope_Push.calls
  unfold brackenref10_Scope_Push.W
  refine joinW_mk (fun (q : (Option Addr × Nat × Nat) × Unit) H' => ∃ M : List At, SlN 4 H' ty_api_Attr (M.map atL).flatten q.1.1 q.1.2.1 q.1.2.2 ∧ q.1.2.1 ≤ 8 ∧ (∀ x ∈ M, GoodAt x) ∧ (∀ k, blkIs q.1.1 k → Array.size H ≤ k) ∧ Fr noF H H') ?_ ?_
  · refine loopW_mk (fun t (q : (Option Addr × Nat × Nat) × Int × Unit) H' => ∃ i : Nat, i ≤ al ∧ t = al - i ∧ q.2.1 = (i : Int) ∧ ∃ M : List At, SlN 4 H' ty_api_Attr (M.map atL).flatten q.1.1 q.1.2.1 q.1.2.2 ∧ q.1.2.1 ≤ i ∧ (∀ x ∈ M, GoodAt x) ∧ (∀ k, blkIs q.1.1 k → Array.size H ≤ k) ∧ Fr noF H H') al
      ⟨0, Nat.zero_le _, rfl, rfl, [], SlN.nil _ _ _, Nat.le_refl _, by simp, (by rintro k ⟨a, ha, _⟩; cases ha), Fr.refl _ _⟩ ?_
    rintro t ⟨⟨mp, ml, mc⟩, i', _⟩ H2 ⟨i, hi, rfl, hi', M, hM, hml, hMg, hMb, hf⟩
    simp only at hi' hM hml hMb
    subst hi'
    dsimp only
    refine brW_dec (fun hlt => ?_) (fun hge => ⟨M, hM, by omega, hMg, hMb, hf⟩)
    have hiL : i < L.length := by omega
    obtain ⟨q1, q2, q3, q4, q5⟩ := hg _ (List.getElem_mem hiL)
    refine joinW_mk (fun (q : (Option Addr × Nat × Nat) × Unit) H' => ∃ M : List At, SlN 4 H' ty_api_Attr (M.map atL).flatten q.1.1 q.1.2.1 q.1.2.2 ∧ q.1.2.1 ≤ i + 1 ∧ (∀ x ∈ M, GoodAt x) ∧ (∀ k, blkIs q.1.1 k → Array.size H ≤ k) ∧ Fr noF H H') ?_ ?_
    · obtain ⟨a, ha, hc⟩ := (hA.old hf).2 i hiL
      refine ⟨a, ha, by omega, by omega, ?_⟩
      rw [Int.toNat_natCast]
      refine readAtt L[i] hc (Declares_any L[i] fun pr ok H4 f4 hok => ?_)
      have f04 := hf.trans0 f4
      have hM4 := hM.old f4
      refine brW_mk (fun _ => ⟨M, hM4, Nat.le_succ_of_le hml, hMg, hMb, f04⟩) (fun hok1 => ?_)
      have hdecl : IsDecl L[i] := hok (by simpa using hok1)
      obtain ⟨a4, ha4, hc4⟩ := (hA.old f04).2 i hiL
      refine ⟨a4, ha4, by omega, by omega, _, hc4 3 (by omega), a4, ha4, by omega, by omega, _, hc4 0 (by omega), ?_⟩
      refine joinW_mk (fun _ H' => H4 = H') ?_ ?_
      · refine joinW_mk (fun (q : Bool × Unit) H' => H4 = H') ?_ ?_
        · repeat' (first | exact rfl | refine brW_mk (fun _ => ?_) (fun _ => ?_))
        · rintro ⟨b, _⟩ _ rfl
          exact brW_mk (fun _ => h2 _ f04) (fun _ => rfl)
      rintro _ _ rfl
      have hMl := (hM4.attrs).1
      refine joinW_mk (fun _ H' => H4 = H') ?_ ?_
      · refine loopW_mk (fun s (q : Int × Unit) H' => H4 = H' ∧ ∃ k : Nat, k ≤ ml ∧ s = ml - k ∧ q.1 = (k : Int)) ml ⟨rfl, 0, Nat.zero_le _, rfl, rfl⟩ ?_
        rintro s ⟨k', _⟩ _ ⟨rfl, k, hk, rfl, hk'⟩
        simp only at hk'
        subst hk'
        dsimp only
        refine brW_dec (fun hlk => ?_) (fun _ => rfl)
        obtain ⟨b, hb, hcb⟩ := hM4.attrs.2 k (by omega)
        refine joinW_mk (fun _ H' => H4 = H') ?_ ?_
        · refine joinW_mk (fun (q : Bool × Unit) H' => H4 = H') ?_ ?_
          · exact ⟨b, hb, by omega, by omega, _, by rw [Int.toNat_natCast]; exact hcb 0 (by omega), a4, ha4, by omega, by omega, _, hc4 0 (by omega), brW_mk (fun _ => ⟨b, hb, by omega, by omega, _, by rw [Int.toNat_natCast]; exact hcb 1 (by omega), a4, ha4, by omega, by omega, _, hc4 1 (by omega), rfl⟩) (fun _ => rfl)⟩
          · rintro ⟨b, _⟩ _ rfl
            exact brW_mk (fun _ => h2 _ f04) (fun _ => rfl)
        · rintro _ _ rfl
          refine letV_mk fun y hy => ⟨ml - (k + 1), by omega, rfl, k + 1, by omega, rfl, ?_⟩
          show y = _
          rw [hy, wrap_i64 (by omega) (by omega)]; rfl
      rintro _ _ rfl
      refine ⟨a4, ha4, by omega, by omega, readAtt L[i] hc4 (letV_mk fun H5 h5 => ?_)⟩
      refine appN1 (new := atL L[i]) hM4 h5 rfl rfl (atL_one1 L[i]) (by omega) (by decide) fun p' c' H' a b d => ⟨M ++ [L[i]], by rw [← flat_snoc]; exact a, by show ml + 1 ≤ i + 1; omega, ?_, ?_, f04.trans b fun k hk => .inr (hMb k hk)⟩
      · intro x hx
        rcases List.mem_append.1 hx with hx | hx
        · exact hMg x hx
        · rw [List.mem_singleton.1 hx]; exact ⟨q1, q2, q3, q5 hdecl⟩
      · intro k hk
        rcases d k hk with hk | hk
        · exact hMb k hk
        · exact Nat.le_trans f04.size hk
    · rintro ⟨⟨mp', ml', mc'⟩, _⟩ H3 ⟨M', e1, e2, e3, e4, e5⟩
      refine letV_mk fun y hy => ⟨al - (i + 1), by omega, i + 1, by omega, rfl, ?_, M', e1, e2, e3, e4, e5⟩
      show y = _
      rw [hy, wrap_i64 (by omega) (by omega)]; rfl
  rintro ⟨⟨mp, ml, mc⟩, _⟩ H1 ⟨M, hM, hml, hMg, hMb, hf⟩
  simp only at hM hml hMb
  dsimp only
  refine letV_mk fun H13 h13 => ?_
  have f13 : Fr noF H1 H13 := by rw [h13]; exact Fr.new _ _ _
  have s13 : Sl H13 ty_s_api_Attr [] (some ⟨Array.size H1, 0, none⟩) 0 0 := by rw [h13]; exact Sl.lit H1 ty_s_api_Attr []
  have z13 : Array.size H13 = Array.size H1 + 1 := by rw [h13]; exact hnew_size
  clear h13
  have fa := hf.trans0 f13
  obtain ⟨p, c, lv, sk⟩ := sc.old fa
  have hlv : lv.length = l := by simpa using sk.sl.1
  obtain ⟨p0, c0, lv0, sk0⟩ := sc
  have hgl := sk0.lt g sk0.fg
  refine ⟨_, rfl, p, l, c, (hcell_add sk.blk 0 0).trans rfl, ?_⟩
  refine appW_own s13 rfl (appended_sl sk.sl) sk.sl.1 (lvV_one lv) (by omega) (by decide) fun p4 c4 H14 s14 f14 b14 => ?_
  rw [List.nil_append, Nat.zero_add] at s14
  rw [Nat.zero_add]
  have hnb : ∀ k, blkIs (some (⟨Array.size H1, 0, none⟩ : Addr)) k → Array.size H ≤ k := by
    rintro k ⟨a, ha, rfl⟩
    cases ha
    exact hf.size
  have hb4 : ∀ k, blkIs p4 k → Array.size H ≤ k := fun k hk => by
    rcases b14 k hk with h | h
    · exact hnb k h
    · exact Nat.le_trans fa.size h
  have f04 : Fr noF H H14 := fa.trans f14 fun k hk => .inr (hnb k hk)
  refine letV_mk fun H15 h15 => ?_
  have f15 : Fr noF H14 H15 := by rw [h15]; exact Fr.new _ _ _
  refine app1_at (v := .slice mp ml mc) s14 h15 rfl ⟨by simp, by simp⟩ (by omega) (by decide) fun p5 c5 H16 s16 f16 b16 => ?_
  have hb5 : ∀ k, blkIs p5 k → Array.size H ≤ k := fun k hk => by
    rcases b16 k hk with h | h
    · exact hb4 k h
    · exact Nat.le_trans (f04.trans0 f15).size h
  have f06 : Fr noF H H16 := (f04.trans0 f15).trans f16 fun k hk => .inr (hb4 k hk)
  have gb : H16[g]? = some (.cells #[.slice p0 l c0] ty_brackenref10_Scope (0, 0)) := f06.blk sk0.blk fun h => h
  refine ⟨_, rfl, ⟨_, (hcell_add gb 0 0).trans rfl⟩, hfrozen_add gb 0 0, letV_mk fun H17 h17 => ?_⟩
  have g17 := set_blk h17 gb
  have f17 := set_fr h17
  have f07 : Fr (fun k => k = g) H H17 := (f06.mono fun _ h => h.elim).trans f17 fun k hk => .inl hk
  refine h0 H17 (fun k => F k ∨ Array.size H ≤ k ∧ k < Array.size H17) ⟨p5, c5, lv ++ [(mp, ml, mc)], g17, ?_, ?_, ?_, .inl sk0.fg, ?_⟩ (fun k hk => hk.imp id fun h => h.1) f07
  · rw [List.map_append]
    exact s16.keep f17 fun k hk e => by have := hb5 k hk; omega
  · intro k hk
    have h1 := hb5 k hk
    have h2 := s16.blk_lt hk
    exact ⟨.inr ⟨h1, Nat.lt_of_lt_of_le h2 f17.size⟩, by omega⟩
  · intro x hx
    rcases List.mem_append.1 hx with hx | hx
    · obtain ⟨L', k1, k2, k3, k4⟩ := sk.lev x hx
      have f67 : Fr (fun k => k = g ∨ Array.size H ≤ k) H13 H17 := by
        have a1 : Fr (fun k => k = g ∨ Array.size H ≤ k) H13 H14 := f14.mono fun k hk => .inr (hnb k hk)
        have a2 : Fr (fun k => k = g ∨ Array.size H ≤ k) H14 H15 := f15.mono fun k hk => hk.elim
        have a3 : Fr (fun k => k = g ∨ Array.size H ≤ k) H15 H16 := f16.mono fun k hk => .inr (hb4 k hk)
        have a4 : Fr (fun k => k = g ∨ Array.size H ≤ k) H16 H17 := f17.mono fun k hk => .inl hk
        exact ((a1.trans a2 fun k hk => .inl hk).trans a3 fun k hk => .inl hk).trans a4 fun k hk => .inl hk
      refine ⟨L', k1.keep f67 (fun k hk e => ?_), k2, k3, fun k hk => ⟨.inl (k4 k hk).1, (k4 k hk).2⟩⟩
      rcases e with e | e
      · exact (k4 k hk).2 e
      · have := sk0.lt k (k4 k hk).1
        omega
    · rw [List.mem_singleton.1 hx]
      have f17' : Fr (fun k => k = g ∨ blkIs (some (⟨Array.size H1, 0, none⟩ : Addr)) k ∨ blkIs p4 k) H1 H17 := by
        have a0 : Fr (fun k => k = g ∨ blkIs (some (⟨Array.size H1, 0, none⟩ : Addr)) k ∨ blkIs p4 k) H1 H13 := f13.mono fun k hk => hk.elim
        have a1 : Fr (fun k => k = g ∨ blkIs (some (⟨Array.size H1, 0, none⟩ : Addr)) k ∨ blkIs p4 k) H13 H14 := f14.mono fun k hk => .inr (.inl hk)
        have a2 : Fr (fun k => k = g ∨ blkIs (some (⟨Array.size H1, 0, none⟩ : Addr)) k ∨ blkIs p4 k) H14 H15 := f15.mono fun k hk => hk.elim
        have a3 : Fr (fun k => k = g ∨ blkIs (some (⟨Array.size H1, 0, none⟩ : Addr)) k ∨ blkIs p4 k) H15 H16 := f16.mono fun k hk => .inr (.inr hk)
        have a4 : Fr (fun k => k = g ∨ blkIs (some (⟨Array.size H1, 0, none⟩ : Addr)) k ∨ blkIs p4 k) H16 H17 := f17.mono fun k hk => .inl hk
        exact (((a0.trans a1 fun k hk => .inl hk).trans a2 fun k hk => .inl hk).trans a3 fun k hk => .inl hk).trans a4 fun k hk => .inl hk
      refine ⟨M, hM.attrs.keep f17' (fun k hk e => ?_), hml, hMg, fun k hk => ⟨.inr ⟨hMb k hk, Nat.lt_of_lt_of_le (hM.blk_lt hk) f17'.size⟩, by have := hMb k hk; omega⟩⟩
      have h1 := hM.blk_lt hk
      have h3 := hMb k hk
      rcases e with e | ⟨a, ha, e⟩ | e
      · omega
      · cases ha
        simp only at e
        omega
      · rcases b14 k e with ⟨a, ha, e⟩ | e
        · cases ha
          simp only at e
          omega
        · omega
  · rintro k (hk | hk)
    · exact Nat.lt_of_lt_of_le (sk0.lt k hk) f07.size
    · exact hk.2
end Go.Proofs.YtojhnakgmihedaaDoor
