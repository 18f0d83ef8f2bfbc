import Derived.Test.YtkjgbophokcdbaaDoorWave6
/-! Package wave: what is asked, as a whole. -/
namespace Go.Ev
/-- How often a symbol stands below a place. -/
def cntZ (l : List Nat) (k : Nat) (s : Int) : Nat := (l.take k).countP fun x : Nat => decide ((x : Int) = s)
theorem cntZ_nat (l : List Nat) (k s : Nat) : cntZ l k (s : Int) = (l.take k).count s := by
  unfold cntZ
  rw [List.count_eq_countP]
  apply List.countP_congr
  intro x _
  simp only [decide_eq_true_eq, beq_iff_eq]
  omega
theorem cntZ_out {l : List Nat} {sg : Nat} (hl : ∀ x ∈ l, x < sg) {s : Int} (hs : s < 0 ∨ (sg : Int) ≤ s) (k : Nat) : cntZ l k s = 0 := by
  unfold cntZ
  rw [List.countP_eq_zero]
  intro x hx
  have := hl x (List.mem_of_mem_take hx)
  simp
  omega
theorem cntZ_succ {l : List Nat} {i : Nat} (h : i < l.length) (s : Int) : cntZ l (i + 1) s = cntZ l i s + (if (l[i] : Int) = s then 1 else 0) := by
  unfold cntZ
  rw [List.take_succ_eq_append_getElem h, List.countP_append]
  simp [List.countP_cons]
theorem cntZ_mono (l : List Nat) {k k' : Nat} (h : k ≤ k') (s : Int) : cntZ l k s ≤ cntZ l k' s := by
  unfold cntZ
  exact (List.take_sublist_take_left h).countP_le
theorem cntZ_zero (l : List Nat) (s : Int) : cntZ l 0 s = 0 := by unfold cntZ; simp
theorem cntZ_le (l : List Nat) (k : Nat) (s : Int) : cntZ l k s ≤ l.length := by
  unfold cntZ
  exact Nat.le_trans List.countP_le_length (by simp; omega)
theorem cntZ_all (l : List Nat) {k : Nat} (h : l.length ≤ k) (s : Int) : cntZ l k s = cntZ l l.length s := by
  unfold cntZ
  rw [List.take_of_length_le h, List.take_length]
theorem cntZ_inj {l : List Nat} {s : Int} {i j : Nat} (hi : i < l.length) (hj : j < l.length) (ei : (l[i] : Int) = s) (ej : (l[j] : Int) = s) (h : cntZ l i s = cntZ l j s) : i = j := by
  rcases Nat.lt_trichotomy i j with h1 | h1 | h1
  · have := cntZ_mono l (show i + 1 ≤ j by omega) s
    rw [cntZ_succ hi, if_pos ei] at this
    omega
  · exact h1
  · have := cntZ_mono l (show j + 1 ≤ i by omega) s
    rw [cntZ_succ hj, if_pos ej] at this
    omega
theorem cntZ_lt {l : List Nat} {s : Int} {i j : Nat} (hi : i < l.length) (ei : (l[i] : Int) = s) (h : i < j) : cntZ l i s < cntZ l j s := by
  have := cntZ_mono l (show i + 1 ≤ j by omega) s
  rw [cntZ_succ hi, if_pos ei] at this
  omega
/-- The place of the j-th one of a symbol from a place on, below another one; -1. -/
def IsNth (l : List Nat) (lo hi s j x : Int) : Prop :=
  (∃ (i : Nat) (hi' : i < l.length), x = (i : Int) ∧ (l[i] : Int) = s ∧ lo ≤ i ∧ (i : Int) < hi ∧ (cntZ l i s : Int) = cntZ l lo.toNat s + j) ∨
  (x = -1 ∧ ∀ (i : Nat) (hi' : i < l.length), (l[i] : Int) = s → lo ≤ i → (i : Int) < hi → (cntZ l i s : Int) ≠ cntZ l lo.toNat s + j)
theorem IsNth.unique {l : List Nat} {lo hi s j x y : Int} (hx : IsNth l lo hi s j x) (hy : IsNth l lo hi s j y) : x = y := by
  rcases hx with ⟨i, hi, rfl, e1, e2, e3, e4⟩ | ⟨rfl, hx⟩ <;> rcases hy with ⟨i', hi', rfl, e1', e2', e3', e4'⟩ | ⟨rfl, hy⟩
  · have := cntZ_inj hi hi' e1 e1' (by omega)
    omega
  · exact absurd e4 (hy i hi e1 e2 e3)
  · exact absurd e4' (hx i' hi' e1' e2' e3')
  · rfl
theorem IsNth.out {l : List Nat} {sg : Nat} (hl : ∀ x ∈ l, x < sg) {lo hi s j : Int} (hs : s < 0 ∨ (sg : Int) ≤ s) : IsNth l lo hi s j (-1) := by
  refine .inr ⟨rfl, fun i hi e => ?_⟩
  have := hl _ (List.getElem_mem hi)
  omega
theorem IsNth.none {l : List Nat} {lo hi s j : Int} (hj : j < 0 ∨ (l.length : Int) ≤ j) : IsNth l lo hi s j (-1) := by
  refine .inr ⟨rfl, fun i hi e h1 h2 h3 => ?_⟩
  have h4 := cntZ_mono l (show lo.toNat ≤ i by omega) s
  have h5 := cntZ_lt hi e hi
  have h6 := cntZ_le l l.length s
  omega
/-- Of all places alone. -/
theorem IsNth.sel {l : List Nat} {s j x : Int} (h1 : (∃ (i : Nat) (hi : i < l.length), x = (i : Int) ∧ (l[i] : Int) = s ∧ (cntZ l i s : Int) = j) ∨ (x = -1 ∧ (j < 0 ∨ (cntZ l l.length s : Int) ≤ j))) : IsNth l 0 l.length s j x := by
  have h0 : cntZ l (0 : Int).toNat s = 0 := cntZ_zero l s
  rcases h1 with ⟨i, hi, rfl, e1, e2⟩ | ⟨rfl, h⟩
  · exact .inl ⟨i, hi, rfl, e1, by omega, by omega, by rw [h0]; omega⟩
  · refine .inr ⟨rfl, fun i hi e h2 h3 h4 => ?_⟩
    rw [h0] at h4
    have := cntZ_lt hi e hi
    omega
end Go.Ev
namespace Go.Proofs.YtkjgbophokcdbaaDoor
open Go.Ev
set_option linter.unusedVariables false
section
variable {H : Heap} {g : Nat} {l : List Nat} {sg st : Nat} {F : Nat → Prop}
/-- A Wave, of which not more was asked for than may be. -/
def WB (H : Heap) (g : Nat) (l : List Nat) (sg : Nat) (F : Nat → Prop) : Prop := ∃ st, st ≤ 5 * nRows sg ∧ Wave H g l sg st F
theorem WB.keep {H H' : Heap} {G : Nat → Prop} (h : WB H g l sg F) (hf : Fr G H H') (hd : ∀ k, F k → ¬ G k) : WB H' g l sg F := by
  obtain ⟨st, h1, h⟩ := h
  exact ⟨st, h1, h.keep hf hd⟩
theorem WB.old {H H' : Heap} (h : WB H g l sg F) (hf : Fr noF H H') : WB H' g l sg F := h.keep hf fun _ _ h => h
theorem WB.few (h : WB H g l sg F) : l.length ≤ 1048576 ∧ 1 ≤ sg ∧ sg ≤ 1048576 := by
  obtain ⟨st, h1, h⟩ := h
  exact h.few
theorem WB.own (h : WB H g l sg F) : F g ∧ ∀ k, F k → k < Array.size H := by
  obtain ⟨st, h1, h⟩ := h
  exact h.own
theorem WB.vals (h : WB H g l sg F) : ∀ x ∈ l, x < sg := by
  obtain ⟨st, h1, gs, lp, lc, Fb, h, _⟩ := h
  exact h.vals
theorem WB_Len_spec (h : WB H g l sg F) {R : Int → Heap → Prop} (hR : R (l.length : Int) H) : wave_Wave_Len.C (some ⟨g, 0, none⟩) H R := by
  obtain ⟨st, h1, h⟩ := h
  exact Wave_Len_spec h hR
theorem WB_Steps_spec (h : WB H g l sg F) {R : Int → Heap → Prop} (hR : ∀ st : Nat, st ≤ 5 * nRows sg → R (st : Int) H) : wave_Wave_Steps.C (some ⟨g, 0, none⟩) H R := by
  obtain ⟨st, h1, h⟩ := h
  exact Wave_Steps_spec h (hR st h1)
theorem WB_Size_spec (h : WB H g l sg F) {R : Int → Heap → Prop} (hR : R ((nRows sg * sizeB l.length : Nat) : Int) H) : wave_Wave_Size.C (some ⟨g, 0, none⟩) H R := by
  obtain ⟨st, h1, h⟩ := h
  exact Wave_Size_spec h hR
theorem WB_Rank_spec (h : WB H g l sg F) (k s : Int) {R : Int → Heap → Prop} (hR : ∀ H', WB H' g l sg F → Fr (fun k => k = g) H H' → R (cntZ l k.toNat s : Int) H') : wave_Wave_Rank.C (some ⟨g, 0, none⟩) k s H R := by
  have hb := h
  obtain ⟨st, hst, h⟩ := h
  refine Wave_Rank_spec h k s (fun s' H' e _ w f => ?_) (fun hs => ?_)
  · subst e
    have := hR H' ⟨_, by omega, w⟩ f
    rw [cntZ_nat] at this
    exact this
  · have := hR H hb (Fr.refl _ _)
    rw [cntZ_out hb.vals hs] at this
    exact this
theorem WB_Count_spec (h : WB H g l sg F) (lo hi s : Int) {R : Int → Heap → Prop} (hR : ∀ H', WB H' g l sg F → Fr (fun k => k = g) H H' → R (max ((cntZ l hi.toNat s : Int) - (cntZ l lo.toNat s : Int)) 0) H') : wave_Wave_Count.C (some ⟨g, 0, none⟩) lo hi s H R := by
  have hb := h
  obtain ⟨st, hst, h⟩ := h
  refine Wave_Count_spec h lo hi s (fun s' H' e _ w f => ?_) (fun hs => ?_)
  · subst e
    have := hR H' ⟨_, by omega, w⟩ f
    rw [cntZ_nat, cntZ_nat] at this
    exact this
  · have := hR H hb (Fr.refl _ _)
    rw [cntZ_out hb.vals hs, cntZ_out hb.vals hs] at this
    exact this
theorem WB_Select_spec (h : WB H g l sg F) (hd : Deb H) (hg : gl_bits_deBruijn64tab ≠ g) (j s : Int) (hj : -9223372036854775808 ≤ j ∧ j ≤ 9223372036854775807) {R : Int → Heap → Prop}
    (hR : ∀ x H', IsNth l 0 l.length s j x → WB H' g l sg F → Fr (fun k => k = g) H H' → R x H') : wave_Wave_Select.C (some ⟨g, 0, none⟩) j s H R := by
  have hb := h
  obtain ⟨st, hst, h⟩ := h
  obtain ⟨_, _, _, c3, z3⟩ := h.cells
  apply wave_Wave_Select.calls
  unfold wave_Wave_Select.W
  refine Wave_is_spec h s (brW_mk (fun hn => hR _ H (.out hb.vals ?_) hb (Fr.refl _ _)) (fun hn => ?_))
  · simp at hn
    omega
  · simp at hn
    obtain ⟨s', rfl⟩ : ∃ n : Nat, s = (n : Int) := ⟨s.toNat, by omega⟩
    refine ⟨_, rfl, ⟨_, c3⟩, z3, letV_mk fun H2 hH2 => ?_⟩
    obtain ⟨w2, f2⟩ := h.step 0 hH2
    refine Wave_rise_spec w2 (hd.keep f2 hg) hg (by omega) j hj (by omega) (fun i hi H3 st3 e1 e2 h3 w3 f3 => ?_) (fun H3 st3 hno h3 w3 f3 => ?_)
    · exact hR _ H3 (.sel (.inl ⟨i, hi, rfl, by omega, by rw [cntZ_nat]; exact e2⟩)) ⟨st3, by omega, w3⟩ (f2.trans f3 fun k hk => .inl hk)
    · refine hR _ H3 (.sel (.inr ⟨rfl, ?_⟩)) ⟨st3, by omega, w3⟩ (f2.trans f3 fun k hk => .inl hk)
      rw [cntZ_nat, List.take_length]
      exact hno
theorem WB_Nth_spec (h : WB H g l sg F) (hd : Deb H) (hg : gl_bits_deBruijn64tab ≠ g) (lo hi s j : Int) {R : Int → Heap → Prop}
    (hR : ∀ x H', IsNth l lo hi s j x → WB H' g l sg F → Fr (fun k => k = g) H H' → R x H') : wave_Wave_Nth.C (some ⟨g, 0, none⟩) lo hi s j H R := by
  have hb := h
  have hfew := h.few
  obtain ⟨st, hst, h⟩ := h
  obtain ⟨_, c1, _, c3, z3⟩ := h.cells
  apply wave_Wave_Nth.calls
  unfold wave_Wave_Nth.W
  refine joinW_thru (joinW_mk (fun q H' => H' = H ∧ (q.1 = true → IsNth l lo hi s j (-1)) ∧ (q.1 = false → 0 ≤ s ∧ s < (sg : Int) ∧ 0 ≤ j ∧ j < (l.length : Int))) ?_ ?_)
  · refine Wave_is_spec h s (brW_mk (fun hn => ⟨rfl, fun _ => .out hb.vals ?_, fun h => by cases h⟩) (fun hn => ?_))
    · simp at hn
      omega
    · simp at hn
      refine brW_dec (fun h0 => ⟨rfl, fun _ => .none (.inl h0), fun h => by cases h⟩) (fun h0 => ⟨_, rfl, _, c1, rfl, fun h => .none (.inr (of_decide_eq_true h)), fun h => ⟨hn.1, hn.2, by omega, by have := of_decide_eq_false h; omega⟩⟩)
  rintro ⟨q, _⟩ _ ⟨rfl, hq1, hq2⟩
  dsimp only at hq1 hq2 ⊢
  refine brW_mk (fun hq => hR _ _ (hq1 hq) hb (Fr.refl _ _)) (fun hq => ?_)
  obtain ⟨hs0, hs1, hj0, hj1⟩ := hq2 hq
  obtain ⟨s', rfl⟩ : ∃ n : Nat, s = (n : Int) := ⟨s.toNat, by omega⟩
  refine ⟨_, rfl, ⟨_, c3⟩, z3, letV_mk fun H2 hH2 => ?_⟩
  obtain ⟨w2, f2⟩ := h.step 0 hH2
  have hd2 := hd.keep f2 hg
  have hlo : (l.take lo.toNat).count s' ≤ l.length := Nat.le_trans List.count_le_length (by simp; omega)
  refine Wave_rank_spec w2 (by omega) lo (by omega) fun H3 w3 f3 => ?_
  rw [wrap_i64 (by omega) (by omega)]
  refine Wave_rise_spec w3 (hd2.keep f3 hg) hg (by have := nRows_le hfew.2.2; omega) _ (by omega) (by omega) (fun i hi' H4 st4 e1 e2 h4 w4 f4 => ?_) (fun H4 st4 hno h4 w4 f4 => ?_)
  · obtain ⟨_, c1', _⟩ := w4.cells
    have f04 := (f2.trans f3 fun k hk => .inl hk).trans f4 fun k hk => .inl hk
    have hw : WB H4 g l sg F := ⟨st4, by omega, w4⟩
    rw [← cntZ_nat, ← cntZ_nat] at e2
    have hloi : lo ≤ (i : Int) := by
      rcases Classical.em (lo ≤ (i : Int)) with h | h
      · exact h
      · have := cntZ_lt (s := (s' : Int)) hi' (by omega) (show i < lo.toNat by omega)
        omega
    refine ⟨_, rfl, _, c1', brW_dec (fun hm => hR _ H4 (.inr ⟨rfl, fun i' hi2 e1' e2' e3' e4' => ?_⟩) hw f04) (fun hm => hR _ H4 (.inl ⟨i, hi', rfl, by omega, hloi, by omega, e2⟩) hw f04)⟩
    have := cntZ_inj (s := (s' : Int)) hi' hi2 (by omega) e1' (by omega)
    omega
  · obtain ⟨_, c1', _⟩ := w4.cells
    have f04 := (f2.trans f3 fun k hk => .inl hk).trans f4 fun k hk => .inl hk
    have hw : WB H4 g l sg F := ⟨st4, by omega, w4⟩
    have no : IsNth l lo hi (s' : Int) j (-1) := .inr ⟨rfl, fun i hi' e1 e2 e3 e4 => by
      have := cntZ_lt (s := (s' : Int)) hi' e1 hi'
      have h2 : cntZ l l.length (s' : Int) = l.count s' := by rw [cntZ_nat, List.take_length]
      have h3 : cntZ l lo.toNat (s' : Int) = (l.take lo.toNat).count s' := cntZ_nat _ _ _
      omega⟩
    exact ⟨_, rfl, _, c1', brW_dec (fun _ => hR _ H4 no hw f04) (fun _ => hR _ H4 no hw f04)⟩
theorem Wave_Nth_nil {lo hi s j : Int} {R : Int → Heap → Prop} (hR : R (-1) H) : wave_Wave_Nth.C none lo hi s j H R := by
  apply wave_Wave_Nth.calls
  unfold wave_Wave_Nth.W
  refine joinW_thru (joinW_thru ?_)
  apply wave_Wave_is.calls
  unfold wave_Wave_is.W
  exact brW_false rfl (brW_true rfl (brW_true rfl hR))
theorem Wave_Len_nil {R : Int → Heap → Prop} (hR : R 0 H) : wave_Wave_Len.C none H R := by
  apply wave_Wave_Len.calls
  unfold wave_Wave_Len.W
  exact brW_true rfl hR
end
end Go.Proofs.YtkjgbophokcdbaaDoor
