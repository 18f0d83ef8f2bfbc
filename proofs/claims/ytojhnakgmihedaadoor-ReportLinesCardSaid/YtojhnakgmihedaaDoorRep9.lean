import Derived.Test.YtojhnakgmihedaaDoorRep8
/-! Package report: what a made tree goes through: levels pushed, names given, attributes made. -/
namespace Go.Ev
theorem uriSet (L : List At) {i : Nat} (hi : i < L.length) (u : ByteArray) : ((L.set i { L[i] with c := u }).map atL).flatten = (L.map atL).flatten.set (i * 4 + 2) (.string u) := by
  have hx : ∀ (M : List At), ∀ x ∈ M.map atL, x.length = 4 := fun M x hx => by obtain ⟨n, _, rfl⟩ := List.mem_map.1 hx; rfl
  apply List.ext_getElem?
  intro k
  by_cases hk : k < L.length * 4
  · have h1 : k / 4 < L.length := by omega
    have hm : k % 4 < 4 := Nat.mod_lt _ (by decide)
    have e : k / 4 * 4 + k % 4 = k := by omega
    have a1 := flatS (s := 4) ((L.set i { L[i] with c := u }).map atL) (hx _) (i := k / 4) (j := k % 4) (by simpa using h1) hm
    have a2 := flatS (s := 4) (L.map atL) (hx _) (i := k / 4) (j := k % 4) (by simpa using h1) hm
    rw [e] at a1 a2
    rw [a1, List.getElem?_set, a2, List.getElem_map, List.getElem_map, List.getElem_set]
    by_cases hi4 : i = k / 4
    · subst hi4
      rw [if_pos rfl]
      by_cases hk2 : k % 4 = 2
      · have hlt : k / 4 * 4 + 2 < ((L.map atL).flatten).length := by
          rw [flatS_len (s := 4) _ (hx _), List.length_map]; omega
        rw [if_pos (by omega), if_pos hlt, hk2]
        rfl
      · rw [if_neg (by omega)]
        generalize k % 4 = j at hm hk2
        match j, hm, hk2 with
        | 0, _, _ => rfl
        | 1, _, _ => rfl
        | 2, _, h => exact absurd rfl h
        | 3, _, _ => rfl
        | j + 4, h, _ => omega
    · rw [if_neg hi4, if_neg (by omega)]
  · have l1 : ((L.set i { L[i] with c := u }).map atL).flatten.length = L.length * 4 := by rw [flatS_len (s := 4) _ (hx _), List.length_map, List.length_set]
    have l2 : ((L.map atL).flatten.set (i * 4 + 2) (.string u)).length = L.length * 4 := by rw [List.length_set, flatS_len (s := 4) _ (hx _), List.length_map]
    rw [List.getElem?_eq_none (by omega), List.getElem?_eq_none (by omega)]
theorem SlN.putC {H : Heap} {t : TypeId} {L : List At} {p : Option Addr} {l c : Nat} (h : SlN 4 H t (L.map atL).flatten p l c) {i : Nat} (hi : i < L.length) (u : ByteArray) :
    ∃ a, p = some a ∧ (∃ v, hcell H ((a.add (i * 4)).add 2) = some v) ∧ hfrozen H ((a.add (i * 4)).add 2) = false ∧
      ∀ H1, H1 = hset H ((a.add (i * 4)).add 2) (.string u) → SlN 4 H1 t ((L.set i { L[i] with c := u }).map atL).flatten p l c ∧ Fr (blkIs p) H H1 := by
  have hx : ∀ x ∈ L.map atL, x.length = 4 := fun x hx => by obtain ⟨n, _, rfl⟩ := List.mem_map.1 hx; rfl
  have hl := h.1
  rw [flatS_len (s := 4) _ hx, List.length_map] at hl
  rcases h.2 with ⟨rfl, rfl, rfl⟩ | ⟨b, cs, rfl, hb, hsz, hlc, hc⟩
  · omega
  · have hlt : i * 4 + 2 < cs.size := by omega
    refine ⟨_, rfl, ?_⟩
    rw [Addr.add_add]
    refine ⟨⟨cs[i * 4 + 2], by rw [hcell_add hb, Nat.zero_add]; exact Array.getElem?_eq_getElem hlt⟩, hfrozen_add hb 0 _, fun H1 h1 => ⟨⟨?_, .inr ⟨b, cs.setIfInBounds (i * 4 + 2) (.string u), rfl, ?_, by simpa using hsz, hlc, fun k hk => ?_⟩⟩, ?_⟩⟩
    · rw [uriSet L hi, List.length_set]; exact h.1
    · rw [h1, hset_add_same hb, Nat.zero_add]
    · rw [uriSet L hi, Array.getElem?_setIfInBounds, List.getElem?_set, hc k hk, h.1]
      by_cases hik : i * 4 + 2 = k
      · rw [if_pos hik, if_pos hik, if_pos (by omega), if_pos (by omega)]
      · rw [if_neg hik, if_neg hik]
    · rw [h1, add_mk]
      exact (Fr.set H _ _).mono fun k hk => ⟨_, rfl, hk.symm⟩
theorem set_good {L : List At} {i : Nat} (hi : i < L.length) {u : ByteArray} (hu : u.size ≤ 100) (h : ∀ q ∈ L, AttOk q) : ∀ q ∈ L.set i { L[i] with c := u }, AttOk q := by
  intro q hq
  rcases List.mem_or_eq_of_mem_set hq with hq | rfl
  · exact h q hq
  · obtain ⟨h1, h2, h3, h4, h5⟩ := h _ (List.getElem_mem hi)
    exact ⟨h1, h2, hu, h4, h5⟩
theorem tmodB (z : Int) {N : Int} (hN : 0 < N) : 0 ≤ Int.tmod (IntKind.u64.wrap z) N ∧ Int.tmod (IntKind.u64.wrap z) N < N :=
  ⟨Int.tmod_nonneg _ (wrap_u64_range z).1, Int.tmod_lt_of_pos _ hN⟩
theorem pick {H : Heap} {b : Nat} {t : TypeId} (ss : List ByteArray) (h : H[b]? = some (.cells (ss.map Value.string).toArray t (0, 0))) {k : Nat} (hk : k < ss.length) : hcell H ((⟨b, 0, none⟩ : Addr).add k) = some (.string ss[k]) := by
  rw [hcell_add h, Nat.zero_add, List.getElem?_toArray, List.getElem?_map, List.getElem?_eq_getElem hk]
  rfl
theorem pickG {H : Heap} {b : Nat} {t : TypeId} (ss : List ByteArray) (h : H[b]? = some (.cells (ss.map Value.string).toArray t (0, 0))) {i : Int} (h0 : 0 ≤ i) (h1 : i < (ss.length : Int)) : ∃ s, s ∈ ss ∧ hcell H ((⟨b, 0, none⟩ : Addr).add i.toNat) = some (.string s) := by
  have hk : i.toNat < ss.length := by omega
  exact ⟨_, List.getElem_mem hk, pick ss h hk⟩
theorem attOk {a b c d : ByteArray} (ha : a.size ≤ 100) (hb : b.size ≤ 100) (hc : c.size ≤ 100) (hd : d.size ≤ 100) (h : (a = ⟨#[120, 109, 108, 110, 115]⟩ ∨ a = ⟨#[]⟩ ∧ b = ⟨#[120, 109, 108, 110, 115]⟩) → GoodS d) : AttOk ⟨a, b, c, d⟩ := ⟨ha, hb, hc, hd, h⟩
end Go.Ev
namespace Go.Proofs.YtojhnakgmihedaaDoor
open Go.Ev
set_option linter.unusedVariables false
abbrev zAt : Value := .agg #[.string (⟨#[]⟩ : ByteArray), .string (⟨#[]⟩ : ByteArray), .string (⟨#[]⟩ : ByteArray), .string (⟨#[]⟩ : ByteArray)]
/-- Attributes that were made behind H. -/
def AtNew (H : Heap) (j : Nat) (p : Option Addr) (l c : Nat) (H' : Heap) : Prop := ∃ L : List At, SlN 4 H' ty_api_Attr (L.map atL).flatten p l c ∧ l ≤ j ∧ (∀ q ∈ L, AttOk q) ∧ (∀ k, blkIs p k → Array.size H ≤ k) ∧ Fr noF H H'
theorem AtNew.app {H H2 : Heap} {j : Nat} {p : Option Addr} {l c : Nat} (h : AtNew H j p l c H2) (hj : j ≤ 100) (q : At) (hq : AttOk q) {H3 : Heap} {t1 : TypeId} (h3 : H3 = hnew H2 (atL q).toArray t1) {K : Option Addr → Nat → Nat → Heap → Prop} (hK : ∀ p' l' c' H', AtNew H (j + 1) p' l' c' H' → K p' l' c' H') :
    appW ty_api_Attr 4 64 zAt p l c (.slice (some ⟨Array.size H2, 0, none⟩) 1 1) H3 K := by
  obtain ⟨L, h1, h2, h4, h5, h6⟩ := h
  refine appN1 (new := atL q) h1 h3 rfl rfl (atL_one1 q) (by omega) (by decide) fun p' c' H' a b d => hK p' (l + 1) c' H' ⟨L ++ [q], by rw [← flat_snoc]; exact a, by omega, ?_, ?_, h6.trans b fun k hk => .inr (h5 k hk)⟩
  · intro x hx
    rcases List.mem_append.1 hx with hx | hx
    · exact h4 x hx
    · rw [List.mem_singleton.1 hx]; exact hq
  · intro k hk
    rcases d k hk with hk | hk
    · exact h5 k hk
    · exact Nat.le_trans h6.size hk
theorem AtNew.up {H H' : Heap} {j : Nat} {p : Option Addr} {l c : Nat} (h : AtNew H j p l c H') : AtNew H (j + 1) p l c H' := by
  obtain ⟨L, h1, h2, h4, h5, h6⟩ := h
  exact ⟨L, h1, by omega, h4, h5, h6⟩
theorem AtNew.old {H H' H'' : Heap} {j : Nat} {p : Option Addr} {l c : Nat} (h : AtNew H j p l c H') (hf : Fr noF H' H'') : AtNew H j p l c H'' := by
  obtain ⟨L, h1, h2, h4, h5, h6⟩ := h
  exact ⟨L, h1.old hf, h2, h4, h5, h6.trans0 hf⟩
theorem attrs_spec {H : Heap} (u : Int) {R : Option Addr → Nat → Nat → Heap → Prop} (hR : ∀ p l c H', AtNew H 6 p l c H' → R p l c H') : brackenlaw16_attrs.C u H R := by
  apply brackenlaw16_attrs.calls
  unfold brackenlaw16_attrs.W
  have a0 : AtNew H 0 none 0 0 H := ⟨[], SlN.nil _ _ _, Nat.le_refl _, by simp, (by rintro k ⟨a, ha, _⟩; cases ha), Fr.refl _ _⟩
  refine joinW_mk (fun (q : (Option Addr × Nat × Nat) × Unit) H' => AtNew H 1 q.1.1 q.1.2.1 q.1.2.2 H') ?_ ?_
  · refine brW_mk (fun _ => letV_mk fun H2 h2 => ⟨by decide, by decide, ?_⟩) (fun _ => a0.up)
    have f2 : Fr noF H H2 := by rw [h2]; exact Fr.new _ _ _
    have g2 := new_part h2
    clear h2
    obtain ⟨b1, b2⟩ := tmodB (Int.tdiv u 2) (N := 2) (by decide)
    obtain ⟨s, hs, hc⟩ := pickG [⟨#[117]⟩, ⟨#[118]⟩] g2 b1 b2
    have hg : GoodS s := by
      simp only [List.mem_cons, List.not_mem_nil, or_false] at hs
      rcases hs with rfl | rfl <;> exact ⟨by decide, by decide⟩
    refine ⟨_, rfl, b1, b2, _, hc, letV_mk fun H3 h3 => ?_⟩
    exact (a0.old f2).app (by decide) ⟨_, _, _, _⟩ (attOk (by decide) (by decide) (by decide) hg.1 fun _ => hg) h3 fun p l c H' h => h
  rintro ⟨⟨p1, l1, c1⟩, _⟩ H1 a1
  dsimp only at a1 ⊢
  refine joinW_mk (fun (q : (Option Addr × Nat × Nat) × Unit) H' => AtNew H 2 q.1.1 q.1.2.1 q.1.2.2 H') ?_ ?_
  · refine brW_mk (fun _ => letV_mk fun H2 h2 => ⟨by decide, by decide, ?_⟩) (fun _ => a1.up)
    have f2 : Fr noF H1 H2 := by rw [h2]; exact Fr.new _ _ _
    have g2 := new_part h2
    clear h2
    obtain ⟨b1, b2⟩ := tmodB (Int.tdiv u 8) (N := 3) (by decide)
    obtain ⟨s, hs, hc⟩ := pickG [⟨#[117]⟩, ⟨#[]⟩, ⟨#[119]⟩] g2 b1 b2
    have hg : GoodS s := by
      simp only [List.mem_cons, List.not_mem_nil, or_false] at hs
      rcases hs with rfl | rfl | rfl <;> exact ⟨by decide, by decide⟩
    refine ⟨_, rfl, b1, b2, _, hc, letV_mk fun H3 h3 => ?_⟩
    exact (a1.old f2).app (by decide) ⟨_, _, _, _⟩ (attOk (by decide) (by decide) (by decide) hg.1 fun _ => hg) h3 fun p l c H' h => h
  clear a1
  rintro ⟨⟨p1, l1, c1⟩, _⟩ H1 a1
  dsimp only at a1 ⊢
  refine joinW_mk (fun (q : (Option Addr × Nat × Nat) × Unit) H' => AtNew H 3 q.1.1 q.1.2.1 q.1.2.2 H') ?_ ?_
  · refine brW_mk (fun _ => letV_mk fun H2 h2 => ⟨by decide, by decide, ?_⟩) (fun _ => a1.up)
    have f2 : Fr noF H1 H2 := by rw [h2]; exact Fr.new _ _ _
    have g2 := new_part h2
    clear h2
    obtain ⟨b1, b2⟩ := tmodB (Int.tdiv u 32) (N := 4) (by decide)
    obtain ⟨s, hs, hc⟩ := pickG [⟨#[49]⟩, ⟨#[32, 10, 9]⟩, ⟨#[60, 34, 38, 62]⟩, ⟨#[13]⟩] g2 b1 b2
    have hg : s.size ≤ 100 := by
      simp only [List.mem_cons, List.not_mem_nil, or_false] at hs
      rcases hs with rfl | rfl | rfl | rfl <;> decide
    refine ⟨_, rfl, b1, b2, _, hc, letV_mk fun H3 h3 => ?_⟩
    exact (a1.old f2).app (by decide) ⟨_, _, _, _⟩ (attOk (by decide) (by decide) (by decide) hg fun h => absurd h (by decide)) h3 fun p l c H' h => h
  clear a1
  rintro ⟨⟨p1, l1, c1⟩, _⟩ H1 a1
  dsimp only at a1 ⊢
  refine joinW_mk (fun (q : (Option Addr × Nat × Nat) × Unit) H' => AtNew H 4 q.1.1 q.1.2.1 q.1.2.2 H') ?_ ?_
  · refine brW_mk (fun _ => letV_mk fun H3 h3 => ?_) (fun _ => a1.up)
    exact a1.app (by decide) ⟨_, _, _, _⟩ (attOk (by decide) (by decide) (by decide) (by decide) fun _ => ⟨by decide, by decide⟩) h3 fun p l c H' h => h
  clear a1
  rintro ⟨⟨p1, l1, c1⟩, _⟩ H1 a1
  dsimp only at a1 ⊢
  refine joinW_mk (fun (q : (Option Addr × Nat × Nat) × Unit) H' => AtNew H 5 q.1.1 q.1.2.1 q.1.2.2 H') ?_ ?_
  · refine brW_mk (fun _ => letV_mk fun H3 h3 => ?_) (fun _ => a1.up)
    exact a1.app (by decide) ⟨_, _, _, _⟩ (attOk (by decide) (by decide) (by decide) (by decide) fun _ => ⟨by decide, by decide⟩) h3 fun p l c H' h => h
  clear a1
  rintro ⟨⟨p1, l1, c1⟩, _⟩ H1 a1
  dsimp only at a1 ⊢
  refine joinW_mk (fun (q : (Option Addr × Nat × Nat) × Unit) H' => AtNew H 6 q.1.1 q.1.2.1 q.1.2.2 H') ?_ ?_
  · refine brW_mk (fun _ => letV_mk fun H3 h3 => ?_) (fun _ => a1.up)
    exact a1.app (by decide) ⟨_, _, _, _⟩ (attOk (by decide) (by decide) (by decide) (by decide) fun _ => ⟨by decide, by decide⟩) h3 fun p l c H' h => h
  clear a1
  rintro ⟨⟨p1, l1, c1⟩, _⟩ H1 a1
  exact hR _ _ _ _ a1
end Go.Proofs.YtojhnakgmihedaaDoor
