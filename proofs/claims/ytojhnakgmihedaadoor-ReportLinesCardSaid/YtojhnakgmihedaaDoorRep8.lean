import Derived.Test.YtojhnakgmihedaaDoorRep7
/-! Package report: what a made tree goes through: scopes, names. -/
namespace Go.Ev
theorem atL_one (L : List At) : ∀ v ∈ (L.map atL).flatten, One v := by
  intro v hv
  obtain ⟨x, hx, hv⟩ := List.mem_flatten.1 hv
  obtain ⟨q, _, rfl⟩ := List.mem_map.1 hx
  simp only [atL, List.mem_cons, List.not_mem_nil, or_false] at hv
  rcases hv with rfl | rfl | rfl | rfl <;> exact ⟨by simp, by simp⟩
theorem atL_one1 (q : At) : ∀ v ∈ atL q, One v := fun v hv => atL_one [q] v (by simpa using hv)
theorem flat_snoc (L : List At) (q : At) : (L.map atL).flatten ++ atL q = ((L ++ [q]).map atL).flatten := by simp
theorem AtRd.cells {H : Heap} {L : List At} {p : Option Addr} {l : Nat} (h : AtRd H L p l) : ∀ a, p = some a → ∀ j v, ((L.map atL).flatten)[j]? = some v → hcell H (a.add j) = some v := by
  intro a ha j v hj
  have hlt := (List.getElem?_eq_some_iff.1 hj).1
  rw [flatS_len (s := 4) _ (fun x hx => by obtain ⟨n, _, rfl⟩ := List.mem_map.1 hx; rfl), List.length_map] at hlt
  have hi : j / 4 < L.length := by omega
  have hm : j % 4 < 4 := Nat.mod_lt _ (by decide)
  obtain ⟨b, hb, hc⟩ := h.2 (j / 4) hi
  obtain rfl := Option.some.inj (ha.symm.trans hb)
  have h1 := hc (j % 4) hm
  have e : j / 4 * 4 + j % 4 = j := by omega
  have h2 : (a.add (j / 4 * 4)).add (j % 4) = a.add j := by rw [Addr.add_add, e]
  rw [h2] at h1
  rw [h1, ← hj]
  have := flatS (s := 4) (L.map atL) (fun x hx => by obtain ⟨n, _, rfl⟩ := List.mem_map.1 hx; rfl) (i := j / 4) (j := j % 4) (by simpa using hi) hm
  rw [e] at this
  rw [this, List.getElem_map]
end Go.Ev
namespace Go.Proofs.YtojhnakgmihedaaDoor
open Go.Ev
set_option linter.unusedVariables false
/-- A scope: its levels; F: the blocks it leans on. -/
structure ScOk (H : Heap) (g : Nat) (F : Nat → Prop) (l : Nat) (p : Option Addr) (c : Nat) (lv : List (Option Addr × Nat × Nat)) : Prop where
  blk : H[g]? = some (.cells #[.slice p l c] ty_brackenref10_Scope (0, 0))
  sl : Sl H ty_s_api_Attr (lv.map lvV) p l c
  fp : ∀ k, blkIs p k → F k ∧ k ≠ g
  lev : ∀ x ∈ lv, LvOk H g F x
  fg : F g
  lt : ∀ k, F k → k < Array.size H
def Sc (H : Heap) (g : Nat) (F : Nat → Prop) (l : Nat) : Prop := ∃ p c lv, ScOk H g F l p c lv
theorem Sc.keep {H H' : Heap} {g l : Nat} {F G : Nat → Prop} (h : Sc H g F l) (hf : Fr G H H') (hd : ∀ k, F k → ¬ G k) : Sc H' g F l := by
  obtain ⟨p, c, lv, h⟩ := h
  refine ⟨p, c, lv, hf.blk h.blk (hd _ h.fg), h.sl.keep hf (fun k hk => hd _ (h.fp k hk).1), h.fp, fun x hx => ?_, h.fg, fun k hk => Nat.lt_of_lt_of_le (h.lt k hk) hf.size⟩
  obtain ⟨L, h1, h2, h3, h4⟩ := h.lev x hx
  exact ⟨L, h1.keep hf (fun k hk => hd _ (h4 k hk).1), h2, h3, h4⟩
theorem Sc.old {H H' : Heap} {g l : Nat} {F : Nat → Prop} (h : Sc H g F l) (hf : Fr noF H H') : Sc H' g F l := h.keep hf fun _ _ h => h
theorem Sc.new {H H1 : Heap} (h : H1 = hnew H #[.slice none 0 0] ty_brackenref10_Scope) : Sc H1 (Array.size H) (fun k => k = Array.size H) 0 := by
  refine ⟨none, 0, [], new_part h, Sl.nil _ _, ?_, by simp, rfl, fun k hk => ?_⟩
  · rintro k ⟨a, ha, _⟩; cases ha
  · rw [h, hnew_size]; omega
theorem Pop_spec {H : Heap} {g l : Nat} {F : Nat → Prop} (h : Sc H g F l) (hl : l ≤ 1048576) {R : Bool → Heap → Prop} (hR : ∀ b H', Sc H' g F (l - 1) → Fr (fun k => k = g) H H' → R b H') : brackenref10_Scope_Pop.C (some ⟨g, 0, none⟩) H R := by
  have h0 := h
  obtain ⟨p, c, lv, h⟩ := h
  apply brackenref10_Scope_Pop.calls
  unfold brackenref10_Scope_Pop.W
  have hc := (hcell_add h.blk 0 0).trans rfl
  have hcap := h.sl.cap
  refine ⟨_, rfl, _, _, _, hc, brW_dec (fun h1 => ?_) (fun h1 => ?_)⟩
  · obtain rfl : l = 0 := by omega
    exact hR _ _ h0 (Fr.refl _ _)
  · have e1 : IntKind.i64.wrap ((l : Int) - 1) = ((l - 1 : Nat) : Int) := by rw [wrap_i64 (by omega) (by omega)]; omega
    refine ⟨_, rfl, _, _, _, hc, _, rfl, _, _, _, hc, ?_⟩
    show 0 ≤ IntKind.i64.wrap ((l : Int) - 1) ∧ IntKind.i64.wrap ((l : Int) - 1) ≤ (c : Int) ∧ _
    rw [e1]
    refine ⟨by omega, by omega, _, rfl, ⟨_, hc⟩, hfrozen_add h.blk 0 0, letV_mk fun H1 h1 => ?_⟩
    have ep : (if c = 0 then p else Option.map (fun q : Addr => q.add 0) p) = p := by
      split
      · rfl
      · cases p with
        | none => rfl
        | some a => simp [add_zero]
    have h1 : H1 = hset H ((⟨g, 0, none⟩ : Addr).add 0) (.slice p (l - 1) c) := by
      rw [h1]
      show hset H _ (.slice (if c = 0 then p else Option.map (fun q : Addr => q.add 0) p) (((l - 1 : Nat) : Int).toNat - 0) (c - 0)) = _
      rw [ep, Int.toNat_natCast, Nat.sub_zero, Nat.sub_zero]
    have g1 := set_blk h1 h.blk
    have f1 := set_fr h1
    refine hR _ _ ⟨p, c, lv.take (l - 1), g1, ?_, h.fp, fun x hx => ?_, h.fg, fun k hk => Nat.lt_of_lt_of_le (h.lt k hk) f1.size⟩ f1
    · have hs := h.sl.keep f1 (fun k hk => (h.fp k hk).2)
      have hlen : lv.length = l := by simpa using hs.1
      refine ⟨by simp [hlen], ?_⟩
      rcases hs.2 with ⟨hp, hl0, _⟩ | ⟨b, cs, hp, hb, hsz, hlc, hcs⟩
      · omega
      · refine .inr ⟨b, cs, hp, hb, hsz, by omega, fun i hi => ?_⟩
        rw [hcs i (by omega), List.map_take, List.getElem?_take, if_pos hi]
    · obtain ⟨L, k1, k2, k3, k4⟩ := h.lev x (List.mem_of_mem_take hx)
      exact ⟨L, k1.keep f1 (fun k hk => (k4 k hk).2), k2, k3, k4⟩
theorem good_xml : GoodS (⟨#[104, 116, 116, 112, 58, 47, 47, 119, 119, 119, 46, 119, 51, 46, 111, 114, 103, 47, 88, 77, 76, 47, 49, 57, 57, 56, 47, 110, 97, 109, 101, 115, 112, 97, 99, 101]⟩ : ByteArray) := ⟨by decide, by decide⟩
theorem good_nil : GoodS (⟨#[]⟩ : ByteArray) := ⟨by decide, by decide⟩
theorem URI_spec {H : Heap} {g l : Nat} {F : Nat → Prop} (h : Sc H g F l) (hl : l ≤ 1048576) (x : ByteArray) {R : ByteArray → Bool → Heap → Prop} (hR : ∀ u b H', GoodS u → Fr noF H H' → R u b H') : brackenref10_Scope_URI.C (some ⟨g, 0, none⟩) x H R := by
  obtain ⟨p, c, lv, h⟩ := h
  apply brackenref10_Scope_URI.calls
  unfold brackenref10_Scope_URI.W
  have hlv : lv.length = l := by simpa using h.sl.1
  have cell : ∀ {H'}, Fr noF H H' → hcell H' ((⟨g, 0, none⟩ : Addr).add 0) = some (.slice p l c) := fun hf => (hcell_add (hf.blk h.blk fun h => h) 0 0).trans rfl
  refine brW_mk (fun _ => hR _ _ _ good_xml (Fr.refl _ _)) (fun _ => ?_)
  refine joinW_mk (fun _ H' => Fr noF H H') ?_ ?_
  · refine ⟨_, rfl, _, _, _, cell (Fr.refl _ _), letV_mk fun i0 hi0 => ?_⟩
    have hi0 : i0 = (l : Int) - 1 := by rw [hi0, wrap_i64 (by omega) (by omega)]
    subst hi0
    refine loopW_mk (fun t (q : Int × Unit) H' => Fr noF H H' ∧ t ≤ l ∧ q.1 = (t : Int) - 1) l ⟨Fr.refl _ _, Nat.le_refl _, rfl⟩ ?_
    rintro t ⟨i', _⟩ H2 ⟨hf, ht, hi⟩
    simp only at hi
    subst hi
    dsimp only
    refine brW_dec (fun h0 => ?_) (fun _ => hf)
    have ht1 : t - 1 < lv.length := by omega
    have ei : ((t : Int) - 1).toNat = t - 1 := by omega
    obtain ⟨L, hL, hL8, hLg, hLk⟩ := h.lev _ (List.getElem_mem ht1)
    have rd : ∀ {H'}, Fr noF H H' → ∃ a, p = some a ∧ hcell H' (a.add (t - 1)) = some (lvV lv[t - 1]) := fun hf => (h.sl.rd.old hf).get (by rw [List.getElem?_map, List.getElem?_eq_getElem ht1]; rfl)
    refine joinW_mk (fun _ H' => Fr noF H H') ?_ ?_
    · refine loopW_mk (fun s (q : Int × Unit) H' => Fr noF H H' ∧ ∃ k : Nat, k ≤ lv[t - 1].2.1 ∧ s = lv[t - 1].2.1 - k ∧ q.1 = (k : Int)) lv[t - 1].2.1 ⟨hf, 0, Nat.zero_le _, rfl, rfl⟩ ?_
      rintro s ⟨k', _⟩ H4 ⟨hf4, k, hk, rfl, hk'⟩
      simp only at hk'
      subst hk'
      dsimp only
      obtain ⟨a, ha, hca⟩ := rd hf4
      refine ⟨_, rfl, _, _, _, cell hf4, a, ha, h0, by omega, _, _, _, by rw [ei]; exact hca, brW_dec (fun hlt => ?_) (fun _ => hf4)⟩
      have hkL : k < L.length := by have := hL.1; omega
      obtain ⟨b, hb, hcb⟩ := (hL.old hf4).2 k hkL
      refine ⟨_, rfl, _, _, _, cell hf4, a, ha, h0, by omega, _, _, _, by rw [ei]; exact hca, b, hb, by omega, hlt, ?_⟩
      rw [Int.toNat_natCast]
      refine readAtt L[k] hcb ?_
      refine Declares_any L[k] fun pr ok H5 f5 _ => ?_
      have f05 := hf4.trans0 f5
      refine brW_mk (fun _ => ?_) (fun _ => letV_mk fun y hy => ⟨lv[t - 1].2.1 - (k + 1), by omega, f05, k + 1, by omega, rfl, ?_⟩)
      · obtain ⟨a', ha', hca'⟩ := rd f05
        obtain ⟨b', hb', hcb'⟩ := (hL.old f05).2 k hkL
        refine ⟨_, rfl, _, _, _, cell f05, a', ha', h0, by omega, _, _, _, by rw [ei]; exact hca', b', hb', by omega, hlt, _, hcb' 3 (by omega), ?_⟩
        exact hR _ _ _ (hLg _ (List.getElem_mem hkL)).2.2.2 f05
      · show y = _
        rw [hy, wrap_i64 (by omega) (by omega)]; rfl
    · rintro _ H3 hf3
      refine letV_mk fun y hy => ⟨t - 1, by omega, hf3, by omega, ?_⟩
      show y = _
      rw [hy, wrap_i64 (by omega) (by omega)]
      omega
  · rintro _ H1 hf
    exact hR _ _ _ good_nil hf
end Go.Proofs.YtojhnakgmihedaaDoor
