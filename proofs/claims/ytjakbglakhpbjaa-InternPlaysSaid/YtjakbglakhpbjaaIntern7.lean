import Derived.Test.YtjakbglakhpbjaaIntern6
/-! Package intern: the document's table does the same. -/
namespace Go.Proofs.Ytjakbglakhpbjaa
open Go.Ev
set_option linter.unusedVariables false

abbrev strS (s : ByteArray) : Value := .string s
structure RTabAt (H : Heap) (g : Nat) (L : List ByteArray) (pl : List Int) (lk : Int) (lp : Option Addr) (lc : Nat) (pp : Option Addr) (pc : Nat) : Prop where
  blk : H[g]? = some (.cells #[.slice lp L.length lc, .slice pp pl.length pc, .int .i64 lk] ty_brackenref1_Table (0, 0))
  l : Sl H ty_string (L.map strS) lp L.length lc
  p : Sl H ty_int (pl.map intV) pp pl.length pc
section
variable {H : Heap} {g : Nat} {L : List ByteArray} {pl : List Int} {lk : Int} {lp pp : Option Addr} {lc pc : Nat}
theorem RTabAt.f0 (h : RTabAt H g L pl lk lp lc pp pc) : hcell H ((⟨g, 0, none⟩ : Addr).add 0) = some (.slice lp L.length lc) := (hcell_add h.blk 0 0).trans rfl
theorem RTabAt.f1 (h : RTabAt H g L pl lk lp lc pp pc) : hcell H ((⟨g, 0, none⟩ : Addr).add 1) = some (.slice pp pl.length pc) := (hcell_add h.blk 0 1).trans rfl
theorem RTabAt.f2 (h : RTabAt H g L pl lk lp lc pp pc) : hcell H ((⟨g, 0, none⟩ : Addr).add 2) = some (.int .i64 lk) := (hcell_add h.blk 0 2).trans rfl
theorem RTabAt.text (h : RTabAt H g L pl lk lp lc pp pc) {i : Nat} (hi : i < L.length) : ∃ a, lp = some a ∧ hcell H (a.add i) = some (strS L[i]) :=
  h.l.rd.get (by rw [List.getElem?_map, List.getElem?_eq_getElem hi]; rfl)
theorem RTabAt.place (h : RTabAt H g L pl lk lp lc pp pc) {i : Nat} (hi : i < pl.length) : ∃ a, pp = some a ∧ hcell H (a.add i) = some (.int .i64 pl[i]) :=
  h.p.rd.get (by rw [List.getElem?_map, List.getElem?_eq_getElem hi]; rfl)
theorem RTabAt.lne (h : RTabAt H g L pl lk lp lc pp pc) : ¬ blkIs lp g := h.l.ne h.blk (by decide)
theorem RTabAt.pne (h : RTabAt H g L pl lk lp lc pp pc) : ¬ blkIs pp g := h.p.ne h.blk (by decide)
theorem RTabAt.lpne (h : RTabAt H g L pl lk lp lc pp pc) : ∀ k, blkIs lp k → ¬ blkIs pp k := h.l.ne' h.p (by decide)
/-- The table with another number of places looked at. -/
theorem RTabAt.look (h : RTabAt H g L pl lk lp lc pp pc) (n : Int) : RTabAt (hset H ((⟨g, 0, none⟩ : Addr).add 2) (.int .i64 n)) g L pl n lp lc pp pc := by
  have hf : Fr (fun k => k = g) H (hset H ((⟨g, 0, none⟩ : Addr).add 2) (.int .i64 n)) := by
    rw [add_mk]; exact Fr.set H ⟨g, 0 + 2, none⟩ _
  refine ⟨?_, h.l.keep hf fun k hk e => h.lne (e ▸ hk), h.p.keep hf fun k hk e => h.pne (e ▸ hk)⟩
  rw [hset_add_same h.blk]
  rfl
theorem RTabAt.keep {F : Nat → Prop} {H' : Heap} (h : RTabAt H g L pl lk lp lc pp pc) (hf : Fr F H H') (h1 : ¬ F g) (h2 : ∀ k, blkIs lp k → ¬ F k) (h3 : ∀ k, blkIs pp k → ¬ F k) : RTabAt H' g L pl lk lp lc pp pc :=
  ⟨hf.blk h.blk h1, h.l.keep hf h2, h.p.keep hf h3⟩

theorem rlook_spec (h : RTabAt H g L pl lk lp lc pp pc) (hg : Good L pl) {s : ByteArray} (hs : s.size ≤ 140737488355328) {R : Int → Int → Heap → Prop}
    (hR : R ((placeF L pl s).1 : Int) ((placeF L pl s).2 : Int) H) : brackenref1_Table_look.C (some ⟨g, 0, none⟩) s H R := by
  apply brackenref1_Table_look.calls
  unfold brackenref1_Table_look.W
  refine ⟨_, rfl, _, _, _, h.f1, letV_mk fun m6 hm6 => ?_⟩
  subst hm6
  refine refHash_spec hs ?_
  have hlt := home_lt hg s
  have hlen := hg.len
  refine ⟨by rw [wrap_u64 (by omega) (by omega)]; omega, letV_mk fun at5 hat => ?_⟩
  rw [home_eq hg] at hat
  subst hat
  refine loopW_mk (fun n q H' => H' = H ∧ ∃ j a : Nat, (∀ k, k < j → 0 < pl.getD ((home pl s + k) % pl.length) 0) ∧ a = (home pl s + j) % pl.length ∧ q.1 = (a : Int) ∧ q.2.1 = ((1 + j : Nat) : Int) ∧ n = pl.length - j ∧
    probe L pl s (pl.length - j) a (1 + j) = placeF L pl s) pl.length
    ⟨rfl, 0, home pl s, by omega, by rw [Nat.add_zero, Nat.mod_eq_of_lt hlt], rfl, rfl, rfl, rfl⟩ ?_
  rintro n ⟨q, q2, _⟩ H2 ⟨rfl, j, a, hj, ha, hq, hq2, rfl, hp⟩
  simp only at hq hq2
  subst hq hq2
  dsimp only
  have hjl := free_step hg _ j hj
  have hal : a < pl.length := by rw [ha]; exact Nat.mod_lt _ (by omega)
  obtain ⟨ap, hap, hac⟩ := h.place hal
  have hx := getD_rng hg a
  have hgd : pl.getD a 0 = pl[a] := getD_of_lt hal 0
  have hxl := hg.texts
  have stop : ¬ (0 < pl.getD a 0 ∧ L.getD (pl.getD a 0 - 1).toNat ByteArray.empty ≠ s) → R (a : Int) ((1 + j : Nat) : Int) H2 := by
    intro hn
    rw [probe_stop hn] at hp
    rw [← hp] at hR
    exact hR
  refine joinW_thru (joinW_thru (joinW_thru ?_))
  refine ⟨_, rfl, _, _, _, h.f1, ap, hap, by omega, by omega, _, by rw [Int.toNat_natCast]; exact hac, ?_⟩
  refine brW_dec (fun h0 => ?_) (fun hne0 => ?_)
  · refine brW_true rfl (stop fun hc => ?_)
    rw [hgd] at hc
    omega
  · refine ⟨_, rfl, _, _, _, h.f0, _, rfl, _, _, _, h.f1, ap, hap, by omega, by omega, _, by rw [Int.toNat_natCast]; exact hac, ?_⟩
    have hidx : (pl[a] - 1).toNat < L.length := by omega
    obtain ⟨at_, hat_, hact⟩ := h.text hidx
    refine ⟨at_, hat_, by rw [wrap_i64 (by omega) (by omega)]; omega, by rw [wrap_i64 (by omega) (by omega)]; omega, _, by rw [wrap_i64 (by omega) (by omega)]; exact hact, ?_⟩
    refine brW_dec (fun heq => ?_) (fun hne => ?_)
    · refine stop fun hc => ?_
      rw [hgd, getD_of_lt hidx] at hc
      exact hc.2 heq
    · refine ⟨by omega, letV_mk fun at5 hat => letV_mk fun n8 hn8 => ?_⟩
      have hcond : 0 < pl.getD a 0 ∧ L.getD (pl.getD a 0 - 1).toNat ByteArray.empty ≠ s := by
        rw [hgd]
        refine ⟨by omega, ?_⟩
        rw [getD_of_lt hidx]
        exact hne
      have hj' : ∀ k, k < j + 1 → 0 < pl.getD ((home pl s + k) % pl.length) 0 := by
        intro k hk
        rcases Nat.lt_or_ge k j with h | h
        · exact hj k h
        · have : k = j := by omega
          subst this
          rw [← ha]; exact hcond.1
      have hjl' := free_step hg _ (j + 1) hj'
      refine ⟨pl.length - (j + 1), by omega, rfl, j + 1, (a + 1) % pl.length, hj', ?_, ?_, ?_, rfl, ?_⟩
      · rw [ha, Nat.mod_add_mod]; rfl
      · rw [hat, wrap_i64 (by omega) (by omega)]
        rfl
      · rw [hn8, wrap_i64 (by omega) (by omega)]
        rfl
      · rw [show pl.length - j = (pl.length - (j + 1)) + 1 by omega] at hp
        unfold probe at hp
        rw [if_pos hcond] at hp
        exact hp
end
/-- The document's table whose blocks are among F. -/
def RTab (H : Heap) (g : Nat) (L : List ByteArray) (pl : List Int) (lk : Int) (F : Nat → Prop) : Prop :=
  ∃ lp lc pp pc, RTabAt H g L pl lk lp lc pp pc ∧ F g ∧ (∀ k, blkIs lp k → F k) ∧ (∀ k, blkIs pp k → F k) ∧ ∀ k, F k → k < Array.size H
theorem RTab.keep {H H' : Heap} {g : Nat} {L : List ByteArray} {pl : List Int} {lk : Int} {F G : Nat → Prop} (h : RTab H g L pl lk F) (hf : Fr G H H') (hd : ∀ k, F k → ¬ G k) : RTab H' g L pl lk F := by
  obtain ⟨lp, lc, pp, pc, ht, h1, h2, h3, h4⟩ := h
  exact ⟨lp, lc, pp, pc, ht.keep hf (hd _ h1) (fun k hk => hd k (h2 k hk)) (fun k hk => hd k (h3 k hk)), h1, h2, h3, fun k hk => Nat.lt_of_lt_of_le (h4 k hk) hf.size⟩
section
variable {H : Heap} {g : Nat} {L : List ByteArray} {pl : List Int} {lk : Int} {F : Nat → Prop}
theorem rnew_spec {H : Heap} {R : Option Addr → Heap → Prop} (hR : ∀ g H', Array.size H ≤ g → RTab H' g [] (List.replicate 8 0) 0 (fun k => Array.size H ≤ k ∧ k < Array.size H') → Fr noF H H' → R (some ⟨g, 0, none⟩) H') : brackenref1_NewTable.C H R := by
  apply brackenref1_NewTable.calls
  unfold brackenref1_NewTable.W
  refine ⟨by decide, by decide, by decide, letV_mk fun H1 h1 => letV_mk fun H2 h2 => ?_⟩
  have f1 : Fr noF H H1 := by rw [h1]; exact Fr.new _ _ _
  have f2 : Fr noF H1 H2 := by rw [h2]; exact Fr.new _ _ _
  have hs1 : Array.size H1 = Array.size H + 1 := by rw [h1]; exact hnew_size
  have hs2 : Array.size H2 = Array.size H1 + 1 := by rw [h2]; exact hnew_size
  have hp : Sl H1 ty_int ((List.replicate 8 0).map intV) (some ⟨Array.size H, 0, none⟩) 8 8 := by
    rw [h1]
    have := Sl.made H ty_int (z := .int .i64 0) rfl 8
    exact this
  refine hR _ H2 (by omega) ⟨none, 0, some ⟨Array.size H, 0, none⟩, 8, ⟨?_, ?_, ?_⟩, ⟨by omega, by omega⟩, ?_, ?_, fun k hk => hk.2⟩ (f1.trans f2 (fun _ h => h.elim))
  · rw [h2]; exact hnew_same
  · exact Sl.nil _ _
  · exact hp.keep f2 (fun _ _ h => h)
  · rintro k ⟨a, ha, _⟩; cases ha
  · rintro k ⟨a, ha, rfl⟩; cases ha; exact ⟨Nat.le_refl _, by simp only; omega⟩
theorem rfind_spec (h : RTab H g L pl lk F) (hok : Ok L pl) {s : ByteArray} (hs : s.size ≤ 140737488355328) {R : Int → Bool → Heap → Prop}
    (hR : ∀ H', RTab H' g L pl ((placeF L pl s).2 : Int) F → Fr F H H' → R (findF L pl s).1 (findF L pl s).2 H') : brackenref1_Table_Find.C (some ⟨g, 0, none⟩) s H R := by
  obtain ⟨lp, lc, pp, pc, ht, F1, F2, F3, F4⟩ := h
  apply brackenref1_Table_Find.calls
  unfold brackenref1_Table_Find.W
  refine rlook_spec ht hok.good hs ?_
  refine ⟨_, rfl, ⟨_, ht.f2⟩, hfrozen_add ht.blk 0 2, letV_mk fun H1 hH1 => ?_⟩
  have h1 : RTabAt H1 g L pl ((placeF L pl s).2 : Int) lp lc pp pc := by rw [hH1]; exact ht.look _
  have f1 : Fr (fun k => k = g) H H1 := by rw [hH1]; exact look_fr H g _
  clear hH1
  have hlt := placeF_lt hok.good s
  obtain ⟨ap, hap, hac⟩ := h1.place hlt
  have hr := getD_rng hok.good (placeF L pl s).1
  have hgd := getD_of_lt hlt (0 : Int)
  have hfew := hok.few
  have f1' : Fr F H H1 := f1.mono fun k hk => by rw [hk]; exact F1
  have := hR H1 ⟨lp, lc, pp, pc, h1, F1, F2, F3, fun k hk => Nat.lt_of_lt_of_le (F4 k hk) f1.size⟩ f1'
  unfold findF at this
  refine ⟨_, rfl, _, _, _, h1.f1, ap, hap, by omega, by omega, _, by rw [Int.toNat_natCast]; exact hac, ?_⟩
  refine brW_dec (fun h0 => ?_) (fun hne => ?_)
  · rw [hgd, h0] at this
    exact this
  · refine ⟨_, rfl, _, _, _, h1.f1, ap, hap, by omega, by omega, _, by rw [Int.toNat_natCast]; exact hac, letV_mk fun x4 hx4 => ?_⟩
    rw [hgd, decide_eq_true (by omega), Int.max_eq_left (by omega)] at this
    rw [hx4, wrap_i64 (by omega) (by omega)]
    exact this
theorem rput_spec (h : RTab H g L pl lk F) (hok : Ok L pl) (hfew : L.length < 4294967296) {s : ByteArray} (hs : s.size ≤ 140737488355328) (hall : ∀ x ∈ L, x.size ≤ 140737488355328) {R : Int → Heap → Prop}
    (hR : ∀ H' F', RTab H' g (putF L pl s).2.1 (putF L pl s).2.2.1 ((putF L pl s).2.2.2 : Int) F' → Fr F H H' → (∀ k, F' k → F k ∨ Array.size H ≤ k) → R (putF L pl s).1 H') : brackenref1_Table_Put.C (some ⟨g, 0, none⟩) s H R := by
  obtain ⟨lp, lc, pp, pc, ht, F1, F2, F3, F4⟩ := h
  apply brackenref1_Table_Put.calls
  unfold brackenref1_Table_Put.W
  refine rlook_spec ht hok.good hs ?_
  refine ⟨_, rfl, ⟨_, ht.f2⟩, hfrozen_add ht.blk 0 2, letV_mk fun H1 hH1 => ?_⟩
  have h1 : RTabAt H1 g L pl ((placeF L pl s).2 : Int) lp lc pp pc := by rw [hH1]; exact ht.look _
  have f1 : Fr (fun k => k = g) H H1 := by rw [hH1]; exact look_fr H g _
  clear hH1
  have hlt := placeF_lt hok.good s
  obtain ⟨ap, hap, hac⟩ := h1.place hlt
  have hr := getD_rng hok.good (placeF L pl s).1
  have hgd := getD_of_lt hlt (0 : Int)
  have f1' : Fr F H H1 := f1.mono fun k hk => by rw [hk]; exact F1
  have hpm := hok.most
  refine ⟨_, rfl, _, _, _, h1.f1, ap, hap, by omega, by omega, _, by rw [Int.toNat_natCast]; exact hac, ?_⟩
  refine brW_dec (fun hpos => ?_) (fun hnp => ?_)
  · refine ⟨_, rfl, _, _, _, h1.f1, ap, hap, by omega, by omega, _, by rw [Int.toNat_natCast]; exact hac, letV_mk fun x4 hx4 => ?_⟩
    have e : putF L pl s = (pl.getD (placeF L pl s).1 0 - 1, L, pl, (placeF L pl s).2) := by
      unfold putF
      rw [if_pos (by rw [hgd]; exact hpos)]
    rw [e] at hR
    have := hR H1 F ⟨lp, lc, pp, pc, h1, F1, F2, F3, fun k hk => Nat.lt_of_lt_of_le (F4 k hk) f1.size⟩ f1' (fun k hk => .inl hk)
    rw [hx4, wrap_i64 (by omega) (by omega), ← hgd]
    exact this
  · refine ⟨_, rfl, _, _, _, h1.f0, ?_⟩
    refine app1 (t1 := ty_string) h1.l rfl ⟨by simp, by simp⟩ (by omega) (by decide) fun lp2 lc2 H3 hl2 fr2 hb2 => ?_
    have hg3 : H3[g]? = some (.cells #[.slice lp L.length lc, .slice pp pl.length pc, .int .i64 ((placeF L pl s).2 : Int)] ty_brackenref1_Table (0, 0)) := fr2.blk h1.blk h1.lne
    have hp3 : Sl H3 ty_int (pl.map intV) pp pl.length pc := h1.p.keep fr2 fun k hk hl => h1.lpne k hl hk
    refine ⟨_, rfl, ⟨_, (hcell_add hg3 0 0).trans rfl⟩, hfrozen_add hg3 0 0, letV_mk fun H4 h4 => ?_⟩
    have fr4 : Fr (fun k => k = g) H3 H4 := by rw [h4, add_mk]; exact Fr.set H3 ⟨g, 0 + 0, none⟩ _
    have hg4 : H4[g]? = some (.cells #[.slice lp2 (L.length + 1) lc2, .slice pp pl.length pc, .int .i64 ((placeF L pl s).2 : Int)] ty_brackenref1_Table (0, 0)) := by
      rw [h4, hset_add_same hg3]; rfl
    have hl4 : Sl H4 ty_string (L.map strS ++ [strS s]) lp2 (L.length + 1) lc2 := hl2.keep fr4 fun k hk e => hl2.ne hg3 (by decide) (e ▸ hk)
    have hp4 : Sl H4 ty_int (pl.map intV) pp pl.length pc := hp3.keep fr4 fun k hk e => hp3.ne hg3 (by decide) (e ▸ hk)
    have hmap : L.map strS ++ [strS s] = (L ++ [s]).map strS := by simp
    rw [hmap] at hl4
    have hlen1 : (L ++ [s]).length = L.length + 1 := by simp
    refine ⟨_, rfl, _, _, _, (hcell_add hg4 0 1).trans rfl, ?_⟩
    refine ⟨_, rfl, _, _, _, (hcell_add hg4 0 0).trans rfl, ?_⟩
    obtain ⟨ap4, hap4, hcell4, hfz4, hp5, fr5⟩ := hp4.store hlt (intV ((L.length : Int) + 1))
    refine ⟨ap4, hap4, by omega, by omega, by rw [Int.toNat_natCast]; exact hcell4, by rw [Int.toNat_natCast]; exact hfz4, letV_mk fun H5 h5 => ?_⟩
    rw [Int.toNat_natCast] at h5
    have h5 : H5 = hset H4 (ap4.add (placeF L pl s).1) (intV ((L.length : Int) + 1)) := h5
    rw [← h5] at hp5 fr5
    have hpne4 : ¬ blkIs pp g := hp4.ne hg4 (by decide)
    have hg5 := fr5.blk hg4 hpne4
    have hl5 : Sl H5 ty_string ((L ++ [s]).map strS) lp2 (L.length + 1) lc2 := hl4.keep fr5 fun k hk hq => hl4.ne' hp4 (by decide) k hk hq
    rw [set_map intV] at hp5
    -- the frame till here
    have frA : Fr F H H5 := by
      have a1 : Fr F H1 H3 := fr2.mono fun k hk => F2 k hk
      have a2 : Fr F H3 H4 := fr4.mono fun k hk => by rw [hk]; exact F1
      have a3 : Fr F H4 H5 := fr5.mono fun k hk => F3 k hk
      exact ((f1'.trans a1 (fun k hk => .inl hk)).trans a2 (fun k hk => .inl hk)).trans a3 (fun k hk => .inl hk)
    have hlpF : ∀ k, blkIs lp2 k → F k ∨ Array.size H ≤ k := fun k hk => by
      rcases hb2 k hk with h | h
      · exact .inl (F2 k h)
      · exact .inr (Nat.le_trans f1.size h)
    -- what stands behind
    have fin : ∀ (H6 : Heap) (pl6 : List Int) (pp6 : Option Addr) (pc6 : Nat), RTabAt H6 g (L ++ [s]) pl6 ((placeF L pl s).2 : Int) lp2 lc2 pp6 pc6 → Fr F H H6 → (∀ k, blkIs pp6 k → F k ∨ Array.size H ≤ k) →
        putF L pl s = ((L.length : Int), L ++ [s], pl6, (placeF L pl s).2) →
        ∃ x99 : Addr, some (⟨g, 0, none⟩ : Addr) = some x99 ∧ ∃ (x101_p : Option Addr) (x101_l x101_c : Nat), hcell H6 (x99.add 0) = some (.slice x101_p x101_l x101_c) ∧
          letV (IntKind.i64.wrap ((x101_l : Int) - 1)) fun x4 : Int => R (x4) H6 := by
      intro H6 pl6 pp6 pc6 h6 fr6 hpp6 he
      refine ⟨_, rfl, _, _, _, h6.f0, letV_mk fun x4 hx4 => ?_⟩
      rw [he] at hR
      have := hR H6 (fun k => F k ∨ (Array.size H ≤ k ∧ k < Array.size H6)) ⟨lp2, lc2, pp6, pc6, h6, .inl F1, ?_, ?_, ?_⟩ (fr6.mono fun k hk => hk) ?_
      · rw [hx4, hlen1, wrap_i64 (by omega) (by omega)]
        have e : (((L.length + 1 : Nat) : Int) - 1) = (L.length : Int) := by omega
        rw [e]
        exact this
      · intro k hk
        rcases hlpF k hk with h | h
        · exact .inl h
        · exact .inr ⟨h, h6.l.blk_lt hk⟩
      · intro k hk
        rcases hpp6 k hk with h | h
        · exact .inl h
        · exact .inr ⟨h, h6.p.blk_lt hk⟩
      · intro k hk
        rcases hk with h | h
        · exact Nat.lt_of_lt_of_le (F4 k h) fr6.size
        · exact h.2
      · intro k hk
        rcases hk with h | h
        · exact .inl h
        · exact .inr h.1
    have hfew' := hok.few
    have hplb : pl.length ≤ 17179869184 := by omega
    refine joinW_thru ?_
    refine ⟨_, rfl, _, _, _, (hcell_add hg5 0 0).trans rfl, ?_⟩
    refine ⟨_, rfl, _, _, _, (hcell_add hg5 0 1).trans rfl, ?_⟩
    refine brW_dec (fun hgrow => ?_) (fun hno => ?_)
    · rw [wrap_i64 (by omega) (by omega)] at hgrow
      refine ⟨_, rfl, _, _, _, (hcell_add hg5 0 1).trans rfl, ?_⟩
      have hw : IntKind.i64.wrap (2 * (pl.length : Int)) = ((2 * pl.length : Nat) : Int) := by rw [wrap_i64 (by omega) (by omega)]; omega
      rw [hw]
      refine ⟨by omega, by omega, by omega, letV_mk fun H7 h7 => ?_⟩
      rw [Int.toNat_natCast] at h7
      have fr7 : Fr noF H5 H7 := by rw [h7]; exact Fr.new _ _ _
      have hn7 : Sl H7 ty_int ((List.replicate (2 * pl.length) 0).map intV) (some ⟨Array.size H5, 0, none⟩) (2 * pl.length) (2 * pl.length) := by
        rw [h7, List.map_replicate]
        exact Sl.made H5 ty_int (z := .int .i64 0) rfl (2 * pl.length)
      have hg7 := fr7.blk hg5 (fun h => h)
      have hl7 : Sl H7 ty_string ((L ++ [s]).map strS) lp2 (L.length + 1) lc2 := hl5.keep fr7 fun _ _ h => h
      refine ⟨_, rfl, ⟨_, (hcell_add hg7 0 1).trans rfl⟩, hfrozen_add hg7 0 1, letV_mk fun H8 h8 => ?_⟩
      rw [Int.toNat_natCast] at h8
      have fr8 : Fr (fun k => k = g) H7 H8 := by rw [h8, add_mk]; exact Fr.set H7 ⟨g, 0 + 1, none⟩ _
      have hg8 : H8[g]? = some (.cells #[.slice lp2 (L.length + 1) lc2, .slice (some ⟨Array.size H5, 0, none⟩) (2 * pl.length) (2 * pl.length), .int .i64 ((placeF L pl s).2 : Int)] ty_brackenref1_Table (0, 0)) := by
        rw [h8, hset_add_same hg7]; rfl
      have h8t : RTabAt H8 g (L ++ [s]) (rehashN (L ++ [s]) (2 * pl.length) 0) ((placeF L pl s).2 : Int) lp2 lc2 (some ⟨Array.size H5, 0, none⟩) (2 * pl.length) := by
        have hlr : (rehashN (L ++ [s]) (2 * pl.length) 0).length = 2 * pl.length := rehash_len _ _ _
        refine ⟨?_, ?_, ?_⟩
        · rw [hlen1, hlr]; exact hg8
        · rw [hlen1]; exact hl7.keep fr8 fun k hk e => hl7.ne hg7 (by decide) (e ▸ hk)
        · rw [hlr]; exact hn7.keep fr8 fun k hk e => hn7.ne hg7 (by decide) (e ▸ hk)
      have frB : Fr F H H8 := (frA.trans fr7 (fun _ h => h.elim)).trans (fr8.mono (G := F) fun k hk => by rw [hk]; exact F1) (fun k hk => .inl hk)
      have hnewge : Array.size H ≤ Array.size H5 := frA.size
      have hnewlt : Array.size H5 < Array.size H8 := by
        have := fr8.size
        have : Array.size H7 = Array.size H5 + 1 := by rw [h7]; exact hnew_size
        omega
      clear h7 h8 fr7 fr8 hg7 hl7 hn7
      refine loopW_mk (fun n q H' => ∃ i : Nat, i ≤ L.length + 1 ∧ q.1 = (i : Int) ∧ n = L.length + 1 - i ∧ Fr F H H' ∧ Array.size H8 ≤ Array.size H' ∧
        RTabAt H' g (L ++ [s]) (rehashN (L ++ [s]) (2 * pl.length) i) ((placeF L pl s).2 : Int) lp2 lc2 (some ⟨Array.size H5, 0, none⟩) (2 * pl.length)) (L.length + 1)
        ⟨0, by omega, rfl, rfl, frB, Nat.le_refl _, h8t⟩ ?_
      rintro n ⟨q, _⟩ H' ⟨i, hi, hq, rfl, fr', hsz', h'⟩
      simp only at hq
      subst hq
      dsimp only
      have hgd8 := rehash_good (L := L ++ [s]) (m := 2 * pl.length) (n := i) (by rw [hlen1]; exact hi) (by rw [hlen1]; have := hok.half; have := hok.least; omega) (by omega)
      have hlr : (rehashN (L ++ [s]) (2 * pl.length) i).length = 2 * pl.length := rehash_len _ _ _
      refine ⟨_, rfl, _, _, _, h'.f0, ?_⟩
      refine brW_dec (fun hlt2 => ?_) (fun hge => ?_)
      · have hlt2 : i < (L ++ [s]).length := by omega
        obtain ⟨at_, hat_, hact⟩ := h'.text hlt2
        refine ⟨_, rfl, _, _, _, h'.f0, at_, hat_, by omega, by omega, _, by rw [Int.toNat_natCast]; exact hact, ?_⟩
        have hsi : (L ++ [s])[i].size ≤ 140737488355328 := by
          rcases List.mem_append.1 (List.getElem_mem hlt2) with hm | hm
          · exact hall _ hm
          · rw [List.mem_singleton] at hm; rw [hm]; exact hs
        refine rlook_spec h' hgd8 hsi ?_
        refine ⟨_, rfl, _, _, _, h'.f1, ?_⟩
        have hlt12 := placeF_lt hgd8 (L ++ [s])[i]
        obtain ⟨a12, ha12, hc12, hz12, hp13, fr13⟩ := h'.p.store (i := (placeF (L ++ [s]) (rehashN (L ++ [s]) (2 * pl.length) i) (L ++ [s])[i]).1) hlt12 (intV ((i : Int) + 1))
        refine ⟨a12, ha12, by omega, by omega, by rw [Int.toNat_natCast]; exact hc12, by rw [Int.toNat_natCast]; exact hz12, letV_mk fun H13 h13 => ?_⟩
        rw [Int.toNat_natCast, wrap_i64 (by omega) (by omega)] at h13
        have h13 : H13 = hset H' (a12.add (placeF (L ++ [s]) (rehashN (L ++ [s]) (2 * pl.length) i) (L ++ [s])[i]).1) (intV ((i : Int) + 1)) := h13
        rw [← h13] at hp13 fr13
        rw [set_map intV] at hp13
        refine ⟨L.length + 1 - (i + 1), by omega, i + 1, by omega, ?_, rfl, ?_, ?_, ?_⟩
        · show IntKind.i64.wrap ((i : Int) + 1) = _
          rw [wrap_i64 (by omega) (by omega)]; rfl
        · refine fr'.trans fr13 ?_
          rintro k ⟨a, ha, rfl⟩
          cases ha
          exact .inr hnewge
        · exact Nat.le_trans hsz' fr13.size
        · have hset : rehashN (L ++ [s]) (2 * pl.length) (i + 1) = (rehashN (L ++ [s]) (2 * pl.length) i).set (placeF (L ++ [s]) (rehashN (L ++ [s]) (2 * pl.length) i) (L ++ [s])[i]).1 ((i : Int) + 1) := by
            conv => lhs; unfold rehashN
            rw [getD_of_lt hlt2]
          have hlr1 : (rehashN (L ++ [s]) (2 * pl.length) (i + 1)).length = 2 * pl.length := rehash_len _ _ _
          refine ⟨?_, ?_, ?_⟩
          · have := fr13.blk h'.blk h'.pne
            rw [hlr] at this
            rw [hlr1]
            exact this
          · exact h'.l.keep fr13 fun k hk hq => h'.lpne k hk hq
          · rw [hset]
            have hp13' := hp13
            rw [hlr] at hp13'
            simp only [List.length_set, hlr]
            exact hp13'
      · have hi : i = L.length + 1 := by omega
        subst hi
        refine fin H' _ _ _ h' fr' ?_ ?_
        · rintro k ⟨a, ha, rfl⟩
          cases ha
          exact .inr hnewge
        · unfold putF
          rw [if_neg (by rw [hgd]; exact hnp), if_pos (by omega)]
    · rw [wrap_i64 (by omega) (by omega)] at hno
      refine fin H5 (pl.set (placeF L pl s).1 ((L.length : Int) + 1)) pp pc ⟨?_, ?_, ?_⟩ frA (fun k hk => .inl (F3 k hk)) ?_
      · rw [hlen1, List.length_set]; exact hg5
      · rw [hlen1]; exact hl5
      · rw [List.length_set]; exact hp5
      · unfold putF
        rw [if_neg (by rw [hgd]; exact hnp), if_neg (by omega)]
end
end Go.Proofs.Ytjakbglakhpbjaa
