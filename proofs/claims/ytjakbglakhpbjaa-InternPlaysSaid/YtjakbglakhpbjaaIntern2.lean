import Derived.Test.YtjakbglakhpbjaaIntern1
/-! Package intern: putting, finding. -/
namespace Go.Proofs.Ytjakbglakhpbjaa
open Go.Ev
set_option linter.unusedVariables false

/-- The table whose blocks are among F. -/
def Tab (H : Heap) (g : Nat) (L : List ByteArray) (pl : List Int) (lk : Int) (F : Nat → Prop) : Prop :=
  ∃ lp lc pp pc, TabAt H g L pl lk lp lc pp pc ∧ F g ∧ (∀ k, blkIs lp k → F k) ∧ (∀ k, blkIs pp k → F k) ∧ ∀ k, F k → k < Array.size H
theorem Tab.keep {H H' : Heap} {g : Nat} {L : List ByteArray} {pl : List Int} {lk : Int} {F G : Nat → Prop} (h : Tab H g L pl lk F) (hf : Fr G H H') (hd : ∀ k, F k → ¬ G k) : Tab H' g L pl lk F := by
  obtain ⟨lp, lc, pp, pc, ht, h1, h2, h3, h4⟩ := h
  exact ⟨lp, lc, pp, pc, ht.keep hf (hd _ h1) (fun k hk => hd k (h2 k hk)) (fun k hk => hd k (h3 k hk)), h1, h2, h3, fun k hk => Nat.lt_of_lt_of_le (h4 k hk) hf.size⟩

def rehashN (L : List ByteArray) (m : Nat) : Nat → List Int
  | 0 => List.replicate m 0
  | n + 1 => (rehashN L m n).set (placeF L (rehashN L m n) (L.getD n ByteArray.empty)).1 ((n : Int) + 1)
/-- What putting a text comes to: its number, the texts, the places, how many were looked at. -/
def putF (L : List ByteArray) (pl : List Int) (s : ByteArray) : Int × List ByteArray × List Int × Nat :=
  if 0 < pl.getD (placeF L pl s).1 0 then (pl.getD (placeF L pl s).1 0 - 1, L, pl, (placeF L pl s).2)
  else if pl.length < 2 * (L.length + 1) then ((L.length : Int), L ++ [s], rehashN (L ++ [s]) (2 * pl.length) (L.length + 1), (placeF L pl s).2)
  else ((L.length : Int), L ++ [s], pl.set (placeF L pl s).1 ((L.length : Int) + 1), (placeF L pl s).2)
/-- What finding comes to. -/
def findF (L : List ByteArray) (pl : List Int) (s : ByteArray) : Int × Bool :=
  (max (pl.getD (placeF L pl s).1 0 - 1) 0, decide (0 < pl.getD (placeF L pl s).1 0))

def nz (pl : List Int) : Nat := pl.countP (fun x => decide (x ≠ 0))
theorem nz_set (pl : List Int) (i : Nat) (v : Int) : nz (pl.set i v) ≤ nz pl + 1 := by
  unfold nz
  induction pl generalizing i with
  | nil => simp
  | cons x l ih =>
    cases i with
    | zero => simp only [List.set_cons_zero, List.countP_cons]; split <;> split <;> omega
    | succ i => simp only [List.set_cons_succ, List.countP_cons]; have := ih i; split <;> omega
theorem nz_free {pl : List Int} (h : nz pl < pl.length) : ∃ i, i < pl.length ∧ pl.getD i 0 = 0 := by
  unfold nz at h
  induction pl with
  | nil => simp at h
  | cons x l ih =>
    by_cases hx : x = 0
    · exact ⟨0, by simp, by simpa using hx⟩
    · rw [List.countP_cons, if_pos (by simp [hx]), List.length_cons] at h
      obtain ⟨i, hi, h0⟩ := ih (by omega)
      exact ⟨i + 1, by simp; omega, by simpa using h0⟩
theorem nz_replicate (m : Nat) : nz (List.replicate m 0) = 0 := by
  unfold nz
  rw [List.countP_eq_zero]
  intro x hx
  rw [List.mem_replicate] at hx
  simp [hx.2]
theorem rehash_len (L : List ByteArray) (m : Nat) : ∀ n, (rehashN L m n).length = m
  | 0 => by simp [rehashN]
  | n + 1 => by simp [rehashN, rehash_len L m n]
theorem rehash_nz (L : List ByteArray) (m : Nat) : ∀ n, nz (rehashN L m n) ≤ n
  | 0 => by simp [rehashN, nz_replicate]
  | n + 1 => by
    unfold rehashN
    have := nz_set (rehashN L m n) (placeF L (rehashN L m n) (L.getD n ByteArray.empty)).1 ((n : Int) + 1)
    have := rehash_nz L m n
    omega
theorem mem_set_rng {pl : List Int} {i : Nat} {v b : Int} (h : ∀ x ∈ pl, 0 ≤ x ∧ x ≤ b) (hv : 0 ≤ v ∧ v ≤ b) : ∀ x ∈ pl.set i v, 0 ≤ x ∧ x ≤ b := by
  intro x hx
  rcases List.mem_or_eq_of_mem_set hx with h' | rfl
  · exact h x h'
  · exact hv
theorem rehash_rng (L : List ByteArray) (m : Nat) : ∀ n, n ≤ L.length → ∀ x ∈ rehashN L m n, 0 ≤ x ∧ x ≤ (L.length : Int)
  | 0, _ => by
    intro x hx
    unfold rehashN at hx
    rw [List.mem_replicate] at hx
    omega
  | n + 1, hn => by
    unfold rehashN
    exact mem_set_rng (rehash_rng L m n (by omega)) (by omega)
theorem rehash_good {L : List ByteArray} {m n : Nat} (hn : n ≤ L.length) (hm : L.length < m) (hb : m ≤ 1099511627776) : Good L (rehashN L m n) :=
  ⟨rehash_rng L m n hn, nz_free (by rw [rehash_len]; have := rehash_nz L m n; omega), by rw [rehash_len]; exact hb, by omega⟩
/-- What holds of the places of a table. -/
structure Ok (L : List ByteArray) (pl : List Int) : Prop where
  rng : ∀ x ∈ pl, 0 ≤ x ∧ x ≤ (L.length : Int)
  nz : nz pl ≤ L.length
  half : 2 * L.length ≤ pl.length
  least : 8 ≤ pl.length
  most : pl.length ≤ 8 ∨ pl.length ≤ 4 * L.length
  few : L.length ≤ 4294967296
theorem Ok.good {L : List ByteArray} {pl : List Int} (h : Ok L pl) : Good L pl :=
  ⟨h.rng, nz_free (by have := h.nz; have := h.half; have := h.least; omega), by have := h.most; have := h.few; omega, by have := h.few; omega⟩
theorem ok_new : Ok [] (List.replicate 8 0) := by
  refine ⟨?_, by decide, by decide, by decide, by decide, by decide⟩
  intro x hx
  rw [List.mem_replicate] at hx
  simp [hx.2]
theorem placeF_lt {L : List ByteArray} {pl : List Int} (hg : Good L pl) (s : ByteArray) : (placeF L pl s).1 < pl.length := by
  have : ∀ f a k, a < pl.length → (probe L pl s f a k).1 < pl.length := by
    intro f
    induction f with
    | zero => intro a k h; exact h
    | succ f ih =>
      intro a k h
      unfold probe
      split
      · exact ih _ _ (Nat.mod_lt _ (by omega))
      · exact h
  exact this _ _ _ (home_lt hg s)
theorem ok_put {L : List ByteArray} {pl : List Int} (h : Ok L pl) (hf : L.length < 4294967296) (s : ByteArray) : Ok (putF L pl s).2.1 (putF L pl s).2.2.1 := by
  have hg := h.good
  have h1 := h.nz
  have h2 := h.half
  have h3 := h.least
  have h4 := h.most
  unfold putF
  split
  · exact h
  · split
    · rename_i hgrow
      simp only
      refine ⟨?_, ?_, ?_, ?_, ?_, ?_⟩
      · exact rehash_rng _ _ _ (by simp)
      · have := rehash_nz (L ++ [s]) (2 * pl.length) (L.length + 1)
        simp; omega
      · rw [rehash_len]; simp; omega
      · rw [rehash_len]; omega
      · rw [rehash_len]; simp; omega
      · simp; omega
    · simp only
      refine ⟨?_, ?_, ?_, ?_, ?_, ?_⟩
      · refine mem_set_rng (fun x hx => ?_) (by simp; omega)
        have := h.rng x hx
        simp
        omega
      · have := nz_set pl (placeF L pl s).1 ((L.length : Int) + 1)
        simp; omega
      · simp; omega
      · simp; omega
      · simp; omega
      · simp; omega

section
variable {H : Heap} {g : Nat} {L : List ByteArray} {pl : List Int} {lk : Int} {F : Nat → Prop}
theorem new_spec {H : Heap} {R : Option Addr → Heap → Prop} (hR : ∀ g H', Array.size H ≤ g → Tab H' g [] (List.replicate 8 0) 0 (fun k => Array.size H ≤ k ∧ k < Array.size H') → Fr noF H H' → R (some ⟨g, 0, none⟩) H') : intern_New.C H R := by
  apply intern_New.calls
  unfold intern_New.W
  refine ⟨by decide, by decide, by decide, letV_mk fun H1 h1 => letV_mk fun H2 h2 => ?_⟩
  have f1 : Fr noF H H1 := by rw [h1]; exact Fr.new _ _ _
  have f2 : Fr noF H1 H2 := by rw [h2]; exact Fr.new _ _ _
  have hs1 : Array.size H1 = Array.size H + 1 := by rw [h1]; exact hnew_size
  have hs2 : Array.size H2 = Array.size H1 + 1 := by rw [h2]; exact hnew_size
  have hp : Sl H1 ty_int ((List.replicate 8 0).map intV) (some ⟨Array.size H, 0, none⟩) 8 8 := by
    rw [h1]
    have := Sl.made H ty_int (z := .int .i64 0) rfl 8
    exact this
  refine hR _ H2 (by omega) ⟨none, 0, some ⟨Array.size H, 0, none⟩, 8, ⟨?_, ?_, ?_⟩, ⟨by omega, by omega⟩, ?_, ?_, fun k hk => hk.2⟩ (f1.trans f2 (fun _ h => h.elim))
  · rw [h2]; exact hnew_same
  · exact Sl.nil _ _
  · exact hp.keep f2 (fun _ _ h => h)
  · rintro k ⟨a, ha, _⟩; cases ha
  · rintro k ⟨a, ha, rfl⟩; cases ha; exact ⟨Nat.le_refl _, by simp only; omega⟩
theorem len_spec (h : Tab H g L pl lk F) {R : Int → Heap → Prop} (hR : R (L.length : Int) H) : intern_Table_Len.C (some ⟨g, 0, none⟩) H R := by
  obtain ⟨lp, lc, pp, pc, ht, _⟩ := h
  apply intern_Table_Len.calls
  unfold intern_Table_Len.W
  exact brW_false rfl ⟨_, rfl, _, _, _, ht.f0, letV_mk fun x hx => by rw [hx]; exact hR⟩
theorem len_nil {R : Int → Heap → Prop} (hR : R 0 H) : intern_Table_Len.C none H R := by
  apply intern_Table_Len.calls
  unfold intern_Table_Len.W
  exact brW_true rfl hR
theorem looked_spec (h : Tab H g L pl lk F) {R : Int → Heap → Prop} (hR : R lk H) : intern_Table_Looked.C (some ⟨g, 0, none⟩) H R := by
  obtain ⟨lp, lc, pp, pc, ht, _⟩ := h
  apply intern_Table_Looked.calls
  unfold intern_Table_Looked.W
  exact brW_false rfl ⟨_, rfl, _, ht.f2, hR⟩
theorem get_spec (h : Tab H g L pl lk F) (hL : L.length ≤ 4294967296) (n : Int) {R : ByteArray → Int → Heap → Prop} (h1 : ∀ i : Nat, (hi : i < L.length) → n = (i : Int) → R L[i] 0 H) (h2 : (n < 0 ∨ (L.length : Int) ≤ n) → R ByteArray.empty 4 H) :
    intern_Table_Get.C (some ⟨g, 0, none⟩) n H R := by
  apply intern_Table_Get.calls
  unfold intern_Table_Get.W
  refine joinW_thru (joinW_thru ?_)
  refine brW_dec (fun hn => brW_true rfl (h2 (.inl hn))) (fun hn => ?_)
  refine len_spec h ?_
  refine brW_dec (fun hl => h2 (.inr hl)) (fun hl => ?_)
  obtain ⟨lp, lc, pp, pc, ht, _⟩ := h
  refine text_spec (i := n.toNat) ht (by omega) (by omega) ?_
  exact h1 _ (by omega) (by omega)
theorem find_spec (h : Tab H g L pl lk F) (hok : Ok L pl) {s : ByteArray} (hs : s.size ≤ 140737488355328) {R : Int → Bool → Heap → Prop}
    (hR : ∀ H', Tab H' g L pl ((placeF L pl s).2 : Int) F → Fr F H H' → R (findF L pl s).1 (findF L pl s).2 H') : intern_Table_Find.C (some ⟨g, 0, none⟩) s H R := by
  obtain ⟨lp, lc, pp, pc, ht, F1, F2, F3, F4⟩ := h
  apply intern_Table_Find.calls
  unfold intern_Table_Find.W
  refine brW_false rfl ⟨_, rfl, _, _, _, ht.f1, ?_⟩
  refine place_spec ht hok.good hs fun H1 h1 f1 => ?_
  have hlt := placeF_lt hok.good s
  obtain ⟨ap, hap, hac⟩ := h1.place hlt
  have hr := getD_rng hok.good (placeF L pl s).1
  have hgd := getD_of_lt hlt (0 : Int)
  have hfew := hok.few
  refine ⟨⟨_, _, _, h1.f1, rfl⟩, ap, hap, by omega, by omega, _, by rw [Int.toNat_natCast]; exact hac, letV_mk fun x4 hx4 => ?_⟩
  have f1' : Fr F H H1 := f1.mono fun k hk => by rw [hk]; exact F1
  have := hR H1 ⟨lp, lc, pp, pc, h1, F1, F2, F3, fun k hk => Nat.lt_of_lt_of_le (F4 k hk) f1.size⟩ f1'
  unfold findF at this
  rw [hx4, wrap_i64 (by omega) (by omega), ← hgd]
  exact this
theorem put_nil {s : ByteArray} {R : Int → Heap → Prop} (hR : R (-1) H) : intern_Table_Put.C none s H R := by
  apply intern_Table_Put.calls
  unfold intern_Table_Put.W
  exact brW_true rfl hR
theorem set_map {α β : Type} (f : α → β) (l : List α) (i : Nat) (v : α) : (l.map f).set i (f v) = (l.set i v).map f := by
  rw [List.map_set]
theorem put_spec (h : Tab H g L pl lk F) (hok : Ok L pl) (hfew : L.length < 4294967296) {s : ByteArray} (hs : s.size ≤ 140737488355328) (hall : ∀ x ∈ L, x.size ≤ 140737488355328) {R : Int → Heap → Prop}
    (hR : ∀ H' F', Tab H' g (putF L pl s).2.1 (putF L pl s).2.2.1 ((putF L pl s).2.2.2 : Int) F' → Fr F H H' → (∀ k, F' k → F k ∨ Array.size H ≤ k) → R (putF L pl s).1 H') : intern_Table_Put.C (some ⟨g, 0, none⟩) s H R := by
  obtain ⟨lp, lc, pp, pc, ht, F1, F2, F3, F4⟩ := h
  apply intern_Table_Put.calls
  unfold intern_Table_Put.W
  refine brW_false rfl ?_
  refine place_spec ht hok.good hs fun H1 h1 f1 => ?_
  have hlt := placeF_lt hok.good s
  obtain ⟨ap, hap, hac⟩ := h1.place hlt
  have hr := getD_rng hok.good (placeF L pl s).1
  have hgd := getD_of_lt hlt (0 : Int)
  have f1' : Fr F H H1 := f1.mono fun k hk => by rw [hk]; exact F1
  have hpm := hok.most
  refine ⟨_, rfl, _, _, _, h1.f1, ap, hap, by omega, by omega, _, by rw [Int.toNat_natCast]; exact hac, ?_⟩
  refine brW_dec (fun hpos => letV_mk fun x4 hx4 => ?_) (fun hnp => ?_)
  · have e : putF L pl s = (pl.getD (placeF L pl s).1 0 - 1, L, pl, (placeF L pl s).2) := by
      unfold putF
      rw [if_pos (by rw [hgd]; exact hpos)]
    rw [e] at hR
    have := hR H1 F ⟨lp, lc, pp, pc, h1, F1, F2, F3, fun k hk => Nat.lt_of_lt_of_le (F4 k hk) f1.size⟩ f1' (fun k hk => .inl hk)
    rw [hx4, wrap_i64 (by omega) (by omega), ← hgd]
    exact this
  · refine ⟨_, rfl, _, _, _, h1.f0, ?_⟩
    refine app1 (t1 := ty_any) h1.l rfl ⟨by simp, by simp⟩ (by omega) (by decide) fun lp2 lc2 H3 hl2 fr2 hb2 => ?_
    have hg3 : H3[g]? = some (.cells #[.slice lp L.length lc, .slice pp pl.length pc, .int .i64 ((placeF L pl s).2 : Int)] ty_intern_Table (0, 0)) := fr2.blk h1.blk h1.lne
    have hp3 : Sl H3 ty_int (pl.map intV) pp pl.length pc := h1.p.keep fr2 fun k hk hl => h1.lpne k hl hk
    refine ⟨_, rfl, ⟨_, (hcell_add hg3 0 0).trans rfl⟩, hfrozen_add hg3 0 0, letV_mk fun H4 h4 => ?_⟩
    have fr4 : Fr (fun k => k = g) H3 H4 := by rw [h4, add_mk]; exact Fr.set H3 ⟨g, 0 + 0, none⟩ _
    have hg4 : H4[g]? = some (.cells #[.slice lp2 (L.length + 1) lc2, .slice pp pl.length pc, .int .i64 ((placeF L pl s).2 : Int)] ty_intern_Table (0, 0)) := by
      rw [h4, hset_add_same hg3]; rfl
    have hl4 : Sl H4 ty_any (L.map anyS ++ [anyS s]) lp2 (L.length + 1) lc2 := hl2.keep fr4 fun k hk e => hl2.ne hg3 (by decide) (e ▸ hk)
    have hp4 : Sl H4 ty_int (pl.map intV) pp pl.length pc := hp3.keep fr4 fun k hk e => hp3.ne hg3 (by decide) (e ▸ hk)
    have hmap : L.map anyS ++ [anyS s] = (L ++ [s]).map anyS := by simp
    rw [hmap] at hl4
    have hlen1 : (L ++ [s]).length = L.length + 1 := by simp
    refine ⟨_, rfl, _, _, _, (hcell_add hg4 0 1).trans rfl, ?_⟩
    refine ⟨_, rfl, _, _, _, (hcell_add hg4 0 0).trans rfl, ?_⟩
    obtain ⟨ap4, hap4, hcell4, hfz4, hp5, fr5⟩ := hp4.store hlt (intV ((L.length : Int) + 1))
    refine ⟨ap4, hap4, by omega, by omega, by rw [Int.toNat_natCast]; exact hcell4, by rw [Int.toNat_natCast]; exact hfz4, letV_mk fun H5 h5 => ?_⟩
    rw [Int.toNat_natCast] at h5
    have h5 : H5 = hset H4 (ap4.add (placeF L pl s).1) (intV ((L.length : Int) + 1)) := h5
    rw [← h5] at hp5 fr5
    have hpne4 : ¬ blkIs pp g := hp4.ne hg4 (by decide)
    have hg5 := fr5.blk hg4 hpne4
    have hl5 : Sl H5 ty_any ((L ++ [s]).map anyS) lp2 (L.length + 1) lc2 := hl4.keep fr5 fun k hk hq => hl4.ne' hp4 (by decide) k hk hq
    rw [set_map intV] at hp5
    -- the frame till here
    have frA : Fr F H H5 := by
      have a1 : Fr F H1 H3 := fr2.mono fun k hk => F2 k hk
      have a2 : Fr F H3 H4 := fr4.mono fun k hk => by rw [hk]; exact F1
      have a3 : Fr F H4 H5 := fr5.mono fun k hk => F3 k hk
      exact ((f1'.trans a1 (fun k hk => .inl hk)).trans a2 (fun k hk => .inl hk)).trans a3 (fun k hk => .inl hk)
    have hlpF : ∀ k, blkIs lp2 k → F k ∨ Array.size H ≤ k := fun k hk => by
      rcases hb2 k hk with h | h
      · exact .inl (F2 k h)
      · exact .inr (Nat.le_trans f1.size h)
    -- what stands behind
    have fin : ∀ (H6 : Heap) (pl6 : List Int) (pp6 : Option Addr) (pc6 : Nat), TabAt H6 g (L ++ [s]) pl6 ((placeF L pl s).2 : Int) lp2 lc2 pp6 pc6 → Fr F H H6 → (∀ k, blkIs pp6 k → F k ∨ Array.size H ≤ k) →
        putF L pl s = ((L.length : Int), L ++ [s], pl6, (placeF L pl s).2) →
        ∃ x99 : Addr, some (⟨g, 0, none⟩ : Addr) = some x99 ∧ ∃ (x101_p : Option Addr) (x101_l x101_c : Nat), hcell H6 (x99.add 0) = some (.slice x101_p x101_l x101_c) ∧
          letV (IntKind.i64.wrap ((x101_l : Int) - 1)) fun x4 : Int => R (x4) H6 := by
      intro H6 pl6 pp6 pc6 h6 fr6 hpp6 he
      refine ⟨_, rfl, _, _, _, h6.f0, letV_mk fun x4 hx4 => ?_⟩
      rw [he] at hR
      have := hR H6 (fun k => F k ∨ (Array.size H ≤ k ∧ k < Array.size H6)) ⟨lp2, lc2, pp6, pc6, h6, .inl F1, ?_, ?_, ?_⟩ (fr6.mono fun k hk => hk) ?_
      · rw [hx4, hlen1, wrap_i64 (by omega) (by omega)]
        have e : (((L.length + 1 : Nat) : Int) - 1) = (L.length : Int) := by omega
        rw [e]
        exact this
      · intro k hk
        rcases hlpF k hk with h | h
        · exact .inl h
        · exact .inr ⟨h, h6.l.blk_lt hk⟩
      · intro k hk
        rcases hpp6 k hk with h | h
        · exact .inl h
        · exact .inr ⟨h, h6.p.blk_lt hk⟩
      · intro k hk
        rcases hk with h | h
        · exact Nat.lt_of_lt_of_le (F4 k h) fr6.size
        · exact h.2
      · intro k hk
        rcases hk with h | h
        · exact .inl h
        · exact .inr h.1
    have hfew' := hok.few
    have hplb : pl.length ≤ 17179869184 := by omega
    refine joinW_thru ?_
    refine ⟨_, rfl, _, _, _, (hcell_add hg5 0 0).trans rfl, ?_⟩
    refine ⟨_, rfl, _, _, _, (hcell_add hg5 0 1).trans rfl, ?_⟩
    refine brW_dec (fun hgrow => ?_) (fun hno => ?_)
    · rw [wrap_i64 (by omega) (by omega)] at hgrow
      refine ⟨_, rfl, _, (hcell_add hg5 0 2).trans rfl, ?_⟩
      refine ⟨_, rfl, _, _, _, (hcell_add hg5 0 1).trans rfl, ?_⟩
      have hw : IntKind.i64.wrap (2 * (pl.length : Int)) = ((2 * pl.length : Nat) : Int) := by rw [wrap_i64 (by omega) (by omega)]; omega
      rw [hw]
      refine ⟨by omega, by omega, by omega, letV_mk fun H7 h7 => ?_⟩
      rw [Int.toNat_natCast] at h7
      have fr7 : Fr noF H5 H7 := by rw [h7]; exact Fr.new _ _ _
      have hn7 : Sl H7 ty_int ((List.replicate (2 * pl.length) 0).map intV) (some ⟨Array.size H5, 0, none⟩) (2 * pl.length) (2 * pl.length) := by
        rw [h7, List.map_replicate]
        exact Sl.made H5 ty_int (z := .int .i64 0) rfl (2 * pl.length)
      have hg7 := fr7.blk hg5 (fun h => h)
      have hl7 : Sl H7 ty_any ((L ++ [s]).map anyS) lp2 (L.length + 1) lc2 := hl5.keep fr7 fun _ _ h => h
      refine ⟨_, rfl, ⟨_, (hcell_add hg7 0 1).trans rfl⟩, hfrozen_add hg7 0 1, letV_mk fun H8 h8 => ?_⟩
      rw [Int.toNat_natCast] at h8
      have fr8 : Fr (fun k => k = g) H7 H8 := by rw [h8, add_mk]; exact Fr.set H7 ⟨g, 0 + 1, none⟩ _
      have hg8 : H8[g]? = some (.cells #[.slice lp2 (L.length + 1) lc2, .slice (some ⟨Array.size H5, 0, none⟩) (2 * pl.length) (2 * pl.length), .int .i64 ((placeF L pl s).2 : Int)] ty_intern_Table (0, 0)) := by
        rw [h8, hset_add_same hg7]; rfl
      have h8t : TabAt H8 g (L ++ [s]) (rehashN (L ++ [s]) (2 * pl.length) 0) ((placeF L pl s).2 : Int) lp2 lc2 (some ⟨Array.size H5, 0, none⟩) (2 * pl.length) := by
        have hlr : (rehashN (L ++ [s]) (2 * pl.length) 0).length = 2 * pl.length := rehash_len _ _ _
        refine ⟨?_, ?_, ?_⟩
        · rw [hlen1, hlr]; exact hg8
        · rw [hlen1]; exact hl7.keep fr8 fun k hk e => hl7.ne hg7 (by decide) (e ▸ hk)
        · rw [hlr]; exact hn7.keep fr8 fun k hk e => hn7.ne hg7 (by decide) (e ▸ hk)
      have frB : Fr F H H8 := (frA.trans fr7 (fun _ h => h.elim)).trans (fr8.mono (G := F) fun k hk => by rw [hk]; exact F1) (fun k hk => .inl hk)
      have hnewge : Array.size H ≤ Array.size H5 := frA.size
      have hnewlt : Array.size H5 < Array.size H8 := by
        have := fr8.size
        have : Array.size H7 = Array.size H5 + 1 := by rw [h7]; exact hnew_size
        omega
      clear h7 h8 fr7 fr8 hg7 hl7 hn7
      refine joinW_thru ?_
      refine ⟨_, rfl, _, _, _, h8t.f0, ?_⟩
      refine loopW_mk (fun n q H' => ∃ i : Nat, i ≤ L.length + 1 ∧ q.1 = (i : Int) ∧ n = L.length + 1 - i ∧ Fr F H H' ∧ Array.size H8 ≤ Array.size H' ∧
        ∃ lk', TabAt H' g (L ++ [s]) (rehashN (L ++ [s]) (2 * pl.length) i) lk' lp2 lc2 (some ⟨Array.size H5, 0, none⟩) (2 * pl.length)) (L.length + 1)
        ⟨0, by omega, rfl, rfl, frB, Nat.le_refl _, _, h8t⟩ ?_
      rintro n ⟨q, _⟩ H' ⟨i, hi, hq, rfl, fr', hsz', lk', h'⟩
      simp only at hq
      subst hq
      dsimp only
      have hgd8 := rehash_good (L := L ++ [s]) (m := 2 * pl.length) (n := i) (by rw [hlen1]; exact hi) (by rw [hlen1]; have := hok.half; have := hok.least; omega) (by omega)
      have hlr : (rehashN (L ++ [s]) (2 * pl.length) i).length = 2 * pl.length := rehash_len _ _ _
      refine brW_dec (fun hlt2 => ?_) (fun hge => ?_)
      · have hlt2 : i < (L ++ [s]).length := by omega
        refine ⟨_, rfl, _, _, _, h'.f1, ?_⟩
        refine text_spec h' hlt2 rfl ?_
        refine ⟨⟨_, _, _, h'.f1, rfl⟩, ?_⟩
        have hsi : (L ++ [s])[i].size ≤ 140737488355328 := by
          rcases List.mem_append.1 (List.getElem_mem hlt2) with hm | hm
          · exact hall _ hm
          · rw [List.mem_singleton] at hm; rw [hm]; exact hs
        refine place_spec h' hgd8 hsi fun H12 h12 fr12 => ?_
        refine ⟨⟨_, _, _, h12.f1, rfl⟩, ?_⟩
        have hlt12 := placeF_lt hgd8 (L ++ [s])[i]
        obtain ⟨a12, ha12, hc12, hz12, hp13, fr13⟩ := h12.p.store (i := (placeF (L ++ [s]) (rehashN (L ++ [s]) (2 * pl.length) i) (L ++ [s])[i]).1) hlt12 (intV ((i : Int) + 1))
        refine ⟨a12, ha12, by omega, by omega, by rw [Int.toNat_natCast]; exact hc12, by rw [Int.toNat_natCast]; exact hz12, letV_mk fun H13 h13 => ?_⟩
        rw [Int.toNat_natCast, wrap_i64 (by omega) (by omega)] at h13
        have h13 : H13 = hset H12 (a12.add (placeF (L ++ [s]) (rehashN (L ++ [s]) (2 * pl.length) i) (L ++ [s])[i]).1) (intV ((i : Int) + 1)) := h13
        rw [← h13] at hp13 fr13
        rw [set_map intV] at hp13
        refine ⟨L.length + 1 - (i + 1), by omega, i + 1, by omega, ?_, rfl, ?_, ?_, ((placeF (L ++ [s]) (rehashN (L ++ [s]) (2 * pl.length) i) (L ++ [s])[i]).2 : Int), ?_⟩
        · show IntKind.i64.wrap ((i : Int) + 1) = _
          rw [wrap_i64 (by omega) (by omega)]; rfl
        · refine (fr'.trans (fr12.mono (G := F) fun k hk => by rw [hk]; exact F1) (fun k hk => .inl hk)).trans fr13 ?_
          rintro k ⟨a, ha, rfl⟩
          cases ha
          exact .inr hnewge
        · exact Nat.le_trans hsz' (Nat.le_trans fr12.size fr13.size)
        · have hset : rehashN (L ++ [s]) (2 * pl.length) (i + 1) = (rehashN (L ++ [s]) (2 * pl.length) i).set (placeF (L ++ [s]) (rehashN (L ++ [s]) (2 * pl.length) i) (L ++ [s])[i]).1 ((i : Int) + 1) := by
            conv => lhs; unfold rehashN
            rw [getD_of_lt hlt2]
          have hlr1 : (rehashN (L ++ [s]) (2 * pl.length) (i + 1)).length = 2 * pl.length := rehash_len _ _ _
          refine ⟨?_, ?_, ?_⟩
          · have := fr13.blk h12.blk h12.pne
            rw [hlr] at this
            rw [hlr1]
            exact this
          · exact h12.l.keep fr13 fun k hk hq => h12.lpne k hk hq
          · rw [hset]
            have hp13' := hp13
            rw [hlr] at hp13'
            simp only [List.length_set, hlr]
            exact hp13'
      · have hi : i = L.length + 1 := by omega
        subst hi
        refine ⟨_, rfl, ⟨_, h'.f2⟩, hfrozen_add h'.blk 0 2, letV_mk fun H14 h14 => ?_⟩
        have h14t := h'.look ((placeF L pl s).2 : Int)
        rw [← h14] at h14t
        have fr14 : Fr F H' H14 := by rw [h14]; exact (look_fr H' g _).mono fun k hk => by rw [hk]; exact F1
        refine fin H14 _ _ _ h14t (fr'.trans fr14 (fun k hk => .inl hk)) ?_ ?_
        · rintro k ⟨a, ha, rfl⟩
          cases ha
          exact .inr hnewge
        · unfold putF
          rw [if_neg (by rw [hgd]; exact hnp), if_pos (by omega)]
    · rw [wrap_i64 (by omega) (by omega)] at hno
      refine fin H5 (pl.set (placeF L pl s).1 ((L.length : Int) + 1)) pp pc ⟨?_, ?_, ?_⟩ frA (fun k hk => .inl (F3 k hk)) ?_
      · rw [hlen1, List.length_set]; exact hg5
      · rw [hlen1]; exact hl5
      · rw [List.length_set]; exact hp5
      · unfold putF
        rw [if_neg (by rw [hgd]; exact hnp), if_neg (by omega)]
end
end Go.Proofs.Ytjakbglakhpbjaa
