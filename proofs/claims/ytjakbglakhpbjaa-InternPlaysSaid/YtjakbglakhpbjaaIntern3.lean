import Derived.Test.YtjakbglakhpbjaaIntern2
/-! Package intern: what the table's places mean. -/
namespace Go.Proofs.Ytjakbglakhpbjaa
open Go.Ev
set_option linter.unusedVariables false

theorem nodup_inj {α : Type} {l : List α} (h : l.Nodup) {i j : Nat} (hi : i < l.length) (hj : j < l.length) (e : l[i] = l[j]) : i = j := by
  have hp := List.pairwise_iff_getElem.1 h
  rcases Nat.lt_trichotomy i j with h1 | h1 | h1
  · exact absurd e (hp i j hi hj h1)
  · exact h1
  · exact absurd e.symm (hp j i hj hi h1)
/-- From a text's home on, over places that are taken, comes this number. -/
def ReachT (pl : List Int) (t : ByteArray) (q : Int) : Prop := ∃ j, pl.getD ((home pl t + j) % pl.length) 0 = q ∧ ∀ k, k < j → 0 < pl.getD ((home pl t + k) % pl.length) 0
structure Sem (L : List ByteArray) (pl : List Int) : Prop where
  nodup : L.Nodup
  reach : ∀ i (h : i < L.length), ReachT pl L[i] ((i : Int) + 1)
def Cond (L : List ByteArray) (pl : List Int) (s : ByteArray) (i : Nat) : Prop := 0 < pl.getD i 0 ∧ L.getD (pl.getD i 0 - 1).toNat ByteArray.empty ≠ s
theorem probe_char {L : List ByteArray} {pl : List Int} {s : ByteArray} : ∀ (f a k : Nat), a < pl.length →
    ∃ j, j ≤ f ∧ probe L pl s f a k = ((a + j) % pl.length, k + j) ∧ (∀ i, i < j → Cond L pl s ((a + i) % pl.length)) ∧ (j < f → ¬ Cond L pl s ((a + j) % pl.length))
  | 0, a, k, ha => ⟨0, Nat.le_refl _, by simp [probe, Nat.mod_eq_of_lt ha], fun _ h => absurd h (by omega), fun h => absurd h (by omega)⟩
  | f + 1, a, k, ha => by
    by_cases hc : Cond L pl s a
    · obtain ⟨j, hj, he, h1, h2⟩ := probe_char (L := L) (s := s) f ((a + 1) % pl.length) (k + 1) (Nat.mod_lt _ (by omega))
      have sh : ∀ i, ((a + 1) % pl.length + i) % pl.length = (a + (i + 1)) % pl.length := fun i => by rw [Nat.mod_add_mod]; congr 1; omega
      refine ⟨j + 1, by omega, ?_, ?_, ?_⟩
      · have hc' : 0 < pl.getD a 0 ∧ L.getD (pl.getD a 0 - 1).toNat ByteArray.empty ≠ s := hc
        unfold probe
        rw [if_pos hc', he, sh]
        congr 1
        omega
      · intro i hi
        cases i with
        | zero => rw [Nat.add_zero, Nat.mod_eq_of_lt ha]; exact hc
        | succ i => have := h1 i (by omega); rw [sh] at this; exact this
      · intro hlt
        have := h2 (by omega)
        rw [sh] at this
        exact this
    · refine ⟨0, by omega, ?_, fun _ h => absurd h (by omega), fun _ => ?_⟩
      · rw [probe_stop hc]; simp [Nat.mod_eq_of_lt ha]
      · rw [Nat.add_zero, Nat.mod_eq_of_lt ha]; exact hc
/-- Where a text is looked for, the first place that is free, or its own. -/
theorem placeF_char {L : List ByteArray} {pl : List Int} (hg : Good L pl) (s : ByteArray) :
    ∃ j, j < pl.length ∧ placeF L pl s = ((home pl s + j) % pl.length, 1 + j) ∧ (∀ i, i < j → Cond L pl s ((home pl s + i) % pl.length)) ∧ ¬ Cond L pl s ((home pl s + j) % pl.length) := by
  obtain ⟨j, hj, he, h1, h2⟩ := probe_char (L := L) (s := s) pl.length (home pl s) 1 (home_lt hg s)
  have hlt := free_step hg (home pl s) j (fun k hk => (h1 k hk).1)
  exact ⟨j, hlt, he, h1, h2 hlt⟩
theorem place_new {L : List ByteArray} {pl : List Int} (hg : Good L pl) {s : ByteArray} (hn : ∀ i, 0 < pl.getD i 0 → L.getD (pl.getD i 0 - 1).toNat ByteArray.empty ≠ s) : pl.getD (placeF L pl s).1 0 = 0 := by
  obtain ⟨j, _, he, _, h2⟩ := placeF_char hg s
  rw [he]
  have := getD_rng hg ((home pl s + j) % pl.length)
  rcases Int.lt_or_le 0 (pl.getD ((home pl s + j) % pl.length) 0) with h | h
  · exact absurd ⟨h, hn _ h⟩ h2
  · simp only; omega
theorem place_old {L : List ByteArray} {pl : List Int} (hg : Good L pl) (hs : Sem L pl) {i : Nat} (hi : i < L.length) : pl.getD (placeF L pl L[i]).1 0 = (i : Int) + 1 := by
  obtain ⟨j, hj, he, h1, h2⟩ := placeF_char hg L[i]
  obtain ⟨j', hq, hp⟩ := hs.reach i hi
  rw [he]
  simp only
  have hle : j ≤ j' := by
    rcases Nat.lt_or_ge j' j with h | h
    · exfalso
      have := (h1 j' h).2
      rw [hq] at this
      apply this
      rw [show ((i : Int) + 1 - 1).toNat = i by omega, getD_of_lt hi]
    · exact h
  rcases Nat.lt_or_ge j j' with h | h
  · have hpos := hp j h
    have hr := getD_rng hg ((home pl L[i] + j) % pl.length)
    have : L.getD (pl.getD ((home pl L[i] + j) % pl.length) 0 - 1).toNat ByteArray.empty = L[i] := by
      rcases Classical.em (L.getD (pl.getD ((home pl L[i] + j) % pl.length) 0 - 1).toNat ByteArray.empty = L[i]) with h | h
      · exact h
      · exact absurd ⟨hpos, h⟩ h2
    have hlt : (pl.getD ((home pl L[i] + j) % pl.length) 0 - 1).toNat < L.length := by omega
    rw [getD_of_lt hlt] at this
    have := nodup_inj hs.nodup _ _ this
    omega
  · rw [show j = j' by omega, hq]
theorem getD_set {pl : List Int} {p : Nat} (hp : p < pl.length) (v : Int) (i : Nat) : (pl.set p v).getD i 0 = if i = p then v else pl.getD i 0 := by
  rw [List.getD_eq_getElem?_getD, List.getElem?_set, List.getD_eq_getElem?_getD]
  by_cases h : p = i
  · subst h; simp [hp]
  · rw [if_neg h, if_neg (fun e => h e.symm)]
theorem reach_keep {pl : List Int} {p : Nat} (hp : p < pl.length) (h0 : pl.getD p 0 = 0) (v : Int) {t : ByteArray} {q : Int} (hq : 0 < q) (h : ReachT pl t q) : ReachT (pl.set p v) t q := by
  obtain ⟨j, hj, hk⟩ := h
  have hh : home (pl.set p v) t = home pl t := by unfold home; rw [List.length_set]
  refine ⟨j, ?_, fun k hkj => ?_⟩
  · rw [hh, List.length_set, getD_set hp, if_neg, hj]
    intro e
    rw [e, h0] at hj
    omega
  · have := hk k hkj
    rw [hh, List.length_set, getD_set hp, if_neg]
    · exact this
    · intro e
      rw [e, h0] at this
      omega
theorem reach_new {L : List ByteArray} {pl : List Int} (hg : Good L pl) (s : ByteArray) (h0 : pl.getD (placeF L pl s).1 0 = 0) (v : Int) : ReachT (pl.set (placeF L pl s).1 v) s v := by
  obtain ⟨j, hj, he, h1, h2⟩ := placeF_char hg s
  have hp := placeF_lt hg s
  have hh : home (pl.set (placeF L pl s).1 v) s = home pl s := by unfold home; rw [List.length_set]
  refine ⟨j, ?_, fun k hkj => ?_⟩
  · rw [hh, List.length_set, getD_set hp, if_pos (by rw [he])]
  · have hc := (h1 k hkj).1
    rw [hh, List.length_set, getD_set hp, if_neg]
    · exact hc
    · intro e
      rw [e, h0] at hc
      omega
theorem rehash_sem {L : List ByteArray} (hn : L.Nodup) {m : Nat} (hm : L.length < m) (hb : m ≤ 1099511627776) : ∀ n, n ≤ L.length →
    (∀ x ∈ rehashN L m n, x ≤ (n : Int)) ∧ ∀ i (h : i < L.length), i < n → ReachT (rehashN L m n) L[i] ((i : Int) + 1)
  | 0, _ => by
    refine ⟨fun x hx => ?_, fun i _ h => absurd h (by omega)⟩
    unfold rehashN at hx
    rw [List.mem_replicate] at hx
    omega
  | n + 1, hle => by
    obtain ⟨h1, h2⟩ := rehash_sem hn hm hb n (by omega)
    have hg := rehash_good (n := n) (by omega) hm hb
    have hlt : n < L.length := by omega
    have h0 : (rehashN L m n).getD (placeF L (rehashN L m n) L[n]).1 0 = 0 := by
      refine place_new hg fun i hi e => ?_
      have hr := getD_rng hg i
      have hx : (rehashN L m n).getD i 0 ≤ (n : Int) := by
        rw [List.getD_eq_getElem?_getD] at hi ⊢
        cases hh : (rehashN L m n)[i]? with
        | none => rw [hh] at hi; simp at hi
        | some x => exact h1 x (List.mem_of_getElem? hh)
      have hlt' : ((rehashN L m n).getD i 0 - 1).toNat < L.length := by omega
      rw [getD_of_lt hlt'] at e
      have := nodup_inj hn _ _ e
      omega
    have hset : rehashN L m (n + 1) = (rehashN L m n).set (placeF L (rehashN L m n) L[n]).1 ((n : Int) + 1) := by
      conv => lhs; unfold rehashN
      rw [getD_of_lt hlt]
    rw [hset]
    refine ⟨fun x hx => ?_, fun i hi hin => ?_⟩
    · rcases List.mem_or_eq_of_mem_set hx with h | rfl
      · have := h1 x h; omega
      · omega
    · by_cases hie : i = n
      · subst hie
        exact reach_new hg _ h0 _
      · exact reach_keep (placeF_lt hg _) h0 _ (by omega) (h2 i hi (by omega))
theorem not_in {L : List ByteArray} {pl : List Int} (hg : Good L pl) {s : ByteArray} (hs : s ∉ L) : ∀ i, 0 < pl.getD i 0 → L.getD (pl.getD i 0 - 1).toNat ByteArray.empty ≠ s := by
  intro i hi e
  have hr := getD_rng hg i
  have hlt : (pl.getD i 0 - 1).toNat < L.length := by omega
  rw [getD_of_lt hlt] at e
  exact hs (e ▸ List.getElem_mem hlt)
theorem nodup_snoc {L : List ByteArray} (hn : L.Nodup) {s : ByteArray} (hs : s ∉ L) : (L ++ [s]).Nodup := by
  rw [List.nodup_append]
  refine ⟨hn, by simp, fun a ha b hb e => ?_⟩
  rw [List.mem_singleton] at hb
  exact hs (hb ▸ e ▸ ha)
theorem put_old {L : List ByteArray} {pl : List Int} (hok : Ok L pl) (hs : Sem L pl) {i : Nat} (hi : i < L.length) : putF L pl L[i] = ((i : Int), L, pl, (placeF L pl L[i]).2) := by
  unfold putF
  rw [place_old hok.good hs hi, if_pos (by omega)]
  congr 1
  omega
theorem put_new {L : List ByteArray} {pl : List Int} (hok : Ok L pl) (hs : Sem L pl) {s : ByteArray} (hn : s ∉ L) (hf : L.length < 4294967296) : (putF L pl s).1 = (L.length : Int) ∧ (putF L pl s).2.1 = L ++ [s] ∧ Sem (putF L pl s).2.1 (putF L pl s).2.2.1 := by
  have hg := hok.good
  have h0 := place_new hg (not_in hg hn)
  have h1 := hok.half
  have h3 := hok.least
  have h4 := hok.most
  unfold putF
  rw [if_neg (by omega)]
  have hnd := nodup_snoc hs.nodup hn
  split
  · refine ⟨rfl, rfl, hnd, ?_⟩
    intro i hi
    have := (rehash_sem hnd (m := 2 * pl.length) (by simp; omega) (by omega) (L.length + 1) (by simp)).2 i hi (by simp at hi; omega)
    exact this
  · refine ⟨rfl, rfl, hnd, ?_⟩
    intro i hi
    simp only at hi ⊢
    by_cases hlt : i < L.length
    · rw [List.getElem_append_left hlt]
      exact reach_keep (placeF_lt hg s) h0 _ (by omega) (hs.reach i hlt)
    · have : i = L.length := by simp at hi; omega
      subst this
      rw [List.getElem_append_right (Nat.le_refl _)]
      simp only [Nat.sub_self, List.getElem_cons_zero]
      exact reach_new hg s h0 _
theorem find_old {L : List ByteArray} {pl : List Int} (hok : Ok L pl) (hs : Sem L pl) {i : Nat} (hi : i < L.length) : findF L pl L[i] = ((i : Int), true) := by
  unfold findF
  rw [place_old hok.good hs hi]
  congr 1
  · omega
  · exact decide_eq_true (by omega)
theorem find_new {L : List ByteArray} {pl : List Int} (hok : Ok L pl) {s : ByteArray} (hn : s ∉ L) : findF L pl s = (0, false) := by
  unfold findF
  rw [place_new hok.good (not_in hok.good hn)]
  rfl
theorem sem_new : Sem [] (List.replicate 8 0) := ⟨by simp, fun i h => absurd h (by simp)⟩

/-- What stands is told as one: a table with its texts, sound. -/
structure Good3 (H : Heap) (g : Nat) (L : List ByteArray) (F : Nat → Prop) (pl : List Int) (lk : Int) : Prop where
  tab : Tab H g L pl lk F
  ok : Ok L pl
  sem : Sem L pl
  small : ∀ x ∈ L, x.size ≤ 140737488355328
section
variable {H : Heap} {g : Nat} {L : List ByteArray} {F : Nat → Prop} {pl : List Int} {lk : Int}
theorem Good3.keep {H' : Heap} {G : Nat → Prop} (h : Good3 H g L F pl lk) (hf : Fr G H H') (hd : ∀ k, F k → ¬ G k) : Good3 H' g L F pl lk := ⟨h.tab.keep hf hd, h.ok, h.sem, h.small⟩
theorem Good3.put_old (h : Good3 H g L F pl lk) (hf : L.length < 4294967296) {i : Nat} (hi : i < L.length) {R : Int → Heap → Prop}
    (hR : ∀ H' F' lk', Good3 H' g L F' pl lk' → 1 ≤ lk' → Fr F H H' → (∀ k, F' k → F k ∨ Array.size H ≤ k) → R (i : Int) H') : intern_Table_Put.C (some ⟨g, 0, none⟩) L[i] H R := by
  refine put_spec h.tab h.ok hf (h.small _ (List.getElem_mem hi)) h.small fun H' F' ht hfr hF => ?_
  rw [Proofs.Ytjakbglakhpbjaa.put_old h.ok h.sem hi] at ht ⊢
  refine hR H' F' _ ⟨ht, h.ok, h.sem, h.small⟩ ?_ hfr hF
  obtain ⟨j, _, he, _⟩ := placeF_char h.ok.good L[i]
  rw [he]
  simp only
  omega
theorem Good3.put_new (h : Good3 H g L F pl lk) (hf : L.length < 4294967296) {s : ByteArray} (hs : s.size ≤ 140737488355328) (hn : s ∉ L) {R : Int → Heap → Prop}
    (hR : ∀ H' F' pl' lk', Good3 H' g (L ++ [s]) F' pl' lk' → 1 ≤ lk' → Fr F H H' → (∀ k, F' k → F k ∨ Array.size H ≤ k) → R (L.length : Int) H') : intern_Table_Put.C (some ⟨g, 0, none⟩) s H R := by
  refine put_spec h.tab h.ok hf hs h.small fun H' F' ht hfr hF => ?_
  obtain ⟨e1, e2, h3⟩ := Proofs.Ytjakbglakhpbjaa.put_new h.ok h.sem hn hf
  have hok := ok_put h.ok hf s
  rw [e2] at ht h3 hok
  rw [e1]
  refine hR H' F' _ _ ⟨ht, hok, h3, ?_⟩ ?_ hfr hF
  · intro x hx
    rcases List.mem_append.1 hx with h' | h'
    · exact h.small x h'
    · rw [List.mem_singleton] at h'; rw [h']; exact hs
  · obtain ⟨j, _, he, _⟩ := placeF_char h.ok.good s
    have : (putF L pl s).2.2.2 = (placeF L pl s).2 := by
      unfold putF
      split
      · rfl
      · split <;> rfl
    rw [this, he]
    simp only
    omega
theorem Good3.find_old (h : Good3 H g L F pl lk) {i : Nat} (hi : i < L.length) {R : Int → Bool → Heap → Prop}
    (hR : ∀ H', Good3 H' g L F pl ((placeF L pl L[i]).2 : Int) → Fr F H H' → R (i : Int) true H') : intern_Table_Find.C (some ⟨g, 0, none⟩) L[i] H R := by
  refine find_spec h.tab h.ok (h.small _ (List.getElem_mem hi)) fun H' ht hfr => ?_
  rw [Proofs.Ytjakbglakhpbjaa.find_old h.ok h.sem hi]
  exact hR H' ⟨ht, h.ok, h.sem, h.small⟩ hfr
theorem Good3.find_new (h : Good3 H g L F pl lk) {s : ByteArray} (hs : s.size ≤ 140737488355328) (hn : s ∉ L) {R : Int → Bool → Heap → Prop}
    (hR : ∀ H' lk', Good3 H' g L F pl lk' → Fr F H H' → R 0 false H') : intern_Table_Find.C (some ⟨g, 0, none⟩) s H R := by
  refine find_spec h.tab h.ok hs fun H' ht hfr => ?_
  rw [Proofs.Ytjakbglakhpbjaa.find_new h.ok hn]
  exact hR H' _ ⟨ht, h.ok, h.sem, h.small⟩ hfr
theorem new3 {H : Heap} {R : Option Addr → Heap → Prop} (hR : ∀ g H' pl, Good3 H' g [] (fun k => Array.size H ≤ k ∧ k < Array.size H') pl 0 → Fr noF H H' → R (some ⟨g, 0, none⟩) H') : intern_New.C H R :=
  new_spec fun g H' hg ht hf => hR g H' _ ⟨ht, ok_new, sem_new, by simp⟩ hf
end

/-! ### told -/
theorem told_spec {H : Heap} {R : Bool → Heap → Prop} (hR : ∀ H', Fr noF H H' → R true H') : brackenlaw9_told.C H R := by
  apply brackenlaw9_told.calls
  unfold brackenlaw9_told.W
  refine new3 fun g H1 pl1 t1 f1 => ?_
  refine brW_false rfl ?_
  have step : ∀ {F F' : Nat → Prop} {H1 H2 : Heap}, Fr noF H H1 → (∀ k, F k → Array.size H ≤ k) → Fr F H1 H2 → (∀ k, F' k → F k ∨ Array.size H1 ≤ k) → Fr noF H H2 ∧ ∀ k, F' k → Array.size H ≤ k := by
    intro F F' H1 H2 h1 hF h2 hF'
    refine ⟨h1.trans h2 fun k hk => .inr (hF k hk), fun k hk => ?_⟩
    rcases hF' k hk with h | h
    · exact hF k h
    · exact Nat.le_trans h1.size h
  refine t1.put_new (by decide) (by decide) (by simp) fun H2 F2 pl2 lk2 t2 _ f2 hF2 => ?_
  obtain ⟨f2, hF2⟩ := step f1 (fun k hk => hk.1) f2 hF2
  refine t2.put_new (by decide) (by decide) (by simp) fun H3 F3 pl3 lk3 t3 _ f3 hF3 => ?_
  obtain ⟨f3, hF3⟩ := step f2 hF2 f3 hF3
  refine t3.put_old (i := 0) (by decide) (by decide) fun H4 F4 lk4 t4 _ f4 hF4 => ?_
  obtain ⟨f4, hF4⟩ := step f3 hF3 f4 hF4
  refine t4.find_old (i := 1) (by decide) fun H5 t5 f5 => ?_
  obtain ⟨f5, hF5⟩ := step f4 hF4 f5 (fun k hk => .inl hk)
  refine t5.find_new (by decide) (by simp) fun H6 lk6 t6 f6 => ?_
  obtain ⟨f6, hF6⟩ := step f5 hF5 f6 (fun k hk => .inl hk)
  have hb : R true H6 := hR H6 f6
  refine get_spec t6.tab (by decide) 1 (fun i hi he => ?_) (fun h => absurd h (by decide))
  have hi1 : i = 1 := by omega
  subst hi1
  refine get_spec t6.tab (by decide) 2 (fun i hi he => ?_) (fun _ => ?_)
  · have : i < 2 := hi
    omega
  refine brW_pos (by decide) (brW_pos (by decide) (brW_pos (by decide) (brW_pos (by decide) (brW_true rfl (brW_true rfl (brW_pos rfl (brW_pos rfl (brW_pos rfl ?_))))))))
  refine len_spec t6.tab ?_
  refine brW_pos (by decide) ?_
  refine hash_spec (by decide) ?_
  refine brW_pos (by decide) ?_
  refine hash_spec (by decide) ?_
  refine brW_pos (by decide) ?_
  refine put_nil ?_
  refine brW_pos (by decide) ?_
  exact len_nil hb
end Go.Proofs.Ytjakbglakhpbjaa
