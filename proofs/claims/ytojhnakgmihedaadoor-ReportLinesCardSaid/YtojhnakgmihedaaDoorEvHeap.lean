import Derived.Test.YtojhnakgmihedaaDoorEvSound
/-! Words on the heap: blocks, what stays, slices that are owned or read. -/
namespace Go.Ev
section
variable {H H' : Heap} {b k o n : Nat} {cs : Array Value} {t : TypeId} {fr : Nat × Nat} {v : Value}
theorem add_mk (b o n : Nat) : (⟨b, o, none⟩ : Addr).add n = ⟨b, o + n, none⟩ := by
  unfold Addr.add
  split
  · rename_i h; subst h; rfl
  · rfl
theorem hcell_mk (h : H[b]? = some (.cells cs t fr)) (o : Nat) : hcell H ⟨b, o, none⟩ = cs[o]? := by
  unfold hcell
  simp only [h]
  rfl
theorem hcell_add (h : H[b]? = some (.cells cs t fr)) (o n : Nat) : hcell H ((⟨b, o, none⟩ : Addr).add n) = cs[o + n]? := by
  rw [add_mk, hcell_mk h]
theorem hfrozen_mk (h : H[b]? = some (.cells cs t (0, 0))) (o : Nat) : hfrozen H ⟨b, o, none⟩ = false := by
  unfold hfrozen
  simp only [h]
  simp
theorem hfrozen_add (h : H[b]? = some (.cells cs t (0, 0))) (o n : Nat) : hfrozen H ((⟨b, o, none⟩ : Addr).add n) = false := by
  rw [add_mk, hfrozen_mk h]
theorem hset_same (h : H[b]? = some (.cells cs t fr)) (o : Nat) (v : Value) : (hset H ⟨b, o, none⟩ v)[b]? = some (.cells (cs.setIfInBounds o v) t fr) := by
  unfold hset
  rw [Array.getElem?_modify]
  simp [h]
theorem hset_add_same (h : H[b]? = some (.cells cs t fr)) (o n : Nat) (v : Value) : (hset H ((⟨b, o, none⟩ : Addr).add n) v)[b]? = some (.cells (cs.setIfInBounds (o + n) v) t fr) := by
  rw [add_mk, hset_same h]
theorem hset_other {a : Addr} (hk : k ≠ a.block) (v : Value) : (hset H a v)[k]? = H[k]? := by
  unfold hset
  rw [Array.getElem?_modify, if_neg (fun e => hk e.symm)]
theorem hset_size (a : Addr) (v : Value) : Array.size (hset H a v) = Array.size H := by
  unfold hset
  exact Array.size_modify ..
theorem hnew_same : (hnew H cs t)[Array.size H]? = some (.cells cs t (0, 0)) := by unfold hnew; simp
theorem hnew_other (hk : k < Array.size H) : (hnew H cs t)[k]? = H[k]? := by
  unfold hnew
  rw [Array.getElem?_push, if_neg (by omega)]
theorem hnew_size : Array.size (hnew H cs t) = Array.size H + 1 := by unfold hnew; simp
theorem lt_of_blk {x : Obj} (h : H[b]? = some x) : b < Array.size H := (Array.getElem?_eq_some_iff.1 h).1
end

/-- H' is H but for the blocks of F; no block has gone. -/
structure Fr (F : Nat → Prop) (H H' : Heap) : Prop where
  size : Array.size H ≤ Array.size H'
  keep : ∀ k, k < Array.size H → ¬ F k → H'[k]? = H[k]?
abbrev noF : Nat → Prop := fun _ => False
theorem Fr.refl (F : Nat → Prop) (H : Heap) : Fr F H H := ⟨Nat.le_refl _, fun _ _ _ => rfl⟩
theorem Fr.trans {F G : Nat → Prop} {H H' H'' : Heap} (h : Fr F H H') (k : Fr G H' H'') (hg : ∀ i, G i → F i ∨ Array.size H ≤ i) : Fr F H H'' :=
  ⟨Nat.le_trans h.size k.size, fun i hi hf => by
    rw [k.keep i (Nat.lt_of_lt_of_le hi h.size) (fun hgi => ?_), h.keep i hi hf]
    rcases hg i hgi with h | h
    · exact hf h
    · omega⟩
theorem Fr.mono {F G : Nat → Prop} {H H' : Heap} (h : Fr F H H') (hg : ∀ i, F i → G i) : Fr G H H' := ⟨h.size, fun i hi hn => h.keep i hi (fun hf => hn (hg i hf))⟩
theorem Fr.new (H : Heap) (cs : Array Value) (t : TypeId) : Fr noF H (hnew H cs t) := ⟨by rw [hnew_size]; omega, fun _ hk _ => hnew_other hk⟩
theorem Fr.set (H : Heap) (a : Addr) (v : Value) : Fr (fun k => k = a.block) H (hset H a v) := ⟨by rw [hset_size]; exact Nat.le_refl _, fun _ _ hn => hset_other hn v⟩
theorem Fr.blk {F : Nat → Prop} {H H' : Heap} (h : Fr F H H') {k : Nat} {x : Obj} (hk : H[k]? = some x) (hf : ¬ F k) : H'[k]? = some x := by rw [h.keep k (lt_of_blk hk) hf, hk]

/-- A slice that is read: its elements, a cell each. -/
def Rd (H : Heap) (xs : List Value) (p : Option Addr) (l : Nat) : Prop := xs.length = l ∧ ∀ i, i < l → ∃ a, p = some a ∧ hcell H (a.add i) = xs[i]?
/-- The block of an address. -/
def blkIs (p : Option Addr) (k : Nat) : Prop := ∃ a, p = some a ∧ a.block = k
/-- A slice that stands at the head of a row of its own. -/
def Sl (H : Heap) (t : TypeId) (xs : List Value) (p : Option Addr) (l c : Nat) : Prop :=
  xs.length = l ∧ ((p = none ∧ l = 0 ∧ c = 0) ∨ ∃ b cs, p = some ⟨b, 0, none⟩ ∧ H[b]? = some (.cells cs t (0, 0)) ∧ cs.size = c ∧ l ≤ c ∧ ∀ i, i < l → cs[i]? = xs[i]?)
section
variable {H H' : Heap} {t : TypeId} {xs : List Value} {p : Option Addr} {l c : Nat}
theorem Sl.len (h : Sl H t xs p l c) : xs.length = l := h.1
theorem Sl.nil (H : Heap) (t : TypeId) : Sl H t [] none 0 0 := ⟨rfl, .inl ⟨rfl, rfl, rfl⟩⟩
theorem Sl.rd (h : Sl H t xs p l c) : Rd H xs p l := by
  refine ⟨h.1, fun i hi => ?_⟩
  rcases h.2 with ⟨_, hl, _⟩ | ⟨b, cs, hp, hb, _, _, hc⟩
  · omega
  · exact ⟨_, hp, by rw [hcell_add hb, Nat.zero_add]; exact hc i hi⟩
theorem Sl.cap (h : Sl H t xs p l c) : l ≤ c := by
  rcases h.2 with ⟨_, hl, hc⟩ | ⟨b, cs, hp, hb, _, hlc, hc⟩ <;> omega
theorem Rd.get (h : Rd H xs p l) {i : Nat} {v : Value} (hi : xs[i]? = some v) : ∃ a, p = some a ∧ hcell H (a.add i) = some v := by
  have hlt : i < l := by
    have := (List.getElem?_eq_some_iff.1 hi).1
    rw [h.1] at this
    exact this
  obtain ⟨a, hp, hc⟩ := h.2 i hlt
  exact ⟨a, hp, by rw [hc, hi]⟩
theorem Sl.blk_lt (h : Sl H t xs p l c) {k : Nat} (hk : blkIs p k) : k < Array.size H := by
  obtain ⟨a, rfl, rfl⟩ := hk
  rcases h.2 with ⟨hp, _⟩ | ⟨b, cs, hp, hb, _⟩
  · cases hp
  · cases hp; exact lt_of_blk hb
theorem Sl.keep {F : Nat → Prop} (h : Sl H t xs p l c) (hf : Fr F H H') (hn : ∀ k, blkIs p k → ¬ F k) : Sl H' t xs p l c := by
  refine ⟨h.1, ?_⟩
  rcases h.2 with h | ⟨b, cs, rfl, hb, hr⟩
  · exact .inl h
  · exact .inr ⟨b, cs, rfl, hf.blk hb (hn b ⟨_, rfl, rfl⟩), hr⟩
theorem Sl.ty (h : Sl H t xs p l c) {k : Nat} (hk : blkIs p k) : ∃ cs, H[k]? = some (.cells cs t (0, 0)) := by
  obtain ⟨a, rfl, rfl⟩ := hk
  rcases h.2 with ⟨hp, _⟩ | ⟨b, cs, hp, hb, _⟩
  · cases hp
  · cases hp; exact ⟨cs, hb⟩
/-- A slice stands elsewhere than a block of another type. -/
theorem Sl.ne (h : Sl H t xs p l c) {k : Nat} {cs : Array Value} {u : TypeId} {fr : Nat × Nat} (hk : H[k]? = some (.cells cs u fr)) (hne : t ≠ u) : ¬ blkIs p k := by
  intro hb
  obtain ⟨cs', h'⟩ := h.ty hb
  rw [hk] at h'
  injection h' with h'
  injection h' with _ h'
  exact hne h'.symm
theorem Sl.ne' {u : TypeId} {ys : List Value} {q : Option Addr} {m d : Nat} (h : Sl H t xs p l c) (h' : Sl H u ys q m d) (hne : t ≠ u) : ∀ k, blkIs p k → ¬ blkIs q k := by
  intro k hk hq
  obtain ⟨cs, hc⟩ := h'.ty hq
  exact h.ne hc hne hk
/-- A store into an element. -/
theorem Sl.store (h : Sl H t xs p l c) {i : Nat} (hi : i < l) (v : Value) : ∃ a, p = some a ∧ (∃ u, hcell H (a.add i) = some u) ∧ hfrozen H (a.add i) = false ∧
    Sl (hset H (a.add i) v) t (xs.set i v) p l c ∧ Fr (blkIs p) H (hset H (a.add i) v) := by
  rcases h.2 with ⟨_, hl, _⟩ | ⟨b, cs, rfl, hb, hs, hlc, hc⟩
  · omega
  · refine ⟨_, rfl, ?_, hfrozen_add hb 0 i, ⟨by simp [h.1], .inr ⟨b, cs.setIfInBounds i v, rfl, ?_, by simp [hs], hlc, ?_⟩⟩, ?_⟩
    · rw [hcell_add hb, Nat.zero_add, hc i hi]
      exact ⟨xs[i]'(by rw [h.1]; exact hi), List.getElem?_eq_getElem _⟩
    · rw [hset_add_same hb, Nat.zero_add]
    · intro j hj
      rw [Array.getElem?_setIfInBounds, List.getElem?_set, hs, h.1]
      by_cases hij : i = j
      · subst hij; simp [hi, show i < c by omega]
      · simp [hij, hc j hj]
    · refine (Fr.set H _ v).mono fun k hk => ?_
      rw [add_mk] at hk
      exact ⟨_, rfl, hk.symm⟩
theorem zerosOf_one {z : Value} (hz : cellsV z = [z]) (n : Nat) : zerosOf z n = Array.replicate n z := by
  unfold zerosOf
  rw [hz]
  apply Array.ext'
  simp only [List.length_cons, List.length_nil, Nat.zero_add, Nat.mul_one, Nat.mod_one, Array.toList_map, Array.toList_range, Array.toList_replicate]
  apply List.ext_getElem
  · simp
  · intro i h1 h2; simp
theorem Sl.made (H : Heap) (t : TypeId) {z : Value} (hz : cellsV z = [z]) (n : Nat) : Sl (hnew H (zerosOf z n) t) t (List.replicate n z) (some ⟨Array.size H, 0, none⟩) n n := by
  refine ⟨by simp, .inr ⟨_, Array.replicate n z, rfl, ?_, by simp, Nat.le_refl _, ?_⟩⟩
  · rw [← zerosOf_one hz]; exact hnew_same
  · intro i hi; simp [hi]
theorem Sl.lit (H : Heap) (t : TypeId) (xs : List Value) : Sl (hnew H xs.toArray t) t xs (some ⟨Array.size H, 0, none⟩) xs.length xs.length :=
  ⟨rfl, .inr ⟨_, xs.toArray, rfl, hnew_same, by simp, Nat.le_refl _, fun i _ => by simp⟩⟩
theorem oneW_mk {v : Value} {K : Prop} (h1 : ∀ c, v ≠ .agg c) (h2 : ∀ c, v ≠ .tuple c) (h : K) : oneW v K := by
  unfold oneW
  cases v <;> first | exact h | exact absurd rfl (h1 _) | exact absurd rfl (h2 _)
/-- A value of one cell. -/
def One (v : Value) : Prop := (∀ c, v ≠ .agg c) ∧ ∀ c, v ≠ .tuple c
theorem stCs_mk {b : Nat} {t : TypeId} : ∀ {vs : List Value} {H : Heap} {cs : Array Value} {o i : Nat} {K : Heap → Prop}, H[b]? = some (.cells cs t (0, 0)) → (∀ v ∈ vs, One v) → o + i + vs.length ≤ cs.size →
    (∀ H' cs', H'[b]? = some (.cells cs' t (0, 0)) → cs'.size = cs.size → (∀ j, j < o + i → cs'[j]? = cs[j]?) → (∀ j, j < vs.length → cs'[o + i + j]? = vs[j]?) → Fr (fun k => k = b) H H' → K H') → stCs H ⟨b, o, none⟩ vs i K
  | [], H, cs, o, i, K, hb, _, _, hK => hK H cs hb rfl (fun _ _ => rfl) (fun j hj => absurd hj (by simp)) (Fr.refl _ _)
  | v :: vs, H, cs, o, i, K, hb, h1, hlen, hK => by
    have hone := h1 v (by simp)
    have hlt : o + i < cs.size := by simp at hlen; omega
    unfold stCs stC
    refine oneW_mk hone.1 hone.2 ⟨⟨cs[o + i], by rw [hcell_add hb]; exact Array.getElem?_eq_getElem hlt⟩, hfrozen_add hb o i, ?_⟩
    refine stCs_mk (hset_add_same hb o i v) (fun u hu => h1 u (by simp [hu])) (by simp at hlen ⊢; omega) ?_
    intro H' cs' hb' hs' hlow hnew hfr
    refine hK H' cs' hb' (by rw [hs']; simp) ?_ ?_ ?_
    · intro j hj
      rw [hlow j (by omega), Array.getElem?_setIfInBounds, if_neg (by omega)]
    · intro j hj
      cases j with
      | zero =>
        rw [Nat.add_zero, hlow (o + i) (by omega), Array.getElem?_setIfInBounds]
        simp [hlt]
      | succ j =>
        have := hnew j (by simp at hj; omega)
        rw [show o + i + (j + 1) = o + (i + 1) + j by omega, this]
        simp
    · refine Fr.trans ((Fr.set H _ v).mono fun k hk => ?_) hfr (fun k hk => .inl hk)
      rw [add_mk] at hk
      exact hk
/-- append of some cells to a slice of one-cell elements that is owned. -/
theorem appW_own {el bytes : Nat} {z y : Value} {n : Nat} {new : List Value} {K : Option Addr → Nat → Nat → Heap → Prop} (hs : Sl H el xs p l c) (hz : cellsV z = [z])
    (hap : appended H 1 y n new) (hn : new.length = n) (hone : ∀ v ∈ new, One v) (hb : (l + n) * bytes ≤ 140737488355328) (hb0 : bytes ≠ 0)
    (hK : ∀ p' c' H', Sl H' el (xs ++ new) p' (l + n) c' → Fr (blkIs p) H H' → (∀ k, blkIs p' k → blkIs p k ∨ Array.size H ≤ k) → K p' (l + n) c' H') : appW el 1 bytes z p l c y H K := by
  refine ⟨n, new, hap, ?_⟩
  rcases Nat.lt_or_ge c (l + n) with hg | hfit
  · refine .inr ⟨hg, hb, hb0, xs, by rw [hs.1, Nat.mul_one], ?_, ?_⟩
    · have hrd := hs.rd
      cases p with
      | none =>
        rcases hs.2 with ⟨_, hl, _⟩ | ⟨b, cs, hp, _⟩
        · exact List.eq_nil_of_length_eq_zero (by rw [hs.1, hl])
        · cases hp
      | some a =>
        intro j v hj
        obtain ⟨a', ha, hc⟩ := hrd.get hj
        cases ha
        exact hc
    · intro cap hcap
      refine hK _ _ _ ⟨by simp [hs.1, hn], .inr ⟨_, _, rfl, hnew_same, ?_, hcap, ?_⟩⟩ ((Fr.new H _ _).mono fun _ h => h.elim) ?_
      · rw [zerosOf_one hz]
        simp [hs.1, hn]
        omega
      · intro i hi
        rw [zerosOf_one hz]
        have hlen : i < (xs ++ new).length := by simp [hs.1, hn]; exact hi
        rw [← Array.getElem?_toList]
        simp only [Array.toList_append, Array.toList_replicate]
        rw [List.getElem?_append_left (by simpa using hlen)]
      · rintro k ⟨a, ha, rfl⟩
        cases ha
        exact .inr (Nat.le_refl _)
  · refine .inl ⟨hfit, ?_⟩
    rcases hs.2 with ⟨rfl, rfl, rfl⟩ | ⟨b, cs, rfl, hbk, hsz, hlc, hc⟩
    · have h0 : n = 0 := by omega
      subst h0
      refine ⟨rfl, ?_⟩
      have hnil : new = [] := List.eq_nil_of_length_eq_zero hn
      subst hnil
      have := hK none 0 H (by simpa using hs) (Fr.refl _ _) (fun k hk => .inl hk)
      simpa using this
    · simp only
      rw [Nat.mul_one, add_mk, Nat.zero_add]
      refine stCs_mk hbk hone (by rw [hn, hsz]; omega) ?_
      intro H' cs' hb' hs' hlow hnew hfr
      refine hK _ _ H' ⟨by simp [hs.1, hn], .inr ⟨b, cs', rfl, hb', by rw [hs', hsz], hfit, ?_⟩⟩ (hfr.mono fun k hk => ⟨_, rfl, hk.symm⟩) (fun k hk => .inl hk)
      intro i hi
      rcases Nat.lt_or_ge i l with h | h
      · rw [hlow i (by omega), hc i h, List.getElem?_append_left (by rw [hs.1]; exact h)]
      · have := hnew (i - l) (by omega)
        rw [show l + 0 + (i - l) = i by omega] at this
        rw [this, List.getElem?_append_right (by rw [hs.1]; exact h), hs.1]
/-- append of one element. -/
theorem app1 {el bytes t1 : Nat} {z v : Value} {K : Option Addr → Nat → Nat → Heap → Prop} (hs : Sl H el xs p l c) (hz : cellsV z = [z]) (hone : One v) (hb : (l + 1) * bytes ≤ 140737488355328) (hb0 : bytes ≠ 0)
    (hK : ∀ p' c' H', Sl H' el (xs ++ [v]) p' (l + 1) c' → Fr (blkIs p) H H' → (∀ k, blkIs p' k → blkIs p k ∨ Array.size H ≤ k) → K p' (l + 1) c' H') :
    letV (hnew H #[v] t1) fun H1 : Heap => appW el 1 bytes z p l c (.slice (some ⟨Array.size H, 0, none⟩) 1 1) H1 K := by
  refine letV_mk fun H1 hH1 => ?_
  subst hH1
  have hf := Fr.new H #[v] t1
  refine appW_own (new := [v]) (hs.keep hf (fun _ _ h => h)) hz ?_ rfl (by simpa using hone) hb hb0 ?_
  · refine ⟨rfl, rfl, ?_⟩
    intro j u hj
    rw [hcell_add hnew_same, Nat.zero_add]
    simpa using hj
  · intro p' c' H' h1 h2 h3
    refine hK p' c' H' h1 (Fr.trans (hf.mono fun _ h => h.elim) h2 (fun k hk => .inl hk)) fun k hk => ?_
    rcases h3 k hk with h | h
    · exact .inl h
    · rw [hnew_size] at h; exact .inr (by omega)
end
end Go.Ev
namespace Go.Ev
theorem add_block (a : Addr) (n : Nat) : (a.add n).block = a.block := by
  unfold Addr.add
  split <;> rfl
theorem hcell_lt {H : Heap} {a : Addr} {v : Value} (h : hcell H a = some v) : a.block < Array.size H := by
  unfold hcell at h
  split at h
  · rename_i hb
    exact lt_of_blk hb
  · cases h
theorem hcell_congr {H H' : Heap} {a : Addr} (h : H'[a.block]? = H[a.block]?) : hcell H' a = hcell H a := by
  unfold hcell
  rw [h]
theorem Fr.cell {F : Nat → Prop} {H H' : Heap} (h : Fr F H H') {a : Addr} {v : Value} (hc : hcell H a = some v) (hf : ¬ F a.block) : hcell H' a = some v := by
  rw [hcell_congr (h.keep _ (hcell_lt hc) hf), hc]
theorem Rd.keep {H H' : Heap} {xs : List Value} {p : Option Addr} {l : Nat} {F : Nat → Prop} (h : Rd H xs p l) (hf : Fr F H H') (hn : ∀ k, k < Array.size H → blkIs p k → ¬ F k) : Rd H' xs p l := by
  refine ⟨h.1, fun i hi => ?_⟩
  obtain ⟨a, hp, hc⟩ := h.2 i hi
  refine ⟨a, hp, ?_⟩
  have hx : xs[i]? = some (xs[i]'(by rw [h.1]; exact hi)) := List.getElem?_eq_getElem _
  rw [hx] at hc ⊢
  have hlt := hcell_lt hc
  rw [add_block] at hlt
  exact hf.cell hc (by rw [add_block]; exact hn _ hlt ⟨a, hp, rfl⟩)
/-- Of what was there nothing has turned: what was read is read as before. -/
theorem Rd.old {H H' : Heap} {xs : List Value} {p : Option Addr} {l : Nat} (h : Rd H xs p l) (hf : Fr noF H H') : Rd H' xs p l := h.keep hf fun _ _ _ h => h
end Go.Ev
namespace Go.Ev
theorem Fr.trans0 {H H' H'' : Heap} (h : Fr noF H H') (k : Fr noF H' H'') : Fr noF H H'' := h.trans k fun _ h => h.elim
end Go.Ev
