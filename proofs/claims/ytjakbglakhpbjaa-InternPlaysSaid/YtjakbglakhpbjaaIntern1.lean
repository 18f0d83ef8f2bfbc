import Derived.Test.YtjakbglakhpbjaaEvTac
import Derived.Test.YtjakbglakhpbjaaMA1
/-! Package intern: the hash, the table in memory, where a text stands. -/
namespace Go.Proofs.Ytjakbglakhpbjaa
open Go.Ev
set_option linter.unusedVariables false

def hashStep (h : Int) (c : UInt8) : Int := IntKind.u64.wrap ((xorW .u64 h (IntKind.u64.wrap (c.toNat : Int))) * 1099511628211)
def hashL (l : List UInt8) : Int := l.foldl hashStep 14695981039346656037
def hashS (s : ByteArray) : Int := hashL s.data.toList
theorem hashL_range (l : List UInt8) : 0 ≤ hashL l ∧ hashL l ≤ 18446744073709551615 := by
  unfold hashL
  rcases List.eq_nil_or_concat l with rfl | ⟨l', c, rfl⟩
  · decide
  · rw [List.concat_eq_append, List.foldl_append]
    exact wrap_u64_range _
theorem take_hash {s : ByteArray} {i : Nat} (h : i < s.size) : hashL (s.data.toList.take (i + 1)) = IntKind.u64.wrap ((xorW .u64 (hashL (s.data.toList.take i)) (IntKind.u64.wrap (bt s (i : Int)))) * 1099511628211) := by
  have hl : i < s.data.toList.length := by rw [Array.length_toList]; exact h
  unfold hashL
  rw [List.take_succ_eq_append_getElem hl, List.foldl_append]
  rw [bt_get h]
  rfl
theorem hash_spec {s : ByteArray} (hs : s.size ≤ 140737488355328) {H : Heap} {R : Int → Heap → Prop} (hR : R (hashS s) H) : intern_Hash.C s H R := by
  apply intern_Hash.calls
  unfold intern_Hash.W
  refine joinW_thru ?_
  refine loopW_mk (fun n q H' => H' = H ∧ ∃ i : Nat, i ≤ s.size ∧ q.1 = hashL (s.data.toList.take i) ∧ q.2.1 = (i : Int) ∧ n = s.size - i) s.size ⟨rfl, 0, by omega, rfl, rfl, rfl⟩ ?_
  rintro n ⟨h, x, _⟩ H' ⟨rfl, i, hi, hh, hx, rfl⟩
  simp only at hh hx
  subst hx
  dsimp only
  refine brW_dec (fun hlt => ?_) (fun hge => ?_)
  · have hlt : i < s.size := by omega
    refine ⟨by omega, by omega, letV_mk fun h3 h3e => ?_⟩
    refine ⟨s.size - (i + 1), by omega, rfl, i + 1, by omega, ?_, ?_, rfl⟩
    · rw [h3e, take_hash hlt, hh]
    · rw [wrap_i64 (by omega) (by omega)]
      rfl
  · have : i = s.size := by omega
    subst this
    have e : s.data.toList.take s.size = s.data.toList := List.take_of_length_le (by rw [Array.length_toList]; exact Nat.le_refl _)
    rw [e] at hh
    rw [hh]
    exact hR
theorem refHash_spec {s : ByteArray} (hs : s.size ≤ 140737488355328) {H : Heap} {R : Int → Heap → Prop} (hR : R (hashS s) H) : brackenref1_Hash.C s H R := by
  apply brackenref1_Hash.calls
  unfold brackenref1_Hash.W
  refine joinW_thru ?_
  refine loopW_mk (fun n q H' => H' = H ∧ ∃ i : Nat, i ≤ s.size ∧ q.1 = hashL (s.data.toList.take i) ∧ q.2.1 = (i : Int) ∧ n = s.size - i) s.size ⟨rfl, 0, by omega, rfl, rfl, rfl⟩ ?_
  rintro n ⟨h, x, _⟩ H' ⟨rfl, i, hi, hh, hx, rfl⟩
  simp only at hh hx
  subst hx
  dsimp only
  refine brW_dec (fun hlt => ?_) (fun hge => ?_)
  · have hlt : i < s.size := by omega
    refine ⟨by omega, by omega, letV_mk fun h3 h3e => letV_mk fun i4 i4e => ?_⟩
    refine ⟨s.size - (i + 1), by omega, rfl, i + 1, by omega, ?_, ?_, rfl⟩
    · rw [h3e, take_hash hlt, hh]
    · rw [i4e, wrap_i64 (by omega) (by omega)]
      rfl
  · have : i = s.size := by omega
    subst this
    have e : s.data.toList.take s.size = s.data.toList := List.take_of_length_le (by rw [Array.length_toList]; exact Nat.le_refl _)
    rw [e] at hh
    rw [hh]
    exact hR

/-! ### The table -/
abbrev anyS (s : ByteArray) : Value := .iface ty_string (.string s)
abbrev intV (n : Int) : Value := .int .i64 n
structure TabAt (H : Heap) (g : Nat) (L : List ByteArray) (pl : List Int) (lk : Int) (lp : Option Addr) (lc : Nat) (pp : Option Addr) (pc : Nat) : Prop where
  blk : H[g]? = some (.cells #[.slice lp L.length lc, .slice pp pl.length pc, .int .i64 lk] ty_intern_Table (0, 0))
  l : Sl H ty_any (L.map anyS) lp L.length lc
  p : Sl H ty_int (pl.map intV) pp pl.length pc
section
variable {H : Heap} {g : Nat} {L : List ByteArray} {pl : List Int} {lk : Int} {lp pp : Option Addr} {lc pc : Nat}
theorem TabAt.f0 (h : TabAt H g L pl lk lp lc pp pc) : hcell H ((⟨g, 0, none⟩ : Addr).add 0) = some (.slice lp L.length lc) := (hcell_add h.blk 0 0).trans rfl
theorem TabAt.f1 (h : TabAt H g L pl lk lp lc pp pc) : hcell H ((⟨g, 0, none⟩ : Addr).add 1) = some (.slice pp pl.length pc) := (hcell_add h.blk 0 1).trans rfl
theorem TabAt.f2 (h : TabAt H g L pl lk lp lc pp pc) : hcell H ((⟨g, 0, none⟩ : Addr).add 2) = some (.int .i64 lk) := (hcell_add h.blk 0 2).trans rfl
theorem TabAt.text (h : TabAt H g L pl lk lp lc pp pc) {i : Nat} (hi : i < L.length) : ∃ a, lp = some a ∧ hcell H (a.add i) = some (anyS L[i]) :=
  h.l.rd.get (by rw [List.getElem?_map, List.getElem?_eq_getElem hi]; rfl)
theorem TabAt.place (h : TabAt H g L pl lk lp lc pp pc) {i : Nat} (hi : i < pl.length) : ∃ a, pp = some a ∧ hcell H (a.add i) = some (.int .i64 pl[i]) :=
  h.p.rd.get (by rw [List.getElem?_map, List.getElem?_eq_getElem hi]; rfl)
theorem TabAt.lne (h : TabAt H g L pl lk lp lc pp pc) : ¬ blkIs lp g := h.l.ne h.blk (by decide)
theorem TabAt.pne (h : TabAt H g L pl lk lp lc pp pc) : ¬ blkIs pp g := h.p.ne h.blk (by decide)
theorem TabAt.lpne (h : TabAt H g L pl lk lp lc pp pc) : ∀ k, blkIs lp k → ¬ blkIs pp k := h.l.ne' h.p (by decide)
/-- The table with another number of places looked at. -/
theorem TabAt.look (h : TabAt H g L pl lk lp lc pp pc) (n : Int) : TabAt (hset H ((⟨g, 0, none⟩ : Addr).add 2) (.int .i64 n)) g L pl n lp lc pp pc := by
  have hf : Fr (fun k => k = g) H (hset H ((⟨g, 0, none⟩ : Addr).add 2) (.int .i64 n)) := by
    rw [add_mk]; exact Fr.set H ⟨g, 0 + 2, none⟩ _
  refine ⟨?_, h.l.keep hf fun k hk e => h.lne (e ▸ hk), h.p.keep hf fun k hk e => h.pne (e ▸ hk)⟩
  rw [hset_add_same h.blk]
  rfl
theorem look_fr (H : Heap) (g : Nat) (n : Int) : Fr (fun k => k = g) H (hset H ((⟨g, 0, none⟩ : Addr).add 2) (.int .i64 n)) := by
  rw [add_mk]; exact Fr.set H ⟨g, 0 + 2, none⟩ _
theorem TabAt.keep {F : Nat → Prop} {H' : Heap} (h : TabAt H g L pl lk lp lc pp pc) (hf : Fr F H H') (h1 : ¬ F g) (h2 : ∀ k, blkIs lp k → ¬ F k) (h3 : ∀ k, blkIs pp k → ¬ F k) : TabAt H' g L pl lk lp lc pp pc :=
  ⟨hf.blk h.blk h1, h.l.keep hf h2, h.p.keep hf h3⟩

/-- Where a text stands or could, and at how many places was looked. -/
def probe (L : List ByteArray) (pl : List Int) (s : ByteArray) : Nat → Nat → Nat → Nat × Nat
  | 0, at_, k => (at_, k)
  | f + 1, at_, k => if 0 < pl.getD at_ 0 ∧ L.getD (pl.getD at_ 0 - 1).toNat ByteArray.empty ≠ s then probe L pl s f ((at_ + 1) % pl.length) (k + 1) else (at_, k)
def home (pl : List Int) (s : ByteArray) : Nat := (hashS s).toNat % pl.length
def placeF (L : List ByteArray) (pl : List Int) (s : ByteArray) : Nat × Nat := probe L pl s pl.length (home pl s) 1
/-- The places: numbers of texts and one, or 0; one is free. -/
structure Good (L : List ByteArray) (pl : List Int) : Prop where
  rng : ∀ x ∈ pl, 0 ≤ x ∧ x ≤ L.length
  free : ∃ i, i < pl.length ∧ pl.getD i 0 = 0
  len : pl.length ≤ 1099511627776
  texts : L.length ≤ 1099511627776
theorem text_spec (h : TabAt H g L pl lk lp lc pp pc) {i : Nat} (hi : i < L.length) {n : Int} (hn : n = (i : Int)) {R : ByteArray → Heap → Prop} (hR : R L[i] H) : intern_Table_text.C (some ⟨g, 0, none⟩) n H R := by
  subst hn
  apply intern_Table_text.calls
  unfold intern_Table_text.W
  obtain ⟨a, ha, hc⟩ := h.text hi
  refine ⟨_, rfl, _, _, _, h.f0, a, ha, by omega, by omega, _, ?_, L[i], true, .inl ⟨rfl, rfl⟩, hR⟩
  rw [Int.toNat_natCast]
  exact hc
theorem getD_rng (hg : Good L pl) (i : Nat) : 0 ≤ pl.getD i 0 ∧ pl.getD i 0 ≤ L.length := by
  rw [List.getD_eq_getElem?_getD]
  cases h : pl[i]? with
  | none => simp
  | some x => exact hg.rng x (List.mem_of_getElem? h)
/-- Not all places, one after the other from one on, are taken. -/
theorem free_step (hg : Good L pl) (a : Nat) (j : Nat) (hj : ∀ k, k < j → 0 < pl.getD ((a + k) % pl.length) 0) : j < pl.length := by
  obtain ⟨i, hi, h0⟩ := hg.free
  rcases Nat.lt_or_ge j pl.length with h | h
  · exact h
  · exfalso
    have hm : 0 < pl.length := by omega
    let k := (i + pl.length - a % pl.length) % pl.length
    have hk : k < pl.length := Nat.mod_lt _ hm
    have ha : a % pl.length < pl.length := Nat.mod_lt _ hm
    have e : (a + k) % pl.length = i := by
      rw [Nat.add_mod]
      simp only [k]
      rcases Nat.lt_or_ge i (a % pl.length) with h1 | h1
      · rw [Nat.mod_mod, Nat.mod_eq_of_lt (a := i + pl.length - a % pl.length) (by omega), show a % pl.length + (i + pl.length - a % pl.length) = i + pl.length by omega, Nat.add_mod_right, Nat.mod_eq_of_lt hi]
      · rw [Nat.mod_mod, show i + pl.length - a % pl.length = (i - a % pl.length) + pl.length by omega, Nat.add_mod_right, Nat.mod_eq_of_lt (a := i - a % pl.length) (by omega), show a % pl.length + (i - a % pl.length) = i by omega, Nat.mod_eq_of_lt hi]
    have := hj k (by omega)
    rw [e, h0] at this
    omega
theorem home_lt (hg : Good L pl) (s : ByteArray) : home pl s < pl.length := by
  obtain ⟨i, hi, _⟩ := hg.free
  exact Nat.mod_lt _ (by omega)
theorem home_eq (hg : Good L pl) (s : ByteArray) : IntKind.i64.wrap (Int.tmod (hashS s) (IntKind.u64.wrap (pl.length : Int))) = (home pl s : Int) := by
  have hl := hg.len
  have hh := hashL_range s.data.toList
  have hlt := home_lt hg s
  rw [wrap_u64 (by omega) (by omega)]
  have e : Int.tmod (hashS s) (pl.length : Int) = (home pl s : Int) := by
    unfold home
    have : hashS s = ((hashS s).toNat : Int) := by
      have : 0 ≤ hashS s := hh.1
      omega
    rw [this, Int.toNat_natCast]
    rfl
  rw [e, wrap_i64 (by omega) (by omega)]
theorem probe_stop {s : ByteArray} {f a k : Nat} (h : ¬ (0 < pl.getD a 0 ∧ L.getD (pl.getD a 0 - 1).toNat ByteArray.empty ≠ s)) : probe L pl s f a k = (a, k) := by
  cases f with
  | zero => rfl
  | succ f => unfold probe; rw [if_neg h]
theorem getD_of_lt {α : Type} {l : List α} {i : Nat} (h : i < l.length) (d : α) : l.getD i d = l[i] := by
  rw [List.getD_eq_getElem?_getD, List.getElem?_eq_getElem h]; rfl
theorem place_spec (h : TabAt H g L pl lk lp lc pp pc) (hg : Good L pl) {s : ByteArray} (hs : s.size ≤ 140737488355328) {R : Int → Heap → Prop}
    (hR : ∀ H', TabAt H' g L pl ((placeF L pl s).2 : Int) lp lc pp pc → Fr (fun k => k = g) H H' → R ((placeF L pl s).1 : Int) H') : intern_Table_place.C (some ⟨g, 0, none⟩) s H R := by
  apply intern_Table_place.calls
  unfold intern_Table_place.W
  refine ⟨_, rfl, ⟨_, h.f2⟩, hfrozen_add h.blk 0 2, letV_mk fun H1 hH1 => ?_⟩
  have h1 : TabAt H1 g L pl 1 lp lc pp pc := by rw [hH1]; exact h.look 1
  have f1 : Fr (fun k => k = g) H H1 := by rw [hH1]; exact look_fr H g 1
  clear hH1 h
  refine ⟨_, rfl, _, _, _, h1.f1, ?_⟩
  refine hash_spec hs ?_
  refine ⟨⟨_, _, _, h1.f1, rfl⟩, ?_⟩
  have hlt := home_lt hg s
  have hlen := hg.len
  refine ⟨by rw [wrap_u64 (by omega) (by omega)]; omega, letV_mk fun at5 hat => ?_⟩
  rw [home_eq hg] at hat
  subst hat
  refine joinW_thru ?_
  refine loopW_mk (fun n q H' => ∃ j a : Nat, (∀ k, k < j → 0 < pl.getD ((home pl s + k) % pl.length) 0) ∧ a = (home pl s + j) % pl.length ∧ q.1 = (a : Int) ∧ n = pl.length - j ∧
    TabAt H' g L pl ((1 + j : Nat) : Int) lp lc pp pc ∧ Fr (fun k => k = g) H H' ∧ probe L pl s (pl.length - j) a (1 + j) = placeF L pl s) pl.length
    ⟨0, home pl s, by omega, by rw [Nat.add_zero, Nat.mod_eq_of_lt hlt], rfl, rfl, h1, f1, rfl⟩ ?_
  rintro n ⟨q, _⟩ H2 ⟨j, a, hj, ha, hq, rfl, h2, f2, hp⟩
  simp only at hq
  subst hq
  dsimp only
  have hjl := free_step hg _ j hj
  have hal : a < pl.length := by rw [ha]; exact Nat.mod_lt _ (by omega)
  obtain ⟨ap, hap, hac⟩ := h2.place hal
  have hx := getD_rng hg a
  have hgd : pl.getD a 0 = pl[a] := getD_of_lt hal 0
  have hxl := hg.texts
  -- what stands behind the test
  have stop : ¬ (0 < pl.getD a 0 ∧ L.getD (pl.getD a 0 - 1).toNat ByteArray.empty ≠ s) → R (a : Int) H2 := by
    intro hn
    rw [probe_stop hn] at hp
    have := hR H2
    rw [← hp] at this
    exact this h2 f2
  refine joinW_thru ?_
  refine ⟨_, rfl, _, _, _, h2.f1, ap, hap, by omega, by omega, _, by rw [Int.toNat_natCast]; exact hac, ?_⟩
  refine brW_dec (fun hpos => ?_) (fun hnp => ?_)
  · refine ⟨_, rfl, _, _, _, h2.f1, ap, hap, by omega, by omega, _, by rw [Int.toNat_natCast]; exact hac, ?_⟩
    have hidx : (pl[a] - 1).toNat < L.length := by omega
    refine text_spec h2 hidx (by rw [wrap_i64 (by omega) (by omega)]; omega) ?_
    refine brW_dec (fun hne => ?_) (fun heq => ?_)
    · refine ⟨_, rfl, _, _, _, h2.f1, by omega, letV_mk fun at5 hat => ?_⟩
      refine ⟨_, rfl, _, h2.f2, _, rfl, ⟨_, h2.f2⟩, hfrozen_add h2.blk 0 2, letV_mk fun H7 hH7 => ?_⟩
      have hcond : 0 < pl.getD a 0 ∧ L.getD (pl.getD a 0 - 1).toNat ByteArray.empty ≠ s := by
        rw [hgd]
        refine ⟨hpos, ?_⟩
        rw [getD_of_lt hidx]
        exact hne
      have hj' : ∀ k, k < j + 1 → 0 < pl.getD ((home pl s + k) % pl.length) 0 := by
        intro k hk
        rcases Nat.lt_or_ge k j with h | h
        · exact hj k h
        · have : k = j := by omega
          subst this
          rw [← ha]; exact hcond.1
      have hjl' := free_step hg _ (j + 1) hj'
      refine ⟨pl.length - (j + 1), by omega, j + 1, (a + 1) % pl.length, hj', ?_, ?_, rfl, ?_, ?_, ?_⟩
      · rw [ha, Nat.mod_add_mod]; rfl
      · rw [hat, wrap_i64 (by omega) (by omega)]
        rfl
      · rw [hH7]
        have := h2.look (1 + (j + 1) : Nat)
        rw [wrap_i64 (by omega) (by omega)]
        have e : ((1 + j : Nat) : Int) + 1 = ((1 + (j + 1) : Nat) : Int) := by omega
        rw [e]
        exact this
      · rw [hH7]
        exact f2.trans (look_fr H2 g _) (fun k hk => .inl hk)
      · rw [show pl.length - j = (pl.length - (j + 1)) + 1 by omega] at hp
        unfold probe at hp
        rw [if_pos hcond] at hp
        exact hp
    · refine stop fun hc => ?_
      rw [hgd] at hc
      rw [getD_of_lt hidx] at hc
      exact heq hc.2
  · refine stop fun hc => ?_
    rw [hgd] at hc
    exact hnp hc.1
end
end Go.Proofs.Ytjakbglakhpbjaa
