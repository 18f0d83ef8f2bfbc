import Derived.Test.YtojhnakgmihedaaDoorRep1
import Derived.ChangeArms
import Derived.SizedLaws
import Derived.DataReads
/-! A slice of nodes that a caller hands in, read: the nodes, and their attributes. -/
namespace Go.Ev
structure At where
  a : ByteArray
  b : ByteArray
  c : ByteArray
  d : ByteArray
def atL (q : At) : List Value := [.string q.a, .string q.b, .string q.c, .string q.d]
def AtRd (H : Heap) (L : List At) (p : Option Addr) (l : Nat) : Prop := L.length = l ∧ ∀ i (hi : i < L.length), ∃ a, p = some a ∧ ∀ j, j < 4 → hcell H ((a.add (i * 4)).add j) = (atL L[i])[j]?
theorem AtRd.old {H H' : Heap} {L : List At} {p : Option Addr} {l : Nat} (h : AtRd H L p l) (hf : Fr noF H H') : AtRd H' L p l := by
  refine ⟨h.1, fun i hi => ?_⟩
  obtain ⟨a, ha, hc⟩ := h.2 i hi
  refine ⟨a, ha, fun j hj => ?_⟩
  have hcj := hc j hj
  have he : (atL L[i])[j]? = some ((atL L[i])[j]'(by simpa [atL] using hj)) := List.getElem?_eq_getElem _
  rw [he] at hcj ⊢
  exact hf.cell hcj fun h => h
def AtBig (q : At) : Prop := q.a.size ≤ 140737488351232 ∧ q.b.size ≤ 140737488351232 ∧ q.c.size ≤ 140737488351232 ∧ q.d.size ≤ 140737488351232
def NdBig (n : Nd) : Prop := n.pre.size ≤ 140737488351232 ∧ n.loc.size ≤ 140737488351232 ∧ n.uri.size ≤ 140737488351232 ∧ n.val.size ≤ 140737488351232
def NdAt (H : Heap) (n : Nd) : Prop := ∃ L : List At, AtRd H L n.ap n.al ∧ ∀ q ∈ L, AtBig q
theorem NdAt.old {H H' : Heap} {n : Nd} (h : NdAt H n) (hf : Fr noF H H') : NdAt H' n := by
  obtain ⟨L, h1, h2⟩ := h
  exact ⟨L, h1.old hf, h2⟩
theorem list_of {α : Type} {Q : Nat → α → Prop} : ∀ n, (∀ i, i < n → ∃ q, Q i q) → ∃ L : List α, L.length = n ∧ ∀ i (h : i < L.length), Q i L[i]
  | 0, _ => ⟨[], rfl, fun i h => absurd h (Nat.not_lt_zero i)⟩
  | n + 1, h => by
    obtain ⟨L, hl, hq⟩ := list_of n (fun i hi => h i (by omega))
    obtain ⟨q, hq'⟩ := h n (by omega)
    refine ⟨L ++ [q], by simp [hl], fun i hi => ?_⟩
    by_cases hi' : i < L.length
    · rw [List.getElem_append_left hi']
      exact hq i hi'
    · have : i = n := by simp at hi; omega
      subst this
      rw [List.getElem_append_right (by omega)]
      simpa [hl] using hq'
theorem take1 {α : Type} {l : List α} {j : Nat} {v : α} (h : (l.drop j).take 1 = [v]) : l[j]? = some v := by
  have h0 : ((l.drop j).take 1)[0]? = some v := by rw [h]; rfl
  simpa using h0
section
variable {H : Type} {enc : TypeId × Value → H} {P : Program} {w : World} {base : Nat} {spare : Nat → Bool} {held : Bool}
theorem weights_mem_all {e : TypeId} : ∀ {l : List (DataW H)} {d : DataW H}, d ∈ l → ∀ n ∈ d.weights P e, n ∈ DataW.weightsAll P e l
  | [], _, h, _, _ => by cases h
  | x :: r, d, h, n, hn => by
    unfold DataW.weightsAll
    rcases List.mem_cons.1 h with rfl | h
    · exact List.mem_append_left _ hn
    · exact List.mem_append_right _ (weights_mem_all h n hn)
/-- A field of a struct, read. -/
theorem struct_field {t : TypeId} {fs : Array Field} {fuel : Nat} {cs : List Value} {x : DataW H × List MemPlace} (ht : P.underlying t = some (.struct fs)) (h : DataW.trod enc P w base spare held fuel t cs = some x) {i : Nat} {f : Field} (hf : fs[i]? = some f) (ho : f.offset = i) (hc : P.cellsOf f.type = 1) :
    ∃ n y, DataW.trod enc P w base spare held n f.type ((cs.drop i).take 1) = some y ∧ ∀ m ∈ y.1.weights P f.type, m ∈ x.1.weights P t := by
  obtain ⟨xs, n, _, rfl, _, hl, hx⟩ := DataW.trod_struct ht h
  have h1 := hx i f hf
  have hi : i < xs.length := by rw [hl]; exact (Array.getElem?_eq_some_iff.1 hf).1
  rw [ho, hc, List.getElem?_eq_getElem hi] at h1
  refine ⟨n, xs[i], h1, fun m hm => ?_⟩
  have : (DataW.agg (xs.map (·.1)) : DataW H).weights P t = DataW.weightsEach P (fs.toList.map (·.type)) (xs.map (·.1)) := by
    rw [DataW.weights, ht]
  rw [this]
  refine DataW.weights_mem_each (j := i) ?_ ?_ m hm
  · rw [List.getElem?_map, Array.getElem?_toList, hf]; rfl
  · rw [List.getElem?_map, List.getElem?_eq_getElem hi]; rfl
theorem field_string {t : TypeId} {fs : Array Field} {fuel : Nat} {cs : List Value} {x : DataW H × List MemPlace} (ht : P.underlying t = some (.struct fs)) (h : DataW.trod enc P w base spare held fuel t cs = some x) (hw : ∀ n ∈ x.1.weights P t, n ≤ reachBytes) {i : Nat} {f : Field} (hf : fs[i]? = some f) (ho : f.offset = i) (hc : P.cellsOf f.type = 1) (hu : P.underlying f.type = some .string) :
    ∃ s : ByteArray, cs[i]? = some (.string s) ∧ s.size ≤ 140737488351232 := by
  obtain ⟨n, y, h1, h2⟩ := struct_field ht h hf ho hc
  obtain ⟨s, e1, rfl, _⟩ := DataW.trod_string hu h1
  refine ⟨s, take1 e1, ?_⟩
  have := hw _ (h2 s.data.toList.length (by simp [DataW.weights]))
  rw [Array.length_toList] at this
  exact this
theorem field_int {t : TypeId} {fs : Array Field} {fuel : Nat} {cs : List Value} {x : DataW H × List MemPlace} {k : IntKind} (ht : P.underlying t = some (.struct fs)) (h : DataW.trod enc P w base spare held fuel t cs = some x) {i : Nat} {f : Field} (hf : fs[i]? = some f) (ho : f.offset = i) (hc : P.cellsOf f.type = 1) (hu : P.underlying f.type = some (.int k)) :
    ∃ n : Int, cs[i]? = some (.int k n) ∧ (Lit.int k n).wf = true := by
  obtain ⟨n, y, h1, _⟩ := struct_field ht h hf ho hc
  obtain ⟨s, e1, rfl, hwf⟩ := DataW.trod_int hu h1
  exact ⟨s, take1 e1, hwf⟩
/-- The elements of a slice, read. -/
theorem slice_elems {t e : TypeId} {fuel : Nat} {cs : List Value} {x : DataW H × List MemPlace} (ht : P.underlying t = some (.slice e)) (h : DataW.trod enc P w base spare held fuel t cs = some x) :
    (cs = [.slice none 0 0]) ∨ ∃ (a : Addr) (len cap n : Nat), cs = [.slice (some a) len cap] ∧ len ≤ cap ∧ cap ≤ maxLen ∧
      ∀ i, i < len → ∃ cs' y, w.cells? base (a.add (i * P.cellsOf e)) (P.cellsOf e) = some cs' ∧ DataW.trod enc P w base spare held n e cs' = some y ∧ ∀ m ∈ y.1.weights P e, m ∈ x.1.weights P t := by
  rcases DataW.trod_slice ht h with ⟨h0, _⟩ | ⟨a, len, cap, elems, rest, n, _, h1, rfl, _, hl, hm, hlen, hel, _⟩
  · exact .inl h0
  · refine .inr ⟨a, len, cap, n, h1, hl, hm, fun i hi => ?_⟩
    have h2 := hel i hi
    rw [List.getElem?_eq_getElem (by omega), Option.bind_eq_some_iff] at h2
    obtain ⟨cs', h3, h4⟩ := h2
    refine ⟨cs', elems[i], h3, h4, fun m hm => ?_⟩
    rw [DataW.weights, ht]
    refine List.mem_cons_of_mem _ (List.mem_append_left _ (weights_mem_all (List.mem_map.2 ⟨elems[i], List.getElem_mem _, rfl⟩) m hm))
def Flds (P : Program) (fs : Array Field) (ds : List TypeDesc) : Prop := ∀ i (hi : i < ds.length), ∃ f, fs[i]? = some f ∧ f.offset = i ∧ P.cellsOf f.type = 1 ∧ P.underlying f.type = some ds[i]
theorem open_attrs {t e : TypeId} {fs : Array Field} {fuel : Nat} {cs : List Value} {x : DataW H × List MemPlace} (ht : P.underlying t = some (.slice e)) (he : P.underlying e = some (.struct fs)) (hc : P.cellsOf e = 4) (hfs : Flds P fs [.string, .string, .string, .string]) (h : DataW.trod enc P w base spare held fuel t cs = some x) (hw : ∀ n ∈ x.1.weights P t, n ≤ reachBytes) :
    ∃ (p : Option Addr) (l c : Nat) (L : List At), cs = [.slice p l c] ∧ AtRd w.heap L p l ∧ ∀ q ∈ L, AtBig q := by
  rcases slice_elems ht h with rfl | ⟨a, len, cap, n, rfl, hl, hm, hel⟩
  · exact ⟨none, 0, 0, [], rfl, ⟨rfl, fun i hi => absurd hi (Nat.not_lt_zero i)⟩, by simp⟩
  · obtain ⟨L, hL, hq⟩ := list_of (Q := fun i (q : At) => (∀ j, j < 4 → hcell w.heap ((a.add (i * 4)).add j) = (atL q)[j]?) ∧ AtBig q) len (fun i hi => by
      obtain ⟨cs', y, h1, h2, h3⟩ := hel i hi
      rw [hc] at h1
      obtain ⟨_, hlen, hcell⟩ := World.cells?_some h1
      have hw' : ∀ n ∈ y.1.weights P e, n ≤ reachBytes := fun n hn => hw n (h3 n hn)
      obtain ⟨f0, a0, b0, c0, d0⟩ := hfs 0 (by decide)
      obtain ⟨f1, a1, b1, c1, d1⟩ := hfs 1 (by decide)
      obtain ⟨f2, a2, b2, c2, d2⟩ := hfs 2 (by decide)
      obtain ⟨f3, a3, b3, c3, d3⟩ := hfs 3 (by decide)
      obtain ⟨s0, e0, z0⟩ := field_string he h2 hw' a0 b0 c0 d0
      obtain ⟨s1, e1, z1⟩ := field_string he h2 hw' a1 b1 c1 d1
      obtain ⟨s2, e2, z2⟩ := field_string he h2 hw' a2 b2 c2 d2
      obtain ⟨s3, e3, z3⟩ := field_string he h2 hw' a3 b3 c3 d3
      refine ⟨⟨s0, s1, s2, s3⟩, fun j hj => ?_, z0, z1, z2, z3⟩
      rw [← cell?_eq, hcell j hj]
      match j, hj with
      | 0, _ => exact e0
      | 1, _ => exact e1
      | 2, _ => exact e2
      | 3, _ => exact e3
      | m + 4, h => omega)
    refine ⟨some a, len, cap, L, rfl, ⟨hL, fun i hi => ⟨a, rfl, (hq i hi).1⟩⟩, fun q hq' => ?_⟩
    obtain ⟨i, hi, rfl⟩ := List.getElem_of_mem hq'
    exact (hq i hi).2
theorem open_nodes {t e ae : TypeId} {fs gs : Array Field} {fuel : Nat} {cs : List Value} {x : DataW H × List MemPlace} (ht : P.underlying t = some (.slice e)) (he : P.underlying e = some (.struct fs)) (hc : P.cellsOf e = 7) (hfs : Flds P fs [.int .i64, .int .i64, .string, .string, .string, .string, .slice ae])
    (hae : P.underlying ae = some (.struct gs)) (hac : P.cellsOf ae = 4) (hgs : Flds P gs [.string, .string, .string, .string]) (h : DataW.trod enc P w base spare held fuel t cs = some x) (hw : ∀ n ∈ x.1.weights P t, n ≤ reachBytes) :
    ∃ (p : Option Addr) (l c : Nat) (T : List Nd), cs = [.slice p l c] ∧ TreeRd w.heap T p l ∧ l ≤ 9223372036854775807 ∧ ∀ n ∈ T, NdBig n ∧ NdAt w.heap n := by
  rcases slice_elems ht h with rfl | ⟨a, len, cap, n, rfl, hl, hm, hel⟩
  · exact ⟨none, 0, 0, [], rfl, ⟨rfl, fun i hi => absurd hi (Nat.not_lt_zero i)⟩, by omega, by simp⟩
  · obtain ⟨L, hL, hq⟩ := list_of (Q := fun i (q : Nd) => (∀ j, j < 7 → hcell w.heap ((a.add (i * 7)).add j) = (ndL q)[j]?) ∧ NdBig q ∧ NdAt w.heap q) len (fun i hi => by
      obtain ⟨cs', y, h1, h2, h3⟩ := hel i hi
      rw [hc] at h1
      obtain ⟨_, hlen, hcell⟩ := World.cells?_some h1
      have hw' : ∀ n ∈ y.1.weights P e, n ≤ reachBytes := fun n hn => hw n (h3 n hn)
      obtain ⟨f0, a0, b0, c0, d0⟩ := hfs 0 (by simp)
      obtain ⟨f1, a1, b1, c1, d1⟩ := hfs 1 (by simp)
      obtain ⟨f2, a2, b2, c2, d2⟩ := hfs 2 (by simp)
      obtain ⟨f3, a3, b3, c3, d3⟩ := hfs 3 (by simp)
      obtain ⟨f4, a4, b4, c4, d4⟩ := hfs 4 (by simp)
      obtain ⟨f5, a5, b5, c5, d5⟩ := hfs 5 (by simp)
      obtain ⟨f6, a6, b6, c6, d6⟩ := hfs 6 (by simp)
      obtain ⟨s0, e0, _⟩ := field_int he h2 a0 b0 c0 d0
      obtain ⟨s1, e1, _⟩ := field_int he h2 a1 b1 c1 d1
      obtain ⟨s2, e2, z2⟩ := field_string he h2 hw' a2 b2 c2 d2
      obtain ⟨s3, e3, z3⟩ := field_string he h2 hw' a3 b3 c3 d3
      obtain ⟨s4, e4, z4⟩ := field_string he h2 hw' a4 b4 c4 d4
      obtain ⟨s5, e5, z5⟩ := field_string he h2 hw' a5 b5 c5 d5
      obtain ⟨m, y6, t6, w6⟩ := struct_field he h2 a6 b6 c6
      obtain ⟨ap, al, ac, L6, e6, hL6, hB6⟩ := open_attrs d6 hae hac hgs t6 (fun n hn => hw' n (w6 n hn))
      refine ⟨⟨s0, s1, s2, s3, s4, s5, ap, al, ac⟩, fun j hj => ?_, ⟨z2, z3, z4, z5⟩, L6, hL6, hB6⟩
      rw [← cell?_eq, hcell j hj]
      match j, hj with
      | 0, _ => exact e0
      | 1, _ => exact e1
      | 2, _ => exact e2
      | 3, _ => exact e3
      | 4, _ => exact e4
      | 5, _ => exact e5
      | 6, _ => exact take1 e6
      | m + 7, h => omega)
    refine ⟨some a, len, cap, L, rfl, ⟨hL, fun i hi => ⟨a, rfl, (hq i hi).1⟩⟩, ?_, fun q hq' => ?_⟩
    · have : maxLen = 9223372036854775807 := rfl
      omega
    · obtain ⟨i, hi, rfl⟩ := List.getElem_of_mem hq'
      exact (hq i hi).2
end
end Go.Ev
