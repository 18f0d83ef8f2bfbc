import Derived.Test.YtojhnakgmihedaaDoorRep5
import Derived.Test.YtojhnakgmihedaaDoorMA2
/-! Package report: what a made tree goes through: characters, names, texts; slices of structs. -/
namespace Go.Ev
theorem flatS {s : Nat} : ∀ (L : List (List Value)) (_ : ∀ x ∈ L, x.length = s) {i j : Nat} (hi : i < L.length), j < s → L.flatten[i * s + j]? = L[i][j]?
  | [], _, i, _, hi, _ => absurd hi (Nat.not_lt_zero i)
  | x :: r, h, 0, j, _, hj => by
    have hx := h x (by simp)
    rw [List.flatten_cons, Nat.zero_mul, Nat.zero_add, List.getElem?_append_left (by omega)]
    simp
  | x :: r, h, i + 1, j, hi, hj => by
    have hx := h x (by simp)
    have ih := flatS r (fun y hy => h y (by simp [hy])) (i := i) (j := j) (by simpa using hi) hj
    have e : (i + 1) * s + j = s + (i * s + j) := by rw [Nat.succ_mul]; omega
    rw [List.flatten_cons, List.getElem?_append_right (by omega), hx, e, Nat.add_sub_cancel_left, ih]
    simp
theorem flatS_len {s : Nat} : ∀ (L : List (List Value)) (_ : ∀ x ∈ L, x.length = s), L.flatten.length = L.length * s
  | [], _ => by simp
  | x :: r, h => by
    have hx := h x (by simp)
    rw [List.flatten_cons, List.length_append, hx, flatS_len r (fun y hy => h y (by simp [hy])), List.length_cons, Nat.succ_mul]
    omega
/-- A slice of elements of s cells each that stands at the head of a row of its own. -/
def SlN (s : Nat) (H : Heap) (t : TypeId) (xs : List Value) (p : Option Addr) (l c : Nat) : Prop :=
  xs.length = l * s ∧ ((p = none ∧ l = 0 ∧ c = 0) ∨ ∃ b cs, p = some ⟨b, 0, none⟩ ∧ H[b]? = some (.cells cs t (0, 0)) ∧ cs.size = c * s ∧ l ≤ c ∧ ∀ i, i < l * s → cs[i]? = xs[i]?)
section
variable {s : Nat} {H H' : Heap} {t : TypeId} {xs : List Value} {p : Option Addr} {l c : Nat}
theorem SlN.nil (s : Nat) (H : Heap) (t : TypeId) : SlN s H t [] none 0 0 := ⟨by simp, .inl ⟨rfl, rfl, rfl⟩⟩
theorem SlN.keep {F : Nat → Prop} (h : SlN s H t xs p l c) (hf : Fr F H H') (hn : ∀ k, blkIs p k → ¬ F k) : SlN s H' t xs p l c := by
  refine ⟨h.1, ?_⟩
  rcases h.2 with h0 | ⟨b, cs, hp, hb, h1, h2, h3⟩
  · exact .inl h0
  · exact .inr ⟨b, cs, hp, hf.blk hb (hn b ⟨_, hp, rfl⟩), h1, h2, h3⟩
theorem SlN.old (h : SlN s H t xs p l c) (hf : Fr noF H H') : SlN s H' t xs p l c := h.keep hf fun _ _ h => h
theorem SlN.cap (h : SlN s H t xs p l c) : l ≤ c := by
  rcases h.2 with ⟨_, hl, hc⟩ | ⟨b, cs, hp, hb, _, hlc, hc⟩ <;> omega
theorem SlN.blk_lt (h : SlN s H t xs p l c) {k : Nat} (hk : blkIs p k) : k < Array.size H := by
  obtain ⟨a, ha, rfl⟩ := hk
  rcases h.2 with ⟨hp, _⟩ | ⟨b, cs, hp, hb, _⟩
  · rw [hp] at ha; cases ha
  · rw [hp] at ha; cases ha; exact lt_of_blk hb
theorem SlN.cells (h : SlN s H t xs p l c) : cellsAt H p xs := by
  rcases h.2 with ⟨rfl, rfl, rfl⟩ | ⟨b, cs, rfl, hb, _, _, hc⟩
  · exact List.eq_nil_of_length_eq_zero (by simpa using h.1)
  · intro j v hj
    have hlt := (List.getElem?_eq_some_iff.1 hj).1
    rw [hcell_add hb, Nat.zero_add, hc j (by rw [← h.1]; exact hlt)]
    exact hj
theorem SlN.at {L : List (List Value)} (hx : ∀ x ∈ L, x.length = s) (h : SlN s H t L.flatten p l c) (hs : 0 < s) : L.length = l ∧ ∀ i (hi : i < L.length), ∃ a, p = some a ∧ ∀ j, j < s → hcell H ((a.add (i * s)).add j) = L[i][j]? := by
  have hl : L.length = l := by
    have := h.1
    rw [flatS_len L hx] at this
    exact Nat.eq_of_mul_eq_mul_right hs this
  refine ⟨hl, fun i hi => ?_⟩
  rcases h.2 with ⟨rfl, rfl, rfl⟩ | ⟨b, cs, rfl, hb, _, _, hc⟩
  · omega
  · refine ⟨_, rfl, fun j hj => ?_⟩
    have hlt : i * s + j < l * s := by
      have : (i + 1) * s ≤ l * s := Nat.mul_le_mul_right s (by omega)
      rw [Nat.succ_mul] at this
      omega
    rw [add_mk, add_mk, hcell_mk hb, Nat.zero_add, hc _ hlt, flatS L hx hi hj]
theorem SlN.tree {T : List Nd} (h : SlN 7 H t (T.map ndL).flatten p l c) : TreeRd H T p l := by
  obtain ⟨h1, h2⟩ := h.at (fun x hx => by obtain ⟨n, _, rfl⟩ := List.mem_map.1 hx; rfl) (by decide)
  rw [List.length_map] at h1
  refine ⟨h1, fun i hi => ?_⟩
  obtain ⟨a, ha, hc⟩ := h2 i (by simpa using hi)
  refine ⟨a, ha, fun j hj => ?_⟩
  rw [hc j hj, List.getElem_map]
theorem SlN.attrs {L : List At} (h : SlN 4 H t (L.map atL).flatten p l c) : AtRd H L p l := by
  obtain ⟨h1, h2⟩ := h.at (fun x hx => by obtain ⟨n, _, rfl⟩ := List.mem_map.1 hx; rfl) (by decide)
  rw [List.length_map] at h1
  refine ⟨h1, fun i hi => ?_⟩
  obtain ⟨a, ha, hc⟩ := h2 i (by simpa using hi)
  refine ⟨a, ha, fun j hj => ?_⟩
  rw [hc j hj, List.getElem_map]
theorem zerosOf_size {z : Value} (hz : (cellsV z).length = s) (n : Nat) : (zerosOf z n).size = n * s := by
  unfold zerosOf
  simp [hz]
/-- append of some elements. -/
theorem appN {el bytes : Nat} {z y : Value} {n : Nat} {new : List Value} {K : Option Addr → Nat → Nat → Heap → Prop} (hs : SlN s H el xs p l c) (hz : (cellsV z).length = s)
    (hap : appended H s y n new) (hn : new.length = n * s) (hone : ∀ v ∈ new, One v) (hb : (l + n) * bytes ≤ 140737488355328) (hb0 : bytes ≠ 0)
    (hK : ∀ p' c' H', SlN s H' el (xs ++ new) p' (l + n) c' → Fr (blkIs p) H H' → (∀ k, blkIs p' k → blkIs p k ∨ Array.size H ≤ k) → K p' (l + n) c' H') : appW el s bytes z p l c y H K := by
  refine ⟨n, new, hap, ?_⟩
  have hxl : (xs ++ new).length = (l + n) * s := by rw [List.length_append, hs.1, hn, Nat.add_mul]
  rcases Nat.lt_or_ge c (l + n) with hg | hfit
  · refine .inr ⟨hg, hb, hb0, xs, hs.1, hs.cells, ?_⟩
    intro cap hcap
    have hcs : (l + n) * s ≤ cap * s := Nat.mul_le_mul_right s hcap
    refine hK _ _ _ ⟨hxl, .inr ⟨_, _, rfl, hnew_same, ?_, hcap, ?_⟩⟩ ((Fr.new H _ _).mono fun _ h => h.elim) ?_
    · rw [Array.size_append, Array.size_append, zerosOf_size hz, List.size_toArray, List.size_toArray, hs.1, hn, Nat.sub_mul, Nat.add_mul]
      rw [Nat.add_mul] at hcs
      omega
    · intro i hi
      rw [← Array.getElem?_toList]
      simp only [Array.toList_append]
      rw [List.getElem?_append_left (by simpa using (by rw [← hxl] at hi; simpa using hi))]
    · rintro k ⟨a, ha, rfl⟩
      cases ha
      exact .inr (Nat.le_refl _)
  · refine .inl ⟨hfit, ?_⟩
    rcases hs.2 with ⟨rfl, rfl, rfl⟩ | ⟨b, cs, rfl, hbk, hsz, hlc, hc⟩
    · have h0 : n = 0 := by omega
      subst h0
      refine ⟨rfl, ?_⟩
      have hnil : new = [] := List.eq_nil_of_length_eq_zero (by simpa using hn)
      subst hnil
      have := hK none 0 H (by simpa using hs) (Fr.refl _ _) (fun k hk => .inl hk)
      simpa using this
    · simp only
      rw [add_mk, Nat.zero_add]
      have hcs : (l + n) * s ≤ c * s := Nat.mul_le_mul_right s hfit
      rw [Nat.add_mul] at hcs
      refine stCs_mk hbk hone (by rw [hn, hsz]; omega) ?_
      intro H' cs' hb' hs' hlow hnew hfr
      refine hK _ _ H' ⟨hxl, .inr ⟨b, cs', rfl, hb', by rw [hs', hsz], hfit, ?_⟩⟩ (hfr.mono fun k hk => ⟨_, rfl, hk.symm⟩) (fun k hk => .inl hk)
      intro i hi
      rw [Nat.add_mul] at hi
      rcases Nat.lt_or_ge i (l * s) with h | h
      · rw [hlow i (by omega), hc i h, List.getElem?_append_left (by rw [hs.1]; exact h)]
      · have := hnew (i - l * s) (by omega)
        rw [show l * s + 0 + (i - l * s) = i by omega] at this
        rw [this, List.getElem?_append_right (by rw [hs.1]; exact h), hs.1]
/-- append of one element that was just laid. -/
theorem appN1 {H1 : Heap} {el t1 bytes : Nat} {z : Value} {new : List Value} {K : Option Addr → Nat → Nat → Heap → Prop} (hs : SlN s H el xs p l c) (h1 : H1 = hnew H new.toArray t1) (hz : (cellsV z).length = s) (hn : new.length = s) (hone : ∀ v ∈ new, One v)
    (hb : (l + 1) * bytes ≤ 140737488355328) (hb0 : bytes ≠ 0)
    (hK : ∀ p' c' H', SlN s H' el (xs ++ new) p' (l + 1) c' → Fr (blkIs p) H H' → (∀ k, blkIs p' k → blkIs p k ∨ Array.size H ≤ k) → K p' (l + 1) c' H') :
    appW el s bytes z p l c (.slice (some ⟨Array.size H, 0, none⟩) 1 1) H1 K := by
  have hf : Fr noF H H1 := by rw [h1]; exact Fr.new H _ t1
  refine appN (new := new) (n := 1) (hs.old hf) hz ⟨rfl, by rw [hn, Nat.one_mul], ?_⟩ (by rw [hn, Nat.one_mul]) hone hb hb0 fun p' c' H' a b d => hK p' c' H' a ((hf.mono fun _ h => h.elim).trans b fun k hk => .inl hk) fun k hk => ?_
  · intro j u hj
    rw [hcell_add (by rw [h1]; exact hnew_same), Nat.zero_add]
    simpa using hj
  · rcases d k hk with h | h
    · exact .inl h
    · have := hf.size
      exact .inr (by omega)
end
theorem pos_size {s : ByteArray} (h : s ≠ ⟨#[]⟩) : 0 < s.size := by
  rcases Nat.eq_zero_or_pos s.size with h0 | h0
  · refine absurd ?_ h
    apply ByteArray.ext
    exact Array.eq_empty_of_size_eq_zero h0
  · exact h0
end Go.Ev
namespace Go.Proofs.YtojhnakgmihedaaDoor
open Go.Ev
set_option linter.unusedVariables false
theorem in_any {H : Heap} {r a b : Int} {R : Bool → Heap → Prop} (hR : ∀ b, R b H) : brackenref1_in.C r a b H R := by
  apply brackenref1_in.calls
  unfold brackenref1_in.W
  exact brW_mk (fun _ => hR _) (fun _ => hR _)
theorem Start_any {H : Heap} {r : Int} {R : Bool → Heap → Prop} (hR : ∀ b, R b H) : brackenref1_Start.C r H R := by
  apply brackenref1_Start.calls
  unfold brackenref1_Start.W
  repeat (first | exact in_any fun b => hR b | refine in_any fun b => brW_mk (fun _ => hR _) (fun _ => ?_) | refine brW_mk (fun _ => hR _) (fun _ => ?_))
theorem Part_any {H : Heap} {r : Int} {R : Bool → Heap → Prop} (hR : ∀ b, R b H) : brackenref1_Part.C r H R := by
  apply brackenref1_Part.calls
  unfold brackenref1_Part.W
  refine Start_any fun b => brW_mk (fun _ => hR _) (fun _ => ?_)
  repeat (first | exact in_any fun b => hR b | refine in_any fun b => brW_mk (fun _ => hR _) (fun _ => ?_) | refine brW_mk (fun _ => hR _) (fun _ => ?_))
theorem Char_any {H : Heap} {r : Int} {R : Bool → Heap → Prop} (hR : ∀ b, R b H) : brackenref1_Char.C r H R := by
  apply brackenref1_Char.calls
  unfold brackenref1_Char.W
  repeat (first | exact in_any fun b => hR b | refine in_any fun b => brW_mk (fun _ => hR _) (fun _ => ?_) | refine brW_mk (fun _ => hR _) (fun _ => ?_))
theorem Space_any {H : Heap} {r : Int} {R : Bool → Heap → Prop} (hR : ∀ b, R b H) : brackenref1_Space.C r H R := by
  apply brackenref1_Space.calls
  unfold brackenref1_Space.W
  exact brW_mk (fun _ => hR _) (fun _ => brW_mk (fun _ => hR _) (fun _ => brW_mk (fun _ => hR _) (fun _ => hR _)))
theorem One_any {H : Heap} {s : ByteArray} (hs : s.size ≤ 1073741824) {k : Nat} {R : Int → Int → Heap → Prop} (hR : ∀ r (n : Nat), (n = 0 ∨ 1 ≤ n ∧ k + n ≤ s.size) → R r (n : Int) H) : brackenref1_One.C s (k : Int) H R := by
  apply brackenref1_One.calls
  unfold brackenref1_One.W
  have h0 := fun r => hR r 0 (.inl rfl)
  refine brW_dec (fun h => h0 _) (fun h => ⟨by omega, by omega, letV_mk fun c hc => ?_⟩)
  clear hc
  refine joinW_mk (fun (q : Int × Int × Int × Unit) H' => H = H' ∧ ∃ n : Nat, q.1 = (n : Int) ∧ 1 ≤ n ∧ n ≤ 4) ?_ ?_
  · refine brW_mk (fun _ => letV_mk fun x hx => hR x 1 (.inr (by omega))) (fun _ => ?_)
    refine joinW_mk (fun (q : Bool × Unit) H' => H = H') (brW_mk (fun _ => rfl) (fun _ => rfl)) ?_
    rintro ⟨b, _⟩ _ rfl
    refine brW_mk (fun _ => letV_mk fun r hr => ⟨rfl, 2, rfl, by decide, by decide⟩) (fun _ => ?_)
    refine joinW_mk (fun (q : Bool × Unit) H' => H = H') (brW_mk (fun _ => rfl) (fun _ => rfl)) ?_
    rintro ⟨b, _⟩ _ rfl
    refine brW_mk (fun _ => letV_mk fun r hr => ⟨rfl, 3, rfl, by decide, by decide⟩) (fun _ => ?_)
    refine joinW_mk (fun (q : Bool × Unit) H' => H = H') (brW_mk (fun _ => rfl) (fun _ => rfl)) ?_
    rintro ⟨b, _⟩ _ rfl
    exact brW_mk (fun _ => letV_mk fun r hr => ⟨rfl, 4, rfl, by decide, by decide⟩) (fun _ => h0 _)
  rintro ⟨n', r, least, _⟩ _ ⟨rfl, n, hn, h1, h4⟩
  simp only at hn
  subst hn
  dsimp only
  have ea : IntKind.i64.wrap ((k : Int) + (n : Int)) = ((k + n : Nat) : Int) := by rw [wrap_i64 (by omega) (by omega)]; rfl
  rw [ea]
  refine brW_dec (fun _ => h0 _) (fun hle => ?_)
  refine joinW_mk (fun (q : Int × Unit) H' => H = H') ?_ ?_
  · refine loopW_mk (fun t (q : Int × Int × Unit) H' => H = H' ∧ ∃ i : Nat, 1 ≤ i ∧ i ≤ n ∧ t = n - i ∧ q.2.1 = (i : Int)) (n - 1) ⟨rfl, 1, Nat.le_refl _, h1, rfl, rfl⟩ ?_
    rintro t ⟨r, i', _⟩ _ ⟨rfl, i, hi1, hin, rfl, hi⟩
    simp only at hi
    subst hi
    dsimp only
    refine brW_dec (fun hlt => ?_) (fun _ => rfl)
    have eb : IntKind.i64.wrap ((k : Int) + (i : Int)) = ((k + i : Nat) : Int) := by rw [wrap_i64 (by omega) (by omega)]; rfl
    rw [eb]
    refine ⟨by omega, by omega, brW_mk (fun _ => h0 _) (fun _ => ⟨by decide, by omega, by omega, letV_mk fun r' _ => letV_mk fun j hj => ⟨n - (i + 1), by omega, rfl, i + 1, by omega, by omega, rfl, ?_⟩⟩)⟩
    show j = _
    rw [hj, wrap_i64 (by omega) (by omega)]; rfl
  rintro ⟨r, _⟩ _ rfl
  refine joinW_mk (fun _ H' => H = H') ?_ ?_
  · refine joinW_mk (fun (q : Bool × Unit) H' => H = H') (brW_mk (fun _ => rfl) (fun _ => brW_mk (fun _ => rfl) (fun _ => in_any fun b => rfl))) ?_
    rintro ⟨b, _⟩ _ rfl
    exact brW_mk (fun _ => h0 _) (fun _ => rfl)
  rintro _ _ rfl
  exact hR _ n (.inr (by omega))
theorem Run_any {H : Heap} {s : ByteArray} (hs : s.size ≤ 1073741824) {R : Int → Heap → Prop} (hR : ∀ k, R k H) : brackenref1_Run.C s 0 H R := by
  apply brackenref1_Run.calls
  unfold brackenref1_Run.W
  refine loopW_mk (fun t (q : Int × Unit) H' => H = H' ∧ ∃ k : Nat, k ≤ s.size ∧ t = s.size - k ∧ q.1 = (k : Int)) s.size ⟨rfl, 0, Nat.zero_le _, rfl, rfl⟩ ?_
  rintro t ⟨k', _⟩ _ ⟨rfl, k, hk, rfl, hk'⟩
  simp only at hk'
  subst hk'
  dsimp only
  refine One_any hs fun r n hn => ?_
  refine joinW_mk (fun _ H' => H = H' ∧ n ≠ 0) ?_ ?_
  · refine joinW_mk (fun (q : Bool × Unit) H' => H = H' ∧ (q.1 = false → n ≠ 0)) ?_ ?_
    · refine brW_dec (fun h => ⟨rfl, fun h => by cases h⟩) (fun h => Part_any fun b => ?_)
      have hn0 : n ≠ 0 := by omega
      exact brW_mk (fun _ => ⟨rfl, fun _ => hn0⟩) (fun _ => brW_mk (fun _ => Start_any fun b => ⟨rfl, fun _ => hn0⟩) (fun _ => ⟨rfl, fun _ => hn0⟩))
    · rintro ⟨b, _⟩ _ ⟨rfl, hb⟩
      exact brW_mk (fun _ => hR _) (fun h => ⟨rfl, hb h⟩)
  · rintro _ _ ⟨rfl, hn0⟩
    refine letV_mk fun y hy => ⟨s.size - (k + n), by omega, rfl, k + n, by omega, rfl, ?_⟩
    show y = _
    rw [hy, wrap_i64 (by omega) (by omega)]; rfl
theorem Name_any {H : Heap} {s : ByteArray} (hs : s.size ≤ 1073741824) {R : Bool → Heap → Prop} (hR : ∀ b, R b H) : brackenref1_Name.C s H R := by
  apply brackenref1_Name.calls
  unfold brackenref1_Name.W
  exact brW_mk (fun _ => Run_any hs fun k => hR _) (fun _ => hR _)
theorem NCName_any {H : Heap} {s : ByteArray} (hs : s.size ≤ 1073741824) {R : Bool → Heap → Prop} (hR : ∀ b, R b H) : brackenref1_NCName.C s H R := by
  apply brackenref1_NCName.calls
  unfold brackenref1_NCName.W
  refine joinW_mk (fun _ H' => H = H') ?_ ?_
  · refine loopW_mk (fun t (q : Int × Unit) H' => H = H' ∧ ∃ k : Nat, k ≤ s.size ∧ t = s.size - k ∧ q.1 = (k : Int)) s.size ⟨rfl, 0, Nat.zero_le _, rfl, rfl⟩ ?_
    rintro t ⟨k', _⟩ _ ⟨rfl, k, hk, rfl, hk'⟩
    simp only at hk'
    subst hk'
    dsimp only
    refine brW_dec (fun hlt => ⟨by omega, by omega, brW_mk (fun _ => hR _) (fun _ => letV_mk fun y hy => ⟨s.size - (k + 1), by omega, rfl, k + 1, by omega, rfl, ?_⟩)⟩) (fun _ => rfl)
    show y = _
    rw [hy, wrap_i64 (by omega) (by omega)]; rfl
  · rintro _ _ rfl
    exact Name_any hs fun b => hR _
theorem ext_size (s : ByteArray) (i j : Nat) : (s.extract i j).size ≤ s.size := by
  rw [ByteArray.size_extract]
  omega
theorem Split_any {H : Heap} {s : ByteArray} (hs : s.size ≤ 1073741824) {R : ByteArray → ByteArray → Bool → Heap → Prop} (hR : ∀ p l b, R p l b H) : brackenref1_Split.C s H R := by
  apply brackenref1_Split.calls
  unfold brackenref1_Split.W
  refine joinW_mk (fun _ H' => H = H') ?_ ?_
  · refine loopW_mk (fun t (q : Int × Unit) H' => H = H' ∧ ∃ k : Nat, k ≤ s.size ∧ t = s.size - k ∧ q.1 = (k : Int)) s.size ⟨rfl, 0, Nat.zero_le _, rfl, rfl⟩ ?_
    rintro t ⟨k', _⟩ _ ⟨rfl, k, hk, rfl, hk'⟩
    simp only at hk'
    subst hk'
    dsimp only
    refine brW_dec (fun hlt => ?_) (fun _ => rfl)
    have e1 : IntKind.i64.wrap ((k : Int) + 1) = ((k + 1 : Nat) : Int) := by rw [wrap_i64 (by omega) (by omega)]; rfl
    rw [e1]
    refine ⟨by omega, by omega, brW_mk (fun _ => ?_) (fun _ => letV_mk fun y hy => ⟨s.size - (k + 1), by omega, rfl, k + 1, by omega, rfl, hy⟩)⟩
    refine joinW_mk (fun _ H' => H = H') ?_ ?_
    · refine joinW_mk (fun (q : Bool × Unit) H' => H = H') ?_ ?_
      · refine ⟨by omega, by omega, NCName_any (Nat.le_trans (ext_size _ _ _) hs) fun b => brW_mk (fun _ => ⟨by omega, by omega, NCName_any (Nat.le_trans (ext_size _ _ _) hs) fun b => rfl⟩) (fun _ => rfl)⟩
      · rintro ⟨b, _⟩ _ rfl
        exact brW_mk (fun _ => ⟨by omega, by omega, by omega, by omega, hR _ _ _⟩) (fun _ => rfl)
    · rintro _ _ rfl
      exact hR _ _ _
  · rintro _ _ rfl
    exact NCName_any hs fun b => brW_mk (fun _ => hR _ _ _) (fun _ => hR _ _ _)
theorem Valid_any {H : Heap} {s : ByteArray} (hs : s.size ≤ 1073741824) {R : Bool → Heap → Prop} (hR : ∀ b, R b H) : brackenref1_Valid.C s H R := by
  apply brackenref1_Valid.calls
  unfold brackenref1_Valid.W
  refine joinW_mk (fun _ H' => H = H') ?_ ?_
  · refine loopW_mk (fun t (q : Int × Unit) H' => H = H' ∧ ∃ k : Nat, k ≤ s.size ∧ t = s.size - k ∧ q.1 = (k : Int)) s.size ⟨rfl, 0, Nat.zero_le _, rfl, rfl⟩ ?_
    rintro t ⟨k', _⟩ _ ⟨rfl, k, hk, rfl, hk'⟩
    simp only at hk'
    subst hk'
    dsimp only
    refine brW_dec (fun hlt => ?_) (fun _ => rfl)
    refine One_any hs fun r n hn => ?_
    refine joinW_mk (fun _ H' => H = H' ∧ n ≠ 0) ?_ ?_
    · refine joinW_mk (fun (q : Bool × Unit) H' => H = H' ∧ (q.1 = false → n ≠ 0)) ?_ ?_
      · refine brW_dec (fun h => ⟨rfl, fun h => by cases h⟩) (fun h => Char_any fun b => ⟨rfl, fun _ => by omega⟩)
      · rintro ⟨b, _⟩ _ ⟨rfl, hb⟩
        exact brW_mk (fun _ => hR _) (fun h => ⟨rfl, hb h⟩)
    · rintro _ _ ⟨rfl, hn0⟩
      refine letV_mk fun y hy => ⟨s.size - (k + n), by omega, rfl, k + n, by omega, rfl, ?_⟩
      show y = _
      rw [hy, wrap_i64 (by omega) (by omega)]; rfl
  · rintro _ _ rfl
    exact hR _
theorem holds_any {H : Heap} {s w : ByteArray} (hs : s.size ≤ 1073741824) (hw : w.size ≤ 1073741824) {R : Bool → Heap → Prop} (hR : ∀ b, R b H) : brackenref15_holds.C s w H R := by
  apply brackenref15_holds.calls
  unfold brackenref15_holds.W
  refine joinW_mk (fun _ H' => H = H') ?_ ?_
  · refine loopW_mk (fun t (q : Int × Unit) H' => H = H' ∧ ∃ k : Nat, k ≤ s.size + 1 ∧ t = s.size + 1 - k ∧ q.1 = (k : Int)) (s.size + 1) ⟨rfl, 0, Nat.zero_le _, rfl, rfl⟩ ?_
    rintro t ⟨k', _⟩ _ ⟨rfl, k, hk, rfl, hk'⟩
    simp only at hk'
    subst hk'
    dsimp only
    have e1 : IntKind.i64.wrap ((k : Int) + (w.size : Int)) = ((k + w.size : Nat) : Int) := by rw [wrap_i64 (by omega) (by omega)]; rfl
    rw [e1, Int.toNat_natCast]
    refine brW_dec (fun hle => ⟨by omega, by omega, by omega, by omega, brW_mk (fun _ => hR _) (fun _ => letV_mk fun y hy => ⟨s.size + 1 - (k + 1), by omega, rfl, k + 1, by omega, rfl, ?_⟩)⟩) (fun _ => rfl)
    show y = _
    rw [hy, wrap_i64 (by omega) (by omega)]; rfl
  · rintro _ _ rfl
    exact hR _
theorem named_any {H : Heap} {p l : ByteArray} (hp : p.size ≤ 1048576) (hl : l.size ≤ 1048576) {R : Bool → Heap → Prop} (hR : ∀ b, R b H) : brackenref15_named.C p l H R := by
  apply brackenref15_named.calls
  unfold brackenref15_named.W
  refine qname_spec ⟨0, 0, p, l, ⟨#[]⟩, ⟨#[]⟩, none, 0, 0⟩ ⟨hp, hl, Nat.zero_le _, Nat.zero_le _, Nat.zero_le _⟩ ?_
  refine Split_any ?_ fun a b ok => brW_mk (fun _ => brW_mk (fun _ => hR _) (fun _ => hR _)) (fun _ => hR _)
  have sz : ∀ s : ByteArray, s.data.toList.length = s.size := fun s => by rw [Array.length_toList]; rfl
  rw [mkB_size]
  unfold nameL
  split
  · simp only [sz]; omega
  · simp only [List.length_append, sz, List.length_singleton]; omega
end Go.Proofs.YtojhnakgmihedaaDoor
