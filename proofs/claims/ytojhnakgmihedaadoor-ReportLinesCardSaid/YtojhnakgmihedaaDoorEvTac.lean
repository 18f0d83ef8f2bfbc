import Derived.Test.YtojhnakgmihedaaDoorEvHeap
/-! Small words on numbers, texts, loops. -/
namespace Go.Ev
theorem wrap_i64 {n : Int} (h0 : -9223372036854775808 ≤ n) (h1 : n ≤ 9223372036854775807) : IntKind.i64.wrap n = n := by
  unfold IntKind.wrap; simp [IntKind.bits, IntKind.signed]; omega
theorem wrap_u64 {n : Int} (h0 : 0 ≤ n) (h1 : n ≤ 18446744073709551615) : IntKind.u64.wrap n = n := by
  unfold IntKind.wrap; simp [IntKind.bits, IntKind.signed]; omega
theorem wrap_u8 {n : Int} (h0 : 0 ≤ n) (h1 : n ≤ 255) : IntKind.u8.wrap n = n := by
  unfold IntKind.wrap; simp [IntKind.bits, IntKind.signed]; omega
theorem wrap_u64_range (n : Int) : 0 ≤ IntKind.u64.wrap n ∧ IntKind.u64.wrap n ≤ 18446744073709551615 := by
  unfold IntKind.wrap; simp [IntKind.bits, IntKind.signed]; omega
theorem wrap_i64_range (n : Int) : -9223372036854775808 ≤ IntKind.i64.wrap n ∧ IntKind.i64.wrap n ≤ 9223372036854775807 := by
  unfold IntKind.wrap; simp [IntKind.bits, IntKind.signed]; omega
theorem brW_true {b : Bool} {A B : Prop} (hb : b = true) (h : A) : brW b A B := by subst hb; exact h
theorem brW_false {b : Bool} {A B : Prop} (hb : b = false) (h : B) : brW b A B := by subst hb; exact h
/-- A test that is decided by a statement. -/
theorem brW_dec {p : Prop} [Decidable p] {A B : Prop} (h1 : p → A) (h2 : ¬ p → B) : brW (decide p) A B := brW_mk (fun h => h1 (of_decide_eq_true h)) (fun h => h2 (of_decide_eq_false h))
theorem brW_pos {p : Prop} [Decidable p] {A B : Prop} (hp : p) (h : A) : brW (decide p) A B := brW_true (decide_eq_true hp) h
theorem brW_neg {p : Prop} [Decidable p] {A B : Prop} (hp : ¬ p) (h : B) : brW (decide p) A B := brW_false (decide_eq_false hp) h
theorem loopW_mk {S : Type} {b : (S → Heap → Prop) → S → Heap → Prop} {s₀ : S} {H₀ : Heap} (I : Nat → S → Heap → Prop) (n : Nat) (h0 : I n s₀ H₀)
    (hr : ∀ n s H, I n s H → b (fun s' H' => ∃ m, m < n ∧ I m s' H') s H) : LoopW b s₀ H₀ := ⟨I, ⟨n, h0⟩, hr⟩
theorem joinW_mk {S : Type} {f : (S → Heap → Prop) → Prop} {k : S → Heap → Prop} (J : S → Heap → Prop) (h1 : f J) (h2 : ∀ s H, J s H → k s H) : JoinW f k := ⟨J, h1, h2⟩
/-- Where ways meet and what stands behind is known to hold of each: no cut. -/
theorem joinW_thru {S : Type} {f : (S → Heap → Prop) → Prop} {k : S → Heap → Prop} (h : f k) : JoinW f k := ⟨k, h, fun _ _ h => h⟩
theorem bt_get {s : ByteArray} {i : Nat} (h : i < s.size) : bt s (i : Int) = ((s.data.toList[i]'(by rw [Array.length_toList]; exact h)).toNat : Int) := by
  unfold bt
  rw [Int.toNat_natCast, List.getD_eq_getElem?_getD, List.getElem?_eq_getElem (by rw [Array.length_toList]; exact h)]
  rfl
theorem bt_range (s : ByteArray) (i : Int) : 0 ≤ bt s i ∧ bt s i ≤ 255 := by
  unfold bt
  generalize s.data.toList.getD i.toNat 0 = c
  have := c.toNat_lt
  omega
end Go.Ev
