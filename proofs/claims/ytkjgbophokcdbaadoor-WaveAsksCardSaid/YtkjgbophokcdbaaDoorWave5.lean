import Derived.Test.YtkjgbophokcdbaaDoorWave4
/-! Package wave: places of symbols. -/
namespace Go.Ev
/-- The place of the j-th one. -/
theorem nth_place {l : List Nat} {s : Nat} : ∀ {j : Nat}, j < l.count s → ∃ (i : Nat) (hi : i < l.length), l[i] = s ∧ (l.take i).count s = j := by
  induction l with
  | nil => intro j h; simp at h
  | cons x r ih =>
    intro j h
    by_cases hx : x = s
    · subst hx
      cases j with
      | zero => exact ⟨0, by simp, rfl, by simp⟩
      | succ j =>
        obtain ⟨i, hi, e1, e2⟩ := ih (j := j) (by simpa using h)
        exact ⟨i + 1, by simp; exact hi, by simpa using e1, by simp [e2]⟩
    · rw [List.count_cons_of_ne hx] at h
      obtain ⟨i, hi, e1, e2⟩ := ih h
      exact ⟨i + 1, by simp; exact hi, by simpa using e1, by rw [List.take_succ_cons, List.count_cons_of_ne hx, e2]⟩
theorem place_lt {l : List Nat} {s i : Nat} (hi : i < l.length) (h : l[i] = s) : (l.take i).count s < l.count s := by
  have : (l.take (i + 1)).count s ≤ l.count s := (List.take_sublist _ _).count_le _
  rw [List.take_succ_eq_append_getElem hi, List.count_append, h] at this
  simp at this
  omega
end Go.Ev
namespace Go.Proofs.YtkjgbophokcdbaaDoor
open Go.Ev
set_option linter.unusedVariables false
section
variable {H : Heap} {g : Nat} {l : List Nat} {sg st : Nat} {F : Nat → Prop}
theorem fallF_le (W : Nat) (l : List Nat) (s : Nat) {at_ : Nat} (h : at_ ≤ l.length) : ∀ k, fallF W l s at_ k ≤ l.length := by
  intro k
  obtain ⟨A, B, hr, hA⟩ := seg W l s k
  have h1 := rowL_len W l k
  rw [hr, List.length_append, List.length_append] at h1
  have h2 : (l.take at_).countP (agree W s k) ≤ (l.filter (agree W s k)).length := by
    rw [← List.countP_eq_length_filter]
    exact (List.take_sublist _ _).countP_le
  rw [fall_at W l s h k]
  omega
end
end Go.Proofs.YtkjgbophokcdbaaDoor
