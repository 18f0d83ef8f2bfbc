import Derived.Test.YtkjgbophokcdbaaDoorBits1
/-! Symbols by rows of their bits: the plain part. -/
namespace Go.Ev
/-- The next row's symbols: those with a 0 ahead. -/
def nextL (b : Nat) (l : List Nat) : List Nat := l.filter (fun x => !x.testBit b) ++ l.filter (fun x => x.testBit b)
/-- The symbols of row k, of W rows. -/
def rowL (W : Nat) (l : List Nat) : Nat → List Nat
  | 0 => l
  | k + 1 => nextL (W - 1 - k) (rowL W l k)
def rowB (W : Nat) (l : List Nat) (k : Nat) : List Bool := (rowL W l k).map fun x => x.testBit (W - 1 - k)
theorem nextL_len (b : Nat) (l : List Nat) : (nextL b l).length = l.length := by
  unfold nextL
  rw [List.length_append, ← List.countP_eq_length_filter, ← List.countP_eq_length_filter]
  have := List.length_eq_countP_add_countP (fun x : Nat => x.testBit b) (l := l)
  simp at this ⊢
  omega
theorem rowL_len (W : Nat) (l : List Nat) : ∀ k, (rowL W l k).length = l.length
  | 0 => rfl
  | k + 1 => by rw [rowL, nextL_len, rowL_len W l k]
/-- Where a place of a row comes to in the next. -/
def downF (W : Nat) (l : List Nat) (k at_ : Nat) (bit : Bool) : Nat := rk (rowB W l k) at_ bit + (if bit then (rowB W l k).count false else 0)
/-- Where a place comes to behind k rows, by a symbol. -/
def fallF (W : Nat) (l : List Nat) (s at_ : Nat) : Nat → Nat
  | 0 => at_
  | k + 1 => downF W l k (fallF W l s at_ k) (s.testBit (W - 1 - k))
theorem rowL_succ (W : Nat) (l : List Nat) (k : Nat) : rowL W l (k + 1) = nextL (W - 1 - k) (rowL W l k) := rfl
theorem fallF_succ (W : Nat) (l : List Nat) (s at_ k : Nat) : fallF W l s at_ (k + 1) = downF W l k (fallF W l s at_ k) (s.testBit (W - 1 - k)) := rfl
/-- Alike in the highest k bits. -/
def agree (W s k x : Nat) : Bool := (List.range k).all fun j => x.testBit (W - 1 - j) == s.testBit (W - 1 - j)
theorem agree_succ (W s k x : Nat) : agree W s (k + 1) x = (agree W s k x && (x.testBit (W - 1 - k) == s.testBit (W - 1 - k))) := by
  unfold agree
  rw [List.range_succ, List.all_append]
  simp
theorem agree_all {W s x : Nat} (hs : s < 2 ^ W) (hx : x < 2 ^ W) : agree W s W x = decide (x = s) := by
  rw [Bool.eq_iff_iff]
  unfold agree
  simp only [List.all_eq_true, List.mem_range, beq_iff_eq, decide_eq_true_eq]
  constructor
  · intro h
    apply Nat.eq_of_testBit_eq
    intro i
    rcases Nat.lt_or_ge i W with hi | hi
    · have := h (W - 1 - i) (by omega)
      rwa [show W - 1 - (W - 1 - i) = i by omega] at this
    · rw [Nat.testBit_lt_two_pow (Nat.lt_of_lt_of_le hx (Nat.pow_le_pow_right (by decide) hi)), Nat.testBit_lt_two_pow (Nat.lt_of_lt_of_le hs (Nat.pow_le_pow_right (by decide) hi))]
  · rintro rfl j _
    rfl
theorem filter_take (p : Nat → Bool) (l : List Nat) (i : Nat) : (l.filter p).take ((l.take i).countP p) = (l.take i).filter p := by
  conv => lhs; rw [← List.take_append_drop i l]
  rw [List.filter_append, List.countP_eq_length_filter]
  have : ((l.take i ++ l.drop i).take i) = l.take i := by rw [List.take_append_drop]
  rw [this]
  exact List.take_left
theorem rk_map (f : Nat → Bool) (l : List Nat) (n : Nat) (bit : Bool) : rk (l.map f) n bit = (l.take n).countP fun x => f x == bit := by
  unfold rk
  rw [← List.map_take, List.count_eq_countP, List.countP_map]
  rfl
theorem take_two {A S B : List Nat} {c : Nat} (hc : c ≤ S.length) : (A ++ S ++ B).take (A.length + c) = A ++ S.take c := by
  rw [List.append_assoc, List.take_append, List.take_of_length_le (by omega), show A.length + c - A.length = c by omega, List.take_append, show c - S.length = 0 by omega]
  simp
theorem filter_bit (b : Nat) (bit : Bool) : (fun x : Nat => x.testBit b == bit) = if bit then (fun x : Nat => x.testBit b) else fun x => !x.testBit b := by
  cases bit <;> funext x <;> simp
/-- Those that are alike so far stand together, in their order. -/
theorem seg (W : Nat) (l : List Nat) (s : Nat) : ∀ k, ∃ A B, rowL W l k = A ++ l.filter (agree W s k) ++ B ∧ A.length = fallF W l s 0 k
  | 0 => ⟨[], [], by
      have : agree W s 0 = fun _ => true := by funext x; rfl
      rw [this, List.filter_eq_self.2 (fun _ _ => rfl)]
      simp [rowL], rfl⟩
  | k + 1 => by
    obtain ⟨A, B, h, hA⟩ := seg W l s k
    have hS : (l.filter (agree W s k)).filter (fun x => x.testBit (W - 1 - k) == s.testBit (W - 1 - k)) = l.filter (agree W s (k + 1)) := by
      rw [List.filter_filter]
      congr 1
      funext x
      rw [agree_succ, Bool.and_comm]
    have hrk : rk (rowB W l k) A.length (s.testBit (W - 1 - k)) = (A.filter fun x => x.testBit (W - 1 - k) == s.testBit (W - 1 - k)).length := by
      unfold rowB
      rw [rk_map, h, List.append_assoc, List.take_left, List.countP_eq_length_filter]
    cases hb : s.testBit (W - 1 - k) with
    | false =>
      rw [hb] at hS hrk
      rw [filter_bit] at hS hrk
      simp only [Bool.false_eq_true, if_false] at hS hrk
      refine ⟨A.filter (fun x => !x.testBit (W - 1 - k)), B.filter (fun x => !x.testBit (W - 1 - k)) ++ (rowL W l k).filter (fun x => x.testBit (W - 1 - k)), ?_, ?_⟩
      · rw [rowL_succ]
        unfold nextL
        conv => lhs; lhs; rw [h]
        rw [List.filter_append, List.filter_append, hS]
        simp only [List.append_assoc]
      · rw [fallF_succ]
        unfold downF
        rw [← hA, hb, hrk]
        simp
    | true =>
      rw [hb] at hS hrk
      rw [filter_bit] at hS hrk
      simp only [if_true] at hS hrk
      refine ⟨(rowL W l k).filter (fun x => !x.testBit (W - 1 - k)) ++ A.filter (fun x => x.testBit (W - 1 - k)), B.filter (fun x => x.testBit (W - 1 - k)), ?_, ?_⟩
      · rw [rowL_succ]
        unfold nextL
        conv => lhs; rhs; rw [h]
        rw [List.filter_append, List.filter_append, hS]
        simp only [List.append_assoc]
      · rw [fallF_succ]
        unfold downF
        rw [← hA, hb, hrk, List.length_append]
        have : (rowB W l k).count false = ((rowL W l k).filter fun x => !x.testBit (W - 1 - k)).length := by
          unfold rowB
          rw [List.count_eq_countP, List.countP_map, List.countP_eq_length_filter]
          congr 1
          congr 1
          funext x
          simp
        rw [this]
        simp
        omega
/-- Where a place comes to: as many places on as there are alike below it. -/
theorem fall_at (W : Nat) (l : List Nat) (s : Nat) {at_ : Nat} (h : at_ ≤ l.length) : ∀ k, fallF W l s at_ k = fallF W l s 0 k + (l.take at_).countP (agree W s k)
  | 0 => by
    have : agree W s 0 = fun _ => true := by funext x; rfl
    rw [this, List.countP_eq_length_filter, List.filter_eq_self.2 (fun _ _ => rfl)]
    simp [fallF]
    omega
  | k + 1 => by
    obtain ⟨A, B, hr, hA⟩ := seg W l s k
    rw [fallF_succ, fallF_succ, fall_at W l s h k]
    unfold downF
    have hle : (l.take at_).countP (agree W s k) ≤ (l.filter (agree W s k)).length := by
      rw [← List.countP_eq_length_filter]
      exact (List.take_sublist _ _).countP_le
    have e1 : rk (rowB W l k) (fallF W l s 0 k + (l.take at_).countP (agree W s k)) (s.testBit (W - 1 - k)) = rk (rowB W l k) (fallF W l s 0 k) (s.testBit (W - 1 - k)) + (l.take at_).countP (agree W s (k + 1)) := by
      unfold rowB
      rw [rk_map, rk_map, hr, ← hA, take_two hle, filter_take, List.countP_append, List.append_assoc, List.take_left]
      congr 1
      rw [List.countP_filter]
      congr 1
      funext x
      rw [agree_succ, Bool.and_comm]
    rw [e1]
    omega
theorem filter_get (p : Nat → Bool) (l : List Nat) {i : Nat} (hi : i < l.length) (hp : p l[i] = true) : (l.filter p)[(l.take i).countP p]? = some l[i] := by
  have e : l = l.take i ++ l[i] :: l.drop (i + 1) := by rw [← List.drop_eq_getElem_cons hi, List.take_append_drop]
  have e2 : l.filter p = (l.take i).filter p ++ l[i] :: (l.drop (i + 1)).filter p := by
    conv => lhs; rw [e]
    rw [List.filter_append, List.filter_cons, if_pos hp]
  rw [e2, List.countP_eq_length_filter, List.getElem?_append_right (Nat.le_refl _)]
  simp
/-- In each row its own place holds a symbol. -/
theorem row_at (W : Nat) (l : List Nat) (s : Nat) {i : Nat} (hi : i < l.length) (k : Nat) (ha : agree W s k l[i] = true) : (rowL W l k)[fallF W l s i k]? = some l[i] := by
  obtain ⟨A, B, hr, hA⟩ := seg W l s k
  have hlt : (l.take i).countP (agree W s k) < (l.filter (agree W s k)).length := by
    have := filter_get (agree W s k) l hi ha
    exact (List.getElem?_eq_some_iff.1 this).1
  rw [hr, fall_at W l s (by omega) k, ← hA, List.append_assoc, List.getElem?_append_right (by omega), show A.length + (l.take i).countP (agree W s k) - A.length = (l.take i).countP (agree W s k) by omega, List.getElem?_append_left hlt, filter_get _ l hi ha]
theorem agree_self (W s k : Nat) : agree W s k s = true := by
  unfold agree
  simp
theorem bit_at (W : Nat) (l : List Nat) (s : Nat) {i : Nat} (hi : i < l.length) (k : Nat) (ha : agree W s k l[i] = true) : (rowB W l k)[fallF W l s i k]? = some (l[i].testBit (W - 1 - k)) := by
  unfold rowB
  rw [List.getElem?_map, row_at W l s hi k ha]
  rfl
/-- How often a symbol stands below a place. -/
theorem fall_rank {W : Nat} {l : List Nat} (hl : ∀ x ∈ l, x < 2 ^ W) {s : Nat} (hs : s < 2 ^ W) {at_ : Nat} (h : at_ ≤ l.length) : fallF W l s at_ W = fallF W l s 0 W + (l.take at_).count s := by
  rw [fall_at W l s h W, List.count_eq_countP]
  congr 1
  apply List.countP_congr
  intro x hx
  rw [agree_all hs (hl x (List.mem_of_mem_take hx))]
  simp
end Go.Ev
