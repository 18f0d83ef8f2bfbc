import Derived.Test.YtmijfoikdjcmlaaDoorBits4
/-! Balanced parentheses: the plain part. -/
namespace Go.Ev
/-- How many more open than close below a place. -/
def exc (m : List Bool) (k : Nat) : Int := 2 * (rk m k true : Int) - (k : Int)
theorem exc_zero (m : List Bool) : exc m 0 = 0 := by unfold exc rk; simp
theorem exc_succ {m : List Bool} {k : Nat} (h : k < m.length) : exc m (k + 1) = exc m k + (if m[k] = true then 1 else -1) := by
  unfold exc
  rw [rk_succ h]
  split <;> omega
theorem exc_step {m : List Bool} {k : Nat} (h : k < m.length) : exc m k - 1 ≤ exc m (k + 1) ∧ exc m (k + 1) ≤ exc m k + 1 ∧ exc m (k + 1) ≠ exc m k := by
  rw [exc_succ h]
  split <;> omega
theorem exc_le (m : List Bool) (k : Nat) : exc m k ≤ m.length ∧ -(k : Int) ≤ exc m k := by
  unfold exc
  have h1 := rk_le m k true
  have h2 : rk m k true ≤ k := by
    unfold rk
    exact Nat.le_trans List.count_le_length (by simp; omega)
  omega
/-- They are balanced. -/
def Bal (m : List Bool) : Prop := (∀ k, k ≤ m.length → 0 ≤ exc m k) ∧ exc m m.length = 0
/-- Which node of a row of 2^s stands above a place's leaf. -/
def anc (h i s : Nat) : Nat := (2 ^ h + i / 64) / 2 ^ (h - s)
theorem anc_mono (h s : Nat) {i j : Nat} (hij : i ≤ j) : anc h i s ≤ anc h j s := by
  unfold anc
  exact Nat.div_le_div_right (by omega)
theorem anc_leaf (h i : Nat) : anc h i h = 2 ^ h + i / 64 := by unfold anc; rw [Nat.sub_self, Nat.pow_zero, Nat.div_one]
theorem anc_par (h i : Nat) {s : Nat} (hs : s < h) : anc h i s = anc h i (s + 1) / 2 := by
  unfold anc
  rw [Nat.div_div_eq_div_mul, ← Nat.pow_succ, show (h - (s + 1)).succ = h - s by omega]
theorem anc_root {h i : Nat} (hi : i / 64 < 2 ^ h) : anc h i 0 = 1 := by
  unfold anc
  rw [Nat.sub_zero]
  have hp : 0 < 2 ^ h := Nat.pow_pos (by decide)
  exact Nat.div_eq_of_lt_le (by omega) (by omega)
theorem anc_range {h i s : Nat} (hi : i / 64 < 2 ^ h) (hs : s ≤ h) : 2 ^ s ≤ anc h i s ∧ anc h i s < 2 * 2 ^ s := by
  unfold anc
  have hp : 0 < 2 ^ (h - s) := Nat.pow_pos (by decide)
  have e : 2 ^ h = 2 ^ s * 2 ^ (h - s) := by rw [← Nat.pow_add]; congr 1; omega
  constructor
  · rw [Nat.le_div_iff_mul_le hp, ← e]
    omega
  · rw [Nat.div_lt_iff_lt_mul hp, Nat.mul_assoc, ← e]
    omega
/-- The least excess of each block, of each two, and so on. -/
structure Tree (m : List Bool) (h : Nat) (T : List Int) : Prop where
  len : T.length = 2 * 2 ^ h
  fit : m.length ≤ 2 ^ h * 64
  law : ∀ s v, s ≤ h → 2 ^ s ≤ v → v < 2 * 2 ^ s → ∀ to : Int, to < m.length → (T.getD v 0 ≤ to ↔ ∃ i, i < m.length ∧ anc h i s = v ∧ exc m (i + 1) ≤ to)
theorem tree_law {m : List Bool} {h : Nat} {T : List Int} (leaf : ∀ b, b < 2 ^ h → ∀ to : Int, to < m.length → (T.getD (2 ^ h + b) 0 ≤ to ↔ ∃ i, i < m.length ∧ i / 64 = b ∧ exc m (i + 1) ≤ to))
    (inner : ∀ v, 1 ≤ v → v < 2 ^ h → T.getD v 0 = min (T.getD (2 * v) 0) (T.getD (2 * v + 1) 0)) :
    ∀ d s, s + d = h → ∀ v, 2 ^ s ≤ v → v < 2 * 2 ^ s → ∀ to : Int, to < m.length → (T.getD v 0 ≤ to ↔ ∃ i, i < m.length ∧ anc h i s = v ∧ exc m (i + 1) ≤ to)
  | 0, s, hd, v, h1, h2, to, ht => by
    obtain rfl : s = h := by omega
    have := leaf (v - 2 ^ s) (by omega) to ht
    rw [show 2 ^ s + (v - 2 ^ s) = v by omega] at this
    rw [this]
    constructor
    · rintro ⟨i, a, b, c⟩
      exact ⟨i, a, by rw [anc_leaf]; omega, c⟩
    · rintro ⟨i, a, b, c⟩
      rw [anc_leaf] at b
      exact ⟨i, a, by omega, c⟩
  | d + 1, s, hd, v, h1, h2, to, ht => by
    have hp : 2 ^ (s + 1) = 2 * 2 ^ s := by rw [Nat.pow_succ, Nat.mul_comm]
    have hp0 : 0 < 2 ^ s := Nat.pow_pos (by decide)
    have hle : 2 ^ (s + 1) ≤ 2 ^ h := Nat.pow_le_pow_right (by decide) (by omega)
    rw [inner v (by omega) (by omega)]
    have l1 := tree_law leaf inner d (s + 1) (by omega) (2 * v) (by omega) (by omega) to ht
    have l2 := tree_law leaf inner d (s + 1) (by omega) (2 * v + 1) (by omega) (by omega) to ht
    have e : min (T.getD (2 * v) 0) (T.getD (2 * v + 1) 0) ≤ to ↔ (T.getD (2 * v) 0 ≤ to ∨ T.getD (2 * v + 1) 0 ≤ to) := by omega
    rw [e, l1, l2]
    constructor
    · rintro (⟨i, a, b, c⟩ | ⟨i, a, b, c⟩)
      · exact ⟨i, a, by rw [anc_par h i (by omega), b]; omega, c⟩
      · exact ⟨i, a, by rw [anc_par h i (by omega), b]; omega, c⟩
    · rintro ⟨i, a, b, c⟩
      rw [anc_par h i (by omega)] at b
      rcases Nat.mod_two_eq_zero_or_one (anc h i (s + 1)) with h0 | h0
      · exact .inl ⟨i, a, by omega, c⟩
      · exact .inr ⟨i, a, by omega, c⟩
/-- The first place behind one with a lesser excess; -1. -/
def Fwd (m : List Bool) (k : Nat) (to x : Int) : Prop :=
  (∃ i, k < i ∧ i < m.length ∧ x = (i : Int) ∧ exc m (i + 1) = to ∧ ∀ j, k < j → j < i → to < exc m (j + 1)) ∨ (x = -1 ∧ ∀ j, k < j → j < m.length → to < exc m (j + 1))
/-- The last place below one with a lesser excess; -1 for that ahead of all; -2. -/
def Bwd (m : List Bool) (k : Nat) (to x : Int) : Prop :=
  (∃ i, i < k ∧ x = (i : Int) ∧ exc m (i + 1) = to ∧ ∀ j, i < j → j < k → to < exc m (j + 1)) ∨ (x = (if to = 0 then -1 else -2) ∧ ∀ j, j < k → to < exc m (j + 1))
/-- Where it first is not above, it is there. -/
theorem first_eq {m : List Bool} {i : Nat} {to : Int} (hi : i < m.length) (h1 : to < exc m i) (h2 : exc m (i + 1) ≤ to) : exc m (i + 1) = to := by
  have := exc_step hi
  omega
theorem last_eq {m : List Bool} {i : Nat} {to : Int} (hi : i + 1 < m.length) (h1 : to < exc m (i + 2)) (h2 : exc m (i + 1) ≤ to) : exc m (i + 1) = to := by
  have := exc_step hi
  have e : exc m (i + 1 + 1) = exc m (i + 2) := rfl
  omega
/-! ### Pairs -/
/-- One opens, and another one closes it. -/
def IsPair (m : List Bool) (x c : Nat) : Prop := x ≤ c ∧ c < m.length ∧ exc m (c + 1) = exc m x ∧ ∀ y, x < y → y ≤ c → exc m x < exc m y
theorem IsPair.lt {m : List Bool} {x c : Nat} (h : IsPair m x c) : x < c := by
  obtain ⟨h1, h2, h3, _⟩ := h
  rcases Nat.eq_or_lt_of_le h1 with e | e
  · subst e
    have := (exc_step h2).2.2
    omega
  · exact e
theorem up_of {m : List Bool} {x : Nat} (hx : x < m.length) (h : exc m x < exc m (x + 1)) : m[x] = true := by
  rw [exc_succ hx] at h
  split at h
  · assumption
  · omega
theorem down_of {m : List Bool} {x : Nat} (hx : x < m.length) (h : exc m (x + 1) < exc m x) : m[x] = false := by
  rw [exc_succ hx] at h
  split at h
  · omega
  · rename_i hn; cases hb : m[x] with
    | true => exact absurd hb hn
    | false => rfl
theorem of_up {m : List Bool} {x : Nat} (hx : x < m.length) (h : m[x] = true) : exc m (x + 1) = exc m x + 1 := by rw [exc_succ hx, if_pos h]
theorem of_down {m : List Bool} {x : Nat} (hx : x < m.length) (h : m[x] = false) : exc m (x + 1) = exc m x - 1 := by rw [exc_succ hx, h]; simp; omega
theorem IsPair.opens {m : List Bool} {x c : Nat} (h : IsPair m x c) : ∃ hx : x < m.length, m[x] = true := by
  have hl := h.lt
  obtain ⟨h1, h2, h3, h4⟩ := h
  exact ⟨by omega, up_of (by omega) (h4 (x + 1) (by omega) (by omega))⟩
theorem IsPair.closes {m : List Bool} {x c : Nat} (h : IsPair m x c) : ∃ hc : c < m.length, m[c] = false := by
  have hl := h.lt
  obtain ⟨h1, h2, h3, h4⟩ := h
  exact ⟨h2, down_of h2 (by have := h4 c (by omega) (by omega); omega)⟩
theorem IsPair.uniq {m : List Bool} {x c c' : Nat} (h : IsPair m x c) (h' : IsPair m x c') : c = c' := by
  obtain ⟨h1, h2, h3, h4⟩ := h
  obtain ⟨h1', h2', h3', h4'⟩ := h'
  rcases Nat.lt_trichotomy c c' with e | e | e
  · have := h4' (c + 1) (by omega) (by omega); omega
  · exact e
  · have := h4 (c' + 1) (by omega) (by omega); omega
theorem IsPair.uniq' {m : List Bool} {x x' c : Nat} (h : IsPair m x c) (h' : IsPair m x' c) : x = x' := by
  obtain ⟨h1, h2, h3, h4⟩ := h
  obtain ⟨h1', h2', h3', h4'⟩ := h'
  rcases Nat.lt_trichotomy x x' with e | e | e
  · have := h4 x' (by omega) (by omega); omega
  · exact e
  · have := h4' x (by omega) (by omega); omega
/-- So many levels up. -/
def IsUp (m : List Bool) (k n x : Nat) : Prop := x ≤ k ∧ exc m x = exc m k - (n : Int) ∧ ∀ y, x < y → y ≤ k → exc m x < exc m y
theorem IsUp.uniq {m : List Bool} {k n x x' : Nat} (h : IsUp m k n x) (h' : IsUp m k n x') : x = x' := by
  obtain ⟨h1, h2, h3⟩ := h
  obtain ⟨h1', h2', h3'⟩ := h'
  rcases Nat.lt_trichotomy x x' with e | e | e
  · have := h3 x' (by omega) (by omega); omega
  · exact e
  · have := h3' x (by omega) (by omega); omega
theorem IsUp.zero (m : List Bool) (k : Nat) : IsUp m k 0 k := ⟨Nat.le_refl _, by omega, fun y h1 h2 => by omega⟩
theorem IsUp.trans {m : List Bool} {k n x n' x' : Nat} (h : IsUp m k n x) (h' : IsUp m x n' x') : IsUp m k (n + n') x' := by
  obtain ⟨h1, h2, h3⟩ := h
  obtain ⟨h1', h2', h3'⟩ := h'
  refine ⟨by omega, by omega, fun y a b => ?_⟩
  rcases Nat.lt_or_ge x y with e | e
  · have := h3 y e b; omega
  · exact h3' y a e
theorem IsUp.opens {m : List Bool} {k n x : Nat} (h : IsUp m k n x) (hk : k < m.length) (ho : m[k] = true) : ∃ hx : x < m.length, m[x] = true := by
  obtain ⟨h1, h2, h3⟩ := h
  refine ⟨by omega, ?_⟩
  rcases Nat.eq_or_lt_of_le h1 with e | e
  · subst e; exact ho
  · exact up_of (by omega) (h3 (x + 1) (by omega) (by omega))
/-- There is one, as long as it goes down so far. -/
theorem up_ex {m : List Bool} {k : Nat} (hk : k ≤ m.length) : ∀ n : Nat, (n : Int) ≤ exc m k → ∃ x, IsUp m k n x := by
  intro n hn
  -- the last place with an excess not above
  have key : ∀ d, d ≤ k → (∃ x, k - d ≤ x ∧ IsUp m k n x) ∨ (∀ y, k - d ≤ y → y ≤ k → exc m k - (n : Int) < exc m y) := by
    intro d
    induction d with
    | zero =>
      intro _
      rcases Nat.eq_zero_or_pos n with e | e
      · subst e
        exact .inl ⟨k, by omega, IsUp.zero m k⟩
      · exact .inr fun y h1 h2 => by
          have : y = k := by omega
          subst this
          omega
    | succ d ih =>
      intro hd
      rcases ih (by omega) with ⟨x, hx, h⟩ | h
      · exact .inl ⟨x, by omega, h⟩
      · have h0 := h (k - d) (by omega) (by omega)
        have hs := exc_step (m := m) (k := k - (d + 1)) (by omega)
        rw [show k - (d + 1) + 1 = k - d by omega] at hs
        rcases Classical.em (exc m (k - (d + 1)) = exc m k - (n : Int)) with e | e
        · exact .inl ⟨k - (d + 1), by omega, by omega, e, fun y h1 h2 => by have := h y (by omega) h2; omega⟩
        · exact .inr fun y h1 h2 => by
            rcases Nat.eq_or_lt_of_le h1 with e' | e'
            · subst e'; omega
            · exact h y (by omega) h2
  rcases key k (Nat.le_refl _) with ⟨x, _, h⟩ | h
  · exact ⟨x, h⟩
  · have := h 0 (by omega) (Nat.zero_le _)
    rw [exc_zero] at this
    omega
/-- In a balanced row each that opens is closed. -/
theorem pair_ex {m : List Bool} (hb : Bal m) {k : Nat} (hk : k < m.length) (ho : m[k] = true) : ∃ c, IsPair m k c := by
  have h0 := of_up hk ho
  have key : ∀ d, k + 1 + d ≤ m.length → (∃ c, IsPair m k c) ∨ (∀ y, k < y → y ≤ k + 1 + d → exc m k < exc m y) := by
    intro d
    induction d with
    | zero =>
      intro _
      exact .inr fun y h1 h2 => by
        have : y = k + 1 := by omega
        subst this
        omega
    | succ d ih =>
      intro hd
      rcases ih (by omega) with h | h
      · exact .inl h
      · have h1 := h (k + 1 + d) (by omega) (by omega)
        have hs := exc_step (m := m) (k := k + 1 + d) (by omega)
        rcases Classical.em (exc m (k + 1 + d + 1) = exc m k) with e | e
        · exact .inl ⟨k + 1 + d, by omega, by omega, e, h⟩
        · exact .inr fun y h2 h3 => by
            rcases Nat.lt_or_ge (k + 1 + d) y with e' | e'
            · have : y = k + 1 + d + 1 := by omega
              subst this
              omega
            · exact h y h2 e'
  rcases key (m.length - (k + 1)) (by omega) with h | h
  · exact h
  · have h1 := h m.length (by omega) (by omega)
    have h2 := hb.1 k (by omega)
    have h3 := hb.2
    omega
/-- And each that closes is begun. -/
theorem pair_ex' {m : List Bool} (hb : Bal m) {c : Nat} (hc : c < m.length) (hcl : m[c] = false) : ∃ x, IsPair m x c := by
  have h0 := of_down hc hcl
  have h1 := hb.1 (c + 1) (by omega)
  obtain ⟨x, a, b, d⟩ := up_ex (m := m) (k := c) (by omega) 1 (by omega)
  exact ⟨x, a, hc, by omega, d⟩
end Go.Ev
