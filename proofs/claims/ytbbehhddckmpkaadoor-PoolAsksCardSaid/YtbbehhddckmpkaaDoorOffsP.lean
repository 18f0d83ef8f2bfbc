import Derived.Test.YtbbehhddckmpkaaDoorBits1
import Derived.Test.YtbbehhddckmpkaaDoorEvI64
/-! Places that rise: the plain part. -/
namespace Go.Ev
/-- How many low bits. -/
def lowK (last n : Nat) : Nat := blen (last / n) - 1
theorem pow_le_of_blen {q : Nat} (h : 0 < q) : 2 ^ (blen q - 1) ≤ q := by
  rcases Nat.lt_or_ge q (2 ^ (blen q - 1)) with h1 | h1
  · have := blen_le.2 h1
    have := blen_pos (n := q) (by omega)
    omega
  · exact h1
theorem high_lt {last n : Nat} (hn : 0 < n) : last >>> lowK last n < 2 * n := by
  rw [Nat.shiftRight_eq_div_pow, Nat.div_lt_iff_lt_mul (Nat.pow_pos (by decide))]
  have h1 : last < (last / n + 1) * n := by
    have := Nat.lt_mul_div_succ last hn
    rw [Nat.mul_comm] at this
    exact this
  have h2 : last / n + 1 ≤ 2 ^ blen (last / n) := lt_blen _
  have h3 : 2 ^ blen (last / n) ≤ 2 * 2 ^ lowK last n := by
    unfold lowK
    rw [Nat.mul_comm, ← Nat.pow_succ]
    exact Nat.pow_le_pow_right (by decide) (by omega)
  have h4 : (last / n + 1) * n ≤ (2 * 2 ^ lowK last n) * n := Nat.mul_le_mul_right _ (by omega)
  rw [Nat.mul_assoc, Nat.mul_comm (2 ^ lowK last n) n, ← Nat.mul_assoc] at h4
  omega
theorem high_ge {last n : Nat} (hn : 0 < n) (hk : lowK last n ≠ 0) : n ≤ last >>> lowK last n := by
  rw [Nat.shiftRight_eq_div_pow, Nat.le_div_iff_mul_le (Nat.pow_pos (by decide))]
  have hq : 0 < last / n := by
    rcases Nat.eq_zero_or_pos (last / n) with h | h
    · unfold lowK at hk; rw [h] at hk; exact absurd rfl hk
    · exact h
  have h1 : 2 ^ lowK last n ≤ last / n := pow_le_of_blen hq
  have h2 : n * (last / n) ≤ last := Nat.mul_div_le last n
  have h3 : n * 2 ^ lowK last n ≤ n * (last / n) := Nat.mul_le_mul_left _ h1
  omega
/-- The places rise. -/
def Rises (l : List Nat) : Prop := ∀ i j (hi : i < l.length) (hj : j < l.length), i ≤ j → l[i] ≤ l[j]
/-- The upper bits after so many places. -/
def upN (l : List Nat) (k m : Nat) : Nat → List Bool
  | 0 => List.replicate m false
  | i + 1 => (upN l k m i).set (l.getD i 0 >>> k + i) true
theorem upN_len (l : List Nat) (k m : Nat) : ∀ i, (upN l k m i).length = m
  | 0 => by simp [upN]
  | i + 1 => by simp [upN, upN_len l k m i]
theorem getD_setB {l : List Bool} {p : Nat} (hp : p < l.length) (v : Bool) (i : Nat) : (l.set p v).getD i false = if i = p then v else l.getD i false := by
  rw [List.getD_eq_getElem?_getD, List.getElem?_set, List.getD_eq_getElem?_getD]
  by_cases h : p = i
  · subst h; simp [hp]
  · rw [if_neg h, if_neg (fun e => h e.symm)]
theorem shr_mono {a b : Nat} (h : a ≤ b) (k : Nat) : a >>> k ≤ b >>> k := by
  rw [Nat.shiftRight_eq_div_pow, Nat.shiftRight_eq_div_pow]
  exact Nat.div_le_div_right h
theorem rk_set {m : List Bool} {p q : Nat} (h : p ≤ q) (v bit : Bool) : rk (m.set q v) p bit = rk m p bit := by
  unfold rk
  rw [List.take_set_of_le h]
/-- Behind the place of a number no bit stands yet. -/
theorem upN_free {l : List Nat} (hr : Rises l) {k m : Nat} (hm : ∀ i (hi : i < l.length), l[i] >>> k + i < m) : ∀ (i : Nat) (hi : i ≤ l.length), (∀ q, (∀ j (hj : j < i), l.getD j 0 >>> k + j < q) → (upN l k m i).getD q false = false)
  | 0, _ => fun q _ => by simp [upN, List.getD_eq_getElem?_getD, List.getElem?_replicate]; split <;> rfl
  | i + 1, hi => fun q hq => by
    have hil : i < l.length := by omega
    have e : l.getD i 0 = l[i] := by rw [List.getD_eq_getElem?_getD, List.getElem?_eq_getElem hil]; rfl
    have := hq i (by omega)
    unfold upN
    rw [getD_setB (by rw [upN_len, e]; exact hm i hil), if_neg (by omega)]
    exact upN_free hr hm i (by omega) q fun j hj => hq j (by omega)
theorem rk_free {m : List Bool} {p q : Nat} (hpq : p ≤ q) (h : ∀ j, p ≤ j → m.getD j false = false) : rk m q true = rk m p true := by
  obtain ⟨d, rfl⟩ : ∃ d, q = p + d := ⟨q - p, by omega⟩
  induction d with
  | zero => rfl
  | succ d ih =>
    rw [← ih (by omega)]
    rcases Nat.lt_or_ge (p + d) m.length with hlt | hge
    · have h1 := h (p + d) (by omega)
      rw [List.getD_eq_getElem?_getD, List.getElem?_eq_getElem hlt] at h1
      have h1 : m[p + d] = false := h1
      rw [show p + (d + 1) = p + d + 1 by omega, rk_succ hlt, h1]
      rfl
    · rw [rk_all m (by omega), rk_all m hge]
theorem upN_rank {l : List Nat} (hr : Rises l) {k m : Nat} (hm : ∀ i (hi : i < l.length), l[i] >>> k + i < m) : ∀ (n : Nat) (hn : n ≤ l.length), ∀ i (hi : i < n), (upN l k m n).getD (l.getD i 0 >>> k + i) false = true ∧ rk (upN l k m n) (l.getD i 0 >>> k + i) true = i
  | 0, _, i, hi => absurd hi (by omega)
  | n + 1, hn, i, hi => by
    have hnl : n < l.length := by omega
    have en : ∀ j (hj : j < l.length), l.getD j 0 = l[j] := fun j hj => by rw [List.getD_eq_getElem?_getD, List.getElem?_eq_getElem hj]; rfl
    have hp : l.getD n 0 >>> k + n < (upN l k m n).length := by rw [upN_len, en n hnl]; exact hm n hnl
    unfold upN
    by_cases hin : i = n
    · subst hin
      refine ⟨by rw [getD_setB hp, if_pos rfl], ?_⟩
      rw [rk_set (Nat.le_refl _)]
      -- as many as places so far
      rcases Nat.eq_zero_or_pos i with h0 | h0
      · subst h0
        have := rk_free (m := upN l k m 0) (Nat.zero_le (l.getD 0 0 >>> k + 0)) (fun j _ => upN_free hr hm 0 (by omega) j fun j hj => absurd hj (by omega))
        rw [this]; rfl
      · obtain ⟨j, rfl⟩ : ∃ j, i = j + 1 := ⟨i - 1, by omega⟩
        obtain ⟨h1, h2⟩ := upN_rank hr hm (j + 1) (by omega) j (by omega)
        have hle := hr j (j + 1) (by omega) hnl (by omega)
        have hs := shr_mono hle k
        rw [← en j (by omega), ← en (j + 1) hnl] at hs
        have hjl : l.getD j 0 >>> k + j < (upN l k m (j + 1)).length := by rw [upN_len, en j (by omega)]; exact hm j (by omega)
        have hf := rk_free (m := upN l k m (j + 1)) (p := l.getD j 0 >>> k + j + 1) (q := l.getD (j + 1) 0 >>> k + (j + 1)) (by omega) fun q hq => upN_free hr hm (j + 1) (by omega) q fun t ht => by
          have := hr t j (by omega) (by omega) (by omega)
          have := shr_mono this k
          rw [← en t (by omega), ← en j (by omega)] at this
          omega
        rw [hf, rk_succ hjl, h2]
        have h1' : (upN l k m (j + 1))[l.getD j 0 >>> k + j] = true := by
          rw [List.getD_eq_getElem?_getD, List.getElem?_eq_getElem hjl] at h1
          exact h1
        rw [if_pos h1']
    · obtain ⟨h1, h2⟩ := upN_rank hr hm n (by omega) i (by omega)
      have hle := hr i n (by omega) hnl (by omega)
      have hs := shr_mono hle k
      rw [← en i (by omega), ← en n hnl] at hs
      exact ⟨by rw [getD_setB hp, if_neg (by omega)]; exact h1, by rw [rk_set (by omega)]; exact h2⟩
/-- Upper and low part together. -/
theorem join_parts (x k : Nat) : x >>> k * 2 ^ k ||| x % 2 ^ k = x := by
  rw [Nat.shiftRight_eq_div_pow, Nat.mul_comm, ← Nat.two_pow_add_eq_or_of_lt (Nat.mod_lt _ (Nat.pow_pos (by decide))), Nat.div_add_mod]
end Go.Ev
