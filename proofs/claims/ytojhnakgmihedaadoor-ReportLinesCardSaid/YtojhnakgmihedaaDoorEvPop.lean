import Derived.Test.YtojhnakgmihedaaDoorEvBits
import Derived.Lib.TrailingZeros
/-! How many bits a word has; the place of the lowest. -/
namespace Go.Ev
/-- The sum of the n lowest digits. -/
def digs (b : Nat) : Nat → Nat → Nat
  | 0, _ => 0
  | n + 1, x => x % b + digs b n (x / b)
def pop (x : Nat) : Nat := digs 2 64 x
theorem and_cons {k a d m : Nat} (hd : d < 2 ^ k) : a &&& (d + 2 ^ k * m) = (a % 2 ^ k &&& d) + 2 ^ k * (a / 2 ^ k &&& m) := by
  have h1 := Nat.mod_add_div (a &&& (d + 2 ^ k * m)) (2 ^ k)
  rw [Nat.and_mod_two_pow, Nat.and_div_two_pow, Nat.add_mul_mod_self_left, Nat.mod_eq_of_lt hd, Nat.add_mul_div_left _ _ (Nat.pow_pos (by decide)), Nat.div_eq_of_lt hd, Nat.zero_add] at h1
  exact h1.symm
/-- Masks: d in each of n digits of k bits. -/
def mask (k d : Nat) : Nat → Nat
  | 0 => 0
  | n + 1 => d + 2 ^ k * mask k d n
theorem mask_succ (k d n : Nat) : mask k d (n + 1) = d + 2 ^ k * mask k d n := rfl
theorem mask_1 : mask 2 1 32 = 6148914691236517205 := by decide +kernel
theorem mask_2 : mask 4 3 16 = 3689348814741910323 := by decide +kernel
theorem mask_3 : mask 8 15 8 = 1085102592571150095 := by decide +kernel
def f1 (n x : Nat) : Nat := (x / 2 &&& mask 2 1 n) + (x &&& mask 2 1 n)
def f2 (n x : Nat) : Nat := (x / 4 &&& mask 4 3 n) + (x &&& mask 4 3 n)
def f3 (n x : Nat) : Nat := (x / 16 + x) &&& mask 8 15 n
theorem and_one (a : Nat) : a % 2 ^ 2 &&& 1 = a % 2 := by rw [Nat.and_one_is_mod]; omega
theorem and_three (a : Nat) : a % 2 ^ 4 &&& 3 = a % 4 := by rw [show 3 = 2 ^ 2 - 1 from rfl, Nat.and_two_pow_sub_one_eq_mod]; omega
theorem and_fifteen (a : Nat) : a % 2 ^ 8 &&& 15 = a % 16 := by rw [show 15 = 2 ^ 4 - 1 from rfl, Nat.and_two_pow_sub_one_eq_mod]; omega
theorem f1_succ (n x : Nat) : f1 (n + 1) x = (x % 2 + x / 2 % 2) + 4 * f1 n (x / 4) := by
  unfold f1
  rw [mask_succ, and_cons (by decide), and_cons (by decide), and_one, and_one, show x / 2 / 2 ^ 2 = x / 4 / 2 by omega]
  have : (2 : Nat) ^ 2 = 4 := rfl
  rw [this]
  omega
theorem f2_succ (n x : Nat) : f2 (n + 1) x = (x % 4 + x / 4 % 4) + 16 * f2 n (x / 16) := by
  unfold f2
  rw [mask_succ, and_cons (by decide), and_cons (by decide), and_three, and_three, show x / 4 / 2 ^ 4 = x / 16 / 4 by omega]
  have : (2 : Nat) ^ 4 = 16 := rfl
  rw [this]
  omega
theorem digs_f1 : ∀ n x, digs 4 n (f1 n x) = digs 2 (2 * n) x
  | 0, _ => rfl
  | n + 1, x => by
    have e : 2 * (n + 1) = (2 * n + 1) + 1 := by omega
    rw [e]
    unfold digs
    rw [f1_succ, show (x % 2 + x / 2 % 2 + 4 * f1 n (x / 4)) % 4 = x % 2 + x / 2 % 2 by omega, show (x % 2 + x / 2 % 2 + 4 * f1 n (x / 4)) / 4 = f1 n (x / 4) by omega, digs_f1 n (x / 4)]
    conv => rhs; rhs; unfold digs
    rw [show x / 2 / 2 = x / 4 by omega]
    omega
theorem digs_f2 : ∀ n x, digs 16 n (f2 n x) = digs 4 (2 * n) x
  | 0, _ => rfl
  | n + 1, x => by
    have e : 2 * (n + 1) = (2 * n + 1) + 1 := by omega
    rw [e]
    unfold digs
    rw [f2_succ, show (x % 4 + x / 4 % 4 + 16 * f2 n (x / 16)) % 16 = x % 4 + x / 4 % 4 by omega, show (x % 4 + x / 4 % 4 + 16 * f2 n (x / 16)) / 16 = f2 n (x / 16) by omega, digs_f2 n (x / 16)]
    conv => rhs; rhs; unfold digs
    rw [show x / 4 / 4 = x / 16 by omega]
    omega
/-- Digits of 4 bits that are not above 6. -/
def Low : Nat → Nat → Prop
  | 0, x => x = 0
  | n + 1, x => x % 16 ≤ 6 ∧ Low n (x / 16)
theorem low_f2 : ∀ n x, Low n (f2 n x)
  | 0, _ => by simp [Low, f2, mask]
  | n + 1, x => by
    unfold Low
    rw [f2_succ, show (x % 4 + x / 4 % 4 + 16 * f2 n (x / 16)) % 16 = x % 4 + x / 4 % 4 by omega, show (x % 4 + x / 4 % 4 + 16 * f2 n (x / 16)) / 16 = f2 n (x / 16) by omega]
    exact ⟨by omega, low_f2 n _⟩
theorem low_dig {n x : Nat} (h : Low n x) : x % 16 ≤ 6 := by
  cases n with
  | zero => simp only [Low] at h; omega
  | succ n => exact h.1
theorem f3_succ {n z : Nat} (h : Low (2 * (n + 1)) z) : f3 (n + 1) z = (z % 16 + z / 16 % 16) + 256 * f3 n (z / 256) ∧ Low (2 * n) (z / 256) ∧ z % 16 + z / 16 % 16 ≤ 12 := by
  have e : 2 * (n + 1) = (2 * n + 1) + 1 := by omega
  rw [e] at h
  obtain ⟨h0, h1, h2⟩ : z % 16 ≤ 6 ∧ z / 16 % 16 ≤ 6 ∧ Low (2 * n) (z / 16 / 16) := h
  have h3 := low_dig h2
  have h4 : z / 16 / 16 = z / 256 := by omega
  rw [h4] at h2 h3
  refine ⟨?_, h2, by omega⟩
  unfold f3
  rw [mask_succ, and_cons (by decide), and_fifteen]
  have : (2 : Nat) ^ 8 = 256 := rfl
  rw [this, show (z / 16 + z) / 256 = z / 256 / 16 + z / 256 by omega]
  omega
theorem digs_f3 : ∀ n z, Low (2 * n) z → digs 256 n (f3 n z) = digs 16 (2 * n) z
  | 0, _, _ => rfl
  | n + 1, z, h => by
    obtain ⟨e1, h2, h12⟩ := f3_succ h
    have e : 2 * (n + 1) = (2 * n + 1) + 1 := by omega
    rw [e]
    unfold digs
    rw [e1, show (z % 16 + z / 16 % 16 + 256 * f3 n (z / 256)) % 256 = z % 16 + z / 16 % 16 by omega, show (z % 16 + z / 16 % 16 + 256 * f3 n (z / 256)) / 256 = f3 n (z / 256) by omega, digs_f3 n _ h2]
    conv => rhs; rhs; unfold digs
    rw [show z / 16 / 16 = z / 256 by omega]
    omega
def Low8 : Nat → Nat → Prop
  | 0, x => x = 0
  | n + 1, x => x % 256 ≤ 12 ∧ Low8 n (x / 256)
theorem low_f3 : ∀ n z, Low (2 * n) z → Low8 n (f3 n z)
  | 0, z, h => by simp [Low8, f3, mask]
  | n + 1, z, h => by
    obtain ⟨e1, h2, h12⟩ := f3_succ h
    unfold Low8
    rw [e1, show (z % 16 + z / 16 % 16 + 256 * f3 n (z / 256)) % 256 = z % 16 + z / 16 % 16 by omega, show (z % 16 + z / 16 % 16 + 256 * f3 n (z / 256)) / 256 = f3 n (z / 256) by omega]
    exact ⟨h12, low_f3 n _ h2⟩
theorem low8_split {n w : Nat} (h : Low8 (n + 1) w) : ∃ c w', c ≤ 12 ∧ Low8 n w' ∧ w = c + 256 * w' ∧ digs 256 (n + 1) w = c + digs 256 n w' :=
  ⟨w % 256, w / 256, h.1, h.2, by omega, rfl⟩
/-- The bytes' sum, by three shifts. -/
theorem sum8 {w : Nat} (h : Low8 8 w) : w < 2 ^ 60 ∧ w + w / 256 < 2 ^ 61 ∧ (w + w / 256) + (w + w / 256) / 65536 < 2 ^ 62 ∧
    ((w + w / 256) + (w + w / 256) / 65536) + ((w + w / 256) + (w + w / 256) / 65536) / 4294967296 < 2 ^ 63 ∧
    (((w + w / 256) + (w + w / 256) / 65536) + ((w + w / 256) + (w + w / 256) / 65536) / 4294967296) % 128 = digs 256 8 w := by
  obtain ⟨c0, w1, b0, h, e0, d0⟩ := low8_split h
  obtain ⟨c1, w2, b1, h, e1, d1⟩ := low8_split h
  obtain ⟨c2, w3, b2, h, e2, d2⟩ := low8_split h
  obtain ⟨c3, w4, b3, h, e3, d3⟩ := low8_split h
  obtain ⟨c4, w5, b4, h, e4, d4⟩ := low8_split h
  obtain ⟨c5, w6, b5, h, e5, d5⟩ := low8_split h
  obtain ⟨c6, w7, b6, h, e6, d6⟩ := low8_split h
  obtain ⟨c7, w8, b7, h, e7, d7⟩ := low8_split h
  have h : w8 = 0 := h
  subst h
  have d8 : digs 256 8 w = c0 + c1 + c2 + c3 + c4 + c5 + c6 + c7 := by
    rw [d0, d1, d2, d3, d4, d5, d6, d7]
    simp only [digs]
    omega
  rw [d8]
  clear d0 d1 d2 d3 d4 d5 d6 d7 d8
  have q1 : w / 256 = w1 := by omega
  rw [q1]
  have q2 : (w + w1) / 65536 = w2 + w3 := by omega
  rw [q2]
  have t7 : w7 ≤ 12 := by omega
  have t6 : w6 ≤ 3084 := by omega
  have t5 : w5 ≤ 789516 := by omega
  have t4 : w4 ≤ 202116108 := by omega
  have q3 : (w + w1 + (w2 + w3)) / 4294967296 = w4 + w5 + w6 + w7 := by
    have k3 : w3 = c3 + 256 * w4 := e3
    have k2 : w2 = c2 + 256 * c3 + 65536 * w4 := by omega
    have k1 : w1 = c1 + 256 * c2 + 65536 * c3 + 16777216 * w4 := by omega
    have k0 : w = c0 + 256 * c1 + 65536 * c2 + 16777216 * c3 + 4294967296 * w4 := by omega
    have j1 : w1 = c1 + 256 * c2 + 65536 * c3 + 16777216 * c4 + 4294967296 * w5 := by omega
    have j2 : w2 = c2 + 256 * c3 + 65536 * c4 + 16777216 * c5 + 4294967296 * w6 := by omega
    have j3 : w3 = c3 + 256 * c4 + 65536 * c5 + 16777216 * c6 + 4294967296 * w7 := by omega
    rw [k0, j1, j2, j3]
    clear k0 k1 k2 k3 j1 j2 j3 q1 q2 e0 e1 e2 e3 e4 e5 e6 e7 t4 t5 t6 t7
    generalize hL : c0 + 256 * c1 + 65536 * c2 + 16777216 * c3 + (c1 + 256 * c2 + 65536 * c3 + 16777216 * c4) + (c2 + 256 * c3 + 65536 * c4 + 16777216 * c5 + (c3 + 256 * c4 + 65536 * c5 + 16777216 * c6)) = L
    have hLb : L < 4294967296 := by omega
    have : c0 + 256 * c1 + 65536 * c2 + 16777216 * c3 + 4294967296 * w4 + (c1 + 256 * c2 + 65536 * c3 + 16777216 * c4 + 4294967296 * w5) + (c2 + 256 * c3 + 65536 * c4 + 16777216 * c5 + 4294967296 * w6 + (c3 + 256 * c4 + 65536 * c5 + 16777216 * c6 + 4294967296 * w7)) = L + 4294967296 * (w4 + w5 + w6 + w7) := by omega
    rw [this, Nat.add_mul_div_left _ _ (by decide), Nat.div_eq_of_lt hLb, Nat.zero_add]
  rw [q3]
  clear q1 q2 q3
  refine ⟨by omega, by omega, by omega, by omega, ?_⟩
  generalize hS : w + w1 + (w2 + w3) + (w4 + w5 + w6 + w7) = S
  have : S = (c0 + c1 + c2 + c3 + c4 + c5 + c6 + c7) + 256 * (w1 + w2 + w3 + w4 + w5 + w6 + w7) := by omega
  clear hS e0 e1 e2 e3 e4 e5 e6 e7 t4 t5 t6 t7
  generalize w1 + w2 + w3 + w4 + w5 + w6 + w7 = T at this
  omega
theorem swar {x : Nat} : digs 256 8 (f3 8 (f2 16 (f1 32 x))) = pop x := by
  rw [digs_f3 8 _ (low_f2 16 _), digs_f2 16, digs_f1 32]
  rfl
theorem pop_le (x : Nat) : pop x ≤ 64 := by
  unfold pop
  have : ∀ n y, digs 2 n y ≤ n := by
    intro n
    induction n with
    | zero => intro y; exact Nat.le_refl _
    | succ n ih =>
      intro y
      unfold digs
      have := ih (y / 2)
      omega
  exact this 64 x
/-- The number of a row of bits. -/
def valL : List Bool → Nat
  | [] => 0
  | b :: l => b.toNat + 2 * valL l
theorem valL_lt : ∀ l : List Bool, valL l < 2 ^ l.length
  | [] => by simp [valL]
  | b :: l => by
    have := valL_lt l
    have := Bool.toNat_lt b
    simp only [valL, List.length_cons, Nat.pow_succ]
    omega
theorem digs_valL : ∀ (n : Nat) (l : List Bool), l.length ≤ n → digs 2 n (valL l) = l.count true
  | 0, [], _ => rfl
  | 0, _ :: _, h => by simp at h
  | n + 1, [], _ => by
    have := digs_valL n [] (by simp)
    simp only [digs, valL] at this ⊢
    simpa using this
  | n + 1, b :: l, h => by
    have := digs_valL n l (by simp at h; omega)
    have hb := Bool.toNat_lt b
    simp only [digs, valL]
    rw [show (b.toNat + 2 * valL l) % 2 = b.toNat by omega, show (b.toNat + 2 * valL l) / 2 = valL l by omega, this, List.count_cons]
    cases b <;> simp
    omega
theorem pop_valL {l : List Bool} (h : l.length ≤ 64) : pop (valL l) = l.count true := digs_valL 64 l h
theorem valL_append : ∀ (l r : List Bool), valL (l ++ r) = valL l + 2 ^ l.length * valL r
  | [], r => by simp [valL]
  | b :: l, r => by
    simp only [List.cons_append, valL, List.length_cons, Nat.pow_succ, valL_append l r]
    rw [Nat.mul_add, Nat.mul_comm (2 ^ l.length) 2, Nat.mul_assoc]
    omega
theorem valL_take (l : List Bool) (r : Nat) : valL l % 2 ^ r = valL (l.take r) := by
  rcases Nat.le_total l.length r with h | h
  · rw [List.take_of_length_le h, Nat.mod_eq_of_lt (Nat.lt_of_lt_of_le (valL_lt l) (Nat.pow_le_pow_right (by decide) h))]
  · conv => lhs; rw [← List.take_append_drop r l]
    have hlen : (l.take r).length = r := by simp; omega
    rw [valL_append, hlen, Nat.add_mul_mod_self_left, Nat.mod_eq_of_lt]
    have := valL_lt (l.take r)
    rwa [hlen] at this
theorem valL_testBit : ∀ (l : List Bool) (i : Nat), (valL l).testBit i = l.getD i false
  | [], i => by simp [valL]
  | b :: l, 0 => by
    have := Bool.toNat_lt b
    simp only [valL, Nat.testBit_zero, List.getD_cons_zero]
    rw [show (b.toNat + 2 * valL l) % 2 = b.toNat by omega]
    cases b <;> simp
  | b :: l, i + 1 => by
    have := Bool.toNat_lt b
    rw [Nat.testBit_succ, valL, show (b.toNat + 2 * valL l) / 2 = valL l by omega, valL_testBit l i]
    simp
theorem valL_snoc (l : List Bool) : valL (l ++ [true]) = valL l ||| 2 ^ l.length ∧ valL (l ++ [false]) = valL l := by
  constructor
  · have := Nat.two_pow_add_eq_or_of_lt (valL_lt l) 1
    rw [Nat.mul_one] at this
    rw [valL_append, Nat.or_comm, ← this]
    simp [valL]
    omega
  · rw [valL_append]
    simp [valL]
theorem valL_not {l : List Bool} (h : l.length = 64) : 2 ^ 64 - 1 - valL l = valL (l.map not) := by
  have : ∀ l : List Bool, valL l + valL (l.map not) + 1 = 2 ^ l.length := by
    intro l
    induction l with
    | nil => rfl
    | cons b l ih =>
      simp only [List.map_cons, valL, List.length_cons, Nat.pow_succ]
      cases b <;> simp <;> omega
  have := this l
  rw [h] at this
  omega
/-- The first 1 is taken away. -/
def clr : List Bool → List Bool
  | [] => []
  | true :: l => false :: l
  | false :: l => false :: clr l
theorem clr_len : ∀ l : List Bool, (clr l).length = l.length
  | [] => rfl
  | true :: l => rfl
  | false :: l => by simp [clr, clr_len l]
theorem valL_clr : ∀ {l : List Bool}, true ∈ l → valL l &&& (valL l - 1) = valL (clr l)
  | [], h => by simp at h
  | true :: l, _ => by
    show (1 + 2 * valL l) &&& (1 + 2 * valL l - 1) = 0 + 2 * valL l
    apply Nat.eq_of_testBit_eq
    intro i
    rw [Nat.testBit_and]
    cases i with
    | zero => simp [Nat.testBit_zero]
    | succ i =>
      rw [Nat.testBit_succ, Nat.testBit_succ, Nat.testBit_succ, show (1 + 2 * valL l) / 2 = valL l by omega, show (1 + 2 * valL l - 1) / 2 = valL l by omega, show (0 + 2 * valL l) / 2 = valL l by omega, Bool.and_self]
  | false :: l, h => by
    have hm : true ∈ l := by simpa using h
    have hpos : 0 < valL l := by
      rcases Nat.eq_zero_or_pos (valL l) with h0 | h0
      · obtain ⟨i, hi, he⟩ := List.getElem_of_mem hm
        have := valL_testBit l i
        rw [h0, List.getD_eq_getElem?_getD, List.getElem?_eq_getElem hi, he] at this
        simp at this
      · exact h0
    show (0 + 2 * valL l) &&& (0 + 2 * valL l - 1) = 0 + 2 * valL (clr l)
    rw [← valL_clr hm]
    apply Nat.eq_of_testBit_eq
    intro i
    rw [Nat.testBit_and]
    cases i with
    | zero =>
      rw [Nat.testBit_zero, Nat.testBit_zero, Nat.testBit_zero, show (0 + 2 * valL l) % 2 = 0 by omega, show (0 + 2 * (valL l &&& (valL l - 1))) % 2 = 0 by omega]
      simp
    | succ i =>
      rw [Nat.testBit_succ, Nat.testBit_succ, Nat.testBit_succ, show (0 + 2 * valL l) / 2 = valL l by omega, show (0 + 2 * valL l - 1) / 2 = valL l - 1 by omega, show (0 + 2 * (valL l &&& (valL l - 1))) / 2 = valL l &&& (valL l - 1) by omega, Nat.testBit_and]
/-- Where the t-th 1 stands. -/
def nth : List Bool → Nat → Nat
  | [], _ => 0
  | true :: l, 0 => 0
  | true :: l, t + 1 => 1 + nth l t
  | false :: l, t => 1 + nth l t
theorem nth_clr : ∀ (l : List Bool) (t : Nat), t + 1 < l.count true → nth (clr l) t = nth l (t + 1)
  | [], _, h => by simp at h
  | true :: l, t, _ => by simp [clr, nth]
  | false :: l, t, h => by
    simp only [clr, nth]
    rw [nth_clr l t (by simpa using h)]
theorem count_clr : ∀ (l : List Bool), (clr l).count true = l.count true - 1
  | [] => rfl
  | true :: l => by simp [clr]
  | false :: l => by simp [clr, count_clr l]
theorem nth_spec : ∀ (l : List Bool) (t : Nat), t < l.count true → ∃ h : nth l t < l.length, l[nth l t] = true ∧ (l.take (nth l t)).count true = t
  | [], _, h => by simp at h
  | true :: l, 0, _ => ⟨by simp [nth], by simp [nth], by simp [nth]⟩
  | true :: l, t + 1, h => by
    obtain ⟨h1, h2, h3⟩ := nth_spec l t (by simpa using h)
    refine ⟨by simp [nth]; omega, ?_, ?_⟩
    · simp only [nth, Nat.add_comm 1, List.getElem_cons_succ]; exact h2
    · simp only [nth, Nat.add_comm 1, List.take_succ_cons, List.count_cons_self, h3]
  | false :: l, t, h => by
    obtain ⟨h1, h2, h3⟩ := nth_spec l t (by simpa using h)
    refine ⟨by simp [nth]; omega, ?_, ?_⟩
    · simp only [nth, Nat.add_comm 1, List.getElem_cons_succ]; exact h2
    · simp only [nth, Nat.add_comm 1, List.take_succ_cons]
      rw [List.count_cons_of_ne (by decide), h3]
/-- The lowest 1, by how often 2 divides. -/
theorem ctz_valL : ∀ (f : Nat) (l : List Bool), true ∈ l → l.length ≤ f → Go.Lib.ctzFrom f (valL l) = nth l 0
  | 0, l, h, hf => by
    have : l = [] := List.eq_nil_of_length_eq_zero (by omega)
    subst this
    simp at h
  | f + 1, [], h, _ => by simp at h
  | f + 1, true :: l, _, _ => by
    have hv : valL (true :: l) = 1 + 2 * valL l := rfl
    unfold Go.Lib.ctzFrom
    rw [hv, if_pos (by omega)]
    rfl
  | f + 1, false :: l, h, hf => by
    have hv : valL (false :: l) = 0 + 2 * valL l := rfl
    unfold Go.Lib.ctzFrom
    rw [hv, if_neg (by omega), show (0 + 2 * valL l) / 2 = valL l by omega, show nth (false :: l) 0 = 1 + nth l 0 from rfl, ctz_valL f l (by simpa using h) (by simp at hf; omega)]
end Go.Ev
