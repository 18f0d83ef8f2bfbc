import Derived.Test.YtmijfoikdjcmlaaDoorParen5
/-! Balanced parentheses: rows that are made, sums of spans, parts of a row. -/
namespace Go.Ev
/-- How many below a number. -/
def cnt (q : Nat → Bool) : Nat → Nat
  | 0 => 0
  | n + 1 => cnt q n + (if q n = true then 1 else 0)
def sumN (f : Nat → Nat) : Nat → Nat
  | 0 => 0
  | n + 1 => sumN f n + f n
theorem cnt_congr {q r : Nat → Bool} : ∀ {n : Nat}, (∀ j, j < n → q j = r j) → cnt q n = cnt r n
  | 0, _ => rfl
  | n + 1, h => by rw [cnt, cnt, cnt_congr fun j hj => h j (by omega), h n (by omega)]
theorem sumN_congr {f g : Nat → Nat} : ∀ {n : Nat}, (∀ j, j < n → f j = g j) → sumN f n = sumN g n
  | 0, _ => rfl
  | n + 1, h => by rw [sumN, sumN, sumN_congr fun j hj => h j (by omega), h n (by omega)]
theorem sumN_add (f g : Nat → Nat) : ∀ n, sumN (fun j => f j + g j) n = sumN f n + sumN g n
  | 0 => rfl
  | n + 1 => by rw [sumN, sumN, sumN, sumN_add f g n]; omega
theorem sumN_zero : ∀ n, sumN (fun _ => 0) n = 0
  | 0 => rfl
  | n + 1 => by rw [sumN, sumN_zero n]
theorem sumN_ite (q : Nat → Bool) : ∀ n, sumN (fun j => if q j = true then 1 else 0) n = cnt q n
  | 0 => rfl
  | n + 1 => by rw [sumN, cnt, sumN_ite q n]
/-- By rows or by columns: the same. -/
theorem cnt_swap (f : Nat → Nat → Bool) (n : Nat) : ∀ k, sumN (fun a => cnt (fun b => f a b) n) k = sumN (fun b => cnt (fun a => f a b) k) n
  | 0 => by rw [sumN]; exact (sumN_zero n).symm
  | k + 1 => by
    rw [sumN, cnt_swap f n k, ← sumN_ite (fun b => f k b) n, ← sumN_add]
    rfl
theorem cnt_none {q : Nat → Bool} : ∀ {n : Nat}, (∀ j, j < n → q j = false) → cnt q n = 0
  | 0, _ => rfl
  | n + 1, h => by rw [cnt, cnt_none fun j hj => h j (by omega), h n (by omega)]; rfl
theorem cnt_one {q : Nat → Bool} {x : Nat} : ∀ {n : Nat}, x < n → q x = true → (∀ j, j < n → q j = true → j = x) → cnt q n = 1
  | 0, h, _, _ => absurd h (Nat.not_lt_zero x)
  | n + 1, h, hx, hu => by
    rw [cnt]
    rcases Nat.eq_or_lt_of_le (show x ≤ n by omega) with e | e
    · subst e
      rw [if_pos hx, cnt_none]
      intro j hj
      cases hq : q j with
      | false => rfl
      | true => have := hu j (by omega) hq; omega
    · rw [cnt_one e hx fun j hj => hu j (by omega), if_neg]
      intro hq
      have := hu n (by omega) hq
      omega
theorem cnt_split (q r : Nat → Bool) : ∀ n, cnt q n = cnt (fun j => q j && r j) n + cnt (fun j => q j && !r j) n
  | 0 => rfl
  | n + 1 => by
    rw [cnt, cnt, cnt, cnt_split q r n]
    cases q n <;> cases r n <;> simp <;> omega
theorem cnt_mono (q : Nat → Bool) {a b : Nat} (h : a ≤ b) : cnt q a ≤ cnt q b := by
  induction b with
  | zero => rw [show a = 0 by omega]; exact Nat.le_refl _
  | succ b ih =>
    rcases Nat.eq_or_lt_of_le h with e | e
    · subst e; exact Nat.le_refl _
    · have := ih (by omega)
      rw [cnt]
      omega
theorem cnt_range (q : Nat → Bool) {a b : Nat} (hab : a ≤ b) : ∀ n, cnt (fun j => q j && (decide (a ≤ j) && decide (j < b))) n + cnt q (min n a) = cnt q (min n b)
  | 0 => by simp [cnt]
  | n + 1 => by
    have ih := cnt_range q hab n
    rw [cnt]
    rcases Nat.lt_or_ge n a with h | h
    · rw [show min (n + 1) a = n + 1 by omega, show min (n + 1) b = n + 1 by omega]
      rw [show min n a = n by omega, show min n b = n by omega] at ih
      have e : decide (a ≤ n) = false := decide_eq_false (by omega)
      simp only [e, Bool.false_and, Bool.and_false, Bool.false_eq_true, if_false]
      rw [cnt]
      omega
    · rw [show min (n + 1) a = a by omega]
      rw [show min n a = a by omega] at ih
      rcases Nat.lt_or_ge n b with h' | h'
      · rw [show min (n + 1) b = n + 1 by omega]
        rw [show min n b = n by omega] at ih
        have e : decide (a ≤ n) = true := decide_eq_true h
        have e' : decide (n < b) = true := decide_eq_true h'
        simp only [e, e', Bool.and_true]
        rw [cnt]
        omega
      · rw [show min (n + 1) b = b by omega]
        rw [show min n b = b by omega] at ih
        have e' : decide (n < b) = false := decide_eq_false (by omega)
        simp only [e', Bool.and_false, Bool.false_eq_true, if_false]
        omega
/-- All from a place on are higher than it. -/
def hiB (m : List Bool) (k : Nat) : Nat → Bool
  | 0 => true
  | p + 1 => hiB m k p && (decide (p + 1 ≤ k) || decide (exc m k < exc m (p + 1)))
theorem hiB_iff (m : List Bool) (k : Nat) : ∀ p, hiB m k p = true ↔ ∀ y, k < y → y ≤ p → exc m k < exc m y
  | 0 => ⟨fun _ y h1 h2 => by omega, fun _ => rfl⟩
  | p + 1 => by
    rw [hiB, Bool.and_eq_true, hiB_iff m k p, Bool.or_eq_true, decide_eq_true_eq, decide_eq_true_eq]
    constructor
    · rintro ⟨h1, h2⟩ y a b
      rcases Nat.eq_or_lt_of_le b with e | e
      · subst e
        rcases h2 with h2 | h2
        · omega
        · exact h2
      · exact h1 y a (by omega)
    · intro h
      refine ⟨fun y a b => h y a (by omega), ?_⟩
      rcases Nat.lt_or_ge k (p + 1) with e | e
      · exact .inr (h (p + 1) e (Nat.le_refl _))
      · exact .inl e
def opB (m : List Bool) (k : Nat) : Bool := (m[k]?).getD false
theorem opB_in {m : List Bool} {k : Nat} (h : k < m.length) : opB m k = m[k] := by unfold opB; rw [List.getElem?_eq_getElem h]; rfl
theorem rk_cnt (m : List Bool) : ∀ {n : Nat}, n ≤ m.length → rk m n true = cnt (opB m) n
  | 0, _ => by unfold rk; simp [cnt]
  | n + 1, h => by rw [rk_succ (by omega), rk_cnt m (by omega), cnt, opB_in (by omega)]
/-- Those that are open at a place are as many as its excess. -/
theorem open_cnt {m : List Bool} (hb : ∀ k, k ≤ m.length → 0 ≤ exc m k) : ∀ {p : Nat}, p ≤ m.length → (cnt (fun k => opB m k && hiB m k p) p : Int) = exc m p
  | 0, _ => by rw [exc_zero]; rfl
  | p + 1, h => by
    have ih := open_cnt hb (p := p) (by omega)
    have hp : p < m.length := by omega
    rw [cnt, opB_in hp]
    cases ho : m[p] with
    | true =>
      have hup := of_up hp ho
      have e1 : cnt (fun k => opB m k && hiB m k (p + 1)) p = cnt (fun k => opB m k && hiB m k p) p := by
        apply cnt_congr
        intro j hj
        rw [Bool.eq_iff_iff, Bool.and_eq_true, Bool.and_eq_true, hiB_iff, hiB_iff]
        constructor
        · exact fun h => ⟨h.1, fun y a b => h.2 y a (by omega)⟩
        · refine fun h => ⟨h.1, fun y a b => ?_⟩
          rcases Nat.eq_or_lt_of_le b with e | e
          · subst e
            have := h.2 p hj (Nat.le_refl _)
            omega
          · exact h.2 y a (by omega)
      have e2 : hiB m p (p + 1) = true := by
        rw [hiB_iff]
        intro y a b
        obtain rfl : y = p + 1 := by omega
        omega
      rw [e1, e2]
      simp only [Bool.and_self, if_true]
      omega
    | false =>
      have hdn := of_down hp ho
      have h0 := hb (p + 1) h
      obtain ⟨x, hx1, hx2, hx3⟩ := up_ex (m := m) (k := p) (by omega) 1 (by omega)
      have hxp : x < p := by
        rcases Nat.eq_or_lt_of_le hx1 with e | e
        · subst e; omega
        · exact e
      have e0 := cnt_split (fun k => opB m k && hiB m k p) (fun k => decide (exc m k < exc m (p + 1))) p
      have e1 : cnt (fun k => opB m k && hiB m k (p + 1)) p = cnt (fun k => (opB m k && hiB m k p) && decide (exc m k < exc m (p + 1))) p := by
        apply cnt_congr
        intro j hj
        rw [hiB, Bool.and_assoc]
        have : decide (p + 1 ≤ j) = false := decide_eq_false (by omega)
        rw [this, Bool.false_or]
      have e2 : cnt (fun k => (opB m k && hiB m k p) && !decide (exc m k < exc m (p + 1))) p = 1 := by
        refine cnt_one (x := x) hxp ?_ ?_
        · have hxo : opB m x = true := by
            rw [opB_in (by omega)]
            exact up_of (by omega) (hx3 (x + 1) (by omega) (by omega))
          have hxh : hiB m x p = true := (hiB_iff m x p).2 hx3
          rw [hxo, hxh]
          simp
          omega
        · intro j hj hq
          simp only [Bool.and_eq_true, Bool.not_eq_true', decide_eq_false_iff_not] at hq
          have h3 := (hiB_iff m j p).1 hq.1.2
          have h4 := h3 p hj (Nat.le_refl _)
          exact IsUp.uniq (n := 1) ⟨by omega, by omega, h3⟩ ⟨hx1, hx2, hx3⟩
      simp only [Bool.false_and, Bool.false_eq_true, if_false]
      omega
/-- A pair that opens, and one that opens within it. -/
def inB (m : List Bool) (k j : Nat) : Bool := opB m k && (opB m j && (decide (k ≤ j) && hiB m k (j + 1)))
theorem row_sum {m : List Bool} {k c : Nat} (h : IsPair m k c) : cnt (fun j => inB m k j) m.length = (c - k + 1) / 2 := by
  have hl := h.lt
  obtain ⟨hk, ho⟩ := h.opens
  obtain ⟨hc, hcl⟩ := h.closes
  obtain ⟨_, _, h3, h4⟩ := h
  have e : cnt (fun j => inB m k j) m.length = cnt (fun j => opB m j && (decide (k ≤ j) && decide (j < c + 1))) m.length := by
    apply cnt_congr
    intro j hj
    unfold inB
    rw [opB_in hk, ho, Bool.true_and, Bool.eq_iff_iff]
    simp only [Bool.and_eq_true, decide_eq_true_eq, hiB_iff]
    constructor
    · rintro ⟨a, b, d⟩
      refine ⟨a, b, ?_⟩
      rcases Nat.lt_or_ge j (c + 1) with e | e
      · exact e
      · have := d (c + 1) (by omega) (by omega)
        omega
    · rintro ⟨a, b, d⟩
      refine ⟨a, b, fun y e1 e2 => h4 y e1 ?_⟩
      rcases Nat.eq_or_lt_of_le (show j ≤ c by omega) with e | e
      · subst e
        rw [opB_in hc, hcl] at a
        cases a
      · omega
  have hr := cnt_range (opB m) (a := k) (b := c + 1) (by omega) m.length
  rw [show min m.length k = k by omega, show min m.length (c + 1) = c + 1 by omega, ← rk_cnt m (by omega), ← rk_cnt m (by omega)] at hr
  rw [e]
  unfold exc at h3
  omega
theorem col_sum {m : List Bool} (hb : Bal m) {j : Nat} (hj : j < m.length) (ho : m[j] = true) : (cnt (fun k => inB m k j) m.length : Int) = exc m (j + 1) := by
  rw [← open_cnt hb.1 (p := j + 1) (by omega)]
  have hr := cnt_range (fun k => opB m k && hiB m k (j + 1)) (a := 0) (b := j + 1) (Nat.zero_le _) m.length
  rw [show min m.length 0 = 0 by omega, show min m.length (j + 1) = j + 1 by omega] at hr
  have e : cnt (fun k => inB m k j) m.length = cnt (fun k => (opB m k && hiB m k (j + 1)) && (decide (0 ≤ k) && decide (k < j + 1))) m.length := by
    apply cnt_congr
    intro k hk
    unfold inB
    rw [opB_in hj, ho, Bool.true_and, Bool.eq_iff_iff]
    simp only [Bool.and_eq_true, decide_eq_true_eq]
    constructor
    · rintro ⟨a, b, d⟩
      exact ⟨⟨a, d⟩, by omega, by omega⟩
    · rintro ⟨⟨a, d⟩, _, b⟩
      exact ⟨a, by omega, d⟩
  have h0 : cnt (fun k => opB m k && hiB m k (j + 1)) 0 = 0 := rfl
  rw [e]
  omega
theorem row_none {m : List Bool} {k : Nat} (hk : k < m.length) (ho : m[k] = false) : cnt (fun j => inB m k j) m.length = 0 := by
  apply cnt_none
  intro j _
  unfold inB
  rw [opB_in hk, ho, Bool.false_and]
theorem col_none {m : List Bool} {j : Nat} (hj : j < m.length) (ho : m[j] = false) : cnt (fun k => inB m k j) m.length = 0 := by
  apply cnt_none
  intro k _
  unfold inB
  rw [opB_in hj, ho, Bool.false_and, Bool.and_false]
/-- Spans of all together are all their excesses. -/
theorem spans_eq (m : List Bool) : sumN (fun k => cnt (fun j => inB m k j) m.length) m.length = sumN (fun j => cnt (fun k => inB m k j) m.length) m.length := cnt_swap _ _ _
theorem cnt_le (q : Nat → Bool) : ∀ n, cnt q n ≤ n
  | 0 => Nat.le_refl _
  | n + 1 => by
    have := cnt_le q n
    rw [cnt]
    split <;> omega
theorem sumN_le {f : Nat → Nat} {b : Nat} (h : ∀ j, f j ≤ b) : ∀ n, sumN f n ≤ n * b
  | 0 => by simp [sumN]
  | n + 1 => by
    have h1 := sumN_le h n
    have h2 := h n
    rw [sumN, Nat.succ_mul]
    omega
/-! ### A part of a row -/
theorem exc_part {m : List Bool} {lo n : Nat} : ∀ {j : Nat}, j ≤ n → lo + n ≤ m.length → exc ((m.drop lo).take n) j = exc m (lo + j) - exc m lo
  | 0, _, _ => by rw [exc_zero, Nat.add_zero]; omega
  | j + 1, hj, hn => by
    have hlen : ((m.drop lo).take n).length = n := by simp; omega
    rw [exc_succ (by omega), exc_part (by omega) hn, show lo + (j + 1) = lo + j + 1 by omega, exc_succ (m := m) (k := lo + j) (by omega)]
    have : ((m.drop lo).take n)[j]'(by omega) = m[lo + j]'(by omega) := by simp
    rw [this]
    omega
theorem between_bal {m : List Bool} {k c : Nat} (h : IsPair m k c) : Bal ((m.drop (k + 1)).take (c - (k + 1))) := by
  have hl := h.lt
  obtain ⟨hk, ho⟩ := h.opens
  obtain ⟨hc, hcl⟩ := h.closes
  have h1 := of_up hk ho
  have h2 := of_down hc hcl
  obtain ⟨_, _, h3, h4⟩ := h
  have hlen : ((m.drop (k + 1)).take (c - (k + 1))).length = c - (k + 1) := by simp; omega
  constructor
  · intro j hj
    rw [hlen] at hj
    rw [exc_part hj (by omega)]
    have := h4 (k + 1 + j) (by omega) (by omega)
    omega
  · rw [hlen, exc_part (Nat.le_refl _) (by omega), show k + 1 + (c - (k + 1)) = c by omega]
    omega
theorem rd_sub {H : Heap} {t : TypeId} {xs : List Value} {p : Option Addr} {l c lo hi : Nat} (h : Sl H t xs p l c) (h1 : lo ≤ hi) (h2 : hi ≤ l) :
    Rd H ((xs.drop lo).take (hi - lo)) (if c = lo then p else p.map fun q : Addr => q.add lo) (hi - lo) := by
  refine ⟨by simp [h.1]; omega, fun i hi' => ?_⟩
  rcases h.2 with ⟨_, hl, _⟩ | ⟨b, cs, rfl, hb, hs, hlc, hc⟩
  · omega
  · rw [if_neg (by omega)]
    refine ⟨_, rfl, ?_⟩
    show hcell H ((Addr.add ⟨b, 0, none⟩ lo).add i) = _
    rw [add_mk, Nat.zero_add, hcell_add hb, hc (lo + i) (by omega)]
    simp [List.getElem?_take, hi']
/-! ### Of one pair around another one -/
theorem around {m : List Bool} {k c u c' : Nat} (h : IsPair m k c) (hu : IsUp m k 1 u) (h' : IsPair m u c') : u < k ∧ c < c' := by
  obtain ⟨hu1, hu2, hu3⟩ := hu
  have hl := h.lt
  obtain ⟨h1, h2, h3, h4⟩ := h
  obtain ⟨h1', h2', h3', h4'⟩ := h'
  have huk : u < k := by
    rcases Nat.eq_or_lt_of_le hu1 with e | e
    · subst e; omega
    · exact e
  refine ⟨huk, ?_⟩
  rcases Nat.lt_or_ge c c' with e | e
  · exact e
  · exfalso
    have : exc m u < exc m (c' + 1) := by
      rcases Nat.lt_or_ge k (c' + 1) with e1 | e1
      · rcases Nat.eq_or_lt_of_le e with e2 | e2
        · subst e2; omega
        · have := h4 (c' + 1) e1 (by omega)
          omega
      · exact hu3 (c' + 1) (by omega) e1
    omega
theorem half_true {m : List Bool} (hb : Bal m) : 2 * m.count true = m.length := by
  have h := hb.2
  unfold exc at h
  rw [rk_all m (Nat.le_refl _)] at h
  omega
/-! ### Deep and wide ones -/
def deepL (a n : Nat) : List Bool := (List.range n).map fun j => decide (j < a)
theorem deep_len (a n : Nat) : (deepL a n).length = n := by simp [deepL]
theorem deep_succ (a n : Nat) : deepL a (n + 1) = deepL a n ++ [decide (n < a)] := by simp [deepL, List.range_succ]
theorem deep_exc (a : Nat) : ∀ {n k : Nat}, k ≤ n → exc (deepL a n) k = if k ≤ a then (k : Int) else 2 * (a : Int) - (k : Int)
  | n, 0, _ => by rw [exc_zero, if_pos (Nat.zero_le _)]; rfl
  | n, k + 1, h => by
    rw [exc_succ (by rw [deep_len]; omega), deep_exc a (by omega)]
    have : (deepL a n)[k]'(by rw [deep_len]; omega) = decide (k < a) := by simp [deepL]
    rw [this]
    simp only [decide_eq_true_eq]
    repeat' split
    all_goals omega
def wideL (n : Nat) : List Bool := (List.range n).map fun j => decide (j = 0 ∨ j % 2 = 1)
theorem wide_len (n : Nat) : (wideL n).length = n := by simp [wideL]
theorem wide_succ (n : Nat) : wideL (n + 1) = wideL n ++ [decide (n = 0 ∨ n % 2 = 1)] := by simp [wideL, List.range_succ]
theorem wide_exc {a : Nat} : ∀ {k : Nat}, k ≤ 2 * a + 2 → exc (wideL (2 * a + 1) ++ [false]) k = if k = 0 then 0 else if k = 2 * a + 2 then 0 else if k % 2 = 1 then 1 else 2
  | 0, _ => by rw [exc_zero, if_pos rfl]
  | k + 1, h => by
    have hlen : (wideL (2 * a + 1) ++ [false]).length = 2 * a + 2 := by simp [wide_len]
    rw [exc_succ (by omega), wide_exc (by omega)]
    rcases Nat.eq_or_lt_of_le (show k ≤ 2 * a + 1 by omega) with e | e
    · subst e
      have : (wideL (2 * a + 1) ++ [false])[2 * a + 1]'(by omega) = false := by
        rw [List.getElem_append_right (by rw [wide_len]; exact Nat.le_refl _)]
        simp
      rw [this, if_neg (show ¬ (2 * a + 1 = 0) by omega), if_neg (show ¬ (2 * a + 1 = 2 * a + 2) by omega), if_pos (show (2 * a + 1) % 2 = 1 by omega), if_neg (show ¬ (2 * a + 1 + 1 = 0) by omega), if_pos (show 2 * a + 1 + 1 = 2 * a + 2 by omega)]
      rfl
    · have : (wideL (2 * a + 1) ++ [false])[k]'(by omega) = decide (k = 0 ∨ k % 2 = 1) := by
        rw [List.getElem_append_left (by rw [wide_len]; omega)]
        simp [wideL]
      rw [this]
      simp only [decide_eq_true_eq]
      repeat' split
      all_goals omega
end Go.Ev
