import Derived.Test.YtojhnakgmihedaaDoorEvBits
/-! Numbers of one width side by side in words. -/
namespace Go.Ev
theorem appended_rd {H : Heap} {xs : List Value} {p : Option Addr} {l c : Nat} (h : Rd H xs p l) : appended H 1 (.slice p l c) l xs := by
  cases p with
  | none =>
    have hl : l = 0 := by
      rcases Nat.eq_zero_or_pos l with h0 | h0
      · exact h0
      · obtain ⟨a, ha, _⟩ := h.2 0 h0
        cases ha
    exact ⟨rfl, hl, List.eq_nil_of_length_eq_zero (by rw [h.1, hl])⟩
  | some a =>
    refine ⟨rfl, by rw [h.1, Nat.mul_one], fun j v hj => ?_⟩
    obtain ⟨a', ha, hc⟩ := h.get hj
    cases ha
    exact hc
/-- A bit of a row of words. -/
def bitW (ws : List Nat) (p : Nat) : Bool := (ws.getD (p / 64) 0).testBit (p % 64)
def All64 (ws : List Nat) : Prop := ∀ x ∈ ws, x < 2 ^ 64
theorem All64.getD {ws : List Nat} (h : All64 ws) (i : Nat) : ws.getD i 0 < 2 ^ 64 := by
  rw [List.getD_eq_getElem?_getD]
  cases e : ws[i]? with
  | none => simp
  | some x => exact h x (List.mem_of_getElem? e)
theorem All64.set {ws : List Nat} (h : All64 ws) (i : Nat) {v : Nat} (hv : v < 2 ^ 64) : All64 (ws.set i v) := by
  intro x hx
  rcases List.mem_or_eq_of_mem_set hx with h' | rfl
  · exact h x h'
  · exact hv
theorem All64.zeros (n : Nat) : All64 (List.replicate n 0) := by
  intro x hx
  rw [List.mem_replicate] at hx
  rw [hx.2]
  decide
theorem getD_setN {ws : List Nat} {i : Nat} (hi : i < ws.length) (v j : Nat) : (ws.set i v).getD j 0 = if j = i then v else ws.getD j 0 := by
  rw [List.getD_eq_getElem?_getD, List.getElem?_set, List.getD_eq_getElem?_getD]
  by_cases h : i = j
  · subst h; simp [hi]
  · rw [if_neg h, if_neg (fun e => h e.symm)]
theorem getD_ltN {ws : List Nat} {i : Nat} (h : i < ws.length) : ws.getD i 0 = ws[i] := by rw [List.getD_eq_getElem?_getD, List.getElem?_eq_getElem h]; rfl
/-- A number laid from a bit on. -/
def orAt (ws : List Nat) (b wd x : Nat) : List Nat :=
  if 64 < b % 64 + wd then (ws.set (b / 64) (ws.getD (b / 64) 0 ||| x <<< (b % 64) % 2 ^ 64)).set (b / 64 + 1) (ws.getD (b / 64 + 1) 0 ||| x >>> (64 - b % 64))
  else ws.set (b / 64) (ws.getD (b / 64) 0 ||| x <<< (b % 64) % 2 ^ 64)
theorem orAt_len (ws : List Nat) (b wd x : Nat) : (orAt ws b wd x).length = ws.length := by unfold orAt; split <;> simp
theorem orAt_all {ws : List Nat} (h : All64 ws) {b wd x : Nat} (hx : x < 2 ^ 64) : All64 (orAt ws b wd x) := by
  have h1 : ws.getD (b / 64) 0 ||| x <<< (b % 64) % 2 ^ 64 < 2 ^ 64 := Nat.or_lt_two_pow (h.getD _) (shl_lt _ _)
  have h2 : ws.getD (b / 64 + 1) 0 ||| x >>> (64 - b % 64) < 2 ^ 64 := Nat.or_lt_two_pow (h.getD _) (shr_lt hx _)
  unfold orAt
  split
  · exact (h.set _ h1).set _ h2
  · exact h.set _ h1
theorem orAt_bit {ws : List Nat} {b wd x : Nat} (hwd : wd ≤ 64) (h0 : 0 < wd) (hx : x < 2 ^ wd) (hl : b + wd ≤ 64 * ws.length) (p : Nat) : bitW (orAt ws b wd x) p = (bitW ws p || (decide (b ≤ p) && x.testBit (p - b))) := by
  have big : ∀ q, wd ≤ q → x.testBit q = false := fun q hq => Nat.testBit_lt_two_pow (Nat.lt_of_lt_of_le hx (Nat.pow_le_pow_right (by decide) hq))
  have hb := Nat.div_add_mod b 64
  have hp := Nat.div_add_mod p 64
  have hp64 : p % 64 < 64 := Nat.mod_lt _ (by decide)
  have hb64 : b % 64 < 64 := Nat.mod_lt _ (by decide)
  have first : bitW (ws.set (b / 64) (ws.getD (b / 64) 0 ||| x <<< (b % 64) % 2 ^ 64)) p = if p / 64 = b / 64 then (bitW ws p || (decide (b ≤ p) && x.testBit (p - b))) else bitW ws p := by
    unfold bitW
    rw [getD_setN (by omega)]
    split
    · rename_i e
      rw [Nat.testBit_or, Nat.testBit_mod_two_pow, Nat.testBit_shiftLeft, e]
      by_cases hge : b ≤ p
      · rw [show decide (p % 64 ≥ b % 64) = true by simp; omega, show decide (b ≤ p) = true by simp; omega, show p % 64 - b % 64 = p - b by omega]
        simp [hp64]
      · rw [show decide (p % 64 ≥ b % 64) = false by simp; omega, show decide (b ≤ p) = false by simp; omega]
        simp
    · rfl
  unfold orAt
  split
  · rename_i hc
    by_cases e1 : p / 64 = b / 64 + 1
    · unfold bitW
      rw [getD_setN (by simp; omega), if_pos e1, Nat.testBit_or, Nat.testBit_shiftRight, e1, show decide (b ≤ p) = true by simp; omega, show 64 - b % 64 + p % 64 = p - b by omega]
      simp
    · have : bitW ((ws.set (b / 64) (ws.getD (b / 64) 0 ||| x <<< (b % 64) % 2 ^ 64)).set (b / 64 + 1) (ws.getD (b / 64 + 1) 0 ||| x >>> (64 - b % 64))) p = bitW (ws.set (b / 64) (ws.getD (b / 64) 0 ||| x <<< (b % 64) % 2 ^ 64)) p := by
        unfold bitW
        rw [getD_setN (by simp; omega), if_neg e1]
      rw [this, first]
      split
      · rfl
      · rename_i hne
        by_cases hge : b ≤ p
        · rw [big (p - b) (by omega)]; simp
        · rw [show decide (b ≤ p) = false by simp; omega]; simp
  · rename_i hc
    rw [first]
    split
    · rfl
    · rename_i hne
      by_cases hge : b ≤ p
      · rw [big (p - b) (by omega)]; simp
      · rw [show decide (b ≤ p) = false by simp; omega]; simp
/-- A number read from a bit on. -/
def readAt (ws : List Nat) (b wd : Nat) : Nat :=
  if wd < 64 then (if 64 < b % 64 + wd then ws.getD (b / 64) 0 >>> (b % 64) ||| ws.getD (b / 64 + 1) 0 <<< (64 - b % 64) % 2 ^ 64 else ws.getD (b / 64) 0 >>> (b % 64)) &&& (2 ^ wd - 1)
  else (if 64 < b % 64 + wd then ws.getD (b / 64) 0 >>> (b % 64) ||| ws.getD (b / 64 + 1) 0 <<< (64 - b % 64) % 2 ^ 64 else ws.getD (b / 64) 0 >>> (b % 64))
theorem readAt_bit {ws : List Nat} (h : All64 ws) {b wd : Nat} (hwd : wd ≤ 64) (i : Nat) : (readAt ws b wd).testBit i = (decide (i < wd) && bitW ws (b + i)) := by
  have hb := Nat.div_add_mod b 64
  have hb64 : b % 64 < 64 := Nat.mod_lt _ (by decide)
  have big : ∀ {v q : Nat}, v < 2 ^ 64 → 64 ≤ q → v.testBit q = false := fun hv hq => Nat.testBit_lt_two_pow (Nat.lt_of_lt_of_le hv (Nat.pow_le_pow_right (by decide) hq))
  have body : i < wd → (if 64 < b % 64 + wd then ws.getD (b / 64) 0 >>> (b % 64) ||| ws.getD (b / 64 + 1) 0 <<< (64 - b % 64) % 2 ^ 64 else ws.getD (b / 64) 0 >>> (b % 64)).testBit i = bitW ws (b + i) := by
    intro hi
    unfold bitW
    by_cases hs : b % 64 + i < 64
    · rw [show (b + i) / 64 = b / 64 by omega, show (b + i) % 64 = b % 64 + i by omega]
      split
      · rw [Nat.testBit_or, Nat.testBit_shiftRight, Nat.testBit_mod_two_pow, Nat.testBit_shiftLeft, show decide (i ≥ 64 - b % 64) = false by simp; omega]
        simp
      · rw [Nat.testBit_shiftRight]
    · rw [if_pos (by omega), show (b + i) / 64 = b / 64 + 1 by omega, show (b + i) % 64 = i - (64 - b % 64) by omega]
      rw [Nat.testBit_or, Nat.testBit_shiftRight, big (h.getD _) (by omega), Nat.testBit_mod_two_pow, Nat.testBit_shiftLeft, show decide (i ≥ 64 - b % 64) = true by simp; omega, show decide (i < 64) = true by simp; omega]
      simp
  have whole : (if 64 < b % 64 + wd then ws.getD (b / 64) 0 >>> (b % 64) ||| ws.getD (b / 64 + 1) 0 <<< (64 - b % 64) % 2 ^ 64 else ws.getD (b / 64) 0 >>> (b % 64)) < 2 ^ 64 := by
    split
    · exact Nat.or_lt_two_pow (shr_lt (h.getD _) _) (shl_lt _ _)
    · exact shr_lt (h.getD _) _
  unfold readAt
  split
  · rename_i hlt
    rw [Nat.testBit_and, Nat.testBit_two_pow_sub_one]
    by_cases hi : i < wd
    · rw [body hi]; simp [hi]
    · simp [hi]
  · by_cases hi : i < wd
    · rw [body hi]; simp [hi]
    · rw [big whole (by omega)]; simp [hi]
/-- The words hold the numbers so far. -/
def Packed (l : List Nat) (wd i : Nat) (ws : List Nat) : Prop := ∀ p, bitW ws p = (decide (p < i * wd) && (l.getD (p / wd) 0).testBit (p % wd))
theorem bitW_zeros (n p : Nat) : bitW (List.replicate n 0) p = false := by
  unfold bitW
  have : (List.replicate n 0).getD (p / 64) 0 = 0 := by
    rw [List.getD_eq_getElem?_getD, List.getElem?_replicate]
    split <;> rfl
  rw [this]
  simp
theorem packed_zero (l : List Nat) (wd n : Nat) : Packed l wd 0 (List.replicate n 0) := by
  intro p
  rw [bitW_zeros]
  simp
theorem packed_step {l : List Nat} {wd i : Nat} {ws : List Nat} (h : Packed l wd i ws) (hwd : wd ≤ 64) (h0 : 0 < wd) (hi : i < l.length) (hx : l[i] < 2 ^ wd) (hl : (i + 1) * wd ≤ 64 * ws.length) : Packed l wd (i + 1) (orAt ws (i * wd) wd l[i]) := by
  intro p
  have hm : (i + 1) * wd = i * wd + wd := Nat.succ_mul i wd
  rw [orAt_bit hwd h0 hx (by omega), h p]
  by_cases h1 : p < i * wd
  · rw [show decide (p < i * wd) = true by simp; omega, show decide (i * wd ≤ p) = false by simp; omega, show decide (p < (i + 1) * wd) = true by simp; omega]
    simp
  · rw [show decide (p < i * wd) = false by simp; omega, show decide (i * wd ≤ p) = true by simp; omega]
    by_cases h2 : p < (i + 1) * wd
    · have hd : p / wd = i := Nat.div_eq_of_lt_le (by omega) h2
      have hr : p % wd = p - i * wd := by
        have := Nat.div_add_mod p wd
        rw [hd, Nat.mul_comm] at this
        omega
      rw [show decide (p < (i + 1) * wd) = true by simp; omega, hd, hr, List.getD_eq_getElem?_getD, List.getElem?_eq_getElem hi]
      simp
    · rw [show decide (p < (i + 1) * wd) = false by simp; omega, Nat.testBit_lt_two_pow (Nat.lt_of_lt_of_le hx (Nat.pow_le_pow_right (by decide) (by omega)))]
      simp
theorem packed_same {l : List Nat} {i j : Nat} {ws : List Nat} (h : Packed l 0 i ws) : Packed l 0 j ws := by
  intro p
  rw [h p]
  simp
theorem packed_get {l : List Nat} {wd : Nat} {ws : List Nat} (h : Packed l wd l.length ws) (ha : All64 ws) (hwd : wd ≤ 64) {k : Nat} (hk : k < l.length) (hx : l[k] < 2 ^ wd) : readAt ws (k * wd) wd = l[k] := by
  apply Nat.eq_of_testBit_eq
  intro i
  rw [readAt_bit ha hwd, h]
  by_cases hi : i < wd
  · have hd : (k * wd + i) / wd = k := by
      rw [Nat.add_comm, Nat.add_mul_div_right _ _ (by omega), Nat.div_eq_of_lt hi]
      omega
    have hr : (k * wd + i) % wd = i := by
      rw [Nat.add_comm, Nat.add_mul_mod_self_right, Nat.mod_eq_of_lt hi]
    have hlt : k * wd + i < l.length * wd := by
      have : (k + 1) * wd ≤ l.length * wd := Nat.mul_le_mul_right _ (by omega)
      have : (k + 1) * wd = k * wd + wd := Nat.succ_mul k wd
      omega
    rw [hd, hr, List.getD_eq_getElem?_getD, List.getElem?_eq_getElem hk]
    simp [hi, hlt]
  · rw [Nat.testBit_lt_two_pow (x := l[k]) (Nat.lt_of_lt_of_le hx (Nat.pow_le_pow_right (by decide) (by omega)))]
    simp [hi]
/-- The greatest. -/
def maxL (l : List Nat) : Nat := l.foldl max 0
theorem maxL_snoc (l : List Nat) (x : Nat) : maxL (l ++ [x]) = max (maxL l) x := by unfold maxL; rw [List.foldl_append]; rfl
theorem maxL_take {l : List Nat} {i : Nat} (h : i < l.length) : maxL (l.take (i + 1)) = max (maxL (l.take i)) l[i] := by
  rw [List.take_succ_eq_append_getElem h, maxL_snoc]
theorem maxL_le {l : List Nat} {b : Nat} (h : ∀ x ∈ l, x ≤ b) : maxL l ≤ b := by
  rcases List.eq_nil_or_concat l with rfl | ⟨l', c, rfl⟩
  · exact Nat.zero_le _
  · rw [List.concat_eq_append] at h ⊢
    rw [maxL_snoc]
    have := maxL_le (l := l') fun x hx => h x (by simp [hx])
    have := h c (by simp)
    omega
termination_by l.length
theorem le_maxL {l : List Nat} {x : Nat} (h : x ∈ l) : x ≤ maxL l := by
  rcases List.eq_nil_or_concat l with rfl | ⟨l', c, rfl⟩
  · cases h
  · rw [List.concat_eq_append] at h ⊢
    rw [maxL_snoc]
    rcases List.mem_append.1 h with h | h
    · have := le_maxL h
      omega
    · rw [List.mem_singleton] at h
      omega
termination_by l.length
def wide (l : List Nat) : Nat := blen (maxL l)
theorem lt_wide {l : List Nat} {x : Nat} (h : x ∈ l) : x < 2 ^ wide l := Nat.lt_of_le_of_lt (le_maxL h) (lt_blen _)
theorem blen_max (a b : Nat) : blen (max a b) = max (blen a) (blen b) := by
  rcases Nat.le_total a b with h | h
  · rw [Nat.max_eq_right h, Nat.max_eq_right (blen_mono h)]
  · rw [Nat.max_eq_left h, Nat.max_eq_left (blen_mono h)]
theorem wide_le {l : List Nat} (h : All64 l) : wide l ≤ 64 := blen_le.2 (by have := maxL_le (l := l) (b := 2 ^ 64 - 1) fun x hx => by have := h x hx; omega
                                                                            omega)
end Go.Ev
