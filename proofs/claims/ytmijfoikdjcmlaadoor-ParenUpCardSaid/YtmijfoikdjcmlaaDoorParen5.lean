import Derived.Test.YtmijfoikdjcmlaaDoorParen4
import Derived.Test.YtmijfoikdjcmlaaDoorInts3
/-! Package paren: what the document does; made rows; a few. -/
namespace Go.Ev
theorem exc_app (m : List Bool) (b : Bool) {k : Nat} (h : k ≤ m.length) : exc (m ++ [b]) k = exc m k := by
  unfold exc rk
  rw [List.take_append_of_le_length h]
theorem exc_snoc (m : List Bool) (b : Bool) : exc (m ++ [b]) (m.length + 1) = exc m m.length + (if b = true then 1 else -1) := by
  rw [exc_succ (by simp), exc_app m b (Nat.le_refl _)]
  simp
/-- So far never below, and so high now. -/
def Pre (m : List Bool) (e : Int) : Prop := (∀ k, k ≤ m.length → 0 ≤ exc m k) ∧ exc m m.length = e
theorem Pre.nil : Pre [] 0 := ⟨fun k hk => by have : k = 0 := by simpa using hk
                                              subst this; decide, by decide⟩
theorem Pre.app {m : List Bool} {e : Int} (h : Pre m e) (b : Bool) (h0 : 0 ≤ e + (if b = true then 1 else -1)) : Pre (m ++ [b]) (e + (if b = true then 1 else -1)) := by
  obtain ⟨h1, h2⟩ := h
  have hs := exc_snoc m b
  refine ⟨fun k hk => ?_, ?_⟩
  · rw [List.length_append, List.length_singleton] at hk
    rcases Nat.eq_or_lt_of_le hk with e' | e'
    · subst e'; omega
    · rw [exc_app m b (by omega)]
      exact h1 k (by omega)
  · rw [List.length_append, List.length_singleton, hs, h2]
theorem Pre.bal {m : List Bool} (h : Pre m 0) : Bal m := h
def balB (m : List Bool) : Bool := (List.range (m.length + 1)).all (fun k => decide (0 ≤ exc m k)) && decide (exc m m.length = 0)
theorem bal_iff (m : List Bool) : Bal m ↔ balB m = true := by
  unfold Bal balB
  simp only [Bool.and_eq_true, List.all_eq_true, List.mem_range, decide_eq_true_eq]
  exact ⟨fun h => ⟨fun k hk => h.1 k (by omega), h.2⟩, fun h => ⟨fun k hk => h.1 k (by omega), h.2⟩⟩
def pairB (m : List Bool) (x c : Nat) : Bool := decide (x ≤ c) && decide (c < m.length) && decide (exc m (c + 1) = exc m x) && (List.range (c + 1)).all fun y => !decide (x < y) || decide (exc m x < exc m y)
theorem isPair_of {m : List Bool} {x c : Nat} (h : pairB m x c = true) : IsPair m x c := by
  unfold pairB at h
  simp only [Bool.and_eq_true, List.all_eq_true, List.mem_range, decide_eq_true_eq, Bool.or_eq_true, Bool.not_eq_true', decide_eq_false_iff_not] at h
  refine ⟨h.1.1.1, h.1.1.2, h.1.2, fun y h1 h2 => ?_⟩
  rcases h.2 y (by omega) with h3 | h3
  · exact absurd h1 h3
  · exact h3
def upB (m : List Bool) (k n x : Nat) : Bool := decide (x ≤ k) && decide (exc m x = exc m k - (n : Int)) && (List.range (k + 1)).all fun y => !decide (x < y) || decide (exc m x < exc m y)
theorem isUp_of {m : List Bool} {k n x : Nat} (h : upB m k n x = true) : IsUp m k n x := by
  unfold upB at h
  simp only [Bool.and_eq_true, List.all_eq_true, List.mem_range, decide_eq_true_eq, Bool.or_eq_true, Bool.not_eq_true', decide_eq_false_iff_not] at h
  refine ⟨h.1.1, h.1.2, fun y h1 h2 => ?_⟩
  rcases h.2 y (by omega) with h3 | h3
  · exact absurd h1 h3
  · exact h3
theorem not_dec {p : Prop} [Decidable p] (h : (!decide p) = true) : ¬ p := by simpa using h
theorem dec_not {p : Prop} [Decidable p] (h : (!decide p) = false) : p := by simpa using h
theorem opn_range {m : List Bool} {k : Int} (h : 0 ≤ k ∧ k < (m.length : Int)) : ∃ (i : Nat) (hi : i < m.length), k = (i : Int) ∧ opn m k = m[i] := by
  obtain ⟨i, rfl⟩ : ∃ n : Nat, k = (n : Int) := ⟨k.toNat, by omega⟩
  have hi : i < m.length := by omega
  exact ⟨i, hi, rfl, opn_in hi⟩
end Go.Ev
namespace Go.Proofs.YtmijfoikdjcmlaaDoor
open Go.Ev
set_option linter.unusedVariables false
section
variable {H : Heap} {m : List Bool} {p : Option Addr} {n c : Nat}
theorem has_spec {k : Int} {R : Bool → Heap → Prop} (hR : R (decide (0 ≤ k ∧ k < (n : Int))) H) : brackenref1_has.C p n c k H R := by
  apply brackenref1_has.calls
  unfold brackenref1_has.W
  refine brW_dec (fun h => ?_) (fun h => ?_)
  · have : decide (0 ≤ k ∧ k < (n : Int)) = decide (k < (n : Int)) := by simp [h]
    rwa [this] at hR
  · have : decide (0 ≤ k ∧ k < (n : Int)) = false := decide_eq_false fun h' => h h'.1
    rwa [this] at hR
theorem refMayParen_spec (hrd : Rd H (m.map Value.bool) p n) (hn : n ≤ 4194304) {R : Bool → Heap → Prop} (hT : Bal m → R true H) (hF : ¬ Bal m → R false H) : brackenref1_MayParen.C p n c H R := by
  have hl : m.length = n := by have := hrd.1; simpa using this
  apply brackenref1_MayParen.calls
  unfold brackenref1_MayParen.W
  refine joinW_thru ?_
  refine loopW_mk (fun k (q : Int × Int × Unit) H' => ∃ i : Nat, i ≤ n ∧ k = n - i ∧ q.1 = exc m i ∧ q.2.1 = (i : Int) ∧ H = H' ∧ ∀ j, j ≤ i → 0 ≤ exc m j) n ⟨0, Nat.zero_le _, rfl, (exc_zero m).symm, rfl, rfl, fun j hj => (show j = 0 by omega) ▸ (by rw [exc_zero]; omega)⟩ ?_
  rintro k ⟨x, y, _⟩ _ ⟨i, hi, rfl, hx, hy, rfl, hall⟩
  simp only at hx hy
  subst hx hy
  dsimp only
  refine brW_dec (fun hlt => ?_) (fun hge => ?_)
  · have hi' : i < m.length := by omega
    obtain ⟨h2, a, ha, hc⟩ := rd_bool hrd (i := i) (by omega)
    have hb := exc_le m i
    have hb1 := exc_le m (i + 1)
    have hs := exc_succ hi'
    refine joinW_mk (fun (q : Int × Unit) H' => H = H' ∧ q.1 = exc m (i + 1) ∧ 0 ≤ exc m (i + 1)) ?_ ?_
    · refine joinW_mk (fun (q : Int × Unit) H' => H = H' ∧ q.1 = exc m (i + 1)) ?_ ?_
      · refine ⟨a, ha, by omega, by omega, _, by rw [Int.toNat_natCast]; exact hc, ?_⟩
        refine brW_mk (fun hb1' => letV_mk fun n8 hn8 => ⟨rfl, ?_⟩) (fun hb0 => letV_mk fun n8 hn8 => ⟨rfl, ?_⟩)
        · rw [if_pos hb1'] at hs
          rw [wrap_i64 (by omega) (by omega)] at hn8
          show n8 = _
          omega
        · rw [if_neg (by rw [hb0]; decide)] at hs
          rw [wrap_i64 (by omega) (by omega)] at hn8
          show n8 = _
          omega
      · rintro ⟨q, _⟩ _ ⟨rfl, hq⟩
        simp only at hq
        subst hq
        exact brW_dec (fun h0 => hF fun hb => by have := hb.1 (i + 1) (by omega); omega) (fun h0 => ⟨rfl, rfl, by omega⟩)
    · rintro ⟨q, _⟩ _ ⟨rfl, hq, h0⟩
      simp only at hq
      subst hq
      refine letV_mk fun i4 hi4 => ⟨n - (i + 1), by omega, i + 1, by omega, rfl, rfl, by show i4 = _; rw [hi4, wrap_i64 (by omega) (by omega)]; rfl, rfl, fun j hj => ?_⟩
      rcases Nat.lt_or_ge j (i + 1) with h | h
      · exact hall j (by omega)
      · obtain rfl : j = i + 1 := by omega
        exact h0
  · obtain rfl : i = m.length := by omega
    by_cases h0 : exc m m.length = 0
    · rw [decide_eq_true h0]
      exact hT ⟨hall, h0⟩
    · rw [decide_eq_false h0]
      exact hF fun hb => h0 hb.2
theorem refExcess_spec (hrd : Rd H (m.map Value.bool) p n) (hn : n ≤ 4194304) (k : Int) {R : Int → Heap → Prop} (hR : R (if 0 ≤ k ∧ k < (m.length : Int) then exc m (k + 1).toNat else -1) H) : brackenref1_Excess.C p n c k H R := by
  have hl : m.length = n := by have := hrd.1; simpa using this
  apply brackenref1_Excess.calls
  unfold brackenref1_Excess.W
  refine has_spec (brW_mk (fun hno => ?_) (fun hin => ?_))
  · rw [if_neg (by rw [hl]; exact not_dec hno)] at hR
    exact hR
  · have hin := dec_not hin
    rw [if_pos (by omega)] at hR
    rw [wrap_i64 (by omega) (by omega)]
    refine refRank_spec hrd hn _ true (refRank_spec hrd hn _ false (letV_mk fun x hx => ?_))
    have h1 := rk_both m (k + 1).toNat (by omega)
    rw [wrap_i64 (by omega) (by omega)] at hx
    have : x = exc m (k + 1).toNat := by
      unfold exc
      omega
    rw [this]
    exact hR
theorem refClose_spec (hrd : Rd H (m.map Value.bool) p n) (hn : n ≤ 4194304) (hb : Bal m) (k : Int) {R : Int → Heap → Prop} (hR : ∀ x, CloseR m k x → R x H) : brackenref1_Close.C p n c k H R := by
  have hl : m.length = n := by have := hrd.1; simpa using this
  apply brackenref1_Close.calls
  unfold brackenref1_Close.W
  refine joinW_mk (fun _ H' => H = H' ∧ ∃ (i : Nat) (hi : i < m.length), k = (i : Int) ∧ m[i] = true) ?_ ?_
  · refine joinW_thru (has_spec (brW_mk (fun hno => brW_true rfl (hR _ (.inr ⟨opn_out ?_, rfl⟩))) (fun hin => ?_)))
    · have := not_dec hno
      omega
    · have hin := dec_not hin
      obtain ⟨i, rfl⟩ : ∃ n : Nat, k = (n : Int) := ⟨k.toNat, by omega⟩
      obtain ⟨h2, a, ha, hc⟩ := rd_bool hrd (i := i) (by omega)
      refine ⟨a, ha, by omega, by omega, _, by rw [Int.toNat_natCast]; exact hc, brW_mk (fun h => hR _ (.inr ⟨?_, rfl⟩)) (fun h => ⟨rfl, i, h2, rfl, by simpa using h⟩)⟩
      rw [opn_in h2]
      simpa using h
  rintro _ _ ⟨rfl, k, hk, rfl, ho⟩
  have hup := of_up hk ho
  refine joinW_mk (fun _ H' => False) ?_ (fun _ _ h => h.elim)
  refine loopW_mk (fun t (q : Int × Int × Unit) H' => ∃ i : Nat, k ≤ i ∧ i ≤ n ∧ t = n - i ∧ q.1 = exc m i - exc m k ∧ q.2.1 = (i : Int) ∧ H = H' ∧ ∀ y, k < y → y ≤ i → exc m k < exc m y) (n - k) ⟨k, Nat.le_refl _, by omega, rfl, by show (0 : Int) = _; omega, rfl, rfl, fun y h1 h2 => by omega⟩ ?_
  rintro t ⟨x, y, _⟩ _ ⟨i, hki, hi, rfl, hx, hy, rfl, hall⟩
  simp only at hx hy
  subst hx hy
  dsimp only
  refine brW_dec (fun hlt => ?_) (fun hge => ?_)
  · have hi' : i < m.length := by omega
    obtain ⟨h2, a, ha, hc⟩ := rd_bool hrd (i := i) (by omega)
    have hb1 := exc_le m i
    have hb2 := exc_le m k
    have hs := exc_succ hi'
    refine joinW_mk (fun (q : Int × Unit) H' => H = H' ∧ q.1 = exc m (i + 1) - exc m k ∧ exc m k < exc m (i + 1)) ?_ ?_
    · refine joinW_mk (fun (q : Int × Unit) H' => H = H' ∧ q.1 = exc m (i + 1) - exc m k) ?_ ?_
      · refine ⟨a, ha, by omega, by omega, _, by rw [Int.toNat_natCast]; exact hc, ?_⟩
        refine brW_mk (fun hb1' => letV_mk fun n8 hn8 => ⟨rfl, ?_⟩) (fun hb0 => letV_mk fun n8 hn8 => ⟨rfl, ?_⟩)
        · rw [if_pos hb1'] at hs
          rw [wrap_i64 (by omega) (by omega)] at hn8
          show n8 = _
          omega
        · rw [if_neg (by rw [hb0]; decide)] at hs
          rw [wrap_i64 (by omega) (by omega)] at hn8
          show n8 = _
          omega
      · rintro ⟨q, _⟩ _ ⟨rfl, hq⟩
        simp only at hq
        subst hq
        refine brW_dec (fun h0 => hR _ (.inl ⟨k, i, rfl, ⟨hki, hi', by omega, hall⟩, rfl⟩)) (fun h0 => ⟨rfl, rfl, ?_⟩)
        rcases Nat.eq_or_lt_of_le hki with e | e
        · subst e; omega
        · have := hall i e (Nat.le_refl _)
          have := exc_step hi'
          omega
    · rintro ⟨q, _⟩ _ ⟨rfl, hq, h0⟩
      simp only at hq
      subst hq
      refine letV_mk fun i4 hi4 => ⟨n - (i + 1), by omega, i + 1, by omega, by omega, rfl, rfl, by show i4 = _; rw [hi4, wrap_i64 (by omega) (by omega)]; rfl, rfl, fun y h1 h2 => ?_⟩
      rcases Nat.lt_or_ge y (i + 1) with h | h
      · exact hall y h1 (by omega)
      · obtain rfl : y = i + 1 := by omega
        exact h0
  · exfalso
    have := hall m.length (by omega) (by omega)
    have := hb.2
    have := hb.1 k (by omega)
    omega
theorem refBegin_spec (hrd : Rd H (m.map Value.bool) p n) (hn : n ≤ 4194304) (hb : Bal m) (k : Int) {R : Int → Heap → Prop} (hR : ∀ x, BeginR m k x → R x H) : brackenref1_Begin.C p n c k H R := by
  have hl : m.length = n := by have := hrd.1; simpa using this
  apply brackenref1_Begin.calls
  unfold brackenref1_Begin.W
  refine joinW_mk (fun _ H' => H = H' ∧ ∃ (i : Nat) (hi : i < m.length), k = (i : Int) ∧ m[i] = false) ?_ ?_
  · refine joinW_thru (has_spec (brW_mk (fun hno => brW_true rfl (hR _ (.inr ⟨?_, rfl⟩))) (fun hin => ?_)))
    · have := not_dec hno
      omega
    · have hin := dec_not hin
      obtain ⟨i, rfl⟩ : ∃ n : Nat, k = (n : Int) := ⟨k.toNat, by omega⟩
      obtain ⟨h2, a, ha, hc⟩ := rd_bool hrd (i := i) (by omega)
      refine ⟨a, ha, by omega, by omega, _, by rw [Int.toNat_natCast]; exact hc, brW_mk (fun h => hR _ (.inr ⟨.inr (.inr ?_), rfl⟩)) (fun h => ⟨rfl, i, h2, rfl, h⟩)⟩
      rw [opn_in h2]
      exact h
  rintro _ _ ⟨rfl, k, hk, rfl, ho⟩
  have hdn := of_down hk ho
  refine joinW_mk (fun _ H' => False) ?_ (fun _ _ h => h.elim)
  refine loopW_mk (fun t (q : Int × Int × Unit) H' => ∃ i : Nat, i ≤ k + 1 ∧ t = i ∧ q.1 = exc m i - exc m (k + 1) ∧ q.2.1 = (i : Int) - 1 ∧ H = H' ∧ ∀ y, i ≤ y → y ≤ k → exc m (k + 1) < exc m y) (k + 1) ⟨k + 1, Nat.le_refl _, rfl, by show (0 : Int) = _; omega, by show (k : Int) = _; omega, rfl, fun y h1 h2 => by omega⟩ ?_
  rintro t ⟨x, y, _⟩ _ ⟨i, hki, rfl, hx, hy, rfl, hall⟩
  simp only at hx hy
  subst hx hy
  dsimp only
  refine brW_dec (fun hlt => ?_) (fun hge => ?_)
  · obtain ⟨i, rfl⟩ : ∃ j, t = j + 1 := ⟨t - 1, by omega⟩
    have hi' : i < m.length := by omega
    rw [show ((i + 1 : Nat) : Int) - 1 = (i : Int) by omega]
    obtain ⟨h2, a, ha, hc⟩ := rd_bool hrd (i := i) (by omega)
    have hb1 := exc_le m (i + 1)
    have hb2 := exc_le m (k + 1)
    have hs := exc_succ hi'
    refine joinW_mk (fun (q : Int × Unit) H' => H = H' ∧ q.1 = exc m i - exc m (k + 1) ∧ exc m (k + 1) < exc m i) ?_ ?_
    · refine joinW_mk (fun (q : Int × Unit) H' => H = H' ∧ q.1 = exc m i - exc m (k + 1)) ?_ ?_
      · refine ⟨a, ha, by omega, by omega, _, by rw [Int.toNat_natCast]; exact hc, ?_⟩
        refine brW_mk (fun hb1' => letV_mk fun n8 hn8 => ⟨rfl, ?_⟩) (fun hb0 => letV_mk fun n8 hn8 => ⟨rfl, ?_⟩)
        · rw [if_pos hb1'] at hs
          rw [wrap_i64 (by omega) (by omega)] at hn8
          show n8 = _
          omega
        · rw [if_neg (by rw [hb0]; decide)] at hs
          rw [wrap_i64 (by omega) (by omega)] at hn8
          show n8 = _
          omega
      · rintro ⟨q, _⟩ _ ⟨rfl, hq⟩
        simp only at hq
        subst hq
        refine brW_dec (fun h0 => hR _ (.inl ⟨i, k, rfl, ⟨by omega, hk, by omega, fun y h1 h2 => ?_⟩, rfl⟩)) (fun h0 => ⟨rfl, rfl, ?_⟩)
        · have := hall y (by omega) h2
          omega
        · rcases Nat.eq_or_lt_of_le (show i ≤ k by omega) with e | e
          · subst e; omega
          · have := hall (i + 1) (Nat.le_refl _) (by omega)
            have := exc_step hi'
            omega
    · rintro ⟨q, _⟩ _ ⟨rfl, hq, h0⟩
      simp only at hq
      subst hq
      refine letV_mk fun i4 hi4 => ⟨i, by omega, i, by omega, rfl, rfl, by show i4 = _; rw [hi4, wrap_i64 (by omega) (by omega)], rfl, fun y h1 h2 => ?_⟩
      rcases Nat.eq_or_lt_of_le h1 with h | h
      · subst h; exact h0
      · exact hall y h h2
  · exfalso
    have := hall 0 (by omega) (by omega)
    rw [exc_zero] at this
    have := hb.1 (k + 1) (by omega)
    omega
theorem refEnclose_spec (hrd : Rd H (m.map Value.bool) p n) (hn : n ≤ 4194304) (hb : Bal m) (k : Int) {R : Int → Heap → Prop} (hR : ∀ x, UpR m k 1 x → R x H) : brackenref1_Enclose.C p n c k H R := by
  have hl : m.length = n := by have := hrd.1; simpa using this
  apply brackenref1_Enclose.calls
  unfold brackenref1_Enclose.W
  refine joinW_mk (fun _ H' => H = H' ∧ ∃ (i : Nat) (hi : i < m.length), k = (i : Int) ∧ m[i] = true) ?_ ?_
  · refine joinW_thru (has_spec (brW_mk (fun hno => brW_true rfl (hR _ (.none hb (.inl (opn_out ?_))))) (fun hin => ?_)))
    · have := not_dec hno
      omega
    · have hin := dec_not hin
      obtain ⟨i, rfl⟩ : ∃ n : Nat, k = (n : Int) := ⟨k.toNat, by omega⟩
      obtain ⟨h2, a, ha, hc⟩ := rd_bool hrd (i := i) (by omega)
      refine ⟨a, ha, by omega, by omega, _, by rw [Int.toNat_natCast]; exact hc, brW_mk (fun h => hR _ (.none hb (.inl ?_))) (fun h => ⟨rfl, i, h2, rfl, by simpa using h⟩)⟩
      rw [opn_in h2]
      simpa using h
  rintro _ _ ⟨rfl, k, hk, rfl, ho⟩
  refine joinW_mk (fun _ H' => H = H' ∧ UpR m (k : Int) 1 (-1)) ?_ (fun _ _ ⟨e, h⟩ => by subst e; exact hR _ h)
  refine letV_mk fun i6 hi6 => ?_
  rw [wrap_i64 (by omega) (by omega)] at hi6
  refine loopW_mk (fun t (q : Int × Int × Unit) H' => ∃ i : Nat, i ≤ k ∧ t = i ∧ q.1 = exc m k - exc m i ∧ q.2.1 = (i : Int) - 1 ∧ H = H' ∧ ∀ y, i ≤ y → y ≤ k → exc m k ≤ exc m y) k ⟨k, Nat.le_refl _, rfl, by show (0 : Int) = _; omega, hi6, rfl, fun y h1 h2 => by rw [show y = k by omega]; omega⟩ ?_
  rintro t ⟨x, y, _⟩ _ ⟨i, hki, rfl, hx, hy, rfl, hall⟩
  simp only at hx hy
  subst hx hy
  dsimp only
  refine brW_dec (fun hlt => ?_) (fun hge => ?_)
  · obtain ⟨i, rfl⟩ : ∃ j, t = j + 1 := ⟨t - 1, by omega⟩
    have hi' : i < m.length := by omega
    rw [show ((i + 1 : Nat) : Int) - 1 = (i : Int) by omega]
    obtain ⟨h2, a, ha, hc⟩ := rd_bool hrd (i := i) (by omega)
    have hb1 := exc_le m (i + 1)
    have hb2 := exc_le m k
    have hs := exc_succ hi'
    refine joinW_mk (fun (q : Int × Unit) H' => H = H' ∧ q.1 = exc m k - exc m i ∧ exc m k ≤ exc m i) ?_ ?_
    · refine joinW_mk (fun (q : Int × Unit) H' => H = H' ∧ q.1 = exc m k - exc m i) ?_ ?_
      · refine ⟨a, ha, by omega, by omega, _, by rw [Int.toNat_natCast]; exact hc, ?_⟩
        refine brW_mk (fun hb1' => letV_mk fun n8 hn8 => ⟨rfl, ?_⟩) (fun hb0 => letV_mk fun n8 hn8 => ⟨rfl, ?_⟩)
        · rw [if_pos hb1'] at hs
          rw [wrap_i64 (by omega) (by omega)] at hn8
          show n8 = _
          omega
        · rw [if_neg (by rw [hb0]; decide)] at hs
          rw [wrap_i64 (by omega) (by omega)] at hn8
          show n8 = _
          omega
      · rintro ⟨q, _⟩ _ ⟨rfl, hq⟩
        simp only at hq
        subst hq
        have h1 := hall (i + 1) (Nat.le_refl _) (by omega)
        have h2 := exc_step hi'
        refine brW_dec (fun h0 => hR _ (.inl ⟨k, 1, i, hk, rfl, ho, rfl, ⟨by omega, by omega, fun y h1 h2 => ?_⟩, rfl⟩)) (fun h0 => ⟨rfl, rfl, by omega⟩)
        have := hall y (by omega) h2
        omega
    · rintro ⟨q, _⟩ _ ⟨rfl, hq, h0⟩
      simp only at hq
      subst hq
      refine letV_mk fun i4 hi4 => ⟨i, by omega, i, by omega, rfl, rfl, by show i4 = _; rw [hi4, wrap_i64 (by omega) (by omega)], rfl, fun y h1 h2 => ?_⟩
      rcases Nat.eq_or_lt_of_le h1 with h | h
      · subst h; exact h0
      · exact hall y h h2
  · refine ⟨rfl, .none hb (.inr (.inr ⟨k, rfl, ?_⟩))⟩
    have := hall 0 (by omega) (by omega)
    rw [exc_zero] at this
    omega
theorem refUp_spec (hrd : Rd H (m.map Value.bool) p n) (hn : n ≤ 4194304) (hb : Bal m) (k j : Int) (hj : j ≤ 4194304) {R : Int → Heap → Prop} (hR : ∀ x, UpR m k j x → R x H) : brackenref1_Up.C p n c k j H R := by
  have hl : m.length = n := by have := hrd.1; simpa using this
  apply brackenref1_Up.calls
  unfold brackenref1_Up.W
  refine joinW_mk (fun _ H' => H = H' ∧ 0 ≤ j ∧ ∃ (i : Nat) (hi : i < m.length), k = (i : Int) ∧ m[i] = true) ?_ ?_
  · refine joinW_thru (has_spec (brW_mk (fun hno => brW_true rfl (hR _ (.none hb (.inl (opn_out ?_))))) (fun hin => ?_)))
    · have := not_dec hno
      omega
    · have hin := dec_not hin
      obtain ⟨i, rfl⟩ : ∃ n : Nat, k = (n : Int) := ⟨k.toNat, by omega⟩
      obtain ⟨h2, a, ha, hc⟩ := rd_bool hrd (i := i) (by omega)
      refine ⟨a, ha, by omega, by omega, _, by rw [Int.toNat_natCast]; exact hc, brW_mk (fun h => brW_true rfl (hR _ (.none hb (.inl ?_)))) (fun h => brW_dec (fun h0 => hR _ (.none hb (.inr (.inl h0)))) (fun h0 => ⟨rfl, by omega, i, h2, rfl, by simpa using h⟩))⟩
      rw [opn_in h2]
      simpa using h
  rintro _ _ ⟨rfl, hj0, k, hk, rfl, ho⟩
  obtain ⟨j, rfl⟩ : ∃ n : Nat, j = (n : Int) := ⟨j.toNat, by omega⟩
  refine joinW_mk (fun (q : Int × Unit) H' => H = H' ∧ UpR m (k : Int) (j : Int) q.1) ?_ (fun q H' ⟨e, h⟩ => by subst e; exact hR _ h)
  refine loopW_mk (fun t (q : Int × Int × Unit) H' => ∃ i : Nat, i ≤ j ∧ t = j - i ∧ q.2.1 = (i : Int) ∧ H = H' ∧ ((∃ x, q.1 = ((x : Nat) : Int) ∧ IsUp m k i x) ∨ (q.1 = -1 ∧ exc m k < (i : Int)))) j ⟨0, Nat.zero_le _, rfl, rfl, rfl, .inl ⟨k, rfl, IsUp.zero m k⟩⟩ ?_
  rintro t ⟨x, y, _⟩ _ ⟨i, hij, rfl, hy, rfl, hx⟩
  simp only at hx hy
  subst hy
  dsimp only
  refine joinW_mk (fun _ H' => H = H' ∧ i < j ∧ ∃ x', x = ((x' : Nat) : Int) ∧ IsUp m k i x') ?_ ?_
  · refine brW_dec (fun h1 => brW_dec (fun h2 => ⟨rfl, by omega, ?_⟩) (fun h2 => ⟨rfl, ?_⟩)) (fun h1 => ⟨rfl, ?_⟩)
    · rcases hx with h | ⟨h, _⟩
      · exact h
      · omega
    · rcases hx with ⟨x', e, _⟩ | ⟨e, h⟩
      · omega
      · show UpR m (k : Int) (j : Int) x
        rw [e]
        exact .none hb (.inr (.inr ⟨k, rfl, by omega⟩))
    · show UpR m (k : Int) (j : Int) x
      have : i = j := by omega
      subst this
      rcases hx with ⟨x', e, h⟩ | ⟨e, h⟩
      · exact .inl ⟨k, i, x', hk, rfl, ho, rfl, h, e⟩
      · rw [e]
        exact .none hb (.inr (.inr ⟨k, rfl, by omega⟩))
  · rintro _ _ ⟨rfl, hij', x', rfl, hu⟩
    obtain ⟨hx', hox⟩ := hu.opens hk ho
    refine refEnclose_spec hrd hn hb _ fun z hz => letV_mk fun i7 hi7 => ⟨j - (i + 1), by omega, i + 1, by omega, rfl, ?_, rfl, ?_⟩
    · show i7 = _
      rw [hi7, wrap_i64 (by omega) (by omega)]; rfl
    · rcases hz with ⟨a, b, d, ha, e1, _, e3, h, rfl⟩ | ⟨rfl, h⟩
      · obtain rfl : x' = a := by omega
        obtain rfl : b = 1 := by omega
        exact .inl ⟨d, rfl, hu.trans h⟩
      · refine .inr ⟨rfl, ?_⟩
        rcases Classical.em (1 ≤ exc m x') with h1 | h1
        · obtain ⟨z, hz⟩ := up_ex (m := m) (k := x') (by omega) 1 h1
          exact absurd hz (h x' 1 z hx' rfl hox rfl)
        · have := hu.2.1
          omega
theorem refNumber_spec (hrd : Rd H (m.map Value.bool) p n) (hn : n ≤ 4194304) (k : Int) {R : Int → Heap → Prop} (hR : R (if opn m k = true then (rk m k.toNat true : Int) else -1) H) : brackenref1_Number.C p n c k H R := by
  have hl : m.length = n := by have := hrd.1; simpa using this
  apply brackenref1_Number.calls
  unfold brackenref1_Number.W
  refine joinW_mk (fun _ H' => H = H' ∧ opn m k = true) ?_ ?_
  · have hno' : opn m k = false → R (-1) H := fun h => by rwa [if_neg (by rw [h]; decide)] at hR
    refine joinW_thru (has_spec (brW_mk (fun hno => brW_true rfl (hno' (opn_out ?_))) (fun hin => ?_)))
    · have := not_dec hno
      omega
    · have hin := dec_not hin
      obtain ⟨i, rfl⟩ : ∃ n : Nat, k = (n : Int) := ⟨k.toNat, by omega⟩
      obtain ⟨h2, a, ha, hc⟩ := rd_bool hrd (i := i) (by omega)
      refine ⟨a, ha, by omega, by omega, _, by rw [Int.toNat_natCast]; exact hc, brW_mk (fun h => hno' ?_) (fun h => ⟨rfl, ?_⟩)⟩
      · rw [opn_in h2]
        simpa using h
      · rw [opn_in h2]
        simpa using h
  rintro _ _ ⟨rfl, ho⟩
  rw [if_pos ho] at hR
  exact refRank_spec hrd hn _ true hR
theorem refSpan_spec (hrd : Rd H (m.map Value.bool) p n) (hn : n ≤ 4194304) (hb : Bal m) (k : Int) {R : Int → Heap → Prop} (hR : ∀ x, SpanR m k x → R x H) : brackenref1_Span.C p n c k H R := by
  have hl : m.length = n := by have := hrd.1; simpa using this
  apply brackenref1_Span.calls
  unfold brackenref1_Span.W
  refine joinW_mk (fun _ H' => H = H' ∧ opn m k = true) ?_ ?_
  · have hno' : opn m k = false → R 0 H := fun h => hR _ (.inr ⟨h, rfl⟩)
    refine joinW_thru (has_spec (brW_mk (fun hno => brW_true rfl (hno' (opn_out ?_))) (fun hin => ?_)))
    · have := not_dec hno
      omega
    · have hin := dec_not hin
      obtain ⟨i, rfl⟩ : ∃ n : Nat, k = (n : Int) := ⟨k.toNat, by omega⟩
      obtain ⟨h2, a, ha, hc⟩ := rd_bool hrd (i := i) (by omega)
      refine ⟨a, ha, by omega, by omega, _, by rw [Int.toNat_natCast]; exact hc, brW_mk (fun h => hno' ?_) (fun h => ⟨rfl, ?_⟩)⟩
      · rw [opn_in h2]
        simpa using h
      · rw [opn_in h2]
        simpa using h
  rintro _ _ ⟨rfl, ho⟩
  refine refClose_spec hrd hn hb k fun x hx => ⟨by decide, letV_mk fun y hy => ?_⟩
  rcases hx with ⟨i, c, rfl, hp, rfl⟩ | ⟨h, _⟩
  · have h1 := hp.lt
    have h2 := hp.2.1
    have ed : Int.tdiv ((c - i + 1 : Nat) : Int) 2 = (((c - i + 1) / 2 : Nat) : Int) := rfl
    rw [wrap_i64 (n := (c : Int) - (i : Int)) (by omega) (by omega), wrap_i64 (n := (c : Int) - (i : Int) + 1) (by omega) (by omega), show (c : Int) - (i : Int) + 1 = ((c - i + 1 : Nat) : Int) by omega, ed, wrap_i64 (by omega) (by omega)] at hy
    exact hR _ (.inl ⟨i, c, rfl, hp, hy⟩)
  · rw [h] at ho; cases ho
theorem refPlace_spec (hrd : Rd H (m.map Value.bool) p n) (hn : n ≤ 4194304) (j : Int) {R : Int → Heap → Prop} (hR : ∀ x, PlaceR m j x → R x H) : brackenref1_Select.C p n c j true H R :=
  refSelect_spec hrd hn j true (fun q hq e1 e2 => hR _ (.inl ⟨q, hq, e1, e2, rfl⟩)) fun ho => hR _ (.inr ⟨ho, rfl⟩)
end
theorem PS.steps {H0 H : Heap} {g : Nat} {m : List Bool} {F : Nat → Prop} (s : PS H0 H g m F) {R : Bool → Heap → Prop} (hR : R true H) : brackenlaw5_steps.C (some ⟨g, 0, none⟩) H R := by
  have hfew := s.few
  apply brackenlaw5_steps.calls
  unfold brackenlaw5_steps.W
  refine s.steps0 fun st hst => brW_pos (by omega) ?_
  refine s.steps0 fun st' hst' => s.len ?_
  rw [wrap_natlt (by omega)]
  refine refWidth_spec (by omega) ?_
  have hbl : blen m.length ≤ 64 := blen_64 (by omega)
  rw [wrap_i64 (n := (blen m.length : Int) + 2) (by omega) (by omega), wrap_i64 (by omega) (by omega)]
  have : decide ((st' : Int) ≤ 40 * ((blen m.length : Int) + 2)) = true := decide_eq_true (by omega)
  rw [this]
  exact hR
theorem PRow_spec {H : Heap} {zs : List Int} {p : Option Addr} {n c most : Nat} (hrd : Rd H (zs.map (Value.int .i64)) p n) (hn : n ≤ 9223372036854775807) (hmost : most ≤ 1048576) {R : Option Addr → Nat → Nat → Heap → Prop}
    (hR : ∀ p' l' c' (m : List Bool) H', Sl H' ty_bool (m.map Value.bool) p' l' c' → m.length = l' → l' ≤ 2 * most → Bal m → Fr noF H H' → R p' l' c' H') : brackenlaw5_Row.C p n c (most : Int) H R := by
  apply brackenlaw5_Row.calls
  unfold brackenlaw5_Row.W
  have hl : zs.length = n := by have := hrd.1; simpa using this
  have rdi : ∀ {H' : Heap} {i : Nat}, Fr noF H H' → i < n → ∃ (h2 : i < zs.length) (a : Addr), p = some a ∧ hcell H' (a.add i) = some (.int .i64 zs[i]) := by
    intro H' i hf hi
    have h2 : i < zs.length := by omega
    obtain ⟨a, ha, hc⟩ := (hrd.old hf).get (i := i) (v := .int .i64 zs[i]) (by rw [List.getElem?_map, List.getElem?_eq_getElem h2]; rfl)
    exact ⟨h2, a, ha, hc⟩
  -- what stands of it
  let S : (Option Addr × Nat × Nat) → Int → Int → Heap → Prop := fun o e pr H' => ∃ (m : List Bool) (e' pr' : Nat), e = (e' : Int) ∧ pr = (pr' : Int) ∧ Pre m e ∧ m.length + e' = 2 * pr' ∧ pr' ≤ most ∧ Sl H' ty_bool (m.map Value.bool) o.1 o.2.1 o.2.2 ∧ (∀ k, blkIs o.1 k → Array.size H ≤ k) ∧ Fr noF H H'
  have app : ∀ {o : Option Addr × Nat × Nat} {e pr : Int} {H' : Heap} {K : Option Addr → Nat → Nat → Heap → Prop} (b : Bool), S o e pr H' → (b = true → pr < (most : Int)) → (b = false → 0 < e) →
      (∀ p' c' H'', S (p', o.2.1 + 1, c') (e + (if b = true then 1 else -1)) (pr + (if b = true then 1 else 0)) H'' → K p' (o.2.1 + 1) c' H'') → letV (hnew H' #[.bool b] ty_bool) fun H1 : Heap => appW ty_bool 1 1 (.bool false) o.1 o.2.1 o.2.2 (.slice (some ⟨Array.size H', 0, none⟩) 1 1) H1 K := by
    rintro ⟨op, ol, oc⟩ e pr H' K b ⟨m, e', pr', he, hpr, hpre, hlen, hprm, hsl, hob, hf⟩ hb1 hb0 hK
    simp only at hsl hob
    have hol : m.length = ol := by have := hsl.1; simpa using this
    dsimp only
    refine app1 (v := .bool b) hsl rfl ⟨by simp, by simp⟩ (by omega) (by decide) fun p' c' H'' hsl2 f2 hb2 => hK p' c' H'' ?_
    have hob2 : ∀ k, blkIs p' k → Array.size H ≤ k := fun k hk => by
      rcases hb2 k hk with h | h
      · exact hob k h
      · exact Nat.le_trans hf.size h
    have hf2 : Fr noF H H'' := hf.trans f2 fun k hk => .inr (hob k hk)
    have hsl2 : Sl H'' ty_bool ((m ++ [b]).map Value.bool) p' (ol + 1) c' := by rw [List.map_append]; exact hsl2
    cases b with
    | true =>
      have := hb1 rfl
      exact ⟨m ++ [true], e' + 1, pr' + 1, by simp; omega, by simp; omega, hpre.app true (by simp; omega), by simp; omega, by omega, hsl2, hob2, hf2⟩
    | false =>
      have := hb0 rfl
      exact ⟨m ++ [false], e' - 1, pr', by simp; omega, by simp; omega, hpre.app false (by simp; omega), by simp; omega, by omega, hsl2, hob2, hf2⟩
  have frm : ∀ {o : Option Addr × Nat × Nat} {e pr : Int} {H' : Heap}, S o e pr H' → Fr noF H H' := fun ⟨_, _, _, _, _, _, _, _, _, _, h⟩ => h
  have rng : ∀ {o : Option Addr × Nat × Nat} {e pr : Int} {H' : Heap}, S o e pr H' → 0 ≤ e ∧ e ≤ 2097152 ∧ 0 ≤ pr ∧ pr ≤ 1048576 := fun ⟨m, e', pr', he, hpr, _, hlen, hprm, _⟩ => by omega
  refine joinW_mk (fun (q : (Option Addr × Nat × Nat) × Int × Unit) H' => ∃ pr, S q.1 q.2.1 pr H') ?_ ?_
  · refine loopW_mk (fun k (q : (Option Addr × Nat × Nat) × Int × Int × Int × Unit) H' => ∃ i : Nat, i ≤ n ∧ k = n - i ∧ q.2.2.2.1 = (i : Int) ∧ S q.1 q.2.1 q.2.2.1 H') n
      ⟨0, Nat.zero_le _, rfl, rfl, [], 0, 0, rfl, rfl, Pre.nil, rfl, Nat.zero_le _, Sl.nil _ _, (by rintro k ⟨a, ha, _⟩; cases ha), Fr.refl _ _⟩ ?_
    rintro k ⟨o, e, pr, x, _⟩ H2 ⟨i, hi, rfl, hx, hS⟩
    simp only at hx hS
    subst hx
    dsimp only
    refine brW_dec (fun hlt => ?_) (fun hge => ⟨pr, hS⟩)
    have hin : i < n := by omega
    refine joinW_mk (fun (q : (Option Addr × Nat × Nat) × Int × Int × Unit) H' => S q.1 q.2.1 q.2.2.1 H') ?_ ?_
    · obtain ⟨h2, a, rfl, hc⟩ := rdi (frm hS) (i := i) hin
      refine ⟨a, rfl, by omega, by omega, _, by rw [Int.toNat_natCast]; exact hc, by decide, by decide, letV_mk fun n9 hn9 => ?_⟩
      have hn9r : 0 ≤ n9 ∧ n9 ≤ 18446744073709551615 := by rw [hn9]; exact wrap_u64_range _
      refine loopW_mk (fun k (q : (Option Addr × Nat × Nat) × Int × Int × Int × Unit) H' => ∃ t : Nat, k = t ∧ (t : Int) ≤ 18446744073709551615 ∧ q.2.2.2.1 = (t : Int) ∧ S q.1 q.2.1 q.2.2.1 H') n9.toNat ⟨n9.toNat, rfl, by omega, by show n9 = _; omega, hS⟩ ?_
      clear hn9 hn9r hS hc
      rintro k ⟨o, e, pr, x, _⟩ H4 ⟨t, rfl, ht, hx, hS⟩
      simp only at hx hS
      subst hx
      dsimp only
      refine brW_dec (fun hpos => ?_) (fun hz => hS)
      refine joinW_mk (fun (q : (Option Addr × Nat × Nat) × Int × Int × Unit) H' => S q.1 q.2.1 q.2.2.1 H') ?_ ?_
      · refine joinW_mk (fun (q : (Option Addr × Nat × Nat) × Int × Int × Unit) H' => S q.1 q.2.1 q.2.2.1 H') ?_ ?_
        · refine joinW_mk (fun q H' => H4 = H' ∧ (q.1 = true → pr < (most : Int))) ?_ ?_
          · obtain ⟨h2', a', e', hc'⟩ := rdi (frm hS) (i := i) hin
            cases e'
            exact ⟨a, rfl, by omega, by omega, _, by rw [Int.toNat_natCast]; exact hc', brW_dec (fun _ => ⟨rfl, fun h => of_decide_eq_true h⟩) (fun _ => ⟨rfl, fun h => by cases h⟩)⟩
          · rintro ⟨q, _⟩ _ ⟨rfl, hq⟩
            simp only at hq
            dsimp only
            have hr := rng hS
            refine brW_mk (fun hb => ?_) (fun hb => hS)
            refine app true hS (fun _ => hq hb) (fun h => by cases h) fun p' c' H'' hS2 => letV_mk fun e6 he6 => letV_mk fun p7 hp7 => ?_
            rw [wrap_i64 (by omega) (by omega)] at he6 hp7
            subst he6 hp7
            exact hS2
        · clear hS
          rintro ⟨o, e, pr, _⟩ H6 hS
          simp only at hS
          dsimp only
          refine joinW_mk (fun q H' => H6 = H' ∧ (q.1 = true → 0 < e)) ?_ ?_
          · obtain ⟨h2', a', e', hc'⟩ := rdi (frm hS) (i := i) hin
            cases e'
            exact ⟨a, rfl, by omega, by omega, _, by rw [Int.toNat_natCast]; exact hc', brW_dec (fun _ => ⟨rfl, fun h => of_decide_eq_true h⟩) (fun _ => ⟨rfl, fun h => by cases h⟩)⟩
          · rintro ⟨q, _⟩ _ ⟨rfl, hq⟩
            simp only at hq
            dsimp only
            have hr := rng hS
            refine brW_mk (fun hb => ?_) (fun hb => hS)
            refine app false hS (fun h => by cases h) (fun _ => hq hb) fun p' c' H'' hS2 => letV_mk fun e6 he6 => ?_
            rw [wrap_i64 (by omega) (by omega)] at he6
            simp only [Bool.false_eq_true, if_false, Int.add_zero] at hS2
            rw [show e + -1 = e - 1 by omega, ← he6] at hS2
            exact hS2
      · clear hS
        rintro ⟨o, e, pr, _⟩ H5 hS
        refine letV_mk fun n10 hn10 => ⟨k - 1, by omega, k - 1, rfl, by omega, ?_, hS⟩
        show n10 = _
        rw [hn10, wrap_u64 (by omega) (by omega)]; omega
    · clear hS
      rintro ⟨o, e, pr, _⟩ H3 hS
      refine letV_mk fun i8 hi8 => ⟨n - (i + 1), by omega, i + 1, by omega, rfl, ?_, hS⟩
      show i8 = _
      rw [hi8, wrap_i64 (by omega) (by omega)]; rfl
  · rintro ⟨o, e, _⟩ H1 ⟨pr, hS⟩
    simp only at hS
    dsimp only
    refine joinW_mk (fun (q : (Option Addr × Nat × Nat) × Unit) H' => S q.1 0 pr H') ?_ ?_
    · refine loopW_mk (fun k (q : (Option Addr × Nat × Nat) × Int × Unit) H' => k = q.2.1.toNat ∧ S q.1 q.2.1 pr H') e.toNat ⟨rfl, hS⟩ ?_
      clear hS
      rintro k ⟨o, e, _⟩ H14 ⟨rfl, hS⟩
      simp only at hS
      dsimp only
      have hr := rng hS
      refine brW_dec (fun hpos => ?_) (fun hz => ?_)
      · refine app false hS (fun h => by cases h) (fun _ => hpos) fun p' c' H'' hS2 => letV_mk fun e6 he6 => ?_
        rw [wrap_i64 (by omega) (by omega)] at he6
        simp only [Bool.false_eq_true, if_false, Int.add_zero] at hS2
        rw [show e + -1 = e - 1 by omega, ← he6] at hS2
        exact ⟨e6.toNat, by omega, rfl, hS2⟩
      · obtain rfl : e = 0 := by omega
        exact hS
    · clear hS
      rintro ⟨⟨op, ol, oc⟩, _⟩ H13 ⟨m, e', pr', he, hpr, hpre, hlen, hprm, hsl, hob, hf⟩
      simp only at hsl
      have hol : m.length = ol := by have := hsl.1; simpa using this
      exact hR op ol oc m H13 hsl hol (by omega) hpre.bal hf
theorem PTold_spec {H : Heap} (hd : Deb H) {R : Bool → Heap → Prop} (hR : ∀ H', Fr noF H H' → R true H') : brackenlaw5_told.C H R := by
  apply brackenlaw5_told.calls
  unfold brackenlaw5_told.W
  refine letV_mk fun H1 h1 => ?_
  have f1 : Fr noF H H1 := by rw [h1]; exact Fr.new _ _ _
  have hs1 : Sl H1 ty_bool ([true, true, false, true, true, false, false, false].map Value.bool) (some ⟨Array.size H, 0, none⟩) 8 8 := by rw [h1]; exact Sl.lit H ty_bool [.bool true, .bool true, .bool false, .bool true, .bool true, .bool false, .bool false, .bool false]
  clear h1
  refine paren_New_spec (hd.old f1) hs1.rd (by decide) (fun hb => absurd ((bal_iff _).2 (by decide)) hb) fun _ g F H2 s2 => ?_
  refine letV_mk fun H3 h3 => ?_
  have f3 : Fr noF H2 H3 := by rw [h3]; exact Fr.new _ _ _
  have hs3 : Sl H3 ty_bool ([true].map Value.bool) (some ⟨Array.size H2, 0, none⟩) 1 1 := by rw [h3]; exact Sl.lit H2 ty_bool [.bool true]
  clear h3
  have s3 := s2.old f3
  refine paren_New_spec (s3.deb.old s3.fr) hs3.rd (by decide) (fun _ => ?_) (fun hb => absurd ((bal_iff _).1 hb) (by decide))
  refine joinW_thru (joinW_thru (brW_neg (by decide) (brW_false rfl (brW_pos rfl ?_))))
  refine May_spec (m := []) ⟨rfl, fun i h => absurd h (Nat.not_lt_zero i)⟩ (by decide) (fun _ => brW_true rfl ?_) (fun h => absurd ((bal_iff _).2 (by decide)) h)
  refine letV_mk fun H8 h8 => ?_
  have f8 : Fr noF H3 H8 := by rw [h8]; exact Fr.new _ _ _
  have hs8 : Sl H8 ty_bool ([false, true].map Value.bool) (some ⟨Array.size H3, 0, none⟩) 2 2 := by rw [h8]; exact Sl.lit H3 ty_bool [.bool false, .bool true]
  clear h8
  have s8 := s3.old f8
  refine May_spec hs8.rd (by decide) (fun hb => absurd ((bal_iff _).1 hb) (by decide)) (fun _ => brW_true rfl ?_)
  refine s8.close 0 fun x H10 hx s10 => ?_
  obtain rfl : x = 7 := hx.unique (.inl ⟨0, 7, rfl, isPair_of (by decide), rfl⟩)
  refine brW_pos rfl (s10.close 1 fun x H11 hx s11 => ?_)
  obtain rfl : x = 2 := hx.unique (.inl ⟨1, 2, rfl, isPair_of (by decide), rfl⟩)
  refine brW_pos rfl (s11.close 2 fun x H12 hx s12 => ?_)
  obtain rfl : x = -1 := hx.unique (.inr ⟨by decide, rfl⟩)
  refine brW_pos rfl (s12.begins 6 fun x H13 hx s13 => ?_)
  obtain rfl : x = 3 := hx.unique (.inl ⟨3, 6, rfl, isPair_of (by decide), rfl⟩)
  refine brW_pos rfl (s13.begins 0 fun x H14 hx s14 => ?_)
  obtain rfl : x = -1 := hx.unique (.inr ⟨.inr (.inr (by decide)), rfl⟩)
  refine brW_pos rfl (s14.enclose 4 fun x H15 hx s15 => ?_)
  obtain rfl : x = 3 := hx.unique (.inl ⟨4, 1, 3, by decide, rfl, by decide, rfl, isUp_of (by decide), rfl⟩)
  refine brW_pos rfl (s15.enclose 0 fun x H16 hx s16 => ?_)
  obtain rfl : x = -1 := hx.unique (.none s15.bal (.inr (.inr ⟨0, rfl, by decide⟩)))
  refine brW_pos rfl (s16.up 4 2 (by decide) fun x H17 hx s17 => ?_)
  obtain rfl : x = 0 := hx.unique (.inl ⟨4, 2, 0, by decide, rfl, by decide, rfl, isUp_of (by decide), rfl⟩)
  refine brW_pos rfl (s17.up 4 0 (by decide) fun x H18 hx s18 => ?_)
  obtain rfl : x = 4 := hx.unique (.inl ⟨4, 0, 4, by decide, rfl, by decide, rfl, isUp_of (by decide), rfl⟩)
  refine brW_pos rfl (s18.up 4 3 (by decide) fun x H19 hx s19 => ?_)
  obtain rfl : x = -1 := hx.unique (.none s15.bal (.inr (.inr ⟨4, rfl, by decide⟩)))
  refine brW_pos rfl (s19.place 2 fun x H20 hx s20 => ?_)
  obtain rfl : x = 3 := hx.unique (.inl ⟨3, by decide, by decide, by decide, rfl⟩)
  refine brW_pos rfl (s20.number 4 fun H21 s21 => brW_pos (by decide) ?_)
  refine s21.span 3 fun x H22 hx s22 => ?_
  obtain rfl : x = 2 := hx.unique (.inl ⟨3, 6, rfl, isPair_of (by decide), rfl⟩)
  refine brW_pos rfl (s22.span 2 fun x H23 hx s23 => ?_)
  obtain rfl : x = 0 := hx.unique (.inr ⟨by decide, rfl⟩)
  refine brW_pos rfl (s23.excess 4 fun H24 s24 => brW_pos (by decide) ?_)
  refine s24.excess 8 fun H25 s25 => brW_pos (by decide) ?_
  refine s25.opens 3 fun H26 s26 => brW_true (by decide) ?_
  refine s26.opens 8 fun H27 s27 => brW_true (by decide) ?_
  apply paren_Paren_Close.calls
  unfold paren_Paren_Close.W
  refine brW_true rfl (brW_pos rfl ?_)
  apply paren_Paren_Len.calls
  unfold paren_Paren_Len.W
  exact brW_true rfl (hR H27 (f1.trans0 s27.fr))
end Go.Proofs.YtmijfoikdjcmlaaDoor
