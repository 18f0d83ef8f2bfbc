import Derived.Test.YtbbehhddckmpkaaDoorOffs2
import Derived.Test.YtbbehhddckmpkaaDoorInts3
import Derived.Test.YtbbehhddckmpkaaDoorBits5
/-! Package offs: what the document does; a few; the laws. -/
namespace Go.Ev
theorem rises_up : ∀ {l : List Nat}, Rises l → Up l
  | [], _ => trivial
  | x :: r, h => by
    refine ⟨fun y hy => ?_, rises_up fun i j hi hj hij => ?_⟩
    · obtain ⟨i, hi, rfl⟩ := List.getElem_of_mem hy
      exact h 0 (i + 1) (by simp) (by simp; exact hi) (by omega)
    · exact h (i + 1) (j + 1) (by simp; exact hi) (by simp; exact hj) (by omega)
end Go.Ev
namespace Go.Proofs.YtbbehhddckmpkaaDoor
open Go.Ev
set_option linter.unusedVariables false

theorem rise_in : ∀ (l : List Nat) (a : Nat), (∀ y ∈ l, a ≤ y) → Up l → riseFrom (a : Int) (l.map Int.ofNat) = some (lastN (a :: l) : Int)
  | [], a, _, _ => rfl
  | x :: r, a, h1, h2 => by
    have := h1 x (by simp)
    rw [List.map_cons]
    unfold riseFrom
    rw [if_neg (by show ¬ ((x : Int) < (a : Int)); omega), lastN_cons]
    exact rise_in r x h2.1 h2.2
theorem may_yes {l : List Nat} (hr : Rises l) (h : lastN l ≤ 8388608) : may (l.map Int.ofNat) = true := by
  have := rise_in l 0 (fun _ _ => Nat.zero_le _) (rises_up hr)
  have e : lastN (0 :: l) = lastN l := by
    cases l with
    | nil => rfl
    | cons x r => exact lastN_cons 0 x r
  unfold may
  rw [show (0 : Int) = ((0 : Nat) : Int) from rfl, this, e]
  exact decide_eq_true (by omega)
theorem nat_list {zs : List Int} {l : List Nat} (h : zs = l.map Int.ofNat) : l = zs.map Int.toNat := by
  subst h
  rw [List.map_map]
  have : Int.toNat ∘ Int.ofNat = id := by funext x; rfl
  rw [this, List.map_id]
theorem rises_snoc {l : List Nat} {x : Nat} (hr : Rises l) (h : lastN l ≤ x) : Rises (l ++ [x]) := by
  intro i j hi hj hij
  simp only [List.length_append, List.length_cons, List.length_nil] at hi hj
  by_cases hjl : j < l.length
  · rw [List.getElem_append_left (by omega), List.getElem_append_left hjl]
    exact hr i j (by omega) hjl hij
  · have hj2 : (l ++ [x])[j] = x := by
      rw [List.getElem_append_right (by omega)]
      simp
    rw [hj2]
    by_cases hil : i < l.length
    · rw [List.getElem_append_left hil]
      exact Nat.le_trans (le_last hr hil) h
    · have hi2 : (l ++ [x])[i] = x := by
        rw [List.getElem_append_right (by omega)]
        simp
      rw [hi2]
      exact Nat.le_refl _
theorem lastN_snoc (l : List Nat) (x : Nat) : lastN (l ++ [x]) = x := by simp [lastN]
theorem refLow_spec {H : Heap} {l : List Nat} {p : Option Addr} {n c : Nat} (hrd : Rd H (l.map i64V) p n) (hn : n ≤ 1048576) (hlast : lastN l ≤ 8388608) {R : Int → Heap → Prop} (hR : R (kOf l : Int) H) : brackenref1_Low.C p n c H R := by
  apply brackenref1_Low.calls
  unfold brackenref1_Low.W
  have hl : l.length = n := by have := hrd.1; simpa using this
  subst hl
  refine brW_dec (fun h0 => ?_) (fun h0 => ?_)
  · have : kOf l = 0 := by unfold kOf; rw [if_pos (by omega)]
    rw [this] at hR
    exact hR
  · obtain ⟨h2, ad, rfl, hc⟩ := rd_i64 hrd (i := l.length - 1) (by omega)
    have hg : l[l.length - 1] = lastN l := by unfold lastN; rw [List.getD_eq_getElem?_getD, List.getElem?_eq_getElem h2]; rfl
    rw [hg] at hc
    rw [wrap_i64 (n := (l.length : Int) - 1) (by omega) (by omega), show (l.length : Int) - 1 = ((l.length - 1 : Nat) : Int) by omega, Int.toNat_natCast]
    have hq : lastN l / l.length ≤ 8388608 := Nat.le_trans (Nat.div_le_self _ _) hlast
    refine ⟨ad, rfl, by omega, by omega, _, hc, by omega, ?_⟩
    rw [show Int.tdiv ((lastN l : Nat) : Int) (l.length : Int) = ((lastN l / l.length : Nat) : Int) from rfl, wrap_i64n (by omega), wrap_natlt (by omega)]
    refine refWidth_spec (by omega) (letV_mk fun x hx => ?_)
    have hb64 : blen (lastN l / l.length) ≤ 64 := blen_64 (by omega)
    have : kOf l = blen (lastN l / l.length) - 1 := by unfold kOf lowK; rw [if_neg (by omega)]
    have e : x = (kOf l : Int) := by
      rw [hx, wrap_i64 (by omega) (by omega), this]
      omega
    rw [e]
    exact hR
theorem refOffsSize_spec {H : Heap} {l : List Nat} {p : Option Addr} {n c : Nat} (hrd : Rd H (l.map i64V) p n) (hn : n ≤ 1048576) (hlast : lastN l ≤ 8388608) {R : Int → Heap → Prop} (hR : R (sizeO l : Int) H) : brackenref1_OffsSize.C p n c H R := by
  apply brackenref1_OffsSize.calls
  unfold brackenref1_OffsSize.W
  have hl : l.length = n := by have := hrd.1; simpa using this
  subst hl
  refine brW_dec (fun h0 => ?_) (fun h0 => ?_)
  · have : l = [] := List.eq_nil_of_length_eq_zero (by omega)
    subst this
    exact refBitsSize_spec (n := 1) (by decide) hR
  · refine refLow_spec hrd hn hlast ?_
    obtain ⟨h2, ad, rfl, hc⟩ := rd_i64 hrd (i := l.length - 1) (by omega)
    have hg : l[l.length - 1] = lastN l := by unfold lastN; rw [List.getD_eq_getElem?_getD, List.getElem?_eq_getElem h2]; rfl
    rw [hg] at hc
    rw [wrap_i64 (n := (l.length : Int) - 1) (by omega) (by omega), show (l.length : Int) - 1 = ((l.length - 1 : Nat) : Int) by omega, Int.toNat_natCast]
    have hk := kOf_le hlast
    have hh := high_le l
    have hpr : l.length * kOf l ≤ 1048576 * 23 := Nat.mul_le_mul hn hk
    refine ⟨ad, rfl, by omega, by omega, _, hc, ?_⟩
    rw [wrap_natlt (by omega)]
    refine ⟨by omega, IntsSize_spec (by omega) ⟨⟨_, hc, rfl⟩, ?_⟩⟩
    rw [show shrW .i64 ((lastN l : Nat) : Int) (kOf l : Int) = (highOf l : Int) from shr_i64 (by omega) _, wrap_i64 (n := (l.length : Int) + (highOf l : Int)) (by omega) (by omega), wrap_i64 (n := (l.length : Int) + (highOf l : Int) + 1) (by omega) (by omega), show (l.length : Int) + (highOf l : Int) + 1 = ((l.length + highOf l + 1 : Nat) : Int) by omega]
    refine refBitsSize_spec (by omega) (letV_mk fun x hx => ?_)
    have e : x = (sizeO l : Int) := by
      rw [hx]
      unfold sizeO upTo64 sizeB
      rw [wrap_i64 (by omega) (by omega)]
      omega
    rw [e]
    exact hR
end Go.Proofs.YtbbehhddckmpkaaDoor
