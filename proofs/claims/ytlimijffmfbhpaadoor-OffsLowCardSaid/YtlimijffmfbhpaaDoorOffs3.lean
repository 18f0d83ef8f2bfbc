import Derived.Test.YtlimijffmfbhpaaDoorOffs2
import Derived.Test.YtlimijffmfbhpaaDoorInts3
import Derived.Test.YtlimijffmfbhpaaDoorBits5
/-! Package offs: what the document does; a few; the laws. -/
namespace Go.Ev
theorem rises_up : ∀ {l : List Nat}, Rises l → Up l
  | [], _ => trivial
  | x :: r, h => by
    refine ⟨fun y hy => ?_, rises_up fun i j hi hj hij => ?_⟩
    · obtain ⟨i, hi, rfl⟩ := List.getElem_of_mem hy
      exact h 0 (i + 1) (by simp) (by simp; exact hi) (by omega)
    · exact h (i + 1) (j + 1) (by simp; exact hi) (by simp; exact hj) (by omega)
end Go.Ev
namespace Go.Proofs.YtlimijffmfbhpaaDoor
open Go.Ev
set_option linter.unusedVariables false

theorem rise_in : ∀ (l : List Nat) (a : Nat), (∀ y ∈ l, a ≤ y) → Up l → riseFrom (a : Int) (l.map Int.ofNat) = some (lastN (a :: l) : Int)
  | [], a, _, _ => rfl
  | x :: r, a, h1, h2 => by
    have := h1 x (by simp)
    rw [List.map_cons]
    unfold riseFrom
    rw [if_neg (by show ¬ ((x : Int) < (a : Int)); omega), lastN_cons]
    exact rise_in r x h2.1 h2.2
theorem may_yes {l : List Nat} (hr : Rises l) (h : lastN l ≤ 8388608) : may (l.map Int.ofNat) = true := by
  have := rise_in l 0 (fun _ _ => Nat.zero_le _) (rises_up hr)
  have e : lastN (0 :: l) = lastN l := by
    cases l with
    | nil => rfl
    | cons x r => exact lastN_cons 0 x r
  unfold may
  rw [show (0 : Int) = ((0 : Nat) : Int) from rfl, this, e]
  exact decide_eq_true (by omega)
theorem nat_list {zs : List Int} {l : List Nat} (h : zs = l.map Int.ofNat) : l = zs.map Int.toNat := by
  subst h
  rw [List.map_map]
  have : Int.toNat ∘ Int.ofNat = id := by funext x; rfl
  rw [this, List.map_id]
theorem rises_snoc {l : List Nat} {x : Nat} (hr : Rises l) (h : lastN l ≤ x) : Rises (l ++ [x]) := by
  intro i j hi hj hij
  simp only [List.length_append, List.length_cons, List.length_nil] at hi hj
  by_cases hjl : j < l.length
  · rw [List.getElem_append_left (by omega), List.getElem_append_left hjl]
    exact hr i j (by omega) hjl hij
  · have hj2 : (l ++ [x])[j] = x := by
      rw [List.getElem_append_right (by omega)]
      simp
    rw [hj2]
    by_cases hil : i < l.length
    · rw [List.getElem_append_left hil]
      exact Nat.le_trans (le_last hr hil) h
    · have hi2 : (l ++ [x])[i] = x := by
        rw [List.getElem_append_right (by omega)]
        simp
      rw [hi2]
      exact Nat.le_refl _
theorem lastN_snoc (l : List Nat) (x : Nat) : lastN (l ++ [x]) = x := by simp [lastN]
theorem refMay_spec {H : Heap} {zs : List Int} {p : Option Addr} {n c : Nat} (hrd : Rd H (zs.map (Value.int .i64)) p n) (hn : n ≤ 1048576) {R : Bool → Heap → Prop} (hR : R (may zs) H) : brackenref1_MayOffs.C p n c H R := by
  apply brackenref1_MayOffs.calls
  unfold brackenref1_MayOffs.W
  have hl : zs.length = n := by have := hrd.1; simpa using this
  refine joinW_thru ?_
  refine loopW_mk (fun s q H' => H' = H ∧ ∃ i : Nat, i ≤ n ∧ s = n - i ∧ q.2.1 = (i : Int) ∧ riseFrom q.1 (zs.drop i) = riseFrom 0 zs) n ⟨rfl, 0, by omega, rfl, rfl, rfl⟩ ?_
  rintro s ⟨a, x, _⟩ H2 ⟨rfl, i, hi, rfl, hx, hr⟩
  simp only at hx hr
  subst hx
  dsimp only
  refine brW_dec (fun hlt => ?_) (fun hge => ?_)
  · obtain ⟨h2, ad, rfl, hc⟩ := rdz hrd (i := i) (by omega)
    rw [riseFrom_step h2] at hr
    refine ⟨ad, rfl, by omega, by omega, _, by rw [Int.toNat_natCast]; exact hc, ?_⟩
    refine brW_dec (fun hlt => ?_) (fun hge => ?_)
    · rw [if_pos hlt] at hr
      have : may zs = false := by unfold may; rw [← hr]
      rw [this] at hR
      exact hR
    · rw [if_neg hge] at hr
      refine ⟨ad, rfl, by omega, by omega, _, by rw [Int.toNat_natCast]; exact hc, letV_mk fun j hj => ⟨n - (i + 1), by omega, rfl, i + 1, by omega, rfl, ?_, hr⟩⟩
      show j = _
      rw [hj, wrap_i64 (by omega) (by omega)]; rfl
  · have : i = n := by omega
    subst this
    rw [List.drop_of_length_le (by omega)] at hr
    have : may zs = decide (a ≤ 8388608) := by unfold may; rw [← hr]; rfl
    rw [this] at hR
    exact hR
theorem refLow_spec {H : Heap} {l : List Nat} {p : Option Addr} {n c : Nat} (hrd : Rd H (l.map i64V) p n) (hn : n ≤ 1048576) (hlast : lastN l ≤ 8388608) {R : Int → Heap → Prop} (hR : R (kOf l : Int) H) : brackenref1_Low.C p n c H R := by
  apply brackenref1_Low.calls
  unfold brackenref1_Low.W
  have hl : l.length = n := by have := hrd.1; simpa using this
  subst hl
  refine brW_dec (fun h0 => ?_) (fun h0 => ?_)
  · have : kOf l = 0 := by unfold kOf; rw [if_pos (by omega)]
    rw [this] at hR
    exact hR
  · obtain ⟨h2, ad, rfl, hc⟩ := rd_i64 hrd (i := l.length - 1) (by omega)
    have hg : l[l.length - 1] = lastN l := by unfold lastN; rw [List.getD_eq_getElem?_getD, List.getElem?_eq_getElem h2]; rfl
    rw [hg] at hc
    rw [wrap_i64 (n := (l.length : Int) - 1) (by omega) (by omega), show (l.length : Int) - 1 = ((l.length - 1 : Nat) : Int) by omega, Int.toNat_natCast]
    have hq : lastN l / l.length ≤ 8388608 := Nat.le_trans (Nat.div_le_self _ _) hlast
    refine ⟨ad, rfl, by omega, by omega, _, hc, by omega, ?_⟩
    rw [show Int.tdiv ((lastN l : Nat) : Int) (l.length : Int) = ((lastN l / l.length : Nat) : Int) from rfl, wrap_i64n (by omega), wrap_natlt (by omega)]
    refine refWidth_spec (by omega) (letV_mk fun x hx => ?_)
    have hb64 : blen (lastN l / l.length) ≤ 64 := blen_64 (by omega)
    have : kOf l = blen (lastN l / l.length) - 1 := by unfold kOf lowK; rw [if_neg (by omega)]
    have e : x = (kOf l : Int) := by
      rw [hx, wrap_i64 (by omega) (by omega), this]
      omega
    rw [e]
    exact hR
theorem refOffsSize_spec {H : Heap} {l : List Nat} {p : Option Addr} {n c : Nat} (hrd : Rd H (l.map i64V) p n) (hn : n ≤ 1048576) (hlast : lastN l ≤ 8388608) {R : Int → Heap → Prop} (hR : R (sizeO l : Int) H) : brackenref1_OffsSize.C p n c H R := by
  apply brackenref1_OffsSize.calls
  unfold brackenref1_OffsSize.W
  have hl : l.length = n := by have := hrd.1; simpa using this
  subst hl
  refine brW_dec (fun h0 => ?_) (fun h0 => ?_)
  · have : l = [] := List.eq_nil_of_length_eq_zero (by omega)
    subst this
    exact refBitsSize_spec (n := 1) (by decide) hR
  · refine refLow_spec hrd hn hlast ?_
    obtain ⟨h2, ad, rfl, hc⟩ := rd_i64 hrd (i := l.length - 1) (by omega)
    have hg : l[l.length - 1] = lastN l := by unfold lastN; rw [List.getD_eq_getElem?_getD, List.getElem?_eq_getElem h2]; rfl
    rw [hg] at hc
    rw [wrap_i64 (n := (l.length : Int) - 1) (by omega) (by omega), show (l.length : Int) - 1 = ((l.length - 1 : Nat) : Int) by omega, Int.toNat_natCast]
    have hk := kOf_le hlast
    have hh := high_le l
    have hpr : l.length * kOf l ≤ 1048576 * 23 := Nat.mul_le_mul hn hk
    refine ⟨ad, rfl, by omega, by omega, _, hc, ?_⟩
    rw [wrap_natlt (by omega)]
    refine ⟨by omega, IntsSize_spec (by omega) ⟨⟨_, hc, rfl⟩, ?_⟩⟩
    rw [show shrW .i64 ((lastN l : Nat) : Int) (kOf l : Int) = (highOf l : Int) from shr_i64 (by omega) _, wrap_i64 (n := (l.length : Int) + (highOf l : Int)) (by omega) (by omega), wrap_i64 (n := (l.length : Int) + (highOf l : Int) + 1) (by omega) (by omega), show (l.length : Int) + (highOf l : Int) + 1 = ((l.length + highOf l + 1 : Nat) : Int) by omega]
    refine refBitsSize_spec (by omega) (letV_mk fun x hx => ?_)
    have e : x = (sizeO l : Int) := by
      rw [hx]
      unfold sizeO upTo64 sizeB
      rw [wrap_i64 (by omega) (by omega)]
      omega
    rw [e]
    exact hR
theorem told_spec {H : Heap} (hd : Deb H) {R : Bool → Heap → Prop} (hR : ∀ H', Fr noF H H' → R true H') : brackenlaw7_told.C H R := by
  apply brackenlaw7_told.calls
  unfold brackenlaw7_told.W
  refine letV_mk fun H1 h1 => ?_
  have f1 : Fr noF H H1 := by rw [h1]; exact Fr.new _ _ _
  have hs : Sl H1 ty_int (([0, 100] : List Int).map (Value.int .i64)) (some ⟨Array.size H, 0, none⟩) 2 2 := by
    rw [h1]
    exact Sl.lit H ty_int [.int .i64 0, .int .i64 100]
  clear h1
  refine Offs_New_spec hs.rd (by decide) (fun l _ hl hr hlast g H2 t f2 => ?_) (fun h => absurd h (by decide))
  obtain rfl : l = [0, 100] := nat_list hl
  refine letV_mk fun H3 h3 => ?_
  have f3 : Fr noF H2 H3 := by rw [h3]; exact Fr.new _ _ _
  have hs3 : Sl H3 ty_int (([5, 4] : List Int).map (Value.int .i64)) (some ⟨Array.size H2, 0, none⟩) 2 2 := by
    rw [h3]
    exact Sl.lit H2 ty_int [.int .i64 5, .int .i64 4]
  clear h3
  refine Offs_New_spec hs3.rd (by decide) (fun l h => absurd h (by decide)) (fun _ => ?_)
  refine Offs_New_spec (zs := []) ⟨rfl, fun i h => absurd h (Nat.not_lt_zero i)⟩ (by decide) (fun l _ hl' hr' hlast' g' H5 t' f5 => ?_) (fun h => absurd h (by decide))
  obtain rfl : l = [] := nat_list hl'
  refine joinW_thru (joinW_thru (brW_neg (by decide) (brW_neg (by decide) (brW_false rfl (brW_false rfl ?_)))))
  have t5 := (t.old f3).old f5
  have fr5 := ((f1.trans0 f2).trans0 f3).trans0 f5
  refine Offs_Get_spec t5 (hd.old fr5) 1 (fun k hk H8 he f8 => ?_) (fun h => absurd h (by simp))
  have : k = 1 := by omega
  subst this
  have t8 := t5.old f8
  refine Offs_Get_spec t8 (hd.old (fr5.trans0 f8)) 2 (fun k hk H9 he _ => ?_) (fun _ => ?_)
  · have : k < 2 := hk
    omega
  refine brW_pos rfl (brW_pos rfl (brW_pos rfl (brW_pos rfl ?_)))
  refine Offs_Low_spec t8 (brW_pos (by decide) ?_)
  refine Offs_Size_spec t8 (brW_pos (by decide) ?_)
  refine Offs_Low_spec (t'.old f8) (brW_pos (by decide) ?_)
  refine Offs_Size_spec (t'.old f8) (brW_pos (by decide) ?_)
  refine Offs_Len_nil ?_
  exact hR H8 (fr5.trans0 f8)
theorem OffsAsks_fn (H : Heap) (hd : Deb H) (a : Option Addr) (len cap : Nat) (zs : List Int) (hrd : Rd H (zs.map (Value.int .i64)) a len) (hw : ∀ z ∈ zs, (Lit.int .i64 z).wf = true) (hb : len ≤ 9223372036854775807) (k : Int) (hk : (Lit.int .i64 k).wf = true) :
    brackenlaw7_OffsAsks.C a len cap k H fun b H' => b = true ∧ Fr noF H H' := by
  apply brackenlaw7_OffsAsks.calls
  unfold brackenlaw7_OffsAsks.W
  have hl : zs.length = len := by have := hrd.1; simpa using this
  refine brW_dec (fun _ => told_spec hd fun H' f => ⟨rfl, f⟩) (fun hle => ?_)
  refine Offs_New_spec hrd (by omega) (fun l hm hzl hr hlast g H2 t f2 => ?_) (fun hm => ?_)
  · subst hzl
    refine refMay_spec (hrd.old f2) (by omega) ?_
    rw [hm]
    refine brW_false rfl ?_
    have hl : l.length = len := by simpa using hl
    have hrl : Rd H2 (l.map i64V) a len := by
      have e : (l.map Int.ofNat).map (Value.int .i64) = l.map i64V := by rw [List.map_map]; rfl
      rw [e] at hrd
      exact hrd.old f2
    refine joinW_thru (joinW_thru (brW_neg (by decide) (brW_false rfl ?_)))
    refine Offs_Len_spec t (brW_neg (fun h => h (by rw [hl])) ?_)
    refine Offs_Low_spec t ?_
    refine refLow_spec hrl (by omega) hlast (brW_neg (fun h => h rfl) ?_)
    refine Offs_Size_spec t ?_
    refine refOffsSize_spec hrl (by omega) hlast (brW_neg (fun h => h rfl) ?_)
    refine joinW_thru ?_
    refine loopW_mk (fun m q H' => ∃ i : Nat, i ≤ len ∧ m = len - i ∧ q.1 = (i : Int) ∧ Fr noF H2 H') len ⟨0, by omega, rfl, rfl, Fr.refl _ _⟩ ?_
    rintro m ⟨x, _⟩ H13 ⟨i, hi, rfl, hx, f13⟩
    simp only at hx
    subst hx
    dsimp only
    have dd := hd.old (f2.trans0 f13)
    refine brW_dec (fun hlt => ?_) (fun hge => ?_)
    · refine joinW_thru ?_
      refine Offs_Get_spec (t.old f13) dd i (fun j hj H15 he f15 => ?_) (fun h => by omega)
      have : j = i := by omega
      subst this
      refine joinW_thru (brW_neg (fun h => h rfl) ?_)
      obtain ⟨_, ad, rfl, hc⟩ := rd_i64 ((hrl.old f13).old f15) (i := j) (by omega)
      refine ⟨ad, rfl, by omega, by omega, _, by rw [Int.toNat_natCast]; exact hc, brW_neg (fun h => h rfl) ?_⟩
      refine letV_mk fun i7 hi7 => ⟨len - (j + 1), by omega, j + 1, by omega, rfl, ?_, f13.trans0 f15⟩
      show i7 = _
      rw [hi7, wrap_i64 (by omega) (by omega)]; rfl
    · refine Offs_Get_spec (t.old f13) dd k (fun j hj H17 he f17 => ?_) (fun h => ?_)
      · have fr := (f2.trans0 f13).trans0 f17
        refine told_spec (hd.old fr) fun H' f => brW_true rfl (brW_pos (by omega) (brW_pos ?_ (brW_pos rfl ⟨rfl, fr.trans0 f⟩)))
        rw [Bool.eq_iff_iff]
        simp
        omega
      · have fr := f2.trans0 f13
        refine told_spec (hd.old fr) fun H' f => brW_true rfl ?_
        refine brW_dec (fun h0 => ?_) (fun h0 => ?_)
        · refine brW_pos ?_ (brW_neg (by decide) (brW_pos rfl ⟨by decide, fr.trans0 f⟩))
          rw [Bool.eq_iff_iff]
          simp
          omega
        · exact brW_pos (by decide) (brW_neg (by decide) (brW_pos rfl ⟨by decide, fr.trans0 f⟩))
  · refine refMay_spec hrd (by omega) ?_
    rw [hm]
    refine brW_true rfl ?_
    exact told_spec hd fun H' f => brW_true rfl (brW_pos rfl ⟨rfl, f⟩)
end Go.Proofs.YtlimijffmfbhpaaDoor
