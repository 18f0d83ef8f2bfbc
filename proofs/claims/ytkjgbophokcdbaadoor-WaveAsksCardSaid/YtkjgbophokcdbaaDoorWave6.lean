import Derived.Test.YtkjgbophokcdbaaDoorWave5
import Derived.Test.YtkjgbophokcdbaaDoorDeb
/-! Package wave: rising to a place. -/
namespace Go.Proofs.YtkjgbophokcdbaaDoor
open Go.Ev
set_option linter.unusedVariables false
section
variable {H : Heap} {g : Nat} {l : List Nat} {sg st : Nat} {F : Nat → Prop}
/-- A step up: what a select of a row yields. -/
theorem Wave_up_spec (h : Wave H g l sg st F) (hst : st ≤ 1099511627776) {k : Nat} (hk : k < nRows sg) {R : Option Addr → Heap → Prop}
    (hR : ∀ b Fb H', Wave H' g l sg (st + 1) F → Fr (fun k => k = g) H H' → Bits H' b (rowB (nRows sg) l k) Fb → R (some ⟨b, 0, none⟩) H') :
    letV (hset H ((⟨g, 0, none⟩ : Addr).add 3) (.int .i64 (IntKind.i64.wrap ((st : Int) + 1)))) fun H1 : Heap => wave_Wave_row.C (some ⟨g, 0, none⟩) (k : Int) H1 R := by
  refine letV_mk fun H1 h1 => ?_
  rw [wrap_i64 (n := (st : Int) + 1) (by omega) (by omega), show (st : Int) + 1 = ((st + 1 : Nat) : Int) by omega] at h1
  obtain ⟨w1, f1⟩ := h.step (st + 1) h1
  exact Wave_row_spec w1 hk fun b Fb hb hng => hR b Fb H1 w1 f1 hb
theorem Deb.keep {H H' : Heap} {G : Nat → Prop} (h : Deb H) (hf : Fr G H H') (hn : ¬ G gl_bits_deBruijn64tab) : Deb H' := fun i hi => hf.cell (h i hi) (by rw [add_block]; exact hn)
theorem Bits_Select_at {b : Nat} {m : List Bool} {Fb : Nat → Prop} (hb : Bits H b m Fb) (hd : Deb H) {a : Int} {bit : Bool} {q : Nat} (hq : m[q]? = some bit) (ha : a = (rk m q bit : Int)) {R : Int → Heap → Prop}
    (hR : ∀ H', Fr noF H H' → R (q : Int) H') : bits_Bits_Select.C (some ⟨b, 0, none⟩) a bit H R := by
  obtain ⟨hq1, hq2⟩ := List.getElem?_eq_some_iff.1 hq
  refine Bits_Select_spec hb hd a bit (fun p hp H6 hm hr f6 => ?_) (fun H6 hno f6 => ?_)
  · have : p = q := rk_unique hp hq1 hm hq2 (by omega)
    subst this
    exact hR H6 f6
  · have := rk_lt_count hq1 hq2
    omega
theorem Bits_Select_none {b : Nat} {m : List Bool} {Fb : Nat → Prop} (hb : Bits H b m Fb) (hd : Deb H) {a : Int} {bit : Bool} (ha : a < 0 ∨ (m.length : Int) ≤ a) {R : Int → Heap → Prop}
    (hR : ∀ H', Fr noF H H' → R (-1) H') : bits_Bits_Select.C (some ⟨b, 0, none⟩) a bit H R := by
  refine Bits_Select_spec hb hd a bit (fun p hp H6 hm hr f6 => ?_) (fun H6 hno f6 => hR H6 f6)
  have h1 := rk_lt_count hp hm
  have h2 : m.count bit ≤ m.length := List.count_le_length
  omega
theorem Wave_rise_spec (h : Wave H g l sg st F) (hd : Deb H) (hg : gl_bits_deBruijn64tab ≠ g) (hst : st ≤ 274877906944) (j : Int) (hj : -9223372036854775808 ≤ j ∧ j ≤ 9223372036854775807) {s : Nat} (hs : s < sg) {R : Int → Heap → Prop}
    (h1 : ∀ (i : Nat) (hi : i < l.length) H' st', l[i] = s → ((l.take i).count s : Int) = j → st' ≤ st + 3 * nRows sg → Wave H' g l sg st' F → Fr (fun k => k = g) H H' → R (i : Int) H')
    (h2 : ∀ H' st', (j < 0 ∨ (l.count s : Int) ≤ j) → st' ≤ st + 3 * nRows sg → Wave H' g l sg st' F → Fr (fun k => k = g) H H' → R (-1) H') : wave_Wave_rise.C (some ⟨g, 0, none⟩) j (s : Int) H R := by
  have hfew := h.few
  have hn := nRows_le hfew.2.2
  obtain ⟨hv, hsy⟩ := h.sym
  apply wave_Wave_rise.calls
  unfold wave_Wave_rise.W
  refine Wave_fall_spec (at_ := 0) h (by omega) (by omega) fun H1 w1 f1 => letV_mk fun at7 hat => ?_
  have hD0 := fallF_le (nRows sg) l s (Nat.zero_le l.length) (nRows sg)
  have hDn := fall_rank hv (hsy s hs) (Nat.le_refl l.length)
  rw [List.take_length] at hDn
  have hcnt : l.count s ≤ l.length := List.count_le_length
  refine joinW_mk (fun q H' => ∃ st', st' ≤ st + 2 * nRows sg ∧ Wave H' g l sg st' F ∧ Fr (fun k => k = g) H H' ∧ (q.1 = true → (j < 0 ∨ (l.count s : Int) ≤ j)) ∧ (q.1 = false → 0 ≤ j ∧ ((fallF (nRows sg) l s l.length (nRows sg) : Int) > at7))) ?_ ?_ |> joinW_thru
  · refine brW_dec (fun h0 => ⟨st + nRows sg, by omega, w1, f1, fun _ => .inl h0, fun h => by cases h⟩) (fun h0 => ?_)
    obtain ⟨_, c1, _⟩ := w1.cells
    refine ⟨_, rfl, _, c1, ?_⟩
    refine Wave_fall_spec w1 (by omega) (by omega) fun H4 w4 f4 => ⟨st + nRows sg + nRows sg, by omega, w4, f1.trans f4 fun k hk => .inl hk, fun hb => .inr ?_, fun hb => ⟨by omega, by have := of_decide_eq_false hb; omega⟩⟩
    have hb := of_decide_eq_true hb
    rcases Classical.em ((fallF (nRows sg) l s 0 (nRows sg) : Int) + j ≤ 9223372036854775807) with ho | ho
    · rw [wrap_i64 (by omega) ho] at hat
      omega
    · omega
  rintro ⟨q, _⟩ H2 ⟨st2, hst2, w2, f2, hq1, hq2⟩
  dsimp only at hq1 hq2 ⊢
  refine brW_mk (fun hb => h2 H2 st2 (hq1 hb) (by omega) w2 f2) (fun hb => ?_)
  obtain ⟨hj0, hlt⟩ := hq2 hb
  have cases0 : (∃ (i : Nat) (hi : i < l.length), l[i] = s ∧ ((l.take i).count s : Int) = j ∧ at7 = (fallF (nRows sg) l s i (nRows sg) : Int)) ∨ ((l.count s : Int) ≤ j ∧ at7 < 0 ∧ -9223372036854775808 ≤ at7 ∧ nRows sg ≠ 0) := by
    rcases Classical.em ((fallF (nRows sg) l s 0 (nRows sg) : Int) + j ≤ 9223372036854775807) with ho | ho
    · rw [wrap_i64 (by omega) ho] at hat
      obtain ⟨i, hi, e1, e2⟩ := nth_place (l := l) (s := s) (j := j.toNat) (by omega)
      have := fall_rank hv (hsy s hs) (Nat.le_of_lt hi)
      exact .inl ⟨i, hi, e1, by omega, by omega⟩
    · have e : at7 = (fallF (nRows sg) l s 0 (nRows sg) : Int) + j - 18446744073709551616 := by
        rw [hat]; unfold IntKind.wrap; simp [IntKind.bits, IntKind.signed]; omega
      refine .inr ⟨by omega, by omega, by omega, fun h0 => ?_⟩
      rw [h0] at ho
      have : fallF 0 l s 0 0 = 0 := rfl
      omega
  clear hat hlt hDn hD0
  obtain ⟨⟨lp, lc, c0⟩, _⟩ := w2.cells
  refine joinW_thru ⟨_, rfl, _, _, _, c0, letV_mk fun k8 hk8 => ?_⟩
  rw [wrap_i64 (by omega) (by omega)] at hk8
  refine loopW_mk (fun m q H' => ∃ k : Nat, k ≤ nRows sg ∧ m = k ∧ q.2.1 = (k : Int) - 1 ∧ Wave H' g l sg (st2 + (nRows sg - k)) F ∧ Fr (fun k => k = g) H H' ∧
    ((∃ (i : Nat) (hi : i < l.length), l[i] = s ∧ ((l.take i).count s : Int) = j ∧ q.1 = (fallF (nRows sg) l s i k : Int)) ∨ ((l.count s : Int) ≤ j ∧ q.1 < 0 ∧ -9223372036854775808 ≤ q.1 ∧ nRows sg ≠ 0 ∧ (k < nRows sg → q.1 = -1)))) (nRows sg) ⟨nRows sg, Nat.le_refl _, rfl, hk8, by rw [Nat.sub_self]; exact w2, f2, ?_⟩ ?_
  · rcases cases0 with h | ⟨a, b, c, d⟩
    · exact .inl h
    · exact .inr ⟨a, b, c, d, fun h => absurd h (Nat.lt_irrefl _)⟩
  clear cases0 c0 hk8
  rintro m ⟨x, y, _⟩ H3 ⟨k, hk, rfl, hy, w, f, hx⟩
  simp only at hx hy
  subst hy
  dsimp only
  refine brW_dec (fun hge => ?_) (fun hlt => ?_)
  · obtain ⟨k, rfl⟩ : ∃ n, m = n + 1 := ⟨m - 1, by omega⟩
    rw [show ((k + 1 : Nat) : Int) - 1 = (k : Int) by omega]
    refine joinW_mk (fun q H' => Wave H' g l sg (st2 + (nRows sg - k)) F ∧ Fr (fun k => k = g) H H' ∧
      ((∃ (i : Nat) (hi : i < l.length), l[i] = s ∧ ((l.take i).count s : Int) = j ∧ q.1 = (fallF (nRows sg) l s i k : Int)) ∨ ((l.count s : Int) ≤ j ∧ q.1 = -1))) ?_ ?_
    · obtain ⟨_, _, _, c3, z3⟩ := w.cells
      refine ⟨_, rfl, _, c3, _, rfl, ⟨_, c3⟩, z3, ?_⟩
      refine Wave_up_spec w (by omega) (by omega) fun b Fb H4 w4 f4 hb => ?_
      rw [show st2 + (nRows sg - (k + 1)) + 1 = st2 + (nRows sg - k) by omega] at w4
      have f04 : Fr (fun k => k = g) H H4 := f.trans f4 fun k hk => .inl hk
      have d4 : Deb H4 := hd.keep f04 hg
      have hlen := rowB_len (nRows sg) l k
      have hct := count_two (rowB (nRows sg) l k)
      refine Wave_bit_spec w4 (by omega) (by omega) ?_
      have fin : ∀ H5, Fr noF H4 H5 → Wave H5 g l sg (st2 + (nRows sg - k)) F ∧ Fr (fun k => k = g) H H5 := fun H5 f5 => ⟨w4.old f5, f04.trans f5 fun _ h => h.elim⟩
      have hbit : ∀ (i : Nat) (hi : i < l.length), l[i] = s → (rowB (nRows sg) l k)[fallF (nRows sg) l s i k]? = some (s.testBit (nRows sg - 1 - k)) := by
        intro i hi e
        have := bit_at (nRows sg) l s hi k (by rw [e]; exact agree_self _ _ _)
        rw [e] at this
        exact this
      refine brW_mk (fun hb1 => ?_) (fun hb0 => ?_)
      · rw [hb1] at hbit
        refine Bits_Len_spec hb (Bits_Len_spec hb ?_)
        refine Bits_Rank_spec hb _ true fun H5 f5 => ?_
        rw [Int.toNat_natCast, rk_all _ (Nat.le_refl _), wrap_i64 (n := ((rowB (nRows sg) l k).length : Int) - ((rowB (nRows sg) l k).count true : Int)) (by omega) (by omega)]
        have hb5 := hb.old f5
        have d5 := d4.old f5
        rcases hx with ⟨i, hi, e1, e2, e3⟩ | ⟨n1, n2, n3, n4, n5⟩
        · have hfl := fallF_succ (nRows sg) l s i k
          unfold downF at hfl
          rw [hb1, if_pos rfl] at hfl
          have hrl := rk_le (rowB (nRows sg) l k) (fallF (nRows sg) l s i k) true
          refine Bits_Select_at hb5 d5 (hbit i hi e1) (by rw [wrap_i64 (by omega) (by omega)]; omega) fun H6 f6 => ?_
          obtain ⟨a1, a2⟩ := fin H6 (f5.trans0 f6)
          exact ⟨a1, a2, .inl ⟨i, hi, e1, e2, rfl⟩⟩
        · refine Bits_Select_none hb5 d5 ?_ fun H6 f6 => ?_
          · rcases Classical.em (-9223372036854775808 ≤ x - (((rowB (nRows sg) l k).length : Int) - ((rowB (nRows sg) l k).count true : Int))) with ho | ho
            · rw [wrap_i64 ho (by omega)]
              omega
            · have : IntKind.i64.wrap (x - (((rowB (nRows sg) l k).length : Int) - ((rowB (nRows sg) l k).count true : Int))) = x - (((rowB (nRows sg) l k).length : Int) - ((rowB (nRows sg) l k).count true : Int)) + 18446744073709551616 := by
                unfold IntKind.wrap; simp [IntKind.bits, IntKind.signed]; omega
              rw [this]
              omega
          · obtain ⟨a1, a2⟩ := fin H6 (f5.trans0 f6)
            exact ⟨a1, a2, .inr ⟨n1, rfl⟩⟩
      · rw [hb0] at hbit
        rcases hx with ⟨i, hi, e1, e2, e3⟩ | ⟨n1, n2, n3, n4, n5⟩
        · have hfl := fallF_succ (nRows sg) l s i k
          unfold downF at hfl
          rw [hb0] at hfl
          simp only [Bool.false_eq_true, if_false] at hfl
          refine Bits_Select_at hb d4 (hbit i hi e1) (by omega) fun H6 f6 => ?_
          obtain ⟨a1, a2⟩ := fin H6 f6
          exact ⟨a1, a2, .inl ⟨i, hi, e1, e2, rfl⟩⟩
        · refine Bits_Select_none hb d4 (.inl n2) fun H6 f6 => ?_
          obtain ⟨a1, a2⟩ := fin H6 f6
          exact ⟨a1, a2, .inr ⟨n1, rfl⟩⟩
    · rintro ⟨v, _⟩ H5 ⟨w5, f5, hv5⟩
      refine letV_mk fun k9 hk9 => ?_
      rw [wrap_i64 (by omega) (by omega)] at hk9
      refine ⟨k, by omega, k, by omega, rfl, hk9, w5, f5, ?_⟩
      rcases hv5 with h | ⟨a, b⟩
      · exact .inl h
      · simp only at b
        exact .inr ⟨a, by simp only; omega, by simp only; omega, by omega, fun _ => b⟩
  · have : m = 0 := by omega
    subst this
    rcases hx with ⟨i, hi, e1, e2, e3⟩ | ⟨n1, n2, n3, n4, n5⟩
    · rw [e3]
      exact h1 i hi H3 _ e1 e2 (by omega) w f
    · rw [n5 (by omega)]
      exact h2 H3 _ (.inr n1) (by omega) w f
end
end Go.Proofs.YtkjgbophokcdbaaDoor
