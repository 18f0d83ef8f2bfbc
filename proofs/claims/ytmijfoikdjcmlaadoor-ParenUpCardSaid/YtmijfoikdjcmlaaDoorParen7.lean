import Derived.Test.YtmijfoikdjcmlaaDoorParen6
/-! The laws of package paren: none, raw ones, pairs, spans. -/
namespace Go.Ev
theorem CloseR.ge {m : List Bool} {k x : Int} (h : CloseR m k x) : decide (0 ≤ x) = opn m k := by
  rcases h with ⟨i, c, rfl, h, rfl⟩ | ⟨h, rfl⟩
  · rw [h.opn]; exact decide_eq_true (by omega)
  · rw [h]; rfl
theorem BeginR.ge {m : List Bool} {k x : Int} (h : BeginR m k x) : decide (0 ≤ x) = (decide (0 ≤ k ∧ k < (m.length : Int)) && !opn m k) := by
  rcases h with ⟨i, c, rfl, h, rfl⟩ | ⟨h, rfl⟩
  · have := h.2.1
    rw [h.opn', decide_eq_true (show 0 ≤ (i : Int) by omega), decide_eq_true (show 0 ≤ (c : Int) ∧ (c : Int) < (m.length : Int) by omega)]
    rfl
  · rcases h with h | h | h
    · rw [decide_eq_false (show ¬ (0 ≤ k ∧ k < (m.length : Int)) by omega)]; rfl
    · rw [decide_eq_false (show ¬ (0 ≤ k ∧ k < (m.length : Int)) by omega)]; rfl
    · rw [h, Bool.not_true, Bool.and_false]; rfl
theorem SpanR.gt {m : List Bool} {k x : Int} (h : SpanR m k x) : decide (0 < x) = opn m k := by
  rcases h with ⟨i, c, rfl, h, rfl⟩ | ⟨h, rfl⟩
  · have := h.lt
    rw [h.opn]; exact decide_eq_true (by omega)
  · rw [h]; rfl
theorem number_ge (m : List Bool) (k : Int) : decide (0 ≤ (if opn m k = true then (rk m k.toNat true : Int) else -1)) = opn m k := by
  cases h : opn m k with
  | true => rw [if_pos rfl]; exact decide_eq_true (by omega)
  | false => rw [if_neg (by decide)]; rfl
theorem excess_ge {m : List Bool} (hb : Bal m) (k : Int) : decide (0 ≤ (if 0 ≤ k ∧ k < (m.length : Int) then exc m (k + 1).toNat else -1)) = decide (0 ≤ k ∧ k < (m.length : Int)) := by
  by_cases h : 0 ≤ k ∧ k < (m.length : Int)
  · rw [if_pos h, decide_eq_true h]
    exact decide_eq_true (hb.1 _ (by omega))
  · rw [if_neg h, decide_eq_false h]; rfl
theorem PlaceR.ge {m : List Bool} (hb : Bal m) {n x : Int} (h : PlaceR m n x) : decide (0 ≤ x) = decide (0 ≤ n ∧ n < ((m.length / 2 : Nat) : Int)) := by
  have ht := half_true hb
  rcases h with ⟨p, hp, h1, h2, rfl⟩ | ⟨h, rfl⟩
  · have := rk_lt_count hp h1
    rw [decide_eq_true (show 0 ≤ (p : Int) by omega), decide_eq_true (show 0 ≤ n ∧ n < ((m.length / 2 : Nat) : Int) by omega)]
  · rw [decide_eq_false (show ¬ (0 ≤ n ∧ n < ((m.length / 2 : Nat) : Int)) by omega)]; rfl
theorem UpR.self {m : List Bool} {k x : Int} (h : UpR m k 0 x) : (opn m k = true ∧ x = k) ∨ (opn m k = false ∧ x = -1) := by
  rcases h with ⟨i, n', y, hi, rfl, ho, e, hu, rfl⟩ | ⟨rfl, h⟩
  · obtain rfl : n' = 0 := by omega
    rw [(IsUp.zero m i).uniq hu]
    exact .inl ⟨by rw [opn_in (hu.opens hi ho).1]; exact (hu.opens hi ho).2, rfl⟩
  · cases hb : opn m k with
    | false => exact .inr ⟨rfl, rfl⟩
    | true =>
      obtain ⟨i, hi, rfl, ho⟩ := opn_true hb
      exact absurd (IsUp.zero m i) (h i 0 i hi rfl ho rfl)
theorem UpR.shut {m : List Bool} (hb : Bal m) {k n x : Int} (h : UpR m k n x) (ho : opn m k = false) : x = -1 := h.unique (.none hb (.inl ho))
theorem half_tdiv {l : Nat} (h : l ≤ 1048576) : IntKind.i64.wrap (Int.tdiv (l : Int) 2) = ((l / 2 : Nat) : Int) := by
  rw [show Int.tdiv (l : Int) 2 = ((l / 2 : Nat) : Int) from rfl, wrap_i64 (by omega) (by omega)]
end Go.Ev
namespace Go.Proofs.YtmijfoikdjcmlaaDoor
open Go.Ev
set_option linter.unusedVariables false
theorem ParenRaw_fn (H : Heap) (hd : Deb H) (a : Option Addr) (len cap : Nat) (m : List Bool) (hrd : Rd H (m.map Value.bool) a len) :
    brackenlaw5_ParenRaw.C a len cap H fun b H' => b = true ∧ Fr noF H H' := by
  apply brackenlaw5_ParenRaw.calls
  unfold brackenlaw5_ParenRaw.W
  refine brW_dec (fun _ => PTold_spec hd fun H' f => ⟨rfl, f⟩) (fun hle => ?_)
  refine paren_New_spec hd hrd (by omega) (fun hb => ?_) (fun hb g F H2 s2 => ?_)
  · refine refMayParen_spec hrd (by omega) (fun h => absurd h hb) (fun _ => ?_)
    refine PTold_spec hd fun H4 f4 => brW_true rfl ?_
    exact May_spec (hrd.old f4) (by omega) (fun h => absurd h hb) (fun _ => brW_pos rfl (brW_pos (by decide) (brW_pos rfl (brW_neg (by decide) ⟨by decide, f4⟩))))
  · refine refMayParen_spec (hrd.old s2.fr) (by omega) (fun _ => ?_) (fun h => absurd hb h)
    refine PTold_spec (hd.old s2.fr) fun H4 f4 => brW_true rfl ?_
    have f := s2.fr.trans0 f4
    exact May_spec (hrd.old f) (by omega) (fun _ => brW_pos rfl (brW_pos (by decide) (brW_pos rfl (brW_pos rfl ⟨rfl, f⟩)))) (fun h => absurd hb h)
theorem ParenNone_fn (H : Heap) (hd : Deb H) (a : Option Addr) (len cap : Nat) (zs : List Int) (hrd : Rd H (zs.map (Value.int .i64)) a len) (hw : ∀ z ∈ zs, (Lit.int .i64 z).wf = true) (hb : len ≤ 9223372036854775807) (k : Int) (hk : (Lit.int .i64 k).wf = true) :
    brackenlaw5_ParenNone.C a len cap k H fun b H' => b = true ∧ Fr noF H H' := by
  apply brackenlaw5_ParenNone.calls
  unfold brackenlaw5_ParenNone.W
  refine PRow_spec (most := 200) hrd hb (by decide) fun p l c m H1 hsl hml hl hbal f1 => ?_
  refine paren_New_spec (hd.old f1) hsl.rd (by omega) (fun h => absurd hbal h) fun _ g F H2 s2 => ?_
  refine joinW_thru (joinW_thru (brW_neg (by decide) (brW_false rfl ?_)))
  refine joinW_mk (fun q H' => H2 = H' ∧ q.1 = decide (0 ≤ k ∧ k < (m.length : Int))) ?_ ?_
  · refine brW_dec (fun h => ⟨rfl, ?_⟩) (fun h => ⟨rfl, ?_⟩)
    · show decide (k < (l : Int)) = _
      rw [hml]; simp [h]
    · show false = _
      simp [h]
  rintro ⟨q, _⟩ _ ⟨rfl, hq⟩
  simp only at hq
  subst hq
  dsimp only
  refine joinW_mk (fun q H' => H2 = H' ∧ q.1 = opn m k) ?_ ?_
  · refine brW_dec (fun h => ?_) (fun h => ⟨rfl, (opn_out (by omega)).symm⟩)
    obtain ⟨i, hi, rfl, e⟩ := opn_range h
    obtain ⟨h2, ad, hp, hc⟩ := rd_bool (hsl.rd.old s2.fr) (i := i) (by omega)
    exact ⟨ad, hp, by omega, by omega, _, by rw [Int.toNat_natCast]; exact hc, rfl, e.symm⟩
  rintro ⟨q, _⟩ _ ⟨rfl, hq⟩
  simp only at hq
  subst hq
  dsimp only
  rw [half_tdiv (by omega)]
  refine joinW_mk (fun _ H' => PS H1 H' g m F) ?_ ?_
  · refine joinW_thru ?_
    refine s2.close k fun x40 H9 hx s9 => brW_neg (fun h => h hx.ge) ?_
    refine s9.begins k fun x47 H10 hx s10 => ?_
    rw [hx.ge]
    refine brW_mk (fun hin => ?_) (fun hin => ?_)
    · rw [hin, Bool.true_and]
      refine brW_neg (fun h => h rfl) ?_
      refine s10.span k fun x59 H11 hx s11 => brW_neg (fun h => h hx.gt) ?_
      refine s11.number k fun H12 s12 => brW_neg (fun h => h (number_ge m k)) ?_
      refine s12.excess k fun H13 s13 => brW_neg (fun h => h (by rw [excess_ge hbal k, hin])) ?_
      have hin' := of_decide_eq_true hin
      have fin : ∀ H14, PS H1 H14 g m F → paren_Paren_Place.C (some ⟨g, 0, none⟩) k H14 fun x96 H15 => brW (decide ((0 : Int) ≤ k)) ((2 : Int) ≠ 0 ∧ brW (decide ((decide ((0 : Int) ≤ x96)) ≠ (decide (k < ((l / 2 : Nat) : Int))))) (false = true ∧ Fr noF H H15) (PS H1 H15 g m F)) (brW (decide ((decide ((0 : Int) ≤ x96)) ≠ false)) (false = true ∧ Fr noF H H15) (PS H1 H15 g m F)) := by
        intro H14 s14
        refine s14.place k fun x96 H15 hx s15 => ?_
        rw [hx.ge hbal, hml]
        refine brW_dec (fun h0 => ⟨by decide, brW_neg (fun h => h ?_) s15⟩) (fun h0 => by omega)
        simp [h0]
      refine s13.up k 0 (by decide) fun x83 H14 hx s14 => ?_
      rcases hx.self with ⟨ho, rfl⟩ | ⟨ho, rfl⟩
      · refine brW_neg (fun h => h (by rw [ho]; exact decide_eq_true rfl)) (fin H14 s14)
      · refine brW_dec (fun h => brW_neg (fun h' => ?_) (fin H14 s14)) (fun _ => fin H14 s14)
        rw [ho, decide_eq_false (fun e' => h' e'.symm)] at h
        exact h rfl
    · rw [hin, Bool.false_and]
      refine brW_neg (fun h => h rfl) ?_
      have hno : opn m k = false := opn_out (by have := of_decide_eq_false hin; omega)
      refine s10.span k fun x59 H11 hx s11 => brW_neg (fun h => h hx.gt) ?_
      refine s11.number k fun H12 s12 => brW_neg (fun h => h (number_ge m k)) ?_
      refine s12.excess k fun H13 s13 => brW_neg (fun h => h (by rw [excess_ge hbal k, hin])) ?_
      have hin' := of_decide_eq_false hin
      have fin : ∀ H14, PS H1 H14 g m F → paren_Paren_Place.C (some ⟨g, 0, none⟩) k H14 fun x96 H15 => brW (decide ((0 : Int) ≤ k)) ((2 : Int) ≠ 0 ∧ brW (decide ((decide ((0 : Int) ≤ x96)) ≠ (decide (k < ((l / 2 : Nat) : Int))))) (false = true ∧ Fr noF H H15) (PS H1 H15 g m F)) (brW (decide ((decide ((0 : Int) ≤ x96)) ≠ false)) (false = true ∧ Fr noF H H15) (PS H1 H15 g m F)) := by
        intro H14 s14
        refine s14.place k fun x96 H15 hx s15 => ?_
        rw [hx.ge hbal, hml]
        refine brW_dec (fun h0 => ⟨by decide, brW_neg (fun h => h ?_) s15⟩) (fun h0 => brW_neg (fun h => h ?_) s15)
        · simp [h0]
        · simp [h0]
      refine s13.up k 0 (by decide) fun x83 H14 hx s14 => ?_
      rcases hx.self with ⟨ho, rfl⟩ | ⟨ho, rfl⟩
      · rw [ho] at hno; cases hno
      · refine brW_dec (fun h => brW_neg (fun h' => ?_) (fin H14 s14)) (fun _ => fin H14 s14)
        rw [ho, decide_eq_false (fun e' => h' e'.symm)] at h
        exact h rfl
  · intro _ H7 s7
    refine PTold_spec (s7.deb.old s7.fr) fun H23 f23 => brW_true rfl ?_
    have s23 := s7.old f23
    have fin : ∀ H24, PS H1 H24 g m F → paren_Paren_Open.C (some ⟨g, 0, none⟩) k H24 fun x131 H25 => decide (x131 = opn m k) = true ∧ Fr noF H H25 := fun H24 s24 => s24.opens k fun H25 s25 => ⟨decide_eq_true rfl, f1.trans0 s25.fr⟩
    refine brW_mk (fun ho => brW_mk (fun _ => fin _ s23) (fun h => by rw [ho] at h; cases h)) (fun ho => ?_)
    refine s23.enclose k fun x H27 hx s27 => brW_pos (hx.shut hbal ho) ?_
    refine brW_false ho ?_
    exact s27.up k 1 (by decide) fun x H29 hx s29 => brW_pos (hx.shut hbal ho) (fin H29 s29)
theorem ParenPairs_fn (H : Heap) (hd : Deb H) (a : Option Addr) (len cap : Nat) (zs : List Int) (hrd : Rd H (zs.map (Value.int .i64)) a len) (hw : ∀ z ∈ zs, (Lit.int .i64 z).wf = true) (hb : len ≤ 9223372036854775807) :
    brackenlaw5_ParenPairs.C a len cap H fun b H' => b = true ∧ Fr noF H H' := by
  apply brackenlaw5_ParenPairs.calls
  unfold brackenlaw5_ParenPairs.W
  refine PRow_spec (most := 300) hrd hb (by decide) fun p l c m H1 hsl hml hl hbal f1 => ?_
  refine paren_New_spec (hd.old f1) hsl.rd (by omega) (fun h => absurd hbal h) fun _ g F H2 s2 => ?_
  refine joinW_thru (joinW_thru (brW_neg (by decide) (brW_false rfl ?_)))
  refine joinW_mk (fun _ H' => PS H1 H' g m F) ?_ ?_
  · refine loopW_mk (fun t (q : Int × Unit) H' => ∃ k : Nat, t = l + 1 - k ∧ q.1 = (k : Int) ∧ PS H1 H' g m F) (l + 1) ⟨0, rfl, rfl, s2⟩ ?_
    rintro t ⟨x, _⟩ H6 ⟨k, rfl, hx, s6⟩
    simp only at hx
    subst hx
    dsimp only
    refine brW_dec (fun hlt => ?_) (fun _ => s6)
    have hk : k < m.length := by omega
    refine joinW_mk (fun _ H' => PS H1 H' g m F) ?_ ?_
    · obtain ⟨h2, ad, hp, hc⟩ := rd_bool (hsl.rd.old s6.fr) (i := k) (by omega)
      refine ⟨ad, hp, by omega, by omega, _, by rw [Int.toNat_natCast]; exact hc, brW_mk (fun ho => ?_) (fun ho => ?_)⟩
      · have ho : m[k] = false := by simpa using ho
        obtain ⟨i, hpair⟩ := pair_ex' hbal hk ho
        have hil := hpair.lt
        refine s6.begins k fun x H8 hx s8 => joinW_thru ?_
        obtain rfl : x = (i : Int) := hx.unique (.inl ⟨i, k, rfl, hpair, rfl⟩)
        refine brW_neg (by omega) (brW_neg (by omega) ?_)
        refine s8.close i fun x H10 hx s10 => ?_
        obtain rfl : x = (k : Int) := hx.unique (.inl ⟨i, k, rfl, hpair, rfl⟩)
        exact brW_neg (fun h => h rfl) s10
      · have ho : m[k] = true := by simpa using ho
        obtain ⟨c', hpair⟩ := pair_ex hbal hk ho
        have hil := hpair.lt
        have hcl := hpair.2.1
        have hup := of_up hk ho
        refine s6.close k fun x H11 hx s11 => ?_
        obtain rfl : x = (c' : Int) := hx.unique (.inl ⟨k, c', rfl, hpair, rfl⟩)
        refine s11.enclose k fun u H12 hu s12 => ?_
        -- whether one lies around
        have hu' : (∃ y : Nat, u = (y : Int) ∧ IsUp m k 1 y ∧ 1 < exc m (k + 1)) ∨ (u = -1 ∧ ¬ 1 < exc m (k + 1)) := by
          rcases hu with ⟨i, n', y, hi, e1, _, e2, hu, rfl⟩ | ⟨rfl, hn⟩
          · obtain rfl : k = i := by omega
            obtain rfl : n' = 1 := by omega
            refine .inl ⟨y, rfl, hu, ?_⟩
            have := hu.2.1
            have := hbal.1 y (by have := hu.1; omega)
            omega
          · refine .inr ⟨rfl, fun h => ?_⟩
            obtain ⟨y, hy⟩ := up_ex (m := m) (k := k) (by omega) 1 (by omega)
            exact hn k 1 y hk rfl ho rfl hy
        have hexc : (if 0 ≤ (k : Int) ∧ (k : Int) < (m.length : Int) then exc m ((k : Int) + 1).toNat else -1) = exc m (k + 1) := by
          rw [if_pos (by omega)]
          congr 1
        refine joinW_mk (fun _ H' => PS H1 H' g m F) ?_ ?_
        · refine joinW_thru (brW_neg (by omega) (brW_neg (by omega) ?_))
          refine s12.begins c' fun x H15 hx s15 => ?_
          obtain rfl : x = (k : Int) := hx.unique (.inl ⟨k, c', rfl, hpair, rfl⟩)
          refine brW_neg (fun h => h rfl) ?_
          rw [wrap_i64 (n := (k : Int) + 1) (by omega) (by omega), show (k : Int) + 1 = ((k + 1 : Nat) : Int) by omega, Int.toNat_natCast, Int.toNat_natCast]
          have hcap := hsl.cap
          refine ⟨by omega, by omega, by omega, by omega, ?_⟩
          have hrd15 := rd_sub (hsl.keep s15.fr fun _ _ h => h) (lo := k + 1) (hi := c') (by omega) (by omega)
          rw [← List.map_drop, ← List.map_take] at hrd15
          refine May_spec hrd15 (by omega) (fun _ => brW_false rfl ?_) (fun h => absurd (between_bal hpair) h)
          refine s15.span k fun x H17 hx s17 => ⟨by decide, ?_⟩
          obtain rfl : x = (((c' - k + 1) / 2 : Nat) : Int) := hx.unique (.inl ⟨k, c', rfl, hpair, rfl⟩)
          have ed : Int.tdiv ((c' - k + 1 : Nat) : Int) 2 = (((c' - k + 1) / 2 : Nat) : Int) := rfl
          rw [wrap_i64 (n := (c' : Int) - (k : Int)) (by omega) (by omega), wrap_i64 (n := (c' : Int) - (k : Int) + 1) (by omega) (by omega), show (c' : Int) - (k : Int) + 1 = ((c' - k + 1 : Nat) : Int) by omega, ed, wrap_i64 (n := (((c' - k + 1) / 2 : Nat) : Int)) (by omega) (by omega)]
          refine brW_neg (fun h => h rfl) ?_
          refine s17.number k fun H18 s18 => ?_
          rw [if_pos (by rw [opn_in hk, ho]), Int.toNat_natCast]
          refine s18.place _ fun x H19 hx s19 => ?_
          obtain rfl : x = (k : Int) := hx.unique (.inl ⟨k, hk, ho, rfl, rfl⟩)
          refine brW_neg (fun h => h rfl) ?_
          refine s19.excess k fun H20 s20 => ?_
          rw [hexc]
          refine brW_neg (fun h => h ?_) s20
          rcases hu' with ⟨y, rfl, _, h1⟩ | ⟨rfl, h1⟩
          · rw [decide_eq_true h1]; exact decide_eq_true (by omega)
          · rw [decide_eq_false h1]; rfl
        · intro _ H13 s13
          refine joinW_thru (brW_dec (fun h0 => ?_) (fun h0 => brW_false rfl s13))
          obtain ⟨y, rfl, huy, h1⟩ : ∃ y : Nat, u = (y : Int) ∧ IsUp m k 1 y ∧ 1 < exc m (k + 1) := by
            rcases hu' with h | ⟨rfl, _⟩
            · exact h
            · exact absurd h0 (by decide)
          obtain ⟨hy, hoy⟩ := huy.opens hk ho
          obtain ⟨c2, hpair2⟩ := pair_ex hbal hy hoy
          obtain ⟨hyk, hcc⟩ := around hpair huy hpair2
          refine brW_neg (by omega) ?_
          refine s13.close y fun x H22 hx s22 => ?_
          obtain rfl : x = (c2 : Int) := hx.unique (.inl ⟨y, c2, rfl, hpair2, rfl⟩)
          refine brW_neg (by omega) ?_
          refine s22.excess y fun H23 s23 => s23.excess k fun H24 s24 => ?_
          have hexy : (if 0 ≤ (y : Int) ∧ (y : Int) < (m.length : Int) then exc m ((y : Int) + 1).toNat else -1) = exc m (y + 1) := by
            rw [if_pos (by omega)]
            congr 1
          have hle := exc_le m (k + 1)
          have hupy := of_up hy hoy
          have h21 := huy.2.1
          rw [hexc, hexy, wrap_i64 (n := exc m (k + 1) - 1) (by omega) (by omega)]
          refine brW_neg (by omega) ?_
          refine s24.up k 1 (by decide) fun x H25 hx s25 => ?_
          obtain rfl : x = (y : Int) := hx.unique (.inl ⟨k, 1, y, hk, rfl, ho, rfl, huy, rfl⟩)
          exact brW_neg (fun h => h rfl) s25
    · intro _ H7 s7
      refine ⟨by decide, letV_mk fun k6 hk6 => ?_⟩
      have hdv : Int.tdiv (l : Int) 60 = ((l / 60 : Nat) : Int) := rfl
      have hdl : l / 60 ≤ l := Nat.div_le_self _ _
      rw [hdv, wrap_i64 (n := (k : Int) + 1) (by omega) (by omega), wrap_i64 (n := ((l / 60 : Nat) : Int)) (by omega) (by omega), wrap_i64 (by omega) (by omega)] at hk6
      refine ⟨l + 1 - (k + 1 + l / 60), by omega, k + 1 + l / 60, rfl, ?_, s7⟩
      show k6 = _
      omega
  · intro _ H5 s5
    exact PTold_spec (s5.deb.old s5.fr) fun H26 f26 => ⟨rfl, f1.trans0 (s5.old f26).fr⟩
theorem ParenSpans_fn (H : Heap) (hd : Deb H) (a : Option Addr) (len cap : Nat) (zs : List Int) (hrd : Rd H (zs.map (Value.int .i64)) a len) (hw : ∀ z ∈ zs, (Lit.int .i64 z).wf = true) (hb : len ≤ 9223372036854775807) :
    brackenlaw5_ParenSpans.C a len cap H fun b H' => b = true ∧ Fr noF H H' := by
  apply brackenlaw5_ParenSpans.calls
  unfold brackenlaw5_ParenSpans.W
  refine PRow_spec (most := 200) hrd hb (by decide) fun p l c m H1 hsl hml hl hbal f1 => ?_
  refine paren_New_spec (hd.old f1) hsl.rd (by omega) (fun h => absurd hbal h) fun _ g F H2 s2 => ?_
  refine joinW_thru (joinW_thru (brW_neg (by decide) (brW_false rfl ?_)))
  have bRow : ∀ n, sumN (fun k => cnt (fun j => inB m k j) m.length) n ≤ n * m.length := sumN_le fun j => cnt_le _ _
  have bCol : ∀ n, sumN (fun j => cnt (fun k => inB m k j) m.length) n ≤ n * m.length := sumN_le fun j => cnt_le _ _
  have hbig : ∀ n, n ≤ l → n * m.length ≤ 400 * 400 := fun n hn => Nat.mul_le_mul (by omega) (by omega)
  refine joinW_mk (fun (q : Int × Int × Unit) H' => q.1 = q.2.1 ∧ PS H1 H' g m F) ?_ ?_
  · refine loopW_mk (fun t (q : Int × Int × Int × Unit) H' => ∃ k : Nat, k ≤ l ∧ t = l - k ∧ q.1 = (sumN (fun k => cnt (fun j => inB m k j) m.length) k : Int) ∧ q.2.1 = (sumN (fun j => cnt (fun k => inB m k j) m.length) k : Int) ∧ q.2.2.1 = (k : Int) ∧ PS H1 H' g m F) l ⟨0, Nat.zero_le _, rfl, rfl, rfl, rfl, s2⟩ ?_
    rintro t ⟨x, y, z, _⟩ H6 ⟨k, hkl, rfl, hx, hy, hz, s6⟩
    simp only at hx hy hz
    subst hx hy hz
    dsimp only
    refine brW_dec (fun hlt => ?_) (fun hge => ?_)
    · have hk : k < m.length := by omega
      have b1 := bRow (k + 1)
      have b2 := bCol (k + 1)
      have b3 := hbig (k + 1) (by omega)
      refine joinW_mk (fun (q : Int × Int × Unit) H' => q.1 = (sumN (fun k => cnt (fun j => inB m k j) m.length) (k + 1) : Int) ∧ q.2.1 = (sumN (fun j => cnt (fun k => inB m k j) m.length) (k + 1) : Int) ∧ PS H1 H' g m F) ?_ ?_
      · have hexc : (if 0 ≤ (k : Int) ∧ (k : Int) < (m.length : Int) then exc m ((k : Int) + 1).toNat else -1) = exc m (k + 1) := by
          rw [if_pos (by omega)]
          congr 1
        refine joinW_mk (fun (q : Int × Int × Unit) H' => q.1 = (sumN (fun k => cnt (fun j => inB m k j) m.length) (k + 1) : Int) ∧ q.2.1 = (sumN (fun j => cnt (fun k => inB m k j) m.length) (k + 1) : Int) ∧ PS H1 H' g m F) ?_ ?_
        · rw [sumN, sumN] at *
          obtain ⟨h2, ad, hp, hc⟩ := rd_bool (hsl.rd.old s6.fr) (i := k) (by omega)
          refine ⟨ad, hp, by omega, by omega, _, by rw [Int.toNat_natCast]; exact hc, brW_mk (fun ho => ?_) (fun ho => ?_)⟩
          · obtain ⟨c', hpair⟩ := pair_ex hbal hk ho
            have hr := row_sum hpair
            have hcs := col_sum hbal hk ho
            refine s6.span k fun x H9 hx s9 => s9.excess k fun H10 s10 => letV_mk fun x1 hx1 => letV_mk fun y1 hy1 => ?_
            obtain rfl : x = (((c' - k + 1) / 2 : Nat) : Int) := hx.unique (.inl ⟨k, c', rfl, hpair, rfl⟩)
            rw [hexc] at hy1
            rw [wrap_i64 (by omega) (by omega)] at hx1 hy1
            refine ⟨?_, ?_, s10⟩
            · show x1 = _
              omega
            · show y1 = _
              omega
          · have hr := row_none hk ho
            have hcs := col_none hk ho
            refine ⟨?_, ?_, s6⟩
            · show (sumN _ k : Int) = _
              omega
            · show (sumN _ k : Int) = _
              omega
        · rintro ⟨x1, y1, _⟩ H8 ⟨hx1, hy1, s8⟩
          simp only at hx1 hy1
          subst hx1 hy1
          dsimp only
          refine joinW_thru ?_
          obtain ⟨h2, ad, hp, hc⟩ := rd_bool (hsl.rd.old s8.fr) (i := k) (by omega)
          refine ⟨ad, hp, by omega, by omega, _, by rw [Int.toNat_natCast]; exact hc, ?_⟩
          refine s8.opens k fun H12 s12 => ?_
          obtain ⟨h2, ad', hp', hc'⟩ := rd_bool (hsl.rd.old s12.fr) (i := k) (by omega)
          obtain rfl : ad' = ad := by rw [hp] at hp'; exact (Option.some.inj hp').symm
          rw [opn_in hk]
          refine ⟨⟨_, by rw [Int.toNat_natCast]; exact hc', rfl⟩, brW_neg (fun h => h rfl) ?_⟩
          refine s12.excess k fun H13 s13 => ?_
          rw [wrap_i64 (n := (k : Int) + 1) (by omega) (by omega), show (k : Int) + 1 = ((k + 1 : Nat) : Int) by omega] at *
          refine refRank_spec (hsl.rd.old s13.fr) (by omega) _ true (refRank_spec (hsl.rd.old s13.fr) (by omega) _ false ?_)
          rw [hexc, Int.toNat_natCast]
          have hboth := rk_both m (k + 1) (by omega)
          rw [wrap_i64 (by omega) (by omega)]
          refine brW_neg (fun h => h ?_) ⟨rfl, rfl, s13⟩
          unfold exc
          omega
      · rintro ⟨x1, y1, _⟩ H7 ⟨hx1, hy1, s7⟩
        simp only at hx1 hy1
        subst hx1 hy1
        refine letV_mk fun k8 hk8 => ⟨l - (k + 1), by omega, k + 1, by omega, rfl, rfl, rfl, ?_, s7⟩
        show k8 = _
        rw [hk8, wrap_i64 (by omega) (by omega)]; rfl
    · obtain rfl : k = m.length := by omega
      refine ⟨?_, s6⟩
      show (sumN _ _ : Int) = (sumN _ _ : Int)
      rw [spans_eq]
  · rintro ⟨x, y, _⟩ H5 ⟨hxy, s5⟩
    simp only at hxy
    subst hxy
    dsimp only
    refine joinW_mk (fun (q : Int × Unit) H' => 2 * q.1 = (l : Int) ∧ PS H1 H' g m F) ?_ ?_
    · refine loopW_mk (fun t (q : Int × Int × Int × Unit) H' => ∃ at_ n i : Nat, at_ ≤ l ∧ t = l - at_ ∧ q.1 = (at_ : Int) ∧ q.2.1 = (n : Int) ∧ q.2.2.1 = (i : Int) ∧ 2 * n = at_ ∧ 2 * i ≤ at_ ∧ exc m at_ = 0 ∧ PS H1 H' g m F) l ⟨0, 0, 0, Nat.zero_le _, rfl, rfl, rfl, rfl, rfl, Nat.le_refl _, exc_zero m, s5⟩ ?_
      rintro t ⟨x, y, z, _⟩ H17 ⟨at_, n, i, hal, rfl, hx, hy, hz, h2n, h2i, h0, s17⟩
      simp only at hx hy hz
      subst hx hy hz
      dsimp only
      refine joinW_mk (fun _ H' => H17 = H' ∧ at_ < l) ?_ ?_
      · refine brW_dec (fun h1 => brW_dec (fun h2 => ⟨rfl, by omega⟩) (fun h2 => by omega)) (fun h1 => ⟨?_, s17⟩)
        show 2 * (n : Int) = (l : Int)
        omega
      · rintro _ _ ⟨rfl, hlt⟩
        have hk : at_ < m.length := by omega
        have ho : m[at_] = true := by
          refine up_of hk ?_
          have := exc_step hk
          have := hbal.1 (at_ + 1) (by omega)
          omega
        obtain ⟨c', hpair⟩ := pair_ex hbal hk ho
        have hil := hpair.lt
        have hcl := hpair.2.1
        have h3 := hpair.2.2.1
        refine s17.close at_ fun x H19 hx s19 => ?_
        obtain rfl : x = (c' : Int) := hx.unique (.inl ⟨at_, c', rfl, hpair, rfl⟩)
        refine brW_neg (by omega) ?_
        refine s19.span at_ fun x H20 hx s20 => ?_
        obtain rfl : x = (((c' - at_ + 1) / 2 : Nat) : Int) := hx.unique (.inl ⟨at_, c', rfl, hpair, rfl⟩)
        have heven : (c' - at_ + 1) % 2 = 0 := by
          unfold exc at h3
          omega
        refine letV_mk fun n10 hn10 => letV_mk fun at9 hat9 => letV_mk fun i11 hi11 => ?_
        rw [wrap_i64 (by omega) (by omega)] at hn10 hat9 hi11
        refine ⟨l - (c' + 1), by omega, c' + 1, n + (c' - at_ + 1) / 2, i + 1, by omega, rfl, hat9, ?_, hi11, by omega, by omega, by omega, s20⟩
        show n10 = _
        omega
    · rintro ⟨n10, _⟩ H16 ⟨hn, s16⟩
      simp only at hn
      dsimp only
      refine PTold_spec (s16.deb.old s16.fr) fun H21 f21 => brW_true rfl (brW_pos rfl ⟨?_, f1.trans0 (s16.old f21).fr⟩)
      rw [wrap_i64 (by omega) (by omega)]
      exact decide_eq_true hn
end Go.Proofs.YtmijfoikdjcmlaaDoor
