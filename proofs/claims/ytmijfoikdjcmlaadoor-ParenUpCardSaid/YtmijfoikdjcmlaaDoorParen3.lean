import Derived.Test.YtmijfoikdjcmlaaDoorParen2
import Derived.Test.YtmijfoikdjcmlaaDoorBits5
/-! Package paren: what is asked. -/
namespace Go.Ev
def CloseR (m : List Bool) (k x : Int) : Prop := (∃ i c : Nat, k = (i : Int) ∧ IsPair m i c ∧ x = (c : Int)) ∨ (opn m k = false ∧ x = -1)
def BeginR (m : List Bool) (k x : Int) : Prop := (∃ i c : Nat, k = (c : Int) ∧ IsPair m i c ∧ x = (i : Int)) ∨ ((k < 0 ∨ (m.length : Int) ≤ k ∨ opn m k = true) ∧ x = -1)
def UpR (m : List Bool) (k n x : Int) : Prop := (∃ (i n' y : Nat) (hi : i < m.length), k = (i : Int) ∧ m[i] = true ∧ n = (n' : Int) ∧ IsUp m i n' y ∧ x = (y : Int)) ∨ (x = -1 ∧ ∀ (i n' y : Nat) (hi : i < m.length), k = (i : Int) → m[i] = true → n = (n' : Int) → ¬ IsUp m i n' y)
def SpanR (m : List Bool) (k x : Int) : Prop := (∃ i c : Nat, k = (i : Int) ∧ IsPair m i c ∧ x = (((c - i + 1) / 2 : Nat) : Int)) ∨ (opn m k = false ∧ x = 0)
def PlaceR (m : List Bool) (n x : Int) : Prop := (∃ (p : Nat) (hp : p < m.length), m[p] = true ∧ (rk m p true : Int) = n ∧ x = (p : Int)) ∨ ((n < 0 ∨ (m.count true : Int) ≤ n) ∧ x = -1)
theorem IsPair.opn {m : List Bool} {i c : Nat} (h : IsPair m i c) : opn m (i : Int) = true := by
  obtain ⟨hi, ho⟩ := h.opens
  rw [opn_in hi, ho]
theorem IsPair.opn' {m : List Bool} {i c : Nat} (h : IsPair m i c) : Go.Ev.opn m (c : Int) = false := by
  obtain ⟨hi, ho⟩ := h.closes
  rw [opn_in hi, ho]
theorem CloseR.unique {m : List Bool} {k x y : Int} (h : CloseR m k x) (h' : CloseR m k y) : x = y := by
  rcases h with ⟨i, c, rfl, h, rfl⟩ | ⟨h, rfl⟩ <;> rcases h' with ⟨i', c', e, h', rfl⟩ | ⟨h', rfl⟩
  · obtain rfl : i = i' := by omega
    rw [h.uniq h']
  · rw [h.opn] at h'; cases h'
  · rw [e, h'.opn] at h; cases h
  · rfl
theorem BeginR.unique {m : List Bool} {k x y : Int} (h : BeginR m k x) (h' : BeginR m k y) : x = y := by
  rcases h with ⟨i, c, rfl, h, rfl⟩ | ⟨h, rfl⟩ <;> rcases h' with ⟨i', c', e, h', rfl⟩ | ⟨h', rfl⟩
  · obtain rfl : c = c' := by omega
    rw [h.uniq' h']
  · rw [h.opn'] at h'
    have := h.2.1
    rcases h' with h' | h' | h'
    · omega
    · omega
    · cases h'
  · rw [e, h'.opn'] at h
    have := h'.2.1
    rcases h with h | h | h
    · omega
    · omega
    · cases h
  · rfl
theorem UpR.unique {m : List Bool} {k n x y : Int} (h : UpR m k n x) (h' : UpR m k n y) : x = y := by
  rcases h with ⟨i, n', z, hi, rfl, ho, rfl, h, rfl⟩ | ⟨rfl, h⟩ <;> rcases h' with ⟨i', n'', z', hi', e, ho', e', h', rfl⟩ | ⟨rfl, h'⟩
  · obtain rfl : i = i' := by omega
    obtain rfl : n' = n'' := by omega
    rw [h.uniq h']
  · exact absurd h (h' i n' z hi rfl ho rfl)
  · exact absurd h' (h i' n'' z' hi' e ho' e')
  · rfl
theorem SpanR.unique {m : List Bool} {k x y : Int} (h : SpanR m k x) (h' : SpanR m k y) : x = y := by
  rcases h with ⟨i, c, rfl, h, rfl⟩ | ⟨h, rfl⟩ <;> rcases h' with ⟨i', c', e, h', rfl⟩ | ⟨h', rfl⟩
  · obtain rfl : i = i' := by omega
    rw [h.uniq h']
  · rw [h.opn] at h'; cases h'
  · rw [e, h'.opn] at h; cases h
  · rfl
theorem PlaceR.unique {m : List Bool} {n x y : Int} (h : PlaceR m n x) (h' : PlaceR m n y) : x = y := by
  rcases h with ⟨p, hp, h1, h2, rfl⟩ | ⟨h, rfl⟩ <;> rcases h' with ⟨p', hp', h1', h2', rfl⟩ | ⟨h', rfl⟩
  · rw [rk_unique hp hp' h1 h1' (by omega)]
  · have := rk_lt_count hp h1
    omega
  · have := rk_lt_count hp' h1'
    omega
  · rfl
theorem UpR.none {m : List Bool} (hb : Bal m) {k n : Int} (h : opn m k = false ∨ n < 0 ∨ (∃ i : Nat, k = (i : Int) ∧ exc m i < n)) : UpR m k n (-1) := by
  refine .inr ⟨rfl, fun i n' y hi e ho e' hu => ?_⟩
  subst e e'
  rcases h with h | h | ⟨i', e, h⟩
  · rw [opn_in hi, ho] at h; cases h
  · omega
  · obtain rfl : i = i' := by omega
    obtain ⟨a, b, _⟩ := hu
    have := hb.1 y (by omega)
    omega
end Go.Ev
namespace Go.Proofs.YtmijfoikdjcmlaaDoor
open Go.Ev
set_option linter.unusedVariables false
theorem deb_lt {H : Heap} (hd : Deb H) : gl_bits_deBruijn64tab < Array.size H := by
  have := hcell_lt (hd 0 (by decide))
  rw [add_block] at this
  exact this
/-- A Paren, of which not more was asked for than may be. -/
def PB (H : Heap) (g : Nat) (m : List Bool) (F : Nat → Prop) : Prop := ∃ h st, st ≤ 2 * h + 3 ∧ Paren H g m h st F
/-- A Paren that has come behind a heap, and that heap as it was. -/
structure PS (H0 H : Heap) (g : Nat) (m : List Bool) (F : Nat → Prop) : Prop where
  pb : PB H g m F
  fr : Fr noF H0 H
  new : Array.size H0 ≤ g
  deb : Deb H0
section
variable {H0 H : Heap} {g : Nat} {m : List Bool} {F : Nat → Prop}
theorem PS.step {H' : Heap} (s : PS H0 H g m F) {h st : Nat} (hst : st ≤ 2 * h + 3) (w : Paren H' g m h st F) (f : Fr (fun k => k = g) H H') : PS H0 H' g m F :=
  ⟨⟨h, st, hst, w⟩, s.fr.trans f fun k hk => .inr (by have := s.new; omega), s.new, s.deb⟩
theorem PS.old {H' : Heap} (s : PS H0 H g m F) (f : Fr noF H H') : PS H0 H' g m F := by
  obtain ⟨h, st, a, p⟩ := s.pb
  exact ⟨⟨h, st, a, p.old f⟩, s.fr.trans0 f, s.new, s.deb⟩
theorem PS.bal (s : PS H0 H g m F) : Bal m := by
  obtain ⟨h, st, a, p⟩ := s.pb
  exact p.facts.1
theorem PS.few (s : PS H0 H g m F) : m.length ≤ 4194304 := by
  obtain ⟨h, st, a, p⟩ := s.pb
  exact p.facts.2.1
theorem PS.len (s : PS H0 H g m F) {R : Int → Heap → Prop} (hR : R (m.length : Int) H) : paren_Paren_Len.C (some ⟨g, 0, none⟩) H R := by
  obtain ⟨h, st, a, p⟩ := s.pb
  exact PLen_spec p hR
theorem PS.opens (s : PS H0 H g m F) (k : Int) {R : Bool → Heap → Prop} (hR : ∀ H', PS H0 H' g m F → R (opn m k) H') : paren_Paren_Open.C (some ⟨g, 0, none⟩) k H R := by
  obtain ⟨h, st, a, p⟩ := s.pb
  exact Open_spec p k fun H' f => hR H' (s.old f)
theorem PS.excess (s : PS H0 H g m F) (k : Int) {R : Int → Heap → Prop} (hR : ∀ H', PS H0 H' g m F → R (if 0 ≤ k ∧ k < (m.length : Int) then exc m (k + 1).toNat else -1) H') : paren_Paren_Excess.C (some ⟨g, 0, none⟩) k H R := by
  obtain ⟨h, st, a, p⟩ := s.pb
  apply paren_Paren_Excess.calls
  unfold paren_Paren_Excess.W
  refine joinW_thru (joinW_thru ?_)
  refine brW_dec (fun h0 => brW_true rfl ?_) (fun h0 => PLen_spec p (brW_dec (fun h1 => ?_) (fun h1 => ?_)))
  · have := hR H s
    rwa [if_neg (by omega)] at this
  · have := hR H s
    rwa [if_neg (by omega)] at this
  · refine upto_spec p (i := (k + 1).toNat) (by omega) (by omega) fun H4 f4 => ?_
    have := hR H4 (s.old f4)
    rwa [if_pos (by omega)] at this
theorem PS.close (s : PS H0 H g m F) (k : Int) {R : Int → Heap → Prop} (hR : ∀ x H', CloseR m k x → PS H0 H' g m F → R x H') : paren_Paren_Close.C (some ⟨g, 0, none⟩) k H R := by
  have hb := s.bal
  have hfew := s.few
  obtain ⟨h, st, a, p⟩ := s.pb
  obtain ⟨_, _, c3, z3⟩ := p.cells
  apply paren_Paren_Close.calls
  unfold paren_Paren_Close.W
  refine brW_false rfl ⟨_, rfl, ⟨_, c3⟩, z3, letV_mk fun H1 h1 => ?_⟩
  obtain ⟨p1, f1⟩ := p.step 0 h1
  refine Open_spec p1 k fun H2 f2 => ?_
  have p2 := p1.old f2
  have f02 : Fr (fun k => k = g) H H2 := f1.trans f2 fun _ h => h.elim
  refine brW_mk (fun hn => hR _ H2 (.inr ⟨by simpa using hn, rfl⟩) (s.step (by omega) p2 f02)) (fun hn => ?_)
  obtain ⟨i, hi, rfl, ho⟩ := opn_true (by simpa using hn)
  refine upto_spec p2 (i := i + 1) (by omega) (by omega) fun H3 f3 => ?_
  have hup := of_up hi ho
  have hle := exc_le m (i + 1)
  rw [wrap_i64 (by omega) (by omega), show exc m (i + 1) - 1 = exc m i by omega]
  have f03 : Fr (fun k => k = g) H H3 := f02.trans f3 fun _ h => h.elim
  refine forward_spec (p2.old f3) (by omega) hi (by omega) (fun c H4 st4 e1 e2 e3 e4 e5 p4 f4 => ?_) (fun H4 st4 hno e5 p4 f4 => ?_)
  · refine hR _ H4 (.inl ⟨i, c, rfl, ⟨by omega, e2, e3, fun y h1 h2 => ?_⟩, rfl⟩) (s.step (by omega) p4 (f03.trans f4 fun k hk => .inl hk))
    rcases Nat.eq_or_lt_of_le (show i + 1 ≤ y by omega) with e | e
    · rw [← e]; omega
    · have := e4 (y - 1) (by omega) (by omega)
      rwa [show y - 1 + 1 = y by omega] at this
  · exfalso
    obtain ⟨c, hc⟩ := pair_ex hb hi ho
    have := hno c hc.lt hc.2.1
    have := hc.2.2.1
    omega
theorem PS.begins (s : PS H0 H g m F) (k : Int) {R : Int → Heap → Prop} (hR : ∀ x H', BeginR m k x → PS H0 H' g m F → R x H') : paren_Paren_Begin.C (some ⟨g, 0, none⟩) k H R := by
  have hb := s.bal
  have hfew := s.few
  obtain ⟨h, st, a, p⟩ := s.pb
  obtain ⟨_, _, c3, z3⟩ := p.cells
  apply paren_Paren_Begin.calls
  unfold paren_Paren_Begin.W
  refine brW_false rfl ⟨_, rfl, ⟨_, c3⟩, z3, letV_mk fun H1 h1 => ?_⟩
  obtain ⟨p1, f1⟩ := p.step 0 h1
  apply paren_Paren_closes.calls
  unfold paren_Paren_closes.W
  have s1 : PS H0 H1 g m F := s.step (by omega) p1 f1
  refine brW_dec (fun h0 => PLen_spec p1 (brW_dec (fun hl => ?_) (fun hl => brW_true rfl (hR _ H1 (.inr ⟨by omega, rfl⟩) s1)))) (fun h0 => brW_true rfl (hR _ H1 (.inr ⟨by omega, rfl⟩) s1))
  refine Open_spec p1 k fun H2 f2 => ?_
  have p2 := p1.old f2
  have f02 : Fr (fun k => k = g) H H2 := f1.trans f2 fun _ h => h.elim
  refine brW_mk (fun hn => hR _ H2 (.inr ⟨.inr (.inr (by simpa using hn)), rfl⟩) (s.step (by omega) p2 f02)) (fun hn => ?_)
  obtain ⟨c, rfl⟩ : ∃ n : Nat, k = (n : Int) := ⟨k.toNat, by omega⟩
  have hc : c < m.length := by omega
  rw [opn_in hc] at hn
  have ho : m[c] = false := by simpa using hn
  refine upto_spec p2 (i := c + 1) (by omega) (by omega) fun H3 f3 => ?_
  have hdn := of_down hc ho
  have hle := exc_le m (c + 1)
  have f03 : Fr (fun k => k = g) H H3 := f02.trans f3 fun _ h => h.elim
  refine backward_spec (p2.old f3) (by omega) hc (by omega) (fun i H4 st4 e1 e3 e4 e5 p4 f4 => letV_mk fun x hx => ?_) (fun H4 st4 hno e5 p4 f4 => letV_mk fun x hx => ?_)
  · rw [wrap_i64 (by omega) (by omega)] at hx
    refine hR _ H4 (.inl ⟨i + 1, c, rfl, ⟨by omega, hc, by omega, fun y h1 h2 => ?_⟩, by omega⟩) (s.step (by omega) p4 (f03.trans f4 fun k hk => .inl hk))
    have := e4 (y - 1) (by omega) (by omega)
    rw [show y - 1 + 1 = y by omega] at this
    omega
  · obtain ⟨i, hp⟩ := pair_ex' hb hc ho
    have hi0 : i = 0 := by
      rcases Nat.eq_zero_or_pos i with e | e
      · exact e
      · have := hno (i - 1) (by have := hp.1; omega)
        rw [show i - 1 + 1 = i by omega] at this
        have := hp.2.2.1
        omega
    subst hi0
    have h0 := hp.2.2.1
    rw [exc_zero] at h0
    rw [if_pos h0, wrap_i64 (by omega) (by omega)] at hx
    exact hR _ H4 (.inl ⟨0, c, rfl, hp, by omega⟩) (s.step (by omega) p4 (f03.trans f4 fun k hk => .inl hk))
theorem PS.up (s : PS H0 H g m F) (k n : Int) (hn : n ≤ 9223372036854775807) {R : Int → Heap → Prop} (hR : ∀ x H', UpR m k n x → PS H0 H' g m F → R x H') : paren_Paren_Up.C (some ⟨g, 0, none⟩) k n H R := by
  have hb := s.bal
  have hfew := s.few
  obtain ⟨h, st, a, p⟩ := s.pb
  obtain ⟨_, _, c3, z3⟩ := p.cells
  apply paren_Paren_Up.calls
  unfold paren_Paren_Up.W
  refine brW_false rfl ⟨_, rfl, ⟨_, c3⟩, z3, letV_mk fun H1 h1 => ?_⟩
  obtain ⟨p1, f1⟩ := p.step 0 h1
  refine joinW_mk (fun _ H' => (∃ (i n' : Nat) (hi : i < m.length), k = (i : Int) ∧ m[i] = true ∧ n = (n' : Int) ∧ (n' : Int) ≤ exc m i) ∧ Paren H' g m h 0 F ∧ Fr (fun k => k = g) H H') ?_ ?_
  · refine joinW_thru ?_
    refine Open_spec p1 k fun H2 f2 => ?_
    have p2 := p1.old f2
    have f02 : Fr (fun k => k = g) H H2 := f1.trans f2 fun _ h => h.elim
    refine brW_mk (fun hn => brW_true rfl (hR _ H2 (.none hb (.inl (by simpa using hn))) (s.step (by omega) p2 f02))) (fun hn => ?_)
    refine brW_dec (fun h0 => brW_true rfl (hR _ H2 (.none hb (.inr (.inl h0))) (s.step (by omega) p2 f02))) (fun h0 => ?_)
    obtain ⟨i, hi, rfl, ho⟩ := opn_true (by simpa using hn)
    have hup := of_up hi ho
    refine upto_spec p2 (i := i + 1) (by omega) (by omega) fun H3 f3 => ?_
    have p3 := p2.old f3
    have f03 : Fr (fun k => k = g) H H3 := f02.trans f3 fun _ h => h.elim
    refine brW_dec (fun h1 => hR _ H3 (.none hb (.inr (.inr ⟨i, rfl, by omega⟩))) (s.step (by omega) p3 f03)) (fun h1 => ⟨⟨i, n.toNat, hi, rfl, ho, by omega, by omega⟩, p3, f03⟩)
  · rintro _ H2 ⟨⟨i, n', hi, rfl, ho, rfl, hle'⟩, p2, f02⟩
    have hle := exc_le m (i + 1)
    have hup := of_up hi ho
    refine brW_dec (fun h0 => ?_) (fun h0 => ?_)
    · obtain rfl : n' = 0 := by omega
      exact hR _ H2 (.inl ⟨i, 0, i, hi, rfl, ho, rfl, IsUp.zero m i, rfl⟩) (s.step (by omega) p2 f02)
    · refine upto_spec p2 (i := i + 1) (by omega) (by omega) fun H3 f3 => ?_
      have f03 : Fr (fun k => k = g) H H3 := f02.trans f3 fun _ h => h.elim
      rw [wrap_i64 (n := exc m (i + 1) - 1) (by omega) (by omega), wrap_i64 (by omega) (by omega), show exc m (i + 1) - 1 - (n' : Int) = exc m i - (n' : Int) by omega]
      refine backward_spec (p2.old f3) (by omega) hi (by omega) (fun j H4 st4 e1 e3 e4 e5 p4 f4 => letV_mk fun x hx => ?_) (fun H4 st4 hno e5 p4 f4 => letV_mk fun x hx => ?_)
      · rw [wrap_i64 (by omega) (by omega)] at hx
        refine hR _ H4 (.inl ⟨i, n', j + 1, hi, rfl, ho, rfl, ⟨by omega, e3, fun y h1 h2 => ?_⟩, by omega⟩) (s.step (by omega) p4 (f03.trans f4 fun k hk => .inl hk))
        have := e4 (y - 1) (by omega) (by omega)
        rw [show y - 1 + 1 = y by omega] at this
        omega
      · obtain ⟨z, hz⟩ := up_ex (m := m) (k := i) (by omega) n' hle'
        have hz0 : z = 0 := by
          rcases Nat.eq_zero_or_pos z with e | e
          · exact e
          · have h1 := hz.1
            have h2 := hz.2.1
            rcases Nat.eq_or_lt_of_le h1 with e' | e'
            · subst e'; omega
            · have := hno (z - 1) (by omega)
              rw [show z - 1 + 1 = z by omega] at this
              omega
        subst hz0
        have h0 := hz.2.1
        rw [exc_zero] at h0
        rw [if_pos (by omega), wrap_i64 (by omega) (by omega)] at hx
        exact hR _ H4 (.inl ⟨i, n', 0, hi, rfl, ho, rfl, hz, by omega⟩) (s.step (by omega) p4 (f03.trans f4 fun k hk => .inl hk))
theorem PS.enclose (s : PS H0 H g m F) (k : Int) {R : Int → Heap → Prop} (hR : ∀ x H', UpR m k 1 x → PS H0 H' g m F → R x H') : paren_Paren_Enclose.C (some ⟨g, 0, none⟩) k H R := by
  apply paren_Paren_Enclose.calls
  unfold paren_Paren_Enclose.W
  exact s.up k 1 (by decide) hR
theorem PS.span (s : PS H0 H g m F) (k : Int) {R : Int → Heap → Prop} (hR : ∀ x H', SpanR m k x → PS H0 H' g m F → R x H') : paren_Paren_Span.C (some ⟨g, 0, none⟩) k H R := by
  have hfew := s.few
  apply paren_Paren_Span.calls
  unfold paren_Paren_Span.W
  refine s.opens k fun H1 s1 => brW_mk (fun hn => hR _ H1 (.inr ⟨by simpa using hn, rfl⟩) s1) (fun hn => ?_)
  refine s1.close k fun x H2 hx s2 => ?_
  rcases hx with ⟨i, c, rfl, hp, rfl⟩ | ⟨h, _⟩
  · have h1 := hp.lt
    have h2 := hp.2.1
    have ed : Int.tdiv ((c - i + 1 : Nat) : Int) 2 = (((c - i + 1) / 2 : Nat) : Int) := rfl
    refine ⟨by decide, letV_mk fun y hy => ?_⟩
    rw [wrap_i64 (n := (c : Int) - (i : Int)) (by omega) (by omega), wrap_i64 (n := (c : Int) - (i : Int) + 1) (by omega) (by omega), show (c : Int) - (i : Int) + 1 = ((c - i + 1 : Nat) : Int) by omega, ed, wrap_i64 (by omega) (by omega)] at hy
    exact hR _ H2 (.inl ⟨i, c, rfl, hp, hy⟩) s2
  · rw [h] at hn; cases hn
theorem PS.number (s : PS H0 H g m F) (k : Int) {R : Int → Heap → Prop} (hR : ∀ H', PS H0 H' g m F → R (if opn m k = true then (rk m k.toNat true : Int) else -1) H') : paren_Paren_Number.C (some ⟨g, 0, none⟩) k H R := by
  apply paren_Paren_Number.calls
  unfold paren_Paren_Number.W
  refine s.opens k fun H1 s1 => brW_mk (fun hn => ?_) (fun hn => ?_)
  · have := hR H1 s1
    rwa [if_neg (by simpa using hn)] at this
  · obtain ⟨h, st, a, p⟩ := s1.pb
    obtain ⟨⟨gb, Fb, c0, b⟩, _⟩ := p.cells
    refine ⟨_, rfl, _, c0, Bits_Rank_spec b _ true fun H2 f2 => ?_⟩
    have := hR H2 (s1.old f2)
    rwa [if_pos (by simpa using hn)] at this
theorem PS.place (s : PS H0 H g m F) (n : Int) {R : Int → Heap → Prop} (hR : ∀ x H', PlaceR m n x → PS H0 H' g m F → R x H') : paren_Paren_Place.C (some ⟨g, 0, none⟩) n H R := by
  obtain ⟨h, st, a, p⟩ := s.pb
  obtain ⟨⟨gb, Fb, c0, b⟩, _⟩ := p.cells
  apply paren_Paren_Place.calls
  unfold paren_Paren_Place.W
  refine brW_false rfl ⟨_, rfl, _, c0, Bits_Select_spec b (s.deb.old s.fr) n true (fun q hq H' e1 e2 f => hR _ H' (.inl ⟨q, hq, e1, e2, rfl⟩) (s.old f)) (fun H' ho f => hR _ H' (.inr ⟨ho, rfl⟩) (s.old f))⟩
theorem PS.steps0 (s : PS H0 H g m F) {R : Int → Heap → Prop} (hR : ∀ st : Nat, st ≤ 2 * blen m.length + 3 → R (st : Int) H) : paren_Paren_Steps.C (some ⟨g, 0, none⟩) H R := by
  obtain ⟨h, st, a, p⟩ := s.pb
  obtain ⟨_, _, c3, z3⟩ := p.cells
  have := p.facts
  apply paren_Paren_Steps.calls
  unfold paren_Paren_Steps.W
  exact brW_false rfl ⟨_, rfl, _, c3, hR st (by omega)⟩
end
end Go.Proofs.YtmijfoikdjcmlaaDoor
