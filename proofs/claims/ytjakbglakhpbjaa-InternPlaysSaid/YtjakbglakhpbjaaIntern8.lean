import Derived.Test.YtjakbglakhpbjaaIntern7
/-! The law InternPlays. -/
namespace Go.Proofs.Ytjakbglakhpbjaa
open Go.Ev
set_option linter.unusedVariables false

theorem RTab.lt {H : Heap} {g : Nat} {L : List ByteArray} {F : Nat → Prop} {pl : List Int} {lk : Int} (h : RTab H g L pl lk F) : ∀ k, F k → k < Array.size H := by
  obtain ⟨_, _, _, _, _, _, _, _, h4⟩ := h
  exact h4
theorem Tab.lt {H : Heap} {g : Nat} {L : List ByteArray} {F : Nat → Prop} {pl : List Int} {lk : Int} (h : Tab H g L pl lk F) : ∀ k, F k → k < Array.size H := by
  obtain ⟨_, _, _, _, _, _, _, _, h4⟩ := h
  exact h4
theorem RTab.f0 {H : Heap} {g : Nat} {L : List ByteArray} {F : Nat → Prop} {pl : List Int} {lk : Int} (h : RTab H g L pl lk F) : ∃ lp lc, hcell H ((⟨g, 0, none⟩ : Addr).add 0) = some (.slice lp L.length lc) ∧ ∀ i (hi : i < L.length), ∃ a, lp = some a ∧ hcell H (a.add i) = some (.string L[i]) := by
  obtain ⟨lp, lc, pp, pc, ht, _⟩ := h
  exact ⟨lp, lc, ht.f0, fun i hi => ht.text hi⟩
theorem RTab.f2 {H : Heap} {g : Nat} {L : List ByteArray} {F : Nat → Prop} {pl : List Int} {lk : Int} (h : RTab H g L pl lk F) : hcell H ((⟨g, 0, none⟩ : Addr).add 2) = some (.int .i64 lk) := by
  obtain ⟨lp, lc, pp, pc, ht, _⟩ := h
  exact ht.f2
theorem rd_bool {H : Heap} {bs : List Bool} {p : Option Addr} {l : Nat} (h : Rd H (bs.map Value.bool) p l) {i : Nat} (hi : i < l) : ∃ (h2 : i < bs.length) (a : Addr), p = some a ∧ hcell H (a.add i) = some (.bool bs[i]) := by
  have hl : bs.length = l := by have := h.1; simpa using this
  have h2 : i < bs.length := by omega
  obtain ⟨a, ha, hc⟩ := h.get (i := i) (v := .bool bs[i]) (by rw [List.getElem?_map, List.getElem?_eq_getElem h2]; rfl)
  exact ⟨h2, a, ha, hc⟩
/-- Both tables side by side. -/
structure Two (H0 H : Heap) (g g' : Nat) (L : List ByteArray) (pl : List Int) (lk : Int) (F G : Nat → Prop) : Prop where
  t : Tab H g L pl lk F
  r : RTab H g' L pl lk G
  ok : Ok L pl
  small : ∀ x ∈ L, x.size ≤ 140737488355328
  fr : Fr noF H0 H
  fF : ∀ k, F k → Array.size H0 ≤ k
  fG : ∀ k, G k → Array.size H0 ≤ k
  dis : ∀ k, F k → ¬ G k
theorem Two.keep {H0 H H' : Heap} {g g' : Nat} {L : List ByteArray} {pl : List Int} {lk : Int} {F G : Nat → Prop} (h : Two H0 H g g' L pl lk F G) (hf : Fr noF H H') : Two H0 H' g g' L pl lk F G :=
  ⟨h.t.keep hf fun _ _ h => h, h.r.keep hf fun _ _ h => h, h.ok, h.small, h.fr.trans0 hf, h.fF, h.fG, h.dis⟩
theorem put_small {L : List ByteArray} {pl : List Int} {s : ByteArray} (hall : ∀ x ∈ L, x.size ≤ 140737488355328) (hs : s.size ≤ 140737488355328) : ∀ x ∈ (putF L pl s).2.1, x.size ≤ 140737488355328 := by
  intro x hx
  unfold putF at hx
  split at hx
  · exact hall x hx
  · split at hx <;>
    · simp only [List.mem_append, List.mem_singleton] at hx
      rcases hx with h | rfl
      · exact hall x h
      · exact hs
theorem put_len (L : List ByteArray) (pl : List Int) (s : ByteArray) : (putF L pl s).2.1.length ≤ L.length + 1 := by
  unfold putF
  split
  · simp
  · split <;> simp
theorem InternPlays_fn (H : Heap) (a : Option Addr) (len cap : Nat) (ss : List ByteArray) (hrd : Rd H (ss.map Value.string) a len) (a' : Option Addr) (len' cap' : Nat) (bs : List Bool) (hrb : Rd H (bs.map Value.bool) a' len') :
    brackenlaw9_InternPlays.C a len cap a' len' cap' H fun b H' => b = true ∧ Fr noF H H' := by
  apply brackenlaw9_InternPlays.calls
  unfold brackenlaw9_InternPlays.W
  refine brW_dec (fun _ => told_spec fun H' f => ⟨rfl, f⟩) (fun hle => ?_)
  refine new_spec fun g H2 hg2 t2 f2 => rnew_spec fun g' H3 hg3 r3 f3 => ?_
  refine brW_false rfl (joinW_thru ?_)
  have hT : Two H H3 g g' [] (List.replicate 8 0) 0 (fun k => Array.size H ≤ k ∧ k < Array.size H2) (fun k => Array.size H2 ≤ k ∧ k < Array.size H3) :=
    ⟨t2.keep f3 fun _ _ h => h, r3, ok_new, by simp, f2.trans0 f3, fun k hk => hk.1, fun k hk => by have := f2.size; omega, fun k h1 h2 => by omega⟩
  refine loopW_mk (fun n q H' => ∃ (i : Nat) (L : List ByteArray) (pl : List Int) (lk : Int) (F G : Nat → Prop), i ≤ len ∧ n = len - i ∧ q.1 = (i : Int) ∧ L.length ≤ i ∧ Two H H' g g' L pl lk F G) len
    ⟨0, [], _, 0, _, _, by omega, rfl, rfl, by simp, hT⟩ ?_
  rintro n ⟨x, _⟩ H5 ⟨i, L, pl, lk, F, G, hi, rfl, hx, hLi, t⟩
  simp only at hx
  subst hx
  dsimp only
  refine brW_dec (fun hlt => ?_) (fun hge => ?_)
  · have hlt : i < len := by omega
    refine joinW_thru ?_
    obtain ⟨h2, ad, rfl, hc⟩ := rd_str (hrd.old t.fr) hlt
    refine ⟨ad, rfl, by omega, by omega, _, by rw [Int.toNat_natCast]; exact hc, ?_⟩
    refine brW_dec (fun _ => told_spec fun H' f => ⟨rfl, t.fr.trans0 f⟩) (fun hsz => ?_)
    -- what holds behind either
    refine joinW_mk (fun _ H' => ∃ (L : List ByteArray) (pl : List Int) (lk : Int) (F G : Nat → Prop), L.length ≤ i + 1 ∧ Two H H' g g' L pl lk F G) ?_ ?_
    · refine joinW_mk (fun _ H' => H' = H5) ?_ ?_
      · refine brW_dec (fun hf => ?_) (fun _ => rfl)
        obtain ⟨h2', ad', rfl, hc'⟩ := rd_bool (hrb.old t.fr) (i := i) (by omega)
        exact ⟨ad', rfl, by omega, by omega, _, by rw [Int.toNat_natCast]; exact hc', rfl⟩
      · rintro ⟨b, _⟩ H9 rfl
        dsimp only
        refine brW_mk (fun hb => ?_) (fun hb => ?_)
        · refine ⟨ad, rfl, by omega, by omega, _, by rw [Int.toNat_natCast]; exact hc, ?_⟩
          refine find_spec t.t t.ok (by omega) fun H10 t10 f10 => ?_
          have fr10 : Fr noF H H10 := t.fr.trans f10 fun k hk => .inr (t.fF k hk)
          have r10 := t.r.keep f10 fun k hk h => t.dis k h hk
          obtain ⟨h2'', ad', e', hc'⟩ := rd_str (hrd.old fr10) hlt
          cases e'
          refine ⟨ad, rfl, by omega, by omega, _, by rw [Int.toNat_natCast]; exact hc', ?_⟩
          refine rfind_spec r10 t.ok (by omega) fun H11 r11 f11 => ?_
          refine joinW_thru (brW_neg (fun h => h rfl) ?_)
          refine brW_neg (fun h => h rfl) ?_
          exact ⟨L, pl, _, F, G, by omega, t10.keep f11 t.dis, r11, t.ok, t.small, fr10.trans f11 fun k hk => .inr (t.fG k hk), t.fF, t.fG, t.dis⟩
        · refine ⟨ad, rfl, by omega, by omega, _, by rw [Int.toNat_natCast]; exact hc, ad, rfl, by omega, by omega, _, by rw [Int.toNat_natCast]; exact hc, ?_⟩
          refine put_spec t.t t.ok (by omega) (by omega) t.small fun H13 F13 t13 f13 hF13 => ?_
          have fr13 : Fr noF H H13 := t.fr.trans f13 fun k hk => .inr (t.fF k hk)
          have r13 := t.r.keep f13 fun k hk h => t.dis k h hk
          obtain ⟨h2'', ad', e', hc'⟩ := rd_str (hrd.old fr13) hlt
          cases e'
          refine ⟨⟨_, by rw [Int.toNat_natCast]; exact hc', rfl⟩, ?_⟩
          refine rput_spec r13 t.ok (by omega) (by omega) t.small fun H14 G14 r14 f14 hG14 => ?_
          refine brW_neg (fun h => h rfl) ?_
          have hF' : ∀ k, F13 k → Array.size H ≤ k := fun k hk => by
            rcases hF13 k hk with h | h
            · exact t.fF k h
            · exact Nat.le_trans t.fr.size h
          have hG' : ∀ k, G14 k → Array.size H ≤ k := fun k hk => by
            rcases hG14 k hk with h | h
            · exact t.fG k h
            · exact Nat.le_trans fr13.size h
          refine ⟨_, _, _, F13, G14, Nat.le_trans (put_len L pl _) (by omega), t13.keep f14 ?_, r14, ok_put t.ok (by omega) _, put_small t.small (by omega), fr13.trans f14 fun k hk => .inr (t.fG k hk), hF', hG', ?_⟩
          · intro k hk hg
            rcases hF13 k hk with h | h
            · exact t.dis k h hg
            · have := t.r.lt k hg; omega
          · intro k hk hg
            rcases hG14 k hg with h | h
            · rcases hF13 k hk with h' | h'
              · exact t.dis k h' h
              · have := t.r.lt k h; omega
            · have := t13.lt k hk; omega
    · rintro _ H8 ⟨L', pl', lk', F', G', hL', t8⟩
      dsimp only
      refine joinW_thru ?_
      refine ⟨_, rfl, _, t8.r.f2, ?_⟩
      refine looked_spec t8.t ⟨⟨_, t8.r.f2, rfl⟩, brW_neg (fun h => h rfl) ?_⟩
      obtain ⟨lp, lc, hf0, _⟩ := t8.r.f0
      refine ⟨_, rfl, _, _, _, hf0, ?_⟩
      refine len_spec t8.t ⟨⟨_, _, _, hf0, rfl⟩, brW_neg (fun h => h rfl) ?_⟩
      obtain ⟨h2'', ad', e', hc'⟩ := rd_str (hrd.old t8.fr) hlt
      cases e'
      refine ⟨ad, rfl, by omega, by omega, _, by rw [Int.toNat_natCast]; exact hc', ad, rfl, by omega, by omega, _, by rw [Int.toNat_natCast]; exact hc', ?_⟩
      refine hash_spec (by omega) ⟨⟨_, by rw [Int.toNat_natCast]; exact hc', rfl⟩, ?_⟩
      refine refHash_spec (by omega) ?_
      refine brW_neg (fun h => h rfl) ?_
      refine letV_mk fun i7 hi7 => ⟨len - (i + 1), by omega, i + 1, L', pl', lk', F', G', by omega, rfl, ?_, hL', t8⟩
      show i7 = _
      rw [hi7, wrap_i64 (by omega) (by omega)]; rfl
  · have hil : i = len := by omega
    subst hil
    refine joinW_thru ?_
    refine loopW_mk (fun n q H' => H' = H5 ∧ ∃ j : Nat, j ≤ L.length ∧ n = L.length - j ∧ q.1 = (j : Int)) L.length ⟨rfl, 0, by omega, rfl, rfl⟩ ?_
    rintro n ⟨x, _⟩ H21 ⟨rfl, j, hj, rfl, hx⟩
    simp only at hx
    subst hx
    dsimp only
    obtain ⟨lp, lc, hf0, htx⟩ := t.r.f0
    refine ⟨_, rfl, _, _, _, hf0, ?_⟩
    refine brW_dec (fun hlt => ?_) (fun hge => ?_)
    · have hlt : j < L.length := by omega
      refine joinW_thru ?_
      refine get_spec t.t (by omega) j (fun j' hj' he => ?_) (fun h => by omega)
      have : j' = j := by omega
      subst this
      refine joinW_thru (brW_neg (fun h => h rfl) ?_)
      obtain ⟨ax, hax, hcx⟩ := htx j' hlt
      refine ⟨_, rfl, _, _, _, hf0, ax, hax, by omega, by omega, _, by rw [Int.toNat_natCast]; exact hcx, ?_⟩
      refine brW_neg (fun h => h rfl) ?_
      refine letV_mk fun i8 hi8 => ⟨L.length - (j' + 1), by omega, rfl, j' + 1, by omega, rfl, ?_⟩
      show i8 = _
      rw [hi8, wrap_i64 (by omega) (by omega)]; rfl
    · exact told_spec fun H' f => ⟨rfl, t.fr.trans0 f⟩
end Go.Proofs.Ytjakbglakhpbjaa
