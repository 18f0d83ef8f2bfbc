import Derived.Test.YtjakbglakhpbjaaIntern3
/-! The law InternNumbers. -/
namespace Go.Proofs.Ytjakbglakhpbjaa
open Go.Ev
set_option linter.unusedVariables false

/-- Each text's number so far is its place among the texts. -/
def Numbers (L ss : List ByteArray) (ns : List Int) : Prop := ∀ k (h : k < ns.length), ∃ (h2 : k < ss.length) (j : Nat) (h3 : j < L.length), ns[k] = (j : Int) ∧ L[j] = ss[k]
theorem Good3.lt {H : Heap} {g : Nat} {L : List ByteArray} {F : Nat → Prop} {pl : List Int} {lk : Int} (h : Good3 H g L F pl lk) : ∀ k, F k → k < Array.size H := by
  obtain ⟨_, _, _, _, _, _, _, _, h4⟩ := h.tab
  exact h4
theorem rd_str {H : Heap} {ss : List ByteArray} {p : Option Addr} {l : Nat} (h : Rd H (ss.map Value.string) p l) {i : Nat} (hi : i < l) : ∃ (h2 : i < ss.length) (a : Addr), p = some a ∧ hcell H (a.add i) = some (.string ss[i]) := by
  have hl : ss.length = l := by have := h.1; simpa using this
  have h2 : i < ss.length := by omega
  obtain ⟨a, ha, hc⟩ := h.get (i := i) (v := .string ss[i]) (by rw [List.getElem?_map, List.getElem?_eq_getElem h2]; rfl)
  exact ⟨h2, a, ha, hc⟩
theorem rd_int {H : Heap} {ns : List Int} {p : Option Addr} {l : Nat} {k : IntKind} (h : Rd H (ns.map (Value.int k)) p l) {i : Nat} (hi : i < l) : ∃ (h2 : i < ns.length) (a : Addr), p = some a ∧ hcell H (a.add i) = some (.int k ns[i]) := by
  have hl : ns.length = l := by have := h.1; simpa using this
  have h2 : i < ns.length := by omega
  obtain ⟨a, ha, hc⟩ := h.get (i := i) (v := .int k ns[i]) (by rw [List.getElem?_map, List.getElem?_eq_getElem h2]; rfl)
  exact ⟨h2, a, ha, hc⟩

/-- Putting, whatever the text: its number n is that of its place among the texts behind it. -/
theorem Good3.put {H : Heap} {g : Nat} {L : List ByteArray} {F : Nat → Prop} {pl : List Int} {lk : Int} (h : Good3 H g L F pl lk) (hf : L.length < 4294967296) {s : ByteArray} (hs : s.size ≤ 140737488355328) {R : Int → Heap → Prop}
    (hR : ∀ H' F' pl' lk' L' (j : Nat) (hj : j < L'.length), Good3 H' g L' F' pl' lk' → 1 ≤ lk' → Fr F H H' → (∀ k, F' k → F k ∨ Array.size H ≤ k) → L'[j] = s → (L' = L ∨ (j = L.length ∧ L' = L ++ [s])) → R (j : Int) H') : intern_Table_Put.C (some ⟨g, 0, none⟩) s H R := by
  rcases Classical.em (s ∈ L) with hm | hn
  · obtain ⟨j, hj, rfl⟩ := List.getElem_of_mem hm
    exact h.put_old hf hj fun H' F' lk' t hl f hF => hR H' F' _ lk' L j hj t hl f hF rfl (.inl rfl)
  · exact h.put_new hf hs hn fun H' F' pl' lk' t hl f hF => hR H' F' pl' lk' (L ++ [s]) L.length (by simp) t hl f hF (by simp) (.inr ⟨rfl, rfl⟩)

theorem InternNumbers_fn (H : Heap) (a : Option Addr) (len cap : Nat) (ss : List ByteArray) (hrd : Rd H (ss.map Value.string) a len) : brackenlaw9_InternNumbers.C a len cap H fun b H' => b = true ∧ Fr noF H H' := by
  apply brackenlaw9_InternNumbers.calls
  unfold brackenlaw9_InternNumbers.W
  have hlen : ss.length = len := by have := hrd.1; simpa using this
  refine brW_dec (fun _ => told_spec fun H' f => ⟨rfl, f⟩) (fun hle => ?_)
  refine new3 fun g H2 pl2 t2 f2 => brW_false rfl ?_
  refine joinW_thru ?_
  refine loopW_mk (fun n q H' => ∃ (i : Nat) (L : List ByteArray) (F : Nat → Prop) (pl : List Int) (lk : Int) (ns : List Int), i ≤ len ∧ n = len - i ∧ q.2.2.1 = (i : Int) ∧ q.2.1 = (L.length : Int) - 1 ∧ L.length ≤ i ∧
    Good3 H' g L F pl lk ∧ Fr noF H H' ∧ (∀ k, F k → Array.size H ≤ k) ∧ Sl H' ty_int (ns.map intV) q.1.1 q.1.2.1 q.1.2.2 ∧ ns.length = i ∧ Numbers L ss ns ∧ (∀ k, blkIs q.1.1 k → Array.size H ≤ k ∧ ¬ F k)) len
    ⟨0, [], _, pl2, 0, [], by omega, rfl, rfl, rfl, by simp, t2, f2, fun k hk => hk.1, Sl.nil _ _, rfl, fun k h => absurd h (by simp), by rintro k ⟨b, hb, _⟩; cases hb⟩ ?_
  rintro n ⟨⟨ap, al, ac⟩, top, x, _⟩ H4 ⟨i, L, F, pl, lk, ns, hi, rfl, hx, htop, hLi, t, fr, hF, hat, hns, hnum, hab⟩
  simp only at hx htop hat hab
  subst hx htop
  have hal : al = i := by rw [← hat.1]; simp [hns]
  subst hal
  dsimp only
  refine brW_dec (fun hlt => ?_) (fun hge => ?_)
  · refine joinW_thru ?_
    have hrd4 := hrd.old fr
    obtain ⟨h2, ad, rfl, hc⟩ := rd_str hrd4 (i := al) (by omega)
    refine ⟨ad, rfl, by omega, by omega, _, by rw [Int.toNat_natCast]; exact hc, ?_⟩
    refine brW_dec (fun _ => told_spec fun H' f => ⟨rfl, fr.trans0 f⟩) (fun hsz => ?_)
    refine ⟨ad, rfl, by omega, by omega, _, by rw [Int.toNat_natCast]; exact hc, ?_⟩
    refine t.put (by omega) (by omega) fun H7 F7 pl7 lk7 L7 j hj t7 _ f7 hF7 hLj hL7 => ?_
    have hL7len : L.length ≤ L7.length ∧ L7.length ≤ L.length + 1 ∧ (j : Int) ≤ L.length ∧ max ((L.length : Int) - 1) (j : Int) = (L7.length : Int) - 1 := by
      rcases hL7 with rfl | ⟨rfl, rfl⟩
      · omega
      · simp
        omega
    have fr7 : Fr noF H H7 := fr.trans f7 fun k hk => .inr (hF k hk)
    have hF7' : ∀ k, F7 k → Array.size H ≤ k := fun k hk => by
      rcases hF7 k hk with h | h
      · exact hF k h
      · exact Nat.le_trans fr.size h
    have hat7 : Sl H7 ty_int (ns.map intV) ap al ac := hat.keep f7 fun k hk => (hab k hk).2
    have hab7 : ∀ k, blkIs ap k → Array.size H ≤ k ∧ ¬ F7 k := fun k hk => ⟨(hab k hk).1, fun h => by
      rcases hF7 k h with h | h
      · exact (hab k hk).2 h
      · have := hat.blk_lt hk; omega⟩
    have hnum7 : Numbers L7 ss ns := by
      intro k hk
      obtain ⟨h2, j', h3, e1, e2⟩ := hnum k hk
      refine ⟨h2, j', by omega, e1, ?_⟩
      rcases hL7 with rfl | ⟨rfl, rfl⟩
      · exact e2
      · rw [List.getElem_append_left h3]; exact e2
    refine joinW_thru (joinW_thru ?_)
    refine brW_neg (by omega) ?_
    refine brW_false (decide_eq_false (by rw [wrap_i64 (by omega) (by omega)]; omega)) ?_
    refine letV_mk fun top5 ht5 => ?_
    rw [hL7len.2.2.2] at ht5
    subst ht5
    refine joinW_thru ?_
    refine loopW_mk (fun n q H' => H' = H7 ∧ ∃ k : Nat, k ≤ al ∧ n = al - k ∧ q.1 = (k : Int)) al ⟨rfl, 0, by omega, rfl, rfl⟩ ?_
    rintro n ⟨x, _⟩ H11 ⟨rfl, k, hk, rfl, hx⟩
    simp only at hx
    subst hx
    dsimp only
    have hrd7 := hrd.old fr7
    refine brW_dec (fun hkl => ?_) (fun hkg => ?_)
    · have hkl : k < al := by omega
      obtain ⟨hk2, ax, hax, hcx⟩ := rd_int hat7.rd hkl
      obtain ⟨hs2, ay, hay, hcy⟩ := rd_str hrd7 (i := k) (by omega)
      obtain ⟨hs3, az, haz, hcz⟩ := rd_str hrd7 (i := al) (by omega)
      refine ⟨ax, hax, by omega, by omega, _, by rw [Int.toNat_natCast]; exact hcx, ?_⟩
      refine ⟨ay, hay, by omega, by omega, _, by rw [Int.toNat_natCast]; exact hcy, ?_⟩
      refine ⟨az, haz, by omega, by omega, _, by rw [Int.toNat_natCast]; exact hcz, ?_⟩
      have hiff : decide (ns[k] = (j : Int)) = decide (ss[k] = ss[al]) := by
        obtain ⟨_, j', h3, e1, e2⟩ := hnum7 k hk2
        rw [Bool.eq_iff_iff]
        simp only [decide_eq_true_eq]
        constructor
        · intro e
          have : j' = j := by omega
          subst this
          rw [← e2, ← hLj]
        · intro e
          have : L7[j'] = L7[j] := by rw [e2, hLj, e]
          have := nodup_inj t7.sem.nodup h3 hj this
          omega
      refine brW_neg (fun h => h hiff) ?_
      refine letV_mk fun k8 hk8 => ⟨al - (k + 1), by omega, rfl, k + 1, by omega, rfl, ?_⟩
      rw [hk8, wrap_i64 (by omega) (by omega)]
      rfl
    · refine app1 (t1 := ty_int) hat7 rfl ⟨by simp, by simp⟩ (by omega) (by decide) fun p' c' H13 hsl fr13 hbl => ?_
      refine letV_mk fun i6 hi6 => ?_
      have t13 : Good3 H13 g L7 F7 pl7 lk7 := t7.keep fr13 fun k hk h => (hab7 k h).2 hk
      have fr13' : Fr noF H H13 := fr7.trans fr13 fun k hk => .inr (hab7 k hk).1
      refine ⟨len - (al + 1), by omega, al + 1, L7, F7, pl7, lk7, ns ++ [(j : Int)], by omega, rfl, ?_, rfl, by omega, t13, fr13', hF7', ?_, by simp [hns], ?_, ?_⟩
      · show i6 = _
        rw [hi6, wrap_i64 (by omega) (by omega)]; rfl
      · show Sl H13 ty_int ((ns ++ [(j : Int)]).map intV) p' (al + 1) c'
        rw [List.map_append]; exact hsl
      · intro k hk
        simp only [List.length_append, List.length_cons, List.length_nil] at hk
        by_cases hkn : k < ns.length
        · obtain ⟨h2, j', h3, e1, e2⟩ := hnum7 k hkn
          exact ⟨h2, j', h3, by rw [List.getElem_append_left hkn]; exact e1, e2⟩
        · have : k = al := by omega
          subst this
          refine ⟨by omega, j, hj, ?_, hLj⟩
          rw [List.getElem_append_right (by omega)]
          simp
      · intro k hk
        rcases hbl k hk with h | h
        · exact hab7 k h
        · exact ⟨Nat.le_trans fr7.size h, fun hf => by have := t7.lt k hf; omega⟩
  · have hi : al = len := by omega
    subst hi
    refine joinW_thru ?_
    refine loopW_mk (fun n q H' => ∃ (k : Nat) (lk : Int), k ≤ al ∧ n = al - k ∧ q.1 = (k : Int) ∧ Good3 H' g L F pl lk ∧ Fr noF H H' ∧ Sl H' ty_int (ns.map intV) ap al ac) al ⟨0, lk, by omega, rfl, rfl, t, fr, hat⟩ ?_
    rintro n ⟨x, _⟩ H15 ⟨k, lk', hk, rfl, hx, t15, fr15, hat15⟩
    simp only at hx
    subst hx
    dsimp only
    refine brW_dec (fun hkl => ?_) (fun hkg => ?_)
    · have hkl : k < al := by omega
      refine joinW_thru ?_
      have hrd15 := hrd.old fr15
      obtain ⟨hs2, ay, hay, hcy⟩ := rd_str hrd15 (i := k) (by omega)
      refine ⟨ay, hay, by omega, by omega, _, by rw [Int.toNat_natCast]; exact hcy, ?_⟩
      obtain ⟨_, j, hj, e1, e2⟩ := hnum k (by omega)
      rw [← e2]
      refine t15.find_old hj fun H17 t17 f17 => ?_
      have hat17 : Sl H17 ty_int (ns.map intV) ap al ac := hat15.keep f17 fun k hk => (hab k hk).2
      obtain ⟨hk2, ax, hax, hcx⟩ := rd_int hat17.rd hkl
      refine joinW_thru (brW_false rfl ?_)
      refine ⟨ax, hax, by omega, by omega, _, by rw [Int.toNat_natCast]; exact hcx, ?_⟩
      refine brW_false (decide_eq_false (fun h => h (by omega))) ?_
      refine letV_mk fun i9 hi9 => ⟨al - (k + 1), by omega, k + 1, _, by omega, rfl, ?_, t17, fr15.trans f17 (fun k hk => .inr (hF k hk)), hat17⟩
      show i9 = _
      rw [hi9, wrap_i64 (by omega) (by omega)]; rfl
    · refine told_spec fun H19 f19 => brW_true rfl ?_
      have t19 := t15.keep f19 fun _ _ h => h
      refine len_spec t19.tab ⟨?_, fr15.trans0 f19⟩
      refine decide_eq_true ?_
      rw [wrap_i64 (by omega) (by omega)]
      omega
end Go.Proofs.Ytjakbglakhpbjaa
