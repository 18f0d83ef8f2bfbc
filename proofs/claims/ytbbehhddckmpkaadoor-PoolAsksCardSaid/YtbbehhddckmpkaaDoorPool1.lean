import Derived.Test.YtbbehhddckmpkaaDoorPoolJ
/-! Package pool: making, and what is asked. -/
namespace Go.Ev
/-- How many bytes stand ahead of a text. -/
def pre (ss : List ByteArray) (k : Nat) : Nat := ((ss.take k).map (·.size)).sum
theorem pre_zero (ss : List ByteArray) : pre ss 0 = 0 := rfl
theorem pre_succ {ss : List ByteArray} {k : Nat} (h : k < ss.length) : pre ss (k + 1) = pre ss k + ss[k].size := by
  unfold pre
  rw [List.take_succ_eq_append_getElem h, List.map_append, List.sum_append]
  simp
theorem pre_all (ss : List ByteArray) {k : Nat} (h : ss.length ≤ k) : pre ss k = (catB ss).size := by
  unfold pre
  rw [List.take_of_length_le h, catB_size]
theorem pre_mono (ss : List ByteArray) {a b : Nat} (h : a ≤ b) : pre ss a ≤ pre ss b := by
  induction b with
  | zero => rw [show a = 0 by omega]; exact Nat.le_refl _
  | succ b ih =>
    rcases Nat.eq_or_lt_of_le h with e | e
    · subst e; exact Nat.le_refl _
    · have := ih (by omega)
      rcases Nat.lt_or_ge b ss.length with hb | hb
      · rw [pre_succ hb]; omega
      · rw [pre_all ss (show ss.length ≤ b + 1 by omega), ← pre_all ss hb]; exact this
theorem pre_le {ss : List ByteArray} {b : Nat} (h : ∀ s ∈ ss, s.size ≤ b) : ∀ {k : Nat}, k ≤ ss.length → pre ss k ≤ k * b
  | 0, _ => by rw [pre_zero]; omega
  | k + 1, hk => by
    have h1 := pre_le h (k := k) (by omega)
    have h2 := h ss[k] (List.getElem_mem (by omega))
    rw [pre_succ (by omega), Nat.succ_mul]
    omega
/-- Where each begins, and the end. -/
def offsL (ss : List ByteArray) (n : Nat) : List Nat := (List.range (n + 1)).map (pre ss)
theorem offsL_len (ss : List ByteArray) (n : Nat) : (offsL ss n).length = n + 1 := by simp [offsL]
theorem offsL_get {ss : List ByteArray} {n i : Nat} (h : i < (offsL ss n).length) : (offsL ss n)[i] = pre ss i := by simp [offsL]
theorem offsL_succ (ss : List ByteArray) (n : Nat) : offsL ss (n + 1) = offsL ss n ++ [pre ss (n + 1)] := by simp [offsL, List.range_succ]
theorem offsL_rises (ss : List ByteArray) (n : Nat) : Rises (offsL ss n) := by
  intro i j hi hj hij
  rw [offsL_get, offsL_get]
  exact pre_mono ss hij
theorem catB_take (ss : List ByteArray) (k : Nat) : (catB (ss.take k)).size = pre ss k := by
  rw [catB_size]
  rfl
theorem flat_part : ∀ (l : List (List UInt8)) {k : Nat} (hk : k < l.length), (l.flatten.drop ((l.take k).map List.length).sum).take l[k].length = l[k]
  | [], k, hk => absurd hk (Nat.not_lt_zero k)
  | x :: r, 0, _ => by simp
  | x :: r, k + 1, hk => by
    have ih := flat_part r (k := k) (by simpa using hk)
    simp only [List.take_succ_cons, List.map_cons, List.sum_cons, List.flatten_cons, List.getElem_cons_succ]
    rw [List.drop_append, List.drop_of_length_le (by omega), List.nil_append, show x.length + ((r.take k).map List.length).sum - x.length = ((r.take k).map List.length).sum by omega]
    exact ih
theorem catB_part {ss : List ByteArray} {k : Nat} (hk : k < ss.length) : (catB ss).extract (pre ss k) (pre ss (k + 1)) = ss[k] := by
  apply ByteArray.ext
  rw [ByteArray.data_extract]
  apply Array.ext'
  have h := flat_part (ss.map (·.data.toList)) (k := k) (by simpa using hk)
  have e1 : (((ss.map (·.data.toList)).take k).map List.length).sum = pre ss k := by
    unfold pre
    rw [← List.map_take, List.map_map]
    congr 1
  rw [e1] at h
  simp only [List.getElem_map] at h
  rw [Array.toList_extract, pre_succ hk]
  unfold catB
  simp only [List.extract]
  rw [show pre ss k + ss[k].size - pre ss k = ss[k].data.toList.length by rw [Array.length_toList]; show _ = ss[k].size; omega]
  exact h
end Go.Ev
namespace Go.Proofs.YtbbehhddckmpkaaDoor
open Go.Ev
set_option linter.unusedVariables false
structure PoolAt (H : Heap) (g : Nat) (ss : List ByteArray) (go : Nat) (Fo : Nat → Prop) : Prop where
  blk : H[g]? = some (.cells #[.string (catB ss), .iface ty_p_offs_Offs (.pointer (some ⟨go, 0, none⟩)), .int .i64 (ss.length : Int)] ty_pool_Pool (0, 0))
  offs : Offs H go (offsL ss ss.length) Fo
  few : (catB ss).size ≤ 8388608 ∧ ss.length ≤ 1000000
def Pool (H : Heap) (g : Nat) (ss : List ByteArray) : Prop := ∃ go Fo, PoolAt H g ss go Fo
theorem Pool.old {H H' : Heap} {g : Nat} {ss : List ByteArray} (p : Pool H g ss) (hf : Fr noF H H') : Pool H' g ss := by
  obtain ⟨go, Fo, a⟩ := p
  exact ⟨go, Fo, hf.blk a.blk (fun h => h), a.offs.old hf, a.few⟩
theorem rd_str {H : Heap} {ss : List ByteArray} {p : Option Addr} {n : Nat} (hrd : Rd H (ss.map Value.string) p n) {i : Nat} (hi : i < ss.length) : ∃ a, p = some a ∧ hcell H (a.add i) = some (.string ss[i]) := by
  obtain ⟨a, ha, hc⟩ := hrd.get (i := i) (v := .string ss[i]) (by rw [List.getElem?_map, List.getElem?_eq_getElem hi]; rfl)
  exact ⟨a, ha, hc⟩
section
variable {H : Heap} {g : Nat} {ss : List ByteArray}
theorem pool_New_spec {p : Option Addr} {n c : Nat} (hrd : Rd H (ss.map Value.string) p n) (hcap : n ≤ c) (hn : n ≤ 1000000) (hs : (catB ss).size ≤ 8388608) {R : Option Addr → Int → Heap → Prop}
    (hR : ∀ g H', Pool H' g ss → Fr noF H H' → R (some ⟨g, 0, none⟩) 0 H') : pool_New.C p n c H R := by
  have hl : ss.length = n := by have := hrd.1; simpa using this
  apply pool_New.calls
  unfold pool_New.W
  refine letV_mk fun H1 h1 => ?_
  have f1 : Fr noF H H1 := by rw [h1]; exact Fr.new _ _ _
  have hs1 : Sl H1 ty_int ((offsL ss 0).map i64V) (some ⟨Array.size H, 0, none⟩) 1 1 := by rw [h1]; exact Sl.lit H ty_int [.int .i64 0]
  clear h1
  refine joinW_mk (fun (q : (Option Addr × Nat × Nat) × Unit) H' => q.1.2.1 = n + 1 ∧ Sl H' ty_int ((offsL ss n).map i64V) q.1.1 q.1.2.1 q.1.2.2 ∧ Fr noF H H') ?_ ?_
  · refine loopW_mk (fun t (q : (Option Addr × Nat × Nat) × Int × Unit) H' => ∃ i : Nat, i ≤ n ∧ t = n - i ∧ q.2.1 = (i : Int) ∧ q.1.2.1 = i + 1 ∧ Sl H' ty_int ((offsL ss i).map i64V) q.1.1 q.1.2.1 q.1.2.2 ∧ (∀ k, blkIs q.1.1 k → Array.size H ≤ k) ∧ Fr noF H H') n
      ⟨0, Nat.zero_le _, rfl, rfl, rfl, hs1, (by rintro k ⟨a, ha, rfl⟩; cases ha; exact Nat.le_refl _), f1⟩ ?_
    rintro t ⟨⟨op, ol, oc⟩, x, _⟩ H3 ⟨i, hi, rfl, hx, hol, hsl, hob, hf⟩
    simp only at hx hol hsl hob
    subst hx hol
    dsimp only
    refine brW_dec (fun hlt => ?_) (fun hge => ?_)
    · have hil : i < ss.length := by omega
      obtain ⟨a, ha, hc⟩ := rd_str (hrd.old hf) hil
      obtain ⟨h2, a2, ha2, hc2⟩ := rd_i64 hsl.rd (i := i) (by omega)
      rw [offsL_get] at hc2
      have hp := pre_succ hil
      have hpa := pre_mono ss (show i + 1 ≤ ss.length by omega)
      rw [pre_all ss (Nat.le_refl _)] at hpa
      refine ⟨a, ha, by omega, by omega, _, by rw [Int.toNat_natCast]; exact hc, a2, ha2, by omega, by omega, _, by rw [Int.toNat_natCast]; exact hc2, ?_⟩
      rw [wrap_i64 (n := 8388608 - (pre ss i : Int)) (by omega) (by omega)]
      refine brW_neg (by omega) ⟨a2, ha2, by omega, by omega, _, by rw [Int.toNat_natCast]; exact hc2, ?_⟩
      rw [wrap_i64 (n := (pre ss i : Int) + (ss[i].size : Int)) (by omega) (by omega), show (pre ss i : Int) + (ss[i].size : Int) = ((pre ss (i + 1) : Nat) : Int) by omega]
      refine app1 (v := i64V (pre ss (i + 1))) hsl rfl ⟨by simp, by simp⟩ (by omega) (by decide) fun p' c' H5 hs5 f5 hb5 => ?_
      refine ⟨n - (i + 1), by omega, i + 1, by omega, rfl, by show IntKind.i64.wrap ((i : Int) + 1) = _; rw [wrap_i64 (by omega) (by omega)]; rfl, rfl, ?_, fun k hk => ?_, hf.trans f5 fun k hk => .inr (hob k hk)⟩
      · show Sl H5 ty_int ((offsL ss (i + 1)).map i64V) p' (i + 1 + 1) c'
        rw [offsL_succ, List.map_append]
        exact hs5
      · rcases hb5 k hk with h | h
        · exact hob k h
        · exact Nat.le_trans hf.size h
    · obtain rfl : i = n := by omega
      exact ⟨rfl, hsl, hf⟩
  rintro ⟨⟨op, ol, oc⟩, _⟩ H2 ⟨hol, hsl, f2⟩
  simp only at hol hsl
  subst hol
  dsimp only
  have hlast : lastN (offsL ss n) = (catB ss).size := by
    unfold lastN
    rw [List.getD_eq_getElem?_getD, List.getElem?_eq_getElem (by rw [offsL_len]; omega), Option.getD_some, offsL_get, offsL_len]
    exact pre_all ss (by omega)
  have hrd2 : Rd H2 (((offsL ss n).map Int.ofNat).map (Value.int .i64)) op (n + 1) := by
    rw [List.map_map]
    exact hsl.rd
  refine Offs_New_spec hrd2 (by omega) (fun l _ he _ hl8 go H6 to f6 => ?_) (fun hno => ?_)
  · have : l = offsL ss n := by
      have h := congrArg (List.map Int.toNat) he
      rw [List.map_map, List.map_map] at h
      have e : ∀ l : List Nat, l.map (Int.toNat ∘ Int.ofNat) = l := fun l => by
        conv => rhs; rw [← List.map_id l]
        apply List.map_congr_left
        intro x _
        rfl
      rw [e, e] at h
      exact h.symm
    subst this
    refine brW_neg (by decide) ?_
    have f06 := f2.trans0 f6
    refine Join_spec (hrd.old f06) hcap (by omega) (by omega) fun H7 f7 => letV_mk fun H8 h8 => ?_
    have f8 : Fr noF H7 H8 := by rw [h8]; exact Fr.new _ _ _
    have g8 := new_part h8
    have o8 := (to.old f7).old f8
    refine hR _ H8 ⟨go, _, ⟨?_, hl.symm ▸ o8, hs, by omega⟩⟩ ((f06.trans0 f7).trans0 f8)
    rw [hl]; exact g8
  · rw [may_yes (offsL_rises ss n) (by omega)] at hno
    cases hno
theorem Pool_Len_spec (p : Pool H g ss) {R : Int → Heap → Prop} (hR : R (ss.length : Int) H) : pool_Pool_Len.C (some ⟨g, 0, none⟩) H R := by
  obtain ⟨go, Fo, a⟩ := p
  apply pool_Pool_Len.calls
  unfold pool_Pool_Len.W
  exact brW_false rfl ⟨_, rfl, _, (hcell_add a.blk 0 2).trans rfl, hR⟩
theorem Pool_Len_nil {R : Int → Heap → Prop} (hR : R 0 H) : pool_Pool_Len.C none H R := by
  apply pool_Pool_Len.calls
  unfold pool_Pool_Len.W
  exact brW_true rfl hR
theorem Pool_Bytes_spec (p : Pool H g ss) {R : Int → Heap → Prop} (hR : R ((catB ss).size : Int) H) : pool_Pool_Bytes.C (some ⟨g, 0, none⟩) H R := by
  obtain ⟨go, Fo, a⟩ := p
  apply pool_Pool_Bytes.calls
  unfold pool_Pool_Bytes.W
  exact brW_false rfl ⟨_, rfl, _, (hcell_add a.blk 0 0).trans rfl, letV_mk fun x hx => by rw [hx]; exact hR⟩
theorem Pool_Bytes_nil {R : Int → Heap → Prop} (hR : R 0 H) : pool_Pool_Bytes.C none H R := by
  apply pool_Pool_Bytes.calls
  unfold pool_Pool_Bytes.W
  exact brW_true rfl hR
theorem places_spec (p : Pool H g ss) {R : Option Addr → Heap → Prop} (hR : ∀ go Fo, Offs H go (offsL ss ss.length) Fo → R (some ⟨go, 0, none⟩) H) : pool_Pool_places.C (some ⟨g, 0, none⟩) H R := by
  obtain ⟨go, Fo, a⟩ := p
  apply pool_Pool_places.calls
  unfold pool_Pool_places.W
  exact ⟨_, rfl, _, (hcell_add a.blk 0 1).trans rfl, _, true, .inl ⟨rfl, rfl⟩, hR go Fo a.offs⟩
theorem Pool_Size_spec (p : Pool H g ss) {R : Int → Heap → Prop} (hR : R (sizeO (offsL ss ss.length) : Int) H) : pool_Pool_Size.C (some ⟨g, 0, none⟩) H R := by
  apply pool_Pool_Size.calls
  unfold pool_Pool_Size.W
  exact brW_false rfl (places_spec p fun go Fo o => Offs_Size_spec o hR)
theorem Pool_Get_spec (p : Pool H g ss) (hd : Deb H) (k : Int) {R : ByteArray → Int → Heap → Prop} (h1 : ∀ (i : Nat) (hi : i < ss.length) H', k = (i : Int) → Fr noF H H' → R ss[i] 0 H') (h2 : (k < 0 ∨ (ss.length : Int) ≤ k) → R ⟨#[]⟩ 4 H) : pool_Pool_Get.C (some ⟨g, 0, none⟩) k H R := by
  have hfew : ss.length ≤ 1000000 := by obtain ⟨go, Fo, a⟩ := p; exact a.few.2
  apply pool_Pool_Get.calls
  unfold pool_Pool_Get.W
  refine joinW_thru (joinW_thru ?_)
  refine brW_dec (fun h0 => brW_true rfl (h2 (.inl h0))) (fun h0 => Pool_Len_spec p (brW_dec (fun hl => h2 (.inr hl)) (fun hl => ?_)))
  obtain ⟨i, rfl⟩ : ∃ n : Nat, k = (n : Int) := ⟨k.toNat, by omega⟩
  have hi : i < ss.length := by omega
  refine places_spec p fun go Fo o => ?_
  refine Offs_Get_spec o hd _ (fun j hj H5 e f5 => ?_) (fun ho => by rw [offsL_len] at ho; omega)
  obtain rfl : i = j := by omega
  rw [offsL_get]
  have p5 := p.old f5
  refine places_spec p5 fun go5 Fo5 o5 => ?_
  rw [wrap_i64 (n := (i : Int) + 1) (by omega) (by omega)]
  refine Offs_Get_spec o5 (hd.old f5) _ (fun j' hj' H7 e7 f7 => ?_) (fun ho => by rw [offsL_len] at ho; omega)
  obtain rfl : j' = i + 1 := by omega
  rw [offsL_get]
  have p7 := p5.old f7
  obtain ⟨go7, Fo7, a7⟩ := p7
  have hm := pre_mono ss (show i ≤ i + 1 by omega)
  have hpa := pre_mono ss (show i + 1 ≤ ss.length by omega)
  rw [pre_all ss (Nat.le_refl _)] at hpa
  refine ⟨_, rfl, _, (hcell_add a7.blk 0 0).trans rfl, by omega, by omega, by omega, by omega, ?_⟩
  rw [Int.toNat_natCast, Int.toNat_natCast, catB_part hi]
  exact h1 i hi H7 rfl (f5.trans0 f7)
end
end Go.Proofs.YtbbehhddckmpkaaDoor
