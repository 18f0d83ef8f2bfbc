import Derived.Test.YtojhnakgmihedaaDoorRep1
/-! Package report: trees, counts, the few that are told. -/
namespace Go.Ev
theorem readNode {H : Heap} {a : Addr} (n : Nd) (h : ∀ j, j < 7 → hcell H (a.add j) = (ndL n)[j]?) {K : Int → Int → ByteArray → ByteArray → ByteArray → ByteArray → Option Addr → Nat → Nat → Prop} (hK : K n.k n.d n.pre n.loc n.uri n.val n.ap n.al n.ac) :
    ∃ x0 : Int, hcell H (a.add 0) = some (.int .i64 x0) ∧ ∃ x1 : Int, hcell H (a.add 1) = some (.int .i64 x1) ∧ ∃ x2 : ByteArray, hcell H (a.add 2) = some (.string x2) ∧ ∃ x3 : ByteArray, hcell H (a.add 3) = some (.string x3) ∧ ∃ x4 : ByteArray, hcell H (a.add 4) = some (.string x4) ∧ ∃ x5 : ByteArray, hcell H (a.add 5) = some (.string x5) ∧ ∃ (p : Option Addr) (l c : Nat), hcell H (a.add 6) = some (.slice p l c) ∧ K x0 x1 x2 x3 x4 x5 p l c :=
  ⟨_, h 0 (by omega), _, h 1 (by omega), _, h 2 (by omega), _, h 3 (by omega), _, h 4 (by omega), _, h 5 (by omega), _, _, _, h 6 (by omega), hK⟩
/-- Counts. -/
def cntN (t : List Nd) (j : Nat) : Nat := if j = 0 then noneC t else kindC t j
def cntA (t : List Nd) : Array Value := ((List.range 6).map fun j => Value.int .i64 (cntN t j : Int)).toArray
theorem map_set {m : Nat} {f g : Nat → Value} {j : Nat} {v : Value} (hj : g j = v) (h : ∀ i, i < m → i ≠ j → g i = f i) : (((List.range m).map f).toArray).setIfInBounds j v = ((List.range m).map g).toArray := by
  rw [List.setIfInBounds_toArray]
  congr 1
  apply List.ext_getElem?
  intro i
  rw [List.getElem?_set]
  by_cases hi : i < m
  · by_cases hij : j = i
    · subst hij
      rw [if_pos rfl, List.getElem?_map, List.getElem?_range hi, if_pos (by simpa using hi)]
      simp [hj]
    · rw [if_neg hij, List.getElem?_map, List.getElem?_map, List.getElem?_range hi]
      simp [h i hi (fun e => hij e.symm)]
  · have e1 : ((List.range m).map f)[i]? = none := List.getElem?_eq_none (by simpa using hi)
    have e2 : ((List.range m).map g)[i]? = none := List.getElem?_eq_none (by simpa using hi)
    rw [e1, e2]
    split
    · rename_i h1
      rw [if_neg (by subst h1; simpa using hi)]
    · rfl
theorem cntN_snoc (t : List Nd) (n : Nd) (j : Nat) : cntN (t ++ [n]) j = cntN t j + if j = (if 1 ≤ n.k ∧ n.k ≤ 5 then n.k.toNat else 0) then 1 else if j = 0 ∨ j ≤ 5 then 0 else if n.k = j then 1 else 0 := by
  unfold cntN noneC kindC
  split
  · rename_i h0
    subst h0
    rw [List.countP_append]
    congr 1
    by_cases h : 1 ≤ n.k ∧ n.k ≤ 5
    · rw [if_pos h, if_neg (by omega), if_pos (.inl rfl)]
      simp [h.1, h.2]
    · rw [if_neg h, if_pos rfl]
      simp only [List.countP_cons, List.countP_nil]
      rw [if_pos]
      rcases Decidable.em (1 ≤ n.k) with h1 | h1
      · simp [h1]; omega
      · simp [h1]
  · rename_i h0
    rw [List.countP_append]
    congr 1
    simp only [List.countP_cons, List.countP_nil, Nat.zero_add, decide_eq_true_eq]
    by_cases h : 1 ≤ n.k ∧ n.k ≤ 5
    · rw [if_pos h]
      repeat' split
      all_goals omega
    · rw [if_neg h]
      repeat' split
      all_goals omega
theorem cntN_le (t : List Nd) (j : Nat) : cntN t j ≤ t.length := by
  unfold cntN noneC kindC
  split
  · exact List.countP_le_length
  · exact List.countP_le_length
theorem cntA_get (t : List Nd) {j : Nat} (hj : j < 6) : (cntA t)[j]? = some (.int .i64 (cntN t j : Int)) := by
  unfold cntA
  rw [List.getElem?_toArray, List.getElem?_map, List.getElem?_range hj]
  rfl
theorem cntA_set (t : List Nd) (n : Nd) {j : Nat} (hj : j = if 1 ≤ n.k ∧ n.k ≤ 5 then n.k.toNat else 0) (ht : t.length ≤ 1048576) : (cntA t).setIfInBounds j (.int .i64 (IntKind.i64.wrap ((cntN t j : Int) + 1))) = cntA (t ++ [n]) := by
  unfold cntA
  refine map_set ?_ fun i hi hne => ?_
  · have := cntN_le t j
    rw [cntN_snoc, if_pos hj, wrap_i64 (by omega) (by omega)]
    rfl
  · rw [cntN_snoc, if_neg (by omega), if_pos (by omega)]
    rfl
theorem cntA_len (t : List Nd) : (cntA t).size = 6 := by simp [cntA]
theorem lineL_len {n : Nd} (h1 : n.pre.size ≤ 1048576) (h2 : n.loc.size ≤ 1048576) (h3 : n.uri.size ≤ 1048576) (h4 : n.val.size ≤ 1048576) (h5 : n.al ≤ 1048576) : (lineL n).length ≤ 4000500 := by
  have sz : ∀ s : ByteArray, s.data.toList.length = s.size := fun s => by rw [Array.length_toList]; rfl
  have d1 := decDigits_len 6 (n := n.al) (by omega)
  have d2 := decDigits_len 6 (n := n.val.size) (by omega)
  have hsp : (spL n.d).length ≤ 402 := by
    unfold spL
    split
    · rw [repeatL_len]; simp; omega
    · simp
  have hnl : (nameL n).length ≤ 2097153 := by
    unfold nameL
    split
    · rw [sz]; omega
    · simp only [List.length_append, sz, List.length_singleton]; omega
  unfold lineL
  rw [List.length_append]
  have : (bodyL n).length ≤ 4000000 := by
    unfold bodyL
    repeat' split
    all_goals (simp only [List.length_append, List.length_cons, List.length_nil, sz]; omega)
  omega
end Go.Ev
namespace Go.Proofs.YtojhnakgmihedaaDoor
open Go.Ev
set_option linter.unusedVariables false
theorem setStep {H0 H : Heap} {b o : Nat} {cs : Array Value} {t : TypeId} {v : Value} {K : Heap → Prop} (hb : H[b]? = some (.cells cs t (0, 0))) (ho : o < cs.size) (hf : Fr noF H0 H) (hB : Array.size H0 ≤ b)
    (h : ∀ H1, H1[b]? = some (.cells (cs.setIfInBounds o v) t (0, 0)) → Fr noF H0 H1 → Fr (fun k => k = b) H H1 → K H1) :
    (∃ u, hcell H ((⟨b, 0, none⟩ : Addr).add o) = some u) ∧ hfrozen H ((⟨b, 0, none⟩ : Addr).add o) = false ∧ letV (hset H ((⟨b, 0, none⟩ : Addr).add o) v) K := by
  refine ⟨⟨cs[o], (hcell_add hb 0 o).trans (by rw [Nat.zero_add]; exact Array.getElem?_eq_getElem ho)⟩, hfrozen_add hb 0 o, letV_mk fun H1 h1 => h H1 ?_ ?_ (set_fr h1)⟩
  · have := set_blk h1 hb
    rwa [Nat.zero_add] at this
  · exact hf.trans (set_fr h1) fun k hk => .inr (by omega)
theorem copyNode {H : Heap} {t : TypeId} (n : Nd) {K : Heap → Prop} (hK : ∀ H', H'[Array.size H]? = some (.cells (ndL n).toArray t (0, 0)) → Fr noF H H' → K H') :
    letV (hnew H #[.int .i64 0, .int .i64 0, .string (⟨#[]⟩ : ByteArray), .string (⟨#[]⟩ : ByteArray), .string (⟨#[]⟩ : ByteArray), .string (⟨#[]⟩ : ByteArray), .slice none 0 0] t) fun H4 : Heap => (∃ u, hcell H4 ((⟨Array.size H, 0, none⟩ : Addr).add 0) = some u) ∧ hfrozen H4 ((⟨Array.size H, 0, none⟩ : Addr).add 0) = false ∧
      letV (hset H4 ((⟨Array.size H, 0, none⟩ : Addr).add 0) (.int .i64 n.k)) fun H6 : Heap => (∃ u, hcell H6 ((⟨Array.size H, 0, none⟩ : Addr).add 1) = some u) ∧ hfrozen H6 ((⟨Array.size H, 0, none⟩ : Addr).add 1) = false ∧
      letV (hset H6 ((⟨Array.size H, 0, none⟩ : Addr).add 1) (.int .i64 n.d)) fun H7 : Heap => (∃ u, hcell H7 ((⟨Array.size H, 0, none⟩ : Addr).add 2) = some u) ∧ hfrozen H7 ((⟨Array.size H, 0, none⟩ : Addr).add 2) = false ∧
      letV (hset H7 ((⟨Array.size H, 0, none⟩ : Addr).add 2) (.string n.pre)) fun H8 : Heap => (∃ u, hcell H8 ((⟨Array.size H, 0, none⟩ : Addr).add 3) = some u) ∧ hfrozen H8 ((⟨Array.size H, 0, none⟩ : Addr).add 3) = false ∧
      letV (hset H8 ((⟨Array.size H, 0, none⟩ : Addr).add 3) (.string n.loc)) fun H9 : Heap => (∃ u, hcell H9 ((⟨Array.size H, 0, none⟩ : Addr).add 4) = some u) ∧ hfrozen H9 ((⟨Array.size H, 0, none⟩ : Addr).add 4) = false ∧
      letV (hset H9 ((⟨Array.size H, 0, none⟩ : Addr).add 4) (.string n.uri)) fun H10 : Heap => (∃ u, hcell H10 ((⟨Array.size H, 0, none⟩ : Addr).add 5) = some u) ∧ hfrozen H10 ((⟨Array.size H, 0, none⟩ : Addr).add 5) = false ∧
      letV (hset H10 ((⟨Array.size H, 0, none⟩ : Addr).add 5) (.string n.val)) fun H11 : Heap => (∃ u, hcell H11 ((⟨Array.size H, 0, none⟩ : Addr).add 6) = some u) ∧ hfrozen H11 ((⟨Array.size H, 0, none⟩ : Addr).add 6) = false ∧
      letV (hset H11 ((⟨Array.size H, 0, none⟩ : Addr).add 6) (.slice n.ap n.al n.ac)) fun H12 : Heap => K H12 := by
  refine letV_mk fun H1 h1 => ?_
  have g1 := new_part h1
  have f1 : Fr noF H H1 := by rw [h1]; exact Fr.new _ _ _
  refine setStep g1 (by simp) f1 (Nat.le_refl _) fun H2 g2 f2 _ => ?_
  refine setStep g2 (by simp) f2 (Nat.le_refl _) fun H3 g3 f3 _ => ?_
  refine setStep g3 (by simp) f3 (Nat.le_refl _) fun H4 g4 f4 _ => ?_
  refine setStep g4 (by simp) f4 (Nat.le_refl _) fun H5 g5 f5 _ => ?_
  refine setStep g5 (by simp) f5 (Nat.le_refl _) fun H6 g6 f6 _ => ?_
  refine setStep g6 (by simp) f6 (Nat.le_refl _) fun H7 g7 f7 _ => ?_
  refine setStep g7 (by simp) f7 (Nat.le_refl _) fun H8 g8 f8 _ => ?_
  exact hK H8 g8 f8
theorem nodeAt {H : Heap} {b : Nat} {n : Nd} {t : TypeId} (h : H[b]? = some (.cells (ndL n).toArray t (0, 0))) (j : Nat) (_ : j < 7) : hcell H ((⟨b, 0, none⟩ : Addr).add j) = (ndL n)[j]? := by
  rw [hcell_add h, Nat.zero_add, List.getElem?_toArray]
theorem Tree_spec {H : Heap} {t : List Nd} {p : Option Addr} {l c : Nat} (ht : TreeRd H t p l) (hl : l ≤ 1048576) (hs : ∀ n ∈ t, Small n) (hI : ∀ n ∈ t, (n.val.size < 100 ∧ n.al < 100) ∨ Pow10 H) {R : ByteArray → Heap → Prop}
    (hR : ∀ H', Fr noF H H' → R (mkB (treeL t)) H') : report_Tree.C p l c H R := by
  have hlen := ht.1
  apply report_Tree.calls
  unfold report_Tree.W
  refine letV_mk fun H1 h1 => ?_
  have f1 : Fr noF H H1 := by rw [h1]; exact Fr.new _ _ _
  have b1 := Bld.new h1
  clear h1
  refine joinW_mk (fun _ H' => Bld H' (Array.size H) (Array.size H) (treeL t) ∧ Fr noF H H') ?_ ?_
  · refine loopW_mk (fun k (q : Int × Unit) H' => ∃ i : Nat, i ≤ l ∧ k = l - i ∧ q.1 = (i : Int) ∧ Bld H' (Array.size H) (Array.size H) (treeL (t.take i)) ∧ Fr noF H H') l ⟨0, Nat.zero_le _, rfl, rfl, b1, f1⟩ ?_
    rintro k ⟨x, _⟩ H2 ⟨i, hi, rfl, hx, hb, hf⟩
    simp only at hx
    subst hx
    dsimp only
    refine brW_dec (fun hlt => ?_) (fun hge => ?_)
    · have hil : i < t.length := by omega
      have hmem : t[i] ∈ t := List.getElem_mem hil
      obtain ⟨a, ha, hc⟩ := (ht.old hf).2 i hil
      refine ⟨a, ha, by omega, by omega, ?_⟩
      rw [Int.toNat_natCast]
      refine readNode t[i] hc ?_
      refine copyNode t[i] fun H3 g3 f3 => ?_
      refine readNode t[i] (nodeAt g3) ?_
      have f03 := hf.trans0 f3
      obtain ⟨s1, s2, s3, s4, s5⟩ := hs _ hmem
      have hll := lineL_len s1 s2 s3 s4 s5
      refine Line_spec t[i] ⟨s1, s2, s3, s4, s5⟩ ((hI _ hmem).imp id fun h => h.old f03) fun H4 f4 => ?_
      have e1 : mkB (lineL t[i]) ++ (⟨#[10]⟩ : ByteArray) = mkB (lineL t[i] ++ [10]) := mkB_app _ _
      have htl : (treeL (t.take i)).length ≤ i * 4000501 := by
        have h := treeL_len (t := t.take i) (b := 4000500) fun n hn => by
          obtain ⟨s1, s2, s3, s4, s5⟩ := hs n (List.mem_of_mem_take hn)
          exact lineL_len s1 s2 s3 s4 s5
        rw [List.length_take, Nat.min_eq_left (by omega)] at h
        exact h
      refine ⟨?_, ?_⟩
      · rw [mkB_size]
        show (lineL t[i]).length + 1 ≤ _
        omega
      · rw [e1]
        refine WriteString_spec (hb.old (f3.trans0 f4)) ?_ fun H5 b5 f5 => ?_
        · rw [mkB_size, List.length_append, List.length_singleton]
          omega
        · refine ⟨l - (i + 1), by omega, i + 1, by omega, rfl, ?_, ?_, (f03.trans0 f4).trans f5 fun k hk => .inr hk⟩
          · show IntKind.i64.wrap ((i : Int) + 1) = _
            rw [wrap_i64 (by omega) (by omega)]; rfl
          · rw [List.take_succ_eq_append_getElem hil, treeL_snoc]
            have : (mkB (lineL t[i] ++ [10])).data.toList = lineL t[i] ++ [10] := by simp [mkB]
            rw [this] at b5
            exact b5
    · have e : t.take i = t := List.take_of_length_le (by omega)
      rw [e] at hb
      exact ⟨hb, hf⟩
  rintro _ H2 ⟨hb, hf⟩
  exact String_spec hb fun H3 f3 => hR H3 (hf.trans f3 fun k hk => .inr hk)
set_option maxHeartbeats 4000000 in
theorem Counts_spec {H : Heap} {t : List Nd} {p : Option Addr} {l c : Nat} (ht : TreeRd H t p l) (hl : l ≤ 1048576) {R : Int → Int → Int → Int → Int → Int → Heap → Prop}
    (hR : ∀ H', Fr noF H H' → R (cntN t 0 : Nat) (cntN t 1 : Nat) (cntN t 2 : Nat) (cntN t 3 : Nat) (cntN t 4 : Nat) (cntN t 5 : Nat) H') : report_Counts.C p l c H R := by
  have hlen := ht.1
  apply report_Counts.calls
  unfold report_Counts.W
  refine letV_mk fun H1 h1 => ?_
  have f1 : Fr noF H H1 := by rw [h1]; exact Fr.new _ _ _
  have g1 := new_part h1
  have s1 : Array.size H1 = Array.size H + 1 := by rw [h1]; exact hnew_size
  clear h1
  refine letV_mk fun H2 h2 => ?_
  have f2 : Fr noF H1 H2 := by rw [h2]; exact Fr.new _ _ _
  have g2 : H2[Array.size H1]? = some (.cells (cntA []) ty_6_int (0, 0)) := new_part h2
  have z2 := f2.blk g1 fun h => h
  clear h2
  refine joinW_mk (fun _ H' => H'[Array.size H]? = some (.cells #[.int .i64 0, .int .i64 0, .int .i64 0, .int .i64 0, .int .i64 0, .int .i64 0] ty_6_int (0, 0)) ∧ H'[Array.size H1]? = some (.cells (cntA t) ty_6_int (0, 0)) ∧ Fr noF H H') ?_ ?_
  · refine loopW_mk (fun k (q : Int × Unit) H' => ∃ i : Nat, i ≤ l ∧ k = l - i ∧ q.1 = (i : Int) ∧ H'[Array.size H]? = some (.cells #[.int .i64 0, .int .i64 0, .int .i64 0, .int .i64 0, .int .i64 0, .int .i64 0] ty_6_int (0, 0)) ∧ H'[Array.size H1]? = some (.cells (cntA (t.take i)) ty_6_int (0, 0)) ∧ Fr noF H H') l ⟨0, Nat.zero_le _, rfl, rfl, z2, g2, f1.trans0 f2⟩ ?_
    rintro k ⟨x, _⟩ H3 ⟨i, hi, rfl, hx, hz, hb, hf⟩
    simp only at hx
    subst hx
    dsimp only
    refine brW_dec (fun hlt => ?_) (fun hge => ?_)
    · have hil : i < t.length := by omega
      have htk : (t.take i).length = i := by rw [List.length_take]; omega
      obtain ⟨a, ha, hc⟩ := (ht.old hf).2 i hil
      refine joinW_mk (fun _ H' => H'[Array.size H]? = some (.cells #[.int .i64 0, .int .i64 0, .int .i64 0, .int .i64 0, .int .i64 0, .int .i64 0] ty_6_int (0, 0)) ∧ H'[Array.size H1]? = some (.cells (cntA (t.take (i + 1))) ty_6_int (0, 0)) ∧ Fr noF H H') ?_ ?_
      · refine ⟨a, ha, by omega, by omega, ?_⟩
        rw [Int.toNat_natCast]
        refine readNode t[i] hc ?_
        refine copyNode t[i] fun H4 g4 f4 => ?_
        refine joinW_mk (fun (q : Bool × Unit) H' => q.1 = decide (1 ≤ t[i].k ∧ t[i].k ≤ 5) ∧ H' = H4) ?_ ?_
        · refine ⟨_, nodeAt g4 0 (by omega), brW_dec (fun h1 => ⟨_, nodeAt g4 0 (by omega), ?_, rfl⟩) (fun h1 => ⟨?_, rfl⟩)⟩
          · exact decide_eq_decide.2 ⟨fun h => ⟨h1, h⟩, fun h => h.2⟩
          · exact (decide_eq_false fun h => h1 h.1).symm
        rintro ⟨b, _⟩ _ ⟨hbq, rfl⟩
        simp only at hbq
        subst hbq
        dsimp only
        rename_i H4
        have hb4 := f4.blk hb fun h => h
        have hz4 := f4.blk hz fun h => h
        have fin : ∀ {j : Nat} (hj : j = if 1 ≤ t[i].k ∧ t[i].k ≤ 5 then t[i].k.toNat else 0) {K : Heap → Prop} (hK : ∀ H', (H'[Array.size H]? = some (.cells #[.int .i64 0, .int .i64 0, .int .i64 0, .int .i64 0, .int .i64 0, .int .i64 0] ty_6_int (0, 0)) ∧ H'[Array.size H1]? = some (.cells (cntA (t.take (i + 1))) ty_6_int (0, 0)) ∧ Fr noF H H') → K H'), (∃ u, hcell H4 ((⟨Array.size H1, 0, none⟩ : Addr).add j) = some u) ∧ hfrozen H4 ((⟨Array.size H1, 0, none⟩ : Addr).add j) = false ∧ letV (hset H4 ((⟨Array.size H1, 0, none⟩ : Addr).add j) (.int .i64 (IntKind.i64.wrap ((cntN (t.take i) j : Int) + 1)))) K := by
          intro j hj K hK
          have hj6 : j < 6 := by rw [hj]; split <;> omega
          refine setStep hb4 (by rw [cntA_len]; exact hj6) (hf.trans0 f4) (by omega) fun H5 g5 f5 f45 => hK H5 ⟨f45.blk hz4 (by omega), ?_, f5⟩
          rw [cntA_set (t.take i) t[i] hj (by omega)] at g5
          rw [List.take_succ_eq_append_getElem hil]
          exact g5
        refine brW_dec (fun hin => ?_) (fun hin => ?_)
        · have hj : t[i].k.toNat = if 1 ≤ t[i].k ∧ t[i].k ≤ 5 then t[i].k.toNat else 0 := by rw [if_pos hin]
          refine ⟨_, nodeAt g4 0 (by omega), by omega, by omega, (cntN (t.take i) t[i].k.toNat : Int), ?_, by omega, by omega, ?_⟩
          · rw [mulSize_eq, Nat.mul_one, hcell_add hb4, Nat.zero_add, cntA_get _ (by omega)]
          · rw [mulSize_eq, Nat.mul_one]
            exact fin hj fun H' h => h
        · have hj : 0 = if 1 ≤ t[i].k ∧ t[i].k ≤ 5 then t[i].k.toNat else 0 := by rw [if_neg hin]
          refine ⟨by decide, by decide, (cntN (t.take i) 0 : Int), ?_, by decide, by decide, ?_⟩
          · exact (hcell_add hb4 0 0).trans (cntA_get _ (by omega))
          · exact fin hj fun H' h => h
      · rintro _ H4 ⟨h1, h2, h3⟩
        refine ⟨l - (i + 1), by omega, i + 1, by omega, rfl, ?_, h1, h2, h3⟩
        show IntKind.i64.wrap ((i : Int) + 1) = _
        rw [wrap_i64 (by omega) (by omega)]; rfl
    · have e : t.take i = t := List.take_of_length_le (by omega)
      rw [e] at hb
      exact ⟨hz, hb, hf⟩
  rintro _ H3 ⟨hz, hb, hf⟩
  have rd : ∀ {j : Nat}, j < 6 → hcell H3 ((⟨Array.size H1, 0, none⟩ : Addr).add j) = some (.int .i64 (cntN t j : Int)) := fun hj => by rw [hcell_add hb, Nat.zero_add, cntA_get _ hj]
  refine ⟨_, rd (by omega), _, rd (by omega), _, rd (by omega), _, rd (by omega), _, rd (by omega), _, rd (by omega), ?_⟩
  refine setStep hz (by simp) hf (Nat.le_refl _) fun H4 g4 f4 _ => ?_
  refine setStep g4 (by simp) f4 (Nat.le_refl _) fun H5 g5 f5 _ => ?_
  refine setStep g5 (by simp) f5 (Nat.le_refl _) fun H6 g6 f6 _ => ?_
  refine setStep g6 (by simp) f6 (Nat.le_refl _) fun H7 g7 f7 _ => ?_
  refine setStep g7 (by simp) f7 (Nat.le_refl _) fun H8 g8 f8 _ => ?_
  refine setStep g8 (by simp) f8 (Nat.le_refl _) fun H9 g9 f9 _ => ?_
  exact ⟨_, (hcell_add g9 0 0).trans rfl, _, (hcell_add g9 0 1).trans rfl, _, (hcell_add g9 0 2).trans rfl, _, (hcell_add g9 0 3).trans rfl, _, (hcell_add g9 0 4).trans rfl, _, (hcell_add g9 0 5).trans rfl, hR H9 f9⟩
end Go.Proofs.YtojhnakgmihedaaDoor
