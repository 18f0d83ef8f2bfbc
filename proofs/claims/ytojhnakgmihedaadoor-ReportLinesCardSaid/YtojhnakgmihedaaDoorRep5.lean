import Derived.Test.YtojhnakgmihedaaDoorRep4
/-! The laws of package report: the document's lines and trees; asks. -/
namespace Go.Proofs.YtojhnakgmihedaaDoor
open Go.Ev
set_option linter.unusedVariables false
theorem rLine_spec {H : Heap} (n : Nd) (hs : Small n) {R : ByteArray → Heap → Prop} (hR : ∀ H', Fr noF H H' → R (mkB (lineL n)) H') : brackenref15_Line.C n.k n.d n.pre n.loc n.uri n.val n.ap n.al n.ac H R := by
  have hsm := hs
  obtain ⟨s1, s2, s3, s4, s5⟩ := hs
  have sz : ∀ s : ByteArray, s.data.toList.length = s.size := fun s => by rw [Array.length_toList]; rfl
  apply brackenref15_Line.calls
  unfold brackenref15_Line.W
  refine letV_mk fun H1 h1 => ?_
  have f1 : Fr noF H H1 := by rw [h1]; exact Fr.new _ _ _
  have g : H1[Array.size H]? = some (.cells (ndL n).toArray ty_api_Node (0, 0)) := new_part h1
  clear h1
  have r0 := nodeAt g
  refine joinW_mk (fun (q : ByteArray × Unit) H' => q.1 = mkB (spL n.d) ∧ H1 = H') ?_ ?_
  · refine loopW_mk (fun k (q : ByteArray × Int × Unit) H' => H1 = H' ∧ ∃ i : Nat, k = 202 - i ∧ i ≤ 201 ∧ q.2.1 = (i : Int) ∧ q.1 = mkB (Go.Lib.repeatL [32, 32] i) ∧ (i = 0 ∨ (i : Int) ≤ n.d ∧ n.d ≤ 201)) 202 ⟨rfl, 0, rfl, by decide, rfl, rfl, .inl rfl⟩ ?_
    rintro k ⟨sB, x, _⟩ _ ⟨rfl, i, rfl, hi, hx, hsb, hid⟩
    simp only at hx hsb
    subst hx hsb
    dsimp only
    refine joinW_mk (fun _ H' => H1 = H' ∧ (i : Int) < n.d ∧ n.d ≤ 201) ?_ ?_
    · refine ⟨_, r0 1 (by omega), brW_dec (fun hlt => ⟨_, r0 1 (by omega), brW_dec (fun h2 => ⟨rfl, hlt, h2⟩) (fun h2 => ⟨?_, rfl⟩)⟩) (fun hge => ⟨?_, rfl⟩)⟩
      · have h0 : i = 0 := by omega
        subst h0
        unfold spL
        rw [if_neg (by omega)]
        rfl
      · unfold spL
        rcases hid with rfl | ⟨h3, h4⟩
        · split
          · rw [show n.d = 0 by omega]; rfl
          · rfl
        · rw [if_pos (by omega), show n.d = (i : Int) by omega, Int.toNat_natCast]
    · rintro _ _ ⟨rfl, hlt, h2⟩
      have e1 : mkB (Go.Lib.repeatL [32, 32] i) ++ (⟨#[32, 32]⟩ : ByteArray) = mkB (Go.Lib.repeatL [32, 32] (i + 1)) := by rw [← rep_snoc, ← mkB_app]; rfl
      refine ⟨?_, letV_mk fun y hy => ?_⟩
      · rw [mkB_size, repeatL_len]
        show i * 2 + 2 ≤ _
        omega
      · rw [e1]
        refine ⟨202 - (i + 1), by omega, rfl, i + 1, rfl, by omega, ?_, rfl, .inr ⟨by omega, h2⟩⟩
        show y = _
        rw [hy, wrap_i64 (by omega) (by omega)]; rfl
  rintro ⟨sB, _⟩ _ ⟨hsb, rfl⟩
  simp only at hsb
  subst hsb
  dsimp only
  have hsp : (spL n.d).length ≤ 402 := by
    unfold spL
    split
    · rw [repeatL_len]; simp; omega
    · simp
  have d1 := decDigits_len 6 (n := n.al) (by omega)
  have d2 := decDigits_len 6 (n := n.val.size) (by omega)
  have hnl : (nameL n).length ≤ 2097153 := by
    unfold nameL
    split
    · rw [sz]; omega
    · simp only [List.length_append, sz, List.length_singleton]; omega
  have hR := hR H1 f1
  unfold lineL bodyL at hR
  have two : ∀ (a : List UInt8) (s : ByteArray), mkB a ++ s = mkB (a ++ s.data.toList) := fun a s => by rw [← mkB_app]; rfl
  have szs : ∀ (a : List UInt8) (s : ByteArray) (k : Nat), a.length + s.size ≤ k → k ≤ 9223372036854775807 → (mkB a).size + s.size ≤ 9223372036854775807 := fun a s k h1 h2 => by rw [mkB_size]; omega
  refine ⟨_, r0 0 (by omega), brW_dec (fun h1 => ?_) (fun h1 => ?_)⟩
  · rw [if_pos h1] at hR
    refine ⟨szs _ _ 1000 ?_ (by decide), ?_⟩
    · show (spL n.d).length + 8 ≤ _
      omega
    · rw [two]; exact hR
  rw [if_neg h1] at hR
  refine brW_dec (fun h2 => ?_) (fun h2 => ?_)
  · rw [if_pos h2] at hR
    refine ⟨szs _ _ 1000 ?_ (by decide), _, r0 4 (by omega), ?_⟩
    · show (spL n.d).length + 9 ≤ _
      omega
    rw [two (spL n.d), two _ n.uri, two _ (⟨#[125]⟩ : ByteArray)]
    refine ⟨szs _ _ 4000000 ?_ (by decide), szs _ _ 4000000 ?_ (by decide), _, r0 2 (by omega), _, r0 3 (by omega), _, _, _, r0 6 (by omega), ?_⟩
    · simp only [List.length_append, List.length_cons, List.length_nil]
      omega
    · simp only [List.length_append, List.length_cons, List.length_nil, sz]
      show _ + 1 ≤ _
      omega
    refine qname_spec n hsm ⟨⟨_, r0 4 (by omega), rfl⟩, ⟨_, _, _, r0 6 (by omega), rfl⟩, ?_⟩
    rw [two _ (mkB (nameL n)), two _ (⟨#[32]⟩ : ByteArray)]
    have ed : ∀ a : List UInt8, (mkB a).data.toList = a := fun a => by simp [mkB]
    rw [ed (nameL n)]
    refine ⟨szs _ _ 4000000 ?_ (by decide), szs _ _ 4000000 ?_ (by decide), ?_⟩
    · rw [mkB_size]
      simp only [List.length_append, List.length_cons, List.length_nil, sz]
      omega
    · simp only [List.length_append, List.length_cons, List.length_nil, sz]
      show _ + 1 ≤ _
      omega
    refine Decimal_spec s5 ⟨⟨_, r0 4 (by omega), rfl⟩, szs _ _ 4000000 ?_ (by decide), ?_⟩
    · rw [mkB_size]
      simp only [List.length_append, List.length_cons, List.length_nil, sz]
      omega
    · rw [two, ed]
      have e : spL n.d ++ (⟨#[101, 108, 101, 109, 101, 110, 116, 32, 123]⟩ : ByteArray).data.toList ++ n.uri.data.toList ++ (⟨#[125]⟩ : ByteArray).data.toList ++ nameL n ++ (⟨#[32]⟩ : ByteArray).data.toList ++ Go.Lib.decDigits n.al = spL n.d ++ ([101, 108, 101, 109, 101, 110, 116] ++ ([32] ++ (([123] ++ n.uri.data.toList ++ [125] ++ nameL n) ++ ([32] ++ Go.Lib.decDigits n.al)))) := by simp
      rw [e]
      exact hR
  rw [if_neg h2] at hR
  have ed : ∀ a : List UInt8, (mkB a).data.toList = a := fun a => by simp [mkB]
  refine brW_dec (fun h3 => ?_) (fun h3 => ?_)
  · rw [if_pos h3] at hR
    refine ⟨szs _ _ 1000 ?_ (by decide), _, r0 5 (by omega), ?_⟩
    · show (spL n.d).length + 5 ≤ _
      omega
    refine Decimal_spec s4 ?_
    rw [two (spL n.d)]
    refine ⟨szs _ _ 4000000 ?_ (by decide), ?_⟩
    · rw [mkB_size]
      simp only [List.length_append, List.length_cons, List.length_nil]
      omega
    · rw [two, ed]
      have e : spL n.d ++ (⟨#[116, 101, 120, 116, 32]⟩ : ByteArray).data.toList ++ Go.Lib.decDigits n.val.size = spL n.d ++ ([116, 101, 120, 116] ++ ([32] ++ Go.Lib.decDigits n.val.size)) := by simp
      rw [e]
      exact hR
  rw [if_neg h3] at hR
  refine brW_dec (fun h4 => ?_) (fun h4 => ?_)
  · rw [if_pos h4] at hR
    refine ⟨szs _ _ 1000 ?_ (by decide), _, r0 5 (by omega), ?_⟩
    · show (spL n.d).length + 8 ≤ _
      omega
    refine Decimal_spec s4 ?_
    rw [two (spL n.d)]
    refine ⟨szs _ _ 4000000 ?_ (by decide), ?_⟩
    · rw [mkB_size]
      simp only [List.length_append, List.length_cons, List.length_nil]
      omega
    · rw [two, ed]
      have e : spL n.d ++ (⟨#[99, 111, 109, 109, 101, 110, 116, 32]⟩ : ByteArray).data.toList ++ Go.Lib.decDigits n.val.size = spL n.d ++ ([99, 111, 109, 109, 101, 110, 116] ++ ([32] ++ Go.Lib.decDigits n.val.size)) := by simp
      rw [e]
      exact hR
  rw [if_neg h4] at hR
  refine brW_dec (fun h5 => ?_) (fun h5 => ?_)
  · rw [if_pos h5] at hR
    refine ⟨szs _ _ 1000 ?_ (by decide), _, r0 3 (by omega), ?_⟩
    · show (spL n.d).length + 3 ≤ _
      omega
    rw [two (spL n.d)]
    refine ⟨szs _ _ 4000000 ?_ (by decide), ?_⟩
    · simp only [List.length_append, List.length_cons, List.length_nil]
      omega
    · rw [two]
      have e : spL n.d ++ (⟨#[112, 105, 32]⟩ : ByteArray).data.toList ++ n.loc.data.toList = spL n.d ++ ([112, 105] ++ ([32] ++ n.loc.data.toList)) := by simp
      rw [e]
      exact hR
  · rw [if_neg h5] at hR
    refine ⟨szs _ _ 1000 ?_ (by decide), ?_⟩
    · show (spL n.d).length + 1 ≤ _
      omega
    · rw [two]; exact hR
theorem Word_spec {H : Heap} (c : Int) {R : ByteArray → Heap → Prop} (hR : ∀ H', Fr noF H H' → R (codeB c) H') : brackenref15_Word.C c H R := by
  apply brackenref15_Word.calls
  unfold brackenref15_Word.W
  refine joinW_mk (fun _ H' => H = H' ∧ 0 ≤ c ∧ c ≤ 7) ?_ ?_
  · refine joinW_mk (fun (q : Bool × Unit) H' => H = H' ∧ q.1 = decide (¬ (0 ≤ c ∧ c ≤ 7))) ?_ ?_
    · refine brW_dec (fun h => ⟨rfl, (decide_eq_true (by omega)).symm⟩) (fun h => ⟨rfl, ?_⟩)
      exact decide_eq_decide.2 (by omega)
    rintro ⟨b, _⟩ _ ⟨rfl, hb⟩
    simp only at hb
    subst hb
    dsimp only
    refine brW_dec (fun h => ?_) (fun h => ⟨rfl, by omega⟩)
    have := hR H (Fr.refl _ _)
    rwa [codeB_in.2 h] at this
  rintro _ _ ⟨rfl, h0, h7⟩
  refine letV_mk fun H1 h1 => ?_
  have f1 : Fr noF H H1 := by rw [h1]; exact Fr.new _ _ _
  have g1 := new_part h1
  clear h1
  have := hR H1 f1
  unfold codeB at this
  rw [if_pos h0] at this
  refine ⟨_, rfl, h0, by omega, _, ?_, this⟩
  obtain ⟨k, rfl⟩ : ∃ k : Nat, c = (k : Int) := ⟨c.toNat, by omega⟩
  rw [Int.toNat_natCast, hcell_add g1, Nat.zero_add]
  have h8 : k < 8 := by omega
  match k, h8 with
  | 0, _ => rfl
  | 1, _ => rfl
  | 2, _ => rfl
  | 3, _ => rfl
  | 4, _ => rfl
  | 5, _ => rfl
  | 6, _ => rfl
  | 7, _ => rfl
  | n + 8, h => omega
theorem rTree_spec {H : Heap} {t : List Nd} {p : Option Addr} {l c : Nat} (ht : TreeRd H t p l) (hl : l ≤ 1048576) (hs : ∀ n ∈ t, Small n) {R : ByteArray → Heap → Prop}
    (hR : ∀ H', Fr noF H H' → R (mkB (treeL t)) H') : brackenref15_Report.C p l c H R := by
  have hlen := ht.1
  apply brackenref15_Report.calls
  unfold brackenref15_Report.W
  refine joinW_mk (fun (q : ByteArray × Unit) H' => q.1 = mkB (treeL t) ∧ Fr noF H H') ?_ ?_
  · refine loopW_mk (fun k (q : ByteArray × Int × Unit) H' => ∃ i : Nat, i ≤ l ∧ k = l - i ∧ q.2.1 = (i : Int) ∧ q.1 = mkB (treeL (t.take i)) ∧ Fr noF H H') l ⟨0, Nat.zero_le _, rfl, rfl, rfl, Fr.refl _ _⟩ ?_
    rintro k ⟨sB, x, _⟩ H2 ⟨i, hi, rfl, hx, hsb, hf⟩
    simp only at hx hsb
    subst hx hsb
    dsimp only
    refine brW_dec (fun hlt => ?_) (fun hge => ?_)
    · have hil : i < t.length := by omega
      have hmem : t[i] ∈ t := List.getElem_mem hil
      obtain ⟨a, ha, hc⟩ := (ht.old hf).2 i hil
      refine ⟨a, ha, by omega, by omega, ?_⟩
      rw [Int.toNat_natCast]
      refine readNode t[i] hc ?_
      obtain ⟨s1, s2, s3, s4, s5⟩ := hs _ hmem
      have hll := lineL_len s1 s2 s3 s4 s5
      have htl : (treeL (t.take i)).length ≤ i * 4000501 := by
        have h := treeL_len (t := t.take i) (b := 4000500) fun n hn => by
          obtain ⟨s1, s2, s3, s4, s5⟩ := hs n (List.mem_of_mem_take hn)
          exact lineL_len s1 s2 s3 s4 s5
        rw [List.length_take, Nat.min_eq_left (by omega)] at h
        exact h
      refine rLine_spec t[i] ⟨s1, s2, s3, s4, s5⟩ fun H3 f3 => ?_
      have e1 : (mkB (treeL (t.take i)) ++ mkB (lineL t[i])) ++ (⟨#[10]⟩ : ByteArray) = mkB (treeL (t.take (i + 1))) := by
        rw [mkB_app, List.take_succ_eq_append_getElem hil, treeL_snoc, ← List.append_assoc, ← mkB_app (treeL (t.take i) ++ lineL t[i])]
        rfl
      refine ⟨?_, ?_, letV_mk fun y hy => ?_⟩
      · rw [mkB_size, mkB_size]; omega
      · rw [mkB_app, mkB_size, List.length_append]
        show _ + 1 ≤ _
        omega
      · rw [e1]
        refine ⟨l - (i + 1), by omega, i + 1, by omega, rfl, ?_, rfl, hf.trans0 f3⟩
        show y = _
        rw [hy, wrap_i64 (by omega) (by omega)]; rfl
    · have e : t.take i = t := List.take_of_length_le (by omega)
      rw [e]
      exact ⟨rfl, hf⟩
  rintro ⟨sB, _⟩ H1 ⟨hsb, hf⟩
  simp only at hsb
  subst hsb
  exact hR H1 hf
theorem cnt_set {H0 H : Heap} {b j : Nat} {t : List Nd} {n : Nd} (hb : H[b]? = some (.cells (cntA t) ty_6_int (0, 0))) (hf : Fr noF H0 H) (hB : Array.size H0 ≤ b) (ht : t.length ≤ 1048576) (hj : j = if 1 ≤ n.k ∧ n.k ≤ 5 then n.k.toNat else 0) {K : Heap → Prop}
    (hK : ∀ H', H'[b]? = some (.cells (cntA (t ++ [n])) ty_6_int (0, 0)) → Fr noF H0 H' → K H') :
    (∃ u, hcell H ((⟨b, 0, none⟩ : Addr).add j) = some u) ∧ hfrozen H ((⟨b, 0, none⟩ : Addr).add j) = false ∧ letV (hset H ((⟨b, 0, none⟩ : Addr).add j) (.int .i64 (IntKind.i64.wrap ((cntN t j : Int) + 1)))) K := by
  have hj6 : j < 6 := by rw [hj]; split <;> omega
  refine setStep hb (by rw [cntA_len]; exact hj6) hf hB fun H5 g5 f5 _ => hK H5 ?_ f5
  rw [cntA_set t n hj ht] at g5
  exact g5
set_option maxHeartbeats 4000000 in
theorem ReportAsks_fn (H : Heap) (hd : Pow10 H) (xc : Int) (hxc : (Lit.int .i64 xc).wf = true) (p : Option Addr) (l c : Nat) (t : List Nd) (ht0 : TreeRd H t p l) (hl0 : l ≤ 9223372036854775807) (hn0 : ∀ n ∈ t, NdBig n ∧ NdAt H n) :
    brackenlaw27_ReportAsks.C xc p l c H fun b H' => b = true ∧ Fr noF H H' := by
  apply brackenlaw27_ReportAsks.calls
  unfold brackenlaw27_ReportAsks.W
  refine Few_spec ht0 hl0 hn0 fun few H1 f1 hfew => ?_
  cases few with
  | false => exact brW_true rfl (told_spec fun H2 f2 => ⟨rfl, f1.trans0 f2⟩)
  | true =>
    refine brW_false rfl ?_
    obtain ⟨hl40, hfn⟩ := hfew rfl
    have ht := ht0.old f1
    have hp := hd.old f1
    clear ht0 hn0 hfew
    have hlen := ht.1
    have hsm : ∀ n ∈ t, Small n := fun n hn => FewN.small (hfn n hn)
    refine letV_mk fun H2 h2 => ?_
    have f2 : Fr noF H1 H2 := by rw [h2]; exact Fr.new _ _ _
    have g2 : H2[Array.size H1]? = some (.cells (cntA []) ty_6_int (0, 0)) := new_part h2
    clear h2
    refine joinW_mk (fun _ H' => H'[Array.size H1]? = some (.cells (cntA t) ty_6_int (0, 0)) ∧ Fr noF H1 H') ?_ ?_
    · refine loopW_mk (fun k (q : Int × Unit) H' => ∃ i : Nat, i ≤ l ∧ k = l - i ∧ q.1 = (i : Int) ∧ H'[Array.size H1]? = some (.cells (cntA (t.take i)) ty_6_int (0, 0)) ∧ Fr noF H1 H') l ⟨0, Nat.zero_le _, rfl, rfl, g2, f2⟩ ?_
      rintro k ⟨x, _⟩ H3 ⟨i, hi, rfl, hx, hb, hf⟩
      simp only at hx
      subst hx
      dsimp only
      refine brW_dec (fun hlt => ?_) (fun hge => ?_)
      · have hil : i < t.length := by omega
        have hmem : t[i] ∈ t := List.getElem_mem hil
        have htk : (t.take i).length = i := by rw [List.length_take]; omega
        refine joinW_mk (fun _ H' => H'[Array.size H1]? = some (.cells (cntA (t.take (i + 1))) ty_6_int (0, 0)) ∧ Fr noF H1 H') ?_ ?_
        · refine joinW_mk (fun _ H' => H'[Array.size H1]? = some (.cells (cntA (t.take (i + 1))) ty_6_int (0, 0)) ∧ Fr noF H1 H') ?_ ?_
          · obtain ⟨a, ha, hc⟩ := (ht.old hf).2 i hil
            have hk0 := hc 0 (by omega)
            refine joinW_mk (fun (q : Bool × Unit) H' => q.1 = decide (1 ≤ t[i].k ∧ t[i].k ≤ 5) ∧ H' = H3) ?_ ?_
            · refine ⟨a, ha, by omega, by omega, _, by rw [Int.toNat_natCast]; exact hk0, brW_dec (fun h1 => ⟨a, ha, by omega, by omega, _, by rw [Int.toNat_natCast]; exact hk0, ?_, rfl⟩) (fun h1 => ⟨?_, rfl⟩)⟩
              · exact decide_eq_decide.2 ⟨fun h => ⟨h1, h⟩, fun h => h.2⟩
              · exact (decide_eq_false fun h => h1 h.1).symm
            rintro ⟨b, _⟩ _ ⟨hbq, rfl⟩
            simp only at hbq
            subst hbq
            dsimp only
            rename_i H3
            have fin : ∀ H' : Heap, H'[Array.size H1]? = some (.cells (cntA (t.take i ++ [t[i]])) ty_6_int (0, 0)) → Fr noF H1 H' → H'[Array.size H1]? = some (.cells (cntA (t.take (i + 1))) ty_6_int (0, 0)) ∧ Fr noF H1 H' := fun H' h1 h2 => ⟨by rw [List.take_succ_eq_append_getElem hil]; exact h1, h2⟩
            refine brW_dec (fun hin => ?_) (fun hin => ?_)
            · refine ⟨a, ha, by omega, by omega, _, by rw [Int.toNat_natCast]; exact hk0, by omega, by omega, (cntN (t.take i) t[i].k.toNat : Int), ?_, by omega, by omega, ?_⟩
              · rw [mulSize_eq, Nat.mul_one, hcell_add hb, Nat.zero_add, cntA_get _ (by omega)]
              · rw [mulSize_eq, Nat.mul_one]
                exact cnt_set hb hf (Nat.le_refl _) (by omega) (by rw [if_pos hin]) fin
            · refine ⟨by decide, by decide, (cntN (t.take i) 0 : Int), ?_, by decide, by decide, ?_⟩
              · exact (hcell_add hb 0 0).trans (cntA_get _ (by omega))
              · exact cnt_set (n := t[i]) (j := 0) hb hf (Nat.le_refl _) (by omega) (by rw [if_neg hin]) fin
          · rintro _ H4 ⟨h4, f4⟩
            obtain ⟨a, ha, hc⟩ := (ht.old f4).2 i hil
            refine ⟨a, ha, by omega, by omega, ?_⟩
            rw [Int.toNat_natCast]
            refine readNode t[i] hc ⟨a, ha, by omega, by omega, ?_⟩
            refine readNode t[i] hc ?_
            refine Line_spec t[i] (hsm _ hmem) (.inr (hp.old f4)) fun H5 f5 => ⟨?_, ?_⟩
            · obtain ⟨a', ha', hc'⟩ := (ht.old (f4.trans0 f5)).2 i hil
              obtain rfl := Option.some.inj (ha.symm.trans ha')
              exact readNode t[i] hc' rfl
            · refine rLine_spec t[i] (hsm _ hmem) fun H6 f6 => brW_neg (fun h => h rfl) ⟨?_, (f4.trans0 f5).trans0 f6⟩
              exact (f5.trans0 f6).blk h4 fun h => h
        · rintro _ H4 ⟨h4, f4⟩
          refine letV_mk fun y hy => ⟨l - (i + 1), by omega, i + 1, by omega, rfl, ?_, h4, f4⟩
          show y = _
          rw [hy, wrap_i64 (by omega) (by omega)]; rfl
      · have e : t.take i = t := List.take_of_length_le (by omega)
        rw [e] at hb
        exact ⟨hb, hf⟩
    rintro _ H3 ⟨hb, hf⟩
    refine told_spec fun H4 f4 => brW_true rfl ?_
    refine Code_spec xc fun H5 f5 => Word_spec xc fun H6 f6 => brW_pos rfl ?_
    have f36 := (f4.trans0 f5).trans0 f6
    refine Tree_spec (ht.old (hf.trans0 f36)) (by omega) hsm (fun n hn => .inr (hp.old (hf.trans0 f36))) fun H7 f7 => ?_
    refine rTree_spec (ht.old ((hf.trans0 f36).trans0 f7)) (by omega) hsm fun H8 f8 => brW_pos rfl ?_
    have f38 := (f36.trans0 f7).trans0 f8
    have b8 := f38.blk hb fun h => h
    have rd : ∀ {H' : Heap} {j : Nat}, H'[Array.size H1]? = some (.cells (cntA t) ty_6_int (0, 0)) → j < 6 → hcell H' ((⟨Array.size H1, 0, none⟩ : Addr).add j) = some (.int .i64 (cntN t j : Int)) := fun hb hj => by rw [hcell_add hb, Nat.zero_add, cntA_get _ hj]
    refine ⟨_, rd b8 (by omega), _, rd b8 (by omega), _, rd b8 (by omega), _, rd b8 (by omega), _, rd b8 (by omega), _, rd b8 (by omega), ?_⟩
    refine Counts_spec (ht.old (hf.trans0 f38)) (by omega) fun H9 f9 => ?_
    have b9 := f9.blk b8 fun h => h
    refine ⟨⟨_, rd b9 (by omega), _, rd b9 (by omega), _, rd b9 (by omega), _, rd b9 (by omega), _, rd b9 (by omega), _, rd b9 (by omega), rfl⟩, by simp, ?_⟩
    exact f1.trans0 ((hf.trans0 f38).trans0 f9)
end Go.Proofs.YtojhnakgmihedaaDoor
