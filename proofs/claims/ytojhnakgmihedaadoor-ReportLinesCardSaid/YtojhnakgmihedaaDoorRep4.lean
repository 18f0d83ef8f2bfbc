import Derived.Test.YtojhnakgmihedaaDoorRep3
import Derived.Test.YtojhnakgmihedaaDoorRepT
/-! The laws of package report: the document's own words, and asks. -/
namespace Go.Ev
def FewN (n : Nd) : Prop := n.pre.size + n.loc.size + n.uri.size + n.val.size ≤ 200 ∧ n.al ≤ 8
theorem sum4 {a b c d : Nat} (ha : a ≤ 140737488351232) (hb : b ≤ 140737488351232) (hc : c ≤ 140737488351232) (hd : d ≤ 140737488351232) :
    IntKind.i64.wrap (IntKind.i64.wrap (IntKind.i64.wrap ((a : Int) + (b : Int)) + (c : Int)) + (d : Int)) = (a : Int) + b + c + d := by
  rw [wrap_i64 (n := (a : Int) + b) (by omega) (by omega), wrap_i64 (n := (a : Int) + b + c) (by omega) (by omega), wrap_i64 (by omega) (by omega)]
theorem eqB {s : ByteArray} {l : List UInt8} (h : s.data.toList = l) : s = mkB l := by subst h; rfl
theorem rep_snoc (l : List UInt8) : ∀ c, Go.Lib.repeatL l c ++ l = Go.Lib.repeatL l (c + 1)
  | 0 => by simp [Go.Lib.repeatL]
  | c + 1 => by
    have ih := rep_snoc l c
    show (l ++ Go.Lib.repeatL l c) ++ l = l ++ Go.Lib.repeatL l (c + 1)
    rw [List.append_assoc, ih]
theorem digs10 : ∀ d : Fin 10, (⟨#[48, 49, 50, 51, 52, 53, 54, 55, 56, 57]⟩ : ByteArray).extract d.val (d.val + 1) = mkB [UInt8.ofNat (48 + d.val)] := by decide
theorem readAtt {H : Heap} {a : Addr} (n : At) (h : ∀ j, j < 4 → hcell H (a.add j) = (atL n)[j]?) {K : ByteArray → ByteArray → ByteArray → ByteArray → Prop} (hK : K n.a n.b n.c n.d) :
    ∃ x2 : ByteArray, hcell H (a.add 0) = some (.string x2) ∧ ∃ x3 : ByteArray, hcell H (a.add 1) = some (.string x3) ∧ ∃ x4 : ByteArray, hcell H (a.add 2) = some (.string x4) ∧ ∃ x5 : ByteArray, hcell H (a.add 3) = some (.string x5) ∧ K x2 x3 x4 x5 :=
  ⟨_, h 0 (by omega), _, h 1 (by omega), _, h 2 (by omega), _, h 3 (by omega), hK⟩
end Go.Ev
namespace Go.Proofs.YtojhnakgmihedaaDoor
open Go.Ev
set_option linter.unusedVariables false
theorem FewN.small {n : Nd} (h : FewN n) : Small n := by
  obtain ⟨h1, h2⟩ := h
  exact ⟨by omega, by omega, by omega, by omega, by omega⟩
theorem copyAt {H : Heap} {t : TypeId} (n : At) {K : Heap → Prop} (hK : ∀ H', H'[Array.size H]? = some (.cells (atL n).toArray t (0, 0)) → Fr noF H H' → K H') :
    letV (hnew H #[.string (⟨#[]⟩ : ByteArray), .string (⟨#[]⟩ : ByteArray), .string (⟨#[]⟩ : ByteArray), .string (⟨#[]⟩ : ByteArray)] t) fun H4 : Heap => (∃ u, hcell H4 ((⟨Array.size H, 0, none⟩ : Addr).add 0) = some u) ∧ hfrozen H4 ((⟨Array.size H, 0, none⟩ : Addr).add 0) = false ∧
      letV (hset H4 ((⟨Array.size H, 0, none⟩ : Addr).add 0) (.string n.a)) fun H8 : Heap => (∃ u, hcell H8 ((⟨Array.size H, 0, none⟩ : Addr).add 1) = some u) ∧ hfrozen H8 ((⟨Array.size H, 0, none⟩ : Addr).add 1) = false ∧
      letV (hset H8 ((⟨Array.size H, 0, none⟩ : Addr).add 1) (.string n.b)) fun H9 : Heap => (∃ u, hcell H9 ((⟨Array.size H, 0, none⟩ : Addr).add 2) = some u) ∧ hfrozen H9 ((⟨Array.size H, 0, none⟩ : Addr).add 2) = false ∧
      letV (hset H9 ((⟨Array.size H, 0, none⟩ : Addr).add 2) (.string n.c)) fun H10 : Heap => (∃ u, hcell H10 ((⟨Array.size H, 0, none⟩ : Addr).add 3) = some u) ∧ hfrozen H10 ((⟨Array.size H, 0, none⟩ : Addr).add 3) = false ∧
      letV (hset H10 ((⟨Array.size H, 0, none⟩ : Addr).add 3) (.string n.d)) fun H12 : Heap => K H12 := by
  refine letV_mk fun H1 h1 => ?_
  have g1 := new_part h1
  have f1 : Fr noF H H1 := by rw [h1]; exact Fr.new _ _ _
  refine setStep g1 (by simp) f1 (Nat.le_refl _) fun H2 g2 f2 _ => ?_
  refine setStep g2 (by simp) f2 (Nat.le_refl _) fun H3 g3 f3 _ => ?_
  refine setStep g3 (by simp) f3 (Nat.le_refl _) fun H4 g4 f4 _ => ?_
  refine setStep g4 (by simp) f4 (Nat.le_refl _) fun H5 g5 f5 _ => ?_
  exact hK H5 g5 f5
theorem atAt {H : Heap} {b : Nat} {n : At} {t : TypeId} (h : H[b]? = some (.cells (atL n).toArray t (0, 0))) (j : Nat) (_ : j < 4) : hcell H ((⟨b, 0, none⟩ : Addr).add j) = (atL n)[j]? := by
  rw [hcell_add h, Nat.zero_add, List.getElem?_toArray]
set_option maxHeartbeats 2000000 in
theorem Few_spec {H : Heap} {t : List Nd} {p : Option Addr} {l c : Nat} (ht : TreeRd H t p l) (hl : l ≤ 9223372036854775807) (hn : ∀ n ∈ t, NdBig n ∧ NdAt H n) {R : Bool → Heap → Prop}
    (hR : ∀ b H', Fr noF H H' → (b = true → l ≤ 40 ∧ ∀ n ∈ t, FewN n) → R b H') : brackenlaw16_Few.C p l c H R := by
  have hlen := ht.1
  apply brackenlaw16_Few.calls
  unfold brackenlaw16_Few.W
  refine joinW_mk (fun _ H' => (∀ n ∈ t, FewN n) ∧ Fr noF H H') ?_ ?_
  · refine loopW_mk (fun k (q : Int × Unit) H' => ∃ i : Nat, i ≤ l ∧ k = l - i ∧ q.1 = (i : Int) ∧ (∀ n ∈ t.take i, FewN n) ∧ Fr noF H H') l ⟨0, Nat.zero_le _, rfl, rfl, by simp, Fr.refl _ _⟩ ?_
    rintro k ⟨x, _⟩ H2 ⟨i, hi, rfl, hx, hb, hf⟩
    simp only at hx
    subst hx
    dsimp only
    refine brW_dec (fun hlt => ?_) (fun hge => ?_)
    · have hil : i < t.length := by omega
      have hmem : t[i] ∈ t := List.getElem_mem hil
      obtain ⟨⟨z1, z2, z3, z4⟩, L, hL, hLb⟩ := hn _ hmem
      obtain ⟨a, ha, hc⟩ := (ht.old hf).2 i hil
      refine joinW_mk (fun _ H' => FewN t[i] ∧ Fr noF H H') ?_ ?_
      · refine ⟨a, ha, by omega, by omega, ?_⟩
        rw [Int.toNat_natCast]
        refine readNode t[i] hc ?_
        refine copyNode t[i] fun H4 g4 f4 => ?_
        have f04 := hf.trans0 f4
        refine joinW_mk (fun _ H' => FewN t[i] ∧ H' = H4) ?_ ?_
        · refine joinW_mk (fun (q : Bool × Unit) H' => (q.1 = false → FewN t[i]) ∧ H' = H4) ?_ ?_
          · refine ⟨_, nodeAt g4 2 (by omega), _, nodeAt g4 3 (by omega), _, nodeAt g4 4 (by omega), _, nodeAt g4 5 (by omega), ?_⟩
            rw [sum4 z1 z2 z3 z4]
            refine brW_dec (fun h => ⟨fun h => (by cases h), rfl⟩) (fun h => ⟨_, _, _, nodeAt g4 6 (by omega), fun h2 => ?_, rfl⟩)
            have h2 := of_decide_eq_false h2
            exact ⟨by omega, by omega⟩
          rintro ⟨b, _⟩ _ ⟨hbq, rfl⟩
          simp only at hbq
          dsimp only
          refine brW_mk (fun h => hR false _ f04 fun h => by cases h) (fun h => ⟨hbq h, rfl⟩)
        rintro _ _ ⟨hfew, rfl⟩
        rename_i H4
        have hal := hL.1
        refine loopW_mk (fun k (q : Int × Unit) H' => ∃ j : Nat, j ≤ t[i].al ∧ k = t[i].al - j ∧ q.1 = (j : Int) ∧ Fr noF H4 H') t[i].al ⟨0, Nat.zero_le _, rfl, rfl, Fr.refl _ _⟩ ?_
        rintro k ⟨y, _⟩ H5 ⟨j, hj, rfl, hy, hf5⟩
        simp only at hy
        subst hy
        dsimp only
        have g5 := hf5.blk g4 fun h => h
        refine ⟨_, _, _, nodeAt g5 6 (by omega), brW_dec (fun hjl => ?_) (fun hjl => ⟨hfew, f04.trans0 hf5⟩)⟩
        have hjL : j < L.length := by omega
        obtain ⟨a2, ha2, hc2⟩ := (hL.old (f04.trans0 hf5)).2 j hjL
        obtain ⟨y1, y2, y3, y4⟩ := hLb _ (List.getElem_mem hjL)
        refine ⟨_, _, _, nodeAt g5 6 (by omega), a2, ha2, by omega, by omega, ?_⟩
        rw [Int.toNat_natCast]
        refine readAtt L[j] hc2 ?_
        refine copyAt L[j] fun H6 g6 f6 => ?_
        refine ⟨_, atAt g6 0 (by omega), _, atAt g6 1 (by omega), _, atAt g6 2 (by omega), _, atAt g6 3 (by omega), ?_⟩
        rw [sum4 y1 y2 y3 y4]
        refine brW_dec (fun h => hR false _ ((f04.trans0 hf5).trans0 f6) fun h => by cases h) (fun h => ?_)
        refine ⟨t[i].al - (j + 1), by omega, j + 1, by omega, rfl, ?_, hf5.trans0 f6⟩
        have := hfew.2
        show IntKind.i64.wrap ((j : Int) + 1) = _
        rw [wrap_i64 (by omega) (by omega)]; rfl
      · rintro _ H4 ⟨h1, h2⟩
        refine ⟨l - (i + 1), by omega, i + 1, by omega, rfl, ?_, fun n hn => ?_, h2⟩
        · show IntKind.i64.wrap ((i : Int) + 1) = _
          rw [wrap_i64 (by omega) (by omega)]; rfl
        · rw [List.take_succ_eq_append_getElem hil, List.mem_append, List.mem_singleton] at hn
          rcases hn with hn | rfl
          · exact hb n hn
          · exact h1
    · have e : t.take i = t := List.take_of_length_le (by omega)
      rw [e] at hb
      exact ⟨hb, hf⟩
  rintro _ H3 ⟨hb, hf⟩
  exact hR _ _ hf fun h => ⟨by have := of_decide_eq_true h; omega, hb⟩
theorem Decimal_spec {H : Heap} {n : Nat} (hn : n ≤ 1048576) {R : ByteArray → Heap → Prop} (hR : R (mkB (Go.Lib.decDigits n)) H) : brackenref15_Decimal.C (n : Int) H R := by
  have hd := decDigits_len 6 (n := n) (by omega)
  apply brackenref15_Decimal.calls
  unfold brackenref15_Decimal.W
  have dig : ∀ {d : Nat}, d < 10 → (⟨#[48, 49, 50, 51, 52, 53, 54, 55, 56, 57]⟩ : ByteArray).extract d (d + 1) = mkB [UInt8.ofNat (48 + d)] := fun {d} hd => digs10 ⟨d, hd⟩
  have z10 : (⟨#[48, 49, 50, 51, 52, 53, 54, 55, 56, 57]⟩ : ByteArray).size = 10 := rfl
  refine joinW_mk (fun (q : Int × ByteArray × Unit) H' => H' = H ∧ ∃ m : Nat, m < 10 ∧ q.1 = (m : Int) ∧ ∃ s, q.2.1 = mkB s ∧ Go.Lib.decDigits n = UInt8.ofNat (48 + m) :: s) ?_ ?_
  · refine loopW_mk (fun k (q : Int × ByteArray × Unit) H' => H' = H ∧ ∃ m : Nat, k = m ∧ m ≤ n ∧ q.1 = (m : Int) ∧ ∃ s, q.2.1 = mkB s ∧ Go.Lib.decDigits n = Go.Lib.decDigits m ++ s) n ⟨rfl, n, rfl, Nat.le_refl _, rfl, [], rfl, by simp⟩ ?_
    rintro k ⟨x, sB, _⟩ _ ⟨rfl, m, rfl, hm, hx, s, hs, he⟩
    simp only at hx hs
    subst hx hs
    dsimp only
    refine brW_dec (fun hlt => ?_) (fun hge => ?_)
    · have hd10 : k % 10 < 10 := Nat.mod_lt _ (by decide)
      have e1 : Int.tmod (k : Int) 10 = ((k % 10 : Nat) : Int) := rfl
      have e2 : IntKind.i64.wrap (((k % 10 : Nat) : Int) + 1) = ((k % 10 + 1 : Nat) : Int) := by rw [wrap_i64 (by omega) (by omega)]; rfl
      have e3 : IntKind.i64.wrap (Int.tdiv (k : Int) 10) = ((k / 10 : Nat) : Int) := by
        rw [show Int.tdiv (k : Int) 10 = ((k / 10 : Nat) : Int) from rfl, wrap_i64 (by omega) (by omega)]
      rw [e1, e2, e3, z10, Int.toNat_natCast, Int.toNat_natCast, dig hd10, mkB_app, mkB_size, mkB_size]
      have hk : Go.Lib.decDigits k = Go.Lib.decDigits (k / 10) ++ [UInt8.ofNat (48 + k % 10)] := by rw [Go.Lib.decDigits, dif_neg (by omega)]
      rw [hk, List.append_assoc] at he
      have hle := congrArg List.length he
      simp only [List.length_append, List.length_singleton] at hle
      refine ⟨by decide, by decide, by omega, by omega, by omega, by omega, by simp only [List.length_singleton]; omega, by decide, letV_mk fun y hy => ?_⟩
      subst hy
      exact ⟨k / 10, by omega, rfl, k / 10, rfl, by omega, rfl, _, rfl, he⟩
    · refine ⟨rfl, k, by omega, rfl, s, rfl, ?_⟩
      rw [he, dec1 (by omega)]
      rfl
  rintro ⟨x, sB, _⟩ _ ⟨rfl, m, hm, hx, s, hs, he⟩
  simp only at hx hs
  subst hx hs
  dsimp only
  have e2 : IntKind.i64.wrap ((m : Int) + 1) = ((m + 1 : Nat) : Int) := by rw [wrap_i64 (by omega) (by omega)]; rfl
  have hle := congrArg List.length he
  simp only [List.length_cons] at hle
  rw [e2, z10, Int.toNat_natCast, Int.toNat_natCast, dig hm, mkB_app, mkB_size, mkB_size]
  refine ⟨by omega, by omega, by omega, by omega, by simp only [List.length_singleton]; omega, ?_⟩
  rw [he] at hR
  exact hR
theorem qname_spec {H : Heap} (n : Nd) (hs : Small n) {R : ByteArray → Heap → Prop} (hR : R (mkB (nameL n)) H) : brackenref15_qname.C n.pre n.loc H R := by
  obtain ⟨s1, s2, s3, s4, s5⟩ := hs
  have sz : ∀ s : ByteArray, s.data.toList.length = s.size := fun s => by rw [Array.length_toList]; rfl
  apply brackenref15_qname.calls
  unfold brackenref15_qname.W
  unfold nameL at hR
  refine brW_dec (fun hp => ?_) (fun hp => ?_)
  · rw [if_pos hp] at hR
    exact hR
  · rw [if_neg hp] at hR
    have e1 : n.pre ++ (⟨#[58]⟩ : ByteArray) = mkB (n.pre.data.toList ++ [58]) := by rw [← mkB_app]; rfl
    refine ⟨?_, ?_, ?_⟩
    · show n.pre.size + 1 ≤ _
      omega
    · rw [e1, mkB_size, List.length_append, sz]
      simp
      omega
    · have : (n.pre ++ (⟨#[58]⟩ : ByteArray)) ++ n.loc = mkB (n.pre.data.toList ++ [58] ++ n.loc.data.toList) := by rw [e1, ← mkB_app]; rfl
      rw [this]
      exact hR
end Go.Proofs.YtojhnakgmihedaaDoor
