import Derived.Test.YtojhnakgmihedaaDoorRepJ
/-! Package report: words, lines, counts. -/
namespace Go.Ev
/-- A node, as its cells read. -/
structure Nd where
  k : Int
  d : Int
  pre : ByteArray
  loc : ByteArray
  uri : ByteArray
  val : ByteArray
  ap : Option Addr
  al : Nat
  ac : Nat
def ndL (n : Nd) : List Value := [.int .i64 n.k, .int .i64 n.d, .string n.pre, .string n.loc, .string n.uri, .string n.val, .slice n.ap n.al n.ac]
theorem ndL_len (n : Nd) : (ndL n).length = 7 := rfl
/-- Nodes that are read. -/
def TreeRd (H : Heap) (t : List Nd) (p : Option Addr) (l : Nat) : Prop := t.length = l ∧ ∀ i (hi : i < t.length), ∃ a, p = some a ∧ ∀ j, j < 7 → hcell H ((a.add (i * 7)).add j) = (ndL t[i])[j]?
theorem TreeRd.keep {H H' : Heap} {t : List Nd} {p : Option Addr} {l : Nat} {F : Nat → Prop} (h : TreeRd H t p l) (hf : Fr F H H') (hn : 0 < l → ∀ k, blkIs p k → ¬ F k) : TreeRd H' t p l := by
  refine ⟨h.1, fun i hi => ?_⟩
  obtain ⟨a, ha, hc⟩ := h.2 i hi
  refine ⟨a, ha, fun j hj => ?_⟩
  have hcj := hc j hj
  have he : (ndL t[i])[j]? = some ((ndL t[i])[j]'(by rw [ndL_len]; exact hj)) := List.getElem?_eq_getElem _
  rw [he] at hcj ⊢
  exact hf.cell hcj (by rw [add_block, add_block]; exact hn (by have := h.1; omega) _ ⟨a, ha, rfl⟩)
theorem TreeRd.old {H H' : Heap} {t : List Nd} {p : Option Addr} {l : Nat} (h : TreeRd H t p l) (hf : Fr noF H H') : TreeRd H' t p l := h.keep hf fun _ _ _ h => h
theorem flat7 : ∀ (L : List (List Value)) (_ : ∀ x ∈ L, x.length = 7) {i j : Nat} (hi : i < L.length), j < 7 → L.flatten[i * 7 + j]? = L[i][j]?
  | [], _, i, _, hi, _ => absurd hi (Nat.not_lt_zero i)
  | x :: r, h, 0, j, _, hj => by
    have hx := h x (by simp)
    rw [List.flatten_cons, List.getElem?_append_left (by omega)]
    simp
  | x :: r, h, i + 1, j, hi, hj => by
    have hx := h x (by simp)
    have ih := flat7 r (fun y hy => h y (by simp [hy])) (i := i) (j := j) (by simpa using hi) hj
    rw [List.flatten_cons, List.getElem?_append_right (by omega), hx, show (i + 1) * 7 + j - 7 = i * 7 + j by omega, ih]
    simp
theorem TreeRd.blk {H : Heap} {b : Nat} {cs : Array Value} {ty : TypeId} {fr : Nat × Nat} {t : List Nd} (hb : H[b]? = some (.cells cs ty fr)) (hc : ∀ i, i < t.length * 7 → cs[i]? = (t.map ndL).flatten[i]?) : TreeRd H t (some ⟨b, 0, none⟩) t.length := by
  refine ⟨rfl, fun i hi => ⟨_, rfl, fun j hj => ?_⟩⟩
  rw [add_mk, add_mk, hcell_mk hb, Nat.zero_add, hc _ (by omega), flat7 (t.map ndL) (fun x hx => by obtain ⟨n, _, rfl⟩ := List.mem_map.1 hx; rfl) (by simpa using hi) hj, List.getElem_map]
/-! ### What a line says -/
inductive It where
  | s (b : ByteArray)
  | n (k : Nat)
def itL : It → List UInt8
  | .s b => b.data.toList
  | .n k => Go.Lib.decDigits k
def spL (d : Int) : List UInt8 := if 0 ≤ d ∧ d ≤ 201 then Go.Lib.repeatL [32, 32] d.toNat else []
def nameL (n : Nd) : List UInt8 := if n.pre = ⟨#[]⟩ then n.loc.data.toList else n.pre.data.toList ++ [58] ++ n.loc.data.toList
def bodyL (n : Nd) : List UInt8 :=
  if n.k = 1 then [100, 111, 99, 117, 109, 101, 110, 116] else
  if n.k = 2 then [101, 108, 101, 109, 101, 110, 116] ++ ([32] ++ (([123] ++ n.uri.data.toList ++ [125] ++ nameL n) ++ ([32] ++ Go.Lib.decDigits n.al))) else
  if n.k = 3 then [116, 101, 120, 116] ++ ([32] ++ Go.Lib.decDigits n.val.size) else
  if n.k = 4 then [99, 111, 109, 109, 101, 110, 116] ++ ([32] ++ Go.Lib.decDigits n.val.size) else
  if n.k = 5 then [112, 105] ++ ([32] ++ n.loc.data.toList) else [63]
def lineL (n : Nd) : List UInt8 := spL n.d ++ bodyL n
theorem repeatL_len (l : List UInt8) (c : Nat) : (Go.Lib.repeatL l c).length = c * l.length := Go.Lib.repeatL_length l c
theorem join1 (a sep : List UInt8) : Go.Lib.join [a] sep = a := Go.Lib.join_one a sep
theorem join2 (a b sep : List UInt8) : Go.Lib.join [a, b] sep = a ++ (sep ++ b) := by rw [Go.Lib.join_cons]; simp [Go.Lib.joinTail]
theorem join3 (a b c sep : List UInt8) : Go.Lib.join [a, b, c] sep = a ++ (sep ++ (b ++ (sep ++ c))) := by rw [Go.Lib.join_cons]; simp [Go.Lib.joinTail]
theorem decDigits_len : ∀ (k : Nat) {n : Nat}, n < 10 ^ (k + 1) → (Go.Lib.decDigits n).length ≤ k + 1
  | 0, n, h => by rw [Go.Lib.decDigits, dif_pos (by omega)]; simp
  | k + 1, n, h => by
    by_cases hn : n < 10
    · rw [Go.Lib.decDigits, dif_pos hn]; simp
    · rw [Go.Lib.decDigits, dif_neg hn, List.length_append]
      have := decDigits_len k (n := n / 10) (by rw [Nat.div_lt_iff_lt_mul (by decide)]; rw [Nat.pow_succ] at h; exact h)
      simp
      omega
def treeL (t : List Nd) : List UInt8 := (t.map fun n => lineL n ++ [10]).flatten
theorem treeL_snoc (t : List Nd) (n : Nd) : treeL (t ++ [n]) = treeL t ++ (lineL n ++ [10]) := by unfold treeL; simp
theorem treeL_len {t : List Nd} {b : Nat} (h : ∀ n ∈ t, (lineL n).length ≤ b) : (treeL t).length ≤ t.length * (b + 1) := by
  induction t with
  | nil => simp [treeL]
  | cons n r ih =>
    have h1 := h n (by simp)
    have h2 := ih fun m hm => h m (by simp [hm])
    have e : (treeL (n :: r)).length = (lineL n).length + 1 + (treeL r).length := by unfold treeL; simp; omega
    rw [e, List.length_cons, Nat.succ_mul]
    omega
/-- How many are of a kind; of none. -/
def kindC (t : List Nd) (i : Int) : Nat := t.countP fun n => decide (n.k = i)
def noneC (t : List Nd) : Nat := t.countP fun n => !(decide (1 ≤ n.k) && decide (n.k ≤ 5))
def codeB (c : Int) : ByteArray := if 0 ≤ c then ([⟨#[111, 107]⟩, ⟨#[97, 114, 103, 117, 109, 101, 110, 116]⟩, ⟨#[115, 121, 110, 116, 97, 120]⟩, ⟨#[108, 105, 109, 105, 116]⟩, ⟨#[114, 97, 110, 103, 101]⟩, ⟨#[107, 105, 110, 100]⟩, ⟨#[110, 111, 110, 101]⟩, ⟨#[102, 117, 108, 108]⟩] : List ByteArray).getD c.toNat ⟨#[63]⟩ else ⟨#[63]⟩
end Go.Ev
namespace Go.Proofs.YtojhnakgmihedaaDoor
open Go.Ev
set_option linter.unusedVariables false
def itV : It → Value
  | .s b => .iface ty_string (.string b)
  | .n k => .iface ty_int (.int .i64 (k : Int))
theorem Code_spec {H : Heap} (c : Int) {R : ByteArray → Heap → Prop} (hR : ∀ H', Fr noF H H' → R (codeB c) H') : report_Code.C c H R := by
  apply report_Code.calls
  unfold report_Code.W
  refine letV_mk fun H1 h1 => joinW_thru (joinW_thru ?_)
  have f1 : Fr noF H H1 := by rw [h1]; exact Fr.new _ _ _
  have g1 := new_part h1
  clear h1
  refine brW_dec (fun h0 => brW_true rfl ?_) (fun h0 => brW_dec (fun h8 => ?_) (fun h8 => ?_))
  · have := hR H1 f1
    unfold codeB at this
    rwa [if_neg (by omega)] at this
  · have := hR H1 f1
    unfold codeB at this
    rw [if_pos (by omega), List.getD_eq_getElem?_getD, List.getElem?_eq_none (by simp; omega)] at this
    exact this
  · have h8 : c < 8 := by omega
    have := hR H1 f1
    unfold codeB at this
    rw [if_pos (by omega)] at this
    refine ⟨_, rfl, by omega, h8, _, ?_, this⟩
    obtain ⟨k, rfl⟩ : ∃ k : Nat, c = (k : Int) := ⟨c.toNat, by omega⟩
    rw [Int.toNat_natCast, hcell_add g1, Nat.zero_add]
    match k, h8 with
    | 0, _ => rfl
    | 1, _ => rfl
    | 2, _ => rfl
    | 3, _ => rfl
    | 4, _ => rfl
    | 5, _ => rfl
    | 6, _ => rfl
    | 7, _ => rfl
    | n + 8, h => omega
theorem words_spec {H : Heap} {its : List It} {p : Option Addr} {n c : Nat} (hrd : Rd H (its.map itV) p n) (hn : n ≤ 100) (hI : ∀ k, It.n k ∈ its → k ≤ 1048576 ∧ (k < 100 ∨ Pow10 H)) (hs : (Go.Lib.join (its.map itL) [32]).length ≤ 1073741824) {R : ByteArray → Heap → Prop}
    (hR : ∀ H', Fr noF H H' → R (mkB (Go.Lib.join (its.map itL) [32])) H') : report_words.C p n c H R := by
  have hl : its.length = n := by have := hrd.1; simpa using this
  apply report_words.calls
  unfold report_words.W
  refine joinW_mk (fun (q : (Option Addr × Nat × Nat) × Unit) H' => q.1.2.1 = n ∧ Sl H' ty_string ((its.map fun it => mkB (itL it)).map Value.string) q.1.1 q.1.2.1 q.1.2.2 ∧ Fr noF H H') ?_ ?_
  · refine loopW_mk (fun t (q : (Option Addr × Nat × Nat) × Int × Unit) H' => ∃ i : Nat, i ≤ n ∧ t = n - i ∧ q.2.1 = (i : Int) ∧ q.1.2.1 = i ∧ Sl H' ty_string (((its.take i).map fun it => mkB (itL it)).map Value.string) q.1.1 q.1.2.1 q.1.2.2 ∧ (∀ k, blkIs q.1.1 k → Array.size H ≤ k) ∧ Fr noF H H') n
      ⟨0, Nat.zero_le _, rfl, rfl, rfl, Sl.nil _ _, (by rintro k ⟨a, ha, _⟩; cases ha), Fr.refl _ _⟩ ?_
    rintro t ⟨⟨op, ol, oc⟩, x, _⟩ H2 ⟨i, hi, rfl, hx, hol, hsl, hob, hf⟩
    simp only at hx hol hsl hob
    subst hx hol
    dsimp only
    refine brW_dec (fun hlt => ?_) (fun hge => ?_)
    · have hil : ol < its.length := by omega
      obtain ⟨a, ha, hc⟩ := (hrd.old hf).get (i := ol) (v := itV its[ol]) (by rw [List.getElem?_map, List.getElem?_eq_getElem hil]; rfl)
      refine joinW_mk (fun (q : (Option Addr × Nat × Nat) × Unit) H' => q.1.2.1 = ol + 1 ∧ Sl H' ty_string (((its.take (ol + 1)).map fun it => mkB (itL it)).map Value.string) q.1.1 q.1.2.1 q.1.2.2 ∧ (∀ k, blkIs q.1.1 k → Array.size H ≤ k) ∧ Fr noF H H') ?_ ?_
      · have app : ∀ H4, Fr noF H2 H4 → letV (hnew H4 #[.string (mkB (itL its[ol]))] ty_string) fun H6 : Heap => appW ty_string 1 16 (.string (⟨#[]⟩ : ByteArray)) op ol oc (.slice (some ⟨Array.size H4, 0, none⟩) 1 1) H6 fun x33_p x33_l x33_c H7 => x33_l = ol + 1 ∧ Sl H7 ty_string (((its.take (ol + 1)).map fun it => mkB (itL it)).map Value.string) x33_p x33_l x33_c ∧ (∀ k, blkIs x33_p k → Array.size H ≤ k) ∧ Fr noF H H7 := by
          intro H4 f4
          have hsl4 := hsl.keep f4 fun _ _ h => h
          have fr4 := hf.trans0 f4
          refine app1 (v := .string (mkB (itL its[ol]))) hsl4 rfl ⟨by simp, by simp⟩ (by omega) (by decide) fun p' c' H7 hs7 f7 hb7 => ⟨rfl, ?_, fun k hk => ?_, fr4.trans f7 fun k hk => .inr (hob k hk)⟩
          · rw [List.take_succ_eq_append_getElem hil, List.map_append, List.map_append]
            exact hs7
          · rcases hb7 k hk with h | h
            · exact hob k h
            · exact Nat.le_trans fr4.size h
        refine ⟨a, ha, by omega, by omega, _, by rw [Int.toNat_natCast]; exact hc, ?_⟩
        cases hit : its[ol] with
        | s b =>
          rw [hit] at app
          refine ⟨b, true, .inl ⟨rfl, rfl⟩, joinW_thru ⟨0, false, .inr ⟨rfl, rfl, .inr ⟨_, _, rfl, by decide⟩⟩, brW_false rfl (brW_true rfl (app H2 (Fr.refl _ _)))⟩⟩
        | n k =>
          rw [hit] at app
          obtain ⟨hk1, hk2⟩ := hI k (by rw [← hit]; exact List.getElem_mem hil)
          refine ⟨⟨#[]⟩, false, .inr ⟨rfl, rfl, .inr ⟨_, _, rfl, by decide⟩⟩, joinW_thru ⟨(k : Int), true, .inl ⟨rfl, rfl⟩, brW_true rfl ?_⟩⟩
          refine Itoa_spec hk1 ?_ fun H5 f5 => brW_true rfl (app H5 f5)
          rcases hk2 with h | h
          · exact .inl h
          · exact .inr (h.old hf)
      · rintro ⟨⟨op', ol', oc'⟩, _⟩ H3 ⟨h1, h2, h3, h4⟩
        refine ⟨n - (ol + 1), by omega, ol + 1, by omega, rfl, ?_, h1, h2, h3, h4⟩
        show IntKind.i64.wrap ((ol : Int) + 1) = _
        rw [wrap_i64 (by omega) (by omega)]; rfl
    · have e : its.take ol = its := List.take_of_length_le (by omega)
      rw [e] at hsl
      exact ⟨by show ol = n; omega, hsl, hf⟩
  rintro ⟨⟨op, ol, oc⟩, _⟩ H1 ⟨hol, hsl, f1⟩
  simp only at hol hsl
  subst hol
  dsimp only
  have e : (its.map fun it => mkB (itL it)).map (·.data.toList) = its.map itL := by
    rw [List.map_map]
    apply List.map_congr_left
    intro it _
    simp [mkB]
  refine JoinS_spec hsl.rd hsl.cap (by omega) ⟨#[32]⟩ ?_ fun H8 f8 => ?_
  · rw [e]
    exact Nat.le_trans hs (by decide)
  · rw [e]
    exact hR H8 (f1.trans0 f8)
/-- Small enough. -/
def Small (n : Nd) : Prop := n.pre.size ≤ 1048576 ∧ n.loc.size ≤ 1048576 ∧ n.uri.size ≤ 1048576 ∧ n.val.size ≤ 1048576 ∧ n.al ≤ 1048576
theorem Line_spec {H : Heap} (n : Nd) (hs : Small n) (hI : (n.val.size < 100 ∧ n.al < 100) ∨ Pow10 H) {R : ByteArray → Heap → Prop} (hR : ∀ H', Fr noF H H' → R (mkB (lineL n)) H') : report_Line.C n.k n.d n.pre n.loc n.uri n.val n.ap n.al n.ac H R := by
  obtain ⟨s1, s2, s3, s4, s5⟩ := hs
  apply report_Line.calls
  unfold report_Line.W
  refine letV_mk fun H1 h1 => ?_
  have f1 : Fr noF H H1 := by rw [h1]; exact Fr.new _ _ _
  have g1 := new_part h1
  clear h1
  refine joinW_mk (fun (q : ByteArray × Unit) H' => q.1 = mkB (spL n.d) ∧ Fr noF H1 H') ?_ ?_
  · have no : ¬ (0 ≤ n.d ∧ n.d ≤ 201) → (⟨#[]⟩ : ByteArray) = mkB (spL n.d) ∧ Fr noF H1 H1 := fun h => ⟨by unfold spL; rw [if_neg h]; rfl, Fr.refl _ _⟩
    refine joinW_thru ⟨_, (hcell_add g1 0 1).trans rfl, brW_dec (fun h0 => ⟨_, (hcell_add g1 0 1).trans rfl, brW_dec (fun h2 => ?_) (fun h2 => no (by omega))⟩) (fun h0 => brW_false rfl (no (by omega)))⟩
    refine ⟨_, (hcell_add g1 0 1).trans rfl, ?_⟩
    obtain ⟨k, hk⟩ : ∃ k : Nat, n.d = (k : Int) := ⟨n.d.toNat, by omega⟩
    rw [hk]
    refine Repeat_spec (by omega) (by rw [show (⟨#[32, 32]⟩ : ByteArray).size = 2 from rfl]; omega) fun H4 f4 => ⟨?_, f4⟩
    unfold spL
    rw [if_pos (by omega), Int.toNat_natCast]
  rintro ⟨s, _⟩ H2 ⟨hs, f2⟩
  simp only at hs
  subst hs
  dsimp only
  have g2 := f2.blk g1 fun h => h
  have f12 := f1.trans0 f2
  have hsp : (spL n.d).length ≤ 402 := by
    unfold spL
    split
    · rw [repeatL_len]; simp; omega
    · simp
  have d1 := decDigits_len 6 (n := n.al) (by omega)
  have d2 := decDigits_len 6 (n := n.val.size) (by omega)
  have sz : ∀ s : ByteArray, s.data.toList.length = s.size := fun s => by rw [Array.length_toList]; rfl
  have fin : ∀ (b : List UInt8) H', bodyL n = b → b.length ≤ 4000000 → Fr noF H2 H' → (mkB (spL n.d)).size + (mkB b).size ≤ 9223372036854775807 ∧ R (mkB (spL n.d) ++ mkB b) H' := by
    intro b H' hb hbl hf
    refine ⟨by rw [mkB_size, mkB_size]; omega, ?_⟩
    have := hR H' (f12.trans0 hf)
    unfold lineL at this
    rw [hb, ← mkB_app] at this
    exact this
  have hP : ∀ {H'}, Fr noF H2 H' → n.val.size < 100 ∧ n.al < 100 ∨ Pow10 H' := fun hf => hI.imp id fun h => h.old (f12.trans0 hf)
  unfold bodyL at fin
  refine ⟨_, (hcell_add g2 0 0).trans rfl, brW_dec (fun h1 => ?_) (fun h1 => ?_)⟩
  · rw [if_pos h1] at fin
    exact fin _ H2 rfl (by simp) (Fr.refl _ _)
  rw [if_neg h1] at fin
  refine brW_dec (fun h2 => ?_) (fun h2 => ?_)
  · rw [if_pos h2] at fin
    refine ⟨_, (hcell_add g2 0 3).trans rfl, ?_⟩
    refine joinW_mk (fun (q : ByteArray × Unit) H' => q.1 = mkB (nameL n) ∧ H2 = H') ?_ ?_
    · refine ⟨_, (hcell_add g2 0 2).trans rfl, brW_dec (fun hp => ?_) (fun hp => ?_)⟩
      · have e1 : n.pre ++ (⟨#[58]⟩ : ByteArray) = mkB (n.pre.data.toList ++ [58]) := by rw [← mkB_app]; rfl
        refine ⟨_, (hcell_add g2 0 2).trans rfl, ?_, ?_, ?_, rfl⟩
        · show n.pre.size + 1 ≤ _
          omega
        · rw [e1, mkB_size, List.length_append, sz]
          simp
          omega
        · show (n.pre ++ (⟨#[58]⟩ : ByteArray)) ++ n.loc = _
          unfold nameL
          rw [if_neg hp, e1, ← mkB_app]
          rfl
      · refine ⟨?_, rfl⟩
        show n.loc = _
        unfold nameL
        rw [if_pos (by simpa using hp)]
        rfl
    rintro ⟨nm, _⟩ _ ⟨hnm, rfl⟩
    simp only at hnm
    subst hnm
    dsimp only
    have hnl : (nameL n).length ≤ 2097153 := by
      unfold nameL
      split
      · rw [sz]; omega
      · simp only [List.length_append, sz, List.length_singleton]; omega
    have e1 : (⟨#[123]⟩ : ByteArray) ++ n.uri = mkB ([123] ++ n.uri.data.toList) := by rw [← mkB_app]; rfl
    have e2 : ((⟨#[123]⟩ : ByteArray) ++ n.uri) ++ (⟨#[125]⟩ : ByteArray) = mkB ([123] ++ n.uri.data.toList ++ [125]) := by rw [e1, ← mkB_app]; rfl
    have e3 : (((⟨#[123]⟩ : ByteArray) ++ n.uri) ++ (⟨#[125]⟩ : ByteArray)) ++ mkB (nameL n) = mkB ([123] ++ n.uri.data.toList ++ [125] ++ nameL n) := by rw [e2, mkB_app]
    refine ⟨_, (hcell_add g2 0 4).trans rfl, ?_, ?_, ?_, _, _, _, (hcell_add g2 0 6).trans rfl, letV_mk fun H6 h6 => ?_⟩
    · show 1 + n.uri.size ≤ _
      omega
    · rw [e1, mkB_size]
      simp only [List.length_append, sz, List.length_singleton]
      show 1 + n.uri.size + 1 ≤ _
      omega
    · rw [e2, mkB_size, mkB_size]
      simp only [List.length_append, sz, List.length_singleton]
      omega
    · rw [e3] at h6
      have f6 : Fr noF H2 H6 := by rw [h6]; exact Fr.new _ _ _
      have hs6 : Rd H6 (([.s (mkB [101, 108, 101, 109, 101, 110, 116]), .s (mkB ([123] ++ n.uri.data.toList ++ [125] ++ nameL n)), .n n.al] : List It).map itV) (some ⟨Array.size H2, 0, none⟩) 3 := by
        rw [h6]
        exact (Sl.lit H2 ty_any _).rd
      clear h6
      have ej : Go.Lib.join (([.s (mkB [101, 108, 101, 109, 101, 110, 116]), .s (mkB ([123] ++ n.uri.data.toList ++ [125] ++ nameL n)), .n n.al] : List It).map itL) [32] = [101, 108, 101, 109, 101, 110, 116] ++ ([32] ++ (([123] ++ n.uri.data.toList ++ [125] ++ nameL n) ++ ([32] ++ Go.Lib.decDigits n.al))) := by
        simp only [List.map_cons, List.map_nil]
        rw [join3]
        simp [itL, mkB]
      have elen : ([101, 108, 101, 109, 101, 110, 116] ++ ([32] ++ (([123] ++ n.uri.data.toList ++ [125] ++ nameL n) ++ ([32] ++ Go.Lib.decDigits n.al))) : List UInt8).length ≤ 4000000 := by
        simp only [List.length_append, List.length_cons, List.length_nil, sz]
        omega
      refine words_spec hs6 (by decide) (fun k hk => ?_) (by rw [ej]; exact Nat.le_trans elen (by decide)) fun H7 f7 => ?_
      · simp only [List.mem_cons, List.not_mem_nil, or_false, reduceCtorEq, false_or, It.n.injEq] at hk
        subst hk
        exact ⟨s5, (hP f6).imp (fun h => h.2) id⟩
      · rw [ej]
        exact fin _ H7 rfl elen (f6.trans0 f7)
  rw [if_neg h2] at fin
  refine brW_dec (fun h3 => ?_) (fun h3 => ?_)
  · rw [if_pos h3] at fin
    refine ⟨_, (hcell_add g2 0 5).trans rfl, letV_mk fun H6 h6 => ?_⟩
    have f6 : Fr noF H2 H6 := by rw [h6]; exact Fr.new _ _ _
    have hs6 : Rd H6 (([.s (mkB [116, 101, 120, 116]), .n n.val.size] : List It).map itV) (some ⟨Array.size H2, 0, none⟩) 2 := by
      rw [h6]
      exact (Sl.lit H2 ty_any _).rd
    clear h6
    have ej : Go.Lib.join (([.s (mkB [116, 101, 120, 116]), .n n.val.size] : List It).map itL) [32] = [116, 101, 120, 116] ++ ([32] ++ Go.Lib.decDigits n.val.size) := by
      simp only [List.map_cons, List.map_nil]
      rw [join2]
      simp [itL, mkB]
    have elen : ([116, 101, 120, 116] ++ ([32] ++ Go.Lib.decDigits n.val.size) : List UInt8).length ≤ 4000000 := by
      simp only [List.length_append, List.length_cons, List.length_nil]
      omega
    refine words_spec hs6 (by decide) (fun k hk => ?_) (by rw [ej]; exact Nat.le_trans elen (by decide)) fun H7 f7 => ?_
    · simp only [List.mem_cons, List.not_mem_nil, or_false, reduceCtorEq, false_or, It.n.injEq] at hk
      subst hk
      exact ⟨s4, (hP f6).imp (fun h => h.1) id⟩
    · rw [ej]
      exact fin _ H7 rfl elen (f6.trans0 f7)
  rw [if_neg h3] at fin
  refine brW_dec (fun h4 => ?_) (fun h4 => ?_)
  · rw [if_pos h4] at fin
    refine ⟨_, (hcell_add g2 0 5).trans rfl, letV_mk fun H6 h6 => ?_⟩
    have f6 : Fr noF H2 H6 := by rw [h6]; exact Fr.new _ _ _
    have hs6 : Rd H6 (([.s (mkB [99, 111, 109, 109, 101, 110, 116]), .n n.val.size] : List It).map itV) (some ⟨Array.size H2, 0, none⟩) 2 := by
      rw [h6]
      exact (Sl.lit H2 ty_any _).rd
    clear h6
    have ej : Go.Lib.join (([.s (mkB [99, 111, 109, 109, 101, 110, 116]), .n n.val.size] : List It).map itL) [32] = [99, 111, 109, 109, 101, 110, 116] ++ ([32] ++ Go.Lib.decDigits n.val.size) := by
      simp only [List.map_cons, List.map_nil]
      rw [join2]
      simp [itL, mkB]
    have elen : ([99, 111, 109, 109, 101, 110, 116] ++ ([32] ++ Go.Lib.decDigits n.val.size) : List UInt8).length ≤ 4000000 := by
      simp only [List.length_append, List.length_cons, List.length_nil]
      omega
    refine words_spec hs6 (by decide) (fun k hk => ?_) (by rw [ej]; exact Nat.le_trans elen (by decide)) fun H7 f7 => ?_
    · simp only [List.mem_cons, List.not_mem_nil, or_false, reduceCtorEq, false_or, It.n.injEq] at hk
      subst hk
      exact ⟨s4, (hP f6).imp (fun h => h.1) id⟩
    · rw [ej]
      exact fin _ H7 rfl elen (f6.trans0 f7)
  rw [if_neg h4] at fin
  refine brW_dec (fun h5 => ?_) (fun h5 => ?_)
  · rw [if_pos h5] at fin
    refine ⟨_, (hcell_add g2 0 3).trans rfl, letV_mk fun H6 h6 => ?_⟩
    have f6 : Fr noF H2 H6 := by rw [h6]; exact Fr.new _ _ _
    have hs6 : Rd H6 (([.s (mkB [112, 105]), .s n.loc] : List It).map itV) (some ⟨Array.size H2, 0, none⟩) 2 := by
      rw [h6]
      exact (Sl.lit H2 ty_any _).rd
    clear h6
    have ej : Go.Lib.join (([.s (mkB [112, 105]), .s n.loc] : List It).map itL) [32] = [112, 105] ++ ([32] ++ n.loc.data.toList) := by
      simp only [List.map_cons, List.map_nil]
      rw [join2]
      simp [itL, mkB]
    have elen : ([112, 105] ++ ([32] ++ n.loc.data.toList) : List UInt8).length ≤ 4000000 := by
      simp only [List.length_append, List.length_cons, List.length_nil, sz]
      omega
    refine words_spec hs6 (by decide) (fun k hk => ?_) (by rw [ej]; exact Nat.le_trans elen (by decide)) fun H7 f7 => ?_
    · simp at hk
    · rw [ej]
      exact fin _ H7 rfl elen (f6.trans0 f7)
  · rw [if_neg h5] at fin
    exact fin _ H2 rfl (by simp) (Fr.refl _ _)
end Go.Proofs.YtojhnakgmihedaaDoor
