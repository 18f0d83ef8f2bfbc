import Derived.Test.YtbbehhddckmpkaaDoorPool1
/-! The laws of package pool. -/
namespace Go.Ev
theorem pre_sizes {ss ms : List ByteArray} (h : ms.map (·.size) = ss.map (·.size)) (k : Nat) : pre ms k = pre ss k := by
  unfold pre
  rw [List.map_take, List.map_take, h]
theorem offsL_sizes {ss ms : List ByteArray} (h : ms.map (·.size) = ss.map (·.size)) (n : Nat) : offsL ms n = offsL ss n := by
  unfold offsL
  apply List.map_congr_left
  intro k _
  exact pre_sizes h k
theorem catB_sizes {ss ms : List ByteArray} (h : ms.map (·.size) = ss.map (·.size)) : (catB ms).size = (catB ss).size := by
  rw [catB_size, catB_size, h]
theorem sum_rep0 : ∀ n : Nat, (List.replicate n 0).sum = 0
  | 0 => rfl
  | n + 1 => by rw [List.replicate_succ, List.sum_cons, sum_rep0 n]
theorem sum_set0 (x : Nat) : ∀ (n j : Nat), j < n → ((List.replicate n 0).set j x).sum = x
  | 0, j, h => absurd h (Nat.not_lt_zero j)
  | n + 1, 0, _ => by rw [List.replicate_succ, List.set_cons_zero, List.sum_cons, sum_rep0, Nat.add_zero]
  | n + 1, j + 1, h => by rw [List.replicate_succ, List.set_cons_succ, List.sum_cons, sum_set0 x n j (by omega), Nat.zero_add]
theorem catB_set {n j : Nat} (hj : j < n) (s : ByteArray) : (catB ((List.replicate n (⟨#[]⟩ : ByteArray)).set j s)).size = s.size := by
  rw [catB_size, List.map_set, List.map_replicate]
  exact sum_set0 _ _ _ hj
theorem modQ (z : Int) {N : Nat} (h0 : 0 < N) : ∃ k : Nat, k < N ∧ Int.tmod (IntKind.u64.wrap z) (N : Int) = (k : Int) := by
  have hr := wrap_u64_range z
  obtain ⟨a, ha⟩ : ∃ a : Nat, IntKind.u64.wrap z = (a : Int) := ⟨(IntKind.u64.wrap z).toNat, by omega⟩
  have hm := Nat.mod_lt a h0
  rw [ha]
  exact ⟨a % N, hm, rfl⟩
end Go.Ev
namespace Go.Proofs.YtbbehhddckmpkaaDoor
open Go.Ev
set_option linter.unusedVariables false
theorem PoolTold_spec {H : Heap} (hd : Deb H) {R : Bool → Heap → Prop} (hR : ∀ H', Fr noF H H' → R true H') : brackenlaw8_told.C H R := by
  apply brackenlaw8_told.calls
  unfold brackenlaw8_told.W
  refine letV_mk fun H1 h1 => ?_
  have f1 : Fr noF H H1 := by rw [h1]; exact Fr.new _ _ _
  have hs1 : Sl H1 ty_string (([⟨#[97, 98]⟩, ⟨#[]⟩, ⟨#[99]⟩] : List ByteArray).map Value.string) (some ⟨Array.size H, 0, none⟩) 3 3 := by rw [h1]; exact Sl.lit H ty_string [.string ⟨#[97, 98]⟩, .string ⟨#[]⟩, .string ⟨#[99]⟩]
  clear h1
  refine pool_New_spec hs1.rd (by decide) (by decide) (by decide) fun g H2 p2 f2 => joinW_thru (joinW_thru (brW_neg (by decide) (brW_false rfl ?_)))
  have fr2 := f1.trans0 f2
  refine Pool_Get_spec p2 (hd.old fr2) 0 (fun i hi H3 e f3 => ?_) (fun h => absurd h (by decide))
  obtain rfl : i = 0 := by omega
  have p3 := p2.old f3
  have fr3 := fr2.trans0 f3
  refine Pool_Get_spec p3 (hd.old fr3) 1 (fun i hi H4 e f4 => ?_) (fun h => absurd h (by decide))
  obtain rfl : i = 1 := by omega
  have p4 := p3.old f4
  have fr4 := fr3.trans0 f4
  refine Pool_Get_spec p4 (hd.old fr4) 3 (fun i hi H5 e f5 => ?_) (fun _ => ?_)
  · have : i < 3 := hi
    omega
  refine brW_pos rfl (brW_pos rfl (brW_pos rfl (brW_pos rfl (brW_pos rfl (Pool_Bytes_spec p4 (brW_pos (by decide) ?_))))))
  exact Pool_Len_spec p4 (brW_pos (by decide) (Pool_Len_nil (brW_pos rfl (Pool_Bytes_nil (hR H4 fr4)))))
/-- Each text is told again. -/
theorem getAll {H0 : Heap} {g : Nat} {ss : List ByteArray} {p : Option Addr} {n : Nat} (hrd : Rd H0 (ss.map Value.string) p n) (hn : n ≤ 1000000) (hd : Deb H0) (hp : Pool H0 g ss) {m : Int} (hm : m = (n : Int)) {J : Prop} {R : Bool → Heap → Prop} {K : Unit → Heap → Prop} {H : Heap} (hf : Fr noF H0 H) (hK : ∀ H', Fr noF H0 H' → K () H') :
    LoopW (S := (Int × Unit)) (fun L10 q10 H8 => (fun (i11 : Int) =>
  brW (decide (i11 < m)) (
  JoinW (S := Unit) (fun J11 =>
  pool_Pool_Get.C (some ⟨g, 0, none⟩) (i11) H8 fun x52_0 x52_1 H10 => 
  JoinW (S := (Bool × Unit)) (fun J14 =>
  brW (decide (x52_1 ≠ 0)) (J14 (true, ()) H10) (∃ x61 : Addr, p = some x61 ∧ 0 ≤ i11 ∧ i11 < m ∧
  ∃ x62 : ByteArray, hcell H10 (x61.add i11.toNat) = some (.string x62) ∧ J14 (decide (x52_0 ≠ x62), ()) H10))
  (fun s14 H11 => (fun (x64 : Bool) =>
  brW x64 (R false H11) (J11 () H11)) s14.1))
  (fun _ H9 =>
  letV (IntKind.i64.wrap (i11 + 1)) fun i11 : Int => L10 ((i11 : Int), ()) H9)) (K () H8)) q10.1) ((0 : Int), ()) H := by
  have hl : ss.length = n := by have := hrd.1; simpa using this
  subst hm
  refine loopW_mk (fun t (q : Int × Unit) H' => ∃ i : Nat, i ≤ n ∧ t = n - i ∧ q.1 = (i : Int) ∧ Fr noF H0 H') n ⟨0, Nat.zero_le _, rfl, rfl, hf⟩ ?_
  rintro t ⟨x, _⟩ H8 ⟨i, hi, rfl, hx, f8⟩
  simp only at hx
  subst hx
  dsimp only
  refine brW_dec (fun hlt => ?_) (fun _ => hK H8 f8)
  have hil : i < ss.length := by omega
  refine joinW_mk (fun _ H' => Fr noF H0 H') ?_ ?_
  · refine Pool_Get_spec (hp.old f8) (hd.old f8) i (fun j hj H10 e f10 => ?_) (fun h => by omega)
    obtain rfl : i = j := by omega
    have f := f8.trans0 f10
    obtain ⟨a, ha, hc⟩ := rd_str (hrd.old f) hil
    exact joinW_thru (brW_neg (by decide) ⟨a, ha, by omega, by omega, _, by rw [Int.toNat_natCast]; exact hc, brW_neg (fun h => h rfl) f⟩)
  · intro _ H9 f9
    refine letV_mk fun i11 hi11 => ⟨n - (i + 1), by omega, i + 1, by omega, rfl, ?_, f9⟩
    show i11 = _
    rw [hi11, wrap_i64 (by omega) (by omega)]; rfl
theorem PoolEmpty_fn (H : Heap) (hd : Deb H) (xn : Int) (hxn : (Lit.int .i64 xn).wf = true) (xa : Int) (hxa : (Lit.int .i64 xa).wf = true) (s : ByteArray) (hs : s.size ≤ 140737488351232) :
    brackenlaw8_PoolEmpty.C xn xa s H fun b H' => b = true ∧ Fr noF H H' := by
  apply brackenlaw8_PoolEmpty.calls
  unfold brackenlaw8_PoolEmpty.W
  refine ⟨by decide, letV_mk fun k7 hk7 => ?_⟩
  obtain ⟨k, hk, rfl⟩ : ∃ k : Nat, (1 ≤ k ∧ k ≤ 200) ∧ k7 = (k : Int) := by
    obtain ⟨j, hj, e⟩ := modQ xn (N := 200) (by decide)
    have e : Int.tmod (IntKind.u64.wrap xn) 200 = (j : Int) := e
    rw [e, wrap_i64 (n := (j : Int)) (by omega) (by omega), wrap_i64 (by omega) (by omega)] at hk7
    exact ⟨1 + j, by omega, by omega⟩
  clear hk7
  refine brW_dec (fun _ => PoolTold_spec hd fun H' f => ⟨rfl, f⟩) (fun hle => ?_)
  refine ⟨by omega, by omega, by omega, ?_⟩
  rw [Int.toNat_natCast]
  refine letV_mk fun H2 h2 => ?_
  have f2 : Fr noF H H2 := by rw [h2]; exact Fr.new _ _ _
  have hs2 : Sl H2 ty_string ((List.replicate k (⟨#[]⟩ : ByteArray)).map Value.string) (some ⟨Array.size H, 0, none⟩) k k := by
    rw [h2, List.map_replicate]
    exact Sl.made H ty_string (z := .string ⟨#[]⟩) rfl k
  clear h2
  rw [wrap_natlt (a := k) (by omega)]
  obtain ⟨j, hj, ej⟩ := modQ xa (N := k) (by omega)
  rw [ej, Int.toNat_natCast]
  obtain ⟨a2, ha2, hex, hfz, hs3, f3⟩ := hs2.store hj (.string s)
  cases ha2
  refine ⟨by omega, _, rfl, by omega, by omega, hex, hfz, letV_mk fun H3 h3 => ?_⟩
  rw [← h3, ← List.map_set] at hs3
  rw [← h3] at f3
  have fr3 : Fr noF H H3 := f2.trans f3 fun i hi => .inr (by obtain ⟨a, ha, rfl⟩ := hi; cases ha; exact Nat.le_refl _)
  have hcs := catB_set hj s
  refine pool_New_spec hs3.rd (Nat.le_refl _) (by omega) (by omega) fun g H4 p4 f4 => joinW_thru (joinW_thru (brW_neg (by decide) (brW_false rfl ?_)))
  have fr4 := fr3.trans0 f4
  refine joinW_mk (fun _ H' => Fr noF H4 H') ?_ ?_
  · exact getAll (R := fun b H' => b = true ∧ Fr noF H H') (K := fun _ H' => Fr noF H4 H') (hs3.rd.old f4) (by omega) (hd.old fr4) p4 rfl (J := True) (Fr.refl _ _) fun H' f => f
  · intro _ H7 f7
    refine PoolTold_spec (hd.old (fr4.trans0 f7)) fun H12 f12 => brW_true rfl ?_
    have f := f7.trans0 f12
    refine Pool_Len_spec (p4.old f) (brW_pos (by simp) (Pool_Bytes_spec (p4.old f) ⟨?_, fr4.trans0 f⟩))
    rw [hcs]
    exact decide_eq_true rfl
theorem PoolRow_fn (H : Heap) (hd : Deb H) (a : Option Addr) (len cap : Nat) (ss : List ByteArray) (hrd : Rd H (ss.map Value.string) a len) (hu : len ≤ cap ∧ cap ≤ 9223372036854775807) :
    brackenlaw8_PoolRow.C a len cap H fun b H' => b = true ∧ Fr noF H H' := by
  have hl : ss.length = len := by have := hrd.1; simpa using this
  apply brackenlaw8_PoolRow.calls
  unfold brackenlaw8_PoolRow.W
  refine brW_dec (fun _ => PoolTold_spec hd fun H' f => ⟨rfl, f⟩) (fun hle => ?_)
  refine joinW_mk (fun (q : Int × Unit) H' => H = H' ∧ q.1 = (pre ss len : Int) ∧ ∀ s ∈ ss, s.size ≤ 60) ?_ ?_
  · refine loopW_mk (fun t (q : Int × Int × Unit) H' => ∃ i : Nat, i ≤ len ∧ t = len - i ∧ q.1 = (pre ss i : Int) ∧ q.2.1 = (i : Int) ∧ H = H' ∧ ∀ s ∈ ss.take i, s.size ≤ 60) len ⟨0, Nat.zero_le _, rfl, rfl, rfl, rfl, by simp⟩ ?_
    rintro t ⟨x, y, _⟩ _ ⟨i, hi, rfl, hx, hy, rfl, hall⟩
    simp only at hx hy
    subst hx hy
    dsimp only
    refine brW_dec (fun hlt => ?_) (fun hge => ?_)
    · have hil : i < ss.length := by omega
      obtain ⟨ad, ha, hc⟩ := rd_str hrd hil
      refine ⟨ad, ha, by omega, by omega, _, by rw [Int.toNat_natCast]; exact hc, brW_dec (fun _ => PoolTold_spec hd fun H' f => ⟨rfl, f⟩) (fun hsz => ?_)⟩
      have hall' : ∀ s ∈ ss.take (i + 1), s.size ≤ 60 := by
        rw [List.take_succ_eq_append_getElem hil]
        intro s hs
        rcases List.mem_append.1 hs with h | h
        · exact hall s h
        · have : s = ss[i] := by simpa using h
          subst this
          omega
      have hp := pre_succ hil
      have hb : pre ss i ≤ i * 60 := by
        have e : pre ss i = pre (ss.take i) i := by unfold pre; rw [List.take_take, Nat.min_self]
        rw [e]
        exact pre_le hall (by simp; omega)
      refine ⟨ad, ha, by omega, by omega, _, by rw [Int.toNat_natCast]; exact hc, letV_mk fun n3 hn3 => letV_mk fun i4 hi4 => ⟨len - (i + 1), by omega, i + 1, by omega, rfl, ?_, ?_, rfl, hall'⟩⟩
      · show n3 = _
        rw [hn3, wrap_i64 (by omega) (by omega)]; omega
      · show i4 = _
        rw [hi4, wrap_i64 (by omega) (by omega)]; rfl
    · obtain rfl : i = ss.length := by omega
      rw [List.take_length] at hall
      rw [hl]
      exact ⟨rfl, rfl, hall⟩
  rintro ⟨n3, _⟩ _ ⟨rfl, hn3, hall⟩
  simp only at hn3
  subst hn3
  dsimp only
  have htot := pre_le hall (k := len) (by omega)
  have hca := pre_all ss (k := len) (by omega)
  refine pool_New_spec hrd hu.1 (by omega) (by omega) fun g H5 p5 f5 => joinW_thru (joinW_thru (brW_neg (by decide) (brW_false rfl ?_)))
  refine joinW_mk (fun (q : ByteArray × ByteArray × Unit) H' => q.1 = catB ss ∧ q.2.1 = catB ss ∧ Fr noF H5 H') ?_ ?_
  · refine loopW_mk (fun t (q : ByteArray × ByteArray × Int × Unit) H' => ∃ i : Nat, i ≤ len ∧ t = len - i ∧ q.1 = catB (ss.take i) ∧ q.2.1 = catB (ss.take i) ∧ q.2.2.1 = (i : Int) ∧ Fr noF H5 H') len ⟨0, Nat.zero_le _, rfl, rfl, rfl, rfl, Fr.refl _ _⟩ ?_
    rintro t ⟨x, y, z, _⟩ H9 ⟨i, hi, rfl, hx, hy, hz, f9⟩
    simp only at hx hy hz
    subst hx hy hz
    dsimp only
    refine brW_dec (fun hlt => ?_) (fun hge => ?_)
    · have hil : i < ss.length := by omega
      refine Pool_Get_spec (p5.old f9) (hd.old (f5.trans0 f9)) i (fun j hj H10 e f10 => ?_) (fun h => by omega)
      obtain rfl : i = j := by omega
      have f := f9.trans0 f10
      obtain ⟨ad, ha, hc⟩ := rd_str (hrd.old (f5.trans0 f)) hil
      have hct := catB_take ss i
      have hp := pre_succ hil
      have hpm := pre_mono ss (show i + 1 ≤ len by omega)
      refine brW_neg (by decide) ⟨by omega, ad, ha, by omega, by omega, _, by rw [Int.toNat_natCast]; exact hc, by omega, letV_mk fun i9 hi9 => ⟨len - (i + 1), by omega, i + 1, by omega, rfl, ?_, ?_, ?_, f⟩⟩
      · show catB (ss.take i) ++ ss[i] = _
        rw [List.take_succ_eq_append_getElem hil, catB_snoc]
      · show catB (ss.take i) ++ ss[i] = _
        rw [List.take_succ_eq_append_getElem hil, catB_snoc]
      · show i9 = _
        rw [hi9, wrap_i64 (by omega) (by omega)]; rfl
    · have e : ss.take i = ss := List.take_of_length_le (by omega)
      rw [e]
      exact ⟨rfl, rfl, f9⟩
  rintro ⟨s7, t8, _⟩ H8 ⟨h7, h8, f8⟩
  simp only at h7 h8
  subst h7 h8
  dsimp only
  refine letV_mk fun H11 h11 => ?_
  have f11 : Fr noF H8 H11 := by rw [h11]; exact Fr.new _ _ _
  have hs11 : Sl H11 ty_string ([catB ss].map Value.string) (some ⟨Array.size H8, 0, none⟩) 1 1 := by rw [h11]; exact Sl.lit H8 ty_string [.string (catB ss)]
  clear h11
  have hone : (catB [catB ss]).size = (catB ss).size := by rw [catB_size]; simp
  refine pool_New_spec hs11.rd (by decide) (by decide) (by omega) fun g2 H12 p12 f12 => ?_
  have fr12 := (f8.trans0 f11).trans0 f12
  refine PoolTold_spec (hd.old (f5.trans0 fr12)) fun H13 f13 => brW_true rfl (brW_pos rfl (brW_pos rfl ?_))
  have fr13 := fr12.trans0 f13
  refine Pool_Bytes_spec (p5.old fr13) (brW_pos (by omega) (brW_true rfl ?_))
  refine Pool_Bytes_spec (p12.old f13) ⟨?_, f5.trans0 fr13⟩
  rw [hone]
  exact decide_eq_true (by omega)
theorem PoolSizes_fn (H : Heap) (hd : Deb H) (a : Option Addr) (len cap : Nat) (ss : List ByteArray) (hrd : Rd H (ss.map Value.string) a len) (hu : len ≤ cap ∧ cap ≤ 9223372036854775807) (c : Int) (hc : (Lit.int .u8 c).wf = true) :
    brackenlaw8_PoolSizes.C a len cap c H fun b H' => b = true ∧ Fr noF H H' := by
  have hl : ss.length = len := by have := hrd.1; simpa using this
  have hc8 : 0 ≤ c ∧ c ≤ 255 := by
    simp [Lit.wf, IntKind.min, IntKind.max, IntKind.signed, IntKind.bits] at hc
    omega
  apply brackenlaw8_PoolSizes.calls
  unfold brackenlaw8_PoolSizes.W
  refine brW_dec (fun _ => PoolTold_spec hd fun H' f => ⟨rfl, f⟩) (fun hle => ?_)
  refine joinW_mk (fun (q : (Option Addr × Nat × Nat) × Unit) H' => ∃ ms : List ByteArray, ms.map (·.size) = ss.map (·.size) ∧ Sl H' ty_string (ms.map Value.string) q.1.1 q.1.2.1 q.1.2.2 ∧ (∀ s ∈ ss, s.size ≤ 60) ∧ Fr noF H H') ?_ ?_
  · refine loopW_mk (fun t (q : (Option Addr × Nat × Nat) × Int × Unit) H' => ∃ (i : Nat) (ms : List ByteArray), i ≤ len ∧ t = len - i ∧ q.2.1 = (i : Int) ∧ ms.map (·.size) = (ss.take i).map (·.size) ∧ Sl H' ty_string (ms.map Value.string) q.1.1 q.1.2.1 q.1.2.2 ∧ q.1.2.1 = i ∧ (∀ s ∈ ss.take i, s.size ≤ 60) ∧ (∀ k, blkIs q.1.1 k → Array.size H ≤ k) ∧ Fr noF H H') len
      ⟨0, [], Nat.zero_le _, rfl, rfl, rfl, Sl.nil _ _, rfl, by simp, (by rintro k ⟨a, ha, _⟩; cases ha), Fr.refl _ _⟩ ?_
    rintro t ⟨⟨op, ol, oc⟩, y, _⟩ H3 ⟨i, ms, hi, rfl, hy, hms, hsl, hol, hall, hob, hf⟩
    simp only at hy hsl hol hob
    subst hy hol
    dsimp only
    refine brW_dec (fun hlt => ?_) (fun hge => ?_)
    · have hil : ol < ss.length := by omega
      refine joinW_mk (fun (q : (Option Addr × Nat × Nat) × Unit) H' => ∃ ms : List ByteArray, ms.map (·.size) = (ss.take (ol + 1)).map (·.size) ∧ Sl H' ty_string (ms.map Value.string) q.1.1 q.1.2.1 q.1.2.2 ∧ q.1.2.1 = ol + 1 ∧ (∀ s ∈ ss.take (ol + 1), s.size ≤ 60) ∧ (∀ k, blkIs q.1.1 k → Array.size H ≤ k) ∧ Fr noF H H') ?_ ?_
      · obtain ⟨ad, ha, hcl⟩ := rd_str (hrd.old hf) hil
        refine ⟨ad, ha, by omega, by omega, _, by rw [Int.toNat_natCast]; exact hcl, brW_dec (fun _ => PoolTold_spec (hd.old hf) fun H' f => ⟨rfl, hf.trans0 f⟩) (fun hsz => ?_)⟩
        have hall' : ∀ s ∈ ss.take (ol + 1), s.size ≤ 60 := by
          rw [List.take_succ_eq_append_getElem hil]
          intro s hs
          rcases List.mem_append.1 hs with h | h
          · exact hall s h
          · have : s = ss[ol] := by simpa using h
            subst this
            omega
        refine ⟨ad, ha, by omega, by omega, _, by rw [Int.toNat_natCast]; exact hcl, by omega, by omega, by omega, ?_⟩
        generalize hnd : ss[ol].size = n at *
        rw [Int.toNat_natCast]
        refine letV_mk fun H6 h6 => ?_
        have f6 : Fr noF H3 H6 := by rw [h6]; exact Fr.new _ _ _
        have hs6 : Sl H6 ty_uint8 (List.replicate 0 (Value.int .u8 c) ++ List.replicate (n - 0) (Value.int .u8 0)) (some ⟨Array.size H3, 0, none⟩) n n := by
          rw [h6]
          exact Sl.made H3 ty_uint8 (z := .int .u8 0) rfl n
        clear h6
        refine joinW_mk (fun _ H' => Sl H' ty_uint8 (List.replicate n (Value.int .u8 c)) (some ⟨Array.size H3, 0, none⟩) n n ∧ Fr noF H3 H') ?_ ?_
        · refine loopW_mk (fun t (q : Int × Unit) H' => ∃ j : Nat, j ≤ n ∧ t = n - j ∧ q.1 = (j : Int) ∧ Sl H' ty_uint8 (List.replicate j (Value.int .u8 c) ++ List.replicate (n - j) (Value.int .u8 0)) (some ⟨Array.size H3, 0, none⟩) n n ∧ Fr noF H3 H') n ⟨0, Nat.zero_le _, rfl, rfl, hs6, f6⟩ ?_
          rintro t ⟨x, _⟩ H8 ⟨j, hj, rfl, hx, hs8, f8⟩
          simp only at hx
          subst hx
          dsimp only
          refine brW_dec (fun hlt => ?_) (fun hge => ?_)
          · obtain ⟨a2, ha2, hex, hfz, hs9, f9⟩ := hs8.store (i := j) (by omega) (.int .u8 c)
            cases ha2
            rw [Int.toNat_natCast]
            refine ⟨_, rfl, by omega, by omega, hex, hfz, letV_mk fun H9 h9 => letV_mk fun k8 hk8 => ⟨n - (j + 1), by omega, j + 1, by omega, rfl, ?_, ?_, ?_⟩⟩
            · show k8 = _
              rw [hk8, wrap_i64 (by omega) (by omega)]; rfl
            · rw [← h9, List.set_append_right _ _ (by simp), show n - j = n - (j + 1) + 1 by omega, List.replicate_succ] at hs9
              simp only [List.length_replicate, Nat.sub_self, List.set_cons_zero] at hs9
              rw [List.replicate_succ', List.append_assoc]
              exact hs9
            · rw [← h9] at f9
              exact f8.trans f9 fun k hk => .inr (by obtain ⟨a, ha, rfl⟩ := hk; cases ha; exact Nat.le_refl _)
          · obtain rfl : j = n := by omega
            rw [Nat.sub_self, List.replicate_zero, List.append_nil] at hs8
            exact ⟨hs8, f8⟩
        · rintro _ H7 ⟨hs7, f7⟩
          have hbs : (⟨(List.replicate n (UInt8.ofNat c.toNat)).toArray⟩ : ByteArray).size = n := by unfold ByteArray.size; simp
          refine ⟨⟨(List.replicate n (UInt8.ofNat c.toNat)).toArray⟩, ⟨hbs, ?_⟩, ?_⟩
          · intro j v hj
            obtain ⟨a3, ha3, hc3⟩ := hs7.rd.get (i := j) (v := v) (by
              rw [← hj]
              unfold bytesCells
              simp only [List.map_replicate]
              congr 2
              have : ((UInt8.ofNat c.toNat).toNat : Int) = c := by
                rw [UInt8.toNat_ofNat']
                omega
              rw [this])
            cases ha3
            exact hc3
          · have hsl7 := hsl.keep f7 fun _ _ h => h
            refine app1 (v := .string ⟨(List.replicate n (UInt8.ofNat c.toNat)).toArray⟩) hsl7 rfl ⟨by simp, by simp⟩ (by omega) (by decide) fun p' c' H11 hs11 f11 hb11 => ?_
            have fr7 := hf.trans0 f7
            refine ⟨ms ++ [⟨(List.replicate n (UInt8.ofNat c.toNat)).toArray⟩], ?_, ?_, rfl, hall', fun k hk => ?_, fr7.trans f11 fun k hk => .inr (hob k hk)⟩
            · rw [List.take_succ_eq_append_getElem hil, List.map_append, List.map_append, hms]
              simp only [List.map_cons, List.map_nil]
              rw [hbs, hnd]
            · show Sl H11 ty_string ((ms ++ [_]).map Value.string) p' (ol + 1) c'
              rw [List.map_append]
              exact hs11
            · rcases hb11 k hk with h | h
              · exact hob k h
              · exact Nat.le_trans fr7.size h
      · rintro ⟨⟨op', ol', oc'⟩, _⟩ H4 ⟨ms', h1, h2, h3, h4, h5, h6⟩
        refine letV_mk fun i6 hi6 => ⟨len - (ol + 1), by omega, ol + 1, ms', by omega, rfl, ?_, h1, h2, h3, h4, h5, h6⟩
        show i6 = _
        rw [hi6, wrap_i64 (by omega) (by omega)]; rfl
    · have e : ss.take ol = ss := List.take_of_length_le (by omega)
      rw [e] at hms hall
      exact ⟨ms, hms, hsl, hall, hf⟩
  rintro ⟨⟨op, ol, oc⟩, _⟩ H2 ⟨ms, hms, hsl, hall, f2⟩
  simp only at hsl
  dsimp only
  have htot := pre_le hall (k := len) (by omega)
  have hca := pre_all ss (k := len) (by omega)
  have hcm := catB_sizes hms
  have hlm : ms.length = ss.length := by
    have := congrArg List.length hms
    simpa using this
  have hol : ms.length = ol := by have := hsl.1; simpa using this
  have hcap := hsl.cap
  refine pool_New_spec (hrd.old f2) hu.1 (by omega) (by omega) fun g H12 p12 f12 => ?_
  refine pool_New_spec (hsl.rd.old f12) hcap (by omega) (by omega) fun g2 H13 p13 f13 => ?_
  have fr13 := (f2.trans0 f12).trans0 f13
  refine PoolTold_spec (hd.old fr13) fun H14 f14 => brW_true rfl (brW_pos rfl (brW_pos rfl (brW_true rfl (brW_true rfl ?_))))
  have q1 := (p12.old f13).old f14
  have q2 := p13.old f14
  refine Pool_Size_spec q1 (Pool_Size_spec q2 ?_)
  rw [offsL_sizes hms, hlm]
  refine brW_pos rfl (Pool_Bytes_spec q1 (Pool_Bytes_spec q2 ?_))
  rw [hcm]
  refine brW_pos rfl (Pool_Len_spec q1 (Pool_Len_spec q2 ⟨?_, fr13.trans0 f14⟩))
  rw [hlm]
  exact decide_eq_true rfl
theorem refPoolSize_spec {H : Heap} {ss : List ByteArray} {p : Option Addr} {n c : Nat} (hrd : Rd H (ss.map Value.string) p n) (hn : n ≤ 1000000) (hs : (catB ss).size ≤ 8388608) {R : Int → Heap → Prop} (hR : ∀ H', Fr noF H H' → R (sizeO (offsL ss n) : Int) H') : brackenref1_PoolSize.C p n c H R := by
  have hl : ss.length = n := by have := hrd.1; simpa using this
  apply brackenref1_PoolSize.calls
  unfold brackenref1_PoolSize.W
  refine joinW_mk (fun (q : (Option Addr × Nat × Nat) × Int × Unit) H' => q.1.2.1 = n ∧ q.2.1 = (pre ss n : Int) ∧ Sl H' ty_int (((List.range n).map (pre ss)).map i64V) q.1.1 q.1.2.1 q.1.2.2 ∧ (∀ k, blkIs q.1.1 k → Array.size H ≤ k) ∧ Fr noF H H') ?_ ?_
  · refine loopW_mk (fun t (q : (Option Addr × Nat × Nat) × Int × Int × Unit) H' => ∃ i : Nat, i ≤ n ∧ t = n - i ∧ q.2.1 = (pre ss i : Int) ∧ q.2.2.1 = (i : Int) ∧ q.1.2.1 = i ∧ Sl H' ty_int (((List.range i).map (pre ss)).map i64V) q.1.1 q.1.2.1 q.1.2.2 ∧ (∀ k, blkIs q.1.1 k → Array.size H ≤ k) ∧ Fr noF H H') n
      ⟨0, Nat.zero_le _, rfl, rfl, rfl, rfl, Sl.nil _ _, (by rintro k ⟨a, ha, _⟩; cases ha), Fr.refl _ _⟩ ?_
    rintro t ⟨⟨op, ol, oc⟩, x, y, _⟩ H2 ⟨i, hi, rfl, hx, hy, hol, hsl, hob, hf⟩
    simp only at hx hy hol hsl hob
    subst hx hy hol
    dsimp only
    refine brW_dec (fun hlt => ?_) (fun hge => ?_)
    · have hil : ol < ss.length := by omega
      refine app1 (v := i64V (pre ss ol)) hsl rfl ⟨by simp, by simp⟩ (by omega) (by decide) fun p' c' H5 hs5 f5 hb5 => ?_
      have fr5 := hf.trans f5 fun k hk => .inr (hob k hk)
      obtain ⟨a, ha, hc⟩ := rd_str (hrd.old fr5) hil
      have hp := pre_succ hil
      have hpa := pre_mono ss (show ol + 1 ≤ ss.length by omega)
      rw [pre_all ss (Nat.le_refl _)] at hpa
      refine ⟨a, ha, by omega, by omega, _, by rw [Int.toNat_natCast]; exact hc, letV_mk fun at4 hat => letV_mk fun i5 hi5 => ?_⟩
      refine ⟨n - (ol + 1), by omega, ol + 1, by omega, rfl, ?_, ?_, rfl, ?_, fun k hk => ?_, fr5⟩
      · show at4 = _
        rw [hat, wrap_i64 (by omega) (by omega)]; omega
      · show i5 = _
        rw [hi5, wrap_i64 (by omega) (by omega)]; rfl
      · show Sl H5 ty_int (((List.range (ol + 1)).map (pre ss)).map i64V) p' (ol + 1) c'
        rw [List.range_succ, List.map_append, List.map_append]
        exact hs5
      · rcases hb5 k hk with h | h
        · exact hob k h
        · exact Nat.le_trans hf.size h
    · obtain rfl : ol = n := by omega
      exact ⟨rfl, rfl, hsl, hob, hf⟩
  rintro ⟨⟨op, ol, oc⟩, x, _⟩ H1 ⟨hol, hx, hsl, hob, f1⟩
  simp only at hol hx hsl hob
  subst hol hx
  dsimp only
  refine app1 (v := i64V (pre ss ol)) hsl rfl ⟨by simp, by simp⟩ (by omega) (by decide) fun p' c' H6 hs6 f6 hb6 => ?_
  have hs6' : Sl H6 ty_int ((offsL ss ol).map i64V) p' (ol + 1) c' := by
    unfold offsL
    rw [List.range_succ, List.map_append, List.map_append]
    exact hs6
  have hlast : lastN (offsL ss ol) = (catB ss).size := by
    unfold lastN
    rw [List.getD_eq_getElem?_getD, List.getElem?_eq_getElem (by rw [offsL_len]; omega), Option.getD_some, offsL_get, offsL_len]
    exact pre_all ss (by omega)
  exact refOffsSize_spec hs6'.rd (by omega) (by omega) (hR H6 (f1.trans f6 fun k hk => .inr (hob k hk)))
theorem PoolAsks_fn (H : Heap) (hd : Deb H) (a : Option Addr) (len cap : Nat) (ss : List ByteArray) (hrd : Rd H (ss.map Value.string) a len) (hu : len ≤ cap ∧ cap ≤ 9223372036854775807) (k : Int) (hk : (Lit.int .i64 k).wf = true) :
    brackenlaw8_PoolAsks.C a len cap k H fun b H' => b = true ∧ Fr noF H H' := by
  have hl : ss.length = len := by have := hrd.1; simpa using this
  apply brackenlaw8_PoolAsks.calls
  unfold brackenlaw8_PoolAsks.W
  refine joinW_mk (fun (q : Int × Unit) H' => H = H' ∧ (len ≤ 60 → q.1 = (pre ss len : Int)) ∧ ∀ s ∈ ss, s.size ≤ 200) ?_ ?_
  · refine loopW_mk (fun t (q : Int × Int × Unit) H' => ∃ i : Nat, i ≤ len ∧ t = len - i ∧ (i ≤ 60 → q.1 = (pre ss i : Int)) ∧ q.2.1 = (i : Int) ∧ H = H' ∧ ∀ s ∈ ss.take i, s.size ≤ 200) len ⟨0, Nat.zero_le _, rfl, fun _ => rfl, rfl, rfl, by simp⟩ ?_
    rintro t ⟨x, y, _⟩ _ ⟨i, hi, rfl, hx, hy, rfl, hall⟩
    simp only at hx hy
    subst hy
    dsimp only
    refine brW_dec (fun hlt => ?_) (fun hge => ?_)
    · have hil : i < ss.length := by omega
      obtain ⟨ad, ha, hc⟩ := rd_str hrd hil
      refine ⟨ad, ha, by omega, by omega, _, by rw [Int.toNat_natCast]; exact hc, brW_dec (fun _ => PoolTold_spec hd fun H' f => ⟨rfl, f⟩) (fun hsz => ?_)⟩
      have hall' : ∀ s ∈ ss.take (i + 1), s.size ≤ 200 := by
        rw [List.take_succ_eq_append_getElem hil]
        intro s hs
        rcases List.mem_append.1 hs with h | h
        · exact hall s h
        · have : s = ss[i] := by simpa using h
          subst this
          omega
      have hp := pre_succ hil
      have hb : pre ss i ≤ i * 200 := by
        have e : pre ss i = pre (ss.take i) i := by unfold pre; rw [List.take_take, Nat.min_self]
        rw [e]
        exact pre_le hall (by simp; omega)
      refine ⟨ad, ha, by omega, by omega, _, by rw [Int.toNat_natCast]; exact hc, letV_mk fun n3 hn3 => letV_mk fun i4 hi4 => ⟨len - (i + 1), by omega, i + 1, by omega, rfl, fun h60 => ?_, ?_, rfl, hall'⟩⟩
      · have hx := hx (by omega)
        show n3 = _
        rw [hn3, hx, wrap_i64 (by omega) (by omega)]; omega
      · show i4 = _
        rw [hi4, wrap_i64 (by omega) (by omega)]; rfl
    · obtain rfl : i = ss.length := by omega
      rw [List.take_length] at hall
      rw [← hl]
      exact ⟨rfl, hx, hall⟩
  rintro ⟨n5, _⟩ _ ⟨rfl, hn5, hall⟩
  simp only at hn5
  dsimp only
  refine brW_dec (fun _ => PoolTold_spec hd fun H' f => ⟨rfl, f⟩) (fun hle => ?_)
  obtain rfl : n5 = (pre ss len : Int) := hn5 (by omega)
  have htot := pre_le hall (k := len) (by omega)
  have hca := pre_all ss (k := len) (by omega)
  refine pool_New_spec hrd hu.1 (by omega) (by omega) fun g H5 p5 f5 => ?_
  refine joinW_mk (fun _ H' => Fr noF H5 H') ?_ ?_
  · refine joinW_thru (brW_neg (by decide) (brW_false rfl (Pool_Len_spec p5 (brW_neg (by omega) (Pool_Bytes_spec p5 (brW_neg (by omega) (Pool_Size_spec p5 ?_)))))))
    refine refPoolSize_spec (hrd.old f5) (by omega) (by omega) fun H11 f11 => ?_
    rw [hl]
    exact brW_neg (fun h => h rfl) f11
  intro _ H6 f6
  have fr6 := f5.trans0 f6
  refine joinW_mk (fun _ H' => Fr noF H6 H') ?_ ?_
  · exact getAll (R := fun b H' => b = true ∧ Fr noF H H') (K := fun _ H' => Fr noF H6 H') (hrd.old fr6) (by omega) (hd.old fr6) (p5.old f6) rfl (J := True) (Fr.refl _ _) fun H' f => f
  intro _ H12 f12
  have fr12 := fr6.trans0 f12
  refine Pool_Get_spec ((p5.old f6).old f12) (hd.old fr12) k (fun i hi H17 e f17 => ?_) (fun ho => ?_)
  · subst e
    have fr17 := fr12.trans0 f17
    refine PoolTold_spec (hd.old fr17) fun H18 f18 => brW_true rfl (brW_pos (by omega) (brW_pos ?_ (brW_pos rfl ⟨rfl, fr17.trans0 f18⟩)))
    have : (i : Int) < (len : Int) := by omega
    simp [this]
  · refine PoolTold_spec (hd.old fr12) fun H18 f18 => brW_true rfl ?_
    refine brW_dec (fun h0 => brW_pos ?_ (brW_neg (by decide) (brW_pos rfl ⟨rfl, fr12.trans0 f18⟩))) (fun h0 => brW_pos (by decide) (brW_neg (by decide) (brW_pos rfl ⟨rfl, fr12.trans0 f18⟩)))
    have : ¬ k < (len : Int) := by omega
    simp [this]
end Go.Proofs.YtbbehhddckmpkaaDoor
