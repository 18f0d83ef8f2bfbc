import Derived.Test.YtbbehhddckmpkaaDoorOffs1
/-! Package offs: keeping places. -/
namespace Go.Ev
/-- The last of numbers that rise from one on. -/
def riseFrom : Int → List Int → Option Int
  | a, [] => some a
  | a, x :: r => if x < a then none else riseFrom x r
def Up : List Nat → Prop
  | [] => True
  | x :: r => (∀ y ∈ r, x ≤ y) ∧ Up r
theorem up_rises : ∀ {l : List Nat}, Up l → Rises l
  | [], _ => fun i j hi _ _ => absurd hi (by simp)
  | x :: r, h => fun i j hi hj hij => by
    match i, j with
    | 0, 0 => exact Nat.le_refl _
    | 0, j + 1 => exact h.1 _ (List.getElem_mem (by simpa using hj))
    | i + 1, 0 => omega
    | i + 1, j + 1 => exact up_rises h.2 i j (by simpa using hi) (by simpa using hj) (by omega)
end Go.Ev
namespace Go.Proofs.YtbbehhddckmpkaaDoor
open Go.Ev
set_option linter.unusedVariables false

theorem lastN_cons (a x : Nat) (r : List Nat) : lastN (a :: x :: r) = lastN (x :: r) := by simp [lastN]
theorem rise_out : ∀ (zs : List Int) (a : Nat) (b : Int), riseFrom (a : Int) zs = some b → ∃ l : List Nat, zs = l.map Int.ofNat ∧ (∀ y ∈ l, a ≤ y) ∧ Up l ∧ b = (lastN (a :: l) : Int)
  | [], a, b, h => by
    cases h
    exact ⟨[], rfl, by simp, trivial, rfl⟩
  | x :: r, a, b, h => by
    unfold riseFrom at h
    split at h
    · cases h
    · rename_i hx
      obtain ⟨x, rfl⟩ : ∃ n : Nat, x = (n : Int) := ⟨x.toNat, by omega⟩
      obtain ⟨l, rfl, h1, h2, h3⟩ := rise_out r x b h
      refine ⟨x :: l, rfl, ?_, ⟨h1, h2⟩, by rw [lastN_cons]; exact h3⟩
      intro y hy
      rcases List.mem_cons.1 hy with rfl | hy
      · omega
      · have := h1 y hy; omega
theorem rise_nat {zs : List Int} {b : Int} (h : riseFrom 0 zs = some b) : ∃ l : List Nat, zs = l.map Int.ofNat ∧ Rises l ∧ b = (lastN l : Int) := by
  obtain ⟨l, h1, _, h2, h3⟩ := rise_out zs 0 b h
  refine ⟨l, h1, up_rises h2, ?_⟩
  rw [h3]
  cases l with
  | nil => rfl
  | cons x r => rw [lastN_cons]
theorem riseFrom_step {zs : List Int} {i : Nat} (hi : i < zs.length) (a : Int) : riseFrom a (zs.drop i) = if zs[i] < a then none else riseFrom zs[i] (zs.drop (i + 1)) := by
  rw [List.drop_eq_getElem_cons hi]
  rfl
/-- May these be kept? -/
def may (zs : List Int) : Bool := match riseFrom 0 zs with
  | none => false
  | some b => decide (b ≤ 8388608)
theorem rdz {H : Heap} {zs : List Int} {p : Option Addr} {n : Nat} (h : Rd H (zs.map (Value.int .i64)) p n) {i : Nat} (hi : i < n) : ∃ (h2 : i < zs.length) (a : Addr), p = some a ∧ hcell H (a.add i) = some (.int .i64 zs[i]) := by
  have hl : zs.length = n := by have := h.1; simpa using this
  have h2 : i < zs.length := by omega
  obtain ⟨a, ha, hc⟩ := h.get (i := i) (v := .int .i64 zs[i]) (by rw [List.getElem?_map, List.getElem?_eq_getElem h2]; rfl)
  exact ⟨h2, a, ha, hc⟩
theorem set_boolU (ms : List Bool) (i : Nat) (v : Bool) : (ms.map Value.bool).set i (Value.bool v) = (ms.set i v).map Value.bool := by rw [List.map_set]
theorem Offs_New_spec {H : Heap} {zs : List Int} {p : Option Addr} {n c : Nat} (hrd : Rd H (zs.map (Value.int .i64)) p n) (hn : n ≤ 1048576) {R : Option Addr → Int → Heap → Prop}
    (hyes : ∀ (l : List Nat), may zs = true → zs = l.map Int.ofNat → Rises l → lastN l ≤ 8388608 → ∀ g H', Offs H' g l (fun k => Array.size H ≤ k ∧ k < Array.size H') → Fr noF H H' → R (some ⟨g, 0, none⟩) 0 H') (hno : may zs = false → R none 1 H) : offs_New.C p n c H R := by
  apply offs_New.calls
  unfold offs_New.W
  have hl : zs.length = n := by have := hrd.1; simpa using this
  refine joinW_mk (fun q H' => H' = H ∧ riseFrom 0 zs = some q.1) ?_ ?_
  · refine loopW_mk (fun s q H' => H' = H ∧ ∃ i : Nat, i ≤ n ∧ s = n - i ∧ q.2.1 = (i : Int) ∧ riseFrom q.1 (zs.drop i) = riseFrom 0 zs) n ⟨rfl, 0, by omega, rfl, rfl, rfl⟩ ?_
    rintro s ⟨a, x, _⟩ H2 ⟨rfl, i, hi, rfl, hx, hr⟩
    simp only at hx hr
    subst hx
    dsimp only
    refine brW_dec (fun hlt => ?_) (fun hge => ?_)
    · obtain ⟨h2, ad, rfl, hc⟩ := rdz hrd (i := i) (by omega)
      rw [riseFrom_step h2] at hr
      refine ⟨ad, rfl, by omega, by omega, _, by rw [Int.toNat_natCast]; exact hc, ?_⟩
      refine brW_dec (fun hlt => hno ?_) (fun hge => ⟨n - (i + 1), by omega, rfl, i + 1, by omega, rfl, ?_, ?_⟩)
      · rw [if_pos hlt] at hr
        unfold may
        rw [← hr]
      · show IntKind.i64.wrap ((i : Int) + 1) = _
        rw [wrap_i64 (by omega) (by omega)]; rfl
      · rw [if_neg hge] at hr
        exact hr
    · have : i = n := by omega
      subst this
      rw [List.drop_of_length_le (by omega)] at hr
      exact ⟨rfl, hr.symm⟩
  rintro ⟨last, _⟩ H1 ⟨rfl, hri⟩
  simp only at hri
  dsimp only
  refine brW_dec (fun hbig => hno ?_) (fun hsm => ?_)
  · unfold may
    rw [hri]
    exact decide_eq_false (by omega)
  obtain ⟨l, rfl, hrise, rfl⟩ := rise_nat hri
  have hlast : lastN l ≤ 8388608 := by omega
  have hsm' : ((lastN l : Nat) : Int) ≤ 8388608 := by omega
  have hmay : may (l.map Int.ofNat) = true := by
    unfold may
    rw [hri]
    exact decide_eq_true hsm'
  have hR := hyes l hmay rfl hrise hlast
  clear hyes hno hri hsm hsm' hmay
  have hl : l.length = n := by simpa using hl
  subst hl
  have hrd : Rd H1 (l.map i64V) p l.length := by
    have e : (l.map Int.ofNat).map (Value.int .i64) = l.map i64V := by rw [List.map_map]; rfl
    rw [e] at hrd
    exact hrd
  have hk := kOf_le hlast
  have hh := high_le l
  have hup := up_place hrise
  refine letV_mk fun H3 h3 => ?_
  have f3 : Fr noF H1 H3 := by rw [h3]; exact Fr.new _ _ _
  have s3 : Array.size H3 = Array.size H1 + 1 := by rw [h3]; exact hnew_size
  have g3 := new_part h3
  clear h3
  have toF : ∀ {k : Nat}, k = Array.size H1 → noF k ∨ Array.size H1 ≤ k := fun h => .inr (by omega)
  refine joinW_mk (fun _ H' => H'[Array.size H1]? = some (.cells #[.nilIface, .nilIface, .int .i64 (l.length : Int), .int .i64 (kOf l : Int), .int .i64 0] ty_offs_Offs (0, 0)) ∧ Fr noF H1 H') ?_ ?_
  · refine ⟨_, rfl, _, (hcell_add g3 0 2).trans rfl, ?_⟩
    refine brW_dec (fun h0 => ?_) (fun h0 => ?_)
    · refine ⟨_, rfl, _, (hcell_add g3 0 2).trans rfl, by omega, ?_⟩
      have hq : lastN l / l.length ≤ 8388608 := Nat.le_trans (Nat.div_le_self _ _) hlast
      rw [show Int.tdiv ((lastN l : Nat) : Int) (l.length : Int) = ((lastN l / l.length : Nat) : Int) from rfl, wrap_i64n (by omega), wrap_natlt (by omega)]
      refine Width_spec (by omega) ⟨_, rfl, ⟨_, (hcell_add g3 0 3).trans rfl⟩, hfrozen_add g3 0 3, letV_mk fun H6 h6 => ?_⟩
      have hb64 : blen (lastN l / l.length) ≤ 64 := blen_64 (by omega)
      have hv : max (IntKind.i64.wrap ((blen (lastN l / l.length) : Int) - 1)) 0 = (kOf l : Int) := by
        have : kOf l = blen (lastN l / l.length) - 1 := by unfold kOf lowK; rw [if_neg (by omega)]
        rw [wrap_i64 (by omega) (by omega), this]
        omega
      rw [hv] at h6
      exact ⟨set_blk h6 g3, f3.trans (set_fr h6) fun k hk => toF hk⟩
    · have : kOf l = 0 := by unfold kOf; rw [if_pos (by omega)]
      rw [this]
      exact ⟨g3, f3⟩
  rintro _ H4 ⟨g4, f4⟩
  clear g3 f3
  refine ⟨_, rfl, _, (hcell_add g4 0 3).trans rfl, ?_⟩
  rw [wrap_natlt (by omega)]
  refine ⟨by omega, _, rfl, ⟨_, (hcell_add g4 0 4).trans rfl⟩, hfrozen_add g4 0 4, letV_mk fun H7 h7 => ?_⟩
  have hhv : shrW .i64 ((lastN l : Nat) : Int) (kOf l : Int) = (highOf l : Int) := shr_i64 (by omega) _
  rw [hhv] at h7
  have g7 := set_blk h7 g4
  have f7 : Fr noF H1 H7 := f4.trans (set_fr h7) fun k hk => toF hk
  clear h7 g4 f4
  have g7 : H7[Array.size H1]? = some (.cells #[.nilIface, .nilIface, .int .i64 (l.length : Int), .int .i64 (kOf l : Int), .int .i64 (highOf l : Int)] ty_offs_Offs (0, 0)) := g7
  refine ⟨_, rfl, _, (hcell_add g7 0 2).trans rfl, _, rfl, _, (hcell_add g7 0 4).trans rfl, ?_⟩
  have hm : IntKind.i64.wrap ((IntKind.i64.wrap ((l.length : Int) + (highOf l : Int))) + 1) = ((l.length + highOf l + 1 : Nat) : Int) := by
    rw [wrap_i64 (n := (l.length : Int) + (highOf l : Int)) (by omega) (by omega), wrap_i64 (by omega) (by omega)]; omega
  rw [hm]
  refine ⟨by omega, by omega, by omega, letV_mk fun H8 h8 => ?_⟩
  rw [Int.toNat_natCast] at h8 ⊢
  have f8 : Fr noF H7 H8 := by rw [h8]; exact Fr.new _ _ _
  have s8 : Array.size H8 = Array.size H7 + 1 := by rw [h8]; exact hnew_size
  have hs8 : Sl H8 ty_bool ((upN l (kOf l) (l.length + highOf l + 1) 0).map Value.bool) (some ⟨Array.size H7, 0, none⟩) (l.length + highOf l + 1) (l.length + highOf l + 1) := by
    rw [h8]
    unfold upN
    rw [List.map_replicate]
    exact Sl.made H7 ty_bool (z := .bool false) rfl _
  have g8 := f8.blk g7 fun h => h
  clear h8
  have hs7 := f7.size
  have hg7 := lt_of_blk g7
  have p2 : 2 ^ kOf l < 2 ^ 24 := Nat.pow_lt_pow_right (by decide) (by omega)
  have p0 : 0 < 2 ^ kOf l := Nat.pow_pos (by decide)
  refine joinW_mk (fun q H' => H'[Array.size H1]? = some (.cells #[.nilIface, .nilIface, .int .i64 (l.length : Int), .int .i64 (kOf l : Int), .int .i64 (highOf l : Int)] ty_offs_Offs (0, 0)) ∧
      Sl H' ty_bool ((upL l).map Value.bool) (some ⟨Array.size H7, 0, none⟩) (l.length + highOf l + 1) (l.length + highOf l + 1) ∧ Sl H' ty_uint64 ((lowL l).map u64V) q.1.1 q.1.2.1 q.1.2.2 ∧ Fr noF H1 H') ?_ ?_
  · refine loopW_mk (fun s q H' => ∃ i : Nat, i ≤ l.length ∧ s = l.length - i ∧ q.2.1 = (i : Int) ∧ H'[Array.size H1]? = some (.cells #[.nilIface, .nilIface, .int .i64 (l.length : Int), .int .i64 (kOf l : Int), .int .i64 (highOf l : Int)] ty_offs_Offs (0, 0)) ∧
      Sl H' ty_bool ((upN l (kOf l) (l.length + highOf l + 1) i).map Value.bool) (some ⟨Array.size H7, 0, none⟩) (l.length + highOf l + 1) (l.length + highOf l + 1) ∧ Sl H' ty_uint64 (((lowL l).take i).map u64V) q.1.1 q.1.2.1 q.1.2.2 ∧ (∀ k, blkIs q.1.1 k → Array.size H1 ≤ k) ∧ Fr noF H1 H') l.length
      ⟨0, by omega, rfl, rfl, g8, hs8, Sl.nil _ _, (by rintro k ⟨a, ha, _⟩; cases ha), f7.trans0 f8⟩ ?_
    rintro s ⟨⟨lp, ll, lc⟩, x, _⟩ H10 ⟨i, hi, rfl, hx, g10, u10, lo10, lb10, f10⟩
    simp only at hx lo10 lb10
    subst hx
    dsimp only
    refine brW_dec (fun hlt => ?_) (fun hge => ?_)
    · have hlt : i < l.length := by omega
      obtain ⟨_, ad, rfl, hc⟩ := rd_i64 (hrd.old f10) hlt
      have hx := Nat.le_trans (le_last hrise hlt) hlast
      have hpos := hup i hlt
      refine ⟨ad, rfl, by omega, by omega, _, by rw [Int.toNat_natCast]; exact hc, _, rfl, _, (hcell_add g10 0 3).trans rfl, ?_⟩
      rw [wrap_natlt (by omega), shr_i64 (by omega)]
      generalize hsh : l[i] >>> kOf l = sh at hpos ⊢
      rw [wrap_i64 (n := (sh : Int) + (i : Int)) (by omega) (by omega), show (sh : Int) + (i : Int) = ((sh + i : Nat) : Int) by omega, Int.toNat_natCast]
      obtain ⟨a2, e2, hc2, hz2, u11, fu⟩ := u10.store (i := sh + i) hpos (.bool true)
      cases e2
      rw [set_boolU] at u11
      refine ⟨by omega, _, rfl, by omega, by omega, hc2, hz2, letV_mk fun H11 h11 => ?_⟩
      rw [← h11] at u11 fu
      have hun : ¬ blkIs (some ⟨Array.size H7, 0, none⟩) (Array.size H1) := by
        rintro ⟨a, ha, hb⟩
        cases ha
        simp only at hb
        omega
      have huge : ∀ k, blkIs (some ⟨Array.size H7, 0, none⟩) k → Array.size H1 ≤ k := by
        rintro k ⟨a, ha, rfl⟩
        cases ha
        simp only; omega
      have g11 := fu.blk g10 hun
      have lo11 := lo10.keep fu fun k hk hq => lo10.ne' u10 (by decide) k hk hq
      have f11 : Fr noF H1 H11 := f10.trans fu fun k hk => .inr (huge k hk)
      clear h11
      refine ⟨_, rfl, _, (hcell_add g11 0 3).trans rfl, ?_⟩
      rw [wrap_natlt (by omega)]
      refine ⟨by omega, ?_⟩
      have hval : IntKind.u64.wrap (andW .i64 (l[i] : Int) (IntKind.i64.wrap ((shlW .i64 1 (kOf l : Int)) - 1))) = ((l[i] % 2 ^ kOf l : Nat) : Int) := by
        have hml : l[i] % 2 ^ kOf l ≤ l[i] := Nat.mod_le _ _
        rw [show (1 : Int) = ((1 : Nat) : Int) from rfl, shl_i64 (by omega) (by omega), Nat.one_mul, show ((2 ^ kOf l : Nat) : Int) - ((1 : Nat) : Int) = ((2 ^ kOf l - 1 : Nat) : Int) by omega, wrap_i64n (by omega), and_i64 (by omega) (by omega), Nat.and_two_pow_sub_one_eq_mod, wrap_natlt (by omega)]
      rw [hval]
      have hll : ll = i := by
        have := lo11.1
        simp [lowL] at this
        omega
      refine app1 (t1 := ty_uint64) lo11 rfl ⟨by simp, by simp⟩ (by omega) (by decide) fun p' c' H13 lo13 f13 hb13 => ?_
      have hlt' : i < (lowL l).length := by simp [lowL]; exact hlt
      refine ⟨l.length - (i + 1), by omega, i + 1, by omega, rfl, ?_, f13.blk g11 (lo11.ne g11 (by decide)), ?_, ?_, ?_, f11.trans f13 fun k hk => .inr (lb10 k hk)⟩
      · show IntKind.i64.wrap ((i : Int) + 1) = _
        rw [wrap_i64 (by omega) (by omega)]; rfl
      · have u13 := u11.keep f13 fun k hk hq => lo11.ne' u11 (by decide) k hq hk
        unfold upN
        have e : l.getD i 0 = l[i] := by rw [List.getD_eq_getElem?_getD, List.getElem?_eq_getElem hlt]; rfl
        rw [e, hsh]
        exact u13
      · show Sl H13 ty_uint64 (((lowL l).take (i + 1)).map u64V) p' (ll + 1) c'
        rw [List.take_succ_eq_append_getElem hlt', List.map_append]
        have : (lowL l)[i] = l[i] % 2 ^ kOf l := by simp [lowL]
        rw [List.map_cons, this]
        exact lo13
      · intro k hk
        rcases hb13 k hk with h | h
        · exact lb10 k h
        · exact Nat.le_trans f11.size h
    · have : i = l.length := by omega
      subst this
      rw [List.take_of_length_le (by simp [lowL])] at lo10
      exact ⟨g10, u10, lo10, f10⟩
  rintro ⟨⟨lp, ll, lc⟩, _⟩ H9 ⟨g9, u9, lo9, f9⟩
  simp only at lo9
  dsimp only
  refine Bits_New_spec u9.rd (by omega) fun gu H14 tu f14 => ?_
  have g14 := f14.blk g9 fun h => h
  have lo14 := lo9.keep f14 fun _ _ h => h
  refine ⟨_, rfl, ⟨_, (hcell_add g14 0 0).trans rfl⟩, hfrozen_add g14 0 0, letV_mk fun H15 h15 => ?_⟩
  have g15 := set_blk h15 g14
  have f15 := set_fr h15
  have hs9 := f9.size
  have hl9 := lt_of_blk g9
  have tu15 := tu.keep f15 fun k hk e => by have := hk.1; omega
  have lo15 := lo14.keep f15 fun k hk e => lo14.ne g14 (by decide) (e ▸ hk)
  have hll : ll = l.length := by
    have := lo15.1
    simp [lowL] at this
    omega
  have hall : All64 (lowL l) := by
    intro y hy
    unfold lowL at hy
    rw [List.mem_map] at hy
    obtain ⟨x, _, rfl⟩ := hy
    have := Nat.mod_lt x p0
    omega
  clear h15
  refine Ints_New_spec lo15.rd hall (by omega) fun gl H16 tl f16 => ?_
  have g16 := f16.blk g15 fun h => h
  have tu16 := tu15.old f16
  refine ⟨_, rfl, ⟨_, (hcell_add g16 0 1).trans rfl⟩, hfrozen_add g16 0 1, letV_mk fun H17 h17 => ?_⟩
  have g17 := set_blk h17 g16
  have f17 := set_fr h17
  have z14 := f14.size
  have z15 := f15.size
  have z16 := f16.size
  have z17 := f17.size
  have tu17 := tu16.keep f17 fun k hk e => by have := hk.1; omega
  have tl17 := tl.keep f17 fun k hk e => by have := hk.1; omega
  refine hR _ H17 ⟨gu, gl, _, _, ⟨g17, tu17, tl17, hrise, hlast, hn⟩, ⟨by omega, by omega⟩, fun k hk => ⟨by have := hk.1; omega, by have := hk.2; omega⟩, fun k hk => ⟨by have := hk.1; omega, by have := hk.2; omega⟩, fun k hk => hk.2⟩ ?_
  exact (((f9.trans0 f14).trans f15 fun k hk => .inr (by omega)).trans0 f16).trans f17 fun k hk => .inr (by omega)
end Go.Proofs.YtbbehhddckmpkaaDoor
