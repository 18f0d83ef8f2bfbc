import Derived.Test.YtbbehhddckmpkaaDoorInts1
/-! Package ints: keeping numbers; what the document does. -/
namespace Go.Proofs.YtbbehhddckmpkaaDoor
open Go.Ev
set_option linter.unusedVariables false

theorem set_u64 (ws : List Nat) (i v : Nat) : (ws.map u64V).set i (u64V v) = (ws.set i v).map u64V := by rw [List.map_set]
theorem Ints_New_spec {H : Heap} {l : List Nat} {p : Option Addr} {n c : Nat} (hrd : Rd H (l.map u64V) p n) (hl : All64 l) (hb : n ≤ 1099511627776) {R : Option Addr → Heap → Prop}
    (hR : ∀ g H', Ints H' g l (fun k => Array.size H ≤ k ∧ k < Array.size H') → Fr noF H H' → R (some ⟨g, 0, none⟩) H') : ints_New.C p n c H R := by
  apply ints_New.calls
  unfold ints_New.W
  have hn : l.length = n := by have := hrd.1; simpa using this
  subst hn
  have hw64 := wide_le hl
  have hpr : l.length * wide l ≤ 70368744177664 := Nat.mul_le_mul hb hw64
  refine letV_mk fun H1 h1 => ?_
  have f1 : Fr noF H H1 := by rw [h1]; exact Fr.new _ _ _
  have hs1 : Array.size H1 = Array.size H + 1 := by rw [h1]; exact hnew_size
  have hg1 : H1[Array.size H]? = some (.cells #[.nilIface, .int .i64 (l.length : Int), .int .i64 0] ty_ints_Ints (0, 0)) := by rw [h1]; exact hnew_same
  clear h1
  refine joinW_mk (fun _ H' => H'[Array.size H]? = some (.cells #[.nilIface, .int .i64 (l.length : Int), .int .i64 (wide l : Int)] ty_ints_Ints (0, 0)) ∧ Fr noF H H') ?_ ?_
  · refine brW_dec (fun h0 => ?_) (fun h0 => ?_)
    · refine Max_spec (hrd.old f1) (by omega) hb ?_
      have hmax : maxL l < 2 ^ 64 := blen_le.1 hw64
      refine Width_spec hmax ?_
      refine ⟨_, rfl, ⟨_, (hcell_add hg1 0 2).trans rfl⟩, hfrozen_add hg1 0 2, letV_mk fun H5 h5 => ⟨?_, ?_⟩⟩
      · rw [h5, hset_add_same hg1]; rfl
      · rw [h5, add_mk]
        exact f1.trans (Fr.set H1 ⟨Array.size H, 0 + 2, none⟩ _) fun k hk => .inr (by rw [hk]; exact Nat.le_refl _)
    · have : l = [] := List.eq_nil_of_length_eq_zero (by omega)
      subst this
      exact ⟨hg1, f1⟩
  rintro _ H2 ⟨hg2, f2⟩
  dsimp only
  have hgs : Array.size H < Array.size H2 := lt_of_blk hg2
  refine ⟨_, rfl, _, (hcell_add hg2 0 1).trans rfl, _, rfl, _, (hcell_add hg2 0 2).trans rfl, by decide, ?_⟩
  have hnw : IntKind.i64.wrap (Int.tdiv (IntKind.i64.wrap ((IntKind.i64.wrap ((IntKind.i64.wrap ((l.length : Int) * (wide l : Int))) + 64)) - 1)) 64) = (((l.length * wide l + 63) / 64 : Nat) : Int) := by
    have e : (l.length : Int) * (wide l : Int) = ((l.length * wide l : Nat) : Int) := by push_cast; rfl
    rw [e]
    generalize l.length * wide l = m at hpr ⊢
    rw [wrap_i64 (n := (m : Int)) (by omega) (by omega), wrap_i64 (n := (m : Int) + 64) (by omega) (by omega), wrap_i64 (n := (m : Int) + 64 - 1) (by omega) (by omega), show (m : Int) + 64 - 1 = ((m + 63 : Nat) : Int) by omega,
      show Int.tdiv ((m + 63 : Nat) : Int) 64 = (((m + 63) / 64 : Nat) : Int) from rfl, wrap_i64 (by omega) (by omega)]
  rw [hnw]
  generalize hnwe : (l.length * wide l + 63) / 64 = nw
  have hnwb : nw ≤ 1099511627776 := by omega
  refine ⟨by omega, by omega, by omega, letV_mk fun H6 h6 => ?_⟩
  rw [Int.toNat_natCast] at h6 ⊢
  have f6 : Fr noF H2 H6 := by rw [h6]; exact Fr.new _ _ _
  have hs6 : Array.size H6 = Array.size H2 + 1 := by rw [h6]; exact hnew_size
  have hsl6 : Sl H6 ty_uint64 ((List.replicate nw 0).map u64V) (some ⟨Array.size H2, 0, none⟩) nw nw := by
    rw [h6, List.map_replicate]
    exact Sl.made H2 ty_uint64 (z := .int .u64 0) rfl nw
  have hg6 := f6.blk hg2 (fun h => h)
  clear h6
  refine joinW_thru ?_
  refine loopW_mk (fun m q H' => ∃ (i : Nat) (ws : List Nat), i ≤ l.length ∧ m = l.length - i ∧ q.1 = (i : Int) ∧ H'[Array.size H]? = some (.cells #[.nilIface, .int .i64 (l.length : Int), .int .i64 (wide l : Int)] ty_ints_Ints (0, 0)) ∧ Fr noF H H' ∧ Array.size H6 ≤ Array.size H' ∧
    Sl H' ty_uint64 (ws.map u64V) (some ⟨Array.size H2, 0, none⟩) nw nw ∧ Packed l (wide l) i ws ∧ All64 ws) l.length
    ⟨0, List.replicate nw 0, by omega, rfl, rfl, hg6, f2.trans0 f6, Nat.le_refl _, hsl6, packed_zero _ _ _, All64.zeros _⟩ ?_
  rintro m ⟨x, _⟩ H8 ⟨i, ws, hi, rfl, hx, hg8, f8, hs8, hsl, hpk, hall⟩
  simp only at hx
  subst hx
  dsimp only
  have hwl : ws.length = nw := by have := hsl.1; simpa using this
  refine brW_dec (fun hlt => ?_) (fun hge => ?_)
  · have hlt : i < l.length := by omega
    obtain ⟨_, a, rfl, hc⟩ := rd_u64 (hrd.old f8) hlt
    have g2 : hcell H8 ((⟨Array.size H, 0, none⟩ : Addr).add 2) = some (.int .i64 (wide l : Int)) := (hcell_add hg8 0 2).trans rfl
    refine joinW_thru ?_
    refine ⟨a, rfl, by omega, by omega, _, by rw [Int.toNat_natCast]; exact hc, _, rfl, _, g2, by decide, _, rfl, _, g2, by decide, letV_mk fun at7 ha => letV_mk fun off8 ho => ?_⟩
    refine ⟨_, rfl, _, g2, ?_⟩
    have hnext : ∀ {H' : Heap} {ws' : List Nat}, H'[Array.size H]? = some (.cells #[.nilIface, .int .i64 (l.length : Int), .int .i64 (wide l : Int)] ty_ints_Ints (0, 0)) → Fr noF H H' → Array.size H6 ≤ Array.size H' →
        Sl H' ty_uint64 (ws'.map u64V) (some ⟨Array.size H2, 0, none⟩) nw nw → Packed l (wide l) (i + 1) ws' → All64 ws' →
        ∃ m, m < l.length - i ∧ ∃ (j : Nat) (ws : List Nat), j ≤ l.length ∧ m = l.length - j ∧ IntKind.i64.wrap ((i : Int) + 1) = (j : Int) ∧ H'[Array.size H]? = some (.cells #[.nilIface, .int .i64 (l.length : Int), .int .i64 (wide l : Int)] ty_ints_Ints (0, 0)) ∧ Fr noF H H' ∧ Array.size H6 ≤ Array.size H' ∧
          Sl H' ty_uint64 (ws.map u64V) (some ⟨Array.size H2, 0, none⟩) nw nw ∧ Packed l (wide l) j ws ∧ All64 ws := by
      intro H' ws' a1 a2 a3 a4 a5 a6
      exact ⟨l.length - (i + 1), by omega, i + 1, ws', by omega, rfl, by rw [wrap_i64 (by omega) (by omega)]; rfl, a1, a2, a3, a4, a5, a6⟩
    refine brW_dec (fun h0 => ?_) (fun hne => ?_)
    · have h0 : wide l = 0 := by omega
      refine hnext hg8 f8 hs8 hsl ?_ hall
      rw [h0] at hpk ⊢
      exact packed_same hpk
    · have hw0 : 0 < wide l := by omega
      have hx := lt_wide (List.getElem_mem hlt)
      have hb1 : (i + 1) * wide l ≤ l.length * wide l := Nat.mul_le_mul_right _ (by omega)
      have hpk1 := packed_step hpk hw64 hw0 hlt hx (by omega)
      rw [Nat.succ_mul] at hb1
      have e : (i : Int) * (wide l : Int) = ((i * wide l : Nat) : Int) := by push_cast; rfl
      rw [e] at ha ho
      generalize hBe : i * wide l = B at ha ho hpk1 hb1
      rw [wrap_i64 (n := (B : Int)) (by omega) (by omega)] at ha ho
      have ha : at7 = ((B / 64 : Nat) : Int) := by
        rw [ha, show Int.tdiv (B : Int) 64 = ((B / 64 : Nat) : Int) from rfl, wrap_i64 (by omega) (by omega)]
      have ho : off8 = ((B % 64 : Nat) : Int) := by
        rw [ho, show Int.tmod (B : Int) 64 = ((B % 64 : Nat) : Int) from rfl, wrap_u64 (by omega) (by omega)]
      subst ha ho
      have hx64 := hl _ (List.getElem_mem hlt)
      obtain ⟨hB, a1, e1, hc1⟩ := rd_u64 hsl.rd (i := B / 64) (by omega)
      cases e1
      have hv1 : orW .u64 (ws[B / 64] : Int) (shlW .u64 (l[i] : Int) ((B % 64 : Nat) : Int)) = ((ws.getD (B / 64) 0 ||| l[i] <<< (B % 64) % 2 ^ 64 : Nat) : Int) := by
        rw [shlW_nat, orW_nat (hall _ (List.getElem_mem hB)) (shl_lt _ _), getD_ltN hB]
      obtain ⟨a2, e2, hc2, hz2, hsl2, fr2⟩ := hsl.store (i := B / 64) (by omega) (u64V (ws.getD (B / 64) 0 ||| l[i] <<< (B % 64) % 2 ^ 64))
      cases e2
      rw [set_u64] at hsl2
      refine ⟨_, rfl, by omega, by omega, _, by rw [Int.toNat_natCast]; exact hc1, by omega, _, rfl, by omega, by omega, by rw [Int.toNat_natCast]; exact hc2, by rw [Int.toNat_natCast]; exact hz2, letV_mk fun H10 h10 => ?_⟩
      rw [Int.toNat_natCast, hv1] at h10
      have h10 : H10 = hset H8 ((⟨Array.size H2, 0, none⟩ : Addr).add (B / 64)) (u64V (ws.getD (B / 64) 0 ||| l[i] <<< (B % 64) % 2 ^ 64)) := h10
      rw [← h10] at hsl2 fr2
      have hgn : ¬ blkIs (some ⟨Array.size H2, 0, none⟩) (Array.size H) := by
        rintro ⟨a, ha, hb⟩
        cases ha
        simp only at hb
        omega
      have hout : ∀ k, blkIs (some ⟨Array.size H2, 0, none⟩) k → noF k ∨ Array.size H ≤ k := by
        rintro k ⟨a, ha, rfl⟩
        cases ha
        exact .inr (by simp only; omega)
      have hg10 := fr2.blk hg8 hgn
      have f10 := f8.trans fr2 hout
      have hs10 := Nat.le_trans hs8 fr2.size
      have g10 : hcell H10 ((⟨Array.size H, 0, none⟩ : Addr).add 2) = some (.int .i64 (wide l : Int)) := (hcell_add hg10 0 2).trans rfl
      have hall1 : All64 (ws.set (B / 64) (ws.getD (B / 64) 0 ||| l[i] <<< (B % 64) % 2 ^ 64)) := hall.set _ (Nat.or_lt_two_pow (hall.getD _) (shl_lt _ _))
      clear h10
      refine ⟨_, rfl, _, g10, ?_⟩
      rw [wrap_i64 (n := ((B % 64 : Nat) : Int)) (by omega) (by omega), wrap_i64 (n := ((B % 64 : Nat) : Int) + (wide l : Int)) (by omega) (by omega)]
      unfold orAt at hpk1
      refine brW_dec (fun hgt => ?_) (fun hng => ?_)
      · rw [if_pos (by omega)] at hpk1
        rw [wrap_i64 (n := ((B / 64 : Nat) : Int) + 1) (by omega) (by omega), show (((B / 64 : Nat) : Int) + 1) = ((B / 64 + 1 : Nat) : Int) by omega, Int.toNat_natCast]
        obtain ⟨hB1, a3, e3, hc3⟩ := rd_u64 hsl2.rd (i := B / 64 + 1) (by omega)
        cases e3
        have hB1' : B / 64 + 1 < ws.length := by simpa using hB1
        have hrdv : (ws.set (B / 64) (ws.getD (B / 64) 0 ||| l[i] <<< (B % 64) % 2 ^ 64))[B / 64 + 1] = ws.getD (B / 64 + 1) 0 := by
          rw [← getD_ltN hB1, getD_setN hB, if_neg (by omega)]
        have hv3 : orW .u64 (((ws.set (B / 64) (ws.getD (B / 64) 0 ||| l[i] <<< (B % 64) % 2 ^ 64))[B / 64 + 1] : Nat) : Int) (shrW .u64 (l[i] : Int) ((64 - B % 64 : Nat) : Int)) = ((ws.getD (B / 64 + 1) 0 ||| l[i] >>> (64 - B % 64) : Nat) : Int) := by
          rw [hrdv, shrW_nat hx64, orW_nat (hall.getD _) (shr_lt hx64 _)]
        obtain ⟨a4, e4, hc4, hz4, hsl4, fr4⟩ := hsl2.store (i := B / 64 + 1) (by omega) (u64V (ws.getD (B / 64 + 1) 0 ||| l[i] >>> (64 - B % 64)))
        cases e4
        rw [set_u64] at hsl4
        refine ⟨_, rfl, by omega, by omega, _, hc3, ?_⟩
        rw [show (64 : Int) - ((B % 64 : Nat) : Int) = ((64 - B % 64 : Nat) : Int) by omega, wrap_natlt (by omega)]
        refine ⟨by omega, _, rfl, by omega, by omega, hc4, hz4, letV_mk fun H11 h11 => ?_⟩
        rw [hv3] at h11
        have h11 : H11 = hset H10 ((⟨Array.size H2, 0, none⟩ : Addr).add (B / 64 + 1)) (u64V (ws.getD (B / 64 + 1) 0 ||| l[i] >>> (64 - B % 64))) := h11
        rw [← h11] at hsl4 fr4
        exact hnext (fr4.blk hg10 hgn) (f10.trans fr4 hout) (Nat.le_trans hs10 fr4.size) hsl4 hpk1 (hall1.set _ (Nat.or_lt_two_pow (hall.getD _) (shr_lt hx64 _)))
      · rw [if_neg (by omega)] at hpk1
        exact hnext hg10 f10 hs10 hsl2 hpk1 hall1
  · have : i = l.length := by omega
    subst this
    refine ⟨_, rfl, ⟨_, (hcell_add hg8 0 0).trans rfl⟩, hfrozen_add hg8 0 0, letV_mk fun H12 h12 => ?_⟩
    have fr12 : Fr (fun k => k = Array.size H) H8 H12 := by rw [h12, add_mk]; exact Fr.set H8 ⟨Array.size H, 0 + 0, none⟩ _
    have hg12 : H12[Array.size H]? = some (.cells #[.iface ty_s_uint64 (.slice (some ⟨Array.size H2, 0, none⟩) nw nw), .int .i64 (l.length : Int), .int .i64 (wide l : Int)] ty_ints_Ints (0, 0)) := by
      rw [h12, hset_add_same hg8]; rfl
    clear h12
    have hsz := fr12.size
    refine hR _ _ ⟨some ⟨Array.size H2, 0, none⟩, ws, ⟨?_, ?_, hpk, hall, hl, ?_, hb⟩, ⟨by omega, by omega⟩, ?_, fun k hk => hk.2⟩ (f8.trans fr12 fun k hk => .inr (by omega))
    · rw [hwl]; exact hg12
    · rw [hwl]
      refine hsl.keep fr12 ?_
      rintro k ⟨a, ha, rfl⟩ he
      cases ha
      simp only at he
      omega
    · rw [hwl, hnwe]
    · rintro k ⟨a, ha, rfl⟩
      cases ha
      exact ⟨by simp only; omega, by simp only; omega⟩
theorem nats_rd {H : Heap} {zs : List Int} {p : Option Addr} {n : Nat} (h : Rd H (zs.map (Value.int .u64)) p n) (hw : ∀ z ∈ zs, (Lit.int .u64 z).wf = true) : ∃ l : List Nat, Rd H (l.map u64V) p n ∧ All64 l := by
  have hz : ∀ z ∈ zs, 0 ≤ z ∧ z < 2 ^ 64 := by
    intro z hm
    have := hw z hm
    simp [Lit.wf, IntKind.min, IntKind.max, IntKind.signed, IntKind.bits] at this
    omega
  refine ⟨zs.map Int.toNat, ?_, ?_⟩
  · have e : (zs.map Int.toNat).map u64V = zs.map (Value.int .u64) := by
      rw [List.map_map]
      apply List.map_congr_left
      intro z hm
      have := hz z hm
      show Value.int .u64 ((z.toNat : Nat) : Int) = _
      congr 1
      omega
    rw [e]
    exact h
  · intro x hx
    rw [List.mem_map] at hx
    obtain ⟨z, hm, rfl⟩ := hx
    have := hz z hm
    omega
end Go.Proofs.YtbbehhddckmpkaaDoor
