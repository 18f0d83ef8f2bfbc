import Derived.Test.YtbbehhddckmpkaaDoorEvPack
import Derived.Test.YtbbehhddckmpkaaDoorMA1
/-! Package ints: its calls. -/
namespace Go.Proofs.YtbbehhddckmpkaaDoor
open Go.Ev
set_option linter.unusedVariables false

abbrev u64V (n : Nat) : Value := .int .u64 (n : Int)
abbrev lenTab : ByteArray := ⟨#[0, 1, 2, 2, 3, 3, 3, 3, 4, 4, 4, 4, 4, 4, 4, 4, 5, 5, 5, 5, 5, 5, 5, 5, 5, 5, 5, 5, 5, 5, 5, 5, 6, 6, 6, 6, 6, 6, 6, 6, 6, 6, 6, 6, 6, 6, 6, 6, 6, 6, 6, 6, 6, 6, 6, 6, 6, 6, 6, 6, 6, 6, 6, 6, 7, 7, 7, 7, 7, 7, 7, 7, 7, 7, 7, 7, 7, 7, 7, 7, 7, 7, 7, 7, 7, 7, 7, 7, 7, 7, 7, 7, 7, 7, 7, 7, 7, 7, 7, 7, 7, 7, 7, 7, 7, 7, 7, 7, 7, 7, 7, 7, 7, 7, 7, 7, 7, 7, 7, 7, 7, 7, 7, 7, 7, 7, 7, 7, 8, 8, 8, 8, 8, 8, 8, 8, 8, 8, 8, 8, 8, 8, 8, 8, 8, 8, 8, 8, 8, 8, 8, 8, 8, 8, 8, 8, 8, 8, 8, 8, 8, 8, 8, 8, 8, 8, 8, 8, 8, 8, 8, 8, 8, 8, 8, 8, 8, 8, 8, 8, 8, 8, 8, 8, 8, 8, 8, 8, 8, 8, 8, 8, 8, 8, 8, 8, 8, 8, 8, 8, 8, 8, 8, 8, 8, 8, 8, 8, 8, 8, 8, 8, 8, 8, 8, 8, 8, 8, 8, 8, 8, 8, 8, 8, 8, 8, 8, 8, 8, 8, 8, 8, 8, 8, 8, 8, 8, 8, 8, 8, 8, 8, 8, 8, 8, 8, 8, 8, 8, 8, 8, 8, 8, 8, 8, 8]⟩
theorem lenTab_size : lenTab.size = 256 := by decide +kernel
theorem lenTab_blen : ∀ x : Nat, x < 256 → bt lenTab (x : Int) = (blen x : Int) := by decide +kernel
theorem Len64_spec {n : Nat} (hn : n < 2 ^ 64) {H : Heap} {R : Int → Heap → Prop} (hR : R (blen n : Int) H) : bits_Len64.C (n : Int) H R := by
  apply bits_Len64.calls
  unfold bits_Len64.W
  have h64 := blen_64 hn
  refine joinW_mk (fun q H' => H' = H ∧ ∃ m c : Nat, q.1 = (m : Int) ∧ q.2.1 = (c : Int) ∧ m < 2 ^ 32 ∧ blen n = c + blen m) ?_ ?_
  · refine brW_dec (fun h => ⟨by decide, letV_mk fun x hx => ?_⟩) (fun h => ⟨rfl, n, 0, rfl, rfl, by omega, by omega⟩)
    refine ⟨rfl, n >>> 32, 32, ?_, rfl, ?_, ?_⟩
    · show x = _
      rw [hx, show (32 : Int) = ((32 : Nat) : Int) from rfl, shrW_nat hn]
    · rw [Nat.shiftRight_eq_div_pow]; omega
    · rw [blen_shr]
      have : ¬ blen n ≤ 32 := fun hh => by have := blen_le.1 hh; omega
      omega
  rintro ⟨x, y, _⟩ H' ⟨rfl, m, c, hx, hy, hm, he⟩
  simp only at hx hy
  subst hx hy
  dsimp only
  refine joinW_mk (fun q H'' => H'' = H' ∧ ∃ m c : Nat, q.1 = (m : Int) ∧ q.2.1 = (c : Int) ∧ m < 2 ^ 16 ∧ blen n = c + blen m) ?_ ?_
  · refine brW_dec (fun h => ⟨by decide, letV_mk fun x hx => letV_mk fun y hy => ?_⟩) (fun h => ⟨rfl, m, c, rfl, rfl, by omega, by omega⟩)
    refine ⟨rfl, m >>> 16, c + 16, ?_, ?_, ?_, ?_⟩
    · show x = _
      rw [hx, show (16 : Int) = ((16 : Nat) : Int) from rfl, shrW_nat (by omega)]
    · show y = _
      rw [hy, wrap_i64 (by omega) (by omega)]; rfl
    · rw [Nat.shiftRight_eq_div_pow]; omega
    · rw [blen_shr]
      have : ¬ blen m ≤ 16 := fun hh => by have := blen_le.1 hh; omega
      omega
  clear hm he
  rintro ⟨x, y, _⟩ H'' ⟨rfl, m, c, hx, hy, hm, he⟩
  simp only at hx hy
  subst hx hy
  dsimp only
  refine joinW_mk (fun q H' => H' = H'' ∧ ∃ m c : Nat, q.1 = (m : Int) ∧ q.2.1 = (c : Int) ∧ m < 2 ^ 8 ∧ blen n = c + blen m) ?_ ?_
  · refine brW_dec (fun h => ⟨by decide, letV_mk fun x hx => letV_mk fun y hy => ?_⟩) (fun h => ⟨rfl, m, c, rfl, rfl, by omega, by omega⟩)
    refine ⟨rfl, m >>> 8, c + 8, ?_, ?_, ?_, ?_⟩
    · show x = _
      rw [hx, show (8 : Int) = ((8 : Nat) : Int) from rfl, shrW_nat (by omega)]
    · show y = _
      rw [hy, wrap_i64 (by omega) (by omega)]; rfl
    · rw [Nat.shiftRight_eq_div_pow]; omega
    · rw [blen_shr]
      have : ¬ blen m ≤ 8 := fun hh => by have := blen_le.1 hh; omega
      omega
  clear hm he
  rintro ⟨x, y, _⟩ H' ⟨rfl, m, c, hx, hy, hm, he⟩
  simp only at hx hy
  subst hx hy
  dsimp only
  have hm : m < 256 := by omega
  rw [wrap_u8 (by omega) (by omega)]
  refine ⟨by omega, by show (m : Int) < (lenTab.size : Int); rw [lenTab_size]; omega, letV_mk fun z hz => ?_⟩
  have hz : z = IntKind.i64.wrap ((c : Int) + IntKind.i64.wrap (bt lenTab (m : Int))) := hz
  rw [lenTab_blen m hm, wrap_i64 (n := (blen m : Int)) (by omega) (by omega), wrap_i64 (by omega) (by omega)] at hz
  rw [hz, show (c : Int) + (blen m : Int) = (blen n : Int) by omega]
  exact hR
theorem Width_spec {n : Nat} (hn : n < 2 ^ 64) {H : Heap} {R : Int → Heap → Prop} (hR : R (blen n : Int) H) : ints_Width.C (n : Int) H R := by
  apply ints_Width.calls
  unfold ints_Width.W
  exact Len64_spec hn hR
theorem rd_u64 {H : Heap} {l : List Nat} {p : Option Addr} {n : Nat} (h : Rd H (l.map u64V) p n) {i : Nat} (hi : i < n) : ∃ (h2 : i < l.length) (a : Addr), p = some a ∧ hcell H (a.add i) = some (.int .u64 (l[i] : Int)) := by
  have hl : l.length = n := by have := h.1; simpa using this
  have h2 : i < l.length := by omega
  obtain ⟨a, ha, hc⟩ := h.get (i := i) (v := u64V l[i]) (by rw [List.getElem?_map, List.getElem?_eq_getElem h2]; rfl)
  exact ⟨h2, a, ha, hc⟩
theorem Max_spec {H : Heap} {l : List Nat} {p : Option Addr} {n c : Nat} (h : Rd H (l.map u64V) p n) (h0 : 0 < n) (hb : n ≤ 1099511627776) {R : Int → Heap → Prop} (hR : R (maxL l : Int) H) : slices_Max_uint64_uint64.C p n c H R := by
  apply slices_Max_uint64_uint64.calls
  unfold slices_Max_uint64_uint64.W
  have hl : l.length = n := by have := h.1; simpa using this
  refine joinW_thru (brW_neg (by omega) ?_)
  obtain ⟨h2, a, rfl, hc⟩ := rd_u64 h h0
  refine ⟨a, rfl, by omega, by omega, _, hc, joinW_thru ?_⟩
  refine loopW_mk (fun k q H' => H' = H ∧ ∃ i : Nat, i ≤ n ∧ k = n - i ∧ q.1 = (maxL (l.take i) : Int) ∧ q.2.1 = (i : Int)) (n - 1) ⟨rfl, 1, by omega, rfl, ?_, rfl⟩ ?_
  · rw [maxL_take h2]; simp [maxL]
  rintro k ⟨x, y, _⟩ H' ⟨rfl, i, hi, rfl, hx, hy⟩
  simp only at hx hy
  subst hx hy
  dsimp only
  refine brW_dec (fun hlt => ?_) (fun hge => ?_)
  · obtain ⟨h2, a', e, hc⟩ := rd_u64 h (i := i) (by omega)
    cases e
    refine ⟨a, rfl, by omega, by omega, _, by rw [Int.toNat_natCast]; exact hc, letV_mk fun m hm => letV_mk fun i4 hi4 => ⟨n - (i + 1), by omega, rfl, i + 1, by omega, rfl, ?_, ?_⟩⟩
    · show m = _
      rw [hm, maxL_take h2]; omega
    · show i4 = _
      rw [hi4, wrap_i64 (by omega) (by omega)]; rfl
  · have : i = n := by omega
    subst this
    rw [List.take_of_length_le (by omega)]
    exact hR
/-- Numbers that are kept. -/
structure IntsAt (H : Heap) (g : Nat) (l : List Nat) (pw : Option Addr) (ws : List Nat) : Prop where
  blk : H[g]? = some (.cells #[.iface ty_s_uint64 (.slice pw ws.length ws.length), .int .i64 (l.length : Int), .int .i64 (wide l : Int)] ty_ints_Ints (0, 0))
  sl : Sl H ty_uint64 (ws.map u64V) pw ws.length ws.length
  packed : Packed l (wide l) l.length ws
  all : All64 ws
  vals : All64 l
  len : ws.length = (l.length * wide l + 63) / 64
  few : l.length ≤ 1099511627776
def Ints (H : Heap) (g : Nat) (l : List Nat) (F : Nat → Prop) : Prop := ∃ pw ws, IntsAt H g l pw ws ∧ F g ∧ (∀ k, blkIs pw k → F k) ∧ ∀ k, F k → k < Array.size H
theorem Ints.keep {H H' : Heap} {g : Nat} {l : List Nat} {F G : Nat → Prop} (h : Ints H g l F) (hf : Fr G H H') (hd : ∀ k, F k → ¬ G k) : Ints H' g l F := by
  obtain ⟨pw, ws, h, h1, h2, h3⟩ := h
  exact ⟨pw, ws, ⟨hf.blk h.blk (hd _ h1), h.sl.keep hf fun k hk => hd k (h2 k hk), h.packed, h.all, h.vals, h.len, h.few⟩, h1, h2, fun k hk => Nat.lt_of_lt_of_le (h3 k hk) hf.size⟩
theorem Ints.old {H H' : Heap} {g : Nat} {l : List Nat} {F : Nat → Prop} (h : Ints H g l F) (hf : Fr noF H H') : Ints H' g l F := h.keep hf fun _ _ h => h
section
variable {H : Heap} {g : Nat} {l : List Nat} {F : Nat → Prop}
theorem Ints_Len_spec (h : Ints H g l F) {R : Int → Heap → Prop} (hR : R (l.length : Int) H) : ints_Ints_Len.C (some ⟨g, 0, none⟩) H R := by
  obtain ⟨pw, ws, h, _⟩ := h
  apply ints_Ints_Len.calls
  unfold ints_Ints_Len.W
  exact brW_false rfl ⟨_, rfl, _, (hcell_add h.blk 0 1).trans rfl, hR⟩
theorem Ints_Len_nil {R : Int → Heap → Prop} (hR : R 0 H) : ints_Ints_Len.C none H R := by
  apply ints_Ints_Len.calls
  unfold ints_Ints_Len.W
  exact brW_true rfl hR
/-- So many bits, brought up to 64s. -/
def upTo64 (n : Nat) : Nat := (n + 63) / 64 * 64
theorem Ints.prod (h : Ints H g l F) : l.length * wide l ≤ 70368744177664 := by
  obtain ⟨pw, ws, h, _⟩ := h
  exact Nat.mul_le_mul h.few (wide_le h.vals)
theorem Ints_Get_spec (h : Ints H g l F) (n : Int) {R : Int → Int → Heap → Prop} (h1 : ∀ k : Nat, (hk : k < l.length) → n = (k : Int) → R (l[k] : Int) 0 H) (h2 : (n < 0 ∨ (l.length : Int) ≤ n) → R 0 4 H) : ints_Ints_Get.C (some ⟨g, 0, none⟩) n H R := by
  apply ints_Ints_Get.calls
  unfold ints_Ints_Get.W
  refine joinW_thru (joinW_thru ?_)
  refine brW_dec (fun hn => brW_true rfl (h2 (.inl hn))) (fun hn => ?_)
  refine Ints_Len_spec h ?_
  refine brW_dec (fun hl => h2 (.inr hl)) (fun hl => ?_)
  have hpr := h.prod
  obtain ⟨pw, ws, h, _⟩ := h
  obtain ⟨k, rfl⟩ : ∃ k : Nat, n = (k : Int) := ⟨n.toNat, by omega⟩
  have hk : k < l.length := by omega
  have hR := h1 k hk rfl
  clear h1 h2
  refine ⟨_, rfl, _, (hcell_add h.blk 0 0).trans rfl, _, _, _, true, .inl ⟨rfl, rfl⟩, ?_⟩
  refine joinW_thru (joinW_thru (brW_false rfl ?_))
  have f2 : hcell H ((⟨g, 0, none⟩ : Addr).add 2) = some (.int .i64 (wide l : Int)) := (hcell_add h.blk 0 2).trans rfl
  refine ⟨_, rfl, _, f2, ?_⟩
  have hw64 := wide_le h.vals
  have hlt := lt_wide (List.getElem_mem hk)
  refine brW_dec (fun h0 => ?_) (fun hne => ?_)
  · have h0 : wide l = 0 := by omega
    rw [h0] at hlt
    have : l[k] = 0 := by omega
    rw [this] at hR
    exact hR
  · have hw0 : 0 < wide l := by omega
    refine ⟨_, rfl, _, f2, by decide, _, rfl, _, f2, by decide, letV_mk fun at8 ha => letV_mk fun off9 ho => ?_⟩
    have hb : k * wide l + wide l ≤ l.length * wide l := by
      have : (k + 1) * wide l ≤ l.length * wide l := Nat.mul_le_mul_right _ (by omega)
      rwa [Nat.succ_mul] at this
    have hlen := h.len
    have hget := packed_get h.packed h.all hw64 hk hlt
    have e : (k : Int) * (wide l : Int) = ((k * wide l : Nat) : Int) := by push_cast; rfl
    rw [e] at ha ho
    generalize hBe : k * wide l = B at ha ho hget hb
    rw [wrap_i64 (n := (B : Int)) (by omega) (by omega)] at ha ho
    have ha : at8 = ((B / 64 : Nat) : Int) := by
      rw [ha, show Int.tdiv (B : Int) 64 = ((B / 64 : Nat) : Int) from rfl, wrap_i64 (by omega) (by omega)]
    have ho : off9 = ((B % 64 : Nat) : Int) := by
      rw [ho, show Int.tmod (B : Int) 64 = ((B % 64 : Nat) : Int) from rfl, wrap_u64 (by omega) (by omega)]
    subst ha ho
    have hrd := h.sl.rd
    obtain ⟨hlt0, a, rfl, hc⟩ := rd_u64 hrd (i := B / 64) (by omega)
    refine ⟨a, rfl, by omega, by omega, _, by rw [Int.toNat_natCast]; exact hc, by omega, letV_mk fun x10 hx10 => ?_⟩
    rw [shrW_nat (h.all _ (List.getElem_mem hlt0))] at hx10
    refine joinW_mk (fun q H' => H' = H ∧ ∃ m : Nat, q.1 = (m : Int) ∧ m < 2 ^ 64 ∧ m = if 64 < B % 64 + wide l then ws.getD (B / 64) 0 >>> (B % 64) ||| ws.getD (B / 64 + 1) 0 <<< (64 - B % 64) % 2 ^ 64 else ws.getD (B / 64) 0 >>> (B % 64)) ?_ ?_
    · refine ⟨_, rfl, _, f2, ?_⟩
      rw [wrap_i64 (n := ((B % 64 : Nat) : Int)) (by omega) (by omega), wrap_i64 (n := ((B % 64 : Nat) : Int) + (wide l : Int)) (by omega) (by omega)]
      refine brW_dec (fun hgt => ?_) (fun hng => ?_)
      · rw [wrap_i64 (n := ((B / 64 : Nat) : Int) + 1) (by omega) (by omega)]
        obtain ⟨hlt1, a', e', hc1⟩ := rd_u64 hrd (i := B / 64 + 1) (by omega)
        cases e'
        rw [show (((B / 64 : Nat) : Int) + 1) = ((B / 64 + 1 : Nat) : Int) by omega, Int.toNat_natCast]
        refine ⟨a, rfl, by omega, by omega, _, hc1, ?_⟩
        rw [show (64 : Int) - ((B % 64 : Nat) : Int) = ((64 - B % 64 : Nat) : Int) by omega, wrap_natlt (by omega)]
        refine ⟨by omega, letV_mk fun y hy => ⟨rfl, _, ?_, ?_, rfl⟩⟩
        · show y = _
          rw [hy, hx10, shlW_nat, orW_nat (shr_lt (h.all _ (List.getElem_mem hlt0)) _) (shl_lt _ _), if_pos (by omega), getD_ltN hlt0, getD_ltN hlt1]
        · rw [if_pos (by omega)]
          exact Nat.or_lt_two_pow (shr_lt (h.all.getD _) _) (shl_lt _ _)
      · refine ⟨rfl, _, ?_, ?_, rfl⟩
        · show x10 = _
          rw [hx10, if_neg (by omega), getD_ltN hlt0]
        · rw [if_neg (by omega)]
          exact shr_lt (h.all.getD _) _
    · rintro ⟨x, _⟩ H' ⟨rfl, m, hx, hm, hme⟩
      simp only at hx
      subst hx
      dsimp only
      refine joinW_thru ?_
      refine ⟨_, rfl, _, f2, ?_⟩
      unfold readAt at hget
      rw [← hme] at hget
      refine brW_dec (fun hlt64 => ?_) (fun hge => ?_)
      · refine ⟨_, rfl, _, f2, ?_⟩
        rw [wrap_natlt (by omega)]
        refine ⟨by omega, letV_mk fun y hy => ?_⟩
        have hp2 : 2 ^ wide l < 2 ^ 64 := Nat.pow_lt_pow_right (by decide) (by omega)
        have hp0 : 0 < 2 ^ wide l := Nat.pow_pos (by decide)
        rw [show (1 : Int) = ((1 : Nat) : Int) from rfl, shlW_nat, Nat.shiftLeft_eq, Nat.one_mul, Nat.mod_eq_of_lt hp2, show ((2 ^ wide l : Nat) : Int) - ((1 : Nat) : Int) = ((2 ^ wide l - 1 : Nat) : Int) by omega, wrap_natlt (by omega), andW_nat hm (by omega)] at hy
        rw [if_pos (by omega)] at hget
        rw [hget] at hy
        rw [hy]
        exact hR
      · rw [if_neg (by omega)] at hget
        rw [hget]
        exact hR
end
end Go.Proofs.YtbbehhddckmpkaaDoor
