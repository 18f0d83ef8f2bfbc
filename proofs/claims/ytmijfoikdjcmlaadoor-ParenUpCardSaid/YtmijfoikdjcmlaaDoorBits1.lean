import Derived.Test.YtmijfoikdjcmlaaDoorEvPop
import Derived.Test.YtmijfoikdjcmlaaDoorEvPack
import Derived.Test.YtmijfoikdjcmlaaDoorMA1
/-! Package bits: its calls. -/
namespace Go.Ev
/-- append of one element, where something is told between. -/
theorem app1_at {H H1 : Heap} {el : TypeId} {xs : List Value} {p : Option Addr} {l c bytes t1 : Nat} {z v : Value} {K : Option Addr → Nat → Nat → Heap → Prop} (hs : Sl H el xs p l c) (h1 : H1 = hnew H #[v] t1) (hz : cellsV z = [z]) (hone : One v) (hb : (l + 1) * bytes ≤ 140737488355328) (hb0 : bytes ≠ 0)
    (hK : ∀ p' c' H', Sl H' el (xs ++ [v]) p' (l + 1) c' → Fr (blkIs p) H1 H' → (∀ k, blkIs p' k → blkIs p k ∨ Array.size H1 ≤ k) → K p' (l + 1) c' H') :
    appW el 1 bytes z p l c (.slice (some ⟨Array.size H, 0, none⟩) 1 1) H1 K := by
  have hf : Fr noF H H1 := by rw [h1]; exact Fr.new H #[v] t1
  refine appW_own (new := [v]) (hs.keep hf (fun _ _ h => h)) hz ?_ rfl (by simpa using hone) hb hb0 hK
  refine ⟨rfl, rfl, ?_⟩
  intro j u hj
  rw [hcell_add (by rw [h1]; exact hnew_same), Nat.zero_add]
  simpa using hj
theorem wrap_i64_nat {a : Nat} (h : a < 2 ^ 63) : IntKind.i64.wrap (a : Int) = (a : Int) := wrap_i64 (by omega) (by omega)
theorem andW_i64_nat {a b : Nat} (ha : a < 2 ^ 63) (hb : b < 2 ^ 63) : andW .i64 a b = ((a &&& b : Nat) : Int) := by
  unfold andW
  rw [show IntKind.i64.bits = 64 from rfl, ofInt_u64, ofInt_u64, BitVec.toNat_and, BitVec.toNat_ofNat, BitVec.toNat_ofNat, Nat.mod_eq_of_lt (by omega), Nat.mod_eq_of_lt (by omega), wrap_i64_nat (Nat.and_lt_two_pow a hb)]
/-- How many below a place have a bit. -/
def rk (m : List Bool) (k : Nat) (bit : Bool) : Nat := (m.take k).count bit
/-- 64 of them. -/
def chunk (m : List Bool) (j : Nat) : List Bool := (m.drop (64 * j)).take 64
theorem chunk_len (m : List Bool) (j : Nat) : (chunk m j).length = min 64 (m.length - 64 * j) := by simp [chunk]
theorem chunk_get {m : List Bool} {j t : Nat} (h : t < (chunk m j).length) : ∃ h2 : 64 * j + t < m.length, (chunk m j)[t] = m[64 * j + t] := by
  have := chunk_len m j
  refine ⟨by omega, ?_⟩
  simp [chunk]
theorem take_chunk (m : List Bool) (j t : Nat) (ht : t ≤ 64) : m.take (64 * j + t) = m.take (64 * j) ++ (chunk m j).take t := by
  rw [List.take_add, chunk, List.take_take, Nat.min_eq_left ht]
theorem rk_chunk (m : List Bool) (j t : Nat) (ht : t ≤ 64) (bit : Bool) : rk m (64 * j + t) bit = rk m (64 * j) bit + ((chunk m j).take t).count bit := by
  unfold rk
  rw [take_chunk m j t ht, List.count_append]
theorem rk_both (m : List Bool) (k : Nat) (h : k ≤ m.length) : rk m k true + rk m k false = k := by
  have : ∀ l : List Bool, l.count true + l.count false = l.length := by
    intro l
    induction l with
    | nil => rfl
    | cons b l ih => cases b <;> simp <;> omega
  unfold rk
  rw [this]
  simp
  omega
theorem rk_le (m : List Bool) (k : Nat) (bit : Bool) : rk m k bit ≤ m.length := by
  unfold rk
  exact Nat.le_trans List.count_le_length (by simp; omega)
theorem rk_mono (m : List Bool) {k k' : Nat} (h : k ≤ k') (bit : Bool) : rk m k bit ≤ rk m k' bit := by
  unfold rk
  exact (List.take_sublist_take_left h).count_le bit
theorem rk_succ {m : List Bool} {k : Nat} (h : k < m.length) (bit : Bool) : rk m (k + 1) bit = rk m k bit + (if m[k] = bit then 1 else 0) := by
  unfold rk
  rw [List.take_succ_eq_append_getElem h, List.count_append]
  congr 1
  rw [List.count_singleton]
  simp
theorem rk_all (m : List Bool) {k : Nat} (h : m.length ≤ k) (bit : Bool) : rk m k bit = m.count bit := by
  unfold rk
  rw [List.take_of_length_le h]
end Go.Ev
namespace Go.Proofs.YtmijfoikdjcmlaaDoor
open Go.Ev
set_option linter.unusedVariables false

theorem OnesCount64_spec {n : Nat} (hn : n < 2 ^ 64) {H : Heap} {R : Int → Heap → Prop} (hR : R (pop n : Int) H) : bits_OnesCount64.C (n : Int) H R := by
  apply bits_OnesCount64.calls
  unfold bits_OnesCount64.W
  have a1 : ∀ x, x &&& mask 2 1 32 ≤ 6148914691236517205 := fun x => by have := Nat.and_le_right (n := x) (m := mask 2 1 32); rw [mask_1] at this ⊢; exact this
  have a2 : ∀ x, x &&& mask 4 3 16 ≤ 3689348814741910323 := fun x => by have := Nat.and_le_right (n := x) (m := mask 4 3 16); rw [mask_2] at this ⊢; exact this
  have b1 : f1 32 n < 2 ^ 64 := by unfold f1; have := a1 (n / 2); have := a1 n; omega
  have b2 : f2 16 (f1 32 n) ≤ 7378697629483820646 := by unfold f2; have := a2 (f1 32 n / 4); have := a2 (f1 32 n); omega
  have hl := low_f3 8 _ (low_f2 16 (f1 32 n))
  have hs := sum8 hl
  rw [swar] at hs
  refine ⟨by decide, letV_mk fun x1 h1 => ?_⟩
  have h1 : x1 = ((f1 32 n : Nat) : Int) := by
    rw [h1, show (1 : Int) = ((1 : Nat) : Int) from rfl, shrW_nat hn, show (6148914691236517205 : Int) = ((6148914691236517205 : Nat) : Int) from rfl, andW_nat (shr_lt hn 1) (by decide), andW_nat hn (by decide), ← Int.natCast_add, ← mask_1, Nat.shiftRight_eq_div_pow, wrap_natlt]
    · rfl
    · exact b1
  subst h1
  refine ⟨by decide, letV_mk fun x2 h2 => ?_⟩
  have h2 : x2 = ((f2 16 (f1 32 n) : Nat) : Int) := by
    rw [h2, show (2 : Int) = ((2 : Nat) : Int) from rfl, shrW_nat b1, show (3689348814741910323 : Int) = ((3689348814741910323 : Nat) : Int) from rfl, andW_nat (shr_lt b1 2) (by decide), andW_nat b1 (by decide), ← Int.natCast_add, ← mask_2, Nat.shiftRight_eq_div_pow, wrap_natlt]
    · rfl
    · exact Nat.lt_of_le_of_lt b2 (by decide)
  subst h2
  generalize hz : f2 16 (f1 32 n) = z at *
  refine ⟨by decide, letV_mk fun x3 h3 => ?_⟩
  have h3 : x3 = ((f3 8 z : Nat) : Int) := by
    rw [h3, show (4 : Int) = ((4 : Nat) : Int) from rfl, shrW_nat (by omega), ← Int.natCast_add, Nat.shiftRight_eq_div_pow, show z / 2 ^ 4 = z / 16 from rfl, wrap_natlt (by omega), show (1085102592571150095 : Int) = ((1085102592571150095 : Nat) : Int) from rfl, andW_nat (by omega) (by decide), ← mask_3]
    rfl
  subst h3
  generalize f3 8 z = w at *
  obtain ⟨s0, s1, s2, s3, s4⟩ := hs
  generalize ha : w + w / 256 = a at *
  generalize hb : a + a / 65536 = b at *
  generalize hc : b + b / 4294967296 = c at *
  refine ⟨by decide, letV_mk fun x4 h4 => ?_⟩
  have h4 : x4 = (a : Int) := by
    rw [h4, show (8 : Int) = ((8 : Nat) : Int) from rfl, shrW_nat (by omega), Nat.shiftRight_eq_div_pow, show w / 2 ^ 8 = w / 256 from rfl, ← Int.natCast_add, ha, wrap_natlt (by omega)]
  subst h4
  refine ⟨by decide, letV_mk fun x5 h5 => ?_⟩
  have h5 : x5 = (b : Int) := by
    rw [h5, show (16 : Int) = ((16 : Nat) : Int) from rfl, shrW_nat (by omega), Nat.shiftRight_eq_div_pow, show a / 2 ^ 16 = a / 65536 from rfl, ← Int.natCast_add, hb, wrap_natlt (by omega)]
  subst h5
  refine ⟨by decide, letV_mk fun x6 h6 => ?_⟩
  have h6 : x6 = (c : Int) := by
    rw [h6, show (32 : Int) = ((32 : Nat) : Int) from rfl, shrW_nat (by omega), Nat.shiftRight_eq_div_pow, show b / 2 ^ 32 = b / 4294967296 from rfl, ← Int.natCast_add, hc, wrap_natlt (by omega)]
  subst h6
  refine letV_mk fun x7 h7 => ?_
  have h7 : x7 = (pop n : Int) := by
    rw [h7, wrap_i64_nat s3, show (127 : Int) = ((127 : Nat) : Int) from rfl, andW_i64_nat s3 (by decide), show 127 = 2 ^ 7 - 1 from rfl, Nat.and_two_pow_sub_one_eq_mod, show c % 2 ^ 7 = c % 128 from rfl, s4]
  rw [h7]
  exact hR
/-! ### Bits that are kept -/
abbrev partV (m : List Bool) (j : Nat) : Value := .iface ty_bits_part (.agg #[.int .u64 (valL (chunk m j) : Int), .int .i64 (rk m (64 * j) true : Int)])
def parts (m : List Bool) (n : Nat) : List Value := (List.range n).map (partV m)
theorem parts_len (m : List Bool) (n : Nat) : (parts m n).length = n := by simp [parts]
theorem parts_succ (m : List Bool) (n : Nat) : parts m (n + 1) = parts m n ++ [partV m n] := by simp [parts, List.range_succ]
structure BitsAt (H : Heap) (g : Nat) (m : List Bool) (lp : Option Addr) (lc : Nat) : Prop where
  blk : H[g]? = some (.cells #[.slice lp (m.length / 64 + 1) lc, .int .i64 (m.length : Int)] ty_bits_Bits (0, 0))
  sl : Sl H ty_any (parts m (m.length / 64 + 1)) lp (m.length / 64 + 1) lc
  few : m.length ≤ 4194304
def Bits (H : Heap) (g : Nat) (m : List Bool) (F : Nat → Prop) : Prop := ∃ lp lc, BitsAt H g m lp lc ∧ F g ∧ (∀ k, blkIs lp k → F k) ∧ ∀ k, F k → k < Array.size H
theorem Bits.keep {H H' : Heap} {g : Nat} {m : List Bool} {F G : Nat → Prop} (h : Bits H g m F) (hf : Fr G H H') (hd : ∀ k, F k → ¬ G k) : Bits H' g m F := by
  obtain ⟨lp, lc, h, h1, h2, h3⟩ := h
  exact ⟨lp, lc, ⟨hf.blk h.blk (hd _ h1), h.sl.keep hf fun k hk => hd k (h2 k hk), h.few⟩, h1, h2, fun k hk => Nat.lt_of_lt_of_le (h3 k hk) hf.size⟩
theorem Bits.old {H H' : Heap} {g : Nat} {m : List Bool} {F : Nat → Prop} (h : Bits H g m F) (hf : Fr noF H H') : Bits H' g m F := h.keep hf fun _ _ h => h
section
variable {H : Heap} {g : Nat} {m : List Bool} {F : Nat → Prop}
theorem Bits.few (h : Bits H g m F) : m.length ≤ 4194304 := by obtain ⟨_, _, h, _⟩ := h; exact h.few
theorem Bits_Len_spec (h : Bits H g m F) {R : Int → Heap → Prop} (hR : R (m.length : Int) H) : bits_Bits_Len.C (some ⟨g, 0, none⟩) H R := by
  obtain ⟨lp, lc, h, _⟩ := h
  apply bits_Bits_Len.calls
  unfold bits_Bits_Len.W
  exact brW_false rfl ⟨_, rfl, _, (hcell_add h.blk 0 1).trans rfl, hR⟩
theorem Bits_Len_nil {R : Int → Heap → Prop} (hR : R 0 H) : bits_Bits_Len.C none H R := by
  apply bits_Bits_Len.calls
  unfold bits_Bits_Len.W
  exact brW_true rfl hR
theorem new_part {H H1 : Heap} {cs : Array Value} {t : TypeId} (h : H1 = hnew H cs t) : H1[Array.size H]? = some (.cells cs t (0, 0)) := by rw [h]; exact hnew_same
theorem set_fr {H H1 : Heap} {b o : Nat} {v : Value} (h : H1 = hset H ((⟨b, 0, none⟩ : Addr).add o) v) : Fr (fun k => k = b) H H1 := by
  rw [h, add_mk]; exact Fr.set H ⟨b, 0 + o, none⟩ _
theorem set_blk {H H1 : Heap} {b o : Nat} {v : Value} {cs : Array Value} {t : TypeId} (h : H1 = hset H ((⟨b, 0, none⟩ : Addr).add o) v) (hb : H[b]? = some (.cells cs t (0, 0))) : H1[b]? = some (.cells (cs.setIfInBounds (0 + o) v) t (0, 0)) := by
  rw [h, hset_add_same hb]
theorem Bits_at_spec (h : Bits H g m F) {k : Nat} (hk : k < m.length / 64 + 1) {R : Int → Int → Heap → Prop} (hR : ∀ H', Fr noF H H' → R (valL (chunk m k) : Int) (rk m (64 * k) true : Int) H') : bits_Bits_at.C (some ⟨g, 0, none⟩) (k : Int) H R := by
  apply bits_Bits_at.calls
  unfold bits_Bits_at.W
  refine letV_mk fun H1 h1 => ?_
  have f1 : Fr noF H H1 := by rw [h1]; exact Fr.new _ _ _
  have n1 := new_part h1
  have s1 : Array.size H1 = Array.size H + 1 := by rw [h1]; exact hnew_size
  obtain ⟨lp, lc, hb, _⟩ := h.old f1
  obtain ⟨a, ha, hc⟩ := hb.sl.rd.get (i := k) (v := partV m k) (by
    unfold parts
    rw [List.getElem?_map, List.getElem?_range hk]; rfl)
  refine ⟨_, rfl, _, _, _, (hcell_add hb.blk 0 0).trans rfl, a, ha, by omega, by omega, _, by rw [Int.toNat_natCast]; exact hc, _, _, true, .inl ⟨rfl, rfl⟩, letV_mk fun H2 h2 => ?_⟩
  have f2 : Fr noF H1 H2 := by rw [h2]; exact Fr.new _ _ _
  have n2 := new_part h2
  have s2 : Array.size H2 = Array.size H1 + 1 := by rw [h2]; exact hnew_size
  refine ⟨⟨_, (hcell_add n2 0 0).trans rfl⟩, hfrozen_add n2 0 0, letV_mk fun H4 h4 => ?_⟩
  have n4 := set_blk h4 n2
  have f4 := set_fr h4
  refine ⟨⟨_, (hcell_add n4 0 1).trans rfl⟩, hfrozen_add n4 0 1, letV_mk fun H5 h5 => ?_⟩
  have n5 := set_blk h5 n4
  have f5 := set_fr h5
  have f25 : Fr noF H1 H5 := (f2.trans f4 fun k hk => .inr (by omega)).trans f5 fun k hk => .inr (by omega)
  have m5 := f25.blk n1 fun h => h
  refine ⟨_, (hcell_add n5 0 0).trans rfl, _, (hcell_add n5 0 1).trans rfl, ⟨_, (hcell_add m5 0 0).trans rfl⟩, hfrozen_add m5 0 0, letV_mk fun H7 h7 => ?_⟩
  have n7 := set_blk h7 m5
  have f7 := set_fr h7
  refine ⟨⟨_, (hcell_add n7 0 1).trans rfl⟩, hfrozen_add n7 0 1, letV_mk fun H8 h8 => ?_⟩
  have n8 := set_blk h8 n7
  have f8 := set_fr h8
  have f18 : Fr noF H H8 := ((f1.trans0 f25).trans f7 fun k hk => .inr (by omega)).trans f8 fun k hk => .inr (by omega)
  exact ⟨_, (hcell_add n8 0 0).trans rfl, _, (hcell_add n8 0 1).trans rfl, hR H8 f18⟩
theorem valL_chunk_lt (m : List Bool) (j : Nat) : valL (chunk m j) < 2 ^ 64 :=
  Nat.lt_of_lt_of_le (valL_lt _) (Nat.pow_le_pow_right (by decide) (by rw [chunk_len]; omega))
theorem Bits_Rank_spec (h : Bits H g m F) (k : Int) (bit : Bool) {R : Int → Heap → Prop} (hR : ∀ H', Fr noF H H' → R (rk m k.toNat bit : Int) H') : bits_Bits_Rank.C (some ⟨g, 0, none⟩) k bit H R := by
  apply bits_Bits_Rank.calls
  unfold bits_Bits_Rank.W
  refine Bits_Len_spec h (letV_mk fun k1 hk1 => ?_)
  have hfew := h.few
  obtain ⟨c, hc, hcl, hrk⟩ : ∃ c : Nat, k1 = (c : Int) ∧ c ≤ m.length ∧ rk m k.toNat bit = rk m c bit := by
    rcases Nat.le_total k.toNat m.length with h | h
    · exact ⟨k.toNat, by omega, h, rfl⟩
    · exact ⟨m.length, by omega, Nat.le_refl _, by rw [rk_all m h, rk_all m (Nat.le_refl _)]⟩
  rw [hrk] at hR
  subst hc
  clear hk1 hrk
  refine brW_dec (fun h0 => ?_) (fun h0 => ?_)
  · have : c = 0 := by omega
    subst this
    exact hR H (Fr.refl _ _)
  · refine ⟨by decide, ?_⟩
    rw [show Int.tdiv (c : Int) 64 = ((c / 64 : Nat) : Int) from rfl, wrap_i64 (by omega) (by omega)]
    refine Bits_at_spec h (by omega) fun H2 f2 => letV_mk fun H3 h3 => ?_
    have f3 : Fr noF H2 H3 := by rw [h3]; exact Fr.new _ _ _
    have n3 := new_part h3
    refine ⟨⟨_, (hcell_add n3 0 0).trans rfl⟩, hfrozen_add n3 0 0, letV_mk fun H5 h5 => ?_⟩
    have n5 := set_blk h5 n3
    have f5 := set_fr h5
    refine ⟨⟨_, (hcell_add n5 0 1).trans rfl⟩, hfrozen_add n5 0 1, letV_mk fun H6 h6 => ?_⟩
    have n6 := set_blk h6 n5
    have f6 := set_fr h6
    have fr : Fr noF H H6 := ((f2.trans0 f3).trans f5 fun k hk => .inr (by have := f2.size; omega)).trans f6 fun k hk => .inr (by have := f2.size; omega)
    refine ⟨_, (hcell_add n6 0 1).trans rfl, _, (hcell_add n6 0 0).trans rfl, by decide, ?_⟩
    have hr : c % 64 < 64 := Nat.mod_lt _ (by decide)
    rw [show Int.tmod (c : Int) 64 = ((c % 64 : Nat) : Int) from rfl, wrap_natlt (by omega)]
    refine ⟨by omega, ?_⟩
    have hp2 : 2 ^ (c % 64) < 2 ^ 64 := Nat.pow_lt_pow_right (by decide) hr
    have hp0 : 0 < 2 ^ (c % 64) := Nat.pow_pos (by decide)
    rw [show (1 : Int) = ((1 : Nat) : Int) from rfl, shlW_nat, Nat.shiftLeft_eq, Nat.one_mul, Nat.mod_eq_of_lt hp2, show ((2 ^ (c % 64) : Nat) : Int) - ((1 : Nat) : Int) = ((2 ^ (c % 64) - 1 : Nat) : Int) by omega, wrap_natlt (by omega),
      andW_nat (valL_chunk_lt m _) (by omega), Nat.and_two_pow_sub_one_eq_mod, valL_take]
    have hlt : valL ((chunk m (c / 64)).take (c % 64)) < 2 ^ 64 := Nat.lt_of_lt_of_le (valL_lt _) (Nat.pow_le_pow_right (by decide) (by simp; omega))
    refine OnesCount64_spec hlt ?_
    rw [pop_valL (by simp; omega)]
    refine ⟨⟨_, (hcell_add n6 0 1).trans rfl, rfl⟩, letV_mk fun n8 hn8 => ?_⟩
    have hce : c = 64 * (c / 64) + c % 64 := by omega
    have hrt := rk_chunk m (c / 64) (c % 64) (by omega) true
    rw [← hce] at hrt
    have hle := rk_le m c true
    have hn8 : n8 = (rk m c true : Int) := by
      rw [hn8, ← Int.natCast_add, ← hrt, wrap_i64 (by omega) (by omega)]
    subst hn8
    refine joinW_thru ?_
    refine brW_mk (fun hb => ?_) (fun hb => ?_)
    · have hb : bit = false := by simpa using hb
      subst hb
      refine letV_mk fun n8 hn8 => ?_
      have hbo := rk_both m c hcl
      have : n8 = (rk m c false : Int) := by rw [hn8, wrap_i64 (by omega) (by omega)]; omega
      rw [this]
      exact hR H6 fr
    · have hb : bit = true := by simpa using hb
      subst hb
      exact hR H6 fr
theorem Bits_Get_spec (h : Bits H g m F) (n : Int) {R : Bool → Int → Heap → Prop} (h1 : ∀ (k : Nat) (hk : k < m.length) H', n = (k : Int) → Fr noF H H' → R m[k] 0 H') (h2 : (n < 0 ∨ (m.length : Int) ≤ n) → R false 4 H) : bits_Bits_Get.C (some ⟨g, 0, none⟩) n H R := by
  apply bits_Bits_Get.calls
  unfold bits_Bits_Get.W
  refine joinW_thru (joinW_thru ?_)
  refine brW_dec (fun hn => brW_true rfl (h2 (.inl hn))) (fun hn => ?_)
  refine Bits_Len_spec h ?_
  refine brW_dec (fun hl => h2 (.inr hl)) (fun hl => ?_)
  have hfew := h.few
  obtain ⟨k, rfl⟩ : ∃ k : Nat, n = (k : Int) := ⟨n.toNat, by omega⟩
  have hk : k < m.length := by omega
  refine ⟨by decide, ?_⟩
  rw [show Int.tdiv (k : Int) 64 = ((k / 64 : Nat) : Int) from rfl, wrap_i64 (by omega) (by omega)]
  refine Bits_at_spec h (by omega) fun H4 f4 => ⟨by decide, ?_⟩
  have hr : k % 64 < 64 := Nat.mod_lt _ (by decide)
  rw [show Int.tmod (k : Int) 64 = ((k % 64 : Nat) : Int) from rfl, wrap_natlt (by omega)]
  refine ⟨by omega, ?_⟩
  have hv := valL_chunk_lt m (k / 64)
  rw [shrW_nat hv, show (1 : Int) = ((1 : Nat) : Int) from rfl, andW_nat (shr_lt hv _) (by decide), Nat.and_one_is_mod]
  have hcl : k % 64 < (chunk m (k / 64)).length := by rw [chunk_len]; omega
  obtain ⟨hh, hcg⟩ := chunk_get hcl
  have e : decide (((valL (chunk m (k / 64)) >>> (k % 64) % 2 : Nat) : Int) = ((1 : Nat) : Int)) = m[k] := by
    have h1 := valL_testBit (chunk m (k / 64)) (k % 64)
    rw [Nat.testBit_eq_decide_div_mod_eq, ← Nat.shiftRight_eq_div_pow, List.getD_eq_getElem?_getD, List.getElem?_eq_getElem hcl] at h1
    have h1 : decide (valL (chunk m (k / 64)) >>> (k % 64) % 2 = 1) = (chunk m (k / 64))[k % 64] := h1
    rw [hcg] at h1
    have h2 : m[64 * (k / 64) + k % 64] = m[k] := by congr 1; omega
    rw [h2] at h1
    rw [← h1, Bool.eq_iff_iff]
    simp only [decide_eq_true_eq]
    omega
  rw [e]
  exact h1 k hk H4 rfl f4
end
end Go.Proofs.YtmijfoikdjcmlaaDoor
