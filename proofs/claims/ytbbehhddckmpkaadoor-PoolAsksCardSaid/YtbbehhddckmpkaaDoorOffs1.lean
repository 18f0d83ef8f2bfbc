import Derived.Test.YtbbehhddckmpkaaDoorOffsP
import Derived.Test.YtbbehhddckmpkaaDoorBits4
import Derived.Test.YtbbehhddckmpkaaDoorInts2
/-! Package offs: its calls. -/
namespace Go.Proofs.YtbbehhddckmpkaaDoor
open Go.Ev
set_option linter.unusedVariables false

abbrev i64V (n : Nat) : Value := .int .i64 (n : Int)
theorem rd_i64 {H : Heap} {l : List Nat} {p : Option Addr} {n : Nat} (h : Rd H (l.map i64V) p n) {i : Nat} (hi : i < n) : ∃ (h2 : i < l.length) (a : Addr), p = some a ∧ hcell H (a.add i) = some (.int .i64 (l[i] : Int)) := by
  have hl : l.length = n := by have := h.1; simpa using this
  have h2 : i < l.length := by omega
  obtain ⟨a, ha, hc⟩ := h.get (i := i) (v := i64V l[i]) (by rw [List.getElem?_map, List.getElem?_eq_getElem h2]; rfl)
  exact ⟨h2, a, ha, hc⟩
def lastN (l : List Nat) : Nat := l.getD (l.length - 1) 0
def kOf (l : List Nat) : Nat := if l.length = 0 then 0 else lowK (lastN l) l.length
def highOf (l : List Nat) : Nat := lastN l >>> kOf l
def upL (l : List Nat) : List Bool := upN l (kOf l) (l.length + highOf l + 1) l.length
def lowL (l : List Nat) : List Nat := l.map (· % 2 ^ kOf l)
theorem lastN_nil : lastN [] = 0 := rfl
theorem le_last {l : List Nat} (hr : Rises l) {i : Nat} (hi : i < l.length) : l[i] ≤ lastN l := by
  unfold lastN
  rw [List.getD_eq_getElem?_getD, List.getElem?_eq_getElem (by omega)]
  exact hr i (l.length - 1) hi (by omega) (by omega)
theorem high_le (l : List Nat) : highOf l ≤ 2 * l.length := by
  unfold highOf kOf
  split
  · rename_i h
    have : l = [] := List.eq_nil_of_length_eq_zero h
    subst this
    decide
  · exact Nat.le_of_lt (high_lt (by omega))
theorem up_place {l : List Nat} (hr : Rises l) : ∀ i (hi : i < l.length), l[i] >>> kOf l + i < l.length + highOf l + 1 := by
  intro i hi
  have := shr_mono (le_last hr hi) (kOf l)
  unfold highOf
  omega
theorem upL_len (l : List Nat) : (upL l).length = l.length + highOf l + 1 := upN_len _ _ _ _
theorem kOf_le {l : List Nat} (h : lastN l ≤ 8388608) : kOf l ≤ 23 := by
  unfold kOf
  split
  · omega
  · unfold lowK
    have : blen (lastN l / l.length) ≤ 24 := blen_le.2 (Nat.lt_of_le_of_lt (Nat.div_le_self _ _) (by omega))
    omega
structure OffsAt (H : Heap) (g : Nat) (l : List Nat) (gu gl : Nat) (Fu Fl : Nat → Prop) : Prop where
  blk : H[g]? = some (.cells #[.iface ty_p_bits_Bits (.pointer (some ⟨gu, 0, none⟩)), .iface ty_p_ints_Ints (.pointer (some ⟨gl, 0, none⟩)), .int .i64 (l.length : Int), .int .i64 (kOf l : Int), .int .i64 (highOf l : Int)] ty_offs_Offs (0, 0))
  up : Bits H gu (upL l) Fu
  low : Ints H gl (lowL l) Fl
  rises : Rises l
  last : lastN l ≤ 8388608
  few : l.length ≤ 1048576
def Offs (H : Heap) (g : Nat) (l : List Nat) (F : Nat → Prop) : Prop := ∃ gu gl Fu Fl, OffsAt H g l gu gl Fu Fl ∧ F g ∧ (∀ k, Fu k → F k) ∧ (∀ k, Fl k → F k) ∧ ∀ k, F k → k < Array.size H
theorem Offs.keep {H H' : Heap} {g : Nat} {l : List Nat} {F G : Nat → Prop} (h : Offs H g l F) (hf : Fr G H H') (hd : ∀ k, F k → ¬ G k) : Offs H' g l F := by
  obtain ⟨gu, gl, Fu, Fl, h, h1, h2, h3, h4⟩ := h
  exact ⟨gu, gl, Fu, Fl, ⟨hf.blk h.blk (hd _ h1), h.up.keep hf fun k hk => hd k (h2 k hk), h.low.keep hf fun k hk => hd k (h3 k hk), h.rises, h.last, h.few⟩, h1, h2, h3, fun k hk => Nat.lt_of_lt_of_le (h4 k hk) hf.size⟩
theorem Offs.old {H H' : Heap} {g : Nat} {l : List Nat} {F : Nat → Prop} (h : Offs H g l F) (hf : Fr noF H H') : Offs H' g l F := h.keep hf fun _ _ h => h
section
variable {H : Heap} {g : Nat} {l : List Nat} {F : Nat → Prop}
theorem Offs.few (h : Offs H g l F) : l.length ≤ 1048576 := by obtain ⟨_, _, _, _, h, _⟩ := h; exact h.few
theorem Offs_Len_spec (h : Offs H g l F) {R : Int → Heap → Prop} (hR : R (l.length : Int) H) : offs_Offs_Len.C (some ⟨g, 0, none⟩) H R := by
  obtain ⟨_, _, _, _, h, _⟩ := h
  apply offs_Offs_Len.calls
  unfold offs_Offs_Len.W
  exact brW_false rfl ⟨_, rfl, _, (hcell_add h.blk 0 2).trans rfl, hR⟩
theorem Offs_Len_nil {R : Int → Heap → Prop} (hR : R 0 H) : offs_Offs_Len.C none H R := by
  apply offs_Offs_Len.calls
  unfold offs_Offs_Len.W
  exact brW_true rfl hR
def sizeO (l : List Nat) : Nat := upTo64 (l.length * kOf l) + sizeB (l.length + highOf l + 1)
theorem Offs_Size_spec (h : Offs H g l F) {R : Int → Heap → Prop} (hR : R (sizeO l : Int) H) : offs_Offs_Size.C (some ⟨g, 0, none⟩) H R := by
  obtain ⟨_, _, _, _, h, _⟩ := h
  have hk := kOf_le h.last
  have hh := high_le l
  have hf := h.few
  apply offs_Offs_Size.calls
  unfold offs_Offs_Size.W
  have c2 : hcell H ((⟨g, 0, none⟩ : Addr).add 2) = some (.int .i64 (l.length : Int)) := (hcell_add h.blk 0 2).trans rfl
  have c3 : hcell H ((⟨g, 0, none⟩ : Addr).add 3) = some (.int .i64 (kOf l : Int)) := (hcell_add h.blk 0 3).trans rfl
  have c4 : hcell H ((⟨g, 0, none⟩ : Addr).add 4) = some (.int .i64 (highOf l : Int)) := (hcell_add h.blk 0 4).trans rfl
  refine brW_false rfl ⟨_, rfl, _, c2, _, rfl, _, c3, by decide, _, rfl, _, c2, _, rfl, _, c4, ?_⟩
  rw [wrap_i64 (n := (l.length : Int) + (highOf l : Int)) (by omega) (by omega), wrap_i64 (n := (l.length : Int) + (highOf l : Int) + 1) (by omega) (by omega), show (l.length : Int) + (highOf l : Int) + 1 = ((l.length + highOf l + 1 : Nat) : Int) by omega]
  refine Bound_spec (by omega) ⟨⟨_, c2, rfl⟩, ⟨_, c3, rfl⟩, letV_mk fun x hx => ?_⟩
  have hpr : l.length * kOf l ≤ 1048576 * 23 := Nat.mul_le_mul hf hk
  have e : x = (sizeO l : Int) := by
    rw [hx, show (l.length : Int) * (kOf l : Int) = ((l.length * kOf l : Nat) : Int) by push_cast; rfl]
    unfold sizeO upTo64 sizeB
    generalize l.length * kOf l = n at hpr ⊢
    generalize hm : l.length + highOf l + 1 = m
    rw [wrap_i64 (n := (n : Int)) (by omega) (by omega), wrap_i64 (n := (n : Int) + 64) (by omega) (by omega), wrap_i64 (n := (n : Int) + 64 - 1) (by omega) (by omega), show (n : Int) + 64 - 1 = ((n + 63 : Nat) : Int) by omega,
      show Int.tdiv ((n + 63 : Nat) : Int) 64 = (((n + 63) / 64 : Nat) : Int) from rfl, wrap_i64 (n := (((n + 63) / 64 : Nat) : Int)) (by omega) (by omega), wrap_i64 (n := (((n + 63) / 64 : Nat) : Int) * 64) (by omega) (by omega), wrap_i64 (by omega) (by omega)]
    omega
  rw [e]
  exact hR
theorem Offs_Get_spec (h : Offs H g l F) (hd : Deb H) (n : Int) {R : Int → Int → Heap → Prop} (h1 : ∀ (k : Nat) (hk : k < l.length) H', n = (k : Int) → Fr noF H H' → R (l[k] : Int) 0 H') (h2 : (n < 0 ∨ (l.length : Int) ≤ n) → R 0 4 H) : offs_Offs_Get.C (some ⟨g, 0, none⟩) n H R := by
  apply offs_Offs_Get.calls
  unfold offs_Offs_Get.W
  refine joinW_thru (joinW_thru ?_)
  refine brW_dec (fun hn => brW_true rfl (h2 (.inl hn))) (fun hn => ?_)
  refine Offs_Len_spec h ?_
  refine brW_dec (fun hl => h2 (.inr hl)) (fun hl => ?_)
  obtain ⟨gu, gl, Fu, Fl, h, _⟩ := h
  obtain ⟨k, rfl⟩ : ∃ k : Nat, n = (k : Int) := ⟨n.toNat, by omega⟩
  have hk : k < l.length := by omega
  have hR := fun H' hf => h1 k hk H' rfl hf
  clear h1 h2
  have hkl := kOf_le h.last
  have hfew := h.few
  refine ⟨_, rfl, _, (hcell_add h.blk 0 0).trans rfl, _, true, .inl ⟨rfl, rfl⟩, _, rfl, _, (hcell_add h.blk 0 1).trans rfl, _, true, .inl ⟨rfl, rfl⟩, ?_⟩
  refine joinW_thru (joinW_thru (brW_false rfl (brW_false rfl ?_)))
  refine Ints_Get_spec h.low k (fun j hj he => ?_) (fun hh => by rw [lowL, List.length_map] at hh; omega)
  have : j = k := by omega
  subst this
  have c3 : hcell H ((⟨g, 0, none⟩ : Addr).add 3) = some (.int .i64 (kOf l : Int)) := (hcell_add h.blk 0 3).trans rfl
  refine ⟨_, rfl, _, c3, ?_⟩
  have hup := up_place h.rises
  obtain ⟨u1, u2⟩ := upN_rank h.rises hup l.length (Nat.le_refl _) j hk
  have en : l.getD j 0 = l[j] := by rw [List.getD_eq_getElem?_getD, List.getElem?_eq_getElem hk]; rfl
  rw [en] at u1 u2
  have hpl : l[j] >>> kOf l + j < (upL l).length := by rw [upL_len]; exact hup j hk
  have u1' : (upL l)[l[j] >>> kOf l + j] = true := by
    rw [List.getD_eq_getElem?_getD] at u1
    have : (upL l)[l[j] >>> kOf l + j]? = some ((upL l)[l[j] >>> kOf l + j]) := List.getElem?_eq_getElem hpl
    have e2 : (upN l (kOf l) (l.length + highOf l + 1) l.length)[l[j] >>> kOf l + j]? = some ((upL l)[l[j] >>> kOf l + j]) := this
    rw [e2] at u1
    exact u1
  have u2' : rk (upL l) (l[j] >>> kOf l + j) true = j := u2
  refine Bits_Select_spec h.up hd _ true (fun q hq H7 hb hr f7 => ?_) (fun H7 hh f7 => ?_)
  · have hqe : q = l[j] >>> kOf l + j := rk_unique hq hpl hb u1' (by omega)
    subst hqe
    have c37 : hcell H7 ((⟨g, 0, none⟩ : Addr).add 3) = some (.int .i64 (kOf l : Int)) := f7.cell c3 fun h => h
    refine ⟨⟨_, c37, rfl⟩, ?_⟩
    rw [wrap_natlt (by omega)]
    refine ⟨by omega, letV_mk fun x hx => ?_⟩
    have hlast := Nat.le_trans (le_last h.rises hk) h.last
    have hsh : l[j] >>> kOf l * 2 ^ kOf l ≤ l[j] := by rw [Nat.shiftRight_eq_div_pow]; exact Nat.div_mul_le_self _ _
    have hsl : l[j] >>> kOf l ≤ l[j] := by rw [Nat.shiftRight_eq_div_pow]; exact Nat.div_le_self _ _
    have hlow : (lowL l)[j] = l[j] % 2 ^ kOf l := by simp [lowL]
    have hml : l[j] % 2 ^ kOf l ≤ l[j] := Nat.mod_le _ _
    have hjp := join_parts l[j] (kOf l)
    have e : x = (l[j] : Int) := by
      rw [hx, hlow, show ((l[j] >>> kOf l + j : Nat) : Int) - (j : Int) = ((l[j] >>> kOf l : Nat) : Int) by omega, wrap_i64n (by omega), shl_i64 (by omega) (by omega), wrap_i64n (by omega), or_i64 (by omega) (by omega), hjp]
    rw [e]
    exact hR H7 f7
  · exfalso
    have := rk_lt_count hpl u1'
    omega
end
end Go.Proofs.YtbbehhddckmpkaaDoor
