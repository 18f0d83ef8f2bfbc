import Derived.Test.YtkjgbophokcdbaaDoorEvPack
import Derived.Test.YtkjgbophokcdbaaDoorMA1
/-! Package ints: its calls. -/
namespace Go.Proofs.YtkjgbophokcdbaaDoor
open Go.Ev
set_option linter.unusedVariables false

abbrev u64V (n : Nat) : Value := .int .u64 (n : Int)
abbrev lenTab : ByteArray := ⟨#[0, 1, 2, 2, 3, 3, 3, 3, 4, 4, 4, 4, 4, 4, 4, 4, 5, 5, 5, 5, 5, 5, 5, 5, 5, 5, 5, 5, 5, 5, 5, 5, 6, 6, 6, 6, 6, 6, 6, 6, 6, 6, 6, 6, 6, 6, 6, 6, 6, 6, 6, 6, 6, 6, 6, 6, 6, 6, 6, 6, 6, 6, 6, 6, 7, 7, 7, 7, 7, 7, 7, 7, 7, 7, 7, 7, 7, 7, 7, 7, 7, 7, 7, 7, 7, 7, 7, 7, 7, 7, 7, 7, 7, 7, 7, 7, 7, 7, 7, 7, 7, 7, 7, 7, 7, 7, 7, 7, 7, 7, 7, 7, 7, 7, 7, 7, 7, 7, 7, 7, 7, 7, 7, 7, 7, 7, 7, 7, 8, 8, 8, 8, 8, 8, 8, 8, 8, 8, 8, 8, 8, 8, 8, 8, 8, 8, 8, 8, 8, 8, 8, 8, 8, 8, 8, 8, 8, 8, 8, 8, 8, 8, 8, 8, 8, 8, 8, 8, 8, 8, 8, 8, 8, 8, 8, 8, 8, 8, 8, 8, 8, 8, 8, 8, 8, 8, 8, 8, 8, 8, 8, 8, 8, 8, 8, 8, 8, 8, 8, 8, 8, 8, 8, 8, 8, 8, 8, 8, 8, 8, 8, 8, 8, 8, 8, 8, 8, 8, 8, 8, 8, 8, 8, 8, 8, 8, 8, 8, 8, 8, 8, 8, 8, 8, 8, 8, 8, 8, 8, 8, 8, 8, 8, 8, 8, 8, 8, 8, 8, 8, 8, 8, 8, 8, 8, 8]⟩
theorem lenTab_size : lenTab.size = 256 := by decide +kernel
theorem lenTab_blen : ∀ x : Nat, x < 256 → bt lenTab (x : Int) = (blen x : Int) := by decide +kernel
theorem Len64_spec {n : Nat} (hn : n < 2 ^ 64) {H : Heap} {R : Int → Heap → Prop} (hR : R (blen n : Int) H) : bits_Len64.C (n : Int) H R := by
  apply bits_Len64.calls
  unfold bits_Len64.W
  have h64 := blen_64 hn
  refine joinW_mk (fun q H' => H' = H ∧ ∃ m c : Nat, q.1 = (m : Int) ∧ q.2.1 = (c : Int) ∧ m < 2 ^ 32 ∧ blen n = c + blen m) ?_ ?_
  · refine brW_dec (fun h => ⟨by decide, letV_mk fun x hx => ?_⟩) (fun h => ⟨rfl, n, 0, rfl, rfl, by omega, by omega⟩)
    refine ⟨rfl, n >>> 32, 32, ?_, rfl, ?_, ?_⟩
    · show x = _
      rw [hx, show (32 : Int) = ((32 : Nat) : Int) from rfl, shrW_nat hn]
    · rw [Nat.shiftRight_eq_div_pow]; omega
    · rw [blen_shr]
      have : ¬ blen n ≤ 32 := fun hh => by have := blen_le.1 hh; omega
      omega
  rintro ⟨x, y, _⟩ H' ⟨rfl, m, c, hx, hy, hm, he⟩
  simp only at hx hy
  subst hx hy
  dsimp only
  refine joinW_mk (fun q H'' => H'' = H' ∧ ∃ m c : Nat, q.1 = (m : Int) ∧ q.2.1 = (c : Int) ∧ m < 2 ^ 16 ∧ blen n = c + blen m) ?_ ?_
  · refine brW_dec (fun h => ⟨by decide, letV_mk fun x hx => letV_mk fun y hy => ?_⟩) (fun h => ⟨rfl, m, c, rfl, rfl, by omega, by omega⟩)
    refine ⟨rfl, m >>> 16, c + 16, ?_, ?_, ?_, ?_⟩
    · show x = _
      rw [hx, show (16 : Int) = ((16 : Nat) : Int) from rfl, shrW_nat (by omega)]
    · show y = _
      rw [hy, wrap_i64 (by omega) (by omega)]; rfl
    · rw [Nat.shiftRight_eq_div_pow]; omega
    · rw [blen_shr]
      have : ¬ blen m ≤ 16 := fun hh => by have := blen_le.1 hh; omega
      omega
  clear hm he
  rintro ⟨x, y, _⟩ H'' ⟨rfl, m, c, hx, hy, hm, he⟩
  simp only at hx hy
  subst hx hy
  dsimp only
  refine joinW_mk (fun q H' => H' = H'' ∧ ∃ m c : Nat, q.1 = (m : Int) ∧ q.2.1 = (c : Int) ∧ m < 2 ^ 8 ∧ blen n = c + blen m) ?_ ?_
  · refine brW_dec (fun h => ⟨by decide, letV_mk fun x hx => letV_mk fun y hy => ?_⟩) (fun h => ⟨rfl, m, c, rfl, rfl, by omega, by omega⟩)
    refine ⟨rfl, m >>> 8, c + 8, ?_, ?_, ?_, ?_⟩
    · show x = _
      rw [hx, show (8 : Int) = ((8 : Nat) : Int) from rfl, shrW_nat (by omega)]
    · show y = _
      rw [hy, wrap_i64 (by omega) (by omega)]; rfl
    · rw [Nat.shiftRight_eq_div_pow]; omega
    · rw [blen_shr]
      have : ¬ blen m ≤ 8 := fun hh => by have := blen_le.1 hh; omega
      omega
  clear hm he
  rintro ⟨x, y, _⟩ H' ⟨rfl, m, c, hx, hy, hm, he⟩
  simp only at hx hy
  subst hx hy
  dsimp only
  have hm : m < 256 := by omega
  rw [wrap_u8 (by omega) (by omega)]
  refine ⟨by omega, by show (m : Int) < (lenTab.size : Int); rw [lenTab_size]; omega, letV_mk fun z hz => ?_⟩
  have hz : z = IntKind.i64.wrap ((c : Int) + IntKind.i64.wrap (bt lenTab (m : Int))) := hz
  rw [lenTab_blen m hm, wrap_i64 (n := (blen m : Int)) (by omega) (by omega), wrap_i64 (by omega) (by omega)] at hz
  rw [hz, show (c : Int) + (blen m : Int) = (blen n : Int) by omega]
  exact hR
theorem Width_spec {n : Nat} (hn : n < 2 ^ 64) {H : Heap} {R : Int → Heap → Prop} (hR : R (blen n : Int) H) : ints_Width.C (n : Int) H R := by
  apply ints_Width.calls
  unfold ints_Width.W
  exact Len64_spec hn hR
theorem rd_u64 {H : Heap} {l : List Nat} {p : Option Addr} {n : Nat} (h : Rd H (l.map u64V) p n) {i : Nat} (hi : i < n) : ∃ (h2 : i < l.length) (a : Addr), p = some a ∧ hcell H (a.add i) = some (.int .u64 (l[i] : Int)) := by
  have hl : l.length = n := by have := h.1; simpa using this
  have h2 : i < l.length := by omega
  obtain ⟨a, ha, hc⟩ := h.get (i := i) (v := u64V l[i]) (by rw [List.getElem?_map, List.getElem?_eq_getElem h2]; rfl)
  exact ⟨h2, a, ha, hc⟩
section
variable {H : Heap} {g : Nat} {l : List Nat} {F : Nat → Prop}
/-- So many bits, brought up to 64s. -/
def upTo64 (n : Nat) : Nat := (n + 63) / 64 * 64
end
end Go.Proofs.YtkjgbophokcdbaaDoor
