import Derived.Test.YtmijfoikdjcmlaaDoorEvPack
import Derived.Test.YtmijfoikdjcmlaaDoorMA1
/-! Package ints: its calls. -/
namespace Go.Proofs.YtmijfoikdjcmlaaDoor
open Go.Ev
set_option linter.unusedVariables false

abbrev u64V (n : Nat) : Value := .int .u64 (n : Int)
abbrev lenTab : ByteArray := ⟨#[0, 1, 2, 2, 3, 3, 3, 3, 4, 4, 4, 4, 4, 4, 4, 4, 5, 5, 5, 5, 5, 5, 5, 5, 5, 5, 5, 5, 5, 5, 5, 5, 6, 6, 6, 6, 6, 6, 6, 6, 6, 6, 6, 6, 6, 6, 6, 6, 6, 6, 6, 6, 6, 6, 6, 6, 6, 6, 6, 6, 6, 6, 6, 6, 7, 7, 7, 7, 7, 7, 7, 7, 7, 7, 7, 7, 7, 7, 7, 7, 7, 7, 7, 7, 7, 7, 7, 7, 7, 7, 7, 7, 7, 7, 7, 7, 7, 7, 7, 7, 7, 7, 7, 7, 7, 7, 7, 7, 7, 7, 7, 7, 7, 7, 7, 7, 7, 7, 7, 7, 7, 7, 7, 7, 7, 7, 7, 7, 8, 8, 8, 8, 8, 8, 8, 8, 8, 8, 8, 8, 8, 8, 8, 8, 8, 8, 8, 8, 8, 8, 8, 8, 8, 8, 8, 8, 8, 8, 8, 8, 8, 8, 8, 8, 8, 8, 8, 8, 8, 8, 8, 8, 8, 8, 8, 8, 8, 8, 8, 8, 8, 8, 8, 8, 8, 8, 8, 8, 8, 8, 8, 8, 8, 8, 8, 8, 8, 8, 8, 8, 8, 8, 8, 8, 8, 8, 8, 8, 8, 8, 8, 8, 8, 8, 8, 8, 8, 8, 8, 8, 8, 8, 8, 8, 8, 8, 8, 8, 8, 8, 8, 8, 8, 8, 8, 8, 8, 8, 8, 8, 8, 8, 8, 8, 8, 8, 8, 8, 8, 8, 8, 8, 8, 8, 8, 8]⟩
theorem lenTab_size : lenTab.size = 256 := by decide +kernel
theorem lenTab_blen : ∀ x : Nat, x < 256 → bt lenTab (x : Int) = (blen x : Int) := by decide +kernel
theorem rd_u64 {H : Heap} {l : List Nat} {p : Option Addr} {n : Nat} (h : Rd H (l.map u64V) p n) {i : Nat} (hi : i < n) : ∃ (h2 : i < l.length) (a : Addr), p = some a ∧ hcell H (a.add i) = some (.int .u64 (l[i] : Int)) := by
  have hl : l.length = n := by have := h.1; simpa using this
  have h2 : i < l.length := by omega
  obtain ⟨a, ha, hc⟩ := h.get (i := i) (v := u64V l[i]) (by rw [List.getElem?_map, List.getElem?_eq_getElem h2]; rfl)
  exact ⟨h2, a, ha, hc⟩
section
variable {H : Heap} {g : Nat} {l : List Nat} {F : Nat → Prop}
/-- So many bits, brought up to 64s. -/
def upTo64 (n : Nat) : Nat := (n + 63) / 64 * 64
end
end Go.Proofs.YtmijfoikdjcmlaaDoor
