import Derived.Test.YtojhnakgmihedaaDoorEvTac
import Derived.Below
import Derived.SliceStrings
import Derived.ChangeSlices
import Derived.Deep.Grids
import Derived.SizedLaws
/-! From a call over the heap to a row. -/
namespace Go.Ev
open Go.RowKit
theorem calls_true {P : Program} {f : FuncId} {args : Array Value} {w : World} (h : Go.Ev.Fn P f args w.heap fun v H' => ∃ b : Bool, v = .bool b ∧ b = true ∧ Fr noF w.heap H') :
    Calls P f args w fun e w' => e = .returned (.bool true) ∧ Below w.heap.size w w' := by
  refine (h w rfl).mono ?_
  rintro e w' ⟨v, rfl, hs, b, rfl, rfl, hf⟩
  exact ⟨rfl, hs.os, hs.tape, hs.output, hf.size, fun k hk => hf.keep k hk (fun h => h)⟩
theorem rd_strings {w : World} {a : Addr} {len : Nat} {ss : List ByteArray} (hl : len ≤ ss.length) (hc : ∀ i, i < ss.length → w.cell? (a.add i) = some (.string (ss.getD i ByteArray.empty))) :
    Rd w.heap ((ss.take len).map Value.string) (some a) len := by
  refine ⟨by simp; omega, fun i hi => ⟨a, rfl, ?_⟩⟩
  have := hc i (by omega)
  rw [cell?_eq] at this
  rw [this, List.getElem?_map, List.getElem?_take_of_lt hi, List.getD_eq_getElem?_getD, List.getElem?_eq_getElem (by omega)]
  rfl
theorem rd_ints {w : World} {a : Addr} {len : Nat} {k : IntKind} {zs : List Int} (hl : len ≤ zs.length) (hc : ∀ i, i < zs.length → w.cell? (a.add i) = some (.int k (zs.getD i 0))) :
    Rd w.heap ((zs.take len).map (Value.int k)) (some a) len := by
  refine ⟨by simp; omega, fun i hi => ⟨a, rfl, ?_⟩⟩
  have := hc i (by omega)
  rw [cell?_eq] at this
  rw [this, List.getElem?_map, List.getElem?_take_of_lt hi, List.getD_eq_getElem?_getD, List.getElem?_eq_getElem (by omega)]
  rfl
theorem rd_bools {w : World} {a : Addr} {len cap : Nat} {B : Nat → Bool} (hl : len ≤ cap) (hc : ∀ i, i < cap → w.cell? (a.add i) = some (.bool (B i))) :
    Rd w.heap (((List.range len).map B).map Value.bool) (some a) len := by
  refine ⟨by simp, fun i hi => ⟨a, rfl, ?_⟩⟩
  have := hc i (by omega)
  rw [cell?_eq] at this
  rw [this, List.getElem?_map, List.getElem?_map, List.getElem?_range hi]
  rfl
theorem rd_none (H : Heap) : Rd H [] none 0 := ⟨rfl, fun i h => absurd h (by omega)⟩
end Go.Ev
