import Derived.Test.YtmijfoikdjcmlaaDoorInts1
/-! Package ints: keeping numbers; what the document does. -/
namespace Go.Proofs.YtmijfoikdjcmlaaDoor
open Go.Ev
set_option linter.unusedVariables false

theorem set_u64 (ws : List Nat) (i v : Nat) : (ws.map u64V).set i (u64V v) = (ws.set i v).map u64V := by rw [List.map_set]
theorem nats_rd {H : Heap} {zs : List Int} {p : Option Addr} {n : Nat} (h : Rd H (zs.map (Value.int .u64)) p n) (hw : ∀ z ∈ zs, (Lit.int .u64 z).wf = true) : ∃ l : List Nat, Rd H (l.map u64V) p n ∧ All64 l := by
  have hz : ∀ z ∈ zs, 0 ≤ z ∧ z < 2 ^ 64 := by
    intro z hm
    have := hw z hm
    simp [Lit.wf, IntKind.min, IntKind.max, IntKind.signed, IntKind.bits] at this
    omega
  refine ⟨zs.map Int.toNat, ?_, ?_⟩
  · have e : (zs.map Int.toNat).map u64V = zs.map (Value.int .u64) := by
      rw [List.map_map]
      apply List.map_congr_left
      intro z hm
      have := hz z hm
      show Value.int .u64 ((z.toNat : Nat) : Int) = _
      congr 1
      omega
    rw [e]
    exact h
  · intro x hx
    rw [List.mem_map] at hx
    obtain ⟨z, hm, rfl⟩ := hx
    have := hz z hm
    omega
end Go.Proofs.YtmijfoikdjcmlaaDoor
