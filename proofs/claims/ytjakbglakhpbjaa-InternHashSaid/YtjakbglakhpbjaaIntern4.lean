import Derived.Test.YtjakbglakhpbjaaIntern3
/-! The laws of package intern. -/
namespace Go.Proofs.Ytjakbglakhpbjaa
open Go.Ev
set_option linter.unusedVariables false

theorem InternHash_fn (H : Heap) (s : ByteArray) (hs : s.size ≤ 140737488351232) (c : Int) (hc : (Lit.int .u8 c).wf = true) : brackenlaw9_InternHash.C s c H fun b H' => b = true ∧ Fr noF H H' := by
  apply brackenlaw9_InternHash.calls
  unfold brackenlaw9_InternHash.W
  have hc0 : 0 ≤ c ∧ c ≤ 255 := by
    simp [Lit.wf, IntKind.min, IntKind.max, IntKind.signed, IntKind.bits] at hc
    omega
  refine brW_dec (fun _ => told_spec fun H' f => ⟨rfl, f⟩) (fun hle => ?_)
  refine hash_spec (by omega) ?_
  refine told_spec fun H3 f3 => ?_
  refine brW_true rfl (letV_mk fun H4 h4 => ?_)
  have f4 : Fr noF H H4 := f3.trans0 (by rw [h4]; exact Fr.new _ _ _)
  have hcn : ((UInt8.ofNat c.toNat).toNat : Int) = c := by
    have : c.toNat < 256 := by omega
    simp
    omega
  refine ⟨⟨#[UInt8.ofNat c.toNat]⟩, ⟨rfl, ?_⟩, by show s.size + 1 ≤ _; omega, ?_⟩
  · intro j v hj
    rw [hcell_add (by rw [h4]; exact hnew_same)]
    unfold bytesCells at hj
    simp only [List.map_cons, List.map_nil, hcn] at hj
    rw [Nat.zero_add]
    simpa using hj
  · refine hash_spec (by rw [ByteArray.size_append]; show s.size + 1 ≤ _; omega) ?_
    have e : hashS (s ++ ⟨#[UInt8.ofNat c.toNat]⟩) = IntKind.u64.wrap ((xorW .u64 (hashS s) (IntKind.u64.wrap c)) * 1099511628211) := by
      unfold hashS hashL
      have : (s ++ (⟨#[UInt8.ofNat c.toNat]⟩ : ByteArray)).data.toList = s.data.toList ++ [UInt8.ofNat c.toNat] := by
        rw [ByteArray.data_append]
        simp
      rw [this, List.foldl_append]
      show IntKind.u64.wrap ((xorW .u64 _ (IntKind.u64.wrap (((UInt8.ofNat c.toNat).toNat : Nat) : Int))) * 1099511628211) = _
      rw [hcn]
    refine brW_pos e ?_
    refine brW_dec (fun _ => ⟨rfl, f4⟩) (fun hne => ?_)
    have : s = (⟨#[]⟩ : ByteArray) := Classical.byContradiction hne
    subst this
    exact ⟨by decide, f4⟩
end Go.Proofs.Ytjakbglakhpbjaa
