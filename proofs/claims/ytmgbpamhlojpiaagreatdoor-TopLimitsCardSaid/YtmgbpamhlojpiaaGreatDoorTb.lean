/- The functions of one letter, and told, are run once. -/
import Derived.Test.YtmgbpamhlojpiaaGreatDoorTa
set_option linter.unusedVariables false
/-! Functions of one letter: what they come to. -/
namespace Go.X
open Go.Ex Go.Proofs
theorem rStart : allB 128 (fun r => cfB 238 [.int .i32 (.ofNat r)] (hpG .lf 0 hiB) (ranTo .lf (.bool (mStart.testBit r)))) = true := by kernel_rfl
theorem rPart : allB 128 (fun r => cfB 174 [.int .i32 (.ofNat r)] (hpG .lf 0 hiB) (ranTo .lf (.bool (mPart.testBit r)))) = true := by kernel_rfl
end Go.X
/-! What is known of the program's functions, ahead of the documents. -/
namespace Go.X
open Go.Ex Go.Proofs
theorem char_is (M : Nat) : RuneIs Tryz.prog M 52 hiB mChar := ⟨cfB, cfB_ok M, fun r hr => allB_out rChar r hr⟩
theorem start_is (M : Nat) : RuneIs Tryz.prog M 238 hiB mStart := ⟨cfB, cfB_ok M, fun r hr => allB_out rStart r hr⟩
theorem part_is (M : Nat) : RuneIs Tryz.prog M 174 hiB mPart := ⟨cfB, cfB_ok M, fun r hr => allB_out rPart r hr⟩
theorem natR_ok (M : Nat) : NatOk Tryz.prog M natR :=
  natDef_ok prog_ok <| natRange_ok prog_ok <| natIf_ok (fun _ _ _ _ _ _ _ r hd hh => xRune_out (char_is M) r hd hh) <| natIf_ok (fun _ _ _ _ _ _ _ r hd hh => xRune_out (start_is M) r hd hh) <|
    natIf_ok (fun _ _ _ _ _ _ _ r hd hh => xRune_out (part_is M) r hd hh) (natB_ok M)
theorem cfR_ok (M : Nat) : CallOk Tryz.prog M cfR := xF_sound prog_ok (natR_ok M) 400
theorem told_run : cfR 6 [] (hpG G 0 hiB) (ranTo G (.bool true)) = true := by kernel_rfl
theorem G_flat : trE G G = true := by kernel_rfl
theorem xTold_out (M : Nat) (ρ : Rho) (U : Un) (h : Hp) (H : Heap) (vs : List V) (xs : List Value) (K : V → Hp → Bool) (r : R ρ M U h H) (hd : DnL ρ M vs xs) (hh : xTold vs h K = true) : CW Tryz.prog 6 xs H (Af ρ M U K) := by
  unfold xTold at hh
  split at hh
  · have h2 := bif_t hh
    clear hh
    obtain ⟨hc, hh⟩ := h2
    obtain ⟨h1, h2⟩ := and_t hc
    have e1 := (trE_out h1).1
    refine memo_cw (cfR_ok M) told_run G_flat (by simp) r hd (fun q o hq => ?_) (Nat.zero_le _) (Nat.le_of_ble_eq_true h2) hh
    rw [← look_gPart, e1]
    exact hq
  · cases hh
theorem natT_ok (M : Nat) : NatOk Tryz.prog M natT := natIf_ok (fun ρ U h H vs xs K r hd hh => xTold_out M ρ U h H vs xs K r hd hh) (natR_ok M)
theorem cfT_ok (M : Nat) : CallOk Tryz.prog M cfT := xF_sound prog_ok (natT_ok M) 400
end Go.X
