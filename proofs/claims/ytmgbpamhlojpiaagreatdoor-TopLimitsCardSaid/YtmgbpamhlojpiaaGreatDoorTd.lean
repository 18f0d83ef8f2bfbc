/- All documents of the law TopLimits are run: true; so the law, called in any world that the row speaks of, returns true. -/
import Derived.Test.YtmgbpamhlojpiaaGreatDoorTc
import Derived.Test.YtmgbpamhlojpiaaGreatDoorR00
import Derived.Test.YtmgbpamhlojpiaaGreatDoorR01
import Derived.Test.YtmgbpamhlojpiaaGreatDoorR02
import Derived.Test.YtmgbpamhlojpiaaGreatDoorR03
import Derived.Test.YtmgbpamhlojpiaaGreatDoorR04
import Derived.Test.YtmgbpamhlojpiaaGreatDoorR05
import Derived.Test.YtmgbpamhlojpiaaGreatDoorR06
import Derived.Test.YtmgbpamhlojpiaaGreatDoorR07
import Derived.Test.YtmgbpamhlojpiaaGreatDoorR08
import Derived.Test.YtmgbpamhlojpiaaGreatDoorR09
import Derived.Test.YtmgbpamhlojpiaaGreatDoorR10
import Derived.Test.YtmgbpamhlojpiaaGreatDoorR11
import Derived.Below
namespace Go.X
theorem runs_out {c a n : Nat} (h : runs c a n = true) {k : Nat} (h1 : a ≤ k) (h2 : k < a + n) : runTL c k = true := by
  have := allB_out h (k - a) (by omega)
  rw [fN_eq, show a + (k - a) = k by omega] at this
  exact this
theorem runs_all : ∀ c, c < 4 → ∀ k, k < 30 → runTL c (k + 1) = true := by
  intro c hc k hk
  rcases (show c = 0 ∨ c = 1 ∨ c = 2 ∨ c = 3 by omega) with rfl | rfl | rfl | rfl
  · rcases (show (24 ≤ k + 1 ∧ k + 1 < 31) ∨ (17 ≤ k + 1 ∧ k + 1 < 24) ∨ (10 ≤ k + 1 ∧ k + 1 < 17) ∨ (3 ≤ k + 1 ∧ k + 1 < 10) ∨ (1 ≤ k + 1 ∧ k + 1 < 3) by omega) with ⟨h1, h2⟩ | ⟨h1, h2⟩ | ⟨h1, h2⟩ | ⟨h1, h2⟩ | ⟨h1, h2⟩
    · exact runs_out run_0_24 h1 h2
    · exact runs_out run_0_17 h1 h2
    · exact runs_out run_0_10 h1 h2
    · exact runs_out run_0_3 h1 h2
    · exact runs_out run_0_1 h1 h2
  · rcases (show (30 ≤ k + 1 ∧ k + 1 < 31) ∨ (29 ≤ k + 1 ∧ k + 1 < 30) ∨ (28 ≤ k + 1 ∧ k + 1 < 29) ∨ (27 ≤ k + 1 ∧ k + 1 < 28) ∨ (26 ≤ k + 1 ∧ k + 1 < 27) ∨ (25 ≤ k + 1 ∧ k + 1 < 26) ∨ (24 ≤ k + 1 ∧ k + 1 < 25) ∨ (23 ≤ k + 1 ∧ k + 1 < 24) ∨ (21 ≤ k + 1 ∧ k + 1 < 23) ∨ (19 ≤ k + 1 ∧ k + 1 < 21) ∨ (17 ≤ k + 1 ∧ k + 1 < 19) ∨ (15 ≤ k + 1 ∧ k + 1 < 17) ∨ (13 ≤ k + 1 ∧ k + 1 < 15) ∨ (11 ≤ k + 1 ∧ k + 1 < 13) ∨ (8 ≤ k + 1 ∧ k + 1 < 11) ∨ (5 ≤ k + 1 ∧ k + 1 < 8) ∨ (2 ≤ k + 1 ∧ k + 1 < 5) ∨ (1 ≤ k + 1 ∧ k + 1 < 2) by omega) with ⟨h1, h2⟩ | ⟨h1, h2⟩ | ⟨h1, h2⟩ | ⟨h1, h2⟩ | ⟨h1, h2⟩ | ⟨h1, h2⟩ | ⟨h1, h2⟩ | ⟨h1, h2⟩ | ⟨h1, h2⟩ | ⟨h1, h2⟩ | ⟨h1, h2⟩ | ⟨h1, h2⟩ | ⟨h1, h2⟩ | ⟨h1, h2⟩ | ⟨h1, h2⟩ | ⟨h1, h2⟩ | ⟨h1, h2⟩ | ⟨h1, h2⟩
    · exact runs_out run_1_30 h1 h2
    · exact runs_out run_1_29 h1 h2
    · exact runs_out run_1_28 h1 h2
    · exact runs_out run_1_27 h1 h2
    · exact runs_out run_1_26 h1 h2
    · exact runs_out run_1_25 h1 h2
    · exact runs_out run_1_24 h1 h2
    · exact runs_out run_1_23 h1 h2
    · exact runs_out run_1_21 h1 h2
    · exact runs_out run_1_19 h1 h2
    · exact runs_out run_1_17 h1 h2
    · exact runs_out run_1_15 h1 h2
    · exact runs_out run_1_13 h1 h2
    · exact runs_out run_1_11 h1 h2
    · exact runs_out run_1_8 h1 h2
    · exact runs_out run_1_5 h1 h2
    · exact runs_out run_1_2 h1 h2
    · exact runs_out run_1_1 h1 h2
  · rcases (show (29 ≤ k + 1 ∧ k + 1 < 31) ∨ (27 ≤ k + 1 ∧ k + 1 < 29) ∨ (25 ≤ k + 1 ∧ k + 1 < 27) ∨ (23 ≤ k + 1 ∧ k + 1 < 25) ∨ (21 ≤ k + 1 ∧ k + 1 < 23) ∨ (19 ≤ k + 1 ∧ k + 1 < 21) ∨ (17 ≤ k + 1 ∧ k + 1 < 19) ∨ (15 ≤ k + 1 ∧ k + 1 < 17) ∨ (13 ≤ k + 1 ∧ k + 1 < 15) ∨ (11 ≤ k + 1 ∧ k + 1 < 13) ∨ (9 ≤ k + 1 ∧ k + 1 < 11) ∨ (6 ≤ k + 1 ∧ k + 1 < 9) ∨ (3 ≤ k + 1 ∧ k + 1 < 6) ∨ (1 ≤ k + 1 ∧ k + 1 < 3) by omega) with ⟨h1, h2⟩ | ⟨h1, h2⟩ | ⟨h1, h2⟩ | ⟨h1, h2⟩ | ⟨h1, h2⟩ | ⟨h1, h2⟩ | ⟨h1, h2⟩ | ⟨h1, h2⟩ | ⟨h1, h2⟩ | ⟨h1, h2⟩ | ⟨h1, h2⟩ | ⟨h1, h2⟩ | ⟨h1, h2⟩ | ⟨h1, h2⟩
    · exact runs_out run_2_29 h1 h2
    · exact runs_out run_2_27 h1 h2
    · exact runs_out run_2_25 h1 h2
    · exact runs_out run_2_23 h1 h2
    · exact runs_out run_2_21 h1 h2
    · exact runs_out run_2_19 h1 h2
    · exact runs_out run_2_17 h1 h2
    · exact runs_out run_2_15 h1 h2
    · exact runs_out run_2_13 h1 h2
    · exact runs_out run_2_11 h1 h2
    · exact runs_out run_2_9 h1 h2
    · exact runs_out run_2_6 h1 h2
    · exact runs_out run_2_3 h1 h2
    · exact runs_out run_2_1 h1 h2
  · rcases (show (29 ≤ k + 1 ∧ k + 1 < 31) ∨ (27 ≤ k + 1 ∧ k + 1 < 29) ∨ (25 ≤ k + 1 ∧ k + 1 < 27) ∨ (23 ≤ k + 1 ∧ k + 1 < 25) ∨ (21 ≤ k + 1 ∧ k + 1 < 23) ∨ (19 ≤ k + 1 ∧ k + 1 < 21) ∨ (17 ≤ k + 1 ∧ k + 1 < 19) ∨ (15 ≤ k + 1 ∧ k + 1 < 17) ∨ (13 ≤ k + 1 ∧ k + 1 < 15) ∨ (11 ≤ k + 1 ∧ k + 1 < 13) ∨ (8 ≤ k + 1 ∧ k + 1 < 11) ∨ (5 ≤ k + 1 ∧ k + 1 < 8) ∨ (2 ≤ k + 1 ∧ k + 1 < 5) ∨ (1 ≤ k + 1 ∧ k + 1 < 2) by omega) with ⟨h1, h2⟩ | ⟨h1, h2⟩ | ⟨h1, h2⟩ | ⟨h1, h2⟩ | ⟨h1, h2⟩ | ⟨h1, h2⟩ | ⟨h1, h2⟩ | ⟨h1, h2⟩ | ⟨h1, h2⟩ | ⟨h1, h2⟩ | ⟨h1, h2⟩ | ⟨h1, h2⟩ | ⟨h1, h2⟩ | ⟨h1, h2⟩
    · exact runs_out run_3_29 h1 h2
    · exact runs_out run_3_27 h1 h2
    · exact runs_out run_3_25 h1 h2
    · exact runs_out run_3_23 h1 h2
    · exact runs_out run_3_21 h1 h2
    · exact runs_out run_3_19 h1 h2
    · exact runs_out run_3_17 h1 h2
    · exact runs_out run_3_15 h1 h2
    · exact runs_out run_3_13 h1 h2
    · exact runs_out run_3_11 h1 h2
    · exact runs_out run_3_8 h1 h2
    · exact runs_out run_3_5 h1 h2
    · exact runs_out run_3_2 h1 h2
    · exact runs_out run_3_1 h1 h2
end Go.X
/-! The law, called in any world that the row speaks of. -/
namespace Go.X
open Go.Ex Go.Proofs Go.Proofs.YtmgbpamhlojpiaaGreatDoor Go.RowKit
theorem tmod_wrap (x b : Int) (hb : 0 < b) : ∃ r : Nat, (IntKind.u64.wrap x).tmod b = (r : Int) ∧ (r : Int) < b := by
  have h0 : 0 ≤ IntKind.u64.wrap x := by
    show 0 ≤ x % 18446744073709551616
    exact Int.emod_nonneg _ (by omega)
  refine ⟨((IntKind.u64.wrap x).tmod b).toNat, (Int.toNat_of_nonneg (Int.tmod_nonneg _ h0)).symm, ?_⟩
  rw [Int.toNat_of_nonneg (Int.tmod_nonneg _ h0)]
  exact Int.tmod_lt_of_pos _ hb
theorem law_calls {W : World} (hs : W.ShapedOpen Tryz.prog) (hl : laidMetH Tryz.prog Rows.topLimitsRow.laid W) (n most which : Int) :
    Calls Tryz.prog 3 #[.int .i64 n, .int .i64 most, .int .i64 which] W fun e W' => e = .returned (.bool true) ∧ Below W.heap.size W W' := by
  obtain ⟨k, hk, hkk⟩ := tmod_wrap n 30 (by omega)
  obtain ⟨M, hm, hM⟩ := tmod_wrap most 31 (by omega)
  obtain ⟨c, hc, hc4⟩ := tmod_wrap which 4 (by omega)
  have ht := tabs_of hs hl
  have r := r_first ht (ml_of hs) (M := M) (hi := 30) (by omega)
  refine (law_fn r hk hm hc (by omega) (by omega) (runs_all c (by omega) k (by omega)) W rfl).mono ?_
  rintro e w' ⟨v, rfl, sim, ρ', v', h', hle, r', hd, hf⟩
  obtain ⟨h1, h2⟩ := and_t (show (fE v' (.bool true) && trE (gPart h'.t) G) = true from hf)
  obtain ⟨rfl, _⟩ := fE_out h1
  cases hd
  have hsz : 0 < W.heap.size := (Array.getElem?_eq_some_iff.1 ht.h0).1
  obtain ⟨q1, q2⟩ := r_last ht hle r' h2 hsz
  exact ⟨rfl, sim.os, sim.tape, sim.output, q1, q2⟩
end Go.X
