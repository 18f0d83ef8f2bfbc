import Derived.Test.YtojhnakgmihedaaDoorRep2
/-! The laws of package report: codes. -/
namespace Go.Ev
theorem dec1 {n : Nat} (h : n < 10) : Go.Lib.decDigits n = [UInt8.ofNat (48 + n)] := by rw [Go.Lib.decDigits, dif_pos h]
def nD : Nd := ⟨1, 0, ⟨#[]⟩, ⟨#[]⟩, ⟨#[]⟩, ⟨#[]⟩, none, 0, 0⟩
def nE : Nd := ⟨2, 1, ⟨#[112]⟩, ⟨#[97]⟩, ⟨#[117]⟩, ⟨#[]⟩, none, 0, 0⟩
def nT : Nd := ⟨3, 2, ⟨#[]⟩, ⟨#[]⟩, ⟨#[]⟩, ⟨#[120, 121]⟩, none, 0, 0⟩
def nB : Nd := ⟨9, 0, ⟨#[]⟩, ⟨#[]⟩, ⟨#[]⟩, ⟨#[]⟩, none, 0, 0⟩
def n3 : Nd := ⟨3, -3, ⟨#[]⟩, ⟨#[]⟩, ⟨#[]⟩, ⟨#[97, 98, 99]⟩, none, 0, 0⟩
def n5 : Nd := ⟨5, 202, ⟨#[]⟩, ⟨#[120]⟩, ⟨#[]⟩, ⟨#[]⟩, none, 0, 0⟩
theorem nE_line : lineL nE = [32, 32, 101, 108, 101, 109, 101, 110, 116, 32, 123, 117, 125, 112, 58, 97, 32, 48] := by
  have h : lineL nE = [32, 32] ++ ([101, 108, 101, 109, 101, 110, 116] ++ ([32] ++ (([123] ++ [117] ++ [125] ++ [112, 58, 97]) ++ ([32] ++ Go.Lib.decDigits 0)))) := rfl
  rw [h, dec1 (by decide)]
  rfl
theorem nT_line : lineL nT = [32, 32, 32, 32, 116, 101, 120, 116, 32, 50] := by
  have h : lineL nT = [32, 32, 32, 32] ++ ([116, 101, 120, 116] ++ ([32] ++ Go.Lib.decDigits 2)) := rfl
  rw [h, dec1 (by decide)]
  rfl
theorem n3_line : lineL n3 = [116, 101, 120, 116, 32, 51] := by
  have h : lineL n3 = [] ++ ([116, 101, 120, 116] ++ ([32] ++ Go.Lib.decDigits 3)) := rfl
  rw [h, dec1 (by decide)]
  rfl
theorem nD_line : lineL nD = [100, 111, 99, 117, 109, 101, 110, 116] := rfl
theorem nB_line : lineL nB = [63] := rfl
theorem n5_line : lineL n5 = [112, 105, 32, 120] := rfl
theorem told_tree : treeL [nD, nE, nT] = [100, 111, 99, 117, 109, 101, 110, 116, 10, 32, 32, 101, 108, 101, 109, 101, 110, 116, 32, 123, 117, 125, 112, 58, 97, 32, 48, 10, 32, 32, 32, 32, 116, 101, 120, 116, 32, 50, 10] := by
  have h : treeL [nD, nE, nT] = (lineL nD ++ [10]) ++ ((lineL nE ++ [10]) ++ ((lineL nT ++ [10]) ++ [])) := rfl
  rw [h, nD_line, nE_line, nT_line]
  rfl
end Go.Ev
namespace Go.Proofs.YtojhnakgmihedaaDoor
open Go.Ev
set_option linter.unusedVariables false
theorem nE_small : Small nE := ⟨by decide, by decide, by decide, by decide, by decide⟩
set_option maxHeartbeats 2000000 in
theorem told_spec {H : Heap} {R : Bool → Heap → Prop} (hR : ∀ H', Fr noF H H' → R true H') : brackenlaw27_told.C H R := by
  apply brackenlaw27_told.calls
  unfold brackenlaw27_told.W
  refine letV_mk fun H1 h1 => ?_
  have f1 : Fr noF H H1 := by rw [h1]; exact Fr.new _ _ _
  have g1 := new_part h1
  clear h1
  have ht : TreeRd H1 [nD, nE, nT] (some ⟨Array.size H, 0, none⟩) 3 := TreeRd.blk (t := [nD, nE, nT]) g1 fun i hi => by
    rw [List.getElem?_toArray]
    rfl
  refine Counts_spec ht (by decide) fun H2 f2 => letV_mk fun H3 h3 => ?_
  have f3 : Fr noF H2 H3 := by rw [h3]; exact Fr.new _ _ _
  have g3 := new_part h3
  clear h3
  refine setStep g3 (by simp) f3 (Nat.le_refl _) fun H4 g4 f4 _ => ?_
  clear g3 f3
  refine setStep g4 (by simp) f4 (Nat.le_refl _) fun H5 g5 f5 _ => ?_
  clear g4 f4
  refine setStep g5 (by simp) f5 (Nat.le_refl _) fun H6 g6 f6 _ => ?_
  clear g5 f5
  refine setStep g6 (by simp) f6 (Nat.le_refl _) fun H7 g7 f7 _ => ?_
  clear g6 f6
  refine setStep g7 (by simp) f7 (Nat.le_refl _) fun H8 g8 f8 _ => ?_
  clear g7 f7
  refine setStep g8 (by simp) f8 (Nat.le_refl _) fun H9 g9 f9 _ => ?_
  clear g8 f8
  have f19 := f2.trans0 f9
  clear f2 f9
  refine Code_spec 2 fun H10 f10 => brW_pos rfl ?_
  refine Code_spec (-1) fun H11 f11 => brW_pos rfl ?_
  refine Code_spec 7 fun H12 f12 => brW_pos rfl ?_
  have f112 := ((f19.trans0 f10).trans0 f11).trans0 f12
  obtain ⟨a, ha, hc⟩ := (ht.old f112).2 1 (by decide)
  refine ⟨a, ha, by decide, by decide, ?_⟩
  refine readNode nE hc ?_
  refine Line_spec nE nE_small (.inl ⟨by decide, by decide⟩) fun H13 f13 => brW_pos (by rw [nE_line]; rfl) ?_
  have f113 := f112.trans0 f13
  refine Tree_spec (ht.old f113) (by decide) ?_ ?_ fun H14 f14 => brW_pos (by rw [told_tree]; rfl) ?_
  · intro n hn
    simp only [List.mem_cons, List.not_mem_nil, or_false] at hn
    rcases hn with rfl | rfl | rfl
    · exact ⟨by decide, by decide, by decide, by decide, by decide⟩
    · exact nE_small
    · exact ⟨by decide, by decide, by decide, by decide, by decide⟩
  · intro n hn
    simp only [List.mem_cons, List.not_mem_nil, or_false] at hn
    rcases hn with rfl | rfl | rfl
    · exact .inl ⟨by decide, by decide⟩
    · exact .inl ⟨by decide, by decide⟩
    · exact .inl ⟨by decide, by decide⟩
  refine Line_spec nB ⟨by decide, by decide, by decide, by decide, by decide⟩ (.inl ⟨by decide, by decide⟩) fun H15 f15 => brW_pos (by rw [nB_line]; rfl) ?_
  have g15 := (((((f10.trans0 f11).trans0 f12).trans0 f13).trans0 f14).trans0 f15).blk g9 fun h => h
  have f := f1.trans0 ((f113.trans0 f14).trans0 f15)
  refine ⟨by decide, by decide, _, (hcell_add g15 0 2).trans rfl, brW_pos rfl ⟨by decide, by decide, _, (hcell_add g15 0 0).trans rfl, ?_⟩⟩
  exact hR H15 f
theorem codeB_in {c : Int} : codeB c = ⟨#[63]⟩ ↔ ¬ (0 ≤ c ∧ c ≤ 7) := by
  unfold codeB
  split
  · rename_i h0
    obtain ⟨k, rfl⟩ : ∃ k : Nat, c = (k : Int) := ⟨c.toNat, by omega⟩
    rw [Int.toNat_natCast]
    match k with
    | 0 => exact ⟨fun h => absurd h (by decide), fun h => absurd (by decide) h⟩
    | 1 => exact ⟨fun h => absurd h (by decide), fun h => absurd (by decide) h⟩
    | 2 => exact ⟨fun h => absurd h (by decide), fun h => absurd (by decide) h⟩
    | 3 => exact ⟨fun h => absurd h (by decide), fun h => absurd (by decide) h⟩
    | 4 => exact ⟨fun h => absurd h (by decide), fun h => absurd (by decide) h⟩
    | 5 => exact ⟨fun h => absurd h (by decide), fun h => absurd (by decide) h⟩
    | 6 => exact ⟨fun h => absurd h (by decide), fun h => absurd (by decide) h⟩
    | 7 => exact ⟨fun h => absurd h (by decide), fun h => absurd (by decide) h⟩
    | n + 8 => exact ⟨fun _ h => by omega, fun _ => rfl⟩
  · rename_i h0
    exact ⟨fun _ h => h0 h.1, fun _ => rfl⟩
theorem codeB_inj : ∀ i j : Fin 8, (codeB (i.val : Int) = codeB (j.val : Int)) → i = j := by decide
theorem codeB_ne {c : Int} : codeB c ≠ ⟨#[]⟩ := by
  unfold codeB
  split
  · rename_i h0
    obtain ⟨k, rfl⟩ : ∃ k : Nat, c = (k : Int) := ⟨c.toNat, by omega⟩
    rw [Int.toNat_natCast]
    match k with
    | 0 => decide
    | 1 => decide
    | 2 => decide
    | 3 => decide
    | 4 => decide
    | 5 => decide
    | 6 => decide
    | 7 => decide
    | n + 8 => exact fun h => absurd h (by decide : (⟨#[63]⟩ : ByteArray) ≠ ⟨#[]⟩)
  · decide
theorem ReportCodes_fn (H : Heap) (hd : Pow10 H) (xa : Int) (hxa : (Lit.int .i64 xa).wf = true) (xb : Int) (hxb : (Lit.int .i64 xb).wf = true) : brackenlaw27_ReportCodes.C xa xb H fun b H' => b = true ∧ Fr noF H H' := by
  apply brackenlaw27_ReportCodes.calls
  unfold brackenlaw27_ReportCodes.W
  refine ⟨by decide, by decide, letV_mk fun c hc => letV_mk fun d hd' => ?_⟩
  clear hc hd'
  refine Code_spec c fun H1 f1 => Code_spec d fun H2 f2 => ?_
  refine joinW_mk (fun (q : Bool × Unit) H' => q.1 = decide (0 ≤ c ∧ c ≤ 7) ∧ H' = H2) ?_ ?_
  · refine brW_dec (fun h => ⟨?_, rfl⟩) (fun h => ⟨?_, rfl⟩)
    · exact decide_eq_decide.2 ⟨fun h2 => ⟨h, h2⟩, fun h => h.2⟩
    · exact (decide_eq_false fun h2 => h h2.1).symm
  rintro ⟨b, _⟩ _ ⟨hb, rfl⟩
  simp only at hb
  subst hb
  dsimp only
  refine told_spec fun H3 f3 => brW_true rfl ?_
  have f03 := (f1.trans0 f2).trans0 f3
  have fin : ∀ {K : Bool → Heap → Prop} (hK : ∀ H', Fr noF H H' → K true H'), report_Line.C 3 (-3) ⟨#[]⟩ ⟨#[]⟩ ⟨#[]⟩ ⟨#[97, 98, 99]⟩ none 0 0 H3 fun x57 H7 =>
      brW (decide (x57 = (⟨#[116, 101, 120, 116, 32, 51]⟩ : ByteArray))) (report_Line.C (5) (202) (⟨#[]⟩ : ByteArray) (⟨#[120]⟩ : ByteArray) (⟨#[]⟩ : ByteArray) (⟨#[]⟩ : ByteArray) (none) 0 0 H7 fun x62 H8 => K (decide (x62 = (⟨#[112, 105, 32, 120]⟩ : ByteArray))) H8) (K false H7) := by
    intro K hK
    refine Line_spec n3 ⟨by decide, by decide, by decide, by decide, by decide⟩ (.inl ⟨by decide, by decide⟩) fun H4 f4 => brW_pos (by rw [n3_line]; rfl) ?_
    refine Line_spec n5 ⟨by decide, by decide, by decide, by decide, by decide⟩ (.inl ⟨by decide, by decide⟩) fun H5 f5 => ?_
    have e : decide (mkB (lineL n5) = (⟨#[112, 105, 32, 120]⟩ : ByteArray)) = true := decide_eq_true (by rw [n5_line]; rfl)
    rw [e]
    exact hK H5 ((f03.trans0 f4).trans0 f5)
  refine brW_pos ?_ (brW_pos codeB_ne (brW_mk (fun h => ?_) (fun h => brW_pos ?_ ?_)))
  · by_cases h : 0 ≤ c ∧ c ≤ 7
    · rw [decide_eq_true h, decide_eq_false (fun e => codeB_in.1 e h)]; rfl
    · rw [decide_eq_false h, decide_eq_true (codeB_in.2 h)]; rfl
  · exact fin (K := fun b H' => b = true ∧ Fr noF H H') fun H' hf => ⟨rfl, hf⟩
  · have h : 0 ≤ c ∧ c ≤ 7 := by simpa using h
    refine decide_eq_decide.2 ⟨fun e => ?_, fun e => by rw [e]⟩
    by_cases h2 : 0 ≤ d ∧ d ≤ 7
    · have := codeB_inj ⟨c.toNat, by omega⟩ ⟨d.toNat, by omega⟩ (by
        show codeB ((c.toNat : Nat) : Int) = codeB ((d.toNat : Nat) : Int)
        rw [show ((c.toNat : Nat) : Int) = c by omega, show ((d.toNat : Nat) : Int) = d by omega]; exact e)
      have := congrArg Fin.val this
      simp only at this
      omega
    · rw [codeB_in.2 h2] at e
      exact absurd h (codeB_in.1 e)
  · exact fin (K := fun b H' => b = true ∧ Fr noF H H') fun H' hf => ⟨rfl, hf⟩
end Go.Proofs.YtojhnakgmihedaaDoor
