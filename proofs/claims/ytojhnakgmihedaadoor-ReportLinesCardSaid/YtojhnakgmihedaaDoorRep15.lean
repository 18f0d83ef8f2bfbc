import Derived.Test.YtojhnakgmihedaaDoorRep14
/-! Package report: made trees. -/
namespace Go.Proofs.YtojhnakgmihedaaDoor
open Go.Ev
set_option linter.unusedVariables false
theorem mkR_mk {i : Nat} {k d : Int} {pre loc uri val : ByteArray} {ap : Option Addr} {al ac : Nat} (h1 : 2 ≤ k) (h2 : k ≤ 5) (h3 : 1 ≤ d) (h4 : d ≤ (i : Int)) (h5 : noNL pre) (h6 : noNL loc) (h7 : noNL uri) : MkR i ⟨k, d, pre, loc, uri, val, ap, al, ac⟩ := ⟨h1, h2, h3, h4, h5, h6, h7⟩
theorem small_mk {k d : Int} {pre loc uri val : ByteArray} {ap : Option Addr} {al ac : Nat} (h1 : pre.size ≤ 100) (h2 : loc.size ≤ 100) (h3 : uri.size ≤ 100) (h4 : val.size ≤ 100) (h5 : al ≤ 8) : Small ⟨k, d, pre, loc, uri, val, ap, al, ac⟩ := ⟨Nat.le_trans h1 (by decide), Nat.le_trans h2 (by decide), Nat.le_trans h3 (by decide), Nat.le_trans h4 (by decide), Nat.le_trans h5 (by decide)⟩
theorem noNL_nil : noNL ⟨#[]⟩ := by unfold noNL; decide
/-- The node under way, behind the base H21. -/
def PJ (H21 : Heap) (g i : Nat) (F : Nat → Prop) (H' : Heap) : Prop := ∃ n F' s', H'[Array.size H21]? = some (.cells (ndL n).toArray ty_api_Node (0, 0)) ∧ MkR (i + 1) n ∧ NdMade H' n ∧ Fr (fun k => k = g) H21 H' ∧ Sc H' g F' s' ∧ s' ≤ i + 1 ∧ ∀ k, F' k → F k ∨ Array.size H21 ≤ k
set_option maxHeartbeats 8000000 in
theorem elem_part {H21 : Heap} {g i s : Nat} {F : Nat → Prop} (sc : Sc H21 g F s) (hs : s ≤ i) (hi : i ≤ 30) (d u : Int) (hd1 : 1 ≤ d) (hd2 : d ≤ ((i + 1 : Nat) : Int)) {H34 : Heap} (g34 : H34[Array.size H21]? = some (.cells (ndL ⟨0, d, ⟨#[]⟩, ⟨#[]⟩, ⟨#[]⟩, ⟨#[]⟩, none, 0, 0⟩).toArray ty_api_Node (0, 0))) (f34 : Fr noF H21 H34) {K J : Heap → Prop}
    (hK : ∀ H' F' s', Fr (fun k => k = g) H21 H' → Sc H' g F' s' → s' ≤ i + 1 → (∀ k, F' k → F k ∨ Array.size H21 ≤ k) → K H') (hJ : ∀ H', PJ H21 g i F H' → J H') :
    letV (hnew H34 #[.string (⟨#[97]⟩ : ByteArray), .string (⟨#[98]⟩ : ByteArray), .string (⟨#[99]⟩ : ByteArray), .string (⟨#[97]⟩ : ByteArray)] ty_string) fun H35 : Heap => (8 : Int) ≠ 0 ∧ (4 : Int) ≠ 0 ∧
      ∃ x110 : Addr, some ⟨Array.size H34, 0, none⟩ = some x110 ∧ 0 ≤ Int.tmod (IntKind.u64.wrap (Int.tdiv u 8)) 4 ∧ Int.tmod (IntKind.u64.wrap (Int.tdiv u 8)) 4 < (4 : Int) ∧
      ∃ x111 : ByteArray, hcell H35 (x110.add ((Int.tmod (IntKind.u64.wrap (Int.tdiv u 8)) 4).toNat)) = some (.string x111) ∧ (∃ u, hcell H35 ((⟨Array.size H21, 0, none⟩ : Addr).add 0) = some u) ∧ hfrozen H35 ((⟨Array.size H21, 0, none⟩ : Addr).add 0) = false ∧
      letV (hset H35 ((⟨Array.size H21, 0, none⟩ : Addr).add 0) (.int .i64 2)) fun H36 : Heap => (∃ u, hcell H36 ((⟨Array.size H21, 0, none⟩ : Addr).add 3) = some u) ∧ hfrozen H36 ((⟨Array.size H21, 0, none⟩ : Addr).add 3) = false ∧
      letV (hset H36 ((⟨Array.size H21, 0, none⟩ : Addr).add 3) (.string x111)) fun H37 : Heap => (32 : Int) ≠ 0 ∧ brackenlaw16_attrs.C (IntKind.u64.wrap (Int.tdiv u 32)) H37 fun x116_p x116_l x116_c H38 => (∃ u, hcell H38 ((⟨Array.size H21, 0, none⟩ : Addr).add 6) = some u) ∧ hfrozen H38 ((⟨Array.size H21, 0, none⟩ : Addr).add 6) = false ∧
      letV (hset H38 ((⟨Array.size H21, 0, none⟩ : Addr).add 6) (.slice x116_p x116_l x116_c)) fun H39 : Heap =>
      letV (hnew H39 #[.string (⟨#[]⟩ : ByteArray), .string (⟨#[]⟩ : ByteArray), .string (⟨#[112]⟩ : ByteArray), .string (⟨#[113]⟩ : ByteArray)] ty_string) fun H40 : Heap => (256 : Int) ≠ 0 ∧ (4 : Int) ≠ 0 ∧
      ∃ x122 : Addr, some ⟨Array.size H39, 0, none⟩ = some x122 ∧ 0 ≤ Int.tmod (IntKind.u64.wrap (Int.tdiv u 256)) 4 ∧ Int.tmod (IntKind.u64.wrap (Int.tdiv u 256)) 4 < (4 : Int) ∧
      ∃ x123 : ByteArray, hcell H40 (x122.add ((Int.tmod (IntKind.u64.wrap (Int.tdiv u 256)) 4).toNat)) = some (.string x123) ∧ (∃ u, hcell H40 ((⟨Array.size H21, 0, none⟩ : Addr).add 2) = some u) ∧ hfrozen H40 ((⟨Array.size H21, 0, none⟩ : Addr).add 2) = false ∧
      letV (hset H40 ((⟨Array.size H21, 0, none⟩ : Addr).add 2) (.string x123)) fun H41 : Heap =>
      ∃ (x127_p : Option Addr) (x127_l x127_c : Nat), hcell H41 ((⟨Array.size H21, 0, none⟩ : Addr).add 6) = some (.slice x127_p x127_l x127_c) ∧ brackenref10_Scope_Push.C (some ⟨g, 0, none⟩) (x127_p) x127_l x127_c H41 fun x128 H42 =>
      brW (decide (x128 ≠ 0)) (K H42) (
      JoinW (S := Unit) (fun J32 =>
      brackenref15_Names.C (some ⟨g, 0, none⟩) (some ⟨Array.size H21, 0, none⟩) H42 fun x131 H44 =>
      brW (!x131) (brackenref10_Scope_Pop.C (some ⟨g, 0, none⟩) H44 fun x134 H45 => (∃ u, hcell H45 ((⟨Array.size H21, 0, none⟩ : Addr).add 2) = some u) ∧ hfrozen H45 ((⟨Array.size H21, 0, none⟩ : Addr).add 2) = false ∧
      letV (hset H45 ((⟨Array.size H21, 0, none⟩ : Addr).add 2) (.string (⟨#[]⟩ : ByteArray))) fun H46 : Heap => (∃ u, hcell H46 ((⟨Array.size H21, 0, none⟩ : Addr).add 6) = some u) ∧ hfrozen H46 ((⟨Array.size H21, 0, none⟩ : Addr).add 6) = false ∧
      letV (hset H46 ((⟨Array.size H21, 0, none⟩ : Addr).add 6) (.slice none 0 0)) fun H47 : Heap =>
      brackenref10_Scope_Push.C (some ⟨g, 0, none⟩) (none) 0 0 H47 fun x138 H48 =>
      brW (decide (x138 ≠ 0)) (K H48) (brackenref15_Names.C (some ⟨g, 0, none⟩) (some ⟨Array.size H21, 0, none⟩) H48 fun x142 H49 =>
      brW (!x142) (K H49) (J32 () H49))) (J32 () H44))
      (fun _ H43 => J H43)) := by
  have hFlt := sc.lt
  have hg : g < Array.size H21 := hFlt g sc.blk.1
  have noBlk : ∀ k, blkIs (none : Option Addr) k → False := by rintro k ⟨a, ha, _⟩; cases ha
  refine letV_mk fun H35 h35 => ⟨by decide, by decide, ?_⟩
  have f35 : Fr noF H34 H35 := by rw [h35]; exact Fr.new _ _ _
  have t35 := new_part h35
  clear h35
  obtain ⟨b1, b2⟩ := tmodB (Int.tdiv u 8) (N := 4) (by decide)
  obtain ⟨loc, hloc, hlc⟩ := pickG [⟨#[97]⟩, ⟨#[98]⟩, ⟨#[99]⟩, ⟨#[97]⟩] t35 b1 b2
  have hlg : loc.size ≤ 100 ∧ noNL loc := by
    simp only [List.mem_cons, List.not_mem_nil, or_false] at hloc
    rcases hloc with rfl | rfl | rfl | rfl <;> exact ⟨by decide, by unfold noNL; decide⟩
  have g35 := f35.blk g34 fun h => h
  refine ⟨_, rfl, b1, b2, _, hlc, ⟨_, nodeAt g35 0 (by omega)⟩, hfrozen_add g35 0 0, letV_mk fun H36 h36 => ?_⟩
  have g36 : H36[Array.size H21]? = some (.cells (ndL ⟨2, d, ⟨#[]⟩, ⟨#[]⟩, ⟨#[]⟩, ⟨#[]⟩, none, 0, 0⟩).toArray ty_api_Node (0, 0)) := set_blk h36 g35
  have f36 : Fr noF H21 H36 := (f34.trans0 f35).trans (set_fr h36) fun k hk => .inr (by omega)
  clear h36 g35 g34
  refine ⟨⟨_, nodeAt g36 3 (by omega)⟩, hfrozen_add g36 0 3, letV_mk fun H37 h37 => ⟨by decide, ?_⟩⟩
  have g37 : H37[Array.size H21]? = some (.cells (ndL ⟨2, d, ⟨#[]⟩, loc, ⟨#[]⟩, ⟨#[]⟩, none, 0, 0⟩).toArray ty_api_Node (0, 0)) := set_blk h37 g36
  have f37 : Fr noF H21 H37 := f36.trans (set_fr h37) fun k hk => .inr (by omega)
  have z37 := lt_of_blk g37
  clear h37 g36 f36 t35 f35 f34
  refine attrs_spec _ fun ap al ac H38 hat => ?_
  obtain ⟨L, hL38, hal, hLg, hLb, f38⟩ := hat
  have g38 := f38.blk g37 fun h => h
  refine ⟨⟨_, nodeAt g38 6 (by omega)⟩, hfrozen_add g38 0 6, letV_mk fun H39 h39 => ?_⟩
  have g39 : H39[Array.size H21]? = some (.cells (ndL ⟨2, d, ⟨#[]⟩, loc, ⟨#[]⟩, ⟨#[]⟩, ap, al, ac⟩).toArray ty_api_Node (0, 0)) := set_blk h39 g38
  have f39 : Fr noF H21 H39 := (f37.trans0 f38).trans (set_fr h39) fun k hk => .inr (by omega)
  have L39 := hL38.keep (set_fr h39) fun k hk e => by have := hLb k hk; omega
  clear h39 g38 hL38 g37
  refine letV_mk fun H40 h40 => ⟨by decide, by decide, ?_⟩
  have f40 : Fr noF H39 H40 := by rw [h40]; exact Fr.new _ _ _
  have t40 := new_part h40
  clear h40
  obtain ⟨c1, c2⟩ := tmodB (Int.tdiv u 256) (N := 4) (by decide)
  obtain ⟨pre, hpre, hpc⟩ := pickG [⟨#[]⟩, ⟨#[]⟩, ⟨#[112]⟩, ⟨#[113]⟩] t40 c1 c2
  have hpg : pre.size ≤ 100 ∧ noNL pre := by
    simp only [List.mem_cons, List.not_mem_nil, or_false] at hpre
    rcases hpre with rfl | rfl | rfl | rfl <;> exact ⟨by decide, by unfold noNL; decide⟩
  have g40 := f40.blk g39 fun h => h
  refine ⟨_, rfl, c1, c2, _, hpc, ⟨_, nodeAt g40 2 (by omega)⟩, hfrozen_add g40 0 2, letV_mk fun H41 h41 => ?_⟩
  have g41 : H41[Array.size H21]? = some (.cells (ndL ⟨2, d, pre, loc, ⟨#[]⟩, ⟨#[]⟩, ap, al, ac⟩).toArray ty_api_Node (0, 0)) := set_blk h41 g40
  have f41 : Fr noF H21 H41 := (f39.trans0 f40).trans (set_fr h41) fun k hk => .inr (by omega)
  have L41 := (L39.old f40).keep (set_fr h41) fun k hk e => by have := hLb k hk; omega
  clear h41 g40 t40 g39 L39 f40 f39
  refine ⟨_, _, _, nodeAt g41 6 (by omega), ?_⟩
  have z41 := lt_of_blk g41
  have toG : ∀ {H'}, Fr (fun k => k = g) H41 H' → Fr (fun k => k = g) H21 H' := fun hf => (f41.mono fun _ h => h.elim).trans hf fun k hk => .inl hk
  refine Push_spec (sc.old f41) (by omega) L41.attrs (by omega) hLg (fun H42 f42 => brW_pos (by decide) (hK H42 F s (toG (f42.mono fun _ h => h.elim)) ((sc.old f41).old f42) (by omega) fun k hk => .inl hk)) fun H42 F2 sc42 hF2 f42 => brW_neg (fun h => h rfl) ?_
  have g42 := f42.blk g41 (by omega)
  have L42 := L41.keep f42 fun k hk e => by have := hLb k hk; omega
  have hF2' : ∀ k, F2 k → F k ∨ Array.size H21 ≤ k := fun k hk => (hF2 k hk).imp id fun h => Nat.le_trans f41.size h
  have nbF2 : ¬ F2 (Array.size H21) := fun h => by
    rcases hF2 _ h with h | h
    · have := hFlt _ h; omega
    · omega
  have apF2 : ∀ k, blkIs ap k → ¬ F2 k ∧ k ≠ Array.size H21 := fun k hk => ⟨fun h => by
    have h1 := hLb k hk
    have h2 := L41.blk_lt hk
    rcases hF2 _ h with h | h
    · have := hFlt _ h; have := f37.size; omega
    · omega, fun e => by have := hLb k hk; omega⟩
  refine joinW_mk (fun _ H' => PJ H21 g i F H') ?_ (fun _ H' h => hJ H' h)
  refine Names_spec sc42 (by omega) ⟨2, d, pre, loc, ⟨#[]⟩, ⟨#[]⟩, ap, al, ac⟩ g42 L42 (by show al ≤ 8; omega) hLg nbF2 apF2 fun b H44 v L4 hv g44 L44 hLg4 f44 => ?_
  have fr44 : Fr (fun k => k = g) H21 H44 := (toG f42).trans f44 fun k hk => by
    rcases hk with rfl | hk
    · exact .inr (Nat.le_refl _)
    · exact .inr (by have := hLb k hk; have := f37.size; omega)
  have sc44 : Sc H44 g F2 (s + 1) := sc42.keep f44 fun k hk e => by
    rcases e with rfl | e
    · exact nbF2 hk
    · exact (apF2 k e).1 hk
  refine brW_mk (fun _ => ?_) (fun _ => ?_)
  · refine Pop_spec sc44 (by omega) fun b2 H45 sc45 f45 => ?_
    rw [Nat.add_sub_cancel] at sc45
    have g45 := f45.blk g44 (by omega)
    refine ⟨⟨_, nodeAt g45 2 (by omega)⟩, hfrozen_add g45 0 2, letV_mk fun H46 h46 => ?_⟩
    have g46 : H46[Array.size H21]? = some (.cells (ndL ⟨2, d, ⟨#[]⟩, loc, v, ⟨#[]⟩, ap, al, ac⟩).toArray ty_api_Node (0, 0)) := set_blk h46 g45
    have f46 := set_fr h46
    clear h46
    refine ⟨⟨_, nodeAt g46 6 (by omega)⟩, hfrozen_add g46 0 6, letV_mk fun H47 h47 => ?_⟩
    have g47 : H47[Array.size H21]? = some (.cells (ndL ⟨2, d, ⟨#[]⟩, loc, v, ⟨#[]⟩, none, 0, 0⟩).toArray ty_api_Node (0, 0)) := set_blk h47 g46
    have f47 := set_fr h47
    clear h47
    have fr47 : Fr (fun k => k = g) H21 H47 := ((fr44.trans f45 fun k hk => .inl hk).trans f46 fun k hk => .inr (by omega)).trans f47 fun k hk => .inr (by omega)
    have sc47 : Sc H47 g F2 s := (sc45.keep f46 fun k hk e => by subst e; exact nbF2 hk).keep f47 fun k hk e => by subst e; exact nbF2 hk
    have z47 := lt_of_blk g47
    refine Push_spec (L := []) sc47 (by omega) ⟨rfl, fun i hi => absurd hi (Nat.not_lt_zero i)⟩ (by decide) (by simp) (fun H48 f48 => brW_pos (by decide) (hK H48 F2 s (fr47.trans f48 fun k hk => hk.elim) (sc47.old f48) (by omega) hF2')) fun H48 F3 sc48 hF3 f48 => brW_neg (fun h => h rfl) ?_
    have g48 := f48.blk g47 (by omega)
    have fr48 := fr47.trans f48 fun k hk => .inl hk
    have hF3' : ∀ k, F3 k → F k ∨ Array.size H21 ≤ k := fun k hk => by
      rcases hF3 k hk with h | h
      · exact hF2' k h
      · exact .inr (Nat.le_trans fr47.size h)
    have nbF3 : ¬ F3 (Array.size H21) := fun h => by
      rcases hF3 _ h with h | h
      · exact nbF2 h
      · omega
    refine Names_spec (L := []) sc48 (by omega) ⟨2, d, ⟨#[]⟩, loc, v, ⟨#[]⟩, none, 0, 0⟩ g48 (SlN.nil _ _ _) (Nat.zero_le _) (by simp) nbF3 (fun k hk => (noBlk k hk).elim) fun b3 H49 w L5 hw g49 L49 hLg5 f49 => ?_
    have fr49 : Fr (fun k => k = g) H21 H49 := fr48.trans f49 fun k hk => by
      rcases hk with rfl | hk
      · exact .inr (Nat.le_refl _)
      · exact (noBlk k hk).elim
    have sc49 : Sc H49 g F3 (s + 1) := sc48.keep f49 fun k hk e => by
      rcases e with rfl | e
      · exact nbF3 hk
      · exact noBlk k e
    refine brW_mk (fun _ => hK _ _ _ fr49 sc49 (by omega) hF3') (fun _ => ?_)
    exact ⟨⟨2, d, ⟨#[]⟩, loc, w, ⟨#[]⟩, none, 0, 0⟩, F3, s + 1, g49, mkR_mk (by decide) (by decide) hd1 hd2 noNL_nil hlg.2 hw.2, ⟨small_mk (by decide) hlg.1 hw.1 (by decide) (by decide), Nat.zero_le _, L5, L49, hLg5⟩, fr49, sc49, by omega, hF3'⟩
  · exact ⟨⟨2, d, pre, loc, v, ⟨#[]⟩, ap, al, ac⟩, F2, s + 1, g44, mkR_mk (by decide) (by decide) hd1 hd2 hpg.2 hlg.2 hv.2, ⟨small_mk hpg.1 hlg.1 hv.1 (by decide) (by omega), by show al ≤ 8; omega, L4, L44, hLg4⟩, fr44, sc44, by omega, hF2'⟩
end Go.Proofs.YtojhnakgmihedaaDoor
