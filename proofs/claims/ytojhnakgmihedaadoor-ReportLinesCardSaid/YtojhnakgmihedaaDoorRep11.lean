import Derived.Test.YtojhnakgmihedaaDoorRep10
/-! Package report: what a made tree goes through: names given, elements, trees. -/
namespace Go.Proofs.YtojhnakgmihedaaDoor
open Go.Ev
set_option linter.unusedVariables false
set_option maxHeartbeats 2000000 in
theorem Names_spec {H : Heap} {g l : Nat} {F : Nat → Prop} (sc : Sc H g F l) (hl : l ≤ 1048576) {nb : Nat} (n : Nd) (hnb : H[nb]? = some (.cells (ndL n).toArray ty_api_Node (0, 0))) {L : List At} (hL : SlN 4 H ty_api_Attr (L.map atL).flatten n.ap n.al n.ac) (hal : n.al ≤ 8) (hLg : ∀ q ∈ L, AttOk q)
    (hF : ¬ F nb) (hFa : ∀ k, blkIs n.ap k → ¬ F k ∧ k ≠ nb) {R : Bool → Heap → Prop}
    (hR : ∀ b H' u (L' : List At), GoodS u → H'[nb]? = some (.cells (ndL { n with uri := u }).toArray ty_api_Node (0, 0)) → SlN 4 H' ty_api_Attr (L'.map atL).flatten n.ap n.al n.ac → (∀ q ∈ L', AttOk q) → Fr (fun k => k = nb ∨ blkIs n.ap k) H H' → R b H') :
    brackenref15_Names.C (some ⟨g, 0, none⟩) (some ⟨nb, 0, none⟩) H R := by
  apply brackenref15_Names.calls
  unfold brackenref15_Names.W
  have hFG : ∀ k, F k → ¬ (k = nb ∨ blkIs n.ap k) := by
    rintro k hk (rfl | h)
    · exact hF hk
    · exact (hFa k h).1 hk
  refine ⟨_, rfl, _, nodeAt hnb 2 (by omega), URI_spec sc hl _ fun u ok H1 hu f1 => ?_⟩
  have b1 := f1.blk hnb fun h => h
  refine ⟨_, rfl, ⟨_, nodeAt b1 4 (by omega)⟩, hfrozen_add b1 0 4, letV_mk fun H2 h2 => ?_⟩
  have b2 : H2[nb]? = some (.cells (ndL { n with uri := u }).toArray ty_api_Node (0, 0)) := set_blk h2 b1
  have f2 := set_fr h2
  have f02 : Fr (fun k => k = nb ∨ blkIs n.ap k) H H2 := (f1.mono fun _ h => h.elim).trans f2 fun k hk => .inl (.inl hk)
  have L2 : SlN 4 H2 ty_api_Attr (L.map atL).flatten n.ap n.al n.ac := (hL.old f1).keep f2 fun k hk => (hFa k hk).2
  clear h2
  refine joinW_mk (fun _ H' => H2 = H') ?_ ?_
  · refine joinW_mk (fun (q : Bool × Unit) H' => H2 = H') (brW_mk (fun _ => rfl) (fun _ => ⟨_, rfl, _, nodeAt b2 2 (by omega), rfl⟩)) ?_
    rintro ⟨b, _⟩ _ rfl
    exact brW_mk (fun _ => hR _ _ u L hu b2 L2 hLg f02) (fun _ => rfl)
  rintro _ _ rfl
  -- the attributes' URIs
  refine joinW_mk (fun _ H' => ∃ L' : List At, SlN 4 H' ty_api_Attr (L'.map atL).flatten n.ap n.al n.ac ∧ (∀ q ∈ L', AttOk q) ∧ H'[nb]? = some (.cells (ndL { n with uri := u }).toArray ty_api_Node (0, 0)) ∧ Fr (fun k => k = nb ∨ blkIs n.ap k) H H') ?_ ?_
  · refine loopW_mk (fun t (q : Int × Unit) H' => ∃ i : Nat, i ≤ n.al ∧ t = n.al - i ∧ q.1 = (i : Int) ∧ ∃ L' : List At, SlN 4 H' ty_api_Attr (L'.map atL).flatten n.ap n.al n.ac ∧ (∀ q ∈ L', AttOk q) ∧ H'[nb]? = some (.cells (ndL { n with uri := u }).toArray ty_api_Node (0, 0)) ∧ Fr (fun k => k = nb ∨ blkIs n.ap k) H H') n.al
      ⟨0, Nat.zero_le _, rfl, rfl, L, L2, hLg, b2, f02⟩ ?_
    rintro t ⟨i', _⟩ H6 ⟨i, hi, rfl, hi', M, hM, hMg, b6, f6⟩
    simp only at hi'
    subst hi'
    dsimp only
    refine ⟨_, rfl, _, _, _, nodeAt b6 6 (by omega), brW_dec (fun hlt => ?_) (fun _ => ⟨M, hM, hMg, b6, f6⟩)⟩
    have hlt' : i < n.al := by
      have : (i : Int) < (n.al : Int) := hlt
      omega
    have hML := hM.attrs.1
    have hiM : i < M.length := by omega
    refine joinW_mk (fun _ H' => ∃ L' : List At, SlN 4 H' ty_api_Attr (L'.map atL).flatten n.ap n.al n.ac ∧ (∀ q ∈ L', AttOk q) ∧ H'[nb]? = some (.cells (ndL { n with uri := u }).toArray ty_api_Node (0, 0)) ∧ Fr (fun k => k = nb ∨ blkIs n.ap k) H H') ?_ ?_
    · obtain ⟨a, ha, hc⟩ := hM.attrs.2 i hiM
      refine ⟨_, rfl, _, _, _, nodeAt b6 6 (by omega), a, ha, by omega, hlt, _, by rw [Int.toNat_natCast]; exact hc 2 (by omega), brW_mk (fun _ => ⟨M, hM, hMg, b6, f6⟩) (fun _ => ?_)⟩
      obtain ⟨a', ha', hex, hfz, hput⟩ := hM.putC hiM (⟨#[]⟩ : ByteArray)
      obtain rfl := Option.some.inj (ha.symm.trans ha')
      refine ⟨_, rfl, _, _, _, nodeAt b6 6 (by omega), a, ha, by omega, hlt, by rw [Int.toNat_natCast]; exact hex, by rw [Int.toNat_natCast]; exact hfz, letV_mk fun H8 h8 => ?_⟩
      rw [Int.toNat_natCast] at h8
      obtain ⟨M8, f8⟩ := hput H8 h8
      clear h8
      have G8 := set_good hiM (u := (⟨#[]⟩ : ByteArray)) (by decide) hMg
      have b8 := f8.blk b6 fun h => (hFa _ h).2 rfl
      have f08 : Fr (fun k => k = nb ∨ blkIs n.ap k) H H8 := f6.trans f8 fun k hk => .inl (.inr hk)
      have hi8 : i < (M.set i { M[i] with c := ⟨#[]⟩ }).length := by rw [List.length_set]; exact hiM
      generalize (M.set i { M[i] with c := ⟨#[]⟩ }) = N at M8 G8 hi8
      obtain ⟨c8, hc8, hd8⟩ := M8.attrs.2 i hi8
      refine ⟨_, rfl, _, _, _, nodeAt b8 6 (by omega), c8, hc8, by omega, hlt, _, by rw [Int.toNat_natCast]; exact hd8 0 (by omega), brW_mk (fun _ => ⟨N, M8, G8, b8, f08⟩) (fun _ => ?_)⟩
      refine ⟨_, rfl, _, _, _, nodeAt b8 6 (by omega), _, rfl, _, _, _, nodeAt b8 6 (by omega), c8, hc8, by omega, hlt, _, by rw [Int.toNat_natCast]; exact hd8 0 (by omega), ?_⟩
      refine URI_spec (sc.keep f08 hFG) hl _ fun v ok2 H9 hv f9 => ?_
      have b9 := f9.blk b8 fun h => h
      have M9 := M8.old f9
      refine ⟨⟨_, _, _, nodeAt b9 6 (by omega), rfl⟩, ?_⟩
      obtain ⟨a9, ha9, hex9, hfz9, hput9⟩ := M9.putC hi8 v
      refine ⟨a9, ha9, by omega, hlt, by rw [Int.toNat_natCast]; exact hex9, by rw [Int.toNat_natCast]; exact hfz9, letV_mk fun H10 h10 => ?_⟩
      rw [Int.toNat_natCast] at h10
      obtain ⟨M10, f10⟩ := hput9 H10 h10
      clear h10
      have G10 := set_good hi8 hv.1 G8
      have b10 := f10.blk b9 fun h => (hFa _ h).2 rfl
      have f010 : Fr (fun k => k = nb ∨ blkIs n.ap k) H H10 := (f08.trans f9 fun k hk => hk.elim).trans f10 fun k hk => .inl (.inr hk)
      exact brW_mk (fun _ => hR _ _ u _ hu b10 M10 G10 f010) (fun _ => ⟨_, M10, G10, b10, f010⟩)
    · rintro _ H7 ⟨N, e1, e2, e3, e4⟩
      refine letV_mk fun y hy => ⟨n.al - (i + 1), by omega, i + 1, by omega, rfl, ?_, N, e1, e2, e3, e4⟩
      show y = _
      rw [hy, wrap_i64 (by omega) (by omega)]; rfl
  rintro _ H5 ⟨M, hM, hMg, b5, f5⟩
  have hML := hM.attrs.1
  have fin : ∀ b, R b H5 := fun b => hR b H5 u M hu b5 hM hMg f5
  refine joinW_mk (fun _ H' => H5 = H') ?_ ?_
  · refine loopW_mk (fun t (q : Int × Unit) H' => H5 = H' ∧ ∃ i : Nat, i ≤ n.al ∧ t = n.al - i ∧ q.1 = (i : Int)) n.al ⟨rfl, 0, Nat.zero_le _, rfl, rfl⟩ ?_
    rintro t ⟨i', _⟩ _ ⟨rfl, i, hi, rfl, hi'⟩
    simp only at hi'
    subst hi'
    dsimp only
    refine ⟨_, rfl, _, _, _, nodeAt b5 6 (by omega), brW_dec (fun hlt => ?_) (fun _ => rfl)⟩
    have hlt' : i < n.al := by
      have : (i : Int) < (n.al : Int) := hlt
      omega
    obtain ⟨a, ha, hc⟩ := hM.attrs.2 i (by omega)
    refine joinW_mk (fun _ H' => H5 = H') ?_ ?_
    · refine loopW_mk (fun s (q : Int × Unit) H' => H5 = H' ∧ ∃ k : Nat, k ≤ i ∧ s = i - k ∧ q.1 = (k : Int)) i ⟨rfl, 0, Nat.zero_le _, rfl, rfl⟩ ?_
      rintro s ⟨k', _⟩ _ ⟨rfl, k, hk, rfl, hk'⟩
      simp only at hk'
      subst hk'
      dsimp only
      refine brW_dec (fun hki => ?_) (fun _ => rfl)
      have hkl : (k : Int) < (n.al : Int) := by omega
      obtain ⟨b, hb, hd⟩ := hM.attrs.2 k (by omega)
      refine joinW_mk (fun _ H' => H5 = H') ?_ ?_
      · refine joinW_mk (fun (q : Bool × Unit) H' => H5 = H') ?_ ?_
        · exact ⟨_, rfl, _, _, _, nodeAt b5 6 (by omega), b, hb, by omega, hkl, _, by rw [Int.toNat_natCast]; exact hd 2 (by omega), _, rfl, _, _, _, nodeAt b5 6 (by omega), a, ha, by omega, hlt, _, by rw [Int.toNat_natCast]; exact hc 2 (by omega), brW_mk (fun _ => ⟨_, rfl, _, _, _, nodeAt b5 6 (by omega), b, hb, by omega, hkl, _, by rw [Int.toNat_natCast]; exact hd 1 (by omega), _, rfl, _, _, _, nodeAt b5 6 (by omega), a, ha, by omega, hlt, _, by rw [Int.toNat_natCast]; exact hc 1 (by omega), rfl⟩) (fun _ => rfl)⟩
        · rintro ⟨b, _⟩ _ rfl
          exact brW_mk (fun _ => fin _) (fun _ => rfl)
      · rintro _ _ rfl
        refine letV_mk fun y hy => ⟨i - (k + 1), by omega, rfl, k + 1, by omega, rfl, ?_⟩
        show y = _
        rw [hy, wrap_i64 (by omega) (by omega)]; rfl
    · rintro _ _ rfl
      refine letV_mk fun y hy => ⟨n.al - (i + 1), by omega, rfl, i + 1, by omega, rfl, ?_⟩
      show y = _
      rw [hy, wrap_i64 (by omega) (by omega)]; rfl
  · rintro _ _ rfl
    exact fin _
end Go.Proofs.YtojhnakgmihedaaDoor
