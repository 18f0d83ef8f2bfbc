import Derived.Test.YtojhnakgmihedaaDoorRep11
/-! Package report: what a made tree goes through: elements. -/
namespace Go.Proofs.YtojhnakgmihedaaDoor
open Go.Ev
set_option linter.unusedVariables false
theorem Sc.lt {H : Heap} {g l : Nat} {F : Nat → Prop} (h : Sc H g F l) : ∀ k, F k → k < Array.size H := by
  obtain ⟨p, c, lv, h⟩ := h
  exact h.lt
set_option maxHeartbeats 4000000 in
theorem element_any {H : Heap} {g l : Nat} {F : Nat → Prop} (sc : Sc H g F l) (hl : l ≤ 1000) (n : Nd) (hs : Small n) {L : List At} (hL : ∀ H', Fr (fun k => k = g) H H' → AtRd H' L n.ap n.al) (hal : n.al ≤ 8) (hLg : ∀ q ∈ L, AttOk q) {R : Bool → Heap → Prop}
    (hR : ∀ b H' F' l', Sc H' g F' l' → l' ≤ l + 1 → (∀ k, F' k → F k ∨ Array.size H ≤ k) → Fr (fun k => k = g) H H' → R b H') :
    brackenref15_element.C (some ⟨g, 0, none⟩) n.k n.d n.pre n.loc n.uri n.val n.ap n.al n.ac H R := by
  obtain ⟨s1, s2, s3, s4, s5⟩ := hs
  apply brackenref15_element.calls
  unfold brackenref15_element.W
  have out : ∀ {H'}, Fr noF H H' → R false H' := fun hf => hR false _ F l (sc.old hf) (by omega) (fun k hk => .inl hk) (hf.mono fun _ h => h.elim)
  have LL : ∀ {H'}, Fr noF H H' → AtRd H' L n.ap n.al := fun hf => hL _ (hf.mono fun _ h => h.elim)
  have hLl := (LL (Fr.refl _ _)).1
  refine letV_mk fun H1 h1 => ?_
  have f1 : Fr noF H H1 := by rw [h1]; exact Fr.new _ _ _
  have g1 : H1[Array.size H]? = some (.cells (ndL n).toArray ty_api_Node (0, 0)) := new_part h1
  have z1 : Array.size H1 = Array.size H + 1 := by rw [h1]; exact hnew_size
  clear h1
  refine joinW_mk (fun _ H' => H1 = H') ?_ ?_
  · refine joinW_mk (fun (q : Bool × Unit) H' => H1 = H') ?_ ?_
    · exact ⟨_, nodeAt g1 2 (by omega), _, nodeAt g1 3 (by omega), named_any s1 s2 fun b => brW_mk (fun _ => rfl) (fun _ => ⟨_, nodeAt g1 5 (by omega), rfl⟩)⟩
    · rintro ⟨b, _⟩ _ rfl
      exact brW_mk (fun _ => out f1) (fun _ => rfl)
  rintro _ _ rfl
  refine readNode n (nodeAt g1) (copyNode n fun H13 g13 f13 => ?_)
  have f013 := f1.trans0 f13
  have z13 : Array.size H1 < Array.size H13 := lt_of_blk g13
  refine letV_mk fun H14 h14 => ?_
  have f14 : Fr noF H13 H14 := by rw [h14]; exact Fr.new _ _ _
  have a14 : SlN 4 H14 ty_api_Attr [] (some ⟨Array.size H13, 0, none⟩) 0 0 := ⟨by simp, .inr ⟨_, #[], rfl, new_part h14, by simp, Nat.le_refl _, fun i hi => by omega⟩⟩
  clear h14
  have f014 := f013.trans0 f14
  have g14 := (f13.trans0 f14).blk g1 fun h => h
  have hap : appended H14 4 (.slice n.ap n.al n.ac) n.al (L.map atL).flatten := by
    have hA := LL f014
    refine ⟨rfl, ?_⟩
    have hfl := flatS_len (s := 4) (L.map atL) (fun x hx => by obtain ⟨n, _, rfl⟩ := List.mem_map.1 hx; rfl)
    rw [List.length_map] at hfl
    cases hp : n.ap with
    | none =>
      have h0 : n.al = 0 := by
        rcases Nat.eq_zero_or_pos n.al with h | h
        · exact h
        · obtain ⟨a, ha, _⟩ := hA.2 0 (by omega)
          rw [hp] at ha; cases ha
      exact ⟨h0, List.eq_nil_of_length_eq_zero (by rw [hfl]; omega)⟩
    | some a => exact ⟨by rw [hfl, hLl], fun j v hj => hA.cells a hp j v hj⟩
  refine ⟨_, _, _, nodeAt g14 6 (by omega), ?_⟩
  refine appN a14 rfl hap (by rw [flatS_len (s := 4) _ (fun x hx => by obtain ⟨n, _, rfl⟩ := List.mem_map.1 hx; rfl), List.length_map, hLl]) (atL_one L) (by omega) (by decide) fun mp mc H15 m15 f15 b15 => ?_
  rw [List.nil_append, Nat.zero_add] at m15
  rw [Nat.zero_add]
  have hbm : ∀ k, blkIs mp k → Array.size H13 ≤ k := fun k hk => by
    rcases b15 k hk with ⟨a, ha, e⟩ | h
    · cases ha; exact Nat.le_of_eq e
    · exact Nat.le_trans f14.size h
  have hba : ∀ k, blkIs (some (⟨Array.size H13, 0, none⟩ : Addr)) k → Array.size H13 ≤ k := by
    rintro k ⟨a, ha, e⟩
    cases ha
    exact Nat.le_of_eq e
  have f1315 : Fr noF H13 H15 := f14.trans f15 fun k hk => .inr (hba k hk)
  have g15 := f1315.blk g13 fun h => h
  refine ⟨⟨_, nodeAt g15 6 (by omega)⟩, hfrozen_add g15 0 6, letV_mk fun H16 h16 => ?_⟩
  -- the copy
  obtain ⟨m, hm⟩ : ∃ m : Nd, m = { n with ap := mp, al := n.al, ac := mc } := ⟨_, rfl⟩
  have g16 : H16[Array.size H1]? = some (.cells (ndL m).toArray ty_api_Node (0, 0)) := by rw [hm]; exact set_blk h16 g15
  have f16 := set_fr h16
  clear h16
  have m16 : SlN 4 H16 ty_api_Attr (L.map atL).flatten m.ap m.al m.ac := by
    rw [hm]
    exact m15.keep f16 fun k hk e => by have := hbm k hk; omega
  have hmb : ∀ k, blkIs m.ap k → Array.size H13 ≤ k := by rw [hm]; exact hbm
  have hmal : m.al = n.al := by rw [hm]
  have hmuri : m.uri = n.uri := by rw [hm]
  have f016 : Fr noF H H16 := (f013.trans0 f1315).trans f16 fun k hk => .inr (by omega)
  have n16 : H16[Array.size H]? = some (.cells (ndL n).toArray ty_api_Node (0, 0)) := f16.blk (f1315.blk (f13.blk g1 fun h => h) fun h => h) (by omega)
  have z16 : Array.size H13 ≤ Array.size H16 := Nat.le_trans f1315.size f16.size
  clear hm m15 f15 b15 hbm g15 hap a14 g14 f14 f1315 hba g13
  refine joinW_mk (fun _ H' => ∃ M : List At, SlN 4 H' ty_api_Attr (M.map atL).flatten m.ap m.al m.ac ∧ (∀ q ∈ M, AttOk q) ∧ H'[Array.size H1]? = some (.cells (ndL m).toArray ty_api_Node (0, 0)) ∧ H'[Array.size H]? = some (.cells (ndL n).toArray ty_api_Node (0, 0)) ∧ Fr noF H H' ∧ Array.size H13 ≤ Array.size H') ?_ ?_
  · refine loopW_mk (fun t (q : Int × Unit) H' => ∃ i : Nat, i ≤ m.al ∧ t = m.al - i ∧ q.1 = (i : Int) ∧ ∃ M : List At, SlN 4 H' ty_api_Attr (M.map atL).flatten m.ap m.al m.ac ∧ (∀ q ∈ M, AttOk q) ∧ H'[Array.size H1]? = some (.cells (ndL m).toArray ty_api_Node (0, 0)) ∧ H'[Array.size H]? = some (.cells (ndL n).toArray ty_api_Node (0, 0)) ∧ Fr noF H H' ∧ Array.size H13 ≤ Array.size H') m.al
      ⟨0, Nat.zero_le _, rfl, rfl, L, m16, hLg, g16, n16, f016, z16⟩ ?_
    rintro t ⟨i', _⟩ H18 ⟨i, hi, rfl, hi', M, hM, hMg, g18, n18, f18, z18⟩
    simp only at hi'
    subst hi'
    dsimp only
    refine ⟨_, _, _, nodeAt g18 6 (by omega), brW_dec (fun hlt => ?_) (fun _ => ⟨M, hM, hMg, g18, n18, f18, z18⟩)⟩
    have hlt' : i < m.al := by
      have : (i : Int) < (m.al : Int) := hlt
      omega
    have hML := hM.attrs.1
    have hiM : i < M.length := by omega
    refine joinW_mk (fun _ H' => ∃ M : List At, SlN 4 H' ty_api_Attr (M.map atL).flatten m.ap m.al m.ac ∧ (∀ q ∈ M, AttOk q) ∧ H'[Array.size H1]? = some (.cells (ndL m).toArray ty_api_Node (0, 0)) ∧ H'[Array.size H]? = some (.cells (ndL n).toArray ty_api_Node (0, 0)) ∧ Fr noF H H' ∧ Array.size H13 ≤ Array.size H') ?_ ?_
    · obtain ⟨a, ha, hc⟩ := hM.attrs.2 i hiM
      refine ⟨_, _, _, nodeAt g18 6 (by omega), a, ha, by omega, hlt, ?_⟩
      rw [Int.toNat_natCast]
      refine readAtt M[i] hc (copyAt M[i] fun H25 c25 f25 => ?_)
      obtain ⟨q1, q2, q3, q4, q5⟩ := hMg _ (List.getElem_mem hiM)
      have M25 := hM.old f25
      have g25 := f25.blk g18 fun h => h
      have n25 := f25.blk n18 fun h => h
      have f025 := f18.trans0 f25
      have z25 := Nat.le_trans z18 f25.size
      have cne : ∀ k, blkIs m.ap k → k ≠ Array.size H18 := fun k hk e => by have := hM.blk_lt hk; omega
      refine joinW_mk (fun _ H' => H25 = H') ?_ ?_
      · refine joinW_mk (fun (q : Bool × Unit) H' => H25 = H') ?_ ?_
        · exact ⟨_, atAt c25 0 (by omega), _, atAt c25 1 (by omega), named_any (by show M[i].a.size ≤ _; omega) (by show M[i].b.size ≤ _; omega) fun b => brW_mk (fun _ => rfl) (fun _ => ⟨_, atAt c25 3 (by omega), Valid_any (by show M[i].d.size ≤ _; omega) fun b => rfl⟩)⟩
        · rintro ⟨b, _⟩ _ rfl
          exact brW_mk (fun _ => out f025) (fun _ => rfl)
      rintro _ _ rfl
      refine joinW_mk (fun _ H' => H25 = H') ?_ ?_
      · refine loopW_mk (fun s (q : Int × Unit) H' => H25 = H' ∧ ∃ k : Nat, k ≤ i ∧ s = i - k ∧ q.1 = (k : Int)) i ⟨rfl, 0, Nat.zero_le _, rfl, rfl⟩ ?_
        rintro s ⟨k', _⟩ _ ⟨rfl, k, hk, rfl, hk'⟩
        simp only at hk'
        subst hk'
        dsimp only
        refine brW_dec (fun hki => ?_) (fun _ => rfl)
        have hkl : (k : Int) < (m.al : Int) := by omega
        obtain ⟨b, hb, hd⟩ := M25.attrs.2 k (by omega)
        refine joinW_mk (fun _ H' => H25 = H') ?_ ?_
        · refine joinW_mk (fun (q : Bool × Unit) H' => H25 = H') ?_ ?_
          · exact ⟨_, _, _, nodeAt g25 6 (by omega), b, hb, by omega, hkl, _, by rw [Int.toNat_natCast]; exact hd 0 (by omega), _, atAt c25 0 (by omega), brW_mk (fun _ => ⟨_, _, _, nodeAt g25 6 (by omega), b, hb, by omega, hkl, _, by rw [Int.toNat_natCast]; exact hd 1 (by omega), _, atAt c25 1 (by omega), rfl⟩) (fun _ => rfl)⟩
          · rintro ⟨b, _⟩ _ rfl
            exact brW_mk (fun _ => out f025) (fun _ => rfl)
        · rintro _ _ rfl
          refine letV_mk fun y hy => ⟨i - (k + 1), by omega, rfl, k + 1, by omega, rfl, ?_⟩
          show y = _
          rw [hy, wrap_i64 (by omega) (by omega)]; rfl
      rintro _ _ rfl
      obtain ⟨a', ha', hex, hfz, hput⟩ := M25.putC hiM (⟨#[]⟩ : ByteArray)
      refine ⟨_, _, _, nodeAt g25 6 (by omega), a', ha', by omega, hlt, hex, hfz, letV_mk fun H34 h34 => ?_⟩
      obtain ⟨M34, f34⟩ := hput H34 h34
      clear h34
      have G34 := set_good hiM (u := (⟨#[]⟩ : ByteArray)) (by decide) hMg
      have g34 := f34.blk g25 fun h => by have := hmb _ h; omega
      have n34 := f34.blk n25 fun h => by have := hmb _ h; omega
      have c34 := f34.blk c25 fun h => cne _ h rfl
      have f034 : Fr noF H H34 := f025.trans f34 fun k hk => .inr (by have := hmb k hk; omega)
      have z34 := Nat.le_trans z25 f34.size
      have hi34 : i < (M.set i { M[i] with c := ⟨#[]⟩ }).length := by rw [List.length_set]; exact hiM
      generalize (M.set i { M[i] with c := ⟨#[]⟩ }) = N at M34 G34 hi34
      refine joinW_mk (fun (q : Bool × Unit) H' => H34 = H') ?_ ?_
      · exact ⟨_, atAt c34 0 (by omega), brW_mk (fun _ => rfl) (fun _ => ⟨_, atAt c34 0 (by omega), brW_mk (fun _ => ⟨_, atAt c34 1 (by omega), rfl⟩) (fun _ => rfl)⟩)⟩
      · rintro ⟨b, _⟩ _ rfl
        refine brW_mk (fun _ => ?_) (fun _ => ⟨N, M34, G34, g34, n34, f034, z34⟩)
        obtain ⟨a', ha', hex, hfz, hput⟩ := M34.putC hi34 (⟨#[104, 116, 116, 112, 58, 47, 47, 119, 119, 119, 46, 119, 51, 46, 111, 114, 103, 47, 50, 48, 48, 48, 47, 120, 109, 108, 110, 115, 47]⟩ : ByteArray)
        refine ⟨_, _, _, nodeAt g34 6 (by omega), a', ha', by omega, hlt, hex, hfz, letV_mk fun H36 h36 => ?_⟩
        obtain ⟨M36, f36⟩ := hput H36 h36
        exact ⟨_, M36, set_good hi34 (by decide) G34, f36.blk g34 fun h => by have := hmb _ h; omega, f36.blk n34 fun h => by have := hmb _ h; omega, f034.trans f36 fun k hk => .inr (by have := hmb k hk; omega), Nat.le_trans z34 f36.size⟩
    · rintro _ H19 ⟨N, e1, e2, e3, e4, e5, e6⟩
      refine letV_mk fun y hy => ⟨m.al - (i + 1), by omega, i + 1, by omega, rfl, ?_, N, e1, e2, e3, e4, e5, e6⟩
      show y = _
      rw [hy, wrap_i64 (by omega) (by omega)]; rfl
  rintro _ H17 ⟨M, hM, hMg, g17, n17, f17, z17⟩
  refine ⟨_, _, _, nodeAt g17 6 (by omega), ?_⟩
  refine Push_spec (sc.old f17) hl hM.attrs (by omega) hMg (fun H37 f37 => brW_pos (by decide) (out (f17.trans0 f37))) fun H37 F' sc' hF' f37 => brW_neg (fun h => h rfl) ?_
  have hlt := sc.lt
  have hg : g < Array.size H := by
    obtain ⟨p, c, lv, sk⟩ := sc
    exact sk.lt g sk.fg
  have fr37 : Fr (fun k => k = g) H H37 := (f17.mono fun _ h => h.elim).trans f37 fun k hk => .inl hk
  have g37 := f37.blk g17 (by omega)
  have n37 := f37.blk n17 (by omega)
  have M37 := hM.keep f37 fun k hk e => by have := hmb k hk; omega
  have hFs : ∀ k, F' k → F k ∨ Array.size H ≤ k := fun k hk => (hF' k hk).imp id fun h => Nat.le_trans f17.size h
  refine Names_spec sc' (by omega) m g37 M37 (by omega) hMg ?_ (fun k hk => ⟨fun h => ?_, fun e => ?_⟩) fun b H38 u N hu g38 M38 hNg f38 => ?_
  · intro h
    rcases hF' _ h with h | h
    · have := hlt _ h; omega
    · have := lt_of_blk g17; omega
  · have h1 := hmb k hk
    have h2 := hM.blk_lt hk
    rcases hF' _ h with h | h
    · have := hlt _ h; omega
    · omega
  · have h1 := hmb k hk
    omega
  have n38 := f38.blk n37 (by
    rintro (h | h)
    · omega
    · have := hmb _ h; omega)
  have fr38 : Fr (fun k => k = g) H H38 := fr37.trans f38 fun k hk => by
    rcases hk with rfl | hk
    · exact .inr (by omega)
    · exact .inr (by have := hmb k hk; omega)
  have sc38 : Sc H38 g F' (l + 1) := sc'.keep f38 fun k hk e => by
    rcases e with rfl | e
    · rcases hF' _ hk with h | h
      · have := hlt _ h; omega
      · have := lt_of_blk g17; omega
    · have h1 := hmb k e
      have h2 := hM.blk_lt e
      rcases hF' _ hk with h | h
      · have := hlt _ h; omega
      · omega
  have fin : ∀ b, R b H38 := fun b => hR b H38 F' (l + 1) sc38 (Nat.le_refl _) hFs fr38
  refine brW_mk (fun _ => ⟨_, nodeAt g38 4 (by omega), _, nodeAt n38 4 (by omega), brW_mk (fun _ => ⟨_, _, _, nodeAt g38 6 (by omega), _, _, _, nodeAt n38 6 (by omega), SameAttrs_any M38.attrs (hL _ fr38) (by omega) fun b => fin b⟩) (fun _ => fin _)⟩) (fun _ => fin _)
end Go.Proofs.YtojhnakgmihedaaDoor
