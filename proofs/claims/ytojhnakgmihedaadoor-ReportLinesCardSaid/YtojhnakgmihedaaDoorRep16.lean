import Derived.Test.YtojhnakgmihedaaDoorRep15
/-! Package report: made trees, whole. -/
namespace Go.Proofs.YtojhnakgmihedaaDoor
open Go.Ev
set_option linter.unusedVariables false
set_option maxHeartbeats 8000000 in
theorem Make_spec {H0 : Heap} {zs : List Int} {a : Option Addr} {len cap : Nat} (hrd : Rd H0 (zs.map (Value.int .i64)) a len) {R : Option Addr → Nat → Nat → Heap → Prop}
    (hR : ∀ T p l c H', TreeRd H' T p l → (∃ rest, T = nD :: rest ∧ ∀ n ∈ rest, MkR 32 n) → (∀ n ∈ T, Small n) → l ≤ 64 → Fr noF H0 H' → R p l c H') : brackenlaw16_Make.C a len cap H0 R := by
  have hzl : zs.length = len := by have := hrd.1; simpa using this
  apply brackenlaw16_Make.calls
  unfold brackenlaw16_Make.W
  refine letV_mk fun H1 h1 => ?_
  have f1 : Fr noF H0 H1 := by rw [h1]; exact Fr.new _ _ _
  have g1 : H1[Array.size H0]? = some (.cells (ndL nD).toArray ty_api_Node (0, 0)) := new_part h1
  have z1 : Array.size H1 = Array.size H0 + 1 := by rw [h1]; exact hnew_size
  clear h1
  refine letV_mk fun H2 h2 => ?_
  have f2 : Fr noF H1 H2 := by rw [h2]; exact Fr.new _ _ _
  have sc2 := Sc.new h2
  have g2 := f2.blk g1 fun h => h
  clear h2
  have I0 : MkI H0 (Array.size H1) 0 [nD] (fun k => k = Array.size H1) 0 (some ⟨Array.size H0, 0, none⟩) 1 1 H2 := by
    refine ⟨⟨rfl, .inr ⟨_, _, rfl, g2, rfl, Nat.le_refl _, fun i hi => by rw [List.getElem?_toArray]; simp⟩⟩, ⟨[], rfl, by simp⟩, Nat.le_refl _, sc2, Nat.le_refl _, ?_, ?_, by omega, f1.trans0 f2⟩
    · rintro k rfl ⟨x, hx, e⟩
      cases hx
      simp only at e
      omega
    · rintro k ⟨x, hx, e⟩
      cases hx
      exact Nat.le_of_eq e
  generalize Array.size H1 = g at I0 ⊢
  clear sc2 g2 f2 g1 z1 f1
  refine joinW_mk (fun (q : (Option Addr × Nat × Nat) × Bool × Unit) H' => ∃ T F s i, i ≤ 30 ∧ MkI H0 g i T F s q.1.1 q.1.2.1 q.1.2.2 H') ?_ ?_
  · refine loopW_mk (fun t (q : (Option Addr × Nat × Nat) × Bool × Int × Unit) H' => ∃ T F s i, i ≤ 30 ∧ t = 30 - i ∧ q.2.2.1 = (i : Int) ∧ MkI H0 g i T F s q.1.1 q.1.2.1 q.1.2.2 H') 30 ⟨[nD], _, 0, 0, by decide, rfl, rfl, I0⟩ ?_
    rintro t ⟨⟨tp, tl, tc⟩, root, i', _⟩ H5 ⟨T, F, s, i, hi, rfl, hi', I⟩
    simp only at hi' I
    subst hi'
    dsimp only
    refine joinW_mk (fun _ H' => H5 = H' ∧ i < len ∧ i < 30) ?_ ?_
    · exact brW_dec (fun hlt => brW_dec (fun h30 => ⟨rfl, by omega, by omega⟩) (fun _ => ⟨T, F, s, i, hi, I⟩)) (fun _ => ⟨T, F, s, i, hi, I⟩)
    rintro _ _ ⟨rfl, hil, h30⟩
    refine joinW_mk (fun (q : (Option Addr × Nat × Nat) × Bool × Unit) H' => ∃ T F s, MkI H0 g (i + 1) T F s q.1.1 q.1.2.1 q.1.2.2 H') ?_ ?_
    · have hiz : i < zs.length := by omega
      obtain ⟨az, haz, hcz⟩ := (hrd.old I.fr).get (i := i) (v := .int .i64 zs[i]) (by rw [List.getElem?_map, List.getElem?_eq_getElem hiz]; rfl)
      refine ⟨az, haz, by omega, by omega, _, by rw [Int.toNat_natCast]; exact hcz, letV_mk fun u hu => ?_⟩
      have htl := I.tl
      obtain ⟨rest, eT, hrest⟩ := I.head
      have hpos : 0 < T.length := by rw [eT]; simp
      have hlen := I.len
      have e1 : IntKind.i64.wrap ((tl : Int) - 1) = ((tl - 1 : Nat) : Int) := by rw [wrap_i64 (by omega) (by omega)]; omega
      rw [e1]
      have hlt1 : tl - 1 < T.length := by omega
      obtain ⟨aT, haT, hcT⟩ := I.tree.tree.2 (tl - 1) hlt1
      have hlast : (T[tl - 1].k = 1 ∧ T[tl - 1].d = 0) ∨ (2 ≤ T[tl - 1].k ∧ 1 ≤ T[tl - 1].d ∧ T[tl - 1].d ≤ (i : Int)) := by
        have hm : T[tl - 1] ∈ T := List.getElem_mem hlt1
        generalize T[tl - 1] = x at hm
        rw [eT] at hm
        rcases List.mem_cons.1 hm with rfl | hm
        · exact .inl ⟨rfl, rfl⟩
        · obtain ⟨⟨k1, _, k3, k4, _⟩, _⟩ := hrest x hm
          exact .inr ⟨k1, k3, k4⟩
      refine ⟨aT, haT, by omega, by omega, ?_⟩
      rw [Int.toNat_natCast]
      refine readNode T[tl - 1] hcT (copyNode T[tl - 1] fun H15 g15 f15 => ⟨_, nodeAt g15 1 (by omega), ?_⟩)
      generalize T[tl - 1] = last at hlast g15 ⊢
      refine joinW_mk (fun (q : Int × Unit) H' => H15 = H' ∧ 1 ≤ q.1 ∧ q.1 ≤ (i : Int) + 1) ?_ ?_
      · refine joinW_mk (fun (q : Bool × Unit) H' => H15 = H' ∧ (q.1 = false → last.k ≠ 1)) ?_ ?_
        · exact ⟨_, nodeAt g15 0 (by omega), brW_dec (fun _ => ⟨rfl, fun h => (by cases h)⟩) (fun _ => ⟨_, nodeAt g15 0 (by omega), rfl, fun h => of_decide_eq_false h⟩)⟩
        · rintro ⟨b, _⟩ _ ⟨rfl, hb⟩
          refine brW_mk (fun _ => letV_mk fun y hy => ?_) (fun h => ?_)
          · rw [wrap_i64 (by omega) (by omega)] at hy
            subst hy
            refine ⟨rfl, ?_, ?_⟩
            · show 1 ≤ last.d + 1; omega
            · show last.d + 1 ≤ (i : Int) + 1; omega
          · have := hb h
            refine ⟨rfl, ?_, ?_⟩
            · show 1 ≤ last.d; omega
            · show last.d ≤ (i : Int) + 1; omega
      rintro ⟨top, _⟩ _ ⟨rfl, ht1, ht2⟩
      simp only at ht1 ht2
      dsimp only
      refine ⟨by decide, by decide, letV_mk fun d0 hd0 => ?_⟩
      obtain ⟨r, hr, er⟩ := dMod zs[i]
      rw [hu, er, wrap_i64 (by omega) (by omega)] at hd0
      refine joinW_mk (fun (q : Int × Unit) H' => H15 = H' ∧ 1 ≤ q.1 ∧ q.1 ≤ (i : Int) + 1) ?_ ?_
      · refine brW_dec (fun h => ⟨rfl, ?_, ?_⟩) (fun h => ⟨rfl, ?_, ?_⟩)
        · show (1 : Int) ≤ 1; omega
        · show (1 : Int) ≤ (i : Int) + 1; omega
        · show 1 ≤ d0; omega
        · show d0 ≤ (i : Int) + 1; omega
      clear hd0 er hr
      rintro ⟨d1, _⟩ _ ⟨rfl, hd1, hd2⟩
      simp only at hd1 hd2
      dsimp only
      refine joinW_mk (fun (q : Int × Unit) H' => H15 = H' ∧ 1 ≤ q.1 ∧ q.1 ≤ (i : Int) + 1) ?_ ?_
      · refine joinW_mk (fun (q : Bool × Unit) H' => H15 = H') ?_ ?_
        · exact brW_mk (fun _ => brW_mk (fun _ => ⟨by decide, rfl⟩) (fun _ => rfl)) (fun _ => rfl)
        · rintro ⟨b, _⟩ _ rfl
          refine brW_mk (fun _ => letV_mk fun y hy => ⟨rfl, ?_, ?_⟩) (fun _ => ⟨rfl, hd1, hd2⟩)
          · show 1 ≤ y; rw [hy]; omega
          · show y ≤ (i : Int) + 1; rw [hy]; omega
      clear hd1 hd2
      rintro ⟨d, _⟩ _ ⟨rfl, hd1, hd2⟩
      simp only at hd1 hd2
      dsimp only
      have hgF := I.sc.blk.1
      have hg5 : g < Array.size H5 := I.sc.lt g hgF
      -- the levels that are closed
      refine joinW_mk (fun _ H' => Fr (fun k => k = g) H5 H' ∧ H'[Array.size H5]? = some (.cells (ndL last).toArray ty_api_Node (0, 0)) ∧ ∃ s', Sc H' g F s' ∧ s' ≤ i) ?_ ?_
      · refine loopW_mk (fun s' (q : Unit) H' => Fr (fun k => k = g) H5 H' ∧ H'[Array.size H5]? = some (.cells (ndL last).toArray ty_api_Node (0, 0)) ∧ Sc H' g F s' ∧ s' ≤ i) s ⟨f15.mono fun _ h => h.elim, g15, I.sc.old f15, I.lv⟩ ?_
        rintro s' _ H22 ⟨f22, g22, sc22, hs22⟩
        have sc22' := sc22
        obtain ⟨sp, scap, lv, sk⟩ := sc22'
        refine ⟨_, rfl, _, _, _, (hcell_add sk.blk 0 0).trans rfl, brW_dec (fun hle => ?_) (fun hgt => ⟨f22, g22, s', sc22, hs22⟩)⟩
        exact Pop_spec sc22 (by omega) fun b H23 sc23 f23 => ⟨s' - 1, by omega, f22.trans f23 fun k hk => .inl hk, f23.blk g22 (by omega), sc23, by omega⟩
      rintro _ H21 ⟨f21, gl21, s2, sc21, hs2⟩
      have cont : ∀ H' F' s', Fr (fun k => k = g) H21 H' → Sc H' g F' s' → s' ≤ i + 1 → (∀ k, F' k → F k ∨ Array.size H21 ≤ k) → ∃ T F s, MkI H0 g (i + 1) T F s tp tl tc H' := fun H' F' s' hf hs hl hF =>
        ⟨T, F', s', I.on (f21.trans hf fun k hk => .inl hk) hs hl fun k hk => (hF k hk).imp id fun h => Nat.le_trans f21.size h⟩
      have cont0 : ∀ {H'}, Fr noF H21 H' → ∃ T F s, MkI H0 g (i + 1) T F s tp tl tc H' := fun {H'} hf => cont H' F s2 (hf.mono fun _ h => h.elim) (sc21.old hf) (by omega) fun k hk => .inl hk
      have hd2' : d ≤ ((i + 1 : Nat) : Int) := by omega
      refine copyNode ⟨0, d, ⟨#[]⟩, ⟨#[]⟩, ⟨#[]⟩, ⟨#[]⟩, none, 0, 0⟩ fun H32 g32 f32 => ?_
      have mkp : ∀ {k : Int} {loc val : ByteArray} {H'}, 2 ≤ k → k ≤ 5 → loc.size ≤ 100 → noNL loc → val.size ≤ 100 → Fr noF H21 H' → H'[Array.size H21]? = some (.cells (ndL ⟨k, d, ⟨#[]⟩, loc, ⟨#[]⟩, val, none, 0, 0⟩).toArray ty_api_Node (0, 0)) → PJ H21 g i F H' := fun {k loc val H'} k2 k5 l1 l2 v1 hf hb =>
        ⟨⟨k, d, ⟨#[]⟩, loc, ⟨#[]⟩, val, none, 0, 0⟩, F, s2, hb, mkR_mk k2 k5 hd1 hd2' noNL_nil l2 noNL_nil, ⟨small_mk (by decide) l1 (by decide) v1 (by decide), Nat.zero_le _, [], SlN.nil _ _ _, by simp⟩, hf.mono fun _ h => h.elim, sc21.old hf, by omega, fun k hk => .inl hk⟩
      refine joinW_mk (fun (q : Bool × Unit) H' => PJ H21 g i F H') ?_ ?_
      · refine ⟨by decide, letV_mk fun k12 _ => brW_mk (fun _ => ?_) (fun _ => brW_mk (fun _ => ?_) (fun _ => brW_mk (fun _ => ?_) (fun _ => ?_)))⟩
        · refine joinW_mk (fun _ H' => H32 = H') ?_ ?_
          · exact brW_mk (fun _ => brW_mk (fun _ => cont0 f32) (fun _ => rfl)) (fun _ => rfl)
          rintro _ _ rfl
          exact elem_part sc21 hs2 hi d u hd1 hd2' g32 f32 (fun H' F' s' a b c d => cont H' F' s' a b c d) (fun H' h => brW_mk (fun _ => h) (fun _ => h))
        · refine letV_mk fun H50 h50 => ⟨by decide, by decide, ?_⟩
          have f50 : Fr noF H32 H50 := by rw [h50]; exact Fr.new _ _ _
          have t50 := new_part h50
          clear h50
          obtain ⟨b1, b2⟩ := tmodB (Int.tdiv u 8) (N := 6) (by decide)
          obtain ⟨x, hx, hxc⟩ := pickG [⟨#[120]⟩, ⟨#[32, 121, 10]⟩, ⟨#[60, 38, 62, 34]⟩, ⟨#[13, 9]⟩, ⟨#[195, 169, 93, 93, 62]⟩, ⟨#[116, 101, 120, 116]⟩] t50 b1 b2
          have hxg : x.size ≤ 100 := by
            simp only [List.mem_cons, List.not_mem_nil, or_false] at hx
            rcases hx with rfl | rfl | rfl | rfl | rfl | rfl <;> decide
          have g50 := f50.blk g32 fun h => h
          refine ⟨_, rfl, b1, b2, _, hxc, ⟨_, nodeAt g50 0 (by omega)⟩, hfrozen_add g50 0 0, letV_mk fun H51 h51 => ?_⟩
          have g51 : H51[Array.size H21]? = some (.cells (ndL ⟨3, d, ⟨#[]⟩, ⟨#[]⟩, ⟨#[]⟩, ⟨#[]⟩, none, 0, 0⟩).toArray ty_api_Node (0, 0)) := set_blk h51 g50
          have f51 : Fr noF H21 H51 := (f32.trans0 f50).trans (set_fr h51) fun k hk => .inr (by omega)
          clear h51
          refine ⟨⟨_, nodeAt g51 5 (by omega)⟩, hfrozen_add g51 0 5, letV_mk fun H52 h52 => ?_⟩
          have g52 : H52[Array.size H21]? = some (.cells (ndL ⟨3, d, ⟨#[]⟩, ⟨#[]⟩, ⟨#[]⟩, x, none, 0, 0⟩).toArray ty_api_Node (0, 0)) := set_blk h52 g51
          have f52 : Fr noF H21 H52 := f51.trans (set_fr h52) fun k hk => .inr (by omega)
          clear h52
          have gl52 := f52.blk gl21 fun h => h
          have pj := mkp (by decide) (by decide) (by decide) noNL_nil hxg f52 g52
          exact brW_mk (fun _ => cont0 f52) (fun _ => ⟨_, nodeAt gl52 0 (by omega), brW_mk (fun _ => ⟨_, nodeAt gl52 1 (by omega), brW_mk (fun _ => cont0 f52) (fun _ => pj)⟩) (fun _ => pj)⟩)
        · refine letV_mk fun H53 h53 => ⟨by decide, by decide, ?_⟩
          have f53 : Fr noF H32 H53 := by rw [h53]; exact Fr.new _ _ _
          have t53 := new_part h53
          clear h53
          obtain ⟨b1, b2⟩ := tmodB (Int.tdiv u 8) (N := 4) (by decide)
          obtain ⟨x, hx, hxc⟩ := pickG [⟨#[]⟩, ⟨#[99]⟩, ⟨#[32, 45, 32]⟩, ⟨#[60, 38, 62]⟩] t53 b1 b2
          have hxg : x.size ≤ 100 := by
            simp only [List.mem_cons, List.not_mem_nil, or_false] at hx
            rcases hx with rfl | rfl | rfl | rfl <;> decide
          have g53 := f53.blk g32 fun h => h
          refine ⟨_, rfl, b1, b2, _, hxc, ⟨_, nodeAt g53 0 (by omega)⟩, hfrozen_add g53 0 0, letV_mk fun H54 h54 => ?_⟩
          have g54 : H54[Array.size H21]? = some (.cells (ndL ⟨4, d, ⟨#[]⟩, ⟨#[]⟩, ⟨#[]⟩, ⟨#[]⟩, none, 0, 0⟩).toArray ty_api_Node (0, 0)) := set_blk h54 g53
          have f54 : Fr noF H21 H54 := (f32.trans0 f53).trans (set_fr h54) fun k hk => .inr (by omega)
          clear h54
          refine ⟨⟨_, nodeAt g54 5 (by omega)⟩, hfrozen_add g54 0 5, letV_mk fun H55 h55 => ?_⟩
          have g55 : H55[Array.size H21]? = some (.cells (ndL ⟨4, d, ⟨#[]⟩, ⟨#[]⟩, ⟨#[]⟩, x, none, 0, 0⟩).toArray ty_api_Node (0, 0)) := set_blk h55 g54
          have f55 : Fr noF H21 H55 := f54.trans (set_fr h55) fun k hk => .inr (by omega)
          exact mkp (by decide) (by decide) (by decide) noNL_nil hxg f55 g55
        · obtain ⟨b1, b2⟩ := tmodB (Int.tdiv u 8) (N := 2) (by decide)
          obtain ⟨c1, c2⟩ := tmodB (Int.tdiv u 16) (N := 3) (by decide)
          have fin : ∀ {x y : ByteArray} {H'}, x.size ≤ 100 → noNL x → y.size ≤ 100 → Fr noF H32 H' → (∃ u, hcell H' ((⟨Array.size H21, 0, none⟩ : Addr).add 0) = some u) ∧ hfrozen H' ((⟨Array.size H21, 0, none⟩ : Addr).add 0) = false ∧
              letV (hset H' ((⟨Array.size H21, 0, none⟩ : Addr).add 0) (.int .i64 5)) fun H58 : Heap => (∃ u, hcell H58 ((⟨Array.size H21, 0, none⟩ : Addr).add 3) = some u) ∧ hfrozen H58 ((⟨Array.size H21, 0, none⟩ : Addr).add 3) = false ∧
              letV (hset H58 ((⟨Array.size H21, 0, none⟩ : Addr).add 3) (.string x)) fun H59 : Heap => (∃ u, hcell H59 ((⟨Array.size H21, 0, none⟩ : Addr).add 5) = some u) ∧ hfrozen H59 ((⟨Array.size H21, 0, none⟩ : Addr).add 5) = false ∧
              letV (hset H59 ((⟨Array.size H21, 0, none⟩ : Addr).add 5) (.string y)) fun H60 : Heap => PJ H21 g i F H60 := by
            intro x y H' hx1 hx2 hy hf
            have g57 := hf.blk g32 fun h => h
            refine ⟨⟨_, nodeAt g57 0 (by omega)⟩, hfrozen_add g57 0 0, letV_mk fun H58 h58 => ?_⟩
            have g58 : H58[Array.size H21]? = some (.cells (ndL ⟨5, d, ⟨#[]⟩, ⟨#[]⟩, ⟨#[]⟩, ⟨#[]⟩, none, 0, 0⟩).toArray ty_api_Node (0, 0)) := set_blk h58 g57
            have f58 : Fr noF H21 H58 := (f32.trans0 hf).trans (set_fr h58) fun k hk => .inr (by omega)
            clear h58
            refine ⟨⟨_, nodeAt g58 3 (by omega)⟩, hfrozen_add g58 0 3, letV_mk fun H59 h59 => ?_⟩
            have g59 : H59[Array.size H21]? = some (.cells (ndL ⟨5, d, ⟨#[]⟩, x, ⟨#[]⟩, ⟨#[]⟩, none, 0, 0⟩).toArray ty_api_Node (0, 0)) := set_blk h59 g58
            have f59 : Fr noF H21 H59 := f58.trans (set_fr h59) fun k hk => .inr (by omega)
            clear h59
            refine ⟨⟨_, nodeAt g59 5 (by omega)⟩, hfrozen_add g59 0 5, letV_mk fun H60 h60 => ?_⟩
            have g60 : H60[Array.size H21]? = some (.cells (ndL ⟨5, d, ⟨#[]⟩, x, ⟨#[]⟩, y, none, 0, 0⟩).toArray ty_api_Node (0, 0)) := set_blk h60 g59
            have f60 : Fr noF H21 H60 := f59.trans (set_fr h60) fun k hk => .inr (by omega)
            exact mkp (by decide) (by decide) hx1 hx2 hy f60 g60
          have ok1 : ∀ x, x ∈ ([⟨#[112, 105]⟩, ⟨#[113]⟩] : List ByteArray) → x.size ≤ 100 ∧ noNL x := fun x hx => by
            simp only [List.mem_cons, List.not_mem_nil, or_false] at hx
            rcases hx with rfl | rfl <;> exact ⟨by decide, by unfold noNL; decide⟩
          have ok2 : ∀ x, x ∈ ([⟨#[]⟩, ⟨#[100]⟩, ⟨#[97, 32, 63, 32, 62]⟩] : List ByteArray) → x.size ≤ 100 := fun x hx => by
            simp only [List.mem_cons, List.not_mem_nil, or_false] at hx
            rcases hx with rfl | rfl | rfl <;> decide
          refine ⟨by decide, by decide, by decide, by decide, letV_mk fun H56 h56 => ?_, letV_mk fun H61 h61 => ?_⟩
          · have f56 : Fr noF H32 H56 := by rw [h56]; exact Fr.new _ _ _
            have t56 := new_part h56
            clear h56
            obtain ⟨x, hx, hxc⟩ := pickG [⟨#[112, 105]⟩, ⟨#[113]⟩] t56 b1 b2
            refine ⟨_, rfl, b1, b2, _, hxc, letV_mk fun H57 h57 => ?_⟩
            have f57 : Fr noF H56 H57 := by rw [h57]; exact Fr.new _ _ _
            have t57 := new_part h57
            clear h57
            obtain ⟨y, hy, hyc⟩ := pickG [⟨#[]⟩, ⟨#[100]⟩, ⟨#[97, 32, 63, 32, 62]⟩] t57 c1 c2
            exact ⟨⟨_, f57.cell hxc fun h => h, rfl⟩, _, rfl, c1, c2, _, hyc, fin (ok1 x hx).1 (ok1 x hx).2 (ok2 y hy) (f56.trans0 f57)⟩
          · have f61 : Fr noF H32 H61 := by rw [h61]; exact Fr.new _ _ _
            have t61 := new_part h61
            clear h61
            obtain ⟨y, hy, hyc⟩ := pickG [⟨#[]⟩, ⟨#[100]⟩, ⟨#[97, 32, 63, 32, 62]⟩] t61 c1 c2
            refine ⟨_, rfl, c1, c2, _, hyc, letV_mk fun H62 h62 => ?_⟩
            have f62 : Fr noF H61 H62 := by rw [h62]; exact Fr.new _ _ _
            have t62 := new_part h62
            clear h62
            obtain ⟨x, hx, hxc⟩ := pickG [⟨#[112, 105]⟩, ⟨#[113]⟩] t62 b1 b2
            exact ⟨⟨_, f62.cell hyc fun h => h, rfl⟩, _, rfl, b1, b2, _, hxc, fin (ok1 x hx).1 (ok1 x hx).2 (ok2 y hy) (f61.trans0 f62)⟩
      · rintro ⟨root', _⟩ H33 ⟨n, F', s', g33, hnR, hnM, f33, sc33, hs33, hF33⟩
        have I33 := I.on (f21.trans f33 fun k hk => .inl hk) sc33 hs33 fun k hk => (hF33 k hk).imp id fun h => Nat.le_trans f21.size h
        refine readNode n (nodeAt g33) ?_
        exact I33.app hlen hi hnR hnM fun p' l' c' H'' T' h => ⟨T', F', s', h⟩
    · rintro ⟨⟨tp', tl', tc'⟩, root', _⟩ H6 ⟨T', F', s', h⟩
      dsimp only at h ⊢
      refine letV_mk fun y hy => ⟨30 - (i + 1), by omega, T', F', s', i + 1, by omega, rfl, ?_, h⟩
      show y = _
      rw [hy, wrap_i64 (by omega) (by omega)]; rfl
  rintro ⟨⟨tp, tl, tc⟩, root, _⟩ H3 ⟨T, F, s, i, hi, I⟩
  dsimp only at I ⊢
  refine joinW_mk (fun (q : (Option Addr × Nat × Nat) × Unit) H' => ∃ T F s, MkI H0 g (i + 1) T F s q.1.1 q.1.2.1 q.1.2.2 H') ?_ ?_
  · have I' := I.on (Fr.refl (fun k => k = g) H3) I.sc (by have := I.lv; omega) (fun k hk => .inl hk)
    refine brW_mk (fun _ => ?_) (fun _ => ⟨T, F, s, I'⟩)
    exact I'.app (n := ⟨2, 1, ⟨#[]⟩, ⟨#[114]⟩, ⟨#[]⟩, ⟨#[]⟩, none, 0, 0⟩) I.len hi (mkR_mk (by decide) (by decide) (by decide) (by omega) noNL_nil (by unfold noNL; decide) noNL_nil) ⟨small_mk (by decide) (by decide) (by decide) (by decide) (by decide), Nat.zero_le _, [], SlN.nil _ _ _, by simp⟩ fun p' l' c' H'' T' h => ⟨T', F, s, h⟩
  rintro ⟨⟨tp', tl', tc'⟩, _⟩ H68 ⟨T', F', s', I'⟩
  dsimp only at I' ⊢
  have ht' := I'.tree.tree
  refine May_any ht' I'.tree_good fun b H71 f71 => brW_mk (fun _ => letV_mk fun H72 h72 => ?_) (fun _ => ?_)
  · have f72 : Fr noF H71 H72 := by rw [h72]; exact Fr.new _ _ _
    have g72 := new_part h72
    clear h72
    refine hR [nD, ⟨2, 1, ⟨#[]⟩, ⟨#[114]⟩, ⟨#[]⟩, ⟨#[]⟩, none, 0, 0⟩] _ _ _ _ (TreeRd.blk (t := [nD, ⟨2, 1, ⟨#[]⟩, ⟨#[114]⟩, ⟨#[]⟩, ⟨#[]⟩, none, 0, 0⟩]) g72 fun i hi => by rw [List.getElem?_toArray]; rfl) ⟨_, rfl, fun n hn => ?_⟩ (fun n hn => ?_) (by decide) ((I'.fr.trans0 f71).trans0 f72)
    · rw [List.mem_singleton.1 hn]
      exact mkR_mk (by decide) (by decide) (by decide) (by decide) noNL_nil (by unfold noNL; decide) noNL_nil
    · simp only [List.mem_cons, List.not_mem_nil, or_false] at hn
      rcases hn with rfl | rfl
      · exact small_mk (by decide) (by decide) (by decide) (by decide) (by decide)
      · exact small_mk (by decide) (by decide) (by decide) (by decide) (by decide)
  · obtain ⟨rest, e, hr⟩ := I'.head
    have h1 := I'.len
    have h2 := I'.tl
    exact hR T' _ _ _ _ (ht'.old f71) ⟨rest, e, fun n hn => (hr n hn).1.up (by omega)⟩ (fun n hn => (I'.tree_good n hn).1) (by omega) (I'.fr.trans0 f71)
end Go.Proofs.YtojhnakgmihedaaDoor
