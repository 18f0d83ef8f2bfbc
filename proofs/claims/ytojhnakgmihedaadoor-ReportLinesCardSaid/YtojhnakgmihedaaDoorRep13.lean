import Derived.Test.YtojhnakgmihedaaDoorRep12
/-! Package report: which trees may be: any answer, nothing old turned. -/
namespace Go.Proofs.YtojhnakgmihedaaDoor
open Go.Ev
set_option linter.unusedVariables false
def NdGood (H : Heap) (n : Nd) : Prop := Small n ∧ n.al ≤ 8 ∧ ∃ L : List At, AtRd H L n.ap n.al ∧ ∀ q ∈ L, AttOk q
theorem NdGood.old {H H' : Heap} {n : Nd} (h : NdGood H n) (hf : Fr noF H H') : NdGood H' n := by
  obtain ⟨h1, h2, L, h3, h4⟩ := h
  exact ⟨h1, h2, L, h3.old hf, h4⟩
set_option maxHeartbeats 4000000 in
theorem May_any {H : Heap} {t : List Nd} {p : Option Addr} {l c : Nat} (ht : TreeRd H t p l) (hn : ∀ n ∈ t, NdGood H n) {R : Bool → Heap → Prop} (hR : ∀ b H', Fr noF H H' → R b H') : brackenref15_May.C p l c H R := by
  have hlen := ht.1
  apply brackenref15_May.calls
  unfold brackenref15_May.W
  refine joinW_mk (fun _ H' => Fr noF H H' ∧ 1 ≤ l ∧ l ≤ 1048576) ?_ ?_
  · refine joinW_mk (fun (q : Bool × Unit) H' => Fr noF H H' ∧ (q.1 = false → 1 ≤ l ∧ l ≤ 1048576)) ?_ ?_
    · refine brW_dec (fun _ => ⟨Fr.refl _ _, fun h => by cases h⟩) (fun h1 => brW_dec (fun _ => ⟨Fr.refl _ _, fun h => by cases h⟩) (fun h2 => ?_))
      have h0 : 0 < t.length := by omega
      obtain ⟨a, ha, hc⟩ := ht.2 0 h0
      obtain ⟨_, hal, L, hL, _⟩ := hn _ (List.getElem_mem h0)
      refine ⟨a, ha, by decide, by omega, readNode t[0] hc ?_⟩
      exact SameNode_any t[0] nD hL (M := []) ⟨rfl, fun i hi => absurd hi (Nat.not_lt_zero i)⟩ (by omega) fun b H' hf => ⟨hf, fun _ => by omega⟩
    · rintro ⟨b, _⟩ H' ⟨hf, hb⟩
      exact brW_mk (fun _ => hR _ _ hf) (fun h => ⟨hf, hb h⟩)
  rintro _ H1 ⟨hf1, hl1, hl2⟩
  have ht1 := ht.old hf1
  have hn1 : ∀ n ∈ t, NdGood H1 n := fun n hm => (hn n hm).old hf1
  clear ht hn
  refine letV_mk fun H4 h4 => ?_
  have f4 : Fr noF H1 H4 := by rw [h4]; exact Fr.new _ _ _
  have sc4 := Sc.new h4
  clear h4
  generalize hgg : Array.size H1 = g at sc4 ⊢
  have out : ∀ {b H'}, Fr noF H1 H' → R b H' := fun hf => hR _ _ (hf1.trans0 hf)
  refine joinW_mk (fun (q : Int × Unit) H' => Fr noF H1 H') ?_ ?_
  · refine loopW_mk (fun s (q : Int × Int × Unit) H' => Fr noF H1 H' ∧ (∃ F l', Sc H' g F l' ∧ l' ≤ 201 ∧ ∀ k, F k → g ≤ k) ∧ ∃ i : Nat, 1 ≤ i ∧ i ≤ l ∧ s = l - i ∧ q.2.1 = (i : Int)) (l - 1) ⟨f4, ⟨_, 0, sc4, by decide, fun k hk => by omega⟩, 1, Nat.le_refl _, hl1, rfl, rfl⟩ ?_
    rintro s ⟨roots, i', _⟩ H6 ⟨f6, ⟨F, l', sc6, hl6, hF6⟩, i, hi1, hil, rfl, hi'⟩
    simp only at hi'
    subst hi'
    dsimp only
    refine brW_dec (fun hlt => ?_) (fun _ => f6)
    have hit : i < t.length := by omega
    obtain ⟨hsm, hal, L, hL, hLg⟩ := hn1 _ (List.getElem_mem hit)
    have e1 : IntKind.i64.wrap ((i : Int) - 1) = ((i - 1 : Nat) : Int) := by rw [wrap_i64 (by omega) (by omega)]; omega
    rw [e1]
    refine joinW_mk (fun (q : Int × Unit) H' => Fr noF H1 H' ∧ ∃ F l', Sc H' g F l' ∧ l' ≤ 201 ∧ ∀ k, F k → g ≤ k) ?_ ?_
    · obtain ⟨a, ha, hc⟩ := (ht1.old f6).2 i hit
      refine ⟨a, ha, by omega, by omega, ?_⟩
      rw [Int.toNat_natCast]
      refine readNode t[i] hc (copyNode t[i] fun H16 g16 f16 => ?_)
      have f16' := f6.trans0 f16
      have gnb : g ≠ Array.size H6 := by
        intro e
        obtain ⟨p, c, lv, sk⟩ := sc6
        have := sk.lt g sk.fg
        omega
      rw [Int.toNat_natCast]
      refine joinW_mk (fun _ H' => H16 = H' ∧ 1 ≤ t[i].d ∧ t[i].d ≤ 201) ?_ ?_
      · refine joinW_mk (fun (q : Bool × Unit) H' => H16 = H' ∧ (q.1 = false → 1 ≤ t[i].d ∧ t[i].d ≤ 201)) ?_ ?_
        · obtain ⟨b, hb, hd⟩ := (ht1.old f16').2 (i - 1) (by omega)
          refine ⟨_, nodeAt g16 1 (by omega), brW_dec (fun _ => ⟨rfl, fun h => by cases h⟩) (fun k1 => ⟨_, nodeAt g16 1 (by omega), brW_dec (fun _ => ⟨rfl, fun h => by cases h⟩) (fun k2 => ?_)⟩)⟩
          have hok : 1 ≤ t[i].d ∧ t[i].d ≤ 201 := ⟨by omega, by omega⟩
          exact ⟨_, nodeAt g16 1 (by omega), b, hb, by omega, by omega, _, hd 1 (by omega), brW_mk (fun _ => ⟨rfl, fun _ => hok⟩) (fun _ => ⟨_, nodeAt g16 1 (by omega), b, hb, by omega, by omega, _, hd 1 (by omega), brW_mk (fun _ => ⟨b, hb, by omega, by omega, _, hd 0 (by omega), brW_mk (fun _ => ⟨b, hb, by omega, by omega, _, hd 0 (by omega), rfl, fun _ => hok⟩) (fun _ => ⟨rfl, fun _ => hok⟩)⟩) (fun _ => ⟨rfl, fun _ => hok⟩)⟩)⟩
        · rintro ⟨b, _⟩ _ ⟨rfl, hb⟩
          exact brW_mk (fun _ => out f16') (fun h => ⟨rfl, hb h⟩)
      rintro _ _ ⟨rfl, hd1, hd2⟩
      refine joinW_mk (fun _ H' => Fr noF H1 H' ∧ (∃ l', Sc H' g F l' ∧ l' ≤ 200) ∧ H'[Array.size H6]? = some (.cells (ndL t[i]).toArray ty_api_Node (0, 0))) ?_ ?_
      · refine loopW_mk (fun s (q : Unit) H' => Fr noF H1 H' ∧ Sc H' g F s ∧ s ≤ 201 ∧ H'[Array.size H6]? = some (.cells (ndL t[i]).toArray ty_api_Node (0, 0))) l' ⟨f16', sc6.old f16, hl6, g16⟩ ?_
        rintro s _ H20 ⟨f20, sc20, hs20, g20⟩
        have sc20' := sc20
        obtain ⟨sp, scap, lv, sk⟩ := sc20'
        refine ⟨_, rfl, _, _, _, (hcell_add sk.blk 0 0).trans rfl, _, nodeAt g20 1 (by omega), brW_dec (fun hle => ?_) (fun hgt => ⟨f20, ⟨s, sc20, by omega⟩, g20⟩)⟩
        refine Pop_spec sc20 (by omega) fun b H21 sc21 f21 => ⟨s - 1, by omega, ?_, sc21, by omega, f21.blk g20 fun e => gnb e.symm⟩
        exact f20.trans f21 fun k hk => .inr (by omega)
      rintro _ H19 ⟨f19, ⟨l2, sc19, hl19⟩, g19⟩
      refine ⟨_, nodeAt g19 0 (by omega), brW_mk (fun _ => ?_) (fun _ => ?_)⟩
      · refine readNode t[i] (nodeAt g19) ?_
        refine element_any sc19 (by omega) t[i] hsm (L := L) (fun H' hf => hL.old (f19.trans hf fun k hk => .inr (by omega))) hal hLg fun b H22 F' l3 sc22 hl3 hF' f22 => ?_
        have f22' : Fr noF H1 H22 := f19.trans f22 fun k hk => .inr (by omega)
        have g22 := f22.blk g19 fun e => gnb e.symm
        have hF'' : ∀ k, F' k → g ≤ k := fun k hk => by
          rcases hF' k hk with h | h
          · exact hF6 k h
          · have := f19.size; omega
        exact brW_mk (fun _ => out f22') (fun _ => ⟨_, nodeAt g22 1 (by omega), brW_mk (fun _ => letV_mk fun y _ => ⟨f22', F', l3, sc22, by omega, hF''⟩) (fun _ => ⟨f22', F', l3, sc22, by omega, hF''⟩)⟩)
      · have done : ∀ {H'}, Fr noF H19 H' → Fr noF H1 H' ∧ ∃ F l', Sc H' g F l' ∧ l' ≤ 201 ∧ ∀ k, F k → g ≤ k := fun hf => ⟨f19.trans0 hf, F, l2, sc19.old hf, by omega, hF6⟩
        refine joinW_mk (fun (q : Bool × Unit) H' => Fr noF H19 H') ?_ ?_
        · refine readNode t[i] (nodeAt g19) (plain_any t[i] hsm fun b H24 f24 => ?_)
          have g24 := f24.blk g19 fun h => h
          obtain ⟨b', hb', hd'⟩ := (ht1.old (f19.trans0 f24)).2 (i - 1) (by omega)
          exact brW_mk (fun _ => f24) (fun _ => ⟨_, nodeAt g24 0 (by omega), brW_mk (fun _ => ⟨_, nodeAt g24 1 (by omega), brW_mk (fun _ => f24) (fun _ => ⟨b', hb', by omega, by omega, _, hd' 0 (by omega), brW_mk (fun _ => ⟨b', hb', by omega, by omega, _, hd' 1 (by omega), _, nodeAt g24 1 (by omega), f24⟩) (fun _ => f24)⟩)⟩) (fun _ => f24)⟩)
        · rintro ⟨b, _⟩ H23 f23
          exact brW_mk (fun _ => out (f19.trans0 f23)) (fun _ => done f23)
    · rintro ⟨r, _⟩ H7 ⟨f7, F', l3, e1, e2, e3⟩
      refine letV_mk fun y hy => ⟨l - (i + 1), by omega, f7, ⟨F', l3, e1, e2, e3⟩, i + 1, by omega, by omega, rfl, ?_⟩
      show y = _
      rw [hy, wrap_i64 (by omega) (by omega)]; rfl
  · rintro ⟨r, _⟩ H5 f5
    exact out f5
end Go.Proofs.YtojhnakgmihedaaDoor
