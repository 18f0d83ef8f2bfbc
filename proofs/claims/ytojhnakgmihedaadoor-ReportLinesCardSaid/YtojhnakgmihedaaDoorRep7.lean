import Derived.Test.YtojhnakgmihedaaDoorRep6
/-! Package report: what a made tree goes through: plain nodes, declarations, scopes. -/
namespace Go.Ev
theorem hfrozen_far {H : Heap} {b : Nat} {cs : Array Value} {t : TypeId} {lo hi : Nat} (h : H[b]? = some (.cells cs t (lo, hi))) {n : Nat} (hn : n < lo) : hfrozen H ((⟨b, 0, none⟩ : Addr).add n) = false := by
  rw [add_mk]
  unfold hfrozen
  simp only [h, Nat.zero_add]
  simp
  omega
theorem bytesCells_get {x : ByteArray} {j : Nat} (h : j < x.size) : (bytesCells x)[j]? = some (.int .u8 ((x.data.toList[j]'(by rw [Array.length_toList]; exact h)).toNat : Int)) := by
  unfold bytesCells
  rw [List.getElem?_map, List.getElem?_eq_getElem (by rw [Array.length_toList]; exact h)]
  rfl
def GoodS (u : ByteArray) : Prop := u.size ≤ 100 ∧ (10 : UInt8) ∉ u.data.toList
def GoodAt (q : At) : Prop := q.a.size ≤ 100 ∧ q.b.size ≤ 100 ∧ q.c.size ≤ 100 ∧ GoodS q.d
/-- Does an attribute's name say that it declares? -/
def IsDecl (q : At) : Prop := q.a = ⟨#[120, 109, 108, 110, 115]⟩ ∨ q.a = ⟨#[]⟩ ∧ q.b = ⟨#[120, 109, 108, 110, 115]⟩
def AttOk (q : At) : Prop := q.a.size ≤ 100 ∧ q.b.size ≤ 100 ∧ q.c.size ≤ 100 ∧ q.d.size ≤ 100 ∧ (IsDecl q → GoodS q.d)
def lvV (x : Option Addr × Nat × Nat) : Value := .slice x.1 x.2.1 x.2.2
/-- A level of a scope. -/
def LvOk (H : Heap) (g : Nat) (F : Nat → Prop) (x : Option Addr × Nat × Nat) : Prop := ∃ L : List At, AtRd H L x.1 x.2.1 ∧ x.2.1 ≤ 8 ∧ (∀ q ∈ L, GoodAt q) ∧ ∀ k, blkIs x.1 k → F k ∧ k ≠ g
theorem AtRd.keep {H H' : Heap} {L : List At} {p : Option Addr} {l : Nat} {G : Nat → Prop} (h : AtRd H L p l) (hf : Fr G H H') (hn : ∀ k, blkIs p k → ¬ G k) : AtRd H' L p l := by
  refine ⟨h.1, fun i hi => ?_⟩
  obtain ⟨a, ha, hc⟩ := h.2 i hi
  refine ⟨a, ha, fun j hj => ?_⟩
  have hcj := hc j hj
  have he : (atL L[i])[j]? = some ((atL L[i])[j]'(by simpa [atL] using hj)) := List.getElem?_eq_getElem _
  rw [he] at hcj ⊢
  exact hf.cell hcj (by rw [add_block, add_block]; exact hn _ ⟨a, ha, rfl⟩)
end Go.Ev
namespace Go.Proofs.YtojhnakgmihedaaDoor
open Go.Ev
set_option linter.unusedVariables false
theorem lower_any {H : Heap} {s : ByteArray} (hs : s.size ≤ 1073741824) {R : ByteArray → Heap → Prop} (hR : ∀ x H', Fr noF H H' → R x H') : brackenref10_lower.C s H R := by
  apply brackenref10_lower.calls
  unfold brackenref10_lower.W
  intro cap hcap
  refine letV_mk fun H1 h1 => ?_
  have hbl : (bytesCells s).length = s.size := by unfold bytesCells; rw [List.length_map, Array.length_toList]; rfl
  have g1 : ∃ cs, H1[Array.size H]? = some (.cells cs ty_uint8 (cap, cap + 1)) ∧ s.size ≤ cs.size ∧ ∀ j, j < s.size → cs[j]? = (bytesCells s)[j]? := by
    refine ⟨_, by rw [h1]; simp; rfl, by simp [hbl], fun j hj => ?_⟩
    rw [← Array.getElem?_toList, Array.toList_append, List.getElem?_append_left (by simpa [hbl] using hj)]
  have f1 : Fr noF H H1 := by
    rw [h1]
    refine ⟨by simp, fun k hk _ => ?_⟩
    rw [Array.getElem?_push, if_neg (by omega)]
  clear h1
  refine joinW_mk (fun _ H' => Fr noF H H' ∧ ∃ (x : ByteArray) (cs : Array Value), x.size = s.size ∧ H'[Array.size H]? = some (.cells cs ty_uint8 (cap, cap + 1)) ∧ s.size ≤ cs.size ∧ ∀ j, j < s.size → cs[j]? = (bytesCells x)[j]?) ?_ ?_
  · obtain ⟨cs1, a1, b1, c1⟩ := g1
    refine loopW_mk (fun t (q : Int × Unit) H' => Fr noF H H' ∧ (∃ (x : ByteArray) (cs : Array Value), x.size = s.size ∧ H'[Array.size H]? = some (.cells cs ty_uint8 (cap, cap + 1)) ∧ s.size ≤ cs.size ∧ ∀ j, j < s.size → cs[j]? = (bytesCells x)[j]?) ∧ ∃ k : Nat, k ≤ s.size ∧ t = s.size - k ∧ q.1 = (k : Int)) s.size ⟨f1, ⟨s, cs1, rfl, a1, b1, c1⟩, 0, Nat.zero_le _, rfl, rfl⟩ ?_
    rintro t ⟨k', _⟩ H2 ⟨hf, ⟨x, cs, hx, hb, hcs, hc⟩, k, hk, rfl, hk'⟩
    simp only at hk'
    subst hk'
    dsimp only
    refine brW_dec (fun hlt => ?_) (fun _ => ⟨hf, x, cs, hx, hb, hcs, hc⟩)
    have hk2 : k < s.size := by omega
    have hcell := (hcell_add hb 0 k).trans ((by rw [Nat.zero_add] : cs[0 + k]? = cs[k]?).trans ((hc k hk2).trans (bytesCells_get (by omega))))
    refine joinW_mk (fun _ H' => Fr noF H H' ∧ ∃ (x : ByteArray) (cs : Array Value), x.size = s.size ∧ H'[Array.size H]? = some (.cells cs ty_uint8 (cap, cap + 1)) ∧ s.size ≤ cs.size ∧ ∀ j, j < s.size → cs[j]? = (bytesCells x)[j]?) ?_ ?_
    · refine joinW_mk (fun (q : Bool × Unit) H' => H2 = H') ?_ ?_
      · refine ⟨_, rfl, by omega, by omega, _, by rw [Int.toNat_natCast]; exact hcell, brW_mk (fun _ => ⟨_, rfl, by omega, by omega, _, by rw [Int.toNat_natCast]; exact hcell, rfl⟩) (fun _ => rfl)⟩
      · rintro ⟨b, _⟩ _ rfl
        refine brW_mk (fun _ => ?_) (fun _ => ⟨hf, x, cs, hx, hb, hcs, hc⟩)
        refine ⟨_, rfl, by omega, by omega, _, by rw [Int.toNat_natCast]; exact hcell, _, rfl, by omega, by omega, ?_⟩
        rw [Int.toNat_natCast]
        refine ⟨⟨_, hcell⟩, hfrozen_far hb (by omega), letV_mk fun H3 h3 => ?_⟩
        generalize hby : x.data.toList[k]'(by rw [Array.length_toList]; show k < x.size; omega) = by0 at h3
        have ew : IntKind.u8.wrap ((by0.toNat : Int) + 32) = ((UInt8.ofNat (by0.toNat + 32)).toNat : Int) := by
          rw [UInt8.toNat_ofNat']
          unfold IntKind.wrap
          simp [IntKind.bits, IntKind.signed]
          try omega
        rw [ew] at h3
        have g3 : H3[Array.size H]? = some (.cells (cs.setIfInBounds (0 + k) (.int .u8 ((UInt8.ofNat (by0.toNat + 32)).toNat : Int))) ty_uint8 (cap, cap + 1)) := by rw [h3, hset_add_same hb]
        have f3 : Fr (fun j => j = Array.size H) H2 H3 := set_fr h3
        refine ⟨hf.trans f3 fun j hj => .inr (by omega), ⟨x.data.setIfInBounds k (UInt8.ofNat (by0.toNat + 32))⟩, _, ?_, g3, by simpa using hcs, fun j hj => ?_⟩
        · show (x.data.setIfInBounds k _).size = _
          rw [Array.size_setIfInBounds]
          exact hx
        · rw [Nat.zero_add, Array.getElem?_setIfInBounds]
          unfold bytesCells
          rw [List.getElem?_map, Array.getElem?_toList, Array.getElem?_setIfInBounds]
          by_cases hjk : k = j
          · subst hjk
            rw [if_pos rfl, if_pos (by omega), if_pos rfl, if_pos (by show k < x.size; omega)]
            rfl
          · rw [if_neg hjk, if_neg hjk, hc j hj]
            unfold bytesCells
            rw [List.getElem?_map, Array.getElem?_toList]
    · rintro _ H3 ⟨h1, h2⟩
      refine letV_mk fun y hy => ⟨s.size - (k + 1), by omega, h1, h2, k + 1, by omega, rfl, ?_⟩
      show y = _
      rw [hy, wrap_i64 (by omega) (by omega)]; rfl
  · rintro _ H2 ⟨hf, x, cs, hx, hb, hcs, hc⟩
    refine ⟨x, ⟨hx, fun j v hj => ?_⟩, hR x H2 hf⟩
    have hjl := (List.getElem?_eq_some_iff.1 hj).1
    have : (bytesCells x).length = x.size := by unfold bytesCells; rw [List.length_map, Array.length_toList]; rfl
    rw [hcell_add hb, Nat.zero_add, hc j (by omega)]
    exact hj
theorem Target_any {H : Heap} {s : ByteArray} (hs : s.size ≤ 1073741824) {R : Bool → Heap → Prop} (hR : ∀ b H', Fr noF H H' → R b H') : brackenref10_Target.C s H R := by
  apply brackenref10_Target.calls
  unfold brackenref10_Target.W
  exact NCName_any hs fun b => brW_mk (fun _ => lower_any hs fun x H' hf => hR _ _ hf) (fun _ => hR _ _ (Fr.refl _ _))
theorem plain_any {H : Heap} (n : Nd) (hs : Small n) {R : Bool → Heap → Prop} (hR : ∀ b H', Fr noF H H' → R b H') : brackenref15_plain.C n.k n.d n.pre n.loc n.uri n.val n.ap n.al n.ac H R := by
  obtain ⟨s1, s2, s3, s4, s5⟩ := hs
  have v30 : n.val.size ≤ 1073741824 := by omega
  apply brackenref15_plain.calls
  unfold brackenref15_plain.W
  refine letV_mk fun H1 h1 => ?_
  have f1 : Fr noF H H1 := by rw [h1]; exact Fr.new _ _ _
  have g : H1[Array.size H]? = some (.cells (ndL n).toArray ty_api_Node (0, 0)) := new_part h1
  clear h1
  have r0 := nodeAt g
  refine joinW_mk (fun _ H' => H1 = H') ?_ ?_
  · refine joinW_mk (fun (q : Bool × Unit) H' => H1 = H') ?_ ?_
    · refine ⟨_, r0 2 (by omega), brW_mk (fun _ => rfl) (fun _ => ⟨_, r0 4 (by omega), brW_mk (fun _ => rfl) (fun _ => ⟨_, _, _, r0 6 (by omega), brW_mk (fun _ => rfl) (fun _ => ⟨_, r0 0 (by omega), brW_mk (fun _ => ⟨_, r0 3 (by omega), brW_mk (fun _ => rfl) (fun _ => ⟨_, r0 5 (by omega), Valid_any v30 fun b => rfl⟩)⟩) (fun _ => ⟨_, r0 5 (by omega), Valid_any v30 fun b => rfl⟩)⟩)⟩)⟩)⟩
    · rintro ⟨b, _⟩ _ rfl
      exact brW_mk (fun _ => hR _ _ f1) (fun _ => rfl)
  rintro _ _ rfl
  refine ⟨_, r0 0 (by omega), brW_mk (fun _ => ⟨_, r0 5 (by omega), hR _ _ f1⟩) (fun _ => brW_mk (fun _ => ?_) (fun _ => brW_mk (fun _ => ?_) (fun _ => hR _ _ f1)))⟩
  · refine ⟨_, r0 5 (by omega), holds_any v30 (by decide) fun b => brW_mk (fun _ => ⟨_, r0 5 (by omega), holds_any v30 (by decide) fun b => brW_mk (fun _ => ⟨_, r0 5 (by omega), brW_dec (fun _ => hR _ _ f1) (fun hne => ?_)⟩) (fun _ => hR _ _ f1)⟩) (fun _ => hR _ _ f1)⟩
    have hp := pos_size hne
    have e1 : IntKind.i64.wrap ((n.val.size : Int) - 1) = ((n.val.size - 1 : Nat) : Int) := by rw [wrap_i64 (by omega) (by omega)]; omega
    refine ⟨_, r0 5 (by omega), _, r0 5 (by omega), ?_⟩
    show 0 ≤ IntKind.i64.wrap ((n.val.size : Int) - 1) ∧ IntKind.i64.wrap ((n.val.size : Int) - 1) < (n.val.size : Int) ∧ R _ H1
    rw [e1]
    exact ⟨by omega, by omega, hR _ _ f1⟩
  · refine ⟨_, r0 3 (by omega), Target_any (by show n.loc.size ≤ _; omega) fun b H2 f2 => ?_⟩
    have f12 := f1.trans0 f2
    have r2 := nodeAt (f2.blk g fun h => h)
    refine brW_mk (fun _ => ⟨_, r2 5 (by omega), holds_any v30 (by decide) fun b => brW_mk (fun _ => ⟨_, r2 5 (by omega), holds_any v30 (by decide) fun b => brW_mk (fun _ => ⟨_, r2 5 (by omega), brW_dec (fun _ => hR _ _ f12) (fun hne => ?_)⟩) (fun _ => hR _ _ f12)⟩) (fun _ => hR _ _ f12)⟩) (fun _ => hR _ _ f12)
    have hp := pos_size hne
    refine ⟨_, r2 5 (by omega), by decide, ?_, Space_any fun b => hR _ _ f12⟩
    show (0 : Int) < (n.val.size : Int)
    omega
theorem Declares_any {H : Heap} (q : At) {R : ByteArray → Bool → Heap → Prop} (hR : ∀ p b H', Fr noF H H' → (b = true → IsDecl q) → R p b H') : brackenref10_Declares.C q.a q.b q.c q.d H R := by
  apply brackenref10_Declares.calls
  unfold brackenref10_Declares.W
  refine letV_mk fun H1 h1 => ?_
  have f1 : Fr noF H H1 := by rw [h1]; exact Fr.new _ _ _
  have g : H1[Array.size H]? = some (.cells (atL q).toArray ty_api_Attr (0, 0)) := new_part h1
  clear h1
  have r0 := atAt g
  refine ⟨_, r0 2 (by omega), brW_mk (fun _ => hR _ _ _ f1 (by simp)) (fun _ => ⟨_, r0 0 (by omega), brW_dec (fun h => ⟨_, r0 1 (by omega), hR _ _ _ f1 fun _ => .inl h⟩) (fun _ => ⟨_, r0 0 (by omega), brW_dec (fun h => ⟨_, r0 1 (by omega), hR _ _ _ f1 fun h2 => .inr ⟨h, of_decide_eq_true h2⟩⟩) (fun _ => hR _ _ _ f1 (by simp))⟩)⟩)⟩
theorem SameAttrs_any {H : Heap} {L M : List At} {p q : Option Addr} {l m c d : Nat} (hL : AtRd H L p l) (hM : AtRd H M q m) (hl : l ≤ 1048576) {R : Bool → Heap → Prop} (hR : ∀ b, R b H) : brackenref10_SameAttrs.C p l c q m d H R := by
  have h1 := hL.1
  have h2 := hM.1
  apply brackenref10_SameAttrs.calls
  unfold brackenref10_SameAttrs.W
  refine brW_dec (fun _ => hR _) (fun heq => ?_)
  refine joinW_mk (fun _ H' => H = H') ?_ ?_
  · refine loopW_mk (fun t (q : Int × Unit) H' => H = H' ∧ ∃ k : Nat, k ≤ l ∧ t = l - k ∧ q.1 = (k : Int)) l ⟨rfl, 0, Nat.zero_le _, rfl, rfl⟩ ?_
    rintro t ⟨k', _⟩ _ ⟨rfl, k, hk, rfl, hk'⟩
    simp only at hk'
    subst hk'
    dsimp only
    refine brW_dec (fun hlt => ?_) (fun _ => rfl)
    obtain ⟨a, ha, hc⟩ := hL.2 k (by omega)
    obtain ⟨b, hb, hd⟩ := hM.2 k (by omega)
    refine ⟨a, ha, by omega, by omega, ?_⟩
    rw [Int.toNat_natCast]
    refine readAtt L[k] hc ⟨b, hb, by omega, by omega, readAtt (M[k]'(by omega)) hd (brW_mk (fun _ => hR _) (fun _ => letV_mk fun y hy => ⟨l - (k + 1), by omega, rfl, k + 1, by omega, rfl, ?_⟩))⟩
    show y = _
    rw [hy, wrap_i64 (by omega) (by omega)]; rfl
  · rintro _ _ rfl
    exact hR _
theorem SameNode_any {H : Heap} (n m : Nd) {L M : List At} (hL : AtRd H L n.ap n.al) (hM : AtRd H M m.ap m.al) (hl : n.al ≤ 1048576) {R : Bool → Heap → Prop} (hR : ∀ b H', Fr noF H H' → R b H') :
    brackenref15_SameNode.C n.k n.d n.pre n.loc n.uri n.val n.ap n.al n.ac m.k m.d m.pre m.loc m.uri m.val m.ap m.al m.ac H R := by
  apply brackenref15_SameNode.calls
  unfold brackenref15_SameNode.W
  refine letV_mk fun H1 h1 => ?_
  have f1 : Fr noF H H1 := by rw [h1]; exact Fr.new _ _ _
  have g1 : H1[Array.size H]? = some (.cells (ndL n).toArray ty_api_Node (0, 0)) := new_part h1
  clear h1
  refine letV_mk fun H2 h2 => ?_
  have f2 : Fr noF H1 H2 := by rw [h2]; exact Fr.new _ _ _
  have g2 : H2[Array.size H1]? = some (.cells (ndL m).toArray ty_api_Node (0, 0)) := new_part h2
  clear h2
  have f := f1.trans0 f2
  have r := nodeAt (f2.blk g1 fun h => h)
  have s := nodeAt g2
  exact ⟨_, r 0 (by omega), _, s 0 (by omega), brW_mk (fun _ => ⟨_, r 1 (by omega), _, s 1 (by omega), brW_mk (fun _ => ⟨_, r 2 (by omega), _, s 2 (by omega), brW_mk (fun _ => ⟨_, r 3 (by omega), _, s 3 (by omega), brW_mk (fun _ => ⟨_, r 4 (by omega), _, s 4 (by omega), brW_mk (fun _ => ⟨_, r 5 (by omega), _, s 5 (by omega), brW_mk (fun _ => ⟨_, _, _, r 6 (by omega), _, _, _, s 6 (by omega), SameAttrs_any (hL.old f) (hM.old f) hl fun b => hR _ _ f⟩) (fun _ => hR _ _ f)⟩) (fun _ => hR _ _ f)⟩) (fun _ => hR _ _ f)⟩) (fun _ => hR _ _ f)⟩) (fun _ => hR _ _ f)⟩) (fun _ => hR _ _ f)⟩
end Go.Proofs.YtojhnakgmihedaaDoor
