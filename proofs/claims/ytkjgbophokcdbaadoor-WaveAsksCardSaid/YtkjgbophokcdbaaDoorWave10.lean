import Derived.Test.YtkjgbophokcdbaaDoorWave9
import Derived.Test.YtkjgbophokcdbaaDoorInts3
import Derived.Test.YtkjgbophokcdbaaDoorBits5
/-! Package wave: what the document does, and a few. -/
namespace Go.Proofs.YtkjgbophokcdbaaDoor
open Go.Ev
set_option linter.unusedVariables false
theorem castL_inv {l : List Nat} {zs : List Int} (h : zs = l.map (fun x : Nat => (x : Int))) : l = zs.map Int.toNat := by
  subst h
  rw [List.map_map]
  conv => lhs; rw [← List.map_id l]
  apply List.map_congr_left
  intro x _
  simp
theorem Deb.lt {H : Heap} (hd : Deb H) : gl_bits_deBruijn64tab < Array.size H := by
  have := hcell_lt (hd 0 (by decide))
  rw [add_block] at this
  exact this
/-- A Wave that has come behind a heap, and that heap as it was. -/
structure WS (H0 H : Heap) (g : Nat) (l : List Nat) (sg : Nat) (F : Nat → Prop) : Prop where
  wb : WB H g l sg F
  fr : Fr noF H0 H
  new : Array.size H0 ≤ g
  deb : Deb H0
section
variable {H0 H : Heap} {g : Nat} {l : List Nat} {sg : Nat} {F : Nat → Prop}
theorem WS.step {H' : Heap} (h : WS H0 H g l sg F) (w : WB H' g l sg F) (f : Fr (fun k => k = g) H H') : WS H0 H' g l sg F :=
  ⟨w, h.fr.trans f fun k hk => .inr (by have := h.new; omega), h.new, h.deb⟩
theorem WS.old {H' : Heap} (h : WS H0 H g l sg F) (f : Fr noF H H') : WS H0 H' g l sg F := ⟨h.wb.old f, h.fr.trans0 f, h.new, h.deb⟩
theorem WS.ne (h : WS H0 H g l sg F) : gl_bits_deBruijn64tab ≠ g := fun e => by have := h.deb.lt; have := h.new; omega
theorem WS.rank (h : WS H0 H g l sg F) (k s : Int) {R : Int → Heap → Prop} (hR : ∀ H', WS H0 H' g l sg F → R (cntZ l k.toNat s : Int) H') : wave_Wave_Rank.C (some ⟨g, 0, none⟩) k s H R :=
  WB_Rank_spec h.wb k s fun H' w f => hR H' (h.step w f)
theorem WS.count (h : WS H0 H g l sg F) (lo hi s : Int) {R : Int → Heap → Prop} (hR : ∀ H', WS H0 H' g l sg F → R (max ((cntZ l hi.toNat s : Int) - (cntZ l lo.toNat s : Int)) 0) H') : wave_Wave_Count.C (some ⟨g, 0, none⟩) lo hi s H R :=
  WB_Count_spec h.wb lo hi s fun H' w f => hR H' (h.step w f)
theorem WS.select (h : WS H0 H g l sg F) (j s : Int) (hj : -9223372036854775808 ≤ j ∧ j ≤ 9223372036854775807) {R : Int → Heap → Prop} (hR : ∀ x H', IsNth l 0 l.length s j x → WS H0 H' g l sg F → R x H') : wave_Wave_Select.C (some ⟨g, 0, none⟩) j s H R :=
  WB_Select_spec h.wb (h.deb.old h.fr) h.ne j s hj fun x H' hx w f => hR x H' hx (h.step w f)
theorem WS.nth (h : WS H0 H g l sg F) (lo hi s j : Int) {R : Int → Heap → Prop} (hR : ∀ x H', IsNth l lo hi s j x → WS H0 H' g l sg F → R x H') : wave_Wave_Nth.C (some ⟨g, 0, none⟩) lo hi s j H R :=
  WB_Nth_spec h.wb (h.deb.old h.fr) h.ne lo hi s j fun x H' hx w f => hR x H' hx (h.step w f)
def GetR (l : List Nat) (k x e : Int) : Prop := (∃ (i : Nat) (hi : i < l.length), k = (i : Int) ∧ x = (l[i] : Int) ∧ e = 0) ∨ ((k < 0 ∨ (l.length : Int) ≤ k) ∧ x = 0 ∧ e = 4)
theorem WS.get (h : WS H0 H g l sg F) (k : Int) {R : Int → Int → Heap → Prop} (hR : ∀ x e H', GetR l k x e → WS H0 H' g l sg F → R x e H') : wave_Wave_Get.C (some ⟨g, 0, none⟩) k H R :=
  WB_Get_spec h.wb k (fun i hi H' e w f => hR _ _ H' (.inl ⟨i, hi, e, rfl, rfl⟩) (h.step w f)) fun ho => hR _ _ H (.inr ⟨ho, rfl, rfl⟩) h
theorem WS.steps (h : WS H0 H g l sg F) {R : Bool → Heap → Prop} (hR : R true H) : brackenlaw6_steps.C (some ⟨g, 0, none⟩) (sg : Int) H R := by
  have hfew := h.wb.few
  have hn := nRows_le hfew.2.2
  apply brackenlaw6_steps.calls
  unfold brackenlaw6_steps.W
  refine WB_Steps_spec h.wb fun st hst => brW_pos (by omega) ?_
  refine WB_Steps_spec h.wb fun st' hst' => ?_
  rw [wrap_i64 (n := (sg : Int) - 1) (by omega) (by omega), show (sg : Int) - 1 = ((sg - 1 : Nat) : Int) by omega, wrap_natlt (by omega)]
  refine refWidth_spec (by omega) ?_
  have hW : blen (sg - 1) = nRows sg := rfl
  rw [hW, wrap_i64 (n := (nRows sg : Int) + 1) (by omega) (by omega), wrap_i64 (by omega) (by omega)]
  have : decide ((st' : Int) ≤ 6 * ((nRows sg : Int) + 1)) = true := decide_eq_true (by omega)
  rw [this]
  exact hR
/-- A New whose symbols may be. -/
theorem WS.made {p : Option Addr} {n c : Nat} (hd : Deb H) (hrd : Rd H (l.map natV) p n) (hn : n ≤ 1048576) (hs : 1 ≤ sg ∧ sg ≤ 1048576) (hl : ∀ x ∈ l, x < sg) {R : Option Addr → Int → Heap → Prop}
    (hR : ∀ g F H', WS H H' g l sg F → R (some ⟨g, 0, none⟩) 0 H') : wave_New.C p n c (sg : Int) H R := by
  have e : (l.map natV) = (l.map (fun x : Nat => (x : Int))).map (Value.int .i64) := by rw [List.map_map]; rfl
  rw [e] at hrd
  refine Wave_New_spec hrd hn sg (fun hb => ?_) (fun l' s' g H' e1 e2 _ hv w f => ?_)
  · exfalso
    rcases hb with h | h | ⟨z, hz, h⟩
    · omega
    · omega
    · obtain ⟨x, hx, rfl⟩ := List.mem_map.1 hz
      have := hl x hx
      omega
  · have h1 := castL_inv e1
    have h2 := castL_inv (l := l) rfl
    rw [← h2] at h1
    subst h1
    have : s' = sg := by omega
    subst this
    exact hR g _ H' ⟨w, f, w.own.1.1, hd⟩
end
theorem WaveTold_spec {H : Heap} (hd : Deb H) {R : Bool → Heap → Prop} (hR : ∀ H', Fr noF H H' → R true H') : brackenlaw6_told.C H R := by
  apply brackenlaw6_told.calls
  unfold brackenlaw6_told.W
  refine letV_mk fun H1 h1 => ?_
  have f1 : Fr noF H H1 := by rw [h1]; exact Fr.new _ _ _
  have hs1 : Sl H1 ty_int ([5, 6, 5].map natV) (some ⟨Array.size H, 0, none⟩) 3 3 := by rw [h1]; exact Sl.lit H ty_int [.int .i64 5, .int .i64 6, .int .i64 5]
  clear h1
  refine WS.made (l := [5, 6, 5]) (sg := 7) (hd.old f1) hs1.rd (by decide) (by decide) (by decide) fun g F H2 w2 => ?_
  refine letV_mk fun H3 h3 => ?_
  have f3 : Fr noF H2 H3 := by rw [h3]; exact Fr.new _ _ _
  have hs3 : Sl H3 ty_int ([5].map (Value.int .i64)) (some ⟨Array.size H2, 0, none⟩) 1 1 := by rw [h3]; exact Sl.lit H2 ty_int [.int .i64 5]
  clear h3
  refine Wave_New_spec (zs := [5]) hs3.rd (by decide) 5 (fun _ => ?_) (fun l' s' g H' e1 e2 _ hv w f => ?_)
  rotate_left
  · exfalso
    have h1 := castL_inv e1
    have h2 : (5 : Nat) ∈ l' := by rw [h1]; decide
    have := hv _ h2
    omega
  have w3 := w2.old f3
  refine joinW_thru (joinW_thru (brW_neg (by decide) (brW_false rfl ?_)))
  refine w3.get 1 fun x e H4 he w4 => ?_
  have e4 : x = 6 ∧ e = 0 := by
    rcases he with ⟨i, hi, e1, rfl, rfl⟩ | ⟨h, _⟩
    · have : i = 1 := by omega
      subst this
      exact ⟨rfl, rfl⟩
    · exact absurd h (by decide)
  obtain ⟨rfl, rfl⟩ := e4
  refine w4.get 3 fun x e H5 he w5 => ?_
  have e5 : e = 4 := by
    rcases he with ⟨i, hi, e1, _, rfl⟩ | ⟨h, _, rfl⟩
    · have : i < 3 := hi
      omega
    · rfl
  subst e5
  refine brW_pos rfl (brW_pos rfl (brW_pos rfl (brW_pos rfl ?_)))
  refine w5.rank 3 5 fun H6 w6 => brW_pos (by decide) ?_
  refine w6.rank 3 9 fun H7 w7 => brW_pos (by decide) ?_
  refine w7.select 1 5 (by decide) fun x H8 hx w8 => ?_
  obtain rfl : x = 2 := hx.unique (.inl ⟨2, by decide, rfl, rfl, by decide, by decide, by decide⟩)
  refine brW_pos rfl (w8.select 2 5 (by decide) fun x H9 hx w9 => ?_)
  obtain rfl : x = -1 := hx.unique (.sel (.inr ⟨rfl, .inr (by decide)⟩))
  refine brW_pos rfl (w9.count 1 3 5 fun H10 w10 => brW_pos (by decide) ?_)
  refine w10.nth 1 3 5 0 fun x H11 hx w11 => ?_
  obtain rfl : x = 2 := hx.unique (.inl ⟨2, by decide, rfl, rfl, by decide, by decide, by decide⟩)
  refine brW_pos rfl (w11.nth 0 2 5 1 fun x H12 hx w12 => ?_)
  obtain rfl : x = -1 := hx.unique (.inr ⟨rfl, fun i hi e h1 h2 h3 => by
    match i, hi, e, h2, h3 with
    | 0, _, _, _, h => exact absurd h (by decide)
    | 1, _, e, _, _ => exact absurd (show (6 : Int) = 5 from e) (by decide)
    | n + 2, _, _, h, _ => omega⟩)
  refine brW_pos rfl (WB_Size_spec w12.wb (brW_pos (by decide) ?_))
  refine Wave_Len_nil (brW_pos rfl (Wave_Nth_nil ?_))
  exact hR H12 (f1.trans0 w12.fr)
theorem WaveRow_spec {H : Heap} {zs : List Int} {p : Option Addr} {n c most sg : Nat} (hrd : Rd H (zs.map (Value.int .i64)) p n) (hn : n ≤ 9223372036854775807) (hmost : most ≤ 1048576) (hs : 1 ≤ sg ∧ sg ≤ 1048576) {R : Option Addr → Nat → Nat → Heap → Prop}
    (hR : ∀ p' l' c' (m : List Nat) H', Sl H' ty_int (m.map natV) p' l' c' → l' ≤ most → m.length = l' → (∀ x ∈ m, x < sg) → Fr noF H H' → R p' l' c' H') : brackenlaw6_Row.C p n c (sg : Int) (most : Int) H R := by
  apply brackenlaw6_Row.calls
  unfold brackenlaw6_Row.W
  refine joinW_thru ?_
  have hl : zs.length = n := by have := hrd.1; simpa using this
  have rdi : ∀ {H' : Heap} {i : Nat}, Fr noF H H' → i < n → ∃ (h2 : i < zs.length) (a : Addr), p = some a ∧ hcell H' (a.add i) = some (.int .i64 zs[i]) := by
    intro H' i hf hi
    have h2 : i < zs.length := by omega
    obtain ⟨a, ha, hc⟩ := (hrd.old hf).get (i := i) (v := .int .i64 zs[i]) (by rw [List.getElem?_map, List.getElem?_eq_getElem h2]; rfl)
    exact ⟨h2, a, ha, hc⟩
  have val : ∀ z : Int, ∃ v : Nat, v < sg ∧ IntKind.i64.wrap (Int.tmod (IntKind.u64.wrap (Int.tdiv (IntKind.u64.wrap z) 4)) (IntKind.u64.wrap (sg : Int))) = (v : Int) := by
    intro z
    have hr := wrap_u64_range z
    obtain ⟨a, ha⟩ : ∃ a : Nat, IntKind.u64.wrap z = (a : Int) := ⟨(IntKind.u64.wrap z).toNat, by omega⟩
    rw [ha] at hr ⊢
    have hm := Nat.mod_lt (a / 4) (show 0 < sg by omega)
    rw [show Int.tdiv (a : Int) 4 = ((a / 4 : Nat) : Int) from rfl, wrap_natlt (by omega), wrap_natlt (by omega), show Int.tmod ((a / 4 : Nat) : Int) (sg : Int) = ((a / 4 % sg : Nat) : Int) from rfl, wrap_i64 (by omega) (by omega)]
    exact ⟨_, hm, rfl⟩
  refine loopW_mk (fun k (q : (Option Addr × Nat × Nat) × Int × Unit) H' => ∃ (i : Nat) (m : List Nat), k = n - i ∧ q.2.1 = (i : Int) ∧ i ≤ n ∧ Sl H' ty_int (m.map natV) q.1.1 q.1.2.1 q.1.2.2 ∧ q.1.2.1 ≤ most ∧ (∀ x ∈ m, x < sg) ∧ (∀ k, blkIs q.1.1 k → Array.size H ≤ k) ∧ Fr noF H H') n
    ⟨0, [], rfl, rfl, Nat.zero_le _, Sl.nil _ _, Nat.zero_le _, by simp, (by rintro k ⟨a, ha, _⟩; cases ha), Fr.refl _ _⟩ ?_
  rintro k ⟨⟨op, ol, oc⟩, x, _⟩ H2 ⟨i, m, rfl, hx, hi63, hsl, hol, hm, hob, fr⟩
  simp only at hx hsl hol hob
  subst hx
  dsimp only
  have out : R op ol oc H2 := hR _ _ _ m H2 hsl hol (by have := hsl.1; simpa using this) hm fr
  refine joinW_mk (fun _ H' => H2 = H' ∧ i < n ∧ ol < most) ?_ ?_
  · exact brW_dec (fun h1 => brW_dec (fun h2 => ⟨rfl, by omega, by omega⟩) (fun _ => out)) (fun _ => out)
  rintro _ _ ⟨rfl, hin, holt⟩
  clear out
  refine joinW_mk (fun (q : (Option Addr × Nat × Nat) × Unit) H' => ∃ (m : List Nat), Sl H' ty_int (m.map natV) q.1.1 q.1.2.1 q.1.2.2 ∧ q.1.2.1 ≤ most ∧ (∀ x ∈ m, x < sg) ∧ (∀ k, blkIs q.1.1 k → Array.size H ≤ k) ∧ Fr noF H H') ?_ ?_
  · obtain ⟨h2, a, rfl, hc⟩ := rdi fr (i := i) hin
    refine ⟨a, rfl, by omega, by omega, _, by rw [Int.toNat_natCast]; exact hc, by decide, letV_mk fun n9 hn9 => ?_⟩
    have hr := wrap_u64_range zs[i]
    obtain ⟨t0, ht0, ht4⟩ : ∃ t : Nat, n9 = (t : Int) ∧ t < 4 := by
      obtain ⟨a, ha⟩ : ∃ a : Nat, IntKind.u64.wrap zs[i] = (a : Int) := ⟨(IntKind.u64.wrap zs[i]).toNat, by omega⟩
      rw [ha, show Int.tmod (a : Int) 4 = ((a % 4 : Nat) : Int) from rfl] at hn9
      exact ⟨a % 4, hn9, Nat.mod_lt _ (by decide)⟩
    clear hn9
    refine loopW_mk (fun k (q : (Option Addr × Nat × Nat) × Int × Unit) H' => ∃ (t : Nat) (m : List Nat), k = 4 - t ∧ t ≤ 4 ∧ q.2.1 = (t : Int) ∧ Sl H' ty_int (m.map natV) q.1.1 q.1.2.1 q.1.2.2 ∧ q.1.2.1 ≤ most ∧ (∀ x ∈ m, x < sg) ∧ (∀ k, blkIs q.1.1 k → Array.size H ≤ k) ∧ Fr noF H H') (4 - t0)
      ⟨t0, m, rfl, by omega, ht0, hsl, hol, hm, hob, fr⟩ ?_
    clear hsl hol hob hc fr hm holt
    rintro k ⟨⟨op, ol, oc⟩, x, _⟩ H4 ⟨t, m, rfl, ht, hx, hsl, hol, hm, hob, fr⟩
    simp only at hx hsl hol hob
    subst hx
    dsimp only
    refine joinW_mk (fun _ H' => H4 = H' ∧ t < 4 ∧ ol < most) ?_ ?_
    · refine brW_dec (fun h1 => ?_) (fun _ => ⟨m, hsl, hol, hm, hob, fr⟩)
      exact brW_dec (fun h2 => ⟨rfl, by omega, by omega⟩) (fun _ => ⟨m, hsl, hol, hm, hob, fr⟩)
    · rintro _ _ ⟨rfl, hk0, holt⟩
      obtain ⟨h2', a', e', hc'⟩ := rdi fr (i := i) (by omega)
      cases e'
      obtain ⟨v, hv, ev⟩ := val zs[i]
      refine ⟨a, rfl, by omega, by omega, _, by rw [Int.toNat_natCast]; exact hc', by decide, by rw [wrap_natlt (by omega)]; omega, ?_⟩
      rw [ev]
      refine app1 (v := natV v) (t1 := ty_int) hsl rfl ⟨by simp, by simp⟩ (by omega) (by decide) fun p' c' H7 hsl7 fr7 hb7 => ?_
      refine letV_mk fun n8 hn8 => ⟨4 - (t + 1), by omega, t + 1, m ++ [v], rfl, by omega, ?_, ?_, by show ol + 1 ≤ most; omega, ?_, ?_, fr.trans fr7 fun k hk => .inr (hob k hk)⟩
      · show n8 = _
        rw [hn8, wrap_u64 (by omega) (by omega)]; rfl
      · show Sl H7 ty_int ((m ++ [_]).map natV) p' (ol + 1) c'
        rw [List.map_append]; exact hsl7
      · intro x hx
        rcases List.mem_append.1 hx with h | h
        · exact hm x h
        · have : x = v := by simpa using h
          omega
      · intro k hk
        rcases hb7 k hk with h | h
        · exact hob k h
        · exact Nat.le_trans fr.size h
  · rintro ⟨⟨op, ol, oc⟩, _⟩ H3 ⟨m, hsl, hol, hm, hob, fr⟩
    simp only at hsl hol hob
    dsimp only
    refine letV_mk fun i6 hi6 => ⟨n - (i + 1), by omega, i + 1, m, rfl, ?_, by omega, hsl, hol, hm, hob, fr⟩
    show i6 = _
    rw [hi6, wrap_i64 (by omega) (by omega)]; rfl
section
variable {H : Heap} {l : List Nat} {p : Option Addr} {n c : Nat}
theorem rd_nat (hrd : Rd H (l.map natV) p n) {i : Nat} (hi : i < l.length) : ∃ a, p = some a ∧ hcell H (a.add i) = some (.int .i64 (l[i] : Int)) := by
  obtain ⟨a, ha, hc⟩ := hrd.get (i := i) (v := natV l[i]) (by rw [List.getElem?_map, List.getElem?_eq_getElem hi]; rfl)
  exact ⟨a, ha, hc⟩
theorem refCount_spec (hrd : Rd H (l.map natV) p n) (hn : n ≤ 1048576) (lo hi s : Int) {R : Int → Heap → Prop} (hR : R (max ((cntZ l hi.toNat s : Int) - (cntZ l lo.toNat s : Int)) 0) H) : brackenref1_Count.C p n c lo hi s H R := by
  have hl : l.length = n := by have := hrd.1; simpa using this
  apply brackenref1_Count.calls
  unfold brackenref1_Count.W
  refine joinW_thru (letV_mk fun i10 hi10 => ?_)
  have hcl := fun k => cntZ_le l k s
  refine loopW_mk (fun m (q : Int × Int × Unit) H' => ∃ i : Nat, m = n - i ∧ q.2.1 = (i : Int) ∧ lo.toNat ≤ i ∧ (i = lo.toNat ∨ ((i : Int) ≤ hi ∧ i ≤ n)) ∧ q.1 = (cntZ l i s : Int) - (cntZ l lo.toNat s : Int) ∧ H = H') (n - lo.toNat) ⟨lo.toNat, rfl, by show i10 = _; omega, Nat.le_refl _, .inl rfl, by show (0 : Int) = _; omega, rfl⟩ ?_
  rintro m ⟨x, y, _⟩ _ ⟨i, rfl, hy, hlo, hor, hx, rfl⟩
  simp only at hx hy
  subst hx hy
  dsimp only
  have mono := cntZ_mono l hlo s
  refine joinW_mk (fun _ H' => H = H' ∧ (i : Int) < hi ∧ i < n) ?_ ?_
  · refine brW_dec (fun h1 => brW_dec (fun h2 => ⟨rfl, h1, by omega⟩) (fun h2 => ?_)) (fun h1 => ?_)
    · have e1 := cntZ_all l (k := i) (by omega) s
      have e2 := cntZ_all l (k := hi.toNat) (by omega) s
      have : ((cntZ l i s : Int) - (cntZ l lo.toNat s : Int)) = max ((cntZ l hi.toNat s : Int) - (cntZ l lo.toNat s : Int)) 0 := by omega
      rw [this]
      exact hR
    · have : ((cntZ l i s : Int) - (cntZ l lo.toNat s : Int)) = max ((cntZ l hi.toNat s : Int) - (cntZ l lo.toNat s : Int)) 0 := by
        rcases hor with e | ⟨h2, _⟩
        · have := cntZ_mono l (show hi.toNat ≤ lo.toNat by omega) s
          rw [e]
          omega
        · have : i = hi.toNat := by omega
          rw [← this]
          omega
      rw [this]
      exact hR
  rintro _ _ ⟨rfl, h1, h2⟩
  obtain ⟨a, ha, hc⟩ := rd_nat hrd (i := i) (by omega)
  have hs := cntZ_succ (l := l) (i := i) (by omega) s
  have hi1 := hcl (i + 1)
  refine joinW_mk (fun q H' => H = H' ∧ q.1 = (cntZ l (i + 1) s : Int) - (cntZ l lo.toNat s : Int)) ?_ ?_
  · refine ⟨a, ha, by omega, by omega, _, by rw [Int.toNat_natCast]; exact hc, brW_dec (fun he => letV_mk fun n9 hn9 => ⟨rfl, ?_⟩) (fun he => ⟨rfl, ?_⟩)⟩
    · rw [if_pos he] at hs
      show n9 = _
      rw [hn9, wrap_i64 (by omega) (by omega)]
      omega
    · rw [if_neg he] at hs
      show (cntZ l i s : Int) - _ = _
      omega
  · rintro ⟨q, _⟩ _ ⟨rfl, hq⟩
    simp only at hq
    subst hq
    refine letV_mk fun i11 hi11 => ⟨n - (i + 1), by omega, i + 1, rfl, ?_, by omega, .inr ⟨by omega, by omega⟩, rfl, rfl⟩
    show i11 = _
    rw [hi11, wrap_i64 (by omega) (by omega)]; rfl
theorem refNth_spec (hrd : Rd H (l.map natV) p n) (hn : n ≤ 1048576) (lo hi s j : Int) {R : Int → Heap → Prop} (hR : ∀ x, IsNth l lo hi s j x → R x H) : brackenref1_Nth.C p n c lo hi s j H R := by
  have hl : l.length = n := by have := hrd.1; simpa using this
  apply brackenref1_Nth.calls
  unfold brackenref1_Nth.W
  refine joinW_thru (letV_mk fun i10 hi10 => ?_)
  have hcl := fun k => cntZ_le l k s
  refine loopW_mk (fun m (q : Int × Int × Unit) H' => ∃ i : Nat, m = n - i ∧ q.2.1 = (i : Int) ∧ lo.toNat ≤ i ∧ q.1 = (cntZ l i s : Int) - (cntZ l lo.toNat s : Int) ∧ H = H' ∧ ∀ (i' : Nat) (hi' : i' < l.length), i' < i → (l[i'] : Int) = s → lo ≤ i' → (cntZ l i' s : Int) ≠ cntZ l lo.toNat s + j) (n - lo.toNat) ⟨lo.toNat, rfl, by show i10 = _; omega, Nat.le_refl _, by show (0 : Int) = _; omega, rfl, fun i' _ h _ h2 => by omega⟩ ?_
  rintro m ⟨x, y, _⟩ _ ⟨i, rfl, hy, hlo, hx, rfl, hno⟩
  simp only at hx hy
  subst hx hy
  dsimp only
  have mono := cntZ_mono l hlo s
  refine joinW_mk (fun _ H' => H = H' ∧ (i : Int) < hi ∧ i < n) ?_ ?_
  · refine brW_dec (fun h1 => brW_dec (fun h2 => ⟨rfl, h1, by omega⟩) (fun h2 => ?_)) (fun h1 => ?_)
    · exact hR _ (.inr ⟨rfl, fun i' hi' e h3 h4 => hno i' hi' (by omega) e h3⟩)
    · exact hR _ (.inr ⟨rfl, fun i' hi' e h3 h4 => hno i' hi' (by omega) e h3⟩)
  rintro _ _ ⟨rfl, h1, h2⟩
  obtain ⟨a, ha, hc⟩ := rd_nat hrd (i := i) (by omega)
  have hs := cntZ_succ (l := l) (i := i) (by omega) s
  have hi1 := hcl (i + 1)
  refine joinW_mk (fun q H' => H = H' ∧ q.1 = (cntZ l (i + 1) s : Int) - (cntZ l lo.toNat s : Int) ∧ ((l[i]'(by omega) : Int) = s → (cntZ l i s : Int) ≠ cntZ l lo.toNat s + j)) ?_ ?_
  · refine ⟨a, ha, by omega, by omega, _, by rw [Int.toNat_natCast]; exact hc, brW_dec (fun he => brW_dec (fun hj => hR _ (.inl ⟨i, by omega, rfl, he, by omega, h1, by omega⟩)) (fun hj => letV_mk fun n9 hn9 => ⟨rfl, ?_, fun _ => by omega⟩)) (fun he => ⟨rfl, ?_, fun h => absurd h he⟩)⟩
    · rw [if_pos he] at hs
      show n9 = _
      rw [hn9, wrap_i64 (by omega) (by omega)]
      omega
    · rw [if_neg he] at hs
      show (cntZ l i s : Int) - _ = _
      omega
  · rintro ⟨q, _⟩ _ ⟨rfl, hq, hni⟩
    simp only at hq
    subst hq
    refine letV_mk fun i11 hi11 => ⟨n - (i + 1), by omega, i + 1, rfl, ?_, by omega, rfl, rfl, fun i' hi' hlt e h3 => ?_⟩
    · show i11 = _
      rw [hi11, wrap_i64 (by omega) (by omega)]; rfl
    · rcases Nat.lt_or_ge i' i with h | h
      · exact hno i' hi' h e h3
      · have : i' = i := by omega
        subst this
        exact hni e
theorem refWaveSize_spec {n sg : Nat} (hn : n ≤ 1048576) (hs : 1 ≤ sg ∧ sg ≤ 1048576) {R : Int → Heap → Prop} (hR : R ((nRows sg * sizeB n : Nat) : Int) H) : brackenref1_WaveSize.C (n : Int) (sg : Int) H R := by
  apply brackenref1_WaveSize.calls
  unfold brackenref1_WaveSize.W
  have hW20 := nRows_le (sg := sg) (by omega)
  rw [wrap_i64 (n := (sg : Int) - 1) (by omega) (by omega), show (sg : Int) - 1 = ((sg - 1 : Nat) : Int) by omega, wrap_natlt (by omega)]
  refine refWidth_spec (by omega) ?_
  have hW : blen (sg - 1) = nRows sg := rfl
  rw [hW]
  refine refBitsSize_spec (by omega) (letV_mk fun x hx => ?_)
  have hsz : sizeB n ≤ 2097152 := by unfold sizeB; omega
  have hm : nRows sg * sizeB n ≤ 20 * 2097152 := Nat.mul_le_mul hW20 hsz
  have e : x = ((nRows sg * sizeB n : Nat) : Int) := by
    rw [hx, show (nRows sg : Int) * (sizeB n : Int) = ((nRows sg * sizeB n : Nat) : Int) by push_cast; rfl, wrap_i64 (by omega) (by omega)]
  rw [e]
  exact hR
theorem refMaySyms_spec {zs : List Int} (hrd : Rd H (zs.map (Value.int .i64)) p n) (hn : n ≤ 1048576) (sg : Int) {R : Bool → Heap → Prop}
    (hT : (1 ≤ sg ∧ sg ≤ 1048576 ∧ ∀ z ∈ zs, 0 ≤ z ∧ z < sg) → R true H) (hF : ¬ (1 ≤ sg ∧ sg ≤ 1048576 ∧ ∀ z ∈ zs, 0 ≤ z ∧ z < sg) → R false H) : brackenref1_MaySyms.C p n c sg H R := by
  have hl : zs.length = n := by have := hrd.1; simpa using this
  apply brackenref1_MaySyms.calls
  unfold brackenref1_MaySyms.W
  refine joinW_mk (fun _ H' => H = H' ∧ ∀ z ∈ zs, 0 ≤ z ∧ z < sg) ?_ ?_
  · refine loopW_mk (fun m q H' => ∃ i : Nat, i ≤ n ∧ m = n - i ∧ q.1 = (i : Int) ∧ H = H' ∧ ∀ j (hj : j < zs.length), j < i → 0 ≤ zs[j] ∧ zs[j] < sg) n ⟨0, by omega, rfl, rfl, rfl, fun j _ h => absurd h (Nat.not_lt_zero j)⟩ ?_
    rintro m ⟨x, _⟩ _ ⟨i, hi, rfl, hx, rfl, hall⟩
    simp only at hx
    subst hx
    dsimp only
    refine brW_dec (fun hlt => ?_) (fun hge => ⟨rfl, fun z hz => ?_⟩)
    · have hi' : i < zs.length := by omega
      obtain ⟨a, ha, hc⟩ := hrd.get (i := i) (v := .int .i64 zs[i]) (by rw [List.getElem?_map, List.getElem?_eq_getElem hi']; rfl)
      have no : ¬ (0 ≤ zs[i] ∧ zs[i] < sg) → R false H := fun h => hF fun h2 => h (h2.2.2 _ (List.getElem_mem hi'))
      refine joinW_mk (fun _ H' => H = H' ∧ 0 ≤ zs[i] ∧ zs[i] < sg) ?_ ?_
      · exact joinW_thru ⟨a, ha, by omega, by omega, _, by rw [Int.toNat_natCast]; exact hc, brW_dec (fun h0 => brW_true rfl (no (by omega))) (fun h0 => ⟨a, ha, by omega, by omega, _, by rw [Int.toNat_natCast]; exact hc, brW_dec (fun h1 => no (by omega)) (fun h1 => ⟨rfl, by omega, by omega⟩)⟩)⟩
      · rintro _ _ ⟨rfl, h0, h1⟩
        refine letV_mk fun i5 hi5 => ⟨n - (i + 1), by omega, i + 1, by omega, rfl, by show i5 = _; rw [hi5, wrap_i64 (by omega) (by omega)]; rfl, rfl, fun j hj hji => ?_⟩
        rcases Nat.lt_or_ge j i with h | h
        · exact hall j hj h
        · have : j = i := by omega
          subst this
          exact ⟨h0, h1⟩
    · obtain ⟨j, hj, rfl⟩ := List.getElem_of_mem hz
      exact hall j hj (by omega)
  rintro _ _ ⟨rfl, hall⟩
  refine brW_dec (fun h0 => ?_) (fun h0 => hF fun h => h0 h.1)
  by_cases h1 : sg ≤ 1048576
  · rw [decide_eq_true h1]
    exact hT ⟨h0, h1, hall⟩
  · rw [decide_eq_false h1]
    exact hF fun h => h1 h.2.1
end
end Go.Proofs.YtkjgbophokcdbaaDoor
