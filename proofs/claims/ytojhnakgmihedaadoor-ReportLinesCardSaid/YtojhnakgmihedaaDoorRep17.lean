import Derived.Test.YtojhnakgmihedaaDoorRep16
/-! The laws of package report: lines. -/
namespace Go.Ev
theorem rep32 : ∀ c, Go.Lib.repeatL [32, 32] c = List.replicate (2 * c) 32
  | 0 => rfl
  | c + 1 => by
    show [32, 32] ++ Go.Lib.repeatL [32, 32] c = _
    rw [rep32 c, show 2 * (c + 1) = 2 * c + 1 + 1 by omega, List.replicate_succ, List.replicate_succ]
    rfl
theorem dec10 : ∀ (f n : Nat), n < f → (10 : UInt8) ∉ Go.Lib.decDigits n
  | 0, _, h => absurd h (Nat.not_lt_zero _)
  | f + 1, n, h => by
    have dig : ∀ m : Fin 10, (10 : UInt8) ≠ UInt8.ofNat (48 + m.val) := by decide
    by_cases hn : n < 10
    · rw [dec1 hn, List.mem_singleton]
      exact dig ⟨n, hn⟩
    · rw [Go.Lib.decDigits, dif_neg hn, List.mem_append, List.mem_singleton]
      rintro (h1 | h1)
      · exact dec10 f (n / 10) (by omega) h1
      · exact dig ⟨n % 10, Nat.mod_lt _ (by decide)⟩ h1
structure LineOk (n : Nd) : Prop where
  d0 : 0 ≤ n.d
  dm : n.d ≤ 201
  nl : (10 : UInt8) ∉ lineL n
  sp : ∃ c r, lineL n = List.replicate (2 * n.d.toNat) 32 ++ c :: r ∧ c ≠ 32
theorem LineOk.mk' {n : Nd} (h0 : 0 ≤ n.d) (h1 : n.d ≤ 201) {c : UInt8} {r : List UInt8} (hb : bodyL n = c :: r) (hc : c ≠ 32) (hn : (10 : UInt8) ∉ bodyL n) : LineOk n := by
  have hs : spL n.d = List.replicate (2 * n.d.toNat) 32 := by unfold spL; rw [if_pos ⟨h0, h1⟩, rep32]
  refine ⟨h0, h1, ?_, c, r, ?_, hc⟩
  · unfold lineL
    rw [hs, List.mem_append]
    rintro (h | h)
    · have := List.eq_of_mem_replicate h
      exact absurd this (by decide)
    · exact hn h
  · unfold lineL
    rw [hs, hb]
theorem LineOk.nD : LineOk nD := LineOk.mk' (by decide) (by decide) (c := 100) (r := [111, 99, 117, 109, 101, 110, 116]) rfl (by decide) (by decide)
theorem LineOk.made {i : Nat} {n : Nd} (h : MkR i n) (hi : i ≤ 200) : LineOk n := by
  obtain ⟨k2, k5, d1, di, n1, n2, n3⟩ := h
  unfold noNL at n1 n2 n3
  have hname : (10 : UInt8) ∉ nameL n := by
    unfold nameL
    split
    · exact n2
    · simp only [List.mem_append, List.mem_singleton]
      rintro ((h | h) | h)
      · exact n1 h
      · exact absurd h (by decide)
      · exact n2 h
  have hdec : ∀ m, (10 : UInt8) ∉ Go.Lib.decDigits m := fun m => dec10 (m + 1) m (Nat.lt_succ_self m)
  have hk : n.k = 2 ∨ n.k = 3 ∨ n.k = 4 ∨ n.k = 5 := by omega
  rcases hk with hk | hk | hk | hk
  · have hb : bodyL n = [101, 108, 101, 109, 101, 110, 116] ++ ([32] ++ (([123] ++ n.uri.data.toList ++ [125] ++ nameL n) ++ ([32] ++ Go.Lib.decDigits n.al))) := by unfold bodyL; rw [if_neg (by omega), if_pos hk]
    refine LineOk.mk' (by omega) (by omega) (hb.trans rfl) (by decide) ?_
    rw [hb]
    simp only [List.mem_append, List.mem_cons, List.not_mem_nil, or_false]
    rintro (h | h | (((h | h) | h) | h) | h | h)
    · exact absurd h (by decide)
    · exact absurd h (by decide)
    · exact absurd h (by decide)
    · exact n3 h
    · exact absurd h (by decide)
    · exact hname h
    · exact absurd h (by decide)
    · exact hdec _ h
  · have hb : bodyL n = [116, 101, 120, 116] ++ ([32] ++ Go.Lib.decDigits n.val.size) := by unfold bodyL; rw [if_neg (by omega), if_neg (by omega), if_pos hk]
    refine LineOk.mk' (by omega) (by omega) (hb.trans rfl) (by decide) ?_
    rw [hb]
    simp only [List.mem_append, List.mem_cons, List.not_mem_nil, or_false]
    rintro (h | h | h)
    · exact absurd h (by decide)
    · exact absurd h (by decide)
    · exact hdec _ h
  · have hb : bodyL n = [99, 111, 109, 109, 101, 110, 116] ++ ([32] ++ Go.Lib.decDigits n.val.size) := by unfold bodyL; rw [if_neg (by omega), if_neg (by omega), if_neg (by omega), if_pos hk]
    refine LineOk.mk' (by omega) (by omega) (hb.trans rfl) (by decide) ?_
    rw [hb]
    simp only [List.mem_append, List.mem_cons, List.not_mem_nil, or_false]
    rintro (h | h | h)
    · exact absurd h (by decide)
    · exact absurd h (by decide)
    · exact hdec _ h
  · have hb : bodyL n = [112, 105] ++ ([32] ++ n.loc.data.toList) := by unfold bodyL; rw [if_neg (by omega), if_neg (by omega), if_neg (by omega), if_neg (by omega), if_pos hk]
    refine LineOk.mk' (by omega) (by omega) (hb.trans rfl) (by decide) ?_
    rw [hb]
    simp only [List.mem_append, List.mem_cons, List.not_mem_nil, or_false]
    rintro (h | h | h)
    · exact absurd h (by decide)
    · exact absurd h (by decide)
    · exact n2 h
theorem treeL_app (a b : List Nd) : treeL (a ++ b) = treeL a ++ treeL b := by unfold treeL; simp
theorem treeL_at {T : List Nd} {k : Nat} (hk : k < T.length) : treeL T = treeL (T.take k) ++ (lineL T[k] ++ (10 :: treeL (T.drop (k + 1)))) := by
  have e : T = T.take k ++ ([T[k]] ++ T.drop (k + 1)) := by
    rw [List.singleton_append, ← List.drop_eq_getElem_cons hk, List.take_append_drop]
  have e2 : treeL [T[k]] = lineL T[k] ++ [10] := by unfold treeL; simp
  calc treeL T = treeL (T.take k ++ ([T[k]] ++ T.drop (k + 1))) := by rw [← e]
    _ = _ := by rw [treeL_app, treeL_app, e2]; simp
theorem btm {l : List UInt8} {i : Nat} {b : UInt8} (h : l[i]? = some b) : bt (mkB l) (i : Int) = (b.toNat : Int) := by
  obtain ⟨hl, hb⟩ := List.getElem?_eq_some_iff.1 h
  rw [bt_get (by rw [mkB_size]; exact hl)]
  simp only [mkB]
  rw [← hb]
theorem mkB_extract (l : List UInt8) (i j : Nat) : (mkB l).extract i j = mkB ((l.drop i).take (j - i)) := by
  apply ByteArray.ext
  rw [ByteArray.data_extract]
  unfold mkB
  simp
theorem sum_kinds : ∀ (T : List Nd), (∀ n ∈ T, 1 ≤ n.k ∧ n.k ≤ 5) → kindC T 1 + kindC T 2 + kindC T 3 + kindC T 4 + kindC T 5 = T.length ∧ noneC T = 0
  | [], _ => ⟨rfl, rfl⟩
  | n :: r, h => by
    obtain ⟨h1, h2⟩ := sum_kinds r fun m hm => h m (by simp [hm])
    obtain ⟨k1, k5⟩ := h n (by simp)
    unfold kindC noneC at *
    have hk : n.k = 1 ∨ n.k = 2 ∨ n.k = 3 ∨ n.k = 4 ∨ n.k = 5 := by omega
    simp only [List.countP_cons, List.length_cons]
    refine ⟨?_, ?_⟩
    · rcases hk with hk | hk | hk | hk | hk <;> simp [hk] <;> omega
    · rw [h2]
      rcases hk with hk | hk | hk | hk | hk <;> simp [hk]
theorem one_doc : ∀ (r : List Nd), (∀ n ∈ r, 2 ≤ n.k) → kindC r 1 = 0
  | [], _ => rfl
  | n :: r, h => by
    have h1 := one_doc r fun m hm => h m (by simp [hm])
    have h2 := h n (by simp)
    unfold kindC at *
    rw [List.countP_cons, h1, if_neg (by simp; omega)]
end Go.Ev
namespace Go.Proofs.YtojhnakgmihedaaDoor
open Go.Ev
set_option linter.unusedVariables false
set_option maxHeartbeats 8000000 in
theorem ReportLines_fn (H : Heap) (hd : Pow10 H) (a : Option Addr) (len cap : Nat) (zs : List Int) (hrd : Rd H (zs.map (Value.int .i64)) a len) (hw : ∀ z ∈ zs, (Lit.int .i64 z).wf = true) (hb : len ≤ 9223372036854775807) :
    brackenlaw27_ReportLines.C a len cap H fun b H' => b = true ∧ Fr noF H H' := by
  apply brackenlaw27_ReportLines.calls
  unfold brackenlaw27_ReportLines.W
  refine Make_spec hrd fun T p l c H1 ht hT hsm hl f1 => ?_
  have hp := hd.old f1
  have hlen := ht.1
  obtain ⟨rest, eT, hrest⟩ := hT
  have hln : ∀ n ∈ T, LineOk n := fun n hn => by
    rw [eT] at hn
    rcases List.mem_cons.1 hn with rfl | hn
    · exact LineOk.nD
    · exact LineOk.made (hrest n hn) (by decide)
  refine Tree_spec ht (by omega) hsm (fun n hn => .inr hp) fun H2 f2 => ?_
  have ht2 := ht.old f2
  have hp2 := hp.old f2
  have hsz : (treeL T).length ≤ 64 * 4000501 := by
    have h := treeL_len (t := T) (b := 4000500) fun n hn => by
      obtain ⟨s1, s2, s3, s4, s5⟩ := hsm n hn
      exact lineL_len s1 s2 s3 s4 s5
    exact Nat.le_trans h (Nat.mul_le_mul_right _ (by omega))
  rw [mkB_size]
  -- where line k begins
  have hoff : ∀ k (hk : k < T.length), (treeL (T.take (k + 1))).length = (treeL (T.take k)).length + (lineL T[k]).length + 1 := fun k hk => by
    rw [List.take_succ_eq_append_getElem hk, treeL_snoc]; simp; omega
  have hin : ∀ k (hk : k < T.length), (treeL (T.take k)).length + (lineL T[k]).length < (treeL T).length := fun k hk => by
    rw [treeL_at hk]; simp
  have hbyte : ∀ k (hk : k < T.length) j, j < (lineL T[k]).length → (treeL T)[(treeL (T.take k)).length + j]? = (lineL T[k])[j]? := fun k hk j hj => by
    rw [treeL_at hk, List.getElem?_append_right (by omega), Nat.add_sub_cancel_left, List.getElem?_append_left hj]
  have hend : ∀ k (hk : k < T.length), (treeL T)[(treeL (T.take k)).length + (lineL T[k]).length]? = some 10 := fun k hk => by
    rw [treeL_at hk, List.getElem?_append_right (by omega), Nat.add_sub_cancel_left, List.getElem?_append_right (Nat.le_refl _), Nat.sub_self]
    rfl
  have b10 : ∀ b : UInt8, b ≠ 10 → ((b.toNat : Int) ≠ 10) := fun b hb e => hb (UInt8.toNat_inj.1 (by show b.toNat = 10; omega))
  have b32 : ∀ b : UInt8, b ≠ 32 → ((b.toNat : Int) ≠ 32) := fun b hb e => hb (UInt8.toNat_inj.1 (by show b.toNat = 32; omega))
  refine joinW_mk (fun (q : Int × Unit) H' => q.1 = (l : Int) ∧ Fr noF H2 H') ?_ ?_
  · refine loopW_mk (fun t (q : Int × Int × Int × Unit) H' => Fr noF H2 H' ∧ ∃ k i : Nat, k ≤ l ∧ t = (treeL T).length - i ∧ q.1 = (k : Int) ∧ q.2.1 = ((treeL (T.take k)).length : Int) ∧ q.2.2.1 = (i : Int) ∧ (treeL (T.take k)).length ≤ i ∧ i ≤ (treeL T).length ∧ ∀ hk : k < T.length, i ≤ (treeL (T.take k)).length + (lineL T[k]).length) (treeL T).length
      ⟨Fr.refl _ _, 0, 0, Nat.zero_le _, rfl, rfl, rfl, rfl, Nat.le_refl _, Nat.zero_le _, fun hk => Nat.zero_le _⟩ ?_
    rintro t ⟨k', from', i', _⟩ H4 ⟨f4, k, i, hkl, rfl, hk', hf', hi', hoi, his, hline⟩
    simp only at hk' hf' hi'
    subst hk' hf' hi'
    dsimp only
    refine brW_dec (fun hlt => ?_) (fun hge => ?_)
    · have hkT : k < T.length := by
        rcases Nat.lt_or_ge k T.length with h | h
        · exact h
        · rw [List.take_of_length_le h] at hoi; omega
      have hil := hline hkT
      refine joinW_mk (fun (q : Int × Int × Unit) H' => Fr noF H2 H' ∧ ∃ k2 : Nat, k2 ≤ l ∧ q.1 = (k2 : Int) ∧ q.2.1 = ((treeL (T.take k2)).length : Int) ∧ (treeL (T.take k2)).length ≤ i + 1 ∧ ∀ hk : k2 < T.length, i + 1 ≤ (treeL (T.take k2)).length + (lineL T[k2]).length) ?_ ?_
      · refine ⟨by omega, by omega, ?_⟩
        obtain ⟨hd0, hdm, hnl, cc, rr, hsp, hcc⟩ := hln _ (List.getElem_mem hkT)
        rcases Nat.lt_or_ge i ((treeL (T.take k)).length + (lineL T[k]).length) with hlt2 | hge2
        · have hj : i - (treeL (T.take k)).length < (lineL T[k]).length := by omega
          have hb := hbyte k hkT _ hj
          rw [show (treeL (T.take k)).length + (i - (treeL (T.take k)).length) = i by omega, List.getElem?_eq_getElem hj] at hb
          rw [btm hb]
          refine brW_pos (b10 _ fun e => hnl (by rw [← e]; exact List.getElem_mem hj)) ⟨f4, k, hkl, rfl, rfl, by omega, fun _ => by omega⟩
        · have hie : i = (treeL (T.take k)).length + (lineL T[k]).length := by omega
          have hb := hend k hkT
          rw [← hie] at hb
          rw [btm hb]
          refine brW_neg (fun h => h rfl) (brW_neg (by omega) ?_)
          have hll : (lineL T[k]).length = 2 * T[k].d.toNat + 1 + rr.length := by rw [hsp]; simp; omega
          refine joinW_mk (fun (q : Int × Unit) H' => H4 = H' ∧ q.1 = 2 * T[k].d) ?_ ?_
          · refine loopW_mk (fun s (q : Int × Unit) H' => H4 = H' ∧ ∃ m : Nat, m ≤ 2 * T[k].d.toNat ∧ s = 2 * T[k].d.toNat - m ∧ q.1 = (m : Int)) (2 * T[k].d.toNat) ⟨rfl, 0, Nat.zero_le _, rfl, rfl⟩ ?_
            rintro s ⟨m', _⟩ _ ⟨rfl, m, hm, rfl, hm'⟩
            simp only at hm'
            subst hm'
            dsimp only
            have e1 : IntKind.i64.wrap (((treeL (T.take k)).length : Int) + (m : Int)) = (((treeL (T.take k)).length + m : Nat) : Int) := by rw [wrap_i64 (by omega) (by omega)]; rfl
            rw [e1]
            have hmb := hbyte k hkT m (by omega)
            refine joinW_mk (fun _ H' => H4 = H' ∧ m < 2 * T[k].d.toNat) ?_ ?_
            · refine brW_pos (by omega) ⟨by omega, by omega, ?_⟩
              rcases Nat.lt_or_ge m (2 * T[k].d.toNat) with hml | hml
              · have : (lineL T[k])[m]? = some 32 := by
                  rw [hsp, List.getElem?_append_left (by simpa using hml), List.getElem?_replicate, if_pos hml]
                rw [btm (hmb.trans this)]
                exact brW_pos rfl ⟨rfl, hml⟩
              · have hme : m = 2 * T[k].d.toNat := by omega
                have : (lineL T[k])[m]? = some cc := by
                  rw [hsp, List.getElem?_append_right (by simpa using hml)]
                  simp [hme]
                rw [btm (hmb.trans this)]
                refine brW_neg (b32 _ hcc) ⟨rfl, ?_⟩
                show (m : Int) = 2 * T[k].d
                omega
            · rintro _ _ ⟨rfl, hml⟩
              refine letV_mk fun y hy => ⟨2 * T[k].d.toNat - (m + 1), by omega, rfl, m + 1, by omega, rfl, ?_⟩
              show y = _
              rw [hy, wrap_i64 (by omega) (by omega)]; rfl
          · rintro ⟨inn, _⟩ _ ⟨rfl, hinn⟩
            simp only at hinn
            subst hinn
            dsimp only
            obtain ⟨aT, haT, hcT⟩ := (ht2.old f4).2 k hkT
            refine joinW_mk (fun _ H' => Fr noF H2 H') ?_ ?_
            · refine joinW_mk (fun (q : Bool × Unit) H' => q.1 = false ∧ Fr noF H2 H') ?_ ?_
              · refine ⟨aT, haT, by omega, by omega, _, by rw [Int.toNat_natCast]; exact hcT 1 (by omega), ?_⟩
                show brW (decide (2 * T[k].d ≠ IntKind.i64.wrap (2 * T[k].d))) _ _
                rw [wrap_i64 (by omega) (by omega)]
                refine brW_neg (fun h => h rfl) ⟨by omega, by omega, by omega, by omega, aT, haT, by omega, by omega, ?_⟩
                rw [Int.toNat_natCast, Int.toNat_natCast, Int.toNat_natCast]
                refine readNode T[k] hcT ?_
                refine Line_spec T[k] (hsm _ (List.getElem_mem hkT)) (.inr (hp2.old f4)) fun H11 f11 => ⟨?_, f4.trans0 f11⟩
                refine decide_eq_false fun h => h ?_
                rw [mkB_extract, treeL_at hkT, List.drop_left, hie, Nat.add_sub_cancel_left, List.take_left]
              · rintro ⟨b, _⟩ H10 ⟨hbf, f10⟩
                simp only at hbf
                subst hbf
                exact brW_false rfl f10
            · rintro _ H9 f9
              refine letV_mk fun y hy => letV_mk fun z hz => ⟨f9, k + 1, by omega, ?_, ?_, ?_, fun hk => ?_⟩
              · show y = _
                rw [hy, wrap_i64 (by omega) (by omega)]; rfl
              · show z = _
                have := hoff k hkT
                rw [hz, wrap_i64 (by omega) (by omega)]
                omega
              · have := hoff k hkT; omega
              · have := hoff k hkT; omega
      · rintro ⟨k2', from2, _⟩ H5 ⟨f5, k2, e1, e2, e3, e4, e5⟩
        simp only at e2 e3
        refine letV_mk fun y hy => ⟨(treeL T).length - (i + 1), by omega, f5, k2, i + 1, e1, rfl, e2, e3, ?_, e4, by omega, e5⟩
        show y = _
        rw [hy, wrap_i64 (by omega) (by omega)]; rfl
    · refine ⟨?_, f4⟩
      show (k : Int) = (l : Int)
      rcases Nat.lt_or_ge k T.length with h | h
      · have h1 := hline h
        have h2 := hin k h
        omega
      · omega
  rintro ⟨kk, _⟩ H3 ⟨hkk, f3⟩
  simp only at hkk
  subst hkk
  dsimp only
  refine Counts_spec (ht2.old f3) (by omega) fun H12 f12 => letV_mk fun H13 h13 => ?_
  have f13 : Fr noF H12 H13 := by rw [h13]; exact Fr.new _ _ _
  have g13 := new_part h13
  clear h13
  refine setStep g13 (by simp) f13 (Nat.le_refl _) fun H15 g15 f15 _ => ?_
  clear g13 f13
  refine setStep g15 (by simp) f15 (Nat.le_refl _) fun H16 g16 f16 _ => ?_
  clear g15 f15
  refine setStep g16 (by simp) f16 (Nat.le_refl _) fun H17 g17 f17 _ => ?_
  clear g16 f16
  refine setStep g17 (by simp) f17 (Nat.le_refl _) fun H18 g18 f18 _ => ?_
  clear g17 f17
  refine setStep g18 (by simp) f18 (Nat.le_refl _) fun H19 g19 f19 _ => ?_
  clear g18 f18
  refine setStep g19 (by simp) f19 (Nat.le_refl _) fun H20 g20 f20 _ => ?_
  clear g19 f19
  refine told_spec fun H21 f21 => brW_true rfl (brW_pos rfl ?_)
  have g21 := f21.blk g20 fun h => h
  have hkinds : ∀ n ∈ T, 1 ≤ n.k ∧ n.k ≤ 5 := fun n hn => by
    rw [eT] at hn
    rcases List.mem_cons.1 hn with rfl | hn
    · exact ⟨by decide, by decide⟩
    · obtain ⟨k2, k5, _⟩ := hrest n hn
      omega
  obtain ⟨hsum, hnone⟩ := sum_kinds T hkinds
  have hdoc : kindC T 1 = 1 := by
    have := one_doc rest fun n hn => (hrest n hn).1
    rw [eT]
    unfold kindC at this ⊢
    rw [List.countP_cons, this]
    rfl
  have c0 : cntN T 0 = noneC T := rfl
  have c1 : cntN T 1 = kindC T 1 := rfl
  have c2 : cntN T 2 = kindC T 2 := rfl
  have c3 : cntN T 3 = kindC T 3 := rfl
  have c4 : cntN T 4 = kindC T 4 := rfl
  have c5 : cntN T 5 = kindC T 5 := rfl
  refine ⟨by decide, by decide, _, (hcell_add g21 0 0).trans rfl, brW_pos (by omega) ⟨by decide, by decide, _, (hcell_add g21 0 1).trans rfl, brW_pos (by omega) ⟨by decide, by decide, _, (hcell_add g21 0 1).trans rfl, by decide, by decide, _, (hcell_add g21 0 2).trans rfl, by decide, by decide, _, (hcell_add g21 0 3).trans rfl, by decide, by decide, _, (hcell_add g21 0 4).trans rfl, by decide, by decide, _, (hcell_add g21 0 5).trans rfl, ?_, ?_⟩⟩⟩
  · refine decide_eq_true ?_
    rw [wrap_i64 (n := ((cntN T 1 : Nat) : Int) + ((cntN T 2 : Nat) : Int)) (by omega) (by omega), wrap_i64 (n := ((cntN T 1 : Nat) : Int) + ((cntN T 2 : Nat) : Int) + ((cntN T 3 : Nat) : Int)) (by omega) (by omega), wrap_i64 (n := ((cntN T 1 : Nat) : Int) + ((cntN T 2 : Nat) : Int) + ((cntN T 3 : Nat) : Int) + ((cntN T 4 : Nat) : Int)) (by omega) (by omega), wrap_i64 (by omega) (by omega)]
    omega
  · exact f1.trans0 (f2.trans0 (f3.trans0 (f12.trans0 (f20.trans0 f21))))
end Go.Proofs.YtojhnakgmihedaaDoor
