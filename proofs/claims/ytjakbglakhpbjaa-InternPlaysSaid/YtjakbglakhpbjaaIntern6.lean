import Derived.Test.YtjakbglakhpbjaaIntern5
/-! The law InternMany. -/
namespace Go.Proofs.Ytjakbglakhpbjaa
open Go.Ev
set_option linter.unusedVariables false

def nameS (i : Nat) : ByteArray := ⟨#[UInt8.ofNat (97 + i % 26), UInt8.ofNat (97 + i / 26 % 26), UInt8.ofNat (97 + i / 676)]⟩
theorem nameS_size (i : Nat) : (nameS i).size = 3 := rfl
theorem nameS_inj {i j : Nat} (hi : i < 501) (hj : j < 501) (h : nameS i = nameS j) : i = j := by
  unfold nameS at h
  injection h with h
  injection h with h
  injection h with h1 h
  injection h with h2 h
  injection h with h3 h
  have e1 := congrArg UInt8.toNat h1
  have e2 := congrArg UInt8.toNat h2
  have e3 := congrArg UInt8.toNat h3
  simp only [UInt8.toNat_ofNat'] at e1 e2 e3
  omega
theorem name_spec {i : Nat} (hi : i < 501) {H : Heap} {R : ByteArray → Heap → Prop} (hR : ∀ H', Fr noF H H' → R (nameS i) H') : brackenlaw9_name.C (i : Int) H R := by
  apply brackenlaw9_name.calls
  unfold brackenlaw9_name.W
  have t1 : Int.tmod (i : Int) 26 = ((i % 26 : Nat) : Int) := rfl
  have t2 : Int.tdiv (i : Int) 26 = ((i / 26 : Nat) : Int) := rfl
  have t3 : Int.tmod ((i / 26 : Nat) : Int) 26 = ((i / 26 % 26 : Nat) : Int) := rfl
  have t4 : Int.tdiv (i : Int) 676 = ((i / 676 : Nat) : Int) := rfl
  refine ⟨by decide, by decide, by decide, by decide, ?_⟩
  rw [t1, t2, t4, wrap_i64 (n := ((i / 26 : Nat) : Int)) (by omega) (by omega), t3, wrap_i64 (n := ((i / 676 : Nat) : Int)) (by omega) (by omega),
    wrap_i64 (n := 97 + ((i % 26 : Nat) : Int)) (by omega) (by omega), wrap_i64 (n := 97 + ((i / 26 % 26 : Nat) : Int)) (by omega) (by omega), wrap_i64 (n := 97 + ((i / 676 : Nat) : Int)) (by omega) (by omega),
    wrap_u8 (n := 97 + ((i % 26 : Nat) : Int)) (by omega) (by omega), wrap_u8 (n := 97 + ((i / 26 % 26 : Nat) : Int)) (by omega) (by omega), wrap_u8 (n := 97 + ((i / 676 : Nat) : Int)) (by omega) (by omega)]
  refine letV_mk fun H1 h1 => ⟨nameS i, ⟨rfl, ?_⟩, hR H1 (by rw [h1]; exact Fr.new _ _ _)⟩
  intro j v hj
  rw [hcell_add (by rw [h1]; exact hnew_same), Nat.zero_add]
  have hb : bytesCells (nameS i) = [.int .u8 (97 + ((i % 26 : Nat) : Int)), .int .u8 (97 + ((i / 26 % 26 : Nat) : Int)), .int .u8 (97 + ((i / 676 : Nat) : Int))] := by
    unfold bytesCells nameS
    simp only [List.map_cons, List.map_nil, UInt8.toNat_ofNat']
    rw [Nat.mod_eq_of_lt (a := 97 + i % 26) (by omega), Nat.mod_eq_of_lt (a := 97 + i / 26 % 26) (by omega), Nat.mod_eq_of_lt (a := 97 + i / 676) (by omega)]
    simp only [Int.natCast_add]
    rfl
  rw [hb] at hj
  simpa using hj
/-- A row of different places that are taken is no longer than there are places that are taken. -/
theorem taken_le {m h : Nat} : ∀ (j : Nat) (pl : List Int), pl.length = m → j ≤ m → (∀ k, k < j → 0 < pl.getD ((h + k) % m) 0) → j ≤ nz pl
  | 0, _, _, _, _ => Nat.zero_le _
  | j + 1, pl, hm, hj, hk => by
    have hp : (h + j) % m < pl.length := by rw [hm]; exact Nat.mod_lt _ (by omega)
    have ih := taken_le (h := h) j (pl.set ((h + j) % m) 0) (by rw [List.length_set, hm]) (by omega) (by
      intro k hkj
      rw [getD_set hp, if_neg]
      · exact hk k (by omega)
      · intro e
        have h1 : (k : Int) % m = (j : Int) % m := by
          have h2 : ((h + k : Nat) : Int) % m = ((h + j : Nat) : Int) % m := by exact_mod_cast congrArg (Nat.cast (R := Int)) e
          have h3 := Int.emod_emod_of_dvd
          have : ((k : Int) - j) % m = 0 := by
            have := Int.emod_eq_emod_iff_emod_sub_eq_zero.1 h2
            rw [← this]
            congr 1
            push_cast
            omega
          exact Int.emod_eq_emod_iff_emod_sub_eq_zero.2 this
        rw [Int.emod_eq_of_lt (by omega) (by omega), Int.emod_eq_of_lt (by omega) (by omega)] at h1
        omega)
    have hpos := hk j (by omega)
    have : nz (pl.set ((h + j) % m) 0) + 1 = nz pl := by
      have h1 := List.countP_set (p := fun x : Int => decide (x ≠ 0)) (l := pl) (i := (h + j) % m) (a := (0 : Int)) hp
      rw [getD_of_lt hp] at hpos
      have h2 : 0 < nz pl := by
        unfold nz
        rw [List.countP_pos_iff]
        exact ⟨_, List.getElem_mem hp, by simp; omega⟩
      unfold nz at h2 ⊢
      rw [h1]
      rw [if_pos (by simp; omega), if_neg (by simp)]
      omega
    omega
theorem looks_old {L : List ByteArray} {pl : List Int} (hok : Ok L pl) (hs : Sem L pl) {i : Nat} (hi : i < L.length) : 1 ≤ (placeF L pl L[i]).2 ∧ (placeF L pl L[i]).2 ≤ L.length := by
  have hpo := place_old hok.good hs hi
  obtain ⟨j, hj, he, h1, h2⟩ := placeF_char hok.good L[i]
  rw [he] at hpo ⊢
  simp only at hpo ⊢
  have := taken_le (h := home pl L[i]) (j + 1) pl rfl (by omega) (by
    intro k hk
    rcases Nat.lt_or_ge k j with h | h
    · exact (h1 k h).1
    · rw [show k = j by omega, hpo]; omega)
  have := hok.nz
  omega
/-- The texts. -/
def texts (s : ByteArray) (k : Nat) : List ByteArray := (List.range k).map fun i => s ++ nameS i
theorem texts_len (s : ByteArray) (k : Nat) : (texts s k).length = k := by simp [texts]
theorem texts_get (s : ByteArray) {k i : Nat} (h : i < (texts s k).length) : (texts s k)[i] = s ++ nameS i := by simp [texts]
theorem texts_succ (s : ByteArray) (k : Nat) : texts s (k + 1) = texts s k ++ [s ++ nameS k] := by simp [texts, List.range_succ]
theorem app_inj {s a b : ByteArray} (h : s ++ a = s ++ b) : a = b := by
  have h := congrArg (fun x : ByteArray => x.data.toList) h
  simp only [ByteArray.data_append, Array.toList_append] at h
  have := List.append_cancel_left h
  cases a; cases b
  congr 1
  exact Array.ext' this
theorem texts_new {s : ByteArray} {k : Nat} (hk : k < 501) : s ++ nameS k ∉ texts s k := by
  intro h
  unfold texts at h
  rw [List.mem_map] at h
  obtain ⟨i, hi, he⟩ := h
  rw [List.mem_range] at hi
  have := nameS_inj (by omega) hk (app_inj he)
  omega
theorem texts_none {s : ByteArray} {k : Nat} : s ++ (⟨#[63]⟩ : ByteArray) ∉ texts s k := by
  intro h
  unfold texts at h
  rw [List.mem_map] at h
  obtain ⟨i, hi, he⟩ := h
  have := congrArg ByteArray.size (app_inj he)
  rw [nameS_size] at this
  exact absurd this (by decide)
theorem InternMany_fn (H : Heap) (n : Int) (hn : (Lit.int .i64 n).wf = true) (s : ByteArray) (hs : s.size ≤ 140737488351232) : brackenlaw9_InternMany.C n s H fun b H' => b = true ∧ Fr noF H H' := by
  apply brackenlaw9_InternMany.calls
  unfold brackenlaw9_InternMany.W
  refine brW_dec (fun _ => told_spec fun H' f => ⟨rfl, f⟩) (fun hle => ?_)
  refine ⟨by decide, letV_mk fun k5 hk5 => ?_⟩
  have hkk : ∃ k : Nat, k < 501 ∧ k5 = (k : Int) := by
    have hr := wrap_u64_range n
    have h1 : 0 ≤ Int.tmod (IntKind.u64.wrap n) 501 ∧ Int.tmod (IntKind.u64.wrap n) 501 < 501 := by
      rw [Int.tmod_eq_emod_of_nonneg hr.1]
      omega
    rw [wrap_i64 (by omega) (by omega)] at hk5
    exact ⟨k5.toNat, by omega, by omega⟩
  obtain ⟨k, hk, rfl⟩ := hkk
  clear hk5
  refine new3 fun g H2 pl2 t2 f2 => brW_false rfl ?_
  refine joinW_thru ?_
  refine loopW_mk (fun n q H' => ∃ (i : Nat) (F : Nat → Prop) (pl : List Int) (lk : Int), i ≤ k ∧ n = k - i ∧ q.1 = (i : Int) ∧ Good3 H' g (texts s i) F pl lk ∧ Fr noF H H' ∧ (∀ k, F k → Array.size H ≤ k)) k
    ⟨0, _, pl2, 0, by omega, rfl, rfl, t2, f2, fun k hk => hk.1⟩ ?_
  rintro n ⟨x, _⟩ H4 ⟨i, F, pl, lk, hi, rfl, hx, t, fr, hF⟩
  simp only at hx
  subst hx
  dsimp only
  refine brW_dec (fun hlt => ?_) (fun hge => ?_)
  · have hlt : i < k := by omega
    refine joinW_thru (joinW_thru ?_)
    refine name_spec (by omega) fun H7 f7 => ⟨by rw [nameS_size]; omega, ?_⟩
    have t7 := t.keep f7 fun _ _ h => h
    have fr7 := fr.trans0 f7
    refine t7.put_new (by rw [texts_len]; omega) (by rw [ByteArray.size_append, nameS_size]; omega) (texts_new (by omega)) fun H8 F8 pl8 lk8 t8 hl8 f8 hF8 => ?_
    rw [texts_len]
    refine brW_neg (fun h => h rfl) ?_
    refine looked_spec t8.tab ?_
    refine brW_neg (by omega) ?_
    refine letV_mk fun i7 hi7 => ?_
    rw [← texts_succ] at t8
    refine ⟨k - (i + 1), by omega, i + 1, F8, pl8, lk8, by omega, rfl, ?_, t8, fr7.trans f8 fun k hk => .inr (hF k hk), fun k hk => ?_⟩
    · show i7 = _
      rw [hi7, wrap_i64 (by omega) (by omega)]; rfl
    · rcases hF8 k hk with h | h
      · exact hF k h
      · exact Nat.le_trans fr7.size h
  · have hik : i = k := by omega
    subst hik
    refine joinW_thru ?_
    refine loopW_mk (fun n q H' => ∃ (j : Nat) (lk : Int), j ≤ i ∧ n = i - j ∧ q.1 = (j : Int) ∧ Good3 H' g (texts s i) F pl lk ∧ Fr noF H H') i ⟨0, lk, by omega, rfl, rfl, t, fr⟩ ?_
    rintro n ⟨x, _⟩ H11 ⟨j, lk', hj, rfl, hx, t11, fr11⟩
    simp only at hx
    subst hx
    dsimp only
    refine brW_dec (fun hlt => ?_) (fun hge => ?_)
    · have hlt : j < i := by omega
      refine joinW_thru ?_
      refine name_spec (by omega) fun H13 f13 => ⟨by rw [nameS_size]; omega, ?_⟩
      have t13 := t11.keep f13 fun _ _ h => h
      have hjl : j < (texts s i).length := by rw [texts_len]; exact hlt
      rw [← texts_get s hjl]
      have hlo := looks_old t13.ok t13.sem hjl
      rw [texts_len] at hlo
      refine t13.find_old hjl fun H14 t14 f14 => ?_
      refine joinW_thru (brW_false rfl (brW_neg (fun h => h rfl) ?_))
      refine looked_spec t14.tab (brW_neg (by omega) ?_)
      refine looked_spec t14.tab (brW_neg (by omega) ?_)
      refine letV_mk fun i8 hi8 => ⟨i - (j + 1), by omega, j + 1, _, by omega, rfl, ?_, t14, (fr11.trans0 f13).trans f14 fun k hk => .inr (hF k hk)⟩
      show i8 = _
      rw [hi8, wrap_i64 (by omega) (by omega)]; rfl
    · refine ⟨by show s.size + 1 ≤ _; omega, ?_⟩
      refine t11.find_new (by rw [ByteArray.size_append]; show s.size + 1 ≤ _; omega) texts_none fun H18 lk18 t18 f18 => ?_
      refine told_spec fun H19 f19 => brW_true rfl (brW_true rfl ?_)
      have t19 := t18.keep f19 fun _ _ h => h
      refine len_spec t19.tab ⟨?_, (fr11.trans f18 fun k hk => .inr (hF k hk)).trans0 f19⟩
      rw [texts_len]
      exact decide_eq_true rfl
end Go.Proofs.Ytjakbglakhpbjaa
