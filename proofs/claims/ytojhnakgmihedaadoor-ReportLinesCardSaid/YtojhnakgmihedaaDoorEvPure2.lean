import Derived.Test.YtojhnakgmihedaaDoorEvPure
namespace Go.Ev
section
variable {P : Program} {K : Value → Prop}
theorem Yields.mk {s : Sem Value} {v : Value} (h : ∀ w, s.run P w = .ok v w) : Yields P s v := h

theorem convK_out {src dst : TypeId} {x : Value} (h : convK P src dst x K) : ∃ v, K v ∧ Yields P (convert src dst x) v := by
  unfold convK at h
  split at h
  · exact h.elim
  · rename_i ds hs
    split at h
    · rename_i k _ n hd
      exact ⟨_, h, fun w => by unfold convert; rw [Sem.run_bind, r_und hs]; simp only [Result.andThen]; rw [Sem.run_bind, r_und hd]; simp [Conv.intToInt]⟩
    · rename_i s hd
      exact ⟨_, h, fun w => by unfold convert; rw [Sem.run_bind, r_und hs]; simp only [Result.andThen]; rw [Sem.run_bind, r_und hd]; rfl⟩
    · exact h.elim
theorem lenK_out {t T : TypeId} {x : Value} (h : lenK P t x K) : ∃ v, K v ∧ Yields P (Builtin.len_ #[t] T #[x]) v := by
  unfold lenK at h
  split at h <;> first | exact h.elim | (rename_i hu; exact ⟨_, h, fun w => by unfold Builtin.len_; simp [r_und hu, goInt]⟩)
theorem capK_out {t T : TypeId} {x : Value} (h : capK P t x K) : ∃ v, K v ∧ Yields P (Builtin.cap_ #[t] T #[x]) v := by
  unfold capK at h
  split at h <;> first | exact h.elim | (rename_i hu; exact ⟨_, h, fun w => by unfold Builtin.cap_; simp [r_und hu, goInt]⟩)
theorem maxK_out : ∀ {r : List Value} {x : Value}, maxK x r K → ∃ v, K v ∧ Yields P (r.foldlM Builtin.max2 x) v
  | [], x, h => ⟨x, by simpa [maxK] using h, fun w => by simp⟩
  | y :: r, x, h => by
    cases x <;> cases y <;> simp only [maxK] at h <;> try exact h.elim
    rename_i k a k' b
    obtain ⟨v, hk, hy⟩ := maxK_out h
    refine ⟨v, hk, fun w => ?_⟩
    rw [List.foldlM_cons, Sem.run_bind]
    have e : (if b > a then b else a) = max a b := by split <;> omega
    simp only [Builtin.max2, Sem.run_pure, Result.andThen, e]
    exact hy w
theorem minK_out : ∀ {r : List Value} {x : Value}, minK x r K → ∃ v, K v ∧ Yields P (r.foldlM Builtin.min2 x) v
  | [], x, h => ⟨x, by simpa [minK] using h, fun w => by simp⟩
  | y :: r, x, h => by
    cases x <;> cases y <;> simp only [minK] at h <;> try exact h.elim
    rename_i k a k' b
    obtain ⟨v, hk, hy⟩ := minK_out h
    refine ⟨v, hk, fun w => ?_⟩
    rw [List.foldlM_cons, Sem.run_bind]
    have e : (if b < a then b else a) = min a b := by split <;> omega
    simp only [Builtin.min2, Sem.run_pure, Result.andThen, e]
    exact hy w
theorem bndK_out {x : Option Value} {d y : Nat} {K : Nat → Prop} (h : bndK x d y K) :
    ∃ n, K n ∧ (x = none → n = d) ∧ ∀ v, x = some v → ∀ c w, (Instr.sliceBound v y c).run P w = .ok n w := by
  unfold bndK at h
  split at h
  · exact ⟨_, h, by simp, by simp⟩
  · rename_i k i
    obtain ⟨h0, h1, h⟩ := h
    refine ⟨_, h, by simp, ?_⟩
    rintro v ⟨⟩ c w
    unfold Instr.sliceBound
    simp [asIntOf, h0, h1]
  · exact h.elim
theorem mulSize_eq (i s : Nat) : mulSize i s = i * s := by
  unfold mulSize
  cases hb : Nat.beq s 1
  · rfl
  · have := Nat.eq_of_beq_eq_true hb; subst this; simp
theorem sliceBounds_run {b : Bool} {len cap : Nat} {lo hi : Option Value} {h l : Nat}
    (hh1 : hi = none → h = len) (hh2 : ∀ v, hi = some v → ∀ c w, (Instr.sliceBound v cap c).run P w = .ok h w)
    (hl1 : lo = none → l = 0) (hl2 : ∀ v, lo = some v → ∀ c w, (Instr.sliceBound v h c).run P w = .ok l w) (w : World) :
    (Instr.sliceBounds b len cap lo hi none).run P w = .ok (l, h, cap) w := by
  unfold Instr.sliceBounds
  cases hi with
  | none =>
    obtain rfl := hh1 rfl
    cases lo with
    | none => obtain rfl := hl1 rfl; simp
    | some v => simp [hl2 v rfl]
  | some u =>
    cases lo with
    | none => obtain rfl := hl1 rfl; simp [hh2 u rfl]
    | some v => simp [hl2 v rfl, hh2 u rfl]
theorem sliceK_out {t : TypeId} {x : Value} {lo hi : Option Value} (h : sliceK P t x lo hi K) : ∃ v, K v ∧ Yields P (Instr.sliceAt t x lo hi none) v := by
  unfold sliceK at h
  split at h
  · rename_i s hu
    obtain ⟨n, h, hh1, hh2⟩ := bndK_out (P := P) h
    obtain ⟨l, h, hl1, hl2⟩ := bndK_out (P := P) h
    refine ⟨_, h, fun w => ?_⟩
    unfold Instr.sliceAt Instr.slice
    simp [r_und hu, sliceBounds_run hh1 hh2 hl1 hl2]
  · rename_i e p n c hu
    obtain ⟨n, h, hh1, hh2⟩ := bndK_out (P := P) h
    obtain ⟨l, h, hl1, hl2⟩ := bndK_out (P := P) h
    split at h
    · rename_i i hi
      refine ⟨_, h, fun w => ?_⟩
      unfold Instr.sliceAt Instr.slice
      simp [r_und hu, sliceBounds_run hh1 hh2 hl1 hl2, r_size hi, mulSize_eq]
    · exact h.elim
  · exact h.elim
theorem indexAddrK_out {t : TypeId} {x ix : Value} (h : indexAddrK P t x ix K) : ∃ v, K v ∧ Yields P (Instr.indexAt t x ix) v := by
  unfold indexAddrK at h
  split at h
  · rename_i k i
    split at h
    · rename_i e p n c hu
      obtain ⟨a, rfl, h0, h1, h⟩ := h
      split at h
      · rename_i j hj
        refine ⟨_, h, fun w => ?_⟩
        unfold Instr.indexAt
        simp [r_und hu, asIntOf, h0, h1, r_size hj, mulSize_eq]
      · exact h.elim
    · rename_i n e a hu
      obtain ⟨h0, h1, h⟩ := h
      split at h
      · rename_i j hj
        refine ⟨_, h, fun w => ?_⟩
        unfold Instr.indexAt
        simp [r_und hu, asIntOf, Instr.sureAddr, h0, h1, r_size hj, mulSize_eq]
      · exact h.elim
    · exact h.elim
  · exact h.elim
theorem indexK_out {t : TypeId} {x ix : Value} (h : indexK P t x ix K) : ∃ v, K v ∧ Yields P (Instr.index t x ix) v := by
  unfold indexK at h
  split at h
  · rename_i k i
    split at h
    · rename_i s hu
      obtain ⟨h0, h1, h⟩ := h
      refine ⟨_, h, fun w => ?_⟩
      have hlt : i.toNat < s.size := by omega
      have e : s[i.toNat]? = some (s.data.toList.getD i.toNat 0) := by
        rw [getElem?_pos s i.toNat hlt]
        have hl : i.toNat < s.data.toList.length := by simpa using hlt
        rw [List.getD_eq_getElem?_getD, List.getElem?_eq_getElem hl]
        rfl
      unfold Instr.index bt
      simp [r_und hu, asIntOf, h0, e]
    · exact h.elim
  · exact h.elim
theorem part_run {t : TypeId} {cs : Array Value} {off : Nat} {d : TypeDesc} (hd : P.underlying t = some d) (h : partK P t cs off K) (hi : (P.info? t).isSome = true) : ∃ v, K v ∧ Yields P (part t cs off) v := by
  unfold partK at h
  split at h
  · rename_i ha
    obtain ⟨i, hi⟩ := Option.isSome_iff_exists.1 hi
    refine ⟨_, h, fun w => ?_⟩
    unfold part
    simp [r_agg hd, ha, r_size hi, sizeT, hi]
  · rename_i ha
    split at h
    · rename_i v hv
      exact ⟨_, h, fun w => by unfold part; simp [r_agg hd, ha, hv]⟩
    · exact h.elim
theorem fieldK_out {t : TypeId} {x : Value} {f : Nat} (h : fieldK P t x f K) : ∃ v, K v ∧ Yields P (Instr.field t x f) v := by
  unfold fieldK at h
  split at h
  · rename_i fs cs hu
    split at h
    · rename_i fd hf
      split at h
      · rename_i d i hd hi
        obtain ⟨v, hk, hy⟩ := part_run hd h (by simp [hi])
        refine ⟨v, hk, fun w => ?_⟩
        unfold Instr.field
        simp [r_und hu, hf, asAgg, hy w]
      · exact h.elim
    · exact h.elim
  · exact h.elim
theorem fieldAddrK_out {t : TypeId} {x : Value} {f : Nat} (h : fieldAddrK P t x f K) : ∃ v, K v ∧ Yields P (Instr.fieldAt t x f) v := by
  unfold fieldAddrK at h
  split at h
  · rename_i fs a hu
    split at h
    · rename_i fd hf
      split at h
      · rename_i i hi
        cases hb : Nat.beq i.size 0 with
        | true => rw [hb] at h; exact h.elim
        | false =>
          rw [hb] at h
          have hne : ¬ i.size = 0 := by intro e; rw [e] at hb; simp at hb
          refine ⟨_, h, fun w => ?_⟩
          unfold Instr.fieldAt
          simp [r_und hu, hf, Instr.sureAddr, fieldPlace, r_size hi, hne]
      · exact h.elim
    · exact h.elim
  · exact h.elim
theorem typeAssert_run {x v z : Value} {X T : TypeId} {ok : Bool} {d : TypeDesc} (hu : P.underlying T = some d) (hd : ∀ m, d ≠ .interface m)
    (hz : ∀ w, (zeroValue T).run P w = .ok z w) (h : TaRel x T v z ok) : Yields P (Instr.typeAssert x X T true) (.tuple #[v, .bool ok]) := by
  intro w
  unfold Instr.typeAssert
  rw [Sem.run_bind, r_und hu]
  simp only [Result.andThen]
  rcases h with ⟨rfl, rfl⟩ | ⟨rfl, rfl, rfl | ⟨t, u, rfl, hne⟩⟩
  · cases d <;> first | exact absurd rfl (hd _) | simp
  · cases d <;> first | exact absurd rfl (hd _) | simp [hz]
  · cases d <;> first | exact absurd rfl (hd _) | simp [hz, hne]
theorem typeAssert_run' {v : Value} {X T : TypeId} {d : TypeDesc} (hu : P.underlying T = some d) (hd : ∀ m, d ≠ .interface m) :
    Yields P (Instr.typeAssert (.iface T v) X T false) v := by
  intro w
  unfold Instr.typeAssert
  rw [Sem.run_bind, r_und hu]
  simp only [Result.andThen]
  cases d <;> first | exact absurd rfl (hd _) | simp
theorem assertK_out {x : Value} {X T : TypeId} {ok : Bool} (h : assertK P x T ok K) : ∃ v, K v ∧ Yields P (Instr.typeAssert x X T ok) v := by
  unfold assertK at h
  split at h
  · exact h.elim
  · exact h.elim
  · rename_i d hne hu
    have hd : ∀ m, d ≠ .interface m := fun m e => hne m e
    cases ok with
    | true =>
      simp only at h
      obtain ⟨i, z, hi, hz, h, hzr⟩ := zeroT_out h
      obtain ⟨v, h⟩ := exSh_out h
      obtain ⟨b, hr, h⟩ := h
      exact ⟨_, h, typeAssert_run hu hd hzr hr⟩
    | false =>
      simp only at h
      obtain ⟨v, h1⟩ := exSh_out h
      obtain ⟨h2, h3⟩ := h1
      subst h2
      exact ⟨_, h3, typeAssert_run' hu hd⟩
theorem extractK_out {x : Value} {i : Nat} (h : extractK x i K) : ∃ v, K v ∧ Yields P (Instr.extract x i) v := by
  unfold extractK at h
  split at h
  · split at h
    · rename_i vs _ v hv
      exact ⟨_, h, fun w => by unfold Instr.extract; simp [hv]⟩
    · exact h.elim
  · exact h.elim
theorem ifaceK_out {t : TypeId} {x : Value} (h : ifaceK P t x K) : ∃ v, K v ∧ Yields P (Instr.makeInterface t x) v := by
  unfold ifaceK at h
  split at h
  · exact h.elim
  · exact h.elim
  · rename_i d hne hu
    refine ⟨_, h, fun w => ?_⟩
    unfold Instr.makeInterface
    rw [Sem.run_bind, r_und hu]
    simp only [Result.andThen]
    cases d <;> first | exact absurd hu (hne _) | simp
theorem unK_out {op : UnOp} {x : Value} (h : unK op x K) : ∃ v, K v ∧ Yields P (Op.unary op x) v := by
  unfold unK at h
  split at h
  · exact ⟨_, h, fun w => by simp [Op.unary, Op.intArith]⟩
  · exact ⟨_, h, fun w => by simp [Op.unary]⟩
  · exact ⟨_, h, fun w => by simp [Op.unary, Op.intBits, notW]⟩
  · exact h.elim
theorem nilCheckK_out {x : Value} (h : nilCheckK x K) : ∃ a, x = .pointer (some a) ∧ K (.pointer (some a)) := by
  unfold nilCheckK at h
  split at h
  · obtain ⟨a, rfl, h⟩ := h; exact ⟨a, rfl, h⟩
  · exact h.elim
end
end Go.Ev
