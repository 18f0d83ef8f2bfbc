import Derived.Test.YtojhnakgmihedaaDoorEv
import Derived.Laws.StructEq
import Derived.ChangeKeysEq
/-! What the plain reckoning tells of an operation is what the machine does: operations that touch no memory. -/
namespace Go.Ev

theorem o1_out {e : Env} {x : Operand} {K : Value → Prop} (h : o1 e x K) : ∃ v, opv e x = some v ∧ K v := by
  unfold o1 at h
  split at h
  · rename_i v hv; exact ⟨v, hv, h⟩
  · exact h.elim
theorem oL_out {e : Env} : ∀ {l : List Operand} {acc : List Value} {K : List Value → Prop}, oL e l acc K →
    ∃ vs : List Value, vs.map some = l.map (opv e) ∧ K (acc ++ vs)
  | [], acc, K, h => ⟨[], rfl, by simpa [oL] using h⟩
  | x :: xs, acc, K, h => by
    obtain ⟨v, hv, h⟩ := o1_out (show o1 e x _ from h)
    obtain ⟨vs, hf, hk⟩ := oL_out h
    exact ⟨v :: vs, by simp [hf, hv], by simpa using hk⟩
theorem opL_out {e : Env} : ∀ {l : List (Nat × Operand)} {acc : List (Nat × Value)} {K : List (Nat × Value) → Prop}, opL e l acc K →
    ∃ vs : List (Nat × Value), vs.map (fun v => (v.1, some v.2)) = l.map (fun x => (x.1, opv e x.2)) ∧ K (acc ++ vs)
  | [], acc, K, h => ⟨[], rfl, by simpa [opL] using h⟩
  | (i, x) :: xs, acc, K, h => by
    obtain ⟨v, hv, h⟩ := o1_out (show o1 e x _ from h)
    obtain ⟨vs, hf, hk⟩ := opL_out h
    exact ⟨(i, v) :: vs, by simp [hf, hv], by simpa using hk⟩
theorem oO_out {e : Env} {x : Option Operand} {K : Option Value → Prop} (h : oO e x K) : ∃ v, K v ∧ (∀ y, x = some y → ∃ u, v = some u ∧ opv e y = some u) ∧ (x = none → v = none) := by
  cases x with
  | none => exact ⟨none, h, by simp, by simp⟩
  | some y =>
    obtain ⟨v, hv, h⟩ := o1_out (show o1 e y _ from h)
    exact ⟨some v, h, by rintro _ ⟨⟩; exact ⟨v, rfl, hv⟩, by simp⟩
/-- A run that yields a value and leaves the world as it was. -/
def Yields (P : Program) (s : Sem Value) (v : Value) : Prop := ∀ w, s.run P w = .ok v w

section
variable {P : Program} {K : Value → Prop}

theorem ite_out {c : Prop} [Decidable c] {A : Prop} (h : if c then A else False) : c ∧ A := by
  split at h
  · exact ⟨‹_›, h⟩
  · exact h.elim

theorem binI_out {op : BinOp} {k k' : IntKind} {a b : Int} {t : TypeId} (h : binI op k a k' b K) :
    ∃ v, K v ∧ Yields P (binOp op t (.int k a) (.int k' b)) v := by
  cases op <;> simp only [binI] at h
  case shl => obtain ⟨h0, h⟩ := h; exact ⟨_, h, fun w => by simp [binOp, Op.shift, shlW, show ¬ b < 0 by omega]⟩
  case shr => obtain ⟨h0, h⟩ := h; exact ⟨_, h, fun w => by simp [binOp, Op.shift, shrW, show ¬ b < 0 by omega]⟩
  case quo => obtain ⟨hk, h0, h1⟩ := ite_out h; subst hk; exact ⟨_, h1, fun w => by simp [binOp, Op.intDiv, h0]⟩
  case rem => obtain ⟨hk, h0, h1⟩ := ite_out h; subst hk; exact ⟨_, h1, fun w => by simp [binOp, Op.intDiv, h0]⟩
  case eql => obtain ⟨hk, h1⟩ := ite_out h; subst hk; exact ⟨_, h1, fun w => by simp [binOp, Op.intCmp, Bool.beq_eq_decide_eq]⟩
  case neq => obtain ⟨hk, h1⟩ := ite_out h; subst hk; exact ⟨_, h1, fun w => by simp [binOp, Op.intCmp, bne, Bool.beq_eq_decide_eq]⟩
  all_goals (obtain ⟨hk, h1⟩ := ite_out h; subst hk; exact ⟨_, h1, fun w => by simp [binOp, Op.intArith, Op.intBits, Op.intCmp, andW, orW, xorW, andNotW]⟩)

theorem toList_inj {a b : ByteArray} : a.toList = b.toList ↔ a = b := by
  rw [ByteArray.toList_eq, ByteArray.toList_eq]
  constructor
  · intro h; cases a; cases b; simp at h; simp [h]
  · rintro rfl; rfl
theorem binS_out {op : BinOp} {a b : ByteArray} {t : TypeId} (h : binS op a b K) :
    ∃ v, K v ∧ Yields P (binOp op t (.string a) (.string b)) v := by
  have hb : (a.toList == b.toList) = decide (a = b) := by
    rw [Bool.eq_iff_iff]; simp [toList_inj]
  cases op <;> simp only [binS] at h <;> try exact h.elim
  case add =>
    obtain ⟨h0, h⟩ := h
    refine ⟨_, h, fun w => ?_⟩
    have hm : ¬ ((a.size + b.size : Nat) : Int) > IntKind.i64.max := by
      have : IntKind.i64.max = 9223372036854775807 := by decide
      omega
    simp only [binOp, Op.stringOp]
    rw [if_neg hm]
    rfl
  case eql => exact ⟨_, h, fun w => by simp [binOp, Op.stringOp, hb]⟩
  case neq => exact ⟨_, h, fun w => by simp [binOp, Op.stringOp, hb]⟩

theorem eqGuard_none {op : BinOp} {t : TypeId} {x y : Operand} {a b : Value} (h1 : ¬ (a = .nilIface ∧ b = .nilIface)) (h2 : ∀ c d, ¬ (a = .agg c ∧ b = .agg d)) :
    ∀ w, (eqGuard op t x y a b).run P w = .ok () w := by
  intro w
  unfold eqGuard
  have key : ∀ X Y : Sem Unit, Sem.run P (match a, b with | .nilIface, .nilIface => X | .agg _, .agg _ => Y | _, _ => pure ()) w = .ok () w := by
    intro X Y
    split
    · exact absurd ⟨rfl, rfl⟩ h1
    · exact absurd ⟨rfl, rfl⟩ (h2 _ _)
    · rfl
  split <;> simp only [Bool.not_true, Bool.false_eq_true, if_false, Bool.not_false, if_true] <;> first | rfl | exact key _ _

theorem r_und {t : TypeId} {d : TypeDesc} (h : P.underlying t = some d) (w : World) : (underlying t).run P w = .ok d w := by
  unfold underlying
  simp [h]
theorem r_info {t : TypeId} {i : TypeInfo} (h : P.info? t = some i) (w : World) : (typeInfo t).run P w = .ok i w := by
  unfold typeInfo
  simp [h]
theorem r_size {t : TypeId} {i : TypeInfo} (h : P.info? t = some i) (w : World) : (sizeOf t).run P w = .ok i.size w := by
  unfold sizeOf
  simp [r_info h]
theorem r_agg {t : TypeId} {d : TypeDesc} (h : P.underlying t = some d) (w : World) : (isAgg t).run P w = .ok (isAggT P t) w := by
  unfold isAgg isAggT
  rw [Sem.run_bind, r_und h, h]
  simp only [Result.andThen]
  cases d <;> rfl
theorem zeroT_out {t : TypeId} {K : Value → Prop} (h : zeroT P t K) : ∃ i z, P.info? t = some i ∧ i.zero = some z ∧ K z ∧ ∀ w, (zeroValue t).run P w = .ok z w := by
  unfold zeroT at h
  split at h
  · rename_i i hi
    split at h
    · rename_i z hz
      exact ⟨i, z, hi, hz, h, fun w => by unfold zeroValue; rw [Sem.run_bind, r_info hi]; simp [hz]⟩
    · exact h.elim
  · exact h.elim
theorem run_equal_bool {t : TypeId} (hu : P.underlying t = some .bool) (a b : Bool) (w : World) : (Op.equal t (.bool a) (.bool b)).run P w = .ok (decide (a = b)) w := by
  unfold Op.equal
  rw [show Op.maxDepth = 9999 + 1 from rfl, Op.equalIn]
  rw [Sem.run_bind, r_und hu]
  simp [Bool.beq_eq_decide_eq]
theorem run_equal_ptr {t e : TypeId} (hu : P.underlying t = some (.pointer e)) (p : Option Addr) (w : World) : (Op.equal t (.pointer p) (.pointer none)).run P w = .ok p.isNone w := by
  unfold Op.equal
  rw [show Op.maxDepth = 9999 + 1 from rfl, Op.equalIn]
  rw [Sem.run_bind, r_und hu]
  cases p <;> simp
theorem run_equal_slice {t e : TypeId} (hu : P.underlying t = some (.slice e)) (p : Option Addr) (l c m d : Nat) (w : World) : (Op.equal t (.slice p l c) (.slice none m d)).run P w = .ok p.isNone w := by
  unfold Op.equal
  rw [show Op.maxDepth = 9999 + 1 from rfl, Op.equalIn]
  rw [Sem.run_bind, r_und hu]
  cases p <;> simp
theorem eqK_out {neg : Bool} {t : TypeId} {x y : Value} (h : eqK P neg t x y K) :
    ∃ v, K v ∧ Yields P (binOp (match neg with | true => .neq | false => .eql) t x y) v ∧ ¬ (x = .nilIface ∧ y = .nilIface) ∧ ∀ c d, ¬ (x = .agg c ∧ y = .agg d) := by
  unfold eqK at h
  split at h
  · rename_i hu
    split at h
    · refine ⟨_, h, fun w => ?_, by simp, by simp⟩
      cases neg
      · show Sem.run P (do pure (Value.bool (← Op.equal t (.bool _) (.bool _)))) w = _
        simp [run_equal_bool hu]
      · show Sem.run P (do pure (Value.bool (!(← Op.equal t (.bool _) (.bool _))))) w = _
        simp [run_equal_bool hu]
    · exact h.elim
  · rename_i hu
    split at h
    · refine ⟨_, h, fun w => ?_, by simp, by simp⟩
      cases neg
      · show Sem.run P (do pure (Value.bool (← Op.equal t (.pointer _) (.pointer none)))) w = _
        simp [run_equal_ptr hu]
      · show Sem.run P (do pure (Value.bool (!(← Op.equal t (.pointer _) (.pointer none))))) w = _
        simp [run_equal_ptr hu]
    · exact h.elim
  · rename_i hu
    split at h
    · refine ⟨_, h, fun w => ?_, by simp, by simp⟩
      cases neg
      · show Sem.run P (do pure (Value.bool (← Op.equal t (.slice _ _ _) (.slice none _ _)))) w = _
        simp [run_equal_slice hu]
      · show Sem.run P (do pure (Value.bool (!(← Op.equal t (.slice _ _ _) (.slice none _ _))))) w = _
        simp [run_equal_slice hu]
    · exact h.elim
  · exact h.elim

theorem eqCell_out {e : TypeId} {a b : Value} {r : Bool} (h : eqCell P e a b = some r) : P.plainKey e = true ∧ ∀ (d : Nat) (w : World), (Op.equalIn (d + 1) e a b).run P w = .ok r w := by
  unfold eqCell at h
  split at h
  · rename_i k x k' y hu
    split at h
    · rename_i hk
      subst hk
      obtain rfl := Option.some.inj h
      exact ⟨by simp [Program.plainKey, hu], fun d w => by rw [run_equalIn_int w d e _ _ x y hu, Bool.beq_eq_decide_eq]⟩
    · cases h
  · rename_i x y hu
    obtain rfl := Option.some.inj h
    refine ⟨by simp [Program.plainKey, hu], fun d w => ?_⟩
    rw [run_equalIn_string w d e x y hu]
    have : (x.toList == y.toList) = decide (x = y) := by rw [Bool.eq_iff_iff]; simp [toList_inj]
    rw [this]
  · rename_i x y hu
    obtain rfl := Option.some.inj h
    exact ⟨by simp [Program.plainKey, hu], fun d w => by rw [run_equalIn_bool' w d e x y hu, Bool.beq_eq_decide_eq]⟩
  · cases h
theorem eqTwo_out {e : TypeId} {xs ys : Array Value} {i : Nat} {r : Option Bool} {z : Bool} (h : eqTwo P e xs.toList ys.toList i r = some z) :
    ∃ a b x y, r = some y ∧ z = (x && y) ∧ ∀ (d : Nat) (w : World), (part e xs i).run P w = .ok a w ∧ (part e ys i).run P w = .ok b w ∧ (Op.equalIn (d + 1) e a b).run P w = .ok x w := by
  unfold eqTwo at h
  split at h
  · rename_i a b ha hb
    split at h
    · rename_i x y hx
      obtain ⟨hp, he⟩ := eqCell_out hx
      refine ⟨a, b, x, y, rfl, (Option.some.inj h).symm, fun d w => ⟨run_part_plain w hp (by rw [← Array.getElem?_toList]; exact ha), run_part_plain w hp (by rw [← Array.getElem?_toList]; exact hb), he d w⟩⟩
    · cases h
  · cases h
theorem eqArr_out {e : TypeId} {xs ys : Array Value} (hc : P.cellsOf e = 1) (d : Nat) (w : World) : ∀ (n i : Nat) (z : Bool), eqArr P e xs.toList ys.toList n i = some z → (Op.eqItems (d + 1) e (P.cellsOf e) xs ys (List.range' i n)).run P w = .ok z w
  | 0, i, z, h => by
    obtain rfl := Option.some.inj h
    simp [Op.eqItems]
  | n + 1, i, z, h => by
    unfold eqArr at h
    obtain ⟨a, b, x, y, hr, rfl, hk⟩ := eqTwo_out h
    obtain ⟨p1, p2, p3⟩ := hk d w
    have ih := eqArr_out hc d w n (i + 1) y hr
    rw [hc] at ih
    rw [List.range'_succ, hc]
    simp only [Op.eqItems, Sem.run_bind, Nat.mul_one, p1, p2, p3, Result.andThen_ok]
    cases x
    · simp
    · simpa using ih
theorem eqFlds_out {xs ys : Array Value} (d : Nat) (w : World) : ∀ (fs : List Field) (z : Bool), eqFlds P xs.toList ys.toList fs = some z → (Op.eqFields (d + 1) xs ys fs).run P w = .ok z w
  | [], z, h => by
    obtain rfl := Option.some.inj h
    simp [Op.eqFields]
  | f :: fs, z, h => by
    unfold eqFlds at h
    cases hn : (f.name == "_") <;> rw [hn] at h <;> simp only [cond_true, cond_false] at h
    · obtain ⟨a, b, x, y, hr, rfl, hk⟩ := eqTwo_out h
      obtain ⟨p1, p2, p3⟩ := hk d w
      have ih := eqFlds_out d w fs y hr
      have hn' : f.name ≠ "_" := by simpa using hn
      simp only [Op.eqFields, if_pos hn', Sem.run_bind, p1, p2, p3, Result.andThen_ok]
      cases x
      · simp
      · simpa using ih
    · cases h
theorem eqAggK_out {neg : Bool} {t : TypeId} {xs ys : Array Value} (h : eqAggK P neg t xs ys K) {ox oy : Operand} {op : BinOp} (hop : isEq op = some neg) :
    ∃ v, K v ∧ Yields P (do eqGuard op t ox oy (.agg xs) (.agg ys); binOp op t (.agg xs) (.agg ys)) v := by
  unfold eqAggK at h
  cases hg : P.eqGuardType P.depth t <;> rw [hg] at h <;> simp only [cond_true, cond_false] at h
  · have fin : ∀ z : Bool, (∀ w, (Op.equalIn (9998 + 1 + 1) t (.agg xs) (.agg ys)).run P w = .ok z w) → K (.bool (bif neg then !z else z)) →
        ∃ v, K v ∧ Yields P (do eqGuard op t ox oy (.agg xs) (.agg ys); binOp op t (.agg xs) (.agg ys)) v := by
      intro z hz hk
      refine ⟨_, hk, fun w => ?_⟩
      have hz := hz w
      rw [Sem.run_bind, run_eqGuard_agg w op t ox oy xs ys hg]
      simp only [Result.andThen_ok]
      cases op <;> simp [isEq] at hop <;> subst hop
      · rw [run_eql_struct]
        rw [show (10000 : Nat) = 9998 + 1 + 1 from rfl, hz]
        rfl
      · rw [run_neq_struct]
        rw [show (10000 : Nat) = 9998 + 1 + 1 from rfl, hz]
        rfl
    split at h
    · rename_i n e hu
      cases hc : (Nat.beq (P.cellsOf e) 1 && (P.info? e).isSome) <;> rw [hc] at h <;> simp only [cond_true, cond_false] at h
      · obtain ⟨h1, h2⟩ := Bool.and_eq_true_iff.1 hc
        have h1 := Nat.eq_of_beq_eq_true h1
        obtain ⟨i, hi⟩ := Option.isSome_iff_exists.1 h2
        split at h
        · rename_i z hz
          refine fin z (fun w => ?_) h
          rw [run_equalIn_array w _ xs ys hu hi, List.range_eq_range']
          exact eqArr_out h1 _ w n 0 z hz
        · exact h.elim
    · rename_i fs hu
      cases hs : P.stoodInHeld t <;> rw [hs] at h <;> simp only [cond_true, cond_false] at h
      · split at h
        · rename_i z hz
          refine fin z (fun w => ?_) h
          have hfs : P.fieldsOf t = fs := by simp [Program.fieldsOf, hu]
          rw [run_equalIn_struct w _ t xs ys (by rw [hfs]; exact hu) hs, hfs]
          exact eqFlds_out _ w _ z hz
        · exact h.elim
    · exact h.elim
theorem binAll_out {op : BinOp} {t : TypeId} {x y : Value} (h : binAll P op t x y K) {ox oy : Operand} :
    ∃ v, K v ∧ Yields P (do eqGuard op t ox oy x y; binOp op t x y) v := by
  have key : ∀ v, K v → Yields P (binOp op t x y) v → ¬ (x = .nilIface ∧ y = .nilIface) → (∀ c d, ¬ (x = .agg c ∧ y = .agg d)) →
      ∃ v, K v ∧ Yields P (do eqGuard op t ox oy x y; binOp op t x y) v := fun v hk hy h1 h2 =>
    ⟨v, hk, fun w => by rw [Sem.run_bind, eqGuard_none h1 h2]; exact hy w⟩
  have keq : (match isEq op with | some neg => eqK P neg t x y K | none => False) → ∃ v, K v ∧ Yields P (do eqGuard op t ox oy x y; binOp op t x y) v := by
    intro h
    split at h
    · rename_i neg hn
      obtain ⟨v, hk, hy, h1, h2⟩ := eqK_out h
      refine key v hk ?_ h1 h2
      cases op <;> simp [isEq] at hn <;> subst hn <;> exact hy
    · exact h.elim
  cases x
  case int k a =>
    simp only [binAll] at h
    cases y <;> simp only at h <;> try exact h.elim
    obtain ⟨v, hk, hy⟩ := binI_out (P := P) (t := t) h
    exact key v hk hy (by simp) (by simp)
  case string a =>
    simp only [binAll] at h
    cases y <;> simp only at h <;> try exact h.elim
    obtain ⟨v, hk, hy⟩ := binS_out (P := P) (t := t) h
    exact key v hk hy (by simp) (by simp)
  case agg xs =>
    simp only [binAll] at h
    cases y <;> simp only at h <;> try exact h.elim
    split at h
    · rename_i neg hn
      exact eqAggK_out h hn
    · exact h.elim
  all_goals exact keq h
end
end Go.Ev
