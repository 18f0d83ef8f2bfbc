import Derived.Test.YtojhnakgmihedaaDoorEvPure2
namespace Go.Ev
section
variable {P : Program}
theorem listMapM_run {α β : Type} (g : α → Sem β) (h : α → β) (w : World) : ∀ l : List α, (∀ x ∈ l, (g x).run P w = .ok (h x) w) → (l.mapM g).run P w = .ok (l.map h) w
  | [], _ => by simp
  | x :: l, hh => by
    rw [List.mapM_cons]
    simp [hh x (by simp), listMapM_run g h w l (fun y hy => hh y (by simp [hy]))]
theorem arrMapM_run {α β : Type} (g : α → Sem β) (h : α → β) (w : World) (a : Array α) (hh : ∀ x ∈ a, (g x).run P w = .ok (h x) w) : (a.mapM g).run P w = .ok (a.map h) w := by
  rw [Array.mapM_eq_mapM_toList, Sem.run_map, listMapM_run g h w a.toList (fun x hx => hh x (by simpa using hx))]
  cases a; simp
theorem oneW_out {v : Value} {K : Prop} (h : oneW v K) : K ∧ v.cells = #[v] ∧ (∀ c, v ≠ .agg c) ∧ (∀ c, v ≠ .tuple c) := by
  unfold oneW at h
  cases v <;> first | exact h.elim | exact ⟨h, rfl, by simp, by simp⟩
theorem setMany_foldl (off : Nat) : ∀ (l : List Value) (k : Nat) (cs : List Value),
    (l.zipIdx k).foldl (fun (cs : Array Value) (x : Value × Nat) => cs.setIfInBounds (off + x.2) x.1) cs.toArray = (setMany cs (off + k) l).toArray
  | [], k, cs => rfl
  | v :: l, k, cs => by
    simp only [List.zipIdx_cons, List.foldl_cons, List.setIfInBounds_toArray, setMany]
    rw [setMany_foldl off l (k + 1)]
    rfl
theorem zipIdx_foldl (off : Nat) (vs : Array Value) (cs : List Value) :
    vs.zipIdx.foldl (fun (cs : Array Value) (x : Value × Nat) => cs.setIfInBounds (off + x.2) x.1) cs.toArray = (setMany cs off vs.toList).toArray := by
  rw [← Array.foldl_toList, Array.toList_zipIdx]
  exact setMany_foldl off vs.toList 0 cs
theorem fillK_out {place : Nat → Option (Nat × Nat × Bool)} : ∀ {parts : List (Nat × Value)} {cells : List Value} {K : List Value → Prop}, fillK place cells parts K →
    ∃ cs, K cs ∧ Instr.fill (fun i => (place i).map fun x => (x.1, x.2.1)) cells.toArray parts = some cs.toArray
  | [], cells, K, h => ⟨cells, by simpa [fillK] using h, rfl⟩
  | (i, v) :: rest, cells, K, h => by
    simp only [fillK] at h
    split at h
    · exact h.elim
    · rename_i off size agg hp
      cases agg with
      | false =>
        simp only at h
        obtain ⟨h, hc, _, _⟩ := oneW_out h
        cases hb : (Nat.blt off cells.length && Nat.beq size 1) with
        | false => rw [hb] at h; exact h.elim
        | true =>
          rw [hb] at h
          simp only [Bool.and_eq_true] at hb
          have h1 : off < cells.length := by have := hb.1; rw [Nat.blt_eq] at this; exact this
          have h2 : size = 1 := Nat.eq_of_beq_eq_true hb.2
          obtain ⟨cs, hk, hf⟩ := fillK_out (show fillK place (cells.set off v) rest K from h)
          refine ⟨cs, hk, ?_⟩
          unfold Instr.fill
          simp only [hp, Option.map_some, hc]
          rw [if_neg (by simp [h2]; omega)]
          rw [← hf]
          congr 1
          simp
      | true =>
        simp only at h
        split at h
        · rename_i vs
          cases hb : (Nat.beq vs.size size && Nat.ble (off + vs.size) cells.length) with
          | false => rw [hb] at h; exact h.elim
          | true =>
            rw [hb] at h
            simp only [Bool.and_eq_true] at hb
            have h1 : vs.size = size := Nat.eq_of_beq_eq_true hb.1
            have h2 : off + vs.size ≤ cells.length := Nat.le_of_ble_eq_true hb.2
            obtain ⟨cs, hk, hf⟩ := fillK_out (show fillK place (setMany cells off vs.toList) rest K from h)
            refine ⟨cs, hk, ?_⟩
            unfold Instr.fill
            simp only [hp, Option.map_some]
            rw [if_neg (by simp [Value.cells, h1]; omega)]
            rw [← hf]
            congr 1
            exact zipIdx_foldl off vs cells
        · exact h.elim
theorem cellsV_eq (v : Value) : v.cells = (cellsV v).toArray := by cases v <;> rfl
theorem cellsV_arr (v : Value) : v.cells.toList = cellsV v := by rw [cellsV_eq]
theorem buildK_out {K : Value → Prop} {t : TypeId} {parts : List (Nat × Value)} (h : buildK P t parts K) : ∃ v, K v ∧ Yields P (Instr.build t parts.toArray) v := by
  unfold buildK at h
  obtain ⟨i, z, hi, hz, h, hzr⟩ := zeroT_out h
  split at h
  · rename_i fs hu
    cases hb : infosOk P fs with
    | false => rw [hb] at h; exact h.elim
    | true =>
      rw [hb] at h
      obtain ⟨cs, hk, hf⟩ := fillK_out (show fillK (placeS P fs) (cellsV z) parts _ from h)
      refine ⟨_, hk, fun w => ?_⟩
      have hm : (fs.mapM fun (f : Field) => do pure (f.offset, ← sizeOf f.type)).run P w = .ok (fs.map fun (f : Field) => (f.offset, sizeT P f.type)) w := by
        refine arrMapM_run _ _ w fs fun f hf => ?_
        unfold infosOk at hb
        have hs := (Array.all_eq_true_iff_forall_mem.1 hb) f hf
        obtain ⟨j, hj⟩ := Option.isSome_iff_exists.1 hs
        rw [Sem.run_bind, r_size hj]
        simp [sizeT, hj]
      have e : (fun (i : Nat) => (fs.map fun (f : Field) => (f.offset, sizeT P f.type))[i]?) = fun i => (placeS P fs i).map fun x => (x.1, x.2.1) := by
        funext i
        unfold placeS
        rw [Array.getElem?_map]
        cases fs[i]? <;> rfl
      unfold Instr.build
      rw [Sem.run_bind, hzr]
      simp only [Result.andThen]
      rw [Sem.run_bind, r_und hu]
      simp only [Result.andThen]
      rw [Sem.run_bind, hm]
      simp only [Result.andThen, cellsV_eq]
      rw [e, hf]
      rfl
  · rename_i n el hu
    cases hb : (P.info? el).isSome with
    | false => rw [hb] at h; exact h.elim
    | true =>
      rw [hb] at h
      obtain ⟨j, hj⟩ := Option.isSome_iff_exists.1 hb
      obtain ⟨cs, hk, hf⟩ := fillK_out (show fillK (fun i => some (i * sizeT P el, sizeT P el, isAggT P el)) (cellsV z) parts _ from h)
      refine ⟨_, hk, fun w => ?_⟩
      have es : sizeT P el = j.size := by simp [sizeT, hj]
      simp only [es, Option.map_some] at hf
      unfold Instr.build
      rw [Sem.run_bind, hzr]
      simp only [Result.andThen]
      rw [Sem.run_bind, r_und hu]
      simp only [Result.andThen]
      rw [Sem.run_bind, r_size hj]
      simp only [Result.andThen, cellsV_eq]
      rw [hf]
      rfl
  · exact h.elim

/-- What is read of the slots is what the frame holds of them. -/
def Agrees (e : Env) (ρ : Operand → Value) (xs : List Operand) : Prop := ∀ x ∈ xs, ∀ v, opv e x = some v → ρ x = v
theorem Agrees.list {e : Env} {ρ : Operand → Value} {l : List Operand} {vs : List Value} (h : vs.map some = l.map (opv e)) (ha : Agrees e ρ l) : l.map ρ = vs := by
  induction l generalizing vs with
  | nil => cases vs <;> simp_all
  | cons x l ih =>
    cases vs with
    | nil => simp at h
    | cons v vs =>
      simp only [List.map_cons, List.cons.injEq] at h
      rw [List.map_cons, ha x (by simp) v h.1.symm, ih h.2 (fun y hy => ha y (by simp [hy]))]
theorem Agrees.pairs {e : Env} {ρ : Operand → Value} {l : List (Nat × Operand)} {vs : List (Nat × Value)} (h : vs.map (fun v => (v.1, some v.2)) = l.map (fun x => (x.1, opv e x.2))) (ha : Agrees e ρ (l.map (·.2))) :
    l.map (fun x => (x.1, ρ x.2)) = vs := by
  induction l generalizing vs with
  | nil => cases vs <;> simp_all
  | cons x l ih =>
    cases vs with
    | nil => simp at h
    | cons v vs =>
      simp only [List.map_cons, List.cons.injEq, Prod.mk.injEq] at h
      rw [List.map_cons, ha x.2 (by simp) v.2 h.1.2.symm, ih h.2 (fun y hy => ha y (by simp at hy ⊢; exact .inr hy)), ← h.1.1]

theorem evPure_out {o : Oper} {e : Env} {K : Value → Prop} (h : evPure P o.op e K) :
    ∃ v, K v ∧ ∀ ρ, Agrees e ρ o.op.operands.toList → ∀ w, (execOp ρ o).run P w = .ok (.value v) w := by
  have lift : ∀ {s : Sem Value}, (∃ v, K v ∧ Yields P s v) → (∀ ρ, Agrees e ρ o.op.operands.toList → execOp ρ o = do pure (.value (← s))) → ∃ v, K v ∧ ∀ ρ, Agrees e ρ o.op.operands.toList → ∀ w, (execOp ρ o).run P w = .ok (.value v) w := by
    rintro s ⟨v, hk, hy⟩ e
    refine ⟨v, hk, fun ρ ha w => ?_⟩
    rw [e ρ ha, Sem.run_bind, hy w]
    rfl
  obtain ⟨dst, op, type, pos, after, guard⟩ := o
  simp only at h lift ⊢
  unfold evPure at h
  split at h
  · rename_i x
    obtain ⟨v, hv, hk⟩ := o1_out h
    exact ⟨v, hk, fun ρ ha w => by simp [execOp, ha x (by simp [Op.operands]) v hv]⟩
  · rename_i x
    obtain ⟨v, hv, hk⟩ := o1_out h
    exact ⟨v, hk, fun ρ ha w => by simp [execOp, ha x (by simp [Op.operands]) v hv]⟩
  · rename_i c a b
    obtain ⟨vc, hv, hk⟩ := o1_out h
    split at hk
    · rename_i t
      rcases brW_cases hk with ⟨rfl, hk⟩ | ⟨rfl, hk⟩
      · obtain ⟨u, hu, hk⟩ := o1_out hk
        exact ⟨u, hk, fun ρ ha w => by simp [execOp, ha c (by simp [Op.operands]) _ hv, asBool, ha a (by simp [Op.operands]) u hu]⟩
      · obtain ⟨u, hu, hk⟩ := o1_out hk
        exact ⟨u, hk, fun ρ ha w => by simp [execOp, ha c (by simp [Op.operands]) _ hv, asBool, ha b (by simp [Op.operands]) u hu]⟩
    · exact hk.elim
  · rename_i x
    obtain ⟨v, hv, hk⟩ := o1_out h
    obtain ⟨a, hva, hk1⟩ := nilCheckK_out hk
    exact ⟨_, hk1, fun ρ ha w => by simp [execOp, ha x (by simp [Op.operands]) _ hv, hva]⟩
  · rename_i bop t x y _
    obtain ⟨vx, hx, h⟩ := o1_out h
    obtain ⟨vy, hy, h⟩ := o1_out h
    refine lift (binAll_out h (ox := x) (oy := y)) fun ρ ha => ?_
    simp only [execOp, ha x (by simp [Op.operands]) _ hx, ha y (by simp [Op.operands]) _ hy]
  · rename_i uop _ x
    obtain ⟨v, hv, h⟩ := o1_out h
    exact lift (unK_out h) (fun ρ ha => by simp only [execOp, ha x (by simp [Op.operands]) _ hv])
  · rename_i s d x
    obtain ⟨v, hv, h⟩ := o1_out h
    exact lift (convK_out h) (fun ρ ha => by simp only [execOp, ha x (by simp [Op.operands]) _ hv])
  · rename_i t x
    obtain ⟨v, hv, h⟩ := o1_out h
    exact lift (ifaceK_out h) (fun ρ ha => by simp only [execOp, ha x (by simp [Op.operands]) _ hv])
  · rename_i t x lo hi
    obtain ⟨v, hv, h⟩ := o1_out h
    obtain ⟨l, h, hl1, hl2⟩ := oO_out h
    obtain ⟨u, h, hu1, hu2⟩ := oO_out h
    refine lift (sliceK_out h) fun ρ ha => ?_
    have el : lo.map ρ = l := by
      cases lo with
      | none => rw [hl2 rfl]; rfl
      | some y => obtain ⟨z, rfl, hz⟩ := hl1 y rfl; simp [ha y (by simp [Op.operands]) z hz]
    have eu : hi.map ρ = u := by
      cases hi with
      | none => rw [hu2 rfl]; rfl
      | some y => obtain ⟨z, rfl, hz⟩ := hu1 y rfl; simp [ha y (by simp [Op.operands]) z hz]
    simp only [execOp, ha x (by simp [Op.operands]) _ hv, el, eu, Option.map_none]
  · rename_i t x f
    obtain ⟨v, hv, h⟩ := o1_out h
    exact lift (fieldAddrK_out h) (fun ρ ha => by simp only [execOp, ha x (by simp [Op.operands]) _ hv])
  · rename_i t x f
    obtain ⟨v, hv, h⟩ := o1_out h
    exact lift (fieldK_out h) (fun ρ ha => by simp only [execOp, ha x (by simp [Op.operands]) _ hv])
  · rename_i t x ix
    obtain ⟨v, hv, h⟩ := o1_out h
    obtain ⟨i, hi, h⟩ := o1_out h
    exact lift (indexAddrK_out h) (fun ρ ha => by simp only [execOp, ha x (by simp [Op.operands]) _ hv, ha ix (by simp [Op.operands]) _ hi])
  · rename_i t x ix
    obtain ⟨v, hv, h⟩ := o1_out h
    obtain ⟨i, hi, h⟩ := o1_out h
    exact lift (indexK_out h) (fun ρ ha => by simp only [execOp, ha x (by simp [Op.operands]) _ hv, ha ix (by simp [Op.operands]) _ hi])
  · rename_i x X T ok
    obtain ⟨v, hv, h⟩ := o1_out h
    exact lift (assertK_out (X := X) h) (fun ρ ha => by simp only [execOp, ha x (by simp [Op.operands]) _ hv])
  · rename_i x i
    obtain ⟨v, hv, h⟩ := o1_out h
    exact lift (extractK_out h) (fun ρ ha => by simp only [execOp, ha x (by simp [Op.operands]) _ hv])
  · rename_i t parts
    obtain ⟨ps, hp, h⟩ := opL_out h
    refine lift (buildK_out (by simpa using h)) fun ρ ha => ?_
    have e : (parts.map fun (x : Nat × Operand) => (x.1, ρ x.2)) = ps.toArray := by
      have := Agrees.pairs hp (fun y hy => ha y (by simp [Op.operands]; simpa using hy))
      rw [← this]
      cases parts; simp
    simp only [execOp, e]
  · rename_i args ts
    split at h
    · rename_i x t hx ht
      obtain ⟨v, hv, h⟩ := o1_out h
      have ea : args = #[x] := by cases args; simpa using hx
      have et : ts = #[t] := by cases ts; simpa using ht
      subst ea et
      refine lift (lenK_out (T := type) h) fun ρ ha => ?_
      simp only [execOp, resolve, List.map_toArray, List.map_cons, List.map_nil, ha x (by simp [Op.operands, Call.operands]) _ hv, pure_bind, invoke, builtin]
    · exact h.elim
  · rename_i args ts
    split at h
    · rename_i x t hx ht
      obtain ⟨v, hv, h⟩ := o1_out h
      have ea : args = #[x] := by cases args; simpa using hx
      have et : ts = #[t] := by cases ts; simpa using ht
      subst ea et
      refine lift (capK_out (T := type) h) fun ρ ha => ?_
      simp only [execOp, resolve, List.map_toArray, List.map_cons, List.map_nil, ha x (by simp [Op.operands, Call.operands]) _ hv, pure_bind, invoke, builtin]
    · exact h.elim
  · rename_i args ts
    obtain ⟨vs, hvs, h⟩ := oL_out h
    simp only [List.nil_append] at h
    split at h
    · rename_i v r
      refine lift (maxK_out h) fun ρ ha => ?_
      have ea := Agrees.list hvs (fun y hy => ha y (by simp [Op.operands, Call.operands]; simpa using hy))
      have ea' : args.map ρ = (v :: r).toArray := by rw [← ea]; cases args; simp
      simp only [execOp, resolve, ea', pure_bind, invoke, builtin, Builtin.max_]
    · exact h.elim
  · rename_i args ts
    obtain ⟨vs, hvs, h⟩ := oL_out h
    simp only [List.nil_append] at h
    split at h
    · rename_i v r
      refine lift (minK_out h) fun ρ ha => ?_
      have ea := Agrees.list hvs (fun y hy => ha y (by simp [Op.operands, Call.operands]; simpa using hy))
      have ea' : args.map ρ = (v :: r).toArray := by rw [← ea]; cases args; simp
      simp only [execOp, resolve, ea', pure_bind, invoke, builtin, Builtin.min_]
    · exact h.elim
  · exact h.elim
end
end Go.Ev
