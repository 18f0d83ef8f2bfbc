import Derived.Test.YtojhnakgmihedaaDoorEvDraw
namespace Go.Ev
/-- The operation yields this value, wherever the heap is H. -/
def RunsAt (P : Program) (o : Oper) (e : Env) (v : Value) (H : Heap) : Prop :=
  ∀ ρ, Agrees e ρ o.op.operands.toList → ∀ w, w.heap = H → (execOp ρ o).run P w = .ok (.value v) w
/-- What is known of an operation that was reckoned and may still be to come. -/
def Fact (P : Program) (ops : Array Oper) (D : List (Nat × Env × Value)) (x : Nat × Value × Env) : Prop :=
  ∃ o, ops[x.1]? = some o ∧
    ((wantedK ops o x.2.2 = some false ∧ x.2.1 = undef) ∨
     (wantedK ops o x.2.2 = some true ∧ ∀ H, RunsAt P o x.2.2 x.2.1 H) ∨
     (wantedK ops o x.2.2 = some true ∧ (x.1, x.2.2, x.2.1) ∈ D) ∨
     (wantedK ops o x.2.2 = some true ∧ kindOf P o.op = .write))
def HeadOk (P : Program) (ops : Array Oper) (e : Env) (post : List Nat) : Prop :=
  post = [] ∨ ∃ c rest o, post = c :: rest ∧ ops[c]? = some o ∧ kindOf P o.op = .write ∧ wantedK ops o e = some true
section
variable {P : Program} {ops : Array Oper} {B : List Nat} {K : Env → Heap → Prop} {H : Heap}
theorem adv (G : Nat → Prop) : ∀ (l : List Nat) (e : Env) (D : List (Nat × Env × Value)), (∀ x ∈ D, G x.1 → ∃ o, ops[x.1]? = some o ∧ RunsAt P o x.2.1 x.2.2 H) → evD P ops B l e H D K →
    ∃ tr post D', l = tr.map (·.1) ++ post ∧ Chain ops e tr ∧ (∀ x ∈ D, x ∈ D') ∧ (∀ x ∈ D', x ∈ D ∨ x.1 ∈ tr.map (·.1)) ∧ (∀ x ∈ tr, Fact P ops D' x ∧ ∀ o, ops[x.1]? = some o → wantedK ops o x.2.2 = some true → kindOf P o.op ≠ .write) ∧
      (∀ x ∈ D', G x.1 → ∃ o, ops[x.1]? = some o ∧ RunsAt P o x.2.1 x.2.2 H) ∧ evD P ops B post (envT ops allS tr e) H D' K ∧ HeadOk P ops (envT ops allS tr e) post
  | [], e, D, hD, h => ⟨[], [], D, rfl, trivial, fun _ h => h, fun _ h => .inl h, by simp, hD, h, .inl rfl⟩
  | i :: rest, e, D, hD, h => by
    have h0 := h
    unfold evD at h
    split at h
    · exact h.elim
    · rename_i o ho
      have hdst : dstO ops i = o.dst := by unfold dstO; rw [ho]; rfl
      -- one step by a value
      have step : ∀ (v : Value) (Dn : List (Nat × Env × Value)), (∀ x ∈ D, x ∈ Dn) → (∀ x ∈ Dn, x ∈ D ∨ x.1 = i) → (∀ x ∈ Dn, G x.1 → ∃ o, ops[x.1]? = some o ∧ RunsAt P o x.2.1 x.2.2 H) →
          (∀ D', (∀ x ∈ Dn, x ∈ D') → Fact P ops D' (i, v, e) ∧ ∀ o', ops[i]? = some o' → wantedK ops o' e = some true → kindOf P o'.op ≠ .write) → evD P ops B rest (put e o.dst v) H Dn K →
          ∃ tr post D', i :: rest = tr.map (·.1) ++ post ∧ Chain ops e tr ∧ (∀ x ∈ D, x ∈ D') ∧ (∀ x ∈ D', x ∈ D ∨ x.1 ∈ tr.map (·.1)) ∧ (∀ x ∈ tr, Fact P ops D' x ∧ ∀ o, ops[x.1]? = some o → wantedK ops o x.2.2 = some true → kindOf P o.op ≠ .write) ∧
            (∀ x ∈ D', G x.1 → ∃ o, ops[x.1]? = some o ∧ RunsAt P o x.2.1 x.2.2 H) ∧ evD P ops B post (envT ops allS tr e) H D' K ∧ HeadOk P ops (envT ops allS tr e) post := by
        intro v Dn h1 h1' h2 h3 h4
        obtain ⟨tr, post, D', e1, e2, e3, e3', e4, e5, e6, e7⟩ := adv G rest _ Dn h2 h4
        refine ⟨(i, v, e) :: tr, post, D', by rw [e1]; rfl, ⟨rfl, by rw [hdst]; exact e2⟩, fun x hx => e3 x (h1 x hx), ?_, ?_, e5, ?_, ?_⟩
        · intro x hx
          rcases e3' x hx with hx | hx
          · rcases h1' x hx with hx | hx
            · exact .inl hx
            · exact .inr (by simp [hx])
          · exact .inr (by rw [List.map_cons, List.mem_cons]; exact .inr hx)
        · intro x hx
          rcases List.mem_cons.1 hx with rfl | hx
          · exact h3 D' e3
          · exact e4 x hx
        · unfold envT; simp only [allS, if_true, hdst]; exact e6
        · unfold envT; simp only [allS, if_true, hdst]; exact e7
      split at h
      · exact h.elim
      · rename_i hw
        refine step undef D (fun _ h => h) (fun _ h => .inl h) hD (fun D' _ => ⟨⟨o, ho, .inl ⟨hw, rfl⟩⟩, ?_⟩) h
        intro o' ho' hw'
        rw [ho] at ho'
        obtain rfl := Option.some.inj ho'
        rw [hw] at hw'
        cases hw'
      · rename_i hw
        split at h
        · rename_i hk
          obtain ⟨v, hv, hr⟩ := evPure_out h
          refine step v D (fun _ h => h) (fun _ h => .inl h) hD (fun D' _ => ⟨⟨o, ho, .inr (.inl ⟨hw, fun H ρ ha w _ => hr ρ ha w⟩)⟩, ?_⟩) (splitG_out hv)
          intro o' ho' _
          rw [ho] at ho'
          obtain rfl := Option.some.inj ho'
          rw [hk]
          simp
        · rename_i hk
          obtain ⟨v, hv, hr⟩ := evRead_out h
          have hr' : RunsAt P o e v H := hr
          refine step v (D ++ [(i, e, v)]) (fun x hx => by simp [hx]) ?_ ?_ (fun D' hD' => ⟨⟨o, ho, .inr (.inr (.inl ⟨hw, hD' _ (by simp)⟩))⟩, ?_⟩) (splitG_out hv)
          · intro x hx
            simp only [List.mem_append, List.mem_singleton] at hx
            rcases hx with hx | rfl
            · exact .inl hx
            · exact .inr rfl
          · intro x hx
            simp only [List.mem_append, List.mem_singleton] at hx
            rcases hx with hx | rfl
            · exact hD x hx
            · exact fun _ => ⟨o, ho, hr'⟩
          · intro o' ho' _
            rw [ho] at ho'
            obtain rfl := Option.some.inj ho'
            rw [hk]
            simp
        · rename_i hk
          exact ⟨[], i :: rest, D, rfl, trivial, fun _ h => h, fun _ h => .inl h, by simp, hD, h0, .inr ⟨i, rest, o, rfl, ho, hk, hw⟩⟩
theorem stabsK_out {m : Nat} {A : Prop} : ∀ {D : List (Nat × Env × Value)}, stabsK P ops m H D A → A ∧ ∀ x ∈ D, m.testBit x.1 = false → ∃ o, ops[x.1]? = some o ∧ RunsAt P o x.2.1 x.2.2 H
  | [], h => ⟨h, by simp⟩
  | (r, e, v) :: D, h => by
    unfold stabsK at h
    split at h
    · rename_i hb
      obtain ⟨ha, hr⟩ := stabsK_out h
      refine ⟨ha, fun x hx hm => ?_⟩
      rcases List.mem_cons.1 hx with rfl | hx
      · rw [hb] at hm; cases hm
      · exact hr x hx hm
    · obtain ⟨h1, h⟩ := h
      obtain ⟨ha, hr⟩ := stabsK_out h
      refine ⟨ha, fun x hx hm => ?_⟩
      rcases List.mem_cons.1 hx with rfl | hx
      · split at h1
        · rename_i o ho
          obtain ⟨u, rfl, hr⟩ := evRead_out h1
          exact ⟨o, ho, hr⟩
        · exact h1.elim
      · exact hr x hx hm

theorem countP_drop {p q : Nat → Bool} {i : Nat} (hp : p i = true) (hq : q i = false) (hs : ∀ j, j ≠ i → q j = p j) : ∀ {l : List Nat}, l.Nodup → i ∈ l → l.countP p = l.countP q + 1
  | [], _, h => by simp at h
  | x :: l, hn, hm => by
    rw [List.nodup_cons] at hn
    by_cases hx : x = i
    · subst hx
      rw [List.countP_cons, List.countP_cons, hp, hq]
      have : l.countP p = l.countP q := List.countP_congr fun y hy => by
        have hne : y ≠ x := fun e => hn.1 (e ▸ hy)
        rw [hs y hne]
      simp [this]
    · have hm' : i ∈ l := by
        rcases List.mem_cons.1 hm with rfl | h
        · exact absurd rfl hx
        · exact h
      rw [List.countP_cons, List.countP_cons, hs x hx, countP_drop hp hq hs hn.2 hm']
      omega
theorem names_uses {o : Oper} {t : Nat} (h : t ∈ usesOf ops o) : t ∈ namesOf ops o := by unfold namesOf; rw [List.mem_append]; exact .inr h
theorem names_dst {o : Oper} {t : Nat} (h : o.dst = some t) : t ∈ namesOf ops o := by unfold namesOf; rw [List.mem_append, h]; exact .inl (by simp)
theorem meets_of {x y : Oper} {t : Nat} (h : (x.dst = some t ∧ t ∈ namesOf ops y) ∨ (y.dst = some t ∧ t ∈ namesOf ops x)) : meets ops x y = true := by
  unfold meets
  rw [Bool.or_eq_true]
  rcases h with ⟨h1, h2⟩ | ⟨h1, h2⟩
  · exact .inl (by rw [h1]; exact List.any_eq_true.2 ⟨t, h2, by simp⟩)
  · exact .inr (by rw [h1]; exact List.any_eq_true.2 ⟨t, h2, by simp⟩)
theorem uses_op {o : Oper} {t : Nat} (h : Operand.tmp t ∈ o.op.operands.toList) : t ∈ usesOf ops o := by
  unfold usesOf opTmps
  rw [List.mem_append, List.mem_filterMap]
  exact .inr ⟨_, h, rfl⟩
theorem uses_guard {o : Oper} {t : Nat} (h : t ∈ guardTmp ops o) : t ∈ usesOf ops o := by
  unfold usesOf
  rw [List.mem_append]
  exact .inl h
end
end Go.Ev
