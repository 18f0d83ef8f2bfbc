import Derived.Test.YtojhnakgmihedaaDoorEvOps
/-! A region that draws its order: one order is reckoned; each other one comes to the same. -/
namespace Go.Ev
abbrev Tr := List (Nat × Value × Env)
def dstO (ops : Array Oper) (i : Nat) : Option Tmp := (ops[i]?).bind (·.dst)
def envT (ops : Array Oper) (S : Nat → Bool) : Tr → Env → Env
  | [], e => e
  | (i, v, _) :: r, e => envT ops S r (if S i = true then put e (dstO ops i) v else e)
def Chain (ops : Array Oper) : Env → Tr → Prop
  | _, [] => True
  | e, (i, v, ei) :: r => ei = e ∧ Chain ops (put e (dstO ops i) v) r
abbrev allS : Nat → Bool := fun _ => true
section
variable {ops : Array Oper}
theorem put_other {e : Env} {d : Option Tmp} {v : Value} {t : Nat} (h : d ≠ some t) : put e d v t = e t := by
  cases d with
  | none => rfl
  | some d => rw [put_some, if_neg (fun e => h (by rw [e]))]
theorem put_same {e : Env} {t : Nat} {v : Value} : put e (some t) v t = some v := by rw [put_some, if_pos rfl]
theorem envT_same {S S' : Nat → Bool} {t : Nat} : ∀ {tr : Tr} {e e' : Env}, e t = e' t → (∀ x ∈ tr, dstO ops x.1 = some t → S x.1 = S' x.1) → envT ops S tr e t = envT ops S' tr e' t
  | [], _, _, h, _ => h
  | (i, v, ei) :: r, e, e', h, hs => by
    unfold envT
    refine envT_same ?_ (fun x hx => hs x (by simp [hx]))
    by_cases hd : dstO ops i = some t
    · rw [hs (i, v, ei) (by simp) hd]
      split
      · rw [hd, put_same, put_same]
      · exact h
    · have e1 : ∀ e : Env, ∀ b : Bool, (if b = true then put e (dstO ops i) v else e) t = e t := by
        intro e b
        split
        · exact put_other hd
        · rfl
      rw [e1, e1, h]
theorem envT_append {S : Nat → Bool} : ∀ {t1 t2 : Tr} {e : Env}, envT ops S (t1 ++ t2) e = envT ops S t2 (envT ops S t1 e)
  | [], _, _ => rfl
  | (i, v, ei) :: r, t2, e => by
    rw [List.cons_append]
    exact envT_append (t1 := r)
theorem envT_skip {S : Nat → Bool} {t : Nat} : ∀ {tr : Tr} {e : Env}, (∀ x ∈ tr, dstO ops x.1 = some t → S x.1 = false) → envT ops S tr e t = e t
  | [], _, _ => rfl
  | (i, v, ei) :: r, e, h => by
    unfold envT
    rw [envT_skip (fun x hx => h x (by simp [hx]))]
    split
    · rename_i hs
      refine put_other fun hd => ?_
      have := h (i, v, ei) (by simp) hd
      simp only at this
      rw [this] at hs
      cases hs
    · rfl
theorem chain_append {t1 t2 : Tr} : ∀ {e : Env}, Chain ops e (t1 ++ t2) ↔ Chain ops e t1 ∧ Chain ops (envT ops allS t1 e) t2 := by
  induction t1 with
  | nil => intro e; simp [Chain, envT]
  | cons x r ih =>
    intro e
    obtain ⟨i, v, ei⟩ := x
    simp only [List.cons_append, Chain, ih, envT, allS, if_true]
    constructor
    · rintro ⟨a, b, c⟩; exact ⟨⟨a, b⟩, c⟩
    · rintro ⟨⟨a, b⟩, c⟩; exact ⟨a, b, c⟩

/-! ### The masks -/
theorem foldl_mask {acc : List Nat} {i : Nat} : ∀ {l : List Edge} {s : Nat},
    (l.foldl (fun s e => bif Region.binds .any e then s ||| 2 ^ e.on ||| acc.getD e.on 0 else s) s).testBit i = true →
    s.testBit i = true ∨ ∃ e ∈ l, Region.binds .any e = true ∧ (i = e.on ∨ (acc.getD e.on 0).testBit i = true)
  | [], s, h => .inl h
  | e :: l, s, h => by
    rw [List.foldl_cons] at h
    rcases foldl_mask h with h | ⟨e', he', hb, h⟩
    · cases hb : Region.binds .any e with
      | false => rw [hb] at h; exact .inl h
      | true =>
        rw [hb] at h
        simp only [cond_true, Nat.testBit_or, Bool.or_eq_true, Nat.testBit_two_pow, decide_eq_true_eq] at h
        rcases h with (h | h) | h
        · exact .inl h
        · exact .inr ⟨e, by simp, hb, .inl h.symm⟩
        · exact .inr ⟨e, by simp, hb, .inr h⟩
    · exact .inr ⟨e', by simp [he'], hb, h⟩
/-- What is listed has all that it asks for listed. -/
def Down (ops : Array Oper) (S : Nat → Bool) : Prop := ∀ i o, ops[i]? = some o → S i = true → ∀ e ∈ o.after.toList, Region.binds .any e = true → S e.on = true
theorem befs_get : ∀ (l : List Oper) (acc : List Nat) (j : Nat), j < acc.length → (befs l acc).getD j 0 = acc.getD j 0
  | [], _, _, _ => rfl
  | o :: l, acc, j, h => by
    unfold befs
    rw [befs_get l _ j (by simp; omega)]
    simp [List.getD_eq_getElem?_getD, List.getElem?_append, h]
theorem befs_down {S : Nat → Bool} (hd : Down ops S) : ∀ (l : List Oper) (acc : List Nat), (∀ k, l[k]? = ops[acc.length + k]?) →
    (∀ j < acc.length, ∀ o, ops[j]? = some o → (∀ e ∈ o.after.toList, Region.binds .any e = true → S e.on = true) → ∀ i, (acc.getD j 0).testBit i = true → S i = true) →
    ∀ j < acc.length + l.length, ∀ o, ops[j]? = some o → (∀ e ∈ o.after.toList, Region.binds .any e = true → S e.on = true) → ∀ i, ((befs l acc).getD j 0).testBit i = true → S i = true
  | [], acc, _, hacc => by simpa [befs] using hacc
  | o :: l, acc, hl, hacc => by
    intro j hj oj hoj hdep i hi
    unfold befs at hi
    have hlen : (acc ++ [edgesMask o acc]).length = acc.length + 1 := by simp
    refine befs_down hd l (acc ++ [edgesMask o acc]) ?_ ?_ j (by rw [hlen]; simp at hj; omega) oj hoj hdep i hi
    · intro k
      rw [hlen]
      have := hl (k + 1)
      rw [List.getElem?_cons_succ] at this
      rw [this]
      congr 1
      omega
    · intro j hj oj hoj hdep i hi
      rw [hlen] at hj
      by_cases hjl : j < acc.length
      · have e : (acc ++ [edgesMask o acc]).getD j 0 = acc.getD j 0 := by simp [List.getD_eq_getElem?_getD, List.getElem?_append, hjl]
        rw [e] at hi
        exact hacc j hjl oj hoj hdep i hi
      · have hje : j = acc.length := by omega
        subst hje
        have e : (acc ++ [edgesMask o acc]).getD acc.length 0 = edgesMask o acc := by simp [List.getD_eq_getElem?_getD]
        rw [e] at hi
        have ho : o = oj := by
          have := hl 0
          simp only [List.getElem?_cons_zero, Nat.add_zero] at this
          rw [hoj] at this
          exact Option.some.inj this
        subst ho
        unfold edgesMask at hi
        rcases foldl_mask hi with h | ⟨e', he', hb, h⟩
        · simp at h
        · have hs := hdep e' he' hb
          rcases h with rfl | h
          · exact hs
          · rcases Nat.lt_or_ge e'.on acc.length with hlt | hge
            · have hex : ∃ o', ops[e'.on]? = some o' := by
                have : acc.length < ops.size := (Array.getElem?_eq_some_iff.1 hoj).1
                exact ⟨ops[e'.on]'(by omega), Array.getElem?_eq_getElem _⟩
              obtain ⟨o', ho'⟩ := hex
              exact hacc e'.on hlt o' ho' (fun e he hbe => hd e'.on o' ho' hs e he hbe) i h
            · rw [List.getD_eq_getElem?_getD, List.getElem?_eq_none hge] at h
              simp at h
theorem mask_down {S : Nat → Bool} (hd : Down ops S) {j : Nat} {o : Oper} (hj : ops[j]? = some o)
    (hdep : ∀ e ∈ o.after.toList, Region.binds .any e = true → S e.on = true) {i : Nat} (hi : ((befs ops.toList []).getD j 0).testBit i = true) : S i = true := by
  refine befs_down hd ops.toList [] (fun k => by simp) (by simp) j ?_ o hj hdep i hi
  have : j < ops.size := (Array.getElem?_eq_some_iff.1 hj).1
  simpa using this

/-! ### The order -/
structure OrdAt (P : Program) (ops : Array Oper) (B : List Nat) (X : Nat → Bool) (l1 : List Nat) (i : Nat) (l2 : List Nat) : Prop where
  ex : ∃ o, ops[i]? = some o
  fresh : i ∉ l1
  deps : ∀ o, ops[i]? = some o → ∀ e ∈ o.after.toList, Region.binds .any e = true → e.on ∈ l1
  write : X i = false → ∀ o, ops[i]? = some o → kindOf P o.op = .write → ∀ j ∈ l2, (B.getD j 0).testBit i = true
  pairs : ∀ o y j, ops[i]? = some o → j ∈ l2 → ops[j]? = some y → meets ops o y = true → (B.getD j 0).testBit i = true
theorem ordOkX_at {P : Program} {B : List Nat} {X : Nat → Bool} : ∀ {l : List Nat} {seen : Nat} {done : List Nat}, ordOkX P ops B X l seen = true → (∀ x, seen.testBit x = true ↔ x ∈ done) →
    ∀ l1 i l2, l = l1 ++ i :: l2 → OrdAt P ops B X (done ++ l1) i l2
  | [], _, _, _, _, l1, i, l2, he => by simp at he
  | k :: rest, seen, done, h, hs, l1, i, l2, he => by
    unfold ordOkX at h
    rw [Bool.and_eq_true] at h
    obtain ⟨h, hr⟩ := h
    cases l1 with
    | nil =>
      simp only [List.nil_append, List.cons.injEq] at he
      obtain ⟨rfl, rfl⟩ := he
      rw [List.append_nil]
      split at h
      · cases h
      · rename_i o ho
        simp only [Bool.and_eq_true] at h
        obtain ⟨⟨⟨h1, h2⟩, h3⟩, h4⟩ := h
        refine ⟨⟨o, ho⟩, ?_, ?_, ?_, ?_⟩
        · intro hm
          rw [(hs k).2 hm] at h1
          cases h1
        · intro o' ho' e he hb
          rw [ho] at ho'
          obtain rfl := Option.some.inj ho'
          have := List.all_eq_true.1 h2 e he
          rw [hb] at this
          exact (hs e.on).1 (by simpa using this)
        · intro hX o' ho' hk j hj
          rw [ho] at ho'
          obtain rfl := Option.some.inj ho'
          rw [hX, hk] at h3
          simp only [beq_self_eq_true, Bool.not_true, Bool.false_or] at h3
          exact List.all_eq_true.1 h3 j hj
        · intro o' y j ho' hj hy hm
          rw [ho] at ho'
          obtain rfl := Option.some.inj ho'
          have := List.all_eq_true.1 h4 j hj
          rw [hy] at this
          simp only [hm, Bool.not_true, Bool.false_or] at this
          exact this
    | cons x l1 =>
      simp only [List.cons_append, List.cons.injEq] at he
      obtain ⟨rfl, he⟩ := he
      have := ordOkX_at (done := done ++ [k]) hr (by
        intro x
        rw [Nat.testBit_or, Bool.or_eq_true, Nat.testBit_two_pow, hs]
        simp only [List.mem_append, List.mem_singleton, decide_eq_true_eq]
        constructor
        · rintro (h | h)
          · exact .inl h
          · exact .inr h.symm
        · rintro (h | h)
          · exact .inl h
          · exact .inr h.symm) l1 i l2 he
      simpa using this
theorem ordOk_X {P : Program} {B : List Nat} : ∀ (l : List Nat) (s : Nat), ordOk P ops B l s = ordOkX P ops B (fun _ => false) l s
  | [], _ => rfl
  | i :: rest, s => by
    unfold ordOk ordOkX
    rw [ordOk_X rest]
    rfl
end
end Go.Ev
