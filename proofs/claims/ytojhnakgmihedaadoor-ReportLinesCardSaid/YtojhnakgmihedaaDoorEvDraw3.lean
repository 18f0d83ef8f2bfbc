import Derived.Test.YtojhnakgmihedaaDoorEvDraw2
namespace Go.Ev
section
variable {P : Program} {N : Nat} {ops : Array Oper} {Q : Exit → Act → World → Prop} {K : Env → Heap → Prop}
abbrev lsS (listed : Array Bool) : Nat → Bool := fun i => listed.getD i false
structure Inv (P : Program) (N : Nat) (ops : Array Oper) (K : Env → Heap → Prop) (ord : List Nat) (a₀ : Act) (w₀ : World) (e₀ : Env) (listed : Array Bool) (a : Act) (w : World) (tr : Tr) (post : List Nat) (D : List (Nat × Env × Value)) : Prop where
  sz : listed.size = ops.size
  down : Down ops (lsS listed)
  split : ord = tr.map (·.1) ++ post
  chain : Chain ops e₀ tr
  facts : ∀ x ∈ tr, Fact P ops D x ∧ ∀ o, ops[x.1]? = some o → wantedK ops o x.2.2 = some true → kindOf P o.op = .write → lsS listed x.1 = true
  reads : ∀ x ∈ D, lsS listed x.1 = false → ∃ o, ops[x.1]? = some o ∧ RunsAt P o x.2.1 x.2.2 w.heap
  rest : evD P ops (befs ops.toList []) post (envT ops allS tr e₀) w.heap D K
  head : HeadOk P ops (envT ops allS tr e₀) post
  mt : Mt N a (envT ops (lsS listed) tr e₀)
  lst : ∀ i, lsS listed i = true → i ∈ tr.map (·.1)
  sim : Sim w₀ w
  keeps : Keeps (regDsts ops) a₀ a
theorem exists_first (S : Nat → Bool) : ∀ (l : List Nat), (∀ i ∈ l, S i = true) ∨ ∃ l1 i l2, l = l1 ++ i :: l2 ∧ (∀ j ∈ l1, S j = true) ∧ S i = false
  | [] => .inl (by simp)
  | x :: l => by
    cases hx : S x with
    | false => exact .inr ⟨[], x, l, rfl, by simp, hx⟩
    | true =>
      rcases exists_first S l with h | ⟨l1, i, l2, rfl, h1, h2⟩
      · refine .inl fun i hi => ?_
        rcases List.mem_cons.1 hi with rfl | hi
        · exact hx
        · exact h i hi
      · refine .inr ⟨x :: l1, i, l2, rfl, fun j hj => ?_, h2⟩
        rcases List.mem_cons.1 hj with rfl | hj
        · exact hx
        · exact h1 j hj
theorem ls_set {listed : Array Bool} {i : Nat} (hi : i < listed.size) (j : Nat) : lsS (listed.setIfInBounds i true) j = if j = i then true else lsS listed j := by
  unfold lsS
  rw [Array.getD_eq_getD_getElem?, Array.getD_eq_getD_getElem?, Array.getElem?_setIfInBounds]
  by_cases h : i = j
  · subst h; simp [hi]
  · rw [if_neg h, if_neg (fun e => h e.symm)]
theorem ls_true {listed : Array Bool} {i : Nat} (hi : i < listed.size) : listed.getD i true = lsS listed i := by
  unfold lsS
  rw [Array.getD_eq_getD_getElem?, Array.getD_eq_getD_getElem?, Array.getElem?_eq_getElem hi]
  rfl
theorem agrees_of {e : Env} {a : Act} {o : Oper} (h : ∀ t ∈ namesOf ops o, ∀ u, e t = some u → a.tmps[t]? = some u) : Agrees e a.eval o.op.operands.toList := by
  intro x hx v hv
  cases x with
  | tmp t =>
    have := h t (names_uses (uses_op hx)) v hv
    simp [Act.eval, Array.getD_eq_getD_getElem?, this]
  | const u => simpa [opv, Act.eval] using hv
  | global g => simpa [opv, Act.eval] using hv
  | func f => simpa [opv, Act.eval] using hv

theorem fin_of {X : Nat → Bool} {ord : List Nat} (hat : ∀ l1 i l2, ord = l1 ++ i :: l2 → OrdAt P ops (befs ops.toList []) X l1 i l2)
    {a₀ : Act} {w₀ : World} {e₀ : Env} (hQ : ∀ a' w' e', Mt N a' e' → Sim w₀ w' → Keeps (regDsts ops) a₀ a' → K e' w'.heap → Q .normal a' w')
    {listed : Array Bool} {a : Act} {w : World} (h : ∃ tr post D, Inv P N ops K ord a₀ w₀ e₀ listed a w tr post D) (hr : Region.ready .any ops listed = []) : Q .normal a w := by
  obtain ⟨tr, post, D, I⟩ := h
  have hS : ∀ i ∈ ord, lsS listed i = true := by
    rcases exists_first (lsS listed) ord with h | ⟨l1, i, l2, he, h1, h2⟩
    · exact h
    · exfalso
      have ho := hat l1 i l2 he
      obtain ⟨o, hio⟩ := ho.ex
      have hlt : i < ops.size := (Array.getElem?_eq_some_iff.1 hio).1
      have : i ∈ Region.ready .any ops listed := by
        unfold Region.ready
        rw [List.mem_filter]
        refine ⟨List.mem_range.2 hlt, ?_⟩
        rw [hio, ls_true (by rw [I.sz]; exact hlt), h2]
        simp only [Bool.not_false, Option.map_some, Option.getD_some, Bool.true_and]
        rw [Array.all_eq_true_iff_forall_mem]
        intro e he'
        cases hb : Region.binds .any e with
        | false => rfl
        | true => exact h1 _ (ho.deps o hio e (by simpa using he') hb)
      rw [hr] at this
      simp at this
  have hpost : post = [] := by
    cases hpc : post with
    | nil => rfl
    | cons c rest =>
      exfalso
      have he : ord = tr.map (·.1) ++ c :: rest := by rw [I.split, hpc]
      have hc := I.lst c (hS c (by rw [he]; simp))
      exact (hat _ c rest he).fresh hc
  have hrest := I.rest
  rw [hpost] at hrest
  refine hQ a w (envT ops allS tr e₀) ?_ I.sim I.keeps hrest
  refine ⟨I.mt.size, I.mt.defers, fun t v hv => I.mt.val t v ?_⟩
  rw [← hv]
  refine envT_same rfl fun x hx _ => ?_
  exact hS x.1 (by rw [I.split]; exact List.mem_append.2 (.inl (List.mem_map.2 ⟨x, hx, rfl⟩)))
theorem step_in (hN : dstsOk N ops = true) {X : Nat → Bool} {ord : List Nat} (hat : ∀ l1 i l2, ord = l1 ++ i :: l2 → OrdAt P ops (befs ops.toList []) X l1 i l2)
    {a₀ : Act} {w₀ : World} {e₀ : Env} {listed : Array Bool} {a : Act} {w : World} {tr : Tr} {post : List Nat} {D : List (Nat × Env × Value)} (I : Inv P N ops K ord a₀ w₀ e₀ listed a w tr post D) {i : Nat} {o : Oper} (hlt : i < ops.size) (hio : ops[i]? = some o) (hSi : lsS listed i = false)
    (hdep : ∀ e ∈ o.after.toList, Region.binds .any e = true → lsS listed e.on = true) {v : Value} {ei : Env} (hx : (i, v, ei) ∈ tr) :
    Inv P N ops K ord a₀ w₀ e₀ (listed.setIfInBounds i true) (a.put o.dst v) w tr post D ∧ ∀ Kn : Act → World → Prop, Kn (a.put o.dst v) w → wpOp P ops Q i Kn a w := by
  have hmem : o ∈ ops := Array.mem_of_getElem? hio
  have hdst : dstO ops i = o.dst := by unfold dstO; rw [hio]; rfl
  have hset := fun j => ls_set (listed := listed) (i := i) (by rw [I.sz]; exact hlt) j
  have hdown' : Down ops (lsS (listed.setIfInBounds i true)) := by
    intro j oj hoj hSj e he hb
    rw [hset] at hSj ⊢
    by_cases hji : j = i
    · subst hji
      rw [hio] at hoj
      obtain rfl := Option.some.inj hoj
      split
      · rfl
      · exact hdep e he hb
    · rw [if_neg hji] at hSj
      split
      · rfl
      · exact I.down j oj hoj hSj e he hb
  -- an entry that is reckoned ahead of an operation and meets it is listed where that one is ready
  have ahead : ∀ l1 l2, ord = l1 ++ i :: l2 → ∀ y ∈ l1, ∀ t ∈ namesOf ops o, dstO ops y = some t → lsS listed y = true := by
    intro l1 l2 he y hy t ht hd
    obtain ⟨m1, m2, rfl⟩ := List.append_of_mem hy
    have hoy := hat m1 y (m2 ++ i :: l2) (by rw [he]; simp)
    obtain ⟨oy, hyo⟩ := hoy.ex
    have hdy : oy.dst = some t := by unfold dstO at hd; rw [hyo] at hd; exact hd
    have := hoy.pairs oy o i hyo (by simp) hio (meets_of (.inl ⟨hdy, ht⟩))
    exact mask_down I.down hio hdep this
  have hsz' : (listed.setIfInBounds i true).size = ops.size := by rw [Array.size_setIfInBounds, I.sz]
  have hin : i ∈ tr.map (·.1) := List.mem_map.2 ⟨_, hx, rfl⟩
  obtain ⟨t1, t2, htr⟩ := List.append_of_mem hx
  have hord' : ord = t1.map (·.1) ++ i :: (t2.map (·.1) ++ post) := by rw [I.split, htr]; simp
  have hoi := hat _ _ _ hord'
  have hei : ei = envT ops allS t1 e₀ := by
    have := I.chain
    rw [htr, chain_append] at this
    exact this.2.1
  have behind : ∀ y ∈ t2, ∀ t ∈ namesOf ops o, dstO ops y.1 = some t → lsS listed y.1 = false := by
    intro y hy t ht hd
    cases hSy : lsS listed y.1 with
    | false => rfl
    | true =>
      exfalso
      have hyl : y.1 ∈ t2.map (·.1) ++ post := List.mem_append.2 (.inl (List.mem_map.2 ⟨y, hy, rfl⟩))
      obtain ⟨oy, hyo⟩ : ∃ oy, ops[y.1]? = some oy := by
        unfold dstO at hd
        cases h : ops[y.1]? with
        | none => rw [h] at hd; cases hd
        | some oy => exact ⟨oy, rfl⟩
      have hdy : oy.dst = some t := by unfold dstO at hd; rw [hyo] at hd; exact hd
      have hb := hoi.pairs o oy y.1 hio hyl hyo (meets_of (.inr ⟨hdy, ht⟩))
      have := mask_down I.down hyo (fun e he hbe => I.down y.1 oy hyo hSy e he hbe) hb
      rw [hSi] at this
      cases this
  have hfresh2 : ∀ y ∈ t2, y.1 ≠ i := by
    intro y hy e
    obtain ⟨m1, m2, rfl⟩ := List.append_of_mem hy
    have := (hat (t1.map (·.1) ++ i :: m1.map (·.1)) y.1 (m2.map (·.1) ++ post) (by rw [hord']; simp)).fresh
    apply this
    rw [e]
    simp
  have hslot : ∀ t ∈ namesOf ops o, envT ops (lsS listed) tr e₀ t = ei t := by
    intro t ht
    rw [htr, envT_append, envT_skip, hei]
    · refine envT_same rfl fun y hy hd => ?_
      exact ahead _ _ hord' y.1 (List.mem_map.2 ⟨y, hy, rfl⟩) t ht hd
    · intro y hy hd
      rcases List.mem_cons.1 hy with rfl | hy
      · exact hSi
      · exact behind y hy t ht hd
  have hm : ∀ t ∈ namesOf ops o, ∀ u, ei t = some u → a.tmps[t]? = some u := fun t ht u hu => I.mt.val t u (by rw [hslot t ht]; exact hu)
  have hagr := agrees_of hm
  refine ⟨?_, fun Kn hnext => ?_⟩
  · refine ⟨hsz', hdown', I.split, I.chain, ?_, ?_, I.rest, I.head, ?_, ?_, I.sim, I.keeps.trans (Keeps.put (mem_regDsts hmem) _)⟩
    · intro x hx
      obtain ⟨h1, h2⟩ := I.facts x hx
      refine ⟨h1, fun o' ho' hw' hk' => ?_⟩
      rw [hset]
      split
      · rfl
      · exact h2 o' ho' hw' hk'
    · intro x hx hSx
      rw [hset] at hSx
      split at hSx
      · cases hSx
      · exact I.reads x hx hSx
    · have hput := I.mt.put o.dst (dsts_lt hN hmem) v
      refine ⟨hput.size, hput.defers, fun t u hu => hput.val t u ?_⟩
      by_cases hdt : o.dst = some t
      · rw [hdt, put_same]
        rw [htr, envT_append] at hu
        unfold envT at hu
        rw [hset, if_pos rfl, if_pos rfl, hdst, hdt, envT_skip, put_same] at hu
        · exact hu
        · intro y hy hd
          rw [hset, if_neg (hfresh2 y hy)]
          exact behind y hy t (names_dst hdt) hd
      · rw [put_other hdt, ← hu]
        refine envT_same rfl fun y hy hd => ?_
        rw [hset, if_neg]
        intro e
        rw [e, hdst] at hd
        exact hdt hd
    · intro j hj
      rw [hset] at hj
      split at hj
      · rename_i e; rw [e]; exact hin
      · exact I.lst j hj
  · obtain ⟨⟨o', ho', hf⟩, hwr⟩ := I.facts _ hx
    simp only at ho' hf hwr
    rw [hio] at ho'
    obtain rfl := Option.some.inj ho'
    have hwant : ∀ b, wantedK ops o ei = some b → Region.wanted o (yielded ops a.tmps) = b := fun b hb => wantedK_spec hb fun t ht u hu => hm t (names_uses (uses_guard ht)) u hu
    unfold wpOp
    rw [hio]
    simp only
    rcases hf with ⟨hw, rfl⟩ | ⟨hw, hr⟩ | ⟨hw, hD⟩ | ⟨hw, hk⟩
    · rw [if_neg (by rw [hwant _ hw]; simp)]
      exact hnext
    · rw [if_pos (hwant _ hw)]
      refine .inl ?_
      unfold Oper.wp
      rw [hr w.heap a.eval hagr w rfl]
      exact hnext
    · rw [if_pos (hwant _ hw)]
      refine .inl ?_
      obtain ⟨o', ho', hr⟩ := I.reads _ hD hSi
      simp only at ho' hr
      rw [hio] at ho'
      obtain rfl := Option.some.inj ho'
      unfold Oper.wp
      rw [hr a.eval hagr w rfl]
      exact hnext
    · have := hwr o hio hw hk
      rw [hSi] at this
      cases this
theorem step_head (hp : progOk P = true) (hN : dstsOk N ops = true) {X : Nat → Bool} {ord : List Nat} (hat : ∀ l1 i l2, ord = l1 ++ i :: l2 → OrdAt P ops (befs ops.toList []) X l1 i l2)
    {a₀ : Act} {w₀ : World} {e₀ : Env} {listed : Array Bool} {a : Act} {w : World} {tr : Tr} {rest : List Nat} {D : List (Nat × Env × Value)} {i : Nat} (I : Inv P N ops K ord a₀ w₀ e₀ listed a w tr (i :: rest) D) {o : Oper} (hlt : i < ops.size) (hio : ops[i]? = some o) (hSi : lsS listed i = false)
    (hdep : ∀ e ∈ o.after.toList, Region.binds .any e = true → lsS listed e.on = true) (hck : kindOf P o.op = .write) (hcw : wantedK ops o (envT ops allS tr e₀) = some true) {Kn : Act → World → Prop}
    (hnext : ∀ v w' tr' post' D', Inv P N ops K ord a₀ w₀ e₀ (listed.setIfInBounds i true) (a.put o.dst v) w' (tr ++ (i, v, envT ops allS tr e₀) :: tr') post' D' → Kn (a.put o.dst v) w') : wpOp P ops Q i Kn a w := by
  have hmem : o ∈ ops := Array.mem_of_getElem? hio
  have hdst : dstO ops i = o.dst := by unfold dstO; rw [hio]; rfl
  have hset := fun j => ls_set (listed := listed) (i := i) (by rw [I.sz]; exact hlt) j
  have hdown' : Down ops (lsS (listed.setIfInBounds i true)) := by
    intro j oj hoj hSj e he hb
    rw [hset] at hSj ⊢
    by_cases hji : j = i
    · subst hji
      rw [hio] at hoj
      obtain rfl := Option.some.inj hoj
      split
      · rfl
      · exact hdep e he hb
    · rw [if_neg hji] at hSj
      split
      · rfl
      · exact I.down j oj hoj hSj e he hb
  -- an entry that is reckoned ahead of an operation and meets it is listed where that one is ready
  have ahead : ∀ l1 l2, ord = l1 ++ i :: l2 → ∀ y ∈ l1, ∀ t ∈ namesOf ops o, dstO ops y = some t → lsS listed y = true := by
    intro l1 l2 he y hy t ht hd
    obtain ⟨m1, m2, rfl⟩ := List.append_of_mem hy
    have hoy := hat m1 y (m2 ++ i :: l2) (by rw [he]; simp)
    obtain ⟨oy, hyo⟩ := hoy.ex
    have hdy : oy.dst = some t := by unfold dstO at hd; rw [hyo] at hd; exact hd
    have := hoy.pairs oy o i hyo (by simp) hio (meets_of (.inl ⟨hdy, ht⟩))
    exact mask_down I.down hio hdep this
  have hsz' : (listed.setIfInBounds i true).size = ops.size := by rw [Array.size_setIfInBounds, I.sz]
  have hord' : ord = tr.map (·.1) ++ i :: rest := I.split
  have hin : i ∉ tr.map (·.1) := (hat _ _ _ hord').fresh
  have hslot : ∀ t ∈ namesOf ops o, envT ops (lsS listed) tr e₀ t = envT ops allS tr e₀ t := fun t ht =>
    envT_same rfl fun y hy hd => ahead _ _ hord' y.1 (List.mem_map.2 ⟨y, hy, rfl⟩) t ht hd
  have hm : ∀ t ∈ namesOf ops o, ∀ u, envT ops allS tr e₀ t = some u → a.tmps[t]? = some u := fun t ht u hu => I.mt.val t u (by rw [hslot t ht]; exact hu)
  have hrest := I.rest
  unfold evD at hrest
  rw [hio] at hrest
  simp only [hcw, hck] at hrest
  unfold wpOp
  rw [hio]
  simp only
  rw [if_pos (wantedK_spec hcw fun t ht u hu => hm t (names_uses (uses_guard ht)) u hu)]
  refine .inl (evWrite_out hp hrest (agrees_of hm) w rfl ?_)
  intro v w' hs' hv
  obtain ⟨hv, hst⟩ := stabsK_out hv
  have hv := splitG_out hv
  have hD0 : ∀ x ∈ D, lsS (listed.setIfInBounds i true) x.1 = false → ∃ o, ops[x.1]? = some o ∧ RunsAt P o x.2.1 x.2.2 w'.heap := by
    intro x hx hSx
    refine hst x hx ?_
    cases hb : ((befs ops.toList []).getD i 0).testBit x.1 with
    | false => rfl
    | true =>
      have := mask_down I.down hio hdep hb
      rw [hset] at hSx
      split at hSx
      · cases hSx
      · rw [this] at hSx; cases hSx
  obtain ⟨tr', post', D', e1, e2, e3, e3', e4, e5, e6, e7⟩ := adv (fun r => lsS (listed.setIfInBounds i true) r = false) rest _ D hD0 hv
  have hord2 : ord = (tr ++ (i, v, envT ops allS tr e₀) :: tr').map (·.1) ++ post' := by rw [hord', e1]; simp
  have hfresh' : ∀ y ∈ tr', y.1 ∉ tr.map (·.1) ∧ y.1 ≠ i := by
    intro y hy
    obtain ⟨m1, m2, rfl⟩ := List.append_of_mem hy
    have hf := (hat (tr.map (·.1) ++ i :: m1.map (·.1)) y.1 (m2.map (·.1) ++ post') (by rw [hord2]; simp)).fresh
    exact ⟨fun h => hf (by simp at h ⊢; exact .inl h), fun e => hf (by rw [e]; simp)⟩
  have henv : envT ops allS (tr ++ (i, v, envT ops allS tr e₀) :: tr') e₀ = envT ops allS tr' (put (envT ops allS tr e₀) o.dst v) := by
    rw [envT_append]
    conv => lhs; unfold envT
    simp only [allS, if_true, hdst]
  refine hnext v w' tr' post' D' ?_
  refine ⟨hsz', hdown', hord2, ?_, ?_, e5, by rw [henv]; exact e6, by rw [henv]; exact e7, ?_, ?_, I.sim.trans hs', I.keeps.trans (Keeps.put (mem_regDsts hmem) _)⟩
  · rw [chain_append]
    exact ⟨I.chain, rfl, by rw [hdst]; exact e2⟩
  · intro x hx
    rw [List.mem_append, List.mem_cons] at hx
    rcases hx with hx | rfl | hx
    · obtain ⟨⟨o', ho', hf⟩, h2⟩ := I.facts x hx
      refine ⟨⟨o', ho', ?_⟩, fun o' ho' hw' hk' => ?_⟩
      · rcases hf with h | h | h | h
        · exact .inl h
        · exact .inr (.inl h)
        · exact .inr (.inr (.inl ⟨h.1, e3 _ h.2⟩))
        · exact .inr (.inr (.inr h))
      · rw [hset]
        split
        · rfl
        · exact h2 o' ho' hw' hk'
    · refine ⟨⟨o, hio, .inr (.inr (.inr ⟨hcw, hck⟩))⟩, fun _ _ _ _ => ?_⟩
      rw [hset, if_pos rfl]
    · obtain ⟨h1, h2⟩ := e4 x hx
      exact ⟨h1, fun o' ho' hw' hk' => absurd hk' (h2 o' ho' hw')⟩
  · have hput := I.mt.put o.dst (dsts_lt hN hmem) v
    refine ⟨hput.size, hput.defers, fun t u hu => hput.val t u ?_⟩
    rw [envT_append] at hu
    unfold envT at hu
    rw [hset, if_pos rfl, if_pos rfl, hdst, envT_skip] at hu
    · rw [← hu]
      by_cases hdt : o.dst = some t
      · rw [hdt, put_same, put_same]
      · rw [put_other hdt, put_other hdt]
        refine envT_same rfl fun y hy hd => ?_
        rw [hset, if_neg]
        intro e
        exact hin (List.mem_map.2 ⟨y, hy, e⟩)
    · intro y hy hd
      obtain ⟨f1, f2⟩ := hfresh' y hy
      rw [hset, if_neg f2]
      cases hSy : lsS listed y.1 with
      | false => rfl
      | true => exact absurd (I.lst y.1 hSy) f1
  · intro j hj
    rw [hset] at hj
    rw [List.map_append, List.mem_append]
    split at hj
    · rename_i e; rw [e]; exact .inr (by simp)
    · exact .inl (I.lst j hj)
theorem ready_of {listed : Array Bool} {i : Nat} (hsz : listed.size = ops.size) (hi : i ∈ Region.ready .any ops listed) :
    i < ops.size ∧ lsS listed i = false ∧ ∃ o, ops[i]? = some o ∧ ∀ e ∈ o.after.toList, Region.binds .any e = true → lsS listed e.on = true := by
  unfold Region.ready at hi
  rw [List.mem_filter] at hi
  obtain ⟨hir, hi⟩ := hi
  have hlt : i < ops.size := List.mem_range.1 hir
  rw [Bool.and_eq_true, ls_true (by rw [hsz]; exact hlt)] at hi
  obtain ⟨hSi, hdep⟩ := hi
  have hio : ops[i]? = some ops[i] := Array.getElem?_eq_getElem hlt
  rw [hio] at hdep
  simp only [Option.map_some, Option.getD_some, Array.all_eq_true_iff_forall_mem] at hdep
  refine ⟨hlt, by simpa using hSi, ops[i], hio, fun e he hb => ?_⟩
  have := hdep e (by simpa using he)
  rw [hb] at this
  simpa using this
theorem ready_nil {listed : Array Bool} (hsz : listed.size = ops.size) (hc : (List.range ops.size).countP (fun i => !lsS listed i) = 0) : Region.ready .any ops listed = [] := by
  unfold Region.ready
  rw [List.filter_eq_nil_iff]
  intro i hi
  have := (List.countP_eq_zero.1 hc) i hi
  have hlt : i < ops.size := List.mem_range.1 hi
  rw [ls_true (by rw [hsz]; exact hlt)]
  simp only [Bool.not_eq_true', Bool.not_eq_false] at this
  simp [this]
theorem count_set {listed : Array Bool} {i fuel : Nat} (hsz : listed.size = ops.size) (hlt : i < ops.size) (hSi : lsS listed i = false) (hc : (List.range ops.size).countP (fun i => !lsS listed i) = fuel + 1) :
    (List.range ops.size).countP (fun j => !lsS (listed.setIfInBounds i true) j) = fuel := by
  have hset := fun j => ls_set (listed := listed) (i := i) (by rw [hsz]; exact hlt) j
  have := countP_drop (p := fun j => !lsS listed j) (q := fun j => !lsS (listed.setIfInBounds i true) j) (i := i) (by simp [hSi]) (by simp [hset]) (fun j hj => by have hh := hset j; rw [if_neg hj] at hh; rw [hh]) (l := List.range ops.size) List.nodup_range (List.mem_range.2 hlt)
  omega
theorem draw_main (hp : progOk P = true) (hN : dstsOk N ops = true) {X : Nat → Bool} {ord : List Nat} (hat : ∀ l1 i l2, ord = l1 ++ i :: l2 → OrdAt P ops (befs ops.toList []) X l1 i l2) (hall : ∀ i < ops.size, i ∈ ord)
    (a₀ : Act) (w₀ : World) (e₀ : Env) (hQ : ∀ a' w' e', Mt N a' e' → Sim w₀ w' → Keeps (regDsts ops) a₀ a' → K e' w'.heap → Q .normal a' w') :
    ∀ (fuel : Nat) (listed : Array Bool) (a : Act) (w : World), (∃ tr post D, Inv P N ops K ord a₀ w₀ e₀ listed a w tr post D ∧ ∀ c, X c = true → c ∈ tr.map (·.1)) →
      (List.range ops.size).countP (fun i => !lsS listed i) = fuel → wpAny P .any ops Q fuel listed a w := by
  intro fuel
  induction fuel with
  | zero =>
    rintro listed a w ⟨tr, post, D, I, hX⟩ hc
    have hr := ready_nil I.sz hc
    exact ⟨hr, fin_of hat hQ ⟨tr, post, D, I⟩ hr⟩
  | succ fuel ih =>
    rintro listed a w ⟨tr, post, D, I, hX⟩ hc
    refine ⟨fin_of hat hQ ⟨tr, post, D, I⟩, fun i hi => ?_⟩
    obtain ⟨hlt, hSi, o, hio, hdep⟩ := ready_of I.sz hi
    have hcount := count_set I.sz hlt hSi hc
    by_cases hin : i ∈ tr.map (·.1)
    · obtain ⟨x, hx, hxi⟩ := List.mem_map.1 hin
      obtain ⟨i', v, ei⟩ := x
      simp only at hxi
      subst hxi
      obtain ⟨h1, h2⟩ := step_in (Q := Q) hN hat I hlt hio hSi hdep hx
      exact h2 _ (ih _ _ _ ⟨tr, post, D, h1, hX⟩ hcount)
    · have hipost : i ∈ post := by
        have := hall i hlt
        rw [I.split, List.mem_append] at this
        rcases this with h | h
        · exact absurd h hin
        · exact h
      rcases I.head with hnil | ⟨c, rest, oc, hpc, hco, hck, hcw⟩
      · rw [hnil] at hipost; simp at hipost
      · subst hpc
        have hoc := hat _ _ _ I.split
        have hXc : X c = false := by
          cases h : X c with
          | false => rfl
          | true => exact absurd (hX c h) hoc.fresh
        have hic : i = c := by
          rcases List.mem_cons.1 hipost with h | h
          · exact h
          · exfalso
            have hb := hoc.write hXc oc hco hck i h
            exact hoc.fresh (I.lst c (mask_down I.down hio hdep hb))
        subst hic
        rw [hio] at hco
        obtain rfl := Option.some.inj hco
        refine step_head hp hN hat I hlt hio hSi hdep hck hcw fun v w' tr' post' D' I' => ih _ _ _ ⟨_, post', D', I', fun c hc => ?_⟩ hcount
        rw [List.map_append, List.mem_append]
        exact .inl (hX c hc)
theorem draw_two (hp : progOk P = true) (hN : dstsOk N ops = true) {p r s : List Nat} {c d : Nat} {oc od : Oper} (hat1 : ∀ l1 i l2, p ++ c :: r = l1 ++ i :: l2 → OrdAt P ops (befs ops.toList []) (Nat.beq c) l1 i l2) (hat2 : ∀ l1 i l2, p ++ d :: s = l1 ++ i :: l2 → OrdAt P ops (befs ops.toList []) (Nat.beq d) l1 i l2)
    (hall1 : ∀ i < ops.size, i ∈ p ++ c :: r) (hall2 : ∀ i < ops.size, i ∈ p ++ d :: s) (hrd : ∀ j ∈ r, j = d ∨ ((befs ops.toList []).getD j 0).testBit c = true ∨ ((befs ops.toList []).getD j 0).testBit d = true)
    (hco : ops[c]? = some oc) (hck : kindOf P oc.op = .write) (hcg : oc.guard = none) (hdo : ops[d]? = some od) (hdk : kindOf P od.op = .write) (hdg : od.guard = none)
    (a₀ : Act) (w₀ : World) (e₀ : Env) (hQ : ∀ a' w' e', Mt N a' e' → Sim w₀ w' → Keeps (regDsts ops) a₀ a' → K e' w'.heap → Q .normal a' w') :
    ∀ (fuel : Nat) (listed : Array Bool) (a : Act) (w : World), (∃ tr, tr.map (·.1) = p ∧ Inv P N ops K (p ++ c :: r) a₀ w₀ e₀ listed a w tr (c :: r) [] ∧ Inv P N ops K (p ++ d :: s) a₀ w₀ e₀ listed a w tr (d :: s) []) →
      (List.range ops.size).countP (fun i => !lsS listed i) = fuel → wpAny P .any ops Q fuel listed a w := by
  have bare : ∀ {o : Oper} (e : Env), o.guard = none → wantedK ops o e = some true := fun e h => by unfold wantedK; rw [h]
  intro fuel
  induction fuel with
  | zero =>
    rintro listed a w ⟨tr, htr, I, J⟩ hc
    have hr := ready_nil I.sz hc
    exact ⟨hr, fin_of hat1 hQ ⟨tr, _, _, I⟩ hr⟩
  | succ fuel ih =>
    rintro listed a w ⟨tr, htr, I, J⟩ hc
    refine ⟨fin_of hat1 hQ ⟨tr, _, _, I⟩, fun i hi => ?_⟩
    obtain ⟨hlt, hSi, o, hio, hdep⟩ := ready_of I.sz hi
    have hcount := count_set I.sz hlt hSi hc
    by_cases hin : i ∈ tr.map (·.1)
    · obtain ⟨x, hx, hxi⟩ := List.mem_map.1 hin
      obtain ⟨i', v, ei⟩ := x
      simp only at hxi
      subst hxi
      obtain ⟨h1, h2⟩ := step_in (Q := Q) hN hat1 I hlt hio hSi hdep hx
      obtain ⟨h3, _⟩ := step_in (Q := Q) hN hat2 J hlt hio hSi hdep hx
      exact h2 _ (ih _ _ _ ⟨tr, htr, h1, h3⟩ hcount)
    · by_cases hic : i = c
      · subst hic
        rw [hio] at hco
        obtain rfl := Option.some.inj hco
        refine step_head hp hN hat1 I hlt hio hSi hdep hck (bare _ hcg) fun v w' tr' post' D' I' => draw_main hp hN hat1 hall1 a₀ w₀ e₀ hQ _ _ _ _ ⟨_, post', D', I', fun c hc => ?_⟩ hcount
        obtain rfl := Nat.eq_of_beq_eq_true hc
        simp
      · by_cases hid : i = d
        · subst hid
          rw [hio] at hdo
          obtain rfl := Option.some.inj hdo
          refine step_head hp hN hat2 J hlt hio hSi hdep hdk (bare _ hdg) fun v w' tr' post' D' I' => draw_main hp hN hat2 hall2 a₀ w₀ e₀ hQ _ _ _ _ ⟨_, post', D', I', fun c hc => ?_⟩ hcount
          obtain rfl := Nat.eq_of_beq_eq_true hc
          simp
        · exfalso
          have h := hall1 i hlt
          rw [List.mem_append, List.mem_cons] at h
          rcases h with h | h | h
          · rw [htr] at hin; exact hin h
          · exact hic h
          · rcases hrd i h with h | h | h
            · exact hid h
            · exact (hat1 p c r rfl).fresh (by rw [← htr]; exact I.lst c (mask_down I.down hio hdep h))
            · exact (hat2 p d s rfl).fresh (by rw [← htr]; exact J.lst d (mask_down J.down hio hdep h))
theorem ls_none (n : Nat) (i : Nat) : lsS (Array.replicate n false) i = false := by
  unfold lsS
  rw [Array.getD_eq_getD_getElem?, Array.getElem?_replicate]
  split <;> rfl
theorem count_none (n : Nat) : (List.range n).countP (fun i => !lsS (Array.replicate n false) i) = n := by
  rw [List.countP_eq_length.2]
  · simp
  · intro i _
    rw [ls_none]
    rfl
theorem all_mem {l : List Nat} (h : allIn ops l = true) : ∀ i < ops.size, i ∈ l := fun i hi => by
  have := List.all_eq_true.1 h i (List.mem_range.2 hi)
  obtain ⟨j, hj, hb⟩ := List.any_eq_true.1 this
  rw [Nat.eq_of_beq_eq_true hb]
  exact hj
theorem inv0 {ord post : List Nat} {tr : Tr} {D : List (Nat × Env × Value)} {a₀ : Act} {w₀ w : World} {e₀ : Env} (e1 : ord = tr.map (·.1) ++ post) (e2 : Chain ops e₀ tr) (e4 : ∀ x ∈ tr, Fact P ops D x ∧ ∀ o, ops[x.1]? = some o → wantedK ops o x.2.2 = some true → kindOf P o.op ≠ .write)
    (e5 : ∀ x ∈ D, ∃ o, ops[x.1]? = some o ∧ RunsAt P o x.2.1 x.2.2 w.heap) (e6 : evD P ops (befs ops.toList []) post (envT ops allS tr e₀) w.heap D K) (e7 : HeadOk P ops (envT ops allS tr e₀) post) (hm : Mt N a₀ e₀) (hs : Sim w₀ w) :
    Inv P N ops K ord a₀ w₀ e₀ (Array.replicate ops.size false) a₀ w tr post D := by
  refine ⟨by simp, ?_, e1, e2, ?_, fun x hx _ => e5 x hx, e6, e7, ?_, ?_, hs, Keeps.refl _ _⟩
  · intro i o _ hS
    rw [ls_none] at hS
    cases hS
  · intro x hx
    obtain ⟨h1, h2⟩ := e4 x hx
    exact ⟨h1, fun o' ho' hw' hk' => absurd hk' (h2 o' ho' hw')⟩
  · refine ⟨hm.size, hm.defers, fun t v hv => hm.val t v ?_⟩
    rw [envT_skip (fun x _ _ => ls_none _ x.1)] at hv
    exact hv
  · intro i hi
    rw [ls_none] at hi
    cases hi
theorem evD_out (hp : progOk P = true) (hN : dstsOk N ops = true) {ord : List Nat} (hord : drawOk P ops (befs ops.toList []) ord = true)
    (a₀ : Act) (w₀ w : World) (e₀ : Env) (hQ : ∀ a' w' e', Mt N a' e' → Sim w₀ w' → Keeps (regDsts ops) a₀ a' → K e' w'.heap → Q .normal a' w')
    (h : evD P ops (befs ops.toList []) ord e₀ w.heap [] K) (hm : Mt N a₀ e₀) (hs : Sim w₀ w) :
    wpAny P .any ops Q ops.size (Array.replicate ops.size false) a₀ w := by
  unfold drawOk at hord
  rw [Bool.and_eq_true] at hord
  obtain ⟨hall, hord⟩ := hord
  rw [ordOk_X] at hord
  have hat : ∀ l1 i l2, ord = l1 ++ i :: l2 → OrdAt P ops (befs ops.toList []) (fun _ => false) l1 i l2 := fun l1 i l2 he => by
    have := ordOkX_at (done := []) hord (by simp) l1 i l2 he
    simpa using this
  obtain ⟨tr, post, D, e1, e2, e3, e3', e4, e5, e6, e7⟩ := adv (fun _ => True) ord e₀ [] (by simp) h
  exact draw_main hp hN hat (all_mem hall) a₀ w₀ e₀ hQ ops.size _ a₀ w ⟨tr, post, D, inv0 e1 e2 e4 (fun x hx => e5 x hx trivial) e6 e7 hm hs, fun c hc => by cases hc⟩ (count_none _)
theorem advP {B : List Nat} {H : Heap} : ∀ (l : List Nat) (e : Env), (∀ i ∈ l, plainOp P ops i = true) → evD P ops B l e H [] K →
    ∃ tr : Tr, l = tr.map (·.1) ∧ Chain ops e tr ∧ (∀ x ∈ tr, Fact P ops [] x ∧ ∀ o, ops[x.1]? = some o → wantedK ops o x.2.2 = some true → kindOf P o.op ≠ .write) ∧ K (envT ops allS tr e) H
  | [], e, _, h => ⟨[], rfl, trivial, by simp, h⟩
  | i :: rest, e, hl, h => by
    have hpl := hl i (by simp)
    unfold plainOp at hpl
    unfold evD at h
    split at h
    · exact h.elim
    · rename_i o ho
      rw [ho] at hpl
      have hk : kindOf P o.op = .pure := by simpa using hpl
      have hdst : dstO ops i = o.dst := by unfold dstO; rw [ho]; rfl
      have step : ∀ v : Value, Fact P ops [] (i, v, e) → evD P ops B rest (put e o.dst v) H [] K →
          ∃ tr : Tr, i :: rest = tr.map (·.1) ∧ Chain ops e tr ∧ (∀ x ∈ tr, Fact P ops [] x ∧ ∀ o, ops[x.1]? = some o → wantedK ops o x.2.2 = some true → kindOf P o.op ≠ .write) ∧ K (envT ops allS tr e) H := by
        intro v hf hv
        obtain ⟨tr, e1, e2, e3, e4⟩ := advP rest _ (fun j hj => hl j (by simp [hj])) hv
        refine ⟨(i, v, e) :: tr, by rw [e1]; rfl, ⟨rfl, by rw [hdst]; exact e2⟩, ?_, ?_⟩
        · intro x hx
          rcases List.mem_cons.1 hx with rfl | hx
          · refine ⟨hf, fun o' ho' _ => ?_⟩
            rw [ho] at ho'
            obtain rfl := Option.some.inj ho'
            rw [hk]
            simp
          · exact e3 x hx
        · unfold envT; simp only [allS, if_true, hdst]; exact e4
      split at h
      · exact h.elim
      · rename_i hw
        exact step undef ⟨o, ho, .inl ⟨hw, rfl⟩⟩ h
      · rename_i hw
        rw [hk] at h
        obtain ⟨v, hv, hr⟩ := evPure_out h
        exact step v ⟨o, ho, .inr (.inl ⟨hw, fun H ρ ha w _ => hr ρ ha w⟩)⟩ (splitG_out hv)
theorem splitTwo_eq : ∀ (l m p x y : List Nat), splitTwo l m = (p, x, y) → l = p ++ x ∧ m = p ++ y
  | [], m, p, x, y, h => by
    unfold splitTwo at h
    cases h
    exact ⟨rfl, rfl⟩
  | a :: l, [], p, x, y, h => by
    unfold splitTwo at h
    cases h
    exact ⟨rfl, rfl⟩
  | a :: l, b :: m, p, x, y, h => by
    unfold splitTwo at h
    cases hb : Nat.beq a b <;> rw [hb] at h <;> simp only [cond_true, cond_false] at h
    · cases h
      exact ⟨rfl, rfl⟩
    · obtain rfl := Nat.eq_of_beq_eq_true hb
      cases hs : splitTwo l m with
      | mk p' xy =>
        obtain ⟨x', y'⟩ := xy
        rw [hs] at h
        cases h
        obtain ⟨h1, h2⟩ := splitTwo_eq l m _ _ _ hs
        exact ⟨by rw [h1]; rfl, by rw [h2]; rfl⟩
theorem evTwo_out (hp : progOk P = true) (hN : dstsOk N ops = true) {l m : List Nat}
    (a₀ : Act) (w₀ w : World) (e₀ : Env) (hQ : ∀ a' w' e', Mt N a' e' → Sim w₀ w' → Keeps (regDsts ops) a₀ a' → K e' w'.heap → Q .normal a' w')
    (h : evTwo P ops (befs ops.toList []) l m e₀ w.heap K) (hm : Mt N a₀ e₀) (hs : Sim w₀ w) :
    wpAny P .any ops Q ops.size (Array.replicate ops.size false) a₀ w := by
  unfold evTwo at h
  split at h
  rename_i p x y hsp
  obtain ⟨h1, h2⟩ := splitTwo_eq _ _ _ _ _ hsp
  cases hok : twoOk P ops (befs ops.toList []) l m p x y <;> rw [hok] at h <;> simp only [cond_true, cond_false] at h
  unfold twoOk at hok
  split at hok
  · rename_i c r d s
    simp only [Bool.and_eq_true] at hok
    obtain ⟨⟨⟨⟨⟨⟨⟨k1, k2⟩, k3⟩, k4⟩, k5⟩, k6⟩, k7⟩, k8⟩ := hok
    subst h1 h2
    have hat1 : ∀ l1 i l2, p ++ c :: r = l1 ++ i :: l2 → OrdAt P ops (befs ops.toList []) (Nat.beq c) l1 i l2 := fun l1 i l2 he => by
      have := ordOkX_at (done := []) k3 (by simp) l1 i l2 he
      simpa using this
    have hat2 : ∀ l1 i l2, p ++ d :: s = l1 ++ i :: l2 → OrdAt P ops (befs ops.toList []) (Nat.beq d) l1 i l2 := fun l1 i l2 he => by
      have := ordOkX_at (done := []) k4 (by simp) l1 i l2 he
      simpa using this
    have bw : ∀ {i : Nat}, bareWrite P ops i = true → ∃ o, ops[i]? = some o ∧ kindOf P o.op = .write ∧ o.guard = none := fun {i} hb => by
      unfold bareWrite at hb
      split at hb
      · rename_i o ho
        rw [Bool.and_eq_true] at hb
        exact ⟨o, ho, by simpa using hb.1, by simpa using hb.2⟩
      · cases hb
    obtain ⟨oc, hco, hck, hcg⟩ := bw k6
    obtain ⟨od, hdo, hdk, hdg⟩ := bw k7
    have bare : ∀ {o : Oper} (e : Env), o.guard = none → wantedK ops o e = some true := fun e h => by unfold wantedK; rw [h]
    obtain ⟨tr, e1, e2, e3, e4, e5⟩ := advP p e₀ (fun i hi => List.all_eq_true.1 k5 i hi) h
    refine draw_two hp hN hat1 hat2 (all_mem k1) (all_mem k2) (fun j hj => ?_) hco hck hcg hdo hdk hdg a₀ w₀ e₀ hQ ops.size _ a₀ w ⟨tr, e1.symm, ?_, ?_⟩ (count_none _)
    · have := List.all_eq_true.1 k8 j hj
      simp only [Bool.or_eq_true] at this
      rcases this with (h | h) | h
      · exact .inl (Nat.eq_of_beq_eq_true h)
      · exact .inr (.inl h)
      · exact .inr (.inr h)
    · exact inv0 (by rw [e1]) e2 e3 (by simp) e4 (.inr ⟨c, r, oc, rfl, hco, hck, bare _ hcg⟩) hm hs
    · exact inv0 (by rw [e1]) e2 e3 (by simp) e5 (.inr ⟨d, s, od, rfl, hdo, hdk, bare _ hdg⟩) hm hs
  · cases hok
end
end Go.Ev
