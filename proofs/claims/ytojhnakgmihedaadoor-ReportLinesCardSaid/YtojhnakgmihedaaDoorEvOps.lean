import Derived.Test.YtojhnakgmihedaaDoorEvC
import Derived.Test.YtojhnakgmihedaaDoorEvWrite
/-! Regions: the reckoning's word holds of the machine, whatever the order. -/
namespace Go.Ev

/-- The frame holds what the reckoning takes it to hold. -/
structure Mt (N : Nat) (a : Act) (e : Env) : Prop where
  size : a.tmps.size = N
  defers : a.defers = []
  val : ∀ t v, e t = some v → a.tmps[t]? = some v

theorem put_some (e : Env) (d : Nat) (v : Value) (t : Nat) : put e (some d) v t = if t = d then some v else e t := by
  unfold put
  simp only
  by_cases h : t = d
  · subst h; simp
  · have : Nat.beq t d = false := by
      cases hb : Nat.beq t d
      · rfl
      · exact absurd (Nat.eq_of_beq_eq_true hb) h
    simp [this, h]
theorem put_none (e : Env) (v : Value) : put e none v = e := rfl
theorem act_put_tmps (a : Act) (d : Nat) (v : Value) : (a.put (some d) v).tmps = a.tmps.setIfInBounds d v := rfl
theorem Mt.put {N : Nat} {a : Act} {e : Env} (h : Mt N a e) (d : Option Tmp) (hd : ∀ t, d = some t → t < N) (v : Value) : Mt N (a.put d v) (put e d v) := by
  cases d with
  | none => exact h
  | some d =>
    refine ⟨by rw [act_put_tmps, Array.size_setIfInBounds, h.size], h.defers, fun t u hu => ?_⟩
    rw [act_put_tmps, Array.getElem?_setIfInBounds]
    rw [put_some] at hu
    by_cases ht : t = d
    · subst ht
      rw [if_pos rfl] at hu
      have := hd t rfl
      simp [h.size, this, hu]
    · rw [if_neg ht] at hu
      rw [if_neg (fun e => ht e.symm)]
      exact h.val t u hu
theorem Mt.eval {N : Nat} {a : Act} {e : Env} (h : Mt N a e) {x : Operand} {v : Value} (hv : opv e x = some v) : a.eval x = v := by
  cases x with
  | tmp t =>
    have := h.val t v hv
    simp [Act.eval, Array.getD_eq_getD_getElem?, this]
  | const u => simpa [opv, Act.eval] using hv
  | global g => simpa [opv, Act.eval] using hv
  | func f => simpa [opv, Act.eval] using hv
theorem Mt.agrees {N : Nat} {a : Act} {e : Env} (h : Mt N a e) (xs : List Operand) : Agrees e a.eval xs := fun _ _ _ hv => h.eval hv
theorem wantedK_spec {ops : Array Oper} {o : Oper} {e : Env} {b : Bool} {tmps : Array Value} (h : wantedK ops o e = some b)
    (hm : ∀ t ∈ guardTmp ops o, ∀ v, e t = some v → tmps[t]? = some v) : Region.wanted o (yielded ops tmps) = b := by
  unfold wantedK at h
  unfold Region.wanted
  split at h
  · rename_i hg
    rw [hg]
    simpa using h
  · rename_i j want hg
    rw [hg]
    simp only
    unfold yielded
    split at h
    · rename_i hj
      rw [hj]
      simp only [Option.bind_none]
      simp only [Option.some.injEq] at h
      subst h
      rfl
    · rename_i d hj
      have hmem : d ∈ guardTmp ops o := by unfold guardTmp; rw [hg]; simp [hj]
      rw [hj]
      simp only [Option.bind_some]
      split at h
      · rename_i c hc
        rw [hm d hmem _ hc]
        simp only [Option.some.injEq] at h
        subst h
        simp
      · rename_i v hne hc
        rw [hm d hmem _ hc]
        simp only [Option.some.injEq] at h
        subst h
        cases v <;> first | exact absurd rfl (hne _) | rfl
      · cases h
theorem splitG_out {g : Bool} {v : Value} {K : Value → Prop} (h : splitG g v K) : K v := by
  unfold splitG at h
  split at h
  · exact h
  · split at h
    · rcases brW_cases h with ⟨rfl, h⟩ | ⟨rfl, h⟩ <;> exact h
    · exact h
theorem dsts_lt {N : Nat} {ops : Array Oper} (h : dstsOk N ops = true) {o : Oper} (ho : o ∈ ops) : ∀ t, o.dst = some t → t < N := by
  unfold dstsOk at h
  have := Array.all_eq_true_iff_forall_mem.1 h o ho
  intro t ht
  rw [ht] at this
  simpa [Nat.blt_eq] using this

/-- What a piece of code leaves of the slots that it does not write. -/
def Keeps (ds : List Nat) (a a' : Act) : Prop := ∀ t, t ∉ ds → a'.tmps[t]? = a.tmps[t]?
theorem Keeps.refl (ds : List Nat) (a : Act) : Keeps ds a a := fun _ _ => rfl
theorem Keeps.trans {ds : List Nat} {a b c : Act} (h : Keeps ds a b) (k : Keeps ds b c) : Keeps ds a c := fun t ht => (k t ht).trans (h t ht)
theorem Keeps.mono {ds ds' : List Nat} {a b : Act} (h : Keeps ds a b) (hs : ∀ t ∈ ds, t ∈ ds') : Keeps ds' a b := fun t ht => h t fun hm => ht (hs t hm)
theorem Keeps.put {ds : List Nat} {a : Act} {d : Option Tmp} (hd : ∀ t, d = some t → t ∈ ds) (v : Value) : Keeps ds a (a.put d v) := by
  intro t ht
  cases d with
  | none => rfl
  | some d =>
    rw [act_put_tmps, Array.getElem?_setIfInBounds, if_neg]
    intro e
    exact ht (e ▸ hd d rfl)
def regDsts (ops : Array Oper) : List Nat := ops.toList.filterMap (·.dst)
theorem mem_regDsts {ops : Array Oper} {o : Oper} (ho : o ∈ ops) : ∀ t, o.dst = some t → t ∈ regDsts ops := by
  intro t ht
  unfold regDsts
  rw [List.mem_filterMap]
  exact ⟨o, by simpa using ho, ht⟩

section
variable {P : Program} {N : Nat} {ops : Array Oper} {Q : Exit → Act → World → Prop} {K : Env → Heap → Prop}
theorem evOps_out (hp : progOk P = true) (hN : dstsOk N ops = true) (a₀ : Act) (w₀ : World)
    (hQ : ∀ a' w' e', Mt N a' e' → Sim w₀ w' → Keeps (regDsts ops) a₀ a' → K e' w'.heap → Q .normal a' w') :
    ∀ (l : List Oper) (i : Nat) (e : Env) (a : Act) (w : World), (∀ o ∈ l, o ∈ ops) → evOps P ops l i e w.heap K → Mt N a e → Sim w₀ w → Keeps (regDsts ops) a₀ a → wpList P ops Q l a w
  | [], i, e, a, w, _, h, hm, hs, hk => hQ a w e hm hs hk h
  | o :: rest, i, e, a, w, hl, h, hm, hs, hk => by
    have ho : o ∈ ops := hl o (by simp)
    have hrest : ∀ o ∈ rest, o ∈ ops := fun o' h' => hl o' (by simp [h'])
    have hd := dsts_lt hN ho
    have hkd := mem_regDsts ho
    unfold evOps at h
    split at h
    · exact h.elim
    · rename_i hw
      unfold wpList
      rw [if_neg (by rw [wantedK_spec hw (fun t _ => hm.val t)]; simp)]
      exact evOps_out hp hN a₀ w₀ hQ rest (i + 1) _ _ w hrest h (hm.put _ hd _) hs (hk.trans (Keeps.put hkd _))
    · rename_i hw
      unfold wpList
      rw [if_pos (wantedK_spec hw (fun t _ => hm.val t))]
      refine .inl ?_
      split at h
      · obtain ⟨v, hv, hr⟩ := evPure_out h
        have hv := splitG_out hv
        unfold Oper.wp
        rw [hr a.eval (hm.agrees _) w]
        exact evOps_out hp hN a₀ w₀ hQ rest (i + 1) _ _ w hrest hv (hm.put _ hd _) hs (hk.trans (Keeps.put hkd _))
      · obtain ⟨v, hv, hr⟩ := evRead_out h
        have hv := splitG_out hv
        unfold Oper.wp
        rw [hr a.eval (hm.agrees _) w rfl]
        exact evOps_out hp hN a₀ w₀ hQ rest (i + 1) _ _ w hrest hv (hm.put _ hd _) hs (hk.trans (Keeps.put hkd _))
      · refine evWrite_out hp h (hm.agrees _) w rfl ?_
        intro v w' hs' hv
        exact evOps_out hp hN a₀ w₀ hQ rest (i + 1) _ _ w' hrest (splitG_out hv) (hm.put _ hd _) (hs.trans hs') (hk.trans (Keeps.put hkd _))
end
end Go.Ev
