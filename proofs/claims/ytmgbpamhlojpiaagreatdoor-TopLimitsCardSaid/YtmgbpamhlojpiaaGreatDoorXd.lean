/- An interpreter that the kernel runs is sound: operations. -/
import Derived.Test.YtmgbpamhlojpiaaGreatDoorXc
import Derived.DeepKeys3
import Derived.MapKept
set_option linter.unusedVariables false
/-! The interpreter: operations that touch no memory, in one. -/
namespace Go.X
open Go.Ex
variable {P : Program} {ρ : Rho} {M lo hi : Nat} {env : Tr V} {e : Env} {K : KP}

def plainT (P : Program) (t : TypeId) : Bool := match P.underlying t with | some (.interface _) | none => false | some _ => true
noncomputable def xData (v : V) (K : V → Bool) : Bool :=
  match v with
  | .nils => K .nilp
  | .slice b o _ c => bif Nat.beq c 0 then false else K (.ptr b o)
  | .sopen b es l d => bif Nat.beq l 0 then false else fN (d * es) fun o => K (.ptr b o)
  | _ => false
noncomputable def xBuiltin (P : Program) (b : Builtin) (ts : List TypeId) (vs : List V) (K : V → Bool) : Bool :=
  match b with
  | .len => (match vs, ts with | [v], [t] => xLen P t v K | _, _ => false)
  | .cap => (match vs, ts with | [v], [t] => xCap P t v K | _, _ => false)
  | .max => (match vs with | v :: r => xMax r v K | [] => false)
  | .min => (match vs with | v :: r => xMin r v K | [] => false)
  | .unsafeSliceData => (match vs with | [v] => xData v K | _ => false)
  | _ => false
noncomputable def xPureB (P : Program) (lo hi : Nat) (op : Op) (env : Tr V) (K : KP) : Bool :=
  match op with
  | .move x => xo env x fun v => K v lo hi
  | .assign x => xo env x fun v => K v lo hi
  | .pick c a b => xo env c fun v => (match v with | .bool t => (match t with | true => xo env a fun v => K v lo hi | false => xo env b fun v => K v lo hi) | _ => false)
  | .nilCheck x => xo env x fun v => (match v with | .ptr b o => K (.ptr b o) lo hi | _ => false)
  | .binOp op t x y _ => xo env x fun vx => xo env y fun vy => xBin P op t y vx vy lo hi K
  | .unOp op _ x => xo env x fun v => xUn op v fun v => K v lo hi
  | .convert s d x => xo env x fun v => xConv P s d v fun v => K v lo hi
  | .makeInterface t x => xo env x fun v => bif plainT P t then K (.iface t v) lo hi else false
  | .makeFunc (.func f) first cap => xL env first.toList fun l1 => xL env cap.toList fun l2 => K (.fn f l1 l2) lo hi
  | .slice t x l h m => xo env x fun v => xoO env l fun vl => xoO env h fun vh => (match m with
      | none => (match v with
        | .ptr b o => (match l, h with | none, none => xSliceA P t (.ptr b o) fun v => K v lo hi | _, _ => false)
        | v => xSlice P t v vl vh fun v => K v lo hi)
      | some m => xo env m fun vm => xSlice3 P t v vl vh (some vm) fun v => K v lo hi)
  | .fieldAddr t x f => xo env x fun v => xFieldA P t v f fun v => K v lo hi
  | .field t x f => xo env x fun v => xField P t v f fun v => K v lo hi
  | .indexAddr t x ix => xo env x fun v => xo env ix fun i => xIndexA P t v i fun v => K v lo hi
  | .index t x ix => xo env x fun v => xo env ix fun i => xIndex P t v i fun v => K v lo hi
  | .typeAssert x _ T ok => xo env x fun v => xAssert P v T ok fun v => K v lo hi
  | .extract x i => xo env x fun v => (match v with | .tup vs => nthK vs i fun v => K v lo hi | _ => false)
  | .build t parts => xOpL env parts.toList fun ps => xBuild P t ps fun v => K v lo hi
  | .call ⟨.builtin b, args, ts⟩ => xL env args.toList fun vs => xBuiltin P b ts.toList vs fun v => K v lo hi
  | _ => false
/-- An operation that touches no memory: which it is is asked once. -/
inductive BP where
  | mk (f : Nat → Nat → Tr V → KP → Bool)
noncomputable def boxP (P : Program) (op : Op) : BP :=
  match op with
  | .move x => .mk fun lo hi env K => xo env x fun v => K v lo hi
  | .assign x => .mk fun lo hi env K => xo env x fun v => K v lo hi
  | .pick c a b => .mk fun lo hi env K => xo env c fun v => (match v with | .bool t => (match t with | true => xo env a fun v => K v lo hi | false => xo env b fun v => K v lo hi) | _ => false)
  | .nilCheck x => .mk fun lo hi env K => xo env x fun v => (match v with | .ptr b o => K (.ptr b o) lo hi | _ => false)
  | .binOp op t x y _ => .mk fun lo hi env K => xo env x fun vx => xo env y fun vy => xBin P op t y vx vy lo hi K
  | .unOp op _ x => .mk fun lo hi env K => xo env x fun v => xUn op v fun v => K v lo hi
  | .convert s d x => .mk fun lo hi env K => xo env x fun v => xConv P s d v fun v => K v lo hi
  | .makeInterface t x => .mk fun lo hi env K => xo env x fun v => bif plainT P t then K (.iface t v) lo hi else false
  | .makeFunc (.func f) first cap => .mk fun lo hi env K => xL env first.toList fun l1 => xL env cap.toList fun l2 => K (.fn f l1 l2) lo hi
  | .slice t x l h m => .mk fun lo hi env K => xo env x fun v => xoO env l fun vl => xoO env h fun vh => (match m with
      | none => (match v with
        | .ptr b o => (match l, h with | none, none => xSliceA P t (.ptr b o) fun v => K v lo hi | _, _ => false)
        | v => xSlice P t v vl vh fun v => K v lo hi)
      | some m => xo env m fun vm => xSlice3 P t v vl vh (some vm) fun v => K v lo hi)
  | .fieldAddr t x f => .mk fun lo hi env K => xo env x fun v => xFieldA P t v f fun v => K v lo hi
  | .field t x f => .mk fun lo hi env K => xo env x fun v => xField P t v f fun v => K v lo hi
  | .indexAddr t x ix => .mk fun lo hi env K => xo env x fun v => xo env ix fun i => xIndexA P t v i fun v => K v lo hi
  | .index t x ix => .mk fun lo hi env K => xo env x fun v => xo env ix fun i => xIndex P t v i fun v => K v lo hi
  | .typeAssert x _ T ok => .mk fun lo hi env K => xo env x fun v => xAssert P v T ok fun v => K v lo hi
  | .extract x i => .mk fun lo hi env K => xo env x fun v => (match v with | .tup vs => nthK vs i fun v => K v lo hi | _ => false)
  | .build t parts => .mk fun lo hi env K => xOpL env parts.toList fun ps => xBuild P t ps fun v => K v lo hi
  | .call ⟨.builtin b, args, ts⟩ => .mk fun lo hi env K => xL env args.toList fun vs => xBuiltin P b ts.toList vs fun v => K v lo hi
  | _ => .mk fun _ _ _ _ => false
noncomputable def xPure (P : Program) (lo hi : Nat) (op : Op) (env : Tr V) (K : KP) : Bool := BP.rec (motive := fun _ => Bool) (fun f => f lo hi env K) (boxP P op)
theorem xPureB_eq (P : Program) (lo hi : Nat) (op : Op) (env : Tr V) (K : KP) : xPure P lo hi op env K = xPureB P lo hi op env K := by
  cases op with
  | call c => obtain ⟨c, a, t⟩ := c; cases c <;> rfl
  | makeFunc f a c => cases f <;> rfl
  | _ => rfl
theorem oL_acc {l : List Operand} {xs : List Value} (h : l.map (opv e) = xs.map some) : ∀ (acc : List Value) (Q : List Value → Prop), Q (acc ++ xs) → oL e l acc Q := by
  induction l generalizing xs with
  | nil => intro acc Q q; cases xs with
    | nil => simpa [oL] using q
    | cons => simp at h
  | cons o l ih =>
    intro acc Q q
    cases xs with
    | nil => simp at h
    | cons x xs =>
      simp only [List.map_cons, List.cons.injEq] at h
      unfold oL
      simp only [o1, h.1]
      exact ih h.2 _ _ (by simpa using q)
theorem xBuiltin_out {b : Builtin} {args : Array Operand} {ts : Array TypeId} {vs : List V} {xs : List Value} {K : V → Bool} (hl : args.toList.map (opv e) = xs.map some) (hd : DnL ρ M vs xs)
    (h : xBuiltin P b ts.toList vs K = true) : P1 P ρ M (.call ⟨.builtin b, args, ts⟩) e K := by
  unfold xBuiltin at h
  have one : ∀ {v : V}, vs = [v] → ∃ o x, args.toList = [o] ∧ opv e o = some x ∧ Dn ρ M v x := by
    rintro v rfl
    obtain ⟨x, a', rfl, h1, h2⟩ := hd.uncons
    obtain rfl := h2.unnil
    rcases ha : args.toList with _ | ⟨o, _ | ⟨o2, r⟩⟩ <;> rw [ha] at hl <;> simp at hl
    exact ⟨o, x, rfl, hl, h1⟩
  split at h
  · split at h
    · rename_i v t ht
      obtain ⟨o, x, ha, ho, hv⟩ := one rfl
      obtain ⟨v, x', h1, h2, h3⟩ := xLen_out hv h
      exact ⟨v, x', h1, h2, .inl (by simp only [evPure0, ha, ht, o1, ho]; exact h3)⟩
    · cases h
  · split at h
    · rename_i v t ht
      obtain ⟨o, x, ha, ho, hv⟩ := one rfl
      obtain ⟨v, x', h1, h2, h3⟩ := xCap_out hv h
      exact ⟨v, x', h1, h2, .inl (by simp only [evPure0, ha, ht, o1, ho]; exact h3)⟩
    · cases h
  · split at h
    · obtain ⟨x, a', rfl, h1, h2⟩ := hd.uncons
      obtain ⟨v, x', h3, h4, h5⟩ := xMax_out h h1 h2
      exact ⟨v, x', h3, h4, .inl (by simp only [evPure0]; exact oL_acc hl _ _ h5)⟩
    · cases h
  · split at h
    · obtain ⟨x, a', rfl, h1, h2⟩ := hd.uncons
      obtain ⟨v, x', h3, h4, h5⟩ := xMin_out h h1 h2
      exact ⟨v, x', h3, h4, .inl (by simp only [evPure0]; exact oL_acc hl _ _ h5)⟩
    · cases h
  · split at h
    · rename_i v
      obtain ⟨o, x, ha, ho, hv⟩ := one rfl
      have go : ∀ {r : Value}, (∀ T, Ex.Yields P (Builtin.unsafeSliceData_ ts T #[x]) r) → evPure P (.call ⟨.builtin .unsafeSliceData, args, ts⟩) e (· = r) := fun {r} hy =>
        .inr fun op' hop => ⟨r, rfl, fun τ hag w => by
          obtain ⟨dst, op', type, pos, after, guard⟩ := op'
          simp only at hop
          subst hop
          have ea : args = #[o] := by cases args; simpa using ha
          subst ea
          have := hag o (by simp [Op.operands, Call.operands]) _ ho
          simp only [execOp, resolve, List.map_toArray, List.map_cons, List.map_nil, this, pure_bind, invoke, builtin]
          rw [Sem.run_bind, hy type w]
          rfl⟩
      unfold xData at h
      split at h
      · cases hv
        exact ⟨_, _, .nilp, h, go fun T w => rfl⟩
      · obtain ⟨hc, h⟩ := bif_f h
        cases hv with
        | slice hρ =>
        refine ⟨_, _, .ptr hρ, h, go fun T w => ?_⟩
        rw [beq_dec, decide_eq_false_iff_not] at hc
        change Sem.run P (if _ ≠ 0 then _ else _) w = _
        rw [if_pos hc]
        rfl
      · rename_i b es l d
        have h2 := bif_f h
        clear h
        obtain ⟨hc, h⟩ := h2
        rw [fN_eq] at h
        cases hv with
        | sopen hρ hk =>
        rename_i blk base kap
        refine ⟨_, _, .ptr hρ, h, go fun T w => ?_⟩
        rw [beq_dec, decide_eq_false_iff_not] at hc
        have : kap - d ≠ 0 := by omega
        change Sem.run P (if _ ≠ 0 then _ else _) w = _
        rw [if_pos this]
        rfl
      · cases h
    · cases h
  · cases h
theorem xPure_out (he : E ρ M env e) (hg : Gl ρ) (hlo : lo ≤ M) (hhi : M ≤ hi) {op : Op} (h : xPure P lo hi op env K = true) : Pu P ρ M op e K := by
  rw [xPureB_eq] at h
  unfold xPureB at h
  split at h
  · rename_i x
    obtain ⟨v, y, hx, hd, hk⟩ := xo_out he hg h
    exact .mk hlo hhi hd hk (.inl (by simp only [evPure0, o1, hx]))
  · rename_i x
    obtain ⟨v, y, hx, hd, hk⟩ := xo_out he hg h
    exact .mk hlo hhi hd hk (.inl (by simp only [evPure0, o1, hx]))
  · obtain ⟨v, y, hx, hd, h⟩ := xo_out he hg h
    split at h
    · cases hd
      split at h
      · obtain ⟨v, y, hx2, hd, hk⟩ := xo_out he hg h
        exact .mk hlo hhi hd hk (.inl (by simp only [evPure0, o1, hx, brW, hx2]))
      · obtain ⟨v, y, hx2, hd, hk⟩ := xo_out he hg h
        exact .mk hlo hhi hd hk (.inl (by simp only [evPure0, o1, hx, brW, hx2]))
    · cases h
  · obtain ⟨v, y, hx, hd, h⟩ := xo_out he hg h
    split at h
    · cases hd with
      | ptr hρ => exact .mk hlo hhi (.ptr hρ) h (.inl (by simp only [evPure0, o1, hx, nilCheckK]; exact ⟨_, rfl, rfl⟩))
    · cases h
  · obtain ⟨v, y, hx, hd, h⟩ := xo_out he hg h
    obtain ⟨v2, y2, hx2, hd2, h⟩ := xo_out he hg h
    exact xBin_out hx hx2 hd hd2 hlo hhi h
  · obtain ⟨v, y, hx, hd, h⟩ := xo_out he hg h
    exact (xUn_out hx hd h).pu hlo hhi
  · obtain ⟨v, y, hx, hd, h⟩ := xo_out he hg h
    exact (xConv_out hx hd h).pu hlo hhi
  · obtain ⟨v, y, hx, hd, h⟩ := xo_out he hg h
    obtain ⟨ht, h⟩ := bif_t h
    refine .mk hlo hhi (.iface hd) h (.inl ?_)
    simp only [evPure0, o1, hx, ifaceK]
    unfold plainT at ht
    split at ht
    · cases ht
    · cases ht
    · rename_i d hn hu
      rw [hu]
      cases d <;> first | exact absurd rfl (hn _) | trivial
  · rename_i f first cap
    obtain ⟨l1, a1, h1, d1, h⟩ := xL_out he hg h
    obtain ⟨l2, a2, h2, d2, h⟩ := xL_out he hg h
    refine .mk hlo hhi (.fn d1.1 d2.1 d1.2 d2.2) h (evPure_lift (s := Instr.makeFunc (.func f) a1.toArray a2.toArray) (fun w => rfl) fun o ho τ ha => ?_)
    obtain ⟨dst, op', type, pos, after, guard⟩ := o
    simp only at ho
    subst ho
    have e1 := map_agrees h1 (τ := τ) (fun y hy => ha y (by simp [Op.operands]; exact .inl (by simpa using hy)))
    have e2 := map_agrees h2 (τ := τ) (fun y hy => ha y (by simp [Op.operands]; exact .inr (by simpa using hy)))
    simp only [execOp]
    rw [show first.map τ = a1.toArray by rw [← e1]; cases first; simp, show cap.map τ = a2.toArray by rw [← e2]; cases cap; simp]
  · rename_i t x l h' m
    obtain ⟨v, y, hx, hd, h⟩ := xo_out he hg h
    obtain ⟨vl, ul, q1, h, d1, n1⟩ := xoO_out he hg h
    obtain ⟨vh, uh, q2, h, d2, n2⟩ := xoO_out he hg h
    cases m with
    | none =>
      simp only at h
      split at h
      · split at h
        · exact (xSliceA_out hx hd h).pu hlo hhi
        · cases h
      · exact (xSlice_out hx hd q1 q2 d1 d2 n1 n2 h).pu hlo hhi
    | some m =>
      obtain ⟨vm, um, hm, dm, h⟩ := xo_out he hg h
      refine (xSlice3_out (um := some um) hx hd (fun τ ha => ?_) d2 (fun w hw => by cases hw; exact ⟨_, rfl, dm⟩) n1 h).pu hlo hhi
      have agree : ∀ {o : Option Operand} {u : Option Value}, (∀ Q : Option Value → Prop, Q u → oO e o Q) → (∀ y, o = some y → y ∈ (Op.slice t x l h' (some m)).operands.toList) → o.map τ = u := by
        intro o u hq hmem
        have := hq (· = u) rfl
        cases o with
        | none => simpa [oO] using this
        | some y =>
          simp only [oO, o1] at this
          split at this
          · rename_i z hz; rw [← this]; simp [ha y (hmem y rfl) _ hz]
          · exact this.elim
      refine ⟨agree q1 (fun y hy => by simp [Op.operands, hy]), agree q2 (fun y hy => by simp [Op.operands, hy]), ?_⟩
      simp [ha m (by simp [Op.operands]) _ hm]
  · obtain ⟨v, y, hx, hd, h⟩ := xo_out he hg h
    exact (xFieldA_out hx hd h).pu hlo hhi
  · obtain ⟨v, y, hx, hd, h⟩ := xo_out he hg h
    exact (xField_out hx hd h).pu hlo hhi
  · obtain ⟨v, y, hx, hd, h⟩ := xo_out he hg h
    obtain ⟨v2, y2, hx2, hd2, h⟩ := xo_out he hg h
    exact (xIndexA_out hx hx2 hd hd2 h).pu hlo hhi
  · obtain ⟨v, y, hx, hd, h⟩ := xo_out he hg h
    obtain ⟨v2, y2, hx2, hd2, h⟩ := xo_out he hg h
    exact (xIndex_out hx hx2 hd hd2 h).pu hlo hhi
  · obtain ⟨v, y, hx, hd, h⟩ := xo_out he hg h
    exact (xAssert_out hx hd h).pu hlo hhi
  · obtain ⟨v, y, hx, hd, h⟩ := xo_out he hg h
    split at h
    · cases hd with
      | tup hl hh =>
      obtain ⟨u, hu, hk⟩ := nthK_out h
      obtain ⟨z, hz, hdz⟩ := DnL.get ⟨hl, hh⟩ hu
      refine .mk hlo hhi hdz hk (.inl ?_)
      simp only [evPure0, o1, hx, extractK]
      rw [show ∀ (a : List Value) i, a.toArray[i]? = a[i]? by intros; simp, hz]
    · cases h
  · rename_i t parts
    obtain ⟨vs, ps, h1, h2, h3, h⟩ := xOpL_out he hg h
    obtain ⟨v, x, hd, hk, hb⟩ := xBuild_out h2 h3 h
    exact .mk hlo hhi hd hk (.inl (by simp only [evPure0]; exact opL_acc h1 _ _ (by simpa using hb)))
  · obtain ⟨vs, xs, h1, h2, h⟩ := xL_out he hg h
    exact (xBuiltin_out h1 h2 h).pu hlo hhi
  · cases h
end Go.X
/-! The interpreter: operations that read memory. -/
namespace Go.X
open Go.Ex
variable {P : Program} {ρ : Rho} {M : Nat} {U : Un} {h : Hp} {H : Heap} {env : Tr V} {e : Env} {K : V → Bool}

theorem evRead_mono {op : Op} {x : Value} {K : Value → Prop} (h : evRead P op e H (· = x)) (hk : K x) : evRead P op e H K := .inr fun o ho => by
  subst ho
  obtain ⟨v, rfl, hr⟩ := evRead_out h
  exact ⟨_, hk, hr⟩
theorem evRead_lift {op : Op} {x : Value} {s : Sem Value} (hs : ∀ w : World, w.heap = H → s.run P w = .ok x w) (h : ∀ o : Oper, o.op = op → ∀ τ, Agrees e τ op.operands.toList → execOp τ o = do pure (.value (← s))) :
    evRead P op e H (· = x) := .inr fun o ho => ⟨x, rfl, fun τ ha w hw => by rw [h o ho τ ha, Sem.run_bind, hs w hw]; rfl⟩
def Rd1 (P : Program) (ρ : Rho) (M : Nat) (H : Heap) (op : Op) (e : Env) (K : V → Bool) : Prop := ∃ v x, Dn ρ M v x ∧ K v = true ∧ evRead P op e H (· = x)

/-- The cells of a row that lie there. -/
theorem R.reads (r : R ρ M U h H) {b : Ps} {c : List V} {el es : Nat} {op ro : Bool} (hb : look b h.t = some (.cells c el es op ro)) {blk base kap : Nat} (hρ : ρ b = some (blk, base, kap)) :
    ∃ us : List Value, DnL ρ M c us ∧ ∀ (j : Nat) u, us[j]? = some u → hcell H ⟨blk, base + j, none⟩ = some u := by
  obtain ⟨blk2, base2, kap2, x2, q1, q2, _, arr, frz, rfl, q4, q5, q6, _⟩ := r.ob b _ hb trivial
  rw [hρ] at q1
  cases q1
  refine ⟨(arr.toList.drop base).take c.length, ⟨?_, fun i v x hv hx => ?_⟩, fun j u hu => ?_⟩
  · simp only [List.length_take, List.length_drop, Array.length_toList]; omega
  · obtain ⟨y, hy, hd⟩ := q4 i v hv
    rw [List.getElem?_take] at hx
    split at hx
    · rw [List.getElem?_drop, Array.getElem?_toList, hy] at hx; cases hx; exact hd
    · cases hx
  · rw [List.getElem?_take] at hu
    split at hu
    · rw [List.getElem?_drop, Array.getElem?_toList] at hu
      unfold hcell
      simp only
      rw [q2]
      simpa using hu
    · cases hu
theorem R.rhoOf (r : R ρ M U h H) {b : Ps} {o : Ob} (hb : look b h.t = some o) (ho : live o) : ∃ blk base kap, ρ b = some (blk, base, kap) := let ⟨a, b, c, _, q, _⟩ := r.ob b o hb ho; ⟨a, b, c, q⟩
theorem off_add {blk a n : Nat} : Addr.add ⟨blk, a, none⟩ n = ⟨blk, a + n, none⟩ := by
  unfold Addr.add
  split
  · rename_i h; subst h; rfl
  · rfl

/-! ### Loads -/
noncomputable def xLoad (P : Program) (h : Hp) (t : TypeId) (b : Ps) (o : Nat) (K : V → Bool) : Bool :=
  bif (P.underlying t).isSome then (match isAggT P t with
    | false => getK b h.t fun ob => (match ob with | .cells c _ _ _ _ => nthK c o K | _ => false)
    | true => bif (P.info? t).isSome then getK b h.t fun ob => (match ob with | .cells c _ _ _ _ => dropK c o fun r => takeK r (sizeT P t) fun cs => K (.agg cs) | _ => false) else false) else false
theorem run_loadVar_one {t : TypeId} {d : TypeDesc} (hu : P.underlying t = some d) (hag : isAggT P t = false) {a : Addr} {x : Value} {w : World} (hc : w.cell? a = some x) : (loadVar t a).run P w = .ok x w := by
  unfold loadVar
  rw [Sem.run_bind, r_agg hu, hag]
  simp [hc]
theorem run_loadVar_agg {t : TypeId} {d : TypeDesc} (hu : P.underlying t = some d) (hag : isAggT P t = true) {i : TypeInfo} (hi : P.info? t = some i) {a : Addr} {vs : List Value} {w : World} (hl : vs.length = i.size)
    (hc : ∀ (j : Nat) u, vs[j]? = some u → w.cell? (a.add j) = some u) : (loadVar t a).run P w = .ok (.agg vs.toArray) w := by
  have hrun := run_loadCells_list (P := P) w a vs hc
  unfold loadVar
  rw [Sem.run_bind, r_agg hu, hag]
  simp only [Result.andThen, if_true]
  rw [Sem.run_bind, r_size hi]
  simp only [Result.andThen]
  rw [Sem.run_bind, ← hl, hrun]
  simp
/-- What a load comes to, at a place. -/
theorem xLoad_run (r : R ρ M U h H) {t : TypeId} {b : Ps} {o : Nat} (hx : xLoad P h t b o K = true) {blk base kap : Nat} (hρ : ρ b = some (blk, base, kap)) :
    ∃ v x, Dn ρ M v x ∧ K v = true ∧ ∀ w : World, w.heap = H → (loadVar t ⟨blk, base + o, none⟩).run P w = .ok x w := by
  unfold xLoad at hx
  obtain ⟨hu, hx⟩ := bif_t hx
  obtain ⟨d, hu⟩ := Option.isSome_iff_exists.1 hu
  split at hx
  · rename_i hag
    obtain ⟨ob, hb, hx⟩ := getK_out hx
    split at hx
    · obtain ⟨v, hv, hk⟩ := nthK_out hx
      obtain ⟨us, hd, hc⟩ := r.reads hb hρ
      obtain ⟨x, hx, hdx⟩ := hd.get hv
      exact ⟨v, x, hdx, hk, fun w hw => run_loadVar_one hu hag (cell_of hw (hc _ _ hx))⟩
    · cases hx
  · rename_i hag
    obtain ⟨hi, hx⟩ := bif_t hx
    obtain ⟨i, hi⟩ := Option.isSome_iff_exists.1 hi
    obtain ⟨ob, hb, hx⟩ := getK_out hx
    split at hx
    · obtain ⟨h1, hx⟩ := dropK_out hx
      obtain ⟨h2, hk⟩ := takeK_out hx
      obtain ⟨us, hd, hc⟩ := r.reads hb hρ
      have hd2 := (hd.drop o).take (sizeT P t)
      refine ⟨_, _, hd2.agg, hk, fun w hw => run_loadVar_agg hu hag hi ?_ fun j u hu => ?_⟩
      · rw [← hd2.1, List.length_take]
        have : sizeT P t = i.size := by simp [sizeT, hi]
        omega
      · rw [List.getElem?_take] at hu
        split at hu
        · rw [List.getElem?_drop] at hu
          rw [off_add, Nat.add_assoc]
          exact cell_of hw (hc _ _ hu)
        · cases hu
    · cases hx

/-! ### Bytes to a text -/
noncomputable def numK (l : List V) (k : Nat → Bool) : Bool :=
  List.rec (motive := fun _ => (Nat → Bool) → Bool) (fun k => k 0) (fun v _ ih k => match v with | .int .u8 (.ofNat n) => bif Nat.blt n 256 then ih fun N => fN (n + 256 * N) k else false | _ => false) l k
theorem numK_out : ∀ {l : List V} {k : Nat → Bool}, numK l k = true → ∀ {us : List Value}, DnL ρ M l us → ∃ N, k N = true ∧ us = bytesCells (strOf l.length N) := by
  intro l
  induction l with
  | nil => intro k h us hd; exact ⟨0, h, by rw [hd.unnil]; rfl⟩
  | cons v l ih =>
    intro k h us hd
    obtain ⟨x, xs, rfl, hv, hr⟩ := hd.uncons
    replace h : (match (generalizing := false) v with | .int .u8 (.ofNat n) => bif Nat.blt n 256 then numK l fun N => fN (n + 256 * N) k else false | _ => false) = true := h
    split at h
    · rename_i n
      have h2 := bif_t h
      clear h
      obtain ⟨hn, h⟩ := h2
      rw [Nat.blt_eq] at hn
      obtain ⟨N, hk, he⟩ := ih h hr
      rw [fN_eq] at hk
      refine ⟨_, hk, ?_⟩
      cases hv
      rw [he]
      unfold bytesCells strOf
      simp only [List.length_cons, bl, List.map_cons]
      rw [show (n + 256 * N) % 256 = n by omega, show (n + 256 * N) / 256 = N by omega]
      congr 2
      simp [Nat.mod_eq_of_lt hn]
    · cases h
noncomputable def cellsK (h : Hp) (b : Ps) (o n : Nat) (k : List V → Bool) : Bool :=
  getK b h.t fun ob => (match ob with | .cells c _ _ _ _ => dropK c o fun r => takeK r n k | _ => false)
theorem cellsK_out (r : R ρ M U h H) {b : Ps} {o n : Nat} {k : List V → Bool} (hx : cellsK h b o n k = true) {blk base kap : Nat} (hρ : ρ b = some (blk, base, kap)) :
    ∃ cs us, k cs = true ∧ cs.length = n ∧ DnL ρ M cs us ∧ ∀ (j : Nat) u, us[j]? = some u → hcell H ⟨blk, base + o + j, none⟩ = some u := by
  unfold cellsK at hx
  obtain ⟨ob, hb, hx⟩ := getK_out hx
  split at hx
  · obtain ⟨h1, hx⟩ := dropK_out hx
    obtain ⟨h2, hk⟩ := takeK_out hx
    obtain ⟨us, hd, hc⟩ := r.reads hb hρ
    refine ⟨_, _, hk, by rw [List.length_take]; omega, (hd.drop o).take n, fun j u hu => ?_⟩
    rw [List.getElem?_take] at hu
    split at hu
    · rw [List.getElem?_drop] at hu
      rw [Nat.add_assoc]
      exact hc _ _ hu
    · cases hu
  · cases hx
noncomputable def xStr (h : Hp) (v : V) (K : V → Bool) : Bool :=
  match v with
  | .nils => K (.str 0 0)
  | .slice b o l _ => cellsK h b o l fun cs => numK cs fun N => K (.str l N)
  | .sopen b es l d => cellsK h b (d * es) l fun cs => numK cs fun N => K (.str l N)
  | _ => false
theorem xStr_out (r : R ρ M U h H) {v : V} {x : Value} (hd : Dn ρ M v x) (hx : xStr h v K = true) : ∃ p l c t u, x = .slice p l c ∧ BytesAt H p l t ∧ Dn ρ M u (.string t) ∧ K u = true := by
  have go : ∀ {b o l blk base kap}, ρ b = some (blk, base, kap) → (cellsK h b o l fun cs => numK cs fun N => K (.str l N)) = true → ∃ N, BytesAt H (some ⟨blk, base + o, none⟩) l (strOf l N) ∧ K (.str l N) = true := by
    intro b o l blk base kap hρ hx
    obtain ⟨cs, us, hx, hl, hd, hc⟩ := cellsK_out r hx hρ
    obtain ⟨N, hk, he⟩ := numK_out hx hd
    refine ⟨N, ⟨strOf_size _ _, fun j u hu => ?_⟩, hk⟩
    rw [hl] at he
    rw [← he] at hu
    rw [off_add]
    exact hc j u hu
  unfold xStr at hx
  split at hx
  · cases hd; exact ⟨none, 0, 0, _, _, rfl, rfl, .str 0 0, hx⟩
  · cases hd with
    | slice hρ => obtain ⟨N, hb, hk⟩ := go hρ hx; exact ⟨_, _, _, _, _, rfl, hb, .str _ _, hk⟩
  · cases hd with
    | sopen hρ _ => obtain ⟨N, hb, hk⟩ := go hρ hx; exact ⟨_, _, _, _, _, rfl, hb, .str _ _, hk⟩
  · cases hx

/-! ### Maps -/
def kindT (P : Program) (t : TypeId) : Nat := match P.underlying t with | some .string => 1 | some (.struct _) => 2 | _ => 0
/-- Are two keys alike? -/
noncomputable def keyEq (P : Program) (t : TypeId) (a b : V) : Option Bool :=
  match P.underlying t, a, b with
  | some .string, .str n N, .str m M => some (Nat.beq n m && Nat.beq (N % 256 ^ n) (M % 256 ^ n))
  | some (.struct fs), .agg xs, .agg ys => bif P.stoodInHeld t then none else vFlds P xs ys fs.toList
  | some (.array n el), .agg xs, .agg ys => bif Nat.beq (P.cellsOf el) 1 && (P.info? el).isSome then vArr P el xs ys n 0 else none
  | _, _, _ => none
def findS (q : Option Bool) (hit next : Bool) : Bool := match q with | some true => hit | some false => next | none => false
noncomputable def findX (P : Program) (t : TypeId) (k : V) (l : List (V × V)) (hit : Nat → V → Bool) (miss : Bool) : Bool :=
  List.rec (motive := fun _ => Nat → Bool) (fun _ => miss) (fun p _ ih i => findS (keyEq P t k p.1) (hit i p.2) (ih (Nat.succ i))) l 0
/-- The fields of a key: numbers and texts alone. -/
def plainF (P : Program) (f : Field) : Bool := match P.underlying f.type with | some (.int _) | some .string | some .bool => (P.info? f.type).isSome | _ => false
theorem keyEq_run {t : TypeId} {a b : V} {x y : Value} {z : Bool} (h : keyEq P t a b = some z) (ha : Dn ρ M a x) (hb : Dn ρ M b y) (w : World) : (Op.equal t x y).run P w = .ok z w := by
  unfold keyEq at h
  split at h
  · rename_i hu
    cases ha; cases hb
    rw [str_beq] at h
    have hc : ∀ x y, eqCell P t (.string x) (.string y) = some (decide (x = y)) := fun x y => by unfold eqCell; rw [hu]
    rw [← Option.some.inj h]
    exact (eqCell_out (hc _ _)).2 9999 w
  · rename_i fs xs ys hu
    cases ha with
    | agg hl1 h1 =>
    cases hb with
    | agg hl2 h2 =>
    rename_i us ws
    cases hs : P.stoodInHeld t with
    | true => rw [hs] at h; cases h
    | false =>
      rw [hs] at h
      have := vFlds_out (P := P) (ρ := ρ) (M := M) ⟨hl1, h1⟩ ⟨hl2, h2⟩ fs.toList z h
      have hfs : P.fieldsOf t = fs := by simp [Program.fieldsOf, hu]
      unfold Op.equal
      rw [show Op.maxDepth = 9998 + 1 + 1 from rfl, run_equalIn_struct w _ t us.toArray ws.toArray (by rw [hfs]; exact hu) hs, hfs]
      exact eqFlds_out (xs := us.toArray) (ys := ws.toArray) _ w _ z this
  · rename_i n el xs ys hu
    cases ha with
    | agg hl1 h1 =>
    cases hb with
    | agg hl2 h2 =>
    rename_i us ws
    cases hs : Nat.beq (P.cellsOf el) 1 && (P.info? el).isSome with
    | false => rw [hs] at h; cases h
    | true =>
      rw [hs] at h
      obtain ⟨c1, c2⟩ := Bool.and_eq_true_iff.1 hs
      have c1 := Nat.eq_of_beq_eq_true c1
      obtain ⟨i, hi⟩ := Option.isSome_iff_exists.1 c2
      have := vArr_out (P := P) (ρ := ρ) (M := M) ⟨hl1, h1⟩ ⟨hl2, h2⟩ n 0 z h
      unfold Op.equal
      rw [show Op.maxDepth = 9998 + 1 + 1 from rfl, run_equalIn_array w _ us.toArray ws.toArray hu hi, List.range_eq_range']
      exact eqArr_out (xs := us.toArray) (ys := ws.toArray) c1 _ w n 0 z this
  · cases h
def plainEl (P : Program) (t : TypeId) : Bool := match P.underlying t with | some (.int _) | some .string | some .bool => (P.info? t).isSome | _ => false
noncomputable def keyOk (P : Program) (t : TypeId) (k : V) : Bool :=
  match P.underlying t, k with
  | some .string, .str _ _ => true
  | some (.struct fs), .agg xs => fs.toList.all fun f => plainF P f && (match xs[f.offset]? with | some _ => true | none => false)
  | some (.array n el), .agg xs => plainEl P el && Nat.beq (P.cellsOf el) 1 && Nat.ble n xs.length
  | _, _ => false
theorem checkKey_plain {t : TypeId} {d : TypeDesc} (hu : P.underlying t = some d) (hd : d = .string ∨ d = .bool ∨ ∃ k, d = .int k) (x : Value) (em : Bool) (n : Nat) (w : World) : (Instr.checkKey em (n + 1) t x).run P w = .ok () w := by
  unfold Instr.checkKey
  rw [Sem.run_bind, r_und hu]
  simp only [Result.andThen]
  rcases hd with rfl | rfl | ⟨k, rfl⟩ <;> rfl
theorem keyOk_run {t : TypeId} {k : V} {x : Value} (h : keyOk P t k = true) (hd : Dn ρ M k x) (em : Bool) (w : World) : (Instr.checkKey em 10000 t x).run P w = .ok () w := by
  unfold keyOk at h
  split at h
  · rename_i hu; exact checkKey_plain hu (.inl rfl) x em 9999 w
  · rename_i fs xs hu
    cases hd with
    | agg hl hh =>
    rename_i us
    rw [show (10000 : Nat) = 9998 + 1 + 1 from rfl, Instr.checkKey]
    rw [Sem.run_bind, r_und hu]
    simp only [Result.andThen]
    rw [← Array.forIn_toList, Sem.run_bind]
    revert h
    generalize fs.toList = l
    intro h
    suffices hs : (forIn l PUnit.unit fun f (_ : PUnit) => (do
        if f.name ≠ "_" then Instr.checkKey em (9998 + 1) f.type (← part f.type us.toArray f.offset)
        pure (ForInStep.yield PUnit.unit) : Sem (ForInStep PUnit))).run P w = .ok PUnit.unit w by rw [hs]; rfl
    induction l with
    | nil => rfl
    | cons f l ih =>
      simp only [List.all_cons, Bool.and_eq_true] at h
      obtain ⟨⟨hp, hx⟩, hr⟩ := h
      have ihr := ih hr
      rw [List.forIn_cons, Sem.run_bind]
      by_cases hn : f.name = "_"
      · rw [if_neg (by simp [hn])]
        exact ihr
      · rw [if_pos hn]
        unfold plainF at hp
        have hpl : ∃ d, P.underlying f.type = some d ∧ (d = .string ∨ d = .bool ∨ ∃ k, d = .int k) ∧ isAggT P f.type = false := by
          split at hp
          · rename_i k hk; exact ⟨_, hk, .inr (.inr ⟨_, rfl⟩), by simp [isAggT, hk]⟩
          · rename_i hk; exact ⟨_, hk, .inl rfl, by simp [isAggT, hk]⟩
          · rename_i hk; exact ⟨_, hk, .inr (.inl rfl), by simp [isAggT, hk]⟩
          · cases hp
        obtain ⟨d, hud, hd, hag⟩ := hpl
        split at hx
        · rename_i v hv
          obtain ⟨y, hy, _⟩ := DnL.get (ρ := ρ) (M := M) ⟨hl, hh⟩ hv
          have hpart : (part f.type us.toArray f.offset).run P w = .ok y w := by
            unfold part
            rw [Sem.run_bind, r_agg hud, hag]
            simp only [Result.andThen, Bool.false_eq_true, if_false]
            rw [show us.toArray[f.offset]? = some y by simpa using hy]
            rfl
          rw [Sem.run_bind, hpart]
          simp only [Result.andThen]
          rw [Sem.run_bind, checkKey_plain hud hd y em 9998 w]
          exact ihr
        · cases hx
  · rename_i n el xs hu
    cases hd with
    | agg hl hh =>
    rename_i us
    simp only [Bool.and_eq_true] at h
    obtain ⟨⟨hp, hc⟩, hn⟩ := h
    have hc := Nat.eq_of_beq_eq_true hc
    have hn := Nat.le_of_ble_eq_true hn
    unfold plainEl at hp
    have hpl : ∃ d, P.underlying el = some d ∧ (d = .string ∨ d = .bool ∨ ∃ k, d = .int k) ∧ isAggT P el = false ∧ (P.info? el).isSome = true := by
      split at hp
      · rename_i k hk; exact ⟨_, hk, .inr (.inr ⟨_, rfl⟩), by simp [isAggT, hk], hp⟩
      · rename_i hk; exact ⟨_, hk, .inl rfl, by simp [isAggT, hk], hp⟩
      · rename_i hk; exact ⟨_, hk, .inr (.inl rfl), by simp [isAggT, hk], hp⟩
      · cases hp
    obtain ⟨d, hud, hd, hag, hi⟩ := hpl
    obtain ⟨i, hi⟩ := Option.isSome_iff_exists.1 hi
    have hsz : (sizeOf el).run P w = .ok 1 w := by
      have : i.size = 1 := by rw [← hc]; simp [Program.cellsOf, hi]
      rw [← this]
      exact r_size hi w
    rw [show (10000 : Nat) = 9998 + 1 + 1 from rfl, Instr.checkKey]
    rw [Sem.run_bind, r_und hu]
    simp only [Result.andThen]
    have hr : ∀ (l : List Nat), (∀ j ∈ l, j < n) → (forIn l PUnit.unit fun j (_ : PUnit) => (do
        Instr.checkKey em (9998 + 1) el (← part el us.toArray (j * (← sizeOf el)))
        pure (ForInStep.yield PUnit.unit) : Sem (ForInStep PUnit))).run P w = .ok PUnit.unit w := by
      intro l
      induction l with
      | nil => intro _; rfl
      | cons j l ih =>
        intro hj
        rw [List.forIn_cons, Sem.run_bind]
        obtain ⟨y, hy⟩ : ∃ y, us[j]? = some y := ⟨us[j]'(by have := hj j (by simp); omega), List.getElem?_eq_getElem _⟩
        have hpart : (part el us.toArray (j * 1)).run P w = .ok y w := by
          unfold part
          rw [Sem.run_bind, r_agg hud, hag]
          simp only [Result.andThen, Bool.false_eq_true, if_false]
          rw [show us.toArray[j * 1]? = some y by simpa using hy]
          rfl
        rw [Sem.run_bind, hsz]
        simp only [Result.andThen]
        rw [Sem.run_bind, hpart]
        simp only [Result.andThen]
        rw [Sem.run_bind, checkKey_plain hud hd y em 9998 w]
        exact ih fun q hq => hj q (by simp [hq])
    rw [Std.Legacy.Range.forIn_eq_forIn_range']
    rw [Sem.run_bind, hr _ (fun j hj => by
      simp [List.mem_range'] at hj
      omega)]
    rfl
  · cases h
/-- The entries of a map. -/
def MapIs (ρ : Rho) (M : Nat) (l : List (V × V)) (es : List MapEntry) : Prop := l.length = es.length ∧ ∀ (i : Nat) p e, l[i]? = some p → es[i]? = some e → Dn ρ M p.1 e.key ∧ Dn ρ M p.2 e.val
theorem findX_aux {t : TypeId} {k : V} {x : Value} (hk : Dn ρ M k x) {hit : Nat → V → Bool} {miss : Bool} : ∀ (l : List (V × V)) (es : List MapEntry) (i : Nat), MapIs ρ M l es →
    List.rec (motive := fun _ => Nat → Bool) (fun _ => miss) (fun p _ ih i => findS (keyEq P t k p.1) (hit i p.2) (ih (Nat.succ i))) l i = true →
    (miss = true ∧ ∀ w, (Instr.findAsking t x es i).run P w = .ok none w) ∨ ∃ j v y, hit j v = true ∧ Dn ρ M v y ∧ ∀ w, (Instr.findAsking t x es i).run P w = .ok (some (j, y)) w
  | [], es, i, hm, h => by
    have : es = [] := by have := hm.1; cases es with | nil => rfl | cons => simp at this
    subst this
    exact .inl ⟨h, fun w => rfl⟩
  | p :: l, es, i, hm, h => by
    cases es with
    | nil => have := hm.1; simp at this
    | cons en es =>
      obtain ⟨d1, d2⟩ := hm.2 0 p en rfl rfl
      have hm' : MapIs ρ M l es := ⟨by have := hm.1; simpa using this, fun i p e h1 h2 => hm.2 (i + 1) p e (by simpa using h1) (by simpa using h2)⟩
      simp only at h
      cases hq : keyEq P t k p.1 with
      | none => rw [hq] at h; exact absurd h (by simp [findS])
      | some z =>
        rw [hq] at h
        have hrun := fun w => keyEq_run hq hk d1 w
        cases z with
        | true =>
          refine .inr ⟨i, p.2, en.val, h, d2, fun w => ?_⟩
          unfold Instr.findAsking
          rw [Sem.run_bind, hrun w]
          rfl
        | false =>
          have step : ∀ w, (Instr.findAsking t x (en :: es) i).run P w = (Instr.findAsking t x es (i + 1)).run P w := fun w => by
            rw [Instr.findAsking, Sem.run_bind, hrun w]
            rfl
          rcases findX_aux hk l es (i + 1) hm' h with ⟨a, b⟩ | ⟨j, v, y, a, b, c⟩
          · exact .inl ⟨a, fun w => by rw [step w, b w]⟩
          · exact .inr ⟨j, v, y, a, b, fun w => by rw [step w, c w]⟩
/-- What is found of a key: asked one by one, or at once. -/
theorem findKey_ask {t : TypeId} {k : V} {x : Value} (ho : keyOk P t k = true) (hk : Dn ρ M k x) {l : List (V × V)} {es : List MapEntry} (hm : MapIs ρ M l es) (hall : ∀ p ∈ l, keyOk P t p.1 = true) (w : World) :
    (Instr.findKey t x es).run P w = (Instr.findAsking t x es).run P w := by
  unfold keyOk at ho
  split at ho
  · rename_i n N hu
    cases hk
    have aux : ∀ (l : List (V × V)) (es : List MapEntry) (i : Nat), MapIs ρ M l es → (∀ p ∈ l, keyOk P t p.1 = true) → ∃ r, Instr.findNow .string (.string (strOf n N)) es i = some r ∧ (Instr.findAsking t (.string (strOf n N)) es i).run P w = .ok r w := by
      intro l
      induction l with
      | nil =>
        intro es i hm _
        have : es = [] := by have := hm.1; cases es with | nil => rfl | cons => simp at this
        subst this
        exact ⟨none, rfl, rfl⟩
      | cons p l ih =>
        intro es i hm ha
        cases es with
        | nil => have := hm.1; simp at this
        | cons en es =>
          obtain ⟨d1, d2⟩ := hm.2 0 p en rfl rfl
          have hm' : MapIs ρ M l es := ⟨by have := hm.1; simpa using this, fun i p e h1 h2 => hm.2 (i + 1) p e (by simpa using h1) (by simpa using h2)⟩
          have hp := ha p (by simp)
          unfold keyOk at hp
          rw [hu] at hp
          obtain ⟨key, val, born⟩ := en
          simp only at d1 d2
          cases hpk : p.1 <;> rw [hpk] at hp d1 <;> simp only [Bool.false_eq_true] at hp
          rename_i m m2
          cases d1
          obtain ⟨r, h1, h2⟩ := ih es (i + 1) hm' (fun q hq => ha q (by simp [hq]))
          have hq : keyEq P t (.str n N) (.str m m2) = some (Nat.beq n m && Nat.beq (N % 256 ^ n) (m2 % 256 ^ n)) := by unfold keyEq; rw [hu]
          have hrun := keyEq_run (ρ := ρ) (M := M) hq (.str _ _) (.str _ _) w
          have hs : Instr.sameNow .string (.string (strOf n N)) (.string (strOf m m2)) = some (Nat.beq n m && Nat.beq (N % 256 ^ n) (m2 % 256 ^ n)) := by
            rw [str_beq]
            show some (strOf n N == strOf m m2) = _
            congr 1
            rw [Bool.eq_iff_iff, Go.MapKept.bytes_beq]; simp
          cases hz : (Nat.beq n m && Nat.beq (N % 256 ^ n) (m2 % 256 ^ n)) with
          | true =>
            rw [hz] at hs hrun
            refine ⟨some (i, val), by simp [Instr.findNow, hs], ?_⟩
            unfold Instr.findAsking
            rw [Sem.run_bind, hrun]
            rfl
          | false =>
            rw [hz] at hs hrun
            refine ⟨r, by simp [Instr.findNow, hs, h1], ?_⟩
            rw [Instr.findAsking, Sem.run_bind, hrun]
            exact h2
    obtain ⟨r, h1, h2⟩ := aux l es 0 hm hall
    rw [h2]
    exact Go.MapKept.run_findKey hu h1
  · rename_i fs xs hu
    exact run_findKey_eq w (by rw [hu]) x es
  · rename_i n el xs hu
    exact run_findKey_eq w (by rw [hu]) x es
  · cases ho
end Go.X
/-! The interpreter: operations that read memory, in one. -/
namespace Go.X
open Go.Ex
variable {P : Program} {ρ : Rho} {M : Nat} {U : Un} {h : Hp} {H : Heap} {env : Tr V} {e : Env} {K : V → Bool}

def okK (ok : Bool) (v : V) (b : Bool) (K : V → Bool) : Bool := match ok with | true => K (.tup [v, .bool b]) | false => K v
noncomputable def xLookup (P : Program) (h : Hp) (mt : TypeId) (v k : V) (ok : Bool) (K : V → Bool) : Bool :=
  match P.underlying mt with
  | some (.map kt et) => bif keyOk P kt k then (match v with
      | .nilm => xZero P et fun z => okK ok z false K
      | .map m => getK m h.t fun ob => (match ob with
        | .map l => bif l.all (fun p => keyOk P kt p.1) then findX P kt k l (fun _ u => okK ok u true K)
            (xZero P et fun z => okK ok z false K) else false
        | _ => false)
      | _ => false) else false
  | _ => false
theorem xLookup_out (r : R ρ M U h H) {mt : TypeId} {om ok' : Operand} {v k : V} {x y : Value} {ok : Bool} (hx : opv e om = some x) (hy : opv e ok' = some y) (dv : Dn ρ M v x) (dk : Dn ρ M k y) (hh : xLookup P h mt v k ok K = true) :
    Rd1 P ρ M H (.lookup mt om ok' ok) e K := by
  have go : ∀ {r : Value}, (∀ w : World, w.heap = H → (Instr.lookup mt x y ok).run P w = .ok r w) → evRead P (.lookup mt om ok' ok) e H (· = r) := fun {r} hr => evRead_lift hr fun o ho τ ha => by
    obtain ⟨dst, op', type, pos, after, guard⟩ := o
    simp only at ho
    subst ho
    simp only [execOp, ha om (by simp [Op.operands]) _ hx, ha ok' (by simp [Op.operands]) _ hy]
  unfold xLookup at hh
  split at hh
  · rename_i kt et hu
    have h2 := bif_t hh
    clear hh
    obtain ⟨hko, hh⟩ := h2
    let tail : Array MapEntry → Sem Value := fun es => do
      Instr.checkKey es.isEmpty 10000 kt y
      match ← Instr.findKey kt y es.toList with
      | some (_, v) => do
        let __x ← pure (v, true)
        pure (if ok then .tuple #[__x.1, .bool __x.2] else __x.1)
      | none => do
        let z ← zeroValue et
        let __x ← pure (z, false)
        pure (if ok then .tuple #[__x.1, .bool __x.2] else __x.1)
    have miss : ∀ {es : Array MapEntry}, (∀ w, (Instr.findKey kt y es.toList).run P w = .ok none w) → (∀ w : World, w.heap = H → (Instr.lookup mt x y ok).run P w = (tail es).run P w) → (xZero P et fun z => okK ok z false K) = true → Rd1 P ρ M H (.lookup mt om ok' ok) e K := by
      intro es hf hes hz
      obtain ⟨z, yz, hd, hk, hq⟩ := xZero_out (ρ := ρ) (M := M) hz
      obtain ⟨_, _, _, _, hzq, hzr⟩ := zeroT_out (hq (· = yz) rfl)
      rw [hzq] at hzr
      have run : ∀ w : World, w.heap = H → (Instr.lookup mt x y ok).run P w = .ok (if ok then .tuple #[yz, .bool false] else yz) w := fun w hw => by
        rw [hes w hw]
        simp only [tail]
        rw [Sem.run_bind, keyOk_run hko dk]
        simp only [Result.andThen]
        rw [Sem.run_bind, hf w]
        simp only [Result.andThen]
        rw [Sem.run_bind, hzr w]
        rfl
      cases ok with
      | true => exact ⟨_, _, dn_pair hd false, hk, go run⟩
      | false => exact ⟨_, _, hd, hk, go run⟩
    split at hh
    · cases dv
      refine miss (es := #[]) (fun w => ?_) (fun w _ => by unfold Instr.lookup; rw [Sem.run_bind, r_und hu]; rfl) hh
      rw [findKey_ask (l := []) (es := []) hko dk ⟨rfl, fun _ _ _ h => by simp at h⟩ (fun p hp => by simp at hp) w]
      rfl
    · rename_i m
      obtain ⟨ob, hb, hh⟩ := getK_out hh
      split at hh
      · rename_i l
        obtain ⟨hall, hh⟩ := bif_t hh
        have hall' : ∀ p ∈ l, keyOk P kt p.1 = true := by simpa using hall
        cases dv with
        | map hρ =>
        rename_i blk base kap
        obtain ⟨blk2, base2, kap2, x2, q1, q2, _, es, clock, rfl, q4, q5⟩ := r.ob m _ hb trivial
        rw [hρ] at q1
        cases q1
        have hm : MapIs ρ M l es.toList := ⟨q4, q5⟩
        have hes : ∀ w : World, w.heap = H → (Instr.lookup mt (.map (some blk)) y ok).run P w = (tail es).run P w := fun w hw => by
          unfold Instr.lookup
          rw [Sem.run_bind, r_und hu]
          simp only [Result.andThen]
          rw [Sem.run_bind, Go.MapKept.run_getObj_map (es := es) (clock := clock) (by rw [hw]; exact q2)]
          rfl
        have hfind := fun w => findKey_ask hko dk hm hall' (P := P) w
        rcases findX_aux (P := P) (hit := fun _ u => okK ok u true K) (miss := xZero P et fun z => okK ok z false K) dk l es.toList 0 hm hh with ⟨hz, hn⟩ | ⟨j, u, yu, hk, hdu, hr⟩
        · exact miss (es := es) (fun w => by rw [hfind w, hn w]) hes hz
        · have run : ∀ w : World, w.heap = H → (Instr.lookup mt (.map (some blk)) y ok).run P w = .ok (if ok then .tuple #[yu, .bool true] else yu) w := fun w hw => by
            rw [hes w hw]
            simp only [tail]
            rw [Sem.run_bind, keyOk_run hko dk]
            simp only [Result.andThen]
            rw [Sem.run_bind, hfind w, hr w]
            rfl
          cases ok with
          | true => exact ⟨_, _, dn_pair hdu true, hk, go run⟩
          | false => exact ⟨_, _, hdu, hk, go run⟩
      · cases hh
    · cases hh
  · cases hh

/-! ### Pointers that are pointers of another kind -/
noncomputable def xPtr (P : Program) (h : Hp) (s d : TypeId) (v : V) (K : V → Bool) : Bool :=
  match P.underlying s, P.underlying d, v with
  | some (.pointer t), some .unsafePointer, .ptr b o => (match P.info? t with
    | some i => bif Nat.beq i.size 0 then false else getK b h.t fun ob => (match ob with | .cells c _ _ false _ => nthK c o fun _ => K (.ptr b o) | _ => false)
    | none => false)
  | some .unsafePointer, some (.pointer u), .ptr b o => bif (P.info? u).isSome then getK b h.t fun ob => (match ob with
      | .cells c el _ false _ => bif liesAt P P.depth el (c.length / P.cellsOf el) o u 1 then K (.ptr b o) else false
      | _ => false) else false
  | _, _, _ => false
theorem view_none {w : World} {blk : Nat} {arr : Array Value} {el : TypeId} {frz : Nat × Nat} (hb : w.heap[blk]? = some (.cells arr el frz)) : (viewAt blk).run P w = .ok none w := by
  unfold viewAt
  rw [Sem.run_bind, run_shape]
  simp only [Result.andThen, World.shape?, hb, Option.isSome_some, if_true]
  rfl
theorem seen_same {w : World} {blk off : Nat} {arr : Array Value} {el : TypeId} {frz : Nat × Nat} (hb : w.heap[blk]? = some (.cells arr el frz)) : (Conv.seenAt ⟨blk, off, none⟩).run P w = .ok ⟨blk, off, none⟩ w := by
  unfold Conv.seenAt
  rw [Sem.run_bind, view_none hb]
  rfl
theorem xPtr_out (r : R ρ M U h H) {s d : TypeId} {o : Operand} {v : V} {x : Value} (hx : opv e o = some x) (dv : Dn ρ M v x) (hh : xPtr P h s d v K = true) : Rd1 P ρ M H (.convert s d o) e K := by
  have go : ∀ {r : Value}, (∀ w : World, w.heap = H → (convert s d x).run P w = .ok r w) → evRead P (.convert s d o) e H (· = r) := fun {r} hr => evRead_lift hr fun op' ho τ ha => by
    obtain ⟨dst, op', type, pos, after, guard⟩ := op'
    simp only at ho
    subst ho
    simp only [execOp, ha o (by simp [Op.operands]) _ hx]
  unfold xPtr at hh
  split at hh
  · rename_i t b o' hs hd
    split at hh
    · rename_i i hi
      obtain ⟨hz, hh⟩ := bif_f hh
      have hz : i.size ≠ 0 := fun e => by rw [e] at hz; cases hz
      obtain ⟨ob, hb, hh⟩ := getK_out hh
      split at hh
      · rename_i c el es ro
        obtain ⟨u, hu, hk⟩ := nthK_out hh
        cases dv with
        | ptr hρ =>
        rename_i blk base kap
        obtain ⟨blk2, base2, kap2, x2, q1, q2, _, arr, frz, rfl, q4, q5, q6, q7, q8⟩ := r.ob b _ hb trivial
        rw [hρ] at q1
        cases q1
        obtain ⟨y, hy, _⟩ := q4 _ _ hu
        have hlt := (Array.getElem?_eq_some_iff.1 hy).1
        refine ⟨_, _, .ptr hρ, hk, go fun w hw => ?_⟩
        have hcell : w.heap[blk]? = some (.cells arr el frz) := by rw [hw]; exact q2
        unfold convert
        rw [Sem.run_bind, r_und hs]
        simp only [Result.andThen]
        rw [Sem.run_bind, r_und hd]
        simp only [Result.andThen]
        unfold Conv.unsafePointer
        rw [Sem.run_bind, r_und hs]
        simp only [Result.andThen]
        rw [Sem.run_bind, r_und hd]
        simp only [Result.andThen]
        rw [Sem.run_bind, seen_same hcell]
        simp only [Result.andThen]
        have hin : (cellsIn blk).run P w = .ok (some arr.size) w := by
          unfold cellsIn
          rw [Sem.run_bind, run_shape]
          simp only [Result.andThen, World.shape?, hcell]
          rfl
        rw [Sem.run_bind, hin]
        simp only [Result.andThen]
        rw [Sem.run_bind, r_size hi]
        simp only [Result.andThen]
        rw [if_neg]
        · rfl
        · simp only [hz, Bool.or_eq_true, decide_eq_true_eq, false_or]
          simp; omega
      · cases hh
    · cases hh
  · rename_i u b o' hs hd
    obtain ⟨hi, hh⟩ := bif_t hh
    obtain ⟨i, hi⟩ := Option.isSome_iff_exists.1 hi
    obtain ⟨ob, hb, hh⟩ := getK_out hh
    split at hh
    · rename_i c el es ro
      obtain ⟨hl, hk⟩ := bif_t hh
      cases dv with
      | ptr hρ =>
      rename_i blk base kap
      obtain ⟨blk2, base2, kap2, x2, q1, q2, _, arr, frz, rfl, q4, q5, q6, q7, q8⟩ := r.ob b _ hb trivial
      rw [hρ] at q1
      cases q1
      have hb0 := (q8 rfl).1
      subst hb0
      have hsz : arr.size = c.length := by rw [← q6]; simp [rng]
      refine ⟨_, _, .ptr hρ, hk, go fun w hw => ?_⟩
      have hcell : w.heap[blk]? = some (.cells arr el frz) := by rw [hw]; exact q2
      unfold convert
      rw [Sem.run_bind, r_und hs]
      simp only [Result.andThen]
      rw [Sem.run_bind, r_und hd]
      simp only [Result.andThen]
      unfold Conv.unsafePointer
      rw [Sem.run_bind, r_und hs]
      simp only [Result.andThen]
      rw [Sem.run_bind, r_und hd]
      simp only [Result.andThen]
      rw [Sem.run_bind, seen_same hcell]
      simp only [Result.andThen]
      have hv : (variablesAt ⟨blk, 0 + o', none⟩ u 1).run P w = .ok true w := by
        unfold variablesAt
        rw [Sem.run_bind, run_program]
        simp only [Result.andThen]
        rw [Sem.run_bind, run_shape]
        simp only [Result.andThen, World.shape?, hcell, hsz]
        rw [show 0 + o' = o' by omega, hl]
        rfl
      rw [Sem.run_bind, r_size hi]
      simp only [Result.andThen]
      rw [Sem.run_bind, hv]
      simp
    · cases hh
  · cases hh

/-! ### All of them -/
noncomputable def xReadB (P : Program) (h : Hp) (op : Op) (env : Tr V) (K : V → Bool) : Bool :=
  match op with
  | .load t x => xo env x fun v => (match v with | .ptr b o => xLoad P h t b o K | _ => false)
  | .convert s d x => xo env x fun v => (match P.underlying s, P.underlying d with
    | some (.slice b), some .string => (match P.underlying b with | some (.int .u8) => xStr h v K | _ => false)
    | _, _ => xPtr P h s d v K)
  | .lookup mt x k ok => xo env x fun v => xo env k fun k => xLookup P h mt v k ok K
  | _ => false
/-- An operation that reads: which it is is asked once. -/
inductive BRd where
  | mk (f : Hp → Tr V → (V → Bool) → Bool)
noncomputable def boxR (P : Program) (op : Op) : BRd :=
  match op with
  | .load t x => .mk fun h env K => xo env x fun v => (match v with | .ptr b o => xLoad P h t b o K | _ => false)
  | .convert s d x => .mk fun h env K => xo env x fun v => (match P.underlying s, P.underlying d with
    | some (.slice b), some .string => (match P.underlying b with | some (.int .u8) => xStr h v K | _ => false)
    | _, _ => xPtr P h s d v K)
  | .lookup mt x k ok => .mk fun h env K => xo env x fun v => xo env k fun k => xLookup P h mt v k ok K
  | _ => .mk fun _ _ _ => false
noncomputable def xRead (P : Program) (h : Hp) (op : Op) (env : Tr V) (K : V → Bool) : Bool := BRd.rec (motive := fun _ => Bool) (fun f => f h env K) (boxR P op)
theorem xReadB_eq (P : Program) (h : Hp) (op : Op) (env : Tr V) (K : V → Bool) : xRead P h op env K = xReadB P h op env K := by
  cases op <;> rfl
theorem xRead_out (he : E ρ M env e) (r : R ρ M U h H) {op : Op} (hh : xRead P h op env K = true) : Rd1 P ρ M H op e K := by
  have hg : Gl ρ := r.gl
  rw [xReadB_eq] at hh
  unfold xReadB at hh
  split at hh
  · rename_i t x
    obtain ⟨v, y, hx, hd, hh⟩ := xo_out he hg hh
    split at hh
    · rename_i b o'
      cases hd with
      | ptr hρ =>
      rename_i blk base kap
      obtain ⟨v, z, hdz, hk, hr⟩ := xLoad_run r hh hρ
      refine ⟨v, z, hdz, hk, evRead_lift (s := Instr.loadAt t (.pointer (some ⟨blk, base + o', none⟩))) (fun w hw => ?_) fun o ho τ ha => ?_⟩
      · unfold Instr.loadAt
        rw [Sem.run_bind]
        exact hr w hw
      · obtain ⟨dst, op', type, pos, after, guard⟩ := o
        simp only at ho
        subst ho
        simp only [execOp, ha x (by simp [Op.operands]) _ hx]
    · cases hh
  · rename_i s d x
    obtain ⟨v, y, hx, hd, hh⟩ := xo_out he hg hh
    split at hh
    · rename_i b hs hd'
      split at hh
      · rename_i hb
        obtain ⟨p, l, c, t, u, rfl, h1, h2, h3⟩ := xStr_out r hd hh
        refine ⟨u, _, h2, h3, .inl ?_⟩
        simp only [evRead0, o1, hx, hs, hd', hb]
        exact ⟨t, h1, rfl⟩
      · cases hh
    · exact xPtr_out r hx hd hh
  · obtain ⟨v, y, hx, hd, hh⟩ := xo_out he hg hh
    obtain ⟨v2, y2, hx2, hd2, hh⟩ := xo_out he hg hh
    exact xLookup_out r hx hx2 hd hd2 hh
  · cases hh
end Go.X
/-! The interpreter: operations that write memory: cells that are written, objects that are new. -/
namespace Go.X
open Go.Ex
variable {P : Program} {ρ : Rho} {M : Nat} {U : Un} {h : Hp} {H : Heap} {env : Tr V} {e : Env} {K : V → Hp → Bool}

def setP {α : Type} (cs : List α) (off : Nat) : List α → List α
  | [] => cs
  | v :: vs => setP (cs.set off v) (off + 1) vs
theorem setMany_P (vs : List Value) : ∀ (cs : List Value) (off : Nat), setMany cs off vs = setP cs off vs := by
  induction vs with
  | nil => intro cs off; rfl
  | cons v vs ih => intro cs off; exact ih _ _
theorem setP_len {α : Type} (vs : List α) : ∀ (cs : List α) (off : Nat), (setP cs off vs).length = cs.length := by
  induction vs with
  | nil => intro cs off; rfl
  | cons v vs ih => intro cs off; show (setP (cs.set off v) (off + 1) vs).length = _; rw [ih]; simp
theorem setP_get {α : Type} (vs : List α) : ∀ (cs : List α) (off j : Nat), off + vs.length ≤ cs.length → (setP cs off vs)[j]? = if off ≤ j ∧ j < off + vs.length then vs[j - off]? else cs[j]? := by
  induction vs with
  | nil => intro cs off j _; rw [if_neg (by simp)]; rfl
  | cons v vs ih =>
    intro cs off j hl
    simp only [List.length_cons] at hl ⊢
    show (setP (cs.set off v) (off + 1) vs)[j]? = _
    rw [ih _ _ _ (by simp; omega), List.getElem?_set]
    by_cases h1 : off + 1 ≤ j ∧ j < off + 1 + vs.length
    · rw [if_pos h1, if_pos (by omega)]
      rw [show j - off = (j - (off + 1)) + 1 by omega, List.getElem?_cons_succ]
    · rw [if_neg h1]
      by_cases h2 : off = j
      · subst h2
        rw [if_pos rfl, if_pos (by omega), if_pos (by omega)]
        simp
      · rw [if_neg h2, if_neg (by omega)]
theorem setP_eq {α : Type} (cs vs : List α) (off : Nat) (h : off + vs.length ≤ cs.length) : setP cs off vs = cs.take off ++ vs ++ cs.drop (off + vs.length) := by
  apply List.ext_getElem?
  intro j
  rw [setP_get _ _ _ _ h]
  simp only [List.getElem?_append, List.length_append, List.length_take, List.getElem?_take, List.getElem?_drop]
  have m2 : min off cs.length = off := by omega
  rw [m2]
  by_cases h1 : j < off
  · rw [if_neg (by omega), if_pos (by omega), if_pos h1, if_pos h1]
  · by_cases h3 : j < off + vs.length
    · rw [if_pos (by omega), if_pos h3, if_neg h1]
    · rw [if_neg (by omega), if_neg h3]
      congr 1
      omega
theorem setManyK_eq {cells vs : List V} {off : Nat} {k : List V → Bool} (h : setManyK cells off vs k = true) : off + vs.length ≤ cells.length ∧ k (setP cells off vs) = true := by
  unfold setManyK at h
  obtain ⟨h1, h⟩ := takeK_out h
  rw [lenK'_eq] at h
  obtain ⟨h2, h⟩ := dropK_out h
  rw [appK_eq, appK_eq] at h
  refine ⟨h2, ?_⟩
  rw [setP_eq _ _ _ h2, List.append_assoc]
  exact h
noncomputable def allOne : List V → Bool
  | [] => true
  | v :: r => oneV v (allOne r)
theorem allOne_cons {v : V} {r : List V} {x : Value} (h : allOne (v :: r) = true) (hd : Dn ρ M v x) : allOne r = true ∧ ∀ K : Prop, K → oneW x K := oneV_out (b := allOne r) h hd
/-- Cells of one block are written. -/
theorem stCs_arr {blk off : Nat} {el : TypeId} {frz : Nat × Nat} : ∀ {vs : List V} {us : List Value} {H : Heap} {arr : Array Value} {i : Nat} {Kp : Heap → Prop}, H[blk]? = some (.cells arr el frz) → DnL ρ M vs us → allOne vs = true →
    off + i + us.length ≤ arr.size → (frz.1 = frz.2 ∨ arr.size ≤ frz.1) →
    (∀ H', (∀ j, j ≠ blk → H'[j]? = H[j]?) → H'.size = H.size → H'[blk]? = some (.cells (setP arr.toList (off + i) us).toArray el frz) → Kp H') → stCs H ⟨blk, off, none⟩ us i Kp := by
  intro vs
  induction vs with
  | nil =>
    intro us H arr i Kp hb hd _ _ _ hk
    rw [hd.unnil]
    exact hk H (fun _ _ => rfl) rfl (by rw [hd.unnil]; simpa [setP] using hb)
  | cons v vs ih =>
    intro us H arr i Kp hb hd ho hle hfr hk
    obtain ⟨x, xs, rfl, hv, hr⟩ := hd.uncons
    obtain ⟨ho2, hone⟩ := allOne_cons ho hv
    simp only [List.length_cons] at hle
    have hlt : off + i < arr.size := by omega
    show stC H (Addr.add ⟨blk, off, none⟩ i) x _
    rw [off_add]
    refine hone _ ⟨⟨arr[off + i], by unfold hcell; simp only; rw [hb]; simp [hlt]⟩, ?_, ?_⟩
    · unfold hfrozen
      simp only
      rw [hb]
      simp only [Bool.and_eq_false_iff, decide_eq_false_iff_not]
      omega
    · have hb2 := hset_same H (a := ⟨blk, off + i, none⟩) x hb rfl
      refine ih hb2 hr ho2 (by simp; omega) (by simpa using hfr) fun H' h1 h1s h2 => hk H' (fun j hj => ?_) ?_ ?_
      · rw [h1 j hj]; exact hset_other _ _ _ _ hj
      · rw [h1s]; unfold hset; simp
      · rw [h2]
        simp only [Array.toList_setIfInBounds]
        rfl

/-! ### Stores -/
theorem ins_ins {α : Type} (x y : α) : ∀ (p : Ps) (t : Tr α), ins x p (ins y p t) = ins x p t := by
  intro p
  induction p with
  | h => intro t; cases t <;> rfl
  | o p ih => intro t; cases t <;> simp [ins, ih]
  | i p ih => intro t; cases t <;> simp [ins, ih]
/-- An object's cells are written, from a place on. -/
theorem R.stores (r : R ρ M U h H) {b : Ps} {c : List V} {el es : Nat} {op : Bool} (hb : look b h.t = some (.cells c el es op false)) {blk base kap : Nat} (hρ : ρ b = some (blk, base, kap))
    {o : Nat} {vs : List V} {us : List Value} (hd : DnL ρ M vs us) (ho : allOne vs = true) (hle : o + vs.length ≤ c.length) {Kp : Heap → Prop}
    (hk : ∀ H', H'.size = H.size → R ρ M U { h with t := ins (.cells (setP c o vs) el es op false) b h.t } H' → Kp H') : stCs H ⟨blk, base + o, none⟩ us 0 Kp := by
  obtain ⟨blk2, base2, kap2, x2, q1, q2, _, arr, frz, rfl, q4, q5, q6, q7, q8⟩ := r.ob b _ hb trivial
  rw [hρ] at q1
  cases q1
  have hlen : us.length = vs.length := hd.1.symm
  refine stCs_arr q2 hd ho (by omega) (q7 rfl) fun H' h1 h1s h2 => hk H' h1s (r.upd hb trivial hρ h1 h2 ?_)
  refine ⟨_, _, rfl, fun j v hv => ?_, ?_, ?_, ?_, q8⟩
  · simp only [List.getElem?_toArray, Nat.add_zero]
    rw [setP_get _ _ _ _ hle] at hv
    rw [setP_get _ _ _ _ (by simp; omega)]
    split at hv
    · rename_i hj
      rw [if_pos (by omega), show base + j - (base + o) = j - o by omega]
      exact hd.get hv
    · rename_i hj
      rw [if_neg (by omega)]
      obtain ⟨y, hy, hdy⟩ := q4 j v hv
      exact ⟨y, by simpa using hy, hdy⟩
  · have : rng (setP c o vs) kap es op = rng c kap es op := by cases op <;> simp [rng, setP_len]
    rw [this, setP_len]; exact q5
  · have : rng (setP c o vs) kap es op = rng c kap es op := by cases op <;> simp [rng, setP_len]
    rw [this]; simp [setP_len, q6]
  · exact fun h => by simpa [setP_len] using q7 h

/-! ### New objects -/
noncomputable def noneK {α : Type} (p : Ps) (t : Tr α) : Bool :=
  Ps.rec (motive := fun _ => Tr α → Bool)
    (fun t => Tr.rec (motive := fun _ => Bool) true (fun _ v _ _ _ => Option.rec (motive := fun _ => Bool) true (fun _ => false) v) t)
    (fun _ ih t => Tr.rec (motive := fun _ => Bool) true (fun l _ _ _ _ => ih l) t)
    (fun _ ih t => Tr.rec (motive := fun _ => Bool) true (fun _ _ r _ _ => ih r) t) p t
theorem noneK_out {α : Type} : ∀ {p : Ps} {t : Tr α}, noneK p t = true → look p t = none := by
  intro p
  induction p with
  | h =>
    intro t h
    cases t with
    | lf => rfl
    | nd l v r => cases v with | none => rfl | some v => cases h
  | o p ih => intro t h; cases t with | lf => rfl | nd l v r => exact ih (t := l) h
  | i p ih => intro t h; cases t with | lf => rfl | nd l v r => exact ih (t := r) h
noncomputable def newK (h : Hp) (ob : Ob) (K : Ps → Hp → Bool) : Bool :=
  bif noneK (.i h.nx) h.t then insK ob (.i h.nx) h.t fun t => incK h.nx fun q => K (.i h.nx) ⟨t, q, h.lo, h.hi⟩ else false
theorem newK_out {ob : Ob} {K : Ps → Hp → Bool} (hh : newK h ob K = true) : ∃ q, look (.i h.nx) h.t = none ∧ K (.i h.nx) { h with t := ins ob (.i h.nx) h.t, nx := q } = true := by
  unfold newK at hh
  obtain ⟨h1, hh⟩ := bif_t hh
  rw [insK_eq] at hh
  obtain ⟨q, hq⟩ := incK_out hh
  exact ⟨q, noneK_out h1, hq⟩
/-- The row of cells of a new object. -/
theorem obR_new {c : List V} {us : List Value} {el es kap : Nat} {op : Bool} (hd : DnL ρ M c us) (arr : Array Value) (frz : Nat × Nat) (hpre : ∀ (j : Nat) u, us[j]? = some u → arr[j]? = some u) (hsz : arr.size = rng c kap es op) (hle : c.length ≤ rng c kap es op)
    (hfr : frz.1 = frz.2 ∨ arr.size ≤ frz.1) : ObR ρ M 0 kap (.cells c el es op false) (.cells arr el frz) := by
  refine ⟨arr, frz, rfl, fun j v hv => ?_, hle, by omega, fun _ => hfr, fun _ => ⟨rfl, fun h => by cases h⟩⟩
  obtain ⟨x, hx, hdx⟩ := hd.get hv
  exact ⟨x, by rw [Nat.zero_add]; exact hpre j x hx, hdx⟩
/-- What a writing operation comes to. -/
def Af (ρ : Rho) (M : Nat) (U : Un) (K : V → Hp → Bool) (u : Value) (H' : Heap) : Prop := ∃ ρ' v h', Le ρ ρ' ∧ R ρ' M U h' H' ∧ Dn ρ' M v u ∧ K v h' = true
theorem Af.mk {u : Value} {H' : Heap} {v : V} {h' : Hp} (r : R ρ M U h' H') (hd : Dn ρ M v u) (hk : K v h' = true) : Af ρ M U K u H' := ⟨ρ, v, h', Le.refl _, r, hd, hk⟩
def cellsVV (v : V) : List V := match v with | .agg cs => cs | v => [v]
theorem cellsVV_out {v : V} {x : Value} (h : Dn ρ M v x) (hn : v = .any → False) : DnL ρ M (cellsVV v) (cellsV x) := by
  cases h with
  | agg hl hh => exact ⟨by simpa [cellsVV, cellsV] using hl, by simpa [cellsVV, cellsV] using hh⟩
  | any => exact (hn rfl).elim
  | _ => exact .cons (by constructor <;> assumption) .nil
end Go.X
/-! The interpreter: stores, new variables, new rows, bytes of a text. -/
namespace Go.X
open Go.Ex
variable {P : Program} {ρ : Rho} {M : Nat} {U : Un} {h : Hp} {H : Heap} {env : Tr V} {e : Env} {K : V → Hp → Bool}

theorem evWrite_mono {op : Op} {Kp Kp' : Value → Heap → Prop} (hp : progOk P = true) (hh : evWrite P op e H Kp) (hk : ∀ u H', Kp u H' → Kp' u H') : evWrite P op e H Kp' :=
  .inr fun o a w next Q ho ha hw hn => by
    subst ho
    exact evWrite_out hp hh ha w hw fun v w' hs q => hn v w' hs (hk _ _ q)
/-- An operation that writes, or calls, comes to what K says. -/
abbrev Wr (P : Program) (ρ : Rho) (M : Nat) (U : Un) (H : Heap) (op : Op) (e : Env) (K : V → Hp → Bool) : Prop := evWrite P op e H (Af ρ M U K)

/-! ### Stores -/
noncomputable def xStore (P : Program) (h : Hp) (t : TypeId) (b : Ps) (o : Nat) (u : V) (K : V → Hp → Bool) : Bool :=
  getK b h.t fun ob => (match ob with
    | .cells c el es op false => (match isAggT P t with
      | true => (match u with
        | .agg vs => lenK' vs fun n => bif Nat.beq n (sizeT P t) && (P.info? t).isSome then (bif allOne vs then setManyK c o vs fun c => insK (.cells c el es op false) b h.t fun t => K .any ⟨t, h.nx, h.lo, h.hi⟩ else false) else false
        | _ => false)
      | false => bif Nat.beq 1 (sizeT P t) && (P.info? t).isSome then oneV u (setK c o u fun c => insK (.cells c el es op false) b h.t fun t => K .any ⟨t, h.nx, h.lo, h.hi⟩) else false)
    | _ => false)
theorem xStore_out (r : R ρ M U h H) {t : TypeId} {oa ox : Operand} {b : Ps} {o : Nat} {u : V} {x y : Value} (hx : opv e oa = some x) (hy : opv e ox = some y) (dx : Dn ρ M (.ptr b o) x) (dy : Dn ρ M u y) (hh : xStore P h t b o u K = true) :
    Wr P ρ M U H (.store t oa ox) e K := by
  unfold xStore at hh
  obtain ⟨ob, hb, hh⟩ := getK_out hh
  split at hh
  · rename_i c el es op
    cases dx with
    | ptr hρ =>
    rename_i blk base kap
    refine .inl ?_
    simp only [evWrite0, o1, hx, hy]
    split at hh
    · rename_i hag
      rw [hag]
      split at hh
      · rename_i vs
        rw [lenK'_eq] at hh
        obtain ⟨hsz, hh⟩ := bif_t hh
        obtain ⟨hone, hh⟩ := bif_t hh
        obtain ⟨hle, hh⟩ := setManyK_eq hh
        rw [insK_eq] at hh
        cases dy with
        | agg hl hd =>
        rename_i a
        simp only
        rw [List.size_toArray, ← hl, hsz]
        simp only [cond_true]
        exact r.stores hb hρ ⟨hl, hd⟩ hone hle fun H' _ r' => .mk r' (.any _) hh
      · cases hh
    · rename_i hag
      rw [hag]
      obtain ⟨hsz, hh⟩ := bif_t hh
      obtain ⟨hh, ho⟩ := oneV_out hh dy
      obtain ⟨hlt, hh⟩ := setK_out hh
      rw [insK_eq] at hh
      simp only [hsz, cond_true]
      obtain ⟨w1, w2, r'⟩ := r.write hb hρ hlt dy
      exact ho _ ⟨w1, w2, .mk r' (.any _) hh⟩
  · cases hh

/-! ### New variables -/
def notAny : V → Bool
  | .any => false
  | _ => true
theorem notAny_out {v : V} (h : notAny v = true) : v = .any → False := by rintro rfl; cases h
noncomputable def xAlloc (P : Program) (h : Hp) (t : TypeId) (K : V → Hp → Bool) : Bool :=
  xZero P t fun z => bif notAny z then newK h (.cells (cellsVV z) t 0 false false) fun b h => K (.ptr b 0) h else false
theorem newAt_dn {p : Ps} {kap : Nat} : Dn (ext ρ (.i p) (H.size, 0, kap)) M (.ptr (.i p) 0) (newAt H) := by
  have := Dn.ptr (M := M) (o := 0) (ext_same ρ (.i p) (H.size, 0, kap))
  exact this
theorem xAlloc_out (r : R ρ M U h H) {t : TypeId} (hh : xAlloc P h t K = true) : Wr P ρ M U H (.alloc t) e K := by
  unfold xAlloc at hh
  obtain ⟨z, y, hz, hh, hq⟩ := xZero_out (ρ := ρ) (M := M) hh
  obtain ⟨hn, hh⟩ := bif_t hh
  obtain ⟨q, hf, hk⟩ := newK_out hh
  have hd := cellsVV_out hz (notAny_out hn)
  refine .inl ?_
  simp only [evWrite0]
  refine hq _ ⟨_, _, _, r.le_ext hf _, r.alloc hf 0 q (obR_new hd _ (0, 0) ?_ ?_ ?_ (.inl rfl)), newAt_dn, hk⟩
  · intro j u hu; simpa using hu
  · simp [rng, hd.1]
  · simp [rng]
noncomputable def xBox (h : Hp) (t : TypeId) (v : V) (K : V → Hp → Bool) : Bool :=
  match v with
  | .agg cs => newK h (.cells cs t 0 false false) fun b h => K (.ptr b 0) h
  | v => oneV v (newK h (.cells [v] t 0 false false) fun b h => K (.ptr b 0) h)
theorem xBox_out (r : R ρ M U h H) {t : TypeId} {o : Operand} {v : V} {x : Value} (hx : opv e o = some x) (dx : Dn ρ M v x) (hh : xBox h t v K = true) : Wr P ρ M U H (.box t o) e K := by
  unfold xBox at hh
  split at hh
  · cases dx with
    | agg hl hd =>
    obtain ⟨q, hf, hk⟩ := newK_out hh
    refine .inl ?_
    simp only [evWrite0, o1, hx]
    refine ⟨_, _, _, r.le_ext hf _, r.alloc hf 0 q (obR_new ⟨hl, hd⟩ _ (0, 0) ?_ ?_ ?_ (.inl rfl)), newAt_dn, hk⟩
    · intro j u hu; simpa using hu
    · simp [rng, hl]
    · simp [rng]
  · obtain ⟨hh, ho⟩ := oneV_out hh dx
    obtain ⟨q, hf, hk⟩ := newK_out hh
    refine .inl ?_
    have hn : ∀ cs, x ≠ .agg cs := by
      intro cs e
      subst e
      exact (ho True trivial).elim
    have main : Af ρ M U K (newAt H) (hnew H #[x] t) := by
      refine ⟨_, _, _, r.le_ext hf _, r.alloc hf 0 q (obR_new (DnL.cons dx .nil) _ (0, 0) ?_ ?_ ?_ (.inl rfl)), newAt_dn, hk⟩
      · intro j u hu; simpa using hu
      · simp [rng]
      · simp [rng]
    simp only [evWrite0, o1, hx]
    clear hx
    cases x <;> first | exact (hn _ rfl).elim | exact ho _ main

/-! ### New rows -/
noncomputable def zerosK (zs : List V) (n : Nat) (k : List V → Bool) : Bool := Nat.rec (motive := fun _ => (List V → Bool) → Bool) (fun k => k []) (fun _ ih k => ih fun r => appK zs r k) n k
theorem zerosK_eq (zs : List V) : ∀ (n : Nat) (k : List V → Bool), zerosK zs n k = k (List.replicate n zs).flatten := by
  intro n
  induction n with
  | zero => intro k; rfl
  | succ n ih =>
    intro k
    show zerosK zs n (fun r => appK zs r k) = _
    rw [ih, appK_eq, List.replicate_succ, List.flatten_cons]
theorem DnL.zeros {zs : List V} {us : List Value} (hd : DnL ρ M zs us) : ∀ n, DnL ρ M (List.replicate n zs).flatten (List.replicate n us).flatten
  | 0 => .nil
  | n + 1 => by rw [List.replicate_succ, List.flatten_cons, List.replicate_succ, List.flatten_cons]; exact hd.append (hd.zeros n)
theorem zerosOf_flat (z : Value) (n : Nat) : zerosOf z n = (List.replicate n (cellsV z)).flatten.toArray := by
  rw [zerosOf_eq, flatten_zeros (cellsV z) n _ rfl]
  unfold Builtin.zeroCells
  rw [cellsV_eq]
  simp
noncomputable def xMake (P : Program) (h : Hp) (t : TypeId) (vl vc : V) (K : V → Hp → Bool) : Bool :=
  match P.underlying t, vl, vc with
  | some (.slice el), .int _ (.ofNat n), .int _ (.ofNat m) => (match P.info? el with
    | some i => xZero P el fun z => bif notAny z && Nat.beq (cellsVV z).length i.size && Nat.blt 0 i.bytes && Nat.blt 0 i.size && Nat.ble n m && Nat.ble (i.bytes * m) 281474976710656 then
        zerosK (cellsVV z) m fun cs => newK h (.cells cs el i.size false false) fun b h => K (.slice b 0 n m) h else false
    | none => false)
  | _, _, _ => false
theorem slice_dn {p : Ps} {kap l c : Nat} : Dn (ext ρ (.i p) (H.size, 0, kap)) M (.slice (.i p) 0 l c) (.slice (some ⟨H.size, 0, none⟩) l c) := by
  have := Dn.slice (M := M) (o := 0) (l := l) (c := c) (ext_same ρ (.i p) (H.size, 0, kap))
  exact this
theorem xMake_out (r : R ρ M U h H) {t : TypeId} {ol oc : Operand} {vl vc : V} {x y : Value} (hx : opv e ol = some x) (hy : opv e oc = some y) (dx : Dn ρ M vl x) (dy : Dn ρ M vc y) (hh : xMake P h t vl vc K = true) : Wr P ρ M U H (.makeSlice t ol oc) e K := by
  unfold xMake at hh
  split at hh
  · rename_i el k1 n k2 m hu
    split at hh
    · rename_i i hi
      obtain ⟨z, yz, hz, hh, hq⟩ := xZero_out (ρ := ρ) (M := M) hh
      obtain ⟨hb, hh⟩ := bif_t hh
      rw [zerosK_eq] at hh
      simp only [Bool.and_eq_true] at hb
      obtain ⟨⟨⟨⟨⟨b1, b2⟩, b3⟩, b4⟩, b5⟩, b6⟩ := hb
      have b5 := Nat.le_of_ble_eq_true b5
      have b6 := Nat.le_of_ble_eq_true b6
      obtain ⟨q, hf, hk⟩ := newK_out hh
      have hd := cellsVV_out hz (notAny_out b1)
      cases dx; cases dy
      refine .inl ?_
      simp only [evWrite0, o1, hx, hy, hu, hi]
      refine hq _ ?_
      rw [← hd.1, b2, b3, b4]
      simp only [Bool.and_self, cond_true]
      refine ⟨by simp, by simpa using b5, by simp only [Int.ofNat_eq_natCast]; rw [← Int.natCast_mul]; omega, ?_⟩
      have hd' := hd.zeros m
      refine ⟨_, _, _, r.le_ext hf _, r.alloc hf 0 q (obR_new hd' _ (0, 0) ?_ ?_ ?_ (.inl rfl)), ?_, hk⟩
      · intro j u hu; rw [show (Int.ofNat m).toNat = m by simp, zerosOf_flat]; simpa using hu
      · rw [show (Int.ofNat m).toNat = m by simp, zerosOf_flat]; simp only [rng, cond_false, List.size_toArray]; exact hd'.1.symm
      · simp [rng]
      · simpa using slice_dn (ρ := ρ) (M := M) (H := H) (p := h.nx) (kap := 0) (l := n) (c := m)
    · cases hh
  · cases hh
noncomputable def xRow (P : Program) (h : Hp) (t : TypeId) (len : Nat) (ps : List (Nat × V)) (K : V → Hp → Bool) : Bool :=
  match P.underlying t with
  | some (.slice el) => (match P.info? el with
    | some i => xZero P el fun z => bif notAny z && Nat.ble (len * i.size) 1024 && Nat.beq (cellsVV z).length i.size then
        zerosK (cellsVV z) len fun cs => fillV (fun j => some (j * i.size, i.size, isAggT P el)) ps cs fun cs => newK h (.cells cs el i.size false false) fun b h => K (.slice b 0 len len) h else false
    | none => false)
  | _ => false
theorem xRow_out (r : R ρ M U h H) {t : TypeId} {len : Nat} {parts : Array (Nat × Operand)} {vs : List (Nat × V)} {ps : List (Nat × Value)} (h0 : parts.toList.map (fun x => (x.1, opv e x.2)) = ps.map (fun x => (x.1, some x.2)))
    (h1 : ps.map (·.1) = vs.map (·.1)) (h2 : DnL ρ M (vs.map (·.2)) (ps.map (·.2))) (hh : xRow P h t len vs K = true) : Wr P ρ M U H (.buildSlice t len parts) e K := by
  unfold xRow at hh
  split at hh
  · rename_i el hu
    split at hh
    · rename_i i hi
      obtain ⟨z, yz, hz, hh, hq⟩ := xZero_out (ρ := ρ) (M := M) hh
      obtain ⟨hb, hh⟩ := bif_t hh
      rw [zerosK_eq] at hh
      simp only [Bool.and_eq_true] at hb
      obtain ⟨⟨b1, b2⟩, b3⟩ := hb
      have hd := cellsVV_out hz (notAny_out b1)
      obtain ⟨cs, us, hh, hcs, hf⟩ := fillV_out hh h1 h2 (hd.zeros len)
      obtain ⟨q, hfr, hk⟩ := newK_out hh
      refine .inl ?_
      simp only [evWrite0, hu, hi]
      refine opL_acc h0 _ _ ?_
      refine hq _ ?_
      rw [← hd.1, b2, b3]
      simp only [Bool.and_self, cond_true, List.nil_append]
      refine hf _ ⟨_, _, _, r.le_ext hfr _, r.alloc hfr 0 q (obR_new hcs _ (0, 0) ?_ ?_ ?_ (.inl rfl)), slice_dn, hk⟩
      · intro j u hu; simpa using hu
      · simp [rng, hcs.1]
      · simp [rng]
    · cases hh
  · cases hh

/-! ### The bytes of a text -/
noncomputable def strCells (n N : Nat) (k : List V → Bool) : Bool :=
  Nat.rec (motive := fun _ => Nat → (List V → Bool) → Bool) (fun _ k => k []) (fun _ ih N k => fN (N % 256) fun b => fN (N / 256) fun N => ih N fun r => k (.int .u8 (.ofNat b) :: r)) n N k
theorem strCells_out : ∀ {n N : Nat} {k : List V → Bool}, strCells n N k = true → ∃ cs, k cs = true ∧ DnL ρ M cs (bytesCells (strOf n N)) := by
  intro n
  induction n with
  | zero => intro N k hh; exact ⟨[], hh, .nil⟩
  | succ n ih =>
    intro N k hh
    replace hh : (fN (N % 256) fun b => fN (N / 256) fun N => strCells n N fun r => k (.int .u8 (.ofNat b) :: r)) = true := hh
    rw [fN_eq, fN_eq] at hh
    obtain ⟨cs, hk, hd⟩ := ih hh
    refine ⟨_, hk, ?_⟩
    unfold bytesCells strOf at hd ⊢
    simp only [bl, List.map_cons]
    refine .cons ?_ hd
    have : (UInt8.ofNat (N % 256)).toNat = N % 256 := by simp
    rw [this]
    exact .int _ _
noncomputable def xBytes (P : Program) (h : Hp) (s d : TypeId) (v : V) (K : V → Hp → Bool) : Bool :=
  match P.underlying s, P.underlying d, v with
  | some _, some (.slice b), .str n N => (match P.underlying b with
    | some (.int .u8) => strCells n N fun cs => newK h (.cells cs b 1 true false) fun p h => K (.sopen p 1 n 0) h
    | _ => false)
  | _, _, _ => false
theorem xBytes_out (r : R ρ M U h H) {s d : TypeId} {o : Operand} {v : V} {x : Value} (hx : opv e o = some x) (dx : Dn ρ M v x) (hh : xBytes P h s d v K = true) : Wr P ρ M U H (.convert s d o) e K := by
  unfold xBytes at hh
  split at hh
  · rename_i b n N hs hd
    split at hh
    · rename_i hb
      obtain ⟨cs, hh, hcs⟩ := strCells_out (ρ := ρ) (M := M) hh
      obtain ⟨q, hf, hk⟩ := newK_out hh
      cases dx
      refine .inl ?_
      simp only [evWrite0, o1, hx, hs, hd, hb, strOf_size]
      intro cap hcap
      have hl : (bytesCells (strOf n N)).length = n := by rw [show (bytesCells (strOf n N)).length = (strOf n N).size by unfold bytesCells; rw [List.length_map, Array.length_toList]; rfl, strOf_size]
      refine ⟨_, _, _, r.le_ext hf _, r.alloc hf cap q (obR_new hcs _ (cap, cap + 1) ?_ ?_ ?_ (.inr ?_)), ?_, hk⟩
      · intro j u hu
        rw [Array.getElem?_append]
        have hj : j < n := by rw [← hl]; exact (List.getElem?_eq_some_iff.1 hu).1
        rw [if_pos (by simp [hl, hj])]
        simpa using hu
      · simp only [rng, cond_true, Array.size_append, List.size_toArray, Array.size_replicate, hl]; omega
      · simp only [rng, cond_true]; rw [hcs.1, hl]; omega
      · simp only [Array.size_append, List.size_toArray, Array.size_replicate, hl]; omega
      · have := Dn.sopen (M := M) (es := 1) (l := n) (d := 0) (ext_same ρ (.i h.nx) (H.size, 0, cap)) (by omega)
        simpa using this
    · cases hh
  · cases hh
end Go.X
/-! The interpreter: append. -/
namespace Go.X
open Go.Ex
variable {P : Program} {ρ : Rho} {M : Nat} {U : Un} {h : Hp} {H : Heap} {env : Tr V} {e : Env} {K : V → Hp → Bool}

/-- What is appended. -/
noncomputable def srcK (h : Hp) (size : Nat) (v : V) (k : Nat → List V → Bool) : Bool :=
  match v with
  | .str m N => bif Nat.beq size 1 then strCells m N fun cs => k m cs else false
  | .nils => k 0 []
  | .slice b o l _ => cellsK h b o (l * size) fun cs => k l cs
  | .sopen b es l d => cellsK h b (d * es) (l * size) fun cs => k l cs
  | _ => false
theorem srcK_out (r : R ρ M U h H) {size : Nat} {v : V} {y : Value} {k : Nat → List V → Bool} (dv : Dn ρ M v y) (hh : srcK h size v k = true) :
    ∃ n cs new, k n cs = true ∧ DnL ρ M cs new ∧ appended H size y n new ∧ new.length = n * size := by
  unfold srcK at hh
  split at hh
  · rename_i m N
    obtain ⟨hs, hh⟩ := bif_t hh
    have hs := Nat.eq_of_beq_eq_true hs
    obtain ⟨cs, hk, hd⟩ := strCells_out (ρ := ρ) (M := M) hh
    cases dv
    refine ⟨m, cs, _, hk, hd, ⟨(strOf_size _ _).symm, hs, rfl⟩, ?_⟩
    rw [hs, Nat.mul_one, show (bytesCells (strOf m N)).length = (strOf m N).size by unfold bytesCells; rw [List.length_map, Array.length_toList]; rfl, strOf_size]
  · cases dv; exact ⟨0, [], [], hh, .nil, ⟨rfl, rfl, rfl⟩, by simp⟩
  · rename_i b o l c
    cases dv with
    | slice hρ =>
    obtain ⟨cs, us, hk, hl, hd, hc⟩ := cellsK_out r hh hρ
    refine ⟨l, cs, us, hk, hd, ⟨rfl, by rw [← hd.1, hl], fun j u hu => ?_⟩, by rw [← hd.1, hl]⟩
    rw [off_add]
    exact hc j u hu
  · rename_i b es l d
    cases dv with
    | sopen hρ _ =>
    obtain ⟨cs, us, hk, hl, hd, hc⟩ := cellsK_out r hh hρ
    refine ⟨l, cs, us, hk, hd, ⟨rfl, by rw [← hd.1, hl], fun j u hu => ?_⟩, by rw [← hd.1, hl]⟩
    rw [off_add]
    exact hc j u hu
  · cases hh
/-- A row that is laid anew. -/
noncomputable def growK (h : Hp) (el size bytes : Nat) (l n : Nat) (old new : List V) (K : V → Hp → Bool) : Bool :=
  bif Nat.ble ((l + n) * bytes) 140737488355328 && !(Nat.beq bytes 0) then
    appK old new fun cs => newK h (.cells cs el size true false) fun p h => fN (l + n) fun m => K (.sopen p size m 0) h else false
theorem growK_out (r : R ρ M U h H) {el size bytes l n : Nat} {old new : List V} {z : Value} {us ws : List Value} (hz : (cellsV z).length = size) (ho : DnL ρ M old us) (hn : DnL ρ M new ws) (hol : us.length = l * size) (hnl : ws.length = n * size)
    (hh : growK h el size bytes l n old new K = true) : (l + n) * bytes ≤ 140737488355328 ∧ bytes ≠ 0 ∧
      ∀ cap, l + n ≤ cap → Af ρ M U K (.slice (some ⟨H.size, 0, none⟩) (l + n) cap) (hnew H (us.toArray ++ ws.toArray ++ zerosOf z (cap - (l + n))) el) := by
  unfold growK at hh
  obtain ⟨hb, hh⟩ := bif_t hh
  rw [appK_eq] at hh
  simp only [Bool.and_eq_true, Bool.not_eq_true'] at hb
  obtain ⟨q, hf, hk⟩ := newK_out hh
  rw [fN_eq] at hk
  refine ⟨Nat.le_of_ble_eq_true hb.1, fun e => by rw [e] at hb; exact absurd hb.2 (by simp), fun cap hcap => ?_⟩
  have hd := ho.append hn
  have hzl : (zerosOf z (cap - (l + n))).size = (cap - (l + n)) * size := by
    rw [zerosOf_flat]; simp [hz, Nat.mul_comm]
  have hsz : l * size + n * size + (cap - (l + n)) * size = cap * size := by
    rw [← Nat.add_mul, ← Nat.add_mul]; congr 1; omega
  refine ⟨_, _, _, r.le_ext hf _, r.alloc hf cap q (obR_new hd _ (0, 0) ?_ ?_ ?_ (.inl rfl)), ?_, hk⟩
  · intro j u hu
    rw [Array.getElem?_append]
    have hj := (List.getElem?_eq_some_iff.1 hu).1
    rw [if_pos (by simpa using hj)]
    simpa using hu
  · simp only [rng, cond_true, Array.size_append, List.size_toArray, hol, hnl, hzl]; exact hsz
  · simp only [rng, cond_true]
    rw [hd.1]
    simp only [List.length_append, hol, hnl]
    omega
  · have := Dn.sopen (M := M) (es := size) (l := l + n) (d := 0) (ext_same ρ (.i h.nx) (H.size, 0, cap)) (by omega)
    simpa using this
noncomputable def xApp (P : Program) (h : Hp) (t : TypeId) (vx vy : V) (K : V → Hp → Bool) : Bool :=
  match P.underlying t with
  | some (.slice el) => (match P.info? el with
    | some i => xZero P el fun z => bif notAny z && Nat.beq (cellsVV z).length i.size && Nat.blt 0 i.size then srcK h i.size vy fun n src => (match vx with
      | .nils => bif Nat.beq n 0 then K .nils h else growK h el i.size i.bytes 0 n [] src K
      | .slice b o l c => bif Nat.beq n 0 && Nat.ble l c then K (.slice b o l c) h else
          bif Nat.ble (l + n) c then (getK b h.t fun ob => (match ob with
            | .cells cs el' es op false => bif allOne src then setManyK cs (o + l * i.size) src fun cs => insK (.cells cs el' es op false) b h.t fun t => fN (l + n) fun m => K (.slice b o m c) ⟨t, h.nx, h.lo, h.hi⟩ else false
            | _ => false))
          else cellsK h b o (l * i.size) fun old => growK h el i.size i.bytes l n old src K
      | .sopen b es l d => bif Nat.beq n 0 then K (.sopen b es l d) h else
          bif Nat.beq es i.size then (getK b h.t fun ob => (match ob with
            | .cells cs el' es' true false => bif allOne src && Nat.beq el' el && Nat.beq es' es then lenK' cs fun m =>
                bif Nat.ble ((d + l + n) * es) m then setManyK cs ((d + l) * es) src fun cs => insK (.cells cs el' es' true false) b h.t fun t => fN (l + n) fun m => K (.sopen b es m d) ⟨t, h.nx, h.lo, h.hi⟩
                else dropK cs (d * es) fun r => takeK r (l * es) fun old => insK .dead b h.t fun t => growK ⟨t, h.nx, h.lo, h.hi⟩ el i.size i.bytes l n old src K else false
            | _ => false)) else false
      | _ => false) else false
    | none => false)
  | _ => false
theorem xApp_out (r : R ρ M U h H) {t : TypeId} {vx vy : V} {x y : Value} (dx : Dn ρ M vx x) (dy : Dn ρ M vy y) (hh : xApp P h t vx vy K = true) : appV P t x y H (Af ρ M U K) := by
  unfold xApp at hh
  split at hh
  · rename_i el hu
    split at hh
    · rename_i i hi
      have hh0 := xZero_out (ρ := ρ) (M := M) hh
      clear hh
      obtain ⟨z, yz, hz, hh0, hq⟩ := hh0
      obtain ⟨hb, hh0⟩ := bif_t hh0
      simp only [Bool.and_eq_true] at hb
      obtain ⟨⟨b1, b2⟩, b3⟩ := hb
      have hzd := cellsVV_out hz (notAny_out b1)
      have hzl : (cellsV yz).length = i.size := by rw [← hzd.1]; exact Nat.eq_of_beq_eq_true b2
      have hpos : 0 < i.size := by rw [Nat.blt_eq] at b3; exact b3
      obtain ⟨n, src, new, hh, hsrc, hap, hnl⟩ := srcK_out r dy hh0
      clear hh0
      unfold appV
      rw [hu]
      simp only [hi]
      split at hh
      · cases dx
        simp only
        refine hq _ ⟨n, new, hap, ?_⟩
        cases hn : Nat.beq n 0 with
        | true =>
          rw [hn] at hh
          have hn := Nat.eq_of_beq_eq_true hn
          exact .inl ⟨by omega, hn, .mk r .nils hh⟩
        | false =>
          rw [hn] at hh
          have hn : n ≠ 0 := fun e => by rw [e] at hn; cases hn
          obtain ⟨c1, c2, c3⟩ := growK_out r hzl .nil hsrc (by simp) hnl hh
          refine .inr ⟨by omega, c1, c2, [], by simp, rfl, fun cap hc => ?_⟩
          exact c3 cap hc
      · rename_i b o l c
        cases dx with
        | slice hρ =>
        rename_i blk base kap
        simp only
        refine hq _ ⟨n, new, hap, ?_⟩
        cases hn : (Nat.beq n 0 && Nat.ble l c) with
        | true =>
          rw [hn] at hh
          simp only [Bool.and_eq_true] at hn
          have hn0 := Nat.eq_of_beq_eq_true hn.1
          have hlc := Nat.le_of_ble_eq_true hn.2
          have hnew : new = [] := by cases new with | nil => rfl | cons => simp [hn0] at hnl
          subst hnew
          subst hn0
          exact .inl ⟨by omega, .mk r (.slice hρ) hh⟩
        | false =>
          rw [hn] at hh
          simp only [cond_false] at hh
          cases hc : Nat.ble (l + n) c with
          | true =>
            rw [hc] at hh
            have hc := Nat.le_of_ble_eq_true hc
            simp only [cond_true] at hh
            obtain ⟨ob, hb, hh⟩ := getK_out hh
            split at hh
            · obtain ⟨h1, hh⟩ := bif_t hh
              obtain ⟨h2, hh⟩ := setManyK_eq hh
              rw [insK_eq, fN_eq] at hh
              refine .inl ⟨hc, ?_⟩
              simp only
              rw [ptr_add]
              exact r.stores hb hρ hsrc h1 h2 fun H' _ r' => .mk r' (.slice hρ) hh
            · cases hh
          | false =>
            rw [hc] at hh
            have hc : ¬ l + n ≤ c := fun e => by rw [Nat.ble_eq_true_of_le e] at hc; cases hc
            simp only [cond_false] at hh
            obtain ⟨old, us, hh, hol, hod, hoc⟩ := cellsK_out r hh hρ
            obtain ⟨c1, c2, c3⟩ := growK_out r hzl hod hsrc (by rw [← hod.1, hol]) hnl hh
            refine .inr ⟨by omega, c1, c2, us, by rw [← hod.1, hol], fun j u hu => ?_, c3⟩
            rw [off_add]
            exact hoc j u hu
      · rename_i b es l d
        cases dx with
        | sopen hρ hkap =>
        rename_i blk base kap
        simp only
        refine hq _ ⟨n, new, hap, ?_⟩
        cases hn : Nat.beq n 0 with
        | true =>
          rw [hn] at hh
          have hn0 := Nat.eq_of_beq_eq_true hn
          have hnew : new = [] := by cases new with | nil => rfl | cons => simp [hn0] at hnl
          subst hnew
          subst hn0
          exact .inl ⟨by omega, .mk r (.sopen hρ hkap) hh⟩
        | false =>
          rw [hn] at hh
          simp only [cond_false] at hh
          have h2 := bif_t hh
          clear hh
          obtain ⟨hes, hh⟩ := h2
          have hes := Nat.eq_of_beq_eq_true hes
          obtain ⟨ob, hb, hh⟩ := getK_out hh
          split at hh
          · rename_i cs el' es'
            have h2 := bif_t hh
            clear hh
            obtain ⟨h1, hh⟩ := h2
            simp only [Bool.and_eq_true] at h1
            obtain ⟨⟨h1, hel⟩, hes'⟩ := h1
            have hel := Nat.eq_of_beq_eq_true hel
            have hes' := Nat.eq_of_beq_eq_true hes'
            rw [lenK'_eq] at hh
            obtain ⟨blk2, base2, kap2, x2, q1, q2, qU, arr, frz, hx2, q4, q5, q6, q7, q8⟩ := r.ob b _ hb trivial
            rw [hρ] at q1
            cases q1
            subst hx2
            simp only [rng, cond_true] at q5 q6
            cases hc : Nat.ble ((d + l + n) * es) cs.length with
            | true =>
              rw [hc] at hh
              have hc := Nat.le_of_ble_eq_true hc
              simp only [cond_true] at hh
              obtain ⟨h2, hh⟩ := setManyK_eq hh
              rw [insK_eq, fN_eq] at hh
              have hle : d + l + n ≤ kap := by
                have : (d + l + n) * es ≤ kap * es := by rw [hes'] at q5; omega
                exact Nat.le_of_mul_le_mul_right this (by omega)
              refine .inl ⟨by omega, ?_⟩
              simp only
              rw [ptr_add, show d * es + l * i.size = (d + l) * es by rw [Nat.add_mul, hes]]
              exact r.stores hb hρ hsrc h1 h2 fun H' _ r' => .mk r' (.sopen hρ (by omega)) hh
            | false =>
              rw [hc] at hh
              simp only [cond_false] at hh
              obtain ⟨g1, hh⟩ := dropK_out hh
              obtain ⟨g2, hh⟩ := takeK_out hh
              rw [insK_eq] at hh
              have rk := r.kill b
              obtain ⟨us, hud, huc⟩ := r.reads hb hρ
              have hod := (hud.drop (d * es)).take (l * es)
              have hol : ((us.drop (d * es)).take (l * es)).length = l * i.size := by rw [← hod.1, List.length_take, ← hes]; omega
              by_cases hcap : l + n ≤ kap - d
              · refine .inl ⟨hcap, ?_⟩
                simp only
                rw [off_add]
                unfold growK at hh
                obtain ⟨_, hh⟩ := bif_t hh
                rw [appK_eq] at hh
                obtain ⟨q, hf, hk⟩ := newK_out hh
                rw [fN_eq] at hk
                have e1 : d * es + (kap - d) * es = kap * es := by rw [← Nat.add_mul]; congr 1; omega
                have e2 : (l + n) * es ≤ (kap - d) * es := Nat.mul_le_mul_right _ hcap
                rw [Nat.add_mul] at e2
                have hnl' : new.length = n * es := by rw [hnl, hes]
                have hle : base + d * es + l * es + 0 + new.length ≤ arr.size := by rw [hnl']; rw [hes'] at q6; omega
                rw [← hes]
                refine stCs_arr q2 hsrc h1 hle (q7 rfl) fun H' hH hHs hx => ?_
                have hnew := rk.new (H' := H') hf (o := .cells ((cs.drop (d * es)).take (l * es) ++ src) el i.size true false) blk (base + d * es) (kap - d) (x := .cells (setP arr.toList (base + d * es + l * es + 0) new).toArray el' frz) qU q
                  (fun b' o' y hb' hl' hy' e => by
                    have hb'' : look b' (ins .dead b h.t) = some o' := hb'
                    rw [look_ins] at hb''
                    split at hb''
                    · cases hb''; exact hl'
                    · rename_i hne; exact hne (r.inj b' b _ _ _ _ hb'' hb hl' trivial hy' hρ e))
                  (fun j hj _ => hH j hj) hx ?_
                · refine ⟨_, _, _, rk.le_ext hf _, hnew, ?_, hk⟩
                  have := Dn.sopen (M := M) (es := i.size) (l := l + n) (d := 0) (ext_same ρ (.i h.nx) (blk, base + d * es, kap - d)) (by omega)
                  simpa using this
                · rw [← hel]
                  refine ⟨_, _, rfl, fun j v hv => ?_, ?_, ?_, fun hro => by simpa [setP_len] using q7 rfl, fun h => by cases h⟩
                  · simp only [List.getElem?_toArray]
                    rw [setP_get _ _ _ _ (by simpa using hle)]
                    have hlo : ((cs.drop (d * es)).take (l * es)).length = l * es := by rw [List.length_take]; omega
                    rw [List.getElem?_append] at hv
                    by_cases hj : j < l * es
                    · rw [if_pos (by omega)] at hv
                      rw [if_neg (by omega)]
                      rw [List.getElem?_take, if_pos hj, List.getElem?_drop] at hv
                      obtain ⟨y2, hy2, hd2⟩ := q4 _ v hv
                      exact ⟨y2, by rw [Array.getElem?_toList, Nat.add_assoc]; exact hy2, hd2⟩
                    · rw [if_neg (by omega), hlo] at hv
                      obtain ⟨y2, hy2, hd2⟩ := hsrc.get hv
                      have hjl := (List.getElem?_eq_some_iff.1 hy2).1
                      rw [if_pos (by omega)]
                      exact ⟨y2, by rw [show base + d * es + j - (base + d * es + l * es + 0) = j - l * es by omega]; exact hy2, hd2⟩
                  · simp only [rng, cond_true, List.length_append, List.length_take, List.length_drop]
                    rw [hsrc.1, hnl', ← hes]
                    omega
                  · simp only [rng, cond_true, List.size_toArray, setP_len, Array.length_toList]
                    rw [← hes]
                    rw [hes'] at q6
                    omega
              · obtain ⟨c1, c2, c3⟩ := growK_out rk hzl hod hsrc hol hnl hh
                refine .inr ⟨by omega, c1, c2, _, hol, fun j u hu => ?_, c3⟩
                rw [off_add]
                rw [List.getElem?_take] at hu
                split at hu
                · rw [List.getElem?_drop] at hu
                  rw [Nat.add_assoc]
                  exact huc _ _ hu
                · cases hu
          · cases hh
      · cases hh
    · cases hh
  · cases hh
end Go.X
/-! The interpreter: maps that are made and written, texts that are walked, bytes that a text shares. -/
namespace Go.X
open Go.Ex
variable {P : Program} {ρ : Rho} {M : Nat} {U : Un} {h : Hp} {H : Heap} {env : Tr V} {e : Env} {K : V → Hp → Bool}

theorem wr_val {op : Op} {Kp : Value → Heap → Prop} {s : Oper → Sem Value} (hs : ∀ (o : Oper) (w : World), w.heap = H → ∃ v w', (s o).run P w = .ok v w' ∧ Sim w w' ∧ Kp v w'.heap)
    (hx : ∀ o : Oper, o.op = op → ∀ τ, Agrees e τ op.operands.toList → execOp τ o = do pure (.value (← s o))) : evWrite P op e H Kp := .inr fun o a w next Q ho ha hw hn => by
  obtain ⟨v, w', hr, hsim, hk⟩ := hs o w hw
  unfold Oper.wp
  rw [hx o ho a.eval ha, Sem.run_bind, hr]
  exact hn v w' hsim hk
theorem wr_unit {op : Op} {Kp : Value → Heap → Prop} {s : Sem Unit} (hs : ∀ w : World, w.heap = H → ∃ w', s.run P w = .ok () w' ∧ Sim w w' ∧ Kp undef w'.heap)
    (hx : ∀ o : Oper, o.op = op → ∀ τ, Agrees e τ op.operands.toList → execOp τ o = do s; pure .skip) : evWrite P op e H Kp := .inr fun o a w next Q ho ha hw hn => by
  obtain ⟨w', hr, hsim, hk⟩ := hs w hw
  unfold Oper.wp
  rw [hx o ho a.eval ha, Sem.run_bind, hr]
  exact hn undef w' hsim hk

/-! ### Maps -/
noncomputable def xMap (h : Hp) (K : V → Hp → Bool) : Bool := newK h (.map []) fun b h => K (.map b) h
theorem xMap_out (r : R ρ M U h H) {t : TypeId} (hh : xMap h K = true) : Wr P ρ M U H (.makeMap t none) e K := by
  obtain ⟨q, hf, hk⟩ := newK_out hh
  refine wr_val (s := fun _ => Instr.makeMap t none) (fun _ w hw => ⟨.map (some w.heap.size), w.alloc (.map #[] 0), rfl, Sim.alloc _ _, ?_⟩) fun o ho τ ha => ?_
  · rw [heap_alloc, hw]
    exact ⟨_, _, _, r.le_ext hf _, r.alloc (o := .map []) hf 0 q ⟨#[], 0, rfl, rfl, fun _ _ _ h => by simp at h⟩, .map (ext_same ρ (.i h.nx) (H.size, 0, 0)), hk⟩
  · obtain ⟨dst, op', type, pos, after, guard⟩ := o
    simp only at ho
    subst ho
    rfl
noncomputable def xPut (P : Program) (h : Hp) (mt : TypeId) (m : Ps) (k v : V) (K : V → Hp → Bool) : Bool :=
  match P.underlying mt with
  | some (.map kt _) => bif keyOk P kt k then getK m h.t fun ob => (match ob with
    | .map l => bif l.all (fun p => keyOk P kt p.1) then findX P kt k l (fun _ _ => false) (appK l [(k, v)] fun l => insK (.map l) m h.t fun t => K .any ⟨t, h.nx, h.lo, h.hi⟩) else false
    | _ => false) else false
  | _ => false
theorem xPut_run (r : R ρ M U h H) {mt : TypeId} {m : Ps} {k v : V} {x y z : Value} (dx : Dn ρ M (.map m) x) (dy : Dn ρ M k y) (dz : Dn ρ M v z) (hh : xPut P h mt m k v K = true) :
    ∀ w : World, w.heap = H → ∃ w', (Instr.mapUpdate mt x y z).run P w = .ok () w' ∧ Sim w w' ∧ Af ρ M U K undef w'.heap := by
  intro w hw
  unfold xPut at hh
  split at hh
  · rename_i kt et hu
    obtain ⟨hko, hh⟩ := bif_t hh
    obtain ⟨ob, hb, hh⟩ := getK_out hh
    split at hh
    · rename_i l
      obtain ⟨hall, hh⟩ := bif_t hh
      have hall' : ∀ p ∈ l, keyOk P kt p.1 = true := by simpa using hall
      cases dx with
      | map hρ =>
      rename_i blk base kap
      obtain ⟨blk2, base2, kap2, x2, q1, q2, _, es, clock, hx2, q4, q5⟩ := r.ob m _ hb trivial
      rw [hρ] at q1
      cases q1
      subst hx2
      have hm : MapIs ρ M l es.toList := ⟨q4, q5⟩
      have hfind := findKey_ask hko dy hm hall' (P := P) w
      have hbw : w.heap[blk]? = some (.map es clock) := by rw [hw]; exact q2
      rcases findX_aux (P := P) (hit := fun _ _ => false) (miss := appK l [(k, v)] fun l => insK (Ob.map l) m h.t fun t => K .any ⟨t, h.nx, h.lo, h.hi⟩) dy l es.toList 0 hm hh with ⟨hz, hn⟩ | ⟨j, u, yu, hk, _⟩
      · rw [appK_eq, insK_eq] at hz
        have hset := Go.MapKept.heap_set (o' := .map (es.push { key := y, val := z, born := clock }) (clock + 1)) hbw
        refine ⟨{ w with heap := w.heap.setIfInBounds blk (.map (es.push { key := y, val := z, born := clock }) (clock + 1)) }, ?_, ⟨rfl, rfl, rfl⟩, ?_⟩
        · unfold Instr.mapUpdate
          rw [Sem.run_bind, r_und hu]
          simp only [Result.andThen]
          rw [Sem.run_bind, Go.MapKept.run_getObj_map hbw]
          simp only [Result.andThen]
          rw [Sem.run_bind, keyOk_run hko dy]
          simp only [Result.andThen]
          rw [Sem.run_bind, hfind, hn w]
          simp only [Result.andThen]
          exact Go.MapKept.run_setObj_map _ hbw
        · refine .mk (r.upd (o' := .map (l ++ [(k, v)])) hb trivial hρ (fun i hi => by rw [hset.2 i hi, hw]) hset.1 ⟨_, _, rfl, ?_, fun i p en hp he => ?_⟩) (.any _) hz
          · simp [q4]
          · rw [List.getElem?_append] at hp
            rw [Array.toList_push, List.getElem?_append] at he
            by_cases hi : i < l.length
            · rw [if_pos hi] at hp
              rw [if_pos (by omega)] at he
              exact q5 i p en hp he
            · rw [if_neg hi] at hp
              rw [if_neg (by omega)] at he
              have hi0 : i - l.length = 0 := by
                have := (List.getElem?_eq_some_iff.1 hp).1
                simp at this
                omega
              rw [hi0] at hp
              rw [← q4, hi0] at he
              simp at hp he
              subst hp he
              exact ⟨dy, dz⟩
      · cases hk
    · cases hh
  · cases hh
theorem xPut_out (r : R ρ M U h H) {mt : TypeId} {om ok ov : Operand} {m : Ps} {k v : V} {x y z : Value} (hx : opv e om = some x) (hy : opv e ok = some y) (hz : opv e ov = some z) (dx : Dn ρ M (.map m) x) (dy : Dn ρ M k y) (dz : Dn ρ M v z)
    (hh : xPut P h mt m k v K = true) : Wr P ρ M U H (.mapUpdate mt om ok ov) e K ∧ Wr P ρ M U H (.insert mt om ok ov) e K := by
  have hr := xPut_run r dx dy dz hh
  constructor
  · refine wr_unit hr fun o ho τ ha => ?_
    obtain ⟨dst, op', type, pos, after, guard⟩ := o
    simp only at ho
    subst ho
    simp only [execOp, ha om (by simp [Op.operands]) _ hx, ha ok (by simp [Op.operands]) _ hy, ha ov (by simp [Op.operands]) _ hz]
  · refine wr_unit hr fun o ho τ ha => ?_
    obtain ⟨dst, op', type, pos, after, guard⟩ := o
    simp only at ho
    subst ho
    simp only [execOp, ha om (by simp [Op.operands]) _ hx, ha ok (by simp [Op.operands]) _ hy, ha ov (by simp [Op.operands]) _ hz]

/-! ### Texts that are walked -/
def tStr (P : Program) (t : TypeId) : Bool := match P.underlying t with | some .string => true | _ => false
noncomputable def xRange (P : Program) (h : Hp) (t : TypeId) (v : V) (K : V → Hp → Bool) : Bool :=
  match v with
  | .str n N => bif tStr P t then newK h (.iter n N 0) fun b h => K (.ptr b 0) h else false
  | _ => false
theorem xRange_out (r : R ρ M U h H) {t : TypeId} {o : Operand} {v : V} {x : Value} (hx : opv e o = some x) (dv : Dn ρ M v x) (hh : xRange P h t v K = true) : Wr P ρ M U H (.range t o) e K := by
  unfold xRange at hh
  split at hh
  · rename_i n N
    obtain ⟨ht, hh⟩ := bif_t hh
    obtain ⟨q, hf, hk⟩ := newK_out hh
    cases dv
    unfold tStr at ht
    split at ht
    · rename_i hu
      refine wr_val (s := fun _ => Instr.range t (.string (strOf n N))) (fun _ w hw => ⟨.pointer (some ⟨w.heap.size, 0, none⟩), w.alloc (.stringIter (strOf n N) 0), ?_, Sim.alloc _ _, ?_⟩) fun o' ho τ ha => ?_
      · unfold Instr.range
        rw [Sem.run_bind, r_und hu]
        rfl
      · rw [heap_alloc, hw]
        exact ⟨_, _, _, r.le_ext hf _, r.alloc (o := .iter n N 0) hf 0 q ⟨rfl, rfl⟩, newAt_dn, hk⟩
      · obtain ⟨dst, op', type, pos, after, guard⟩ := o'
        simp only at ho
        subst ho
        simp only [execOp, ha o (by simp [Op.operands]) _ hx]
    · cases ht
  · cases hh
noncomputable def xNext (h : Hp) (b : Ps) (o : Nat) (isStr : Bool) (K : V → Hp → Bool) : Bool :=
  bif isStr && Nat.beq o 0 then getK b h.t fun ob => (match ob with
    | .iter n N pos => bif Nat.blt pos n then fN ((N / 256 ^ pos) % 256) fun c => bif Nat.blt c 128 then fN (pos + 1) fun p => insK (.iter n N p) b h.t fun t => K (.tup [.bool true, .int .i64 (.ofNat pos), .int .i32 (.ofNat c)]) ⟨t, h.nx, h.lo, h.hi⟩ else false
        else K (.tup [.bool false]) h
    | _ => false) else false
theorem decode_ascii {n N pos : Nat} (hp : pos < n) (hc : (N / 256 ^ pos) % 256 < 128) : Utf8.decode (strOf n N) pos = ((N / 256 ^ pos) % 256, 1) := by
  have hg : ((strOf n N).get! (pos + 0)).toNat = (N / 256 ^ pos) % 256 := by
    have h1 := bl_get n N pos hp
    have h2 : (strOf n N).data.toList = bl n N := by simp [strOf]
    have h3 : (strOf n N).data[pos]? = some (UInt8.ofNat ((N / 256 ^ pos) % 256)) := by rw [← Array.getElem?_toList, h2]; exact h1
    have h4 : (strOf n N).get! (pos + 0) = UInt8.ofNat ((N / 256 ^ pos) % 256) := by
      show (strOf n N).data[pos]! = _
      rw [getElem!_def, h3]
    rw [h4]
    simp
  unfold Utf8.decode
  simp only [hg]
  rw [if_pos hc]
theorem xNext_out (r : R ρ M U h H) {oi : Operand} {b : Ps} {o : Nat} {x : Value} {isStr : Bool} (hx : opv e oi = some x) (dx : Dn ρ M (.ptr b o) x) (hh : xNext h b o isStr K = true) : Wr P ρ M U H (.next oi isStr) e K := by
  unfold xNext at hh
  have h2 := bif_t hh
  clear hh
  obtain ⟨h0, hh⟩ := h2
  simp only [Bool.and_eq_true] at h0
  have ho := Nat.eq_of_beq_eq_true h0.2
  obtain ⟨ob, hb, hh⟩ := getK_out hh
  split at hh
  · rename_i n N pos
    cases dx with
    | ptr hρ =>
    rename_i blk base kap
    obtain ⟨blk2, base2, kap2, x2, q1, q2, _, hx2, hbase⟩ := r.ob b _ hb trivial
    rw [hρ] at q1
    cases q1
    subst hx2 hbase
    subst ho
    have go : (∀ (o' : Oper) (w : World), w.heap = H → ∃ v w', (Instr.next (.pointer (some ⟨blk, 0, none⟩)) true o'.type).run P w = .ok v w' ∧ Sim w w' ∧ Af ρ M U K v w'.heap) → Wr P ρ M U H (.next oi isStr) e K := fun hr =>
      wr_val (s := fun o' => Instr.next (.pointer (some ⟨blk, 0, none⟩)) isStr o'.type) (by rw [h0.1]; exact hr) fun o' ho' τ ha => by
        obtain ⟨dst, op', type, pos', after, guard⟩ := o'
        simp only at ho'
        subst ho'
        simp only [execOp, ha oi (by simp [Op.operands]) _ hx]
    refine go fun o' w hw => ?_
    have hbw : w.heap[blk]? = some (.stringIter (strOf n N) pos) := by rw [hw]; exact q2
    have hget : (getObj blk).run P w = .ok (.stringIter (strOf n N) pos) w := by simp [getObj, Sem.run, hbw]
    cases hp : Nat.blt pos n with
    | true =>
      rw [hp] at hh
      rw [Nat.blt_eq] at hp
      simp only [cond_true, fN_eq] at hh
      obtain ⟨hc, hh⟩ := bif_t hh
      rw [Nat.blt_eq] at hc
      rw [insK_eq] at hh
      have hset := Go.MapKept.heap_set (o' := .stringIter (strOf n N) (pos + 1)) hbw
      have hso : (setObj blk (.stringIter (strOf n N) (pos + 1))).run P w = .ok () { w with heap := w.heap.setIfInBounds blk (.stringIter (strOf n N) (pos + 1)) } := by simp [setObj, Sem.run, hbw]
      refine ⟨.tuple #[.bool true, .int .i64 (.ofNat pos), .int .i32 (.ofNat ((N / 256 ^ pos) % 256))], { w with heap := w.heap.setIfInBounds blk (.stringIter (strOf n N) (pos + 1)) }, ?_, ⟨rfl, rfl, rfl⟩, ?_⟩
      · unfold Instr.next
        simp only
        rw [Sem.run_bind, hget]
        simp only [Result.andThen, strOf_size, if_pos hp, decode_ascii hp hc]
        rw [Sem.run_bind, hso]
        rfl
      · refine .mk (r.upd (o' := .iter n N (pos + 1)) hb trivial hρ (fun i hi => by rw [hset.2 i hi, hw]) hset.1 ⟨rfl, rfl⟩) ?_ hh
        exact (DnL.cons (.bool true) (.cons (.int _ _) (.cons (.int _ _) .nil))).tup
    | false =>
      rw [hp] at hh
      have hp : ¬ pos < n := fun e => by rw [← Nat.blt_eq, hp] at e; cases e
      simp only [cond_false] at hh
      refine ⟨.tuple #[.bool false], w, ?_, Sim.refl w, ?_⟩
      · unfold Instr.next
        simp only
        rw [Sem.run_bind, hget]
        simp only [Result.andThen, strOf_size, if_neg hp]
        rfl
      · rw [hw]
        exact .mk r (DnL.cons (.bool false) .nil).tup hh
  · cases hh
end Go.X
