/- An interpreter that the kernel runs is sound: code, functions, natives. -/
import Derived.Test.YtmgbpamhlojpiaaGreatDoorXe
import Derived.Lib.Bytealg
import Derived.Lib.MakeNoZero
import Derived.Laws.LoneSync
import Derived.Shelf.Strings.Search2
import Derived.Defers
import Derived.RangeFuncLeaves
import Derived.RangeFuncRecord
import Derived.TacticsIn
set_option linter.unusedVariables false
/-! The interpreter: code and functions. -/
namespace Go.X
open Go.Ex
variable {P : Program} {M : Nat} {U : Un}

inductive Xt where
  | n | x (id : Nat) | r
def Xt.to : Xt → Exit
  | .n => .normal
  | .x i => .exit i
  | .r => .ret
abbrev KC := Xt → Tr V → Hp → Bool
noncomputable def seqS (ex : Xt) (env : Tr V) (h : Hp) (k : KC) (next : Bool) : Bool := match ex with | .n => next | .x i => k (.x i) env h | .r => k .r env h
noncomputable def blkS (id : Nat) (ex : Xt) (env : Tr V) (h : Hp) (k : KC) : Bool := match ex with | .n => k .n env h | .x i => bif Nat.beq i id then k .n env h else k (.x i) env h | .r => k .r env h
noncomputable def stepCB (P : Program) (cf : CallF) (ord : Nat → An) (N : Nat) (rec : Code → Tr V → Hp → KC → Bool) (c : Code) (env : Tr V) (h : Hp) (k : KC) : Bool :=
  match c with
  | .skip => k .n env h
  | .region id ops draw => (match draw with
    | false => bif dstsOk N ops then xOps P cf ops ops.toList env h fun env h => k .n env h else false
    | true => bif dstsOk N ops then xDraw P cf ops (ord id) env h fun env h => k .n env h else false)
  | .seq x y => rec x env h fun ex env h => seqS ex env h k (rec y env h k)
  | .cond c x y => xo env c fun v => (match v with | .bool b => (match b with | true => rec x env h k | false => rec y env h k) | _ => false)
  | .block id x => rec x env h fun ex env h => blkS id ex env h k
  | .loop x => rec x env h fun ex env h => seqS ex env h k (rec (.loop x) env h k)
  | .exit id => k (.x id) env h
  | .ret => k .r env h
  | _ => false
/-- A piece of code: which it is is asked once. -/
inductive BC where
  | mk (f : (Code → Tr V → Hp → KC → Bool) → Tr V → Hp → KC → Bool)
noncomputable def boxC (P : Program) (cf : CallF) (ord : Nat → An) (N : Nat) (c : Code) : BC :=
  match c with
  | .skip => .mk fun _ env h k => k .n env h
  | .region id ops draw => (match draw with
    | false => (match dstsOk N ops with | true => .mk fun _ env h k => xOps P cf ops ops.toList env h fun env h => k .n env h | false => .mk fun _ _ _ _ => false)
    | true => (match dstsOk N ops with | true => .mk fun _ env h k => xDraw P cf ops (ord id) env h fun env h => k .n env h | false => .mk fun _ _ _ _ => false))
  | .seq x y => .mk fun rec env h k => rec x env h fun ex env h => seqS ex env h k (rec y env h k)
  | .cond c x y => .mk fun rec env h k => xo env c fun v => (match v with | .bool b => (match b with | true => rec x env h k | false => rec y env h k) | _ => false)
  | .block id x => .mk fun rec env h k => rec x env h fun ex env h => blkS id ex env h k
  | .loop x => .mk fun rec env h k => rec x env h fun ex env h => seqS ex env h k (rec (.loop x) env h k)
  | .exit id => .mk fun _ env h k => k (.x id) env h
  | .ret => .mk fun _ env h k => k .r env h
  | _ => .mk fun _ _ _ _ => false
noncomputable def stepC (P : Program) (cf : CallF) (ord : Nat → An) (N : Nat) (rec : Code → Tr V → Hp → KC → Bool) (c : Code) (env : Tr V) (h : Hp) (k : KC) : Bool := BC.rec (motive := fun _ => Bool) (fun f => f rec env h k) (boxC P cf ord N c)
theorem stepC_eq (P : Program) (cf : CallF) (ord : Nat → An) (N : Nat) (rec : Code → Tr V → Hp → KC → Bool) (c : Code) (env : Tr V) (h : Hp) (k : KC) : stepC P cf ord N rec c env h k = stepCB P cf ord N rec c env h k := by
  cases c with
  | region id ops draw =>
    cases draw with
    | false =>
      show BC.rec (motive := fun _ => Bool) (fun f => f rec env h k) (match dstsOk N ops with | true => .mk fun _ env h k => xOps P cf ops ops.toList env h fun env h => k .n env h | false => .mk fun _ _ _ _ => false) = bif dstsOk N ops then xOps P cf ops ops.toList env h fun env h => k .n env h else false
      generalize dstsOk N ops = b
      cases b <;> rfl
    | true =>
      show BC.rec (motive := fun _ => Bool) (fun f => f rec env h k) (match dstsOk N ops with | true => .mk fun _ env h k => xDraw P cf ops (ord id) env h fun env h => k .n env h | false => .mk fun _ _ _ _ => false) = bif dstsOk N ops then xDraw P cf ops (ord id) env h fun env h => k .n env h else false
      generalize dstsOk N ops = b
      cases b <;> rfl
  | _ => rfl
noncomputable def xC (P : Program) (cf : CallF) (ord : Nat → An) (N : Nat) (n : Nat) : Code → Tr V → Hp → KC → Bool :=
  Nat.rec (motive := fun _ => Code → Tr V → Hp → KC → Bool) (fun _ _ _ _ => false) (fun _ ih => stepC P cf ord N ih) n
theorem xC_succ (P : Program) (cf : CallF) (ord : Nat → An) (N n : Nat) (c : Code) (env : Tr V) (h : Hp) (k : KC) : xC P cf ord N (n + 1) c env h k = stepCB P cf ord N (xC P cf ord N n) c env h k := stepC_eq ..
/-- Where a piece of code ends. -/
def Goal (ρ : Rho) (M : Nat) (U : Un) (N : Nat) (Ds : List Deferred) (w : World) (k : KC) (Q : Exit → Act → World → Prop) : Prop :=
  ∀ ex env h ρ' e a' w', k ex env h = true → Le ρ ρ' → E ρ' M env e → R ρ' M U h w'.heap → Mt N Ds a' e → Sim w w' → Q ex.to a' w'
section
variable {cf : CallF} {ord : Nat → An} {N : Nat} {Ds : List Deferred}
theorem xC_sound (hp : progOk P = true) (hcf : CallOk P M cf) : ∀ (n : Nat) (c : Code) (env : Tr V) (h : Hp) (k : KC), xC P cf ord N n c env h k = true → ∀ (ρ : Rho) (e : Env) (a : Act) (w : World) (Q : Exit → Act → World → Prop), E ρ M env e → R ρ M U h w.heap → Mt N Ds a e →
    Goal ρ M U N Ds w k Q → c.wp P Q a w := by
  intro n
  induction n using Nat.strongRecOn with
  | _ n ih =>
  intro c env h k hh ρ e a w Q he r hm hg
  cases n with
  | zero => cases hh
  | succ n =>
  rw [xC_succ] at hh
  unfold stepCB at hh
  split at hh
  · exact wp_skip (hg .n _ _ ρ e a w hh (Le.refl _) he r hm (Sim.refl w))
  · rename_i id ops draw
    split at hh
    · obtain ⟨hN, hh⟩ := bif_t hh
      have := xOps_out (U := U) hp hcf (ops := ops) (K := fun env h => k .n env h) ops.toList 0 ρ env h e w.heap hh he r
      refine wp_region_list (evOps_out hp hN a w (fun a' w' e' hm' hs' _ ⟨ρ', env', h', hl, he', r', hk⟩ => hg .n _ _ ρ' e' a' w' hk hl he' r' hm' hs') ops.toList 0 e a w (fun o ho => by simpa using ho) this hm (Sim.refl w) (Keeps.refl _ _))
    · obtain ⟨hN, hh⟩ := bif_t hh
      have hmix : P.follows .mixedOrders = true := by unfold progOk at hp; rw [Bool.and_eq_true] at hp; exact hp.1
      exact wp_region_any hmix (xDraw_out (U := U) hp hcf hN a w.drew w.drew e (fun a' w' e' hm' hs' _ ⟨ρ', env', h', hl, he', r', hk⟩ => hg .n _ _ ρ' e' a' w' hk hl he' r' hm' ((Sim.drew w).trans hs')) hh he r hm (Sim.refl _))
  · rename_i x y
    refine wp_seq (ih n (by omega) x env h _ hh ρ e a w _ he r hm ?_)
    intro ex env' h' ρ' e' a' w' hk hl he' r' hm' hs'
    dsimp only at hk
    unfold seqS at hk
    split at hk
    · exact ih n (by omega) y env' h' k hk ρ' e' a' w' Q he' r' hm' fun ex2 env2 h2 ρ2 e2 a2 w2 hk2 hl2 he2 r2 hm2 hs2 => hg ex2 env2 h2 ρ2 e2 a2 w2 hk2 (hl.trans hl2) he2 r2 hm2 (hs'.trans hs2)
    · exact hg _ _ _ ρ' e' a' w' hk hl he' r' hm' hs'
    · exact hg _ _ _ ρ' e' a' w' hk hl he' r' hm' hs'
  · rename_i c x y
    obtain ⟨v, y', hx, hd, hh⟩ := xo_out he r.gl hh
    split at hh
    · cases hd
      split at hh
      · exact wp_cond_true (hm.eval hx) (ih n (by omega) x env h k hh ρ e a w Q he r hm hg)
      · exact wp_cond_false (hm.eval hx) (ih n (by omega) y env h k hh ρ e a w Q he r hm hg)
    · cases hh
  · rename_i id x
    refine wp_block (ih n (by omega) x env h _ hh ρ e a w _ he r hm ?_)
    intro ex env' h' ρ' e' a' w' hk hl he' r' hm' hs'
    dsimp only at hk
    unfold blkS at hk
    split at hk
    · exact hg .n _ _ ρ' e' a' w' hk hl he' r' hm' hs'
    · rename_i i
      show if i = id then Q .normal a' w' else Q (.exit i) a' w'
      by_cases hi : i = id
      · subst hi
        rw [if_pos rfl]
        rw [show Nat.beq i i = true by simp] at hk
        exact hg .n _ _ ρ' e' a' w' hk hl he' r' hm' hs'
      · rw [if_neg hi]
        rw [beq_dec, decide_eq_false hi] at hk
        exact hg (.x i) _ _ ρ' e' a' w' hk hl he' r' hm' hs'
    · exact hg .r _ _ ρ' e' a' w' hk hl he' r' hm' hs'
  · rename_i x
    refine wp_loop_ghost (fun m a' w' => m ≤ n + 1 ∧ ∃ env' h' ρ' e', xC P cf ord N m (.loop x) env' h' k = true ∧ Le ρ ρ' ∧ E ρ' M env' e' ∧ R ρ' M U h' w'.heap ∧ Mt N Ds a' e' ∧ Sim w w') (n + 1)
      ⟨Nat.le_refl _, env, h, ρ, e, hh, Le.refl _, he, r, hm, Sim.refl w⟩ ?_
    rintro m a1 w1 ⟨hmn, env1, h1, ρ1, e1, hx1, hl1, he1, r1, hm1, hs1⟩
    cases m with
    | zero => cases hx1
    | succ m =>
    rw [xC_succ] at hx1
    refine ih m (by omega) x env1 h1 _ hx1 ρ1 e1 a1 w1 _ he1 r1 hm1 ?_
    intro ex env2 h2 ρ2 e2 a2 w2 hk hl2 he2 r2 hm2 hs2
    dsimp only at hk
    unfold seqS at hk
    split at hk
    · exact ⟨m, by omega, by omega, env2, h2, ρ2, e2, hk, hl1.trans hl2, he2, r2, hm2, hs1.trans hs2⟩
    · exact hg _ _ _ ρ2 e2 a2 w2 hk (hl1.trans hl2) he2 r2 hm2 (hs1.trans hs2)
    · exact hg _ _ _ ρ2 e2 a2 w2 hk (hl1.trans hl2) he2 r2 hm2 (hs1.trans hs2)
  · exact wp_exit (hg (.x _) _ _ ρ e a w hh (Le.refl _) he r hm (Sim.refl w))
  · exact wp_ret (hg .r _ _ ρ e a w hh (Le.refl _) he r hm (Sim.refl w))
  · cases hh
end

/-! ### Results, functions -/
noncomputable def cellK (P : Program) (h : Hp) (t : TypeId) (p : V) (k : V → Bool) : Bool := match p with | .ptr b o => xLoad P h t b o k | _ => false
noncomputable def xRes (P : Program) (env : Tr V) (h : Hp) (l : List ResultVar) (k : List V → Bool) : Bool :=
  List.rec (motive := fun _ => (List V → Bool) → Bool) (fun k => k [])
    (fun rv _ ih k => match rv with
      | .tmp t => getK (pth t) env fun v => ih fun r => k (v :: r)
      | .cell a t => getK (pth a) env fun p => cellK P h t p fun v => ih fun r => k (v :: r)) l k
def resS (l : List V) (K : V → Hp → Bool) (h : Hp) : Bool := match l with | [v] => K v h | l => K (.tup l) h
theorem xRes_out {ρ : Rho} {env : Tr V} {h : Hp} {H : Heap} {e : Env} {tmps : Array Value} (he : E ρ M env e) (r : R ρ M U h H) (hm : ∀ t v, e t = some v → tmps[t]? = some v) : ∀ {l : List ResultVar} {k : List V → Bool}, xRes P env h l k = true →
    ∃ vs xs, k vs = true ∧ DnL ρ M vs xs ∧ ∀ (g : ResultVar → Sem Value), (∀ t, g (.tmp t) = pure (tmps.getD t undef)) → (∀ a t, g (.cell a t) = do loadVar t (← asAddr (tmps.getD a undef))) → ∀ w, w.heap = H → (l.mapM g).run P w = .ok xs w := by
  intro l
  induction l with
  | nil => intro k hh; exact ⟨[], [], hh, .nil, fun g _ _ w _ => by simp⟩
  | cons rv l ih =>
    intro k hh
    cases rv with
    | tmp t =>
      obtain ⟨v, hv, hh⟩ := getK_out (p := pth t) (t := env) (k := fun v => xRes P env h l fun r => k (v :: r)) hh
      obtain ⟨x, hx, hd⟩ := he t v hv
      obtain ⟨vs, xs, hk, hl, hr⟩ := ih hh
      refine ⟨v :: vs, x :: xs, hk, .cons hd hl, fun g hg hg' w hw => ?_⟩
      rw [List.mapM_cons, Sem.run_bind, hg]
      have : tmps.getD t undef = x := by rw [Array.getD_eq_getD_getElem?, hm t x hx]; rfl
      simp only [this, Sem.run_pure, Result.andThen]
      rw [Sem.run_bind, hr g hg hg' w hw]
      rfl
    | cell a t =>
      obtain ⟨p, hv, hh⟩ := getK_out (p := pth a) (t := env) (k := fun p => cellK P h t p fun v => xRes P env h l fun r => k (v :: r)) hh
      obtain ⟨x, hx, hd⟩ := he a p hv
      unfold cellK at hh
      split at hh
      · rename_i b o
        cases hd with
        | ptr hρ =>
        rename_i blk base kap
        obtain ⟨v, y, hdv, hh, hload⟩ := xLoad_run r hh hρ
        obtain ⟨vs, xs, hk, hl, hr⟩ := ih hh
        refine ⟨v :: vs, y :: xs, hk, .cons hdv hl, fun g hg hg' w hw => ?_⟩
        rw [List.mapM_cons, Sem.run_bind, hg']
        have : tmps.getD a undef = .pointer (some ⟨blk, base + o, none⟩) := by rw [Array.getD_eq_getD_getElem?, hm a _ hx]; rfl
        rw [this, Sem.run_bind, show ∀ ad, (asAddr (.pointer (some ad))).run P w = .ok ad w from fun _ => rfl]
        simp only [Result.andThen]
        rw [hload w hw]
        dsimp only
        rw [Sem.run_bind, hr g hg hg' w hw]
        rfl
      · cases hh
theorem resS_out {ρ : Rho} {vs : List V} {xs : List Value} {K : V → Hp → Bool} {h : Hp} (hd : DnL ρ M vs xs) (hh : resS vs K h = true) : ∃ v, Dn ρ M v (if h : xs.toArray.size = 1 then xs.toArray[0] else .tuple xs.toArray) ∧ K v h = true := by
  unfold resS at hh
  split at hh
  · obtain ⟨x, a', rfl, h1, h2⟩ := hd.uncons
    obtain rfl := h2.unnil
    exact ⟨_, by simpa using h1, hh⟩
  · rename_i hne
    refine ⟨_, ?_, hh⟩
    rw [dif_neg]
    · exact hd.tup
    · intro hs
      simp only [List.size_toArray] at hs
      obtain ⟨x, rfl⟩ := List.length_eq_one_iff.1 hs
      have := hd.1
      obtain ⟨v, rfl⟩ := List.length_eq_one_iff.1 (show vs.length = 1 by simpa using this)
      exact hne v rfl
/-- The arguments, laid. -/
noncomputable def argsK (vs : List V) (i : Nat) (env : Tr V) (k : Tr V → Bool) : Bool :=
  List.rec (motive := fun _ => Nat → Tr V → Bool) (fun _ env => k env) (fun v _ ih i env => insK v (pth i) env fun env => ih (Nat.succ i) env) vs i env
theorem argsK_out {ρ : Rho} {k : Tr V → Bool} : ∀ {vs : List V} {i : Nat} {env : Tr V}, argsK vs i env k = true → ∀ {xs : List Value} {e : Env}, DnL ρ M vs xs → E ρ M env e → (∀ j x, xs[j]? = some x → e (i + j) = some x) → ∃ env', k env' = true ∧ E ρ M env' e := by
  intro vs
  induction vs with
  | nil => intro i env hh xs e _ he _; exact ⟨env, hh, he⟩
  | cons v vs ih =>
    intro i env hh xs e hd he hx
    obtain ⟨x, xs, rfl, h1, h2⟩ := hd.uncons
    replace hh : (insK v (pth i) env fun env => argsK vs (Nat.succ i) env k) = true := hh
    rw [insK_eq] at hh
    refine ih hh h2 (fun t u hu => ?_) (fun j y hy => by have := hx (j + 1) y (by simpa using hy); rwa [show i + (j + 1) = i.succ + j by omega] at this)
    rw [look_ins] at hu
    by_cases hp : pth t = pth i
    · rw [if_pos hp] at hu
      cases hu
      have ht := pth_inj hp
      subst ht
      exact ⟨x, by have := hx 0 x rfl; simpa using this, h1⟩
    · rw [if_neg hp] at hu
      exact he t u hu
/-- The body of a function of the program's own, run. -/
noncomputable def stepFb (P : Program) (ann : FuncId → Nat → An) (L : Nat) (rec : CallF) : CallF := fun f vs h K =>
  match P.funcs[f]? with
  | none => false
  | some fn => (match fn.body with
    | none => false
    | some c => lenK' vs fun n => bif Nat.ble n fn.ntmps then argsK vs 0 .lf fun env =>
        xC P rec (ann f) fn.ntmps L c env h fun ex env h => (match ex with | .x _ => false | .n => xRes P env h fn.results.toList fun r => resS r K h | .r => xRes P env h fn.results.toList fun r => resS r K h) else false)
def BodyOk (P : Program) (M : Nat) (bd : CallF) : Prop := ∀ (ρ : Rho) (U : Un) (h : Hp) (H : Heap) (f : FuncId) (vs : List V) (xs : List Value) (K : V → Hp → Bool), R ρ M U h H → DnL ρ M vs xs → bd f vs h K = true →
  ∃ fn c, P.funcs[f]? = some fn ∧ fn.body = some c ∧ ∀ w : World, w.heap = H → c.wp P (bodyPost P fn fun e w' => ∃ v, e = .returned v ∧ Sim w w' ∧ Af ρ M U K v w'.heap) { tmps := xs.toArray ++ Array.replicate (fn.ntmps - xs.toArray.size) undef, defers := [] } w
/-- A function that has no body, or one that is not walked: what it comes to, from what calls come to, and bodies. -/
abbrev NatF := CallF → CallF → CallF
def NatOk (P : Program) (M : Nat) (nat : NatF) : Prop := ∀ rec bd, CallOk P M rec → BodyOk P M bd → ∀ (ρ : Rho) (U : Un) (h : Hp) (H : Heap) (f : FuncId) (vs : List V) (xs : List Value) (K : V → Hp → Bool), R ρ M U h H → DnL ρ M vs xs → nat rec bd f vs h K = true → CW P f xs H (Af ρ M U K)
noncomputable def stepF (P : Program) (ann : FuncId → Nat → An) (ov : FuncId → Bool) (nat : NatF) (L : Nat) (rec : CallF) : CallF := fun f vs h K =>
  bif ov f then nat rec (stepFb P ann L rec) f vs h K else stepFb P ann L rec f vs h K
noncomputable def xF (P : Program) (ann : FuncId → Nat → An) (ov : FuncId → Bool) (nat : NatF) (L n : Nat) : CallF := Nat.rec (motive := fun _ => CallF) (fun _ _ _ _ => false) (fun _ ih => stepF P ann ov nat L ih) n
theorem mt0 {n m : Nat} {xs : List Value} (hle : m ≤ n) (hxl : xs.length = m) : Mt n [] { tmps := xs.toArray ++ Array.replicate (n - xs.toArray.size) undef, defers := [] } (env0 n xs) := by
  refine ⟨by simp; omega, rfl, fun t v hv => ?_⟩
  unfold env0 at hv
  rw [Array.getElem?_append]
  cases h1 : Nat.blt t xs.length with
  | true =>
    rw [h1] at hv
    have : t < xs.length := by rw [Nat.blt_eq] at h1; exact h1
    rw [if_pos (by simpa using this)]
    simpa using hv
  | false =>
    rw [h1] at hv
    have hge : ¬ t < xs.length := by rw [← Nat.blt_eq, h1]; simp
    rw [if_neg (by simpa using hge)]
    cases h2 : Nat.blt t n with
    | true =>
      rw [h2] at hv
      have h2' : t < n := by rw [Nat.blt_eq] at h2; exact h2
      simp only [cond_false, cond_true, Option.some.injEq] at hv
      subst hv
      rw [Array.getElem?_replicate, if_pos (by simp; omega)]
    | false => rw [h2] at hv; cases hv
theorem stepFb_ok (hp : progOk P = true) {ann : FuncId → Nat → An} {L : Nat} {rec : CallF} (ih : CallOk P M rec) : BodyOk P M (stepFb P ann L rec) := by
  intro ρ U h H f vs xs K r hd hh
  unfold stepFb at hh
  split at hh
  · cases hh
  · rename_i fn hf
    split at hh
    · cases hh
    · rename_i c hb
      rw [lenK'_eq] at hh
      obtain ⟨hle, hh⟩ := bif_t hh
      have hle := Nat.le_of_ble_eq_true hle
      refine ⟨fn, c, hf, hb, fun w hw => ?_⟩
      have hxl : xs.length = vs.length := hd.1.symm
      obtain ⟨env, hh, he⟩ := argsK_out (ρ := ρ) (M := M) hh (e := env0 fn.ntmps xs) hd (fun t v hv => by rw [look_lf] at hv; cases hv) (fun j x hx => by
        have hj := (List.getElem?_eq_some_iff.1 hx).1
        unfold env0
        rw [Nat.zero_add, show Nat.blt j xs.length = true by rw [Nat.blt_eq]; exact hj]
        exact hx)
      refine xC_sound (U := U) (Ds := []) hp ih L c env h _ hh ρ (env0 fn.ntmps xs) _ w _ he (by rw [hw]; exact r) ?_ ?_
      · exact mt0 hle hxl
      · intro ex env' h' ρ' e' a' w' hk hl he' r' hm' hs'
        have fin : (xRes P env' h' fn.results.toList fun r => resS r K h') = true → bodyPost P fn (fun e w' => ∃ v, e = .returned v ∧ Sim w w' ∧ Af ρ M U K v w'.heap) .ret a' w' := by
          intro hk
          obtain ⟨vs', xs', hk, hdr, hrun⟩ := xRes_out (P := P) he' r' hm'.val hk
          obtain ⟨v, hdv, hk⟩ := resS_out hdr hk
          have hres : (results fn a'.tmps).run P w' = .ok (if h : xs'.toArray.size = 1 then xs'.toArray[0] else .tuple xs'.toArray) w' := by
            unfold results
            rw [Sem.run_bind, Array.mapM_eq_mapM_toList, Sem.run_map]
            rw [hrun _ (fun t => rfl) (fun a t => rfl) w' rfl]
            rfl
          exact ⟨hm'.defers, _, hres, _, rfl, hs', ρ', v, h', hl, r', hdv, hk⟩
        cases ex with
        | n => exact fin hk
        | x i => cases hk
        | r => exact fin hk
theorem BodyOk.cw {bd : CallF} (hb : BodyOk P M bd) : CallOk P M bd := by
  intro ρ U h H f vs xs K r hd hh
  obtain ⟨fn, c, hf, hc, hw⟩ := hb ρ U h H f vs xs K r hd hh
  exact .inl ⟨fn, hf, by rw [hc]; rfl, fun w hhw => calls_of_wp hf hc (hw w hhw)⟩
theorem xF_sound (hp : progOk P = true) {ann : FuncId → Nat → An} {ov : FuncId → Bool} {nat : NatF} (hnat : NatOk P M nat) {L : Nat} : ∀ n, CallOk P M (xF P ann ov nat L n) := by
  intro n
  induction n with
  | zero => intro ρ U h H f vs xs K _ _ hh; cases hh
  | succ n ih =>
    intro ρ U h H f vs xs K r hd hh
    replace hh : (bif ov f then nat (xF P ann ov nat L n) (stepFb P ann L (xF P ann ov nat L n)) f vs h K else stepFb P ann L (xF P ann ov nat L n) f vs h K) = true := hh
    cases ho : ov f with
    | true =>
      rw [ho] at hh
      exact hnat _ _ ih (stepFb_ok hp ih) ρ U h H f vs xs K r hd hh
    | false =>
      rw [ho] at hh
      exact (stepFb_ok hp ih).cw ρ U h H f vs xs K r hd hh
end Go.X
/-! The interpreter: functions that have no body. -/
namespace Go.X
open Go.Ex
variable {P : Program} {ρ : Rho} {M : Nat} {U : Un} {h : Hp} {H : Heap}

/-! ### Which they are -/
inductive Nt where
  | same | byte | count | noZero (el : TypeId) | ld32 | st32 | cas | addT | mark0 (on : Bool) | mark1 (rel : Bool)
def extOf (fn : Func) : Nt → Array Value → Sem Value
  | .same => Extern.AbiNoEscape.same
  | .byte => Extern.BytealgIndexByte.indexByte
  | .count => Extern.BytealgCount.count
  | .noZero _ => Extern.BytealgMakeNoZero.makeNoZero fn.params fn.resultTypes
  | .ld32 => Extern.Atomic.loadT (.int .u32)
  | .st32 => Extern.Atomic.storeT
  | .cas => Extern.Atomic.casT (.int .i32)
  | .addT => Extern.Atomic.update (Op.intArith .add) .i32 true
  | .mark0 true => fun _ => do mark .enable; pure Extern.Race.none_
  | .mark0 false => fun _ => do mark .disable; pure Extern.Race.none_
  | .mark1 false => Extern.Race.marked .acquire
  | .mark1 true => Extern.Race.marked .releaseMerge
def elOk (P : Program) (fn : Func) : Nt → Prop
  | .noZero el => ∃ t, fn.resultTypes = #[t] ∧ P.underlying t = some (.slice el)
  | _ => True
structure NtIs (P : Program) (f : FuncId) (k : Nt) : Prop where
  is : ∃ fn, P.funcs[f]? = some fn ∧ fn.body.isNone = true ∧ Extern.findNext fn = none ∧ Extern.find fn = some (extOf fn k) ∧ elOk P fn k
theorem run_marked {α : Type} (m : Mark) (s : Sem α) (w : World) : (do mark m; s).run P w = s.run P w := by
  rw [Sem.run_bind]
  rfl
theorem cw_ext (hp : progOk P = true) {f : FuncId} {fn : Func} {k : Nt} (hf : P.funcs[f]? = some fn) (hb : fn.body.isNone = true) (hn : Extern.findNext fn = none) (hfd : Extern.find fn = some (extOf fn k)) {xs : List Value} {Kp : Value → Heap → Prop}
    (hk : ∀ w : World, w.heap = H → ∃ u w', (extOf fn k xs.toArray).run P w = .ok u w' ∧ Sim w w' ∧ Kp u w'.heap) : CW P f xs H Kp := by
  refine .inr fun w hw => ?_
  obtain ⟨u, w', hr, hs, hq⟩ := hk w hw
  refine ⟨u, w', ?_, hs, hq⟩
  unfold callFunc
  rw [Sem.run_bind, run_program]
  simp only [Result.andThen, hf, progOk_num hp hf, hb, Bool.false_eq_true, if_false, if_true]
  rw [run_marked]
  simp only [hn, hfd]
  rw [Sem.run_bind, hr]
  rfl

/-! ### Bytes -/
/-- The first place of a byte. -/
noncomputable def ibF (c : Nat) (n : Nat) : Nat → Nat → (Int → Bool) → Bool :=
  Nat.rec (motive := fun _ => Nat → Nat → (Int → Bool) → Bool) (fun _ _ k => k (-1))
    (fun _ ih i N k => bif Nat.beq (N % 256) c then fN i fun i => k (Int.ofNat i) else fN (N / 256) fun N => fN (Nat.succ i) fun i => ih i N k) n
def ibL (c : UInt8) : List UInt8 → Nat → Int
  | [], _ => -1
  | b :: r, i => if b == c then (i : Int) else ibL c r (i + 1)
theorem ofNat_beq {a c : Nat} (ha : a < 256) (hc : c < 256) : (UInt8.ofNat a == UInt8.ofNat c) = Nat.beq a c := by
  rw [beq_dec]
  by_cases h : a = c
  · subst h; simp
  · have : UInt8.ofNat a ≠ UInt8.ofNat c := fun e => h (by
      have := congrArg UInt8.toNat e
      simpa [Nat.mod_eq_of_lt ha, Nat.mod_eq_of_lt hc] using this)
    simp [h, this]
theorem ibF_eq {c : Nat} (hc : c < 256) : ∀ (n i N : Nat) (k : Int → Bool), ibF c n i N k = k (ibL (UInt8.ofNat c) (bl n N) i)
  | 0, i, N, k => rfl
  | n + 1, i, N, k => by
    show (bif Nat.beq (N % 256) c then fN i fun i => k (Int.ofNat i) else fN (N / 256) fun N => fN (Nat.succ i) fun i => ibF c n i N k) = k (if (UInt8.ofNat (N % 256) == UInt8.ofNat c) = true then (i : Int) else ibL (UInt8.ofNat c) (bl n (N / 256)) (i + 1))
    rw [ofNat_beq (Nat.mod_lt _ (by omega)) hc]
    cases Nat.beq (N % 256) c with
    | true => simp [fN_eq]
    | false => simp only [cond_false, fN_eq, Bool.false_eq_true, if_false]; exact ibF_eq hc n (i + 1) (N / 256) k
theorem ibL_eq (c : UInt8) : ∀ (l : List UInt8) (i : Nat), ibL c l i = if Lib.indexByte l c = -1 then -1 else Lib.indexByte l c + i
  | [], i => by simp [ibL, Lib.indexByte]
  | b :: r, i => by
    have hr := Lib.indexByte_ge r c
    unfold ibL Lib.indexByte
    cases h : b == c with
    | true => simp
    | false =>
      simp only [Bool.false_eq_true, if_false]
      rw [ibL_eq c r (i + 1)]
      by_cases h1 : Lib.indexByte r c = -1
      · simp [h1]
      · have h2 : ¬ (Lib.indexByte r c == -1) = true := by simpa using h1
        rw [if_neg h1, if_neg h2, if_neg (by omega)]
        omega
noncomputable def ctF (c : Nat) (n : Nat) : Nat → Nat → (Nat → Bool) → Bool :=
  Nat.rec (motive := fun _ => Nat → Nat → (Nat → Bool) → Bool) (fun i _ k => k i)
    (fun _ ih i N k => fN (N / 256) fun N' => bif Nat.beq (N % 256) c then fN (Nat.succ i) fun i => ih i N' k else ih i N' k) n
theorem ctF_eq {c : Nat} (hc : c < 256) : ∀ (n i N : Nat) (k : Nat → Bool), ctF c n i N k = k ((bl n N).foldl (fun n x => if x == UInt8.ofNat c then n + 1 else n) i)
  | 0, i, N, k => rfl
  | n + 1, i, N, k => by
    show (fN (N / 256) fun N' => bif Nat.beq (N % 256) c then fN (Nat.succ i) fun i => ctF c n i N' k else ctF c n i N' k) = _
    simp only [bl, List.foldl_cons]
    rw [ofNat_beq (Nat.mod_lt _ (by omega)) hc, fN_eq]
    cases Nat.beq (N % 256) c with
    | true => simp only [cond_true, fN_eq, if_true]; exact ctF_eq hc n (i + 1) (N / 256) k
    | false => simp only [cond_false, Bool.false_eq_true, if_false]; exact ctF_eq hc n i (N / 256) k
theorem fold_count (c : UInt8) : ∀ (l : List UInt8) (n : Nat), l.foldl (fun n x => if x == c then n + 1 else n) n = n + Lib.countByte l c
  | [], n => by simp [Lib.countByte]
  | b :: l, n => by
    rw [List.foldl_cons, fold_count c l]
    unfold Lib.countByte
    rw [List.count_cons]
    cases b == c <;> simp <;> omega
theorem toU8 {c : Nat} : (Int.ofNat c).toNat.toUInt8 = UInt8.ofNat c := rfl
noncomputable def cellsAtK (h : Hp) (b : Ps) (K : List V → TypeId → Nat → Bool → Bool) : Bool := getK b h.t fun ob => (match ob with | .cells c el es op false => K c el es op | _ => false)
noncomputable def putCell (h : Hp) (b : Ps) (o : Nat) (c : List V) (el : TypeId) (es : Nat) (op : Bool) (v : V) (K : Hp → Bool) : Bool := setK c o v fun c => insK (.cells c el es op false) b h.t fun t => K ⟨t, h.nx, h.lo, h.hi⟩
noncomputable def xLd (v : V) (h : Hp) (K : V → Hp → Bool) : Bool := match v with | .int .u32 n => K (.int .u32 n) h | _ => false
noncomputable def xSt (v : V) (K : Bool) : Bool := match v with | .int _ _ => K | _ => false
noncomputable def xCas (h : Hp) (b : Ps) (o : Nat) (c : List V) (el : TypeId) (es : Nat) (op : Bool) (x : Int) (v : V) (y : V) (K : V → Hp → Bool) : Bool :=
  match v with
  | .int .i32 z => bif eqI z x then putCell h b o c el es op y fun h => K (.bool true) h else K (.bool false) h
  | _ => false
noncomputable def xAddT (h : Hp) (b : Ps) (o : Nat) (c : List V) (el : TypeId) (es : Nat) (op : Bool) (y : Int) (v : V) (K : V → Hp → Bool) : Bool :=
  match v with
  | .int .i32 z => fI (IntKind.i32.wrap (z + y)) fun z => putCell h b o c el es op (.int .i32 z) fun h => K (.int .i32 z) h
  | _ => false
/-- A function without a body. -/
noncomputable def xNt (k : Nt) (vs : List V) (h : Hp) (K : V → Hp → Bool) : Bool :=
  match k, vs with
  | .same, [v] => K v h
  | .byte, [.str n N, .int .u8 (.ofNat c)] => bif Nat.blt c 256 then ibF c n 0 N fun i => K (.int .i64 i) h else false
  | .count, [.str n N, .int .u8 (.ofNat c)] => bif Nat.blt c 256 then ctF c n 0 N fun i => K (.int .i64 (Int.ofNat i)) h else false
  | .noZero el, [.int .i64 (.ofNat n)] => bif Nat.blt n 1000000000 then zerosK [.any] n fun cs => newK h (.cells cs el 1 true false) fun p h => K (.sopen p 1 n 0) h else false
  | .ld32, [.ptr b o] => cellsAtK h b fun c _ _ _ => nthK c o fun v => xLd v h K
  | .st32, [.ptr b o, v] => xSt v (cellsAtK h b fun c el es op => putCell h b o c el es op v fun h => K (.tup []) h)
  | .cas, [.ptr b o, .int .i32 x, .int .i32 y] => cellsAtK h b fun c el es op => nthK c o fun v => xCas h b o c el es op x v (.int .i32 y) K
  | .addT, [.ptr b o, .int .i32 y] => cellsAtK h b fun c el es op => nthK c o fun v => xAddT h b o c el es op y v K
  | .mark0 _, [] => K (.tup []) h
  | .mark1 _, [.ptr _ _] => K (.tup []) h
  | _, _ => false
theorem cellsAtK_out {b : Ps} {K : List V → TypeId → Nat → Bool → Bool} (hh : cellsAtK h b K = true) : ∃ c el es op, look b h.t = some (.cells c el es op false) ∧ K c el es op = true := by
  unfold cellsAtK at hh
  obtain ⟨ob, hb, hh⟩ := getK_out hh
  split at hh
  · exact ⟨_, _, _, _, hb, hh⟩
  · cases hh
theorem putCell_out (r : R ρ M U h H) {b : Ps} {o : Nat} {c : List V} {el : TypeId} {es : Nat} {op : Bool} (hb : look b h.t = some (.cells c el es op false)) {blk base kap : Nat} (hρ : ρ b = some (blk, base, kap)) {v : V} {x : Value} (hv : Dn ρ M v x) {K : Hp → Bool} (hh : putCell h b o c el es op v K = true) :
    (∃ u, hcell H ⟨blk, base + o, none⟩ = some u) ∧ hfrozen H ⟨blk, base + o, none⟩ = false ∧ ∃ h', K h' = true ∧ R ρ M U h' (hset H ⟨blk, base + o, none⟩ x) := by
  unfold putCell at hh
  obtain ⟨hj, hh⟩ := setK_out hh
  rw [insK_eq] at hh
  obtain ⟨a1, a2, a3⟩ := r.write hb hρ hj hv
  exact ⟨a1, a2, _, hh, a3⟩
/-- A cell is set. -/
theorem run_stA {w : World} (hw : w.heap = H) {a : Addr} {v : Value} {m : Mode} (hv : v.oneCell' = true) {u : Value} (hc : hcell H a = some u) (hf : hfrozen H a = false) : (store a v m).run P w = .ok () (w.setCell a v) := by
  rw [run_store P w a v m hv, cell?_eq, hw, hc]
  simp only []
  rw [frozen?_eq, hw, hf]
  rfl
theorem xNt_out (hp : progOk P = true) {f : FuncId} {k : Nt} (hk : NtIs P f k) (r : R ρ M U h H) {vs : List V} {xs : List Value} (hd : DnL ρ M vs xs) {K : V → Hp → Bool} (hh : xNt k vs h K = true) : CW P f xs H (Af ρ M U K) := by
  obtain ⟨fn, hf, hb, hn, hfd, hel⟩ := hk.is
  have hname : (fn.name == "runtime.NumGoroutine") = false := progOk_num hp hf
  unfold xNt at hh
  split at hh
  · obtain ⟨x, a, rfl, h1, h2⟩ := hd.uncons
    obtain rfl := h2.unnil
    exact cw_ext hp hf hb hn hfd fun w hw => ⟨x, w, rfl, Sim.refl w, .mk (hw ▸ r) h1 hh⟩
  · rename_i n N c
    have h2 := bif_t hh
    clear hh
    obtain ⟨hc, hh⟩ := h2
    have hc : c < 256 := by rw [Nat.blt_eq] at hc; exact hc
    obtain ⟨x, a, rfl, h1, h2⟩ := hd.uncons
    obtain ⟨y, a, rfl, h3, h4⟩ := h2.uncons
    obtain rfl := h4.unnil
    cases h1
    cases h3
    rw [ibF_eq hc] at hh
    refine cw_ext hp hf hb hn hfd fun w hw => ⟨.int .i64 (Lib.indexByte (bl n N) (UInt8.ofNat c)), w, Lib.run_indexByteString (P := P) (strOf n N) (Int.ofNat c) w, Sim.refl w, .mk (hw ▸ r) (.int .i64 _) ?_⟩
    rw [ibL_eq] at hh
    have : Lib.indexByte (bl n N) (UInt8.ofNat c) = if Lib.indexByte (bl n N) (UInt8.ofNat c) = -1 then -1 else Lib.indexByte (bl n N) (UInt8.ofNat c) + (0 : Nat) := by
      split <;> omega
    rw [this]
    exact hh
  · rename_i n N c
    have h2 := bif_t hh
    clear hh
    obtain ⟨hc, hh⟩ := h2
    have hc : c < 256 := by rw [Nat.blt_eq] at hc; exact hc
    obtain ⟨x, a, rfl, h1, h2⟩ := hd.uncons
    obtain ⟨y, a, rfl, h3, h4⟩ := h2.uncons
    obtain rfl := h4.unnil
    cases h1
    cases h3
    rw [ctF_eq hc, fold_count, Nat.zero_add] at hh
    exact cw_ext hp hf hb hn hfd fun w hw => ⟨.int .i64 (Int.ofNat (Lib.countByte (bl n N) (UInt8.ofNat c))), w, Lib.run_countString (P := P) (strOf n N) (Int.ofNat c) w, Sim.refl w, .mk (hw ▸ r) (.int .i64 _) hh⟩
  · rename_i el n
    have h2 := bif_t hh
    clear hh
    obtain ⟨hc, hh⟩ := h2
    have hc : n < 1000000000 := by rw [Nat.blt_eq] at hc; exact hc
    obtain ⟨x, a, rfl, h1, h2⟩ := hd.uncons
    obtain rfl := h2.unnil
    cases h1
    rw [zerosK_eq] at hh
    obtain ⟨q, hq, hh⟩ := newK_out hh
    obtain ⟨t, ht, hu⟩ := hel
    refine cw_ext hp hf hb hn hfd fun w hw => ?_
    obtain ⟨cs, hr, hle, _⟩ := Lib.run_makeNoZero (P := P) w fn.params t el hu n (by omega)
    refine ⟨_, _, by show ((Extern.BytealgMakeNoZero.makeNoZero fn.params fn.resultTypes) #[.int .i64 (n : Int)]).run P w = _; rw [ht]; exact hr, ((Sim.drew w).trans (Sim.drew _)).trans (Sim.alloc _ _), ?_⟩
    subst hw
    have hob : ObR ρ M 0 cs.size (.cells (List.replicate n [V.any]).flatten el 1 true false) (.cells cs el) := by
      refine ⟨cs, (0, 0), rfl, fun j v hv => ?_, ?_, ?_, fun _ => .inl rfl, fun h => by cases h⟩
      · have hj : j < n := by have := (List.getElem?_eq_some_iff.1 hv).1; simpa using this
        have hv : v = .any := by
          have := List.mem_of_getElem? hv
          simp at this
          exact this.2
        subst hv
        exact ⟨cs[j]'(by omega), by rw [Nat.zero_add]; exact Array.getElem?_eq_getElem _, .any _⟩
      · simp only [rng, cond_true]; simp; omega
      · simp only [rng, cond_true]; omega
    refine ⟨_, _, _, r.le_ext hq (w.heap.size, 0, cs.size), r.alloc hq cs.size q hob, ?_, hh⟩
    have := Dn.sopen (M := M) (es := 1) (l := n) (d := 0) (ext_same ρ (.i h.nx) (w.heap.size, 0, cs.size)) (by omega)
    simpa using this
  · rename_i b o
    have h9 := cellsAtK_out hh
    clear hh
    obtain ⟨c, el, es, op, hb', h9⟩ := h9
    obtain ⟨v, hv, hh⟩ := nthK_out h9
    clear h9
    obtain ⟨x, a, rfl, h1, h2⟩ := hd.uncons
    obtain rfl := h2.unnil
    cases h1 with
    | ptr hρ =>
    rename_i blk base kap
    obtain ⟨x, hx, hdx⟩ := r.read hb' hρ hv
    unfold xLd at hh
    split at hh
    · cases hdx
      exact .inr fun w hw => ⟨_, w, run_call_load hf hname hb hn .u32 hfd (cell_of hw hx), Sim.refl w, .mk (hw ▸ r) (.int _ _) hh⟩
    · cases hh
  · rename_i b o v
    unfold xSt at hh
    split at hh
    · rename_i kk n
      obtain ⟨c, el, es, op, hb', hh⟩ := cellsAtK_out hh
      obtain ⟨x, a, rfl, h1, h2⟩ := hd.uncons
      obtain ⟨y, a, rfl, h3, h4⟩ := h2.uncons
      obtain rfl := h4.unnil
      cases h1 with
      | ptr hρ =>
      rename_i blk base kap
      obtain ⟨⟨u, hu⟩, hfz, h', hk', r'⟩ := putCell_out r hb' hρ h3 hh
      cases h3
      refine .inr fun w hw => ⟨_, _, run_call_store hf hname hb hn hfd (cell_of hw hu) (by rw [frozen?_eq, hw, hfz]), Sim.setCell _ _ _, ?_⟩
      rw [setCell_heap, hw]
      exact .mk r' dn_undef hk'
    · cases hh
  · rename_i b o x y
    have h9 := cellsAtK_out hh
    clear hh
    obtain ⟨c, el, es, op, hb', h9⟩ := h9
    obtain ⟨v, hv, hh⟩ := nthK_out h9
    clear h9
    obtain ⟨x1, a, rfl, h1, h2⟩ := hd.uncons
    obtain ⟨x2, a, rfl, h3, h4⟩ := h2.uncons
    obtain ⟨x3, a, rfl, h5, h6⟩ := h4.uncons
    obtain rfl := h6.unnil
    cases h1 with
    | ptr hρ =>
    rename_i blk base kap
    cases h3
    cases h5
    obtain ⟨u, hu, hdu⟩ := r.read hb' hρ hv
    have hfz : hfrozen H ⟨blk, base + o, none⟩ = false := (r.write hb' hρ (List.getElem?_eq_some_iff.1 hv).1 (.int .i32 y)).2.1
    unfold xCas at hh
    split at hh
    · rename_i z
      cases hdu
      cases he : eqI z x with
      | true =>
        rw [he] at hh
        simp only [cond_true] at hh
        have hzx : z = x := by rw [eqI_eq, decide_eq_true_eq] at he; exact he
        subst hzx
        obtain ⟨_, _, h', hk', r'⟩ := putCell_out r hb' hρ (.int .i32 y) hh
        refine .inr fun w hw => ⟨_, _, run_call_cas_hit hf hname hb hn .i32 hfd (cell_of hw hu) (by rw [frozen?_eq, hw, hfz]), Sim.setCell _ _ _, ?_⟩
        rw [setCell_heap, hw]
        exact .mk r' (.bool true) hk'
      | false =>
        rw [he] at hh
        simp only [cond_false] at hh
        have hzx : ¬ z = x := by rw [eqI_eq, decide_eq_false_iff_not] at he; exact he
        exact .inr fun w hw => ⟨_, w, run_call_cas_miss hf hname hb hn .i32 hfd (cell_of hw hu) (by rw [frozen?_eq, hw, hfz]) hzx, Sim.refl w, .mk (hw ▸ r) (.bool false) hh⟩
    · cases hh
  · rename_i b o y
    have h9 := cellsAtK_out hh
    clear hh
    obtain ⟨c, el, es, op, hb', h9⟩ := h9
    obtain ⟨v, hv, hh⟩ := nthK_out h9
    clear h9
    obtain ⟨x1, a, rfl, h1, h2⟩ := hd.uncons
    obtain ⟨x2, a, rfl, h3, h4⟩ := h2.uncons
    obtain rfl := h4.unnil
    cases h1 with
    | ptr hρ =>
    rename_i blk base kap
    cases h3
    obtain ⟨u, hu, hdu⟩ := r.read hb' hρ hv
    unfold xAddT at hh
    split at hh
    · rename_i z
      cases hdu
      rw [fI_eq] at hh
      obtain ⟨_, hfz, h', hk', r'⟩ := putCell_out r hb' hρ (.int .i32 _) hh
      refine .inr fun w hw => ⟨_, _, run_call_add hf hname hb hn .i32 hfd (cell_of hw hu) (by rw [frozen?_eq, hw, hfz]) rfl, Sim.setCell _ _ _, ?_⟩
      rw [setCell_heap, hw]
      exact .mk r' (.int .i32 _) hk'
    · cases hh
  · rename_i on
    obtain rfl := hd.unnil
    refine .inr fun w hw => ⟨.tuple #[], w, ?_, Sim.refl w, .mk (hw ▸ r) dn_undef hh⟩
    cases on with
    | true => exact run_call_mark0 hf hname hb hn .enable hfd w
    | false => exact run_call_mark0 hf hname hb hn .disable hfd w
  · rename_i rel b o
    obtain ⟨x1, a, rfl, h1, h2⟩ := hd.uncons
    obtain rfl := h2.unnil
    cases h1 with
    | ptr hρ =>
    refine .inr fun w hw => ⟨.tuple #[], w, ?_, Sim.refl w, .mk (hw ▸ r) dn_undef hh⟩
    cases rel with
    | true => exact run_call_marked hf hname hb hn .releaseMerge hfd _ w
    | false => exact run_call_marked hf hname hb hn .acquire hfd _ w
  · cases hh
/-- Functions without a body, by a list. -/
noncomputable def natOf (l : List (FuncId × Nt)) : NatF := fun _ _ f vs h K =>
  List.rec (motive := fun _ => Bool) false (fun x _ ih => bif Nat.beq x.1 f then xNt x.2 vs h K else ih) l
theorem natOf_ok (hp : progOk P = true) {l : List (FuncId × Nt)} (hl : ∀ x ∈ l, NtIs P x.1 x.2) : NatOk P M (natOf l) := by
  intro rec bd _ _ ρ U h H f vs xs K r hd hh
  induction l with
  | nil => cases hh
  | cons x l ih =>
    replace hh : (bif Nat.beq x.1 f then xNt x.2 vs h K else natOf l rec bd f vs h K) = true := hh
    cases hb : Nat.beq x.1 f with
    | true =>
      rw [hb] at hh
      have := Nat.eq_of_beq_eq_true hb
      subst this
      exact xNt_out hp (hl x (by simp)) r hd hh
    | false =>
      rw [hb] at hh
      exact ih (fun y hy => hl y (by simp [hy])) hh
end Go.X
/-! The interpreter: what was run once is run nowhere else; the first place of a text. -/
namespace Go.X
open Go.Ex
variable {P : Program} {ρ : Rho} {M : Nat} {U : Un} {h : Hp} {H : Heap}

/-! ### Values that say the same anywhere -/
def fE (u v : V) : Bool :=
  match u, v with
  | .int k n, .int k' n' => kEq k k' && eqI n n'
  | .bool a, .bool b => !(xor a b)
  | .str n N, .str m N' => Nat.beq n m && Nat.beq N N'
  | .nilp, .nilp | .nils, .nils | .nili, .nili | .nilf, .nilf | .nilm, .nilm | .any, .any | .big, .big => true
  | _, _ => false
def flat : V → Bool
  | .int _ _ | .bool _ | .str _ _ | .nilp | .nils | .nili | .nilf | .nilm | .any | .big => true
  | _ => false
theorem fE_out {u v : V} (h : fE u v = true) : u = v ∧ flat u = true := by
  unfold fE at h
  split at h
  · obtain ⟨h1, h2⟩ := and_t h; rw [eqI_eq, decide_eq_true_eq] at h2; exact ⟨by rw [kEq_out h1, h2], rfl⟩
  · rename_i a b; cases a <;> cases b <;> first | exact ⟨rfl, rfl⟩ | cases h
  · obtain ⟨h1, h2⟩ := and_t h; exact ⟨by rw [Nat.eq_of_beq_eq_true h1, Nat.eq_of_beq_eq_true h2], rfl⟩
  all_goals first
    | exact ⟨rfl, rfl⟩
    | cases h
theorem flat_dn {ρ ρ' : Rho} {v : V} {x : Value} (hf : flat v = true) (h : Dn ρ M v x) : Dn ρ' M v x := by
  cases h with
  | int => exact .int _ _
  | bool => exact .bool _
  | str => exact .str _ _
  | nilp => exact .nilp
  | nils => exact .nils
  | nili => exact .nili
  | nilf => exact .nilf
  | nilm => exact .nilm
  | any => exact .any _
  | big => exact .big _
  | _ => cases hf
noncomputable def lE (l m : List V) : Bool := List.rec (motive := fun _ => List V → Bool) (fun m => match m with | [] => true | _ => false) (fun u _ ih m => match m with | v :: m => fE u v && ih m | [] => false) l m
theorem lE_out : ∀ {l m : List V}, lE l m = true → l = m ∧ ∀ v ∈ l, flat v = true := by
  intro l
  induction l with
  | nil => intro m h; cases m with
    | nil => exact ⟨rfl, by simp⟩
    | cons => cases h
  | cons u l ih => intro m h; cases m with
    | nil => cases h
    | cons v m =>
      obtain ⟨h1, h2⟩ := and_t (show (fE u v && lE l m) = true from h)
      obtain ⟨rfl, hf⟩ := fE_out h1
      obtain ⟨rfl, hl⟩ := ih h2
      exact ⟨rfl, fun w hw => by rcases List.mem_cons.1 hw with rfl | hw; exact hf; exact hl w hw⟩
noncomputable def oE (a b : Option Ob) : Bool :=
  match a, b with
  | none, none => true
  | some (.cells c el es op ro), some (.cells c' el' es' op' ro') => lE c c' && Nat.beq el el' && Nat.beq es es' && !(xor op op') && !(xor ro ro')
  | _, _ => false
def flatOb : Ob → Prop
  | .cells c _ _ _ _ => ∀ v ∈ c, flat v = true
  | _ => False
theorem oE_out {a b : Option Ob} (h : oE a b = true) : a = b ∧ ∀ o, a = some o → flatOb o := by
  unfold oE at h
  split at h
  · exact ⟨rfl, fun o h => by cases h⟩
  · rename_i c el es op ro c' el' es' op' ro'
    obtain ⟨h, h5⟩ := and_t h
    obtain ⟨h, h4⟩ := and_t h
    obtain ⟨h, h3⟩ := and_t h
    obtain ⟨h1, h2⟩ := and_t h
    obtain ⟨rfl, hf⟩ := lE_out h1
    have e2 := Nat.eq_of_beq_eq_true h2
    have e3 := Nat.eq_of_beq_eq_true h3
    subst e2 e3
    have e4 : op = op' := by cases op <;> cases op' <;> first | rfl | cases h4
    have e5 : ro = ro' := by cases ro <;> cases ro' <;> first | rfl | cases h5
    subst e4 e5
    exact ⟨rfl, fun o ho => by cases ho; exact hf⟩
  · cases h
noncomputable def trE (a b : Tr Ob) : Bool :=
  Tr.rec (motive := fun _ => Tr Ob → Bool) (fun b => Tr.rec (motive := fun _ => Bool) true (fun _ _ _ _ _ => false) b)
    (fun _ v _ ihl ihr b => Tr.rec (motive := fun _ => Bool) false (fun l v' r _ _ => ihl l && oE v v' && ihr r) b) a b
theorem trE_out : ∀ {a b : Tr Ob}, trE a b = true → a = b ∧ ∀ p o, look p a = some o → flatOb o := by
  intro a
  induction a with
  | lf => intro b h; cases b with
    | lf => exact ⟨rfl, fun p o h => by rw [look_lf] at h; cases h⟩
    | nd => cases h
  | nd l v r ihl ihr => intro b h; cases b with
    | lf => cases h
    | nd l' v' r' =>
      obtain ⟨h, h3⟩ := and_t (show (trE l l' && oE v v' && trE r r') = true from h)
      obtain ⟨h1, h2⟩ := and_t h
      obtain ⟨rfl, f1⟩ := ihl h1
      obtain ⟨rfl, f2⟩ := oE_out h2
      obtain ⟨rfl, f3⟩ := ihr h3
      refine ⟨rfl, fun p o ho => ?_⟩
      cases p with
      | h => exact f2 o ho
      | o p => exact f1 p o ho
      | i p => exact f3 p o ho
noncomputable def gPart (t : Tr Ob) : Tr Ob := Tr.rec (motive := fun _ => Tr Ob) .lf (fun l _ _ _ _ => l) t
theorem look_gPart (q : Ps) (t : Tr Ob) : look q (gPart t) = look (.o q) t := by
  cases t with
  | lf => exact look_lf q
  | nd l v r => rfl

/-! ### What was run once -/
theorem CW.mono {f : FuncId} {xs : List Value} {Kp Kp' : Value → Heap → Prop} (h : CW P f xs H Kp) (hk : ∀ u H', Kp u H' → Kp' u H') : CW P f xs H Kp' := by
  rcases h with ⟨fn, hf, hb, h⟩ | h
  · exact .inl ⟨fn, hf, hb, fun w hw => (h w hw).mono fun e w' ⟨v, he, hs, hq⟩ => ⟨v, he, hs, hk _ _ hq⟩⟩
  · exact .inr fun w hw => let ⟨u, w', hr, hs, hq⟩ := h w hw; ⟨u, w', hr, hs, hk _ _ hq⟩
theorem ObR.flat' {ρ ρ' : Rho} {base kap : Nat} {o : Ob} {x : Obj} (hf : flatOb o) (h : ObR ρ M base kap o x) : ObR ρ' M base kap o x := by
  cases o with
  | cells c el es op ro =>
    obtain ⟨arr, frz, h1, h2, h3⟩ := h
    exact ⟨arr, frz, h1, fun j v hv => let ⟨y, hy, hd⟩ := h2 j v hv; ⟨y, hy, flat_dn (hf v (List.mem_of_getElem? hv)) hd⟩, h3⟩
  | _ => exact hf.elim
noncomputable def hpG (G : Tr Ob) (lo hi : Nat) : Hp := ⟨.nd G none .lf, .h, lo, hi⟩
noncomputable def ranTo (G : Tr Ob) (res : V) : V → Hp → Bool := fun v h1 => fE v res && trE (gPart h1.t) G
theorem memo_cw {cf : CallF} (hcf : CallOk P M cf) {f : FuncId} {vs : List V} {G : Tr Ob} {lo hi : Nat} {res : V} (hrun : cf f vs (hpG G lo hi) (ranTo G res) = true) (hG : trE G G = true) (hvs : ∀ v ∈ vs, flat v = true)
    {xs : List Value} (r : R ρ M U h H) (hd : DnL ρ M vs xs) (hag : ∀ q o, look q G = some o → look (.o q) h.t = some o) (hlo : lo ≤ h.lo) (hhi : h.hi ≤ hi) {K : V → Hp → Bool} (hk : K res h = true) : CW P f xs H (Af ρ M U K) := by
  classical
  have hfl := (trE_out hG).2
  have live_flat : ∀ o, flatOb o → live o := fun o ho => by cases o <;> first | trivial | exact ho.elim
  let ρ0 : Rho := fun p => match p with | .o q => ρ (.o q) | _ => none
  let isG : Nat → Prop := fun i => ∃ q o blk base kap, look q G = some o ∧ ρ (.o q) = some (blk, base, kap) ∧ blk = i
  let U0 : Un := fun i => if isG i then none else H[i]?
  have hlk : ∀ b o, look b (hpG G lo hi).t = some o → ∃ q, b = .o q ∧ look q G = some o := by
    intro b o hb
    cases b with
    | h => cases hb
    | o q => exact ⟨q, rfl, hb⟩
    | i q => have : look q (Tr.lf : Tr Ob) = some o := hb; rw [look_lf] at this; cases this
  have r0 : R ρ0 M U0 (hpG G lo hi) H := by
    refine ⟨fun g => r.gl g, fun p hp => absurd rfl hp, fun b o hb hl => ?_, fun b b' o o' x x' h1 h2 l1 l2 e1 e2 e => ?_, fun i o hi => ?_, ?_, ?_⟩
    · obtain ⟨q, rfl, hq⟩ := hlk b o hb
      obtain ⟨blk, base, kap, x, q1, q2, q3, q4⟩ := r.ob (.o q) o (hag q o hq) hl
      exact ⟨blk, base, kap, x, q1, q2, if_pos ⟨q, o, blk, base, kap, hq, q1, rfl⟩, q4.flat' (hfl q o hq)⟩
    · obtain ⟨q, rfl, hq⟩ := hlk b o h1
      obtain ⟨q', rfl, hq'⟩ := hlk b' o' h2
      exact r.inj _ _ _ _ _ _ (hag q o hq) (hag q' o' hq') l1 l2 e1 e2 e
    · simp only [U0] at hi
      split at hi
      · cases hi
      · exact hi
    · exact ⟨Nat.le_trans hlo r.bd.1, Nat.le_trans r.bd.2 hhi⟩
    · obtain ⟨t, fr, m, hm⟩ := r.ml
      refine ⟨t, fr, m, ?_⟩
      show (if isG gML then none else H[gML]?) = _
      rw [if_neg]
      · exact r.un _ _ hm
      · rintro ⟨q, o', blk', base', kap', hq, hρ, hi⟩
        obtain ⟨blk, base, kap, x, q1, q2, q3, q4⟩ := r.ob _ _ (hag q o' hq) (live_flat _ (hfl q o' hq))
        rw [hρ] at q1
        cases q1
        rw [hi, hm] at q3
        cases q3
  have hd0 : DnL ρ0 M vs xs := ⟨hd.1, fun i v x hv hx => flat_dn (hvs v (List.mem_of_getElem? hv)) (hd.2 i v x hv hx)⟩
  refine (hcf ρ0 U0 _ H f vs xs _ r0 hd0 hrun).mono fun u H' ⟨ρ1, v, h1, hl, r1, hdv, hk1⟩ => ?_
  unfold ranTo at hk1
  obtain ⟨k1, k2⟩ := and_t hk1
  obtain ⟨rfl, hfv⟩ := fE_out k1
  have e2 := (trE_out k2).1
  refine ⟨ρ, v, h, Le.refl _, ⟨r.gl, r.dom, fun b o hb hlv => ?_, r.inj, fun i o hi => ?_, r.bd, r.ml⟩, flat_dn hfv hdv, hk⟩
  · obtain ⟨blk, base, kap, x, q1, q2, q3, q4⟩ := r.ob b o hb hlv
    by_cases hg : isG blk
    · obtain ⟨q, o', blk', base', kap', hq, hρ, rfl⟩ := hg
      have hb' := r.inj _ _ _ _ _ _ hb (hag q o' hq) hlv (live_flat _ (hfl q o' hq)) q1 hρ rfl
      subst hb'
      have : o = o' := by have := hag q o' hq; rw [hb] at this; exact Option.some.inj this
      subst this
      have hb1 : look (.o q) h1.t = some o := by rw [← look_gPart, e2]; exact hq
      obtain ⟨blk1, base1, kap1, x1, s1, s2, s3, s4⟩ := r1.ob _ _ hb1 hlv
      have := hl (.o q) (blk', base, kap) q1
      rw [this] at s1
      cases s1
      exact ⟨_, _, _, x1, q1, s2, q3, s4.flat' (hfl q o hq)⟩
    · have : U0 blk = some x := by simp only [U0]; rw [if_neg hg]; exact q2
      exact ⟨blk, base, kap, x, q1, r1.un _ _ this, q3, q4⟩
  · have hng : ¬ isG i := by
      rintro ⟨q, o', blk', base', kap', hq, hρ, rfl⟩
      obtain ⟨blk, base, kap, x, q1, q2, q3, q4⟩ := r.ob _ _ (hag q o' hq) (live_flat _ (hfl q o' hq))
      rw [hρ] at q1
      cases q1
      rw [hi] at q3
      cases q3
    exact r1.un i o (by simp only [U0]; rw [if_neg hng]; exact r.un i o hi)
end Go.X
/-! The interpreter: the first place of a text; functions of one letter; which function goes which way. -/
namespace Go.X
open Go.Ex
variable {P : Program} {ρ : Rho} {M : Nat} {U : Un} {h : Hp} {H : Heap}

/-! ### The first place of a text -/
noncomputable def ixF (m p S : Nat) (n : Nat) : Nat → Nat → (Int → Bool) → Bool :=
  Nat.rec (motive := fun _ => Nat → Nat → (Int → Bool) → Bool) (fun _ _ k => k (-1))
    (fun n ih i N k => bif Nat.ble m (Nat.succ n) && Nat.beq (N % p) S then fN i fun i => k (Int.ofNat i) else fN (N / 256) fun N => fN (Nat.succ i) fun i => ih i N k) n
theorem pre_bl : ∀ (m n S N : Nat), (bl m S).isPrefixOf (bl n N) = (Nat.ble m n && Nat.beq (N % 256 ^ m) (S % 256 ^ m))
  | 0, n, S, N => by
    have : Nat.ble 0 n = true := by simp
    simp [bl, Nat.mod_one, this]
  | m + 1, 0, S, N => by
    have : Nat.ble (m + 1) 0 = false := by cases h : Nat.ble (m + 1) 0 with
      | false => rfl
      | true => have := Nat.le_of_ble_eq_true h; omega
    rw [this]
    rfl
  | m + 1, n + 1, S, N => by
    have hm : Nat.ble (m + 1) (n + 1) = Nat.ble m n := by
      cases h : Nat.ble m n with
      | true => have := Nat.le_of_ble_eq_true h; exact Nat.ble_eq_true_of_le (by omega)
      | false => cases h2 : Nat.ble (m + 1) (n + 1) with
        | false => rfl
        | true => have := Nat.le_of_ble_eq_true h2; rw [Nat.ble_eq_true_of_le (by omega)] at h; cases h
    have key : ∀ N, N % 256 ^ (m + 1) = N % 256 + 256 * ((N / 256) % 256 ^ m) := fun N => by
      rw [Nat.pow_succ, Nat.mul_comm, Nat.mod_mul]
    show (UInt8.ofNat (S % 256) == UInt8.ofNat (N % 256) && (bl m (S / 256)).isPrefixOf (bl n (N / 256))) = _
    rw [pre_bl m n, hm, ofNat_beq (Nat.mod_lt _ (by omega)) (Nat.mod_lt _ (by omega)), key N, key S, beq_dec, beq_dec, beq_dec]
    have h1 : N % 256 < 256 := Nat.mod_lt _ (by omega)
    have h2 : S % 256 < 256 := Nat.mod_lt _ (by omega)
    by_cases e1 : S % 256 = N % 256
    · by_cases e2 : N / 256 % 256 ^ m = S / 256 % 256 ^ m
      · rw [e1, e2]; simp
      · have : ¬ (N % 256 + 256 * (N / 256 % 256 ^ m) = S % 256 + 256 * (S / 256 % 256 ^ m)) := by omega
        simp [e1, e2]
        intro _
        omega
    · have : ¬ (N % 256 + 256 * (N / 256 % 256 ^ m) = S % 256 + 256 * (S / 256 % 256 ^ m)) := by omega
      simp [e1, this]
def ixL (sub : List UInt8) : List UInt8 → Nat → Int
  | [], _ => -1
  | b :: l, i => if sub.isPrefixOf (b :: l) then (i : Int) else ixL sub l (i + 1)
theorem ixL_eq (sub : List UInt8) (hs : sub ≠ []) : ∀ (l : List UInt8) (i : Nat), ixL sub l i = if Lib.index l sub = -1 then -1 else Lib.index l sub + i
  | [], i => by cases sub with
    | nil => exact absurd rfl hs
    | cons a t => simp [ixL, Lib.index]
  | b :: l, i => by
    have hr := Lib.index_ge l sub
    unfold ixL Lib.index
    cases h : sub.isPrefixOf (b :: l) with
    | true => simp
    | false =>
      simp only [Bool.false_eq_true, if_false]
      rw [ixL_eq sub hs l (i + 1)]
      by_cases h1 : Lib.index l sub = -1
      · simp [h1]
      · have h2 : ¬ (Lib.index l sub == -1) = true := by simpa using h1
        rw [if_neg h1, if_neg h2, if_neg (by omega)]
        omega
theorem ixF_eq {m S : Nat} (hS : S % 256 ^ m = S) : ∀ (n i N : Nat) (k : Int → Bool), ixF m (256 ^ m) S n i N k = k (ixL (bl m S) (bl n N) i)
  | 0, i, N, k => rfl
  | n + 1, i, N, k => by
    show (bif Nat.ble m (Nat.succ n) && Nat.beq (N % 256 ^ m) S then fN i fun i => k (Int.ofNat i) else fN (N / 256) fun N => fN (Nat.succ i) fun i => ixF m (256 ^ m) S n i N k) = k (if (bl m S).isPrefixOf (bl (n + 1) N) = true then (i : Int) else ixL (bl m S) (bl n (N / 256)) (i + 1))
    rw [pre_bl, hS]
    cases Nat.ble m (n + 1) && Nat.beq (N % 256 ^ m) S with
    | true => simp [fN_eq]
    | false => simp only [cond_false, fN_eq, Bool.false_eq_true, if_false]; exact ixF_eq hS n (i + 1) (N / 256) k
/-- The function that looks for a text: whatever the variable says on which its road hangs. -/
structure IxIs (P : Program) (f : FuncId) : Prop where
  body : ∃ fn, P.funcs[f]? = some fn ∧ fn.body.isSome = true
  calls : ∀ (s sub : ByteArray) (m : Int) (w : World), s.size < 4294967281 → w.cell? ⟨gML, 0, none⟩ = some (.int .i64 m) → Calls P f #[.string s, .string sub] w fun e w' => e = .returned (.int .i64 (Lib.index s.data.toList sub.data.toList)) ∧ w' = w
noncomputable def xIx (vs : List V) (h : Hp) (K : V → Hp → Bool) : Bool :=
  match vs with
  | [.str n N, .str m S] => bif Nat.blt n 1000000000 && Nat.ble 1 m then fN (256 ^ m) fun p => fN (S % p) fun S => ixF m p S n 0 N fun i => K (.int .i64 i) h else false
  | _ => false
theorem xIx_out {f : FuncId} (hx : IxIs P f) (r : R ρ M U h H) {vs : List V} {xs : List Value} (hd : DnL ρ M vs xs) {K : V → Hp → Bool} (hh : xIx vs h K = true) : CW P f xs H (Af ρ M U K) := by
  unfold xIx at hh
  split at hh
  · rename_i n N m S
    have h2 := bif_t hh
    clear hh
    obtain ⟨hc, hh⟩ := h2
    simp only [Bool.and_eq_true, Nat.blt_eq] at hc
    obtain ⟨hn, hm⟩ := hc
    have hm := Nat.le_of_ble_eq_true hm
    obtain ⟨t, fr, q, hml⟩ := r.ml
    have hml := r.un _ _ hml
    rw [fN_eq, fN_eq, ixF_eq (Nat.mod_mod _ _)] at hh
    have hx1 : hcell H ⟨gML, 0, none⟩ = some (.int .i64 q) := by unfold hcell; simp only; rw [hml]; rfl
    obtain ⟨x, a, rfl, h1, h2⟩ := hd.uncons
    obtain ⟨y, a, rfl, h3, h4⟩ := h2.uncons
    obtain rfl := h4.unnil
    cases h1
    cases h3
    have hsub : bl m (S % 256 ^ m) = bl m S := (bl_inj m _ _).2 (Nat.mod_mod _ _)
    have hne : bl m S ≠ [] := fun e => by have := congrArg List.length e; rw [bl_len] at this; simp at this; omega
    rw [hsub, ixL_eq _ hne] at hh
    obtain ⟨fn, hf, hbd⟩ := hx.body
    refine .inl ⟨fn, hf, hbd, fun w hw => ?_⟩
    refine (hx.calls (strOf n N) (strOf m S) q w (by rw [strOf_size]; omega) (cell_of hw hx1)).mono ?_
    rintro e w' ⟨rfl, rfl⟩
    refine ⟨_, rfl, Sim.refl _, ?_⟩
    rw [hw]
    refine .mk r (.int .i64 _) ?_
    have : Lib.index (bl n N) (bl m S) = if Lib.index (bl n N) (bl m S) = -1 then -1 else Lib.index (bl n N) (bl m S) + (0 : Nat) := by split <;> omega
    show K (V.int .i64 (Lib.index (bl n N) (bl m S))) h = true
    rw [this]
    exact hh
  · cases hh

/-! ### Functions of one letter -/
noncomputable def allB (n : Nat) (p : Nat → Bool) : Bool := Nat.rec (motive := fun _ => Bool) true (fun i ih => ih && p i) n
theorem allB_out {p : Nat → Bool} : ∀ {n : Nat}, allB n p = true → ∀ i, i < n → p i = true
  | 0, _, i, hi => by omega
  | n + 1, h, i, hi => by
    obtain ⟨h1, h2⟩ := and_t (show (allB n p && p n) = true from h)
    rcases Nat.lt_or_ge i n with h | h
    · exact allB_out h1 i h
    · rw [show i = n by omega]; exact h2
noncomputable def xRune (hi : Nat) (mask : Nat) (vs : List V) (h : Hp) (K : V → Hp → Bool) : Bool :=
  match vs with
  | [.int .i32 (.ofNat r)] => bif Nat.blt r 128 && Nat.ble h.hi hi then fB (mask.testBit r) fun b => K (.bool b) h else false
  | _ => false
def RuneIs (P : Program) (M : Nat) (f : FuncId) (hi mask : Nat) : Prop := ∃ cf : CallF, CallOk P M cf ∧ ∀ r, r < 128 → cf f [.int .i32 (.ofNat r)] (hpG .lf 0 hi) (ranTo .lf (.bool (mask.testBit r))) = true
theorem xRune_out {f : FuncId} {hi mask : Nat} (hx : RuneIs P M f hi mask) (r : R ρ M U h H) {vs : List V} {xs : List Value} (hd : DnL ρ M vs xs) {K : V → Hp → Bool} (hh : xRune hi mask vs h K = true) : CW P f xs H (Af ρ M U K) := by
  unfold xRune at hh
  split at hh
  · rename_i n
    have h2 := bif_t hh
    clear hh
    obtain ⟨hc, hh⟩ := h2
    simp only [Bool.and_eq_true, Nat.blt_eq] at hc
    obtain ⟨hn, hm⟩ := hc
    rw [fB_eq] at hh
    obtain ⟨cf, hcf, hrun⟩ := hx
    exact memo_cw hcf (hrun n hn) rfl (by simp [flat]) r hd (fun q o hq => by rw [look_lf] at hq; cases hq) (Nat.zero_le _) (Nat.le_of_ble_eq_true hm) hh
  · cases hh
/-! ### The orders, by a table -/
noncomputable def lookR {α : Type} (p : Ps) (t : Tr α) : Option α :=
  Ps.rec (motive := fun _ => Tr α → Option α) (fun t => Tr.rec (motive := fun _ => Option α) none (fun _ v _ _ _ => v) t) (fun _ ih t => Tr.rec (motive := fun _ => Option α) none (fun l _ _ _ _ => ih l) t)
    (fun _ ih t => Tr.rec (motive := fun _ => Option α) none (fun _ _ r _ _ => ih r) t) p t
noncomputable def findA (l : List (Nat × An)) (i : Nat) : An := List.rec (motive := fun _ => An) (.ord []) (fun x _ ih => bif Nat.beq x.1 i then x.2 else ih) l
noncomputable def annOf (t : Tr (List (Nat × An))) (f : FuncId) (id : Nat) : An := match lookR (pth f) t with | some l => findA l id | none => .ord []
/-! ### Which function goes which way -/
noncomputable def natIf (f₀ : FuncId) (x : List V → Hp → (V → Hp → Bool) → Bool) (n : NatF) : NatF := fun rec bd f vs h K => bif Nat.beq f f₀ then x vs h K else n rec bd f vs h K
theorem natIf_ok {f₀ : FuncId} {x : List V → Hp → (V → Hp → Bool) → Bool} {n : NatF} (hx : ∀ (ρ : Rho) (U : Un) (h : Hp) (H : Heap) (vs : List V) (xs : List Value) (K : V → Hp → Bool), R ρ M U h H → DnL ρ M vs xs → x vs h K = true → CW P f₀ xs H (Af ρ M U K)) (hn : NatOk P M n) : NatOk P M (natIf f₀ x n) := by
  intro rec bd hr hb ρ U h H f vs xs K r hd hh
  unfold natIf at hh
  cases he : Nat.beq f f₀ with
  | true =>
    rw [he] at hh
    rw [Nat.eq_of_beq_eq_true he]
    exact hx ρ U h H vs xs K r hd hh
  | false =>
    rw [he] at hh
    exact hn rec bd hr hb ρ U h H f vs xs K r hd hh
end Go.X
/-! The interpreter: functions that put calls off. -/
namespace Go.X
open Go.Ex
variable {P : Program} {ρ : Rho} {M : Nat} {U : Un} {h : Hp} {H : Heap} {env : Tr V} {e : Env}

abbrev DL := List (FuncId × List V)
inductive DsR (ρ : Rho) (M : Nat) : DL → List Deferred → Prop where
  | nil : DsR ρ M [] []
  | cons {f : FuncId} {vs : List V} {d : Deferred} {D : DL} {Ds : List Deferred} (h : d.target = .fn (.func f) #[]) (hd : DnL ρ M vs d.args.toList) (r : DsR ρ M D Ds) : DsR ρ M ((f, vs) :: D) (d :: Ds)
theorem DsR.mono {ρ ρ' : Rho} (hl : Le ρ ρ') {D : DL} {Ds : List Deferred} (h : DsR ρ M D Ds) : DsR ρ' M D Ds := by
  induction h with
  | nil => exact .nil
  | cons h hd _ ih => exact .cons h ⟨hd.1, fun i v x a b => (hd.2 i v x a b).mono hl⟩ ih
abbrev KD := Xt → Tr V → Hp → DL → Bool
/-- Does the last one put a call off? -/
def isDefer (l : List Oper) : Option Call := match l.getLast? with
  | some o => (match o.op with | .defer c => (match o.guard, o.dst with | none, none => some c | _, _ => none) | _ => none)
  | none => none
noncomputable def xDefer (c : Call) (env : Tr V) (K : FuncId → List V → Bool) : Bool := match c.callee with | .value (.func f) => xL env c.args.toList fun vs => K f vs | _ => false
noncomputable def seqD (ex : Xt) (env : Tr V) (h : Hp) (D : DL) (k : KD) (next : Bool) : Bool := match ex with | .n => next | .x i => k (.x i) env h D | .r => k .r env h D
noncomputable def stepG (P : Program) (cf : CallF) (ord : Nat → An) (N : Nat) (rec : Code → Tr V → Hp → DL → KD → Bool) (c : Code) (env : Tr V) (h : Hp) (D : DL) (k : KD) : Bool :=
  match c with
  | .skip => k .n env h D
  | .ret => k .r env h D
  | .seq x y => rec x env h D fun ex env h D => seqD ex env h D k (rec y env h D k)
  | .cond c x y => xo env c fun v => (match v with | .bool b => (match b with | true => rec x env h D k | false => rec y env h D k) | _ => false)
  | .region id ops false => (match isDefer ops.toList with
    | some cl => bif dstsOk N ops then xOps P cf ops ops.toList.dropLast env h fun env h => xDefer cl env fun f vs => k .n env h ((f, vs) :: D) else false
    | none => xC P cf ord N 2 (.region id ops false) env h fun ex env h => k ex env h D)
  | .region id ops true => xC P cf ord N 2 (.region id ops true) env h fun ex env h => k ex env h D
  | _ => false
noncomputable def xG (P : Program) (cf : CallF) (ord : Nat → An) (N n : Nat) : Code → Tr V → Hp → DL → KD → Bool :=
  Nat.rec (motive := fun _ => Code → Tr V → Hp → DL → KD → Bool) (fun _ _ _ _ _ => false) (fun _ ih => stepG P cf ord N ih) n
def GoalD (ρ : Rho) (M : Nat) (U : Un) (N : Nat) (w : World) (k : KD) (Q : Exit → Act → World → Prop) : Prop :=
  ∀ ex env h D ρ' e Ds a' w', k ex env h D = true → Le ρ ρ' → E ρ' M env e → R ρ' M U h w'.heap → DsR ρ' M D Ds → Mt N Ds a' e → Sim w w' → Q ex.to a' w'
section
variable {cf : CallF} {ord : Nat → An} {N : Nat}
/-- Operations, one behind the other, and what follows them. -/
theorem evOps_then {Ds : List Deferred} {ops : Array Oper} {Q : Exit → Act → World → Prop} {K : Env → Heap → Prop} {m : List Oper} (hp : progOk P = true) (hN : dstsOk N ops = true) (w₀ : World)
    (hQ : ∀ a' w' e', Mt N Ds a' e' → Sim w₀ w' → K e' w'.heap → wpList P ops Q m a' w') :
    ∀ (l : List Oper) (i : Nat) (e : Env) (a : Act) (w : World), (∀ o ∈ l, o ∈ ops) → evOps P ops l i e w.heap K → Mt N Ds a e → Sim w₀ w → wpList P ops Q (l ++ m) a w
  | [], i, e, a, w, _, h, hm, hs => hQ a w e hm hs h
  | o :: rest, i, e, a, w, hl, h, hm, hs => by
    have ho : o ∈ ops := hl o (by simp)
    have hrest : ∀ o ∈ rest, o ∈ ops := fun o' h' => hl o' (by simp [h'])
    have hd := dsts_lt hN ho
    unfold evOps at h
    split at h
    · exact h.elim
    · rename_i hw
      show wpList P ops Q (o :: (rest ++ m)) a w
      unfold wpList
      rw [if_neg (by rw [wantedK_spec hw (fun t _ => hm.val t)]; simp)]
      exact evOps_then hp hN w₀ hQ rest (i + 1) _ _ w hrest h (hm.put _ hd _) hs
    · rename_i hw
      show wpList P ops Q (o :: (rest ++ m)) a w
      unfold wpList
      rw [if_pos (wantedK_spec hw (fun t _ => hm.val t))]
      refine .inl ?_
      split at h
      · obtain ⟨v, hv, hr⟩ := evPure_out h
        have hv := splitG_out hv
        unfold Oper.wp
        rw [hr a.eval (hm.agrees _) w]
        exact evOps_then hp hN w₀ hQ rest (i + 1) _ _ w hrest hv (hm.put _ hd _) hs
      · obtain ⟨v, hv, hr⟩ := evRead_out h
        have hv := splitG_out hv
        unfold Oper.wp
        rw [hr a.eval (hm.agrees _) w rfl]
        exact evOps_then hp hN w₀ hQ rest (i + 1) _ _ w hrest hv (hm.put _ hd _) hs
      · refine evWrite_out hp h (hm.agrees _) w rfl ?_
        intro v w' hs' hv
        exact evOps_then hp hN w₀ hQ rest (i + 1) _ _ w' hrest (splitG_out hv) (hm.put _ hd _) (hs.trans hs')
theorem isDefer_out {l : List Oper} {c : Call} (h : isDefer l = some c) : ∃ o, l = l.dropLast ++ [o] ∧ o.op = .defer c ∧ o.guard = none ∧ o.dst = none := by
  unfold isDefer at h
  split at h
  · rename_i o ho
    split at h
    · rename_i c' hc
      split at h
      · rename_i hg hd
        cases h
        refine ⟨o, ?_, hc, hg, hd⟩
        have hne : l ≠ [] := fun e => by rw [e] at ho; cases ho
        rw [List.getLast?_eq_some_getLast hne] at ho
        have := List.dropLast_concat_getLast hne
        rw [Option.some.inj ho] at this
        exact this.symm
      · cases h
    · cases h
  · cases h
theorem xG_sound (hp : progOk P = true) (hcf : CallOk P M cf) : ∀ (n : Nat) (c : Code) (env : Tr V) (h : Hp) (D : DL) (k : KD), xG P cf ord N n c env h D k = true → ∀ (ρ : Rho) (e : Env) (Ds : List Deferred) (a : Act) (w : World) (Q : Exit → Act → World → Prop), E ρ M env e → R ρ M U h w.heap → DsR ρ M D Ds → Mt N Ds a e →
    GoalD ρ M U N w k Q → c.wp P Q a w := by
  intro n
  induction n with
  | zero => intro c env h D k hh; cases hh
  | succ n ih =>
    intro c env h D k hh ρ e Ds a w Q he r hD hm hg
    replace hh : stepG P cf ord N (xG P cf ord N n) c env h D k = true := hh
    have plain : ∀ c, xC P cf ord N 2 c env h (fun ex env h => k ex env h D) = true → c.wp P Q a w := fun c hh =>
      xC_sound (U := U) hp hcf 2 c env h _ hh ρ e a w Q he r hm fun ex env h ρ' e a' w' hk hl he' r' hm' hs' => hg ex env h D ρ' e Ds a' w' hk hl he' r' (hD.mono hl) hm' hs'
    unfold stepG at hh
    split at hh
    · exact wp_skip (hg .n _ _ _ ρ e Ds a w hh (Le.refl _) he r hD hm (Sim.refl w))
    · exact wp_ret (hg .r _ _ _ ρ e Ds a w hh (Le.refl _) he r hD hm (Sim.refl w))
    · rename_i x y
      refine wp_seq (ih x env h D _ hh ρ e Ds a w _ he r hD hm ?_)
      intro ex env' h' D' ρ' e' Ds' a' w' hk hl he' r' hD' hm' hs'
      dsimp only at hk
      unfold seqD at hk
      split at hk
      · exact ih y env' h' D' k hk ρ' e' Ds' a' w' Q he' r' hD' hm' fun ex2 env2 h2 D2 ρ2 e2 Ds2 a2 w2 hk2 hl2 he2 r2 hD2 hm2 hs2 => hg ex2 env2 h2 D2 ρ2 e2 Ds2 a2 w2 hk2 (hl.trans hl2) he2 r2 hD2 hm2 (hs'.trans hs2)
      · exact hg _ _ _ _ ρ' e' Ds' a' w' hk hl he' r' hD' hm' hs'
      · exact hg _ _ _ _ ρ' e' Ds' a' w' hk hl he' r' hD' hm' hs'
    · rename_i c x y
      obtain ⟨v, y', hx, hd, hh⟩ := xo_out he r.gl hh
      split at hh
      · cases hd
        split at hh
        · exact wp_cond_true (hm.eval hx) (ih x env h D k hh ρ e Ds a w Q he r hD hm hg)
        · exact wp_cond_false (hm.eval hx) (ih y env h D k hh ρ e Ds a w Q he r hD hm hg)
      · cases hh
    · rename_i id ops
      split at hh
      · rename_i cl hcl
        have h2 := bif_t hh
        clear hh
        obtain ⟨hN, hh⟩ := h2
        obtain ⟨o, hlist, hop, hgd, hds⟩ := isDefer_out hcl
        have hmem : ∀ o' ∈ ops.toList.dropLast, o' ∈ ops := fun o' ho' => by simpa using List.dropLast_subset _ ho'
        have hev := xOps_out (U := U) hp hcf (ops := ops) (K := fun env h => xDefer cl env fun f vs => k .n env h ((f, vs) :: D)) ops.toList.dropLast 0 ρ env h e w.heap hh he r
        refine wp_region_list ?_
        rw [hlist]
        refine evOps_then hp hN w (m := [o]) ?_ _ 0 e a w hmem hev hm (Sim.refl w)
        rintro a' w' e' hm' hs' ⟨ρ', env', h', hl, he', r', hk⟩
        unfold xDefer at hk
        split at hk
        · rename_i f hc
          obtain ⟨vs, xs, hxs, hvs, hk⟩ := xL_out he' r'.gl hk
          unfold wpList
          rw [if_pos (by unfold Region.wanted; rw [hgd])]
          refine .inl ?_
          have ea := map_agrees hxs (τ := a'.eval) (fun y hy => by
            have := hm'.agrees o.op.operands.toList y
            exact this (by rw [hop]; simp [Op.operands, Call.operands]; simp at hy; exact .inr hy))
          have ea' : cl.args.map a'.eval = xs.toArray := by rw [← ea]; cases cl.args; simp
          have hrun : (execOp a'.eval o).run P w' = .ok (.defer { target := .fn (.func f) #[], args := xs.toArray }) w' := by
            unfold execOp
            rw [hop]
            simp only [resolve, hc, ea']
            show Result.ok (Next.defer { target := .fn (.func f) #[], args := #[] ++ xs.toArray }) w' = _
            rw [Array.empty_append]
          unfold Oper.wp
          rw [hrun, Oper.upon_defer, hds]
          refine hg .n env' h' ((f, vs) :: D) ρ' e' _ _ w' hk hl he' r' (.cons (d := { target := .fn (.func f) #[], args := xs.toArray }) rfl (by simpa using hvs) (hD.mono hl)) ?_ hs'
          exact ⟨hm'.size, by show _ :: a'.defers = _; rw [hm'.defers], hm'.val⟩
        · cases hk
      · exact plain _ hh
    · exact plain _ hh
    · cases hh
end
/-- What was put off, run. -/
noncomputable def runDK (bd : CallF) (D : DL) (h : Hp) (k : Hp → Bool) : Bool := List.rec (motive := fun _ => Hp → Bool) (fun h => k h) (fun d _ ih h => bd d.1 d.2 h fun _ h => ih h) D h
theorem runDK_out (hp : progOk P = true) {bd : CallF} (hb : BodyOk P M bd) {fn : Func} {tmps : Array Value} {Rr : Ending → World → Prop} {k : Hp → Bool} : ∀ (D : DL) (h : Hp) (ρ : Rho) (Ds : List Deferred) (w : World), runDK bd D h k = true → R ρ M U h w.heap → DsR ρ M D Ds →
    (∀ ρ' h' w', Le ρ ρ' → R ρ' M U h' w'.heap → Sim w w' → k h' = true → Leaves P fn tmps Rr [] .returning w') → Leaves P fn tmps Rr Ds .returning w := by
  intro D
  induction D with
  | nil => intro h ρ Ds w hh r hD hfin; cases hD; exact hfin ρ h w (Le.refl _) r (Sim.refl w) hh
  | cons d D ih =>
    intro h ρ Ds w hh r hD hfin
    replace hh : (bd d.1 d.2 h fun _ h => runDK bd D h k) = true := hh
    cases hD with
    | cons ht hd hr =>
    rename_i f vs d' Ds
    obtain ⟨tg, ags⟩ := d'
    simp only at ht hd
    subst ht
    obtain ⟨fn', c, hf, hc, hw⟩ := hb ρ U h w.heap f vs ags.toList _ r hd hh
    have hw := hw w rfl
    refine leaves_cons (f := f) (args := ags) (by simp) ?_ ?_
    · show (callFunc f (ags ++ #[])).run P w = _
      rw [Array.append_empty]
      exact run_enter hp hf (by rw [hc]; rfl) ags w
    · refine (callsD_of_wp hf hc (by simpa using hw)).mono ?_
      rintro e u' w' ⟨rfl, v, rfl, hs, ρ', u, h', hl, r', _, hk⟩
      exact ih h' ρ' Ds w' hk r' (hr.mono hl) fun ρ2 h2 w2 hl2 r2 hs2 hk2 => hfin ρ2 h2 w2 (hl.trans hl2) r2 (hs.trans hs2) hk2
/-- A function that puts calls off. -/
noncomputable def xDefF (P : Program) (ann : FuncId → Nat → An) (f : FuncId) (rec bd : CallF) (vs : List V) (h : Hp) (K : V → Hp → Bool) : Bool :=
  match P.funcs[f]? with
  | none => false
  | some fn => (match fn.body with
    | none => false
    | some c => lenK' vs fun n => bif Nat.ble n fn.ntmps then argsK vs 0 .lf fun env =>
        xG P rec (ann f) fn.ntmps 50 c env h [] fun ex env h D => (match ex with | .x _ => false | .n => runDK bd D h fun h => xRes P env h fn.results.toList fun r => resS r K h | .r => runDK bd D h fun h => xRes P env h fn.results.toList fun r => resS r K h) else false)
theorem xDefF_out (hp : progOk P = true) {ann : FuncId → Nat → An} {rec bd : CallF} (ih : CallOk P M rec) (hb : BodyOk P M bd) {f : FuncId} (r : R ρ M U h H) {vs : List V} {xs : List Value} (hd : DnL ρ M vs xs) {K : V → Hp → Bool} (hh : xDefF P ann f rec bd vs h K = true) : CW P f xs H (Af ρ M U K) := by
  unfold xDefF at hh
  split at hh
  · cases hh
  · rename_i fn hf
    split at hh
    · cases hh
    · rename_i c hbd
      rw [lenK'_eq] at hh
      obtain ⟨hle, hh⟩ := bif_t hh
      have hle := Nat.le_of_ble_eq_true hle
      refine .inl ⟨fn, hf, by rw [hbd]; rfl, fun w hw => ?_⟩
      have hxl : xs.length = vs.length := hd.1.symm
      obtain ⟨env, hh, he⟩ := argsK_out (ρ := ρ) (M := M) hh (e := env0 fn.ntmps xs) hd (fun t v hv => by rw [look_lf] at hv; cases hv) (fun j x hx => by
        have hj := (List.getElem?_eq_some_iff.1 hx).1
        unfold env0
        rw [Nat.zero_add, show Nat.blt j xs.length = true by rw [Nat.blt_eq]; exact hj]
        exact hx)
      refine calls_of_wp_defers hf hbd ?_
      refine xG_sound (U := U) hp ih 50 c env h [] _ hh ρ (env0 fn.ntmps xs) [] _ w _ he (by rw [hw]; exact r) .nil (mt0 hle hxl) ?_
      intro ex env' h' D ρ' e' Ds a' w' hk hl he' r' hD' hm' hs'
      have fin : (runDK bd D h' fun h => xRes P env' h fn.results.toList fun r => resS r K h) = true → bodyPostD P fn (fun e w' => ∃ v, e = .returned v ∧ Sim w w' ∧ Af ρ M U K v w'.heap) .ret a' w' := by
        intro hk
        show Leaves P fn a'.tmps _ a'.defers .returning w'
        rw [hm'.defers]
        refine runDK_out hp hb D h' ρ' Ds w' hk r' hD' fun ρ2 h2 w2 hl2 r2 hs2 hk2 => ?_
        obtain ⟨vs', xs', hk, hdr, hrun⟩ := xRes_out (P := P) (he'.mono hl2) r2 hm'.val hk2
        obtain ⟨v, hdv, hk⟩ := resS_out hdr hk
        have hres : (results fn a'.tmps).run P w2 = .ok (if h : xs'.toArray.size = 1 then xs'.toArray[0] else .tuple xs'.toArray) w2 := by
          unfold results
          rw [Sem.run_bind, Array.mapM_eq_mapM_toList, Sem.run_map]
          rw [hrun _ (fun t => rfl) (fun a t => rfl) w2 rfl]
          rfl
        exact ⟨_, hres, _, rfl, hs'.trans hs2, ρ2, v, h2, hl.trans hl2, r2, hdv, hk⟩
      cases ex with
      | n => exact fin hk
      | x i => cases hk
      | r => exact fin hk
end Go.X
/-! The interpreter: rounds of a range over a function. -/
namespace Go.X
open Go.Ex
variable {P : Program} {ρ : Rho} {M : Nat} {U : Un} {h : Hp} {H : Heap} {env : Tr V} {e : Env}

/-! ### Fences that let all in -/
def FW (ro : Option Nat) : Fence := { Fence.wide with round := ro }
theorem wpIn_conv {ro : Option Nat} {n : Nat} {o : Oper} {a : Act} {w : World} {next : Act → World → Prop} {Q : Exit → Act → World → Prop} (hd : ∀ c, o.op ≠ .defer c) (h : o.wp P a w next Q) : o.wpIn (FW ro) n P a w next Q := by
  refine ⟨fun _ _ => trivial, ?_⟩
  rw [Oper.semAt_eq _ _ _ hd]
  unfold Oper.wp at h
  revert h
  generalize (execOp a.eval o).run P w = res
  intro h
  cases res with
  | ok nx w' =>
    cases nx with
    | enter f args => exact ⟨fun hd => (by cases hd), callsIn_wide.2 h⟩
    | row row args =>
      have h2 : Rows P row args w' _ := h
      refine ⟨fun hd => (by cases hd), fun c cs _ => ?_⟩
      obtain ⟨v, w2, r, s⟩ := h2 c cs
      exact ⟨v, w2, r, stepsIn_wide.2 s⟩
    | round => exact h.elim
    | _ => exact h
  | halt x w' => cases x <;> first | exact h | exact h.elim
def nDef (o : Oper) : Bool := match o.op with | .defer _ => false | _ => true
theorem nDef_out {o : Oper} (h : nDef o = true) : ∀ c, o.op ≠ .defer c := fun c hc => by unfold nDef at h; rw [hc] at h; cases h
section
variable {cf : CallF} {N : Nat}
theorem evOps_in {ro : Option Nat} {n : Nat} {Ds : List Deferred} {ops : Array Oper} {Q : Exit → Act → World → Prop} {K : Env → Heap → Prop} (hp : progOk P = true) (hN : dstsOk N ops = true) (w₀ : World)
    (hQ : ∀ a' w' e', Mt N Ds a' e' → Sim w₀ w' → K e' w'.heap → Q .normal a' w') :
    ∀ (l : List Oper) (i : Nat) (e : Env) (a : Act) (w : World), (∀ o ∈ l, o ∈ ops) → (∀ o ∈ l, nDef o = true) → evOps P ops l i e w.heap K → Mt N Ds a e → Sim w₀ w → wpListIn (FW ro) n P ops Q l a w
  | [], i, e, a, w, _, _, h, hm, hs => hQ a w e hm hs h
  | o :: rest, i, e, a, w, hl, hnd, h, hm, hs => by
    have ho : o ∈ ops := hl o (by simp)
    have hrest : ∀ o ∈ rest, o ∈ ops := fun o' h' => hl o' (by simp [h'])
    have hnd' : ∀ o ∈ rest, nDef o = true := fun o' h' => hnd o' (by simp [h'])
    have hno := nDef_out (hnd o (by simp))
    have hd := dsts_lt hN ho
    unfold evOps at h
    split at h
    · exact h.elim
    · rename_i hw
      unfold wpListIn
      rw [if_neg (by rw [wantedK_spec hw (fun t _ => hm.val t)]; simp)]
      exact ⟨fun _ _ => trivial, evOps_in hp hN w₀ hQ rest (i + 1) _ _ w hrest hnd' h (hm.put _ hd _) hs⟩
    · rename_i hw
      unfold wpListIn
      rw [if_pos (wantedK_spec hw (fun t _ => hm.val t))]
      refine wpIn_conv hno ?_
      split at h
      · obtain ⟨v, hv, hr⟩ := evPure_out h
        have hv := splitG_out hv
        unfold Oper.wp
        rw [hr a.eval (hm.agrees _) w]
        exact evOps_in hp hN w₀ hQ rest (i + 1) _ _ w hrest hnd' hv (hm.put _ hd _) hs
      · obtain ⟨v, hv, hr⟩ := evRead_out h
        have hv := splitG_out hv
        unfold Oper.wp
        rw [hr a.eval (hm.agrees _) w rfl]
        exact evOps_in hp hN w₀ hQ rest (i + 1) _ _ w hrest hnd' hv (hm.put _ hd _) hs
      · refine evWrite_out hp h (hm.agrees _) w rfl ?_
        intro v w' hs' hv
        exact evOps_in hp hN w₀ hQ rest (i + 1) _ _ w' hrest hnd' (splitG_out hv) (hm.put _ hd _) (hs.trans hs')

/-! ### A round's code -/
noncomputable def stepRd (P : Program) (cf : CallF) (N : Nat) (rec : Code → Tr V → Hp → KC → Bool) (c : Code) (env : Tr V) (h : Hp) (k : KC) : Bool :=
  match c with
  | .skip => k .n env h
  | .region _ ops false => bif dstsOk N ops && ops.toList.all nDef then xOps P cf ops ops.toList env h fun env h => k .n env h else false
  | .seq x y => rec x env h fun ex env h => seqS ex env h k (rec y env h k)
  | .cond c x y => xo env c fun v => (match v with | .bool b => (match b with | true => rec x env h k | false => rec y env h k) | _ => false)
  | .block id x => rec x env h fun ex env h => blkS id ex env h k
  | _ => false
noncomputable def xRd (P : Program) (cf : CallF) (N n : Nat) : Code → Tr V → Hp → KC → Bool :=
  Nat.rec (motive := fun _ => Code → Tr V → Hp → KC → Bool) (fun _ _ _ _ => false) (fun _ ih => stepRd P cf N ih) n
theorem xRd_sound (hp : progOk P = true) (hcf : CallOk P M cf) {ro : Option Nat} {m : Nat} {Ds : List Deferred} : ∀ (n : Nat) (c : Code) (env : Tr V) (h : Hp) (k : KC), xRd P cf N n c env h k = true → ∀ (ρ : Rho) (e : Env) (a : Act) (w : World) (Q : Exit → Act → World → Prop), E ρ M env e → R ρ M U h w.heap → Mt N Ds a e →
    Goal ρ M U N Ds w k Q → c.wpIn (FW ro) m P Q a w := by
  intro n
  induction n with
  | zero => intro c env h k hh; cases hh
  | succ n ih =>
    intro c env h k hh ρ e a w Q he r hm hg
    replace hh : stepRd P cf N (xRd P cf N n) c env h k = true := hh
    unfold stepRd at hh
    split at hh
    · exact wpIn_skip (hg .n _ _ ρ e a w hh (Le.refl _) he r hm (Sim.refl w))
    · rename_i id ops
      have h2 := bif_t hh
      clear hh
      obtain ⟨hN, hh⟩ := h2
      obtain ⟨hN, hnd⟩ := and_t hN
      have := xOps_out (U := U) hp hcf (ops := ops) (K := fun env h => k .n env h) ops.toList 0 ρ env h e w.heap hh he r
      refine wpIn_region_list (evOps_in hp hN w (fun a' w' e' hm' hs' ⟨ρ', env', h', hl, he', r', hk⟩ => hg .n _ _ ρ' e' a' w' hk hl he' r' hm' hs') ops.toList 0 e a w (fun o ho => by simpa using ho) (fun o ho => List.all_eq_true.1 hnd o ho) this hm (Sim.refl w))
    · rename_i x y
      refine wpIn_seq (ih x env h _ hh ρ e a w _ he r hm ?_)
      intro ex env' h' ρ' e' a' w' hk hl he' r' hm' hs'
      dsimp only at hk
      unfold seqS at hk
      split at hk
      · exact ih y env' h' k hk ρ' e' a' w' Q he' r' hm' fun ex2 env2 h2 ρ2 e2 a2 w2 hk2 hl2 he2 r2 hm2 hs2 => hg ex2 env2 h2 ρ2 e2 a2 w2 hk2 (hl.trans hl2) he2 r2 hm2 (hs'.trans hs2)
      · exact hg _ _ _ ρ' e' a' w' hk hl he' r' hm' hs'
      · exact hg _ _ _ ρ' e' a' w' hk hl he' r' hm' hs'
    · rename_i c x y
      obtain ⟨v, y', hx, hd, hh⟩ := xo_out he r.gl hh
      split at hh
      · cases hd
        split at hh
        · exact wpIn_cond_true (hm.eval hx) (ih x env h k hh ρ e a w Q he r hm hg)
        · exact wpIn_cond_false (hm.eval hx) (ih y env h k hh ρ e a w Q he r hm hg)
      · cases hh
    · rename_i id x
      refine wpIn_block (ih x env h _ hh ρ e a w _ he r hm ?_)
      intro ex env' h' ρ' e' a' w' hk hl he' r' hm' hs'
      dsimp only at hk
      unfold blkS at hk
      split at hk
      · exact hg .n _ _ ρ' e' a' w' hk hl he' r' hm' hs'
      · rename_i i
        show if i = id then Q .normal a' w' else Q (.exit i) a' w'
        by_cases hi : i = id
        · subst hi
          rw [if_pos rfl]
          rw [show Nat.beq i i = true by simp] at hk
          exact hg .n _ _ ρ' e' a' w' hk hl he' r' hm' hs'
        · rw [if_neg hi]
          rw [beq_dec, decide_eq_false hi] at hk
          exact hg (.x i) _ _ ρ' e' a' w' hk hl he' r' hm' hs'
      · exact hg .r _ _ ρ' e' a' w' hk hl he' r' hm' hs'
    · cases hh
end

/-! ### What nobody sees is turned -/
theorem R.putU (r : R ρ M U h H) {l : Nat} {x : Obj} (hl : U l = some x) (hnc : ∀ cs t fr, x ≠ .cells cs t fr) (y : Obj) : R ρ M (fun i => if i = l then some y else U i) h (H.setIfInBounds l y) := by
  have hlt : l < H.size := (Array.getElem?_eq_some_iff.1 (r.un l x hl)).1
  refine ⟨r.gl, r.dom, fun b o hb hv => ?_, r.inj, fun i o hi => ?_, r.bd, ?_⟩
  · obtain ⟨b1, b2, b3, z, q1, q2, q3, q4⟩ := r.ob b o hb hv
    have hne : b1 ≠ l := fun e => by rw [e, hl] at q3; cases q3
    exact ⟨b1, b2, b3, z, q1, by rw [Array.getElem?_setIfInBounds_ne (Ne.symm hne)]; exact q2, by rw [if_neg hne]; exact q3, q4⟩
  · by_cases e : i = l
    · subst e
      rw [if_pos rfl] at hi
      cases hi
      simp [hlt]
    · rw [if_neg e] at hi
      rw [Array.getElem?_setIfInBounds_ne (Ne.symm e)]
      exact r.un i o hi
  · obtain ⟨t, fr, m, hm⟩ := r.ml
    refine ⟨t, fr, m, ?_⟩
    show (if gML = l then some y else U gML) = _
    rw [if_neg (fun e => by rw [e, hl] at hm; cases hm; exact hnc _ _ _ rfl)]
    exact hm
theorem R.withU {U' : Un} (r : R ρ M U h H) (hml : MLOk U') (h1 : ∀ i, U i = none → U' i = none) (h2 : ∀ i o, U' i = some o → H[i]? = some o) : R ρ M U' h H :=
  ⟨r.gl, r.dom, fun b o hb hv => let ⟨b1, b2, b3, z, q1, q2, q3, q4⟩ := r.ob b o hb hv; ⟨b1, b2, b3, z, q1, q2, h1 _ q3, q4⟩, r.inj, h2, r.bd, hml⟩
theorem simPut (w : World) (l : Nat) (o : Obj) : Sim w (w.putObj l o) := ⟨rfl, rfl, rfl⟩
/-- A place that is dead. -/
theorem R.newDead (r : R ρ M U h H) {p : Ps} (hp : look (.i p) h.t = none) (x : Nat × Nat × Nat) (q : Ps) : R (ext ρ (.i p) x) M U { h with t := ins .dead (.i p) h.t, nx := q } H := by
  have hle := r.le_ext hp x
  have key : ∀ {b : Ps} {o : Ob}, look b (ins .dead (.i p) h.t) = some o → live o → b ≠ .i p ∧ look b h.t = some o := by
    intro b o hb hl
    rw [look_ins] at hb
    by_cases e : b = .i p
    · rw [if_pos e] at hb; cases hb; exact hl.elim
    · rw [if_neg e] at hb; exact ⟨e, hb⟩
  refine ⟨fun g => hle _ _ (r.gl g), fun p' hp' => ?_, fun b o hb hl => ?_, fun b1 b2 o1 o2 x1 x2 h1 h2 l1 l2 e1 e2 e => ?_, r.un, r.bd, r.ml⟩
  · show look (.i p') (ins .dead (.i p) h.t) ≠ none
    rw [look_ins]
    split
    · simp
    · rename_i hne
      apply r.dom p'
      unfold ext at hp'
      rwa [if_neg hne] at hp'
  · obtain ⟨_, hb'⟩ := key hb hl
    obtain ⟨b1, b2, b3, z, q1, q2, q3, q4⟩ := r.ob b o hb' hl
    exact ⟨b1, b2, b3, z, hle _ _ q1, q2, q3, q4.mono hle⟩
  · obtain ⟨n1, h1'⟩ := key h1 l1
    obtain ⟨n2, h2'⟩ := key h2 l2
    unfold ext at e1 e2
    rw [if_neg n1] at e1
    rw [if_neg n2] at e2
    exact r.inj _ _ _ _ _ _ h1' h2' l1 l2 e1 e2 e

/-! ### A round -/
noncomputable def insP (l : List (Tmp × V)) (env : Tr V) (k : Tr V → Bool) : Bool := List.rec (motive := fun _ => Tr V → Bool) (fun env => k env) (fun x _ ih env => insK x.2 (pth x.1) env ih) l env
theorem insP_out {ρ : Rho} {N : Nat} {Ds : List Deferred} {k : Tr V → Bool} : ∀ (ps : List Tmp) (vs : List V) (xs : List Value) (env : Tr V) (e : Env) (tmps : Array Value), insP (ps.zip vs) env k = true → vs.length = ps.length → DnL ρ M vs xs → E ρ M env e → Mt N Ds { tmps := tmps, defers := Ds } e → ps.all (Nat.blt · N) = true →
    ∃ env' e', k env' = true ∧ E ρ M env' e' ∧ Mt N Ds { tmps := (ps.zip xs).foldl (fun tmps x => tmps.setIfInBounds x.1 x.2) tmps, defers := Ds } e' := by
  intro ps
  induction ps with
  | nil => intro vs xs env e tmps hh _ _ he hm _; exact ⟨env, e, hh, he, hm⟩
  | cons p ps ih =>
    intro vs xs env e tmps hh hl hd he hm hlt
    cases vs with
    | nil => simp at hl
    | cons v vs =>
      obtain ⟨x, xs, rfl, h1, h2⟩ := hd.uncons
      replace hh : (insK v (pth p) env fun env => insP (ps.zip vs) env k) = true := hh
      rw [insK_eq] at hh
      simp only [List.all_cons, Bool.and_eq_true, Nat.blt_eq] at hlt
      have hm' : Mt N Ds { tmps := tmps.setIfInBounds p x, defers := Ds } (put e (some p) x) := by
        refine ⟨by simpa using hm.size, rfl, fun t v hv => ?_⟩
        rw [put_some] at hv
        have hsz : tmps.size = N := hm.size
        split at hv
        · rename_i e1
          cases hv
          subst e1
          simp [hsz, hlt.1]
        · rename_i e1
          have := hm.val t v hv
          show (tmps.setIfInBounds p x)[t]? = some v
          rw [Array.getElem?_setIfInBounds_ne (Ne.symm e1)]
          exact this
      refine ih vs xs _ (put e (some p) x) _ hh (by simpa using hl) h2 (fun t u hu => ?_) hm' hlt.2
      rw [look_ins] at hu
      rw [put_some]
      by_cases hq : pth t = pth p
      · rw [if_pos hq] at hu
        cases hu
        rw [if_pos (pth_inj hq)]
        exact ⟨x, rfl, h1⟩
      · rw [if_neg hq] at hu
        rw [if_neg (fun e => hq (by rw [e]))]
        exact he t u hu
/-- One round: the loop's own variables, the body. -/
noncomputable def rndK (P : Program) (cf : CallF) (N : Nat) (ps : List Tmp) (assign body : Code) (env : Tr V) (vs : List V) (h : Hp) (K : V → Hp → Bool) : Bool :=
  lenK' vs fun n => bif Nat.beq n ps.length && ps.all (Nat.blt · N) then insP (ps.zip vs) env fun env => xRd P cf N 50 assign env h fun ex env h => (match ex with
    | .n => xRd P cf N 50 body env h fun ex _ h => (match ex with | .n => K (.bool true) h | _ => false)
    | _ => false) else false
def recOf (f : FuncId) (tmps : Array Value) (ps : Array Tmp) (assign body : Code) (r : Nat) : Loop := { state := .ready, pending := none, fn := f, tmps := tmps, params := ps, assign := assign, body := body, defers := r }
theorem round_out {cf : CallF} (hp : progOk P = true) (hcf : CallOk P M cf) {N : Nat} {f : FuncId} {tmps : Array Value} {ps : Array Tmp} {assign body : Code} {dr l m : Nat} {env : Tr V} {e : Env} (he : E ρ M env e) (hm : Mt N [] { tmps := tmps, defers := [] } e)
    {w : World} (hU : U l = some (.loop (recOf f tmps ps assign body dr))) (r : R ρ M U h w.heap) {vs : List V} {xs : List Value} (hd : DnL ρ M vs xs) {K : V → Hp → Bool} (hh : rndK P cf N ps.toList assign body env vs h K = true) :
    (Instr.yield l xs.toArray).run P w = .ok (.round l f ((ps.zip xs.toArray).foldl (fun tmps (t, a) => tmps.setIfInBounds t a) tmps) assign body) w ∧
    RoundIn (FW none) m P l f ((ps.zip xs.toArray).foldl (fun tmps (t, a) => tmps.setIfInBounds t a) tmps) assign body w fun e w' => ∃ v, e = .returned v ∧ Sim w w' ∧ Af ρ M U K v w'.heap := by
  unfold rndK at hh
  rw [lenK'_eq] at hh
  have h2 := bif_t hh
  clear hh
  obtain ⟨hc, hh⟩ := h2
  obtain ⟨hc, hlt⟩ := and_t hc
  have hc := Nat.eq_of_beq_eq_true hc
  have hw0 := r.un l _ hU
  refine ⟨run_yield (r := recOf f tmps ps assign body dr) hw0 (by show xs.toArray.size = ps.size; rw [List.size_toArray, ← hd.1, hc]; simp), ?_⟩
  obtain ⟨env1, e1, hh, he1, hm1⟩ := insP_out (Ds := []) ps.toList vs xs env e tmps hh hc hd he hm hlt
  have hz : (ps.zip xs.toArray).foldl (fun tmps (x : Tmp × Value) => tmps.setIfInBounds x.1 x.2) tmps = (ps.toList.zip xs).foldl (fun tmps x => tmps.setIfInBounds x.1 x.2) tmps := by
    rw [← Array.foldl_toList, Array.toList_zip]
  refine roundIn_of_wpIn (F := FW none) trivial ?_
  show assign.wpIn (FW (some l)) m P _ _ w
  rw [show (ps.zip xs.toArray).foldl (fun tmps (t, a) => tmps.setIfInBounds t a) tmps = (ps.toList.zip xs).foldl (fun tmps x => tmps.setIfInBounds x.1 x.2) tmps from hz]
  refine xRd_sound (U := U) (Ds := []) hp hcf 50 assign env1 h _ hh ρ e1 _ w _ he1 r hm1 ?_
  intro ex env2 h2 ρ2 e2 a2 w2 hk2 hl2 he2 r2 hm2 hs2
  dsimp only at hk2
  split at hk2
  · have hw2 := r2.un l _ hU
    refine ⟨_, run_beginRound hw2 rfl, ?_⟩
    have r3 : R ρ2 M (fun i => if i = l then some (.loop { recOf f tmps ps assign body dr with state := .busy }) else U i) h2 (w2.putObj l (.loop { recOf f tmps ps assign body dr with state := .busy })).heap := r2.putU hU (fun _ _ _ h => by cases h) _
    show body.wpIn (FW (some l)) m P _ _ _
    refine xRd_sound (U := fun i => if i = l then some (.loop { recOf f tmps ps assign body dr with state := .busy }) else U i) (Ds := []) hp hcf 50 body env2 h2 _ hk2 ρ2 e2 a2 _ _ he2 r3 hm2 ?_
    intro ex env4 h4 ρ4 e4 a4 w4 hk4 hl4 he4 r4 hm4 hs4
    dsimp only at hk4
    split at hk4
    · have hw4 := r4.un l _ (by rw [if_pos rfl])
      refine ⟨_, _, run_endRound none hw4, .bool true, rfl, hs2.trans ((simPut _ _ _).trans (hs4.trans (simPut _ _ _))), ρ4, .bool true, h4, hl2.trans hl4, ?_, .bool true, hk4⟩
      have r5 := r4.putU (l := l) (by rw [if_pos rfl]) (fun _ _ _ h => by cases h) (.loop (recOf f tmps ps assign body dr))
      refine (show R ρ4 M _ h4 (w4.putObj l (.loop (recOf f tmps ps assign body dr))).heap from r5).withU r.ml (fun i hi => ?_) (fun i o hi => ?_)
      · by_cases e : i = l
        · subst e; rw [if_pos rfl] at hi; cases hi
        · rw [if_neg e, if_neg e] at hi
          exact hi
      · refine r5.un i o ?_
        by_cases e : i = l
        · subst e; rw [if_pos rfl, ← hU]; exact hi
        · rw [if_neg e, if_neg e]; exact hi
    · cases hk4
  · cases hk2
end Go.X
/-! The interpreter: a range over a function. -/
namespace Go.X
open Go.Ex
variable {P : Program} {ρ : Rho} {M : Nat} {U : Un} {h : Hp} {H : Heap} {env : Tr V} {e : Env}

/-! ### The function that is ranged over -/
abbrev Rnd := List V → Hp → (V → Hp → Bool) → Bool
noncomputable def isYld (p0 : Ps) (v : V) : Bool := match v with | .yld p => psE p p0 | _ => false
theorem isYld_out {p0 : Ps} {v : V} (h : isYld p0 v = true) : v = .yld p0 := by
  unfold isYld at h
  split at h
  · rw [psE_out h]
  · cases h
/-- Is it the call of a round? -/
noncomputable def yK (p0 : Ps) (op : Op) (env : Tr V) (yes : List Operand → Bool) (no : Bool) : Bool :=
  match op with
  | .call ⟨.value (.tmp t), args, _⟩ => getK (pth t) env fun v => bif isYld p0 v then yes args.toList else no
  | _ => no
noncomputable def xYops (P : Program) (cf : CallF) (p0 : Ps) (rnd : Rnd) (ops : Array Oper) (l : List Oper) (env : Tr V) (h : Hp) (K : KE) : Bool :=
  List.rec (motive := fun _ => Tr V → Hp → Bool) (fun env h => K env h)
    (fun o _ ih env h => wantK ops o env fun w => match w with
      | false => putK env o.dst (.tup []) fun env => ih env h
      | true => yK p0 o.op env (fun args => xL env args fun vs => rnd vs h fun v h => nrmK h fun h => putK env o.dst v fun env => ih env h)
          (xOp P cf o env h fun v h => putK env o.dst v fun env => ih env h)) l env h
def RndOk (P : Program) (M : Nat) (U : Un) (ρ0 : Rho) (l : Nat) (rnd : Rnd) : Prop := ∀ (ρ : Rho) (h : Hp) (w : World) (vs : List V) (xs : List Value) (K : V → Hp → Bool) (m : Nat), Le ρ0 ρ → R ρ M U h w.heap → DnL ρ M vs xs → rnd vs h K = true →
  ∃ f tmps assign body, (Instr.yield l xs.toArray).run P w = .ok (.round l f tmps assign body) w ∧ RoundIn (FW none) m P l f tmps assign body w fun e w' => ∃ v, e = .returned v ∧ Sim w w' ∧ Af ρ M U K v w'.heap
section
variable {cf : CallF} {N : Nat} {p0 : Ps} {l0 b0 k0 : Nat} {rnd : Rnd} {ρ0 : Rho}
theorem xYops_out (hp : progOk P = true) (hcf : CallOk P M cf) (hρ : ρ0 p0 = some (l0, b0, k0)) (hr : RndOk P M U ρ0 l0 rnd) {Ds : List Deferred} {m : Nat} {ops : Array Oper} {Q : Exit → Act → World → Prop} {K : KE} (hN : dstsOk N ops = true) : ∀ (l : List Oper) (ρ : Rho) (env : Tr V) (h : Hp) (e : Env) (a : Act) (w : World), (∀ o ∈ l, o ∈ ops) → (∀ o ∈ l, nDef o = true) →
    xYops P cf p0 rnd ops l env h K = true → Le ρ0 ρ → E ρ M env e → R ρ M U h w.heap → Mt N Ds a e →
    (∀ env h ρ' e a' w', K env h = true → Le ρ ρ' → E ρ' M env e → R ρ' M U h w'.heap → Mt N Ds a' e → Sim w w' → Q .normal a' w') → wpListIn (FW none) m P ops Q l a w := by
  intro l
  induction l with
  | nil => intro ρ env h e a w _ _ hh h0 he r hm hg; exact hg env h ρ e a w hh (Le.refl _) he r hm (Sim.refl w)
  | cons o l ih =>
    intro ρ env h e a w hl hnd hh h0 he r hm hg
    have ho : o ∈ ops := hl o (by simp)
    have hrest : ∀ o ∈ l, o ∈ ops := fun o' h' => hl o' (by simp [h'])
    have hnd' : ∀ o ∈ l, nDef o = true := fun o' h' => hnd o' (by simp [h'])
    have hno := nDef_out (hnd o (by simp))
    have hd := dsts_lt hN ho
    replace hh : (wantK ops o env fun w => match w with
      | false => putK env o.dst (.tup []) fun env => xYops P cf p0 rnd ops l env h K
      | true => yK p0 o.op env (fun args => xL env args fun vs => rnd vs h fun v h => nrmK h fun h => putK env o.dst v fun env => xYops P cf p0 rnd ops l env h K)
          (xOp P cf o env h fun v h => putK env o.dst v fun env => xYops P cf p0 rnd ops l env h K)) = true := hh
    obtain ⟨b, hw, hh⟩ := wantK_out he hh
    have step : ∀ {ρ' : Rho} {v : V} {x : Value} {h' : Hp} {w' : World}, Le ρ ρ' → R ρ' M U h' w'.heap → Dn ρ' M v x → (putK env o.dst v fun env => xYops P cf p0 rnd ops l env h' K) = true → Sim w w' → wpListIn (FW none) m P ops Q l (a.put o.dst x) w' := by
      intro ρ' v x h' w' hle r' hdx hk hs
      obtain ⟨env', hk, he'⟩ := putK_out hk (he.mono hle) hdx
      exact ih ρ' env' h' _ _ w' hrest hnd' hk (h0.trans hle) he' r' (hm.put _ hd _) fun env2 h2 ρ2 e2 a2 w2 hk2 hl2 he2 r2 hm2 hs2 => hg env2 h2 ρ2 e2 a2 w2 hk2 (hle.trans hl2) he2 r2 hm2 (hs.trans hs2)
    unfold wpListIn
    cases b with
    | false =>
      rw [if_neg (by rw [wantedK_spec hw (fun t _ => hm.val t)]; simp)]
      exact ⟨fun _ _ => trivial, step (Le.refl _) r dn_undef hh (Sim.refl w)⟩
    | true =>
      rw [if_pos (wantedK_spec hw (fun t _ => hm.val t))]
      simp only at hh
      have other : (xOp P cf o env h fun v h => putK env o.dst v fun env => xYops P cf p0 rnd ops l env h K) = true → o.wpIn (FW none) m P a w (wpListIn (FW none) m P ops Q l) Q := by
        intro hh
        refine wpIn_conv hno ?_
        simp only [xOp_eq] at hh
        unfold xOpB at hh
        cases hk : kindOf P o.op with
        | pure =>
          rw [hk] at hh
          simp only at hh
          obtain ⟨t, nx, lo, hi⟩ := h
          replace hh : (xPure P lo hi o.op env fun v lo hi => putK env o.dst v fun env => xYops P cf p0 rnd ops l env ⟨t, nx, lo, hi⟩ K) = true := hh
          obtain ⟨v, x, lo', hi', hdx, h1, h2, hk, hev⟩ := xPure_out he r.gl r.bd.1 r.bd.2 hh
          obtain ⟨x', rfl, hrun⟩ := evPure_out hev
          unfold Oper.wp
          rw [hrun a.eval (hm.agrees _) w]
          exact step (Le.refl _) (r.bound h1 h2) hdx hk (Sim.refl w)
        | read =>
          rw [hk] at hh
          simp only at hh
          obtain ⟨v, x, hdx, hk, hev⟩ := xRead_out he r hh
          obtain ⟨x', rfl, hrun⟩ := evRead_out hev
          unfold Oper.wp
          rw [hrun a.eval (hm.agrees _) w rfl]
          exact step (Le.refl _) r hdx hk (Sim.refl w)
        | write =>
          rw [hk] at hh
          simp only at hh
          have := xWrite_out hp hcf he r hh
          refine evWrite_out hp this (hm.agrees _) w rfl ?_
          rintro u w' hs' ⟨ρ', v, h', hle, r', hdx, hk⟩
          simp only [nrmK_eq] at hk
          exact step hle r' hdx hk hs'
      unfold yK at hh
      split at hh
      · rename_i t args ts hop
        have h9 := getK_out hh
        clear hh
        obtain ⟨v, hv, hh⟩ := h9
        cases hy : isYld p0 v with
        | false => rw [hy] at hh; exact other hh
        | true =>
          rw [hy] at hh
          simp only [cond_true] at hh
          obtain rfl := isYld_out hy
          obtain ⟨x, hx, hdx⟩ := he t _ hv
          obtain ⟨vs, xs, hxs, hvs, hh⟩ := xL_out he r.gl hh
          cases hdx with
          | yld hρ' =>
          rename_i l1 base kap
          have e1 := h0 _ _ hρ
          rw [hρ'] at e1
          cases e1
          obtain ⟨f, tmps, assign, body, hrun, hround⟩ := hr ρ h w vs xs _ (m - 1) h0 r hvs hh
          have ea := map_agrees hxs (τ := a.eval) (fun y hy => hm.agrees o.op.operands.toList y (by rw [hop]; simp [Op.operands, Call.operands]; simp at hy; exact .inr hy))
          have ea' : args.map a.eval = xs.toArray := by rw [← ea]; cases args; simp
          have ht : a.eval (.tmp t) = .func (.yield l0) #[] #[] := by
            have := hm.eval (x := .tmp t) (v := .func (.yield l0) #[] #[]) hx
            exact this
          refine ⟨fun _ _ => trivial, ?_⟩
          rw [Oper.semAt_eq _ _ _ hno]
          have hex : (execOp a.eval o).run P w = .ok (.round l0 f tmps assign body) w := by
            unfold execOp
            rw [hop]
            simp only [resolve, ea', ht, Deferred.ofValue, pure_bind, invoke]
            rw [Array.empty_append]
            exact hrun
          rw [hex, Oper.uponIn_round]
          refine ⟨fun hd => (by cases hd), RoundIn.mono (hround) ?_⟩
          rintro en w' ⟨v, rfl, hs, ρ', v', h', hle, r', hdv, hk⟩
          simp only [nrmK_eq] at hk
          exact step hle r' hdv hk hs
      · exact other hh
noncomputable def stepY (P : Program) (cf : CallF) (p0 : Ps) (rnd : Rnd) (N : Nat) (rec : Code → Tr V → Hp → KC → Bool) (c : Code) (env : Tr V) (h : Hp) (k : KC) : Bool :=
  match c with
  | .skip => k .n env h
  | .region _ ops false => bif dstsOk N ops && ops.toList.all nDef then xYops P cf p0 rnd ops ops.toList env h fun env h => k .n env h else false
  | .seq x y => rec x env h fun ex env h => seqS ex env h k (rec y env h k)
  | .cond c x y => xo env c fun v => (match v with | .bool b => (match b with | true => rec x env h k | false => rec y env h k) | _ => false)
  | .block id x => rec x env h fun ex env h => blkS id ex env h k
  | .loop x => rec x env h fun ex env h => seqS ex env h k (rec (.loop x) env h k)
  | .exit id => k (.x id) env h
  | .ret => k .r env h
  | _ => false
noncomputable def xY (P : Program) (cf : CallF) (p0 : Ps) (rnd : Rnd) (N n : Nat) : Code → Tr V → Hp → KC → Bool :=
  Nat.rec (motive := fun _ => Code → Tr V → Hp → KC → Bool) (fun _ _ _ _ => false) (fun _ ih => stepY P cf p0 rnd N ih) n
theorem xY_succ (P : Program) (cf : CallF) (p0 : Ps) (rnd : Rnd) (N n : Nat) (c : Code) (env : Tr V) (h : Hp) (k : KC) : xY P cf p0 rnd N (n + 1) c env h k = stepY P cf p0 rnd N (xY P cf p0 rnd N n) c env h k := rfl
theorem xY_sound (hp : progOk P = true) (hcf : CallOk P M cf) (hρ : ρ0 p0 = some (l0, b0, k0)) (hr : RndOk P M U ρ0 l0 rnd) {Ds : List Deferred} : ∀ (n : Nat) (c : Code) (env : Tr V) (h : Hp) (k : KC), xY P cf p0 rnd N n c env h k = true → ∀ (ρ : Rho) (e : Env) (a : Act) (w : World) (Q : Exit → Act → World → Prop), Le ρ0 ρ → E ρ M env e → R ρ M U h w.heap → Mt N Ds a e →
    Goal ρ M U N Ds w k Q → c.wp P Q a w := by
  intro n
  induction n using Nat.strongRecOn with
  | _ n ih =>
  intro c env h k hh ρ e a w Q h0 he r hm hg
  cases n with
  | zero => cases hh
  | succ n =>
  rw [xY_succ] at hh
  unfold stepY at hh
  split at hh
  · exact wp_skip (hg .n _ _ ρ e a w hh (Le.refl _) he r hm (Sim.refl w))
  · rename_i id ops
    have h2 := bif_t hh
    clear hh
    obtain ⟨hN, hh⟩ := h2
    obtain ⟨hN, hnd⟩ := and_t hN
    refine (wpIn_wide (n := 0)).1 (show (Code.region id ops false).wpIn (FW none) 0 P Q a w from wpIn_region_list ?_)
    exact xYops_out hp hcf hρ hr hN ops.toList ρ env h e a w (fun o ho => by simpa using ho) (fun o ho => List.all_eq_true.1 hnd o ho) hh h0 he r hm fun env h ρ' e a' w' hk hl he' r' hm' hs' => hg .n env h ρ' e a' w' hk hl he' r' hm' hs'
  · rename_i x y
    refine wp_seq (ih n (by omega) x env h _ hh ρ e a w _ h0 he r hm ?_)
    intro ex env' h' ρ' e' a' w' hk hl he' r' hm' hs'
    dsimp only at hk
    unfold seqS at hk
    split at hk
    · exact ih n (by omega) y env' h' k hk ρ' e' a' w' Q (h0.trans hl) he' r' hm' fun ex2 env2 h2 ρ2 e2 a2 w2 hk2 hl2 he2 r2 hm2 hs2 => hg ex2 env2 h2 ρ2 e2 a2 w2 hk2 (hl.trans hl2) he2 r2 hm2 (hs'.trans hs2)
    · exact hg _ _ _ ρ' e' a' w' hk hl he' r' hm' hs'
    · exact hg _ _ _ ρ' e' a' w' hk hl he' r' hm' hs'
  · rename_i c x y
    obtain ⟨v, y', hx, hd, hh⟩ := xo_out he r.gl hh
    split at hh
    · cases hd
      split at hh
      · exact wp_cond_true (hm.eval hx) (ih n (by omega) x env h k hh ρ e a w Q h0 he r hm hg)
      · exact wp_cond_false (hm.eval hx) (ih n (by omega) y env h k hh ρ e a w Q h0 he r hm hg)
    · cases hh
  · rename_i id x
    refine wp_block (ih n (by omega) x env h _ hh ρ e a w _ h0 he r hm ?_)
    intro ex env' h' ρ' e' a' w' hk hl he' r' hm' hs'
    dsimp only at hk
    unfold blkS at hk
    split at hk
    · exact hg .n _ _ ρ' e' a' w' hk hl he' r' hm' hs'
    · rename_i i
      show if i = id then Q .normal a' w' else Q (.exit i) a' w'
      by_cases hi : i = id
      · subst hi
        rw [if_pos rfl]
        rw [show Nat.beq i i = true by simp] at hk
        exact hg .n _ _ ρ' e' a' w' hk hl he' r' hm' hs'
      · rw [if_neg hi]
        rw [beq_dec, decide_eq_false hi] at hk
        exact hg (.x i) _ _ ρ' e' a' w' hk hl he' r' hm' hs'
    · exact hg .r _ _ ρ' e' a' w' hk hl he' r' hm' hs'
  · rename_i x
    refine wp_loop_ghost (fun m a' w' => m ≤ n + 1 ∧ ∃ env' h' ρ' e', xY P cf p0 rnd N m (.loop x) env' h' k = true ∧ Le ρ ρ' ∧ E ρ' M env' e' ∧ R ρ' M U h' w'.heap ∧ Mt N Ds a' e' ∧ Sim w w') (n + 1)
      ⟨Nat.le_refl _, env, h, ρ, e, hh, Le.refl _, he, r, hm, Sim.refl w⟩ ?_
    rintro m a1 w1 ⟨hmn, env1, h1, ρ1, e1, hx1, hl1, he1, r1, hm1, hs1⟩
    cases m with
    | zero => cases hx1
    | succ m =>
    rw [xY_succ] at hx1
    refine ih m (by omega) x env1 h1 _ hx1 ρ1 e1 a1 w1 _ (h0.trans hl1) he1 r1 hm1 ?_
    intro ex env2 h2 ρ2 e2 a2 w2 hk hl2 he2 r2 hm2 hs2
    dsimp only at hk
    unfold seqS at hk
    split at hk
    · exact ⟨m, by omega, by omega, env2, h2, ρ2, e2, hk, hl1.trans hl2, he2, r2, hm2, hs1.trans hs2⟩
    · exact hg _ _ _ ρ2 e2 a2 w2 hk (hl1.trans hl2) he2 r2 hm2 (hs1.trans hs2)
    · exact hg _ _ _ ρ2 e2 a2 w2 hk (hl1.trans hl2) he2 r2 hm2 (hs1.trans hs2)
  · exact wp_exit (hg (.x _) _ _ ρ e a w hh (Le.refl _) he r hm (Sim.refl w))
  · exact wp_ret (hg .r _ _ ρ e a w hh (Le.refl _) he r hm (Sim.refl w))
  · cases hh
end
end Go.X
/-! The interpreter: a function that ranges over a function, once. -/
namespace Go.X
open Go.Ex
variable {P : Program} {ρ : Rho} {M : Nat} {U : Un} {h : Hp} {H : Heap} {env : Tr V} {e : Env}

/-- What the activation has put off: nothing, or the mark of the one range. -/
inductive St (U : Un) : Bool → Un → List Deferred → Prop where
  | no : St U false U []
  | yes {U' : Un} {r : Nat} (h1 : U' r = some (.deferred (some []))) (h2 : U r = none) (h3 : ∀ i o, U i = some o → U' i = some o) : St U true U' [{ target := .collected r, args := #[] }]
abbrev KS := Xt → Tr V → Hp → Bool → Bool
/-- The range: the function's body is run, with the rounds where it calls. -/
noncomputable def xRgF (P : Program) (cf : CallF) (N : Nat) (g : Operand) (ps : List Tmp) (assign body : Code) (env : Tr V) (h : Hp) (k : Hp → Bool) : Bool :=
  xo env g fun v => match v with
  | .fn f first cap => newK h .dead fun p h => match P.funcs[f]? with
    | none => false
    | some fn => (match fn.body with
      | none => false
      | some c => appK [.yld p] cap fun l => appK first l fun vs => lenK' vs fun n => bif Nat.ble n fn.ntmps then argsK vs 0 .lf fun env2 =>
          xY P cf p (rndK P cf N ps assign body env) fn.ntmps 10000 c env2 h fun ex env3 h => (match ex with | .x _ => false | .n => xRes P env3 h fn.results.toList fun _ => k h | .r => xRes P env3 h fn.results.toList fun _ => k h) else false)
  | _ => false
noncomputable def seqB (ex : Xt) (env : Tr V) (h : Hp) (D : Bool) (k : KS) (next : Bool) : Bool := match ex with | .n => next | .x i => k (.x i) env h D | .r => k .r env h D
noncomputable def blkB (id : Nat) (ex : Xt) (env : Tr V) (h : Hp) (D : Bool) (k : KS) : Bool := match ex with | .n => k .n env h D | .x i => bif Nat.beq i id then k .n env h D else k (.x i) env h D | .r => k .r env h D
noncomputable def stepS (P : Program) (cf : CallF) (ord : Nat → An) (N : Nat) (rec : Code → Tr V → Hp → Bool → KS → Bool) (c : Code) (env : Tr V) (h : Hp) (D : Bool) (k : KS) : Bool :=
  match c with
  | .seq x y => rec x env h D fun ex env h D => seqB ex env h D k (rec y env h D k)
  | .block id x => rec x env h D fun ex env h D => blkB id ex env h D k
  | .rangeFunc g ps assign body => (match D with | true => false | false => xRgF P cf N g ps.toList assign body env h fun h => k .n env h true)
  | c => xC P cf ord N 10000 c env h fun ex env h => k ex env h D
noncomputable def xS (P : Program) (cf : CallF) (ord : Nat → An) (N n : Nat) : Code → Tr V → Hp → Bool → KS → Bool :=
  Nat.rec (motive := fun _ => Code → Tr V → Hp → Bool → KS → Bool) (fun _ _ _ _ _ => false) (fun _ ih => stepS P cf ord N ih) n
def GoalS (ρ : Rho) (M : Nat) (U : Un) (N : Nat) (w : World) (k : KS) (Q : Exit → Act → World → Prop) : Prop :=
  ∀ ex env h D ρ' e U' Ds a' w', k ex env h D = true → Le ρ ρ' → E ρ' M env e → R ρ' M U' h w'.heap → St U D U' Ds → Mt N Ds a' e → Sim w w' → Q ex.to a' w'
section
variable {cf : CallF} {ord : Nat → An} {N : Nat}
theorem xRgF_out (hp : progOk P = true) (hcf : CallOk P M cf) {g : Operand} {ps : Array Tmp} {assign body : Code} {k : Hp → Bool} {e : Env} {a : Act} {w : World} {Q : Exit → Act → World → Prop} (he : E ρ M env e) (r : R ρ M U h w.heap) (hm : Mt N [] a e) (hh : xRgF P cf N g ps.toList assign body env h k = true)
    (hg : ∀ h ρ' U' Ds a' w', k h = true → Le ρ ρ' → R ρ' M U' h w'.heap → St U true U' Ds → Mt N Ds a' e → Sim w w' → Q .normal a' w') : (Code.rangeFunc g ps assign body).wp P Q a w := by
  unfold xRgF at hh
  obtain ⟨v, y, hx, hd, hh⟩ := xo_out he r.gl hh
  split at hh
  · rename_i f first cap
    obtain ⟨q, hfr, hh⟩ := newK_out hh
    split at hh
    · cases hh
    · rename_i fn hf
      split at hh
      · cases hh
      · rename_i c hb
        rw [appK_eq, appK_eq, lenK'_eq] at hh
        have h2 := bif_t hh
        clear hh
        obtain ⟨hle, hh⟩ := h2
        have hle := Nat.le_of_ble_eq_true hle
        cases hd with
        | fn e1 e2 d1 d2 =>
        rename_i a1 a2
        refine (wpIn_wide (n := 0)).1 (wpIn_rangeFunc (F := Fence.wide) fun fnid _ => ?_)
        -- the record
        obtain ⟨dr, hdr⟩ : ∃ dr, dr = w.heap.size := ⟨_, rfl⟩
        obtain ⟨l, hl⟩ : ∃ l, l = w.heap.size + 1 := ⟨_, rfl⟩
        obtain ⟨rc, hrc⟩ : ∃ rc, rc = recOf fnid a.tmps ps assign body dr := ⟨_, rfl⟩
        obtain ⟨w1, hw1⟩ : ∃ w1, w1 = (w.alloc (.deferred (some []))).alloc (.loop rc) := ⟨_, rfl⟩
        obtain ⟨yv, hyv⟩ : ∃ yv : Value, yv = .func (.yield l) #[] #[] := ⟨_, rfl⟩
        obtain ⟨xs2, hxs2⟩ : ∃ xs2 : List Value, xs2 = a1 ++ ([yv] ++ a2) := ⟨_, rfl⟩
        have hev : a.eval g = .func (.func f) a1.toArray a2.toArray := hm.eval hx
        have hent : (Instr.enterLoop fnid a.tmps ps assign body Fence.wide.round).run P w = .ok (l, [{ target := .collected dr, args := #[] }]) w1 := by
          rw [hw1, hrc, hl, hdr]
          exact run_enterLoop_outer fnid a.tmps ps assign body
        have hres : (resolve a.eval (rangeCall g l) 0).run P w1 = .ok { target := .fn (.func f) a2.toArray, args := a1.toArray ++ #[yv] } w1 := by
          have hy : a.eval (.const (.func (.yield l) #[] #[])) = yv := hyv.symm
          unfold resolve
          simp only [List.map_toArray, List.map_cons, List.map_nil, hev, hy]
          rfl
        -- the heap behind it
        obtain ⟨r1, u1⟩ := r.more (.deferred (some []))
        obtain ⟨r2, u2⟩ := r1.more (.loop rc)
        have hsz : (w.heap.push (.deferred (some []))).size = l := by rw [hl]; simp
        obtain ⟨U2, hU2⟩ : ∃ U2 : Un, U2 = fun i => if i = l then some (.loop rc) else if i = dr then some (.deferred (some [])) else U i := ⟨_, rfl⟩
        have r2' : R ρ M U2 h w1.heap := by
          rw [hU2, hw1, hdr, ← hsz]
          exact r2
        have r3 : R (ext ρ (.i h.nx) (l, 0, 0)) M U2 { h with t := ins .dead (.i h.nx) h.t, nx := q } w1.heap := r2'.newDead hfr (l, 0, 0) q
        have hle3 := r2'.le_ext hfr (l, 0, 0)
        have hρl : ext ρ (.i h.nx) (l, 0, 0) (.i h.nx) = some (l, 0, 0) := ext_same _ _ _
        have hD : DnL (ext ρ (.i h.nx) (l, 0, 0)) M (first ++ ([.yld (.i h.nx)] ++ cap)) xs2 := by
          rw [hxs2]
          refine DnL.append ⟨e1, fun i v x p q => (d1 i v x p q).mono hle3⟩ (DnL.append (.cons ?_ .nil) ⟨e2, fun i v x p q => (d2 i v x p q).mono hle3⟩)
          rw [hyv]
          exact .yld hρl
        obtain ⟨env2, hh, he2⟩ := argsK_out (ρ := ext ρ (.i h.nx) (l, 0, 0)) (M := M) hh (e := env0 fn.ntmps xs2) hD (fun t v hv => by rw [look_lf] at hv; cases hv) (fun j x hx => by
          have hj := (List.getElem?_eq_some_iff.1 hx).1
          unfold env0
          rw [Nat.zero_add, show Nat.blt j xs2.length = true by rw [Nat.blt_eq]; exact hj]
          exact hx)
        have hargs : (a1.toArray ++ #[yv]) ++ a2.toArray = xs2.toArray := by rw [hxs2]; simp
        refine ⟨l, _, w1, _, w1, f, xs2.toArray, w1, hent, hres, fun _ _ => trivial, ?_, fun hd => (by cases hd), callsIn_wide.2 ?_⟩
        · show (callFunc f ((a1.toArray ++ #[yv]) ++ a2.toArray)).run P w1 = _
          rw [hargs]
          exact run_enter hp hf (by rw [hb]; rfl) _ w1
        · refine calls_of_wp hf hb ?_
          have hUl : U2 l = some (.loop (recOf fnid a.tmps ps assign body dr)) := by rw [hU2, hrc]; simp only [if_pos]
          have hrnd : RndOk P M U2 (ext ρ (.i h.nx) (l, 0, 0)) l (rndK P cf N ps.toList assign body env) := by
            intro ρ' h' w' vs xs K m hle' r' hd' hk'
            obtain ⟨q1, q2⟩ := round_out (U := U2) (m := m) hp hcf (he.mono (hle3.trans hle')) (show Mt N [] { tmps := a.tmps, defers := [] } e from ⟨hm.size, rfl, hm.val⟩) hUl r' hd' hk'
            exact ⟨_, _, _, _, q1, q2⟩
          have hlen : xs2.length = (first ++ ([V.yld (.i h.nx)] ++ cap)).length := hD.1.symm
          refine xY_sound (U := U2) (Ds := []) hp hcf hρl hrnd 10000 c env2 _ _ hh _ _ _ w1 _ (Le.refl _) he2 r3 (mt0 hle hlen) ?_
          intro ex env3 h3 ρ3 e3 a3 w3 hk3 hl3 he3 r4 hm3 hs3
          have fin : (xRes P env3 h3 fn.results.toList fun _ => k h3) = true → bodyPost P fn (rangePost Fence.wide 0 P l Q { a with defers := [{ target := .collected dr, args := #[] }] ++ a.defers }) .ret a3 w3 := by
            intro hk
            obtain ⟨vs', xs', hk, hdr', hrun⟩ := xRes_out (P := P) he3 r4 hm3.val hk
            have hresx : ∃ v, (results fn a3.tmps).run P w3 = .ok v w3 := by
              unfold results
              refine ⟨if h : xs'.toArray.size = 1 then xs'.toArray[0] else .tuple xs'.toArray, ?_⟩
              rw [Sem.run_bind, Array.mapM_eq_mapM_toList, Sem.run_map]
              rw [hrun _ (fun t => rfl) (fun a t => rfl) w3 rfl]
              rfl
            obtain ⟨v, hv⟩ := hresx
            refine ⟨hm3.defers, v, hv, ?_⟩
            have hw3 := r4.un l _ hUl
            refine ⟨none, w3.putObj l (.loop { recOf fnid a.tmps ps assign body dr with state := .exhausted }), run_endLoop hw3 (by show LoopState.ready ≠ .busy; simp), ?_⟩
            have r5 := r4.putU hUl (fun _ _ _ h => by cases h) (.loop { recOf fnid a.tmps ps assign body dr with state := .exhausted })
            have hne : dr ≠ l := by rw [hdr, hl]; omega
            refine hg h3 ρ3 _ _ _ _ hk (hle3.trans hl3) (show R ρ3 M _ h3 (w3.putObj l (.loop { recOf fnid a.tmps ps assign body dr with state := .exhausted })).heap from r5) (.yes (r := dr) ?_ (by rw [hdr]; exact u1) (fun i o hi => ?_)) ?_ ?_
            · simp only [if_neg hne, hU2, if_pos]
            · have hlt : i < w.heap.size := (Array.getElem?_eq_some_iff.1 (r.un i o hi)).1
              have n1 : i ≠ l := by rw [hl]; omega
              have n2 : i ≠ dr := by rw [hdr]; omega
              simp only [hU2, if_neg n1, if_neg n2, hi]
            · exact ⟨hm.size, by show [_] ++ a.defers = _; rw [hm.defers]; rfl, hm.val⟩
            · have s1 : Sim w w1 := by rw [hw1]; exact (Sim.alloc w _).trans (Sim.alloc _ _)
              exact s1.trans (hs3.trans (simPut _ _ _))
          cases ex with
          | n => exact fin hk3
          | x i => cases hk3
          | r => exact fin hk3
  · cases hh
theorem St.trans' (hp : progOk P = true) (hcf : CallOk P M cf) {U : Un} {D : Bool} {U' : Un} {Ds : List Deferred} (h : St U D U' Ds) : ∀ i o, U i = some o → U' i = some o := by
  cases h with
  | no => exact fun _ _ h => h
  | yes _ _ h3 => exact h3
theorem xS_sound (hp : progOk P = true) (hcf : CallOk P M cf) : ∀ (n : Nat) (c : Code) (env : Tr V) (h : Hp) (D : Bool) (k : KS), xS P cf ord N n c env h D k = true → ∀ (ρ : Rho) (e : Env) (U' : Un) (Ds : List Deferred) (a : Act) (w : World) (Q : Exit → Act → World → Prop), E ρ M env e → R ρ M U' h w.heap → St U D U' Ds → Mt N Ds a e →
    GoalS ρ M U N w k Q → c.wp P Q a w := by
  intro n
  induction n with
  | zero => intro c env h D k hh; cases hh
  | succ n ih =>
    intro c env h D k hh ρ e U' Ds a w Q he r hD hm hg
    replace hh : stepS P cf ord N (xS P cf ord N n) c env h D k = true := hh
    unfold stepS at hh
    split at hh
    · rename_i x y
      refine wp_seq (ih x env h D _ hh ρ e U' Ds a w _ he r hD hm ?_)
      intro ex env' h' D' ρ' e' U2 Ds' a' w' hk hl he' r' hD' hm' hs'
      dsimp only at hk
      unfold seqB at hk
      split at hk
      · exact ih y env' h' D' k hk ρ' e' U2 Ds' a' w' Q he' r' hD' hm' fun ex2 env2 h2 D2 ρ2 e2 U3 Ds2 a2 w2 hk2 hl2 he2 r2 hD2 hm2 hs2 => hg ex2 env2 h2 D2 ρ2 e2 U3 Ds2 a2 w2 hk2 (hl.trans hl2) he2 r2 hD2 hm2 (hs'.trans hs2)
      · exact hg _ _ _ _ ρ' e' U2 Ds' a' w' hk hl he' r' hD' hm' hs'
      · exact hg _ _ _ _ ρ' e' U2 Ds' a' w' hk hl he' r' hD' hm' hs'
    · rename_i id x
      refine wp_block (ih x env h D _ hh ρ e U' Ds a w _ he r hD hm ?_)
      intro ex env' h' D' ρ' e' U2 Ds' a' w' hk hl he' r' hD' hm' hs'
      dsimp only at hk
      unfold blkB at hk
      split at hk
      · exact hg .n _ _ _ ρ' e' U2 Ds' a' w' hk hl he' r' hD' hm' hs'
      · rename_i i
        show if i = id then Q .normal a' w' else Q (.exit i) a' w'
        by_cases hi : i = id
        · subst hi
          rw [if_pos rfl]
          rw [show Nat.beq i i = true by simp] at hk
          exact hg .n _ _ _ ρ' e' U2 Ds' a' w' hk hl he' r' hD' hm' hs'
        · rw [if_neg hi]
          rw [beq_dec, decide_eq_false hi] at hk
          exact hg (.x i) _ _ _ ρ' e' U2 Ds' a' w' hk hl he' r' hD' hm' hs'
      · exact hg .r _ _ _ ρ' e' U2 Ds' a' w' hk hl he' r' hD' hm' hs'
    · rename_i g ps assign body
      split at hh
      · cases hh
      · cases hD
        exact xRgF_out hp hcf he r hm hh fun h2 ρ2 U2 Ds2 a2 w2 hk hl r2 hS hm2 hs2 => hg .n env h2 true ρ2 e U2 Ds2 a2 w2 hk hl (he.mono hl) r2 hS hm2 hs2
    · exact xC_sound (U := U') hp hcf 10000 _ env h _ hh ρ e a w Q he r hm fun ex env h ρ' e' a' w' hk hl he' r' hm' hs' => hg ex env h D ρ' e' U' Ds a' w' hk hl he' r' hD hm' hs'
end
/-- A function that ranges over a function. -/
noncomputable def xRangeF (P : Program) (ann : FuncId → Nat → An) (f : FuncId) (rec : CallF) (vs : List V) (h : Hp) (K : V → Hp → Bool) : Bool :=
  match P.funcs[f]? with
  | none => false
  | some fn => (match fn.body with
    | none => false
    | some c => lenK' vs fun n => bif Nat.ble n fn.ntmps then argsK vs 0 .lf fun env =>
        xS P rec (ann f) fn.ntmps 100 c env h false fun ex env h _ => (match ex with | .x _ => false | .n => xRes P env h fn.results.toList fun r => resS r K h | .r => xRes P env h fn.results.toList fun r => resS r K h) else false)
theorem xRangeF_out (hp : progOk P = true) {ann : FuncId → Nat → An} {rec : CallF} (ih : CallOk P M rec) {f : FuncId} (r : R ρ M U h H) {vs : List V} {xs : List Value} (hd : DnL ρ M vs xs) {K : V → Hp → Bool} (hh : xRangeF P ann f rec vs h K = true) : CW P f xs H (Af ρ M U K) := by
  unfold xRangeF at hh
  split at hh
  · cases hh
  · rename_i fn hf
    split at hh
    · cases hh
    · rename_i c hbd
      rw [lenK'_eq] at hh
      obtain ⟨hle, hh⟩ := bif_t hh
      have hle := Nat.le_of_ble_eq_true hle
      refine .inl ⟨fn, hf, by rw [hbd]; rfl, fun w hw => ?_⟩
      have hxl : xs.length = vs.length := hd.1.symm
      obtain ⟨env, hh, he⟩ := argsK_out (ρ := ρ) (M := M) hh (e := env0 fn.ntmps xs) hd (fun t v hv => by rw [look_lf] at hv; cases hv) (fun j x hx => by
        have hj := (List.getElem?_eq_some_iff.1 hx).1
        unfold env0
        rw [Nat.zero_add, show Nat.blt j xs.length = true by rw [Nat.blt_eq]; exact hj]
        exact hx)
      refine callsIn_wide.1 (callsIn_of_wp_marks (F := Fence.wide) (n := 0) hf hbd trivial ((wpIn_wide (n := 0)).2 ?_))
      refine xS_sound (U := U) hp ih 100 c env h false _ hh ρ (env0 fn.ntmps xs) U [] _ w _ he (by rw [hw]; exact r) .no (mt0 hle hxl) ?_
      intro ex env' h' D ρ' e' U' Ds a' w' hk hl he' r' hD' hm' hs'
      have fin : (xRes P env' h' fn.results.toList fun r => resS r K h') = true → bodyPostM Fence.wide 0 P fn (fun e w' => ∃ v, e = .returned v ∧ Sim w w' ∧ Af ρ M U K v w'.heap) .ret a' w' := by
        intro hk0
        obtain ⟨vs', xs', hk1, hdr, hrun⟩ := xRes_out (P := P) he' r' hm'.val hk0
        obtain ⟨v, hdv, hk4⟩ := resS_out hdr hk1
        show LeavesInM Fence.wide 0 P fn a'.tmps _ a'.defers .returning w'
        rw [hm'.defers]
        cases hD' with
        | no =>
          have hres : (results fn a'.tmps).run P w' = .ok (if h : xs'.toArray.size = 1 then xs'.toArray[0] else .tuple xs'.toArray) w' := by
            unfold results
            rw [Sem.run_bind, Array.mapM_eq_mapM_toList, Sem.run_map]
            rw [hrun _ (fun t => rfl) (fun a t => rfl) w' rfl]
            rfl
          exact ⟨_, hres, _, rfl, hs', ρ', v, h', hl, r', hdv, hk4⟩
        | yes h1 h2 h3 =>
        rename_i dr
        have hw' := r'.un dr _ h1
        refine ⟨by simp, .inl ⟨dr, w'.putObj dr (.deferred none), rfl, run_takeDeferred hw', ?_⟩⟩
        have r5 := r'.putU h1 (fun _ _ _ h => by cases h) (.deferred none)
        have r6 : R ρ' M U h' (w'.putObj dr (.deferred none)).heap := by
          refine (show R ρ' M _ h' (w'.putObj dr (.deferred none)).heap from r5).withU r.ml (fun i hi => ?_) (fun i o hi => ?_)
          · by_cases e : i = dr
            · subst e; exact h2
            · rw [if_neg e] at hi
              cases hu : U i with
              | none => rfl
              | some o => rw [h3 i o hu] at hi; cases hi
          · refine r5.un i o ?_
            have : i ≠ dr := fun e => by rw [e, h2] at hi; cases hi
            rw [if_neg this]
            exact h3 i o hi
        obtain ⟨vs2, xs2, hk2, hdr2, hrun2⟩ := xRes_out (P := P) he' r6 hm'.val (k := fun r => resS r K h') hk0
        obtain ⟨v2, hdv2, hk3⟩ := resS_out hdr2 hk2
        have hres : (results fn a'.tmps).run P (w'.putObj dr (.deferred none)) = .ok (if h : xs2.toArray.size = 1 then xs2.toArray[0] else .tuple xs2.toArray) (w'.putObj dr (.deferred none)) := by
          unfold results
          rw [Sem.run_bind, Array.mapM_eq_mapM_toList, Sem.run_map]
          rw [hrun2 _ (fun t => rfl) (fun a t => rfl) _ rfl]
          rfl
        exact ⟨_, hres, _, rfl, hs'.trans (simPut _ _ _), ρ', v2, h', hl, r6, hdv2, hk3⟩
      cases ex with
      | n => exact fin hk
      | x i => cases hk
      | r => exact fin hk
end Go.X
/-! The interpreter: which function goes which way, once more. -/
namespace Go.X
open Go.Ex
variable {P : Program} {M : Nat}
noncomputable def natDef (P : Program) (ann : FuncId → Nat → An) (f₀ : FuncId) (n : NatF) : NatF := fun rec bd f vs h K => bif Nat.beq f f₀ then xDefF P ann f₀ rec bd vs h K else n rec bd f vs h K
theorem natDef_ok (hp : progOk P = true) {ann : FuncId → Nat → An} {f₀ : FuncId} {n : NatF} (hn : NatOk P M n) : NatOk P M (natDef P ann f₀ n) := by
  intro rec bd hr hb ρ U h H f vs xs K r hd hh
  unfold natDef at hh
  cases he : Nat.beq f f₀ with
  | true =>
    rw [he] at hh
    rw [Nat.eq_of_beq_eq_true he]
    exact xDefF_out hp hr hb r hd hh
  | false =>
    rw [he] at hh
    exact hn rec bd hr hb ρ U h H f vs xs K r hd hh
noncomputable def natRange (P : Program) (ann : FuncId → Nat → An) (f₀ : FuncId) (n : NatF) : NatF := fun rec bd f vs h K => bif Nat.beq f f₀ then xRangeF P ann f₀ rec vs h K else n rec bd f vs h K
theorem natRange_ok (hp : progOk P = true) {ann : FuncId → Nat → An} {f₀ : FuncId} {n : NatF} (hn : NatOk P M n) : NatOk P M (natRange P ann f₀ n) := by
  intro rec bd hr hb ρ U h H f vs xs K r hd hh
  unfold natRange at hh
  cases he : Nat.beq f f₀ with
  | true =>
    rw [he] at hh
    rw [Nat.eq_of_beq_eq_true he]
    exact xRangeF_out hp hr r hd hh
  | false =>
    rw [he] at hh
    exact hn rec bd hr hb ρ U h H f vs xs K r hd hh
end Go.X
