/- An interpreter that the kernel runs is sound: calls, regions. -/
import Derived.Test.YtmgbpamhlojpiaaGreatDoorXd
import Derived.Lib.UnsafeStr
import Derived.Deep.LoopGhost
set_option linter.unusedVariables false
/-! The interpreter: calls; all operations that write. -/
namespace Go.X
open Go.Ex
variable {P : Program} {ρ : Rho} {M : Nat} {U : Un} {h : Hp} {H : Heap} {env : Tr V} {e : Env} {K : V → Hp → Bool}

/-- A call comes to Kp: a function of the program's own, or one of the machine's. -/
def CW (P : Program) (f : FuncId) (xs : List Value) (H : Heap) (Kp : Value → Heap → Prop) : Prop :=
  (∃ fn, P.funcs[f]? = some fn ∧ fn.body.isSome = true ∧ Ex.Fn P f xs.toArray H Kp) ∨
  ∀ w : World, w.heap = H → ∃ u w', (callFunc f xs.toArray).run P w = .ok (.value u) w' ∧ Sim w w' ∧ Kp u w'.heap
abbrev CallF := FuncId → List V → Hp → (V → Hp → Bool) → Bool
def CallOk (P : Program) (M : Nat) (cf : CallF) : Prop := ∀ (ρ : Rho) (U : Un) (h : Hp) (H : Heap) (f : FuncId) (vs : List V) (xs : List Value) (K : V → Hp → Bool), R ρ M U h H → DnL ρ M vs xs → cf f vs h K = true → CW P f xs H (Af ρ M U K)
theorem run_enter (hp : progOk P = true) {f : FuncId} {fn : Func} (hf : P.funcs[f]? = some fn) (hb : fn.body.isSome = true) (args : Array Value) (w : World) : (callFunc f args).run P w = .ok (.enter f args) w := by
  have hbn : fn.body.isNone = false := by cases hbb : fn.body <;> simp_all
  unfold callFunc
  rw [Sem.run_bind, run_program]
  simp only [Result.andThen, hf, progOk_num hp hf, hbn, Bool.false_eq_true, if_false]
  first | done | rfl
theorem cw_wr (hp : progOk P = true) {f : FuncId} {xs : List Value} {Kp : Value → Heap → Prop} (hc : CW P f xs H Kp) {op : Op} (hx : ∀ o : Oper, o.op = op → ∀ τ, Agrees e τ op.operands.toList → ∀ w, (execOp τ o).run P w = (callFunc f xs.toArray).run P w) :
    evWrite P op e H Kp := .inr fun o a w next Q ho ha hw hn => by
  unfold Oper.wp
  rw [hx o ho a.eval ha]
  rcases hc with ⟨fn, hf, hb, hc⟩ | hc
  · rw [run_enter hp hf hb]
    refine (hc w hw).mono ?_
    rintro ending w' ⟨v, rfl, hs, hk⟩
    exact hn v w' hs hk
  · obtain ⟨u, w', hr, hs, hk⟩ := hc w hw
    rw [hr]
    exact hn u w' hs hk
noncomputable def xCall (cf : CallF) (env : Tr V) (h : Hp) (fo : Operand) (args : List Operand) (K : V → Hp → Bool) : Bool :=
  xo env fo fun v => (match v with
    | .fn f first cap => xL env args fun vs => appK vs cap fun a => appK first a fun a => cf f a h K
    | _ => false)
theorem xCall_out (hp : progOk P = true) {cf : CallF} (hcf : CallOk P M cf) (he : E ρ M env e) (r : R ρ M U h H) {fo : Operand} {args : Array Operand} {ts : Array TypeId} (hh : xCall cf env h fo args.toList K = true) : Wr P ρ M U H (.call ⟨.value fo, args, ts⟩) e K := by
  unfold xCall at hh
  obtain ⟨v, x, hx, hd, hh⟩ := xo_out he r.gl hh
  split at hh
  · rename_i f first cap
    obtain ⟨vs, xs, hl, hvs, hh⟩ := xL_out he r.gl hh
    rw [appK_eq, appK_eq] at hh
    cases hd with
    | fn e1 e2 d1 d2 =>
    rename_i a1 a2
    have hD : DnL ρ M (first ++ (vs ++ cap)) (a1 ++ (xs ++ a2)) := DnL.append ⟨e1, d1⟩ (hvs.append ⟨e2, d2⟩)
    refine cw_wr hp (hcf ρ U h H f _ _ K r hD hh) fun o ho τ ha w => ?_
    obtain ⟨dst, op', type, pos, after, guard⟩ := o
    simp only at ho
    subst ho
    have ea := map_agrees hl (τ := τ) (fun y hy => ha y (by simp [Op.operands, Call.operands]; simp at hy; exact .inr hy))
    have ea' : args.map τ = xs.toArray := by rw [← ea]; cases args; simp
    have hf := ha fo (by simp [Op.operands, Call.operands]) _ hx
    simp only [execOp, resolve, ea', hf, Deferred.ofValue, pure_bind, invoke]
    congr 2
    simp
  · cases hh

/-! ### Methods of values behind an interface -/
noncomputable def xInv (P : Program) (cf : CallF) (env : Tr V) (h : Hp) (ro : Operand) (name : String) (args : List Operand) (K : V → Hp → Bool) : Bool :=
  xo env ro fun v => (match v with
    | .iface t u => (match P.info? t with
      | some i => (match i.methods.find? (·.name == name) with
        | some m => bif m.path.isEmpty then (match m.func, P.underlying t with
          | some (f, true), some (.pointer _) => xL env args fun vs => cf f (u :: vs) h K
          | _, _ => false) else false
        | none => false)
      | none => false)
    | _ => false)
theorem xInv_out (hp : progOk P = true) {cf : CallF} (hcf : CallOk P M cf) (he : E ρ M env e) (r : R ρ M U h H) {ro : Operand} {name : String} {args : Array Operand} {ts : Array TypeId} (hh : xInv P cf env h ro name args.toList K = true) : Wr P ρ M U H (.call ⟨.invoke ro name, args, ts⟩) e K := by
  unfold xInv at hh
  obtain ⟨v, x, hx, hd, hh⟩ := xo_out he r.gl hh
  split at hh
  · rename_i t u
    split at hh
    · rename_i i hi
      split at hh
      · rename_i m hm
        obtain ⟨hpath, hh⟩ := bif_t hh
        split at hh
        · rename_i f el hmf hu
          obtain ⟨vs, xs, hl, hvs, hh⟩ := xL_out he r.gl hh
          cases hd with
          | iface du =>
          rename_i y
          refine cw_wr hp (hcf ρ U h H f _ _ K r (DnL.cons du hvs) hh) fun o ho τ ha w => ?_
          obtain ⟨dst, op', type, pos, after, guard⟩ := o
          simp only at ho
          subst ho
          have ea := map_agrees hl (τ := τ) (fun y hy => ha y (by simp [Op.operands, Call.operands]; simp at hy; exact .inr hy))
          have ea' : args.map τ = xs.toArray := by rw [← ea]; cases args; simp
          have hr := ha ro (by simp [Op.operands, Call.operands]) _ hx
          simp only [execOp, resolve, ea', hr, pure_bind, invoke]
          have e0 : (#[Value.iface t y] ++ xs.toArray)[0]? = some (.iface t y) := by simp
          have e1 : (#[Value.iface t y] ++ xs.toArray).extract 1 (#[Value.iface t y] ++ xs.toArray).size = xs.toArray := by
            apply Array.ext'
            simp
          have hmeth : (method (P.types.size + Made.depth) t y name).run P w = .ok (f, y) w := by
            have hdep : Made.depth ≠ 0 := by decide
            obtain ⟨n, hn⟩ : ∃ n, P.types.size + Made.depth = n + 1 := ⟨P.types.size + Made.depth - 1, by omega⟩
            rw [hn, method]
            rw [Sem.run_bind, r_info hi]
            simp only [Result.andThen, hm]
            have hnil : m.path.toList = [] := by
              have : m.path = #[] := by simpa using hpath
              rw [this]
            rw [Sem.run_bind, hnil]
            simp only [follow, Sem.run_pure, Result.andThen, hmf]
            rw [Sem.run_bind]
            unfold receiverAt
            rw [Sem.run_bind, r_und hu]
            rfl
          rw [e0]
          simp only [e1]
          unfold callMethod
          simp only
          rw [Sem.run_bind, run_program]
          simp only [Result.andThen]
          rw [Sem.run_bind, hmeth]
          simp only [Result.andThen]
          congr 2
          simp
        · cases hh
      · cases hh
    · cases hh
  · cases hh

/-! ### Bytes that a text shares; copies of nothing; bytes that stay bytes -/
def tByte (P : Program) (t : TypeId) : Bool := match P.underlying t with | some (.int .u8) => Nat.beq (P.cellsOf t) 1 | _ => false
noncomputable def xUStr (P : Program) (h : Hp) (pt : TypeId) (v n : V) (K : V → Hp → Bool) : Bool :=
  match P.underlying pt, n with
  | some (.pointer el), .int _ (.ofNat 0) => (match v with | .nilp => K (.str 0 0) h | .ptr _ _ => K (.str 0 0) h | _ => false)
  | some (.pointer el), .int .i64 (.ofNat n) => (match v with
    | .ptr b o => bif Nat.ble n 9223372036854775807 && tByte P el then cellsK h b o n fun cs => numK cs fun N => getK b h.t fun ob => (match ob with
      | .cells c el' es op false => bif Nat.beq el' el && !(Nat.beq es 0) then insK (.cells c el' es op true) b h.t fun t => K (.str n N) ⟨t, h.nx, h.lo, h.hi⟩ else false
      | _ => false) else false
    | _ => false)
  | _, _ => false
theorem liesAt_bytes' {el : TypeId} (hc : P.cellsOf el = 1) (count off n : Nat) (hn : off + n ≤ count) : liesAt P P.depth el count off el n = true := by
  have hd : P.depth = (2 * (P.types.size + Made.depth) + 1) + 1 := rfl
  rw [hd]
  simp only [liesAt, Bool.or_eq_true]
  left
  rw [hd]
  simp [rowAt, hc, hn, sameLayout, Nat.mod_one]
theorem run_uStr (w : World) (pt it ty el : TypeId) (hp : P.underlying pt = some (.pointer el)) (hc : P.cellsOf el = 1) (g off cells : Nat) (hsh : w.shape? g = some (el, cells)) (l : List UInt8) (h0 : l ≠ []) (hn : off + l.length ≤ cells) (h63 : l.length ≤ 9223372036854775807)
    (hcell : ∀ (j : Nat) x, l[j]? = some x → w.cell? ((⟨g, off, none⟩ : Addr).add j) = some (.int .u8 x.toNat)) :
    (Builtin.unsafeString_ #[pt, it] ty #[.pointer (some ⟨g, off, none⟩), .int .i64 l.length]).run P w = .ok (.string ⟨l.toArray⟩) (w.freeze ⟨g, off, none⟩ l.length) := by
  have hl : l.length ≠ 0 := by simpa using h0
  have hlb := Lib.run_loadBytes (P := P) w l ⟨g, off, none⟩ .empty hcell
  have hlies := liesAt_bytes' (P := P) hc (cells / P.cellsOf el) off l.length (by rw [hc]; simpa using hn)
  have h63' : ¬ (9223372036854775807 : Int) < (l.length : Int) := by omega
  have hdef : Builtin.unsafeString_ #[pt, it] ty #[.pointer (some ⟨g, off, none⟩), .int .i64 l.length] =
      (do
        let n ← asInt (.int .i64 l.length)
        if n < 0 then runtimePanic (.error "unsafe.String: len out of range")
        if n > IntKind.i64.max then unsupported (.unsafePointer "String: a length above the largest int")
        if n = 0 then pure (.string .empty)
        else if ← variablesAt ⟨g, off, none⟩ (← elemOf pt) n.toNat then do
          let s ← loadBytes ⟨g, off, none⟩ .empty n.toNat
          freeze ⟨g, off, none⟩ n.toNat
          pure (.string s)
        else unsupported (.unsafePointer "String: not so many bytes at ptr")) := rfl
  rw [hdef]
  have hmax : IntKind.i64.max = 9223372036854775807 := rfl
  have hneg : ¬ (l.length : Int) < 0 := by omega
  simp [asInt, asIntOf, hmax, h63', hneg, hl, elemOf, run_underlying hp, variablesAt, hsh, hlies, hlb]
/-- A text shares an object's bytes: they are not written any more. -/
theorem R.freeze (r : R ρ M U h H) {b : Ps} {c : List V} {el es : Nat} {op ro : Bool} (hb : look b h.t = some (.cells c el es op ro)) {w : World} (hw : w.heap = H) {blk base kap : Nat} (hρ : ρ b = some (blk, base, kap)) (off n : Nat) (hes : es ≠ 0) :
    R ρ M U { h with t := ins (.cells c el es op true) b h.t } (w.freeze ⟨blk, off, none⟩ n).heap := by
  obtain ⟨blk2, base2, kap2, x2, q1, q2, _, arr, frz, hx2, q4, q5, q6, q7, q8⟩ := r.ob b _ hb trivial
  rw [hρ] at q1
  cases q1
  subst hx2
  by_cases hn : n = 0
  · have : (w.freeze ⟨blk, off, none⟩ n).heap = H := by unfold World.freeze; rw [if_pos hn, hw]
    rw [this]
    exact r.upd hb trivial hρ (fun _ _ => rfl) q2 ⟨arr, frz, rfl, q4, q5, q6, (fun h => by cases h), fun ho => ⟨(q8 ho).1, fun _ he => absurd he hes⟩⟩
  · have hf : (w.freeze ⟨blk, off, none⟩ n).heap = H.modify blk fun
        | .cells c elem (lo, hi) => .cells c elem (if lo == hi then (off, off + n) else (min lo off, max hi (off + n)))
        | o => o := by
      unfold World.freeze
      rw [if_neg hn]
      simp only [hw]
      congr 1
    rw [hf]
    refine r.upd hb trivial hρ (x' := .cells arr el (if frz.1 == frz.2 then (off, off + n) else (min frz.1 off, max frz.2 (off + n)))) (fun i hi => ?_) ?_ ⟨arr, _, rfl, q4, q5, q6, (fun h => by cases h), fun ho => ⟨(q8 ho).1, fun _ he => absurd he hes⟩⟩
    · rw [Array.getElem?_modify, if_neg (fun e => hi e.symm)]
    · rw [Array.getElem?_modify, if_pos rfl, q2]
      rfl
theorem sim_freeze (w : World) (a : Addr) (n : Nat) : Sim w (w.freeze a n) := by
  unfold World.freeze
  split
  · exact Sim.refl w
  · exact ⟨rfl, rfl, rfl⟩
noncomputable def xUS (P : Program) (h : Hp) (ts : List TypeId) (vs : List V) (K : V → Hp → Bool) : Bool :=
  match ts, vs with
  | [pt, _], [v, .int .i64 (.ofNat n)] => (match P.underlying pt with
    | some (.pointer el) => bif Nat.beq n 0 then (match v with | .nilp => K (.str 0 0) h | .ptr _ _ => K (.str 0 0) h | _ => false) else (match v with
      | .ptr b o => bif Nat.ble n 9223372036854775807 && tByte P el then cellsK h b o n fun cs => numK cs fun N => getK b h.t fun ob => (match ob with
        | .cells c el' es op ro => bif Nat.beq el' el && !(Nat.beq es 0) then insK (.cells c el' es op true) b h.t fun t => K (.str n N) ⟨t, h.nx, h.lo, h.hi⟩ else false
        | _ => false) else false
      | _ => false)
    | _ => false)
  | _, _ => false
theorem run_us_none (w : World) (pt it ty : TypeId) (p : Option Addr) : (Builtin.unsafeString_ #[pt, it] ty #[.pointer p, .int .i64 0]).run P w = .ok (.string (strOf 0 0)) w := Lib.run_unsafeString_none w pt it ty p
theorem xUS_run (r : R ρ M U h H) {ts : List TypeId} {vs : List V} {xs : List Value} (hd : DnL ρ M vs xs) (hh : xUS P h ts vs K = true) (ty : TypeId) :
    ∀ w : World, w.heap = H → ∃ u w', (Builtin.unsafeString_ ts.toArray ty xs.toArray).run P w = .ok u w' ∧ Sim w w' ∧ Af ρ M U K u w'.heap := by
  intro w hw
  unfold xUS at hh
  split at hh
  · rename_i pt it v n
    obtain ⟨x, a', rfl, d1, d2⟩ := hd.uncons
    obtain ⟨y, a2, rfl, d3, d4⟩ := d2.uncons
    obtain rfl := d4.unnil
    cases d3
    split at hh
    · rename_i el hu
      cases hn : Nat.beq n 0 with
      | true =>
        rw [hn] at hh
        have hn := Nat.eq_of_beq_eq_true hn
        subst hn
        simp only [cond_true] at hh
        split at hh
        · cases d1
          exact ⟨_, w, run_us_none w pt it ty none, Sim.refl w, by rw [hw]; exact .mk r (.str 0 0) hh⟩
        · cases d1
          exact ⟨_, w, run_us_none w pt it ty _, Sim.refl w, by rw [hw]; exact .mk r (.str 0 0) hh⟩
        · cases hh
      | false =>
        rw [hn] at hh
        have hn : n ≠ 0 := fun e => by rw [e] at hn; cases hn
        simp only [cond_false] at hh
        split at hh
        · rename_i b o
          have h2 := bif_t hh
          clear hh
          obtain ⟨h0, hh⟩ := h2
          simp only [Bool.and_eq_true] at h0
          have h63 := Nat.le_of_ble_eq_true h0.1
          have hb8 := h0.2
          unfold tByte at hb8
          split at hb8
          · rename_i hel
            have hc1 := Nat.eq_of_beq_eq_true hb8
            cases d1 with
            | ptr hρ =>
            rename_i blk base kap
            obtain ⟨cs, us, hh, hl, hdu, hc⟩ := cellsK_out r hh hρ
            obtain ⟨N, hh, he⟩ := numK_out hh hdu
            obtain ⟨ob, hb, hh⟩ := getK_out hh
            split at hh
            · rename_i c el' es op ro
              have h2 := bif_t hh
              clear hh
              obtain ⟨hel', hh⟩ := h2
              rw [Bool.and_eq_true] at hel'
              obtain ⟨hel', hes0⟩ := hel'
              have hes : es ≠ 0 := fun e => by rw [e] at hes0; cases hes0
              have hel' := Nat.eq_of_beq_eq_true hel'
              rw [hel'] at hb hh
              rw [insK_eq] at hh
              obtain ⟨blk2, base2, kap2, x2, q1, q2, _, arr, frz, hx2, q4, q5, q6, q7, q8⟩ := r.ob b _ hb trivial
              rw [hρ] at q1
              cases q1
              subst hx2
              have hbl : (bl n N).length = n := bl_len n N
              have husl : us.length = n := by rw [← hdu.1, hl]
              rw [hl] at he
              have hsh : w.shape? blk = some (el, arr.size) := by unfold World.shape?; rw [hw, q2]
              have hcl : ∀ (j : Nat) x, (bl n N)[j]? = some x → w.cell? ((⟨blk, base + o, none⟩ : Addr).add j) = some (.int .u8 x.toNat) := by
                intro j x hx
                rw [off_add]
                refine cell_of hw (hc j _ ?_)
                rw [he]
                unfold bytesCells strOf
                simp [hx]
              have hroom : base + o + (bl n N).length ≤ arr.size := by
                rw [hbl]
                have hlast := hc (n - 1) us[n - 1] (by simp)
                unfold hcell at hlast
                simp only [q2] at hlast
                have := (Array.getElem?_eq_some_iff.1 (by simpa using hlast)).1
                omega
              have hrun := run_uStr w pt it ty el hu hc1 blk (base + o) arr.size hsh (bl n N) (by intro e; rw [e] at hbl; simp at hbl; omega) hroom (by rw [hbl]; exact h63) hcl
              rw [hbl] at hrun
              refine ⟨_, _, hrun, sim_freeze _ _ _, ?_⟩
              exact .mk (r.freeze hb hw hρ (base + o) n hes) (.str n N) hh
            · cases hh
          · cases hb8
        · cases hh
    · cases hh
  · cases hh
/-- A copy of nothing. -/
noncomputable def xCopy0 (P : Program) (h : Hp) (ts : List TypeId) (vs : List V) (K : V → Hp → Bool) : Bool :=
  match ts, vs with
  | t :: _, [v, .nils] => (match P.underlying t with
    | some (.slice el) => bif (P.info? el).isSome then (match v with | .nils => K (.int .i64 (.ofNat 0)) h | .slice .. => K (.int .i64 (.ofNat 0)) h | .sopen .. => K (.int .i64 (.ofNat 0)) h | _ => false) else false
    | _ => false)
  | _, _ => false
end Go.X
/-! The interpreter: all operations that write, or call. -/
namespace Go.X
open Go.Ex
variable {P : Program} {ρ : Rho} {M : Nat} {U : Un} {h : Hp} {H : Heap} {env : Tr V} {e : Env} {K : V → Hp → Bool}

theorem xCopy0_run (r : R ρ M U h H) {ts : List TypeId} {vs : List V} {xs : List Value} (hd : DnL ρ M vs xs) (hh : xCopy0 P h ts vs K = true) (ty : TypeId) :
    ∀ w : World, w.heap = H → ∃ u w', (Builtin.copy_ ts.toArray ty xs.toArray).run P w = .ok u w' ∧ Sim w w' ∧ Af ρ M U K u w'.heap := by
  intro w hw
  unfold xCopy0 at hh
  split at hh
  · rename_i t ts' v
    obtain ⟨x, a', rfl, d1, d2⟩ := hd.uncons
    obtain ⟨y, a2, rfl, d3, d4⟩ := d2.uncons
    obtain rfl := d4.unnil
    cases d3
    split at hh
    · rename_i el hu
      obtain ⟨hi, hh⟩ := bif_t hh
      obtain ⟨i, hi⟩ := Option.isSome_iff_exists.1 hi
      have go : ∀ p l c, (Builtin.copy_ (t :: ts').toArray ty [Value.slice p l c, .slice none 0 0].toArray).run P w = .ok (.int .i64 (.ofNat 0)) w := by
        intro p l c
        unfold Builtin.copy_
        simp only [List.getElem?_toArray, List.getElem?_cons_zero, List.getElem?_cons_succ]
        rw [Sem.run_bind, r_und hu]
        simp only [Result.andThen]
        rw [Sem.run_bind, show (Builtin.lenOf (.slice none 0 0)).run P w = .ok 0 w from rfl]
        simp only [Result.andThen]
        rw [Sem.run_bind, r_size hi]
        simp only [Result.andThen]
        rw [Sem.run_bind, show ∀ n, (Builtin.firstCells i.size n (.slice none 0 0)).run P w = .ok #[] w from fun _ => rfl]
        simp only [Result.andThen]
        have : Nat.min 0 l = 0 := by simp
        rw [this]
        cases p with
        | none => rfl
        | some a => rfl
      split at hh
      · cases d1; exact ⟨_, w, go _ _ _, Sim.refl w, by rw [hw]; exact .mk r (.int _ _) hh⟩
      · cases d1; exact ⟨_, w, go _ _ _, Sim.refl w, by rw [hw]; exact .mk r (.int _ _) hh⟩
      · cases d1; exact ⟨_, w, go _ _ _, Sim.refl w, by rw [hw]; exact .mk r (.int _ _) hh⟩
      · cases hh
    · cases hh
  · cases hh
noncomputable def xSame (P : Program) (h : Hp) (s d : TypeId) (v : V) (K : V → Hp → Bool) : Bool :=
  bif Nat.beq s d then (match P.underlying s, v with
    | some (.slice el), .slice b o l c => (match P.underlying el with
      | some (.int .u8) => getK b h.t fun ob => (match ob with | .cells _ _ _ _ false => K (.slice b o l c) h | _ => false)
      | _ => false)
    | _, _ => false) else false
theorem xSame_out (r : R ρ M U h H) {s d : TypeId} {o : Operand} {v : V} {x : Value} (hx : opv e o = some x) (dv : Dn ρ M v x) (hh : xSame P h s d v K = true) : Wr P ρ M U H (.convert s d o) e K := by
  unfold xSame at hh
  have h2 := bif_t hh
  clear hh
  obtain ⟨hsd, hh⟩ := h2
  have hsd := Nat.eq_of_beq_eq_true hsd
  subst hsd
  split at hh
  · rename_i el b o' l c hu
    split at hh
    · rename_i hel
      obtain ⟨ob, hb, hh⟩ := getK_out hh
      split at hh
      · rename_i cs el' es op
        cases dv with
        | slice hρ =>
        rename_i blk base kap
        obtain ⟨blk2, base2, kap2, x2, q1, q2, _, arr, frz, hx2, q4, q5, q6, q7, q8⟩ := r.ob b _ hb trivial
        rw [hρ] at q1
        cases q1
        subst hx2
        refine wr_val (s := fun _ => convert s s (.slice (some ⟨blk, base + o', none⟩) l c)) (fun _ w hw => ⟨.slice (some ⟨blk, base + o', none⟩) l c, w.freeze ⟨blk, arr.size, none⟩ 1, ?_, sim_freeze _ _ _, ?_⟩) fun op' ho τ ha => ?_
        · unfold convert
          rw [Sem.run_bind, r_und hu]
          simp only [Result.andThen]
          rw [Sem.run_bind, r_und hu]
          simp only [Result.andThen]
          rw [Sem.run_bind, r_und hel]
          simp only [Result.andThen, beq_self_eq_true]
          rw [Sem.run_bind]
          unfold markStringish
          rw [Sem.run_bind, run_shape]
          have hsh : w.shape? blk = some (el', arr.size) := by unfold World.shape?; rw [hw, q2]
          simp only [Result.andThen, hsh, run_freeze]
          rfl
        · refine .mk (h' := h) ?_ (.slice hρ) hh
          have hf : (w.freeze ⟨blk, arr.size, none⟩ 1).heap = H.modify blk fun
            | .cells c elem (lo, hi) => .cells c elem (if lo == hi then (arr.size, arr.size + 1) else (min lo arr.size, max hi (arr.size + 1)))
            | o => o := by
            unfold World.freeze
            rw [if_neg (by omega)]
            simp only [hw]
            congr 1
          rw [hf]
          have hself : ins (.cells cs el' es op false) b h.t = h.t := by
            have : ∀ (p : Ps) (t : Tr Ob) (x : Ob), look p t = some x → ins x p t = t := by
              intro p
              induction p with
              | h => intro t x hl; cases t with | lf => cases hl | nd l v r => simp [look] at hl; simp [ins, hl]
              | o p ih => intro t x hl; cases t with | lf => cases hl | nd l v r => simp [ins, ih _ _ hl]
              | i p ih => intro t x hl; cases t with | lf => cases hl | nd l v r => simp [ins, ih _ _ hl]
            exact this _ _ _ hb
          have := r.upd (o' := .cells cs el' es op false) hb trivial hρ (H' := H.modify blk fun
            | .cells c elem (lo, hi) => .cells c elem (if lo == hi then (arr.size, arr.size + 1) else (min lo arr.size, max hi (arr.size + 1)))
            | o => o) (x' := .cells arr el' (if frz.1 == frz.2 then (arr.size, arr.size + 1) else (min frz.1 arr.size, max frz.2 (arr.size + 1)))) (fun i hi => by rw [Array.getElem?_modify, if_neg (fun e => hi e.symm)]) (by rw [Array.getElem?_modify, if_pos rfl, q2]; rfl)
            ⟨arr, _, rfl, q4, q5, q6, (fun hro => by
              have := q7 hro
              right
              by_cases h1 : frz.1 = frz.2
              · simp [h1]
              · simp only [beq_iff_eq, h1, if_false]; omega), fun ho => ⟨(q8 ho).1, fun h => by cases h⟩⟩
          rw [hself] at this
          exact this
        · obtain ⟨dst, op', type, pos, after, guard⟩ := op'
          simp only at ho
          subst ho
          simp only [execOp, ha o (by simp [Op.operands]) _ hx]
      · cases hh
    · cases hh
  · cases hh

/-! ### All of them -/
noncomputable def xWBuiltin (P : Program) (h : Hp) (b : Builtin) (ts : List TypeId) (vs : List V) (K : V → Hp → Bool) : Bool :=
  match b with
  | .append => (match vs, ts with | [x, y], [t, u] => (match P.underlying u with | some (.int _) | none => false | some _ => xApp P h t x y K) | _, _ => false)
  | .copy => xCopy0 P h ts vs K
  | .unsafeString => xUS P h ts vs K
  | _ => false
noncomputable def xWriteB (P : Program) (cf : CallF) (h : Hp) (op : Op) (env : Tr V) (K : V → Hp → Bool) : Bool :=
  match op with
  | .store t x y => xo env x fun v => (match v with | .ptr b o => xo env y fun u => xStore P h t b o u K | _ => false)
  | .alloc t => xAlloc P h t K
  | .box t x => xo env x fun v => xBox h t v K
  | .makeSlice t l c => xo env l fun vl => xo env c fun vc => xMake P h t vl vc K
  | .buildSlice t len parts => xOpL env parts.toList fun ps => xRow P h t len ps K
  | .convert s d x => xo env x fun v => (match v with | .slice .. => xSame P h s d v K | _ => xBytes P h s d v K)
  | .makeMap _ none => xMap h K
  | .mapUpdate t m k x => xo env m fun v => (match v with | .map m => xo env k fun k => xo env x fun x => xPut P h t m k x K | _ => false)
  | .insert t m k x => xo env m fun v => (match v with | .map m => xo env k fun k => xo env x fun x => xPut P h t m k x K | _ => false)
  | .range t x => xo env x fun v => xRange P h t v K
  | .next it s => xo env it fun v => (match v with | .ptr b o => xNext h b o s K | _ => false)
  | .call ⟨.value fo, args, _⟩ => xCall cf env h fo args.toList K
  | .call ⟨.invoke ro name, args, _⟩ => xInv P cf env h ro name args.toList K
  | .call ⟨.builtin b, args, ts⟩ => xL env args.toList fun vs => xWBuiltin P h b ts.toList vs K
  | _ => false
/-- An operation that writes: which it is is asked once. -/
inductive BW where
  | mk (f : Hp → Tr V → (V → Hp → Bool) → Bool)
noncomputable def boxW (P : Program) (cf : CallF) (op : Op) : BW :=
  match op with
  | .store t x y => .mk fun h env K => xo env x fun v => (match v with | .ptr b o => xo env y fun u => xStore P h t b o u K | _ => false)
  | .alloc t => .mk fun h env K => xAlloc P h t K
  | .box t x => .mk fun h env K => xo env x fun v => xBox h t v K
  | .makeSlice t l c => .mk fun h env K => xo env l fun vl => xo env c fun vc => xMake P h t vl vc K
  | .buildSlice t len parts => .mk fun h env K => xOpL env parts.toList fun ps => xRow P h t len ps K
  | .convert s d x => .mk fun h env K => xo env x fun v => (match v with | .slice .. => xSame P h s d v K | _ => xBytes P h s d v K)
  | .makeMap _ none => .mk fun h env K => xMap h K
  | .mapUpdate t m k x => .mk fun h env K => xo env m fun v => (match v with | .map m => xo env k fun k => xo env x fun x => xPut P h t m k x K | _ => false)
  | .insert t m k x => .mk fun h env K => xo env m fun v => (match v with | .map m => xo env k fun k => xo env x fun x => xPut P h t m k x K | _ => false)
  | .range t x => .mk fun h env K => xo env x fun v => xRange P h t v K
  | .next it s => .mk fun h env K => xo env it fun v => (match v with | .ptr b o => xNext h b o s K | _ => false)
  | .call ⟨.value fo, args, _⟩ => .mk fun h env K => xCall cf env h fo args.toList K
  | .call ⟨.invoke ro name, args, _⟩ => .mk fun h env K => xInv P cf env h ro name args.toList K
  | .call ⟨.builtin b, args, ts⟩ => .mk fun h env K => xL env args.toList fun vs => xWBuiltin P h b ts.toList vs K
  | _ => .mk fun _ _ _ => false
noncomputable def xWrite (P : Program) (cf : CallF) (h : Hp) (op : Op) (env : Tr V) (K : V → Hp → Bool) : Bool := BW.rec (motive := fun _ => Bool) (fun f => f h env K) (boxW P cf op)
theorem xWriteB_eq (P : Program) (cf : CallF) (h : Hp) (op : Op) (env : Tr V) (K : V → Hp → Bool) : xWrite P cf h op env K = xWriteB P cf h op env K := by
  cases op with
  | call c => obtain ⟨c, a, t⟩ := c; cases c <;> rfl
  | makeMap t o => cases o <;> rfl
  | _ => rfl
theorem xWrite_out (hp : progOk P = true) {cf : CallF} (hcf : CallOk P M cf) (he : E ρ M env e) (r : R ρ M U h H) {op : Op} (hh : xWrite P cf h op env K = true) : Wr P ρ M U H op e K := by
  have hg : Gl ρ := r.gl
  rw [xWriteB_eq] at hh
  unfold xWriteB at hh
  split at hh
  · obtain ⟨v, y, hx, hd, hh⟩ := xo_out he hg hh
    split at hh
    · obtain ⟨v2, y2, hx2, hd2, hh⟩ := xo_out he hg hh
      exact xStore_out r hx hx2 hd hd2 hh
    · cases hh
  · exact xAlloc_out r hh
  · obtain ⟨v, y, hx, hd, hh⟩ := xo_out he hg hh
    exact xBox_out r hx hd hh
  · obtain ⟨v, y, hx, hd, hh⟩ := xo_out he hg hh
    obtain ⟨v2, y2, hx2, hd2, hh⟩ := xo_out he hg hh
    exact xMake_out r hx hx2 hd hd2 hh
  · obtain ⟨vs, ps, h0, h1, h2, hh⟩ := xOpL_out he hg hh
    exact xRow_out r h0 h1 h2 hh
  · obtain ⟨v, y, hx, hd, hh⟩ := xo_out he hg hh
    split at hh
    · exact xSame_out r hx hd hh
    · exact xBytes_out r hx hd hh
  · exact xMap_out r hh
  · obtain ⟨v, y, hx, hd, hh⟩ := xo_out he hg hh
    split at hh
    · obtain ⟨v2, y2, hx2, hd2, hh⟩ := xo_out he hg hh
      obtain ⟨v3, y3, hx3, hd3, hh⟩ := xo_out he hg hh
      exact (xPut_out r hx hx2 hx3 hd hd2 hd3 hh).1
    · cases hh
  · obtain ⟨v, y, hx, hd, hh⟩ := xo_out he hg hh
    split at hh
    · obtain ⟨v2, y2, hx2, hd2, hh⟩ := xo_out he hg hh
      obtain ⟨v3, y3, hx3, hd3, hh⟩ := xo_out he hg hh
      exact (xPut_out r hx hx2 hx3 hd hd2 hd3 hh).2
    · cases hh
  · obtain ⟨v, y, hx, hd, hh⟩ := xo_out he hg hh
    exact xRange_out r hx hd hh
  · obtain ⟨v, y, hx, hd, hh⟩ := xo_out he hg hh
    split at hh
    · exact xNext_out r hx hd hh
    · cases hh
  · exact xCall_out hp hcf he r hh
  · exact xInv_out hp hcf he r hh
  · rename_i b args ts
    obtain ⟨vs, xs, hl, hvs, hh⟩ := xL_out he hg hh
    unfold xWBuiltin at hh
    have ag : ∀ τ : Operand → Value, Agrees e τ (Op.call ⟨.builtin b, args, ts⟩).operands.toList → args.map τ = xs.toArray := fun τ ha => by
      have ea := map_agrees hl (τ := τ) (fun y hy => ha y (by simp [Op.operands, Call.operands]; simpa using hy))
      rw [← ea]; cases args; simp
    split at hh
    · split at hh
      · rename_i x y t u hts
        split at hh
        · cases hh
        · cases hh
        · rename_i d hne hu
          obtain ⟨x', a', rfl, d1, d2⟩ := hvs.uncons
          obtain ⟨y', a2, rfl, d3, d4⟩ := d2.uncons
          obtain rfl := d4.unnil
          have happ := xApp_out r d1 d3 hh
          rcases ha : args.toList with _ | ⟨o1', _ | ⟨o2', _ | ⟨o3', rr⟩⟩⟩ <;> rw [ha] at hl <;> simp at hl
          refine .inl ?_
          simp only [evWrite0, ha, hts, hu]
          simp only [o1, hl.1, hl.2]
          exact happ
      · cases hh
    · refine wr_val (s := fun o => Builtin.copy_ ts o.type xs.toArray) (fun o w hw => ?_) fun o ho τ ha => ?_
      · have := xCopy0_run r hvs hh o.type w hw
        simpa using this
      · have := ag τ ha
        obtain ⟨dst, op', type, pos, after, guard⟩ := o
        simp only at ho
        subst ho
        simp only [execOp, resolve, this, pure_bind, invoke, builtin]
    · refine wr_val (s := fun o => Builtin.unsafeString_ ts o.type xs.toArray) (fun o w hw => ?_) fun o ho τ ha => ?_
      · have := xUS_run r hvs hh o.type w hw
        simpa using this
      · have := ag τ ha
        obtain ⟨dst, op', type, pos, after, guard⟩ := o
        simp only at ho
        subst ho
        simp only [execOp, resolve, this, pure_bind, invoke, builtin]
    · cases hh
  · cases hh
end Go.X
/-! The interpreter: regions, code, functions. -/
namespace Go.X
open Go.Ex
variable {P : Program} {ρ : Rho} {M : Nat} {U : Un} {h : Hp} {H : Heap} {env : Tr V} {e : Env}

/-! ### Operations, one behind the other -/
noncomputable def fPs (p : Ps) (k : Ps → Bool) : Bool := Ps.rec (motive := fun _ => Bool) (k .h) (fun p _ => k (.o p)) (fun p _ => k (.i p)) p
theorem fPs_eq (p : Ps) (k : Ps → Bool) : fPs p k = k p := by cases p <;> rfl
noncomputable def nrmK (h : Hp) (k : Hp → Bool) : Bool := Hp.rec (motive := fun _ => Bool) (fun t nx lo hi => fPs nx fun nx => fN lo fun lo => fN hi fun hi => k ⟨t, nx, lo, hi⟩) h
theorem nrmK_eq (h : Hp) (k : Hp → Bool) : nrmK h k = k h := by
  obtain ⟨t, nx, lo, hi⟩ := h
  show (fPs nx fun nx => fN lo fun lo => fN hi fun hi => k ⟨t, nx, lo, hi⟩) = _
  rw [fPs_eq, fN_eq, fN_eq]
abbrev KE := Tr V → Hp → Bool
noncomputable def putK (env : Tr V) (d : Option Tmp) (v : V) (k : Tr V → Bool) : Bool := match d with | some d => insK v (pth d) env k | none => k env
theorem putK_out {d : Option Tmp} {v : V} {x : Value} {k : Tr V → Bool} (hh : putK env d v k = true) (he : E ρ M env e) (hd : Dn ρ M v x) : ∃ env', k env' = true ∧ E ρ M env' (put e d x) := by
  unfold putK at hh
  split at hh
  · rename_i d
    rw [insK_eq] at hh
    refine ⟨_, hh, fun t u hu => ?_⟩
    rw [look_ins] at hu
    rw [put_some]
    by_cases hp : pth t = pth d
    · rw [if_pos hp] at hu
      cases hu
      rw [if_pos (pth_inj hp)]
      exact ⟨x, rfl, hd⟩
    · rw [if_neg hp] at hu
      rw [if_neg (fun e => hp (by rw [e]))]
      exact he t u hu
  · exact ⟨_, hh, he⟩
/-- Is an operation wanted? -/
noncomputable def wantK (ops : Array Oper) (o : Oper) (env : Tr V) (k : Bool → Bool) : Bool :=
  match o.guard with
  | none => k true
  | some (j, want) => match (ops[j]?).bind (·.dst) with
    | none => k false
    | some d => getK (pth d) env fun v => (match v with | .bool b => fB (b == want) k | .tup _ => k false | _ => false)
theorem wantK_out {ops : Array Oper} {o : Oper} {k : Bool → Bool} (he : E ρ M env e) (hh : wantK ops o env k = true) : ∃ b, wantedK ops o e = some b ∧ k b = true := by
  unfold wantK at hh
  unfold wantedK
  split at hh
  · rename_i hg; rw [hg]; exact ⟨true, rfl, hh⟩
  · rename_i j want hg
    rw [hg]
    simp only
    split at hh
    · rename_i hj; rw [hj]; exact ⟨false, rfl, hh⟩
    · rename_i d hj
      rw [hj]
      simp only
      obtain ⟨v, hv, hh⟩ := getK_out hh
      obtain ⟨x, hx, hd⟩ := he d v hv
      rw [hx]
      split at hh
      · cases hd; rw [fB_eq] at hh; exact ⟨_, rfl, hh⟩
      · cases hd; exact ⟨false, rfl, hh⟩
      · cases hh
theorem splitG_mk {g : Bool} {v : Value} {K : Value → Prop} (h : K v) : splitG g v K := by
  unfold splitG
  split
  · exact h
  · split
    · rename_i b; cases b <;> exact h
    · exact h
theorem R.bound (r : R ρ M U h H) {lo hi : Nat} (h1 : lo ≤ M) (h2 : M ≤ hi) : R ρ M U ⟨h.t, h.nx, lo, hi⟩ H := ⟨r.gl, r.dom, r.ob, r.inj, r.un, ⟨h1, h2⟩, r.ml⟩
/-- One operation: its value, and where it stands then. -/
noncomputable def xOpB (P : Program) (cf : CallF) (o : Oper) (env : Tr V) (h : Hp) (K : V → Hp → Bool) : Bool :=
  match kindOf P o.op with
  | .pure => Hp.rec (motive := fun _ => Bool) (fun t nx lo hi => xPure P lo hi o.op env fun v lo hi => K v ⟨t, nx, lo, hi⟩) h
  | .read => xRead P h o.op env fun v => K v h
  | .write => xWrite P cf h o.op env fun v h => nrmK h fun h => K v h
inductive BX where
  | mk (f : Tr V → Hp → (V → Hp → Bool) → Bool)
noncomputable def boxX (P : Program) (cf : CallF) (o : Oper) : BX :=
  match kindOf P o.op with
  | .pure => BP.rec (motive := fun _ => BX) (fun f => .mk fun env h K => Hp.rec (motive := fun _ => Bool) (fun t nx lo hi => f lo hi env fun v lo hi => K v ⟨t, nx, lo, hi⟩) h) (boxP P o.op)
  | .read => BRd.rec (motive := fun _ => BX) (fun f => .mk fun env h K => f h env fun v => K v h) (boxR P o.op)
  | .write => BW.rec (motive := fun _ => BX) (fun f => .mk fun env h K => f h env fun v h => nrmK h fun h => K v h) (boxW P cf o.op)
noncomputable def xOp (P : Program) (cf : CallF) (o : Oper) (env : Tr V) (h : Hp) (K : V → Hp → Bool) : Bool := BX.rec (motive := fun _ => Bool) (fun f => f env h K) (boxX P cf o)
theorem xOp_eq (P : Program) (cf : CallF) (o : Oper) (env : Tr V) (h : Hp) (K : V → Hp → Bool) : xOp P cf o env h K = xOpB P cf o env h K := by
  unfold xOp boxX xOpB
  split
  · cases h1 : boxP P o.op; unfold xPure; rw [h1]
  · cases h1 : boxR P o.op; unfold xRead; rw [h1]
  · cases h1 : boxW P cf o.op; unfold xWrite; rw [h1]
/-- An operation of a row, made ready: with a place for its value, without one, or with a guard. -/
inductive St1 where
  | put (f : Tr V → Hp → (V → Hp → Bool) → Bool) (g : V → Tr V → (Tr V → Bool) → Bool) | no (f : Tr V → Hp → (V → Hp → Bool) → Bool) | gd (o : Oper)
noncomputable def comS (P : Program) (cf : CallF) (o : Oper) : St1 :=
  match o.guard with
  | some _ => .gd o
  | none => BX.rec (motive := fun _ => St1) (fun f => match o.dst with | some d => BS.rec (motive := fun _ => St1) (fun g => .put f g) (boxS (pth d)) | none => .no f) (boxX P cf o)
noncomputable def xOps (P : Program) (cf : CallF) (ops : Array Oper) (l : List Oper) (env : Tr V) (h : Hp) (K : KE) : Bool :=
  List.rec (motive := fun _ => Tr V → Hp → Bool) (fun env h => K env h)
    (fun o _ ih env h => St1.rec (motive := fun _ => Bool) (fun f g => f env h fun v h => g v env fun env => ih env h) (fun f => f env h fun v h => ih env h)
      (fun o => wantK ops o env fun w => match w with
        | false => putK env o.dst (.tup []) fun env => ih env h
        | true => xOp P cf o env h fun v h => putK env o.dst v fun env => ih env h) (comS P cf o)) l env h
theorem xOps_cons (P : Program) (cf : CallF) (ops : Array Oper) (o : Oper) (l : List Oper) (env : Tr V) (h : Hp) (K : KE) : xOps P cf ops (o :: l) env h K = (wantK ops o env fun w => match w with
    | false => putK env o.dst (.tup []) fun env => xOps P cf ops l env h K
    | true => xOp P cf o env h fun v h => putK env o.dst v fun env => xOps P cf ops l env h K) := by
  show St1.rec (motive := fun _ => Bool) (fun f g => f env h fun v h => g v env fun env => xOps P cf ops l env h K) (fun f => f env h fun v h => xOps P cf ops l env h K)
      (fun o => wantK ops o env fun w => match w with
        | false => putK env o.dst (.tup []) fun env => xOps P cf ops l env h K
        | true => xOp P cf o env h fun v h => putK env o.dst v fun env => xOps P cf ops l env h K) (comS P cf o) = _
  obtain ⟨dst, op, type, pos, after, guard⟩ := o
  cases guard with
  | some g => rfl
  | none =>
    unfold comS xOp
    cases boxX P cf ⟨dst, op, type, pos, after, none⟩ with
    | mk f =>
      cases dst with
      | none => rfl
      | some d =>
        have key := fun (v : V) (h : Hp) => boxS_eq v (pth d) env fun env => xOps P cf ops l env h K
        obtain ⟨g, hb⟩ : ∃ g, boxS (pth d) = .mk g := by
          cases boxS (pth d) with
          | mk g => exact ⟨g, rfl⟩
        rw [hb] at key
        show St1.rec (motive := fun _ => Bool) (fun f g => f env h fun v h => g v env fun env => xOps P cf ops l env h K) (fun f => f env h fun v h => xOps P cf ops l env h K)
          (fun o => wantK ops o env fun w => match w with
            | false => putK env o.dst (.tup []) fun env => xOps P cf ops l env h K
            | true => xOp P cf o env h fun v h => putK env o.dst v fun env => xOps P cf ops l env h K)
          (BS.rec (motive := fun _ => St1) (fun g => .put f g) (boxS (pth d))) = (f env h fun v h => insK v (pth d) env fun env => xOps P cf ops l env h K)
        rw [hb]
        show (f env h fun v h => g v env fun env => xOps P cf ops l env h K) = _
        congr 1
        funext v h
        exact key v h
/-- What a piece of code comes to. -/
def At (ρ : Rho) (M : Nat) (U : Un) (K : KE) (e : Env) (H : Heap) : Prop := ∃ ρ' env h, Le ρ ρ' ∧ E ρ' M env e ∧ R ρ' M U h H ∧ K env h = true
theorem dn_undef : Dn ρ M (.tup []) undef := DnL.tup .nil
section
variable {cf : CallF}
theorem xOps_out (hp : progOk P = true) (hcf : CallOk P M cf) {ops : Array Oper} {K : KE} : ∀ (l : List Oper) (i : Nat) (ρ : Rho) (env : Tr V) (h : Hp) (e : Env) (H : Heap), xOps P cf ops l env h K = true → E ρ M env e → R ρ M U h H →
    evOps P ops l i e H (At ρ M U K) := by
  intro l
  induction l with
  | nil => intro i ρ env h e H hh he r; exact ⟨ρ, env, h, Le.refl _, he, r, hh⟩
  | cons o l ih =>
    intro i ρ env h e H hh he r
    replace hh : (wantK ops o env fun w => match w with
      | false => putK env o.dst (.tup []) fun env => xOps P cf ops l env h K
      | true => xOp P cf o env h fun v h => putK env o.dst v fun env => xOps P cf ops l env h K) = true := by rw [← xOps_cons]; exact hh
    obtain ⟨b, hw, hh⟩ := wantK_out he hh
    unfold evOps
    rw [hw]
    have step : ∀ {ρ' : Rho} {v : V} {x : Value} {h' : Hp} {H' : Heap}, Le ρ ρ' → R ρ' M U h' H' → Dn ρ' M v x → (putK env o.dst v fun env => xOps P cf ops l env h' K) = true → evOps P ops l (i + 1) (put e o.dst x) H' (At ρ M U K) := by
      intro ρ' v x h' H' hl r' hd hk
      obtain ⟨env', hk, he'⟩ := putK_out hk (he.mono hl) hd
      have := ih (i + 1) ρ' env' h' _ H' hk he' r'
      have mono : ∀ (l : List Oper) (i : Nat) (e : Env) (H : Heap) (K K' : Env → Heap → Prop), (∀ e H, K e H → K' e H) → evOps P ops l i e H K → evOps P ops l i e H K' := by
        intro l
        induction l with
        | nil => intro i e H K K' hk h; exact hk _ _ h
        | cons o l ihl =>
          intro i e H K K' hk h
          unfold evOps at h ⊢
          split
          · rename_i hw; rw [hw] at h; exact h
          · rename_i hw; rw [hw] at h; exact ihl _ _ _ _ _ hk h
          · rename_i hw
            rw [hw] at h
            simp only at h
            split
            · rename_i hkk; rw [hkk] at h; simp only at h
              exact .inr fun o' ho' => by
                obtain ⟨v, hv, hr⟩ := evPure_out (o := o') (by rw [ho']; exact h)
                exact ⟨v, splitG_mk (ihl _ _ _ _ _ hk (splitG_out hv)), by rw [ho'] at hr; exact hr⟩
            · rename_i hkk; rw [hkk] at h; simp only at h
              exact .inr fun o' ho' => by
                obtain ⟨v, hv, hr⟩ := evRead_out (o := o') (by rw [ho']; exact h)
                exact ⟨v, splitG_mk (ihl _ _ _ _ _ hk (splitG_out hv)), by rw [ho'] at hr; exact hr⟩
            · rename_i hkk; rw [hkk] at h; simp only at h
              exact evWrite_mono hp h fun u H' q => splitG_mk (ihl _ _ _ _ _ hk (splitG_out q))
      exact mono _ _ _ _ _ _ (fun e H ⟨ρ2, env2, h2, a, b, c, d⟩ => ⟨ρ2, env2, h2, hl.trans a, b, c, d⟩) this
    cases b with
    | false => exact step (Le.refl _) r dn_undef hh
    | true =>
      simp only at hh ⊢
      simp only [xOp_eq] at hh
      unfold xOpB at hh
      cases hk : kindOf P o.op with
      | pure =>
        rw [hk] at hh
        simp only at hh ⊢
        obtain ⟨t, nx, lo, hi⟩ := h
        replace hh : (xPure P lo hi o.op env fun v lo hi => putK env o.dst v fun env => xOps P cf ops l env ⟨t, nx, lo, hi⟩ K) = true := hh
        obtain ⟨v, x, lo', hi', hd, h1, h2, hk, hev⟩ := xPure_out he r.gl r.bd.1 r.bd.2 hh
        exact evPure_mono hev (splitG_mk (step (Le.refl _) (r.bound h1 h2) hd hk))
      | read =>
        rw [hk] at hh
        simp only at hh ⊢
        obtain ⟨v, x, hd, hk, hev⟩ := xRead_out he r hh
        exact evRead_mono hev (splitG_mk (step (Le.refl _) r hd hk))
      | write =>
        rw [hk] at hh
        simp only at hh ⊢
        have := xWrite_out hp hcf he r hh
        refine evWrite_mono hp this ?_
        rintro u H' ⟨ρ', v, h', hl, r', hd, hk⟩
        simp only [nrmK_eq] at hk
        exact splitG_mk (step hl r' hd hk)
end

/-! ### Values that are alike -/
noncomputable def psE (p q : Ps) : Bool :=
  Ps.rec (motive := fun _ => Ps → Bool) (fun q => Ps.rec (motive := fun _ => Bool) true (fun _ _ => false) (fun _ _ => false) q)
    (fun _ ih q => Ps.rec (motive := fun _ => Bool) false (fun q _ => ih q) (fun _ _ => false) q) (fun _ ih q => Ps.rec (motive := fun _ => Bool) false (fun _ _ => false) (fun q _ => ih q) q) p q
theorem psE_out : ∀ {p q : Ps}, psE p q = true → p = q := by
  intro p
  induction p with
  | h => intro q h; cases q with | h => rfl | o q => cases h | i q => cases h
  | o p ih => intro q h; cases q with | h => cases h | o q => rw [ih (q := q) h] | i q => cases h
  | i p ih => intro q h; cases q with | h => cases h | o q => cases h | i q => rw [ih (q := q) h]
def vS1 (u v : V) : Bool :=
  match u, v with
  | .int k n, .int k' n' => kEq k k' && eqI n n'
  | .sym a c, .sym a' c' => Nat.beq a a' && Nat.beq c c'
  | .bool a, .bool b => !(xor a b)
  | .str n N, .str m N' => Nat.beq n m && Nat.beq N N'
  | .nilp, .nilp | .nils, .nils | .nili, .nili | .nilf, .nilf | .nilm, .nilm => true
  | _, _ => false
noncomputable def vS2 (u v : V) : Bool :=
  match u, v with
  | .ptr b o, .ptr b' o' => psE b b' && Nat.beq o o'
  | .slice b o l c, .slice b' o' l' c' => psE b b' && Nat.beq o o' && Nat.beq l l' && Nat.beq c c'
  | .sopen b es l d, .sopen b' es' l' d' => psE b b' && Nat.beq es es' && Nat.beq l l' && Nat.beq d d'
  | .map m, .map m' => psE m m'
  | u, v => vS1 u v
noncomputable def allS2 (l m : List V) : Bool := List.rec (motive := fun _ => List V → Bool) (fun m => match m with | [] => true | _ => false) (fun u _ ih m => match m with | v :: m => vS2 u v && ih m | [] => false) l m
noncomputable def vS3 (u v : V) : Bool :=
  match u, v with
  | .agg l, .agg m => allS2 l m
  | u, v => vS2 u v
noncomputable def vS (u v : V) : Bool :=
  match u, v with
  | .iface t x, .iface t' y => Nat.beq t t' && vS3 x y
  | .agg l, .agg m => allS2 l m
  | .fn f [] [], .fn g [] [] => Nat.beq f g
  | u, v => vS2 u v
section
variable {x y : Value}
theorem and_t {a b : Bool} (h : (a && b) = true) : a = true ∧ b = true := by cases a <;> cases b <;> simp_all
theorem vS1_out {u v : V} (h : vS1 u v = true) (hu : Dn ρ M u x) (hv : Dn ρ M v y) : x = y := by
  unfold vS1 at h
  split at h
  · cases hu; cases hv; obtain ⟨h1, h2⟩ := and_t h; rw [kEq_out h1]; rw [eqI_eq, decide_eq_true_eq] at h2; rw [h2]
  · cases hu; cases hv; obtain ⟨h1, h2⟩ := and_t h; rw [Nat.eq_of_beq_eq_true h1, Nat.eq_of_beq_eq_true h2]
  · cases hu; cases hv; rename_i a b; cases a <;> cases b <;> first | rfl | cases h
  · cases hu; cases hv; obtain ⟨h1, h2⟩ := and_t h; rw [Nat.eq_of_beq_eq_true h1, Nat.eq_of_beq_eq_true h2]
  all_goals first
    | (cases hu; cases hv; rfl)
    | cases h
theorem vS2_out {u v : V} (h : vS2 u v = true) (hu : Dn ρ M u x) (hv : Dn ρ M v y) : x = y := by
  unfold vS2 at h
  split at h
  · obtain ⟨h1, h2⟩ := and_t h
    have e1 := psE_out h1
    have e2 := Nat.eq_of_beq_eq_true h2
    subst e1 e2
    cases hu with | ptr q1 => cases hv with | ptr q2 => rw [q1] at q2; cases q2; rfl
  · obtain ⟨h, h4⟩ := and_t h
    obtain ⟨h, h3⟩ := and_t h
    obtain ⟨h1, h2⟩ := and_t h
    have e1 := psE_out h1
    have e2 := Nat.eq_of_beq_eq_true h2
    have e3 := Nat.eq_of_beq_eq_true h3
    have e4 := Nat.eq_of_beq_eq_true h4
    subst e1 e2 e3 e4
    cases hu with | slice q1 => cases hv with | slice q2 => rw [q1] at q2; cases q2; rfl
  · obtain ⟨h, h4⟩ := and_t h
    obtain ⟨h, h3⟩ := and_t h
    obtain ⟨h1, h2⟩ := and_t h
    have e1 := psE_out h1
    have e2 := Nat.eq_of_beq_eq_true h2
    have e3 := Nat.eq_of_beq_eq_true h3
    have e4 := Nat.eq_of_beq_eq_true h4
    subst e1 e2 e3 e4
    cases hu with | sopen q1 _ => cases hv with | sopen q2 _ => rw [q1] at q2; cases q2; rfl
  · have e1 := psE_out h
    subst e1
    cases hu with | map q1 => cases hv with | map q2 => rw [q1] at q2; cases q2; rfl
  · exact vS1_out h hu hv
theorem allS2_out : ∀ {l m : List V}, allS2 l m = true → ∀ {a b : List Value}, DnL ρ M l a → DnL ρ M m b → a = b := by
  intro l
  induction l with
  | nil => intro m h a b ha hb; cases m with
    | nil => rw [ha.unnil, hb.unnil]
    | cons => cases h
  | cons u l ih => intro m h a b ha hb; cases m with
    | nil => cases h
    | cons v m =>
      replace h : (vS2 u v && allS2 l m) = true := h
      obtain ⟨h1, h2⟩ := and_t h
      obtain ⟨x, a', rfl, d1, d2⟩ := ha.uncons
      obtain ⟨y, b', rfl, d3, d4⟩ := hb.uncons
      rw [vS2_out h1 d1 d3, ih h2 d2 d4]
theorem vS3_out {u v : V} (h : vS3 u v = true) (hu : Dn ρ M u x) (hv : Dn ρ M v y) : x = y := by
  unfold vS3 at h
  split at h
  · cases hu with | agg l1 d1 => cases hv with | agg l2 d2 => rw [allS2_out h ⟨l1, d1⟩ ⟨l2, d2⟩]
  · exact vS2_out h hu hv
theorem vS_out {u v : V} (h : vS u v = true) (hu : Dn ρ M u x) (hv : Dn ρ M v y) : x = y := by
  unfold vS at h
  split at h
  · obtain ⟨h1, h2⟩ := and_t h
    have e1 := Nat.eq_of_beq_eq_true h1
    subst e1
    cases hu with | iface d1 => cases hv with | iface d2 => rw [vS3_out h2 d1 d2]
  · cases hu with | agg l1 d1 => cases hv with | agg l2 d2 => rw [allS2_out h ⟨l1, d1⟩ ⟨l2, d2⟩]
  · have e1 := Nat.eq_of_beq_eq_true h
    subst e1
    cases hu with
    | fn a1 a2 _ _ =>
    cases hv with
    | fn b1 b2 _ _ =>
    have q1 := List.length_eq_zero_iff.1 a1.symm
    have q2 := List.length_eq_zero_iff.1 a2.symm
    have q3 := List.length_eq_zero_iff.1 b1.symm
    have q4 := List.length_eq_zero_iff.1 b2.symm
    rw [q1, q2, q3, q4]
  · exact vS2_out h hu hv
end

/-! ### Operations whose order is open -/
abbrev Dl := List (Nat × Tr V × V)
/-- What was read is read again. -/
noncomputable def stabX (P : Program) (ops : Array Oper) (m : Nat) (h : Hp) (D : Dl) (k : Bool) : Bool :=
  List.rec (motive := fun _ => Bool) k (fun x _ ih => match m.testBit x.1 with
    | true => ih
    | false => match ops[x.1]? with | some o => xRead P h o.op x.2.1 fun u => bif vS u x.2.2 then ih else false | none => false) D
/-- What was read, and what it stands for. -/
inductive DR (ρ : Rho) (M : Nat) : Dl → List (Nat × Env × Value) → Prop where
  | nil : DR ρ M [] []
  | cons {x : Nat × Tr V × V} {y : Nat × Env × Value} {D D'} (h : x.1 = y.1 ∧ E ρ M x.2.1 y.2.1 ∧ Dn ρ M x.2.2 y.2.2) (r : DR ρ M D D') : DR ρ M (x :: D) (y :: D')
theorem DR.mono {ρ ρ' : Rho} (hl : Le ρ ρ') {D : Dl} {D' : List (Nat × Env × Value)} (h : DR ρ M D D') : DR ρ' M D D' := by
  induction h with
  | nil => exact .nil
  | cons hx _ ih => exact .cons ⟨hx.1, hx.2.1.mono hl, hx.2.2.mono hl⟩ ih
theorem DR.snoc {ρ : Rho} {M : Nat} {D : Dl} {D' : List (Nat × Env × Value)} (h : DR ρ M D D') {x : Nat × Tr V × V} {y : Nat × Env × Value} (hx : x.1 = y.1 ∧ E ρ M x.2.1 y.2.1 ∧ Dn ρ M x.2.2 y.2.2) : DR ρ M (D ++ [x]) (D' ++ [y]) := by
  induction h with
  | nil => exact .cons hx .nil
  | cons h0 _ ih => exact .cons h0 ih
theorem stabX_out {ops : Array Oper} {m : Nat} {k : Bool} (r : R ρ M U h H) : ∀ {D : Dl} {D' : List (Nat × Env × Value)}, DR ρ M D D' → stabX P ops m h D k = true → k = true ∧ ∀ A : Prop, A → stabsK P ops m H D' A := by
  intro D
  induction D with
  | nil => intro D' hd hh; cases hd; exact ⟨hh, fun A a => a⟩
  | cons x D ih =>
    intro D' hd hh
    cases hd with
    | cons hx hr =>
    rename_i y D'
    obtain ⟨i, ex, v⟩ := x
    obtain ⟨j, ey, w⟩ := y
    obtain ⟨e1, e2, e3⟩ := hx
    simp only at e1 e2 e3
    subst e1
    replace hh : (match m.testBit i with
      | true => stabX P ops m h D k
      | false => match ops[i]? with | some o => xRead P h o.op ex fun u => bif vS u v then stabX P ops m h D k else false | none => false) = true := hh
    split at hh
    · rename_i hb
      obtain ⟨h1, h2⟩ := ih hr hh
      refine ⟨h1, fun A a => ?_⟩
      unfold stabsK
      rw [hb]
      exact h2 A a
    · rename_i hb
      split at hh
      · rename_i o ho
        obtain ⟨u, xu, hdu, hh, hev⟩ := xRead_out e2 r hh
        obtain ⟨hs, hh⟩ := bif_t hh
        obtain ⟨h1, h2⟩ := ih hr hh
        refine ⟨h1, fun A a => ?_⟩
        unfold stabsK
        rw [hb]
        simp only [ho]
        refine ⟨?_, h2 A a⟩
        rw [← vS_out hs hdu e3]
        exact hev
      · cases hh
noncomputable def xD (P : Program) (cf : CallF) (ops : Array Oper) (B : List Nat) (l : List Nat) (env : Tr V) (h : Hp) (D : Dl) (K : KE) : Bool :=
  List.rec (motive := fun _ => Tr V → Hp → Dl → Bool) (fun env h _ => K env h)
    (fun i _ ih env h D => match ops[i]? with
      | none => false
      | some o => wantK ops o env fun w => match w with
        | false => putK env o.dst (.tup []) fun env => ih env h D
        | true => match kindOf P o.op with
          | .pure => xOp P cf o env h fun v h => putK env o.dst v fun env => ih env h D
          | .read => xOp P cf o env h fun v h => putK env o.dst v fun env' => ih env' h (D ++ [(i, env, v)])
          | .write => xOp P cf o env h fun v h => stabX P ops (B.getD i 0) h D (putK env o.dst v fun env => ih env h D)) l env h D
section
variable {cf : CallF}
abbrev AL := List Nat → Env → Heap → List (Nat × Env × Value) → Prop
abbrev AT : AL := fun _ _ _ _ => True
theorem evD_mono (hp : progOk P = true) {ops : Array Oper} {B : List Nat} {A : AL} {K K' : Env → Heap → Prop} (hk : ∀ e H, K e H → K' e H) (A' : AL) (hA : ∀ l e H D, A l e H D → A' l e H D) : ∀ (l : List Nat) (e : Env) (H : Heap) (D : List (Nat × Env × Value)), evD P ops B A l e H D K → evD P ops B A' l e H D K' := by
  intro l
  induction l with
  | nil => intro e H D h; exact hk _ _ h
  | cons i l ihl =>
    intro e H D h
    unfold evD at h ⊢
    split
    · rename_i ho; rw [ho] at h; exact h
    · rename_i o ho
      rw [ho] at h
      simp only at h
      split
      · rename_i hw; rw [hw] at h; exact h
      · rename_i hw; rw [hw] at h; exact ihl _ _ _ h
      · rename_i hw
        rw [hw] at h
        simp only at h
        split
        · rename_i hkk; rw [hkk] at h; simp only at h
          exact .inr fun o' ho' => by
            obtain ⟨v, hv, hr⟩ := evPure_out (o := o') (by rw [ho']; exact h)
            exact ⟨v, splitG_mk (ihl _ _ _ (splitG_out hv)), by rw [ho'] at hr; exact hr⟩
        · rename_i hkk; rw [hkk] at h; simp only at h
          exact .inr fun o' ho' => by
            obtain ⟨v, hv, hr⟩ := evRead_out (o := o') (by rw [ho']; exact h)
            exact ⟨v, splitG_mk (ihl _ _ _ (splitG_out hv)), by rw [ho'] at hr; exact hr⟩
        · rename_i hkk; rw [hkk] at h; simp only at h
          refine ⟨evWrite_mono hp h.1 fun u H' q => ?_, hA _ _ _ _ h.2⟩
          have smono : ∀ (D : List (Nat × Env × Value)) (A A' : Prop), (A → A') → stabsK P ops (B.getD i 0) H' D A → stabsK P ops (B.getD i 0) H' D A' := by
            intro D
            induction D with
            | nil => intro A A' f h; exact f h
            | cons x D ihD =>
              intro A A' f h
              obtain ⟨r, e, v⟩ := x
              unfold stabsK at h ⊢
              split
              · rename_i ht; rw [ht] at h; exact ihD _ _ f h
              · rename_i ht; rw [ht] at h; exact ⟨h.1, ihD _ _ f h.2⟩
          exact smono _ _ _ (fun q => splitG_mk (ihl _ _ _ (splitG_out q))) q
theorem xD_out (hp : progOk P = true) (hcf : CallOk P M cf) {ops : Array Oper} {B : List Nat} {K : KE} : ∀ (l : List Nat) (ρ : Rho) (env : Tr V) (h : Hp) (e : Env) (H : Heap) (D : Dl) (D' : List (Nat × Env × Value)), xD P cf ops B l env h D K = true → E ρ M env e → R ρ M U h H → DR ρ M D D' →
    evD P ops B AT l e H D' (At ρ M U K) := by
  intro l
  induction l with
  | nil => intro ρ env h e H D D' hh he r _; exact ⟨ρ, env, h, Le.refl _, he, r, hh⟩
  | cons i l ih =>
    intro ρ env h e H D D' hh he r hD
    replace hh : (match ops[i]? with
      | none => false
      | some o => wantK ops o env fun w => match w with
        | false => putK env o.dst (.tup []) fun env => xD P cf ops B l env h D K
        | true => match kindOf P o.op with
          | .pure => xOp P cf o env h fun v h => putK env o.dst v fun env => xD P cf ops B l env h D K
          | .read => xOp P cf o env h fun v h => putK env o.dst v fun env' => xD P cf ops B l env' h (D ++ [(i, env, v)]) K
          | .write => xOp P cf o env h fun v h => stabX P ops (B.getD i 0) h D (putK env o.dst v fun env => xD P cf ops B l env h D K)) = true := hh
    unfold evD
    split at hh
    · cases hh
    · rename_i o ho
      rw [ho]
      simp only
      obtain ⟨b, hw, hh⟩ := wantK_out he hh
      rw [hw]
      have step : ∀ {ρ' : Rho} {v : V} {x : Value} {h' : Hp} {H' : Heap} {D : Dl} {D' : List (Nat × Env × Value)}, Le ρ ρ' → R ρ' M U h' H' → Dn ρ' M v x → (putK env o.dst v fun env => xD P cf ops B l env h' D K) = true → DR ρ' M D D' →
          evD P ops B AT l (put e o.dst x) H' D' (At ρ M U K) := by
        intro ρ' v x h' H' D D' hl r' hd hk hD
        obtain ⟨env', hk, he'⟩ := putK_out hk (he.mono hl) hd
        have := ih ρ' env' h' _ H' D D' hk he' r' hD
        exact evD_mono hp (fun e H ⟨ρ2, env2, h2, a, b, c, d⟩ => ⟨ρ2, env2, h2, hl.trans a, b, c, d⟩) AT (fun _ _ _ _ h => h) _ _ _ _ this
      cases b with
      | false => exact step (Le.refl _) r dn_undef hh hD
      | true =>
        simp only at hh ⊢
        simp only [xOp_eq] at hh
        unfold xOpB at hh
        cases hk : kindOf P o.op with
        | pure =>
          rw [hk] at hh
          simp only at hh ⊢
          obtain ⟨t, nx, lo, hi⟩ := h
          replace hh : (xPure P lo hi o.op env fun v lo hi => putK env o.dst v fun env => xD P cf ops B l env ⟨t, nx, lo, hi⟩ D K) = true := hh
          obtain ⟨v, x, lo', hi', hd, h1, h2, hk, hev⟩ := xPure_out he r.gl r.bd.1 r.bd.2 hh
          exact evPure_mono hev (splitG_mk (step (Le.refl _) (r.bound h1 h2) hd hk hD))
        | read =>
          rw [hk] at hh
          simp only at hh ⊢
          obtain ⟨v, x, hd, hk, hev⟩ := xRead_out he r hh
          have hD2 : DR ρ M (D ++ [(i, env, v)]) (D' ++ [(i, e, x)]) := hD.snoc ⟨rfl, he, hd⟩
          exact evRead_mono hev (splitG_mk (step (Le.refl _) r hd hk hD2))
        | write =>
          rw [hk] at hh
          simp only at hh ⊢
          have := xWrite_out hp hcf he r hh
          refine ⟨evWrite_mono hp this ?_, trivial⟩
          rintro u H' ⟨ρ', v, h', hl, r', hd, hk⟩
          simp only [nrmK_eq] at hk
          obtain ⟨hk, hst⟩ := stabX_out r' (hD.mono hl) hk
          exact hst _ (splitG_mk (step hl r' hd hk (hD.mono hl)))
end
end Go.X
/-! The interpreter: a region in which one new variable, or row, may be laid at any time. -/
namespace Go.X
open Go.Ex
variable {P : Program} {ρ : Rho} {M : Nat} {U : Un} {h : Hp} {H : Heap} {env : Tr V} {e : Env}

/-! ### What is laid -/
def mkOf (len : Option Nat) (b : Nat) : Value := match len with | none => .pointer (some ⟨b, 0, none⟩) | some n => .slice (some ⟨b, 0, none⟩) n n
def mkV (len : Option Nat) (b : Ps) : V := match len with | none => .ptr b 0 | some n => .slice b 0 n n
theorem mk_dn {ρ : Rho} {M : Nat} {p : Ps} {blk kap : Nat} (h : ρ p = some (blk, 0, kap)) (len : Option Nat) : Dn ρ M (mkV len p) (mkOf len blk) := by
  cases len with
  | none => have := Dn.ptr (M := M) (o := 0) h; exact this
  | some n => have := Dn.slice (M := M) (o := 0) (l := n) (c := n) h; exact this
def NewR (P : Program) (op : Op) (e : Env) (el : TypeId) (us : List Value) (len : Option Nat) : Prop :=
  (∃ t i z, op = .alloc t ∧ P.info? t = some i ∧ i.zero = some z ∧ el = t ∧ us = cellsV z ∧ len = none) ∨
  (∃ t n parts i z ps, op = .buildSlice t n parts ∧ P.underlying t = some (.slice el) ∧ P.info? el = some i ∧ i.zero = some z ∧ (Nat.ble (n * i.size) 1024 && Nat.beq (cellsV z).length i.size) = true ∧
    parts.toList.map (fun x => (x.1, opv e x.2)) = ps.map (fun (x : Nat × Value) => (x.1, some x.2)) ∧
    (∀ Q : List Value → Prop, Q us → fillK (fun j => some (j * i.size, i.size, isAggT P el)) ((List.replicate n (cellsV z)).flatten) ps Q) ∧ len = some n)
theorem NewR.run {op : Op} {el : TypeId} {us : List Value} {len : Option Nat} (hn : NewR P op e el us len) {Kp : Value → Heap → Prop} (hk : Kp (mkOf len H.size) (hnew H us.toArray el)) : evWrite P op e H Kp := by
  rcases hn with ⟨t, i, z, rfl, hi, hz, rfl, rfl, rfl⟩ | ⟨t, n, parts, i, z, ps, rfl, hu, hi, hz, hb, hl, hf, rfl⟩
  · refine .inl ?_
    simp only [evWrite0, zeroT, hi, hz]
    exact hk
  · refine .inl ?_
    simp only [evWrite0, hu, hi]
    refine opL_acc hl _ _ ?_
    simp only [zeroT, hi, hz, hb, cond_true, List.nil_append]
    exact hf _ hk
theorem NewR.det {op : Op} {el el' : TypeId} {us us' : List Value} {len len' : Option Nat} (h1 : NewR P op e el us len) (h2 : NewR P op e el' us' len') : el = el' ∧ us = us' ∧ len = len' := by
  rcases h1 with ⟨t, i, z, rfl, hi, hz, rfl, rfl, rfl⟩ | ⟨t, n, parts, i, z, ps, rfl, hu, hi, hz, hb, hl, hf, rfl⟩
  · rcases h2 with ⟨t', i', z', he, hi', hz', rfl, rfl, rfl⟩ | ⟨t', n', parts', i', z', ps', he, _⟩
    · cases he
      rw [hi] at hi'
      cases hi'
      rw [hz] at hz'
      cases hz'
      exact ⟨rfl, rfl, rfl⟩
    · cases he
  · rcases h2 with ⟨t', i', z', he, _⟩ | ⟨t', n', parts', i', z', ps', he, hu', hi', hz', hb', hl', hf', rfl⟩
    · cases he
    · cases he
      rw [hu] at hu'
      cases hu'
      rw [hi] at hi'
      cases hi'
      rw [hz] at hz'
      cases hz'
      have hps : ps = ps' := by
        rw [hl] at hl'
        clear hf hf' hl
        induction ps generalizing ps' with
        | nil => cases ps' with | nil => rfl | cons => simp at hl'
        | cons p ps ih => cases ps' with
          | nil => simp at hl'
          | cons p' ps' =>
            simp only [List.map_cons, List.cons.injEq, Prod.mk.injEq, Option.some.injEq] at hl'
            rw [ih ps' hl'.2, Prod.ext hl'.1.1 hl'.1.2]
      subst hps
      obtain ⟨c1, e1, f1⟩ := fillK_out (hf (· = us) rfl)
      obtain ⟨c2, e2, f2⟩ := fillK_out (hf' (· = us') rfl)
      subst e1 e2
      rw [f1] at f2
      simp only [Option.some.injEq] at f2
      have : c1 = c2 := by simpa using f2
      exact ⟨rfl, this, rfl⟩
theorem NewR.congr {op : Op} {e' : Env} {el : TypeId} {us : List Value} {len : Option Nat} (hn : NewR P op e el us len) (hc : ∀ y ∈ op.operands.toList, opv e' y = opv e y) : NewR P op e' el us len := by
  rcases hn with h | ⟨t, n, parts, i, z, ps, rfl, hu, hi, hz, hb, hl, hf, rfl⟩
  · exact .inl h
  · refine .inr ⟨t, n, parts, i, z, ps, rfl, hu, hi, hz, hb, ?_, hf, rfl⟩
    rw [← hl]
    apply List.map_congr_left
    intro x hx
    rw [hc x.2 (by simp [Op.operands]; exact ⟨x.1, by simpa using hx⟩)]
def isNew : Op → Bool
  | .alloc _ | .buildSlice .. => true
  | _ => false
theorem xWrite_new {cf : CallF} (he : E ρ M env e) (hg : Gl ρ) {op : Op} (hn : isNew op = true) {K : V → Hp → Bool} (hh : xWrite P cf h op env K = true) :
    ∃ el us len cs es, NewR P op e el us len ∧ DnL ρ M cs us ∧ newK h (.cells cs el es false false) (fun b h => K (mkV len b) h) = true := by
  rw [xWriteB_eq] at hh
  unfold xWriteB at hh
  split at hh <;> first | (cases hn; done) | (cases hh; done) | skip
  · unfold xAlloc at hh
    obtain ⟨z, y, hz, hh, hq⟩ := xZero_out (ρ := ρ) (M := M) hh
    obtain ⟨hnn, hh⟩ := bif_t hh
    obtain ⟨i, z', hi, hz', hzq, _⟩ := zeroT_out (hq (· = y) rfl)
    subst hzq
    exact ⟨_, _, none, _, _, .inl ⟨_, i, _, rfl, hi, hz', rfl, rfl, rfl⟩, cellsVV_out hz (notAny_out hnn), hh⟩
  · obtain ⟨vs, ps, h0, h1, h2, hh⟩ := xOpL_out he hg hh
    unfold xRow at hh
    split at hh
    · rename_i el hu
      split at hh
      · rename_i i hi
        obtain ⟨z, yz, hz, hh, hq⟩ := xZero_out (ρ := ρ) (M := M) hh
        obtain ⟨hb, hh⟩ := bif_t hh
        rw [zerosK_eq] at hh
        simp only [Bool.and_eq_true] at hb
        obtain ⟨⟨b1, b2⟩, b3⟩ := hb
        have hd := cellsVV_out hz (notAny_out b1)
        obtain ⟨cs, us, hh, hcs, hf⟩ := fillV_out hh h1 h2 (hd.zeros _)
        obtain ⟨i', z', hi', hz', hzq, _⟩ := zeroT_out (hq (· = yz) rfl)
        subst hzq
        rw [hi] at hi'
        cases hi'
        refine ⟨el, us, some _, cs, _, .inr ⟨_, _, _, i, _, ps, rfl, hu, hi, hz', ?_, h0, hf, rfl⟩, hcs, hh⟩
        rw [← hd.1, b2, b3]
        rfl
      · cases hh
    · cases hh

/-! ### The region -/
def isWr (P : Program) (ops : Array Oper) (i : Nat) : Bool := match ops[i]? with | some o => kindOf P o.op == .write | none => false
def freeS (ops : Array Oper) (od : Oper) (j : Nat) : Bool := match ops[j]? with | some o => (match o.dst with | some t => !((namesOf ops od).any (Nat.beq t)) | none => true) | none => false
def cutsOk (P : Program) (ops : Array Oper) (B : List Nat) (d : Nat) (od : Oper) (s : List Nat) : List Nat → List Nat → Bool
  | _, [] => true
  | done, c :: p2 => (bif isWr P ops c then ordOkX P ops B (fun i => Nat.beq d i || done.any (Nat.beq i)) (done ++ d :: c :: (p2 ++ s)) 0 && (p2 ++ s).all (fun j => (B.getD j 0).testBit c) && (c :: (p2 ++ s)).all (freeS ops od) else true) && cutsOk P ops B d od s (done ++ [c]) p2
def dstNe (ops : Array Oper) (od : Oper) (j : Nat) : Bool := match ops[j]?, od.dst with | some o, some t => (match o.dst with | some t' => !(Nat.beq t' t) | none => true) | _, _ => false
def selfOk (od : Oper) : Bool := od.op.operands.toList.all fun y => match y, od.dst with | .tmp t, some t' => !(Nat.beq t t') | _, _ => true
theorem selfOk_out {od : Oper} (h : selfOk od = true) : ∀ y ∈ od.op.operands.toList, ∀ t, y = .tmp t → od.dst ≠ some t := by
  intro y hy t ht e
  have := List.all_eq_true.1 h y hy
  rw [ht, e] at this
  simp at this
def floatOk (P : Program) (ops : Array Oper) (B : List Nat) (p : List Nat) (d : Nat) (s : List Nat) : Bool :=
  match ops[d]? with
  | some od => kindOf P od.op == .write && od.guard.isNone && isNew od.op && allIn ops (p ++ d :: s) && ordOkX P ops B (fun i => p.any (Nat.beq i) && isWr P ops i) (p ++ d :: s) 0 && cutsOk P ops B d od s [] p && !(p.any (Nat.beq d)) && !(s.any (Nat.beq d)) && p.all (dstNe ops od) && selfOk od
  | none => false
theorem any_beq {l : List Nat} {d : Nat} : l.any (Nat.beq d) = true ↔ d ∈ l := by
  rw [List.any_eq_true]
  constructor
  · rintro ⟨x, hx, h⟩; rw [Nat.eq_of_beq_eq_true h]; exact hx
  · intro h; exact ⟨d, h, by simp⟩
theorem split_unique {c : Nat} : ∀ {l1 p1 l2 q2 : List Nat}, l1 ++ c :: l2 = p1 ++ c :: q2 → c ∉ l1 → c ∉ p1 → l1 = p1 ∧ l2 = q2
  | [], [], _, _, h, _, _ => by simp at h; exact ⟨rfl, h⟩
  | [], x :: p1, _, _, h, _, h2 => by simp at h; exact absurd (by simp [h.1]) h2
  | x :: l1, [], _, _, h, h1, _ => by simp at h; exact absurd (by simp [h.1]) h1
  | x :: l1, y :: p1, l2, q2, h, h1, h2 => by
    simp only [List.cons_append, List.cons.injEq] at h
    obtain ⟨e1, e2⟩ := split_unique h.2 (fun m => h1 (by simp [m])) (fun m => h2 (by simp [m]))
    exact ⟨by rw [h.1, e1], e2⟩
theorem cutsOk_at {ops : Array Oper} {B : List Nat} {d : Nat} {od : Oper} {s : List Nat} : ∀ {p done : List Nat}, cutsOk P ops B d od s done p = true → ∀ p1 c p2, p = p1 ++ c :: p2 → isWr P ops c = true →
    ordOkX P ops B (fun i => Nat.beq d i || (done ++ p1).any (Nat.beq i)) (done ++ p1 ++ d :: c :: (p2 ++ s)) 0 = true ∧ (∀ j ∈ p2 ++ s, (B.getD j 0).testBit c = true) ∧ ∀ j ∈ c :: (p2 ++ s), freeS ops od j = true
  | [], _, _, p1, c, p2, h, _ => by simp at h
  | x :: p, done, hc, p1, c, p2, h, hw => by
    unfold cutsOk at hc
    obtain ⟨h1, h2⟩ := and_t hc
    cases p1 with
    | nil =>
      simp only [List.nil_append, List.cons.injEq] at h
      obtain ⟨rfl, rfl⟩ := h
      rw [hw] at h1
      simp only [cond_true] at h1
      obtain ⟨h1, h3⟩ := and_t h1
      obtain ⟨h1, h4⟩ := and_t h1
      exact ⟨by simpa using h1, List.all_eq_true.1 h4, List.all_eq_true.1 h3⟩
    | cons y p1 =>
      simp only [List.cons_append, List.cons.injEq] at h
      obtain ⟨rfl, rfl⟩ := h
      have := cutsOk_at h2 p1 c p2 rfl hw
      simpa using this
/-- The one that floats is tried, ahead of a write. -/
noncomputable def tryK (P : Program) (ops : Array Oper) (B : List Nat) (d : Nat) (od : Oper) (env : Tr V) (h : Hp) (D : Dl) : Bool :=
  xWrite P (fun _ _ _ _ => false) ⟨.lf, .h, 0, 0⟩ od.op env (fun _ _ => true) && stabX P ops (B.getD d 0) h D true
noncomputable def xDf (P : Program) (cf : CallF) (ops : Array Oper) (B : List Nat) (d : Nat) (od : Oper) (l : List Nat) (env : Tr V) (h : Hp) (D : Dl) (K : KE) : Bool :=
  List.rec (motive := fun _ => Tr V → Hp → Dl → Bool) (fun _ _ _ => false)
    (fun i r ih env h D => bif Nat.beq i d then xD P cf ops B (i :: r) env h D K else match ops[i]? with
      | none => false
      | some o => wantK ops o env fun w => match w with
        | false => putK env o.dst (.tup []) fun env => ih env h D
        | true => match kindOf P o.op with
          | .pure => xOp P cf o env h fun v h => putK env o.dst v fun env => ih env h D
          | .read => xOp P cf o env h fun v h => putK env o.dst v fun env' => ih env' h (D ++ [(i, env, v)])
          | .write => bif tryK P ops B d od env h D then xOp P cf o env h fun v h => stabX P ops (B.getD i 0) h D (putK env o.dst v fun env => ih env h D) else false) l env h D

section
variable {cf : CallF}
theorem put_self (hp : progOk P = true) (hcf : CallOk P M cf) {e : Env} {t : Nat} {x : Value} (h : e t = some x) : put e (some t) x = e := by
  funext j
  rw [put_some]
  split
  · rename_i hj; rw [hj, h]
  · rfl
theorem opv_put (hp : progOk P = true) (hcf : CallOk P M cf) {e : Env} {d : Option Tmp} {x : Value} {y : Operand} (h : ∀ t, y = .tmp t → d ≠ some t) : opv (put e d x) y = opv e y := by
  cases y with
  | tmp t => exact put_other (h t rfl)
  | const v => rfl
  | global g => rfl
  | func f => rfl
theorem freeS_out (hp : progOk P = true) (hcf : CallOk P M cf) {ops : Array Oper} {od : Oper} {j : Nat} {o : Oper} (ho : ops[j]? = some o) (h : freeS ops od j = true) : (∀ t, o.dst = some t → od.dst ≠ some t) ∧ ∀ y ∈ od.op.operands.toList, ∀ t, y = .tmp t → o.dst ≠ some t := by
  unfold freeS at h
  rw [ho] at h
  simp only at h
  cases hd : o.dst with
  | none => exact ⟨(fun t h => by cases h), (fun _ _ _ _ h => by cases h)⟩
  | some u =>
    rw [hd] at h
    simp only [Bool.not_eq_true'] at h
    have hn : u ∉ namesOf ops od := fun hm => by rw [any_beq.2 hm] at h; cases h
    refine ⟨fun t ht e => ?_, fun y hy t ht e => ?_⟩
    · cases ht
      exact hn (names_dst e)
    · cases e
      subst ht
      exact hn (names_uses (uses_op hy))
/-- The one that floats is done already: what is left comes to the same. -/
theorem xDE_out (hp : progOk P = true) (hcf : CallOk P M cf) {ops : Array Oper} {B : List Nat} {K : KE} {d : Nat} {od : Oper} (hdo : ops[d]? = some od) (hdk : kindOf P od.op = .write) (hdg : od.guard = none) (hdn : isNew od.op = true) {td : Nat} (htd : od.dst = some td) {s : List Nat} (hs : ∀ j ∈ s, freeS ops od j = true)
    {blk : Nat} {el : TypeId} {us : List Value} {len : Option Nat} (hU : U blk = none) (hml : MLOk U) :
    ∀ (q : List Nat) (ρ : Rho) (env : Tr V) (h : Hp) (e : Env) (H : Heap) (D : Dl) (D' : List (Nat × Env × Value)), d ∉ q → (∀ j ∈ q, freeS ops od j = true) → xDf P cf ops B d od (q ++ d :: s) env h D K = true →
      E ρ M env e → R ρ M (fun i => if i = blk then some (.cells us.toArray el) else U i) h H → NewR P od.op e el us len → e td = some (mkOf len blk) → DR ρ M D D' →
      evD P ops B AT (q ++ s) e H D' (At ρ M U K) := by
  intro q
  induction q with
  | nil =>
    intro ρ env h e H D D' _ _ hh he r hn htde hD
    replace hh : (bif Nat.beq d d then xD P cf ops B (d :: s) env h D K else _) = true := hh
    rw [show Nat.beq d d = true by simp] at hh
    simp only [cond_true] at hh
    replace hh : (match ops[d]? with
      | none => false
      | some o => wantK ops o env fun w => match w with
        | false => putK env o.dst (.tup []) fun env => xD P cf ops B s env h D K
        | true => match kindOf P o.op with
          | .pure => xOp P cf o env h fun v h => putK env o.dst v fun env => xD P cf ops B s env h D K
          | .read => xOp P cf o env h fun v h => putK env o.dst v fun env' => xD P cf ops B s env' h (D ++ [(d, env, v)]) K
          | .write => xOp P cf o env h fun v h => stabX P ops (B.getD d 0) h D (putK env o.dst v fun env => xD P cf ops B s env h D K)) = true := hh
    rw [hdo] at hh
    simp only at hh
    unfold wantK at hh
    rw [hdg] at hh
    simp only [hdk] at hh
    simp only [xOp_eq] at hh
    unfold xOpB at hh
    rw [hdk] at hh
    simp only at hh
    obtain ⟨el2, us2, len2, cs, es, hn2, hcs, hh⟩ := xWrite_new he r.gl hdn hh
    obtain ⟨rfl, rfl, rfl⟩ := hn.det hn2
    obtain ⟨nq, hf, hh⟩ := newK_out hh
    simp only [nrmK_eq] at hh
    have hblk : H[blk]? = some (.cells us.toArray el) := r.un blk _ (by simp)
    have rw' : R ρ M U h H := ⟨r.gl, r.dom, fun b o hb hl => by
        obtain ⟨b1, b2, b3, x, q1, q2, q3, q4⟩ := r.ob b o hb hl
        refine ⟨b1, b2, b3, x, q1, q2, ?_, q4⟩
        split at q3
        · cases q3
        · exact q3, r.inj, fun i o hi => r.un i o (by
        have : i ≠ blk := fun e => by rw [e, hU] at hi; cases hi
        simp only [if_neg this]
        exact hi), r.bd, hml⟩
    have rn := rw'.new (H' := H) hf (o := .cells cs el es false false) blk 0 0 (x := .cells us.toArray el) hU nq
      (fun b o' y hb hl hy e => by
        obtain ⟨b1, b2, b3, x, q1, q2, q3, _⟩ := r.ob b o' hb hl
        rw [hy] at q1
        cases q1
        simp only at e
        rw [e] at q3
        simp at q3)
      (fun _ _ _ => rfl) hblk (obR_new hcs _ (0, 0) (fun j u hu => by simpa using hu) (by simp [rng, hcs.1]) (by simp [rng]) (.inl rfl))
    have hle := rw'.le_ext hf (blk, 0, 0)
    obtain ⟨hh, _⟩ := stabX_out rn (hD.mono hle) hh
    rw [htd] at hh
    obtain ⟨env', hk, he'⟩ := putK_out hh (he.mono hle) (mk_dn (ext_same ρ (.i h.nx) (blk, 0, 0)) len)
    rw [put_self hp hcf htde] at he'
    have := xD_out hp hcf (U := U) (B := B) s _ env' _ e H D D' hk he' rn (hD.mono hle)
    exact evD_mono hp (fun e H ⟨ρ2, env2, h2, a, b, c, d⟩ => ⟨ρ2, env2, h2, hle.trans a, b, c, d⟩) AT (fun _ _ _ _ h => h) _ _ _ _ this
  | cons i q ih =>
    intro ρ env h e H D D' hdq hq hh he r hn htde hD
    have hid : i ≠ d := fun e => hdq (by simp [e])
    have hdq' : d ∉ q := fun e => hdq (by simp [e])
    have hfi := hq i (by simp)
    have hq' : ∀ j ∈ q, freeS ops od j = true := fun j hj => hq j (by simp [hj])
    replace hh : (bif Nat.beq i d then xD P cf ops B (i :: (q ++ d :: s)) env h D K else match ops[i]? with
      | none => false
      | some o => wantK ops o env fun w => match w with
        | false => putK env o.dst (.tup []) fun env => xDf P cf ops B d od (q ++ d :: s) env h D K
        | true => match kindOf P o.op with
          | .pure => xOp P cf o env h fun v h => putK env o.dst v fun env => xDf P cf ops B d od (q ++ d :: s) env h D K
          | .read => xOp P cf o env h fun v h => putK env o.dst v fun env' => xDf P cf ops B d od (q ++ d :: s) env' h (D ++ [(i, env, v)]) K
          | .write => bif tryK P ops B d od env h D then xOp P cf o env h fun v h => stabX P ops (B.getD i 0) h D (putK env o.dst v fun env => xDf P cf ops B d od (q ++ d :: s) env h D K) else false) = true := hh
    rw [show Nat.beq i d = false by rw [beq_dec]; simp [hid]] at hh
    simp only [cond_false] at hh
    show evD P ops B AT (i :: (q ++ s)) e H D' (At ρ M U K)
    unfold evD
    split at hh
    · cases hh
    · rename_i o ho
      rw [ho]
      simp only
      obtain ⟨b, hw, hh⟩ := wantK_out he hh
      rw [hw]
      obtain ⟨hf1, hf2⟩ := freeS_out hp hcf ho hfi
      have step : ∀ {ρ' : Rho} {v : V} {x : Value} {h' : Hp} {H' : Heap} {D : Dl} {D' : List (Nat × Env × Value)}, Le ρ ρ' → R ρ' M (fun i => if i = blk then some (.cells us.toArray el) else U i) h' H' → Dn ρ' M v x → (putK env o.dst v fun env => xDf P cf ops B d od (q ++ d :: s) env h' D K) = true → DR ρ' M D D' →
          evD P ops B AT (q ++ s) (put e o.dst x) H' D' (At ρ M U K) := by
        intro ρ' v x h' H' D D' hl r' hd hk hD
        obtain ⟨env', hk, he'⟩ := putK_out hk (he.mono hl) hd
        have hn' : NewR P od.op (put e o.dst x) el us len := hn.congr fun y hy => opv_put hp hcf fun t ht => hf2 y hy t ht
        have ht' : put e o.dst x td = some (mkOf len blk) := by
          rw [put_other (fun e => hf1 td e htd)]
          exact htde
        have := ih ρ' env' h' _ H' D D' hdq' hq' hk he' r' hn' ht' hD
        exact evD_mono hp (fun e H ⟨ρ2, env2, h2, a, b, c, d⟩ => ⟨ρ2, env2, h2, hl.trans a, b, c, d⟩) AT (fun _ _ _ _ h => h) _ _ _ _ this
      cases b with
      | false => exact step (Le.refl _) r dn_undef hh hD
      | true =>
        simp only at hh ⊢
        cases hk : kindOf P o.op with
        | pure =>
          rw [hk] at hh
          simp only at hh ⊢
          simp only [xOp_eq] at hh
          unfold xOpB at hh
          rw [hk] at hh
          simp only at hh
          obtain ⟨t, nx, lo, hi⟩ := h
          replace hh : (xPure P lo hi o.op env fun v lo hi => putK env o.dst v fun env => xDf P cf ops B d od (q ++ d :: s) env ⟨t, nx, lo, hi⟩ D K) = true := hh
          obtain ⟨v, x, lo', hi', hd, h1, h2, hk, hev⟩ := xPure_out he r.gl r.bd.1 r.bd.2 hh
          exact evPure_mono hev (splitG_mk (step (Le.refl _) (r.bound h1 h2) hd hk hD))
        | read =>
          rw [hk] at hh
          simp only at hh ⊢
          simp only [xOp_eq] at hh
          unfold xOpB at hh
          rw [hk] at hh
          simp only at hh
          obtain ⟨v, x, hd, hk, hev⟩ := xRead_out he r hh
          exact evRead_mono hev (splitG_mk (step (Le.refl _) r hd hk (hD.snoc ⟨rfl, he, hd⟩)))
        | write =>
          rw [hk] at hh
          simp only at hh ⊢
          obtain ⟨_, hh⟩ := bif_t hh
          simp only [xOp_eq] at hh
          unfold xOpB at hh
          rw [hk] at hh
          simp only at hh
          have := xWrite_out hp hcf he r hh
          refine ⟨evWrite_mono hp this ?_, trivial⟩
          rintro u H' ⟨ρ', v, h', hl, r', hd, hk⟩
          simp only [nrmK_eq] at hk
          obtain ⟨hk, hst⟩ := stabX_out r' (hD.mono hl) hk
          exact hst _ (splitG_mk (step hl r' hd hk (hD.mono hl)))
theorem evD_monoS (hp : progOk P = true) {ops : Array Oper} {B : List Nat} {A A' : AL} {K : Env → Heap → Prop} : ∀ (l : List Nat), (∀ m, m <:+ l → ∀ e H D, A m e H D → A' m e H D) → ∀ (e : Env) (H : Heap) (D : List (Nat × Env × Value)), evD P ops B A l e H D K → evD P ops B A' l e H D K := by
  intro l
  induction l with
  | nil => intro _ e H D h; exact h
  | cons i l ihl =>
    intro hA e H D h
    have ihl := ihl fun m hm => hA m (hm.trans (List.suffix_cons i l))
    unfold evD at h ⊢
    split
    · rename_i ho; rw [ho] at h; exact h
    · rename_i o ho
      rw [ho] at h
      simp only at h
      split
      · rename_i hw; rw [hw] at h; exact h
      · rename_i hw; rw [hw] at h; exact ihl _ _ _ h
      · rename_i hw
        rw [hw] at h
        simp only at h
        split
        · rename_i hkk; rw [hkk] at h; simp only at h
          exact .inr fun o' ho' => by
            obtain ⟨v, hv, hr⟩ := evPure_out (o := o') (by rw [ho']; exact h)
            exact ⟨v, splitG_mk (ihl _ _ _ (splitG_out hv)), by rw [ho'] at hr; exact hr⟩
        · rename_i hkk; rw [hkk] at h; simp only at h
          exact .inr fun o' ho' => by
            obtain ⟨v, hv, hr⟩ := evRead_out (o := o') (by rw [ho']; exact h)
            exact ⟨v, splitG_mk (ihl _ _ _ (splitG_out hv)), by rw [ho'] at hr; exact hr⟩
        · rename_i hkk; rw [hkk] at h; simp only at h
          refine ⟨evWrite_mono hp h.1 fun u H' q => ?_, hA _ (List.suffix_refl _) _ _ _ h.2⟩
          have smono : ∀ (D : List (Nat × Env × Value)) (A A' : Prop), (A → A') → stabsK P ops (B.getD i 0) H' D A → stabsK P ops (B.getD i 0) H' D A' := by
            intro D
            induction D with
            | nil => intro A A' f h; exact f h
            | cons x D ihD =>
              intro A A' f h
              obtain ⟨r, e, v⟩ := x
              unfold stabsK at h ⊢
              split
              · rename_i ht; rw [ht] at h; exact ihD _ _ f h
              · rename_i ht; rw [ht] at h; exact ⟨h.1, ihD _ _ f h.2⟩
          exact smono _ _ _ (fun q => splitG_mk (ihl _ _ _ (splitG_out q))) q
theorem evD_tail (hp : progOk P = true) {ops : Array Oper} {K : Env → Heap → Prop} {d : Nat} {s : List Nat} (hds : d ∉ s) {e : Env} {H : Heap} {D : List (Nat × Env × Value)}
    (h : evD P ops (befs ops.toList []) AT (d :: s) e H D K) : evD P ops (befs ops.toList []) (AF P ops K d) (d :: s) e H D K := by
  have hs : ∀ e H D, evD P ops (befs ops.toList []) AT s e H D K → evD P ops (befs ops.toList []) (AF P ops K d) s e H D K :=
    evD_monoS hp s fun m hm e H D _ hd => absurd (hm.subset hd) hds
  have h0 := h
  unfold evD at h ⊢
  split
  · rename_i ho; rw [ho] at h; exact h
  · rename_i o ho
    rw [ho] at h
    simp only at h
    split
    · rename_i hw; rw [hw] at h; exact h
    · rename_i hw; rw [hw] at h; exact hs _ _ _ h
    · rename_i hw
      rw [hw] at h
      simp only at h
      split
      · rename_i hkk; rw [hkk] at h; simp only at h
        exact .inr fun o' ho' => by
          obtain ⟨v, hv, hr⟩ := evPure_out (o := o') (by rw [ho']; exact h)
          exact ⟨v, splitG_mk (hs _ _ _ (splitG_out hv)), by rw [ho'] at hr; exact hr⟩
      · rename_i hkk; rw [hkk] at h; simp only at h
        exact .inr fun o' ho' => by
          obtain ⟨v, hv, hr⟩ := evRead_out (o := o') (by rw [ho']; exact h)
          exact ⟨v, splitG_mk (hs _ _ _ (splitG_out hv)), by rw [ho'] at hr; exact hr⟩
      · rename_i hkk; rw [hkk] at h; simp only at h
        refine ⟨evWrite_mono hp h.1 fun u H' q => ?_, fun _ => ?_⟩
        · have smono : ∀ (D : List (Nat × Env × Value)) (A A' : Prop), (A → A') → stabsK P ops ((befs ops.toList []).getD d 0) H' D A → stabsK P ops ((befs ops.toList []).getD d 0) H' D A' := by
            intro D
            induction D with
            | nil => intro A A' f h; exact f h
            | cons x D ihD =>
              intro A A' f h
              obtain ⟨r, e, v⟩ := x
              unfold stabsK at h ⊢
              split
              · rename_i ht; rw [ht] at h; exact ihD _ _ f h
              · rename_i ht; rw [ht] at h; exact ⟨h.1, ihD _ _ f h.2⟩
          exact smono _ _ _ (fun q => splitG_mk (hs _ _ _ (splitG_out q))) q
        · rw [List.erase_cons_head]
          exact h0
theorem putK_out2 {d : Option Tmp} {v : V} {x : Value} {k : Tr V → Bool} (hh : putK env d v k = true) (he : E ρ M env e) (hd : Dn ρ M v x) : ∃ env', k env' = true ∧ E ρ M env' (put e d x) ∧ ∀ t, d ≠ some t → look (pth t) env' = look (pth t) env := by
  unfold putK at hh
  split at hh
  · rename_i d
    rw [insK_eq] at hh
    refine ⟨_, hh, fun t u hu => ?_, fun t ht => ?_⟩
    · rw [look_ins] at hu
      rw [put_some]
      by_cases hp : pth t = pth d
      · rw [if_pos hp] at hu
        cases hu
        rw [if_pos (pth_inj hp)]
        exact ⟨x, rfl, hd⟩
      · rw [if_neg hp] at hu
        rw [if_neg (fun e => hp (by rw [e]))]
        exact he t u hu
    · rw [look_ins, if_neg]
      intro e
      exact ht (by rw [pth_inj e])
  · exact ⟨env, hh, he, fun _ _ => rfl⟩
/-- The heap with one block more, which nobody knows. -/
theorem R.more (r : R ρ M U h H) (x : Obj) : R ρ M (fun i => if i = H.size then some x else U i) h (H.push x) ∧ U H.size = none := by
  have hlt : ∀ {i o}, H[i]? = some o → i < H.size := fun h => (Array.getElem?_eq_some_iff.1 h).1
  have hu : U H.size = none := by
    cases hx : U H.size with
    | none => rfl
    | some o => have := hlt (r.un _ _ hx); omega
  refine ⟨⟨r.gl, r.dom, fun b o hb hl => ?_, r.inj, fun i o hi => ?_, r.bd, ?_⟩, hu⟩
  · obtain ⟨b1, b2, b3, y, q1, q2, q3, q4⟩ := r.ob b o hb hl
    have := hlt q2
    refine ⟨b1, b2, b3, y, q1, ?_, ?_, q4⟩
    · rw [Array.getElem?_push_lt this]
      rw [← q2, Array.getElem?_eq_getElem this]
    · rw [if_neg (by omega)]
      exact q3
  · split at hi
    · rename_i e
      cases hi
      subst e
      rw [Array.getElem?_push_size]
    · have h1 := r.un i o hi
      have := hlt h1
      rw [Array.getElem?_push_lt this, ← h1, Array.getElem?_eq_getElem this]
  · obtain ⟨t, fr, m, hm⟩ := r.ml
    refine ⟨t, fr, m, ?_⟩
    have hlt := hlt (r.un _ _ hm)
    show (if gML = H.size then some x else U gML) = _
    rw [if_neg (fun e => by rw [e] at hlt; exact Nat.lt_irrefl _ hlt)]
    exact hm
/-- The one that floats may be done ahead of each write. -/
theorem xDf_out (hp : progOk P = true) (hcf : CallOk P M cf) {ops : Array Oper} {K : KE} {d : Nat} {od : Oper} (hdo : ops[d]? = some od) (hdk : kindOf P od.op = .write) (hdg : od.guard = none) (hdn : isNew od.op = true) (hself : ∀ y ∈ od.op.operands.toList, ∀ t, y = .tmp t → od.dst ≠ some t) {td : Nat} (htd : od.dst = some td) {s : List Nat} (hds : d ∉ s) :
    ∀ (q : List Nat) (ρ : Rho) (env : Tr V) (h : Hp) (e : Env) (H : Heap) (D : Dl) (D' : List (Nat × Env × Value)), d ∉ q → (∀ j ∈ q, dstNe ops od j = true) → (∀ p1 c p2, q = p1 ++ c :: p2 → isWr P ops c = true → ∀ j ∈ c :: (p2 ++ s), freeS ops od j = true) →
      xDf P cf ops (befs ops.toList []) d od (q ++ d :: s) env h D K = true → E ρ M env e → (∀ v, look (pth td) env = some v → v = .any) → R ρ M U h H → DR ρ M D D' →
      evD P ops (befs ops.toList []) (AF P ops (At ρ M U K) d) (q ++ d :: s) e H D' (At ρ M U K) := by
  intro q
  induction q with
  | nil =>
    intro ρ env h e H D D' _ _ _ hh he _ r hD
    replace hh : (bif Nat.beq d d then xD P cf ops (befs ops.toList []) (d :: s) env h D K else _) = true := hh
    rw [show Nat.beq d d = true by simp] at hh
    simp only [cond_true] at hh
    have := xD_out hp hcf (U := U) (B := befs ops.toList []) (d :: s) ρ env h e H D D' hh he r hD
    exact evD_tail hp hds this
  | cons i q ih =>
    intro ρ env h e H D D' hdq hne hfr hh0 he hany r hD
    have hid : i ≠ d := fun e => hdq (by simp [e])
    have hdq' : d ∉ q := fun e => hdq (by simp [e])
    have hne' : ∀ j ∈ q, dstNe ops od j = true := fun j hj => hne j (by simp [hj])
    have hfr' : ∀ p1 c p2, q = p1 ++ c :: p2 → isWr P ops c = true → ∀ j ∈ c :: (p2 ++ s), freeS ops od j = true := fun p1 c p2 hq => hfr (i :: p1) c p2 (by rw [hq]; rfl)
    have hh := hh0
    replace hh : (bif Nat.beq i d then xD P cf ops (befs ops.toList []) (i :: (q ++ d :: s)) env h D K else match ops[i]? with
      | none => false
      | some o => wantK ops o env fun w => match w with
        | false => putK env o.dst (.tup []) fun env => xDf P cf ops (befs ops.toList []) d od (q ++ d :: s) env h D K
        | true => match kindOf P o.op with
          | .pure => xOp P cf o env h fun v h => putK env o.dst v fun env => xDf P cf ops (befs ops.toList []) d od (q ++ d :: s) env h D K
          | .read => xOp P cf o env h fun v h => putK env o.dst v fun env' => xDf P cf ops (befs ops.toList []) d od (q ++ d :: s) env' h (D ++ [(i, env, v)]) K
          | .write => bif tryK P ops (befs ops.toList []) d od env h D then xOp P cf o env h fun v h => stabX P ops ((befs ops.toList []).getD i 0) h D (putK env o.dst v fun env => xDf P cf ops (befs ops.toList []) d od (q ++ d :: s) env h D K) else false) = true := hh
    rw [show Nat.beq i d = false by rw [beq_dec]; simp [hid]] at hh
    simp only [cond_false] at hh
    show evD P ops (befs ops.toList []) (AF P ops (At ρ M U K) d) (i :: (q ++ d :: s)) e H D' (At ρ M U K)
    unfold evD
    split at hh
    · cases hh
    · rename_i o ho
      rw [ho]
      simp only
      obtain ⟨b, hw, hh⟩ := wantK_out he hh
      rw [hw]
      have hod : o.dst ≠ some td := by
        have := hne i (by simp)
        unfold dstNe at this
        rw [ho, htd] at this
        simp only at this
        intro e
        rw [e] at this
        simp at this
      have step : ∀ {ρ' : Rho} {v : V} {x : Value} {h' : Hp} {H' : Heap} {D : Dl} {D' : List (Nat × Env × Value)}, Le ρ ρ' → R ρ' M U h' H' → Dn ρ' M v x → (putK env o.dst v fun env => xDf P cf ops (befs ops.toList []) d od (q ++ d :: s) env h' D K) = true → DR ρ' M D D' →
          evD P ops (befs ops.toList []) (AF P ops (At ρ M U K) d) (q ++ d :: s) (put e o.dst x) H' D' (At ρ M U K) := by
        intro ρ' v x h' H' D D' hl r' hd hk hD
        obtain ⟨env', hk, he', hlk⟩ := putK_out2 hk (he.mono hl) hd
        have := ih ρ' env' h' _ H' D D' hdq' hne' hfr' hk he' (fun v hv => hany v (by rw [← hlk td hod]; exact hv)) r' hD
        refine evD_mono hp (fun e H ⟨ρ2, env2, h2, a, b, c, d⟩ => ⟨ρ2, env2, h2, hl.trans a, b, c, d⟩) _ (fun l e H D q hd => ?_) _ _ _ _ this
        exact evD_mono hp (fun e H ⟨ρ2, env2, h2, a, b, c, d⟩ => ⟨ρ2, env2, h2, hl.trans a, b, c, d⟩) AT (fun _ _ _ _ h => h) _ _ _ _ (q hd)
      cases b with
      | false => exact step (Le.refl _) r dn_undef hh hD
      | true =>
        simp only at hh ⊢
        cases hk : kindOf P o.op with
        | pure =>
          rw [hk] at hh
          simp only at hh ⊢
          simp only [xOp_eq] at hh
          unfold xOpB at hh
          rw [hk] at hh
          simp only at hh
          obtain ⟨t, nx, lo, hi⟩ := h
          replace hh : (xPure P lo hi o.op env fun v lo hi => putK env o.dst v fun env => xDf P cf ops (befs ops.toList []) d od (q ++ d :: s) env ⟨t, nx, lo, hi⟩ D K) = true := hh
          obtain ⟨v, x, lo', hi', hd, h1, h2, hk, hev⟩ := xPure_out he r.gl r.bd.1 r.bd.2 hh
          exact evPure_mono hev (splitG_mk (step (Le.refl _) (r.bound h1 h2) hd hk hD))
        | read =>
          rw [hk] at hh
          simp only at hh ⊢
          simp only [xOp_eq] at hh
          unfold xOpB at hh
          rw [hk] at hh
          simp only at hh
          obtain ⟨v, x, hd, hk, hev⟩ := xRead_out he r hh
          exact evRead_mono hev (splitG_mk (step (Le.refl _) r hd hk (hD.snoc ⟨rfl, he, hd⟩)))
        | write =>
          rw [hk] at hh
          simp only at hh ⊢
          have h2 := bif_t hh
          clear hh
          obtain ⟨htry, hh⟩ := h2
          simp only [xOp_eq] at hh
          unfold xOpB at hh
          rw [hk] at hh
          simp only at hh
          have := xWrite_out hp hcf he r hh
          refine ⟨evWrite_mono hp this ?_, fun _ => ?_⟩
          · rintro u H' ⟨ρ', v, h', hl, r', hd, hk⟩
            simp only [nrmK_eq] at hk
            obtain ⟨hk, hst⟩ := stabX_out r' (hD.mono hl) hk
            exact hst _ (splitG_mk (step hl r' hd hk (hD.mono hl)))
          · have hwr : isWr P ops i = true := by unfold isWr; rw [ho]; simp only; rw [hk]; rfl
            have hf := hfr [] i q rfl hwr
            unfold tryK at htry
            obtain ⟨t1, t2⟩ := and_t htry
            obtain ⟨el, us, len, cs, es, hnew, hcs, _⟩ := xWrite_new he r.gl hdn t1
            obtain ⟨rm, hub⟩ := r.more (.cells us.toArray el)
            have her : (i :: (q ++ d :: s)).erase d = i :: q ++ s := by
              rw [show i :: (q ++ d :: s) = (i :: q) ++ d :: s from rfl, List.erase_append_right _ hdq, List.erase_cons_head]
            rw [her]
            unfold evD
            rw [hdo]
            simp only
            rw [show wantedK ops od e = some true by unfold wantedK; rw [hdg]]
            simp only [hdk]
            refine ⟨hnew.run (H := H) ?_, trivial⟩
            obtain ⟨_, hst⟩ := stabX_out rm hD t2
            refine hst _ (splitG_mk ?_)
            refine xDE_out hp hcf hdo hdk hdg hdn htd (len := len) (fun j hj => hf j (by simp [hj])) hub r.ml (i :: q) ρ env h _ _ D D' hdq (fun j hj => hf j (by
              rcases List.mem_cons.1 hj with h | h
              · simp [h]
              · simp [h])) hh0 ?_ rm ?_ ?_ hD
            · intro t v hv
              rw [htd, put_some]
              by_cases htt : t = td
              · subst htt
                rw [if_pos rfl, hany v hv]
                exact ⟨_, rfl, .any _⟩
              · rw [if_neg htt]
                exact he t v hv
            · exact hnew.congr fun y hy => opv_put hp hcf fun t ht => hself y hy t ht
            · rw [htd, put_some, if_pos rfl]
/-- A region in which one new variable floats: it may be drawn in any order. -/
theorem float_region (hp : progOk P = true) (hcf : CallOk P M cf) {N : Nat} {Ds : List Deferred} {ops : Array Oper} (hN : dstsOk N ops = true) {p : List Nat} {d : Nat} {s : List Nat} (hok : floatOk P ops (befs ops.toList []) p d s = true) {od : Oper} (hdo : ops[d]? = some od) {td : Nat} (htd : od.dst = some td) {K : KE}
    {Q : Exit → Act → World → Prop} (a₀ : Act) (w₀ w : World) (e : Env) (hQ : ∀ a' w' e', Mt N Ds a' e' → Sim w₀ w' → Keeps (regDsts ops) a₀ a' → At ρ M U K e' w'.heap → Q .normal a' w')
    (hh : xDf P cf ops (befs ops.toList []) d od (p ++ d :: s) env h [] K = true) (he : E ρ M env e) (hany : ∀ v, look (pth td) env = some v → v = .any) (r : R ρ M U h w.heap) (hm : Mt N Ds a₀ e) (hs : Sim w₀ w) :
    wpAny P .any ops Q ops.size (Array.replicate ops.size false) a₀ w := by
  unfold floatOk at hok
  rw [hdo] at hok
  simp only [Bool.and_eq_true, Bool.not_eq_true'] at hok
  obtain ⟨⟨⟨⟨⟨⟨⟨⟨⟨k1, k2⟩, k3⟩, k4⟩, k5⟩, k6⟩, k7⟩, k8⟩, k9⟩, k10⟩ := hok
  have hdk : kindOf P od.op = .write := by simpa using k1
  have hdg : od.guard = none := by cases hg : od.guard with | none => rfl | some g => rw [hg] at k2; cases k2
  have hdp : d ∉ p := fun hm => by rw [any_beq.2 hm] at k7; cases k7
  have hds : d ∉ s := fun hm => by rw [any_beq.2 hm] at k8; cases k8
  have hat : ∀ l1 i l2, p ++ d :: s = l1 ++ i :: l2 → OrdAt P ops (befs ops.toList []) (fun i => p.any (Nat.beq i) && isWr P ops i) l1 i l2 := fun l1 i l2 he => by
    have := ordOkX_at (done := []) k5 (by simp) l1 i l2 he
    simpa using this
  have hcuts := fun p1 c p2 (h : p = p1 ++ c :: p2) hw => cutsOk_at k6 p1 c p2 h hw
  have hev := xDf_out (U := U) hp hcf (K := K) hdo hdk hdg k3 (selfOk_out k10) htd hds p ρ env h e w.heap [] [] hdp (fun j hj => List.all_eq_true.1 k9 j hj) (fun p1 c p2 h hw => (hcuts p1 c p2 h hw).2.2) hh he hany r .nil
  obtain ⟨tr, post, D, e1, e2, e3, e3', e4, e5, e6, e7⟩ := adv (fun _ => True) (p ++ d :: s) e [] (by simp) hev
  have hdpost : d ∈ post := by
    have hm : d ∈ p ++ d :: s := by simp
    rw [e1, List.mem_append] at hm
    rcases hm with h | h
    · exfalso
      obtain ⟨x, hx, hxd⟩ := List.mem_map.1 h
      obtain ⟨xd, xv, xe⟩ := x
      simp only at hxd
      subst hxd
      exact (e4 _ hx).2 od hdo (by unfold wantedK; rw [hdg]) hdk
    · exact h
  refine draw_float hp hN hat (all_mem k4) hdo hdk hdg (fun l1 l2 hl c hc => ?_) (fun l1 c l2 hl hc j hj => ?_) (fun tr c rest oc hl hdr hoc hock => ?_) a₀ w₀ e hQ ops.size _ a₀ w ⟨tr, post, D, inv0 e1 e2 e4 (fun x hx => e5 x hx trivial) e6 e7 hm hs, hdpost⟩ (count_none _)
  · have hf := (hat _ _ _ hl).fresh
    obtain ⟨rfl, rfl⟩ := split_unique hl hdp hf
    exact any_beq.1 (and_t hc).1
  · obtain ⟨h1, h2⟩ := and_t hc
    obtain ⟨p1, p2, rfl⟩ := List.append_of_mem (any_beq.1 h1)
    have hl' : p1 ++ c :: (p2 ++ d :: s) = l1 ++ c :: l2 := by rw [← hl]; simp
    have f1 := (hat p1 c (p2 ++ d :: s) (by simp)).fresh
    have f2 := (hat _ _ _ hl).fresh
    obtain ⟨rfl, rfl⟩ := split_unique hl' f1 f2
    have := (hcuts p1 c p2 rfl h2).2.1
    rw [List.mem_append, List.mem_cons] at hj
    rcases hj with h | h | h
    · exact .inr (this j (by simp [h]))
    · exact .inl h
    · exact .inr (this j (by simp [h]))
  · obtain ⟨r1, r2, rfl⟩ := List.append_of_mem hdr
    have hl' : p ++ d :: s = (tr ++ c :: r1) ++ d :: r2 := by rw [hl]; simp
    have f2 := (hat _ _ _ hl').fresh
    obtain ⟨rfl, rfl⟩ := split_unique hl' hdp f2
    have hwr : isWr P ops c = true := by unfold isWr; rw [hoc]; simp only; rw [hock]; rfl
    have hc := (hcuts tr c r1 rfl hwr).1
    have her : (c :: (r1 ++ d :: s)).erase d = c :: (r1 ++ s) := by
      have hnd : d ∉ c :: r1 := fun hm => f2 (by rw [List.mem_append]; exact .inr hm)
      rw [show c :: (r1 ++ d :: s) = (c :: r1) ++ d :: s from rfl, List.erase_append_right _ hnd, List.erase_cons_head]
      rfl
    rw [her]
    intro l1 i l2 he
    have := ordOkX_at (done := []) hc (by simp) l1 i l2 (by simpa using he)
    simpa using this
end

/-! ### What a region's order is said to be -/
inductive An where
  | ord (l : List Nat)
  | fl (p : List Nat) (d : Nat) (s : List Nat)
/-- A slot is forgotten. -/
noncomputable def clrK (env : Tr V) (t : Nat) (k : Tr V → Bool) : Bool := bif noneK (pth t) env then k env else getK (pth t) env fun _ => insK .any (pth t) env k
theorem clrK_out {t : Nat} {k : Tr V → Bool} (he : E ρ M env e) (hh : clrK env t k = true) : ∃ env', k env' = true ∧ E ρ M env' e ∧ ∀ v, look (pth t) env' = some v → v = .any := by
  unfold clrK at hh
  cases hb : noneK (pth t) env with
  | true =>
    rw [hb] at hh
    refine ⟨env, hh, he, fun v hv => ?_⟩
    rw [noneK_out hb] at hv
    cases hv
  | false =>
    rw [hb] at hh
    simp only [cond_false] at hh
    obtain ⟨u, hu, hh⟩ := getK_out hh
    rw [insK_eq] at hh
    refine ⟨_, hh, fun s v hv => ?_, fun v hv => ?_⟩
    · rw [look_ins] at hv
      by_cases hp : pth s = pth t
      · rw [if_pos hp] at hv
        cases hv
        obtain ⟨x, hx, _⟩ := he t u hu
        rw [pth_inj hp]
        exact ⟨x, hx, .any x⟩
      · rw [if_neg hp] at hv
        exact he s v hv
    · rw [look_ins, if_pos rfl] at hv
      cases hv
      rfl
/-- A region that draws its order. -/
noncomputable def xDraw (P : Program) (cf : CallF) (ops : Array Oper) (an : An) (env : Tr V) (h : Hp) (K : KE) : Bool :=
  match an with
  | .ord l => bif drawOk P ops (befs ops.toList []) l then xD P cf ops (befs ops.toList []) l env h [] K else false
  | .fl p d s => match ops[d]? with
    | none => false
    | some od => match od.dst with
      | none => false
      | some td => bif floatOk P ops (befs ops.toList []) p d s then clrK env td fun env => xDf P cf ops (befs ops.toList []) d od (p ++ d :: s) env h [] K else false
theorem xDraw_out {cf : CallF} (hp : progOk P = true) (hcf : CallOk P M cf) {N : Nat} {Ds : List Deferred} {ops : Array Oper} (hN : dstsOk N ops = true) {an : An} {K : KE}
    {Q : Exit → Act → World → Prop} (a₀ : Act) (w₀ w : World) (e : Env) (hQ : ∀ a' w' e', Mt N Ds a' e' → Sim w₀ w' → Keeps (regDsts ops) a₀ a' → At ρ M U K e' w'.heap → Q .normal a' w')
    (hh : xDraw P cf ops an env h K = true) (he : E ρ M env e) (r : R ρ M U h w.heap) (hm : Mt N Ds a₀ e) (hs : Sim w₀ w) :
    wpAny P .any ops Q ops.size (Array.replicate ops.size false) a₀ w := by
  unfold xDraw at hh
  split at hh
  · rename_i l
    have h2 := bif_t hh
    clear hh
    obtain ⟨hd, hh⟩ := h2
    have := xD_out (U := U) hp hcf (ops := ops) (K := K) l ρ env h e w.heap [] [] hh he r DR.nil
    exact evD_out hp hN hd a₀ w₀ w e hQ this hm hs
  · rename_i p d s
    split at hh
    · cases hh
    · rename_i od hdo
      split at hh
      · cases hh
      · rename_i td htd
        have h2 := bif_t hh
        clear hh
        obtain ⟨hf, hh⟩ := h2
        obtain ⟨env', hh, he', hany⟩ := clrK_out he hh
        exact float_region hp hcf hN hf hdo htd a₀ w₀ w e hQ hh he' hany r hm hs
end Go.X
