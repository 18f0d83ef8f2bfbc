/- A plain reckoning of code over the heap alone is sound: second part. -/
import Derived.Test.YtmgbpamhlojpiaaGreatDoorXa
set_option linter.unusedVariables false
namespace Go.Ex
section
variable {P : Program}
theorem resSh_out : ∀ {ts : List TypeId} {acc : List Value} {K : Value → Prop}, resSh P ts acc K → ∃ v, K v
  | [], _, _, h => ⟨_, h⟩
  | _ :: _, _, _, h => by
    obtain ⟨v, h⟩ := exSh_out (show exSh _ _ from h)
    exact resSh_out h
theorem resW_out {ts : List TypeId} {v : Value} {K : Value → Prop} (h : resW P ts v K) : K v := by
  unfold resW at h
  split at h
  · obtain ⟨u, rfl, h⟩ := exSh_out h; exact h
  · obtain ⟨u, rfl, h⟩ := resSh_out h; exact h
theorem bif_out {b : Bool} {A : Prop} (h : bif b then A else False) : b = true ∧ A := by cases b <;> simp_all
theorem heap_alloc (w : World) (o : Obj) : (w.alloc o).heap = w.heap.push o := rfl
theorem run_newVar (t : TypeId) (v : Value) (w : World) : (newVar t v).run P w = .ok ⟨w.heap.size, 0, none⟩ (w.alloc (.cells v.cells t)) := by
  unfold newVar newRow newObj
  rfl
theorem flatten_zeros (z : List Value) (n : Nat) (size : Nat) (hs : z.length = size) :
    ((List.replicate n z).flatten).toArray = (Array.range (n * size)).map fun i => z.toArray[i % z.toArray.size]! := by
  apply Array.ext'
  simp only [Array.toList_map, Array.toList_range, List.size_toArray]
  induction n with
  | zero => simp
  | succ n ih =>
    rw [List.replicate_succ, List.flatten_cons, ih, Nat.succ_mul, Nat.add_comm (n * size) size, List.range_add, List.map_append, List.map_map]
    congr 1
    · apply List.ext_getElem
      · simp [hs]
      · intro i h1 h2
        simp only [List.getElem_map, List.getElem_range]
        have : i < size := by omega
        rw [Nat.mod_eq_of_lt (by omega), getElem!_pos z.toArray i (by simpa using h1)]
        simp
    · apply List.map_congr_left
      intro i _
      simp only [Function.comp]
      rw [hs, Nat.add_mod_left]
theorem progOk_num (hp : progOk P = true) {f : FuncId} {fn : Func} (hf : P.funcs[f]? = some fn) : (fn.name == "runtime.NumGoroutine") = false := by
  unfold progOk at hp
  simp only [Bool.and_eq_true] at hp
  obtain ⟨h1, rfl⟩ := Array.getElem?_eq_some_iff.1 hf
  have := Array.all_eq_true.1 hp.2 f h1
  simpa using this
theorem evWrite0_out {o : Oper} {e : Env} {H : Heap} {K : Value → Heap → Prop} {a : Act} (hp : progOk P = true) (h : evWrite0 P o.op e H K) (ha : Agrees e a.eval o.op.operands.toList)
    (w : World) (hw : w.heap = H) {next : Act → World → Prop} {Q : Exit → Act → World → Prop} (hn : ∀ v w', Sim w w' → K v w'.heap → next (a.put o.dst v) w') : o.wp P a w next Q := by
  have val : ∀ {s : Sem Value} {v : Value} {w' : World}, s.run P w = .ok v w' → Sim w w' → K v w'.heap → (execOp a.eval o = do pure (.value (← s))) → o.wp P a w next Q := by
    intro s v w' hr hs hk he
    unfold Oper.wp
    rw [he, Sem.run_bind, hr]
    exact hn v w' hs hk
  have unit : ∀ {s : Sem Unit} {w' : World}, s.run P w = .ok () w' → Sim w w' → K undef w'.heap → (execOp a.eval o = do s; pure .skip) → o.wp P a w next Q := by
    intro s w' hr hs hk he
    unfold Oper.wp
    rw [he, Sem.run_bind, hr]
    exact hn undef w' hs hk
  subst hw
  obtain ⟨dst, op, type, pos, after, guard⟩ := o
  simp only at h ha
  unfold evWrite0 at h
  split at h
  · rename_i t x y
    obtain ⟨v, hv, h⟩ := o1_out h
    obtain ⟨u, hu, h⟩ := o1_out h
    have hex : execOp a.eval { dst := dst, op := .store t x y, type := type, pos := pos, after := after, guard := guard } = (do Instr.storeAt t v u; pure .skip) := by
      simp only [execOp, ha x (by simp [Op.operands]) _ hv, ha y (by simp [Op.operands]) _ hu]
    split at h
    · rename_i ad _
      split at h
      · rename_i hag
        split at h
        · rename_i cs
          obtain ⟨hb, h⟩ := bif_out h
          simp only [Bool.and_eq_true] at hb
          obtain ⟨i, hi⟩ := Option.isSome_iff_exists.1 hb.2
          have hsz : cs.size = i.size := by have := Nat.eq_of_beq_eq_true hb.1; simpa [sizeT, hi] using this
          obtain ⟨w', hr, hs, hk⟩ := stCs_out (P := P) h w rfl
          refine unit ?_ hs hk hex
          unfold Instr.storeAt storeVar
          rw [Sem.run_bind, show (Instr.sureAddr (.pointer (some ad))).run P w = .ok ad w from rfl]
          simp only [Result.andThen]
          rw [Sem.run_bind, r_size hi]
          simp [Value.cells, hsz, hr]
        · exact h.elim
      · rename_i hag
        obtain ⟨hb, h⟩ := bif_out h
        simp only [Bool.and_eq_true] at hb
        obtain ⟨i, hi⟩ := Option.isSome_iff_exists.1 hb.2
        have hsz : 1 = i.size := by have := Nat.eq_of_beq_eq_true hb.1; simpa [sizeT, hi] using this
        obtain ⟨hk, hc, hr⟩ := stC_out (P := P) h
        refine unit ?_ (Sim.setCell w _ _) (by rw [setCell_heap]; exact hk) hex
        unfold Instr.storeAt storeVar
        rw [Sem.run_bind, show (Instr.sureAddr (.pointer (some ad))).run P w = .ok ad w from rfl]
        simp only [Result.andThen]
        rw [Sem.run_bind, r_size hi]
        simp [hc, ← hsz, storeCells, add_zero, hr w rfl]
    · exact h.elim
  · rename_i t
    obtain ⟨i, z, hi, hz, h, hzr⟩ := zeroT_out h
    refine val (s := Instr.alloc t true (.tuple #[])) (v := .pointer (some ⟨w.heap.size, 0, none⟩)) (w' := w.alloc (.cells z.cells t)) ?_ (Sim.alloc _ _) (by rw [heap_alloc, cellsV_eq]; exact h) rfl
    unfold Instr.alloc
    rw [Sem.run_bind, hzr]
    simp only [Result.andThen]
    rw [Sem.run_bind, run_newVar]
    rfl
  · rename_i t x
    obtain ⟨v, hv, h⟩ := o1_out h
    have hex : execOp a.eval { dst := dst, op := .box t x, type := type, pos := pos, after := after, guard := guard } = (do pure (.value (← Instr.box t v))) := by
      simp only [execOp, ha x (by simp [Op.operands]) _ hv]
    have hr : (Instr.box t v).run P w = .ok (.pointer (some ⟨w.heap.size, 0, none⟩)) (w.alloc (.cells v.cells t)) := by
      unfold Instr.box
      rw [Sem.run_bind, run_newVar]
      rfl
    split at h
    · rename_i cs
      exact val hr (Sim.alloc _ _) h hex
    · obtain ⟨h, hc, _⟩ := oneW_out h
      exact val hr (Sim.alloc _ _) (by rw [heap_alloc, hc]; exact h) hex
  · rename_i t l c
    obtain ⟨vl, hvl, h⟩ := o1_out h
    obtain ⟨vc, hvc, h⟩ := o1_out h
    have hex : execOp a.eval { dst := dst, op := .makeSlice t l c, type := type, pos := pos, after := after, guard := guard } = (do pure (.value (← Instr.makeSlice t vl vc))) := by
      simp only [execOp, ha l (by simp [Op.operands]) _ hvl, ha c (by simp [Op.operands]) _ hvc]
    split at h
    · rename_i el k n k' m hu _
      split at h
      · rename_i i hi
        obtain ⟨i', z, hi', hz, h, hzr⟩ := zeroT_out h
        obtain rfl : i = i' := by rw [hi] at hi'; exact Option.some.inj hi'
        obtain ⟨hb, h0, h1, h2, h⟩ := bif_out h
        simp only [Bool.and_eq_true] at hb
        have e1 : (cellsV z).length = i.size := Nat.eq_of_beq_eq_true hb.1.1
        have e2 : 0 < i.bytes := by have := hb.1.2; rw [Nat.blt_eq] at this; exact this
        have e3 : 0 < i.size := by have := hb.2; rw [Nat.blt_eq] at this; exact this
        have hm : m ≤ 281474976710656 := by
          have : (1 : Int) * m ≤ (i.bytes : Int) * m := Int.mul_le_mul_of_nonneg_right (by omega) (by omega)
          omega
        have wrapn : IntKind.i64.wrap n = n := by unfold IntKind.wrap; simp [IntKind.bits, IntKind.signed]; omega
        have wrapm : IntKind.i64.wrap m = m := by unfold IntKind.wrap; simp [IntKind.bits, IntKind.signed]; omega
        refine val (v := .slice (some ⟨w.heap.size, 0, none⟩) n.toNat m.toNat) (w' := w.alloc (.cells (zerosOf z m.toNat) el)) ?_ (Sim.alloc _ _) h hex
        unfold Instr.makeSlice
        rw [Sem.run_bind, r_und hu]
        simp only [Result.andThen]
        have ha1 : ∀ w, (asInt (.int k n)).run P w = .ok n w := fun w => rfl
        have ha2 : ∀ w, (asInt (.int k' m)).run P w = .ok m w := fun w => rfl
        rw [Sem.run_bind, ha1]
        simp only [Result.andThen]
        rw [Sem.run_bind, ha2]
        simp only [Result.andThen]
        rw [Sem.run_bind, r_info hi]
        simp only [Result.andThen, wrapn, wrapm]
        have c1 : ¬ (m < 0) := by omega
        have c2 : ¬ (281474976710656 < (i.bytes : Int) * m) := by omega
        have c3 : ¬ (n < 0) := by omega
        have c4 : ¬ (m < n) := by omega
        simp only [show (2 : Int) ^ 48 = 281474976710656 from rfl, gt_iff_lt, c1, c2, c3, c4, decide_false, Bool.or_false, Bool.false_eq_true, if_false, Sem.run_bind, Result.andThen]
        have har : (askRoom (m.toNat * i.bytes)).run P w = .ok () w := by
          unfold askRoom
          split <;> rfl
        rw [har]
        simp only [r_size hi]
        by_cases h00 : m.toNat * i.size = 0
        · have hm0 : m.toNat = 0 := by
            rcases Nat.mul_eq_zero.1 h00 with h | h
            · exact h
            · omega
          have hz0 : zerosOf z m.toNat = #[] := by simp [zerosOf, hm0]
          rw [if_pos h00, hz0]
          simp only [pure_bind, h00]
          rw [show ∀ f : Nat → Value, (Array.range 0).map f = #[] from fun f => by simp]
          rfl
        · rw [if_neg h00, Sem.run_bind, hzr]
          simp only [Result.andThen, pure_bind]
          rw [zerosOf_eq]
          unfold Builtin.zeroCells
          rw [show z.cells.size = i.size by rw [cellsV_len, e1]]
          rfl
      · exact h.elim
    · exact h.elim
  · rename_i t len parts
    obtain ⟨ps, hps, h⟩ := opL_out h
    have e : (parts.map fun (x : Nat × Operand) => (x.1, a.eval x.2)) = ps.toArray := by
      have := Agrees.pairs hps (fun y hy => ha y (by simp [Op.operands]; simpa using hy))
      rw [← this]
      cases parts; simp
    have hex : execOp a.eval { dst := dst, op := .buildSlice t len parts, type := type, pos := pos, after := after, guard := guard } = (do pure (.value (← Instr.buildSlice t len ps.toArray))) := by
      simp only [execOp, e]
    simp only [List.nil_append] at h
    split at h
    · rename_i el hu
      split at h
      · rename_i i hi
        obtain ⟨i', z, hi', hz, h, hzr⟩ := zeroT_out h
        obtain rfl : i = i' := by rw [hi] at hi'; exact Option.some.inj hi'
        obtain ⟨hb, h⟩ := bif_out h
        simp only [Bool.and_eq_true] at hb
        have e1 : (cellsV z).length = i.size := Nat.eq_of_beq_eq_true hb.2
        have e2 : len * i.size ≤ 1024 := Nat.le_of_ble_eq_true hb.1
        obtain ⟨cs, hk, hf⟩ := fillK_out h
        simp only [Option.map_some] at hf
        refine val (v := .slice (some ⟨w.heap.size, 0, none⟩) len len) (w' := w.alloc (.cells cs.toArray el)) ?_ (Sim.alloc _ _) hk hex
        unfold Instr.buildSlice
        rw [Sem.run_bind, r_und hu]
        simp only [Result.andThen]
        rw [Sem.run_bind, r_size hi]
        simp only [Result.andThen]
        rw [if_neg (show ¬ len * i.size > 2 ^ 24 by have : (2 : Nat) ^ 24 = 16777216 := rfl; omega)]
        have hz0 : (if len * i.size = 0 then (pure #[] : Sem (Array Value)) else do pure (← zeroValue el).cells).run P w = .ok (if len * i.size = 0 then #[] else z.cells) w := by
          split
          · rfl
          · rw [Sem.run_bind, hzr]; rfl
        have hcells : ((Array.range (len * i.size)).map fun j => (if len * i.size = 0 then (#[] : Array Value) else z.cells)[j % (if len * i.size = 0 then (#[] : Array Value) else z.cells).size]!) = ((List.replicate len (cellsV z)).flatten).toArray := by
          rw [flatten_zeros (cellsV z) len i.size e1]
          by_cases h00 : len * i.size = 0
          · simp [h00]
          · simp only [h00, if_false, cellsV_eq]
        by_cases h00 : len * i.size = 0
        · simp only [h00, if_true] at hcells ⊢
          show Sem.run P (match Instr.fill (fun i_1 => some (i_1 * i.size, i.size)) (Array.map (fun x => (#[] : Array Value)[x % (#[] : Array Value).size]!) (Array.range 0)) ps with
            | some cells => do
              let __do_lift ← newRow el cells
              pure (Value.slice (some __do_lift) len len)
            | x => stuck "buildSlice: a part of the wrong size") w = _
          rw [hcells, hf]
          rfl
        · simp only [h00, if_false] at hcells ⊢
          rw [Sem.run_bind, hzr]
          simp only [Result.andThen, pure_bind]
          rw [hcells, hf]
          rfl
      · exact h.elim
    · exact h.elim
  · rename_i s d x
    obtain ⟨v, hv, h⟩ := o1_out h
    have hex : execOp a.eval { dst := dst, op := .convert s d x, type := type, pos := pos, after := after, guard := guard } = (do pure (.value (← convert s d v))) := by
      simp only [execOp, ha x (by simp [Op.operands]) _ hv]
    split at h
    · rename_i ds b t hs hd
      split at h
      · rename_i hb
        have hg := grownCap_ge w t.size 0 b
        have hk := h (grownCap w t.size 0 b) hg
        let cells : Array Value := (bytesCells t).toArray ++ Array.replicate (grownCap w t.size 0 b - t.size) (.int .u8 0)
        have hsz : cells.size = grownCap w t.size 0 b := by
          simp only [cells, Array.size_append, List.size_toArray, Array.size_replicate]
          have : (bytesCells t).length = t.size := by unfold bytesCells; rw [List.length_map, Array.length_toList]; rfl
          omega
        refine val (v := .slice (some ⟨w.heap.size, 0, none⟩) t.size (grownCap w t.size 0 b)) (w' := w.drew.alloc (.cells cells b (cells.size, cells.size + 1))) ?_ ((Sim.drew w).trans (Sim.alloc _ _)) ?_ hex
        · have e0 : (bytesCells t).toArray = t.data.map (fun b => Value.int .u8 b.toNat) := by
            unfold bytesCells
            apply Array.ext'
            simp
          have hfr : ((w.drew.alloc (.cells cells b)).freeze { block := w.heap.size, off := cells.size } 1) = w.drew.alloc (.cells cells b (cells.size, cells.size + 1)) := by
            unfold World.freeze World.alloc
            simp only [Nat.one_ne_zero, if_false]
            congr 1
            apply Array.ext'
            simp only [World.drew, Array.toList_modify, Array.toList_push]
            apply List.ext_getElem?
            intro j
            rw [List.getElem?_modify]
            by_cases hj : w.heap.size = j
            · subst hj; simp
            · simp [hj]
              rcases Nat.lt_or_ge j w.heap.size with h | h
              · simp [List.getElem?_append, h]
              · have : w.heap.size + 1 ≤ j := by omega
                simp [List.getElem?_append, show ¬ j < w.heap.size by omega, show j - w.heap.size ≠ 0 by omega]
          unfold convert
          rw [Sem.run_bind, r_und hs]
          simp only [Result.andThen]
          rw [Sem.run_bind, r_und hd]
          simp only [Result.andThen]
          have hmain : (Conv.stringToBytes b t).run P w = .ok (.slice (some ⟨w.heap.size, 0, none⟩) t.size (grownCap w t.size 0 b)) (w.drew.alloc (.cells cells b (cells.size, cells.size + 1))) := by
            unfold Conv.stringToBytes
            rw [Sem.run_bind, run_choose]
            simp only [Question.forced, Bool.false_eq_true, if_false, Result.andThen]
            rw [Sem.run_bind]
            have hrow : (newRow b ((t.data.map fun b => Value.int .u8 b.toNat) ++ Array.replicate ((Question.appendCap t.size 0 b).cut (w.tape w.drawn (.appendCap t.size 0 b)) - t.size) (.int .u8 0))).run P { w with drawn := w.drawn + 1 } = .ok ⟨w.heap.size, 0, none⟩ (w.drew.alloc (.cells cells b)) := by
              simp only [cells, e0, grownCap]
              rfl
            rw [hrow]
            simp only [Result.andThen]
            rw [Sem.run_bind]
            have hmark : (markStringish ⟨w.heap.size, 0, none⟩).run P (w.drew.alloc (.cells cells b)) = .ok () (w.drew.alloc (.cells cells b (cells.size, cells.size + 1))) := by
              unfold markStringish
              rw [Sem.run_bind]
              have hsh : (shape w.heap.size).run P (w.drew.alloc (.cells cells b)) = .ok (some (b, cells.size)) (w.drew.alloc (.cells cells b)) := by
                show Result.ok ((w.drew.alloc (.cells cells b)).shape? w.heap.size) _ = _
                congr 1
                unfold World.shape?
                rw [show (w.drew.alloc (.cells cells b)).heap[w.heap.size]? = some (.cells cells b) from by show (w.heap.push _)[w.heap.size]? = _; simp]
              rw [hsh]
              simp only [Result.andThen]
              show Result.ok () ((w.drew.alloc (.cells cells b)).freeze { block := w.heap.size, off := cells.size } 1) = _
              rw [hfr]
            rw [hmark]
            rfl
          rw [Sem.run_bind, r_und hb]
          exact hmain
        · show K _ _
          simp only [heap_alloc, hsz]
          exact hk
      · exact h.elim
    · exact h.elim
  · rename_i args ts
    split at h
    · rename_i x y t u hx ht
      split at h
      · exact h.elim
      · exact h.elim
      · rename_i d hne hu
        obtain ⟨vx, hvx, h⟩ := o1_out h
        obtain ⟨vy, hvy, h⟩ := o1_out h
        have ea : args = #[x, y] := by cases args; simpa using hx
        have et : ts = #[t, u] := by cases ts; simpa using ht
        subst ea et
        obtain ⟨v, w', hr, hs, hk⟩ := appV_out (T := type) hu (fun k e => hne k e) h w rfl
        refine val hr hs hk ?_
        simp only [execOp, resolve, List.map_toArray, List.map_cons, List.map_nil, ha x (by simp [Op.operands, Call.operands]) _ hvx, ha y (by simp [Op.operands, Call.operands]) _ hvy, pure_bind, invoke, builtin]
    · exact h.elim
  · rename_i f args ts
    obtain ⟨vs, hvs, h⟩ := oL_out h
    have ea := Agrees.list hvs (fun y hy => ha y (by simp [Op.operands, Call.operands]; simp at hy; exact .inr hy))
    have ea' : args.map a.eval = vs.toArray := by rw [← ea]; cases args; simp
    simp only [List.nil_append] at h
    unfold callW at h
    split at h
    · rename_i fn hf
      obtain ⟨hb, h⟩ := bif_out h
      have hnum := progOk_num hp hf
      have hr : (execOp a.eval { dst := dst, op := .call { callee := .value (.func f), args := args, argTypes := ts }, type := type, pos := pos, after := after, guard := guard }).run P w = .ok (.enter f vs.toArray) w := by
        have hbn : fn.body.isNone = false := by cases hbb : fn.body <;> simp_all
        simp only [execOp, resolve, ea', Act.eval, Deferred.ofValue, pure_bind, invoke, callFunc, Array.append_empty, Array.empty_append]
        rw [Sem.run_bind, run_program]
        simp only [Result.andThen, hf, hnum, hbn, Bool.false_eq_true, if_false]
        rfl
      unfold Oper.wp
      rw [hr]
      refine (h w rfl).mono ?_
      rintro ending w' ⟨v, rfl, hs, hk⟩
      exact hn v w' hs hk
    · exact h.elim
  · exact h.elim
theorem evWrite_out {o : Oper} {e : Env} {H : Heap} {K : Value → Heap → Prop} {a : Act} (hp : progOk P = true) (h : evWrite P o.op e H K) (ha : Agrees e a.eval o.op.operands.toList)
    (w : World) (hw : w.heap = H) {next : Act → World → Prop} {Q : Exit → Act → World → Prop} (hn : ∀ v w', Sim w w' → K v w'.heap → next (a.put o.dst v) w') : o.wp P a w next Q := by
  rcases h with h | h
  · exact evWrite0_out hp h ha w hw hn
  · exact h o a w _ _ rfl ha hw hn
end
end Go.Ex
/-! Regions: the reckoning's word holds of the machine, whatever the order. -/
namespace Go.Ex

/-- The frame holds what the reckoning takes it to hold. -/
structure Mt (N : Nat) (Ds : List Deferred) (a : Act) (e : Env) : Prop where
  size : a.tmps.size = N
  defers : a.defers = Ds
  val : ∀ t v, e t = some v → a.tmps[t]? = some v

theorem put_some (e : Env) (d : Nat) (v : Value) (t : Nat) : put e (some d) v t = if t = d then some v else e t := by
  unfold put
  simp only
  by_cases h : t = d
  · subst h; simp
  · have : Nat.beq t d = false := by
      cases hb : Nat.beq t d
      · rfl
      · exact absurd (Nat.eq_of_beq_eq_true hb) h
    simp [this, h]
theorem put_none (e : Env) (v : Value) : put e none v = e := rfl
theorem act_put_tmps (a : Act) (d : Nat) (v : Value) : (a.put (some d) v).tmps = a.tmps.setIfInBounds d v := rfl
theorem Mt.put {N : Nat} {Ds : List Deferred} {a : Act} {e : Env} (h : Mt N Ds a e) (d : Option Tmp) (hd : ∀ t, d = some t → t < N) (v : Value) : Mt N Ds (a.put d v) (put e d v) := by
  cases d with
  | none => exact h
  | some d =>
    refine ⟨by rw [act_put_tmps, Array.size_setIfInBounds, h.size], h.defers, fun t u hu => ?_⟩
    rw [act_put_tmps, Array.getElem?_setIfInBounds]
    rw [put_some] at hu
    by_cases ht : t = d
    · subst ht
      rw [if_pos rfl] at hu
      have := hd t rfl
      simp [h.size, this, hu]
    · rw [if_neg ht] at hu
      rw [if_neg (fun e => ht e.symm)]
      exact h.val t u hu
theorem Mt.eval {N : Nat} {Ds : List Deferred} {a : Act} {e : Env} (h : Mt N Ds a e) {x : Operand} {v : Value} (hv : opv e x = some v) : a.eval x = v := by
  cases x with
  | tmp t =>
    have := h.val t v hv
    simp [Act.eval, Array.getD_eq_getD_getElem?, this]
  | const u => simpa [opv, Act.eval] using hv
  | global g => simpa [opv, Act.eval] using hv
  | func f => simpa [opv, Act.eval] using hv
theorem Mt.agrees {N : Nat} {Ds : List Deferred} {a : Act} {e : Env} (h : Mt N Ds a e) (xs : List Operand) : Agrees e a.eval xs := fun _ _ _ hv => h.eval hv
theorem wantedK_spec {ops : Array Oper} {o : Oper} {e : Env} {b : Bool} {tmps : Array Value} (h : wantedK ops o e = some b)
    (hm : ∀ t ∈ guardTmp ops o, ∀ v, e t = some v → tmps[t]? = some v) : Region.wanted o (yielded ops tmps) = b := by
  unfold wantedK at h
  unfold Region.wanted
  split at h
  · rename_i hg
    rw [hg]
    simpa using h
  · rename_i j want hg
    rw [hg]
    simp only
    unfold yielded
    split at h
    · rename_i hj
      rw [hj]
      simp only [Option.bind_none]
      simp only [Option.some.injEq] at h
      subst h
      rfl
    · rename_i d hj
      have hmem : d ∈ guardTmp ops o := by unfold guardTmp; rw [hg]; simp [hj]
      rw [hj]
      simp only [Option.bind_some]
      split at h
      · rename_i c hc
        rw [hm d hmem _ hc]
        simp only [Option.some.injEq] at h
        subst h
        simp
      · rename_i v hne hc
        rw [hm d hmem _ hc]
        simp only [Option.some.injEq] at h
        subst h
        cases v <;> first | exact absurd rfl (hne _) | rfl
      · cases h
theorem splitG_out {g : Bool} {v : Value} {K : Value → Prop} (h : splitG g v K) : K v := by
  unfold splitG at h
  split at h
  · exact h
  · split at h
    · rcases brW_cases h with ⟨rfl, h⟩ | ⟨rfl, h⟩ <;> exact h
    · exact h
theorem dsts_lt {N : Nat} {ops : Array Oper} (h : dstsOk N ops = true) {o : Oper} (ho : o ∈ ops) : ∀ t, o.dst = some t → t < N := by
  unfold dstsOk at h
  have := Array.all_eq_true_iff_forall_mem.1 h o ho
  intro t ht
  rw [ht] at this
  simpa [Nat.blt_eq] using this

/-- What a piece of code leaves of the slots that it does not write. -/
def Keeps (ds : List Nat) (a a' : Act) : Prop := ∀ t, t ∉ ds → a'.tmps[t]? = a.tmps[t]?
theorem Keeps.refl (ds : List Nat) (a : Act) : Keeps ds a a := fun _ _ => rfl
theorem Keeps.trans {ds : List Nat} {a b c : Act} (h : Keeps ds a b) (k : Keeps ds b c) : Keeps ds a c := fun t ht => (k t ht).trans (h t ht)
theorem Keeps.mono {ds ds' : List Nat} {a b : Act} (h : Keeps ds a b) (hs : ∀ t ∈ ds, t ∈ ds') : Keeps ds' a b := fun t ht => h t fun hm => ht (hs t hm)
theorem Keeps.put {ds : List Nat} {a : Act} {d : Option Tmp} (hd : ∀ t, d = some t → t ∈ ds) (v : Value) : Keeps ds a (a.put d v) := by
  intro t ht
  cases d with
  | none => rfl
  | some d =>
    rw [act_put_tmps, Array.getElem?_setIfInBounds, if_neg]
    intro e
    exact ht (e ▸ hd d rfl)
def regDsts (ops : Array Oper) : List Nat := ops.toList.filterMap (·.dst)
theorem mem_regDsts {ops : Array Oper} {o : Oper} (ho : o ∈ ops) : ∀ t, o.dst = some t → t ∈ regDsts ops := by
  intro t ht
  unfold regDsts
  rw [List.mem_filterMap]
  exact ⟨o, by simpa using ho, ht⟩

section
variable {P : Program} {N : Nat} {Ds : List Deferred} {ops : Array Oper} {Q : Exit → Act → World → Prop} {K : Env → Heap → Prop}
theorem evOps_out (hp : progOk P = true) (hN : dstsOk N ops = true) (a₀ : Act) (w₀ : World)
    (hQ : ∀ a' w' e', Mt N Ds a' e' → Sim w₀ w' → Keeps (regDsts ops) a₀ a' → K e' w'.heap → Q .normal a' w') :
    ∀ (l : List Oper) (i : Nat) (e : Env) (a : Act) (w : World), (∀ o ∈ l, o ∈ ops) → evOps P ops l i e w.heap K → Mt N Ds a e → Sim w₀ w → Keeps (regDsts ops) a₀ a → wpList P ops Q l a w
  | [], i, e, a, w, _, h, hm, hs, hk => hQ a w e hm hs hk h
  | o :: rest, i, e, a, w, hl, h, hm, hs, hk => by
    have ho : o ∈ ops := hl o (by simp)
    have hrest : ∀ o ∈ rest, o ∈ ops := fun o' h' => hl o' (by simp [h'])
    have hd := dsts_lt hN ho
    have hkd := mem_regDsts ho
    unfold evOps at h
    split at h
    · exact h.elim
    · rename_i hw
      unfold wpList
      rw [if_neg (by rw [wantedK_spec hw (fun t _ => hm.val t)]; simp)]
      exact evOps_out hp hN a₀ w₀ hQ rest (i + 1) _ _ w hrest h (hm.put _ hd _) hs (hk.trans (Keeps.put hkd _))
    · rename_i hw
      unfold wpList
      rw [if_pos (wantedK_spec hw (fun t _ => hm.val t))]
      refine .inl ?_
      split at h
      · obtain ⟨v, hv, hr⟩ := evPure_out h
        have hv := splitG_out hv
        unfold Oper.wp
        rw [hr a.eval (hm.agrees _) w]
        exact evOps_out hp hN a₀ w₀ hQ rest (i + 1) _ _ w hrest hv (hm.put _ hd _) hs (hk.trans (Keeps.put hkd _))
      · obtain ⟨v, hv, hr⟩ := evRead_out h
        have hv := splitG_out hv
        unfold Oper.wp
        rw [hr a.eval (hm.agrees _) w rfl]
        exact evOps_out hp hN a₀ w₀ hQ rest (i + 1) _ _ w hrest hv (hm.put _ hd _) hs (hk.trans (Keeps.put hkd _))
      · refine evWrite_out hp h (hm.agrees _) w rfl ?_
        intro v w' hs' hv
        exact evOps_out hp hN a₀ w₀ hQ rest (i + 1) _ _ w' hrest (splitG_out hv) (hm.put _ hd _) (hs.trans hs') (hk.trans (Keeps.put hkd _))
end
end Go.Ex
/-! A region that draws its order: one order is reckoned; each other one comes to the same. -/
namespace Go.Ex
abbrev Tr := List (Nat × Value × Env)
def dstO (ops : Array Oper) (i : Nat) : Option Tmp := (ops[i]?).bind (·.dst)
def envT (ops : Array Oper) (S : Nat → Bool) : Tr → Env → Env
  | [], e => e
  | (i, v, _) :: r, e => envT ops S r (if S i = true then put e (dstO ops i) v else e)
def Chain (ops : Array Oper) : Env → Tr → Prop
  | _, [] => True
  | e, (i, v, ei) :: r => ei = e ∧ Chain ops (put e (dstO ops i) v) r
abbrev allS : Nat → Bool := fun _ => true
section
variable {ops : Array Oper}
theorem put_other {e : Env} {d : Option Tmp} {v : Value} {t : Nat} (h : d ≠ some t) : put e d v t = e t := by
  cases d with
  | none => rfl
  | some d => rw [put_some, if_neg (fun e => h (by rw [e]))]
theorem put_same {e : Env} {t : Nat} {v : Value} : put e (some t) v t = some v := by rw [put_some, if_pos rfl]
theorem envT_same {S S' : Nat → Bool} {t : Nat} : ∀ {tr : Tr} {e e' : Env}, e t = e' t → (∀ x ∈ tr, dstO ops x.1 = some t → S x.1 = S' x.1) → envT ops S tr e t = envT ops S' tr e' t
  | [], _, _, h, _ => h
  | (i, v, ei) :: r, e, e', h, hs => by
    unfold envT
    refine envT_same ?_ (fun x hx => hs x (by simp [hx]))
    by_cases hd : dstO ops i = some t
    · rw [hs (i, v, ei) (by simp) hd]
      split
      · rw [hd, put_same, put_same]
      · exact h
    · have e1 : ∀ e : Env, ∀ b : Bool, (if b = true then put e (dstO ops i) v else e) t = e t := by
        intro e b
        split
        · exact put_other hd
        · rfl
      rw [e1, e1, h]
theorem envT_append {S : Nat → Bool} : ∀ {t1 t2 : Tr} {e : Env}, envT ops S (t1 ++ t2) e = envT ops S t2 (envT ops S t1 e)
  | [], _, _ => rfl
  | (i, v, ei) :: r, t2, e => by
    rw [List.cons_append]
    exact envT_append (t1 := r)
theorem envT_skip {S : Nat → Bool} {t : Nat} : ∀ {tr : Tr} {e : Env}, (∀ x ∈ tr, dstO ops x.1 = some t → S x.1 = false) → envT ops S tr e t = e t
  | [], _, _ => rfl
  | (i, v, ei) :: r, e, h => by
    unfold envT
    rw [envT_skip (fun x hx => h x (by simp [hx]))]
    split
    · rename_i hs
      refine put_other fun hd => ?_
      have := h (i, v, ei) (by simp) hd
      simp only at this
      rw [this] at hs
      cases hs
    · rfl
theorem chain_append {t1 t2 : Tr} : ∀ {e : Env}, Chain ops e (t1 ++ t2) ↔ Chain ops e t1 ∧ Chain ops (envT ops allS t1 e) t2 := by
  induction t1 with
  | nil => intro e; simp [Chain, envT]
  | cons x r ih =>
    intro e
    obtain ⟨i, v, ei⟩ := x
    simp only [List.cons_append, Chain, ih, envT, allS, if_true]
    constructor
    · rintro ⟨a, b, c⟩; exact ⟨⟨a, b⟩, c⟩
    · rintro ⟨⟨a, b⟩, c⟩; exact ⟨a, b, c⟩

/-! ### The masks -/
theorem foldl_mask {acc : List Nat} {i : Nat} : ∀ {l : List Edge} {s : Nat},
    (l.foldl (fun s e => bif Region.binds .any e then s ||| 2 ^ e.on ||| acc.getD e.on 0 else s) s).testBit i = true →
    s.testBit i = true ∨ ∃ e ∈ l, Region.binds .any e = true ∧ (i = e.on ∨ (acc.getD e.on 0).testBit i = true)
  | [], s, h => .inl h
  | e :: l, s, h => by
    rw [List.foldl_cons] at h
    rcases foldl_mask h with h | ⟨e', he', hb, h⟩
    · cases hb : Region.binds .any e with
      | false => rw [hb] at h; exact .inl h
      | true =>
        rw [hb] at h
        simp only [cond_true, Nat.testBit_or, Bool.or_eq_true, Nat.testBit_two_pow, decide_eq_true_eq] at h
        rcases h with (h | h) | h
        · exact .inl h
        · exact .inr ⟨e, by simp, hb, .inl h.symm⟩
        · exact .inr ⟨e, by simp, hb, .inr h⟩
    · exact .inr ⟨e', by simp [he'], hb, h⟩
/-- What is listed has all that it asks for listed. -/
def Down (ops : Array Oper) (S : Nat → Bool) : Prop := ∀ i o, ops[i]? = some o → S i = true → ∀ e ∈ o.after.toList, Region.binds .any e = true → S e.on = true
theorem befs_get : ∀ (l : List Oper) (acc : List Nat) (j : Nat), j < acc.length → (befs l acc).getD j 0 = acc.getD j 0
  | [], _, _, _ => rfl
  | o :: l, acc, j, h => by
    unfold befs
    rw [befs_get l _ j (by simp; omega)]
    simp [List.getD_eq_getElem?_getD, List.getElem?_append, h]
theorem befs_down {S : Nat → Bool} (hd : Down ops S) : ∀ (l : List Oper) (acc : List Nat), (∀ k, l[k]? = ops[acc.length + k]?) →
    (∀ j < acc.length, ∀ o, ops[j]? = some o → (∀ e ∈ o.after.toList, Region.binds .any e = true → S e.on = true) → ∀ i, (acc.getD j 0).testBit i = true → S i = true) →
    ∀ j < acc.length + l.length, ∀ o, ops[j]? = some o → (∀ e ∈ o.after.toList, Region.binds .any e = true → S e.on = true) → ∀ i, ((befs l acc).getD j 0).testBit i = true → S i = true
  | [], acc, _, hacc => by simpa [befs] using hacc
  | o :: l, acc, hl, hacc => by
    intro j hj oj hoj hdep i hi
    unfold befs at hi
    have hlen : (acc ++ [edgesMask o acc]).length = acc.length + 1 := by simp
    refine befs_down hd l (acc ++ [edgesMask o acc]) ?_ ?_ j (by rw [hlen]; simp at hj; omega) oj hoj hdep i hi
    · intro k
      rw [hlen]
      have := hl (k + 1)
      rw [List.getElem?_cons_succ] at this
      rw [this]
      congr 1
      omega
    · intro j hj oj hoj hdep i hi
      rw [hlen] at hj
      by_cases hjl : j < acc.length
      · have e : (acc ++ [edgesMask o acc]).getD j 0 = acc.getD j 0 := by simp [List.getD_eq_getElem?_getD, List.getElem?_append, hjl]
        rw [e] at hi
        exact hacc j hjl oj hoj hdep i hi
      · have hje : j = acc.length := by omega
        subst hje
        have e : (acc ++ [edgesMask o acc]).getD acc.length 0 = edgesMask o acc := by simp [List.getD_eq_getElem?_getD]
        rw [e] at hi
        have ho : o = oj := by
          have := hl 0
          simp only [List.getElem?_cons_zero, Nat.add_zero] at this
          rw [hoj] at this
          exact Option.some.inj this
        subst ho
        unfold edgesMask at hi
        rcases foldl_mask hi with h | ⟨e', he', hb, h⟩
        · simp at h
        · have hs := hdep e' he' hb
          rcases h with rfl | h
          · exact hs
          · rcases Nat.lt_or_ge e'.on acc.length with hlt | hge
            · have hex : ∃ o', ops[e'.on]? = some o' := by
                have : acc.length < ops.size := (Array.getElem?_eq_some_iff.1 hoj).1
                exact ⟨ops[e'.on]'(by omega), Array.getElem?_eq_getElem _⟩
              obtain ⟨o', ho'⟩ := hex
              exact hacc e'.on hlt o' ho' (fun e he hbe => hd e'.on o' ho' hs e he hbe) i h
            · rw [List.getD_eq_getElem?_getD, List.getElem?_eq_none hge] at h
              simp at h
theorem mask_down {S : Nat → Bool} (hd : Down ops S) {j : Nat} {o : Oper} (hj : ops[j]? = some o)
    (hdep : ∀ e ∈ o.after.toList, Region.binds .any e = true → S e.on = true) {i : Nat} (hi : ((befs ops.toList []).getD j 0).testBit i = true) : S i = true := by
  refine befs_down hd ops.toList [] (fun k => by simp) (by simp) j ?_ o hj hdep i hi
  have : j < ops.size := (Array.getElem?_eq_some_iff.1 hj).1
  simpa using this

/-! ### The order -/
structure OrdAt (P : Program) (ops : Array Oper) (B : List Nat) (X : Nat → Bool) (l1 : List Nat) (i : Nat) (l2 : List Nat) : Prop where
  ex : ∃ o, ops[i]? = some o
  fresh : i ∉ l1
  deps : ∀ o, ops[i]? = some o → ∀ e ∈ o.after.toList, Region.binds .any e = true → e.on ∈ l1
  write : X i = false → ∀ o, ops[i]? = some o → kindOf P o.op = .write → ∀ j ∈ l2, (B.getD j 0).testBit i = true
  pairs : ∀ o y j, ops[i]? = some o → j ∈ l2 → ops[j]? = some y → meets ops o y = true → (B.getD j 0).testBit i = true
theorem ordOkX_at {P : Program} {B : List Nat} {X : Nat → Bool} : ∀ {l : List Nat} {seen : Nat} {done : List Nat}, ordOkX P ops B X l seen = true → (∀ x, seen.testBit x = true ↔ x ∈ done) →
    ∀ l1 i l2, l = l1 ++ i :: l2 → OrdAt P ops B X (done ++ l1) i l2
  | [], _, _, _, _, l1, i, l2, he => by simp at he
  | k :: rest, seen, done, h, hs, l1, i, l2, he => by
    unfold ordOkX at h
    rw [Bool.and_eq_true] at h
    obtain ⟨h, hr⟩ := h
    cases l1 with
    | nil =>
      simp only [List.nil_append, List.cons.injEq] at he
      obtain ⟨rfl, rfl⟩ := he
      rw [List.append_nil]
      split at h
      · cases h
      · rename_i o ho
        simp only [Bool.and_eq_true] at h
        obtain ⟨⟨⟨h1, h2⟩, h3⟩, h4⟩ := h
        refine ⟨⟨o, ho⟩, ?_, ?_, ?_, ?_⟩
        · intro hm
          rw [(hs k).2 hm] at h1
          cases h1
        · intro o' ho' e he hb
          rw [ho] at ho'
          obtain rfl := Option.some.inj ho'
          have := List.all_eq_true.1 h2 e he
          rw [hb] at this
          exact (hs e.on).1 (by simpa using this)
        · intro hX o' ho' hk j hj
          rw [ho] at ho'
          obtain rfl := Option.some.inj ho'
          rw [hX, hk] at h3
          simp only [beq_self_eq_true, Bool.not_true, Bool.false_or] at h3
          exact List.all_eq_true.1 h3 j hj
        · intro o' y j ho' hj hy hm
          rw [ho] at ho'
          obtain rfl := Option.some.inj ho'
          have := List.all_eq_true.1 h4 j hj
          rw [hy] at this
          simp only [hm, Bool.not_true, Bool.false_or] at this
          exact this
    | cons x l1 =>
      simp only [List.cons_append, List.cons.injEq] at he
      obtain ⟨rfl, he⟩ := he
      have := ordOkX_at (done := done ++ [k]) hr (by
        intro x
        rw [Nat.testBit_or, Bool.or_eq_true, Nat.testBit_two_pow, hs]
        simp only [List.mem_append, List.mem_singleton, decide_eq_true_eq]
        constructor
        · rintro (h | h)
          · exact .inl h
          · exact .inr h.symm
        · rintro (h | h)
          · exact .inl h
          · exact .inr h.symm) l1 i l2 he
      simpa using this
theorem ordOk_X {P : Program} {B : List Nat} : ∀ (l : List Nat) (s : Nat), ordOk P ops B l s = ordOkX P ops B (fun _ => false) l s
  | [], _ => rfl
  | i :: rest, s => by
    unfold ordOk ordOkX
    rw [ordOk_X rest]
    rfl
end
end Go.Ex
namespace Go.Ex
/-- The operation yields this value, wherever the heap is H. -/
def RunsAt (P : Program) (o : Oper) (e : Env) (v : Value) (H : Heap) : Prop :=
  ∀ ρ, Agrees e ρ o.op.operands.toList → ∀ w, w.heap = H → (execOp ρ o).run P w = .ok (.value v) w
/-- What is known of an operation that was reckoned and may still be to come. -/
def Fact (P : Program) (ops : Array Oper) (D : List (Nat × Env × Value)) (x : Nat × Value × Env) : Prop :=
  ∃ o, ops[x.1]? = some o ∧
    ((wantedK ops o x.2.2 = some false ∧ x.2.1 = undef) ∨
     (wantedK ops o x.2.2 = some true ∧ ∀ H, RunsAt P o x.2.2 x.2.1 H) ∨
     (wantedK ops o x.2.2 = some true ∧ (x.1, x.2.2, x.2.1) ∈ D) ∨
     (wantedK ops o x.2.2 = some true ∧ kindOf P o.op = .write))
def HeadOk (P : Program) (ops : Array Oper) (e : Env) (post : List Nat) : Prop :=
  post = [] ∨ ∃ c rest o, post = c :: rest ∧ ops[c]? = some o ∧ kindOf P o.op = .write ∧ wantedK ops o e = some true
section
variable {P : Program} {ops : Array Oper} {A : List Nat → Env → Heap → List (Nat × Env × Value) → Prop} {B : List Nat} {K : Env → Heap → Prop} {H : Heap}
theorem adv (G : Nat → Prop) : ∀ (l : List Nat) (e : Env) (D : List (Nat × Env × Value)), (∀ x ∈ D, G x.1 → ∃ o, ops[x.1]? = some o ∧ RunsAt P o x.2.1 x.2.2 H) → evD P ops B A l e H D K →
    ∃ tr post D', l = tr.map (·.1) ++ post ∧ Chain ops e tr ∧ (∀ x ∈ D, x ∈ D') ∧ (∀ x ∈ D', x ∈ D ∨ x.1 ∈ tr.map (·.1)) ∧ (∀ x ∈ tr, Fact P ops D' x ∧ ∀ o, ops[x.1]? = some o → wantedK ops o x.2.2 = some true → kindOf P o.op ≠ .write) ∧
      (∀ x ∈ D', G x.1 → ∃ o, ops[x.1]? = some o ∧ RunsAt P o x.2.1 x.2.2 H) ∧ evD P ops B A post (envT ops allS tr e) H D' K ∧ HeadOk P ops (envT ops allS tr e) post
  | [], e, D, hD, h => ⟨[], [], D, rfl, trivial, fun _ h => h, fun _ h => .inl h, by simp, hD, h, .inl rfl⟩
  | i :: rest, e, D, hD, h => by
    have h0 := h
    unfold evD at h
    split at h
    · exact h.elim
    · rename_i o ho
      have hdst : dstO ops i = o.dst := by unfold dstO; rw [ho]; rfl
      -- one step by a value
      have step : ∀ (v : Value) (Dn : List (Nat × Env × Value)), (∀ x ∈ D, x ∈ Dn) → (∀ x ∈ Dn, x ∈ D ∨ x.1 = i) → (∀ x ∈ Dn, G x.1 → ∃ o, ops[x.1]? = some o ∧ RunsAt P o x.2.1 x.2.2 H) →
          (∀ D', (∀ x ∈ Dn, x ∈ D') → Fact P ops D' (i, v, e) ∧ ∀ o', ops[i]? = some o' → wantedK ops o' e = some true → kindOf P o'.op ≠ .write) → evD P ops B A rest (put e o.dst v) H Dn K →
          ∃ tr post D', i :: rest = tr.map (·.1) ++ post ∧ Chain ops e tr ∧ (∀ x ∈ D, x ∈ D') ∧ (∀ x ∈ D', x ∈ D ∨ x.1 ∈ tr.map (·.1)) ∧ (∀ x ∈ tr, Fact P ops D' x ∧ ∀ o, ops[x.1]? = some o → wantedK ops o x.2.2 = some true → kindOf P o.op ≠ .write) ∧
            (∀ x ∈ D', G x.1 → ∃ o, ops[x.1]? = some o ∧ RunsAt P o x.2.1 x.2.2 H) ∧ evD P ops B A post (envT ops allS tr e) H D' K ∧ HeadOk P ops (envT ops allS tr e) post := by
        intro v Dn h1 h1' h2 h3 h4
        obtain ⟨tr, post, D', e1, e2, e3, e3', e4, e5, e6, e7⟩ := adv G rest _ Dn h2 h4
        refine ⟨(i, v, e) :: tr, post, D', by rw [e1]; rfl, ⟨rfl, by rw [hdst]; exact e2⟩, fun x hx => e3 x (h1 x hx), ?_, ?_, e5, ?_, ?_⟩
        · intro x hx
          rcases e3' x hx with hx | hx
          · rcases h1' x hx with hx | hx
            · exact .inl hx
            · exact .inr (by simp [hx])
          · exact .inr (by rw [List.map_cons, List.mem_cons]; exact .inr hx)
        · intro x hx
          rcases List.mem_cons.1 hx with rfl | hx
          · exact h3 D' e3
          · exact e4 x hx
        · unfold envT; simp only [allS, if_true, hdst]; exact e6
        · unfold envT; simp only [allS, if_true, hdst]; exact e7
      split at h
      · exact h.elim
      · rename_i hw
        refine step undef D (fun _ h => h) (fun _ h => .inl h) hD (fun D' _ => ⟨⟨o, ho, .inl ⟨hw, rfl⟩⟩, ?_⟩) h
        intro o' ho' hw'
        rw [ho] at ho'
        obtain rfl := Option.some.inj ho'
        rw [hw] at hw'
        cases hw'
      · rename_i hw
        split at h
        · rename_i hk
          obtain ⟨v, hv, hr⟩ := evPure_out h
          refine step v D (fun _ h => h) (fun _ h => .inl h) hD (fun D' _ => ⟨⟨o, ho, .inr (.inl ⟨hw, fun H ρ ha w _ => hr ρ ha w⟩)⟩, ?_⟩) (splitG_out hv)
          intro o' ho' _
          rw [ho] at ho'
          obtain rfl := Option.some.inj ho'
          rw [hk]
          simp
        · rename_i hk
          obtain ⟨v, hv, hr⟩ := evRead_out h
          have hr' : RunsAt P o e v H := hr
          refine step v (D ++ [(i, e, v)]) (fun x hx => by simp [hx]) ?_ ?_ (fun D' hD' => ⟨⟨o, ho, .inr (.inr (.inl ⟨hw, hD' _ (by simp)⟩))⟩, ?_⟩) (splitG_out hv)
          · intro x hx
            simp only [List.mem_append, List.mem_singleton] at hx
            rcases hx with hx | rfl
            · exact .inl hx
            · exact .inr rfl
          · intro x hx
            simp only [List.mem_append, List.mem_singleton] at hx
            rcases hx with hx | rfl
            · exact hD x hx
            · exact fun _ => ⟨o, ho, hr'⟩
          · intro o' ho' _
            rw [ho] at ho'
            obtain rfl := Option.some.inj ho'
            rw [hk]
            simp
        · rename_i hk
          exact ⟨[], i :: rest, D, rfl, trivial, fun _ h => h, fun _ h => .inl h, by simp, hD, h0, .inr ⟨i, rest, o, rfl, ho, hk, hw⟩⟩
theorem stabsK_out {m : Nat} {A : Prop} : ∀ {D : List (Nat × Env × Value)}, stabsK P ops m H D A → A ∧ ∀ x ∈ D, m.testBit x.1 = false → ∃ o, ops[x.1]? = some o ∧ RunsAt P o x.2.1 x.2.2 H
  | [], h => ⟨h, by simp⟩
  | (r, e, v) :: D, h => by
    unfold stabsK at h
    split at h
    · rename_i hb
      obtain ⟨ha, hr⟩ := stabsK_out h
      refine ⟨ha, fun x hx hm => ?_⟩
      rcases List.mem_cons.1 hx with rfl | hx
      · rw [hb] at hm; cases hm
      · exact hr x hx hm
    · obtain ⟨h1, h⟩ := h
      obtain ⟨ha, hr⟩ := stabsK_out h
      refine ⟨ha, fun x hx hm => ?_⟩
      rcases List.mem_cons.1 hx with rfl | hx
      · split at h1
        · rename_i o ho
          obtain ⟨u, rfl, hr⟩ := evRead_out h1
          exact ⟨o, ho, hr⟩
        · exact h1.elim
      · exact hr x hx hm

theorem countP_drop {p q : Nat → Bool} {i : Nat} (hp : p i = true) (hq : q i = false) (hs : ∀ j, j ≠ i → q j = p j) : ∀ {l : List Nat}, l.Nodup → i ∈ l → l.countP p = l.countP q + 1
  | [], _, h => by simp at h
  | x :: l, hn, hm => by
    rw [List.nodup_cons] at hn
    by_cases hx : x = i
    · subst hx
      rw [List.countP_cons, List.countP_cons, hp, hq]
      have : l.countP p = l.countP q := List.countP_congr fun y hy => by
        have hne : y ≠ x := fun e => hn.1 (e ▸ hy)
        rw [hs y hne]
      simp [this]
    · have hm' : i ∈ l := by
        rcases List.mem_cons.1 hm with rfl | h
        · exact absurd rfl hx
        · exact h
      rw [List.countP_cons, List.countP_cons, hs x hx, countP_drop hp hq hs hn.2 hm']
      omega
theorem names_uses {o : Oper} {t : Nat} (h : t ∈ usesOf ops o) : t ∈ namesOf ops o := by unfold namesOf; rw [List.mem_append]; exact .inr h
theorem names_dst {o : Oper} {t : Nat} (h : o.dst = some t) : t ∈ namesOf ops o := by unfold namesOf; rw [List.mem_append, h]; exact .inl (by simp)
theorem meets_of {x y : Oper} {t : Nat} (h : (x.dst = some t ∧ t ∈ namesOf ops y) ∨ (y.dst = some t ∧ t ∈ namesOf ops x)) : meets ops x y = true := by
  unfold meets
  rw [Bool.or_eq_true]
  rcases h with ⟨h1, h2⟩ | ⟨h1, h2⟩
  · exact .inl (by rw [h1]; exact List.any_eq_true.2 ⟨t, h2, by simp⟩)
  · exact .inr (by rw [h1]; exact List.any_eq_true.2 ⟨t, h2, by simp⟩)
theorem uses_op {o : Oper} {t : Nat} (h : Operand.tmp t ∈ o.op.operands.toList) : t ∈ usesOf ops o := by
  unfold usesOf opTmps
  rw [List.mem_append, List.mem_filterMap]
  exact .inr ⟨_, h, rfl⟩
theorem uses_guard {o : Oper} {t : Nat} (h : t ∈ guardTmp ops o) : t ∈ usesOf ops o := by
  unfold usesOf
  rw [List.mem_append]
  exact .inl h
end
end Go.Ex
namespace Go.Ex
section
variable {P : Program} {N : Nat} {Ds : List Deferred} {A : List Nat → Env → Heap → List (Nat × Env × Value) → Prop} {ops : Array Oper} {Q : Exit → Act → World → Prop} {K : Env → Heap → Prop}
abbrev lsS (listed : Array Bool) : Nat → Bool := fun i => listed.getD i false
structure Inv (P : Program) (N : Nat) (Ds : List Deferred) (A : List Nat → Env → Heap → List (Nat × Env × Value) → Prop) (ops : Array Oper) (K : Env → Heap → Prop) (ord : List Nat) (a₀ : Act) (w₀ : World) (e₀ : Env) (listed : Array Bool) (a : Act) (w : World) (tr : Tr) (post : List Nat) (D : List (Nat × Env × Value)) : Prop where
  sz : listed.size = ops.size
  down : Down ops (lsS listed)
  split : ord = tr.map (·.1) ++ post
  chain : Chain ops e₀ tr
  facts : ∀ x ∈ tr, Fact P ops D x ∧ ∀ o, ops[x.1]? = some o → wantedK ops o x.2.2 = some true → kindOf P o.op = .write → lsS listed x.1 = true
  reads : ∀ x ∈ D, lsS listed x.1 = false → ∃ o, ops[x.1]? = some o ∧ RunsAt P o x.2.1 x.2.2 w.heap
  rest : evD P ops (befs ops.toList []) A post (envT ops allS tr e₀) w.heap D K
  head : HeadOk P ops (envT ops allS tr e₀) post
  mt : Mt N Ds a (envT ops (lsS listed) tr e₀)
  lst : ∀ i, lsS listed i = true → i ∈ tr.map (·.1)
  sim : Sim w₀ w
  keeps : Keeps (regDsts ops) a₀ a
theorem exists_first (S : Nat → Bool) : ∀ (l : List Nat), (∀ i ∈ l, S i = true) ∨ ∃ l1 i l2, l = l1 ++ i :: l2 ∧ (∀ j ∈ l1, S j = true) ∧ S i = false
  | [] => .inl (by simp)
  | x :: l => by
    cases hx : S x with
    | false => exact .inr ⟨[], x, l, rfl, by simp, hx⟩
    | true =>
      rcases exists_first S l with h | ⟨l1, i, l2, rfl, h1, h2⟩
      · refine .inl fun i hi => ?_
        rcases List.mem_cons.1 hi with rfl | hi
        · exact hx
        · exact h i hi
      · refine .inr ⟨x :: l1, i, l2, rfl, fun j hj => ?_, h2⟩
        rcases List.mem_cons.1 hj with rfl | hj
        · exact hx
        · exact h1 j hj
theorem ls_set {listed : Array Bool} {i : Nat} (hi : i < listed.size) (j : Nat) : lsS (listed.setIfInBounds i true) j = if j = i then true else lsS listed j := by
  unfold lsS
  rw [Array.getD_eq_getD_getElem?, Array.getD_eq_getD_getElem?, Array.getElem?_setIfInBounds]
  by_cases h : i = j
  · subst h; simp [hi]
  · rw [if_neg h, if_neg (fun e => h e.symm)]
theorem ls_true {listed : Array Bool} {i : Nat} (hi : i < listed.size) : listed.getD i true = lsS listed i := by
  unfold lsS
  rw [Array.getD_eq_getD_getElem?, Array.getD_eq_getD_getElem?, Array.getElem?_eq_getElem hi]
  rfl
theorem agrees_of {e : Env} {a : Act} {o : Oper} (h : ∀ t ∈ namesOf ops o, ∀ u, e t = some u → a.tmps[t]? = some u) : Agrees e a.eval o.op.operands.toList := by
  intro x hx v hv
  cases x with
  | tmp t =>
    have := h t (names_uses (uses_op hx)) v hv
    simp [Act.eval, Array.getD_eq_getD_getElem?, this]
  | const u => simpa [opv, Act.eval] using hv
  | global g => simpa [opv, Act.eval] using hv
  | func f => simpa [opv, Act.eval] using hv

theorem fin_of {X : Nat → Bool} {ord : List Nat} (hat : ∀ l1 i l2, ord = l1 ++ i :: l2 → OrdAt P ops (befs ops.toList []) X l1 i l2)
    {a₀ : Act} {w₀ : World} {e₀ : Env} (hQ : ∀ a' w' e', Mt N Ds a' e' → Sim w₀ w' → Keeps (regDsts ops) a₀ a' → K e' w'.heap → Q .normal a' w')
    {listed : Array Bool} {a : Act} {w : World} (h : ∃ tr post D, Inv P N Ds A ops K ord a₀ w₀ e₀ listed a w tr post D) (hr : Region.ready .any ops listed = []) : Q .normal a w := by
  obtain ⟨tr, post, D, I⟩ := h
  have hS : ∀ i ∈ ord, lsS listed i = true := by
    rcases exists_first (lsS listed) ord with h | ⟨l1, i, l2, he, h1, h2⟩
    · exact h
    · exfalso
      have ho := hat l1 i l2 he
      obtain ⟨o, hio⟩ := ho.ex
      have hlt : i < ops.size := (Array.getElem?_eq_some_iff.1 hio).1
      have : i ∈ Region.ready .any ops listed := by
        unfold Region.ready
        rw [List.mem_filter]
        refine ⟨List.mem_range.2 hlt, ?_⟩
        rw [hio, ls_true (by rw [I.sz]; exact hlt), h2]
        simp only [Bool.not_false, Option.map_some, Option.getD_some, Bool.true_and]
        rw [Array.all_eq_true_iff_forall_mem]
        intro e he'
        cases hb : Region.binds .any e with
        | false => rfl
        | true => exact h1 _ (ho.deps o hio e (by simpa using he') hb)
      rw [hr] at this
      simp at this
  have hpost : post = [] := by
    cases hpc : post with
    | nil => rfl
    | cons c rest =>
      exfalso
      have he : ord = tr.map (·.1) ++ c :: rest := by rw [I.split, hpc]
      have hc := I.lst c (hS c (by rw [he]; simp))
      exact (hat _ c rest he).fresh hc
  have hrest := I.rest
  rw [hpost] at hrest
  refine hQ a w (envT ops allS tr e₀) ?_ I.sim I.keeps hrest
  refine ⟨I.mt.size, I.mt.defers, fun t v hv => I.mt.val t v ?_⟩
  rw [← hv]
  refine envT_same rfl fun x hx _ => ?_
  exact hS x.1 (by rw [I.split]; exact List.mem_append.2 (.inl (List.mem_map.2 ⟨x, hx, rfl⟩)))
theorem step_in (hN : dstsOk N ops = true) {X : Nat → Bool} {ord : List Nat} (hat : ∀ l1 i l2, ord = l1 ++ i :: l2 → OrdAt P ops (befs ops.toList []) X l1 i l2)
    {a₀ : Act} {w₀ : World} {e₀ : Env} {listed : Array Bool} {a : Act} {w : World} {tr : Tr} {post : List Nat} {D : List (Nat × Env × Value)} (I : Inv P N Ds A ops K ord a₀ w₀ e₀ listed a w tr post D) {i : Nat} {o : Oper} (hlt : i < ops.size) (hio : ops[i]? = some o) (hSi : lsS listed i = false)
    (hdep : ∀ e ∈ o.after.toList, Region.binds .any e = true → lsS listed e.on = true) {v : Value} {ei : Env} (hx : (i, v, ei) ∈ tr) :
    Inv P N Ds A ops K ord a₀ w₀ e₀ (listed.setIfInBounds i true) (a.put o.dst v) w tr post D ∧ ∀ Kn : Act → World → Prop, Kn (a.put o.dst v) w → wpOp P ops Q i Kn a w := by
  have hmem : o ∈ ops := Array.mem_of_getElem? hio
  have hdst : dstO ops i = o.dst := by unfold dstO; rw [hio]; rfl
  have hset := fun j => ls_set (listed := listed) (i := i) (by rw [I.sz]; exact hlt) j
  have hdown' : Down ops (lsS (listed.setIfInBounds i true)) := by
    intro j oj hoj hSj e he hb
    rw [hset] at hSj ⊢
    by_cases hji : j = i
    · subst hji
      rw [hio] at hoj
      obtain rfl := Option.some.inj hoj
      split
      · rfl
      · exact hdep e he hb
    · rw [if_neg hji] at hSj
      split
      · rfl
      · exact I.down j oj hoj hSj e he hb
  -- an entry that is reckoned ahead of an operation and meets it is listed where that one is ready
  have ahead : ∀ l1 l2, ord = l1 ++ i :: l2 → ∀ y ∈ l1, ∀ t ∈ namesOf ops o, dstO ops y = some t → lsS listed y = true := by
    intro l1 l2 he y hy t ht hd
    obtain ⟨m1, m2, rfl⟩ := List.append_of_mem hy
    have hoy := hat m1 y (m2 ++ i :: l2) (by rw [he]; simp)
    obtain ⟨oy, hyo⟩ := hoy.ex
    have hdy : oy.dst = some t := by unfold dstO at hd; rw [hyo] at hd; exact hd
    have := hoy.pairs oy o i hyo (by simp) hio (meets_of (.inl ⟨hdy, ht⟩))
    exact mask_down I.down hio hdep this
  have hsz' : (listed.setIfInBounds i true).size = ops.size := by rw [Array.size_setIfInBounds, I.sz]
  have hin : i ∈ tr.map (·.1) := List.mem_map.2 ⟨_, hx, rfl⟩
  obtain ⟨t1, t2, htr⟩ := List.append_of_mem hx
  have hord' : ord = t1.map (·.1) ++ i :: (t2.map (·.1) ++ post) := by rw [I.split, htr]; simp
  have hoi := hat _ _ _ hord'
  have hei : ei = envT ops allS t1 e₀ := by
    have := I.chain
    rw [htr, chain_append] at this
    exact this.2.1
  have behind : ∀ y ∈ t2, ∀ t ∈ namesOf ops o, dstO ops y.1 = some t → lsS listed y.1 = false := by
    intro y hy t ht hd
    cases hSy : lsS listed y.1 with
    | false => rfl
    | true =>
      exfalso
      have hyl : y.1 ∈ t2.map (·.1) ++ post := List.mem_append.2 (.inl (List.mem_map.2 ⟨y, hy, rfl⟩))
      obtain ⟨oy, hyo⟩ : ∃ oy, ops[y.1]? = some oy := by
        unfold dstO at hd
        cases h : ops[y.1]? with
        | none => rw [h] at hd; cases hd
        | some oy => exact ⟨oy, rfl⟩
      have hdy : oy.dst = some t := by unfold dstO at hd; rw [hyo] at hd; exact hd
      have hb := hoi.pairs o oy y.1 hio hyl hyo (meets_of (.inr ⟨hdy, ht⟩))
      have := mask_down I.down hyo (fun e he hbe => I.down y.1 oy hyo hSy e he hbe) hb
      rw [hSi] at this
      cases this
  have hfresh2 : ∀ y ∈ t2, y.1 ≠ i := by
    intro y hy e
    obtain ⟨m1, m2, rfl⟩ := List.append_of_mem hy
    have := (hat (t1.map (·.1) ++ i :: m1.map (·.1)) y.1 (m2.map (·.1) ++ post) (by rw [hord']; simp)).fresh
    apply this
    rw [e]
    simp
  have hslot : ∀ t ∈ namesOf ops o, envT ops (lsS listed) tr e₀ t = ei t := by
    intro t ht
    rw [htr, envT_append, envT_skip, hei]
    · refine envT_same rfl fun y hy hd => ?_
      exact ahead _ _ hord' y.1 (List.mem_map.2 ⟨y, hy, rfl⟩) t ht hd
    · intro y hy hd
      rcases List.mem_cons.1 hy with rfl | hy
      · exact hSi
      · exact behind y hy t ht hd
  have hm : ∀ t ∈ namesOf ops o, ∀ u, ei t = some u → a.tmps[t]? = some u := fun t ht u hu => I.mt.val t u (by rw [hslot t ht]; exact hu)
  have hagr := agrees_of hm
  refine ⟨?_, fun Kn hnext => ?_⟩
  · refine ⟨hsz', hdown', I.split, I.chain, ?_, ?_, I.rest, I.head, ?_, ?_, I.sim, I.keeps.trans (Keeps.put (mem_regDsts hmem) _)⟩
    · intro x hx
      obtain ⟨h1, h2⟩ := I.facts x hx
      refine ⟨h1, fun o' ho' hw' hk' => ?_⟩
      rw [hset]
      split
      · rfl
      · exact h2 o' ho' hw' hk'
    · intro x hx hSx
      rw [hset] at hSx
      split at hSx
      · cases hSx
      · exact I.reads x hx hSx
    · have hput := I.mt.put o.dst (dsts_lt hN hmem) v
      refine ⟨hput.size, hput.defers, fun t u hu => hput.val t u ?_⟩
      by_cases hdt : o.dst = some t
      · rw [hdt, put_same]
        rw [htr, envT_append] at hu
        unfold envT at hu
        rw [hset, if_pos rfl, if_pos rfl, hdst, hdt, envT_skip, put_same] at hu
        · exact hu
        · intro y hy hd
          rw [hset, if_neg (hfresh2 y hy)]
          exact behind y hy t (names_dst hdt) hd
      · rw [put_other hdt, ← hu]
        refine envT_same rfl fun y hy hd => ?_
        rw [hset, if_neg]
        intro e
        rw [e, hdst] at hd
        exact hdt hd
    · intro j hj
      rw [hset] at hj
      split at hj
      · rename_i e; rw [e]; exact hin
      · exact I.lst j hj
  · obtain ⟨⟨o', ho', hf⟩, hwr⟩ := I.facts _ hx
    simp only at ho' hf hwr
    rw [hio] at ho'
    obtain rfl := Option.some.inj ho'
    have hwant : ∀ b, wantedK ops o ei = some b → Region.wanted o (yielded ops a.tmps) = b := fun b hb => wantedK_spec hb fun t ht u hu => hm t (names_uses (uses_guard ht)) u hu
    unfold wpOp
    rw [hio]
    simp only
    rcases hf with ⟨hw, rfl⟩ | ⟨hw, hr⟩ | ⟨hw, hD⟩ | ⟨hw, hk⟩
    · rw [if_neg (by rw [hwant _ hw]; simp)]
      exact hnext
    · rw [if_pos (hwant _ hw)]
      refine .inl ?_
      unfold Oper.wp
      rw [hr w.heap a.eval hagr w rfl]
      exact hnext
    · rw [if_pos (hwant _ hw)]
      refine .inl ?_
      obtain ⟨o', ho', hr⟩ := I.reads _ hD hSi
      simp only at ho' hr
      rw [hio] at ho'
      obtain rfl := Option.some.inj ho'
      unfold Oper.wp
      rw [hr a.eval hagr w rfl]
      exact hnext
    · have := hwr o hio hw hk
      rw [hSi] at this
      cases this
theorem step_head (hp : progOk P = true) (hN : dstsOk N ops = true) {X : Nat → Bool} {ord : List Nat} (hat : ∀ l1 i l2, ord = l1 ++ i :: l2 → OrdAt P ops (befs ops.toList []) X l1 i l2)
    {a₀ : Act} {w₀ : World} {e₀ : Env} {listed : Array Bool} {a : Act} {w : World} {tr : Tr} {rest : List Nat} {D : List (Nat × Env × Value)} {i : Nat} (I : Inv P N Ds A ops K ord a₀ w₀ e₀ listed a w tr (i :: rest) D) {o : Oper} (hlt : i < ops.size) (hio : ops[i]? = some o) (hSi : lsS listed i = false)
    (hdep : ∀ e ∈ o.after.toList, Region.binds .any e = true → lsS listed e.on = true) (hck : kindOf P o.op = .write) (hcw : wantedK ops o (envT ops allS tr e₀) = some true) {Kn : Act → World → Prop}
    (hnext : ∀ v w' tr' post' D', Inv P N Ds A ops K ord a₀ w₀ e₀ (listed.setIfInBounds i true) (a.put o.dst v) w' (tr ++ (i, v, envT ops allS tr e₀) :: tr') post' D' → Kn (a.put o.dst v) w') : wpOp P ops Q i Kn a w := by
  have hmem : o ∈ ops := Array.mem_of_getElem? hio
  have hdst : dstO ops i = o.dst := by unfold dstO; rw [hio]; rfl
  have hset := fun j => ls_set (listed := listed) (i := i) (by rw [I.sz]; exact hlt) j
  have hdown' : Down ops (lsS (listed.setIfInBounds i true)) := by
    intro j oj hoj hSj e he hb
    rw [hset] at hSj ⊢
    by_cases hji : j = i
    · subst hji
      rw [hio] at hoj
      obtain rfl := Option.some.inj hoj
      split
      · rfl
      · exact hdep e he hb
    · rw [if_neg hji] at hSj
      split
      · rfl
      · exact I.down j oj hoj hSj e he hb
  -- an entry that is reckoned ahead of an operation and meets it is listed where that one is ready
  have ahead : ∀ l1 l2, ord = l1 ++ i :: l2 → ∀ y ∈ l1, ∀ t ∈ namesOf ops o, dstO ops y = some t → lsS listed y = true := by
    intro l1 l2 he y hy t ht hd
    obtain ⟨m1, m2, rfl⟩ := List.append_of_mem hy
    have hoy := hat m1 y (m2 ++ i :: l2) (by rw [he]; simp)
    obtain ⟨oy, hyo⟩ := hoy.ex
    have hdy : oy.dst = some t := by unfold dstO at hd; rw [hyo] at hd; exact hd
    have := hoy.pairs oy o i hyo (by simp) hio (meets_of (.inl ⟨hdy, ht⟩))
    exact mask_down I.down hio hdep this
  have hsz' : (listed.setIfInBounds i true).size = ops.size := by rw [Array.size_setIfInBounds, I.sz]
  have hord' : ord = tr.map (·.1) ++ i :: rest := I.split
  have hin : i ∉ tr.map (·.1) := (hat _ _ _ hord').fresh
  have hslot : ∀ t ∈ namesOf ops o, envT ops (lsS listed) tr e₀ t = envT ops allS tr e₀ t := fun t ht =>
    envT_same rfl fun y hy hd => ahead _ _ hord' y.1 (List.mem_map.2 ⟨y, hy, rfl⟩) t ht hd
  have hm : ∀ t ∈ namesOf ops o, ∀ u, envT ops allS tr e₀ t = some u → a.tmps[t]? = some u := fun t ht u hu => I.mt.val t u (by rw [hslot t ht]; exact hu)
  have hrest := I.rest
  unfold evD at hrest
  rw [hio] at hrest
  simp only [hcw, hck] at hrest
  unfold wpOp
  rw [hio]
  simp only
  rw [if_pos (wantedK_spec hcw fun t ht u hu => hm t (names_uses (uses_guard ht)) u hu)]
  refine .inl (evWrite_out hp hrest.1 (agrees_of hm) w rfl ?_)
  intro v w' hs' hv
  obtain ⟨hv, hst⟩ := stabsK_out hv
  have hv := splitG_out hv
  have hD0 : ∀ x ∈ D, lsS (listed.setIfInBounds i true) x.1 = false → ∃ o, ops[x.1]? = some o ∧ RunsAt P o x.2.1 x.2.2 w'.heap := by
    intro x hx hSx
    refine hst x hx ?_
    cases hb : ((befs ops.toList []).getD i 0).testBit x.1 with
    | false => rfl
    | true =>
      have := mask_down I.down hio hdep hb
      rw [hset] at hSx
      split at hSx
      · cases hSx
      · rw [this] at hSx; cases hSx
  obtain ⟨tr', post', D', e1, e2, e3, e3', e4, e5, e6, e7⟩ := adv (fun r => lsS (listed.setIfInBounds i true) r = false) rest _ D hD0 hv
  have hord2 : ord = (tr ++ (i, v, envT ops allS tr e₀) :: tr').map (·.1) ++ post' := by rw [hord', e1]; simp
  have hfresh' : ∀ y ∈ tr', y.1 ∉ tr.map (·.1) ∧ y.1 ≠ i := by
    intro y hy
    obtain ⟨m1, m2, rfl⟩ := List.append_of_mem hy
    have hf := (hat (tr.map (·.1) ++ i :: m1.map (·.1)) y.1 (m2.map (·.1) ++ post') (by rw [hord2]; simp)).fresh
    exact ⟨fun h => hf (by simp at h ⊢; exact .inl h), fun e => hf (by rw [e]; simp)⟩
  have henv : envT ops allS (tr ++ (i, v, envT ops allS tr e₀) :: tr') e₀ = envT ops allS tr' (put (envT ops allS tr e₀) o.dst v) := by
    rw [envT_append]
    conv => lhs; unfold envT
    simp only [allS, if_true, hdst]
  refine hnext v w' tr' post' D' ?_
  refine ⟨hsz', hdown', hord2, ?_, ?_, e5, by rw [henv]; exact e6, by rw [henv]; exact e7, ?_, ?_, I.sim.trans hs', I.keeps.trans (Keeps.put (mem_regDsts hmem) _)⟩
  · rw [chain_append]
    exact ⟨I.chain, rfl, by rw [hdst]; exact e2⟩
  · intro x hx
    rw [List.mem_append, List.mem_cons] at hx
    rcases hx with hx | rfl | hx
    · obtain ⟨⟨o', ho', hf⟩, h2⟩ := I.facts x hx
      refine ⟨⟨o', ho', ?_⟩, fun o' ho' hw' hk' => ?_⟩
      · rcases hf with h | h | h | h
        · exact .inl h
        · exact .inr (.inl h)
        · exact .inr (.inr (.inl ⟨h.1, e3 _ h.2⟩))
        · exact .inr (.inr (.inr h))
      · rw [hset]
        split
        · rfl
        · exact h2 o' ho' hw' hk'
    · refine ⟨⟨o, hio, .inr (.inr (.inr ⟨hcw, hck⟩))⟩, fun _ _ _ _ => ?_⟩
      rw [hset, if_pos rfl]
    · obtain ⟨h1, h2⟩ := e4 x hx
      exact ⟨h1, fun o' ho' hw' hk' => absurd hk' (h2 o' ho' hw')⟩
  · have hput := I.mt.put o.dst (dsts_lt hN hmem) v
    refine ⟨hput.size, hput.defers, fun t u hu => hput.val t u ?_⟩
    rw [envT_append] at hu
    unfold envT at hu
    rw [hset, if_pos rfl, if_pos rfl, hdst, envT_skip] at hu
    · rw [← hu]
      by_cases hdt : o.dst = some t
      · rw [hdt, put_same, put_same]
      · rw [put_other hdt, put_other hdt]
        refine envT_same rfl fun y hy hd => ?_
        rw [hset, if_neg]
        intro e
        exact hin (List.mem_map.2 ⟨y, hy, e⟩)
    · intro y hy hd
      obtain ⟨f1, f2⟩ := hfresh' y hy
      rw [hset, if_neg f2]
      cases hSy : lsS listed y.1 with
      | false => rfl
      | true => exact absurd (I.lst y.1 hSy) f1
  · intro j hj
    rw [hset] at hj
    rw [List.map_append, List.mem_append]
    split at hj
    · rename_i e; rw [e]; exact .inr (by simp)
    · exact .inl (I.lst j hj)
theorem ready_of {listed : Array Bool} {i : Nat} (hsz : listed.size = ops.size) (hi : i ∈ Region.ready .any ops listed) :
    i < ops.size ∧ lsS listed i = false ∧ ∃ o, ops[i]? = some o ∧ ∀ e ∈ o.after.toList, Region.binds .any e = true → lsS listed e.on = true := by
  unfold Region.ready at hi
  rw [List.mem_filter] at hi
  obtain ⟨hir, hi⟩ := hi
  have hlt : i < ops.size := List.mem_range.1 hir
  rw [Bool.and_eq_true, ls_true (by rw [hsz]; exact hlt)] at hi
  obtain ⟨hSi, hdep⟩ := hi
  have hio : ops[i]? = some ops[i] := Array.getElem?_eq_getElem hlt
  rw [hio] at hdep
  simp only [Option.map_some, Option.getD_some, Array.all_eq_true_iff_forall_mem] at hdep
  refine ⟨hlt, by simpa using hSi, ops[i], hio, fun e he hb => ?_⟩
  have := hdep e (by simpa using he)
  rw [hb] at this
  simpa using this
theorem ready_nil {listed : Array Bool} (hsz : listed.size = ops.size) (hc : (List.range ops.size).countP (fun i => !lsS listed i) = 0) : Region.ready .any ops listed = [] := by
  unfold Region.ready
  rw [List.filter_eq_nil_iff]
  intro i hi
  have := (List.countP_eq_zero.1 hc) i hi
  have hlt : i < ops.size := List.mem_range.1 hi
  rw [ls_true (by rw [hsz]; exact hlt)]
  simp only [Bool.not_eq_true', Bool.not_eq_false] at this
  simp [this]
theorem count_set {listed : Array Bool} {i fuel : Nat} (hsz : listed.size = ops.size) (hlt : i < ops.size) (hSi : lsS listed i = false) (hc : (List.range ops.size).countP (fun i => !lsS listed i) = fuel + 1) :
    (List.range ops.size).countP (fun j => !lsS (listed.setIfInBounds i true) j) = fuel := by
  have hset := fun j => ls_set (listed := listed) (i := i) (by rw [hsz]; exact hlt) j
  have := countP_drop (p := fun j => !lsS listed j) (q := fun j => !lsS (listed.setIfInBounds i true) j) (i := i) (by simp [hSi]) (by simp [hset]) (fun j hj => by have hh := hset j; rw [if_neg hj] at hh; rw [hh]) (l := List.range ops.size) List.nodup_range (List.mem_range.2 hlt)
  omega
theorem draw_main (hp : progOk P = true) (hN : dstsOk N ops = true) {X : Nat → Bool} {ord : List Nat} (hat : ∀ l1 i l2, ord = l1 ++ i :: l2 → OrdAt P ops (befs ops.toList []) X l1 i l2) (hall : ∀ i < ops.size, i ∈ ord)
    (a₀ : Act) (w₀ : World) (e₀ : Env) (hQ : ∀ a' w' e', Mt N Ds a' e' → Sim w₀ w' → Keeps (regDsts ops) a₀ a' → K e' w'.heap → Q .normal a' w') :
    ∀ (fuel : Nat) (listed : Array Bool) (a : Act) (w : World), (∃ tr post D, Inv P N Ds A ops K ord a₀ w₀ e₀ listed a w tr post D ∧ ∀ c, X c = true → c ∈ tr.map (·.1)) →
      (List.range ops.size).countP (fun i => !lsS listed i) = fuel → wpAny P .any ops Q fuel listed a w := by
  intro fuel
  induction fuel with
  | zero =>
    rintro listed a w ⟨tr, post, D, I, hX⟩ hc
    have hr := ready_nil I.sz hc
    exact ⟨hr, fin_of hat hQ ⟨tr, post, D, I⟩ hr⟩
  | succ fuel ih =>
    rintro listed a w ⟨tr, post, D, I, hX⟩ hc
    refine ⟨fin_of hat hQ ⟨tr, post, D, I⟩, fun i hi => ?_⟩
    obtain ⟨hlt, hSi, o, hio, hdep⟩ := ready_of I.sz hi
    have hcount := count_set I.sz hlt hSi hc
    by_cases hin : i ∈ tr.map (·.1)
    · obtain ⟨x, hx, hxi⟩ := List.mem_map.1 hin
      obtain ⟨i', v, ei⟩ := x
      simp only at hxi
      subst hxi
      obtain ⟨h1, h2⟩ := step_in (Q := Q) hN hat I hlt hio hSi hdep hx
      exact h2 _ (ih _ _ _ ⟨tr, post, D, h1, hX⟩ hcount)
    · have hipost : i ∈ post := by
        have := hall i hlt
        rw [I.split, List.mem_append] at this
        rcases this with h | h
        · exact absurd h hin
        · exact h
      rcases I.head with hnil | ⟨c, rest, oc, hpc, hco, hck, hcw⟩
      · rw [hnil] at hipost; simp at hipost
      · subst hpc
        have hoc := hat _ _ _ I.split
        have hXc : X c = false := by
          cases h : X c with
          | false => rfl
          | true => exact absurd (hX c h) hoc.fresh
        have hic : i = c := by
          rcases List.mem_cons.1 hipost with h | h
          · exact h
          · exfalso
            have hb := hoc.write hXc oc hco hck i h
            exact hoc.fresh (I.lst c (mask_down I.down hio hdep hb))
        subst hic
        rw [hio] at hco
        obtain rfl := Option.some.inj hco
        refine step_head hp hN hat I hlt hio hSi hdep hck hcw fun v w' tr' post' D' I' => ih _ _ _ ⟨_, post', D', I', fun c hc => ?_⟩ hcount
        rw [List.map_append, List.mem_append]
        exact .inl (hX c hc)
theorem draw_two (hp : progOk P = true) (hN : dstsOk N ops = true) {p r s : List Nat} {c d : Nat} {oc od : Oper} (hat1 : ∀ l1 i l2, p ++ c :: r = l1 ++ i :: l2 → OrdAt P ops (befs ops.toList []) (Nat.beq c) l1 i l2) (hat2 : ∀ l1 i l2, p ++ d :: s = l1 ++ i :: l2 → OrdAt P ops (befs ops.toList []) (Nat.beq d) l1 i l2)
    (hall1 : ∀ i < ops.size, i ∈ p ++ c :: r) (hall2 : ∀ i < ops.size, i ∈ p ++ d :: s) (hrd : ∀ j ∈ r, j = d ∨ ((befs ops.toList []).getD j 0).testBit c = true ∨ ((befs ops.toList []).getD j 0).testBit d = true)
    (hco : ops[c]? = some oc) (hck : kindOf P oc.op = .write) (hcg : oc.guard = none) (hdo : ops[d]? = some od) (hdk : kindOf P od.op = .write) (hdg : od.guard = none)
    (a₀ : Act) (w₀ : World) (e₀ : Env) (hQ : ∀ a' w' e', Mt N Ds a' e' → Sim w₀ w' → Keeps (regDsts ops) a₀ a' → K e' w'.heap → Q .normal a' w') :
    ∀ (fuel : Nat) (listed : Array Bool) (a : Act) (w : World), (∃ tr, tr.map (·.1) = p ∧ Inv P N Ds A ops K (p ++ c :: r) a₀ w₀ e₀ listed a w tr (c :: r) [] ∧ Inv P N Ds A ops K (p ++ d :: s) a₀ w₀ e₀ listed a w tr (d :: s) []) →
      (List.range ops.size).countP (fun i => !lsS listed i) = fuel → wpAny P .any ops Q fuel listed a w := by
  have bare : ∀ {o : Oper} (e : Env), o.guard = none → wantedK ops o e = some true := fun e h => by unfold wantedK; rw [h]
  intro fuel
  induction fuel with
  | zero =>
    rintro listed a w ⟨tr, htr, I, J⟩ hc
    have hr := ready_nil I.sz hc
    exact ⟨hr, fin_of hat1 hQ ⟨tr, _, _, I⟩ hr⟩
  | succ fuel ih =>
    rintro listed a w ⟨tr, htr, I, J⟩ hc
    refine ⟨fin_of hat1 hQ ⟨tr, _, _, I⟩, fun i hi => ?_⟩
    obtain ⟨hlt, hSi, o, hio, hdep⟩ := ready_of I.sz hi
    have hcount := count_set I.sz hlt hSi hc
    by_cases hin : i ∈ tr.map (·.1)
    · obtain ⟨x, hx, hxi⟩ := List.mem_map.1 hin
      obtain ⟨i', v, ei⟩ := x
      simp only at hxi
      subst hxi
      obtain ⟨h1, h2⟩ := step_in (Q := Q) hN hat1 I hlt hio hSi hdep hx
      obtain ⟨h3, _⟩ := step_in (Q := Q) hN hat2 J hlt hio hSi hdep hx
      exact h2 _ (ih _ _ _ ⟨tr, htr, h1, h3⟩ hcount)
    · by_cases hic : i = c
      · subst hic
        rw [hio] at hco
        obtain rfl := Option.some.inj hco
        refine step_head hp hN hat1 I hlt hio hSi hdep hck (bare _ hcg) fun v w' tr' post' D' I' => draw_main hp hN hat1 hall1 a₀ w₀ e₀ hQ _ _ _ _ ⟨_, post', D', I', fun c hc => ?_⟩ hcount
        obtain rfl := Nat.eq_of_beq_eq_true hc
        simp
      · by_cases hid : i = d
        · subst hid
          rw [hio] at hdo
          obtain rfl := Option.some.inj hdo
          refine step_head hp hN hat2 J hlt hio hSi hdep hdk (bare _ hdg) fun v w' tr' post' D' I' => draw_main hp hN hat2 hall2 a₀ w₀ e₀ hQ _ _ _ _ ⟨_, post', D', I', fun c hc => ?_⟩ hcount
          obtain rfl := Nat.eq_of_beq_eq_true hc
          simp
        · exfalso
          have h := hall1 i hlt
          rw [List.mem_append, List.mem_cons] at h
          rcases h with h | h | h
          · rw [htr] at hin; exact hin h
          · exact hic h
          · rcases hrd i h with h | h | h
            · exact hid h
            · exact (hat1 p c r rfl).fresh (by rw [← htr]; exact I.lst c (mask_down I.down hio hdep h))
            · exact (hat2 p d s rfl).fresh (by rw [← htr]; exact J.lst d (mask_down J.down hio hdep h))
theorem ls_none (n : Nat) (i : Nat) : lsS (Array.replicate n false) i = false := by
  unfold lsS
  rw [Array.getD_eq_getD_getElem?, Array.getElem?_replicate]
  split <;> rfl
theorem count_none (n : Nat) : (List.range n).countP (fun i => !lsS (Array.replicate n false) i) = n := by
  rw [List.countP_eq_length.2]
  · simp
  · intro i _
    rw [ls_none]
    rfl
theorem all_mem {l : List Nat} (h : allIn ops l = true) : ∀ i < ops.size, i ∈ l := fun i hi => by
  have := List.all_eq_true.1 h i (List.mem_range.2 hi)
  obtain ⟨j, hj, hb⟩ := List.any_eq_true.1 this
  rw [Nat.eq_of_beq_eq_true hb]
  exact hj
theorem inv0 {ord post : List Nat} {tr : Tr} {D : List (Nat × Env × Value)} {a₀ : Act} {w₀ w : World} {e₀ : Env} (e1 : ord = tr.map (·.1) ++ post) (e2 : Chain ops e₀ tr) (e4 : ∀ x ∈ tr, Fact P ops D x ∧ ∀ o, ops[x.1]? = some o → wantedK ops o x.2.2 = some true → kindOf P o.op ≠ .write)
    (e5 : ∀ x ∈ D, ∃ o, ops[x.1]? = some o ∧ RunsAt P o x.2.1 x.2.2 w.heap) (e6 : evD P ops (befs ops.toList []) A post (envT ops allS tr e₀) w.heap D K) (e7 : HeadOk P ops (envT ops allS tr e₀) post) (hm : Mt N Ds a₀ e₀) (hs : Sim w₀ w) :
    Inv P N Ds A ops K ord a₀ w₀ e₀ (Array.replicate ops.size false) a₀ w tr post D := by
  refine ⟨by simp, ?_, e1, e2, ?_, fun x hx _ => e5 x hx, e6, e7, ?_, ?_, hs, Keeps.refl _ _⟩
  · intro i o _ hS
    rw [ls_none] at hS
    cases hS
  · intro x hx
    obtain ⟨h1, h2⟩ := e4 x hx
    exact ⟨h1, fun o' ho' hw' hk' => absurd hk' (h2 o' ho' hw')⟩
  · refine ⟨hm.size, hm.defers, fun t v hv => hm.val t v ?_⟩
    rw [envT_skip (fun x _ _ => ls_none _ x.1)] at hv
    exact hv
  · intro i hi
    rw [ls_none] at hi
    cases hi
theorem evD_out (hp : progOk P = true) (hN : dstsOk N ops = true) {ord : List Nat} (hord : drawOk P ops (befs ops.toList []) ord = true)
    (a₀ : Act) (w₀ w : World) (e₀ : Env) (hQ : ∀ a' w' e', Mt N Ds a' e' → Sim w₀ w' → Keeps (regDsts ops) a₀ a' → K e' w'.heap → Q .normal a' w')
    (h : evD P ops (befs ops.toList []) A ord e₀ w.heap [] K) (hm : Mt N Ds a₀ e₀) (hs : Sim w₀ w) :
    wpAny P .any ops Q ops.size (Array.replicate ops.size false) a₀ w := by
  unfold drawOk at hord
  rw [Bool.and_eq_true] at hord
  obtain ⟨hall, hord⟩ := hord
  rw [ordOk_X] at hord
  have hat : ∀ l1 i l2, ord = l1 ++ i :: l2 → OrdAt P ops (befs ops.toList []) (fun _ => false) l1 i l2 := fun l1 i l2 he => by
    have := ordOkX_at (done := []) hord (by simp) l1 i l2 he
    simpa using this
  obtain ⟨tr, post, D, e1, e2, e3, e3', e4, e5, e6, e7⟩ := adv (fun _ => True) ord e₀ [] (by simp) h
  exact draw_main hp hN hat (all_mem hall) a₀ w₀ e₀ hQ ops.size _ a₀ w ⟨tr, post, D, inv0 e1 e2 e4 (fun x hx => e5 x hx trivial) e6 e7 hm hs, fun c hc => by cases hc⟩ (count_none _)
theorem advP {B : List Nat} {H : Heap} : ∀ (l : List Nat) (e : Env), (∀ i ∈ l, plainOp P ops i = true) → evD P ops B A l e H [] K →
    ∃ tr : Tr, l = tr.map (·.1) ∧ Chain ops e tr ∧ (∀ x ∈ tr, Fact P ops [] x ∧ ∀ o, ops[x.1]? = some o → wantedK ops o x.2.2 = some true → kindOf P o.op ≠ .write) ∧ K (envT ops allS tr e) H
  | [], e, _, h => ⟨[], rfl, trivial, by simp, h⟩
  | i :: rest, e, hl, h => by
    have hpl := hl i (by simp)
    unfold plainOp at hpl
    unfold evD at h
    split at h
    · exact h.elim
    · rename_i o ho
      rw [ho] at hpl
      have hk : kindOf P o.op = .pure := by simpa using hpl
      have hdst : dstO ops i = o.dst := by unfold dstO; rw [ho]; rfl
      have step : ∀ v : Value, Fact P ops [] (i, v, e) → evD P ops B A rest (put e o.dst v) H [] K →
          ∃ tr : Tr, i :: rest = tr.map (·.1) ∧ Chain ops e tr ∧ (∀ x ∈ tr, Fact P ops [] x ∧ ∀ o, ops[x.1]? = some o → wantedK ops o x.2.2 = some true → kindOf P o.op ≠ .write) ∧ K (envT ops allS tr e) H := by
        intro v hf hv
        obtain ⟨tr, e1, e2, e3, e4⟩ := advP rest _ (fun j hj => hl j (by simp [hj])) hv
        refine ⟨(i, v, e) :: tr, by rw [e1]; rfl, ⟨rfl, by rw [hdst]; exact e2⟩, ?_, ?_⟩
        · intro x hx
          rcases List.mem_cons.1 hx with rfl | hx
          · refine ⟨hf, fun o' ho' _ => ?_⟩
            rw [ho] at ho'
            obtain rfl := Option.some.inj ho'
            rw [hk]
            simp
          · exact e3 x hx
        · unfold envT; simp only [allS, if_true, hdst]; exact e4
      split at h
      · exact h.elim
      · rename_i hw
        exact step undef ⟨o, ho, .inl ⟨hw, rfl⟩⟩ h
      · rename_i hw
        rw [hk] at h
        obtain ⟨v, hv, hr⟩ := evPure_out h
        exact step v ⟨o, ho, .inr (.inl ⟨hw, fun H ρ ha w _ => hr ρ ha w⟩)⟩ (splitG_out hv)
theorem splitTwo_eq : ∀ (l m p x y : List Nat), splitTwo l m = (p, x, y) → l = p ++ x ∧ m = p ++ y
  | [], m, p, x, y, h => by
    unfold splitTwo at h
    cases h
    exact ⟨rfl, rfl⟩
  | a :: l, [], p, x, y, h => by
    unfold splitTwo at h
    cases h
    exact ⟨rfl, rfl⟩
  | a :: l, b :: m, p, x, y, h => by
    unfold splitTwo at h
    cases hb : Nat.beq a b <;> rw [hb] at h <;> simp only [cond_true, cond_false] at h
    · cases h
      exact ⟨rfl, rfl⟩
    · obtain rfl := Nat.eq_of_beq_eq_true hb
      cases hs : splitTwo l m with
      | mk p' xy =>
        obtain ⟨x', y'⟩ := xy
        rw [hs] at h
        cases h
        obtain ⟨h1, h2⟩ := splitTwo_eq l m _ _ _ hs
        exact ⟨by rw [h1]; rfl, by rw [h2]; rfl⟩
end
end Go.Ex
/-! A region that draws its order, in which one new variable (or row) may be laid at any time. -/
namespace Go.Ex
section
variable {P : Program} {N : Nat} {Ds : List Deferred} {ops : Array Oper} {Q : Exit → Act → World → Prop} {K : Env → Heap → Prop}
/-- The one that floats is done now. -/
def AF (P : Program) (ops : Array Oper) (K : Env → Heap → Prop) (d : Nat) (l : List Nat) (e : Env) (H : Heap) (D : List (Nat × Env × Value)) : Prop :=
  d ∈ l → evD P ops (befs ops.toList []) (fun _ _ _ _ => True) (d :: l.erase d) e H D K
theorem draw_float (hp : progOk P = true) (hN : dstsOk N ops = true) {X : Nat → Bool} {ord : List Nat} {d : Nat} {od : Oper} (hat : ∀ l1 i l2, ord = l1 ++ i :: l2 → OrdAt P ops (befs ops.toList []) X l1 i l2) (hall : ∀ i < ops.size, i ∈ ord)
    (hdo : ops[d]? = some od) (hdk : kindOf P od.op = .write) (hdg : od.guard = none)
    (hXd : ∀ l1 l2, ord = l1 ++ d :: l2 → ∀ c, X c = true → c ∈ l1)
    (hXw : ∀ l1 c l2, ord = l1 ++ c :: l2 → X c = true → ∀ j ∈ l2, j = d ∨ ((befs ops.toList []).getD j 0).testBit c = true)
    (hcut : ∀ tr c rest oc, ord = tr ++ c :: rest → d ∈ rest → ops[c]? = some oc → kindOf P oc.op = .write →
      (∀ l1 i l2, tr ++ d :: (c :: rest).erase d = l1 ++ i :: l2 → OrdAt P ops (befs ops.toList []) (fun i => Nat.beq d i || tr.any (Nat.beq i)) l1 i l2))
    (a₀ : Act) (w₀ : World) (e₀ : Env) (hQ : ∀ a' w' e', Mt N Ds a' e' → Sim w₀ w' → Keeps (regDsts ops) a₀ a' → K e' w'.heap → Q .normal a' w') :
    ∀ (fuel : Nat) (listed : Array Bool) (a : Act) (w : World), (∃ tr post D, Inv P N Ds (AF P ops K d) ops K ord a₀ w₀ e₀ listed a w tr post D ∧ d ∈ post) →
      (List.range ops.size).countP (fun i => !lsS listed i) = fuel → wpAny P .any ops Q fuel listed a w := by
  have bare : ∀ (e : Env), wantedK ops od e = some true := fun e => by unfold wantedK; rw [hdg]
  intro fuel
  induction fuel with
  | zero =>
    rintro listed a w ⟨tr, post, D, I, hX⟩ hc
    have hr := ready_nil I.sz hc
    exact ⟨hr, fin_of hat hQ ⟨tr, post, D, I⟩ hr⟩
  | succ fuel ih =>
    rintro listed a w ⟨tr, post, D, I, hdp⟩ hc
    refine ⟨fin_of hat hQ ⟨tr, post, D, I⟩, fun i hi => ?_⟩
    obtain ⟨hlt, hSi, o, hio, hdep⟩ := ready_of I.sz hi
    have hcount := count_set I.sz hlt hSi hc
    have hdtr : d ∉ tr.map (·.1) := by
      obtain ⟨m1, m2, rfl⟩ := List.append_of_mem hdp
      have := (hat (tr.map (·.1) ++ m1) d m2 (by rw [I.split]; simp)).fresh
      exact fun h => this (List.mem_append.2 (.inl h))
    have hSd : lsS listed d = false := by
      cases h : lsS listed d with
      | false => rfl
      | true => exact absurd (I.lst d h) hdtr
    by_cases hin : i ∈ tr.map (·.1)
    · obtain ⟨x, hx, hxi⟩ := List.mem_map.1 hin
      obtain ⟨i', v, ei⟩ := x
      simp only at hxi
      subst hxi
      obtain ⟨h1, h2⟩ := step_in (Q := Q) hN hat I hlt hio hSi hdep hx
      exact h2 _ (ih _ _ _ ⟨tr, post, D, h1, hdp⟩ hcount)
    · have hipost : i ∈ post := by
        have := hall i hlt
        rw [I.split, List.mem_append] at this
        rcases this with h | h
        · exact absurd h hin
        · exact h
      rcases I.head with hnil | ⟨c, rest, oc, hpc, hco, hck, hcw⟩
      · rw [hnil] at hipost; simp at hipost
      · subst hpc
        have hoc := hat _ _ _ I.split
        by_cases hic : i = c
        · subst hic
          rw [hio] at hco
          obtain rfl := Option.some.inj hco
          by_cases hid : i = d
          · subst hid
            refine step_head hp hN hat I hlt hio hSi hdep hck hcw fun v w' tr' post' D' I' => draw_main hp hN hat hall a₀ w₀ e₀ hQ _ _ _ _ ⟨_, post', D', I', fun c hc => ?_⟩ hcount
            rw [List.map_append, List.mem_append]
            exact .inl (hXd _ _ I.split c hc)
          · refine step_head hp hN hat I hlt hio hSi hdep hck hcw fun v w' tr' post' D' I' => ih _ _ _ ⟨_, post', D', I', ?_⟩ hcount
            have hdo' : d ∈ ord := hall d (Array.getElem?_eq_some_iff.1 hdo).1
            rw [I'.split, List.mem_append] at hdo'
            rcases hdo' with h | h
            · exfalso
              obtain ⟨x, hx, hxd⟩ := List.mem_map.1 h
              obtain ⟨xd, xv, xe⟩ := x
              simp only at hxd
              subst hxd
              have hl := (I'.facts _ hx).2 od hdo (bare _) hdk
              rw [ls_set (by rw [I.sz]; exact hlt), if_neg (fun e => hid e.symm), hSd] at hl
              cases hl
            · exact h
        · by_cases hid : i = d
          · subst hid
            rw [hio] at hdo
            obtain rfl := Option.some.inj hdo
            have hir : i ∈ rest := by
              rcases List.mem_cons.1 hdp with h | h
              · exact absurd h hic
              · exact h
            have hat2 := hcut (tr.map (·.1)) c rest oc I.split hir hco hck
            have hrest := I.rest
            unfold evD at hrest
            rw [hco] at hrest
            simp only [hcw, hck] at hrest
            have hJ : Inv P N Ds (fun _ _ _ _ => True) ops K (tr.map (·.1) ++ i :: (c :: rest).erase i) a₀ w₀ e₀ listed a w tr (i :: (c :: rest).erase i) D :=
              ⟨I.sz, I.down, rfl, I.chain, I.facts, I.reads, hrest.2 hdp, .inr ⟨i, _, o, rfl, hio, hdk, bare _⟩, I.mt, I.lst, I.sim, I.keeps⟩
            refine step_head hp hN hat2 hJ hlt hio hSi hdep hdk (bare _) fun v w' tr' post' D' I' => draw_main hp hN hat2 (fun j hj => ?_) a₀ w₀ e₀ hQ _ _ _ _ ⟨_, post', D', I', fun c hc => ?_⟩ hcount
            · have := hall j hj
              rw [I.split, List.mem_append] at this
              rw [List.mem_append, List.mem_cons]
              rcases this with h | h
              · exact .inl h
              · by_cases hji : j = i
                · exact .inr (.inl hji)
                · exact .inr (.inr ((List.mem_erase_of_ne hji).2 h))
            · rw [Bool.or_eq_true] at hc
              rcases hc with hc | hc
              · obtain rfl := Nat.eq_of_beq_eq_true hc
                simp
              · obtain ⟨y, hy, hb⟩ := List.any_eq_true.1 hc
                obtain rfl := Nat.eq_of_beq_eq_true hb
                rw [List.map_append, List.mem_append]
                exact .inl hy
          · exfalso
            have hir : i ∈ rest := by
              rcases List.mem_cons.1 hipost with h | h
              · exact absurd h hic
              · exact h
            have hb : ((befs ops.toList []).getD i 0).testBit c = true := by
              cases hX : X c with
              | false => exact hoc.write hX oc hco hck i hir
              | true =>
                rcases hXw _ _ _ I.split hX i hir with h | h
                · exact absurd h hid
                · exact h
            exact hoc.fresh (I.lst c (mask_down I.down hio hdep hb))
end
end Go.Ex
