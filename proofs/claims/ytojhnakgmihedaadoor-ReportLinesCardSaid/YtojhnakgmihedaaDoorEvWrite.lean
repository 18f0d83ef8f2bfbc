import Derived.Test.YtojhnakgmihedaaDoorEvMem
namespace Go.Ev
section
variable {P : Program}
theorem resSh_out : ∀ {ts : List TypeId} {acc : List Value} {K : Value → Prop}, resSh P ts acc K → ∃ v, K v
  | [], _, _, h => ⟨_, h⟩
  | _ :: _, _, _, h => by
    obtain ⟨v, h⟩ := exSh_out (show exSh _ _ from h)
    exact resSh_out h
theorem resW_out {ts : List TypeId} {v : Value} {K : Value → Prop} (h : resW P ts v K) : K v := by
  unfold resW at h
  split at h
  · obtain ⟨u, rfl, h⟩ := exSh_out h; exact h
  · obtain ⟨u, rfl, h⟩ := resSh_out h; exact h
theorem bif_out {b : Bool} {A : Prop} (h : bif b then A else False) : b = true ∧ A := by cases b <;> simp_all
theorem heap_alloc (w : World) (o : Obj) : (w.alloc o).heap = w.heap.push o := rfl
theorem run_newVar (t : TypeId) (v : Value) (w : World) : (newVar t v).run P w = .ok ⟨w.heap.size, 0, none⟩ (w.alloc (.cells v.cells t)) := by
  unfold newVar newRow newObj
  rfl
theorem flatten_zeros (z : List Value) (n : Nat) (size : Nat) (hs : z.length = size) :
    ((List.replicate n z).flatten).toArray = (Array.range (n * size)).map fun i => z.toArray[i % z.toArray.size]! := by
  apply Array.ext'
  simp only [Array.toList_map, Array.toList_range, List.size_toArray]
  induction n with
  | zero => simp
  | succ n ih =>
    rw [List.replicate_succ, List.flatten_cons, ih, Nat.succ_mul, Nat.add_comm (n * size) size, List.range_add, List.map_append, List.map_map]
    congr 1
    · apply List.ext_getElem
      · simp [hs]
      · intro i h1 h2
        simp only [List.getElem_map, List.getElem_range]
        have : i < size := by omega
        rw [Nat.mod_eq_of_lt (by omega), getElem!_pos z.toArray i (by simpa using h1)]
        simp
    · apply List.map_congr_left
      intro i _
      simp only [Function.comp]
      rw [hs, Nat.add_mod_left]
theorem progOk_num (hp : progOk P = true) {f : FuncId} {fn : Func} (hf : P.funcs[f]? = some fn) : (fn.name == "runtime.NumGoroutine") = false := by
  unfold progOk at hp
  simp only [Bool.and_eq_true] at hp
  obtain ⟨h1, rfl⟩ := Array.getElem?_eq_some_iff.1 hf
  have := Array.all_eq_true.1 hp.2 f h1
  simpa using this
theorem evWrite_out {o : Oper} {e : Env} {H : Heap} {K : Value → Heap → Prop} {a : Act} (hp : progOk P = true) (h : evWrite P o.op e H K) (ha : Agrees e a.eval o.op.operands.toList)
    (w : World) (hw : w.heap = H) {next : Act → World → Prop} {Q : Exit → Act → World → Prop} (hn : ∀ v w', Sim w w' → K v w'.heap → next (a.put o.dst v) w') : o.wp P a w next Q := by
  have val : ∀ {s : Sem Value} {v : Value} {w' : World}, s.run P w = .ok v w' → Sim w w' → K v w'.heap → (execOp a.eval o = do pure (.value (← s))) → o.wp P a w next Q := by
    intro s v w' hr hs hk he
    unfold Oper.wp
    rw [he, Sem.run_bind, hr]
    exact hn v w' hs hk
  have unit : ∀ {s : Sem Unit} {w' : World}, s.run P w = .ok () w' → Sim w w' → K undef w'.heap → (execOp a.eval o = do s; pure .skip) → o.wp P a w next Q := by
    intro s w' hr hs hk he
    unfold Oper.wp
    rw [he, Sem.run_bind, hr]
    exact hn undef w' hs hk
  subst hw
  obtain ⟨dst, op, type, pos, after, guard⟩ := o
  simp only at h ha
  unfold evWrite at h
  split at h
  · rename_i t x y
    obtain ⟨v, hv, h⟩ := o1_out h
    obtain ⟨u, hu, h⟩ := o1_out h
    have hex : execOp a.eval { dst := dst, op := .store t x y, type := type, pos := pos, after := after, guard := guard } = (do Instr.storeAt t v u; pure .skip) := by
      simp only [execOp, ha x (by simp [Op.operands]) _ hv, ha y (by simp [Op.operands]) _ hu]
    split at h
    · rename_i ad _
      split at h
      · rename_i hag
        split at h
        · rename_i cs
          obtain ⟨hb, h⟩ := bif_out h
          simp only [Bool.and_eq_true] at hb
          obtain ⟨i, hi⟩ := Option.isSome_iff_exists.1 hb.2
          have hsz : cs.size = i.size := by have := Nat.eq_of_beq_eq_true hb.1; simpa [sizeT, hi] using this
          obtain ⟨w', hr, hs, hk⟩ := stCs_out (P := P) h w rfl
          refine unit ?_ hs hk hex
          unfold Instr.storeAt storeVar
          rw [Sem.run_bind, show (Instr.sureAddr (.pointer (some ad))).run P w = .ok ad w from rfl]
          simp only [Result.andThen]
          rw [Sem.run_bind, r_size hi]
          simp [Value.cells, hsz, hr]
        · exact h.elim
      · rename_i hag
        obtain ⟨hb, h⟩ := bif_out h
        simp only [Bool.and_eq_true] at hb
        obtain ⟨i, hi⟩ := Option.isSome_iff_exists.1 hb.2
        have hsz : 1 = i.size := by have := Nat.eq_of_beq_eq_true hb.1; simpa [sizeT, hi] using this
        obtain ⟨hk, hc, hr⟩ := stC_out (P := P) h
        refine unit ?_ (Sim.setCell w _ _) (by rw [setCell_heap]; exact hk) hex
        unfold Instr.storeAt storeVar
        rw [Sem.run_bind, show (Instr.sureAddr (.pointer (some ad))).run P w = .ok ad w from rfl]
        simp only [Result.andThen]
        rw [Sem.run_bind, r_size hi]
        simp [hc, ← hsz, storeCells, add_zero, hr w rfl]
    · exact h.elim
  · rename_i t
    obtain ⟨i, z, hi, hz, h, hzr⟩ := zeroT_out h
    refine val (s := Instr.alloc t true (.tuple #[])) (v := .pointer (some ⟨w.heap.size, 0, none⟩)) (w' := w.alloc (.cells z.cells t)) ?_ (Sim.alloc _ _) (by rw [heap_alloc, cellsV_eq]; exact h) rfl
    unfold Instr.alloc
    rw [Sem.run_bind, hzr]
    simp only [Result.andThen]
    rw [Sem.run_bind, run_newVar]
    rfl
  · rename_i t x
    obtain ⟨v, hv, h⟩ := o1_out h
    have hex : execOp a.eval { dst := dst, op := .box t x, type := type, pos := pos, after := after, guard := guard } = (do pure (.value (← Instr.box t v))) := by
      simp only [execOp, ha x (by simp [Op.operands]) _ hv]
    have hr : (Instr.box t v).run P w = .ok (.pointer (some ⟨w.heap.size, 0, none⟩)) (w.alloc (.cells v.cells t)) := by
      unfold Instr.box
      rw [Sem.run_bind, run_newVar]
      rfl
    split at h
    · rename_i cs
      exact val hr (Sim.alloc _ _) h hex
    · obtain ⟨h, hc, _⟩ := oneW_out h
      exact val hr (Sim.alloc _ _) (by rw [heap_alloc, hc]; exact h) hex
  · rename_i t l c
    obtain ⟨vl, hvl, h⟩ := o1_out h
    obtain ⟨vc, hvc, h⟩ := o1_out h
    have hex : execOp a.eval { dst := dst, op := .makeSlice t l c, type := type, pos := pos, after := after, guard := guard } = (do pure (.value (← Instr.makeSlice t vl vc))) := by
      simp only [execOp, ha l (by simp [Op.operands]) _ hvl, ha c (by simp [Op.operands]) _ hvc]
    split at h
    · rename_i el k n k' m hu _
      split at h
      · rename_i i hi
        obtain ⟨i', z, hi', hz, h, hzr⟩ := zeroT_out h
        obtain rfl : i = i' := by rw [hi] at hi'; exact Option.some.inj hi'
        obtain ⟨hb, h0, h1, h2, h⟩ := bif_out h
        simp only [Bool.and_eq_true] at hb
        have e1 : (cellsV z).length = i.size := Nat.eq_of_beq_eq_true hb.1.1
        have e2 : 0 < i.bytes := by have := hb.1.2; rw [Nat.blt_eq] at this; exact this
        have e3 : 0 < i.size := by have := hb.2; rw [Nat.blt_eq] at this; exact this
        have hm : m ≤ 281474976710656 := by
          have : (1 : Int) * m ≤ (i.bytes : Int) * m := Int.mul_le_mul_of_nonneg_right (by omega) (by omega)
          omega
        have wrapn : IntKind.i64.wrap n = n := by unfold IntKind.wrap; simp [IntKind.bits, IntKind.signed]; omega
        have wrapm : IntKind.i64.wrap m = m := by unfold IntKind.wrap; simp [IntKind.bits, IntKind.signed]; omega
        refine val (v := .slice (some ⟨w.heap.size, 0, none⟩) n.toNat m.toNat) (w' := w.alloc (.cells (zerosOf z m.toNat) el)) ?_ (Sim.alloc _ _) h hex
        unfold Instr.makeSlice
        rw [Sem.run_bind, r_und hu]
        simp only [Result.andThen]
        have ha1 : ∀ w, (asInt (.int k n)).run P w = .ok n w := fun w => rfl
        have ha2 : ∀ w, (asInt (.int k' m)).run P w = .ok m w := fun w => rfl
        rw [Sem.run_bind, ha1]
        simp only [Result.andThen]
        rw [Sem.run_bind, ha2]
        simp only [Result.andThen]
        rw [Sem.run_bind, r_info hi]
        simp only [Result.andThen, wrapn, wrapm]
        have c1 : ¬ (m < 0) := by omega
        have c2 : ¬ (281474976710656 < (i.bytes : Int) * m) := by omega
        have c3 : ¬ (n < 0) := by omega
        have c4 : ¬ (m < n) := by omega
        simp only [show (2 : Int) ^ 48 = 281474976710656 from rfl, gt_iff_lt, c1, c2, c3, c4, decide_false, Bool.or_false, Bool.false_eq_true, if_false, Sem.run_bind, Result.andThen]
        have har : (askRoom (m.toNat * i.bytes)).run P w = .ok () w := by
          unfold askRoom
          split <;> rfl
        rw [har]
        simp only [r_size hi]
        by_cases h00 : m.toNat * i.size = 0
        · have hm0 : m.toNat = 0 := by
            rcases Nat.mul_eq_zero.1 h00 with h | h
            · exact h
            · omega
          have hz0 : zerosOf z m.toNat = #[] := by simp [zerosOf, hm0]
          rw [if_pos h00, hz0]
          simp only [pure_bind, h00]
          rw [show ∀ f : Nat → Value, (Array.range 0).map f = #[] from fun f => by simp]
          rfl
        · rw [if_neg h00, Sem.run_bind, hzr]
          simp only [Result.andThen, pure_bind]
          rw [zerosOf_eq]
          unfold Builtin.zeroCells
          rw [show z.cells.size = i.size by rw [cellsV_len, e1]]
          rfl
      · exact h.elim
    · exact h.elim
  · rename_i t len parts
    obtain ⟨ps, hps, h⟩ := opL_out h
    have e : (parts.map fun (x : Nat × Operand) => (x.1, a.eval x.2)) = ps.toArray := by
      have := Agrees.pairs hps (fun y hy => ha y (by simp [Op.operands]; simpa using hy))
      rw [← this]
      cases parts; simp
    have hex : execOp a.eval { dst := dst, op := .buildSlice t len parts, type := type, pos := pos, after := after, guard := guard } = (do pure (.value (← Instr.buildSlice t len ps.toArray))) := by
      simp only [execOp, e]
    simp only [List.nil_append] at h
    split at h
    · rename_i el hu
      split at h
      · rename_i i hi
        obtain ⟨i', z, hi', hz, h, hzr⟩ := zeroT_out h
        obtain rfl : i = i' := by rw [hi] at hi'; exact Option.some.inj hi'
        obtain ⟨hb, h⟩ := bif_out h
        simp only [Bool.and_eq_true] at hb
        have e1 : (cellsV z).length = i.size := Nat.eq_of_beq_eq_true hb.2
        have e2 : len * i.size ≤ 1024 := Nat.le_of_ble_eq_true hb.1
        obtain ⟨cs, hk, hf⟩ := fillK_out h
        simp only [Option.map_some] at hf
        refine val (v := .slice (some ⟨w.heap.size, 0, none⟩) len len) (w' := w.alloc (.cells cs.toArray el)) ?_ (Sim.alloc _ _) hk hex
        unfold Instr.buildSlice
        rw [Sem.run_bind, r_und hu]
        simp only [Result.andThen]
        rw [Sem.run_bind, r_size hi]
        simp only [Result.andThen]
        rw [if_neg (show ¬ len * i.size > 2 ^ 24 by have : (2 : Nat) ^ 24 = 16777216 := rfl; omega)]
        have hz0 : (if len * i.size = 0 then (pure #[] : Sem (Array Value)) else do pure (← zeroValue el).cells).run P w = .ok (if len * i.size = 0 then #[] else z.cells) w := by
          split
          · rfl
          · rw [Sem.run_bind, hzr]; rfl
        have hcells : ((Array.range (len * i.size)).map fun j => (if len * i.size = 0 then (#[] : Array Value) else z.cells)[j % (if len * i.size = 0 then (#[] : Array Value) else z.cells).size]!) = ((List.replicate len (cellsV z)).flatten).toArray := by
          rw [flatten_zeros (cellsV z) len i.size e1]
          by_cases h00 : len * i.size = 0
          · simp [h00]
          · simp only [h00, if_false, cellsV_eq]
        by_cases h00 : len * i.size = 0
        · simp only [h00, if_true] at hcells ⊢
          show Sem.run P (match Instr.fill (fun i_1 => some (i_1 * i.size, i.size)) (Array.map (fun x => (#[] : Array Value)[x % (#[] : Array Value).size]!) (Array.range 0)) ps with
            | some cells => do
              let __do_lift ← newRow el cells
              pure (Value.slice (some __do_lift) len len)
            | x => stuck "buildSlice: a part of the wrong size") w = _
          rw [hcells, hf]
          rfl
        · simp only [h00, if_false] at hcells ⊢
          rw [Sem.run_bind, hzr]
          simp only [Result.andThen, pure_bind]
          rw [hcells, hf]
          rfl
      · exact h.elim
    · exact h.elim
  · rename_i s d x
    obtain ⟨v, hv, h⟩ := o1_out h
    have hex : execOp a.eval { dst := dst, op := .convert s d x, type := type, pos := pos, after := after, guard := guard } = (do pure (.value (← convert s d v))) := by
      simp only [execOp, ha x (by simp [Op.operands]) _ hv]
    split at h
    · rename_i ds b t hs hd
      split at h
      · rename_i hb
        have hg := grownCap_ge w t.size 0 b
        have hk := h (grownCap w t.size 0 b) hg
        let cells : Array Value := (bytesCells t).toArray ++ Array.replicate (grownCap w t.size 0 b - t.size) (.int .u8 0)
        have hsz : cells.size = grownCap w t.size 0 b := by
          simp only [cells, Array.size_append, List.size_toArray, Array.size_replicate]
          have : (bytesCells t).length = t.size := by unfold bytesCells; rw [List.length_map, Array.length_toList]; rfl
          omega
        refine val (v := .slice (some ⟨w.heap.size, 0, none⟩) t.size (grownCap w t.size 0 b)) (w' := w.drew.alloc (.cells cells b (cells.size, cells.size + 1))) ?_ ((Sim.drew w).trans (Sim.alloc _ _)) ?_ hex
        · have e0 : (bytesCells t).toArray = t.data.map (fun b => Value.int .u8 b.toNat) := by
            unfold bytesCells
            apply Array.ext'
            simp
          have hfr : ((w.drew.alloc (.cells cells b)).freeze { block := w.heap.size, off := cells.size } 1) = w.drew.alloc (.cells cells b (cells.size, cells.size + 1)) := by
            unfold World.freeze World.alloc
            simp only [Nat.one_ne_zero, if_false]
            congr 1
            apply Array.ext'
            simp only [World.drew, Array.toList_modify, Array.toList_push]
            apply List.ext_getElem?
            intro j
            rw [List.getElem?_modify]
            by_cases hj : w.heap.size = j
            · subst hj; simp
            · simp [hj]
              rcases Nat.lt_or_ge j w.heap.size with h | h
              · simp [List.getElem?_append, h]
              · have : w.heap.size + 1 ≤ j := by omega
                simp [List.getElem?_append, show ¬ j < w.heap.size by omega, show j - w.heap.size ≠ 0 by omega]
          unfold convert
          rw [Sem.run_bind, r_und hs]
          simp only [Result.andThen]
          rw [Sem.run_bind, r_und hd]
          simp only [Result.andThen]
          have hmain : (Conv.stringToBytes b t).run P w = .ok (.slice (some ⟨w.heap.size, 0, none⟩) t.size (grownCap w t.size 0 b)) (w.drew.alloc (.cells cells b (cells.size, cells.size + 1))) := by
            unfold Conv.stringToBytes
            rw [Sem.run_bind, run_choose]
            simp only [Question.forced, Bool.false_eq_true, if_false, Result.andThen]
            rw [Sem.run_bind]
            have hrow : (newRow b ((t.data.map fun b => Value.int .u8 b.toNat) ++ Array.replicate ((Question.appendCap t.size 0 b).cut (w.tape w.drawn (.appendCap t.size 0 b)) - t.size) (.int .u8 0))).run P { w with drawn := w.drawn + 1 } = .ok ⟨w.heap.size, 0, none⟩ (w.drew.alloc (.cells cells b)) := by
              simp only [cells, e0, grownCap]
              rfl
            rw [hrow]
            simp only [Result.andThen]
            rw [Sem.run_bind]
            have hmark : (markStringish ⟨w.heap.size, 0, none⟩).run P (w.drew.alloc (.cells cells b)) = .ok () (w.drew.alloc (.cells cells b (cells.size, cells.size + 1))) := by
              unfold markStringish
              rw [Sem.run_bind]
              have hsh : (shape w.heap.size).run P (w.drew.alloc (.cells cells b)) = .ok (some (b, cells.size)) (w.drew.alloc (.cells cells b)) := by
                show Result.ok ((w.drew.alloc (.cells cells b)).shape? w.heap.size) _ = _
                congr 1
                unfold World.shape?
                rw [show (w.drew.alloc (.cells cells b)).heap[w.heap.size]? = some (.cells cells b) from by show (w.heap.push _)[w.heap.size]? = _; simp]
              rw [hsh]
              simp only [Result.andThen]
              show Result.ok () ((w.drew.alloc (.cells cells b)).freeze { block := w.heap.size, off := cells.size } 1) = _
              rw [hfr]
            rw [hmark]
            rfl
          rw [Sem.run_bind, r_und hb]
          exact hmain
        · show K _ _
          simp only [heap_alloc, hsz]
          exact hk
      · exact h.elim
    · exact h.elim
  · rename_i args ts
    split at h
    · rename_i x y t u hx ht
      split at h
      · exact h.elim
      · exact h.elim
      · rename_i d hne hu
        obtain ⟨vx, hvx, h⟩ := o1_out h
        obtain ⟨vy, hvy, h⟩ := o1_out h
        have ea : args = #[x, y] := by cases args; simpa using hx
        have et : ts = #[t, u] := by cases ts; simpa using ht
        subst ea et
        obtain ⟨v, w', hr, hs, hk⟩ := appV_out (T := type) hu (fun k e => hne k e) h w rfl
        refine val hr hs hk ?_
        simp only [execOp, resolve, List.map_toArray, List.map_cons, List.map_nil, ha x (by simp [Op.operands, Call.operands]) _ hvx, ha y (by simp [Op.operands, Call.operands]) _ hvy, pure_bind, invoke, builtin]
    · exact h.elim
  · rename_i f args ts
    obtain ⟨vs, hvs, h⟩ := oL_out h
    have ea := Agrees.list hvs (fun y hy => ha y (by simp [Op.operands, Call.operands]; simp at hy; exact .inr hy))
    have ea' : args.map a.eval = vs.toArray := by rw [← ea]; cases args; simp
    simp only [List.nil_append] at h
    unfold callW at h
    split at h
    · rename_i fn hf
      obtain ⟨hb, h⟩ := bif_out h
      have hnum := progOk_num hp hf
      have hr : (execOp a.eval { dst := dst, op := .call { callee := .value (.func f), args := args, argTypes := ts }, type := type, pos := pos, after := after, guard := guard }).run P w = .ok (.enter f vs.toArray) w := by
        have hbn : fn.body.isNone = false := by cases hbb : fn.body <;> simp_all
        simp only [execOp, resolve, ea', Act.eval, Deferred.ofValue, pure_bind, invoke, callFunc, Array.append_empty, Array.empty_append]
        rw [Sem.run_bind, run_program]
        simp only [Result.andThen, hf, hnum, hbn, Bool.false_eq_true, if_false]
        rfl
      unfold Oper.wp
      rw [hr]
      refine (h w rfl).mono ?_
      rintro ending w' ⟨v, rfl, hs, hk⟩
      exact hn v w' hs (resW_out hk)
    · exact h.elim
  · exact h.elim
end
end Go.Ev
