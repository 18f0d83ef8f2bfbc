import Derived.Test.YtojhnakgmihedaaDoorEvPure3
import Derived.Laws.Append
import Derived.Laws.BytesString
import Derived.Laws.BytesArg
import Derived.Laws.AppendOwn
namespace Go.Ev
section
variable {P : Program}
theorem cell_of {w : World} {H : Heap} (hw : w.heap = H) {a : Addr} {v : Value} (h : hcell H a = some v) : w.cell? a = some v := by rw [cell?_eq, hw, h]
theorem add_zero (a : Addr) : a.add 0 = a := by simp [Addr.add]
theorem run_bytesTo {w : World} {p : Option Addr} {l c : Nat} {s : ByteArray} (h : BytesAt w.heap p l s) : (Conv.bytesToString (.slice p l c)).run P w = .ok (.string s) w := by
  cases p with
  | none => unfold BytesAt at h; subst h; rfl
  | some a =>
    obtain ⟨hs, hc⟩ := h
    have hlen : (bytesCells s).length = l := by unfold bytesCells; rw [List.length_map, Array.length_toList]; exact hs
    have hrun := run_loadCells_list (P := P) w a (bytesCells s) (fun j v hj => cell_of rfl (hc j v hj))
    rw [hlen] at hrun
    have e : (bytesCells s).toArray = ((s.data.toList.map fun b => (b.toNat : Int)).map (Value.int .u8)).toArray := by
      unfold bytesCells; rw [List.map_map]; rfl
    rw [e] at hrun
    rw [run_bytesToString w a l c _ hrun, foldl_push_bytes]
    congr 2
    apply ByteArray.ext
    apply Array.ext'
    simp [List.map_map, Function.comp_def, UInt8.ofNat_toNat]
theorem evRead_out {o : Oper} {e : Env} {H : Heap} {K : Value → Prop} (h : evRead P o.op e H K) :
    ∃ v, K v ∧ ∀ ρ, Agrees e ρ o.op.operands.toList → ∀ w, w.heap = H → (execOp ρ o).run P w = .ok (.value v) w := by
  have lift : ∀ {s : Sem Value}, (∃ v, K v ∧ ∀ w, w.heap = H → s.run P w = .ok v w) → (∀ ρ, Agrees e ρ o.op.operands.toList → execOp ρ o = do pure (.value (← s))) → ∃ v, K v ∧ ∀ ρ, Agrees e ρ o.op.operands.toList → ∀ w, w.heap = H → (execOp ρ o).run P w = .ok (.value v) w := by
    rintro s ⟨v, hk, hy⟩ e
    refine ⟨v, hk, fun ρ ha w hw => ?_⟩
    rw [e ρ ha, Sem.run_bind, hy w hw]
    rfl
  obtain ⟨dst, op, type, pos, after, guard⟩ := o
  simp only at h lift ⊢
  unfold evRead at h
  split at h
  · rename_i t x
    obtain ⟨v, hv, h⟩ := o1_out h
    refine lift (s := Instr.loadAt t v) ?_ (fun ρ ha => by simp only [execOp, ha x (by simp [Op.operands]) _ hv])
    split at h
    · rename_i a
      have hsa : ∀ w, (Instr.sureAddr (.pointer (some a))).run P w = .ok a w := fun w => rfl
      have aggcase : ∀ d, P.underlying t = some d → isAggT P t = true →
          (bif Nat.beq (cellsSh P 8 t).length (sizeT P t) && (P.info? t).isSome then ldCs H a (cellsSh P 8 t) 0 [] fun vs => K (.agg vs.toArray) else False) →
          ∃ v, K v ∧ ∀ w, w.heap = H → (Instr.loadAt t (.pointer (some a))).run P w = .ok v w := by
        intro d hu hag h
        cases hb : (Nat.beq (cellsSh P 8 t).length (sizeT P t) && (P.info? t).isSome) with
        | false => rw [hb] at h; exact h.elim
        | true =>
          rw [hb] at h
          simp only [Bool.and_eq_true] at hb
          obtain ⟨i, hi⟩ := Option.isSome_iff_exists.1 hb.2
          have hsz : (cellsSh P 8 t).length = i.size := by have := Nat.eq_of_beq_eq_true hb.1; simpa [sizeT, hi] using this
          obtain ⟨vs, hl, hc, hk⟩ := ldCs_out (show ldCs H a (cellsSh P 8 t) 0 [] _ from h)
          refine ⟨_, hk, fun w hw => ?_⟩
          have hrun := run_loadCells_list (P := P) w a vs (fun j v hj => cell_of hw (by simpa using hc j v hj))
          unfold Instr.loadAt loadVar
          rw [Sem.run_bind, hsa]
          simp only [Result.andThen]
          rw [Sem.run_bind, r_agg hu, hag]
          simp only [Result.andThen, if_true]
          rw [Sem.run_bind, r_size hi]
          simp only [Result.andThen]
          rw [Sem.run_bind, show i.size = vs.length by omega, hrun]
          simp
      split at h
      · exact h.elim
      · rename_i fs hu; exact aggcase _ hu (by simp [isAggT, hu]) h
      · rename_i n el hu; exact aggcase _ hu (by simp [isAggT, hu]) h
      · rename_i d hn1 hn2 hu
        have hag : isAggT P t = false := by
          unfold isAggT; rw [hu]
          cases d <;> first | rfl | exact absurd rfl (hn1 _) | exact absurd rfl (hn2 _ _)
        obtain ⟨v, hc, hk⟩ := ldC_out h
        refine ⟨v, hk, fun w hw => ?_⟩
        unfold Instr.loadAt loadVar
        rw [Sem.run_bind, hsa]
        simp only [Result.andThen]
        rw [Sem.run_bind, r_agg hu, hag]
        simp [cell_of hw hc]
    · exact h.elim
  · rename_i s d x
    obtain ⟨v, hv, h⟩ := o1_out h
    refine lift (s := convert s d v) ?_ (fun ρ ha => by simp only [execOp, ha x (by simp [Op.operands]) _ hv])
    split at h
    · rename_i b p l c hs hd
      split at h
      · rename_i hb
        obtain ⟨t, ht, hk⟩ := h
        refine ⟨_, hk, fun w hw => ?_⟩
        rw [run_convert_bytes_string w s d b p l c hs hb hd]
        exact run_bytesTo (by rw [hw]; exact ht)
      · exact h.elim
    · exact h.elim
  · exact h.elim

theorem cellsV_len {z : Value} : z.cells.size = (cellsV z).length := by rw [cellsV_eq]; simp
theorem zerosOf_eq (z : Value) (n : Nat) : zerosOf z n = Builtin.zeroCells z.cells n := by
  unfold zerosOf Builtin.zeroCells
  rw [cellsV_len]
  apply Array.map_congr_left
  intro i hi
  have hlt : i < n * (cellsV z).length := by simpa using hi
  have hpos : 0 < (cellsV z).length := by
    rcases Nat.eq_zero_or_pos (cellsV z).length with h | h
    · rw [h] at hlt; omega
    · exact h
  have hm : i % (cellsV z).length < (cellsV z).length := Nat.mod_lt _ hpos
  have hm' : i % (cellsV z).length < z.cells.size := by rw [cellsV_len]; exact hm
  rw [getElem!_pos z.cells _ hm', List.getD_eq_getElem?_getD, List.getElem?_eq_getElem hm]
  simp only [Option.getD_some]
  have := cellsV_eq z
  simp [this]
theorem run_store1 {w : World} {a : Addr} {v : Value} (hv : (∀ c, v ≠ .agg c) ∧ (∀ c, v ≠ .tuple c)) {u : Value} (hc : hcell w.heap a = some u) (hf : hfrozen w.heap a = false) :
    (store a v).run P w = .ok () (w.setCell a v) := by
  have h1 : v.oneCell' = true := by
    cases v <;> first | rfl | exact absurd rfl (hv.1 _) | exact absurd rfl (hv.2 _)
  rw [run_store P w a v .plain h1, cell?_eq, hc]
  simp only []
  rw [frozen?_eq, hf]
  rfl
theorem stC_out {H : Heap} {a : Addr} {v : Value} {K : Heap → Prop} (h : stC H a v K) : K (hset H a v) ∧ v.cells = #[v] ∧ ∀ w, w.heap = H → (store a v).run P w = .ok () (w.setCell a v) := by
  unfold stC at h
  obtain ⟨⟨⟨u, hu⟩, hf, hk⟩, hc, h1, h2⟩ := oneW_out h
  exact ⟨hk, hc, fun w hw => run_store1 ⟨h1, h2⟩ (by rw [hw]; exact hu) (by rw [hw]; exact hf)⟩
theorem stCs_out {a : Addr} : ∀ {vs : List Value} {H : Heap} {i : Nat} {K : Heap → Prop}, stCs H a vs i K →
    ∀ w, w.heap = H → ∃ w', (storeCells a vs i).run P w = .ok () w' ∧ Sim w w' ∧ K w'.heap
  | [], H, i, K, h, w, hw => ⟨w, rfl, Sim.refl w, by rw [hw]; exact h⟩
  | v :: vs, H, i, K, h, w, hw => by
    obtain ⟨hk, _, hr⟩ := stC_out (P := P) (show stC H (a.add i) v _ from h)
    obtain ⟨w', hr', hs, hk'⟩ := stCs_out hk (w.setCell (a.add i) v) (by rw [setCell_heap, hw])
    refine ⟨w', ?_, (Sim.setCell w _ _).trans hs, hk'⟩
    unfold storeCells
    rw [Sem.run_bind, hr w hw]
    exact hr'
theorem appended_out {H : Heap} {size n : Nat} {y : Value} {new : List Value} (h : appended H size y n new) : ∀ w, w.heap = H →
    (Builtin.lenOf y).run P w = .ok n w ∧ (Builtin.firstCells size n y).run P w = .ok new.toArray w := by
  intro w hw
  unfold appended at h
  split at h
  · rename_i p l c
    obtain ⟨rfl, h⟩ := h
    refine ⟨rfl, ?_⟩
    split at h
    · obtain ⟨rfl, rfl⟩ := h; rfl
    · rename_i a
      exact run_firstCells_some w size n a n c new h.1 (fun j v hj => cell_of hw (h.2 j v hj))
  · rename_i s
    obtain ⟨rfl, rfl, rfl⟩ := h
    refine ⟨rfl, ?_⟩
    show Result.ok _ w = Result.ok _ w
    congr 1
    unfold bytesCells
    apply Array.ext'
    have : s.extract 0 s.size = s := by
      apply ByteArray.ext
      rw [ByteArray.data_extract]
      exact Array.extract_size
    rw [this]
    simp
  · exact h.elim
theorem notInt {d : TypeDesc} (hd : ∀ k, d ≠ .int k) : (match d with | .int _ => true | _ => false) = false := by
  cases d <;> first | rfl | exact absurd rfl (hd _)
theorem appV_out {t u T : TypeId} {x y : Value} {H : Heap} {K : Value → Heap → Prop} {d : TypeDesc} (hu : P.underlying u = some d) (hd : ∀ k, d ≠ .int k) (h : appV P t x y H K) :
    ∀ w, w.heap = H → ∃ v w', (Builtin.append_ #[t, u] T #[x, y]).run P w = .ok v w' ∧ Sim w w' ∧ K v w'.heap := by
  intro w hw
  unfold appV at h
  split at h
  · rename_i el ht
    split at h
    · rename_i p l c i hi
      obtain ⟨i', z, hi', hz, h, hzr⟩ := zeroT_out h
      obtain rfl : i = i' := by rw [hi] at hi'; exact Option.some.inj hi'
      obtain ⟨n, new, hap, h⟩ := h
      have hlen := fun w hw => (appended_out (P := P) hap w hw).1
      have hfc := fun w hw => (appended_out (P := P) hap w hw).2
      have hm := notInt hd
      have hsz : ∀ w, (sizeOf el).run P w = .ok i.size w := r_size hi
      rcases h with ⟨hfit, h⟩ | ⟨hgrow, hb, hbz, old, hol, hoc, h⟩
      · cases p with
        | none =>
          obtain ⟨rfl, hk⟩ := h
          refine ⟨_, w, ?_, Sim.refl w, by rw [hw]; exact hk⟩
          have hfc0 := hfc w hw
          have hfit' : l ≤ c := by omega
          unfold Builtin.append_
          simp only [show ((#[t, u] : Array TypeId)[0]? : Option TypeId) = some t from rfl, show ((#[t, u] : Array TypeId)[1]? : Option TypeId) = some u from rfl,
            show ((#[Value.slice none l c, y] : Array Value)[0]? : Option Value) = some (.slice none l c) from rfl, show ((#[Value.slice none l c, y] : Array Value)[1]? : Option Value) = some y from rfl]
          simp [r_und ht, hsz, r_und hu, hlen w hw, hfit', hfc0]
        | some a =>
          obtain ⟨w', hst, hs, hk⟩ := stCs_out (P := P) h w hw
          refine ⟨_, w', ?_, hs, hk⟩
          have hfc0 := hfc w hw
          unfold Builtin.append_
          simp only [show ((#[t, u] : Array TypeId)[0]? : Option TypeId) = some t from rfl, show ((#[t, u] : Array TypeId)[1]? : Option TypeId) = some u from rfl,
            show ((#[Value.slice (some a) l c, y] : Array Value)[0]? : Option Value) = some (.slice (some a) l c) from rfl, show ((#[Value.slice (some a) l c, y] : Array Value)[1]? : Option Value) = some y from rfl]
          simp [r_und ht, hsz, r_und hu, hlen w hw, hfit, hfc0, hst]
      · have hw' : w.drew.heap = H := hw
        have hfc1 := hfc w.drew hw'
        have hold : (Builtin.firstCells i.size l (.slice p l c)).run P w.drew = .ok old.toArray w.drew := by
          cases p with
          | none => simp only [cellsAt] at hoc; subst hoc; rfl
          | some a => exact run_firstCells_some w.drew i.size l a l c old hol (fun j v hj => cell_of hw' (hoc j v hj))
        have hK := h (grownCap w (l + n) c el) (grownCap_ge w _ _ _)
        rw [← hw] at hK
        refine ⟨.slice (some ⟨w.heap.size, 0, none⟩) (l + n) (grownCap w (l + n) c el), w.drew.alloc (.cells (old.toArray ++ new.toArray ++ zerosOf z (grownCap w (l + n) c el - (l + n))) el), ?_, (Sim.drew w).trans (Sim.alloc _ _), hK⟩
        have hn : ¬ (l + n ≤ c) := by omega
        have h48 : ¬ (281474976710656 < Builtin.nextslicecap (l + n) c * i.bytes) := by
          have := growslice_fits (bytes := i.bytes) hgrow hb
          omega
        unfold Builtin.append_
        simp only [show ((#[t, u] : Array TypeId)[0]? : Option TypeId) = some t from rfl, show ((#[t, u] : Array TypeId)[1]? : Option TypeId) = some u from rfl,
          show ((#[Value.slice p l c, y] : Array Value)[0]? : Option Value) = some (.slice p l c) from rfl, show ((#[Value.slice p l c, y] : Array Value)[1]? : Option Value) = some y from rfl]
        simp [r_und ht, hsz, r_und hu, hlen w hw, hn, r_info hi, hbz, h48, Question.forced, hold, hfc1, hzr, newRow, grownCap, zerosOf_eq, hw]
        congr 2
        apply Array.ext'
        simp [List.append_assoc]
    · exact h.elim
  · exact h.elim
end
end Go.Ev
