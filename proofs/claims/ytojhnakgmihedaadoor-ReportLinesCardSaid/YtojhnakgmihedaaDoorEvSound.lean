import Derived.Test.YtojhnakgmihedaaDoorEvDraw3
import Derived.Deep.LoopGhost
/-! Code and functions: the reckoning's word holds of the machine. -/
namespace Go.Ev

theorem xC_out {c : Cs} {v : Value} {K : CsT c → Prop} (h : xC c v K) : ∃ x, v = embC c x ∧ K x := by
  cases c with
  | int k =>
    cases v <;> simp only [xC] at h <;> try exact h.elim
    split at h
    · rename_i k' n hk
      subst hk
      exact ⟨_, rfl, h⟩
    · exact h.elim
  | bool => cases v <;> simp only [xC] at h <;> first | exact h.elim | exact ⟨_, rfl, h⟩
  | str => cases v <;> simp only [xC] at h <;> first | exact h.elim | exact ⟨_, rfl, h⟩
  | ptr => cases v <;> simp only [xC] at h <;> first | exact h.elim | exact ⟨_, rfl, h⟩
  | slice => cases v <;> simp only [xC] at h <;> first | exact h.elim | exact ⟨_, rfl, h⟩
  | raw => exact ⟨v, rfl, h⟩
theorem xCs_out : ∀ {l : List Cs} {vs : List Value} {K : CsTs l → Prop}, xCs l vs K → ∃ x, vs = embCs l x ∧ K x
  | [], [], K, h => ⟨(), rfl, h⟩
  | [], _ :: _, K, h => by simp only [xCs] at h
  | c :: cs, [], K, h => by simp only [xCs] at h
  | c :: cs, v :: vs, K, h => by
    obtain ⟨x, hx, h1⟩ := xC_out (show xC c v _ from h)
    obtain ⟨xs, hxs, h2⟩ := xCs_out h1
    exact ⟨(x, xs), by rw [hx, hxs]; rfl, h2⟩
theorem xS_out {s : Sh} {v : Value} {K : ShT s → Prop} (h : xS s v K) : ∃ x, v = embS s x ∧ K x := by
  cases s with
  | one c => exact xC_out (show xC c v K from h)
  | agg l =>
    cases v <;> simp only [xS] at h
    obtain ⟨x, hx, h1⟩ := xCs_out h
    exact ⟨x, by unfold embS; simp only; rw [← hx], h1⟩
theorem lvX_out : ∀ {l : Live} {e : Env} {K : LT l → Prop}, lvX l e K → ∃ s, K s ∧ ∀ (b : Env) t v, lvE l s b t = some v → b t = some v ∨ e t = some v
  | [], e, K, h => ⟨(), h, fun _ _ _ h => .inl h⟩
  | (t, sh) :: r, e, K, h => by
    unfold lvX at h
    split at h
    · rename_i v hv
      obtain ⟨x, hvx, h1⟩ := xS_out h
      obtain ⟨xs, h2, hx⟩ := lvX_out h1
      refine ⟨(x, xs), h2, fun b u w hw => ?_⟩
      have hw : put (lvE r xs b) (some t) (embS sh x) u = some w := hw
      rw [put_some] at hw
      by_cases hu : u = t
      · subst hu
        rw [if_pos rfl] at hw
        exact .inr (by rw [hv, ← hw, hvx])
      · rw [if_neg hu] at hw
        exact hx b u w hw
    · exact h.elim
theorem havoc_some {e : Env} {ds : List Nat} {t : Nat} {v : Value} (h : havoc e ds t = some v) : e t = some v ∧ t ∉ ds := by
  unfold havoc at h
  cases hb : ds.any (Nat.beq t) with
  | true => rw [hb] at h; cases h
  | false =>
    rw [hb] at h
    refine ⟨h, fun hm => ?_⟩
    have : ds.any (Nat.beq t) = true := List.any_eq_true.2 ⟨t, hm, by simp⟩
    rw [hb] at this
    cases this
/-- What is handed on behind a piece of code that writes 'ds' alone. -/
theorem Mt.meet {N : Nat} {a a' : Act} {e e' : Env} {ds : List Nat} {l : Live} {s : LT l} (h : Mt N a e) (h' : Mt N a' e') (hk : Keeps ds a a')
    (hx : ∀ (b : Env) t v, lvE l s b t = some v → b t = some v ∨ e' t = some v) : Mt N a' (lvE l s (havoc e ds)) := by
  refine ⟨h'.size, h'.defers, fun t v hv => ?_⟩
  rcases hx _ t v hv with hv | hv
  · obtain ⟨hv, ht⟩ := havoc_some hv
    rw [hk t ht]
    exact h.val t v hv
  · exact h'.val t v hv

section
variable {P : Program} {N : Nat} {A : Ann}
theorem joinOf_spec (y : Code) : joinOf A y = joinOf A y := rfl
theorem evC_sound (hp : progOk P = true) : ∀ (c : Code) (e : Env) (k : Ks) (a : Act) (w : World) (Q : Exit → Act → World → Prop), evC P N A c e k w.heap → Mt N a e →
    (∀ a' w' e', Mt N a' e' → Sim w w' → Keeps (dstsC c) a a' → (k.n e' w'.heap → Q .normal a' w') ∧ (∀ i, k.x i e' w'.heap → Q (.exit i) a' w') ∧ (k.r e' w'.heap → Q .ret a' w')) → c.wp P Q a w := by
  intro c
  induction c with
  | skip =>
    intro e k a w Q h hm hQ
    exact wp_skip ((hQ a w e hm (Sim.refl w) (Keeps.refl _ _)).1 h)
  | region id ops draw =>
    intro e k a w Q h hm hQ
    unfold evC at h
    obtain ⟨hN, h⟩ := bif_out h
    have hQ' : ∀ (w0 : World), w0.heap = w.heap → Sim w w0 → ∀ a' w' e', Mt N a' e' → Sim w0 w' → Keeps (regDsts ops) a a' → k.n e' w'.heap → Q .normal a' w' := fun w0 _ hs a' w' e' hm' hs' hk hn => (hQ a' w' e' hm' (hs.trans hs') hk).1 hn
    cases draw with
    | false =>
      simp only at h
      exact wp_region_list (evOps_out hp hN a w (hQ' w rfl (Sim.refl w)) ops.toList 0 e a w (fun o ho => by simpa using ho) h hm (Sim.refl w) (Keeps.refl _ _))
    | true =>
      simp only at h
      have hmix : P.follows .mixedOrders = true := by unfold progOk at hp; rw [Bool.and_eq_true] at hp; exact hp.1
      refine wp_region_any hmix ?_
      cases hord : drawOk P ops (befs ops.toList []) (A.ord id) <;> rw [hord] at h <;> simp only [cond_true, cond_false] at h
      · exact evTwo_out hp hN a w.drew w.drew e (hQ' w.drew rfl (Sim.drew w)) h hm (Sim.refl _)
      · exact evD_out hp hN hord a w.drew w.drew e (hQ' w.drew rfl (Sim.drew w)) h hm (Sim.refl _)
  | seq x y ihx ihy =>
    intro e k a w Q h hm hQ
    unfold evC at h
    have hkx : ∀ {a' : Act}, Keeps (dstsC x) a a' → Keeps (dstsC (.seq x y)) a a' := fun hk => hk.mono (by intro t ht; unfold dstsC; rw [List.mem_append]; exact .inl ht)
    have hky : ∀ {a' a'' : Act}, Keeps (dstsC y) a' a'' → Keeps (dstsC (.seq x y)) a' a'' := fun hk => hk.mono (by intro t ht; unfold dstsC; rw [List.mem_append]; exact .inr ht)
    refine wp_seq ?_
    split at h
    · refine ihx e _ a w _ h hm fun a' w' e' hm' hs' hk' => ⟨fun hn => ?_, fun i hx => ?_, fun hr => ?_⟩
      · exact ihy e' k a' w' Q hn hm' fun a'' w'' e'' hm'' hs'' hk'' => hQ a'' w'' e'' hm'' (hs'.trans hs'') ((hkx hk').trans (hky hk''))
      · exact (hQ a' w' e' hm' hs' (hkx hk')).2.1 i hx
      · exact (hQ a' w' e' hm' hs' (hkx hk')).2.2 hr
    · rename_i l hl
      obtain ⟨J, hJ, hrest⟩ := h
      refine ihx e _ a w _ hJ hm fun a' w' e' hm' hs' hk' => ⟨fun hn => ?_, fun i hx => ?_, fun hr => ?_⟩
      · obtain ⟨s, hs, hx⟩ := lvX_out hn
        refine ihy _ k a' w' Q (hrest s _ hs) (hm.meet hm' hk' hx) fun a'' w'' e'' hm'' hs'' hk'' => hQ a'' w'' e'' hm'' (hs'.trans hs'') ((hkx hk').trans (hky hk''))
      · exact (hQ a' w' e' hm' hs' (hkx hk')).2.1 i hx
      · exact (hQ a' w' e' hm' hs' (hkx hk')).2.2 hr
  | cond c x y ihx ihy =>
    intro e k a w Q h hm hQ
    unfold evC at h
    obtain ⟨v, hv, h⟩ := o1_out h
    split at h
    · rename_i b
      have hc := hm.eval hv
      rcases brW_cases h with ⟨rfl, h⟩ | ⟨rfl, h⟩
      · exact wp_cond_true hc (ihx e k a w Q h hm fun a' w' e' hm' hs' hk' => hQ a' w' e' hm' hs' (hk'.mono (by intro t ht; unfold dstsC; rw [List.mem_append]; exact .inl ht)))
      · exact wp_cond_false hc (ihy e k a w Q h hm fun a' w' e' hm' hs' hk' => hQ a' w' e' hm' hs' (hk'.mono (by intro t ht; unfold dstsC; rw [List.mem_append]; exact .inr ht)))
    · exact h.elim
  | block id x ih =>
    intro e k a w Q h hm hQ
    unfold evC at h
    refine wp_block (ih e _ a w _ h hm fun a' w' e' hm' hs' hk' => ⟨fun hn => ?_, fun i hx => ?_, fun hr => ?_⟩)
    · exact (hQ a' w' e' hm' hs' hk').1 hn
    · show if i = id then Q .normal a' w' else Q (.exit i) a' w'
      by_cases hi : i = id
      · subst hi
        rw [if_pos rfl]
        have hx : k.n e' w'.heap := by simpa using hx
        exact (hQ a' w' e' hm' hs' hk').1 hx
      · rw [if_neg hi]
        have hb : Nat.beq i id = false := by
          cases hb : Nat.beq i id
          · rfl
          · exact absurd (Nat.eq_of_beq_eq_true hb) hi
        simp only [hb, cond_false] at hx
        exact (hQ a' w' e' hm' hs' hk').2.1 i hx
    · exact (hQ a' w' e' hm' hs' hk').2.2 hr
  | loop x ih =>
    intro e k a w Q h hm hQ
    unfold evC at h
    split at h
    · exact h.elim
    · split at h
      · exact h.elim
      · rename_i l _
        obtain ⟨s₀, ⟨I, ⟨n₀, h0⟩, hround⟩, hx0⟩ := lvX_out h
        refine wp_loop_ghost (fun n a' w' => ∃ s, I n s w'.heap ∧ Mt N a' (lvE l s (havoc e (dstsC x))) ∧ Sim w w' ∧ Keeps (dstsC x) a a') n₀ ⟨s₀, h0, hm.meet hm (Keeps.refl _ _) hx0, Sim.refl w, Keeps.refl _ _⟩ ?_
        rintro n a' w' ⟨s, hI, hm', hs', hk'⟩
        have hb := hround n s w'.heap hI
        refine ih _ _ a' w' _ hb hm' fun a'' w'' e'' hm'' hs'' hk'' => ⟨fun hn => ?_, fun i hx => ?_, fun hr => ?_⟩
        · obtain ⟨s', ⟨m, hlt, hI'⟩, hx'⟩ := lvX_out hn
          exact ⟨m, hlt, s', hI', hm.meet hm'' (hk'.trans hk'') hx', hs'.trans hs'', hk'.trans hk''⟩
        · exact (hQ a'' w'' e'' hm'' (hs'.trans hs'') (hk'.trans hk'')).2.1 i hx
        · exact (hQ a'' w'' e'' hm'' (hs'.trans hs'') (hk'.trans hk'')).2.2 hr
  | rangeFunc => intro e k a w Q h; exact h.elim
  | exit id =>
    intro e k a w Q h hm hQ
    exact wp_exit ((hQ a w e hm (Sim.refl w) (Keeps.refl _ _)).2.1 id h)
  | scope => intro e k a w Q h; exact h.elim
  | label => intro e k a w Q h; exact h.elim
  | goto => intro e k a w Q h; exact h.elim
  | ret =>
    intro e k a w Q h hm hQ
    exact wp_ret ((hQ a w e hm (Sim.refl w) (Keeps.refl _ _)).2.2 h)
  | refuse => intro e k a w Q h; exact h.elim

theorem ldV_out {t : TypeId} {a : Addr} {H : Heap} {K : Value → Prop} (h : ldV P t a H K) : ∃ v, K v ∧ ∀ w, w.heap = H → (loadVar t a).run P w = .ok v w := by
  unfold ldV at h
  have aggcase : ∀ d, P.underlying t = some d → isAggT P t = true →
      (bif Nat.beq (cellsSh P 8 t).length (sizeT P t) && (P.info? t).isSome then ldCs H a (cellsSh P 8 t) 0 [] fun vs => K (.agg vs.toArray) else False) →
      ∃ v, K v ∧ ∀ w, w.heap = H → (loadVar t a).run P w = .ok v w := by
    intro d hu hag h
    cases hb : (Nat.beq (cellsSh P 8 t).length (sizeT P t) && (P.info? t).isSome) with
    | false => rw [hb] at h; exact h.elim
    | true =>
      rw [hb] at h
      simp only [Bool.and_eq_true] at hb
      obtain ⟨i, hi⟩ := Option.isSome_iff_exists.1 hb.2
      have hsz : (cellsSh P 8 t).length = i.size := by have := Nat.eq_of_beq_eq_true hb.1; simpa [sizeT, hi] using this
      obtain ⟨vs, hl, hc, hk⟩ := ldCs_out (show ldCs H a (cellsSh P 8 t) 0 [] _ from h)
      refine ⟨_, hk, fun w hw => ?_⟩
      have hrun := run_loadCells_list (P := P) w a vs (fun j v hj => cell_of hw (by simpa using hc j v hj))
      unfold loadVar
      rw [Sem.run_bind, r_agg hu, hag]
      simp only [Result.andThen, if_true]
      rw [Sem.run_bind, r_size hi]
      simp only [Result.andThen]
      rw [Sem.run_bind, show i.size = vs.length by omega, hrun]
      simp
  split at h
  · exact h.elim
  · rename_i fs hu; exact aggcase _ hu (by simp [isAggT, hu]) h
  · rename_i n el hu; exact aggcase _ hu (by simp [isAggT, hu]) h
  · rename_i d hn1 hn2 hu
    have hag : isAggT P t = false := by
      unfold isAggT; rw [hu]
      cases d <;> first | rfl | exact absurd rfl (hn1 _) | exact absurd rfl (hn2 _ _)
    obtain ⟨v, hc, hk⟩ := ldC_out h
    refine ⟨v, hk, fun w hw => ?_⟩
    unfold loadVar
    rw [Sem.run_bind, r_agg hu, hag]
    simp [cell_of hw hc]
theorem resK_out {e : Env} {H : Heap} {tmps : Array Value} (hm : ∀ t v, e t = some v → tmps[t]? = some v) : ∀ {l : List ResultVar} {acc : List Value} {K : List Value → Prop}, resK P H e l acc K →
    ∃ vs, K (acc ++ vs) ∧ ∀ (g : ResultVar → Sem Value), (∀ t, g (.tmp t) = pure (tmps.getD t undef)) → (∀ a t, g (.cell a t) = do loadVar t (← asAddr (tmps.getD a undef))) → ∀ w, w.heap = H → (l.mapM g).run P w = .ok vs w
  | [], acc, K, h => ⟨[], by simpa [resK] using h, fun g hg _ w _ => by simp⟩
  | .tmp t :: r, acc, K, h => by
    unfold resK at h
    split at h
    · rename_i v hv
      obtain ⟨vs, hk, hr⟩ := resK_out hm h
      refine ⟨v :: vs, by simpa using hk, fun g hg hg' w hw => ?_⟩
      rw [List.mapM_cons, Sem.run_bind, hg]
      have : tmps.getD t undef = v := by rw [Array.getD_eq_getD_getElem?, hm t v hv]; rfl
      simp only [this, Sem.run_pure, Result.andThen]
      rw [Sem.run_bind, hr g hg hg' w hw]
      rfl
    · exact h.elim
  | .cell a t :: r, acc, K, h => by
    unfold resK at h
    split at h
    · rename_i ad hv
      obtain ⟨v, h, hl⟩ := ldV_out h
      obtain ⟨vs, hk, hr⟩ := resK_out hm h
      refine ⟨v :: vs, by simpa using hk, fun g hg hg' w hw => ?_⟩
      rw [List.mapM_cons, Sem.run_bind, hg']
      have : tmps.getD a undef = .pointer (some ad) := by rw [Array.getD_eq_getD_getElem?, hm a _ hv]; rfl
      rw [this, Sem.run_bind, show (asAddr (.pointer (some ad))).run P w = .ok ad w from rfl]
      simp only [Result.andThen]
      rw [hl w hw]
      simp only [Result.andThen]
      rw [Sem.run_bind, hr g hg hg' w hw]
      rfl
    · exact h.elim

theorem evF_sound (hp : progOk P = true) {f : FuncId} {fn : Func} (hf : P.funcs[f]? = some fn) {args : List Value} {R : Value → Heap → Prop} {H : Heap}
    (h : evF P A fn args R H) : Fn P f args.toArray H R := by
  intro w hw
  subst hw
  unfold evF at h
  split at h
  · exact h.elim
  · rename_i c hb
    obtain ⟨hlen, h⟩ := bif_out h
    have hlen : args.length ≤ fn.ntmps := Nat.le_of_ble_eq_true hlen
    refine calls_of_wp hf hb ?_
    have hret : ∀ a' w' e', Mt fn.ntmps a' e' → Sim w w' → retK P fn R e' w'.heap → bodyPost P fn (fun e w' => ∃ v, e = .returned v ∧ Sim w w' ∧ R v w'.heap) .ret a' w' := by
      intro a' w' e' hm' hs' hr
      unfold retK at hr
      obtain ⟨vs, hk, hrun⟩ := resK_out (P := P) hm'.val hr
      have hres : (results fn a'.tmps).run P w' = .ok (if h : vs.toArray.size = 1 then vs.toArray[0] else .tuple vs.toArray) w' := by
        unfold results
        rw [Sem.run_bind, Array.mapM_eq_mapM_toList, Sem.run_map]
        rw [hrun _ (fun t => rfl) (fun a t => rfl) w' rfl]
        rfl
      refine ⟨hm'.defers, _, hres, _, rfl, hs', ?_⟩
      simp only [List.nil_append] at hk
      split at hk
      · exact hk
      · rename_i hne
        rw [dif_neg]
        · exact hk
        · intro hs
          simp only [List.size_toArray] at hs
          obtain ⟨v, rfl⟩ := List.length_eq_one_iff.1 hs
          exact hne v rfl
    refine evC_sound hp c _ _ _ w _ h ?_ ?_
    · refine ⟨?_, rfl, fun t v hv => ?_⟩
      · simp; omega
      · unfold env0 at hv
        rw [Array.getElem?_append]
        cases h1 : Nat.blt t args.length with
        | true =>
          rw [h1] at hv
          have : t < args.length := by rw [Nat.blt_eq] at h1; exact h1
          rw [if_pos (by simpa using this)]
          simpa using hv
        | false =>
          rw [h1] at hv
          have hge : ¬ t < args.length := by rw [← Nat.blt_eq, h1]; simp
          rw [if_neg (by simpa using hge)]
          cases h2 : Nat.blt t fn.ntmps with
          | true =>
            rw [h2] at hv
            have h2' : t < fn.ntmps := by rw [Nat.blt_eq] at h2; exact h2
            simp only [cond_false, cond_true, Option.some.injEq] at hv
            subst hv
            rw [Array.getElem?_replicate, if_pos (by simp; omega)]
          | false => rw [h2] at hv; cases hv
    · intro a' w' e' hm' hs' _
      refine ⟨fun hn => ?_, fun i hx => hx.elim, fun hr => hret a' w' e' hm' hs' hr⟩
      exact hret a' w' e' hm' hs' hn
end
end Go.Ev
namespace Go.Ev
/-- The results of a call, by their shapes. -/
def RT : List Sh → Type
  | [] => Unit
  | s :: r => ShT s × RT r
def embR : (l : List Sh) → RT l → List Value
  | [], _ => []
  | s :: r, x => embS s x.1 :: embR r x.2
def xR : (l : List Sh) → List Value → (RT l → Prop) → Prop
  | [], [], K => K ()
  | s :: r, v :: vs, K => xS s v fun x => xR r vs fun xs => K (x, xs)
  | _, _, _ => False
def xT (l : List Sh) (v : Value) (K : RT l → Prop) : Prop := match v with | .tuple vs => xR l vs.toList K | _ => False
theorem xR_out : ∀ {l : List Sh} {vs : List Value} {K : RT l → Prop}, xR l vs K → ∃ x, vs = embR l x ∧ K x
  | [], [], K, h => ⟨(), rfl, h⟩
  | [], _ :: _, K, h => by simp only [xR] at h
  | c :: cs, [], K, h => by simp only [xR] at h
  | c :: cs, v :: vs, K, h => by
    obtain ⟨x, hx, h1⟩ := xS_out (show xS c v _ from h)
    obtain ⟨xs, hxs, h2⟩ := xR_out h1
    exact ⟨(x, xs), by rw [hx, hxs]; rfl, h2⟩
theorem xT_out {l : List Sh} {v : Value} {K : RT l → Prop} (h : xT l v K) : ∃ x, v = .tuple (embR l x).toArray ∧ K x := by
  cases v <;> simp only [xT] at h
  obtain ⟨x, hx, h1⟩ := xR_out h
  exact ⟨x, by rw [← hx], h1⟩
end Go.Ev
