/- The law of TopLimits is walked; the row gives the first heap. -/
import Derived.Test.YtmgbpamhlojpiaaGreatDoorTb
import Derived.Test.YtmgbpamhlojpiaaGreatDoorRows
import Derived.Lib.LaidU8
import Derived.Shelf.Vars
import Derived.LaidMore
import Derived.Lay
set_option linter.unusedVariables false
/-! The law's walk: its three sums by hand, all else run. -/
namespace Go.X
open Go.Ex Go.Proofs
def opsOf : Code → Array Oper | .region _ ops _ => ops | _ => #[]
theorem code_eq : bTL = .seq (.region 0 (opsOf (cL bTL)) false) (.seq (.region 1 (opsOf (cL (cR bTL))) false)
    (.seq (.region 2 (opsOf (cL tl2)) false) (.seq (.region 3 (opsOf (cL (cR tl2))) false) (.seq (.region 4 (opsOf (cL (cR (cR tl2)))) false)
    (.seq (.seq (.region 5 (opsOf (cL (cL (cR (cR (cR tl2)))))) false) (cR (cL (cR (cR (cR tl2)))))) (cR (cR (cR (cR tl2))))))))) := by kernel_rfl
theorem r0_eq (e : Env) (H : Heap) (K : Env → Heap → Prop) : evOps Tryz.prog (opsOf (cL bTL)) (opsOf (cL bTL)).toList 0 e H K = evPure Tryz.prog (.assign (.const (.bool false))) e (fun v => K (put e (some 6) v) H) := by kernel_rfl
theorem r1_eq (e : Env) (H : Heap) (K : Env → Heap → Prop) : evOps Tryz.prog (opsOf (cL (cR bTL))) (opsOf (cL (cR bTL))).toList 0 e H K =
    evPure Tryz.prog (.move (.tmp 0)) e fun v1 => evPure Tryz.prog (.convert 3 22 (.tmp 21)) (put e (some 21) v1) fun v2 =>
    evPure Tryz.prog (.binOp .rem 22 (.tmp 22) (.const (.int .u64 30)) 22) (put (put e (some 21) v1) (some 22) v2) fun v3 =>
    evPure Tryz.prog (.convert 22 3 (.tmp 23)) (put (put (put e (some 21) v1) (some 22) v2) (some 23) v3) fun v4 =>
    evPure Tryz.prog (.binOp .add 3 (.const (.int .i64 1)) (.tmp 24) 3) (put (put (put (put e (some 21) v1) (some 22) v2) (some 23) v3) (some 24) v4) fun v5 =>
    evPure Tryz.prog (.move (.tmp 1)) (put (put (put (put (put e (some 21) v1) (some 22) v2) (some 23) v3) (some 24) v4) (some 25) v5) fun v6 =>
    evPure Tryz.prog (.convert 3 22 (.tmp 26)) (put (put (put (put (put (put e (some 21) v1) (some 22) v2) (some 23) v3) (some 24) v4) (some 25) v5) (some 26) v6) fun v7 =>
    evPure Tryz.prog (.binOp .rem 22 (.tmp 27) (.const (.int .u64 31)) 22) (put (put (put (put (put (put (put e (some 21) v1) (some 22) v2) (some 23) v3) (some 24) v4) (some 25) v5) (some 26) v6) (some 27) v7) fun v8 =>
    evPure Tryz.prog (.convert 22 3 (.tmp 28)) (put (put (put (put (put (put (put (put e (some 21) v1) (some 22) v2) (some 23) v3) (some 24) v4) (some 25) v5) (some 26) v6) (some 27) v7) (some 28) v8) fun v9 =>
    evPure Tryz.prog (.assign (.tmp 25)) (put (put (put (put (put (put (put (put (put e (some 21) v1) (some 22) v2) (some 23) v3) (some 24) v4) (some 25) v5) (some 26) v6) (some 27) v7) (some 28) v8) (some 29) v9) fun v10 =>
    evPure Tryz.prog (.assign (.tmp 29)) (put (put (put (put (put (put (put (put (put (put e (some 21) v1) (some 22) v2) (some 23) v3) (some 24) v4) (some 25) v5) (some 26) v6) (some 27) v7) (some 28) v8) (some 29) v9) (some 7) v10) fun v11 =>
    K (put (put (put (put (put (put (put (put (put (put (put e (some 21) v1) (some 22) v2) (some 23) v3) (some 24) v4) (some 25) v5) (some 26) v6) (some 27) v7) (some 28) v8) (some 29) v9) (some 7) v10) (some 8) v11) H := by kernel_rfl
theorem r5_eq (e : Env) (H : Heap) (K : Env → Heap → Prop) : evOps Tryz.prog (opsOf (cL (cL (cR (cR (cR tl2)))))) (opsOf (cL (cL (cR (cR (cR tl2)))))).toList 0 e H K =
    evPure Tryz.prog (.move (.tmp 2)) e fun v1 => evPure Tryz.prog (.convert 3 22 (.tmp 33)) (put e (some 33) v1) fun v2 =>
    evPure Tryz.prog (.binOp .rem 22 (.tmp 34) (.const (.int .u64 4)) 22) (put (put e (some 33) v1) (some 34) v2) fun v3 => K (put (put (put e (some 33) v1) (some 34) v2) (some 35) v3) H := by kernel_rfl
theorem u3 : Tryz.prog.underlying 3 = some (.int .i64) := by kernel_rfl
theorem u22 : Tryz.prog.underlying 22 = some (.int .u64) := by kernel_rfl
section
variable {P : Program} {e : Env} {K : Value → Prop}
theorem p_move {t : Nat} {v : Value} (h : e t = some v) (hk : K v) : evPure P (.move (.tmp t)) e K := .inl (by simp only [evPure0, o1, opv, h]; exact hk)
theorem p_assign {t : Nat} {v : Value} (h : e t = some v) (hk : K v) : evPure P (.assign (.tmp t)) e K := .inl (by simp only [evPure0, o1, opv, h]; exact hk)
theorem p_assignC {v : Value} (hk : K v) : evPure P (.assign (.const v)) e K := .inl (by simp only [evPure0, o1, opv]; exact hk)
theorem p_conv {t : Nat} {s d : TypeId} {k k' : IntKind} {n : Int} (h : e t = some (.int k' n)) (hs : P.underlying s = some (.int k')) (hd : P.underlying d = some (.int k)) (hk : K (.int k (k.wrap n))) : evPure P (.convert s d (.tmp t)) e K :=
  .inl (by simp only [evPure0, o1, opv, h, convK, hs, hd]; exact hk)
theorem p_rem {t : Nat} {ty yt : TypeId} {k : IntKind} {a b : Int} (h : e t = some (.int k a)) (hb : b ≠ 0) (hk : K (.int k (a.tmod b))) : evPure P (.binOp .rem ty (.tmp t) (.const (.int k b)) yt) e K :=
  .inl (by simp only [evPure0, o1, opv, h, binAll, binI, if_true]; exact ⟨hb, hk⟩)
theorem p_addC {t : Nat} {ty yt : TypeId} {k : IntKind} {a b : Int} (h : e t = some (.int k a)) (hk : K (.int k (k.wrap (b + a)))) : evPure P (.binOp .add ty (.const (.int k b)) (.tmp t) yt) e K :=
  .inl (by simp only [evPure0, o1, opv, h, binAll, binI, if_true]; exact hk)
end
theorem tmod_u64 {x b : Int} {r : Nat} (hb : 0 < b) (h : (IntKind.u64.wrap x).tmod b = r) (hr : r ≤ 30) : IntKind.i64.wrap ((IntKind.u64.wrap x).tmod b) = (r : Int) := by
  rw [h]; exact wrap_i64z (by omega) (by omega)
theorem r1_ev {e : Env} {H : Heap} {K : Env → Heap → Prop} {n most : Int} {k m : Nat} (h0 : e 0 = some (.int .i64 n)) (h1 : e 1 = some (.int .i64 most))
    (hk : (IntKind.u64.wrap n).tmod 30 = (k : Int)) (hm : (IntKind.u64.wrap most).tmod 31 = (m : Int)) (hkk : k ≤ 29) (hmm : m ≤ 30)
    (hK : ∀ e', e' 2 = e 2 → e' 6 = e 6 → e' 7 = some (.int .i64 ((k + 1 : Nat) : Int)) → e' 8 = some (.int .i64 (m : Int)) → K e' H) : evOps Tryz.prog (opsOf (cL (cR bTL))) (opsOf (cL (cR bTL))).toList 0 e H K := by
  rw [r1_eq]
  refine p_move h0 (p_conv (n := n) rfl u3 u22 (p_rem rfl (by omega) (p_conv rfl u22 u3 (p_addC rfl (p_move (v := .int .i64 most) h1 (p_conv (n := most) rfl u3 u22 (p_rem rfl (by omega) (p_conv rfl u22 u3 (p_assign rfl (p_assign rfl (hK _ rfl rfl ?_ ?_)))))))))))
  · show some (Value.int .i64 _) = _
    rw [tmod_u64 (by omega) hk (by omega), wrap_i64z (by omega) (by omega)]
    congr 2; omega
  · show some (Value.int .i64 _) = _
    rw [tmod_u64 (by omega) hm (by omega)]
theorem r5_ev {e : Env} {H : Heap} {K : Env → Heap → Prop} {which : Int} {c : Nat} (h0 : e 2 = some (.int .i64 which)) (hc : (IntKind.u64.wrap which).tmod 4 = (c : Int))
    (hK : ∀ e', (∀ t, t ≠ 33 → t ≠ 34 → t ≠ 35 → e' t = e t) → e' 33 = some (.int .i64 which) → e' 34 = some (.int .u64 (IntKind.u64.wrap which)) → e' 35 = some (.int .u64 (c : Int)) → K e' H) : evOps Tryz.prog (opsOf (cL (cL (cR (cR (cR tl2)))))) (opsOf (cL (cL (cR (cR (cR tl2)))))).toList 0 e H K := by
  rw [r5_eq]
  refine p_move h0 (p_conv (n := which) rfl u3 u22 (p_rem rfl (by omega) (hK _ (fun t h1 h2 h3 => ?_) rfl rfl ?_)))
  · simp only [put_some, if_neg h1, if_neg h2, if_neg h3]
  · show some (Value.int .u64 _) = _
    rw [hc]
section
variable {M : Nat} {U : Un} {N : Nat} {Ds : List Deferred}
/-- A piece that is run, ahead of another one. -/
theorem seq_x {cf : CallF} (hcf : CallOk Tryz.prog M cf) {ord : Nat → An} {n : Nat} {x y : Code} {env : Tr V} {h : Hp} {k : Tr V → Hp → Bool} (hh : xC Tryz.prog cf ord N n x env h (nK k) = true)
    {ρ : Rho} {e : Env} {a : Act} {w : World} {Q : Exit → Act → World → Prop} (he : E ρ M env e) (r : R ρ M U h w.heap) (hm : Mt N Ds a e)
    (hq : ∀ env' h' ρ' e' a' w', k env' h' = true → Le ρ ρ' → E ρ' M env' e' → R ρ' M U h' w'.heap → Mt N Ds a' e' → Sim w w' → y.wp Tryz.prog Q a' w') : (Code.seq x y).wp Tryz.prog Q a w := by
  refine wp_seq (xC_sound (U := U) (Ds := Ds) prog_ok hcf n x env h _ hh ρ e a w _ he r hm ?_)
  intro ex env' h' ρ' e' a' w' hk hl he' r' hm' hs'
  cases ex with
  | n => exact hq _ _ _ _ _ _ hk hl he' r' hm' hs'
  | x i => cases hk
  | r => cases hk
/-- A region that is run: what else there is stays. -/
theorem reg_x {cf : CallF} (hcf : CallOk Tryz.prog M cf) {ord : Nat → An} {n id : Nat} {ops : Array Oper} {y : Code} {env : Tr V} {h : Hp} {k : Tr V → Hp → Bool} (hh : xC Tryz.prog cf ord N (n + 1) (.region id ops false) env h (nK k) = true)
    {ρ : Rho} {e : Env} {a : Act} {w : World} {Q : Exit → Act → World → Prop} (he : E ρ M env e) (r : R ρ M U h w.heap) (hm : Mt N Ds a e)
    (hq : ∀ env' h' ρ' e' a' w', k env' h' = true → Le ρ ρ' → E ρ' M env' e' → R ρ' M U h' w'.heap → Mt N Ds a' e' → Sim w w' → Keeps (regDsts ops) a a' → y.wp Tryz.prog Q a' w') : (Code.seq (.region id ops false) y).wp Tryz.prog Q a w := by
  rw [xC_succ] at hh
  obtain ⟨hN, hh⟩ := bif_t (show (bif dstsOk N ops then xOps Tryz.prog cf ops ops.toList env h fun env h => nK k .n env h else false) = true from hh)
  have := xOps_out (U := U) prog_ok hcf (ops := ops) (K := fun env h => nK k .n env h) ops.toList 0 ρ env h e w.heap hh he r
  exact wp_seq (wp_region_list (evOps_out prog_ok hN a w (fun a' w' e' hm' hs' hkp ⟨ρ', env', h', hl, he', r', hk⟩ => hq _ _ _ _ _ _ hk hl he' r' hm' hs' hkp) ops.toList 0 e a w (fun o ho => by simpa using ho) this hm (Sim.refl w) (Keeps.refl _ _)))
/-- A region reckoned by hand. -/
theorem reg_e {id : Nat} {ops : Array Oper} {y : Code} (hN : dstsOk N ops = true) {e : Env} {a : Act} {w : World} {K : Env → Heap → Prop} {Q : Exit → Act → World → Prop} (hm : Mt N Ds a e) (hh : evOps Tryz.prog ops ops.toList 0 e w.heap K)
    (hq : ∀ a' w' e', Mt N Ds a' e' → Sim w w' → K e' w'.heap → y.wp Tryz.prog Q a' w') : (Code.seq (.region id ops false) y).wp Tryz.prog Q a w :=
  wp_seq (wp_region_list (evOps_out prog_ok hN a w (fun a' w' e' hm' hs' _ hk => hq a' w' e' hm' hs' hk) ops.toList 0 e a w (fun o ho => by simpa using ho) hh hm (Sim.refl w) (Keeps.refl _ _)))
end
/-- One slot more is known. -/
def addE (e : Env) (t : Nat) (v : Value) : Env := fun j => if j = t then some v else e j
set_option maxRecDepth 100000 in
theorem law_fn {H : Heap} {ρ : Rho} {U : Un} {M : Nat} (r : R ρ M U (hpG G 0 30) H) {n most which : Int} {k c : Nat}
    (hk : (IntKind.u64.wrap n).tmod 30 = (k : Int)) (hm : (IntKind.u64.wrap most).tmod 31 = (M : Int)) (hc : (IntKind.u64.wrap which).tmod 4 = (c : Int)) (hkk : k ≤ 29) (hM : M ≤ 30)
    (hrun : runTL c (k + 1) = true) : Ex.Fn Tryz.prog 3 #[.int .i64 n, .int .i64 most, .int .i64 which] H fun v H' => Af ρ M U finV v H' := by
  intro w hw
  subst hw
  refine calls_of_wp (fn := fnOf 3) (c := bTL) (by kernel_rfl) (by kernel_rfl) ?_
  have hn : (fnOf 3).ntmps = 120 := by kernel_rfl
  have hm0 := mt0 (n := (fnOf 3).ntmps) (m := 3) (xs := [.int .i64 n, .int .i64 most, .int .i64 which]) (by rw [hn]; omega) rfl
  rw [hn] at hm0 ⊢
  rw [code_eq]
  unfold runTL at hrun
  simp only [insK_eq] at hrun
  refine reg_e (K := fun e' H' => e' 0 = some (.int .i64 n) ∧ e' 1 = some (.int .i64 most) ∧ e' 2 = some (.int .i64 which) ∧ e' 6 = some (.bool false) ∧ H' = w.heap) (by kernel_rfl) hm0 (by rw [r0_eq]; exact p_assignC ⟨rfl, rfl, rfl, rfl, rfl⟩) ?_
  rintro a1 w1 e1 hm1 hs1 ⟨i0, i1, i2, i6, iH⟩
  refine reg_e (K := fun e' H' => e' 2 = some (.int .i64 which) ∧ e' 6 = some (.bool false) ∧ e' 7 = some (.int .i64 ((k + 1 : Nat) : Int)) ∧ e' 8 = some (.int .i64 (M : Int)) ∧ H' = w.heap) (by kernel_rfl) hm1
    (by exact r1_ev i0 i1 hk hm hkk hM fun e' g2 g6 g7 g8 => ⟨by rw [g2, i2], by rw [g6, i6], g7, g8, iH⟩) ?_
  rintro a2 w2 e2 hm2 hs2 ⟨j2, j6, j7, j8, jH⟩
  have he2 : E ρ M (ins (.sym 1 0) (pth 8) (ins (.int .i64 (.ofNat (k + 1))) (pth 7) (ins (.bool false) (pth 6) .lf))) e2 := by
    intro t v hv
    rw [look_ins, look_ins, look_ins, look_lf] at hv
    split at hv
    · rename_i h; cases hv; obtain rfl := pth_inj h; exact ⟨_, j8, by have := Dn.sym (ρ := ρ) (M := M) 1 0; simpa using this⟩
    · split at hv
      · rename_i h; cases hv; obtain rfl := pth_inj h; exact ⟨_, j7, .int _ _⟩
      · split at hv
        · rename_i h; cases hv; obtain rfl := pth_inj h; exact ⟨_, j6, .bool _⟩
        · cases hv
  have r2 : R ρ M U (hpG G 0 30) w2.heap := by rw [jH]; exact r
  have tm : ∀ {a a' : Act} {ops : Array Oper}, Keeps (regDsts ops) a a' → (regDsts ops).contains 2 = false → a.tmps[2]? = some (.int .i64 which) → a'.tmps[2]? = some (.int .i64 which) := fun hkp hc h => by
    rw [hkp 2 (fun hmem => by rw [List.contains_iff_mem.2 hmem] at hc; cases hc), h]
  refine reg_x (U := U) (cfT_ok M) (n := 99999) hrun he2 r2 hm2 ?_
  intro env3 h3 ρ3 e3 a3 w3 hk3 hl3 he3 r3 hm3 hs3 hkp3
  have t3 := tm hkp3 (by kernel_rfl) (hm2.val 2 _ j2)
  refine reg_x (U := U) (cfT_ok M) (n := 99999) hk3 he3 r3 hm3 ?_
  intro env4 h4 ρ4 e4 a4 w4 hk4 hl4 he4 r4 hm4 hs4 hkp4
  have t4 := tm hkp4 (by kernel_rfl) t3
  refine reg_x (U := U) (cfT_ok M) (n := 99999) hk4 he4 r4 hm4 ?_
  intro env5 h5 ρ5 e5 a5 w5 hk5 hl5 he5 r5 hm5 hs5 hkp5
  have t5 := tm hkp5 (by kernel_rfl) t4
  refine wp_seq ?_
  have hm5' : Mt 120 [] a5 (addE e5 2 (.int .i64 which)) := ⟨hm5.size, hm5.defers, fun t v hv => by
    unfold addE at hv
    split at hv
    · rename_i ht; cases hv; rw [ht]; exact t5
    · exact hm5.val t v hv⟩
  refine reg_e (K := fun e' H' => (∀ t, t ≠ 2 → t ≠ 33 → t ≠ 34 → t ≠ 35 → e' t = e5 t) ∧ e' 35 = some (.int .u64 (c : Int)) ∧ e' 2 = some (.int .i64 which) ∧ e' 33 = some (.int .i64 which) ∧ e' 34 = some (.int .u64 (IntKind.u64.wrap which)) ∧ H' = w5.heap) (by kernel_rfl) hm5'
    (by exact r5_ev (which := which) rfl hc fun e' g g33 g34 g35 => ⟨fun t h2 h33 h34 h35 => by rw [g t h33 h34 h35]; unfold addE; rw [if_neg h2], g35, g 2 (by omega) (by omega) (by omega), g33, g34, rfl⟩) ?_
  rintro a6 w6 e6 hm6 hs6 ⟨g6, g35, g2, g33, g34, gH⟩
  have he6 : E ρ5 M (ins (.int .u64 (.ofNat c)) (pth 35) (ins .any (pth 34) (ins .any (pth 33) (ins .any (pth 2) env5)))) e6 := by
    have val : ∀ t v, e6 t = some v → Dn ρ5 M .any v := fun _ _ _ => .any _
    intro t v hv
    rw [look_ins, look_ins, look_ins, look_ins] at hv
    by_cases c35 : pth t = pth 35
    · rw [if_pos c35] at hv; cases hv; obtain rfl := pth_inj c35; exact ⟨_, g35, .int _ _⟩
    rw [if_neg c35] at hv
    by_cases c34 : pth t = pth 34
    · rw [if_pos c34] at hv; cases hv; obtain rfl := pth_inj c34; exact ⟨_, g34, .any _⟩
    rw [if_neg c34] at hv
    by_cases c33 : pth t = pth 33
    · rw [if_pos c33] at hv; cases hv; obtain rfl := pth_inj c33; exact ⟨_, g33, .any _⟩
    rw [if_neg c33] at hv
    by_cases c2 : pth t = pth 2
    · rw [if_pos c2] at hv; cases hv; obtain rfl := pth_inj c2; exact ⟨_, g2, .any _⟩
    rw [if_neg c2] at hv
    have hne : t ≠ 2 ∧ t ≠ 33 ∧ t ≠ 34 ∧ t ≠ 35 := ⟨fun e => c2 (by rw [e]), fun e => c33 (by rw [e]), fun e => c34 (by rw [e]), fun e => c35 (by rw [e])⟩
    rw [g6 t hne.1 hne.2.1 hne.2.2.1 hne.2.2.2]
    exact he5 t v hv
  have r6 : R ρ5 M U h5 w6.heap := by rw [gH]; exact r5
  refine xC_sound (U := U) (Ds := []) prog_ok (cfT_ok M) 100000 _ _ h5 _ hk5 ρ5 e6 a6 w6 _ he6 r6 hm6 ?_
  intro ex7 env7 h7 ρ7 e7 a7 w7 hk7 hl7 he7 r7 hm7 hs7
  cases ex7 with
  | x i => cases hk7
  | r => cases hk7
  | n =>
  have hk7 : xC Tryz.prog cfT (ann 3) 120 100000 (cR (cR (cR (cR tl2)))) env7 h7 finK = true := hk7
  refine xC_sound (U := U) (Ds := []) prog_ok (cfT_ok M) 100000 _ env7 h7 _ hk7 ρ7 e7 a7 w7 _ he7 r7 hm7 ?_
  intro ex env' h' ρ' e' a' w' hk' hl' he' r' hm' hs'
  have hl : Le ρ ρ' := (((hl3.trans hl4).trans hl5).trans hl7).trans hl'
  have hs : Sim w w' := (((((((hs1.trans hs2).trans hs3).trans hs4).trans hs5).trans hs6).trans hs7).trans hs')
  have fin : (xRes Tryz.prog env' h' (fnOf 3).results.toList fun r => resS r finV h') = true → bodyPost Tryz.prog (fnOf 3) (fun e w' => ∃ v, e = .returned v ∧ Sim w w' ∧ Af ρ M U finV v w'.heap) .ret a' w' := by
    intro hk
    obtain ⟨vs', xs', hk, hdr, hrun⟩ := xRes_out (P := Tryz.prog) he' r' hm'.val hk
    obtain ⟨v, hdv, hk⟩ := resS_out hdr hk
    have hres : (results (fnOf 3) a'.tmps).run Tryz.prog w' = .ok (if h : xs'.toArray.size = 1 then xs'.toArray[0] else .tuple xs'.toArray) w' := by
      unfold results
      rw [Sem.run_bind, Array.mapM_eq_mapM_toList, Sem.run_map]
      rw [hrun _ (fun t => rfl) (fun a t => rfl) w' rfl]
      rfl
    exact ⟨hm'.defers, _, hres, _, rfl, hs, ρ', v, h', hl, r', hdv, hk⟩
  cases ex with
  | n => exact fin hk'
  | x i => cases hk'
  | r => exact fin hk'
end Go.X
/-! From the row's list to the interpreter's first heap; from its last one to 'all stands as it did'. -/
namespace Go.X
open Go.Ex Go.Proofs Go.Lib
def vOf : V → Value
  | .int k n => .int k n
  | _ => .bool false
noncomputable def arrOf (c : List V) : Array Value := (c.map vOf).toArray
theorem unp_inj : ∀ {p q : Ps}, unp p = unp q → p = q
  | .h, .h, _ => rfl
  | .h, .o _, h => by simp only [unp] at h; omega
  | .h, .i _, h => by simp only [unp] at h; omega
  | .o _, .h, h => by simp only [unp] at h; omega
  | .o p, .o q, h => by simp only [unp] at h; rw [unp_inj (p := p) (q := q) (by omega)]
  | .o _, .i _, h => by simp only [unp] at h; omega
  | .i _, .h, h => by simp only [unp] at h; omega
  | .i _, .o _, h => by simp only [unp] at h; omega
  | .i p, .i q, h => by simp only [unp] at h; rw [unp_inj (p := p) (q := q) (by omega)]
def rho0 : Rho := fun p => match p with | .o q => some (unp q, 0, 0) | _ => none
/-- The objects that are listed and read. -/
structure Tabs (H : Heap) : Prop where
  h0 : H[0]? = some (.cells (arrOf gc0) 198 (0, 0))
  h1 : H[1]? = some (.cells (arrOf gc1) 201 (0, 0))
  h6 : H[6]? = some (.cells (arrOf gc6) 327 (0, 0))
  h7 : H[7]? = some (.cells (arrOf gc7) 386 (0, 0))
def isTab (i : Nat) : Bool := Nat.beq i 0 || Nat.beq i 1 || Nat.beq i 6 || Nat.beq i 7
def un0 (H : Heap) : Un := fun i => bif isTab i then none else H[i]?
theorem intsOk (c : List V) (h : (c.all fun v => match v with | .int _ _ => true | _ => false) = true) {ρ : Rho} {M : Nat} : ∀ (j : Nat) v, c[j]? = some v → Dn ρ M v (vOf v) := by
  intro j v hv
  have := List.all_eq_true.1 h v (List.mem_of_getElem? hv)
  cases v <;> first | exact .int _ _ | cases this
theorem obTab {ρ : Rho} {M t : Nat} (c : List V) (h : (c.all fun v => match v with | .int _ _ => true | _ => false) = true) : ObR ρ M 0 0 (.cells c t 0 false true) (.cells (arrOf c) t (0, 0)) := by
  refine ⟨_, _, rfl, fun j v hv => ⟨vOf v, ?_, intsOk c h j v hv⟩, Nat.le_refl _, by simp [arrOf, rng], ⟨(fun h => by cases h), fun _ => ⟨rfl, fun _ _ => rfl⟩⟩⟩
  rw [Nat.zero_add]
  simp [arrOf, hv]
/-- What stands in the trie of the tables. -/
theorem look_G {q : Ps} {o : Ob} (h : look q G = some o) : (q = pth 0 ∧ o = ob0) ∨ (q = pth 1 ∧ o = ob1) ∨ (q = pth 6 ∧ o = ob6) ∨ (q = pth 7 ∧ o = ob7) := by
  have e0 : pth 0 = .h := by kernel_rfl
  have e1 : pth 1 = .o .h := by kernel_rfl
  have e6 : pth 6 = .i (.i .h) := by kernel_rfl
  have e7 : pth 7 = .o (.o (.o .h)) := by kernel_rfl
  rw [e0, e1, e6, e7]
  unfold G at h
  match q, h with
  | .h, h => simp only [look, Option.some.injEq] at h; exact .inl ⟨rfl, h.symm⟩
  | .o .h, h => simp only [look, Option.some.injEq] at h; exact .inr (.inl ⟨rfl, h.symm⟩)
  | .o (.o .h), h => simp [look] at h
  | .o (.o (.o .h)), h => simp only [look, Option.some.injEq] at h; exact .inr (.inr (.inr ⟨rfl, h.symm⟩))
  | .o (.o (.o (.o p))), h => simp [look, look_lf] at h
  | .o (.o (.o (.i p))), h => simp [look, look_lf] at h
  | .o (.o (.i p)), h => simp [look, look_lf] at h
  | .o (.i p), h => simp [look, look_lf] at h
  | .i .h, h => simp [look] at h
  | .i (.o p), h => simp [look, look_lf] at h
  | .i (.i .h), h => simp only [look, Option.some.injEq] at h; exact .inr (.inr (.inl ⟨rfl, h.symm⟩))
  | .i (.i (.o p)), h => simp [look, look_lf] at h
  | .i (.i (.i p)), h => simp [look, look_lf] at h
theorem unp_pth (n : Nat) : unp (pth n) = n := unp_pthF n n (Nat.le_refl _)
theorem ints0 : (gc0.all fun v => match v with | .int _ _ => true | _ => false) = true := by kernel_rfl
theorem ints1 : (gc1.all fun v => match v with | .int _ _ => true | _ => false) = true := by kernel_rfl
theorem ints6 : (gc6.all fun v => match v with | .int _ _ => true | _ => false) = true := by kernel_rfl
theorem ints7 : (gc7.all fun v => match v with | .int _ _ => true | _ => false) = true := by kernel_rfl
/-- The first heap. -/
theorem r_first {H : Heap} (ht : Tabs H) (hml : ∃ t fr m, H[5]? = some (.cells #[.int .i64 m] t fr)) {M hi : Nat} (hM : M ≤ hi) : R rho0 M (un0 H) (hpG G 0 hi) H := by
  have key : ∀ b o, look b (hpG G 0 hi).t = some o → ∃ q, b = .o q ∧ look q G = some o := by
    intro b o hb
    cases b with
    | h => cases hb
    | o q => exact ⟨q, rfl, hb⟩
    | i q => have : look q (Tr.lf : Tr Ob) = some o := hb; rw [look_lf] at this; cases this
  refine ⟨fun g => ?_, fun p hp => absurd rfl hp, fun b o hb _ => ?_, fun b b' o o' x x' h1 h2 _ _ e1 e2 e => ?_, fun i o hi => ?_, ⟨Nat.zero_le _, hM⟩, ?_⟩
  · show some (unp (pth g), 0, 0) = _
    rw [unp_pth]
  · obtain ⟨q, rfl, hq⟩ := key b o hb
    rcases look_G hq with ⟨rfl, rfl⟩ | ⟨rfl, rfl⟩ | ⟨rfl, rfl⟩ | ⟨rfl, rfl⟩
    · exact ⟨0, 0, 0, _, by show some (unp (pth 0), 0, 0) = _; rw [unp_pth], ht.h0, rfl, obTab gc0 ints0⟩
    · exact ⟨1, 0, 0, _, by show some (unp (pth 1), 0, 0) = _; rw [unp_pth], ht.h1, rfl, obTab gc1 ints1⟩
    · exact ⟨6, 0, 0, _, by show some (unp (pth 6), 0, 0) = _; rw [unp_pth], ht.h6, rfl, obTab gc6 ints6⟩
    · exact ⟨7, 0, 0, _, by show some (unp (pth 7), 0, 0) = _; rw [unp_pth], ht.h7, rfl, obTab gc7 ints7⟩
  · obtain ⟨q, rfl, _⟩ := key b o h1
    obtain ⟨q', rfl, _⟩ := key b' o' h2
    cases e1; cases e2
    rw [unp_inj e]
  · unfold un0 at hi
    cases h : isTab i with
    | true => rw [h] at hi; cases hi
    | false => rw [h] at hi; exact hi
  · exact hml
theorem arr_is {c : List V} {arr : Array Value} {ρ : Rho} {M : Nat} (hc : (c.all fun v => match v with | .int _ _ => true | _ => false) = true) (h : ∀ (j : Nat) v, c[j]? = some v → ∃ y, arr[0 + j]? = some y ∧ Dn ρ M v y) (hs : 0 + rng c 0 0 false = arr.size) : arr = arrOf c := by
  apply Array.ext_getElem?
  intro j
  by_cases hj : j < c.length
  · obtain ⟨y, hy, hd⟩ := h j c[j] (by simp [hj])
    rw [Nat.zero_add] at hy
    rw [hy]
    have h1 := List.all_eq_true.1 hc c[j] (List.getElem_mem hj)
    have : y = vOf c[j] := by
      generalize hv : c[j] = v at hd h1
      cases hd with
      | int => rfl
      | _ => cases h1
    simp [arrOf, hj, this]
  · rw [Array.getElem?_eq_none (by simp [rng] at hs; omega), Array.getElem?_eq_none (by simp [arrOf]; omega)]
/-- The last heap: what was there is there. -/
theorem r_last {ρ' : Rho} {M : Nat} {H H' : Heap} {h' : Hp} (ht : Tabs H) (hl : Le rho0 ρ') (r : R ρ' M (un0 H) h' H') (hG : trE (gPart h'.t) G = true) (hsz : 0 < H.size) : H.size ≤ H'.size ∧ ∀ k, k < H.size → H'[k]? = H[k]? := by
  have hg := (trE_out hG).1
  have tab : ∀ (q : Ps) (c : List V) (t : Nat), look q G = some (.cells c t 0 false true) → (c.all fun v => match v with | .int _ _ => true | _ => false) = true → H'[unp q]? = some (.cells (arrOf c) t (0, 0)) := by
    intro q c t hq hc
    obtain ⟨blk, base, kap, x, h1, h2, _, arr, frz, rfl, h4, _, h6, _, h8⟩ := r.ob (.o q) (.cells c t 0 false true) (by rw [← look_gPart, hg]; exact hq) trivial
    have := hl (.o q) _ rfl
    rw [this] at h1
    cases h1
    obtain ⟨_, h9⟩ := h8 rfl
    rw [h9 rfl rfl] at h2
    rw [h2, arr_is hc h4 h6]
  have all : ∀ k, k < H.size → H'[k]? = H[k]? := by
    intro k hk
    cases hi : isTab k with
    | false =>
      have : un0 H k = some H[k] := by unfold un0; rw [hi]; simp [hk]
      rw [r.un k _ this]
      simp [hk]
    | true =>
      unfold isTab at hi
      simp only [Bool.or_eq_true, Nat.beq_eq] at hi
      rcases hi with ((rfl | rfl) | rfl) | rfl
      · rw [ht.h0]; have := tab (pth 0) gc0 198 rfl ints0; rwa [unp_pth] at this
      · rw [ht.h1]; have := tab (pth 1) gc1 201 rfl ints1; rwa [unp_pth] at this
      · rw [ht.h6]; have := tab (pth 6) gc6 327 rfl ints6; rwa [unp_pth] at this
      · rw [ht.h7]; have := tab (pth 7) gc7 386 rfl ints7; rwa [unp_pth] at this
  refine ⟨?_, all⟩
  have := all (H.size - 1) (by omega)
  rcases Nat.lt_or_ge (H.size - 1) H'.size with h | h
  · omega
  · rw [Array.getElem?_eq_none h, Array.getElem?_eq_getElem (by omega)] at this
    cases this
end Go.X
/-! From the row's list and the world's shape to the tables. -/
namespace Go.X
open Go.Ex Go.Proofs Go.Lib Go.Proofs.YtmgbpamhlojpiaaGreatDoor
set_option maxRecDepth 100000
theorem shape_ty {w : World} (h : w.ShapedOpen Tryz.prog) {g t : Nat} (hg : g < Tryz.prog.globals.size) (h0 : (((begin Tryz.prog (fun _ _ => 0) default).world.heap[g]?).bind Obj.row?).map (·.2) = some t) :
    ∃ cs n, w.heap[g]? = some (.cells cs t (0, 0)) ∧ cs.size = n ∧ (((begin Tryz.prog (fun _ _ => 0) default).world.heap[g]?).bind Obj.row?).map (·.1.size) = some n := by
  obtain ⟨⟨zero, t'⟩, hz, rfl⟩ := Option.map_eq_some_iff.1 h0
  obtain ⟨cs, hh, hs, _⟩ := h.1 g zero t' hg hz
  exact ⟨cs, _, hh, hs, by rw [hz]; rfl⟩
theorem tab_at {w : World} (h : w.ShapedOpen Tryz.prog) {n : String} {d : DataW Unit} (hr : VarReads Tryz.prog w n d) {g t e len : Nat} {k : IntKind} {zs : List Int} (hg : g < Tryz.prog.globals.size)
    (h0 : (((begin Tryz.prog (fun _ _ => 0) default).world.heap[g]?).bind Obj.row?).map (·.2) = some t) (hn : Tryz.prog.globalNamed n = some g) (ht : (Tryz.prog.globals[g]?).map (·.type) = some t)
    (hu : Tryz.prog.underlying t = some (.array len e)) (he : Tryz.prog.underlying e = some (.int k)) (hce : Tryz.prog.cellsOf e = 1) (hct : Tryz.prog.cellsOf t = len) (hd : d = tabData k zs) {arr : Array Value} (ha : arr = (zs.map fun z => Value.int k z).toArray) :
    w.heap[g]? = some (.cells arr t (0, 0)) := by
  obtain ⟨cs, _, hh, _⟩ := shape_ty h hg h0
  obtain ⟨g', t', cs', fuel, p, hg', ht', hv, hd'⟩ := hr
  obtain rfl := Option.some.inj (hn.symm.trans hg')
  obtain rfl := Option.some.inj (ht.symm.trans ht')
  subst hd
  have hcs := cells_of_tab hu he hce hct hd'
  unfold World.var? at hv
  rw [hn] at hv
  simp only [Option.bind_some, hh, Option.some.injEq] at hv
  subst hv
  rw [hh, ha, ← hcs]
theorem acc_list : ((List.range 16).all fun i => match gc1[2 * i]?, gc1[2 * i + 1]? with | some (.int .u8 a), some (.int .u8 b) => decide (a = accLo i) && decide (b = accHi i) | _, _ => false) = true := by kernel_rfl
theorem acc_at {i : Nat} (hi : i < 16) : gc1[2 * i]? = some (.int .u8 (accLo i)) ∧ gc1[2 * i + 1]? = some (.int .u8 (accHi i)) := by
  have h := List.all_eq_true.1 acc_list i (List.mem_range.2 hi)
  split at h
  · rename_i a b h1 h2
    simp only [Bool.and_eq_true, decide_eq_true_eq] at h
    rw [h1, h2, h.1, h.2]
    exact ⟨rfl, rfl⟩
  · cases h
theorem tabs_of {w : World} (h : w.ShapedOpen Tryz.prog) (hl : laidMetH Tryz.prog Rows.topLimitsRow.laid w) : Tabs w.heap := by
  rw [MakeChecks.laidMetH_plain _ _ _ (by kernel_rfl)] at hl
  have r0 := laidMet.reads hl (n := "unicode/utf8.first") (d := Rows.laid_unicode_utf8_first) (by simp [Rows.topLimitsRow])
  have r1 := laidMet.reads hl (n := "unicode/utf8.acceptRanges") (d := Rows.laid_unicode_utf8_acceptRanges) (by simp [Rows.topLimitsRow])
  have r6 := laidMet.reads hl (n := "internal/strconv.uint64pow10") (d := Rows.laid_internal_strconv_uint64pow10) (by simp [Rows.topLimitsRow])
  have r7 := laidMet.reads hl (n := "math/bits.deBruijn64tab") (d := Rows.laid_math_bits_deBruijn64tab) (by simp [Rows.topLimitsRow])
  refine ⟨?_, ?_, ?_, ?_⟩
  · exact tab_at h r0 (len := 256) (e := 5) (k := .u8) (zs := gc0.map fun v => match v with | .int _ n => n | _ => 0) (of_decide_eq_true (by kernel_rfl)) (by kernel_rfl) (by kernel_rfl) (by kernel_rfl) (by kernel_rfl) (by kernel_rfl) (by kernel_rfl) (by kernel_rfl) (by kernel_rfl) (by kernel_rfl)
  · have hg : 1 < Tryz.prog.globals.size := of_decide_eq_true (by kernel_rfl)
    obtain ⟨cs, n, hh, hs, hn⟩ := shape_ty h hg (t := 201) (by kernel_rfl)
    have h32 : (((begin Tryz.prog (fun _ _ => 0) default).world.heap[1]?).bind Obj.row?).map (·.1.size) = some 32 := by kernel_rfl
    obtain rfl := Option.some.inj (h32.symm.trans hn)
    obtain ⟨g, t, cs', fuel, p, hg', ht', hv, hd⟩ := r1
    obtain rfl := Option.some.inj ((show Tryz.prog.globalNamed "unicode/utf8.acceptRanges" = some 1 by kernel_rfl).symm.trans hg')
    obtain rfl := Option.some.inj ((show (Tryz.prog.globals[1]?).map (·.type) = some 201 by kernel_rfl).symm.trans ht')
    unfold World.var? at hv
    rw [hg'] at hv
    simp only [Option.bind_some, hh, Option.some.injEq] at hv
    subst hv
    have hda : (Rows.laid_unicode_utf8_acceptRanges : DataW Unit) = acceptData := by kernel_rfl
    rw [hda] at hd
    have cell : ∀ i, i < 16 → cs[2 * i]? = some (.int .u8 (accLo i)) ∧ cs[2 * i + 1]? = some (.int .u8 (accHi i)) := by
      intro i hi
      obtain ⟨fuel', d, q, hdi, he⟩ := array_elem (show Tryz.prog.underlying 201 = some (.array 16 200) by kernel_rfl) hd i hi
      simp only [List.getElem?_map, List.getElem?_range hi, Option.map_some, Option.some.injEq] at hdi
      subst hdi
      have hc : Tryz.prog.cellsOf 200 = 2 := by kernel_rfl
      rw [hc] at he
      obtain ⟨fs, hfs, hf0, hf1, hfn⟩ : ∃ fs : Array Field, Tryz.prog.underlying 200 = some (.struct fs) ∧ (fs[0]?).map (fun f => (Tryz.prog.underlying f.type, f.offset, Tryz.prog.cellsOf f.type)) = some (some (.int .u8), 0, 1) ∧ (fs[1]?).map (fun f => (Tryz.prog.underlying f.type, f.offset, Tryz.prog.cellsOf f.type)) = some (some (.int .u8), 1, 1) ∧ fs.size = 2 := ⟨_, Tryz.underlying200, by kernel_rfl, by kernel_rfl, by kernel_rfl⟩
      have hcs := ints_of_struct hfs (fun j f hj => by
        match j, hj with
        | 0, hj => rw [hj] at hf0; simp only [Option.map_some, Option.some.injEq, Prod.mk.injEq] at hf0; exact hf0
        | 1, hj => rw [hj] at hf1; simp only [Option.map_some, Option.some.injEq, Prod.mk.injEq] at hf1; exact hf1
        | j + 2, hj => rw [Array.getElem?_eq_none (by omega)] at hj; cases hj) (by rw [hc, hfn]) he
      have e0 := congrArg (·[0]?) hcs
      have e1 := congrArg (·[1]?) hcs
      simp only [List.getElem?_take, List.getElem?_drop] at e0 e1
      constructor
      · rw [← Array.getElem?_toList]; simpa [Nat.mul_comm] using e0
      · rw [← Array.getElem?_toList]; simpa [Nat.mul_comm] using e1
    rw [hh]
    congr 2
    apply Array.ext_getElem?
    intro j
    have hl1 : gc1.length = 32 := by kernel_rfl
    by_cases hj : j < 32
    · have hi : j / 2 < 16 := by omega
      obtain ⟨c1, c2⟩ := cell _ hi
      obtain ⟨a1, a2⟩ := acc_at hi
      rcases Nat.mod_two_eq_zero_or_one j with hm | hm
      · have : j = 2 * (j / 2) := by omega
        rw [this, c1]
        simp [arrOf, a1, vOf]
      · have : j = 2 * (j / 2) + 1 := by omega
        rw [this, c2]
        simp [arrOf, a2, vOf]
    · rw [Array.getElem?_eq_none (by omega), Array.getElem?_eq_none (by simp [arrOf, hl1]; omega)]
  · exact tab_at h r6 (len := 20) (e := 131) (k := .u64) (zs := gc6.map fun v => match v with | .int _ n => n | _ => 0) (of_decide_eq_true (by kernel_rfl)) (by kernel_rfl) (by kernel_rfl) (by kernel_rfl) (by kernel_rfl) (by kernel_rfl) (by kernel_rfl) (by kernel_rfl) (by kernel_rfl) (by kernel_rfl)
  · exact tab_at h r7 (len := 64) (e := 5) (k := .u8) (zs := gc7.map fun v => match v with | .int _ n => n | _ => 0) (of_decide_eq_true (by kernel_rfl)) (by kernel_rfl) (by kernel_rfl) (by kernel_rfl) (by kernel_rfl) (by kernel_rfl) (by kernel_rfl) (by kernel_rfl) (by kernel_rfl) (by kernel_rfl)
theorem ml_of {w : World} (h : w.ShapedOpen Tryz.prog) : ∃ t fr m, w.heap[5]? = some (.cells #[.int .i64 m] t fr) := by
  obtain ⟨cs, n, hh, hs, hn⟩ := shape_ty h (g := 5) (t := 3) (of_decide_eq_true (by kernel_rfl)) (by kernel_rfl)
  have h1 : (((begin Tryz.prog (fun _ _ => 0) default).world.heap[5]?).bind Obj.row?).map (·.1.size) = some 1 := by kernel_rfl
  obtain rfl := Option.some.inj (h1.symm.trans hn)
  obtain ⟨m, hm⟩ := cell_of_shapedOpen_int (P := Tryz.prog) (g := 5) (t := 3) (zero := #[.int .i64 0]) h (of_decide_eq_true (by kernel_rfl)) (by kernel_rfl) rfl (by kernel_rfl) (by kernel_rfl) Tryz.underlying3
  unfold World.cell? at hm
  simp only [hh] at hm
  refine ⟨3, (0, 0), m, ?_⟩
  rw [hh]
  congr 2
  apply Array.ext_getElem?
  intro j
  match j with
  | 0 => simpa using hm
  | j + 1 => rw [Array.getElem?_eq_none (by omega), Array.getElem?_eq_none (by simp)]
end Go.X
