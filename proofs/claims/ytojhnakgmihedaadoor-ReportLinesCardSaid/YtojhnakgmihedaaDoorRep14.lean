import Derived.Test.YtojhnakgmihedaaDoorRep13
/-! Package report: made trees: what holds from round to round. -/
namespace Go.Ev
theorem SlN.ne {s : Nat} {H : Heap} {t u : TypeId} {xs : List Value} {p : Option Addr} {l c k : Nat} {cs : Array Value} {fr : Nat × Nat} (h : SlN s H t xs p l c) (hk : H[k]? = some (.cells cs u fr)) (hne : t ≠ u) : ¬ blkIs p k := by
  rintro ⟨a, ha, rfl⟩
  rcases h.2 with ⟨hp, _⟩ | ⟨b, cs', hp, hb, _⟩
  · rw [hp] at ha; cases ha
  · rw [hp] at ha
    cases ha
    simp only at hk
    rw [hk] at hb
    simp only [Option.some.injEq, Obj.cells.injEq] at hb
    exact hne hb.2.1.symm
theorem ndL_one (n : Nd) : ∀ v ∈ ndL n, One v := by
  intro v hv
  simp only [ndL, List.mem_cons, List.not_mem_nil, or_false] at hv
  rcases hv with rfl | rfl | rfl | rfl | rfl | rfl | rfl <;> exact ⟨by simp, by simp⟩
theorem ndflat_snoc (T : List Nd) (n : Nd) : (T.map ndL).flatten ++ ndL n = ((T ++ [n]).map ndL).flatten := by simp
def noNL (s : ByteArray) : Prop := (10 : UInt8) ∉ s.data.toList
def MkR (i : Nat) (n : Nd) : Prop := 2 ≤ n.k ∧ n.k ≤ 5 ∧ 1 ≤ n.d ∧ n.d ≤ (i : Int) ∧ noNL n.pre ∧ noNL n.loc ∧ noNL n.uri
theorem MkR.up {i j : Nat} {n : Nd} (h : MkR i n) (hj : i ≤ j) : MkR j n := by
  obtain ⟨h1, h2, h3, h4, h5⟩ := h
  exact ⟨h1, h2, h3, by omega, h5⟩
end Go.Ev
namespace Go.Proofs.YtojhnakgmihedaaDoor
open Go.Ev
set_option linter.unusedVariables false
def NdMade (H : Heap) (n : Nd) : Prop := Small n ∧ n.al ≤ 8 ∧ ∃ L : List At, SlN 4 H ty_api_Attr (L.map atL).flatten n.ap n.al n.ac ∧ ∀ q ∈ L, AttOk q
theorem NdMade.good {H : Heap} {n : Nd} (h : NdMade H n) : NdGood H n := by
  obtain ⟨h1, h2, L, h3, h4⟩ := h
  exact ⟨h1, h2, L, h3.attrs, h4⟩
theorem NdMade.keep {H H' : Heap} {n : Nd} {G : Nat → Prop} (h : NdMade H n) (hf : Fr G H H') (hd : ∀ k, blkIs n.ap k → ¬ G k) : NdMade H' n := by
  obtain ⟨h1, h2, L, h3, h4⟩ := h
  exact ⟨h1, h2, L, h3.keep hf hd, h4⟩
theorem NdMade.ne {H : Heap} {n : Nd} {k : Nat} {cs : Array Value} {u : TypeId} {fr : Nat × Nat} (h : NdMade H n) (hk : H[k]? = some (.cells cs u fr)) (hne : ty_api_Attr ≠ u) : ¬ blkIs n.ap k := by
  obtain ⟨h1, h2, L, h3, h4⟩ := h
  exact h3.ne hk hne
theorem Sc.blk {H : Heap} {g l : Nat} {F : Nat → Prop} (h : Sc H g F l) : F g ∧ ∃ cs, H[g]? = some (.cells cs ty_brackenref10_Scope (0, 0)) := by
  obtain ⟨p, c, lv, h⟩ := h
  exact ⟨h.fg, _, h.blk⟩
structure MkI (H : Heap) (g i : Nat) (T : List Nd) (F : Nat → Prop) (sl : Nat) (p : Option Addr) (l c : Nat) (H' : Heap) : Prop where
  tree : SlN 7 H' ty_api_Node (T.map ndL).flatten p l c
  head : ∃ rest, T = nD :: rest ∧ ∀ n ∈ rest, MkR i n ∧ NdMade H' n
  len : T.length ≤ i + 1
  sc : Sc H' g F sl
  lv : sl ≤ i
  ft : ∀ k, F k → ¬ blkIs p k
  new : ∀ k, blkIs p k → Array.size H ≤ k
  gn : Array.size H ≤ g
  fr : Fr noF H H'
theorem MkI.tl {H : Heap} {g i : Nat} {T : List Nd} {F : Nat → Prop} {sl : Nat} {p : Option Addr} {l c : Nat} {H' : Heap} (h : MkI H g i T F sl p l c H') : T.length = l := h.tree.tree.1
theorem MkI.on {H : Heap} {g i : Nat} {T : List Nd} {F : Nat → Prop} {sl : Nat} {p : Option Addr} {l c : Nat} {H' : Heap} (h : MkI H g i T F sl p l c H') {H'' : Heap} (hf : Fr (fun k => k = g) H' H'') {F' : Nat → Prop} {sl' : Nat} (hs : Sc H'' g F' sl') (hl : sl' ≤ i + 1) (hF : ∀ k, F' k → F k ∨ Array.size H' ≤ k) :
    MkI H g (i + 1) T F' sl' p l c H'' := by
  obtain ⟨gF, cs, gb⟩ := h.sc.blk
  obtain ⟨rest, e, hr⟩ := h.head
  refine ⟨h.tree.keep hf fun k hk e => ?_, ⟨rest, e, fun n hn => ⟨(hr n hn).1.up (by omega), (hr n hn).2.keep hf fun k hk e => ?_⟩⟩, by have := h.len; omega, hs, hl, fun k hk hb => ?_, h.new, h.gn, h.fr.trans hf fun k hk => .inr (by have := h.gn; omega)⟩
  · subst e; exact h.ft _ gF hk
  · subst e; exact (hr n hn).2.ne gb (by decide) hk
  · rcases hF k hk with h1 | h1
    · exact h.ft k h1 hb
    · have := h.tree.blk_lt hb; omega
theorem MkI.app {H : Heap} {g i : Nat} {T : List Nd} {F : Nat → Prop} {sl : Nat} {p : Option Addr} {l c : Nat} {H' : Heap} (h : MkI H g (i + 1) T F sl p l c H') (hlen : T.length ≤ i + 1) (hi : i ≤ 30) {n : Nd} (hn : MkR (i + 1) n) (hm : NdMade H' n) {K : Option Addr → Nat → Nat → Heap → Prop}
    (hK : ∀ p' l' c' H'' T', MkI H g (i + 1) T' F sl p' l' c' H'' → K p' l' c' H'') :
    letV (hnew H' (ndL n).toArray ty_api_Node) fun H1 : Heap => appW ty_api_Node 7 104 (.agg #[.int .i64 0, .int .i64 0, .string (⟨#[]⟩ : ByteArray), .string (⟨#[]⟩ : ByteArray), .string (⟨#[]⟩ : ByteArray), .string (⟨#[]⟩ : ByteArray), .slice none 0 0]) p l c (.slice (some ⟨Array.size H', 0, none⟩) 1 1) H1 K := by
  refine letV_mk fun H1 h1 => ?_
  have htl := h.tl
  refine appN1 (new := ndL n) h.tree h1 rfl rfl (ndL_one n) (by omega) (by decide) fun p' c' H'' a b d => hK p' (l + 1) c' H'' (T ++ [n]) ?_
  obtain ⟨rest, e, hr⟩ := h.head
  have hk2 : ∀ m, NdMade H' m → NdMade H'' m := fun m hm => by
    refine hm.keep b fun k hk hb => ?_
    obtain ⟨_, _, L, hL, _⟩ := hm
    rcases h.tree.2 with ⟨hp, _⟩ | ⟨bb, cs, hp, hbb, _⟩
    · obtain ⟨a, ha, _⟩ := hb
      rw [hp] at ha; cases ha
    · obtain ⟨a, ha, e⟩ := hb
      rw [hp] at ha
      cases ha
      subst e
      exact hL.ne hbb (by decide) hk
  refine ⟨by rw [← ndflat_snoc]; exact a, ⟨rest ++ [n], by rw [e]; rfl, fun m hm' => ?_⟩, by simp; omega, h.sc.keep b fun k hk => h.ft k hk, h.lv, fun k hk hb => ?_, fun k hk => ?_, h.gn, h.fr.trans b fun k hk => .inr (h.new k hk)⟩
  · rcases List.mem_append.1 hm' with hm' | hm'
    · exact ⟨(hr m hm').1, hk2 m (hr m hm').2⟩
    · rw [List.mem_singleton.1 hm']
      exact ⟨hn, hk2 n hm⟩
  · rcases d k hb with h1 | h1
    · exact h.ft k hk h1
    · have := h.sc.lt k hk; omega
  · rcases d k hk with h1 | h1
    · exact h.new k h1
    · exact Nat.le_trans h.fr.size h1
theorem MkI.tree_good {H : Heap} {g i : Nat} {T : List Nd} {F : Nat → Prop} {sl : Nat} {p : Option Addr} {l c : Nat} {H' : Heap} (h : MkI H g i T F sl p l c H') : ∀ n ∈ T, NdGood H' n := by
  obtain ⟨rest, e, hr⟩ := h.head
  intro n hn
  rw [e] at hn
  rcases List.mem_cons.1 hn with rfl | hn
  · exact ⟨⟨by decide, by decide, by decide, by decide, by decide⟩, by decide, [], ⟨rfl, fun i hi => absurd hi (Nat.not_lt_zero i)⟩, by simp⟩
  · exact (hr n hn).2.good
theorem dMod (x : Int) : ∃ r : Nat, r < 3 ∧ Int.tmod (IntKind.i64.wrap (IntKind.u64.wrap (Int.tdiv (IntKind.u64.wrap x) 64))) 3 = (r : Int) := by
  have hr := wrap_u64_range x
  obtain ⟨a, ha⟩ : ∃ a : Nat, IntKind.u64.wrap x = (a : Int) := ⟨(IntKind.u64.wrap x).toNat, by omega⟩
  rw [ha, show Int.tdiv (a : Int) 64 = ((a / 64 : Nat) : Int) from rfl, wrap_u64 (by omega) (by omega), wrap_i64 (by omega) (by omega)]
  exact ⟨a / 64 % 3, Nat.mod_lt _ (by decide), rfl⟩
end Go.Proofs.YtojhnakgmihedaaDoor
