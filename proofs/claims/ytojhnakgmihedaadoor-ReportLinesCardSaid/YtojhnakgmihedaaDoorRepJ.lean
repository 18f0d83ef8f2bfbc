import Derived.Test.YtojhnakgmihedaaDoorRepS
import Derived.Test.YtojhnakgmihedaaDoorEvRow
import Derived.Test.YtojhnakgmihedaaDoorEvTac
import Derived.Test.YtojhnakgmihedaaDoorMA1
import Derived.Test.YtojhnakgmihedaaDoorBits1
/-! Package report: the calls of Go's library, over the heap. -/
namespace Go.Ev
def mkB (l : List UInt8) : ByteArray := ⟨l.toArray⟩
theorem mkB_app (a b : List UInt8) : mkB a ++ mkB b = mkB (a ++ b) := by
  apply ByteArray.ext
  rw [ByteArray.data_append]
  unfold mkB
  simp
theorem mkB_size (a : List UInt8) : (mkB a).size = a.length := by unfold mkB ByteArray.size; simp
theorem mkB_data (s : ByteArray) : mkB s.data.toList = s := rfl
theorem mkB_inj {a b : List UInt8} (h : mkB a = mkB b) : a = b := by
  have := congrArg (fun s : ByteArray => s.data.toList) h
  simpa [mkB] using this
theorem spot_none {H : Heap} {xs : List Value} {a : Addr} {n : Nat} (hrd : Rd H xs (some a) n) (h0 : 0 < n) : a.spot = none ∧ a.block < Array.size H := by
  obtain ⟨a', ha, hc0⟩ := hrd.2 0 h0
  cases ha
  rw [List.getElem?_eq_getElem (by rw [hrd.1]; exact h0)] at hc0
  have hblk := hcell_lt hc0
  rw [add_block] at hblk
  refine ⟨?_, hblk⟩
  have h1 : (a.add 0).spot = a.spot := by
    unfold Addr.add
    rw [if_pos rfl]
  rw [← h1]
  unfold hcell at hc0
  split at hc0
  · split at hc0
    · cases hc0
    · rename_i h2
      cases hs : (a.add 0).spot with
      | none => rfl
      | some x => rw [hs] at h2; exact absurd rfl h2
  · cases hc0
end Go.Ev
namespace Go.Proofs.YtojhnakgmihedaaDoor
open Go.Ev
set_option linter.unusedVariables false
theorem JoinS_spec {H : Heap} {ss : List ByteArray} {p : Option Addr} {n c : Nat} (hrd : Rd H (ss.map Value.string) p n) (hcap : n ≤ c) (hn : n ≤ 1048576) (sep : ByteArray) (hs : (Go.Lib.join (ss.map (·.data.toList)) sep.data.toList).length ≤ 140737488355328) {R : ByteArray → Heap → Prop}
    (hR : ∀ H', Fr noF H H' → R (mkB (Go.Lib.join (ss.map (·.data.toList)) sep.data.toList)) H') : strings_Join.C p n c sep H R := by
  intro w hw
  subst hw
  have hl : ss.length = n := by have := hrd.1; simpa using this
  rcases Nat.eq_zero_or_pos n with h0 | h0
  · subst h0
    have hnil : ss = [] := List.eq_nil_of_length_eq_zero hl
    subst hnil
    refine (Tryd.strings_Join_none p c sep w).mono fun e w' ⟨h1, h2⟩ => ?_
    subst h2
    exact ⟨_, h1, Sim.refl _, _, rfl, hR _ (Fr.refl _ _)⟩
  · obtain ⟨a, rfl, _⟩ := hrd.2 0 h0
    obtain ⟨hsp, hblk⟩ := spot_none hrd h0
    obtain ⟨b, o, sp⟩ := a
    simp only at hsp hblk
    subst hsp
    subst hl
    refine (Tryd.strings_Join b o c ss sep w (fun j x hj => ?_) hblk (by omega) hcap hs).mono fun e w' ⟨h1, h2⟩ => ?_
    · obtain ⟨a', ha, hc⟩ := hrd.get (i := j) (v := .string x) (by rw [List.getElem?_map, hj]; rfl)
      cases ha
      rw [add_mk] at hc
      rw [cell?_eq]
      exact hc
    · exact ⟨_, h1, ⟨h2.os, h2.tape, h2.output⟩, _, rfl, hR _ ⟨h2.size, fun k hk _ => h2.block k hk⟩⟩
theorem Repeat_spec {H : Heap} {s : ByteArray} {c : Nat} (hc : c ≤ 1048576) (hs : s.size * c ≤ 140737488355328) {R : ByteArray → Heap → Prop} (hR : ∀ H', Fr noF H H' → R (mkB (Go.Lib.repeatL s.data.toList c)) H') : strings_Repeat.C s (c : Int) H R := by
  intro w hw
  subst hw
  refine (Tryd.strings_Repeat s c w (by omega) hs).mono fun e w' ⟨h1, h2⟩ => ?_
  exact ⟨_, h1, ⟨h2.os, h2.tape, h2.output⟩, _, rfl, hR _ ⟨h2.size, fun k hk _ => h2.block k hk⟩⟩
/-- The table of the powers of ten. -/
def Pow10 (H : Heap) : Prop := ∀ w : World, w.heap = H → Go.Lib.TabIs Tryd.prog w "internal/strconv.uint64pow10" .u64 Go.Lib.pow10Tab
theorem Itoa_spec {H : Heap} {n : Nat} (hn : n ≤ 1048576) (h : n < 100 ∨ Pow10 H) {R : ByteArray → Heap → Prop} (hR : ∀ H', Fr noF H H' → R (mkB (Go.Lib.decDigits n)) H') : strconv_Itoa_31.C (n : Int) H R := by
  intro w hw
  subst hw
  rcases h with h | h
  · refine (Tryd.strconv_Itoa_small n h w).mono fun e w' ⟨h1, h2⟩ => ?_
    subst h2
    exact ⟨_, h1, Sim.refl _, _, rfl, hR _ (Fr.refl _ _)⟩
  · refine (Tryd.strconv_Itoa n (by omega) (by omega) w (h w rfl)).mono fun e w' ⟨h1, k, os, h2⟩ => ?_
    subst h2
    have e1 : Go.Lib.itoa (n : Int) = Go.Lib.decDigits n := by
      unfold Go.Lib.itoa
      rw [if_neg (by omega), Int.toNat_natCast]
    rw [e1] at h1
    refine ⟨_, h1, ⟨rfl, rfl, rfl⟩, _, rfl, hR _ ⟨by simp [Go.Sort.grow], fun i hi _ => ?_⟩⟩
    show ((w.drewN k).heap ++ os)[i]? = _
    rw [Array.getElem?_append_left (by show i < w.heap.size; exact hi)]
    rfl
theorem Pow10.old {H H' : Heap} (h : Pow10 H) (hf : Fr noF H H') : Pow10 H' := by
  intro w hw
  have h0 := h { w with heap := H } rfl
  unfold Go.Lib.TabIs World.var? at h0 ⊢
  rw [hw]
  cases hg : Tryd.prog.globalNamed "internal/strconv.uint64pow10" with
  | none => rw [hg] at h0; cases h0
  | some g =>
    rw [hg] at h0
    simp only [Option.bind_some] at h0 ⊢
    cases hb : H[g]? with
    | none =>
      have h0 : (match H[g]? with | some (.cells cs _ _) => some cs | _ => none) = _ := h0
      rw [hb] at h0; cases h0
    | some x =>
      rw [hf.blk hb fun h => h]
      have h0 : (match H[g]? with | some (.cells cs _ _) => some cs | _ => none) = _ := h0
      rw [hb] at h0
      exact h0
/-- A strings.Builder that holds bytes; all below a block stays. -/
def Bld (H : Heap) (B b : Nat) (l : List UInt8) : Prop := B ≤ Array.size H ∧ ∀ w : World, w.heap = H → Go.Lib.IsBuilder ty_strings_Builder ty_uint8 B b (Go.Lib.byteCells l) w
theorem Bld.of {w : World} {B b : Nat} {l : List UInt8} (hB : B ≤ w.heap.size) (h : Go.Lib.IsBuilder ty_strings_Builder ty_uint8 B b (Go.Lib.byteCells l) w) : Bld w.heap B b l := by
  refine ⟨hB, fun w' hw => ?_⟩
  unfold Go.Lib.IsBuilder Go.Lib.BuilderAt World.ownsRow at h ⊢
  rw [hw]
  exact h
theorem Bld.new {H H1 : Heap} (h : H1 = hnew H #[.pointer none, .slice none 0 0] ty_strings_Builder) : Bld H1 (Array.size H) (Array.size H) [] := by
  subst h
  refine ⟨by rw [hnew_size]; omega, fun w hw => .inl ⟨Nat.le_refl _, .slice none 0 0, ?_, World.ownsRow_nil _ _ _ _, by simp [Value.ownBlock]⟩⟩
  rw [hw]
  exact hnew_same
theorem Bld.old {H H' : Heap} {B b : Nat} {l : List UInt8} (h : Bld H B b l) (hf : Fr noF H H') : Bld H' B b l := by
  refine ⟨Nat.le_trans h.1 hf.size, fun w hw => ?_⟩
  obtain ⟨w0, hw0⟩ : ∃ w0 : World, w0.heap = H := ⟨{ w with heap := H }, rfl⟩
  have h0 := h.2 w0 hw0
  have st : ∀ p, Go.Lib.BuilderAt ty_strings_Builder ty_uint8 B b p (Go.Lib.byteCells l) w0 → Go.Lib.BuilderAt ty_strings_Builder ty_uint8 B b p (Go.Lib.byteCells l) w := by
    rintro p ⟨h1, v, h2, h3, h4⟩
    rw [hw0] at h2
    refine ⟨h1, v, by rw [hw]; exact hf.blk h2 fun h => h, ⟨h3.1, ?_⟩, h4⟩
    rcases h3.2 with h5 | ⟨g, cap, cur, h5, h6, h7, h8⟩
    · exact .inl h5
    · rw [hw0] at h7
      exact .inr ⟨g, cap, cur, h5, h6, by rw [hw]; exact hf.blk h7 fun h => h, h8⟩
  rcases h0 with h0 | h0
  · exact .inl (st _ h0)
  · exact .inr (st _ h0)
theorem WriteString_spec {H : Heap} {B b : Nat} {l : List UInt8} (h : Bld H B b l) {s : ByteArray} (hs : l.length + s.size ≤ 140737488355328) {R : Int → Value → Heap → Prop}
    (hR : ∀ H', Bld H' B b (l ++ s.data.toList) → Fr (fun k => B ≤ k) H H' → R (s.size : Int) .nilIface H') : strings_Builder_WriteString.C (some ⟨b, 0, none⟩) s H R := by
  intro w hw
  subst hw
  have L : Go.Proofs.Lays.n166 Tryd.prog Tryd.lays156_ren := { Tryd.lays156 with }
  refine (Any.Builder_WriteString L Tryd.Builder_Extra_156 B b (Go.Lib.byteCells l) s w (h.2 w rfl) (by rw [Go.Lib.byteCells_length]; exact hs) h.1).mono fun e w' ⟨h1, h2, h3⟩ => ?_
  have e1 : Go.Lib.byteCells l ++ Go.Lib.strCells s = Go.Lib.byteCells (l ++ s.data.toList) := by
    unfold Go.Lib.byteCells Go.Lib.strCells
    rw [List.map_append]
  rw [e1] at h2
  refine ⟨_, h1, ⟨h3.os, h3.tape, h3.output⟩, _, _, rfl, hR _ (Bld.of (Nat.le_trans h.1 h3.size) (.inr h2)) ⟨h3.size, fun k hk hn => h3.block k (by omega)⟩⟩
theorem String_spec {H : Heap} {B b : Nat} {l : List UInt8} (h : Bld H B b l) {R : ByteArray → Heap → Prop} (hR : ∀ H', Fr (fun k => B ≤ k) H H' → R (mkB l) H') : strings_Builder_String.C (some ⟨b, 0, none⟩) H R := by
  intro w hw
  subst hw
  refine (Tryd.Builder_String_any B b l w (h.2 w rfl) h.1).mono fun e w' ⟨h1, h3⟩ => ?_
  exact ⟨_, h1, ⟨h3.os, h3.tape, h3.output⟩, _, rfl, hR _ ⟨h3.size, fun k hk hn => h3.block k (by omega)⟩⟩
end Go.Proofs.YtojhnakgmihedaaDoor
