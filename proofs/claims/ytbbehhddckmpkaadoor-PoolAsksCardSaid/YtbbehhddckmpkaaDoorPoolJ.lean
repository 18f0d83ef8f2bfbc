import Derived.Test.YtbbehhddckmpkaaDoorOffs3
import Derived.Test.YtbbehhddckmpkaaDoorPoolS
/-! Package pool: strings.Join, with nothing between. -/
namespace Go.Ev
/-- Texts side by side. -/
def catB (ss : List ByteArray) : ByteArray := ⟨(ss.map (·.data.toList)).flatten.toArray⟩
theorem catB_nil : catB [] = ⟨#[]⟩ := rfl
theorem catB_size (ss : List ByteArray) : (catB ss).size = (ss.map (·.size)).sum := by
  unfold catB ByteArray.size
  simp only [List.size_toArray, List.length_flatten, List.map_map]
  congr 1
theorem join_flat : ∀ xs : List (List UInt8), Go.Lib.join xs [] = xs.flatten
  | [] => rfl
  | x :: r => by
    rw [Go.Lib.join_cons, List.flatten_cons]
    unfold Go.Lib.joinTail
    simp
theorem catB_snoc (ss : List ByteArray) (s : ByteArray) : catB (ss ++ [s]) = catB ss ++ s := by
  unfold catB
  apply ByteArray.ext
  rw [ByteArray.data_append]
  simp
end Go.Ev
namespace Go.Proofs.YtbbehhddckmpkaaDoor
open Go.Ev
set_option linter.unusedVariables false
theorem Join_spec {H : Heap} {ss : List ByteArray} {p : Option Addr} {n c : Nat} (hrd : Rd H (ss.map Value.string) p n) (hcap : n ≤ c) (hn : n ≤ 1048576) (hs : (catB ss).size ≤ 140737488355328) {R : ByteArray → Heap → Prop} (hR : ∀ H', Fr noF H H' → R (catB ss) H') : strings_Join.C p n c ⟨#[]⟩ H R := by
  intro w hw
  subst hw
  have hl : ss.length = n := by have := hrd.1; simpa using this
  have he : (⟨(Go.Lib.join (ss.map (·.data.toList)) (⟨#[]⟩ : ByteArray).data.toList).toArray⟩ : ByteArray) = catB ss := by
    unfold catB
    rw [join_flat]
  have hlen : (Go.Lib.join (ss.map (·.data.toList)) (⟨#[]⟩ : ByteArray).data.toList).length ≤ 140737488355328 := by
    have h : (catB ss).size = (Go.Lib.join (ss.map (·.data.toList)) (⟨#[]⟩ : ByteArray).data.toList).length := by
      rw [← he]
      unfold ByteArray.size
      simp
    omega
  rcases Nat.eq_zero_or_pos n with h0 | h0
  · subst h0
    have hnil : ss = [] := List.eq_nil_of_length_eq_zero hl
    subst hnil
    refine (Tryd.strings_Join_none p c ⟨#[]⟩ w).mono fun e w' ⟨h1, h2⟩ => ?_
    subst h2
    exact ⟨_, h1, Sim.refl _, _, rfl, hR _ (Fr.refl _ _)⟩
  · obtain ⟨a, rfl, hc0⟩ := hrd.2 0 h0
    rw [List.getElem?_eq_getElem (by rw [hrd.1]; exact h0)] at hc0
    have hsp : a.spot = none := by
      have h1 : (a.add 0).spot = a.spot := by
        unfold Addr.add
        rw [if_pos rfl]
      rw [← h1]
      unfold hcell at hc0
      split at hc0
      · split at hc0
        · cases hc0
        · rename_i h2
          cases hs : (a.add 0).spot with
          | none => rfl
          | some x => rw [hs] at h2; exact absurd rfl h2
      · cases hc0
    have hblk := hcell_lt hc0
    rw [add_block] at hblk
    obtain ⟨b, o, sp⟩ := a
    simp only at hsp hblk
    subst hsp
    subst hl
    refine (Tryd.strings_Join b o c ss ⟨#[]⟩ w (fun j x hj => ?_) hblk (by omega) hcap hlen).mono fun e w' ⟨h1, h2⟩ => ?_
    · obtain ⟨a', ha, hc⟩ := hrd.get (i := j) (v := .string x) (by rw [List.getElem?_map, hj]; rfl)
      cases ha
      rw [add_mk] at hc
      rw [cell?_eq]
      exact hc
    · rw [he] at h1
      exact ⟨_, h1, ⟨h2.os, h2.tape, h2.output⟩, _, rfl, hR _ ⟨h2.size, fun k hk _ => h2.block k hk⟩⟩
end Go.Proofs.YtbbehhddckmpkaaDoor
