import Derived.Test.YtojhnakgmihedaaDoorEvPop
import Derived.Test.YtojhnakgmihedaaDoorEvPack
import Derived.Test.YtojhnakgmihedaaDoorMA1
/-! Package bits: its calls. -/
namespace Go.Ev
/-- append of one element, where something is told between. -/
theorem app1_at {H H1 : Heap} {el : TypeId} {xs : List Value} {p : Option Addr} {l c bytes t1 : Nat} {z v : Value} {K : Option Addr → Nat → Nat → Heap → Prop} (hs : Sl H el xs p l c) (h1 : H1 = hnew H #[v] t1) (hz : cellsV z = [z]) (hone : One v) (hb : (l + 1) * bytes ≤ 140737488355328) (hb0 : bytes ≠ 0)
    (hK : ∀ p' c' H', Sl H' el (xs ++ [v]) p' (l + 1) c' → Fr (blkIs p) H1 H' → (∀ k, blkIs p' k → blkIs p k ∨ Array.size H1 ≤ k) → K p' (l + 1) c' H') :
    appW el 1 bytes z p l c (.slice (some ⟨Array.size H, 0, none⟩) 1 1) H1 K := by
  have hf : Fr noF H H1 := by rw [h1]; exact Fr.new H #[v] t1
  refine appW_own (new := [v]) (hs.keep hf (fun _ _ h => h)) hz ?_ rfl (by simpa using hone) hb hb0 hK
  refine ⟨rfl, rfl, ?_⟩
  intro j u hj
  rw [hcell_add (by rw [h1]; exact hnew_same), Nat.zero_add]
  simpa using hj
theorem wrap_i64_nat {a : Nat} (h : a < 2 ^ 63) : IntKind.i64.wrap (a : Int) = (a : Int) := wrap_i64 (by omega) (by omega)
theorem andW_i64_nat {a b : Nat} (ha : a < 2 ^ 63) (hb : b < 2 ^ 63) : andW .i64 a b = ((a &&& b : Nat) : Int) := by
  unfold andW
  rw [show IntKind.i64.bits = 64 from rfl, ofInt_u64, ofInt_u64, BitVec.toNat_and, BitVec.toNat_ofNat, BitVec.toNat_ofNat, Nat.mod_eq_of_lt (by omega), Nat.mod_eq_of_lt (by omega), wrap_i64_nat (Nat.and_lt_two_pow a hb)]
/-- How many below a place have a bit. -/
def rk (m : List Bool) (k : Nat) (bit : Bool) : Nat := (m.take k).count bit
/-- 64 of them. -/
def chunk (m : List Bool) (j : Nat) : List Bool := (m.drop (64 * j)).take 64
theorem chunk_len (m : List Bool) (j : Nat) : (chunk m j).length = min 64 (m.length - 64 * j) := by simp [chunk]
theorem chunk_get {m : List Bool} {j t : Nat} (h : t < (chunk m j).length) : ∃ h2 : 64 * j + t < m.length, (chunk m j)[t] = m[64 * j + t] := by
  have := chunk_len m j
  refine ⟨by omega, ?_⟩
  simp [chunk]
theorem take_chunk (m : List Bool) (j t : Nat) (ht : t ≤ 64) : m.take (64 * j + t) = m.take (64 * j) ++ (chunk m j).take t := by
  rw [List.take_add, chunk, List.take_take, Nat.min_eq_left ht]
theorem rk_chunk (m : List Bool) (j t : Nat) (ht : t ≤ 64) (bit : Bool) : rk m (64 * j + t) bit = rk m (64 * j) bit + ((chunk m j).take t).count bit := by
  unfold rk
  rw [take_chunk m j t ht, List.count_append]
theorem rk_both (m : List Bool) (k : Nat) (h : k ≤ m.length) : rk m k true + rk m k false = k := by
  have : ∀ l : List Bool, l.count true + l.count false = l.length := by
    intro l
    induction l with
    | nil => rfl
    | cons b l ih => cases b <;> simp <;> omega
  unfold rk
  rw [this]
  simp
  omega
theorem rk_le (m : List Bool) (k : Nat) (bit : Bool) : rk m k bit ≤ m.length := by
  unfold rk
  exact Nat.le_trans List.count_le_length (by simp; omega)
theorem rk_mono (m : List Bool) {k k' : Nat} (h : k ≤ k') (bit : Bool) : rk m k bit ≤ rk m k' bit := by
  unfold rk
  exact (List.take_sublist_take_left h).count_le bit
theorem rk_succ {m : List Bool} {k : Nat} (h : k < m.length) (bit : Bool) : rk m (k + 1) bit = rk m k bit + (if m[k] = bit then 1 else 0) := by
  unfold rk
  rw [List.take_succ_eq_append_getElem h, List.count_append]
  congr 1
  rw [List.count_singleton]
  simp
theorem rk_all (m : List Bool) {k : Nat} (h : m.length ≤ k) (bit : Bool) : rk m k bit = m.count bit := by
  unfold rk
  rw [List.take_of_length_le h]
end Go.Ev
namespace Go.Proofs.YtojhnakgmihedaaDoor
open Go.Ev
set_option linter.unusedVariables false

/-! ### Bits that are kept -/
section
variable {H : Heap} {g : Nat} {m : List Bool} {F : Nat → Prop}
theorem new_part {H H1 : Heap} {cs : Array Value} {t : TypeId} (h : H1 = hnew H cs t) : H1[Array.size H]? = some (.cells cs t (0, 0)) := by rw [h]; exact hnew_same
theorem set_fr {H H1 : Heap} {b o : Nat} {v : Value} (h : H1 = hset H ((⟨b, 0, none⟩ : Addr).add o) v) : Fr (fun k => k = b) H H1 := by
  rw [h, add_mk]; exact Fr.set H ⟨b, 0 + o, none⟩ _
theorem set_blk {H H1 : Heap} {b o : Nat} {v : Value} {cs : Array Value} {t : TypeId} (h : H1 = hset H ((⟨b, 0, none⟩ : Addr).add o) v) (hb : H[b]? = some (.cells cs t (0, 0))) : H1[b]? = some (.cells (cs.setIfInBounds (0 + o) v) t (0, 0)) := by
  rw [h, hset_add_same hb]
theorem valL_chunk_lt (m : List Bool) (j : Nat) : valL (chunk m j) < 2 ^ 64 :=
  Nat.lt_of_lt_of_le (valL_lt _) (Nat.pow_le_pow_right (by decide) (by rw [chunk_len]; omega))
end
end Go.Proofs.YtojhnakgmihedaaDoor
