import Derived.Test.YtgdglgkmdnenoaaEvSound
import Derived.Test.YtgdglgkmdnenoaaProg
import Derived.KernelRfl
import Derived.Test.YtgdglgkmdnenoaaMA0
namespace Go.Proofs.Ytgdglgkmdnenoaa
open Go.Ev
set_option linter.unusedVariables false
def bits_Len64.ann : Ann := { ord := fun _ => [], loop := fun _ => none, join := fun i => bif Nat.beq i 4 then some [(0, .one (.int .u64)), (2, .one (.int .i64))] else bif Nat.beq i 7 then some [(0, .one (.int .u64)), (2, .one (.int .i64))] else bif Nat.beq i 10 then some [(0, .one (.int .u64)), (2, .one (.int .i64))] else none }
/-- math.bits.Len64 -/
def bits_Len64.W (a0x : Int) (R : Int → Heap → Prop) (H0 : Heap) : Prop :=
  
  JoinW (S := (Int × Int × Unit)) (fun J4 =>
  brW (decide ((4294967296 : Int) ≤ a0x)) (0 ≤ (32 : Int) ∧
  letV (shrW .u64 a0x 32) fun x0 : Int => J4 ((x0 : Int), (32 : Int), ()) H0) (J4 ((a0x : Int), (0 : Int), ()) H0))
  (fun s4 H1 => (fun (x0 : Int) (n2 : Int) => 
  JoinW (S := (Int × Int × Unit)) (fun J7 =>
  brW (decide ((65536 : Int) ≤ x0)) (0 ≤ (16 : Int) ∧
  letV (shrW .u64 x0 16) fun x0 : Int =>
  letV (IntKind.i64.wrap (n2 + 16)) fun n2 : Int => J7 ((x0 : Int), (n2 : Int), ()) H1) (J7 ((x0 : Int), (n2 : Int), ()) H1))
  (fun s7 H2 => (fun (x0 : Int) (n2 : Int) => 
  JoinW (S := (Int × Int × Unit)) (fun J10 =>
  brW (decide ((256 : Int) ≤ x0)) (0 ≤ (8 : Int) ∧
  letV (shrW .u64 x0 8) fun x0 : Int =>
  letV (IntKind.i64.wrap (n2 + 8)) fun n2 : Int => J10 ((x0 : Int), (n2 : Int), ()) H2) (J10 ((x0 : Int), (n2 : Int), ()) H2))
  (fun s10 H3 => (fun (x0 : Int) (n2 : Int) => 0 ≤ IntKind.u8.wrap x0 ∧ IntKind.u8.wrap x0 < ((⟨#[0, 1, 2, 2, 3, 3, 3, 3, 4, 4, 4, 4, 4, 4, 4, 4, 5, 5, 5, 5, 5, 5, 5, 5, 5, 5, 5, 5, 5, 5, 5, 5, 6, 6, 6, 6, 6, 6, 6, 6, 6, 6, 6, 6, 6, 6, 6, 6, 6, 6, 6, 6, 6, 6, 6, 6, 6, 6, 6, 6, 6, 6, 6, 6, 7, 7, 7, 7, 7, 7, 7, 7, 7, 7, 7, 7, 7, 7, 7, 7, 7, 7, 7, 7, 7, 7, 7, 7, 7, 7, 7, 7, 7, 7, 7, 7, 7, 7, 7, 7, 7, 7, 7, 7, 7, 7, 7, 7, 7, 7, 7, 7, 7, 7, 7, 7, 7, 7, 7, 7, 7, 7, 7, 7, 7, 7, 7, 7, 8, 8, 8, 8, 8, 8, 8, 8, 8, 8, 8, 8, 8, 8, 8, 8, 8, 8, 8, 8, 8, 8, 8, 8, 8, 8, 8, 8, 8, 8, 8, 8, 8, 8, 8, 8, 8, 8, 8, 8, 8, 8, 8, 8, 8, 8, 8, 8, 8, 8, 8, 8, 8, 8, 8, 8, 8, 8, 8, 8, 8, 8, 8, 8, 8, 8, 8, 8, 8, 8, 8, 8, 8, 8, 8, 8, 8, 8, 8, 8, 8, 8, 8, 8, 8, 8, 8, 8, 8, 8, 8, 8, 8, 8, 8, 8, 8, 8, 8, 8, 8, 8, 8, 8, 8, 8, 8, 8, 8, 8, 8, 8, 8, 8, 8, 8, 8, 8, 8, 8, 8, 8, 8, 8, 8, 8, 8, 8]⟩ : ByteArray).size : Int) ∧
  letV (IntKind.i64.wrap (n2 + (IntKind.i64.wrap (bt (⟨#[0, 1, 2, 2, 3, 3, 3, 3, 4, 4, 4, 4, 4, 4, 4, 4, 5, 5, 5, 5, 5, 5, 5, 5, 5, 5, 5, 5, 5, 5, 5, 5, 6, 6, 6, 6, 6, 6, 6, 6, 6, 6, 6, 6, 6, 6, 6, 6, 6, 6, 6, 6, 6, 6, 6, 6, 6, 6, 6, 6, 6, 6, 6, 6, 7, 7, 7, 7, 7, 7, 7, 7, 7, 7, 7, 7, 7, 7, 7, 7, 7, 7, 7, 7, 7, 7, 7, 7, 7, 7, 7, 7, 7, 7, 7, 7, 7, 7, 7, 7, 7, 7, 7, 7, 7, 7, 7, 7, 7, 7, 7, 7, 7, 7, 7, 7, 7, 7, 7, 7, 7, 7, 7, 7, 7, 7, 7, 7, 8, 8, 8, 8, 8, 8, 8, 8, 8, 8, 8, 8, 8, 8, 8, 8, 8, 8, 8, 8, 8, 8, 8, 8, 8, 8, 8, 8, 8, 8, 8, 8, 8, 8, 8, 8, 8, 8, 8, 8, 8, 8, 8, 8, 8, 8, 8, 8, 8, 8, 8, 8, 8, 8, 8, 8, 8, 8, 8, 8, 8, 8, 8, 8, 8, 8, 8, 8, 8, 8, 8, 8, 8, 8, 8, 8, 8, 8, 8, 8, 8, 8, 8, 8, 8, 8, 8, 8, 8, 8, 8, 8, 8, 8, 8, 8, 8, 8, 8, 8, 8, 8, 8, 8, 8, 8, 8, 8, 8, 8, 8, 8, 8, 8, 8, 8, 8, 8, 8, 8, 8, 8, 8, 8, 8, 8, 8, 8]⟩ : ByteArray) (IntKind.u8.wrap x0))))) fun n2 : Int => R (n2) H3) s10.1 s10.2.1)) s7.1 s7.2.1)) s4.1 s4.2.1)
theorem bits_Len64.eq (a0x : Int) (R : Int → Heap → Prop) (H0 : Heap) :
    evF Try.prog bits_Len64.ann Try.f18 [.int .u64 a0x] (fun v H' => xS (.one (.int .i64)) v fun r => R r H') H0 = bits_Len64.W a0x R H0 := by kernel_rfl
theorem bits_Len64.calls {a0x : Int} {R : Int → Heap → Prop} {H0 : Heap} (h : bits_Len64.W a0x R H0) : bits_Len64.C a0x H0 R :=
  (evF_sound progOk_ Try.func18 (by rw [bits_Len64.eq]; exact h)).mono fun v H' h => by obtain ⟨x, hv, hk⟩ := xS_out h; exact ⟨x, hv, hk⟩

def ints_Width.ann : Ann := { ord := fun _ => [], loop := fun _ => none, join := fun _ => none }
/-- bracken.ints.Width -/
def ints_Width.W (a0n : Int) (R : Int → Heap → Prop) (H0 : Heap) : Prop :=
  bits_Len64.C (a0n) H0 fun x4 H1 => R (x4) H1
theorem ints_Width.eq (a0n : Int) (R : Int → Heap → Prop) (H0 : Heap) :
    evF Try.prog ints_Width.ann Try.f12 [.int .u64 a0n] (fun v H' => xS (.one (.int .i64)) v fun r => R r H') H0 = ints_Width.W a0n R H0 := by kernel_rfl
theorem ints_Width.calls {a0n : Int} {R : Int → Heap → Prop} {H0 : Heap} (h : ints_Width.W a0n R H0) : ints_Width.C a0n H0 R :=
  (evF_sound progOk_ Try.func12 (by rw [ints_Width.eq]; exact h)).mono fun v H' h => by obtain ⟨x, hv, hk⟩ := xS_out h; exact ⟨x, hv, hk⟩

def slices_Max_uint64_uint64.ann : Ann := { ord := fun _ => [], loop := fun i => bif Nat.beq i 5 then some [(3, .one (.int .u64)), (4, .one (.int .i64))] else none, join := fun i => bif Nat.beq i 3 then some [] else bif Nat.beq i 8 then some [(3, .one (.int .u64))] else none }
/-- slices.Max[[]uint64,uint64] -/
def slices_Max_uint64_uint64.W (a0x_p : Option Addr) (a0x_l a0x_c : Nat) (R : Int → Heap → Prop) (H0 : Heap) : Prop :=
  
  JoinW (S := Unit) (fun J3 =>
  brW (decide ((a0x_l : Int) < 1)) (False) (J3 () H0))
  (fun _ H1 =>
  ∃ x10 : Addr, a0x_p = some x10 ∧ 0 ≤ (0 : Int) ∧ (0 : Int) < (a0x_l : Int) ∧
  ∃ x11 : Int, hcell H1 (x10.add ((0 : Int).toNat)) = some (.int .u64 x11) ∧ 
  JoinW (S := (Int × Unit)) (fun J8 => 
  LoopW (S := (Int × Int × Unit)) (fun L5 q5 H3 => (fun (m3 : Int) (i4 : Int) =>
  brW (decide (i4 < (a0x_l : Int))) (∃ x21 : Addr, a0x_p = some x21 ∧ 0 ≤ i4 ∧ i4 < (a0x_l : Int) ∧
  ∃ x22 : Int, hcell H3 (x21.add i4.toNat) = some (.int .u64 x22) ∧
  letV (max m3 x22) fun m3 : Int =>
  letV (IntKind.i64.wrap (i4 + 1)) fun i4 : Int => L5 ((m3 : Int), (i4 : Int), ()) H3) (J8 ((m3 : Int), ()) H3)) q5.1 q5.2.1) ((x11 : Int), (1 : Int), ()) H1)
  (fun s8 H2 => (fun (m3 : Int) => R (m3) H2) s8.1))
theorem slices_Max_uint64_uint64.eq (a0x_p : Option Addr) (a0x_l a0x_c : Nat) (R : Int → Heap → Prop) (H0 : Heap) :
    evF Try.prog slices_Max_uint64_uint64.ann Try.f17 [.slice a0x_p a0x_l a0x_c] (fun v H' => xS (.one (.int .u64)) v fun r => R r H') H0 = slices_Max_uint64_uint64.W a0x_p a0x_l a0x_c R H0 := by kernel_rfl
theorem slices_Max_uint64_uint64.calls {a0x_p : Option Addr} {a0x_l a0x_c : Nat} {R : Int → Heap → Prop} {H0 : Heap} (h : slices_Max_uint64_uint64.W a0x_p a0x_l a0x_c R H0) : slices_Max_uint64_uint64.C a0x_p a0x_l a0x_c H0 R :=
  (evF_sound progOk_ Try.func17 (by rw [slices_Max_uint64_uint64.eq]; exact h)).mono fun v H' h => by obtain ⟨x, hv, hk⟩ := xS_out h; exact ⟨x, hv, hk⟩

def ints_New.ann : Ann := { ord := fun i => bif Nat.beq i 4 then [0, 1, 2, 3, 4, 5, 6, 7, 8, 9, 10, 11, 12, 13] else bif Nat.beq i 8 then [0, 1, 2, 3, 4, 5, 6, 7, 8, 9, 10, 11, 12, 13, 14, 15, 16] else [], loop := fun i => bif Nat.beq i 6 then some [(37, .one (.int .i64))] else none, join := fun i => bif Nat.beq i 4 then some [] else bif Nat.beq i 13 then some [] else bif Nat.beq i 14 then some [] else none }
/-- bracken.ints.New -/
def ints_New.W (a0l_p : Option Addr) (a0l_l a0l_c : Nat) (R : Option Addr → Heap → Prop) (H0 : Heap) : Prop :=
  letV (hnew H0 #[.nilIface, .int .i64 (a0l_l : Int), .int .i64 0] ty_ints_Ints) fun H1 : Heap => 
  JoinW (S := Unit) (fun J4 =>
  brW (decide ((0 : Int) < (a0l_l : Int))) (slices_Max_uint64_uint64.C (a0l_p) a0l_l a0l_c H1 fun x18 H3 =>
  ints_Width.C (x18) H3 fun x19 H4 =>
  ∃ x20 : Addr, some ⟨Array.size H0, 0, none⟩ = some x20 ∧ (∃ u, hcell H4 (x20.add 2) = some u) ∧ hfrozen H4 (x20.add 2) = false ∧
  letV (hset H4 (x20.add 2) (.int .i64 x19)) fun H5 : Heap => J4 () H5) (J4 () H1))
  (fun _ H2 =>
  ∃ x23 : Addr, some ⟨Array.size H0, 0, none⟩ = some x23 ∧
  ∃ x25 : Int, hcell H2 (x23.add 1) = some (.int .i64 x25) ∧
  ∃ x27 : Addr, some ⟨Array.size H0, 0, none⟩ = some x27 ∧
  ∃ x29 : Int, hcell H2 (x27.add 2) = some (.int .i64 x29) ∧ (64 : Int) ≠ 0 ∧ 0 ≤ IntKind.i64.wrap (Int.tdiv (IntKind.i64.wrap ((IntKind.i64.wrap ((IntKind.i64.wrap (x25 * x29)) + 64)) - 1)) 64) ∧ IntKind.i64.wrap (Int.tdiv (IntKind.i64.wrap ((IntKind.i64.wrap ((IntKind.i64.wrap (x25 * x29)) + 64)) - 1)) 64) ≤ IntKind.i64.wrap (Int.tdiv (IntKind.i64.wrap ((IntKind.i64.wrap ((IntKind.i64.wrap (x25 * x29)) + 64)) - 1)) 64) ∧ ((8 : Nat) : Int) * (IntKind.i64.wrap (Int.tdiv (IntKind.i64.wrap ((IntKind.i64.wrap ((IntKind.i64.wrap (x25 * x29)) + 64)) - 1)) 64)) ≤ 281474976710656 ∧
  letV (hnew H2 (zerosOf (.int .u64 0) ((IntKind.i64.wrap (Int.tdiv (IntKind.i64.wrap ((IntKind.i64.wrap ((IntKind.i64.wrap (x25 * x29)) + 64)) - 1)) 64)).toNat)) ty_uint64) fun H6 : Heap => 
  JoinW (S := Unit) (fun J14 => 
  LoopW (S := (Int × Unit)) (fun L6 q6 H8 => (fun (x37 : Int) =>
  brW (decide (x37 < (a0l_l : Int))) (
  JoinW (S := Unit) (fun J13 =>
  ∃ x40 : Addr, a0l_p = some x40 ∧ 0 ≤ x37 ∧ x37 < (a0l_l : Int) ∧
  ∃ x41 : Int, hcell H8 (x40.add x37.toNat) = some (.int .u64 x41) ∧
  ∃ x44 : Addr, some ⟨Array.size H0, 0, none⟩ = some x44 ∧
  ∃ x46 : Int, hcell H8 (x44.add 2) = some (.int .i64 x46) ∧ (64 : Int) ≠ 0 ∧
  ∃ x51 : Addr, some ⟨Array.size H0, 0, none⟩ = some x51 ∧
  ∃ x53 : Int, hcell H8 (x51.add 2) = some (.int .i64 x53) ∧ (64 : Int) ≠ 0 ∧
  letV (IntKind.i64.wrap (Int.tdiv (IntKind.i64.wrap (x37 * x46)) 64)) fun at7 : Int =>
  letV (IntKind.u64.wrap (Int.tmod (IntKind.i64.wrap (x37 * x53)) 64)) fun off8 : Int =>
  ∃ x58 : Addr, some ⟨Array.size H0, 0, none⟩ = some x58 ∧
  ∃ x60 : Int, hcell H8 (x58.add 2) = some (.int .i64 x60) ∧
  brW (decide (x60 = 0)) (J13 () H8) (∃ x64 : Addr, some ⟨Array.size H2, 0, none⟩ = some x64 ∧ 0 ≤ at7 ∧ at7 < ((IntKind.i64.wrap (Int.tdiv (IntKind.i64.wrap ((IntKind.i64.wrap ((IntKind.i64.wrap (x25 * x29)) + 64)) - 1)) 64)).toNat : Int) ∧
  ∃ x65 : Int, hcell H8 (x64.add at7.toNat) = some (.int .u64 x65) ∧ 0 ≤ off8 ∧
  ∃ x70 : Addr, some ⟨Array.size H2, 0, none⟩ = some x70 ∧ 0 ≤ at7 ∧ at7 < ((IntKind.i64.wrap (Int.tdiv (IntKind.i64.wrap ((IntKind.i64.wrap ((IntKind.i64.wrap (x25 * x29)) + 64)) - 1)) 64)).toNat : Int) ∧ (∃ u, hcell H8 (x70.add at7.toNat) = some u) ∧ hfrozen H8 (x70.add at7.toNat) = false ∧
  letV (hset H8 (x70.add at7.toNat) (.int .u64 (orW .u64 x65 (shlW .u64 x41 off8)))) fun H10 : Heap =>
  ∃ x74 : Addr, some ⟨Array.size H0, 0, none⟩ = some x74 ∧
  ∃ x76 : Int, hcell H10 (x74.add 2) = some (.int .i64 x76) ∧
  brW (decide ((64 : Int) < (IntKind.i64.wrap ((IntKind.i64.wrap off8) + x76)))) (∃ x82 : Addr, some ⟨Array.size H2, 0, none⟩ = some x82 ∧ 0 ≤ IntKind.i64.wrap (at7 + 1) ∧ IntKind.i64.wrap (at7 + 1) < ((IntKind.i64.wrap (Int.tdiv (IntKind.i64.wrap ((IntKind.i64.wrap ((IntKind.i64.wrap (x25 * x29)) + 64)) - 1)) 64)).toNat : Int) ∧
  ∃ x83 : Int, hcell H10 (x82.add ((IntKind.i64.wrap (at7 + 1)).toNat)) = some (.int .u64 x83) ∧ 0 ≤ (IntKind.u64.wrap (64 - off8)) ∧
  ∃ x89 : Addr, some ⟨Array.size H2, 0, none⟩ = some x89 ∧ 0 ≤ IntKind.i64.wrap (at7 + 1) ∧ IntKind.i64.wrap (at7 + 1) < ((IntKind.i64.wrap (Int.tdiv (IntKind.i64.wrap ((IntKind.i64.wrap ((IntKind.i64.wrap (x25 * x29)) + 64)) - 1)) 64)).toNat : Int) ∧ (∃ u, hcell H10 (x89.add ((IntKind.i64.wrap (at7 + 1)).toNat)) = some u) ∧ hfrozen H10 (x89.add ((IntKind.i64.wrap (at7 + 1)).toNat)) = false ∧
  letV (hset H10 (x89.add ((IntKind.i64.wrap (at7 + 1)).toNat)) (.int .u64 (orW .u64 x83 (shrW .u64 x41 (IntKind.u64.wrap (64 - off8)))))) fun H11 : Heap => J13 () H11) (J13 () H10)))
  (fun _ H9 => L6 ((IntKind.i64.wrap (x37 + 1) : Int), ()) H9)) (J14 () H8)) q6.1) ((0 : Int), ()) H6)
  (fun _ H7 =>
  ∃ x94 : Addr, some ⟨Array.size H0, 0, none⟩ = some x94 ∧ (∃ u, hcell H7 (x94.add 0) = some u) ∧ hfrozen H7 (x94.add 0) = false ∧
  letV (hset H7 (x94.add 0) (.iface ty_s_uint64 (.slice (some ⟨Array.size H2, 0, none⟩) ((IntKind.i64.wrap (Int.tdiv (IntKind.i64.wrap ((IntKind.i64.wrap ((IntKind.i64.wrap (x25 * x29)) + 64)) - 1)) 64)).toNat) ((IntKind.i64.wrap (Int.tdiv (IntKind.i64.wrap ((IntKind.i64.wrap ((IntKind.i64.wrap (x25 * x29)) + 64)) - 1)) 64)).toNat)))) fun H12 : Heap => R (some ⟨Array.size H0, 0, none⟩) H12))
theorem ints_New.eq (a0l_p : Option Addr) (a0l_l a0l_c : Nat) (R : Option Addr → Heap → Prop) (H0 : Heap) :
    evF Try.prog ints_New.ann Try.f7 [.slice a0l_p a0l_l a0l_c] (fun v H' => xS (.one .ptr) v fun r => R r H') H0 = ints_New.W a0l_p a0l_l a0l_c R H0 := by kernel_rfl
theorem ints_New.calls {a0l_p : Option Addr} {a0l_l a0l_c : Nat} {R : Option Addr → Heap → Prop} {H0 : Heap} (h : ints_New.W a0l_p a0l_l a0l_c R H0) : ints_New.C a0l_p a0l_l a0l_c H0 R :=
  (evF_sound progOk_ Try.func7 (by rw [ints_New.eq]; exact h)).mono fun v H' h => by obtain ⟨x, hv, hk⟩ := xS_out h; exact ⟨x, hv, hk⟩

def ints_Ints_Len.ann : Ann := { ord := fun _ => [], loop := fun _ => none, join := fun _ => none }
/-- (*bracken.ints.Ints).Len -/
def ints_Ints_Len.W (a0a : Option Addr) (R : Int → Heap → Prop) (H0 : Heap) : Prop :=
  brW (Option.isNone (a0a)) (R (0) H0) (∃ x6 : Addr, a0a = some x6 ∧
  ∃ x8 : Int, hcell H0 (x6.add 1) = some (.int .i64 x8) ∧ R (x8) H0)
theorem ints_Ints_Len.eq (a0a : Option Addr) (R : Int → Heap → Prop) (H0 : Heap) :
    evF Try.prog ints_Ints_Len.ann Try.f13 [.pointer a0a] (fun v H' => xS (.one (.int .i64)) v fun r => R r H') H0 = ints_Ints_Len.W a0a R H0 := by kernel_rfl
theorem ints_Ints_Len.calls {a0a : Option Addr} {R : Int → Heap → Prop} {H0 : Heap} (h : ints_Ints_Len.W a0a R H0) : ints_Ints_Len.C a0a H0 R :=
  (evF_sound progOk_ Try.func13 (by rw [ints_Ints_Len.eq]; exact h)).mono fun v H' h => by obtain ⟨x, hv, hk⟩ := xS_out h; exact ⟨x, hv, hk⟩

def ints_Ints_Get.ann : Ann := { ord := fun i => bif Nat.beq i 6 then [0, 1, 2, 3, 4, 5, 6, 7, 8, 9, 10, 11, 12, 13, 14, 15, 16] else [], loop := fun _ => none, join := fun i => bif Nat.beq i 2 then some [(18, .one .bool)] else bif Nat.beq i 3 then some [] else bif Nat.beq i 5 then some [(35, .one .bool)] else bif Nat.beq i 6 then some [] else bif Nat.beq i 10 then some [(10, .one (.int .u64))] else bif Nat.beq i 12 then some [(10, .one (.int .u64))] else none }
/-- (*bracken.ints.Ints).Get -/
def ints_Ints_Get.W (a0a : Option Addr) (a1k : Int) (R : Int → Int → Heap → Prop) (H0 : Heap) : Prop :=
  
  JoinW (S := Unit) (fun J3 => 
  JoinW (S := (Bool × Unit)) (fun J2 =>
  brW (decide (a1k < 0)) (J2 (true, ()) H0) (ints_Ints_Len.C (a0a) H0 fun x16 H3 => J2 (decide (x16 ≤ a1k), ()) H3))
  (fun s2 H2 => (fun (x18 : Bool) =>
  brW x18 (R (0) (4) H2) (J3 () H2)) s2.1))
  (fun _ H1 =>
  ∃ x21 : Addr, a0a = some x21 ∧
  ∃ x23 : Value, hcell H1 (x21.add 0) = some (x23) ∧
  ∃ (x24_p : Option Addr) (x24_l x24_c : Nat), ∃ x24ok : Bool, TaRel (x23) ty_s_uint64 (.slice x24_p x24_l x24_c) (.slice none 0 0) x24ok ∧ 
  JoinW (S := Unit) (fun J6 => 
  JoinW (S := (Bool × Unit)) (fun J5 =>
  brW (!x24ok) (J5 (true, ()) H1) (∃ x31 : Addr, a0a = some x31 ∧
  ∃ x33 : Int, hcell H1 (x31.add 2) = some (.int .i64 x33) ∧ J5 (decide (x33 = 0), ()) H1))
  (fun s5 H5 => (fun (x35 : Bool) =>
  brW x35 (R (0) (0) H5) (J6 () H5)) s5.1))
  (fun _ H4 =>
  ∃ x38 : Addr, a0a = some x38 ∧
  ∃ x40 : Int, hcell H4 (x38.add 2) = some (.int .i64 x40) ∧ (64 : Int) ≠ 0 ∧
  ∃ x45 : Addr, a0a = some x45 ∧
  ∃ x47 : Int, hcell H4 (x45.add 2) = some (.int .i64 x47) ∧ (64 : Int) ≠ 0 ∧
  letV (IntKind.i64.wrap (Int.tdiv (IntKind.i64.wrap (a1k * x40)) 64)) fun at8 : Int =>
  letV (IntKind.u64.wrap (Int.tmod (IntKind.i64.wrap (a1k * x47)) 64)) fun off9 : Int =>
  ∃ x53 : Addr, x24_p = some x53 ∧ 0 ≤ at8 ∧ at8 < (x24_l : Int) ∧
  ∃ x54 : Int, hcell H4 (x53.add at8.toNat) = some (.int .u64 x54) ∧ 0 ≤ off9 ∧
  letV (shrW .u64 x54 off9) fun x10 : Int => 
  JoinW (S := (Int × Unit)) (fun J10 =>
  ∃ x60 : Addr, a0a = some x60 ∧
  ∃ x62 : Int, hcell H4 (x60.add 2) = some (.int .i64 x62) ∧
  brW (decide ((64 : Int) < (IntKind.i64.wrap ((IntKind.i64.wrap off9) + x62)))) (∃ x69 : Addr, x24_p = some x69 ∧ 0 ≤ IntKind.i64.wrap (at8 + 1) ∧ IntKind.i64.wrap (at8 + 1) < (x24_l : Int) ∧
  ∃ x70 : Int, hcell H4 (x69.add ((IntKind.i64.wrap (at8 + 1)).toNat)) = some (.int .u64 x70) ∧ 0 ≤ (IntKind.u64.wrap (64 - off9)) ∧
  letV (orW .u64 x10 (shlW .u64 x70 (IntKind.u64.wrap (64 - off9)))) fun x10 : Int => J10 ((x10 : Int), ()) H4) (J10 ((x10 : Int), ()) H4))
  (fun s10 H6 => (fun (x10 : Int) => 
  JoinW (S := (Int × Unit)) (fun J12 =>
  ∃ x76 : Addr, a0a = some x76 ∧
  ∃ x78 : Int, hcell H6 (x76.add 2) = some (.int .i64 x78) ∧
  brW (decide (x78 < 64)) (∃ x82 : Addr, a0a = some x82 ∧
  ∃ x84 : Int, hcell H6 (x82.add 2) = some (.int .i64 x84) ∧ 0 ≤ (IntKind.u64.wrap x84) ∧
  letV (andW .u64 x10 (IntKind.u64.wrap ((shlW .u64 1 (IntKind.u64.wrap x84)) - 1))) fun x10 : Int => J12 ((x10 : Int), ()) H6) (J12 ((x10 : Int), ()) H6))
  (fun s12 H7 => (fun (x10 : Int) => R (x10) (0) H7) s12.1)) s10.1)))
theorem ints_Ints_Get.eq (a0a : Option Addr) (a1k : Int) (R : Int → Int → Heap → Prop) (H0 : Heap) :
    evF Try.prog ints_Ints_Get.ann Try.f8 [.pointer a0a, .int .i64 a1k] (fun v H' => xT [.one (.int .u64), .one (.int .i64)] v fun r => R r.1 r.2.1 H') H0 = ints_Ints_Get.W a0a a1k R H0 := by kernel_rfl
theorem ints_Ints_Get.calls {a0a : Option Addr} {a1k : Int} {R : Int → Int → Heap → Prop} {H0 : Heap} (h : ints_Ints_Get.W a0a a1k R H0) : ints_Ints_Get.C a0a a1k H0 R :=
  (evF_sound progOk_ Try.func8 (by rw [ints_Ints_Get.eq]; exact h)).mono fun v H' h => by obtain ⟨x, hv, hk⟩ := xT_out h; exact ⟨x.1, x.2.1, hv, hk⟩

def ints_Ints_Width.ann : Ann := { ord := fun _ => [], loop := fun _ => none, join := fun _ => none }
/-- (*bracken.ints.Ints).Width -/
def ints_Ints_Width.W (a0a : Option Addr) (R : Int → Heap → Prop) (H0 : Heap) : Prop :=
  brW (Option.isNone (a0a)) (R (0) H0) (∃ x6 : Addr, a0a = some x6 ∧
  ∃ x8 : Int, hcell H0 (x6.add 2) = some (.int .i64 x8) ∧ R (x8) H0)
theorem ints_Ints_Width.eq (a0a : Option Addr) (R : Int → Heap → Prop) (H0 : Heap) :
    evF Try.prog ints_Ints_Width.ann Try.f11 [.pointer a0a] (fun v H' => xS (.one (.int .i64)) v fun r => R r H') H0 = ints_Ints_Width.W a0a R H0 := by kernel_rfl
theorem ints_Ints_Width.calls {a0a : Option Addr} {R : Int → Heap → Prop} {H0 : Heap} (h : ints_Ints_Width.W a0a R H0) : ints_Ints_Width.C a0a H0 R :=
  (evF_sound progOk_ Try.func11 (by rw [ints_Ints_Width.eq]; exact h)).mono fun v H' h => by obtain ⟨x, hv, hk⟩ := xS_out h; exact ⟨x, hv, hk⟩

def ints_Ints_Size.ann : Ann := { ord := fun _ => [], loop := fun _ => none, join := fun _ => none }
/-- (*bracken.ints.Ints).Size -/
def ints_Ints_Size.W (a0a : Option Addr) (R : Int → Heap → Prop) (H0 : Heap) : Prop :=
  ints_Ints_Len.C (a0a) H0 fun x4 H1 =>
  ints_Ints_Width.C (a0a) H1 fun x6 H2 => (64 : Int) ≠ 0 ∧
  letV (IntKind.i64.wrap ((IntKind.i64.wrap (Int.tdiv (IntKind.i64.wrap ((IntKind.i64.wrap ((IntKind.i64.wrap (x4 * x6)) + 64)) - 1)) 64)) * 64)) fun x2 : Int => R (x2) H2
theorem ints_Ints_Size.eq (a0a : Option Addr) (R : Int → Heap → Prop) (H0 : Heap) :
    evF Try.prog ints_Ints_Size.ann Try.f10 [.pointer a0a] (fun v H' => xS (.one (.int .i64)) v fun r => R r H') H0 = ints_Ints_Size.W a0a R H0 := by kernel_rfl
theorem ints_Ints_Size.calls {a0a : Option Addr} {R : Int → Heap → Prop} {H0 : Heap} (h : ints_Ints_Size.W a0a R H0) : ints_Ints_Size.C a0a H0 R :=
  (evF_sound progOk_ Try.func10 (by rw [ints_Ints_Size.eq]; exact h)).mono fun v H' h => by obtain ⟨x, hv, hk⟩ := xS_out h; exact ⟨x, hv, hk⟩

def brackenlaw4_told.ann : Ann := { ord := fun _ => [], loop := fun _ => none, join := fun _ => none }
/-- bracken.brackenlaw4.told -/
def brackenlaw4_told.W  (R : Bool → Heap → Prop) (H0 : Heap) : Prop :=
  letV (hnew H0 #[.int .u64 5, .int .u64 1, .int .u64 0] ty_uint64) fun H1 : Heap =>
  ints_New.C (some ⟨Array.size H0, 0, none⟩) 3 3 H1 fun x8 H2 =>
  brW (Option.isNone (x8)) (R false H2) (ints_Ints_Get.C (x8) (0) H2 fun x13_0 x13_1 H3 =>
  ints_Ints_Get.C (x8) (3) H3 fun x18_0 x18_1 H4 =>
  ints_Width.C (5) H4 fun x21 H5 =>
  brW (decide (x21 = 3)) (ints_Width.C (0) H5 fun x24 H6 =>
  brW (decide (x24 = 0)) (ints_Width.C (18446744073709551615) H6 fun x28 H7 =>
  brW (decide (x28 = 64)) (brW (decide (x13_0 = 5)) (brW (decide (x13_1 = 0)) (brW (decide (x18_1 = 4)) (ints_Ints_Width.C (x8) H7 fun x45 H8 =>
  brW (decide (x45 = 3)) (ints_Ints_Size.C (x8) H8 fun x50 H9 =>
  brW (decide (x50 = 64)) (ints_Ints_Len.C (none) H9 fun x55 H10 =>
  brW (decide (x55 = 0)) (ints_New.C (none) 0 0 H10 fun x59 H11 =>
  ints_Ints_Size.C (x59) H11 fun x60 H12 => R (decide (x60 = 0)) H12) (R false H10)) (R false H9)) (R false H8)) (R false H7)) (R false H7)) (R false H7)) (R false H7)) (R false H6)) (R false H5))
theorem brackenlaw4_told.eq  (R : Bool → Heap → Prop) (H0 : Heap) :
    evF Try.prog brackenlaw4_told.ann Try.f9 [] (fun v H' => xS (.one .bool) v fun r => R r H') H0 = brackenlaw4_told.W  R H0 := by kernel_rfl
theorem brackenlaw4_told.calls  {R : Bool → Heap → Prop} {H0 : Heap} (h : brackenlaw4_told.W  R H0) : brackenlaw4_told.C  H0 R :=
  (evF_sound progOk_ Try.func9 (by rw [brackenlaw4_told.eq]; exact h)).mono fun v H' h => by obtain ⟨x, hv, hk⟩ := xS_out h; exact ⟨x, hv, hk⟩

def brackenlaw4_IntsNoughts.ann : Ann := { ord := fun _ => [], loop := fun i => bif Nat.beq i 7 then some [(9, .one (.int .i64))] else none, join := fun i => bif Nat.beq i 5 then some [(36, .one .bool)] else bif Nat.beq i 6 then some [] else bif Nat.beq i 8 then some [] else bif Nat.beq i 12 then some [(67, .one .bool)] else bif Nat.beq i 13 then some [] else none }
/-- bracken.brackenlaw4.IntsNoughts -/
def brackenlaw4_IntsNoughts.W (a0n : Int) (a1x : Int) (R : Bool → Heap → Prop) (H0 : Heap) : Prop :=
  (501 : Int) ≠ 0 ∧
  letV (IntKind.i64.wrap (Int.tmod (IntKind.u64.wrap a0n) 501)) fun k5 : Int => 0 ≤ k5 ∧ k5 ≤ k5 ∧ ((8 : Nat) : Int) * k5 ≤ 281474976710656 ∧
  letV (hnew H0 (zerosOf (.int .u64 0) k5.toNat) ty_uint64) fun H1 : Heap =>
  ints_New.C (some ⟨Array.size H0, 0, none⟩) k5.toNat k5.toNat H1 fun x23 H2 =>
  letV (hnew H2 #[] ty_uint64) fun H3 : Heap => appW ty_uint64 1 8 (.int .u64 0) (some ⟨Array.size H2, 0, none⟩) 0 0 (.slice (some ⟨Array.size H0, 0, none⟩) k5.toNat k5.toNat) H3 fun x26_p x26_l x26_c H4 =>
  letV (hnew H4 #[.int .u64 a1x] ty_uint64) fun H5 : Heap => appW ty_uint64 1 8 (.int .u64 0) x26_p x26_l x26_c (.slice (some ⟨Array.size H4, 0, none⟩) 1 1) H5 fun x29_p x29_l x29_c H6 =>
  ints_New.C (x29_p) x29_l x29_c H6 fun x30 H7 => 
  JoinW (S := Unit) (fun J6 => 
  JoinW (S := (Bool × Unit)) (fun J5 =>
  brW (Option.isNone (x23)) (J5 (true, ()) H7) (J5 (Option.isNone (x30), ()) H7))
  (fun s5 H9 => (fun (x36 : Bool) =>
  brW x36 (R false H9) (J6 () H9)) s5.1))
  (fun _ H8 => 
  JoinW (S := Unit) (fun J13 => 
  LoopW (S := (Int × Unit)) (fun L7 q7 H11 => (fun (i9 : Int) =>
  brW (decide (i9 < k5)) (
  JoinW (S := Unit) (fun J8 =>
  ints_Ints_Get.C (x23) (i9) H11 fun x45_0 x45_1 H13 =>
  ints_Ints_Get.C (x30) (i9) H13 fun x51_0 x51_1 H14 => 
  JoinW (S := (Bool × Unit)) (fun J12 =>
  brW (decide (x45_1 ≠ 0)) (J12 (true, ()) H14) (brW (decide (x51_1 ≠ 0)) (J12 (true, ()) H14) (brW (decide (x45_0 ≠ 0)) (J12 (true, ()) H14) (J12 (decide (x51_0 ≠ 0), ()) H14))))
  (fun s12 H15 => (fun (x67 : Bool) =>
  brW x67 (R false H15) (J8 () H15)) s12.1))
  (fun _ H12 =>
  letV (IntKind.i64.wrap (i9 + 1)) fun i9 : Int => L7 ((i9 : Int), ()) H12)) (J13 () H11)) q7.1) ((0 : Int), ()) H8)
  (fun _ H10 =>
  ints_Ints_Get.C (x30) (k5) H10 fun x71_0 x71_1 H16 =>
  brackenlaw4_told.C  H16 fun x74 H17 =>
  brW x74 (brW (decide (x71_1 = 0)) (brW (decide (x71_0 = a1x)) (ints_Ints_Size.C (x23) H17 fun x86 H18 =>
  brW (decide (x86 = 0)) (ints_Ints_Width.C (x23) H18 fun x91 H19 =>
  brW (decide (x91 = 0)) (ints_Ints_Width.C (x30) H19 fun x96 H20 =>
  ints_Width.C (a1x) H20 fun x98 H21 =>
  brW (decide (x96 = x98)) (ints_Ints_Len.C (x23) H21 fun x103 H22 => R (decide (x103 = k5)) H22) (R false H21)) (R false H19)) (R false H18)) (R false H17)) (R false H17)) (R false H17)))
theorem brackenlaw4_IntsNoughts.eq (a0n : Int) (a1x : Int) (R : Bool → Heap → Prop) (H0 : Heap) :
    evF Try.prog brackenlaw4_IntsNoughts.ann Try.f3 [.int .i64 a0n, .int .u64 a1x] (fun v H' => xS (.one .bool) v fun r => R r H') H0 = brackenlaw4_IntsNoughts.W a0n a1x R H0 := by kernel_rfl
theorem brackenlaw4_IntsNoughts.calls {a0n : Int} {a1x : Int} {R : Bool → Heap → Prop} {H0 : Heap} (h : brackenlaw4_IntsNoughts.W a0n a1x R H0) : brackenlaw4_IntsNoughts.C a0n a1x H0 R :=
  (evF_sound progOk_ Try.func3 (by rw [brackenlaw4_IntsNoughts.eq]; exact h)).mono fun v H' h => by obtain ⟨x, hv, hk⟩ := xS_out h; exact ⟨x, hv, hk⟩

def brackenref1_Width.ann : Ann := { ord := fun _ => [], loop := fun i => bif Nat.beq i 2 then some [(0, .one (.int .u64)), (3, .one (.int .i64))] else none, join := fun i => bif Nat.beq i 5 then some [(3, .one (.int .i64))] else none }
/-- bracken.brackenref1.Width -/
def brackenref1_Width.W (a0n : Int) (R : Int → Heap → Prop) (H0 : Heap) : Prop :=
  
  JoinW (S := (Int × Unit)) (fun J5 => 
  LoopW (S := (Int × Int × Unit)) (fun L2 q2 H2 => (fun (n0 : Int) (w3 : Int) =>
  brW (decide ((0 : Int) < n0)) (letV (IntKind.i64.wrap (w3 + 1)) fun w3 : Int => 0 ≤ (1 : Int) ∧
  letV (shrW .u64 n0 1) fun n0 : Int => L2 ((n0 : Int), (w3 : Int), ()) H2) (J5 ((w3 : Int), ()) H2)) q2.1 q2.2.1) ((a0n : Int), (0 : Int), ()) H0)
  (fun s5 H1 => (fun (w3 : Int) => R (w3) H1) s5.1)
theorem brackenref1_Width.eq (a0n : Int) (R : Int → Heap → Prop) (H0 : Heap) :
    evF Try.prog brackenref1_Width.ann Try.f16 [.int .u64 a0n] (fun v H' => xS (.one (.int .i64)) v fun r => R r H') H0 = brackenref1_Width.W a0n R H0 := by kernel_rfl
theorem brackenref1_Width.calls {a0n : Int} {R : Int → Heap → Prop} {H0 : Heap} (h : brackenref1_Width.W a0n R H0) : brackenref1_Width.C a0n H0 R :=
  (evF_sound progOk_ Try.func16 (by rw [brackenref1_Width.eq]; exact h)).mono fun v H' h => by obtain ⟨x, hv, hk⟩ := xS_out h; exact ⟨x, hv, hk⟩

def brackenref1_Widest.ann : Ann := { ord := fun _ => [], loop := fun i => bif Nat.beq i 3 then some [(3, .one (.int .i64)), (4, .one (.int .i64))] else none, join := fun i => bif Nat.beq i 6 then some [(3, .one (.int .i64))] else none }
/-- bracken.brackenref1.Widest -/
def brackenref1_Widest.W (a0l_p : Option Addr) (a0l_l a0l_c : Nat) (R : Int → Heap → Prop) (H0 : Heap) : Prop :=
  
  JoinW (S := (Int × Unit)) (fun J6 => 
  LoopW (S := (Int × Int × Unit)) (fun L3 q3 H2 => (fun (w3 : Int) (i4 : Int) =>
  brW (decide (i4 < (a0l_l : Int))) (∃ x14 : Addr, a0l_p = some x14 ∧ 0 ≤ i4 ∧ i4 < (a0l_l : Int) ∧
  ∃ x15 : Int, hcell H2 (x14.add i4.toNat) = some (.int .u64 x15) ∧ brackenref1_Width.C (x15) H2 fun x16 H3 =>
  letV (max w3 x16) fun w3 : Int =>
  letV (IntKind.i64.wrap (i4 + 1)) fun i4 : Int => L3 ((w3 : Int), (i4 : Int), ()) H3) (J6 ((w3 : Int), ()) H2)) q3.1 q3.2.1) ((0 : Int), (0 : Int), ()) H0)
  (fun s6 H1 => (fun (w3 : Int) => R (w3) H1) s6.1)
theorem brackenref1_Widest.eq (a0l_p : Option Addr) (a0l_l a0l_c : Nat) (R : Int → Heap → Prop) (H0 : Heap) :
    evF Try.prog brackenref1_Widest.ann Try.f14 [.slice a0l_p a0l_l a0l_c] (fun v H' => xS (.one (.int .i64)) v fun r => R r H') H0 = brackenref1_Widest.W a0l_p a0l_l a0l_c R H0 := by kernel_rfl
theorem brackenref1_Widest.calls {a0l_p : Option Addr} {a0l_l a0l_c : Nat} {R : Int → Heap → Prop} {H0 : Heap} (h : brackenref1_Widest.W a0l_p a0l_l a0l_c R H0) : brackenref1_Widest.C a0l_p a0l_l a0l_c H0 R :=
  (evF_sound progOk_ Try.func14 (by rw [brackenref1_Widest.eq]; exact h)).mono fun v H' h => by obtain ⟨x, hv, hk⟩ := xS_out h; exact ⟨x, hv, hk⟩

def brackenref1_begun.ann : Ann := { ord := fun _ => [], loop := fun _ => none, join := fun _ => none }
/-- bracken.brackenref1.begun -/
def brackenref1_begun.W (a0n : Int) (a1by : Int) (R : Int → Heap → Prop) (H0 : Heap) : Prop :=
  a1by ≠ 0 ∧
  letV (IntKind.i64.wrap (Int.tdiv (IntKind.i64.wrap ((IntKind.i64.wrap (a0n + a1by)) - 1)) a1by)) fun x4 : Int => R (x4) H0
theorem brackenref1_begun.eq (a0n : Int) (a1by : Int) (R : Int → Heap → Prop) (H0 : Heap) :
    evF Try.prog brackenref1_begun.ann Try.f19 [.int .i64 a0n, .int .i64 a1by] (fun v H' => xS (.one (.int .i64)) v fun r => R r H') H0 = brackenref1_begun.W a0n a1by R H0 := by kernel_rfl
theorem brackenref1_begun.calls {a0n : Int} {a1by : Int} {R : Int → Heap → Prop} {H0 : Heap} (h : brackenref1_begun.W a0n a1by R H0) : brackenref1_begun.C a0n a1by H0 R :=
  (evF_sound progOk_ Try.func19 (by rw [brackenref1_begun.eq]; exact h)).mono fun v H' h => by obtain ⟨x, hv, hk⟩ := xS_out h; exact ⟨x, hv, hk⟩

def brackenref1_IntsSize.ann : Ann := { ord := fun _ => [], loop := fun _ => none, join := fun _ => none }
/-- bracken.brackenref1.IntsSize -/
def brackenref1_IntsSize.W (a0n : Int) (a1width : Int) (R : Int → Heap → Prop) (H0 : Heap) : Prop :=
  brackenref1_begun.C (IntKind.i64.wrap (a0n * a1width)) (64) H0 fun x8 H1 =>
  letV (IntKind.i64.wrap (64 * x8)) fun x4 : Int => R (x4) H1
theorem brackenref1_IntsSize.eq (a0n : Int) (a1width : Int) (R : Int → Heap → Prop) (H0 : Heap) :
    evF Try.prog brackenref1_IntsSize.ann Try.f15 [.int .i64 a0n, .int .i64 a1width] (fun v H' => xS (.one (.int .i64)) v fun r => R r H') H0 = brackenref1_IntsSize.W a0n a1width R H0 := by kernel_rfl
theorem brackenref1_IntsSize.calls {a0n : Int} {a1width : Int} {R : Int → Heap → Prop} {H0 : Heap} (h : brackenref1_IntsSize.W a0n a1width R H0) : brackenref1_IntsSize.C a0n a1width H0 R :=
  (evF_sound progOk_ Try.func15 (by rw [brackenref1_IntsSize.eq]; exact h)).mono fun v H' h => by obtain ⟨x, hv, hk⟩ := xS_out h; exact ⟨x, hv, hk⟩

def brackenlaw4_IntsAsks.ann : Ann := { ord := fun _ => [], loop := fun i => bif Nat.beq i 7 then some [(6, .one (.int .i64))] else none, join := fun i => bif Nat.beq i 5 then some [(42, .one .bool)] else bif Nat.beq i 6 then some [] else bif Nat.beq i 8 then some [] else bif Nat.beq i 11 then some [(71, .one .bool)] else bif Nat.beq i 12 then some [] else none }
/-- bracken.brackenlaw4.IntsAsks -/
def brackenlaw4_IntsAsks.W (a0l_p : Option Addr) (a0l_l a0l_c : Nat) (a1k : Int) (R : Bool → Heap → Prop) (H0 : Heap) : Prop :=
  brW (decide ((200 : Int) < (a0l_l : Int))) (brackenlaw4_told.C  H0 fun x14 H1 => R (x14) H1) (ints_New.C (a0l_p) a0l_l a0l_c H0 fun x16 H2 => 
  JoinW (S := Unit) (fun J6 => 
  JoinW (S := (Bool × Unit)) (fun J5 =>
  brW (Option.isNone (x16)) (J5 (true, ()) H2) (ints_Ints_Len.C (x16) H2 fun x21 H5 =>
  brW (decide (x21 ≠ (a0l_l : Int))) (J5 (true, ()) H5) (ints_Ints_Width.C (x16) H5 fun x28 H6 =>
  brackenref1_Widest.C (a0l_p) a0l_l a0l_c H6 fun x30 H7 =>
  brW (decide (x28 ≠ x30)) (J5 (true, ()) H7) (ints_Ints_Size.C (x16) H7 fun x35 H8 =>
  brackenref1_Widest.C (a0l_p) a0l_l a0l_c H8 fun x39 H9 =>
  brackenref1_IntsSize.C ((a0l_l : Int)) (x39) H9 fun x40 H10 => J5 (decide (x35 ≠ x40), ()) H10))))
  (fun s5 H4 => (fun (x42 : Bool) =>
  brW x42 (R false H4) (J6 () H4)) s5.1))
  (fun _ H3 => 
  JoinW (S := Unit) (fun J12 => 
  LoopW (S := (Int × Unit)) (fun L7 q7 H12 => (fun (i6 : Int) =>
  brW (decide (i6 < (a0l_l : Int))) (
  JoinW (S := Unit) (fun J8 =>
  ints_Ints_Get.C (x16) (i6) H12 fun x52_0 x52_1 H14 => 
  JoinW (S := (Bool × Unit)) (fun J11 =>
  brW (decide (x52_1 ≠ 0)) (J11 (true, ()) H14) (∃ x61 : Addr, a0l_p = some x61 ∧ 0 ≤ i6 ∧ i6 < (a0l_l : Int) ∧
  ∃ x62 : Int, hcell H14 (x61.add i6.toNat) = some (.int .u64 x62) ∧
  brW (decide (x52_0 ≠ x62)) (J11 (true, ()) H14) (ints_Width.C (x52_0) H14 fun x67 H16 =>
  brackenref1_Width.C (x52_0) H16 fun x69 H17 => J11 (decide (x67 ≠ x69), ()) H17)))
  (fun s11 H15 => (fun (x71 : Bool) =>
  brW x71 (R false H15) (J8 () H15)) s11.1))
  (fun _ H13 =>
  letV (IntKind.i64.wrap (i6 + 1)) fun i6 : Int => L7 ((i6 : Int), ()) H13)) (J12 () H12)) q7.1) ((0 : Int), ()) H3)
  (fun _ H11 =>
  ints_Ints_Get.C (x16) (a1k) H11 fun x75_0 x75_1 H18 =>
  brackenlaw4_told.C  H18 fun x78 H19 =>
  brW x78 (brW (decide ((0 : Int) ≤ a1k)) (brW (decide ((decide (x75_1 = 0)) = (decide (a1k < (a0l_l : Int))))) (brW (decide (x75_1 = 0)) (R true H19) (brW (decide (x75_1 = 4)) (R (decide (x75_0 = 0)) H19) (R false H19))) (R false H19)) (brW (decide ((decide (x75_1 = 0)) = false)) (brW (decide (x75_1 = 0)) (R true H19) (brW (decide (x75_1 = 4)) (R (decide (x75_0 = 0)) H19) (R false H19))) (R false H19))) (R false H19))))
theorem brackenlaw4_IntsAsks.eq (a0l_p : Option Addr) (a0l_l a0l_c : Nat) (a1k : Int) (R : Bool → Heap → Prop) (H0 : Heap) :
    evF Try.prog brackenlaw4_IntsAsks.ann Try.f4 [.slice a0l_p a0l_l a0l_c, .int .i64 a1k] (fun v H' => xS (.one .bool) v fun r => R r H') H0 = brackenlaw4_IntsAsks.W a0l_p a0l_l a0l_c a1k R H0 := by kernel_rfl
theorem brackenlaw4_IntsAsks.calls {a0l_p : Option Addr} {a0l_l a0l_c : Nat} {a1k : Int} {R : Bool → Heap → Prop} {H0 : Heap} (h : brackenlaw4_IntsAsks.W a0l_p a0l_l a0l_c a1k R H0) : brackenlaw4_IntsAsks.C a0l_p a0l_l a0l_c a1k H0 R :=
  (evF_sound progOk_ Try.func4 (by rw [brackenlaw4_IntsAsks.eq]; exact h)).mono fun v H' h => by obtain ⟨x, hv, hk⟩ := xS_out h; exact ⟨x, hv, hk⟩

def brackenlaw4_IntsWidths.ann : Ann := { ord := fun _ => [], loop := fun i => bif Nat.beq i 3 then some [(3, .one (.int .i64)), (4, .one (.int .u64))] else none, join := fun i => bif Nat.beq i 4 then some [(3, .one (.int .i64))] else bif Nat.beq i 7 then some [(3, .one (.int .i64))] else none }
/-- bracken.brackenlaw4.IntsWidths -/
def brackenlaw4_IntsWidths.W (a0n : Int) (R : Bool → Heap → Prop) (H0 : Heap) : Prop :=
  
  JoinW (S := (Int × Unit)) (fun J7 => 
  LoopW (S := (Int × Int × Unit)) (fun L3 q3 H2 => (fun (w3 : Int) (i4 : Int) =>
  brW (decide (i4 < 64)) (
  JoinW (S := (Int × Unit)) (fun J4 => 0 ≤ i4 ∧
  brW (decide ((shrW .u64 a0n i4) ≠ 0)) (letV (IntKind.i64.wrap (w3 + 1)) fun w3 : Int => J4 ((w3 : Int), ()) H2) (J4 ((w3 : Int), ()) H2))
  (fun s4 H3 => (fun (w3 : Int) =>
  letV (IntKind.u64.wrap (i4 + 1)) fun i4 : Int => L3 ((w3 : Int), (i4 : Int), ()) H3) s4.1)) (J7 ((w3 : Int), ()) H2)) q3.1 q3.2.1) ((0 : Int), (0 : Int), ()) H0)
  (fun s7 H1 => (fun (w3 : Int) =>
  letV (hnew H1 #[.int .u64 a0n, .int .u64 0, .int .u64 a0n] ty_uint64) fun H4 : Heap =>
  ints_New.C (some ⟨Array.size H1, 0, none⟩) 3 3 H4 fun x21 H5 =>
  brW (Option.isNone (x21)) (R false H5) (ints_Ints_Get.C (x21) (2) H5 fun x26_0 x26_1 H6 =>
  brackenlaw4_told.C  H6 fun x29 H7 =>
  brW x29 (ints_Width.C (a0n) H7 fun x32 H8 =>
  brW (decide (x32 = w3)) (brW (decide (x26_1 = 0)) (brW (decide (x26_0 = a0n)) (ints_Ints_Width.C (x21) H8 fun x47 H9 => R (decide (x47 = w3)) H9) (R false H8)) (R false H8)) (R false H8)) (R false H7))) s7.1)
theorem brackenlaw4_IntsWidths.eq (a0n : Int) (R : Bool → Heap → Prop) (H0 : Heap) :
    evF Try.prog brackenlaw4_IntsWidths.ann Try.f5 [.int .u64 a0n] (fun v H' => xS (.one .bool) v fun r => R r H') H0 = brackenlaw4_IntsWidths.W a0n R H0 := by kernel_rfl
theorem brackenlaw4_IntsWidths.calls {a0n : Int} {R : Bool → Heap → Prop} {H0 : Heap} (h : brackenlaw4_IntsWidths.W a0n R H0) : brackenlaw4_IntsWidths.C a0n H0 R :=
  (evF_sound progOk_ Try.func5 (by rw [brackenlaw4_IntsWidths.eq]; exact h)).mono fun v H' h => by obtain ⟨x, hv, hk⟩ := xS_out h; exact ⟨x, hv, hk⟩

def brackenlaw4_IntsOwn.ann : Ann := { ord := fun _ => [], loop := fun i => bif Nat.beq i 8 then some [(5, .one (.int .i64))] else bif Nat.beq i 12 then some [(6, .one (.int .i64))] else none, join := fun i => bif Nat.beq i 2 then some [(17, .one .bool)] else bif Nat.beq i 3 then some [] else bif Nat.beq i 11 then some [] else bif Nat.beq i 13 then some [] else bif Nat.beq i 16 then some [(61, .one .bool)] else bif Nat.beq i 17 then some [] else none }
/-- bracken.brackenlaw4.IntsOwn -/
def brackenlaw4_IntsOwn.W (a0l_p : Option Addr) (a0l_l a0l_c : Nat) (R : Bool → Heap → Prop) (H0 : Heap) : Prop :=
  
  JoinW (S := Unit) (fun J3 => 
  JoinW (S := (Bool × Unit)) (fun J2 =>
  brW (decide ((a0l_l : Int) < 1)) (J2 (true, ()) H0) (J2 (decide ((100 : Int) < (a0l_l : Int)), ()) H0))
  (fun s2 H2 => (fun (x17 : Bool) =>
  brW x17 (brackenlaw4_told.C  H2 fun x18 H3 => R (x18) H3) (J3 () H2)) s2.1))
  (fun _ H1 =>
  letV (hnew H1 #[] ty_uint64) fun H4 : Heap => appW ty_uint64 1 8 (.int .u64 0) (some ⟨Array.size H1, 0, none⟩) 0 0 (.slice a0l_p a0l_l a0l_c) H4 fun x21_p x21_l x21_c H5 =>
  ints_New.C (x21_p) x21_l x21_c H5 fun x23 H6 =>
  brW (Option.isNone (x23)) (R false H6) (
  JoinW (S := Unit) (fun J11 => 
  LoopW (S := (Int × Unit)) (fun L8 q8 H8 => (fun (i5 : Int) =>
  brW (decide (i5 < (x21_l : Int))) (∃ x36 : Addr, x21_p = some x36 ∧ 0 ≤ i5 ∧ i5 < (x21_l : Int) ∧
  ∃ x37 : Int, hcell H8 (x36.add i5.toNat) = some (.int .u64 x37) ∧
  ∃ x39 : Addr, x21_p = some x39 ∧ 0 ≤ i5 ∧ i5 < (x21_l : Int) ∧ (∃ u, hcell H8 (x39.add i5.toNat) = some u) ∧ hfrozen H8 (x39.add i5.toNat) = false ∧
  letV (hset H8 (x39.add i5.toNat) (.int .u64 (notW .u64 x37))) fun H9 : Heap =>
  letV (IntKind.i64.wrap (i5 + 1)) fun i5 : Int => L8 ((i5 : Int), ()) H9) (J11 () H8)) q8.1) ((0 : Int), ()) H6)
  (fun _ H7 => 
  JoinW (S := Unit) (fun J17 => 
  LoopW (S := (Int × Unit)) (fun L12 q12 H11 => (fun (i6 : Int) =>
  brW (decide (i6 < (a0l_l : Int))) (
  JoinW (S := Unit) (fun J13 =>
  ints_Ints_Get.C (x23) (i6) H11 fun x49_0 x49_1 H13 => 
  JoinW (S := (Bool × Unit)) (fun J16 =>
  brW (decide (x49_1 ≠ 0)) (J16 (true, ()) H13) (∃ x58 : Addr, a0l_p = some x58 ∧ 0 ≤ i6 ∧ i6 < (a0l_l : Int) ∧
  ∃ x59 : Int, hcell H13 (x58.add i6.toNat) = some (.int .u64 x59) ∧ J16 (decide (x49_0 ≠ x59), ()) H13))
  (fun s16 H14 => (fun (x61 : Bool) =>
  brW x61 (R false H14) (J13 () H14)) s16.1))
  (fun _ H12 =>
  letV (IntKind.i64.wrap (i6 + 1)) fun i6 : Int => L12 ((i6 : Int), ()) H12)) (J17 () H11)) q12.1) ((0 : Int), ()) H7)
  (fun _ H10 =>
  ints_Ints_Width.C (x23) H10 fun x65 H15 =>
  letV (IntKind.i64.wrap ((a0l_l : Int) * x65)) fun n9 : Int =>
  brackenlaw4_told.C  H15 fun x67 H16 =>
  brW x67 (ints_Ints_Size.C (x23) H16 fun x70 H17 => (64 : Int) ≠ 0 ∧
  brW (decide ((Int.tmod x70 64) = 0)) (ints_Ints_Size.C (x23) H17 fun x76 H18 =>
  brW (decide (n9 ≤ x76)) (ints_Ints_Size.C (x23) H18 fun x82 H19 => R (decide (x82 < (IntKind.i64.wrap (n9 + 64)))) H19) (R false H18)) (R false H17)) (R false H16)))))
theorem brackenlaw4_IntsOwn.eq (a0l_p : Option Addr) (a0l_l a0l_c : Nat) (R : Bool → Heap → Prop) (H0 : Heap) :
    evF Try.prog brackenlaw4_IntsOwn.ann Try.f6 [.slice a0l_p a0l_l a0l_c] (fun v H' => xS (.one .bool) v fun r => R r H') H0 = brackenlaw4_IntsOwn.W a0l_p a0l_l a0l_c R H0 := by kernel_rfl
theorem brackenlaw4_IntsOwn.calls {a0l_p : Option Addr} {a0l_l a0l_c : Nat} {R : Bool → Heap → Prop} {H0 : Heap} (h : brackenlaw4_IntsOwn.W a0l_p a0l_l a0l_c R H0) : brackenlaw4_IntsOwn.C a0l_p a0l_l a0l_c H0 R :=
  (evF_sound progOk_ Try.func6 (by rw [brackenlaw4_IntsOwn.eq]; exact h)).mono fun v H' h => by obtain ⟨x, hv, hk⟩ := xS_out h; exact ⟨x, hv, hk⟩

end Go.Proofs.Ytgdglgkmdnenoaa
