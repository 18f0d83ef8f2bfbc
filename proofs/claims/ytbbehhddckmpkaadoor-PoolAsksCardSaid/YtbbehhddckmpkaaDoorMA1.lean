import Derived.Test.YtbbehhddckmpkaaDoorEvSound
import Derived.Test.YtbbehhddckmpkaaDoorProg
import Derived.KernelRfl
import Derived.Test.YtbbehhddckmpkaaDoorMA0
namespace Go.Proofs.YtbbehhddckmpkaaDoor
open Go.Ev
set_option linter.unusedVariables false
def bits_Len64.ann : Ann := { ord := fun _ => [], loop := fun _ => none, join := fun i => bif Nat.beq i 4 then some [(0, .one (.int .u64)), (2, .one (.int .i64))] else bif Nat.beq i 7 then some [(0, .one (.int .u64)), (2, .one (.int .i64))] else bif Nat.beq i 10 then some [(0, .one (.int .u64)), (2, .one (.int .i64))] else none }
/-- math.bits.Len64 -/
def bits_Len64.W (a0x : Int) (R : Int → Heap → Prop) (H0 : Heap) : Prop :=
  
  JoinW (S := (Int × Int × Unit)) (fun J4 =>
  brW (decide ((4294967296 : Int) ≤ a0x)) (0 ≤ (32 : Int) ∧
  letV (shrW .u64 a0x 32) fun x0 : Int => J4 ((x0 : Int), (32 : Int), ()) H0) (J4 ((a0x : Int), (0 : Int), ()) H0))
  (fun s4 H1 => (fun (x0 : Int) (n2 : Int) => 
  JoinW (S := (Int × Int × Unit)) (fun J7 =>
  brW (decide ((65536 : Int) ≤ x0)) (0 ≤ (16 : Int) ∧
  letV (shrW .u64 x0 16) fun x0 : Int =>
  letV (IntKind.i64.wrap (n2 + 16)) fun n2 : Int => J7 ((x0 : Int), (n2 : Int), ()) H1) (J7 ((x0 : Int), (n2 : Int), ()) H1))
  (fun s7 H2 => (fun (x0 : Int) (n2 : Int) => 
  JoinW (S := (Int × Int × Unit)) (fun J10 =>
  brW (decide ((256 : Int) ≤ x0)) (0 ≤ (8 : Int) ∧
  letV (shrW .u64 x0 8) fun x0 : Int =>
  letV (IntKind.i64.wrap (n2 + 8)) fun n2 : Int => J10 ((x0 : Int), (n2 : Int), ()) H2) (J10 ((x0 : Int), (n2 : Int), ()) H2))
  (fun s10 H3 => (fun (x0 : Int) (n2 : Int) => 0 ≤ IntKind.u8.wrap x0 ∧ IntKind.u8.wrap x0 < ((⟨#[0, 1, 2, 2, 3, 3, 3, 3, 4, 4, 4, 4, 4, 4, 4, 4, 5, 5, 5, 5, 5, 5, 5, 5, 5, 5, 5, 5, 5, 5, 5, 5, 6, 6, 6, 6, 6, 6, 6, 6, 6, 6, 6, 6, 6, 6, 6, 6, 6, 6, 6, 6, 6, 6, 6, 6, 6, 6, 6, 6, 6, 6, 6, 6, 7, 7, 7, 7, 7, 7, 7, 7, 7, 7, 7, 7, 7, 7, 7, 7, 7, 7, 7, 7, 7, 7, 7, 7, 7, 7, 7, 7, 7, 7, 7, 7, 7, 7, 7, 7, 7, 7, 7, 7, 7, 7, 7, 7, 7, 7, 7, 7, 7, 7, 7, 7, 7, 7, 7, 7, 7, 7, 7, 7, 7, 7, 7, 7, 8, 8, 8, 8, 8, 8, 8, 8, 8, 8, 8, 8, 8, 8, 8, 8, 8, 8, 8, 8, 8, 8, 8, 8, 8, 8, 8, 8, 8, 8, 8, 8, 8, 8, 8, 8, 8, 8, 8, 8, 8, 8, 8, 8, 8, 8, 8, 8, 8, 8, 8, 8, 8, 8, 8, 8, 8, 8, 8, 8, 8, 8, 8, 8, 8, 8, 8, 8, 8, 8, 8, 8, 8, 8, 8, 8, 8, 8, 8, 8, 8, 8, 8, 8, 8, 8, 8, 8, 8, 8, 8, 8, 8, 8, 8, 8, 8, 8, 8, 8, 8, 8, 8, 8, 8, 8, 8, 8, 8, 8, 8, 8, 8, 8, 8, 8, 8, 8, 8, 8, 8, 8, 8, 8, 8, 8, 8, 8]⟩ : ByteArray).size : Int) ∧
  letV (IntKind.i64.wrap (n2 + (IntKind.i64.wrap (bt (⟨#[0, 1, 2, 2, 3, 3, 3, 3, 4, 4, 4, 4, 4, 4, 4, 4, 5, 5, 5, 5, 5, 5, 5, 5, 5, 5, 5, 5, 5, 5, 5, 5, 6, 6, 6, 6, 6, 6, 6, 6, 6, 6, 6, 6, 6, 6, 6, 6, 6, 6, 6, 6, 6, 6, 6, 6, 6, 6, 6, 6, 6, 6, 6, 6, 7, 7, 7, 7, 7, 7, 7, 7, 7, 7, 7, 7, 7, 7, 7, 7, 7, 7, 7, 7, 7, 7, 7, 7, 7, 7, 7, 7, 7, 7, 7, 7, 7, 7, 7, 7, 7, 7, 7, 7, 7, 7, 7, 7, 7, 7, 7, 7, 7, 7, 7, 7, 7, 7, 7, 7, 7, 7, 7, 7, 7, 7, 7, 7, 8, 8, 8, 8, 8, 8, 8, 8, 8, 8, 8, 8, 8, 8, 8, 8, 8, 8, 8, 8, 8, 8, 8, 8, 8, 8, 8, 8, 8, 8, 8, 8, 8, 8, 8, 8, 8, 8, 8, 8, 8, 8, 8, 8, 8, 8, 8, 8, 8, 8, 8, 8, 8, 8, 8, 8, 8, 8, 8, 8, 8, 8, 8, 8, 8, 8, 8, 8, 8, 8, 8, 8, 8, 8, 8, 8, 8, 8, 8, 8, 8, 8, 8, 8, 8, 8, 8, 8, 8, 8, 8, 8, 8, 8, 8, 8, 8, 8, 8, 8, 8, 8, 8, 8, 8, 8, 8, 8, 8, 8, 8, 8, 8, 8, 8, 8, 8, 8, 8, 8, 8, 8, 8, 8, 8, 8, 8, 8]⟩ : ByteArray) (IntKind.u8.wrap x0))))) fun n2 : Int => R (n2) H3) s10.1 s10.2.1)) s7.1 s7.2.1)) s4.1 s4.2.1)
theorem bits_Len64.eq (a0x : Int) (R : Int → Heap → Prop) (H0 : Heap) :
    evF Tryd.prog bits_Len64.ann Tryd.f33 [.int .u64 a0x] (fun v H' => xS (.one (.int .i64)) v fun r => R r H') H0 = bits_Len64.W a0x R H0 := by kernel_rfl
theorem bits_Len64.calls {a0x : Int} {R : Int → Heap → Prop} {H0 : Heap} (h : bits_Len64.W a0x R H0) : bits_Len64.C a0x H0 R :=
  (evF_sound progOk_ Tryd.func33 (by rw [bits_Len64.eq]; exact h)).mono fun v H' h => by obtain ⟨x, hv, hk⟩ := xS_out h; exact ⟨x, hv, hk⟩

def ints_Width.ann : Ann := { ord := fun _ => [], loop := fun _ => none, join := fun _ => none }
/-- bracken.ints.Width -/
def ints_Width.W (a0n : Int) (R : Int → Heap → Prop) (H0 : Heap) : Prop :=
  bits_Len64.C (a0n) H0 fun x4 H1 => R (x4) H1
theorem ints_Width.eq (a0n : Int) (R : Int → Heap → Prop) (H0 : Heap) :
    evF Tryd.prog ints_Width.ann Tryd.f20 [.int .u64 a0n] (fun v H' => xS (.one (.int .i64)) v fun r => R r H') H0 = ints_Width.W a0n R H0 := by kernel_rfl
theorem ints_Width.calls {a0n : Int} {R : Int → Heap → Prop} {H0 : Heap} (h : ints_Width.W a0n R H0) : ints_Width.C a0n H0 R :=
  (evF_sound progOk_ Tryd.func20 (by rw [ints_Width.eq]; exact h)).mono fun v H' h => by obtain ⟨x, hv, hk⟩ := xS_out h; exact ⟨x, hv, hk⟩

def bits_OnesCount64.ann : Ann := { ord := fun _ => [], loop := fun _ => none, join := fun _ => none }
/-- math.bits.OnesCount64 -/
def bits_OnesCount64.W (a0x : Int) (R : Int → Heap → Prop) (H0 : Heap) : Prop :=
  0 ≤ (1 : Int) ∧
  letV (IntKind.u64.wrap ((andW .u64 (shrW .u64 a0x 1) 6148914691236517205) + (andW .u64 a0x 6148914691236517205))) fun x0 : Int => 0 ≤ (2 : Int) ∧
  letV (IntKind.u64.wrap ((andW .u64 (shrW .u64 x0 2) 3689348814741910323) + (andW .u64 x0 3689348814741910323))) fun x0 : Int => 0 ≤ (4 : Int) ∧
  letV (andW .u64 (IntKind.u64.wrap ((shrW .u64 x0 4) + x0)) 1085102592571150095) fun x0 : Int => 0 ≤ (8 : Int) ∧
  letV (IntKind.u64.wrap (x0 + (shrW .u64 x0 8))) fun x0 : Int => 0 ≤ (16 : Int) ∧
  letV (IntKind.u64.wrap (x0 + (shrW .u64 x0 16))) fun x0 : Int => 0 ≤ (32 : Int) ∧
  letV (IntKind.u64.wrap (x0 + (shrW .u64 x0 32))) fun x0 : Int =>
  letV (andW .i64 (IntKind.i64.wrap x0) 127) fun x2 : Int => R (x2) H0
theorem bits_OnesCount64.eq (a0x : Int) (R : Int → Heap → Prop) (H0 : Heap) :
    evF Tryd.prog bits_OnesCount64.ann Tryd.f34 [.int .u64 a0x] (fun v H' => xS (.one (.int .i64)) v fun r => R r H') H0 = bits_OnesCount64.W a0x R H0 := by kernel_rfl
theorem bits_OnesCount64.calls {a0x : Int} {R : Int → Heap → Prop} {H0 : Heap} (h : bits_OnesCount64.W a0x R H0) : bits_OnesCount64.C a0x H0 R :=
  (evF_sound progOk_ Tryd.func34 (by rw [bits_OnesCount64.eq]; exact h)).mono fun v H' h => by obtain ⟨x, hv, hk⟩ := xS_out h; exact ⟨x, hv, hk⟩

def bits_New.ann : Ann := { ord := fun i => bif Nat.beq i 14 then [0, 1, 2, 3, 4, 5, 6, 7, 8, 9, 10, 11] else bif Nat.beq i 15 then [0, 1, 2, 3, 4, 5, 6, 7] else [], loop := fun i => bif Nat.beq i 6 then some [(6, .one (.int .i64))] else bif Nat.beq i 10 then some [(7, .one (.int .i64))] else none, join := fun i => bif Nat.beq i 7 then some [] else bif Nat.beq i 11 then some [] else bif Nat.beq i 14 then some [] else bif Nat.beq i 16 then some [] else none }
/-- bracken.bits.New -/
def bits_New.W (a0l_p : Option Addr) (a0l_l a0l_c : Nat) (R : Option Addr → Int → Heap → Prop) (H0 : Heap) : Prop :=
  brW (decide ((4194304 : Int) < (a0l_l : Int))) (R (none) (7) H0) (letV (hnew H0 #[.slice none 0 0, .int .i64 (a0l_l : Int)] ty_bits_Bits) fun H1 : Heap =>
  letV (hnew H1 #[.int .u64 0, .int .i64 0] ty_bits_part) fun H2 : Heap => 
  JoinW (S := Unit) (fun J16 => 
  LoopW (S := (Int × Unit)) (fun L6 q6 H4 => (fun (k6 : Int) =>
  brW (decide (k6 ≤ (a0l_l : Int))) (
  JoinW (S := Unit) (fun J7 => (∃ u, hcell H4 ((⟨Array.size H1, 0, none⟩ : Addr).add 0) = some u) ∧ hfrozen H4 ((⟨Array.size H1, 0, none⟩ : Addr).add 0) = false ∧
  letV (hset H4 ((⟨Array.size H1, 0, none⟩ : Addr).add 0) (.int .u64 0)) fun H6 : Heap => 
  JoinW (S := Unit) (fun J14 => 
  LoopW (S := (Int × Unit)) (fun L10 q10 H8 => (fun (i7 : Int) =>
  brW (decide (i7 < (min (IntKind.i64.wrap (k6 + 64)) (a0l_l : Int)))) (
  JoinW (S := Unit) (fun J11 =>
  ∃ x34 : Addr, a0l_p = some x34 ∧ 0 ≤ i7 ∧ i7 < (a0l_l : Int) ∧
  ∃ x35 : Bool, hcell H8 (x34.add i7.toNat) = some (.bool x35) ∧
  brW x35 (∃ x37 : Int, hcell H8 ((⟨Array.size H1, 0, none⟩ : Addr).add 0) = some (.int .u64 x37) ∧ 0 ≤ (IntKind.u64.wrap (IntKind.i64.wrap (i7 - k6))) ∧ (∃ u, hcell H8 ((⟨Array.size H1, 0, none⟩ : Addr).add 0) = some u) ∧ hfrozen H8 ((⟨Array.size H1, 0, none⟩ : Addr).add 0) = false ∧
  letV (hset H8 ((⟨Array.size H1, 0, none⟩ : Addr).add 0) (.int .u64 (orW .u64 x37 (shlW .u64 1 (IntKind.u64.wrap (IntKind.i64.wrap (i7 - k6))))))) fun H10 : Heap => J11 () H10) (J11 () H8))
  (fun _ H9 =>
  letV (IntKind.i64.wrap (i7 + 1)) fun i7 : Int => L10 ((i7 : Int), ()) H9)) (J14 () H8)) q10.1) ((k6 : Int), ()) H6)
  (fun _ H7 =>
  ∃ x47 : Addr, some ⟨Array.size H0, 0, none⟩ = some x47 ∧
  ∃ (x49_p : Option Addr) (x49_l x49_c : Nat), hcell H7 (x47.add 0) = some (.slice x49_p x49_l x49_c) ∧
  ∃ x50_0 : Int, hcell H7 ((⟨Array.size H1, 0, none⟩ : Addr).add 0) = some (.int .u64 x50_0) ∧
  ∃ x50_1 : Int, hcell H7 ((⟨Array.size H1, 0, none⟩ : Addr).add 1) = some (.int .i64 x50_1) ∧
  letV (hnew H7 #[.iface ty_bits_part (.agg #[.int .u64 x50_0, .int .i64 x50_1])] ty_any) fun H11 : Heap => (∃ (x49s_p : Option Addr) (x49s_l x49s_c : Nat), hcell H11 (x47.add 0) = some (.slice x49s_p x49s_l x49s_c) ∧ (.slice x49s_p x49s_l x49s_c : Value) = .slice x49_p x49_l x49_c) ∧ appW ty_any 1 16 (.nilIface) x49_p x49_l x49_c (.slice (some ⟨Array.size H7, 0, none⟩) 1 1) H11 fun x53_p x53_l x53_c H12 =>
  ∃ x54 : Addr, some ⟨Array.size H0, 0, none⟩ = some x54 ∧ (∃ u, hcell H12 (x54.add 0) = some u) ∧ hfrozen H12 (x54.add 0) = false ∧
  letV (hset H12 (x54.add 0) (.slice x53_p x53_l x53_c)) fun H13 : Heap =>
  ∃ x57 : Int, hcell H13 ((⟨Array.size H1, 0, none⟩ : Addr).add 1) = some (.int .i64 x57) ∧
  ∃ x59 : Int, hcell H13 ((⟨Array.size H1, 0, none⟩ : Addr).add 0) = some (.int .u64 x59) ∧ bits_OnesCount64.C (x59) H13 fun x60 H14 => (∃ x57s : Int, hcell H14 ((⟨Array.size H1, 0, none⟩ : Addr).add 1) = some (.int .i64 x57s) ∧ (.int .i64 x57s : Value) = .int .i64 x57) ∧ (∃ u, hcell H14 ((⟨Array.size H1, 0, none⟩ : Addr).add 1) = some u) ∧ hfrozen H14 ((⟨Array.size H1, 0, none⟩ : Addr).add 1) = false ∧
  letV (hset H14 ((⟨Array.size H1, 0, none⟩ : Addr).add 1) (.int .i64 (IntKind.i64.wrap (x57 + x60)))) fun H15 : Heap => J7 () H15))
  (fun _ H5 =>
  letV (IntKind.i64.wrap (k6 + 64)) fun k6 : Int => L6 ((k6 : Int), ()) H5)) (J16 () H4)) q6.1) ((0 : Int), ()) H2)
  (fun _ H3 => R (some ⟨Array.size H0, 0, none⟩) (0) H3))
theorem bits_New.eq (a0l_p : Option Addr) (a0l_l a0l_c : Nat) (R : Option Addr → Int → Heap → Prop) (H0 : Heap) :
    evF Tryd.prog bits_New.ann Tryd.f21 [.slice a0l_p a0l_l a0l_c] (fun v H' => xT [.one .ptr, .one (.int .i64)] v fun r => R r.1 r.2.1 H') H0 = bits_New.W a0l_p a0l_l a0l_c R H0 := by kernel_rfl
theorem bits_New.calls {a0l_p : Option Addr} {a0l_l a0l_c : Nat} {R : Option Addr → Int → Heap → Prop} {H0 : Heap} (h : bits_New.W a0l_p a0l_l a0l_c R H0) : bits_New.C a0l_p a0l_l a0l_c H0 R :=
  (evF_sound progOk_ Tryd.func21 (by rw [bits_New.eq]; exact h)).mono fun v H' h => by obtain ⟨x, hv, hk⟩ := xT_out h; exact ⟨x.1, x.2.1, hv, hk⟩

def slices_Max_uint64_uint64.ann : Ann := { ord := fun _ => [], loop := fun i => bif Nat.beq i 5 then some [(3, .one (.int .u64)), (4, .one (.int .i64))] else none, join := fun i => bif Nat.beq i 3 then some [] else bif Nat.beq i 8 then some [(3, .one (.int .u64))] else none }
/-- slices.Max[[]uint64,uint64] -/
def slices_Max_uint64_uint64.W (a0x_p : Option Addr) (a0x_l a0x_c : Nat) (R : Int → Heap → Prop) (H0 : Heap) : Prop :=
  
  JoinW (S := Unit) (fun J3 =>
  brW (decide ((a0x_l : Int) < 1)) (False) (J3 () H0))
  (fun _ H1 =>
  ∃ x10 : Addr, a0x_p = some x10 ∧ 0 ≤ (0 : Int) ∧ (0 : Int) < (a0x_l : Int) ∧
  ∃ x11 : Int, hcell H1 (x10.add ((0 : Int).toNat)) = some (.int .u64 x11) ∧ 
  JoinW (S := (Int × Unit)) (fun J8 => 
  LoopW (S := (Int × Int × Unit)) (fun L5 q5 H3 => (fun (m3 : Int) (i4 : Int) =>
  brW (decide (i4 < (a0x_l : Int))) (∃ x21 : Addr, a0x_p = some x21 ∧ 0 ≤ i4 ∧ i4 < (a0x_l : Int) ∧
  ∃ x22 : Int, hcell H3 (x21.add i4.toNat) = some (.int .u64 x22) ∧
  letV (max m3 x22) fun m3 : Int =>
  letV (IntKind.i64.wrap (i4 + 1)) fun i4 : Int => L5 ((m3 : Int), (i4 : Int), ()) H3) (J8 ((m3 : Int), ()) H3)) q5.1 q5.2.1) ((x11 : Int), (1 : Int), ()) H1)
  (fun s8 H2 => (fun (m3 : Int) => R (m3) H2) s8.1))
theorem slices_Max_uint64_uint64.eq (a0x_p : Option Addr) (a0x_l a0x_c : Nat) (R : Int → Heap → Prop) (H0 : Heap) :
    evF Tryd.prog slices_Max_uint64_uint64.ann Tryd.f35 [.slice a0x_p a0x_l a0x_c] (fun v H' => xS (.one (.int .u64)) v fun r => R r H') H0 = slices_Max_uint64_uint64.W a0x_p a0x_l a0x_c R H0 := by kernel_rfl
theorem slices_Max_uint64_uint64.calls {a0x_p : Option Addr} {a0x_l a0x_c : Nat} {R : Int → Heap → Prop} {H0 : Heap} (h : slices_Max_uint64_uint64.W a0x_p a0x_l a0x_c R H0) : slices_Max_uint64_uint64.C a0x_p a0x_l a0x_c H0 R :=
  (evF_sound progOk_ Tryd.func35 (by rw [slices_Max_uint64_uint64.eq]; exact h)).mono fun v H' h => by obtain ⟨x, hv, hk⟩ := xS_out h; exact ⟨x, hv, hk⟩

def ints_New.ann : Ann := { ord := fun i => bif Nat.beq i 4 then [0, 1, 2, 3, 4, 5, 6, 7, 8, 9, 10, 11, 12, 13] else bif Nat.beq i 8 then [0, 1, 2, 3, 4, 5, 6, 7, 8, 9, 10, 11, 12, 13, 14, 15, 16] else [], loop := fun i => bif Nat.beq i 6 then some [(37, .one (.int .i64))] else none, join := fun i => bif Nat.beq i 4 then some [] else bif Nat.beq i 13 then some [] else bif Nat.beq i 14 then some [] else none }
/-- bracken.ints.New -/
def ints_New.W (a0l_p : Option Addr) (a0l_l a0l_c : Nat) (R : Option Addr → Heap → Prop) (H0 : Heap) : Prop :=
  letV (hnew H0 #[.nilIface, .int .i64 (a0l_l : Int), .int .i64 0] ty_ints_Ints) fun H1 : Heap => 
  JoinW (S := Unit) (fun J4 =>
  brW (decide ((0 : Int) < (a0l_l : Int))) (slices_Max_uint64_uint64.C (a0l_p) a0l_l a0l_c H1 fun x18 H3 =>
  ints_Width.C (x18) H3 fun x19 H4 =>
  ∃ x20 : Addr, some ⟨Array.size H0, 0, none⟩ = some x20 ∧ (∃ u, hcell H4 (x20.add 2) = some u) ∧ hfrozen H4 (x20.add 2) = false ∧
  letV (hset H4 (x20.add 2) (.int .i64 x19)) fun H5 : Heap => J4 () H5) (J4 () H1))
  (fun _ H2 =>
  ∃ x23 : Addr, some ⟨Array.size H0, 0, none⟩ = some x23 ∧
  ∃ x25 : Int, hcell H2 (x23.add 1) = some (.int .i64 x25) ∧
  ∃ x27 : Addr, some ⟨Array.size H0, 0, none⟩ = some x27 ∧
  ∃ x29 : Int, hcell H2 (x27.add 2) = some (.int .i64 x29) ∧ (64 : Int) ≠ 0 ∧ 0 ≤ IntKind.i64.wrap (Int.tdiv (IntKind.i64.wrap ((IntKind.i64.wrap ((IntKind.i64.wrap (x25 * x29)) + 64)) - 1)) 64) ∧ IntKind.i64.wrap (Int.tdiv (IntKind.i64.wrap ((IntKind.i64.wrap ((IntKind.i64.wrap (x25 * x29)) + 64)) - 1)) 64) ≤ IntKind.i64.wrap (Int.tdiv (IntKind.i64.wrap ((IntKind.i64.wrap ((IntKind.i64.wrap (x25 * x29)) + 64)) - 1)) 64) ∧ ((8 : Nat) : Int) * (IntKind.i64.wrap (Int.tdiv (IntKind.i64.wrap ((IntKind.i64.wrap ((IntKind.i64.wrap (x25 * x29)) + 64)) - 1)) 64)) ≤ 281474976710656 ∧
  letV (hnew H2 (zerosOf (.int .u64 0) ((IntKind.i64.wrap (Int.tdiv (IntKind.i64.wrap ((IntKind.i64.wrap ((IntKind.i64.wrap (x25 * x29)) + 64)) - 1)) 64)).toNat)) ty_uint64) fun H6 : Heap => 
  JoinW (S := Unit) (fun J14 => 
  LoopW (S := (Int × Unit)) (fun L6 q6 H8 => (fun (x37 : Int) =>
  brW (decide (x37 < (a0l_l : Int))) (
  JoinW (S := Unit) (fun J13 =>
  ∃ x40 : Addr, a0l_p = some x40 ∧ 0 ≤ x37 ∧ x37 < (a0l_l : Int) ∧
  ∃ x41 : Int, hcell H8 (x40.add x37.toNat) = some (.int .u64 x41) ∧
  ∃ x44 : Addr, some ⟨Array.size H0, 0, none⟩ = some x44 ∧
  ∃ x46 : Int, hcell H8 (x44.add 2) = some (.int .i64 x46) ∧ (64 : Int) ≠ 0 ∧
  ∃ x51 : Addr, some ⟨Array.size H0, 0, none⟩ = some x51 ∧
  ∃ x53 : Int, hcell H8 (x51.add 2) = some (.int .i64 x53) ∧ (64 : Int) ≠ 0 ∧
  letV (IntKind.i64.wrap (Int.tdiv (IntKind.i64.wrap (x37 * x46)) 64)) fun at7 : Int =>
  letV (IntKind.u64.wrap (Int.tmod (IntKind.i64.wrap (x37 * x53)) 64)) fun off8 : Int =>
  ∃ x58 : Addr, some ⟨Array.size H0, 0, none⟩ = some x58 ∧
  ∃ x60 : Int, hcell H8 (x58.add 2) = some (.int .i64 x60) ∧
  brW (decide (x60 = 0)) (J13 () H8) (∃ x64 : Addr, some ⟨Array.size H2, 0, none⟩ = some x64 ∧ 0 ≤ at7 ∧ at7 < ((IntKind.i64.wrap (Int.tdiv (IntKind.i64.wrap ((IntKind.i64.wrap ((IntKind.i64.wrap (x25 * x29)) + 64)) - 1)) 64)).toNat : Int) ∧
  ∃ x65 : Int, hcell H8 (x64.add at7.toNat) = some (.int .u64 x65) ∧ 0 ≤ off8 ∧
  ∃ x70 : Addr, some ⟨Array.size H2, 0, none⟩ = some x70 ∧ 0 ≤ at7 ∧ at7 < ((IntKind.i64.wrap (Int.tdiv (IntKind.i64.wrap ((IntKind.i64.wrap ((IntKind.i64.wrap (x25 * x29)) + 64)) - 1)) 64)).toNat : Int) ∧ (∃ u, hcell H8 (x70.add at7.toNat) = some u) ∧ hfrozen H8 (x70.add at7.toNat) = false ∧
  letV (hset H8 (x70.add at7.toNat) (.int .u64 (orW .u64 x65 (shlW .u64 x41 off8)))) fun H10 : Heap =>
  ∃ x74 : Addr, some ⟨Array.size H0, 0, none⟩ = some x74 ∧
  ∃ x76 : Int, hcell H10 (x74.add 2) = some (.int .i64 x76) ∧
  brW (decide ((64 : Int) < (IntKind.i64.wrap ((IntKind.i64.wrap off8) + x76)))) (∃ x82 : Addr, some ⟨Array.size H2, 0, none⟩ = some x82 ∧ 0 ≤ IntKind.i64.wrap (at7 + 1) ∧ IntKind.i64.wrap (at7 + 1) < ((IntKind.i64.wrap (Int.tdiv (IntKind.i64.wrap ((IntKind.i64.wrap ((IntKind.i64.wrap (x25 * x29)) + 64)) - 1)) 64)).toNat : Int) ∧
  ∃ x83 : Int, hcell H10 (x82.add ((IntKind.i64.wrap (at7 + 1)).toNat)) = some (.int .u64 x83) ∧ 0 ≤ (IntKind.u64.wrap (64 - off8)) ∧
  ∃ x89 : Addr, some ⟨Array.size H2, 0, none⟩ = some x89 ∧ 0 ≤ IntKind.i64.wrap (at7 + 1) ∧ IntKind.i64.wrap (at7 + 1) < ((IntKind.i64.wrap (Int.tdiv (IntKind.i64.wrap ((IntKind.i64.wrap ((IntKind.i64.wrap (x25 * x29)) + 64)) - 1)) 64)).toNat : Int) ∧ (∃ u, hcell H10 (x89.add ((IntKind.i64.wrap (at7 + 1)).toNat)) = some u) ∧ hfrozen H10 (x89.add ((IntKind.i64.wrap (at7 + 1)).toNat)) = false ∧
  letV (hset H10 (x89.add ((IntKind.i64.wrap (at7 + 1)).toNat)) (.int .u64 (orW .u64 x83 (shrW .u64 x41 (IntKind.u64.wrap (64 - off8)))))) fun H11 : Heap => J13 () H11) (J13 () H10)))
  (fun _ H9 => L6 ((IntKind.i64.wrap (x37 + 1) : Int), ()) H9)) (J14 () H8)) q6.1) ((0 : Int), ()) H6)
  (fun _ H7 =>
  ∃ x94 : Addr, some ⟨Array.size H0, 0, none⟩ = some x94 ∧ (∃ u, hcell H7 (x94.add 0) = some u) ∧ hfrozen H7 (x94.add 0) = false ∧
  letV (hset H7 (x94.add 0) (.iface ty_s_uint64 (.slice (some ⟨Array.size H2, 0, none⟩) ((IntKind.i64.wrap (Int.tdiv (IntKind.i64.wrap ((IntKind.i64.wrap ((IntKind.i64.wrap (x25 * x29)) + 64)) - 1)) 64)).toNat) ((IntKind.i64.wrap (Int.tdiv (IntKind.i64.wrap ((IntKind.i64.wrap ((IntKind.i64.wrap (x25 * x29)) + 64)) - 1)) 64)).toNat)))) fun H12 : Heap => R (some ⟨Array.size H0, 0, none⟩) H12))
theorem ints_New.eq (a0l_p : Option Addr) (a0l_l a0l_c : Nat) (R : Option Addr → Heap → Prop) (H0 : Heap) :
    evF Tryd.prog ints_New.ann Tryd.f22 [.slice a0l_p a0l_l a0l_c] (fun v H' => xS (.one .ptr) v fun r => R r H') H0 = ints_New.W a0l_p a0l_l a0l_c R H0 := by kernel_rfl
theorem ints_New.calls {a0l_p : Option Addr} {a0l_l a0l_c : Nat} {R : Option Addr → Heap → Prop} {H0 : Heap} (h : ints_New.W a0l_p a0l_l a0l_c R H0) : ints_New.C a0l_p a0l_l a0l_c H0 R :=
  (evF_sound progOk_ Tryd.func22 (by rw [ints_New.eq]; exact h)).mono fun v H' h => by obtain ⟨x, hv, hk⟩ := xS_out h; exact ⟨x, hv, hk⟩

def offs_New.ann : Ann := { ord := fun i => bif Nat.beq i 15 then [0, 1, 2, 3, 4, 5, 6, 7, 8, 9, 10, 11] else [], loop := fun i => bif Nat.beq i 3 then some [(4, .one (.int .i64)), (14, .one (.int .i64))] else bif Nat.beq i 18 then some [(9, .one .slice), (70, .one (.int .i64))] else none, join := fun i => bif Nat.beq i 9 then some [(4, .one (.int .i64))] else bif Nat.beq i 14 then some [] else bif Nat.beq i 23 then some [(9, .one .slice)] else none }
/-- bracken.offs.New -/
def offs_New.W (a0l_p : Option Addr) (a0l_l a0l_c : Nat) (R : Option Addr → Int → Heap → Prop) (H0 : Heap) : Prop :=
  
  JoinW (S := (Int × Unit)) (fun J9 => 
  LoopW (S := (Int × Int × Unit)) (fun L3 q3 H2 => (fun (last4 : Int) (x14 : Int) =>
  brW (decide (x14 < (a0l_l : Int))) (∃ x16 : Addr, a0l_p = some x16 ∧ 0 ≤ x14 ∧ x14 < (a0l_l : Int) ∧
  ∃ x17 : Int, hcell H2 (x16.add x14.toNat) = some (.int .i64 x17) ∧
  brW (decide (x17 < last4)) (R (none) (1) H2) (L3 ((x17 : Int), (IntKind.i64.wrap (x14 + 1) : Int), ()) H2)) (J9 ((last4 : Int), ()) H2)) q3.1 q3.2.1) ((0 : Int), (0 : Int), ()) H0)
  (fun s9 H1 => (fun (last4 : Int) =>
  brW (decide ((8388608 : Int) < last4)) (R (none) (1) H1) (letV (hnew H1 #[.nilIface, .nilIface, .int .i64 (a0l_l : Int), .int .i64 0, .int .i64 0] ty_offs_Offs) fun H3 : Heap => 
  JoinW (S := Unit) (fun J14 =>
  ∃ x30 : Addr, some ⟨Array.size H1, 0, none⟩ = some x30 ∧
  ∃ x32 : Int, hcell H3 (x30.add 2) = some (.int .i64 x32) ∧
  brW (decide ((0 : Int) < x32)) (∃ x37 : Addr, some ⟨Array.size H1, 0, none⟩ = some x37 ∧
  ∃ x39 : Int, hcell H3 (x37.add 2) = some (.int .i64 x39) ∧ x39 ≠ 0 ∧ ints_Width.C (IntKind.u64.wrap (IntKind.i64.wrap (Int.tdiv last4 x39))) H3 fun x42 H5 =>
  ∃ x45 : Addr, some ⟨Array.size H1, 0, none⟩ = some x45 ∧ (∃ u, hcell H5 (x45.add 3) = some u) ∧ hfrozen H5 (x45.add 3) = false ∧
  letV (hset H5 (x45.add 3) (.int .i64 (max (IntKind.i64.wrap (x42 - 1)) 0))) fun H6 : Heap => J14 () H6) (J14 () H3))
  (fun _ H4 =>
  ∃ x50 : Addr, some ⟨Array.size H1, 0, none⟩ = some x50 ∧
  ∃ x52 : Int, hcell H4 (x50.add 3) = some (.int .i64 x52) ∧ 0 ≤ (IntKind.u64.wrap x52) ∧
  ∃ x55 : Addr, some ⟨Array.size H1, 0, none⟩ = some x55 ∧ (∃ u, hcell H4 (x55.add 4) = some u) ∧ hfrozen H4 (x55.add 4) = false ∧
  letV (hset H4 (x55.add 4) (.int .i64 (shrW .i64 last4 (IntKind.u64.wrap x52)))) fun H7 : Heap =>
  ∃ x58 : Addr, some ⟨Array.size H1, 0, none⟩ = some x58 ∧
  ∃ x60 : Int, hcell H7 (x58.add 2) = some (.int .i64 x60) ∧
  ∃ x62 : Addr, some ⟨Array.size H1, 0, none⟩ = some x62 ∧
  ∃ x64 : Int, hcell H7 (x62.add 4) = some (.int .i64 x64) ∧ 0 ≤ IntKind.i64.wrap ((IntKind.i64.wrap (x60 + x64)) + 1) ∧ IntKind.i64.wrap ((IntKind.i64.wrap (x60 + x64)) + 1) ≤ IntKind.i64.wrap ((IntKind.i64.wrap (x60 + x64)) + 1) ∧ ((1 : Nat) : Int) * (IntKind.i64.wrap ((IntKind.i64.wrap (x60 + x64)) + 1)) ≤ 281474976710656 ∧
  letV (hnew H7 (zerosOf (.bool false) ((IntKind.i64.wrap ((IntKind.i64.wrap (x60 + x64)) + 1)).toNat)) ty_bool) fun H8 : Heap => 
  JoinW (S := ((Option Addr × Nat × Nat) × Unit)) (fun J23 => 
  LoopW (S := ((Option Addr × Nat × Nat) × Int × Unit)) (fun L18 q18 H10 => (fun (low9_p : Option Addr) (low9_l low9_c : Nat) (x70 : Int) =>
  brW (decide (x70 < (a0l_l : Int))) (∃ x73 : Addr, a0l_p = some x73 ∧ 0 ≤ x70 ∧ x70 < (a0l_l : Int) ∧
  ∃ x74 : Int, hcell H10 (x73.add x70.toNat) = some (.int .i64 x74) ∧
  ∃ x78 : Addr, some ⟨Array.size H1, 0, none⟩ = some x78 ∧
  ∃ x80 : Int, hcell H10 (x78.add 3) = some (.int .i64 x80) ∧ 0 ≤ (IntKind.u64.wrap x80) ∧
  ∃ x85 : Addr, some ⟨Array.size H7, 0, none⟩ = some x85 ∧ 0 ≤ IntKind.i64.wrap ((shrW .i64 x74 (IntKind.u64.wrap x80)) + x70) ∧ IntKind.i64.wrap ((shrW .i64 x74 (IntKind.u64.wrap x80)) + x70) < ((IntKind.i64.wrap ((IntKind.i64.wrap (x60 + x64)) + 1)).toNat : Int) ∧ (∃ u, hcell H10 (x85.add ((IntKind.i64.wrap ((shrW .i64 x74 (IntKind.u64.wrap x80)) + x70)).toNat)) = some u) ∧ hfrozen H10 (x85.add ((IntKind.i64.wrap ((shrW .i64 x74 (IntKind.u64.wrap x80)) + x70)).toNat)) = false ∧
  letV (hset H10 (x85.add ((IntKind.i64.wrap ((shrW .i64 x74 (IntKind.u64.wrap x80)) + x70)).toNat)) (.bool true)) fun H11 : Heap =>
  ∃ x89 : Addr, some ⟨Array.size H1, 0, none⟩ = some x89 ∧
  ∃ x91 : Int, hcell H11 (x89.add 3) = some (.int .i64 x91) ∧ 0 ≤ (IntKind.u64.wrap x91) ∧
  letV (hnew H11 #[.int .u64 (IntKind.u64.wrap (andW .i64 x74 (IntKind.i64.wrap ((shlW .i64 1 (IntKind.u64.wrap x91)) - 1))))] ty_uint64) fun H12 : Heap => appW ty_uint64 1 8 (.int .u64 0) low9_p low9_l low9_c (.slice (some ⟨Array.size H11, 0, none⟩) 1 1) H12 fun x98_p x98_l x98_c H13 => L18 ((x98_p, x98_l, x98_c), (IntKind.i64.wrap (x70 + 1) : Int), ()) H13) (J23 ((low9_p, low9_l, low9_c), ()) H10)) q18.1.1 q18.1.2.1 q18.1.2.2 q18.2.1) ((none, 0, 0), (0 : Int), ()) H8)
  (fun s23 H9 => (fun (low9_p : Option Addr) (low9_l low9_c : Nat) =>
  bits_New.C (some ⟨Array.size H7, 0, none⟩) ((IntKind.i64.wrap ((IntKind.i64.wrap (x60 + x64)) + 1)).toNat) ((IntKind.i64.wrap ((IntKind.i64.wrap (x60 + x64)) + 1)).toNat) H9 fun x103_0 x103_1 H14 =>
  ∃ x107 : Addr, some ⟨Array.size H1, 0, none⟩ = some x107 ∧ (∃ u, hcell H14 (x107.add 0) = some u) ∧ hfrozen H14 (x107.add 0) = false ∧
  letV (hset H14 (x107.add 0) (.iface ty_p_bits_Bits (.pointer x103_0))) fun H15 : Heap =>
  ints_New.C (low9_p) low9_l low9_c H15 fun x111 H16 =>
  ∃ x113 : Addr, some ⟨Array.size H1, 0, none⟩ = some x113 ∧ (∃ u, hcell H16 (x113.add 1) = some u) ∧ hfrozen H16 (x113.add 1) = false ∧
  letV (hset H16 (x113.add 1) (.iface ty_p_ints_Ints (.pointer x111))) fun H17 : Heap => R (some ⟨Array.size H1, 0, none⟩) (0) H17) s23.1.1 s23.1.2.1 s23.1.2.2)))) s9.1)
theorem offs_New.eq (a0l_p : Option Addr) (a0l_l a0l_c : Nat) (R : Option Addr → Int → Heap → Prop) (H0 : Heap) :
    evF Tryd.prog offs_New.ann Tryd.f14 [.slice a0l_p a0l_l a0l_c] (fun v H' => xT [.one .ptr, .one (.int .i64)] v fun r => R r.1 r.2.1 H') H0 = offs_New.W a0l_p a0l_l a0l_c R H0 := by kernel_rfl
theorem offs_New.calls {a0l_p : Option Addr} {a0l_l a0l_c : Nat} {R : Option Addr → Int → Heap → Prop} {H0 : Heap} (h : offs_New.W a0l_p a0l_l a0l_c R H0) : offs_New.C a0l_p a0l_l a0l_c H0 R :=
  (evF_sound progOk_ Tryd.func14 (by rw [offs_New.eq]; exact h)).mono fun v H' h => by obtain ⟨x, hv, hk⟩ := xT_out h; exact ⟨x.1, x.2.1, hv, hk⟩

def strings_Builder_Grow.ann : Ann := { ord := fun i => bif Nat.beq i 3 then [0, 1, 2, 3, 4, 5, 6, 7, 8, 9, 10, 11, 12] else [], loop := fun _ => none, join := fun i => bif Nat.beq i 3 then some [] else none }
/-- (*strings.Builder).Grow -/
def strings_Builder_Grow.W (a0b : Option Addr) (a1n : Int) (R : Heap → Prop) (H0 : Heap) : Prop :=
  strings_Builder_copyCheck.C (a0b) H0 fun H1 => 
  JoinW (S := Unit) (fun J3 =>
  brW (decide (a1n < 0)) (False) (J3 () H1))
  (fun _ H2 =>
  ∃ x10 : Addr, a0b = some x10 ∧
  ∃ (x12_p : Option Addr) (x12_l x12_c : Nat), hcell H2 (x10.add 1) = some (.slice x12_p x12_l x12_c) ∧
  ∃ x15 : Addr, a0b = some x15 ∧
  ∃ (x17_p : Option Addr) (x17_l x17_c : Nat), hcell H2 (x15.add 1) = some (.slice x17_p x17_l x17_c) ∧
  brW (decide ((IntKind.i64.wrap ((x12_c : Int) - (x17_l : Int))) < a1n)) (strings_Builder_grow.C (a0b) (a1n) H2 fun H3 => R H3) (R H2))
theorem strings_Builder_Grow.eq (a0b : Option Addr) (a1n : Int) (R : Heap → Prop) (H0 : Heap) :
    evF Tryd.prog strings_Builder_Grow.ann Tryd.f23 [.pointer a0b, .int .i64 a1n] (fun v H' => xT [] v fun _ => R H') H0 = strings_Builder_Grow.W a0b a1n R H0 := by kernel_rfl
theorem strings_Builder_Grow.calls {a0b : Option Addr} {a1n : Int} {R : Heap → Prop} {H0 : Heap} (h : strings_Builder_Grow.W a0b a1n R H0) : strings_Builder_Grow.C a0b a1n H0 R :=
  (evF_sound progOk_ Tryd.func23 (by rw [strings_Builder_Grow.eq]; exact h)).mono fun v H' h => by obtain ⟨x, hv, hk⟩ := xT_out h; exact ⟨hv, hk⟩

def strings_Builder_WriteString.ann : Ann := { ord := fun _ => [], loop := fun _ => none, join := fun _ => none }
/-- (*strings.Builder).WriteString -/
def strings_Builder_WriteString.W (a0b : Option Addr) (a1s : ByteArray) (R : Int → Value → Heap → Prop) (H0 : Heap) : Prop :=
  strings_Builder_copyCheck.C (a0b) H0 fun H1 =>
  ∃ x10 : Addr, a0b = some x10 ∧
  ∃ (x12_p : Option Addr) (x12_l x12_c : Nat), hcell H1 (x10.add 1) = some (.slice x12_p x12_l x12_c) ∧ appW ty_uint8 1 1 (.int .u8 0) x12_p x12_l x12_c (.string a1s) H1 fun x14_p x14_l x14_c H2 =>
  ∃ x15 : Addr, a0b = some x15 ∧ (∃ u, hcell H2 (x15.add 1) = some u) ∧ hfrozen H2 (x15.add 1) = false ∧
  letV (hset H2 (x15.add 1) (.slice x14_p x14_l x14_c)) fun H3 : Heap =>
  letV ((a1s.size : Int)) fun x4 : Int => R (x4) (.nilIface) H3
theorem strings_Builder_WriteString.eq (a0b : Option Addr) (a1s : ByteArray) (R : Int → Value → Heap → Prop) (H0 : Heap) :
    evF Tryd.prog strings_Builder_WriteString.ann Tryd.f24 [.pointer a0b, .string a1s] (fun v H' => xT [.one (.int .i64), .one .raw] v fun r => R r.1 r.2.1 H') H0 = strings_Builder_WriteString.W a0b a1s R H0 := by kernel_rfl
theorem strings_Builder_WriteString.calls {a0b : Option Addr} {a1s : ByteArray} {R : Int → Value → Heap → Prop} {H0 : Heap} (h : strings_Builder_WriteString.W a0b a1s R H0) : strings_Builder_WriteString.C a0b a1s H0 R :=
  (evF_sound progOk_ Tryd.func24 (by rw [strings_Builder_WriteString.eq]; exact h)).mono fun v H' h => by obtain ⟨x, hv, hk⟩ := xT_out h; exact ⟨x.1, x.2.1, hv, hk⟩

def pool_New.ann : Ann := { ord := fun _ => [], loop := fun i => bif Nat.beq i 3 then some [(4, .one .slice), (12, .one (.int .i64))] else none, join := fun i => bif Nat.beq i 9 then some [(4, .one .slice)] else none }
/-- bracken.pool.New -/
def pool_New.W (a0l_p : Option Addr) (a0l_l a0l_c : Nat) (R : Option Addr → Int → Heap → Prop) (H0 : Heap) : Prop :=
  letV (hnew H0 #[.int .i64 0] ty_int) fun H1 : Heap => 
  JoinW (S := ((Option Addr × Nat × Nat) × Unit)) (fun J9 => 
  LoopW (S := ((Option Addr × Nat × Nat) × Int × Unit)) (fun L3 q3 H3 => (fun (at4_p : Option Addr) (at4_l at4_c : Nat) (x12 : Int) =>
  brW (decide (x12 < (a0l_l : Int))) (∃ x15 : Addr, a0l_p = some x15 ∧ 0 ≤ x12 ∧ x12 < (a0l_l : Int) ∧
  ∃ x16 : ByteArray, hcell H3 (x15.add x12.toNat) = some (.string x16) ∧
  ∃ x21 : Addr, at4_p = some x21 ∧ 0 ≤ x12 ∧ x12 < (at4_l : Int) ∧
  ∃ x22 : Int, hcell H3 (x21.add x12.toNat) = some (.int .i64 x22) ∧
  brW (decide ((IntKind.i64.wrap (8388608 - x22)) < (x16.size : Int))) (R (none) (7) H3) (∃ x28 : Addr, at4_p = some x28 ∧ 0 ≤ x12 ∧ x12 < (at4_l : Int) ∧
  ∃ x29 : Int, hcell H3 (x28.add x12.toNat) = some (.int .i64 x29) ∧
  letV (hnew H3 #[.int .i64 (IntKind.i64.wrap (x29 + (x16.size : Int)))] ty_int) fun H4 : Heap => appW ty_int 1 8 (.int .i64 0) at4_p at4_l at4_c (.slice (some ⟨Array.size H3, 0, none⟩) 1 1) H4 fun x34_p x34_l x34_c H5 => L3 ((x34_p, x34_l, x34_c), (IntKind.i64.wrap (x12 + 1) : Int), ()) H5)) (J9 ((at4_p, at4_l, at4_c), ()) H3)) q3.1.1 q3.1.2.1 q3.1.2.2 q3.2.1) ((some ⟨Array.size H0, 0, none⟩, 1, 1), (0 : Int), ()) H1)
  (fun s9 H2 => (fun (at4_p : Option Addr) (at4_l at4_c : Nat) =>
  offs_New.C (at4_p) at4_l at4_c H2 fun x38_0 x38_1 H6 =>
  brW (decide (x38_1 ≠ 0)) (R (none) (7) H6) (strings_Join.C (a0l_p) a0l_l a0l_c (⟨#[]⟩ : ByteArray) H6 fun x44 H7 =>
  letV (hnew H7 #[.string x44, .iface ty_p_offs_Offs (.pointer x38_0), .int .i64 (a0l_l : Int)] ty_pool_Pool) fun H8 : Heap => R (some ⟨Array.size H7, 0, none⟩) (0) H8)) s9.1.1 s9.1.2.1 s9.1.2.2)
theorem pool_New.eq (a0l_p : Option Addr) (a0l_l a0l_c : Nat) (R : Option Addr → Int → Heap → Prop) (H0 : Heap) :
    evF Tryd.prog pool_New.ann Tryd.f8 [.slice a0l_p a0l_l a0l_c] (fun v H' => xT [.one .ptr, .one (.int .i64)] v fun r => R r.1 r.2.1 H') H0 = pool_New.W a0l_p a0l_l a0l_c R H0 := by kernel_rfl
theorem pool_New.calls {a0l_p : Option Addr} {a0l_l a0l_c : Nat} {R : Option Addr → Int → Heap → Prop} {H0 : Heap} (h : pool_New.W a0l_p a0l_l a0l_c R H0) : pool_New.C a0l_p a0l_l a0l_c H0 R :=
  (evF_sound progOk_ Tryd.func8 (by rw [pool_New.eq]; exact h)).mono fun v H' h => by obtain ⟨x, hv, hk⟩ := xT_out h; exact ⟨x.1, x.2.1, hv, hk⟩

def pool_Pool_Len.ann : Ann := { ord := fun _ => [], loop := fun _ => none, join := fun _ => none }
/-- (*bracken.pool.Pool).Len -/
def pool_Pool_Len.W (a0p : Option Addr) (R : Int → Heap → Prop) (H0 : Heap) : Prop :=
  brW (Option.isNone (a0p)) (R (0) H0) (∃ x6 : Addr, a0p = some x6 ∧
  ∃ x8 : Int, hcell H0 (x6.add 2) = some (.int .i64 x8) ∧ R (x8) H0)
theorem pool_Pool_Len.eq (a0p : Option Addr) (R : Int → Heap → Prop) (H0 : Heap) :
    evF Tryd.prog pool_Pool_Len.ann Tryd.f10 [.pointer a0p] (fun v H' => xS (.one (.int .i64)) v fun r => R r H') H0 = pool_Pool_Len.W a0p R H0 := by kernel_rfl
theorem pool_Pool_Len.calls {a0p : Option Addr} {R : Int → Heap → Prop} {H0 : Heap} (h : pool_Pool_Len.W a0p R H0) : pool_Pool_Len.C a0p H0 R :=
  (evF_sound progOk_ Tryd.func10 (by rw [pool_Pool_Len.eq]; exact h)).mono fun v H' h => by obtain ⟨x, hv, hk⟩ := xS_out h; exact ⟨x, hv, hk⟩

def pool_Pool_places.ann : Ann := { ord := fun _ => [], loop := fun _ => none, join := fun _ => none }
/-- (*bracken.pool.Pool).places -/
def pool_Pool_places.W (a0p : Option Addr) (R : Option Addr → Heap → Prop) (H0 : Heap) : Prop :=
  ∃ x7 : Addr, a0p = some x7 ∧
  ∃ x9 : Value, hcell H0 (x7.add 1) = some (x9) ∧
  ∃ x10 : Option Addr, ∃ x10ok : Bool, TaRel (x9) ty_p_offs_Offs (.pointer x10) (.pointer none) x10ok ∧ R (x10) H0
theorem pool_Pool_places.eq (a0p : Option Addr) (R : Option Addr → Heap → Prop) (H0 : Heap) :
    evF Tryd.prog pool_Pool_places.ann Tryd.f16 [.pointer a0p] (fun v H' => xS (.one .ptr) v fun r => R r H') H0 = pool_Pool_places.W a0p R H0 := by kernel_rfl
theorem pool_Pool_places.calls {a0p : Option Addr} {R : Option Addr → Heap → Prop} {H0 : Heap} (h : pool_Pool_places.W a0p R H0) : pool_Pool_places.C a0p H0 R :=
  (evF_sound progOk_ Tryd.func16 (by rw [pool_Pool_places.eq]; exact h)).mono fun v H' h => by obtain ⟨x, hv, hk⟩ := xS_out h; exact ⟨x, hv, hk⟩

def offs_Offs_Len.ann : Ann := { ord := fun _ => [], loop := fun _ => none, join := fun _ => none }
/-- (*bracken.offs.Offs).Len -/
def offs_Offs_Len.W (a0o : Option Addr) (R : Int → Heap → Prop) (H0 : Heap) : Prop :=
  brW (Option.isNone (a0o)) (R (0) H0) (∃ x6 : Addr, a0o = some x6 ∧
  ∃ x8 : Int, hcell H0 (x6.add 2) = some (.int .i64 x8) ∧ R (x8) H0)
theorem offs_Offs_Len.eq (a0o : Option Addr) (R : Int → Heap → Prop) (H0 : Heap) :
    evF Tryd.prog offs_Offs_Len.ann Tryd.f26 [.pointer a0o] (fun v H' => xS (.one (.int .i64)) v fun r => R r H') H0 = offs_Offs_Len.W a0o R H0 := by kernel_rfl
theorem offs_Offs_Len.calls {a0o : Option Addr} {R : Int → Heap → Prop} {H0 : Heap} (h : offs_Offs_Len.W a0o R H0) : offs_Offs_Len.C a0o H0 R :=
  (evF_sound progOk_ Tryd.func26 (by rw [offs_Offs_Len.eq]; exact h)).mono fun v H' h => by obtain ⟨x, hv, hk⟩ := xS_out h; exact ⟨x, hv, hk⟩

def ints_Ints_Len.ann : Ann := { ord := fun _ => [], loop := fun _ => none, join := fun _ => none }
/-- (*bracken.ints.Ints).Len -/
def ints_Ints_Len.W (a0a : Option Addr) (R : Int → Heap → Prop) (H0 : Heap) : Prop :=
  brW (Option.isNone (a0a)) (R (0) H0) (∃ x6 : Addr, a0a = some x6 ∧
  ∃ x8 : Int, hcell H0 (x6.add 1) = some (.int .i64 x8) ∧ R (x8) H0)
theorem ints_Ints_Len.eq (a0a : Option Addr) (R : Int → Heap → Prop) (H0 : Heap) :
    evF Tryd.prog ints_Ints_Len.ann Tryd.f38 [.pointer a0a] (fun v H' => xS (.one (.int .i64)) v fun r => R r H') H0 = ints_Ints_Len.W a0a R H0 := by kernel_rfl
theorem ints_Ints_Len.calls {a0a : Option Addr} {R : Int → Heap → Prop} {H0 : Heap} (h : ints_Ints_Len.W a0a R H0) : ints_Ints_Len.C a0a H0 R :=
  (evF_sound progOk_ Tryd.func38 (by rw [ints_Ints_Len.eq]; exact h)).mono fun v H' h => by obtain ⟨x, hv, hk⟩ := xS_out h; exact ⟨x, hv, hk⟩

def ints_Ints_Get.ann : Ann := { ord := fun i => bif Nat.beq i 6 then [0, 1, 2, 3, 4, 5, 6, 7, 8, 9, 10, 11, 12, 13, 14, 15, 16] else [], loop := fun _ => none, join := fun i => bif Nat.beq i 2 then some [(18, .one .bool)] else bif Nat.beq i 3 then some [] else bif Nat.beq i 5 then some [(35, .one .bool)] else bif Nat.beq i 6 then some [] else bif Nat.beq i 10 then some [(10, .one (.int .u64))] else bif Nat.beq i 12 then some [(10, .one (.int .u64))] else none }
/-- (*bracken.ints.Ints).Get -/
def ints_Ints_Get.W (a0a : Option Addr) (a1k : Int) (R : Int → Int → Heap → Prop) (H0 : Heap) : Prop :=
  
  JoinW (S := Unit) (fun J3 => 
  JoinW (S := (Bool × Unit)) (fun J2 =>
  brW (decide (a1k < 0)) (J2 (true, ()) H0) (ints_Ints_Len.C (a0a) H0 fun x16 H3 => J2 (decide (x16 ≤ a1k), ()) H3))
  (fun s2 H2 => (fun (x18 : Bool) =>
  brW x18 (R (0) (4) H2) (J3 () H2)) s2.1))
  (fun _ H1 =>
  ∃ x21 : Addr, a0a = some x21 ∧
  ∃ x23 : Value, hcell H1 (x21.add 0) = some (x23) ∧
  ∃ (x24_p : Option Addr) (x24_l x24_c : Nat), ∃ x24ok : Bool, TaRel (x23) ty_s_uint64 (.slice x24_p x24_l x24_c) (.slice none 0 0) x24ok ∧ 
  JoinW (S := Unit) (fun J6 => 
  JoinW (S := (Bool × Unit)) (fun J5 =>
  brW (!x24ok) (J5 (true, ()) H1) (∃ x31 : Addr, a0a = some x31 ∧
  ∃ x33 : Int, hcell H1 (x31.add 2) = some (.int .i64 x33) ∧ J5 (decide (x33 = 0), ()) H1))
  (fun s5 H5 => (fun (x35 : Bool) =>
  brW x35 (R (0) (0) H5) (J6 () H5)) s5.1))
  (fun _ H4 =>
  ∃ x38 : Addr, a0a = some x38 ∧
  ∃ x40 : Int, hcell H4 (x38.add 2) = some (.int .i64 x40) ∧ (64 : Int) ≠ 0 ∧
  ∃ x45 : Addr, a0a = some x45 ∧
  ∃ x47 : Int, hcell H4 (x45.add 2) = some (.int .i64 x47) ∧ (64 : Int) ≠ 0 ∧
  letV (IntKind.i64.wrap (Int.tdiv (IntKind.i64.wrap (a1k * x40)) 64)) fun at8 : Int =>
  letV (IntKind.u64.wrap (Int.tmod (IntKind.i64.wrap (a1k * x47)) 64)) fun off9 : Int =>
  ∃ x53 : Addr, x24_p = some x53 ∧ 0 ≤ at8 ∧ at8 < (x24_l : Int) ∧
  ∃ x54 : Int, hcell H4 (x53.add at8.toNat) = some (.int .u64 x54) ∧ 0 ≤ off9 ∧
  letV (shrW .u64 x54 off9) fun x10 : Int => 
  JoinW (S := (Int × Unit)) (fun J10 =>
  ∃ x60 : Addr, a0a = some x60 ∧
  ∃ x62 : Int, hcell H4 (x60.add 2) = some (.int .i64 x62) ∧
  brW (decide ((64 : Int) < (IntKind.i64.wrap ((IntKind.i64.wrap off9) + x62)))) (∃ x69 : Addr, x24_p = some x69 ∧ 0 ≤ IntKind.i64.wrap (at8 + 1) ∧ IntKind.i64.wrap (at8 + 1) < (x24_l : Int) ∧
  ∃ x70 : Int, hcell H4 (x69.add ((IntKind.i64.wrap (at8 + 1)).toNat)) = some (.int .u64 x70) ∧ 0 ≤ (IntKind.u64.wrap (64 - off9)) ∧
  letV (orW .u64 x10 (shlW .u64 x70 (IntKind.u64.wrap (64 - off9)))) fun x10 : Int => J10 ((x10 : Int), ()) H4) (J10 ((x10 : Int), ()) H4))
  (fun s10 H6 => (fun (x10 : Int) => 
  JoinW (S := (Int × Unit)) (fun J12 =>
  ∃ x76 : Addr, a0a = some x76 ∧
  ∃ x78 : Int, hcell H6 (x76.add 2) = some (.int .i64 x78) ∧
  brW (decide (x78 < 64)) (∃ x82 : Addr, a0a = some x82 ∧
  ∃ x84 : Int, hcell H6 (x82.add 2) = some (.int .i64 x84) ∧ 0 ≤ (IntKind.u64.wrap x84) ∧
  letV (andW .u64 x10 (IntKind.u64.wrap ((shlW .u64 1 (IntKind.u64.wrap x84)) - 1))) fun x10 : Int => J12 ((x10 : Int), ()) H6) (J12 ((x10 : Int), ()) H6))
  (fun s12 H7 => (fun (x10 : Int) => R (x10) (0) H7) s12.1)) s10.1)))
theorem ints_Ints_Get.eq (a0a : Option Addr) (a1k : Int) (R : Int → Int → Heap → Prop) (H0 : Heap) :
    evF Tryd.prog ints_Ints_Get.ann Tryd.f27 [.pointer a0a, .int .i64 a1k] (fun v H' => xT [.one (.int .u64), .one (.int .i64)] v fun r => R r.1 r.2.1 H') H0 = ints_Ints_Get.W a0a a1k R H0 := by kernel_rfl
theorem ints_Ints_Get.calls {a0a : Option Addr} {a1k : Int} {R : Int → Int → Heap → Prop} {H0 : Heap} (h : ints_Ints_Get.W a0a a1k R H0) : ints_Ints_Get.C a0a a1k H0 R :=
  (evF_sound progOk_ Tryd.func27 (by rw [ints_Ints_Get.eq]; exact h)).mono fun v H' h => by obtain ⟨x, hv, hk⟩ := xT_out h; exact ⟨x.1, x.2.1, hv, hk⟩

def bits_Bits_Len.ann : Ann := { ord := fun _ => [], loop := fun _ => none, join := fun _ => none }
/-- (*bracken.bits.Bits).Len -/
def bits_Bits_Len.W (a0b : Option Addr) (R : Int → Heap → Prop) (H0 : Heap) : Prop :=
  brW (Option.isNone (a0b)) (R (0) H0) (∃ x6 : Addr, a0b = some x6 ∧
  ∃ x8 : Int, hcell H0 (x6.add 1) = some (.int .i64 x8) ∧ R (x8) H0)
theorem bits_Bits_Len.eq (a0b : Option Addr) (R : Int → Heap → Prop) (H0 : Heap) :
    evF Tryd.prog bits_Bits_Len.ann Tryd.f40 [.pointer a0b] (fun v H' => xS (.one (.int .i64)) v fun r => R r H') H0 = bits_Bits_Len.W a0b R H0 := by kernel_rfl
theorem bits_Bits_Len.calls {a0b : Option Addr} {R : Int → Heap → Prop} {H0 : Heap} (h : bits_Bits_Len.W a0b R H0) : bits_Bits_Len.C a0b H0 R :=
  (evF_sound progOk_ Tryd.func40 (by rw [bits_Bits_Len.eq]; exact h)).mono fun v H' h => by obtain ⟨x, hv, hk⟩ := xS_out h; exact ⟨x, hv, hk⟩

def bits_Bits_at.ann : Ann := { ord := fun _ => [], loop := fun _ => none, join := fun _ => none }
/-- (*bracken.bits.Bits).at -/
def bits_Bits_at.W (a0b : Option Addr) (a1k : Int) (R : Int → Int → Heap → Prop) (H0 : Heap) : Prop :=
  letV (hnew H0 #[.int .u64 0, .int .i64 0] ty_bits_part) fun H1 : Heap =>
  ∃ x9 : Addr, a0b = some x9 ∧
  ∃ (x11_p : Option Addr) (x11_l x11_c : Nat), hcell H1 (x9.add 0) = some (.slice x11_p x11_l x11_c) ∧
  ∃ x13 : Addr, x11_p = some x13 ∧ 0 ≤ a1k ∧ a1k < (x11_l : Int) ∧
  ∃ x14 : Value, hcell H1 (x13.add a1k.toNat) = some (x14) ∧
  ∃ x15_0 : Int, ∃ x15_1 : Int, ∃ x15ok : Bool, TaRel (x14) ty_bits_part (.agg #[.int .u64 x15_0, .int .i64 x15_1]) (.agg #[.int .u64 0, .int .i64 0]) x15ok ∧
  letV (hnew H1 #[.int .u64 0, .int .i64 0] ty_bits_part) fun H2 : Heap => (∃ u, hcell H2 ((⟨Array.size H1, 0, none⟩ : Addr).add 0) = some u) ∧ hfrozen H2 ((⟨Array.size H1, 0, none⟩ : Addr).add 0) = false ∧
  letV (hset H2 ((⟨Array.size H1, 0, none⟩ : Addr).add 0) (.int .u64 x15_0)) fun H4 : Heap => (∃ u, hcell H4 ((⟨Array.size H1, 0, none⟩ : Addr).add 1) = some u) ∧ hfrozen H4 ((⟨Array.size H1, 0, none⟩ : Addr).add 1) = false ∧
  letV (hset H4 ((⟨Array.size H1, 0, none⟩ : Addr).add 1) (.int .i64 x15_1)) fun H5 : Heap =>
  ∃ x18_0 : Int, hcell H5 ((⟨Array.size H1, 0, none⟩ : Addr).add 0) = some (.int .u64 x18_0) ∧
  ∃ x18_1 : Int, hcell H5 ((⟨Array.size H1, 0, none⟩ : Addr).add 1) = some (.int .i64 x18_1) ∧ (∃ u, hcell H5 ((⟨Array.size H0, 0, none⟩ : Addr).add 0) = some u) ∧ hfrozen H5 ((⟨Array.size H0, 0, none⟩ : Addr).add 0) = false ∧
  letV (hset H5 ((⟨Array.size H0, 0, none⟩ : Addr).add 0) (.int .u64 x18_0)) fun H7 : Heap => (∃ u, hcell H7 ((⟨Array.size H0, 0, none⟩ : Addr).add 1) = some u) ∧ hfrozen H7 ((⟨Array.size H0, 0, none⟩ : Addr).add 1) = false ∧
  letV (hset H7 ((⟨Array.size H0, 0, none⟩ : Addr).add 1) (.int .i64 x18_1)) fun H8 : Heap =>
  ∃ z_0 : Int, hcell H8 ((⟨Array.size H0, 0, none⟩ : Addr).add 0) = some (.int .u64 z_0) ∧
  ∃ z_1 : Int, hcell H8 ((⟨Array.size H0, 0, none⟩ : Addr).add 1) = some (.int .i64 z_1) ∧ R (z_0) (z_1) H8
theorem bits_Bits_at.eq (a0b : Option Addr) (a1k : Int) (R : Int → Int → Heap → Prop) (H0 : Heap) :
    evF Tryd.prog bits_Bits_at.ann Tryd.f41 [.pointer a0b, .int .i64 a1k] (fun v H' => xS (.agg [.int .u64, .int .i64]) v fun r => R r.1 r.2.1 H') H0 = bits_Bits_at.W a0b a1k R H0 := by kernel_rfl
theorem bits_Bits_at.calls {a0b : Option Addr} {a1k : Int} {R : Int → Int → Heap → Prop} {H0 : Heap} (h : bits_Bits_at.W a0b a1k R H0) : bits_Bits_at.C a0b a1k H0 R :=
  (evF_sound progOk_ Tryd.func41 (by rw [bits_Bits_at.eq]; exact h)).mono fun v H' h => by obtain ⟨x, hv, hk⟩ := xS_out h; exact ⟨x.1, x.2.1, hv, hk⟩

def bits_Bits_Rank.ann : Ann := { ord := fun i => bif Nat.beq i 5 then [0, 1, 2, 3, 4, 5, 6, 7, 8, 9, 10, 11, 12] else [], loop := fun _ => none, join := fun i => bif Nat.beq i 8 then some [(8, .one (.int .i64))] else none }
/-- (*bracken.bits.Bits).Rank -/
def bits_Bits_Rank.W (a0b : Option Addr) (a1k : Int) (a2bit : Bool) (R : Int → Heap → Prop) (H0 : Heap) : Prop :=
  bits_Bits_Len.C (a0b) H0 fun x12 H1 =>
  letV (min (max a1k 0) x12) fun k1 : Int =>
  brW (decide (k1 = 0)) (R (0) H1) ((64 : Int) ≠ 0 ∧ bits_Bits_at.C (a0b) (IntKind.i64.wrap (Int.tdiv k1 64)) H1 fun x19_0 x19_1 H2 =>
  letV (hnew H2 #[.int .u64 0, .int .i64 0] ty_bits_part) fun H3 : Heap => (∃ u, hcell H3 ((⟨Array.size H2, 0, none⟩ : Addr).add 0) = some u) ∧ hfrozen H3 ((⟨Array.size H2, 0, none⟩ : Addr).add 0) = false ∧
  letV (hset H3 ((⟨Array.size H2, 0, none⟩ : Addr).add 0) (.int .u64 x19_0)) fun H5 : Heap => (∃ u, hcell H5 ((⟨Array.size H2, 0, none⟩ : Addr).add 1) = some u) ∧ hfrozen H5 ((⟨Array.size H2, 0, none⟩ : Addr).add 1) = false ∧
  letV (hset H5 ((⟨Array.size H2, 0, none⟩ : Addr).add 1) (.int .i64 x19_1)) fun H6 : Heap =>
  ∃ x21 : Int, hcell H6 ((⟨Array.size H2, 0, none⟩ : Addr).add 1) = some (.int .i64 x21) ∧
  ∃ x23 : Int, hcell H6 ((⟨Array.size H2, 0, none⟩ : Addr).add 0) = some (.int .u64 x23) ∧ (64 : Int) ≠ 0 ∧ 0 ≤ (IntKind.u64.wrap (Int.tmod k1 64)) ∧ bits_OnesCount64.C (andW .u64 x23 (IntKind.u64.wrap ((shlW .u64 1 (IntKind.u64.wrap (Int.tmod k1 64))) - 1))) H6 fun x30 H7 => (∃ x21s : Int, hcell H7 ((⟨Array.size H2, 0, none⟩ : Addr).add 1) = some (.int .i64 x21s) ∧ (.int .i64 x21s : Value) = .int .i64 x21) ∧
  letV (IntKind.i64.wrap (x21 + x30)) fun n8 : Int => 
  JoinW (S := (Int × Unit)) (fun J8 =>
  brW (!a2bit) (letV (IntKind.i64.wrap (k1 - n8)) fun n8 : Int => J8 ((n8 : Int), ()) H7) (J8 ((n8 : Int), ()) H7))
  (fun s8 H8 => (fun (n8 : Int) => R (n8) H8) s8.1))
theorem bits_Bits_Rank.eq (a0b : Option Addr) (a1k : Int) (a2bit : Bool) (R : Int → Heap → Prop) (H0 : Heap) :
    evF Tryd.prog bits_Bits_Rank.ann Tryd.f39 [.pointer a0b, .int .i64 a1k, .bool a2bit] (fun v H' => xS (.one (.int .i64)) v fun r => R r H') H0 = bits_Bits_Rank.W a0b a1k a2bit R H0 := by kernel_rfl
theorem bits_Bits_Rank.calls {a0b : Option Addr} {a1k : Int} {a2bit : Bool} {R : Int → Heap → Prop} {H0 : Heap} (h : bits_Bits_Rank.W a0b a1k a2bit R H0) : bits_Bits_Rank.C a0b a1k a2bit H0 R :=
  (evF_sound progOk_ Tryd.func39 (by rw [bits_Bits_Rank.eq]; exact h)).mono fun v H' h => by obtain ⟨x, hv, hk⟩ := xS_out h; exact ⟨x, hv, hk⟩

def bits_TrailingZeros64.ann : Ann := { ord := fun _ => [], loop := fun _ => none, join := fun _ => none }
/-- math.bits.TrailingZeros64 -/
def bits_TrailingZeros64.W (a0x : Int) (R : Int → Heap → Prop) (H0 : Heap) : Prop :=
  brW (decide (a0x = 0)) (R (64) H0) (0 ≤ (58 : Int) ∧ 0 ≤ shrW .u64 (IntKind.u64.wrap ((andW .u64 a0x (IntKind.u64.wrap (0 - a0x))) * 285870213051353865)) 58 ∧ shrW .u64 (IntKind.u64.wrap ((andW .u64 a0x (IntKind.u64.wrap (0 - a0x))) * 285870213051353865)) 58 < ((64 : Nat) : Int) ∧
  ∃ x12 : Int, hcell H0 ((⟨gl_bits_deBruijn64tab, 0, none⟩ : Addr).add (mulSize (shrW .u64 (IntKind.u64.wrap ((andW .u64 a0x (IntKind.u64.wrap (0 - a0x))) * 285870213051353865)) 58).toNat 1)) = some (.int .u8 x12) ∧
  letV (IntKind.i64.wrap x12) fun x2 : Int => R (x2) H0)
theorem bits_TrailingZeros64.eq (a0x : Int) (R : Int → Heap → Prop) (H0 : Heap) :
    evF Tryd.prog bits_TrailingZeros64.ann Tryd.f42 [.int .u64 a0x] (fun v H' => xS (.one (.int .i64)) v fun r => R r H') H0 = bits_TrailingZeros64.W a0x R H0 := by kernel_rfl
theorem bits_TrailingZeros64.calls {a0x : Int} {R : Int → Heap → Prop} {H0 : Heap} (h : bits_TrailingZeros64.W a0x R H0) : bits_TrailingZeros64.C a0x H0 R :=
  (evF_sound progOk_ Tryd.func42 (by rw [bits_TrailingZeros64.eq]; exact h)).mono fun v H' h => by obtain ⟨x, hv, hk⟩ := xS_out h; exact ⟨x, hv, hk⟩

def bits_Bits_Select.ann : Ann := { ord := fun i => bif Nat.beq i 3 then [0, 1, 2, 3, 4, 5, 6, 7] else [], loop := fun i => bif Nat.beq i 4 then some [(7, .one (.int .i64)), (8, .one (.int .i64))] else bif Nat.beq i 13 then some [(10, .one (.int .u64)), (61, .one (.int .i64))] else none, join := fun i => bif Nat.beq i 2 then some [(21, .one .bool)] else bif Nat.beq i 3 then some [] else bif Nat.beq i 9 then some [(7, .one (.int .i64))] else bif Nat.beq i 12 then some [(10, .one (.int .u64))] else bif Nat.beq i 16 then some [(10, .one (.int .u64))] else none }
/-- (*bracken.bits.Bits).Select -/
def bits_Bits_Select.W (a0b : Option Addr) (a1j : Int) (a2bit : Bool) (R : Int → Heap → Prop) (H0 : Heap) : Prop :=
  
  JoinW (S := Unit) (fun J3 => 
  JoinW (S := (Bool × Unit)) (fun J2 =>
  brW (decide (a1j < 0)) (J2 (true, ()) H0) (bits_Bits_Len.C (a0b) H0 fun x17 H3 =>
  bits_Bits_Rank.C (a0b) (x17) (a2bit) H3 fun x19 H4 => J2 (decide (x19 ≤ a1j), ()) H4))
  (fun s2 H2 => (fun (x21 : Bool) =>
  brW x21 (R (-1) H2) (J3 () H2)) s2.1))
  (fun _ H1 =>
  ∃ x23 : Addr, a0b = some x23 ∧
  ∃ (x25_p : Option Addr) (x25_l x25_c : Nat), hcell H1 (x23.add 0) = some (.slice x25_p x25_l x25_c) ∧
  letV (IntKind.i64.wrap ((x25_l : Int) - 1)) fun hi8 : Int => 
  JoinW (S := (Int × Unit)) (fun J9 => 
  LoopW (S := (Int × Int × Unit)) (fun L4 q4 H6 => (fun (lo7 : Int) (hi8 : Int) =>
  brW (decide (lo7 < hi8)) ((2 : Int) ≠ 0 ∧
  letV (IntKind.i64.wrap (Int.tdiv (IntKind.i64.wrap ((IntKind.i64.wrap (lo7 + hi8)) + 1)) 2)) fun m9 : Int =>
  bits_Bits_Rank.C (a0b) (IntKind.i64.wrap (m9 * 64)) (a2bit) H6 fun x40 H7 =>
  brW (decide (x40 ≤ a1j)) (L4 ((m9 : Int), (hi8 : Int), ()) H7) (letV (IntKind.i64.wrap (m9 - 1)) fun hi8 : Int => L4 ((lo7 : Int), (hi8 : Int), ()) H7)) (J9 ((lo7 : Int), ()) H6)) q4.1 q4.2.1) ((0 : Int), (hi8 : Int), ()) H1)
  (fun s9 H5 => (fun (lo7 : Int) =>
  bits_Bits_at.C (a0b) (lo7) H5 fun x48_0 x48_1 H8 => 
  JoinW (S := (Int × Unit)) (fun J12 =>
  brW (!a2bit) (letV (notW .u64 x48_0) fun w10 : Int => J12 ((w10 : Int), ()) H8) (J12 ((x48_0 : Int), ()) H8))
  (fun s12 H9 => (fun (w10 : Int) => 
  JoinW (S := (Int × Unit)) (fun J16 =>
  bits_Bits_Rank.C (a0b) (IntKind.i64.wrap (lo7 * 64)) (a2bit) H9 fun x59 H11 => 
  LoopW (S := (Int × Int × Unit)) (fun L13 q13 H12 => (fun (w10 : Int) (x61 : Int) =>
  brW (decide (x61 < (IntKind.i64.wrap (a1j - x59)))) (letV (andW .u64 w10 (IntKind.u64.wrap (w10 - 1))) fun w10 : Int => L13 ((w10 : Int), (IntKind.i64.wrap (x61 + 1) : Int), ()) H12) (J16 ((w10 : Int), ()) H12)) q13.1 q13.2.1) ((w10 : Int), (0 : Int), ()) H11)
  (fun s16 H10 => (fun (w10 : Int) =>
  bits_TrailingZeros64.C (w10) H10 fun x71 H13 =>
  letV (IntKind.i64.wrap ((IntKind.i64.wrap (lo7 * 64)) + x71)) fun x6 : Int => R (x6) H13) s16.1)) s12.1)) s9.1))
theorem bits_Bits_Select.eq (a0b : Option Addr) (a1j : Int) (a2bit : Bool) (R : Int → Heap → Prop) (H0 : Heap) :
    evF Tryd.prog bits_Bits_Select.ann Tryd.f28 [.pointer a0b, .int .i64 a1j, .bool a2bit] (fun v H' => xS (.one (.int .i64)) v fun r => R r H') H0 = bits_Bits_Select.W a0b a1j a2bit R H0 := by kernel_rfl
theorem bits_Bits_Select.calls {a0b : Option Addr} {a1j : Int} {a2bit : Bool} {R : Int → Heap → Prop} {H0 : Heap} (h : bits_Bits_Select.W a0b a1j a2bit R H0) : bits_Bits_Select.C a0b a1j a2bit H0 R :=
  (evF_sound progOk_ Tryd.func28 (by rw [bits_Bits_Select.eq]; exact h)).mono fun v H' h => by obtain ⟨x, hv, hk⟩ := xS_out h; exact ⟨x, hv, hk⟩

def offs_Offs_Get.ann : Ann := { ord := fun i => bif Nat.beq i 8 then [0, 1, 3, 5, 6, 7, 8, 9, 11, 12, 2, 4, 10, 13, 14, 15] else [], loop := fun _ => none, join := fun i => bif Nat.beq i 2 then some [(19, .one .bool)] else bif Nat.beq i 3 then some [] else bif Nat.beq i 6 then some [(41, .one .bool)] else bif Nat.beq i 7 then some [] else none }
/-- (*bracken.offs.Offs).Get -/
def offs_Offs_Get.W (a0o : Option Addr) (a1k : Int) (R : Int → Int → Heap → Prop) (H0 : Heap) : Prop :=
  
  JoinW (S := Unit) (fun J3 => 
  JoinW (S := (Bool × Unit)) (fun J2 =>
  brW (decide (a1k < 0)) (J2 (true, ()) H0) (offs_Offs_Len.C (a0o) H0 fun x17 H3 => J2 (decide (x17 ≤ a1k), ()) H3))
  (fun s2 H2 => (fun (x19 : Bool) =>
  brW x19 (R (0) (4) H2) (J3 () H2)) s2.1))
  (fun _ H1 =>
  ∃ x22 : Addr, a0o = some x22 ∧
  ∃ x24 : Value, hcell H1 (x22.add 0) = some (x24) ∧
  ∃ x25 : Option Addr, ∃ x25ok : Bool, TaRel (x24) ty_p_bits_Bits (.pointer x25) (.pointer none) x25ok ∧
  ∃ x30 : Addr, a0o = some x30 ∧
  ∃ x32 : Value, hcell H1 (x30.add 1) = some (x32) ∧
  ∃ x33 : Option Addr, ∃ x33ok : Bool, TaRel (x32) ty_p_ints_Ints (.pointer x33) (.pointer none) x33ok ∧ 
  JoinW (S := Unit) (fun J7 => 
  JoinW (S := (Bool × Unit)) (fun J6 =>
  brW (!x25ok) (J6 (true, ()) H1) (J6 (!x33ok, ()) H1))
  (fun s6 H5 => (fun (x41 : Bool) =>
  brW x41 (R (0) (4) H5) (J7 () H5)) s6.1))
  (fun _ H4 =>
  ints_Ints_Get.C (x33) (a1k) H4 fun x45_0 x45_1 H6 =>
  ∃ x54 : Addr, a0o = some x54 ∧
  ∃ x56 : Int, hcell H6 (x54.add 3) = some (.int .i64 x56) ∧ bits_Bits_Select.C (x25) (a1k) true H6 fun x50 H7 => (∃ x56s : Int, hcell H7 (x54.add 3) = some (.int .i64 x56s) ∧ (.int .i64 x56s : Value) = .int .i64 x56) ∧ 0 ≤ (IntKind.u64.wrap x56) ∧
  letV (orW .i64 (shlW .i64 (IntKind.i64.wrap (x50 - a1k)) (IntKind.u64.wrap x56)) (IntKind.i64.wrap x45_0)) fun x4 : Int => R (x4) (0) H7))
theorem offs_Offs_Get.eq (a0o : Option Addr) (a1k : Int) (R : Int → Int → Heap → Prop) (H0 : Heap) :
    evF Tryd.prog offs_Offs_Get.ann Tryd.f17 [.pointer a0o, .int .i64 a1k] (fun v H' => xT [.one (.int .i64), .one (.int .i64)] v fun r => R r.1 r.2.1 H') H0 = offs_Offs_Get.W a0o a1k R H0 := by kernel_rfl
theorem offs_Offs_Get.calls {a0o : Option Addr} {a1k : Int} {R : Int → Int → Heap → Prop} {H0 : Heap} (h : offs_Offs_Get.W a0o a1k R H0) : offs_Offs_Get.C a0o a1k H0 R :=
  (evF_sound progOk_ Tryd.func17 (by rw [offs_Offs_Get.eq]; exact h)).mono fun v H' h => by obtain ⟨x, hv, hk⟩ := xT_out h; exact ⟨x.1, x.2.1, hv, hk⟩

def pool_Pool_Get.ann : Ann := { ord := fun _ => [], loop := fun _ => none, join := fun i => bif Nat.beq i 2 then some [(17, .one .bool)] else bif Nat.beq i 3 then some [] else none }
/-- (*bracken.pool.Pool).Get -/
def pool_Pool_Get.W (a0p : Option Addr) (a1k : Int) (R : ByteArray → Int → Heap → Prop) (H0 : Heap) : Prop :=
  
  JoinW (S := Unit) (fun J3 => 
  JoinW (S := (Bool × Unit)) (fun J2 =>
  brW (decide (a1k < 0)) (J2 (true, ()) H0) (pool_Pool_Len.C (a0p) H0 fun x15 H3 => J2 (decide (x15 ≤ a1k), ()) H3))
  (fun s2 H2 => (fun (x17 : Bool) =>
  brW x17 (R (⟨#[]⟩ : ByteArray) (4) H2) (J3 () H2)) s2.1))
  (fun _ H1 =>
  pool_Pool_places.C (a0p) H1 fun x20 H4 =>
  offs_Offs_Get.C (x20) (a1k) H4 fun x22_0 x22_1 H5 =>
  pool_Pool_places.C (a0p) H5 fun x27 H6 =>
  offs_Offs_Get.C (x27) (IntKind.i64.wrap (a1k + 1)) H6 fun x30_0 x30_1 H7 =>
  ∃ x34 : Addr, a0p = some x34 ∧
  ∃ x36 : ByteArray, hcell H7 (x34.add 0) = some (.string x36) ∧ 0 ≤ x30_0 ∧ x30_0 ≤ (x36.size : Int) ∧ 0 ≤ x22_0 ∧ x22_0 ≤ (x30_0.toNat : Int) ∧ R (x36.extract x22_0.toNat x30_0.toNat) (0) H7)
theorem pool_Pool_Get.eq (a0p : Option Addr) (a1k : Int) (R : ByteArray → Int → Heap → Prop) (H0 : Heap) :
    evF Tryd.prog pool_Pool_Get.ann Tryd.f9 [.pointer a0p, .int .i64 a1k] (fun v H' => xT [.one .str, .one (.int .i64)] v fun r => R r.1 r.2.1 H') H0 = pool_Pool_Get.W a0p a1k R H0 := by kernel_rfl
theorem pool_Pool_Get.calls {a0p : Option Addr} {a1k : Int} {R : ByteArray → Int → Heap → Prop} {H0 : Heap} (h : pool_Pool_Get.W a0p a1k R H0) : pool_Pool_Get.C a0p a1k H0 R :=
  (evF_sound progOk_ Tryd.func9 (by rw [pool_Pool_Get.eq]; exact h)).mono fun v H' h => by obtain ⟨x, hv, hk⟩ := xT_out h; exact ⟨x.1, x.2.1, hv, hk⟩

def pool_Pool_Bytes.ann : Ann := { ord := fun _ => [], loop := fun _ => none, join := fun _ => none }
/-- (*bracken.pool.Pool).Bytes -/
def pool_Pool_Bytes.W (a0p : Option Addr) (R : Int → Heap → Prop) (H0 : Heap) : Prop :=
  brW (Option.isNone (a0p)) (R (0) H0) (∃ x6 : Addr, a0p = some x6 ∧
  ∃ x8 : ByteArray, hcell H0 (x6.add 0) = some (.string x8) ∧
  letV ((x8.size : Int)) fun x2 : Int => R (x2) H0)
theorem pool_Pool_Bytes.eq (a0p : Option Addr) (R : Int → Heap → Prop) (H0 : Heap) :
    evF Tryd.prog pool_Pool_Bytes.ann Tryd.f11 [.pointer a0p] (fun v H' => xS (.one (.int .i64)) v fun r => R r H') H0 = pool_Pool_Bytes.W a0p R H0 := by kernel_rfl
theorem pool_Pool_Bytes.calls {a0p : Option Addr} {R : Int → Heap → Prop} {H0 : Heap} (h : pool_Pool_Bytes.W a0p R H0) : pool_Pool_Bytes.C a0p H0 R :=
  (evF_sound progOk_ Tryd.func11 (by rw [pool_Pool_Bytes.eq]; exact h)).mono fun v H' h => by obtain ⟨x, hv, hk⟩ := xS_out h; exact ⟨x, hv, hk⟩

def brackenlaw8_told.ann : Ann := { ord := fun _ => [], loop := fun _ => none, join := fun i => bif Nat.beq i 3 then some [(20, .one .bool)] else bif Nat.beq i 4 then some [] else none }
/-- bracken.brackenlaw8.told -/
def brackenlaw8_told.W  (R : Bool → Heap → Prop) (H0 : Heap) : Prop :=
  letV (hnew H0 #[.string (⟨#[97, 98]⟩ : ByteArray), .string (⟨#[]⟩ : ByteArray), .string (⟨#[99]⟩ : ByteArray)] ty_string) fun H1 : Heap =>
  pool_New.C (some ⟨Array.size H0, 0, none⟩) 3 3 H1 fun x12_0 x12_1 H2 => 
  JoinW (S := Unit) (fun J4 => 
  JoinW (S := (Bool × Unit)) (fun J3 =>
  brW (decide (x12_1 ≠ 0)) (J3 (true, ()) H2) (J3 (Option.isNone (x12_0), ()) H2))
  (fun s3 H4 => (fun (x20 : Bool) =>
  brW x20 (R false H4) (J4 () H4)) s3.1))
  (fun _ H3 =>
  pool_Pool_Get.C (x12_0) (0) H3 fun x23_0 x23_1 H5 =>
  pool_Pool_Get.C (x12_0) (1) H5 fun x28_0 x28_1 H6 =>
  pool_Pool_Get.C (x12_0) (3) H6 fun x33_0 x33_1 H7 =>
  brW (decide (x23_0 = (⟨#[97, 98]⟩ : ByteArray))) (brW (decide (x23_1 = 0)) (brW (decide (x28_0 = (⟨#[]⟩ : ByteArray))) (brW (decide (x28_1 = 0)) (brW (decide (x33_1 = 4)) (pool_Pool_Bytes.C (x12_0) H7 fun x56 H8 =>
  brW (decide (x56 = 3)) (pool_Pool_Len.C (x12_0) H8 fun x61 H9 =>
  brW (decide (x61 = 3)) (pool_Pool_Len.C (none) H9 fun x66 H10 =>
  brW (decide (x66 = 0)) (pool_Pool_Bytes.C (none) H10 fun x71 H11 => R (decide (x71 = 0)) H11) (R false H10)) (R false H9)) (R false H8)) (R false H7)) (R false H7)) (R false H7)) (R false H7)) (R false H7))
theorem brackenlaw8_told.eq  (R : Bool → Heap → Prop) (H0 : Heap) :
    evF Tryd.prog brackenlaw8_told.ann Tryd.f7 [] (fun v H' => xS (.one .bool) v fun r => R r H') H0 = brackenlaw8_told.W  R H0 := by kernel_rfl
theorem brackenlaw8_told.calls  {R : Bool → Heap → Prop} {H0 : Heap} (h : brackenlaw8_told.W  R H0) : brackenlaw8_told.C  H0 R :=
  (evF_sound progOk_ Tryd.func7 (by rw [brackenlaw8_told.eq]; exact h)).mono fun v H' h => by obtain ⟨x, hv, hk⟩ := xS_out h; exact ⟨x, hv, hk⟩

def brackenlaw8_PoolEmpty.ann : Ann := { ord := fun _ => [], loop := fun i => bif Nat.beq i 10 then some [(11, .one (.int .i64))] else none, join := fun i => bif Nat.beq i 8 then some [(43, .one .bool)] else bif Nat.beq i 9 then some [] else bif Nat.beq i 11 then some [] else bif Nat.beq i 14 then some [(64, .one .bool)] else bif Nat.beq i 15 then some [] else none }
/-- bracken.brackenlaw8.PoolEmpty -/
def brackenlaw8_PoolEmpty.W (a0n : Int) (a1at : Int) (a2s : ByteArray) (R : Bool → Heap → Prop) (H0 : Heap) : Prop :=
  (200 : Int) ≠ 0 ∧
  letV (IntKind.i64.wrap (1 + (IntKind.i64.wrap (Int.tmod (IntKind.u64.wrap a0n) 200)))) fun k7 : Int =>
  brW (decide ((50 : Int) < (a2s.size : Int))) (brackenlaw8_told.C  H0 fun x22 H1 => R (x22) H1) (0 ≤ k7 ∧ k7 ≤ k7 ∧ ((16 : Nat) : Int) * k7 ≤ 281474976710656 ∧
  letV (hnew H0 (zerosOf (.string (⟨#[]⟩ : ByteArray)) k7.toNat) ty_string) fun H2 : Heap => (IntKind.u64.wrap k7) ≠ 0 ∧
  ∃ x32 : Addr, some ⟨Array.size H0, 0, none⟩ = some x32 ∧ 0 ≤ Int.tmod (IntKind.u64.wrap a1at) (IntKind.u64.wrap k7) ∧ Int.tmod (IntKind.u64.wrap a1at) (IntKind.u64.wrap k7) < (k7.toNat : Int) ∧ (∃ u, hcell H2 (x32.add ((Int.tmod (IntKind.u64.wrap a1at) (IntKind.u64.wrap k7)).toNat)) = some u) ∧ hfrozen H2 (x32.add ((Int.tmod (IntKind.u64.wrap a1at) (IntKind.u64.wrap k7)).toNat)) = false ∧
  letV (hset H2 (x32.add ((Int.tmod (IntKind.u64.wrap a1at) (IntKind.u64.wrap k7)).toNat)) (.string a2s)) fun H3 : Heap =>
  pool_New.C (some ⟨Array.size H0, 0, none⟩) k7.toNat k7.toNat H3 fun x35_0 x35_1 H4 => 
  JoinW (S := Unit) (fun J9 => 
  JoinW (S := (Bool × Unit)) (fun J8 =>
  brW (decide (x35_1 ≠ 0)) (J8 (true, ()) H4) (J8 (Option.isNone (x35_0), ()) H4))
  (fun s8 H6 => (fun (x43 : Bool) =>
  brW x43 (R false H6) (J9 () H6)) s8.1))
  (fun _ H5 => 
  JoinW (S := Unit) (fun J15 => 
  LoopW (S := (Int × Unit)) (fun L10 q10 H8 => (fun (i11 : Int) =>
  brW (decide (i11 < k7)) (
  JoinW (S := Unit) (fun J11 =>
  pool_Pool_Get.C (x35_0) (i11) H8 fun x52_0 x52_1 H10 => 
  JoinW (S := (Bool × Unit)) (fun J14 =>
  brW (decide (x52_1 ≠ 0)) (J14 (true, ()) H10) (∃ x61 : Addr, some ⟨Array.size H0, 0, none⟩ = some x61 ∧ 0 ≤ i11 ∧ i11 < (k7.toNat : Int) ∧
  ∃ x62 : ByteArray, hcell H10 (x61.add i11.toNat) = some (.string x62) ∧ J14 (decide (x52_0 ≠ x62), ()) H10))
  (fun s14 H11 => (fun (x64 : Bool) =>
  brW x64 (R false H11) (J11 () H11)) s14.1))
  (fun _ H9 =>
  letV (IntKind.i64.wrap (i11 + 1)) fun i11 : Int => L10 ((i11 : Int), ()) H9)) (J15 () H8)) q10.1) ((0 : Int), ()) H5)
  (fun _ H7 =>
  brackenlaw8_told.C  H7 fun x65 H12 =>
  brW x65 (pool_Pool_Len.C (x35_0) H12 fun x68 H13 =>
  brW (decide (x68 = k7)) (pool_Pool_Bytes.C (x35_0) H13 fun x74 H14 => R (decide (x74 = (a2s.size : Int))) H14) (R false H13)) (R false H12))))
theorem brackenlaw8_PoolEmpty.eq (a0n : Int) (a1at : Int) (a2s : ByteArray) (R : Bool → Heap → Prop) (H0 : Heap) :
    evF Tryd.prog brackenlaw8_PoolEmpty.ann Tryd.f3 [.int .i64 a0n, .int .i64 a1at, .string a2s] (fun v H' => xS (.one .bool) v fun r => R r H') H0 = brackenlaw8_PoolEmpty.W a0n a1at a2s R H0 := by kernel_rfl
theorem brackenlaw8_PoolEmpty.calls {a0n : Int} {a1at : Int} {a2s : ByteArray} {R : Bool → Heap → Prop} {H0 : Heap} (h : brackenlaw8_PoolEmpty.W a0n a1at a2s R H0) : brackenlaw8_PoolEmpty.C a0n a1at a2s H0 R :=
  (evF_sound progOk_ Tryd.func3 (by rw [brackenlaw8_PoolEmpty.eq]; exact h)).mono fun v H' h => by obtain ⟨x, hv, hk⟩ := xS_out h; exact ⟨x, hv, hk⟩

def brackenlaw8_PoolRow.ann : Ann := { ord := fun i => bif Nat.beq i 20 then [0, 1, 2, 3, 4, 5, 6, 7, 8, 9, 10] else [], loop := fun i => bif Nat.beq i 5 then some [(3, .one (.int .i64)), (4, .one (.int .i64))] else bif Nat.beq i 15 then some [(7, .one .str), (8, .one .str), (9, .one (.int .i64))] else none, join := fun i => bif Nat.beq i 10 then some [(3, .one (.int .i64))] else bif Nat.beq i 12 then some [(48, .one .bool)] else bif Nat.beq i 13 then some [] else bif Nat.beq i 21 then some [(7, .one .str), (8, .one .str)] else none }
/-- bracken.brackenlaw8.PoolRow -/
def brackenlaw8_PoolRow.W (a0l_p : Option Addr) (a0l_l a0l_c : Nat) (R : Bool → Heap → Prop) (H0 : Heap) : Prop :=
  brW (decide ((40 : Int) < (a0l_l : Int))) (brackenlaw8_told.C  H0 fun x17 H1 => R (x17) H1) (
  JoinW (S := (Int × Unit)) (fun J10 => 
  LoopW (S := (Int × Int × Unit)) (fun L5 q5 H3 => (fun (n3 : Int) (i4 : Int) =>
  brW (decide (i4 < (a0l_l : Int))) (∃ x26 : Addr, a0l_p = some x26 ∧ 0 ≤ i4 ∧ i4 < (a0l_l : Int) ∧
  ∃ x27 : ByteArray, hcell H3 (x26.add i4.toNat) = some (.string x27) ∧
  brW (decide ((60 : Int) < (x27.size : Int))) (brackenlaw8_told.C  H3 fun x30 H4 => R (x30) H4) (∃ x34 : Addr, a0l_p = some x34 ∧ 0 ≤ i4 ∧ i4 < (a0l_l : Int) ∧
  ∃ x35 : ByteArray, hcell H3 (x34.add i4.toNat) = some (.string x35) ∧
  letV (IntKind.i64.wrap (n3 + (x35.size : Int))) fun n3 : Int =>
  letV (IntKind.i64.wrap (i4 + 1)) fun i4 : Int => L5 ((n3 : Int), (i4 : Int), ()) H3)) (J10 ((n3 : Int), ()) H3)) q5.1 q5.2.1) ((0 : Int), (0 : Int), ()) H0)
  (fun s10 H2 => (fun (n3 : Int) =>
  pool_New.C (a0l_p) a0l_l a0l_c H2 fun x40_0 x40_1 H5 => 
  JoinW (S := Unit) (fun J13 => 
  JoinW (S := (Bool × Unit)) (fun J12 =>
  brW (decide (x40_1 ≠ 0)) (J12 (true, ()) H5) (J12 (Option.isNone (x40_0), ()) H5))
  (fun s12 H7 => (fun (x48 : Bool) =>
  brW x48 (R false H7) (J13 () H7)) s12.1))
  (fun _ H6 => 
  JoinW (S := (ByteArray × ByteArray × Unit)) (fun J21 => 
  LoopW (S := (ByteArray × ByteArray × Int × Unit)) (fun L15 q15 H9 => (fun (s7 : ByteArray) (t8 : ByteArray) (i9 : Int) =>
  brW (decide (i9 < (a0l_l : Int))) (pool_Pool_Get.C (x40_0) (i9) H9 fun x58_0 x58_1 H10 =>
  brW (decide (x58_1 ≠ 0)) (R false H10) (s7.size + x58_0.size ≤ 9223372036854775807 ∧
  ∃ x69 : Addr, a0l_p = some x69 ∧ 0 ≤ i9 ∧ i9 < (a0l_l : Int) ∧
  ∃ x70 : ByteArray, hcell H10 (x69.add i9.toNat) = some (.string x70) ∧ t8.size + x70.size ≤ 9223372036854775807 ∧
  letV (IntKind.i64.wrap (i9 + 1)) fun i9 : Int => L15 (s7 ++ x58_0, t8 ++ x70, (i9 : Int), ()) H10)) (J21 (s7, t8, ()) H9)) q15.1 q15.2.1 q15.2.2.1) ((⟨#[]⟩ : ByteArray), (⟨#[]⟩ : ByteArray), (0 : Int), ()) H6)
  (fun s21 H8 => (fun (s7 : ByteArray) (t8 : ByteArray) =>
  letV (hnew H8 #[.string t8] ty_string) fun H11 : Heap =>
  pool_New.C (some ⟨Array.size H8, 0, none⟩) 1 1 H11 fun x75_0 x75_1 H12 =>
  brackenlaw8_told.C  H12 fun x78 H13 =>
  brW x78 (brW (decide (x75_1 = 0)) (brW (decide (s7 = t8)) (pool_Pool_Bytes.C (x40_0) H13 fun x90 H14 =>
  brW (decide (x90 = n3)) (brW (Option.isSome (x75_0)) (pool_Pool_Bytes.C (x75_0) H14 fun x100 H15 => R (decide (x100 = n3)) H15) (R false H14)) (R false H14)) (R false H13)) (R false H13)) (R false H13)) s21.1 s21.2.1))) s10.1))
theorem brackenlaw8_PoolRow.eq (a0l_p : Option Addr) (a0l_l a0l_c : Nat) (R : Bool → Heap → Prop) (H0 : Heap) :
    evF Tryd.prog brackenlaw8_PoolRow.ann Tryd.f4 [.slice a0l_p a0l_l a0l_c] (fun v H' => xS (.one .bool) v fun r => R r H') H0 = brackenlaw8_PoolRow.W a0l_p a0l_l a0l_c R H0 := by kernel_rfl
theorem brackenlaw8_PoolRow.calls {a0l_p : Option Addr} {a0l_l a0l_c : Nat} {R : Bool → Heap → Prop} {H0 : Heap} (h : brackenlaw8_PoolRow.W a0l_p a0l_l a0l_c R H0) : brackenlaw8_PoolRow.C a0l_p a0l_l a0l_c H0 R :=
  (evF_sound progOk_ Tryd.func4 (by rw [brackenlaw8_PoolRow.eq]; exact h)).mono fun v H' h => by obtain ⟨x, hv, hk⟩ := xS_out h; exact ⟨x, hv, hk⟩

def bits_Bound.ann : Ann := { ord := fun _ => [], loop := fun _ => none, join := fun _ => none }
/-- bracken.bits.Bound -/
def bits_Bound.W (a0n : Int) (R : Int → Heap → Prop) (H0 : Heap) : Prop :=
  (64 : Int) ≠ 0 ∧ (512 : Int) ≠ 0 ∧
  letV (IntKind.i64.wrap ((IntKind.i64.wrap (80 * (IntKind.i64.wrap (Int.tdiv (IntKind.i64.wrap ((IntKind.i64.wrap (a0n + 64)) - 1)) 64)))) + (IntKind.i64.wrap (32 * (IntKind.i64.wrap (Int.tdiv (IntKind.i64.wrap ((IntKind.i64.wrap (a0n + 512)) - 1)) 512)))))) fun x2 : Int => R (x2) H0
theorem bits_Bound.eq (a0n : Int) (R : Int → Heap → Prop) (H0 : Heap) :
    evF Tryd.prog bits_Bound.ann Tryd.f29 [.int .i64 a0n] (fun v H' => xS (.one (.int .i64)) v fun r => R r H') H0 = bits_Bound.W a0n R H0 := by kernel_rfl
theorem bits_Bound.calls {a0n : Int} {R : Int → Heap → Prop} {H0 : Heap} (h : bits_Bound.W a0n R H0) : bits_Bound.C a0n H0 R :=
  (evF_sound progOk_ Tryd.func29 (by rw [bits_Bound.eq]; exact h)).mono fun v H' h => by obtain ⟨x, hv, hk⟩ := xS_out h; exact ⟨x, hv, hk⟩

def offs_Offs_Size.ann : Ann := { ord := fun i => bif Nat.beq i 3 then [0, 1, 2, 3, 4, 5, 6, 7, 8, 9, 10, 11, 12, 13, 14, 15, 16, 17, 18, 19, 20, 21, 22, 23, 24, 25] else [], loop := fun _ => none, join := fun _ => none }
/-- (*bracken.offs.Offs).Size -/
def offs_Offs_Size.W (a0o : Option Addr) (R : Int → Heap → Prop) (H0 : Heap) : Prop :=
  brW (Option.isNone (a0o)) (R (0) H0) (∃ x6 : Addr, a0o = some x6 ∧
  ∃ x8 : Int, hcell H0 (x6.add 2) = some (.int .i64 x8) ∧
  ∃ x10 : Addr, a0o = some x10 ∧
  ∃ x12 : Int, hcell H0 (x10.add 3) = some (.int .i64 x12) ∧ (64 : Int) ≠ 0 ∧
  ∃ x19 : Addr, a0o = some x19 ∧
  ∃ x21 : Int, hcell H0 (x19.add 2) = some (.int .i64 x21) ∧
  ∃ x23 : Addr, a0o = some x23 ∧
  ∃ x25 : Int, hcell H0 (x23.add 4) = some (.int .i64 x25) ∧ bits_Bound.C (IntKind.i64.wrap ((IntKind.i64.wrap (x21 + x25)) + 1)) H0 fun x28 H1 => (∃ x8s : Int, hcell H1 (x6.add 2) = some (.int .i64 x8s) ∧ (.int .i64 x8s : Value) = .int .i64 x8) ∧ (∃ x12s : Int, hcell H1 (x10.add 3) = some (.int .i64 x12s) ∧ (.int .i64 x12s : Value) = .int .i64 x12) ∧
  letV (IntKind.i64.wrap ((IntKind.i64.wrap ((IntKind.i64.wrap (Int.tdiv (IntKind.i64.wrap ((IntKind.i64.wrap ((IntKind.i64.wrap (x8 * x12)) + 64)) - 1)) 64)) * 64)) + x28)) fun x2 : Int => R (x2) H1)
theorem offs_Offs_Size.eq (a0o : Option Addr) (R : Int → Heap → Prop) (H0 : Heap) :
    evF Tryd.prog offs_Offs_Size.ann Tryd.f18 [.pointer a0o] (fun v H' => xS (.one (.int .i64)) v fun r => R r H') H0 = offs_Offs_Size.W a0o R H0 := by kernel_rfl
theorem offs_Offs_Size.calls {a0o : Option Addr} {R : Int → Heap → Prop} {H0 : Heap} (h : offs_Offs_Size.W a0o R H0) : offs_Offs_Size.C a0o H0 R :=
  (evF_sound progOk_ Tryd.func18 (by rw [offs_Offs_Size.eq]; exact h)).mono fun v H' h => by obtain ⟨x, hv, hk⟩ := xS_out h; exact ⟨x, hv, hk⟩

def pool_Pool_Size.ann : Ann := { ord := fun _ => [], loop := fun _ => none, join := fun _ => none }
/-- (*bracken.pool.Pool).Size -/
def pool_Pool_Size.W (a0p : Option Addr) (R : Int → Heap → Prop) (H0 : Heap) : Prop :=
  brW (Option.isNone (a0p)) (R (0) H0) (pool_Pool_places.C (a0p) H0 fun x6 H1 =>
  offs_Offs_Size.C (x6) H1 fun x7 H2 => R (x7) H2)
theorem pool_Pool_Size.eq (a0p : Option Addr) (R : Int → Heap → Prop) (H0 : Heap) :
    evF Tryd.prog pool_Pool_Size.ann Tryd.f12 [.pointer a0p] (fun v H' => xS (.one (.int .i64)) v fun r => R r H') H0 = pool_Pool_Size.W a0p R H0 := by kernel_rfl
theorem pool_Pool_Size.calls {a0p : Option Addr} {R : Int → Heap → Prop} {H0 : Heap} (h : pool_Pool_Size.W a0p R H0) : pool_Pool_Size.C a0p H0 R :=
  (evF_sound progOk_ Tryd.func12 (by rw [pool_Pool_Size.eq]; exact h)).mono fun v H' h => by obtain ⟨x, hv, hk⟩ := xS_out h; exact ⟨x, hv, hk⟩

def brackenlaw8_PoolSizes.ann : Ann := { ord := fun _ => [], loop := fun i => bif Nat.beq i 5 then some [(5, .one .slice), (6, .one (.int .i64))] else bif Nat.beq i 11 then some [(8, .one (.int .i64))] else none, join := fun i => bif Nat.beq i 6 then some [(5, .one .slice)] else bif Nat.beq i 14 then some [] else bif Nat.beq i 15 then some [(5, .one .slice)] else none }
/-- bracken.brackenlaw8.PoolSizes -/
def brackenlaw8_PoolSizes.W (a0l_p : Option Addr) (a0l_l a0l_c : Nat) (a1c : Int) (R : Bool → Heap → Prop) (H0 : Heap) : Prop :=
  brW (decide ((40 : Int) < (a0l_l : Int))) (brackenlaw8_told.C  H0 fun x16 H1 => R (x16) H1) (
  JoinW (S := ((Option Addr × Nat × Nat) × Unit)) (fun J15 => 
  LoopW (S := ((Option Addr × Nat × Nat) × Int × Unit)) (fun L5 q5 H3 => (fun (m5_p : Option Addr) (m5_l m5_c : Nat) (i6 : Int) =>
  brW (decide (i6 < (a0l_l : Int))) (
  JoinW (S := ((Option Addr × Nat × Nat) × Unit)) (fun J6 =>
  ∃ x25 : Addr, a0l_p = some x25 ∧ 0 ≤ i6 ∧ i6 < (a0l_l : Int) ∧
  ∃ x26 : ByteArray, hcell H3 (x25.add i6.toNat) = some (.string x26) ∧
  brW (decide ((60 : Int) < (x26.size : Int))) (brackenlaw8_told.C  H3 fun x29 H5 => R (x29) H5) (∃ x32 : Addr, a0l_p = some x32 ∧ 0 ≤ i6 ∧ i6 < (a0l_l : Int) ∧
  ∃ x33 : ByteArray, hcell H3 (x32.add i6.toNat) = some (.string x33) ∧ 0 ≤ (x33.size : Int) ∧ (x33.size : Int) ≤ (x33.size : Int) ∧ ((1 : Nat) : Int) * (x33.size : Int) ≤ 281474976710656 ∧
  letV (hnew H3 (zerosOf (.int .u8 0) ((x33.size : Int).toNat)) ty_uint8) fun H6 : Heap => 
  JoinW (S := Unit) (fun J14 => 
  LoopW (S := (Int × Unit)) (fun L11 q11 H8 => (fun (k8 : Int) =>
  brW (decide (k8 < (((x33.size : Int).toNat : Int)))) (∃ x45 : Addr, some ⟨Array.size H3, 0, none⟩ = some x45 ∧ 0 ≤ k8 ∧ k8 < ((x33.size : Int).toNat : Int) ∧ (∃ u, hcell H8 (x45.add k8.toNat) = some u) ∧ hfrozen H8 (x45.add k8.toNat) = false ∧
  letV (hset H8 (x45.add k8.toNat) (.int .u8 a1c)) fun H9 : Heap =>
  letV (IntKind.i64.wrap (k8 + 1)) fun k8 : Int => L11 ((k8 : Int), ()) H9) (J14 () H8)) q11.1) ((0 : Int), ()) H6)
  (fun _ H7 =>
  ∃ x48 : ByteArray, BytesAt H7 (some ⟨Array.size H3, 0, none⟩) ((x33.size : Int).toNat) x48 ∧
  letV (hnew H7 #[.string x48] ty_string) fun H10 : Heap => appW ty_string 1 16 (.string (⟨#[]⟩ : ByteArray)) m5_p m5_l m5_c (.slice (some ⟨Array.size H7, 0, none⟩) 1 1) H10 fun x50_p x50_l x50_c H11 => J6 ((x50_p, x50_l, x50_c), ()) H11)))
  (fun s6 H4 => (fun (m5_p : Option Addr) (m5_l m5_c : Nat) =>
  letV (IntKind.i64.wrap (i6 + 1)) fun i6 : Int => L5 ((m5_p, m5_l, m5_c), (i6 : Int), ()) H4) s6.1.1 s6.1.2.1 s6.1.2.2)) (J15 ((m5_p, m5_l, m5_c), ()) H3)) q5.1.1 q5.1.2.1 q5.1.2.2 q5.2.1) ((none, 0, 0), (0 : Int), ()) H0)
  (fun s15 H2 => (fun (m5_p : Option Addr) (m5_l m5_c : Nat) =>
  pool_New.C (a0l_p) a0l_l a0l_c H2 fun x53_0 x53_1 H12 =>
  pool_New.C (m5_p) m5_l m5_c H12 fun x58_0 x58_1 H13 =>
  brackenlaw8_told.C  H13 fun x61 H14 =>
  brW x61 (brW (decide (x53_1 = 0)) (brW (decide (x58_1 = 0)) (brW (Option.isSome (x53_0)) (brW (Option.isSome (x58_0)) (pool_Pool_Size.C (x53_0) H14 fun x80 H15 =>
  pool_Pool_Size.C (x58_0) H15 fun x82 H16 =>
  brW (decide (x80 = x82)) (pool_Pool_Bytes.C (x53_0) H16 fun x87 H17 =>
  pool_Pool_Bytes.C (x58_0) H17 fun x89 H18 =>
  brW (decide (x87 = x89)) (pool_Pool_Len.C (x53_0) H18 fun x94 H19 =>
  pool_Pool_Len.C (x58_0) H19 fun x96 H20 => R (decide (x94 = x96)) H20) (R false H18)) (R false H16)) (R false H14)) (R false H14)) (R false H14)) (R false H14)) (R false H14)) s15.1.1 s15.1.2.1 s15.1.2.2))
theorem brackenlaw8_PoolSizes.eq (a0l_p : Option Addr) (a0l_l a0l_c : Nat) (a1c : Int) (R : Bool → Heap → Prop) (H0 : Heap) :
    evF Tryd.prog brackenlaw8_PoolSizes.ann Tryd.f5 [.slice a0l_p a0l_l a0l_c, .int .u8 a1c] (fun v H' => xS (.one .bool) v fun r => R r H') H0 = brackenlaw8_PoolSizes.W a0l_p a0l_l a0l_c a1c R H0 := by kernel_rfl
theorem brackenlaw8_PoolSizes.calls {a0l_p : Option Addr} {a0l_l a0l_c : Nat} {a1c : Int} {R : Bool → Heap → Prop} {H0 : Heap} (h : brackenlaw8_PoolSizes.W a0l_p a0l_l a0l_c a1c R H0) : brackenlaw8_PoolSizes.C a0l_p a0l_l a0l_c a1c H0 R :=
  (evF_sound progOk_ Tryd.func5 (by rw [brackenlaw8_PoolSizes.eq]; exact h)).mono fun v H' h => by obtain ⟨x, hv, hk⟩ := xS_out h; exact ⟨x, hv, hk⟩

def brackenref1_begun.ann : Ann := { ord := fun _ => [], loop := fun _ => none, join := fun _ => none }
/-- bracken.brackenref1.begun -/
def brackenref1_begun.W (a0n : Int) (a1by : Int) (R : Int → Heap → Prop) (H0 : Heap) : Prop :=
  a1by ≠ 0 ∧
  letV (IntKind.i64.wrap (Int.tdiv (IntKind.i64.wrap ((IntKind.i64.wrap (a0n + a1by)) - 1)) a1by)) fun x4 : Int => R (x4) H0
theorem brackenref1_begun.eq (a0n : Int) (a1by : Int) (R : Int → Heap → Prop) (H0 : Heap) :
    evF Tryd.prog brackenref1_begun.ann Tryd.f43 [.int .i64 a0n, .int .i64 a1by] (fun v H' => xS (.one (.int .i64)) v fun r => R r H') H0 = brackenref1_begun.W a0n a1by R H0 := by kernel_rfl
theorem brackenref1_begun.calls {a0n : Int} {a1by : Int} {R : Int → Heap → Prop} {H0 : Heap} (h : brackenref1_begun.W a0n a1by R H0) : brackenref1_begun.C a0n a1by H0 R :=
  (evF_sound progOk_ Tryd.func43 (by rw [brackenref1_begun.eq]; exact h)).mono fun v H' h => by obtain ⟨x, hv, hk⟩ := xS_out h; exact ⟨x, hv, hk⟩

def brackenref1_BitsSize.ann : Ann := { ord := fun _ => [], loop := fun _ => none, join := fun _ => none }
/-- bracken.brackenref1.BitsSize -/
def brackenref1_BitsSize.W (a0n : Int) (R : Int → Heap → Prop) (H0 : Heap) : Prop :=
  brackenref1_begun.C (a0n) (64) H0 fun x4 H1 =>
  brackenref1_begun.C (a0n) (512) H1 fun x7 H2 =>
  brackenref1_begun.C (a0n) (64) H2 fun x11 H3 =>
  letV (IntKind.i64.wrap ((IntKind.i64.wrap ((IntKind.i64.wrap (64 * x4)) + (IntKind.i64.wrap (32 * x7)))) + (IntKind.i64.wrap (16 * x11)))) fun x2 : Int => R (x2) H3
theorem brackenref1_BitsSize.eq (a0n : Int) (R : Int → Heap → Prop) (H0 : Heap) :
    evF Tryd.prog brackenref1_BitsSize.ann Tryd.f30 [.int .i64 a0n] (fun v H' => xS (.one (.int .i64)) v fun r => R r H') H0 = brackenref1_BitsSize.W a0n R H0 := by kernel_rfl
theorem brackenref1_BitsSize.calls {a0n : Int} {R : Int → Heap → Prop} {H0 : Heap} (h : brackenref1_BitsSize.W a0n R H0) : brackenref1_BitsSize.C a0n H0 R :=
  (evF_sound progOk_ Tryd.func30 (by rw [brackenref1_BitsSize.eq]; exact h)).mono fun v H' h => by obtain ⟨x, hv, hk⟩ := xS_out h; exact ⟨x, hv, hk⟩

def brackenref1_Width.ann : Ann := { ord := fun _ => [], loop := fun i => bif Nat.beq i 2 then some [(0, .one (.int .u64)), (3, .one (.int .i64))] else none, join := fun i => bif Nat.beq i 5 then some [(3, .one (.int .i64))] else none }
/-- bracken.brackenref1.Width -/
def brackenref1_Width.W (a0n : Int) (R : Int → Heap → Prop) (H0 : Heap) : Prop :=
  
  JoinW (S := (Int × Unit)) (fun J5 => 
  LoopW (S := (Int × Int × Unit)) (fun L2 q2 H2 => (fun (n0 : Int) (w3 : Int) =>
  brW (decide ((0 : Int) < n0)) (letV (IntKind.i64.wrap (w3 + 1)) fun w3 : Int => 0 ≤ (1 : Int) ∧
  letV (shrW .u64 n0 1) fun n0 : Int => L2 ((n0 : Int), (w3 : Int), ()) H2) (J5 ((w3 : Int), ()) H2)) q2.1 q2.2.1) ((a0n : Int), (0 : Int), ()) H0)
  (fun s5 H1 => (fun (w3 : Int) => R (w3) H1) s5.1)
theorem brackenref1_Width.eq (a0n : Int) (R : Int → Heap → Prop) (H0 : Heap) :
    evF Tryd.prog brackenref1_Width.ann Tryd.f44 [.int .u64 a0n] (fun v H' => xS (.one (.int .i64)) v fun r => R r H') H0 = brackenref1_Width.W a0n R H0 := by kernel_rfl
theorem brackenref1_Width.calls {a0n : Int} {R : Int → Heap → Prop} {H0 : Heap} (h : brackenref1_Width.W a0n R H0) : brackenref1_Width.C a0n H0 R :=
  (evF_sound progOk_ Tryd.func44 (by rw [brackenref1_Width.eq]; exact h)).mono fun v H' h => by obtain ⟨x, hv, hk⟩ := xS_out h; exact ⟨x, hv, hk⟩

def brackenref1_Low.ann : Ann := { ord := fun _ => [], loop := fun _ => none, join := fun _ => none }
/-- bracken.brackenref1.Low -/
def brackenref1_Low.W (a0l_p : Option Addr) (a0l_l a0l_c : Nat) (R : Int → Heap → Prop) (H0 : Heap) : Prop :=
  brW (decide ((a0l_l : Int) = 0)) (R (0) H0) (∃ x10 : Addr, a0l_p = some x10 ∧ 0 ≤ IntKind.i64.wrap ((a0l_l : Int) - 1) ∧ IntKind.i64.wrap ((a0l_l : Int) - 1) < (a0l_l : Int) ∧
  ∃ x11 : Int, hcell H0 (x10.add ((IntKind.i64.wrap ((a0l_l : Int) - 1)).toNat)) = some (.int .i64 x11) ∧ (a0l_l : Int) ≠ 0 ∧ brackenref1_Width.C (IntKind.u64.wrap (IntKind.i64.wrap (Int.tdiv x11 (a0l_l : Int)))) H0 fun x16 H1 =>
  letV (max (IntKind.i64.wrap (x16 - 1)) 0) fun x2 : Int => R (x2) H1)
theorem brackenref1_Low.eq (a0l_p : Option Addr) (a0l_l a0l_c : Nat) (R : Int → Heap → Prop) (H0 : Heap) :
    evF Tryd.prog brackenref1_Low.ann Tryd.f31 [.slice a0l_p a0l_l a0l_c] (fun v H' => xS (.one (.int .i64)) v fun r => R r H') H0 = brackenref1_Low.W a0l_p a0l_l a0l_c R H0 := by kernel_rfl
theorem brackenref1_Low.calls {a0l_p : Option Addr} {a0l_l a0l_c : Nat} {R : Int → Heap → Prop} {H0 : Heap} (h : brackenref1_Low.W a0l_p a0l_l a0l_c R H0) : brackenref1_Low.C a0l_p a0l_l a0l_c H0 R :=
  (evF_sound progOk_ Tryd.func31 (by rw [brackenref1_Low.eq]; exact h)).mono fun v H' h => by obtain ⟨x, hv, hk⟩ := xS_out h; exact ⟨x, hv, hk⟩

def brackenref1_IntsSize.ann : Ann := { ord := fun _ => [], loop := fun _ => none, join := fun _ => none }
/-- bracken.brackenref1.IntsSize -/
def brackenref1_IntsSize.W (a0n : Int) (a1width : Int) (R : Int → Heap → Prop) (H0 : Heap) : Prop :=
  brackenref1_begun.C (IntKind.i64.wrap (a0n * a1width)) (64) H0 fun x8 H1 =>
  letV (IntKind.i64.wrap (64 * x8)) fun x4 : Int => R (x4) H1
theorem brackenref1_IntsSize.eq (a0n : Int) (a1width : Int) (R : Int → Heap → Prop) (H0 : Heap) :
    evF Tryd.prog brackenref1_IntsSize.ann Tryd.f32 [.int .i64 a0n, .int .i64 a1width] (fun v H' => xS (.one (.int .i64)) v fun r => R r H') H0 = brackenref1_IntsSize.W a0n a1width R H0 := by kernel_rfl
theorem brackenref1_IntsSize.calls {a0n : Int} {a1width : Int} {R : Int → Heap → Prop} {H0 : Heap} (h : brackenref1_IntsSize.W a0n a1width R H0) : brackenref1_IntsSize.C a0n a1width H0 R :=
  (evF_sound progOk_ Tryd.func32 (by rw [brackenref1_IntsSize.eq]; exact h)).mono fun v H' h => by obtain ⟨x, hv, hk⟩ := xS_out h; exact ⟨x, hv, hk⟩

def brackenref1_OffsSize.ann : Ann := { ord := fun i => bif Nat.beq i 4 then [0, 1, 2, 4, 5, 6, 7, 8, 9, 10, 11, 12, 13, 14, 15, 16, 3, 17, 18, 19] else [], loop := fun _ => none, join := fun _ => none }
/-- bracken.brackenref1.OffsSize -/
def brackenref1_OffsSize.W (a0l_p : Option Addr) (a0l_l a0l_c : Nat) (R : Int → Heap → Prop) (H0 : Heap) : Prop :=
  brW (decide ((a0l_l : Int) = 0)) (brackenref1_BitsSize.C (1) H0 fun x7 H1 => R (x7) H1) (brackenref1_Low.C (a0l_p) a0l_l a0l_c H0 fun x9 H2 =>
  ∃ x20 : Addr, a0l_p = some x20 ∧ 0 ≤ IntKind.i64.wrap ((a0l_l : Int) - 1) ∧ IntKind.i64.wrap ((a0l_l : Int) - 1) < (a0l_l : Int) ∧
  ∃ x21 : Int, hcell H2 (x20.add ((IntKind.i64.wrap ((a0l_l : Int) - 1)).toNat)) = some (.int .i64 x21) ∧ 0 ≤ (IntKind.u64.wrap x9) ∧ brackenref1_IntsSize.C ((a0l_l : Int)) (x9) H2 fun x13 H3 => (∃ x21s : Int, hcell H3 (x20.add ((IntKind.i64.wrap ((a0l_l : Int) - 1)).toNat)) = some (.int .i64 x21s) ∧ (.int .i64 x21s : Value) = .int .i64 x21) ∧ brackenref1_BitsSize.C (IntKind.i64.wrap ((IntKind.i64.wrap ((a0l_l : Int) + (shrW .i64 x21 (IntKind.u64.wrap x9)))) + 1)) H3 fun x27 H4 =>
  letV (IntKind.i64.wrap (x13 + x27)) fun x2 : Int => R (x2) H4)
theorem brackenref1_OffsSize.eq (a0l_p : Option Addr) (a0l_l a0l_c : Nat) (R : Int → Heap → Prop) (H0 : Heap) :
    evF Tryd.prog brackenref1_OffsSize.ann Tryd.f19 [.slice a0l_p a0l_l a0l_c] (fun v H' => xS (.one (.int .i64)) v fun r => R r H') H0 = brackenref1_OffsSize.W a0l_p a0l_l a0l_c R H0 := by kernel_rfl
theorem brackenref1_OffsSize.calls {a0l_p : Option Addr} {a0l_l a0l_c : Nat} {R : Int → Heap → Prop} {H0 : Heap} (h : brackenref1_OffsSize.W a0l_p a0l_l a0l_c R H0) : brackenref1_OffsSize.C a0l_p a0l_l a0l_c H0 R :=
  (evF_sound progOk_ Tryd.func19 (by rw [brackenref1_OffsSize.eq]; exact h)).mono fun v H' h => by obtain ⟨x, hv, hk⟩ := xS_out h; exact ⟨x, hv, hk⟩

def brackenref1_PoolSize.ann : Ann := { ord := fun _ => [], loop := fun i => bif Nat.beq i 4 then some [(3, .one .slice), (4, .one (.int .i64)), (5, .one (.int .i64))] else none, join := fun i => bif Nat.beq i 8 then some [(3, .one .slice), (4, .one (.int .i64))] else none }
/-- bracken.brackenref1.PoolSize -/
def brackenref1_PoolSize.W (a0l_p : Option Addr) (a0l_l a0l_c : Nat) (R : Int → Heap → Prop) (H0 : Heap) : Prop :=
  
  JoinW (S := ((Option Addr × Nat × Nat) × Int × Unit)) (fun J8 => 
  LoopW (S := ((Option Addr × Nat × Nat) × Int × Int × Unit)) (fun L4 q4 H2 => (fun (o3_p : Option Addr) (o3_l o3_c : Nat) (at4 : Int) (i5 : Int) =>
  brW (decide (i5 < (a0l_l : Int))) (letV (hnew H2 #[.int .i64 at4] ty_int) fun H3 : Heap => appW ty_int 1 8 (.int .i64 0) o3_p o3_l o3_c (.slice (some ⟨Array.size H2, 0, none⟩) 1 1) H3 fun x15_p x15_l x15_c H4 =>
  ∃ x19 : Addr, a0l_p = some x19 ∧ 0 ≤ i5 ∧ i5 < (a0l_l : Int) ∧
  ∃ x20 : ByteArray, hcell H4 (x19.add i5.toNat) = some (.string x20) ∧
  letV (IntKind.i64.wrap (at4 + (x20.size : Int))) fun at4 : Int =>
  letV (IntKind.i64.wrap (i5 + 1)) fun i5 : Int => L4 ((x15_p, x15_l, x15_c), (at4 : Int), (i5 : Int), ()) H4) (J8 ((o3_p, o3_l, o3_c), (at4 : Int), ()) H2)) q4.1.1 q4.1.2.1 q4.1.2.2 q4.2.1 q4.2.2.1) ((none, 0, 0), (0 : Int), (0 : Int), ()) H0)
  (fun s8 H1 => (fun (o3_p : Option Addr) (o3_l o3_c : Nat) (at4 : Int) =>
  letV (hnew H1 #[.int .i64 at4] ty_int) fun H5 : Heap => appW ty_int 1 8 (.int .i64 0) o3_p o3_l o3_c (.slice (some ⟨Array.size H1, 0, none⟩) 1 1) H5 fun x26_p x26_l x26_c H6 =>
  brackenref1_OffsSize.C (x26_p) x26_l x26_c H6 fun x27 H7 => R (x27) H7) s8.1.1 s8.1.2.1 s8.1.2.2 s8.2.1)
theorem brackenref1_PoolSize.eq (a0l_p : Option Addr) (a0l_l a0l_c : Nat) (R : Int → Heap → Prop) (H0 : Heap) :
    evF Tryd.prog brackenref1_PoolSize.ann Tryd.f13 [.slice a0l_p a0l_l a0l_c] (fun v H' => xS (.one (.int .i64)) v fun r => R r H') H0 = brackenref1_PoolSize.W a0l_p a0l_l a0l_c R H0 := by kernel_rfl
theorem brackenref1_PoolSize.calls {a0l_p : Option Addr} {a0l_l a0l_c : Nat} {R : Int → Heap → Prop} {H0 : Heap} (h : brackenref1_PoolSize.W a0l_p a0l_l a0l_c R H0) : brackenref1_PoolSize.C a0l_p a0l_l a0l_c H0 R :=
  (evF_sound progOk_ Tryd.func13 (by rw [brackenref1_PoolSize.eq]; exact h)).mono fun v H' h => by obtain ⟨x, hv, hk⟩ := xS_out h; exact ⟨x, hv, hk⟩

def brackenlaw8_PoolAsks.ann : Ann := { ord := fun _ => [], loop := fun i => bif Nat.beq i 3 then some [(5, .one (.int .i64)), (6, .one (.int .i64))] else bif Nat.beq i 14 then some [(9, .one (.int .i64))] else none, join := fun i => bif Nat.beq i 8 then some [(5, .one (.int .i64))] else bif Nat.beq i 12 then some [(68, .one .bool)] else bif Nat.beq i 13 then some [] else bif Nat.beq i 15 then some [] else bif Nat.beq i 18 then some [(90, .one .bool)] else bif Nat.beq i 19 then some [] else none }
/-- bracken.brackenlaw8.PoolAsks -/
def brackenlaw8_PoolAsks.W (a0l_p : Option Addr) (a0l_l a0l_c : Nat) (a1k : Int) (R : Bool → Heap → Prop) (H0 : Heap) : Prop :=
  
  JoinW (S := (Int × Unit)) (fun J8 => 
  LoopW (S := (Int × Int × Unit)) (fun L3 q3 H2 => (fun (n5 : Int) (i6 : Int) =>
  brW (decide (i6 < (a0l_l : Int))) (∃ x22 : Addr, a0l_p = some x22 ∧ 0 ≤ i6 ∧ i6 < (a0l_l : Int) ∧
  ∃ x23 : ByteArray, hcell H2 (x22.add i6.toNat) = some (.string x23) ∧
  brW (decide ((200 : Int) < (x23.size : Int))) (brackenlaw8_told.C  H2 fun x26 H3 => R (x26) H3) (∃ x30 : Addr, a0l_p = some x30 ∧ 0 ≤ i6 ∧ i6 < (a0l_l : Int) ∧
  ∃ x31 : ByteArray, hcell H2 (x30.add i6.toNat) = some (.string x31) ∧
  letV (IntKind.i64.wrap (n5 + (x31.size : Int))) fun n5 : Int =>
  letV (IntKind.i64.wrap (i6 + 1)) fun i6 : Int => L3 ((n5 : Int), (i6 : Int), ()) H2)) (J8 ((n5 : Int), ()) H2)) q3.1 q3.2.1) ((0 : Int), (0 : Int), ()) H0)
  (fun s8 H1 => (fun (n5 : Int) =>
  brW (decide ((60 : Int) < (a0l_l : Int))) (brackenlaw8_told.C  H1 fun x37 H4 => R (x37) H4) (pool_New.C (a0l_p) a0l_l a0l_c H1 fun x40_0 x40_1 H5 => 
  JoinW (S := Unit) (fun J13 => 
  JoinW (S := (Bool × Unit)) (fun J12 =>
  brW (decide (x40_1 ≠ 0)) (J12 (true, ()) H5) (brW (Option.isNone (x40_0)) (J12 (true, ()) H5) (pool_Pool_Len.C (x40_0) H5 fun x51 H8 =>
  brW (decide (x51 ≠ (a0l_l : Int))) (J12 (true, ()) H8) (pool_Pool_Bytes.C (x40_0) H8 fun x58 H9 =>
  brW (decide (x58 ≠ n5)) (J12 (true, ()) H9) (pool_Pool_Size.C (x40_0) H9 fun x64 H10 =>
  brackenref1_PoolSize.C (a0l_p) a0l_l a0l_c H10 fun x66 H11 => J12 (decide (x64 ≠ x66), ()) H11)))))
  (fun s12 H7 => (fun (x68 : Bool) =>
  brW x68 (R false H7) (J13 () H7)) s12.1))
  (fun _ H6 => 
  JoinW (S := Unit) (fun J19 => 
  LoopW (S := (Int × Unit)) (fun L14 q14 H13 => (fun (i9 : Int) =>
  brW (decide (i9 < (a0l_l : Int))) (
  JoinW (S := Unit) (fun J15 =>
  pool_Pool_Get.C (x40_0) (i9) H13 fun x78_0 x78_1 H15 => 
  JoinW (S := (Bool × Unit)) (fun J18 =>
  brW (decide (x78_1 ≠ 0)) (J18 (true, ()) H15) (∃ x87 : Addr, a0l_p = some x87 ∧ 0 ≤ i9 ∧ i9 < (a0l_l : Int) ∧
  ∃ x88 : ByteArray, hcell H15 (x87.add i9.toNat) = some (.string x88) ∧ J18 (decide (x78_0 ≠ x88), ()) H15))
  (fun s18 H16 => (fun (x90 : Bool) =>
  brW x90 (R false H16) (J15 () H16)) s18.1))
  (fun _ H14 =>
  letV (IntKind.i64.wrap (i9 + 1)) fun i9 : Int => L14 ((i9 : Int), ()) H14)) (J19 () H13)) q14.1) ((0 : Int), ()) H6)
  (fun _ H12 =>
  pool_Pool_Get.C (x40_0) (a1k) H12 fun x94_0 x94_1 H17 =>
  brackenlaw8_told.C  H17 fun x97 H18 =>
  brW x97 (brW (decide ((0 : Int) ≤ a1k)) (brW (decide ((decide (x94_1 = 0)) = (decide (a1k < (a0l_l : Int))))) (brW (decide (x94_1 = 0)) (R true H18) (brW (decide (x94_1 = 4)) (R (decide (x94_0 = (⟨#[]⟩ : ByteArray))) H18) (R false H18))) (R false H18)) (brW (decide ((decide (x94_1 = 0)) = false)) (brW (decide (x94_1 = 0)) (R true H18) (brW (decide (x94_1 = 4)) (R (decide (x94_0 = (⟨#[]⟩ : ByteArray))) H18) (R false H18))) (R false H18))) (R false H18))))) s8.1)
theorem brackenlaw8_PoolAsks.eq (a0l_p : Option Addr) (a0l_l a0l_c : Nat) (a1k : Int) (R : Bool → Heap → Prop) (H0 : Heap) :
    evF Tryd.prog brackenlaw8_PoolAsks.ann Tryd.f6 [.slice a0l_p a0l_l a0l_c, .int .i64 a1k] (fun v H' => xS (.one .bool) v fun r => R r H') H0 = brackenlaw8_PoolAsks.W a0l_p a0l_l a0l_c a1k R H0 := by kernel_rfl
theorem brackenlaw8_PoolAsks.calls {a0l_p : Option Addr} {a0l_l a0l_c : Nat} {a1k : Int} {R : Bool → Heap → Prop} {H0 : Heap} (h : brackenlaw8_PoolAsks.W a0l_p a0l_l a0l_c a1k R H0) : brackenlaw8_PoolAsks.C a0l_p a0l_l a0l_c a1k H0 R :=
  (evF_sound progOk_ Tryd.func6 (by rw [brackenlaw8_PoolAsks.eq]; exact h)).mono fun v H' h => by obtain ⟨x, hv, hk⟩ := xS_out h; exact ⟨x, hv, hk⟩

end Go.Proofs.YtbbehhddckmpkaaDoor
