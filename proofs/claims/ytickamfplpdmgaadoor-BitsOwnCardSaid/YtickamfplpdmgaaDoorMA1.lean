import Derived.Test.YtickamfplpdmgaaDoorEvSound
import Derived.Test.YtickamfplpdmgaaDoorProg
import Derived.KernelRfl
import Derived.Test.YtickamfplpdmgaaDoorMA0
namespace Go.Proofs.YtickamfplpdmgaaDoor
open Go.Ev
set_option linter.unusedVariables false
def brackenlaw3_Row.ann : Ann := { ord := fun _ => [], loop := fun i => bif Nat.beq i 3 then some [(5, .one .slice), (6, .one (.int .i64))] else bif Nat.beq i 6 then some [(5, .one .slice), (7, .one (.int .u64))] else none, join := fun i => bif Nat.beq i 4 then some [(5, .one .slice)] else bif Nat.beq i 8 then some [] else bif Nat.beq i 9 then some [(5, .one .slice)] else none }
/-- bracken.brackenlaw3.Row -/
def brackenlaw3_Row.W (a0l_p : Option Addr) (a0l_l a0l_c : Nat) (a1most : Int) (R : Option Addr → Nat → Nat → Heap → Prop) (H0 : Heap) : Prop :=
  
  JoinW (S := ((Option Addr × Nat × Nat) × Unit)) (fun J9 => 
  LoopW (S := ((Option Addr × Nat × Nat) × Int × Unit)) (fun L3 q3 H2 => (fun (out5_p : Option Addr) (out5_l out5_c : Nat) (i6 : Int) =>
  brW (decide (i6 < (a0l_l : Int))) (
  JoinW (S := ((Option Addr × Nat × Nat) × Unit)) (fun J4 =>
  ∃ x16 : Addr, a0l_p = some x16 ∧ 0 ≤ i6 ∧ i6 < (a0l_l : Int) ∧
  ∃ x17 : Int, hcell H2 (x16.add i6.toNat) = some (.int .i64 x17) ∧ (2 : Int) ≠ 0 ∧ (90 : Int) ≠ 0 ∧
  letV (IntKind.u64.wrap (1 + (Int.tmod (IntKind.u64.wrap (Int.tdiv (IntKind.u64.wrap x17) 2)) 90))) fun n7 : Int => 
  LoopW (S := ((Option Addr × Nat × Nat) × Int × Unit)) (fun L6 q6 H4 => (fun (out5_p : Option Addr) (out5_l out5_c : Nat) (n7 : Int) => 
  JoinW (S := Unit) (fun J8 =>
  brW (decide ((0 : Int) < n7)) (brW (decide ((out5_l : Int) < a1most)) (J8 () H4) (J4 ((out5_p, out5_l, out5_c), ()) H4)) (J4 ((out5_p, out5_l, out5_c), ()) H4))
  (fun _ H5 =>
  ∃ x35 : Addr, a0l_p = some x35 ∧ 0 ≤ i6 ∧ i6 < (a0l_l : Int) ∧
  ∃ x36 : Int, hcell H5 (x35.add i6.toNat) = some (.int .i64 x36) ∧
  letV (hnew H5 #[.bool (decide ((andW .i64 x36 1) = 1))] ty_bool) fun H6 : Heap => appW ty_bool 1 1 (.bool false) out5_p out5_l out5_c (.slice (some ⟨Array.size H5, 0, none⟩) 1 1) H6 fun x40_p x40_l x40_c H7 =>
  letV (IntKind.u64.wrap (n7 - 1)) fun n7 : Int => L6 ((x40_p, x40_l, x40_c), (n7 : Int), ()) H7)) q6.1.1 q6.1.2.1 q6.1.2.2 q6.2.1) ((out5_p, out5_l, out5_c), (n7 : Int), ()) H2)
  (fun s4 H3 => (fun (out5_p : Option Addr) (out5_l out5_c : Nat) =>
  letV (IntKind.i64.wrap (i6 + 1)) fun i6 : Int => L3 ((out5_p, out5_l, out5_c), (i6 : Int), ()) H3) s4.1.1 s4.1.2.1 s4.1.2.2)) (J9 ((out5_p, out5_l, out5_c), ()) H2)) q3.1.1 q3.1.2.1 q3.1.2.2 q3.2.1) ((none, 0, 0), (0 : Int), ()) H0)
  (fun s9 H1 => (fun (out5_p : Option Addr) (out5_l out5_c : Nat) => R (out5_p) out5_l out5_c H1) s9.1.1 s9.1.2.1 s9.1.2.2)
theorem brackenlaw3_Row.eq (a0l_p : Option Addr) (a0l_l a0l_c : Nat) (a1most : Int) (R : Option Addr → Nat → Nat → Heap → Prop) (H0 : Heap) :
    evF Tryd.prog brackenlaw3_Row.ann Tryd.f7 [.slice a0l_p a0l_l a0l_c, .int .i64 a1most] (fun v H' => xS (.one .slice) v fun r => R r.1 r.2.1 r.2.2 H') H0 = brackenlaw3_Row.W a0l_p a0l_l a0l_c a1most R H0 := by kernel_rfl
theorem brackenlaw3_Row.calls {a0l_p : Option Addr} {a0l_l a0l_c : Nat} {a1most : Int} {R : Option Addr → Nat → Nat → Heap → Prop} {H0 : Heap} (h : brackenlaw3_Row.W a0l_p a0l_l a0l_c a1most R H0) : brackenlaw3_Row.C a0l_p a0l_l a0l_c a1most H0 R :=
  (evF_sound progOk_ Tryd.func7 (by rw [brackenlaw3_Row.eq]; exact h)).mono fun v H' h => by obtain ⟨x, hv, hk⟩ := xS_out h; exact ⟨x.1, x.2.1, x.2.2, hv, hk⟩

def bits_OnesCount64.ann : Ann := { ord := fun _ => [], loop := fun _ => none, join := fun _ => none }
/-- math.bits.OnesCount64 -/
def bits_OnesCount64.W (a0x : Int) (R : Int → Heap → Prop) (H0 : Heap) : Prop :=
  0 ≤ (1 : Int) ∧
  letV (IntKind.u64.wrap ((andW .u64 (shrW .u64 a0x 1) 6148914691236517205) + (andW .u64 a0x 6148914691236517205))) fun x0 : Int => 0 ≤ (2 : Int) ∧
  letV (IntKind.u64.wrap ((andW .u64 (shrW .u64 x0 2) 3689348814741910323) + (andW .u64 x0 3689348814741910323))) fun x0 : Int => 0 ≤ (4 : Int) ∧
  letV (andW .u64 (IntKind.u64.wrap ((shrW .u64 x0 4) + x0)) 1085102592571150095) fun x0 : Int => 0 ≤ (8 : Int) ∧
  letV (IntKind.u64.wrap (x0 + (shrW .u64 x0 8))) fun x0 : Int => 0 ≤ (16 : Int) ∧
  letV (IntKind.u64.wrap (x0 + (shrW .u64 x0 16))) fun x0 : Int => 0 ≤ (32 : Int) ∧
  letV (IntKind.u64.wrap (x0 + (shrW .u64 x0 32))) fun x0 : Int =>
  letV (andW .i64 (IntKind.i64.wrap x0) 127) fun x2 : Int => R (x2) H0
theorem bits_OnesCount64.eq (a0x : Int) (R : Int → Heap → Prop) (H0 : Heap) :
    evF Tryd.prog bits_OnesCount64.ann Tryd.f18 [.int .u64 a0x] (fun v H' => xS (.one (.int .i64)) v fun r => R r H') H0 = bits_OnesCount64.W a0x R H0 := by kernel_rfl
theorem bits_OnesCount64.calls {a0x : Int} {R : Int → Heap → Prop} {H0 : Heap} (h : bits_OnesCount64.W a0x R H0) : bits_OnesCount64.C a0x H0 R :=
  (evF_sound progOk_ Tryd.func18 (by rw [bits_OnesCount64.eq]; exact h)).mono fun v H' h => by obtain ⟨x, hv, hk⟩ := xS_out h; exact ⟨x, hv, hk⟩

def bits_New.ann : Ann := { ord := fun i => bif Nat.beq i 14 then [0, 1, 2, 3, 4, 5, 6, 7, 8, 9, 10, 11] else bif Nat.beq i 15 then [0, 1, 2, 3, 4, 5, 6, 7] else [], loop := fun i => bif Nat.beq i 6 then some [(6, .one (.int .i64))] else bif Nat.beq i 10 then some [(7, .one (.int .i64))] else none, join := fun i => bif Nat.beq i 7 then some [] else bif Nat.beq i 11 then some [] else bif Nat.beq i 14 then some [] else bif Nat.beq i 16 then some [] else none }
/-- bracken.bits.New -/
def bits_New.W (a0l_p : Option Addr) (a0l_l a0l_c : Nat) (R : Option Addr → Int → Heap → Prop) (H0 : Heap) : Prop :=
  brW (decide ((4194304 : Int) < (a0l_l : Int))) (R (none) (7) H0) (letV (hnew H0 #[.slice none 0 0, .int .i64 (a0l_l : Int)] ty_bits_Bits) fun H1 : Heap =>
  letV (hnew H1 #[.int .u64 0, .int .i64 0] ty_bits_part) fun H2 : Heap => 
  JoinW (S := Unit) (fun J16 => 
  LoopW (S := (Int × Unit)) (fun L6 q6 H4 => (fun (k6 : Int) =>
  brW (decide (k6 ≤ (a0l_l : Int))) (
  JoinW (S := Unit) (fun J7 => (∃ u, hcell H4 ((⟨Array.size H1, 0, none⟩ : Addr).add 0) = some u) ∧ hfrozen H4 ((⟨Array.size H1, 0, none⟩ : Addr).add 0) = false ∧
  letV (hset H4 ((⟨Array.size H1, 0, none⟩ : Addr).add 0) (.int .u64 0)) fun H6 : Heap => 
  JoinW (S := Unit) (fun J14 => 
  LoopW (S := (Int × Unit)) (fun L10 q10 H8 => (fun (i7 : Int) =>
  brW (decide (i7 < (min (IntKind.i64.wrap (k6 + 64)) (a0l_l : Int)))) (
  JoinW (S := Unit) (fun J11 =>
  ∃ x34 : Addr, a0l_p = some x34 ∧ 0 ≤ i7 ∧ i7 < (a0l_l : Int) ∧
  ∃ x35 : Bool, hcell H8 (x34.add i7.toNat) = some (.bool x35) ∧
  brW x35 (∃ x37 : Int, hcell H8 ((⟨Array.size H1, 0, none⟩ : Addr).add 0) = some (.int .u64 x37) ∧ 0 ≤ (IntKind.u64.wrap (IntKind.i64.wrap (i7 - k6))) ∧ (∃ u, hcell H8 ((⟨Array.size H1, 0, none⟩ : Addr).add 0) = some u) ∧ hfrozen H8 ((⟨Array.size H1, 0, none⟩ : Addr).add 0) = false ∧
  letV (hset H8 ((⟨Array.size H1, 0, none⟩ : Addr).add 0) (.int .u64 (orW .u64 x37 (shlW .u64 1 (IntKind.u64.wrap (IntKind.i64.wrap (i7 - k6))))))) fun H10 : Heap => J11 () H10) (J11 () H8))
  (fun _ H9 =>
  letV (IntKind.i64.wrap (i7 + 1)) fun i7 : Int => L10 ((i7 : Int), ()) H9)) (J14 () H8)) q10.1) ((k6 : Int), ()) H6)
  (fun _ H7 =>
  ∃ x47 : Addr, some ⟨Array.size H0, 0, none⟩ = some x47 ∧
  ∃ (x49_p : Option Addr) (x49_l x49_c : Nat), hcell H7 (x47.add 0) = some (.slice x49_p x49_l x49_c) ∧
  ∃ x50_0 : Int, hcell H7 ((⟨Array.size H1, 0, none⟩ : Addr).add 0) = some (.int .u64 x50_0) ∧
  ∃ x50_1 : Int, hcell H7 ((⟨Array.size H1, 0, none⟩ : Addr).add 1) = some (.int .i64 x50_1) ∧
  letV (hnew H7 #[.iface ty_bits_part (.agg #[.int .u64 x50_0, .int .i64 x50_1])] ty_any) fun H11 : Heap => (∃ (x49s_p : Option Addr) (x49s_l x49s_c : Nat), hcell H11 (x47.add 0) = some (.slice x49s_p x49s_l x49s_c) ∧ (.slice x49s_p x49s_l x49s_c : Value) = .slice x49_p x49_l x49_c) ∧ appW ty_any 1 16 (.nilIface) x49_p x49_l x49_c (.slice (some ⟨Array.size H7, 0, none⟩) 1 1) H11 fun x53_p x53_l x53_c H12 =>
  ∃ x54 : Addr, some ⟨Array.size H0, 0, none⟩ = some x54 ∧ (∃ u, hcell H12 (x54.add 0) = some u) ∧ hfrozen H12 (x54.add 0) = false ∧
  letV (hset H12 (x54.add 0) (.slice x53_p x53_l x53_c)) fun H13 : Heap =>
  ∃ x57 : Int, hcell H13 ((⟨Array.size H1, 0, none⟩ : Addr).add 1) = some (.int .i64 x57) ∧
  ∃ x59 : Int, hcell H13 ((⟨Array.size H1, 0, none⟩ : Addr).add 0) = some (.int .u64 x59) ∧ bits_OnesCount64.C (x59) H13 fun x60 H14 => (∃ x57s : Int, hcell H14 ((⟨Array.size H1, 0, none⟩ : Addr).add 1) = some (.int .i64 x57s) ∧ (.int .i64 x57s : Value) = .int .i64 x57) ∧ (∃ u, hcell H14 ((⟨Array.size H1, 0, none⟩ : Addr).add 1) = some u) ∧ hfrozen H14 ((⟨Array.size H1, 0, none⟩ : Addr).add 1) = false ∧
  letV (hset H14 ((⟨Array.size H1, 0, none⟩ : Addr).add 1) (.int .i64 (IntKind.i64.wrap (x57 + x60)))) fun H15 : Heap => J7 () H15))
  (fun _ H5 =>
  letV (IntKind.i64.wrap (k6 + 64)) fun k6 : Int => L6 ((k6 : Int), ()) H5)) (J16 () H4)) q6.1) ((0 : Int), ()) H2)
  (fun _ H3 => R (some ⟨Array.size H0, 0, none⟩) (0) H3))
theorem bits_New.eq (a0l_p : Option Addr) (a0l_l a0l_c : Nat) (R : Option Addr → Int → Heap → Prop) (H0 : Heap) :
    evF Tryd.prog bits_New.ann Tryd.f8 [.slice a0l_p a0l_l a0l_c] (fun v H' => xT [.one .ptr, .one (.int .i64)] v fun r => R r.1 r.2.1 H') H0 = bits_New.W a0l_p a0l_l a0l_c R H0 := by kernel_rfl
theorem bits_New.calls {a0l_p : Option Addr} {a0l_l a0l_c : Nat} {R : Option Addr → Int → Heap → Prop} {H0 : Heap} (h : bits_New.W a0l_p a0l_l a0l_c R H0) : bits_New.C a0l_p a0l_l a0l_c H0 R :=
  (evF_sound progOk_ Tryd.func8 (by rw [bits_New.eq]; exact h)).mono fun v H' h => by obtain ⟨x, hv, hk⟩ := xT_out h; exact ⟨x.1, x.2.1, hv, hk⟩

def bits_Bits_Len.ann : Ann := { ord := fun _ => [], loop := fun _ => none, join := fun _ => none }
/-- (*bracken.bits.Bits).Len -/
def bits_Bits_Len.W (a0b : Option Addr) (R : Int → Heap → Prop) (H0 : Heap) : Prop :=
  brW (Option.isNone (a0b)) (R (0) H0) (∃ x6 : Addr, a0b = some x6 ∧
  ∃ x8 : Int, hcell H0 (x6.add 1) = some (.int .i64 x8) ∧ R (x8) H0)
theorem bits_Bits_Len.eq (a0b : Option Addr) (R : Int → Heap → Prop) (H0 : Heap) :
    evF Tryd.prog bits_Bits_Len.ann Tryd.f11 [.pointer a0b] (fun v H' => xS (.one (.int .i64)) v fun r => R r H') H0 = bits_Bits_Len.W a0b R H0 := by kernel_rfl
theorem bits_Bits_Len.calls {a0b : Option Addr} {R : Int → Heap → Prop} {H0 : Heap} (h : bits_Bits_Len.W a0b R H0) : bits_Bits_Len.C a0b H0 R :=
  (evF_sound progOk_ Tryd.func11 (by rw [bits_Bits_Len.eq]; exact h)).mono fun v H' h => by obtain ⟨x, hv, hk⟩ := xS_out h; exact ⟨x, hv, hk⟩

def bits_Bits_at.ann : Ann := { ord := fun _ => [], loop := fun _ => none, join := fun _ => none }
/-- (*bracken.bits.Bits).at -/
def bits_Bits_at.W (a0b : Option Addr) (a1k : Int) (R : Int → Int → Heap → Prop) (H0 : Heap) : Prop :=
  letV (hnew H0 #[.int .u64 0, .int .i64 0] ty_bits_part) fun H1 : Heap =>
  ∃ x9 : Addr, a0b = some x9 ∧
  ∃ (x11_p : Option Addr) (x11_l x11_c : Nat), hcell H1 (x9.add 0) = some (.slice x11_p x11_l x11_c) ∧
  ∃ x13 : Addr, x11_p = some x13 ∧ 0 ≤ a1k ∧ a1k < (x11_l : Int) ∧
  ∃ x14 : Value, hcell H1 (x13.add a1k.toNat) = some (x14) ∧
  ∃ x15_0 : Int, ∃ x15_1 : Int, ∃ x15ok : Bool, TaRel (x14) ty_bits_part (.agg #[.int .u64 x15_0, .int .i64 x15_1]) (.agg #[.int .u64 0, .int .i64 0]) x15ok ∧
  letV (hnew H1 #[.int .u64 0, .int .i64 0] ty_bits_part) fun H2 : Heap => (∃ u, hcell H2 ((⟨Array.size H1, 0, none⟩ : Addr).add 0) = some u) ∧ hfrozen H2 ((⟨Array.size H1, 0, none⟩ : Addr).add 0) = false ∧
  letV (hset H2 ((⟨Array.size H1, 0, none⟩ : Addr).add 0) (.int .u64 x15_0)) fun H4 : Heap => (∃ u, hcell H4 ((⟨Array.size H1, 0, none⟩ : Addr).add 1) = some u) ∧ hfrozen H4 ((⟨Array.size H1, 0, none⟩ : Addr).add 1) = false ∧
  letV (hset H4 ((⟨Array.size H1, 0, none⟩ : Addr).add 1) (.int .i64 x15_1)) fun H5 : Heap =>
  ∃ x18_0 : Int, hcell H5 ((⟨Array.size H1, 0, none⟩ : Addr).add 0) = some (.int .u64 x18_0) ∧
  ∃ x18_1 : Int, hcell H5 ((⟨Array.size H1, 0, none⟩ : Addr).add 1) = some (.int .i64 x18_1) ∧ (∃ u, hcell H5 ((⟨Array.size H0, 0, none⟩ : Addr).add 0) = some u) ∧ hfrozen H5 ((⟨Array.size H0, 0, none⟩ : Addr).add 0) = false ∧
  letV (hset H5 ((⟨Array.size H0, 0, none⟩ : Addr).add 0) (.int .u64 x18_0)) fun H7 : Heap => (∃ u, hcell H7 ((⟨Array.size H0, 0, none⟩ : Addr).add 1) = some u) ∧ hfrozen H7 ((⟨Array.size H0, 0, none⟩ : Addr).add 1) = false ∧
  letV (hset H7 ((⟨Array.size H0, 0, none⟩ : Addr).add 1) (.int .i64 x18_1)) fun H8 : Heap =>
  ∃ z_0 : Int, hcell H8 ((⟨Array.size H0, 0, none⟩ : Addr).add 0) = some (.int .u64 z_0) ∧
  ∃ z_1 : Int, hcell H8 ((⟨Array.size H0, 0, none⟩ : Addr).add 1) = some (.int .i64 z_1) ∧ R (z_0) (z_1) H8
theorem bits_Bits_at.eq (a0b : Option Addr) (a1k : Int) (R : Int → Int → Heap → Prop) (H0 : Heap) :
    evF Tryd.prog bits_Bits_at.ann Tryd.f19 [.pointer a0b, .int .i64 a1k] (fun v H' => xS (.agg [.int .u64, .int .i64]) v fun r => R r.1 r.2.1 H') H0 = bits_Bits_at.W a0b a1k R H0 := by kernel_rfl
theorem bits_Bits_at.calls {a0b : Option Addr} {a1k : Int} {R : Int → Int → Heap → Prop} {H0 : Heap} (h : bits_Bits_at.W a0b a1k R H0) : bits_Bits_at.C a0b a1k H0 R :=
  (evF_sound progOk_ Tryd.func19 (by rw [bits_Bits_at.eq]; exact h)).mono fun v H' h => by obtain ⟨x, hv, hk⟩ := xS_out h; exact ⟨x.1, x.2.1, hv, hk⟩

def bits_Bits_Get.ann : Ann := { ord := fun _ => [], loop := fun _ => none, join := fun i => bif Nat.beq i 2 then some [(13, .one .bool)] else bif Nat.beq i 3 then some [] else none }
/-- (*bracken.bits.Bits).Get -/
def bits_Bits_Get.W (a0b : Option Addr) (a1k : Int) (R : Bool → Int → Heap → Prop) (H0 : Heap) : Prop :=
  
  JoinW (S := Unit) (fun J3 => 
  JoinW (S := (Bool × Unit)) (fun J2 =>
  brW (decide (a1k < 0)) (J2 (true, ()) H0) (bits_Bits_Len.C (a0b) H0 fun x11 H3 => J2 (decide (x11 ≤ a1k), ()) H3))
  (fun s2 H2 => (fun (x13 : Bool) =>
  brW x13 (R false (4) H2) (J3 () H2)) s2.1))
  (fun _ H1 => (64 : Int) ≠ 0 ∧ bits_Bits_at.C (a0b) (IntKind.i64.wrap (Int.tdiv a1k 64)) H1 fun x17_0 x17_1 H4 => (64 : Int) ≠ 0 ∧ 0 ≤ (IntKind.u64.wrap (Int.tmod a1k 64)) ∧ R (decide ((andW .u64 (shrW .u64 x17_0 (IntKind.u64.wrap (Int.tmod a1k 64))) 1) = 1)) (0) H4)
theorem bits_Bits_Get.eq (a0b : Option Addr) (a1k : Int) (R : Bool → Int → Heap → Prop) (H0 : Heap) :
    evF Tryd.prog bits_Bits_Get.ann Tryd.f9 [.pointer a0b, .int .i64 a1k] (fun v H' => xT [.one .bool, .one (.int .i64)] v fun r => R r.1 r.2.1 H') H0 = bits_Bits_Get.W a0b a1k R H0 := by kernel_rfl
theorem bits_Bits_Get.calls {a0b : Option Addr} {a1k : Int} {R : Bool → Int → Heap → Prop} {H0 : Heap} (h : bits_Bits_Get.W a0b a1k R H0) : bits_Bits_Get.C a0b a1k H0 R :=
  (evF_sound progOk_ Tryd.func9 (by rw [bits_Bits_Get.eq]; exact h)).mono fun v H' h => by obtain ⟨x, hv, hk⟩ := xT_out h; exact ⟨x.1, x.2.1, hv, hk⟩

def bits_Bits_Rank.ann : Ann := { ord := fun i => bif Nat.beq i 5 then [0, 1, 2, 3, 4, 5, 6, 7, 8, 9, 10, 11, 12] else [], loop := fun _ => none, join := fun i => bif Nat.beq i 8 then some [(8, .one (.int .i64))] else none }
/-- (*bracken.bits.Bits).Rank -/
def bits_Bits_Rank.W (a0b : Option Addr) (a1k : Int) (a2bit : Bool) (R : Int → Heap → Prop) (H0 : Heap) : Prop :=
  bits_Bits_Len.C (a0b) H0 fun x12 H1 =>
  letV (min (max a1k 0) x12) fun k1 : Int =>
  brW (decide (k1 = 0)) (R (0) H1) ((64 : Int) ≠ 0 ∧ bits_Bits_at.C (a0b) (IntKind.i64.wrap (Int.tdiv k1 64)) H1 fun x19_0 x19_1 H2 =>
  letV (hnew H2 #[.int .u64 0, .int .i64 0] ty_bits_part) fun H3 : Heap => (∃ u, hcell H3 ((⟨Array.size H2, 0, none⟩ : Addr).add 0) = some u) ∧ hfrozen H3 ((⟨Array.size H2, 0, none⟩ : Addr).add 0) = false ∧
  letV (hset H3 ((⟨Array.size H2, 0, none⟩ : Addr).add 0) (.int .u64 x19_0)) fun H5 : Heap => (∃ u, hcell H5 ((⟨Array.size H2, 0, none⟩ : Addr).add 1) = some u) ∧ hfrozen H5 ((⟨Array.size H2, 0, none⟩ : Addr).add 1) = false ∧
  letV (hset H5 ((⟨Array.size H2, 0, none⟩ : Addr).add 1) (.int .i64 x19_1)) fun H6 : Heap =>
  ∃ x21 : Int, hcell H6 ((⟨Array.size H2, 0, none⟩ : Addr).add 1) = some (.int .i64 x21) ∧
  ∃ x23 : Int, hcell H6 ((⟨Array.size H2, 0, none⟩ : Addr).add 0) = some (.int .u64 x23) ∧ (64 : Int) ≠ 0 ∧ 0 ≤ (IntKind.u64.wrap (Int.tmod k1 64)) ∧ bits_OnesCount64.C (andW .u64 x23 (IntKind.u64.wrap ((shlW .u64 1 (IntKind.u64.wrap (Int.tmod k1 64))) - 1))) H6 fun x30 H7 => (∃ x21s : Int, hcell H7 ((⟨Array.size H2, 0, none⟩ : Addr).add 1) = some (.int .i64 x21s) ∧ (.int .i64 x21s : Value) = .int .i64 x21) ∧
  letV (IntKind.i64.wrap (x21 + x30)) fun n8 : Int => 
  JoinW (S := (Int × Unit)) (fun J8 =>
  brW (!a2bit) (letV (IntKind.i64.wrap (k1 - n8)) fun n8 : Int => J8 ((n8 : Int), ()) H7) (J8 ((n8 : Int), ()) H7))
  (fun s8 H8 => (fun (n8 : Int) => R (n8) H8) s8.1))
theorem bits_Bits_Rank.eq (a0b : Option Addr) (a1k : Int) (a2bit : Bool) (R : Int → Heap → Prop) (H0 : Heap) :
    evF Tryd.prog bits_Bits_Rank.ann Tryd.f12 [.pointer a0b, .int .i64 a1k, .bool a2bit] (fun v H' => xS (.one (.int .i64)) v fun r => R r H') H0 = bits_Bits_Rank.W a0b a1k a2bit R H0 := by kernel_rfl
theorem bits_Bits_Rank.calls {a0b : Option Addr} {a1k : Int} {a2bit : Bool} {R : Int → Heap → Prop} {H0 : Heap} (h : bits_Bits_Rank.W a0b a1k a2bit R H0) : bits_Bits_Rank.C a0b a1k a2bit H0 R :=
  (evF_sound progOk_ Tryd.func12 (by rw [bits_Bits_Rank.eq]; exact h)).mono fun v H' h => by obtain ⟨x, hv, hk⟩ := xS_out h; exact ⟨x, hv, hk⟩

def bits_TrailingZeros64.ann : Ann := { ord := fun _ => [], loop := fun _ => none, join := fun _ => none }
/-- math.bits.TrailingZeros64 -/
def bits_TrailingZeros64.W (a0x : Int) (R : Int → Heap → Prop) (H0 : Heap) : Prop :=
  brW (decide (a0x = 0)) (R (64) H0) (0 ≤ (58 : Int) ∧ 0 ≤ shrW .u64 (IntKind.u64.wrap ((andW .u64 a0x (IntKind.u64.wrap (0 - a0x))) * 285870213051353865)) 58 ∧ shrW .u64 (IntKind.u64.wrap ((andW .u64 a0x (IntKind.u64.wrap (0 - a0x))) * 285870213051353865)) 58 < ((64 : Nat) : Int) ∧
  ∃ x12 : Int, hcell H0 ((⟨gl_bits_deBruijn64tab, 0, none⟩ : Addr).add (mulSize (shrW .u64 (IntKind.u64.wrap ((andW .u64 a0x (IntKind.u64.wrap (0 - a0x))) * 285870213051353865)) 58).toNat 1)) = some (.int .u8 x12) ∧
  letV (IntKind.i64.wrap x12) fun x2 : Int => R (x2) H0)
theorem bits_TrailingZeros64.eq (a0x : Int) (R : Int → Heap → Prop) (H0 : Heap) :
    evF Tryd.prog bits_TrailingZeros64.ann Tryd.f20 [.int .u64 a0x] (fun v H' => xS (.one (.int .i64)) v fun r => R r H') H0 = bits_TrailingZeros64.W a0x R H0 := by kernel_rfl
theorem bits_TrailingZeros64.calls {a0x : Int} {R : Int → Heap → Prop} {H0 : Heap} (h : bits_TrailingZeros64.W a0x R H0) : bits_TrailingZeros64.C a0x H0 R :=
  (evF_sound progOk_ Tryd.func20 (by rw [bits_TrailingZeros64.eq]; exact h)).mono fun v H' h => by obtain ⟨x, hv, hk⟩ := xS_out h; exact ⟨x, hv, hk⟩

def bits_Bits_Select.ann : Ann := { ord := fun i => bif Nat.beq i 3 then [0, 1, 2, 3, 4, 5, 6, 7] else [], loop := fun i => bif Nat.beq i 4 then some [(7, .one (.int .i64)), (8, .one (.int .i64))] else bif Nat.beq i 13 then some [(10, .one (.int .u64)), (61, .one (.int .i64))] else none, join := fun i => bif Nat.beq i 2 then some [(21, .one .bool)] else bif Nat.beq i 3 then some [] else bif Nat.beq i 9 then some [(7, .one (.int .i64))] else bif Nat.beq i 12 then some [(10, .one (.int .u64))] else bif Nat.beq i 16 then some [(10, .one (.int .u64))] else none }
/-- (*bracken.bits.Bits).Select -/
def bits_Bits_Select.W (a0b : Option Addr) (a1j : Int) (a2bit : Bool) (R : Int → Heap → Prop) (H0 : Heap) : Prop :=
  
  JoinW (S := Unit) (fun J3 => 
  JoinW (S := (Bool × Unit)) (fun J2 =>
  brW (decide (a1j < 0)) (J2 (true, ()) H0) (bits_Bits_Len.C (a0b) H0 fun x17 H3 =>
  bits_Bits_Rank.C (a0b) (x17) (a2bit) H3 fun x19 H4 => J2 (decide (x19 ≤ a1j), ()) H4))
  (fun s2 H2 => (fun (x21 : Bool) =>
  brW x21 (R (-1) H2) (J3 () H2)) s2.1))
  (fun _ H1 =>
  ∃ x23 : Addr, a0b = some x23 ∧
  ∃ (x25_p : Option Addr) (x25_l x25_c : Nat), hcell H1 (x23.add 0) = some (.slice x25_p x25_l x25_c) ∧
  letV (IntKind.i64.wrap ((x25_l : Int) - 1)) fun hi8 : Int => 
  JoinW (S := (Int × Unit)) (fun J9 => 
  LoopW (S := (Int × Int × Unit)) (fun L4 q4 H6 => (fun (lo7 : Int) (hi8 : Int) =>
  brW (decide (lo7 < hi8)) ((2 : Int) ≠ 0 ∧
  letV (IntKind.i64.wrap (Int.tdiv (IntKind.i64.wrap ((IntKind.i64.wrap (lo7 + hi8)) + 1)) 2)) fun m9 : Int =>
  bits_Bits_Rank.C (a0b) (IntKind.i64.wrap (m9 * 64)) (a2bit) H6 fun x40 H7 =>
  brW (decide (x40 ≤ a1j)) (L4 ((m9 : Int), (hi8 : Int), ()) H7) (letV (IntKind.i64.wrap (m9 - 1)) fun hi8 : Int => L4 ((lo7 : Int), (hi8 : Int), ()) H7)) (J9 ((lo7 : Int), ()) H6)) q4.1 q4.2.1) ((0 : Int), (hi8 : Int), ()) H1)
  (fun s9 H5 => (fun (lo7 : Int) =>
  bits_Bits_at.C (a0b) (lo7) H5 fun x48_0 x48_1 H8 => 
  JoinW (S := (Int × Unit)) (fun J12 =>
  brW (!a2bit) (letV (notW .u64 x48_0) fun w10 : Int => J12 ((w10 : Int), ()) H8) (J12 ((x48_0 : Int), ()) H8))
  (fun s12 H9 => (fun (w10 : Int) => 
  JoinW (S := (Int × Unit)) (fun J16 =>
  bits_Bits_Rank.C (a0b) (IntKind.i64.wrap (lo7 * 64)) (a2bit) H9 fun x59 H11 => 
  LoopW (S := (Int × Int × Unit)) (fun L13 q13 H12 => (fun (w10 : Int) (x61 : Int) =>
  brW (decide (x61 < (IntKind.i64.wrap (a1j - x59)))) (letV (andW .u64 w10 (IntKind.u64.wrap (w10 - 1))) fun w10 : Int => L13 ((w10 : Int), (IntKind.i64.wrap (x61 + 1) : Int), ()) H12) (J16 ((w10 : Int), ()) H12)) q13.1 q13.2.1) ((w10 : Int), (0 : Int), ()) H11)
  (fun s16 H10 => (fun (w10 : Int) =>
  bits_TrailingZeros64.C (w10) H10 fun x71 H13 =>
  letV (IntKind.i64.wrap ((IntKind.i64.wrap (lo7 * 64)) + x71)) fun x6 : Int => R (x6) H13) s16.1)) s12.1)) s9.1))
theorem bits_Bits_Select.eq (a0b : Option Addr) (a1j : Int) (a2bit : Bool) (R : Int → Heap → Prop) (H0 : Heap) :
    evF Tryd.prog bits_Bits_Select.ann Tryd.f14 [.pointer a0b, .int .i64 a1j, .bool a2bit] (fun v H' => xS (.one (.int .i64)) v fun r => R r H') H0 = bits_Bits_Select.W a0b a1j a2bit R H0 := by kernel_rfl
theorem bits_Bits_Select.calls {a0b : Option Addr} {a1j : Int} {a2bit : Bool} {R : Int → Heap → Prop} {H0 : Heap} (h : bits_Bits_Select.W a0b a1j a2bit R H0) : bits_Bits_Select.C a0b a1j a2bit H0 R :=
  (evF_sound progOk_ Tryd.func14 (by rw [bits_Bits_Select.eq]; exact h)).mono fun v H' h => by obtain ⟨x, hv, hk⟩ := xS_out h; exact ⟨x, hv, hk⟩

def bits_Bound.ann : Ann := { ord := fun _ => [], loop := fun _ => none, join := fun _ => none }
/-- bracken.bits.Bound -/
def bits_Bound.W (a0n : Int) (R : Int → Heap → Prop) (H0 : Heap) : Prop :=
  (64 : Int) ≠ 0 ∧ (512 : Int) ≠ 0 ∧
  letV (IntKind.i64.wrap ((IntKind.i64.wrap (80 * (IntKind.i64.wrap (Int.tdiv (IntKind.i64.wrap ((IntKind.i64.wrap (a0n + 64)) - 1)) 64)))) + (IntKind.i64.wrap (32 * (IntKind.i64.wrap (Int.tdiv (IntKind.i64.wrap ((IntKind.i64.wrap (a0n + 512)) - 1)) 512)))))) fun x2 : Int => R (x2) H0
theorem bits_Bound.eq (a0n : Int) (R : Int → Heap → Prop) (H0 : Heap) :
    evF Tryd.prog bits_Bound.ann Tryd.f21 [.int .i64 a0n] (fun v H' => xS (.one (.int .i64)) v fun r => R r H') H0 = bits_Bound.W a0n R H0 := by kernel_rfl
theorem bits_Bound.calls {a0n : Int} {R : Int → Heap → Prop} {H0 : Heap} (h : bits_Bound.W a0n R H0) : bits_Bound.C a0n H0 R :=
  (evF_sound progOk_ Tryd.func21 (by rw [bits_Bound.eq]; exact h)).mono fun v H' h => by obtain ⟨x, hv, hk⟩ := xS_out h; exact ⟨x, hv, hk⟩

def bits_Bits_Size.ann : Ann := { ord := fun _ => [], loop := fun _ => none, join := fun _ => none }
/-- (*bracken.bits.Bits).Size -/
def bits_Bits_Size.W (a0b : Option Addr) (R : Int → Heap → Prop) (H0 : Heap) : Prop :=
  bits_Bits_Len.C (a0b) H0 fun x4 H1 =>
  bits_Bound.C (x4) H1 fun x5 H2 => R (x5) H2
theorem bits_Bits_Size.eq (a0b : Option Addr) (R : Int → Heap → Prop) (H0 : Heap) :
    evF Tryd.prog bits_Bits_Size.ann Tryd.f16 [.pointer a0b] (fun v H' => xS (.one (.int .i64)) v fun r => R r H') H0 = bits_Bits_Size.W a0b R H0 := by kernel_rfl
theorem bits_Bits_Size.calls {a0b : Option Addr} {R : Int → Heap → Prop} {H0 : Heap} (h : bits_Bits_Size.W a0b R H0) : bits_Bits_Size.C a0b H0 R :=
  (evF_sound progOk_ Tryd.func16 (by rw [bits_Bits_Size.eq]; exact h)).mono fun v H' h => by obtain ⟨x, hv, hk⟩ := xS_out h; exact ⟨x, hv, hk⟩

def brackenlaw3_told.ann : Ann := { ord := fun _ => [], loop := fun _ => none, join := fun i => bif Nat.beq i 3 then some [(18, .one .bool)] else bif Nat.beq i 4 then some [] else none }
/-- bracken.brackenlaw3.told -/
def brackenlaw3_told.W  (R : Bool → Heap → Prop) (H0 : Heap) : Prop :=
  letV (hnew H0 #[.bool true, .bool false, .bool true] ty_bool) fun H1 : Heap =>
  bits_New.C (some ⟨Array.size H0, 0, none⟩) 3 3 H1 fun x10_0 x10_1 H2 => 
  JoinW (S := Unit) (fun J4 => 
  JoinW (S := (Bool × Unit)) (fun J3 =>
  brW (decide (x10_1 ≠ 0)) (J3 (true, ()) H2) (J3 (Option.isNone (x10_0), ()) H2))
  (fun s3 H4 => (fun (x18 : Bool) =>
  brW x18 (R false H4) (J4 () H4)) s3.1))
  (fun _ H3 =>
  bits_Bits_Get.C (x10_0) (3) H3 fun x21_0 x21_1 H5 => 0 ≤ (65 : Int) ∧ (65 : Int) ≤ 65 ∧ ((1 : Nat) : Int) * 65 ≤ 281474976710656 ∧
  letV (hnew H5 (zerosOf (.bool false) ((65 : Int).toNat)) ty_bool) fun H6 : Heap =>
  bits_New.C (some ⟨Array.size H5, 0, none⟩) ((65 : Int).toNat) ((65 : Int).toNat) H6 fun x26_0 x26_1 H7 =>
  brW (decide (x21_1 = 4)) (bits_Bits_Rank.C (x10_0) (2) true H7 fun x33 H8 =>
  brW (decide (x33 = 1)) (bits_Bits_Rank.C (x10_0) (9) false H8 fun x38 H9 =>
  brW (decide (x38 = 1)) (bits_Bits_Rank.C (x10_0) (-1) true H9 fun x43 H10 =>
  brW (decide (x43 = 0)) (bits_Bits_Select.C (x10_0) (1) true H10 fun x48 H11 =>
  brW (decide (x48 = 2)) (bits_Bits_Select.C (x10_0) (1) false H11 fun x53 H12 =>
  brW (decide (x53 = (-1))) (brW (decide (x26_1 = 0)) (bits_Bits_Size.C (x26_0) H12 fun x62 H13 =>
  brW (decide (x62 = 192)) (bits_Bits_Len.C (none) H13 fun x67 H14 =>
  brW (decide (x67 = 0)) (bits_Bits_Select.C (none) (0) true H14 fun x72 H15 => R (decide (x72 = (-1))) H15) (R false H14)) (R false H13)) (R false H12)) (R false H12)) (R false H11)) (R false H10)) (R false H9)) (R false H8)) (R false H7))
theorem brackenlaw3_told.eq  (R : Bool → Heap → Prop) (H0 : Heap) :
    evF Tryd.prog brackenlaw3_told.ann Tryd.f10 [] (fun v H' => xS (.one .bool) v fun r => R r H') H0 = brackenlaw3_told.W  R H0 := by kernel_rfl
theorem brackenlaw3_told.calls  {R : Bool → Heap → Prop} {H0 : Heap} (h : brackenlaw3_told.W  R H0) : brackenlaw3_told.C  H0 R :=
  (evF_sound progOk_ Tryd.func10 (by rw [brackenlaw3_told.eq]; exact h)).mono fun v H' h => by obtain ⟨x, hv, hk⟩ := xS_out h; exact ⟨x, hv, hk⟩

def brackenref1_Rank.ann : Ann := { ord := fun _ => [], loop := fun i => bif Nat.beq i 3 then some [(7, .one (.int .i64)), (8, .one (.int .i64))] else none, join := fun i => bif Nat.beq i 4 then some [(7, .one (.int .i64))] else bif Nat.beq i 5 then some [] else bif Nat.beq i 7 then some [(7, .one (.int .i64))] else none }
/-- bracken.brackenref1.Rank -/
def brackenref1_Rank.W (a0l_p : Option Addr) (a0l_l a0l_c : Nat) (a1k : Int) (a2bit : Bool) (R : Int → Heap → Prop) (H0 : Heap) : Prop :=
  
  JoinW (S := (Int × Unit)) (fun J7 => 
  LoopW (S := (Int × Int × Unit)) (fun L3 q3 H2 => (fun (n7 : Int) (i8 : Int) => 
  JoinW (S := Unit) (fun J5 =>
  brW (decide (i8 < a1k)) (brW (decide (i8 < (a0l_l : Int))) (J5 () H2) (J7 ((n7 : Int), ()) H2)) (J7 ((n7 : Int), ()) H2))
  (fun _ H3 => 
  JoinW (S := (Int × Unit)) (fun J4 =>
  ∃ x22 : Addr, a0l_p = some x22 ∧ 0 ≤ i8 ∧ i8 < (a0l_l : Int) ∧
  ∃ x23 : Bool, hcell H3 (x22.add i8.toNat) = some (.bool x23) ∧
  brW (decide (x23 = a2bit)) (letV (IntKind.i64.wrap (n7 + 1)) fun n7 : Int => J4 ((n7 : Int), ()) H3) (J4 ((n7 : Int), ()) H3))
  (fun s4 H4 => (fun (n7 : Int) =>
  letV (IntKind.i64.wrap (i8 + 1)) fun i8 : Int => L3 ((n7 : Int), (i8 : Int), ()) H4) s4.1))) q3.1 q3.2.1) ((0 : Int), (0 : Int), ()) H0)
  (fun s7 H1 => (fun (n7 : Int) => R (n7) H1) s7.1)
theorem brackenref1_Rank.eq (a0l_p : Option Addr) (a0l_l a0l_c : Nat) (a1k : Int) (a2bit : Bool) (R : Int → Heap → Prop) (H0 : Heap) :
    evF Tryd.prog brackenref1_Rank.ann Tryd.f13 [.slice a0l_p a0l_l a0l_c, .int .i64 a1k, .bool a2bit] (fun v H' => xS (.one (.int .i64)) v fun r => R r H') H0 = brackenref1_Rank.W a0l_p a0l_l a0l_c a1k a2bit R H0 := by kernel_rfl
theorem brackenref1_Rank.calls {a0l_p : Option Addr} {a0l_l a0l_c : Nat} {a1k : Int} {a2bit : Bool} {R : Int → Heap → Prop} {H0 : Heap} (h : brackenref1_Rank.W a0l_p a0l_l a0l_c a1k a2bit R H0) : brackenref1_Rank.C a0l_p a0l_l a0l_c a1k a2bit H0 R :=
  (evF_sound progOk_ Tryd.func13 (by rw [brackenref1_Rank.eq]; exact h)).mono fun v H' h => by obtain ⟨x, hv, hk⟩ := xS_out h; exact ⟨x, hv, hk⟩

def brackenref1_Select.ann : Ann := { ord := fun _ => [], loop := fun i => bif Nat.beq i 3 then some [(7, .one (.int .i64)), (8, .one (.int .i64))] else none, join := fun i => bif Nat.beq i 4 then some [(7, .one (.int .i64))] else bif Nat.beq i 9 then some [] else none }
/-- bracken.brackenref1.Select -/
def brackenref1_Select.W (a0l_p : Option Addr) (a0l_l a0l_c : Nat) (a1j : Int) (a2bit : Bool) (R : Int → Heap → Prop) (H0 : Heap) : Prop :=
  
  JoinW (S := Unit) (fun J9 => 
  LoopW (S := (Int × Int × Unit)) (fun L3 q3 H2 => (fun (n7 : Int) (i8 : Int) =>
  brW (decide (i8 < (a0l_l : Int))) (
  JoinW (S := (Int × Unit)) (fun J4 =>
  ∃ x17 : Addr, a0l_p = some x17 ∧ 0 ≤ i8 ∧ i8 < (a0l_l : Int) ∧
  ∃ x18 : Bool, hcell H2 (x17.add i8.toNat) = some (.bool x18) ∧
  brW (decide (x18 = a2bit)) (brW (decide (n7 = a1j)) (R (i8) H2) (letV (IntKind.i64.wrap (n7 + 1)) fun n7 : Int => J4 ((n7 : Int), ()) H2)) (J4 ((n7 : Int), ()) H2))
  (fun s4 H3 => (fun (n7 : Int) =>
  letV (IntKind.i64.wrap (i8 + 1)) fun i8 : Int => L3 ((n7 : Int), (i8 : Int), ()) H3) s4.1)) (J9 () H2)) q3.1 q3.2.1) ((0 : Int), (0 : Int), ()) H0)
  (fun _ H1 => R (-1) H1)
theorem brackenref1_Select.eq (a0l_p : Option Addr) (a0l_l a0l_c : Nat) (a1j : Int) (a2bit : Bool) (R : Int → Heap → Prop) (H0 : Heap) :
    evF Tryd.prog brackenref1_Select.ann Tryd.f15 [.slice a0l_p a0l_l a0l_c, .int .i64 a1j, .bool a2bit] (fun v H' => xS (.one (.int .i64)) v fun r => R r H') H0 = brackenref1_Select.W a0l_p a0l_l a0l_c a1j a2bit R H0 := by kernel_rfl
theorem brackenref1_Select.calls {a0l_p : Option Addr} {a0l_l a0l_c : Nat} {a1j : Int} {a2bit : Bool} {R : Int → Heap → Prop} {H0 : Heap} (h : brackenref1_Select.W a0l_p a0l_l a0l_c a1j a2bit R H0) : brackenref1_Select.C a0l_p a0l_l a0l_c a1j a2bit H0 R :=
  (evF_sound progOk_ Tryd.func15 (by rw [brackenref1_Select.eq]; exact h)).mono fun v H' h => by obtain ⟨x, hv, hk⟩ := xS_out h; exact ⟨x, hv, hk⟩

def brackenref1_begun.ann : Ann := { ord := fun _ => [], loop := fun _ => none, join := fun _ => none }
/-- bracken.brackenref1.begun -/
def brackenref1_begun.W (a0n : Int) (a1by : Int) (R : Int → Heap → Prop) (H0 : Heap) : Prop :=
  a1by ≠ 0 ∧
  letV (IntKind.i64.wrap (Int.tdiv (IntKind.i64.wrap ((IntKind.i64.wrap (a0n + a1by)) - 1)) a1by)) fun x4 : Int => R (x4) H0
theorem brackenref1_begun.eq (a0n : Int) (a1by : Int) (R : Int → Heap → Prop) (H0 : Heap) :
    evF Tryd.prog brackenref1_begun.ann Tryd.f22 [.int .i64 a0n, .int .i64 a1by] (fun v H' => xS (.one (.int .i64)) v fun r => R r H') H0 = brackenref1_begun.W a0n a1by R H0 := by kernel_rfl
theorem brackenref1_begun.calls {a0n : Int} {a1by : Int} {R : Int → Heap → Prop} {H0 : Heap} (h : brackenref1_begun.W a0n a1by R H0) : brackenref1_begun.C a0n a1by H0 R :=
  (evF_sound progOk_ Tryd.func22 (by rw [brackenref1_begun.eq]; exact h)).mono fun v H' h => by obtain ⟨x, hv, hk⟩ := xS_out h; exact ⟨x, hv, hk⟩

def brackenref1_BitsSize.ann : Ann := { ord := fun _ => [], loop := fun _ => none, join := fun _ => none }
/-- bracken.brackenref1.BitsSize -/
def brackenref1_BitsSize.W (a0n : Int) (R : Int → Heap → Prop) (H0 : Heap) : Prop :=
  brackenref1_begun.C (a0n) (64) H0 fun x4 H1 =>
  brackenref1_begun.C (a0n) (512) H1 fun x7 H2 =>
  brackenref1_begun.C (a0n) (64) H2 fun x11 H3 =>
  letV (IntKind.i64.wrap ((IntKind.i64.wrap ((IntKind.i64.wrap (64 * x4)) + (IntKind.i64.wrap (32 * x7)))) + (IntKind.i64.wrap (16 * x11)))) fun x2 : Int => R (x2) H3
theorem brackenref1_BitsSize.eq (a0n : Int) (R : Int → Heap → Prop) (H0 : Heap) :
    evF Tryd.prog brackenref1_BitsSize.ann Tryd.f17 [.int .i64 a0n] (fun v H' => xS (.one (.int .i64)) v fun r => R r H') H0 = brackenref1_BitsSize.W a0n R H0 := by kernel_rfl
theorem brackenref1_BitsSize.calls {a0n : Int} {R : Int → Heap → Prop} {H0 : Heap} (h : brackenref1_BitsSize.W a0n R H0) : brackenref1_BitsSize.C a0n H0 R :=
  (evF_sound progOk_ Tryd.func17 (by rw [brackenref1_BitsSize.eq]; exact h)).mono fun v H' h => by obtain ⟨x, hv, hk⟩ := xS_out h; exact ⟨x, hv, hk⟩

def brackenlaw3_BitsAsks.ann : Ann := { ord := fun _ => [], loop := fun _ => none, join := fun i => bif Nat.beq i 4 then some [(25, .one .bool)] else bif Nat.beq i 5 then some [] else bif Nat.beq i 7 then some [(12, .one .bool)] else none }
/-- bracken.brackenlaw3.BitsAsks -/
def brackenlaw3_BitsAsks.W (a0l_p : Option Addr) (a0l_l a0l_c : Nat) (a1k : Int) (a2bit : Bool) (R : Bool → Heap → Prop) (H0 : Heap) : Prop :=
  brackenlaw3_Row.C (a0l_p) a0l_l a0l_c (1500) H0 fun x14_p x14_l x14_c H1 =>
  bits_New.C (x14_p) x14_l x14_c H1 fun x17_0 x17_1 H2 => 
  JoinW (S := Unit) (fun J5 => 
  JoinW (S := (Bool × Unit)) (fun J4 =>
  brW (decide (x17_1 ≠ 0)) (J4 (true, ()) H2) (J4 (Option.isNone (x17_0), ()) H2))
  (fun s4 H4 => (fun (x25 : Bool) =>
  brW x25 (R false H4) (J5 () H4)) s4.1))
  (fun _ H3 =>
  bits_Bits_Get.C (x17_0) (a1k) H3 fun x29_0 x29_1 H5 => 
  JoinW (S := (Bool × Unit)) (fun J7 =>
  brW (decide ((0 : Int) ≤ a1k)) (J7 (decide (a1k < (x14_l : Int)), ()) H5) (J7 (false, ()) H5))
  (fun s7 H6 => (fun (in12 : Bool) =>
  brackenlaw3_told.C  H6 fun x40 H7 =>
  brW x40 (bits_Bits_Len.C (x17_0) H7 fun x43 H8 =>
  brW (decide (x43 = (x14_l : Int))) (brW (decide ((decide (x29_1 = 0)) = in12)) (brW (decide (x29_1 = 0)) (brW (!in12) (bits_Bits_Rank.C (x17_0) (a1k) (a2bit) H8 fun x82 H9 =>
  brackenref1_Rank.C (x14_p) x14_l x14_c (a1k) (a2bit) H9 fun x86 H10 =>
  brW (decide (x82 = x86)) (bits_Bits_Select.C (x17_0) (a1k) (a2bit) H10 fun x93 H11 =>
  brackenref1_Select.C (x14_p) x14_l x14_c (a1k) (a2bit) H11 fun x97 H12 =>
  brW (decide (x93 = x97)) (bits_Bits_Size.C (x17_0) H12 fun x102 H13 =>
  brackenref1_BitsSize.C ((x14_l : Int)) H13 fun x105 H14 => R (decide (x102 = x105)) H14) (R false H12)) (R false H10)) (∃ x73 : Addr, x14_p = some x73 ∧ 0 ≤ a1k ∧ a1k < (x14_l : Int) ∧
  ∃ x74 : Bool, hcell H8 (x73.add a1k.toNat) = some (.bool x74) ∧
  brW (decide (x29_0 = x74)) (bits_Bits_Rank.C (x17_0) (a1k) (a2bit) H8 fun x82 H15 =>
  brackenref1_Rank.C (x14_p) x14_l x14_c (a1k) (a2bit) H15 fun x86 H16 =>
  brW (decide (x82 = x86)) (bits_Bits_Select.C (x17_0) (a1k) (a2bit) H16 fun x93 H17 =>
  brackenref1_Select.C (x14_p) x14_l x14_c (a1k) (a2bit) H17 fun x97 H18 =>
  brW (decide (x93 = x97)) (bits_Bits_Size.C (x17_0) H18 fun x102 H19 =>
  brackenref1_BitsSize.C ((x14_l : Int)) H19 fun x105 H20 => R (decide (x102 = x105)) H20) (R false H18)) (R false H16)) (R false H8))) (brW (decide (x29_1 = 4)) (brW (!x29_0) (brW (!in12) (bits_Bits_Rank.C (x17_0) (a1k) (a2bit) H8 fun x82 H21 =>
  brackenref1_Rank.C (x14_p) x14_l x14_c (a1k) (a2bit) H21 fun x86 H22 =>
  brW (decide (x82 = x86)) (bits_Bits_Select.C (x17_0) (a1k) (a2bit) H22 fun x93 H23 =>
  brackenref1_Select.C (x14_p) x14_l x14_c (a1k) (a2bit) H23 fun x97 H24 =>
  brW (decide (x93 = x97)) (bits_Bits_Size.C (x17_0) H24 fun x102 H25 =>
  brackenref1_BitsSize.C ((x14_l : Int)) H25 fun x105 H26 => R (decide (x102 = x105)) H26) (R false H24)) (R false H22)) (∃ x73 : Addr, x14_p = some x73 ∧ 0 ≤ a1k ∧ a1k < (x14_l : Int) ∧
  ∃ x74 : Bool, hcell H8 (x73.add a1k.toNat) = some (.bool x74) ∧
  brW (decide (x29_0 = x74)) (bits_Bits_Rank.C (x17_0) (a1k) (a2bit) H8 fun x82 H27 =>
  brackenref1_Rank.C (x14_p) x14_l x14_c (a1k) (a2bit) H27 fun x86 H28 =>
  brW (decide (x82 = x86)) (bits_Bits_Select.C (x17_0) (a1k) (a2bit) H28 fun x93 H29 =>
  brackenref1_Select.C (x14_p) x14_l x14_c (a1k) (a2bit) H29 fun x97 H30 =>
  brW (decide (x93 = x97)) (bits_Bits_Size.C (x17_0) H30 fun x102 H31 =>
  brackenref1_BitsSize.C ((x14_l : Int)) H31 fun x105 H32 => R (decide (x102 = x105)) H32) (R false H30)) (R false H28)) (R false H8))) (R false H8)) (R false H8))) (R false H8)) (R false H8)) (R false H7)) s7.1))
theorem brackenlaw3_BitsAsks.eq (a0l_p : Option Addr) (a0l_l a0l_c : Nat) (a1k : Int) (a2bit : Bool) (R : Bool → Heap → Prop) (H0 : Heap) :
    evF Tryd.prog brackenlaw3_BitsAsks.ann Tryd.f3 [.slice a0l_p a0l_l a0l_c, .int .i64 a1k, .bool a2bit] (fun v H' => xS (.one .bool) v fun r => R r H') H0 = brackenlaw3_BitsAsks.W a0l_p a0l_l a0l_c a1k a2bit R H0 := by kernel_rfl
theorem brackenlaw3_BitsAsks.calls {a0l_p : Option Addr} {a0l_l a0l_c : Nat} {a1k : Int} {a2bit : Bool} {R : Bool → Heap → Prop} {H0 : Heap} (h : brackenlaw3_BitsAsks.W a0l_p a0l_l a0l_c a1k a2bit R H0) : brackenlaw3_BitsAsks.C a0l_p a0l_l a0l_c a1k a2bit H0 R :=
  (evF_sound progOk_ Tryd.func3 (by rw [brackenlaw3_BitsAsks.eq]; exact h)).mono fun v H' h => by obtain ⟨x, hv, hk⟩ := xS_out h; exact ⟨x, hv, hk⟩

def brackenlaw3_BitsPlaces.ann : Ann := { ord := fun _ => [], loop := fun i => bif Nat.beq i 6 then some [(8, .one (.int .i64))] else none, join := fun i => bif Nat.beq i 4 then some [(24, .one .bool)] else bif Nat.beq i 5 then some [] else bif Nat.beq i 7 then some [] else bif Nat.beq i 8 then some [] else bif Nat.beq i 11 then some [(85, .one .bool)] else bif Nat.beq i 12 then some [] else none }
/-- bracken.brackenlaw3.BitsPlaces -/
def brackenlaw3_BitsPlaces.W (a0l_p : Option Addr) (a0l_l a0l_c : Nat) (a1from : Int) (R : Bool → Heap → Prop) (H0 : Heap) : Prop :=
  brackenlaw3_Row.C (a0l_p) a0l_l a0l_c (1500) H0 fun x13_p x13_l x13_c H1 =>
  bits_New.C (x13_p) x13_l x13_c H1 fun x16_0 x16_1 H2 => 
  JoinW (S := Unit) (fun J5 => 
  JoinW (S := (Bool × Unit)) (fun J4 =>
  brW (decide (x16_1 ≠ 0)) (J4 (true, ()) H2) (J4 (Option.isNone (x16_0), ()) H2))
  (fun s4 H4 => (fun (x24 : Bool) =>
  brW x24 (R false H4) (J5 () H4)) s4.1))
  (fun _ H3 => 
  JoinW (S := Unit) (fun J12 => 
  LoopW (S := (Int × Unit)) (fun L6 q6 H6 => (fun (i8 : Int) => 
  JoinW (S := Unit) (fun J8 =>
  brW (decide (i8 < (x13_l : Int))) (brW (decide (i8 < 60)) (J8 () H6) (J12 () H6)) (J12 () H6))
  (fun _ H7 => 
  JoinW (S := Unit) (fun J7 => (1500 : Int) ≠ 0 ∧ (x13_l : Int) ≠ 0 ∧
  letV (Int.tmod (IntKind.i64.wrap (IntKind.u64.wrap ((Int.tmod (IntKind.u64.wrap a1from) 1500) + (IntKind.u64.wrap ((IntKind.u64.wrap i8) * 23))))) (x13_l : Int)) fun k9 : Int =>
  ∃ x50 : Addr, x13_p = some x50 ∧ 0 ≤ k9 ∧ k9 < (x13_l : Int) ∧
  ∃ x51 : Bool, hcell H7 (x50.add k9.toNat) = some (.bool x51) ∧ bits_Bits_Rank.C (x16_0) (k9) (x51) H7 fun x52 H9 => 
  JoinW (S := (Bool × Unit)) (fun J11 =>
  ∃ x57 : Addr, x13_p = some x57 ∧ 0 ≤ k9 ∧ k9 < (x13_l : Int) ∧
  ∃ x58 : Bool, hcell H9 (x57.add k9.toNat) = some (.bool x58) ∧ bits_Bits_Select.C (x16_0) (x52) (x58) H9 fun x59 H11 =>
  brW (decide (x59 ≠ k9)) (J11 (true, ()) H11) (∃ x68 : Addr, x13_p = some x68 ∧ 0 ≤ k9 ∧ k9 < (x13_l : Int) ∧
  ∃ x69 : Bool, hcell H11 (x68.add k9.toNat) = some (.bool x69) ∧ bits_Bits_Rank.C (x16_0) (IntKind.i64.wrap (k9 + 1)) (x69) H11 fun x70 H12 =>
  brW (decide (x70 ≠ (IntKind.i64.wrap (x52 + 1)))) (J11 (true, ()) H12) (bits_Bits_Rank.C (x16_0) (k9) true H12 fun x78 H13 =>
  bits_Bits_Rank.C (x16_0) (k9) false H13 fun x81 H14 => J11 (decide ((IntKind.i64.wrap (x78 + x81)) ≠ k9), ()) H14)))
  (fun s11 H10 => (fun (x85 : Bool) =>
  brW x85 (R false H10) (J7 () H10)) s11.1))
  (fun _ H8 =>
  letV (IntKind.i64.wrap (i8 + 1)) fun i8 : Int => L6 ((i8 : Int), ()) H8))) q6.1) ((0 : Int), ()) H3)
  (fun _ H5 =>
  bits_Bits_Rank.C (x16_0) ((x13_l : Int)) true H5 fun x89 H15 =>
  brackenlaw3_told.C  H15 fun x90 H16 =>
  brW x90 (bits_Bits_Select.C (x16_0) (x89) true H16 fun x94 H17 =>
  brW (decide (x94 = (-1))) (bits_Bits_Select.C (x16_0) (IntKind.i64.wrap ((x13_l : Int) - x89)) false H17 fun x103 H18 =>
  brW (decide (x103 = (-1))) (bits_Bits_Select.C (x16_0) (-1) true H18 fun x108 H19 => R (decide (x108 = (-1))) H19) (R false H18)) (R false H17)) (R false H16)))
theorem brackenlaw3_BitsPlaces.eq (a0l_p : Option Addr) (a0l_l a0l_c : Nat) (a1from : Int) (R : Bool → Heap → Prop) (H0 : Heap) :
    evF Tryd.prog brackenlaw3_BitsPlaces.ann Tryd.f4 [.slice a0l_p a0l_l a0l_c, .int .i64 a1from] (fun v H' => xS (.one .bool) v fun r => R r H') H0 = brackenlaw3_BitsPlaces.W a0l_p a0l_l a0l_c a1from R H0 := by kernel_rfl
theorem brackenlaw3_BitsPlaces.calls {a0l_p : Option Addr} {a0l_l a0l_c : Nat} {a1from : Int} {R : Bool → Heap → Prop} {H0 : Heap} (h : brackenlaw3_BitsPlaces.W a0l_p a0l_l a0l_c a1from R H0) : brackenlaw3_BitsPlaces.C a0l_p a0l_l a0l_c a1from H0 R :=
  (evF_sound progOk_ Tryd.func4 (by rw [brackenlaw3_BitsPlaces.eq]; exact h)).mono fun v H' h => by obtain ⟨x, hv, hk⟩ := xS_out h; exact ⟨x, hv, hk⟩

def brackenlaw3_BitsSizes.ann : Ann := { ord := fun _ => [], loop := fun _ => none, join := fun i => bif Nat.beq i 4 then some [(5, .one (.int .i64)), (6, .one (.int .i64))] else bif Nat.beq i 7 then some [(49, .one .bool)] else bif Nat.beq i 8 then some [] else none }
/-- bracken.brackenlaw3.BitsSizes -/
def brackenlaw3_BitsSizes.W (a0a : Int) (a1b : Int) (R : Bool → Heap → Prop) (H0 : Heap) : Prop :=
  (4001 : Int) ≠ 0 ∧ (4001 : Int) ≠ 0 ∧
  letV (IntKind.i64.wrap (Int.tmod (IntKind.u64.wrap a0a) 4001)) fun x5 : Int =>
  letV (IntKind.i64.wrap (Int.tmod (IntKind.u64.wrap a1b) 4001)) fun y6 : Int => 
  JoinW (S := (Int × Int × Unit)) (fun J4 =>
  brW (decide (y6 < x5)) (J4 ((y6 : Int), (x5 : Int), ()) H0) (J4 ((x5 : Int), (y6 : Int), ()) H0))
  (fun s4 H1 => (fun (x5 : Int) (y6 : Int) => 0 ≤ x5 ∧ x5 ≤ x5 ∧ ((1 : Nat) : Int) * x5 ≤ 281474976710656 ∧
  letV (hnew H1 (zerosOf (.bool false) x5.toNat) ty_bool) fun H2 : Heap =>
  bits_New.C (some ⟨Array.size H1, 0, none⟩) x5.toNat x5.toNat H2 fun x27_0 x27_1 H3 => 0 ≤ y6 ∧ y6 ≤ y6 ∧ ((1 : Nat) : Int) * y6 ≤ 281474976710656 ∧
  letV (hnew H3 (zerosOf (.bool false) y6.toNat) ty_bool) fun H4 : Heap =>
  bits_New.C (some ⟨Array.size H3, 0, none⟩) y6.toNat y6.toNat H4 fun x33_0 x33_1 H5 => 
  JoinW (S := Unit) (fun J8 => 
  JoinW (S := (Bool × Unit)) (fun J7 =>
  brW (decide (x27_1 ≠ 0)) (J7 (true, ()) H5) (brW (decide (x33_1 ≠ 0)) (J7 (true, ()) H5) (brW (Option.isNone (x27_0)) (J7 (true, ()) H5) (J7 (Option.isNone (x33_0), ()) H5))))
  (fun s7 H7 => (fun (x49 : Bool) =>
  brW x49 (R false H7) (J8 () H7)) s7.1))
  (fun _ H6 =>
  brackenlaw3_told.C  H6 fun x50 H8 =>
  brW x50 (bits_Bits_Size.C (x27_0) H8 fun x53 H9 =>
  bits_Bits_Size.C (x33_0) H9 fun x55 H10 =>
  brW (decide (x53 ≤ x55)) (bits_Bits_Size.C (x33_0) H10 fun x60 H11 =>
  brW (decide (y6 ≤ x60)) (bits_Bits_Size.C (x33_0) H11 fun x66 H12 => R (decide ((IntKind.i64.wrap (3 * x66)) ≤ (IntKind.i64.wrap ((IntKind.i64.wrap (4 * y6)) + 400)))) H12) (R false H11)) (R false H10)) (R false H8))) s4.1 s4.2.1)
theorem brackenlaw3_BitsSizes.eq (a0a : Int) (a1b : Int) (R : Bool → Heap → Prop) (H0 : Heap) :
    evF Tryd.prog brackenlaw3_BitsSizes.ann Tryd.f5 [.int .i64 a0a, .int .i64 a1b] (fun v H' => xS (.one .bool) v fun r => R r H') H0 = brackenlaw3_BitsSizes.W a0a a1b R H0 := by kernel_rfl
theorem brackenlaw3_BitsSizes.calls {a0a : Int} {a1b : Int} {R : Bool → Heap → Prop} {H0 : Heap} (h : brackenlaw3_BitsSizes.W a0a a1b R H0) : brackenlaw3_BitsSizes.C a0a a1b H0 R :=
  (evF_sound progOk_ Tryd.func5 (by rw [brackenlaw3_BitsSizes.eq]; exact h)).mono fun v H' h => by obtain ⟨x, hv, hk⟩ := xS_out h; exact ⟨x, hv, hk⟩

def brackenlaw3_BitsOwn.ann : Ann := { ord := fun _ => [], loop := fun i => bif Nat.beq i 10 then some [(10, .one (.int .i64))] else none, join := fun i => bif Nat.beq i 6 then some [(29, .one .bool)] else bif Nat.beq i 7 then some [] else bif Nat.beq i 13 then some [] else none }
/-- bracken.brackenlaw3.BitsOwn -/
def brackenlaw3_BitsOwn.W (a0l_p : Option Addr) (a0l_l a0l_c : Nat) (a1at : Int) (R : Bool → Heap → Prop) (H0 : Heap) : Prop :=
  brackenlaw3_Row.C (a0l_p) a0l_l a0l_c (300) H0 fun x14_p x14_l x14_c H1 =>
  brW (decide ((x14_l : Int) < 1)) (brackenlaw3_told.C  H1 fun x18 H2 => R (x18) H2) (bits_New.C (x14_p) x14_l x14_c H1 fun x21_0 x21_1 H3 => 
  JoinW (S := Unit) (fun J7 => 
  JoinW (S := (Bool × Unit)) (fun J6 =>
  brW (decide (x21_1 ≠ 0)) (J6 (true, ()) H3) (J6 (Option.isNone (x21_0), ()) H3))
  (fun s6 H5 => (fun (x29 : Bool) =>
  brW x29 (R false H5) (J7 () H5)) s6.1))
  (fun _ H4 => (IntKind.u64.wrap (x14_l : Int)) ≠ 0 ∧
  letV (IntKind.i64.wrap (Int.tmod (IntKind.u64.wrap a1at) (IntKind.u64.wrap (x14_l : Int)))) fun k8 : Int =>
  ∃ x39 : Addr, x14_p = some x39 ∧ 0 ≤ k8 ∧ k8 < (x14_l : Int) ∧
  ∃ x40 : Bool, hcell H4 (x39.add k8.toNat) = some (.bool x40) ∧ 
  JoinW (S := Unit) (fun J13 => 
  LoopW (S := (Int × Unit)) (fun L10 q10 H7 => (fun (i10 : Int) =>
  brW (decide (i10 < (x14_l : Int))) (∃ x51 : Addr, x14_p = some x51 ∧ 0 ≤ i10 ∧ i10 < (x14_l : Int) ∧
  ∃ x52 : Bool, hcell H7 (x51.add i10.toNat) = some (.bool x52) ∧
  ∃ x54 : Addr, x14_p = some x54 ∧ 0 ≤ i10 ∧ i10 < (x14_l : Int) ∧ (∃ u, hcell H7 (x54.add i10.toNat) = some u) ∧ hfrozen H7 (x54.add i10.toNat) = false ∧
  letV (hset H7 (x54.add i10.toNat) (.bool (!x52))) fun H8 : Heap =>
  letV (IntKind.i64.wrap (i10 + 1)) fun i10 : Int => L10 ((i10 : Int), ()) H8) (J13 () H7)) q10.1) ((0 : Int), ()) H4)
  (fun _ H6 =>
  bits_Bits_Get.C (x21_0) (k8) H6 fun x58_0 x58_1 H9 =>
  brackenlaw3_told.C  H9 fun x61 H10 =>
  brW x61 (brW (decide (x58_1 = 0)) (R (decide (x58_0 = x40)) H10) (R false H10)) (R false H10))))
theorem brackenlaw3_BitsOwn.eq (a0l_p : Option Addr) (a0l_l a0l_c : Nat) (a1at : Int) (R : Bool → Heap → Prop) (H0 : Heap) :
    evF Tryd.prog brackenlaw3_BitsOwn.ann Tryd.f6 [.slice a0l_p a0l_l a0l_c, .int .i64 a1at] (fun v H' => xS (.one .bool) v fun r => R r H') H0 = brackenlaw3_BitsOwn.W a0l_p a0l_l a0l_c a1at R H0 := by kernel_rfl
theorem brackenlaw3_BitsOwn.calls {a0l_p : Option Addr} {a0l_l a0l_c : Nat} {a1at : Int} {R : Bool → Heap → Prop} {H0 : Heap} (h : brackenlaw3_BitsOwn.W a0l_p a0l_l a0l_c a1at R H0) : brackenlaw3_BitsOwn.C a0l_p a0l_l a0l_c a1at H0 R :=
  (evF_sound progOk_ Tryd.func6 (by rw [brackenlaw3_BitsOwn.eq]; exact h)).mono fun v H' h => by obtain ⟨x, hv, hk⟩ := xS_out h; exact ⟨x, hv, hk⟩

end Go.Proofs.YtickamfplpdmgaaDoor
