import Derived.Test.YtmijfoikdjcmlaaDoorEvSound
import Derived.Test.YtmijfoikdjcmlaaDoorProg
import Derived.KernelRfl
import Derived.Test.YtmijfoikdjcmlaaDoorMA0
namespace Go.Proofs.YtmijfoikdjcmlaaDoor
open Go.Ev
set_option linter.unusedVariables false
def brackenlaw5_Row.ann : Ann := { ord := fun _ => [], loop := fun i => bif Nat.beq i 4 then some [(5, .one .slice), (6, .one (.int .i64)), (7, .one (.int .i64)), (8, .one (.int .i64))] else bif Nat.beq i 7 then some [(5, .one .slice), (6, .one (.int .i64)), (7, .one (.int .i64)), (9, .one (.int .u64))] else bif Nat.beq i 15 then some [(5, .one .slice), (6, .one (.int .i64))] else none, join := fun i => bif Nat.beq i 5 then some [(5, .one .slice), (6, .one (.int .i64)), (7, .one (.int .i64))] else bif Nat.beq i 8 then some [(5, .one .slice), (6, .one (.int .i64)), (7, .one (.int .i64))] else bif Nat.beq i 10 then some [(38, .one .bool)] else bif Nat.beq i 12 then some [(5, .one .slice), (6, .one (.int .i64)), (7, .one (.int .i64))] else bif Nat.beq i 13 then some [(55, .one .bool)] else bif Nat.beq i 15 then some [(5, .one .slice), (6, .one (.int .i64))] else bif Nat.beq i 18 then some [(5, .one .slice)] else none }
/-- bracken.brackenlaw5.Row -/
def brackenlaw5_Row.W (a0l_p : Option Addr) (a0l_l a0l_c : Nat) (a1most : Int) (R : Option Addr → Nat → Nat → Heap → Prop) (H0 : Heap) : Prop :=
  
  JoinW (S := ((Option Addr × Nat × Nat) × Int × Unit)) (fun J15 => 
  LoopW (S := ((Option Addr × Nat × Nat) × Int × Int × Int × Unit)) (fun L4 q4 H2 => (fun (out5_p : Option Addr) (out5_l out5_c : Nat) (e6 : Int) (pairs7 : Int) (i8 : Int) =>
  brW (decide (i8 < (a0l_l : Int))) (
  JoinW (S := ((Option Addr × Nat × Nat) × Int × Int × Unit)) (fun J5 =>
  ∃ x18 : Addr, a0l_p = some x18 ∧ 0 ≤ i8 ∧ i8 < (a0l_l : Int) ∧
  ∃ x19 : Int, hcell H2 (x18.add i8.toNat) = some (.int .i64 x19) ∧ (2 : Int) ≠ 0 ∧ (12 : Int) ≠ 0 ∧
  letV (IntKind.u64.wrap (1 + (Int.tmod (IntKind.u64.wrap (Int.tdiv (IntKind.u64.wrap x19) 2)) 12))) fun n9 : Int => 
  LoopW (S := ((Option Addr × Nat × Nat) × Int × Int × Int × Unit)) (fun L7 q7 H4 => (fun (out5_p : Option Addr) (out5_l out5_c : Nat) (e6 : Int) (pairs7 : Int) (n9 : Int) =>
  brW (decide ((0 : Int) < n9)) (
  JoinW (S := ((Option Addr × Nat × Nat) × Int × Int × Unit)) (fun J8 => 
  JoinW (S := ((Option Addr × Nat × Nat) × Int × Int × Unit)) (fun J12 => 
  JoinW (S := (Bool × Unit)) (fun J10 =>
  ∃ x30 : Addr, a0l_p = some x30 ∧ 0 ≤ i8 ∧ i8 < (a0l_l : Int) ∧
  ∃ x31 : Int, hcell H4 (x30.add i8.toNat) = some (.int .i64 x31) ∧
  brW (decide ((andW .i64 x31 1) = 1)) (J10 (decide (pairs7 < a1most), ()) H4) (J10 (false, ()) H4))
  (fun s10 H7 => (fun (x38 : Bool) =>
  brW x38 (letV (hnew H7 #[.bool true] ty_bool) fun H8 : Heap => appW ty_bool 1 1 (.bool false) out5_p out5_l out5_c (.slice (some ⟨Array.size H7, 0, none⟩) 1 1) H8 fun x41_p x41_l x41_c H9 =>
  letV (IntKind.i64.wrap (e6 + 1)) fun e6 : Int =>
  letV (IntKind.i64.wrap (pairs7 + 1)) fun pairs7 : Int => J12 ((x41_p, x41_l, x41_c), (e6 : Int), (pairs7 : Int), ()) H9) (J12 ((out5_p, out5_l, out5_c), (e6 : Int), (pairs7 : Int), ()) H7)) s10.1))
  (fun s12 H6 => (fun (out5_p : Option Addr) (out5_l out5_c : Nat) (e6 : Int) (pairs7 : Int) => 
  JoinW (S := (Bool × Unit)) (fun J13 =>
  ∃ x48 : Addr, a0l_p = some x48 ∧ 0 ≤ i8 ∧ i8 < (a0l_l : Int) ∧
  ∃ x49 : Int, hcell H6 (x48.add i8.toNat) = some (.int .i64 x49) ∧
  brW (decide ((andW .i64 x49 1) = 0)) (J13 (decide ((0 : Int) < e6), ()) H6) (J13 (false, ()) H6))
  (fun s13 H10 => (fun (x55 : Bool) =>
  brW x55 (letV (hnew H10 #[.bool false] ty_bool) fun H11 : Heap => appW ty_bool 1 1 (.bool false) out5_p out5_l out5_c (.slice (some ⟨Array.size H10, 0, none⟩) 1 1) H11 fun x58_p x58_l x58_c H12 =>
  letV (IntKind.i64.wrap (e6 - 1)) fun e6 : Int => J8 ((x58_p, x58_l, x58_c), (e6 : Int), (pairs7 : Int), ()) H12) (J8 ((out5_p, out5_l, out5_c), (e6 : Int), (pairs7 : Int), ()) H10)) s13.1)) s12.1.1 s12.1.2.1 s12.1.2.2 s12.2.1 s12.2.2.1))
  (fun s8 H5 => (fun (out5_p : Option Addr) (out5_l out5_c : Nat) (e6 : Int) (pairs7 : Int) =>
  letV (IntKind.u64.wrap (n9 - 1)) fun n9 : Int => L7 ((out5_p, out5_l, out5_c), (e6 : Int), (pairs7 : Int), (n9 : Int), ()) H5) s8.1.1 s8.1.2.1 s8.1.2.2 s8.2.1 s8.2.2.1)) (J5 ((out5_p, out5_l, out5_c), (e6 : Int), (pairs7 : Int), ()) H4)) q7.1.1 q7.1.2.1 q7.1.2.2 q7.2.1 q7.2.2.1 q7.2.2.2.1) ((out5_p, out5_l, out5_c), (e6 : Int), (pairs7 : Int), (n9 : Int), ()) H2)
  (fun s5 H3 => (fun (out5_p : Option Addr) (out5_l out5_c : Nat) (e6 : Int) (pairs7 : Int) =>
  letV (IntKind.i64.wrap (i8 + 1)) fun i8 : Int => L4 ((out5_p, out5_l, out5_c), (e6 : Int), (pairs7 : Int), (i8 : Int), ()) H3) s5.1.1 s5.1.2.1 s5.1.2.2 s5.2.1 s5.2.2.1)) (J15 ((out5_p, out5_l, out5_c), (e6 : Int), ()) H2)) q4.1.1 q4.1.2.1 q4.1.2.2 q4.2.1 q4.2.2.1 q4.2.2.2.1) ((none, 0, 0), (0 : Int), (0 : Int), (0 : Int), ()) H0)
  (fun s15 H1 => (fun (out5_p : Option Addr) (out5_l out5_c : Nat) (e6 : Int) => 
  JoinW (S := ((Option Addr × Nat × Nat) × Unit)) (fun J18 => 
  LoopW (S := ((Option Addr × Nat × Nat) × Int × Unit)) (fun L15 q15 H14 => (fun (out5_p : Option Addr) (out5_l out5_c : Nat) (e6 : Int) =>
  brW (decide ((0 : Int) < e6)) (letV (hnew H14 #[.bool false] ty_bool) fun H15 : Heap => appW ty_bool 1 1 (.bool false) out5_p out5_l out5_c (.slice (some ⟨Array.size H14, 0, none⟩) 1 1) H15 fun x67_p x67_l x67_c H16 =>
  letV (IntKind.i64.wrap (e6 - 1)) fun e6 : Int => L15 ((x67_p, x67_l, x67_c), (e6 : Int), ()) H16) (J18 ((out5_p, out5_l, out5_c), ()) H14)) q15.1.1 q15.1.2.1 q15.1.2.2 q15.2.1) ((out5_p, out5_l, out5_c), (e6 : Int), ()) H1)
  (fun s18 H13 => (fun (out5_p : Option Addr) (out5_l out5_c : Nat) => R (out5_p) out5_l out5_c H13) s18.1.1 s18.1.2.1 s18.1.2.2)) s15.1.1 s15.1.2.1 s15.1.2.2 s15.2.1)
theorem brackenlaw5_Row.eq (a0l_p : Option Addr) (a0l_l a0l_c : Nat) (a1most : Int) (R : Option Addr → Nat → Nat → Heap → Prop) (H0 : Heap) :
    evF Tryd.prog brackenlaw5_Row.ann Tryd.f11 [.slice a0l_p a0l_l a0l_c, .int .i64 a1most] (fun v H' => xS (.one .slice) v fun r => R r.1 r.2.1 r.2.2 H') H0 = brackenlaw5_Row.W a0l_p a0l_l a0l_c a1most R H0 := by kernel_rfl
theorem brackenlaw5_Row.calls {a0l_p : Option Addr} {a0l_l a0l_c : Nat} {a1most : Int} {R : Option Addr → Nat → Nat → Heap → Prop} {H0 : Heap} (h : brackenlaw5_Row.W a0l_p a0l_l a0l_c a1most R H0) : brackenlaw5_Row.C a0l_p a0l_l a0l_c a1most H0 R :=
  (evF_sound progOk_ Tryd.func11 (by rw [brackenlaw5_Row.eq]; exact h)).mono fun v H' h => by obtain ⟨x, hv, hk⟩ := xS_out h; exact ⟨x.1, x.2.1, x.2.2, hv, hk⟩

def paren_May.ann : Ann := { ord := fun _ => [], loop := fun i => bif Nat.beq i 3 then some [(3, .one (.int .i64)), (8, .one (.int .i64))] else none, join := fun i => bif Nat.beq i 8 then some [(3, .one (.int .i64))] else bif Nat.beq i 10 then some [(3, .one (.int .i64))] else bif Nat.beq i 11 then some [(3, .one (.int .i64))] else none }
/-- bracken.paren.May -/
def paren_May.W (a0l_p : Option Addr) (a0l_l a0l_c : Nat) (R : Bool → Heap → Prop) (H0 : Heap) : Prop :=
  
  JoinW (S := (Int × Unit)) (fun J11 => 
  LoopW (S := (Int × Int × Unit)) (fun L3 q3 H2 => (fun (n3 : Int) (x8 : Int) =>
  brW (decide (x8 < (a0l_l : Int))) (
  JoinW (S := (Int × Unit)) (fun J10 =>
  ∃ x10 : Addr, a0l_p = some x10 ∧ 0 ≤ x8 ∧ x8 < (a0l_l : Int) ∧
  ∃ x11 : Bool, hcell H2 (x10.add x8.toNat) = some (.bool x11) ∧ 
  JoinW (S := (Int × Unit)) (fun J8 =>
  letV (IntKind.i64.wrap (n3 - 1)) fun n3 : Int =>
  brW x11 (letV (IntKind.i64.wrap (n3 + 2)) fun n3 : Int => J8 ((n3 : Int), ()) H2) (J8 ((n3 : Int), ()) H2))
  (fun s8 H4 => (fun (n3 : Int) =>
  brW (decide (n3 < 0)) (R false H4) (J10 ((n3 : Int), ()) H4)) s8.1))
  (fun s10 H3 => (fun (n3 : Int) => L3 ((n3 : Int), (IntKind.i64.wrap (x8 + 1) : Int), ()) H3) s10.1)) (J11 ((n3 : Int), ()) H2)) q3.1 q3.2.1) ((0 : Int), (0 : Int), ()) H0)
  (fun s11 H1 => (fun (n3 : Int) => R (decide (n3 = 0)) H1) s11.1)
theorem paren_May.eq (a0l_p : Option Addr) (a0l_l a0l_c : Nat) (R : Bool → Heap → Prop) (H0 : Heap) :
    evF Tryd.prog paren_May.ann Tryd.f24 [.slice a0l_p a0l_l a0l_c] (fun v H' => xS (.one .bool) v fun r => R r H') H0 = paren_May.W a0l_p a0l_l a0l_c R H0 := by kernel_rfl
theorem paren_May.calls {a0l_p : Option Addr} {a0l_l a0l_c : Nat} {R : Bool → Heap → Prop} {H0 : Heap} (h : paren_May.W a0l_p a0l_l a0l_c R H0) : paren_May.C a0l_p a0l_l a0l_c H0 R :=
  (evF_sound progOk_ Tryd.func24 (by rw [paren_May.eq]; exact h)).mono fun v H' h => by obtain ⟨x, hv, hk⟩ := xS_out h; exact ⟨x, hv, hk⟩

def bits_OnesCount64.ann : Ann := { ord := fun _ => [], loop := fun _ => none, join := fun _ => none }
/-- math.bits.OnesCount64 -/
def bits_OnesCount64.W (a0x : Int) (R : Int → Heap → Prop) (H0 : Heap) : Prop :=
  0 ≤ (1 : Int) ∧
  letV (IntKind.u64.wrap ((andW .u64 (shrW .u64 a0x 1) 6148914691236517205) + (andW .u64 a0x 6148914691236517205))) fun x0 : Int => 0 ≤ (2 : Int) ∧
  letV (IntKind.u64.wrap ((andW .u64 (shrW .u64 x0 2) 3689348814741910323) + (andW .u64 x0 3689348814741910323))) fun x0 : Int => 0 ≤ (4 : Int) ∧
  letV (andW .u64 (IntKind.u64.wrap ((shrW .u64 x0 4) + x0)) 1085102592571150095) fun x0 : Int => 0 ≤ (8 : Int) ∧
  letV (IntKind.u64.wrap (x0 + (shrW .u64 x0 8))) fun x0 : Int => 0 ≤ (16 : Int) ∧
  letV (IntKind.u64.wrap (x0 + (shrW .u64 x0 16))) fun x0 : Int => 0 ≤ (32 : Int) ∧
  letV (IntKind.u64.wrap (x0 + (shrW .u64 x0 32))) fun x0 : Int =>
  letV (andW .i64 (IntKind.i64.wrap x0) 127) fun x2 : Int => R (x2) H0
theorem bits_OnesCount64.eq (a0x : Int) (R : Int → Heap → Prop) (H0 : Heap) :
    evF Tryd.prog bits_OnesCount64.ann Tryd.f48 [.int .u64 a0x] (fun v H' => xS (.one (.int .i64)) v fun r => R r H') H0 = bits_OnesCount64.W a0x R H0 := by kernel_rfl
theorem bits_OnesCount64.calls {a0x : Int} {R : Int → Heap → Prop} {H0 : Heap} (h : bits_OnesCount64.W a0x R H0) : bits_OnesCount64.C a0x H0 R :=
  (evF_sound progOk_ Tryd.func48 (by rw [bits_OnesCount64.eq]; exact h)).mono fun v H' h => by obtain ⟨x, hv, hk⟩ := xS_out h; exact ⟨x, hv, hk⟩

def bits_New.ann : Ann := { ord := fun i => bif Nat.beq i 14 then [0, 1, 2, 3, 4, 5, 6, 7, 8, 9, 10, 11] else bif Nat.beq i 15 then [0, 1, 2, 3, 4, 5, 6, 7] else [], loop := fun i => bif Nat.beq i 6 then some [(6, .one (.int .i64))] else bif Nat.beq i 10 then some [(7, .one (.int .i64))] else none, join := fun i => bif Nat.beq i 7 then some [] else bif Nat.beq i 11 then some [] else bif Nat.beq i 14 then some [] else bif Nat.beq i 16 then some [] else none }
/-- bracken.bits.New -/
def bits_New.W (a0l_p : Option Addr) (a0l_l a0l_c : Nat) (R : Option Addr → Int → Heap → Prop) (H0 : Heap) : Prop :=
  brW (decide ((4194304 : Int) < (a0l_l : Int))) (R (none) (7) H0) (letV (hnew H0 #[.slice none 0 0, .int .i64 (a0l_l : Int)] ty_bits_Bits) fun H1 : Heap =>
  letV (hnew H1 #[.int .u64 0, .int .i64 0] ty_bits_part) fun H2 : Heap => 
  JoinW (S := Unit) (fun J16 => 
  LoopW (S := (Int × Unit)) (fun L6 q6 H4 => (fun (k6 : Int) =>
  brW (decide (k6 ≤ (a0l_l : Int))) (
  JoinW (S := Unit) (fun J7 => (∃ u, hcell H4 ((⟨Array.size H1, 0, none⟩ : Addr).add 0) = some u) ∧ hfrozen H4 ((⟨Array.size H1, 0, none⟩ : Addr).add 0) = false ∧
  letV (hset H4 ((⟨Array.size H1, 0, none⟩ : Addr).add 0) (.int .u64 0)) fun H6 : Heap => 
  JoinW (S := Unit) (fun J14 => 
  LoopW (S := (Int × Unit)) (fun L10 q10 H8 => (fun (i7 : Int) =>
  brW (decide (i7 < (min (IntKind.i64.wrap (k6 + 64)) (a0l_l : Int)))) (
  JoinW (S := Unit) (fun J11 =>
  ∃ x34 : Addr, a0l_p = some x34 ∧ 0 ≤ i7 ∧ i7 < (a0l_l : Int) ∧
  ∃ x35 : Bool, hcell H8 (x34.add i7.toNat) = some (.bool x35) ∧
  brW x35 (∃ x37 : Int, hcell H8 ((⟨Array.size H1, 0, none⟩ : Addr).add 0) = some (.int .u64 x37) ∧ 0 ≤ (IntKind.u64.wrap (IntKind.i64.wrap (i7 - k6))) ∧ (∃ u, hcell H8 ((⟨Array.size H1, 0, none⟩ : Addr).add 0) = some u) ∧ hfrozen H8 ((⟨Array.size H1, 0, none⟩ : Addr).add 0) = false ∧
  letV (hset H8 ((⟨Array.size H1, 0, none⟩ : Addr).add 0) (.int .u64 (orW .u64 x37 (shlW .u64 1 (IntKind.u64.wrap (IntKind.i64.wrap (i7 - k6))))))) fun H10 : Heap => J11 () H10) (J11 () H8))
  (fun _ H9 =>
  letV (IntKind.i64.wrap (i7 + 1)) fun i7 : Int => L10 ((i7 : Int), ()) H9)) (J14 () H8)) q10.1) ((k6 : Int), ()) H6)
  (fun _ H7 =>
  ∃ x47 : Addr, some ⟨Array.size H0, 0, none⟩ = some x47 ∧
  ∃ (x49_p : Option Addr) (x49_l x49_c : Nat), hcell H7 (x47.add 0) = some (.slice x49_p x49_l x49_c) ∧
  ∃ x50_0 : Int, hcell H7 ((⟨Array.size H1, 0, none⟩ : Addr).add 0) = some (.int .u64 x50_0) ∧
  ∃ x50_1 : Int, hcell H7 ((⟨Array.size H1, 0, none⟩ : Addr).add 1) = some (.int .i64 x50_1) ∧
  letV (hnew H7 #[.iface ty_bits_part (.agg #[.int .u64 x50_0, .int .i64 x50_1])] ty_any) fun H11 : Heap => (∃ (x49s_p : Option Addr) (x49s_l x49s_c : Nat), hcell H11 (x47.add 0) = some (.slice x49s_p x49s_l x49s_c) ∧ (.slice x49s_p x49s_l x49s_c : Value) = .slice x49_p x49_l x49_c) ∧ appW ty_any 1 16 (.nilIface) x49_p x49_l x49_c (.slice (some ⟨Array.size H7, 0, none⟩) 1 1) H11 fun x53_p x53_l x53_c H12 =>
  ∃ x54 : Addr, some ⟨Array.size H0, 0, none⟩ = some x54 ∧ (∃ u, hcell H12 (x54.add 0) = some u) ∧ hfrozen H12 (x54.add 0) = false ∧
  letV (hset H12 (x54.add 0) (.slice x53_p x53_l x53_c)) fun H13 : Heap =>
  ∃ x57 : Int, hcell H13 ((⟨Array.size H1, 0, none⟩ : Addr).add 1) = some (.int .i64 x57) ∧
  ∃ x59 : Int, hcell H13 ((⟨Array.size H1, 0, none⟩ : Addr).add 0) = some (.int .u64 x59) ∧ bits_OnesCount64.C (x59) H13 fun x60 H14 => (∃ x57s : Int, hcell H14 ((⟨Array.size H1, 0, none⟩ : Addr).add 1) = some (.int .i64 x57s) ∧ (.int .i64 x57s : Value) = .int .i64 x57) ∧ (∃ u, hcell H14 ((⟨Array.size H1, 0, none⟩ : Addr).add 1) = some u) ∧ hfrozen H14 ((⟨Array.size H1, 0, none⟩ : Addr).add 1) = false ∧
  letV (hset H14 ((⟨Array.size H1, 0, none⟩ : Addr).add 1) (.int .i64 (IntKind.i64.wrap (x57 + x60)))) fun H15 : Heap => J7 () H15))
  (fun _ H5 =>
  letV (IntKind.i64.wrap (k6 + 64)) fun k6 : Int => L6 ((k6 : Int), ()) H5)) (J16 () H4)) q6.1) ((0 : Int), ()) H2)
  (fun _ H3 => R (some ⟨Array.size H0, 0, none⟩) (0) H3))
theorem bits_New.eq (a0l_p : Option Addr) (a0l_l a0l_c : Nat) (R : Option Addr → Int → Heap → Prop) (H0 : Heap) :
    evF Tryd.prog bits_New.ann Tryd.f36 [.slice a0l_p a0l_l a0l_c] (fun v H' => xT [.one .ptr, .one (.int .i64)] v fun r => R r.1 r.2.1 H') H0 = bits_New.W a0l_p a0l_l a0l_c R H0 := by kernel_rfl
theorem bits_New.calls {a0l_p : Option Addr} {a0l_l a0l_c : Nat} {R : Option Addr → Int → Heap → Prop} {H0 : Heap} (h : bits_New.W a0l_p a0l_l a0l_c R H0) : bits_New.C a0l_p a0l_l a0l_c H0 R :=
  (evF_sound progOk_ Tryd.func36 (by rw [bits_New.eq]; exact h)).mono fun v H' h => by obtain ⟨x, hv, hk⟩ := xT_out h; exact ⟨x.1, x.2.1, hv, hk⟩

def paren_New.ann : Ann := { ord := fun i => bif Nat.beq i 28 then [0, 1, 2, 3, 4, 5, 6, 7, 8, 9, 10, 11, 12, 13, 14, 15] else [], loop := fun i => bif Nat.beq i 7 then some [] else bif Nat.beq i 11 then some [(57, .one (.int .i64))] else bif Nat.beq i 17 then some [(9, .one (.int .i64)), (73, .one (.int .i64))] else bif Nat.beq i 26 then some [(13, .one (.int .i64))] else none, join := fun i => bif Nat.beq i 5 then some [(28, .one .bool)] else bif Nat.beq i 6 then some [] else bif Nat.beq i 9 then some [] else bif Nat.beq i 15 then some [] else bif Nat.beq i 22 then some [(9, .one (.int .i64))] else bif Nat.beq i 24 then some [(9, .one (.int .i64))] else bif Nat.beq i 25 then some [] else bif Nat.beq i 29 then some [] else none }
/-- bracken.paren.New -/
def paren_New.W (a0l_p : Option Addr) (a0l_l a0l_c : Nat) (R : Option Addr → Int → Heap → Prop) (H0 : Heap) : Prop :=
  paren_May.C (a0l_p) a0l_l a0l_c H0 fun x15 H1 =>
  brW (!x15) (R (none) (1) H1) (bits_New.C (a0l_p) a0l_l a0l_c H1 fun x19_0 x19_1 H2 => 
  JoinW (S := Unit) (fun J6 => 
  JoinW (S := (Bool × Unit)) (fun J5 =>
  brW (decide (x19_1 ≠ 0)) (J5 (true, ()) H2) (J5 (decide ((4194304 : Int) < (a0l_l : Int)), ()) H2))
  (fun s5 H4 => (fun (x28 : Bool) =>
  brW x28 (R (none) (7) H4) (J6 () H4)) s5.1))
  (fun _ H3 =>
  letV (hnew H3 #[.pointer x19_0, .nilIface, .int .i64 1, .int .i64 0] ty_paren_Paren) fun H5 : Heap => 
  JoinW (S := Unit) (fun J9 => 
  LoopW (S := Unit) (fun L7 _ H7 =>
  ∃ x33 : Addr, some ⟨Array.size H3, 0, none⟩ = some x33 ∧
  ∃ x35 : Int, hcell H7 (x33.add 2) = some (.int .i64 x35) ∧
  brW (decide ((IntKind.i64.wrap (x35 * 64)) < (a0l_l : Int))) (∃ x41 : Addr, some ⟨Array.size H3, 0, none⟩ = some x41 ∧
  ∃ x43 : Int, hcell H7 (x41.add 2) = some (.int .i64 x43) ∧
  ∃ x45 : Addr, some ⟨Array.size H3, 0, none⟩ = some x45 ∧ (∃ u, hcell H7 (x45.add 2) = some u) ∧ hfrozen H7 (x45.add 2) = false ∧
  letV (hset H7 (x45.add 2) (.int .i64 (IntKind.i64.wrap (x43 * 2)))) fun H8 : Heap => L7 () H8) (J9 () H7)) () H5)
  (fun _ H6 =>
  ∃ x48 : Addr, some ⟨Array.size H3, 0, none⟩ = some x48 ∧
  ∃ x50 : Int, hcell H6 (x48.add 2) = some (.int .i64 x50) ∧ 0 ≤ IntKind.i64.wrap (2 * x50) ∧ IntKind.i64.wrap (2 * x50) ≤ IntKind.i64.wrap (2 * x50) ∧ ((8 : Nat) : Int) * (IntKind.i64.wrap (2 * x50)) ≤ 281474976710656 ∧
  letV (hnew H6 (zerosOf (.int .i64 0) ((IntKind.i64.wrap (2 * x50)).toNat)) ty_int) fun H9 : Heap => 
  JoinW (S := Unit) (fun J15 =>
  ∃ x54 : Addr, some ⟨Array.size H3, 0, none⟩ = some x54 ∧
  ∃ x56 : Int, hcell H9 (x54.add 2) = some (.int .i64 x56) ∧ 
  LoopW (S := (Int × Unit)) (fun L11 q11 H11 => (fun (x57 : Int) =>
  brW (decide (x57 < x56)) (∃ x62 : Addr, some ⟨Array.size H3, 0, none⟩ = some x62 ∧
  ∃ x64 : Int, hcell H11 (x62.add 2) = some (.int .i64 x64) ∧
  ∃ x69 : Addr, some ⟨Array.size H6, 0, none⟩ = some x69 ∧ 0 ≤ IntKind.i64.wrap (x64 + x57) ∧ IntKind.i64.wrap (x64 + x57) < ((IntKind.i64.wrap (2 * x50)).toNat : Int) ∧ (∃ u, hcell H11 (x69.add ((IntKind.i64.wrap (x64 + x57)).toNat)) = some u) ∧ hfrozen H11 (x69.add ((IntKind.i64.wrap (x64 + x57)).toNat)) = false ∧
  letV (hset H11 (x69.add ((IntKind.i64.wrap (x64 + x57)).toNat)) (.int .i64 (a0l_l : Int))) fun H12 : Heap => L11 ((IntKind.i64.wrap (x57 + 1) : Int), ()) H12) (J15 () H11)) q11.1) ((0 : Int), ()) H9)
  (fun _ H10 => 
  JoinW (S := Unit) (fun J25 => 
  LoopW (S := (Int × Int × Unit)) (fun L17 q17 H14 => (fun (n9 : Int) (x73 : Int) =>
  brW (decide (x73 < (a0l_l : Int))) (
  JoinW (S := (Int × Unit)) (fun J24 =>
  ∃ x76 : Addr, a0l_p = some x76 ∧ 0 ≤ x73 ∧ x73 < (a0l_l : Int) ∧
  ∃ x77 : Bool, hcell H14 (x76.add x73.toNat) = some (.bool x77) ∧ 
  JoinW (S := (Int × Unit)) (fun J22 =>
  letV (IntKind.i64.wrap (n9 - 1)) fun n9 : Int =>
  brW x77 (letV (IntKind.i64.wrap (n9 + 2)) fun n9 : Int => J22 ((n9 : Int), ()) H14) (J22 ((n9 : Int), ()) H14))
  (fun s22 H16 => (fun (n9 : Int) =>
  ∃ x84 : Addr, some ⟨Array.size H3, 0, none⟩ = some x84 ∧
  ∃ x86 : Int, hcell H16 (x84.add 2) = some (.int .i64 x86) ∧ (64 : Int) ≠ 0 ∧
  letV (IntKind.i64.wrap (x86 + (IntKind.i64.wrap (Int.tdiv x73 64)))) fun at12 : Int =>
  ∃ x94 : Addr, some ⟨Array.size H6, 0, none⟩ = some x94 ∧ 0 ≤ at12 ∧ at12 < ((IntKind.i64.wrap (2 * x50)).toNat : Int) ∧
  ∃ x95 : Int, hcell H16 (x94.add at12.toNat) = some (.int .i64 x95) ∧
  ∃ x98 : Addr, some ⟨Array.size H6, 0, none⟩ = some x98 ∧ 0 ≤ at12 ∧ at12 < ((IntKind.i64.wrap (2 * x50)).toNat : Int) ∧ (∃ u, hcell H16 (x98.add at12.toNat) = some u) ∧ hfrozen H16 (x98.add at12.toNat) = false ∧
  letV (hset H16 (x98.add at12.toNat) (.int .i64 (min x95 n9))) fun H17 : Heap => J24 ((n9 : Int), ()) H17) s22.1))
  (fun s24 H15 => (fun (n9 : Int) => L17 ((n9 : Int), (IntKind.i64.wrap (x73 + 1) : Int), ()) H15) s24.1)) (J25 () H14)) q17.1 q17.2.1) ((0 : Int), (0 : Int), ()) H10)
  (fun _ H13 => 
  JoinW (S := Unit) (fun J29 =>
  ∃ x101 : Addr, some ⟨Array.size H3, 0, none⟩ = some x101 ∧
  ∃ x103 : Int, hcell H13 (x101.add 2) = some (.int .i64 x103) ∧
  letV (IntKind.i64.wrap (x103 - 1)) fun k13 : Int => 
  LoopW (S := (Int × Unit)) (fun L26 q26 H19 => (fun (k13 : Int) =>
  brW (decide ((0 : Int) < k13)) (∃ x114 : Addr, some ⟨Array.size H6, 0, none⟩ = some x114 ∧ 0 ≤ IntKind.i64.wrap (2 * k13) ∧ IntKind.i64.wrap (2 * k13) < ((IntKind.i64.wrap (2 * x50)).toNat : Int) ∧
  ∃ x115 : Int, hcell H19 (x114.add ((IntKind.i64.wrap (2 * k13)).toNat)) = some (.int .i64 x115) ∧
  ∃ x120 : Addr, some ⟨Array.size H6, 0, none⟩ = some x120 ∧ 0 ≤ IntKind.i64.wrap ((IntKind.i64.wrap (2 * k13)) + 1) ∧ IntKind.i64.wrap ((IntKind.i64.wrap (2 * k13)) + 1) < ((IntKind.i64.wrap (2 * x50)).toNat : Int) ∧
  ∃ x121 : Int, hcell H19 (x120.add ((IntKind.i64.wrap ((IntKind.i64.wrap (2 * k13)) + 1)).toNat)) = some (.int .i64 x121) ∧
  ∃ x123 : Addr, some ⟨Array.size H6, 0, none⟩ = some x123 ∧ 0 ≤ k13 ∧ k13 < ((IntKind.i64.wrap (2 * x50)).toNat : Int) ∧ (∃ u, hcell H19 (x123.add k13.toNat) = some u) ∧ hfrozen H19 (x123.add k13.toNat) = false ∧
  letV (hset H19 (x123.add k13.toNat) (.int .i64 (min x115 x121))) fun H20 : Heap =>
  letV (IntKind.i64.wrap (k13 - 1)) fun k13 : Int => L26 ((k13 : Int), ()) H20) (J29 () H19)) q26.1) ((k13 : Int), ()) H13)
  (fun _ H18 =>
  ∃ x127 : Addr, some ⟨Array.size H3, 0, none⟩ = some x127 ∧ (∃ u, hcell H18 (x127.add 1) = some u) ∧ hfrozen H18 (x127.add 1) = false ∧
  letV (hset H18 (x127.add 1) (.iface ty_s_int (.slice (some ⟨Array.size H6, 0, none⟩) ((IntKind.i64.wrap (2 * x50)).toNat) ((IntKind.i64.wrap (2 * x50)).toNat)))) fun H21 : Heap => R (some ⟨Array.size H3, 0, none⟩) (0) H21))))))
theorem paren_New.eq (a0l_p : Option Addr) (a0l_l a0l_c : Nat) (R : Option Addr → Int → Heap → Prop) (H0 : Heap) :
    evF Tryd.prog paren_New.ann Tryd.f12 [.slice a0l_p a0l_l a0l_c] (fun v H' => xT [.one .ptr, .one (.int .i64)] v fun r => R r.1 r.2.1 H') H0 = paren_New.W a0l_p a0l_l a0l_c R H0 := by kernel_rfl
theorem paren_New.calls {a0l_p : Option Addr} {a0l_l a0l_c : Nat} {R : Option Addr → Int → Heap → Prop} {H0 : Heap} (h : paren_New.W a0l_p a0l_l a0l_c R H0) : paren_New.C a0l_p a0l_l a0l_c H0 R :=
  (evF_sound progOk_ Tryd.func12 (by rw [paren_New.eq]; exact h)).mono fun v H' h => by obtain ⟨x, hv, hk⟩ := xT_out h; exact ⟨x.1, x.2.1, hv, hk⟩

def bits_Bits_Len.ann : Ann := { ord := fun _ => [], loop := fun _ => none, join := fun _ => none }
/-- (*bracken.bits.Bits).Len -/
def bits_Bits_Len.W (a0b : Option Addr) (R : Int → Heap → Prop) (H0 : Heap) : Prop :=
  brW (Option.isNone (a0b)) (R (0) H0) (∃ x6 : Addr, a0b = some x6 ∧
  ∃ x8 : Int, hcell H0 (x6.add 1) = some (.int .i64 x8) ∧ R (x8) H0)
theorem bits_Bits_Len.eq (a0b : Option Addr) (R : Int → Heap → Prop) (H0 : Heap) :
    evF Tryd.prog bits_Bits_Len.ann Tryd.f44 [.pointer a0b] (fun v H' => xS (.one (.int .i64)) v fun r => R r H') H0 = bits_Bits_Len.W a0b R H0 := by kernel_rfl
theorem bits_Bits_Len.calls {a0b : Option Addr} {R : Int → Heap → Prop} {H0 : Heap} (h : bits_Bits_Len.W a0b R H0) : bits_Bits_Len.C a0b H0 R :=
  (evF_sound progOk_ Tryd.func44 (by rw [bits_Bits_Len.eq]; exact h)).mono fun v H' h => by obtain ⟨x, hv, hk⟩ := xS_out h; exact ⟨x, hv, hk⟩

def bits_Bits_at.ann : Ann := { ord := fun _ => [], loop := fun _ => none, join := fun _ => none }
/-- (*bracken.bits.Bits).at -/
def bits_Bits_at.W (a0b : Option Addr) (a1k : Int) (R : Int → Int → Heap → Prop) (H0 : Heap) : Prop :=
  letV (hnew H0 #[.int .u64 0, .int .i64 0] ty_bits_part) fun H1 : Heap =>
  ∃ x9 : Addr, a0b = some x9 ∧
  ∃ (x11_p : Option Addr) (x11_l x11_c : Nat), hcell H1 (x9.add 0) = some (.slice x11_p x11_l x11_c) ∧
  ∃ x13 : Addr, x11_p = some x13 ∧ 0 ≤ a1k ∧ a1k < (x11_l : Int) ∧
  ∃ x14 : Value, hcell H1 (x13.add a1k.toNat) = some (x14) ∧
  ∃ x15_0 : Int, ∃ x15_1 : Int, ∃ x15ok : Bool, TaRel (x14) ty_bits_part (.agg #[.int .u64 x15_0, .int .i64 x15_1]) (.agg #[.int .u64 0, .int .i64 0]) x15ok ∧
  letV (hnew H1 #[.int .u64 0, .int .i64 0] ty_bits_part) fun H2 : Heap => (∃ u, hcell H2 ((⟨Array.size H1, 0, none⟩ : Addr).add 0) = some u) ∧ hfrozen H2 ((⟨Array.size H1, 0, none⟩ : Addr).add 0) = false ∧
  letV (hset H2 ((⟨Array.size H1, 0, none⟩ : Addr).add 0) (.int .u64 x15_0)) fun H4 : Heap => (∃ u, hcell H4 ((⟨Array.size H1, 0, none⟩ : Addr).add 1) = some u) ∧ hfrozen H4 ((⟨Array.size H1, 0, none⟩ : Addr).add 1) = false ∧
  letV (hset H4 ((⟨Array.size H1, 0, none⟩ : Addr).add 1) (.int .i64 x15_1)) fun H5 : Heap =>
  ∃ x18_0 : Int, hcell H5 ((⟨Array.size H1, 0, none⟩ : Addr).add 0) = some (.int .u64 x18_0) ∧
  ∃ x18_1 : Int, hcell H5 ((⟨Array.size H1, 0, none⟩ : Addr).add 1) = some (.int .i64 x18_1) ∧ (∃ u, hcell H5 ((⟨Array.size H0, 0, none⟩ : Addr).add 0) = some u) ∧ hfrozen H5 ((⟨Array.size H0, 0, none⟩ : Addr).add 0) = false ∧
  letV (hset H5 ((⟨Array.size H0, 0, none⟩ : Addr).add 0) (.int .u64 x18_0)) fun H7 : Heap => (∃ u, hcell H7 ((⟨Array.size H0, 0, none⟩ : Addr).add 1) = some u) ∧ hfrozen H7 ((⟨Array.size H0, 0, none⟩ : Addr).add 1) = false ∧
  letV (hset H7 ((⟨Array.size H0, 0, none⟩ : Addr).add 1) (.int .i64 x18_1)) fun H8 : Heap =>
  ∃ z_0 : Int, hcell H8 ((⟨Array.size H0, 0, none⟩ : Addr).add 0) = some (.int .u64 z_0) ∧
  ∃ z_1 : Int, hcell H8 ((⟨Array.size H0, 0, none⟩ : Addr).add 1) = some (.int .i64 z_1) ∧ R (z_0) (z_1) H8
theorem bits_Bits_at.eq (a0b : Option Addr) (a1k : Int) (R : Int → Int → Heap → Prop) (H0 : Heap) :
    evF Tryd.prog bits_Bits_at.ann Tryd.f52 [.pointer a0b, .int .i64 a1k] (fun v H' => xS (.agg [.int .u64, .int .i64]) v fun r => R r.1 r.2.1 H') H0 = bits_Bits_at.W a0b a1k R H0 := by kernel_rfl
theorem bits_Bits_at.calls {a0b : Option Addr} {a1k : Int} {R : Int → Int → Heap → Prop} {H0 : Heap} (h : bits_Bits_at.W a0b a1k R H0) : bits_Bits_at.C a0b a1k H0 R :=
  (evF_sound progOk_ Tryd.func52 (by rw [bits_Bits_at.eq]; exact h)).mono fun v H' h => by obtain ⟨x, hv, hk⟩ := xS_out h; exact ⟨x.1, x.2.1, hv, hk⟩

def bits_Bits_Get.ann : Ann := { ord := fun _ => [], loop := fun _ => none, join := fun i => bif Nat.beq i 2 then some [(13, .one .bool)] else bif Nat.beq i 3 then some [] else none }
/-- (*bracken.bits.Bits).Get -/
def bits_Bits_Get.W (a0b : Option Addr) (a1k : Int) (R : Bool → Int → Heap → Prop) (H0 : Heap) : Prop :=
  
  JoinW (S := Unit) (fun J3 => 
  JoinW (S := (Bool × Unit)) (fun J2 =>
  brW (decide (a1k < 0)) (J2 (true, ()) H0) (bits_Bits_Len.C (a0b) H0 fun x11 H3 => J2 (decide (x11 ≤ a1k), ()) H3))
  (fun s2 H2 => (fun (x13 : Bool) =>
  brW x13 (R false (4) H2) (J3 () H2)) s2.1))
  (fun _ H1 => (64 : Int) ≠ 0 ∧ bits_Bits_at.C (a0b) (IntKind.i64.wrap (Int.tdiv a1k 64)) H1 fun x17_0 x17_1 H4 => (64 : Int) ≠ 0 ∧ 0 ≤ (IntKind.u64.wrap (Int.tmod a1k 64)) ∧ R (decide ((andW .u64 (shrW .u64 x17_0 (IntKind.u64.wrap (Int.tmod a1k 64))) 1) = 1)) (0) H4)
theorem bits_Bits_Get.eq (a0b : Option Addr) (a1k : Int) (R : Bool → Int → Heap → Prop) (H0 : Heap) :
    evF Tryd.prog bits_Bits_Get.ann Tryd.f43 [.pointer a0b, .int .i64 a1k] (fun v H' => xT [.one .bool, .one (.int .i64)] v fun r => R r.1 r.2.1 H') H0 = bits_Bits_Get.W a0b a1k R H0 := by kernel_rfl
theorem bits_Bits_Get.calls {a0b : Option Addr} {a1k : Int} {R : Bool → Int → Heap → Prop} {H0 : Heap} (h : bits_Bits_Get.W a0b a1k R H0) : bits_Bits_Get.C a0b a1k H0 R :=
  (evF_sound progOk_ Tryd.func43 (by rw [bits_Bits_Get.eq]; exact h)).mono fun v H' h => by obtain ⟨x, hv, hk⟩ := xT_out h; exact ⟨x.1, x.2.1, hv, hk⟩

def paren_Paren_Open.ann : Ann := { ord := fun _ => [], loop := fun _ => none, join := fun _ => none }
/-- (*bracken.paren.Paren).Open -/
def paren_Paren_Open.W (a0p : Option Addr) (a1k : Int) (R : Bool → Heap → Prop) (H0 : Heap) : Prop :=
  brW (Option.isNone (a0p)) (R false H0) (∃ x11 : Addr, a0p = some x11 ∧
  ∃ x13 : Option Addr, hcell H0 (x11.add 0) = some (.pointer x13) ∧ bits_Bits_Get.C (x13) (a1k) H0 fun x15_0 x15_1 H1 => R (x15_0) H1)
theorem paren_Paren_Open.eq (a0p : Option Addr) (a1k : Int) (R : Bool → Heap → Prop) (H0 : Heap) :
    evF Tryd.prog paren_Paren_Open.ann Tryd.f22 [.pointer a0p, .int .i64 a1k] (fun v H' => xS (.one .bool) v fun r => R r H') H0 = paren_Paren_Open.W a0p a1k R H0 := by kernel_rfl
theorem paren_Paren_Open.calls {a0p : Option Addr} {a1k : Int} {R : Bool → Heap → Prop} {H0 : Heap} (h : paren_Paren_Open.W a0p a1k R H0) : paren_Paren_Open.C a0p a1k H0 R :=
  (evF_sound progOk_ Tryd.func22 (by rw [paren_Paren_Open.eq]; exact h)).mono fun v H' h => by obtain ⟨x, hv, hk⟩ := xS_out h; exact ⟨x, hv, hk⟩

def paren_Paren_Len.ann : Ann := { ord := fun _ => [], loop := fun _ => none, join := fun _ => none }
/-- (*bracken.paren.Paren).Len -/
def paren_Paren_Len.W (a0p : Option Addr) (R : Int → Heap → Prop) (H0 : Heap) : Prop :=
  brW (Option.isNone (a0p)) (R (0) H0) (∃ x6 : Addr, a0p = some x6 ∧
  ∃ x8 : Option Addr, hcell H0 (x6.add 0) = some (.pointer x8) ∧ bits_Bits_Len.C (x8) H0 fun x9 H1 => R (x9) H1)
theorem paren_Paren_Len.eq (a0p : Option Addr) (R : Int → Heap → Prop) (H0 : Heap) :
    evF Tryd.prog paren_Paren_Len.ann Tryd.f26 [.pointer a0p] (fun v H' => xS (.one (.int .i64)) v fun r => R r H') H0 = paren_Paren_Len.W a0p R H0 := by kernel_rfl
theorem paren_Paren_Len.calls {a0p : Option Addr} {R : Int → Heap → Prop} {H0 : Heap} (h : paren_Paren_Len.W a0p R H0) : paren_Paren_Len.C a0p H0 R :=
  (evF_sound progOk_ Tryd.func26 (by rw [paren_Paren_Len.eq]; exact h)).mono fun v H' h => by obtain ⟨x, hv, hk⟩ := xS_out h; exact ⟨x, hv, hk⟩

def bits_Bits_Rank.ann : Ann := { ord := fun i => bif Nat.beq i 5 then [0, 1, 2, 3, 4, 5, 6, 7, 8, 9, 10, 11, 12] else [], loop := fun _ => none, join := fun i => bif Nat.beq i 8 then some [(8, .one (.int .i64))] else none }
/-- (*bracken.bits.Bits).Rank -/
def bits_Bits_Rank.W (a0b : Option Addr) (a1k : Int) (a2bit : Bool) (R : Int → Heap → Prop) (H0 : Heap) : Prop :=
  bits_Bits_Len.C (a0b) H0 fun x12 H1 =>
  letV (min (max a1k 0) x12) fun k1 : Int =>
  brW (decide (k1 = 0)) (R (0) H1) ((64 : Int) ≠ 0 ∧ bits_Bits_at.C (a0b) (IntKind.i64.wrap (Int.tdiv k1 64)) H1 fun x19_0 x19_1 H2 =>
  letV (hnew H2 #[.int .u64 0, .int .i64 0] ty_bits_part) fun H3 : Heap => (∃ u, hcell H3 ((⟨Array.size H2, 0, none⟩ : Addr).add 0) = some u) ∧ hfrozen H3 ((⟨Array.size H2, 0, none⟩ : Addr).add 0) = false ∧
  letV (hset H3 ((⟨Array.size H2, 0, none⟩ : Addr).add 0) (.int .u64 x19_0)) fun H5 : Heap => (∃ u, hcell H5 ((⟨Array.size H2, 0, none⟩ : Addr).add 1) = some u) ∧ hfrozen H5 ((⟨Array.size H2, 0, none⟩ : Addr).add 1) = false ∧
  letV (hset H5 ((⟨Array.size H2, 0, none⟩ : Addr).add 1) (.int .i64 x19_1)) fun H6 : Heap =>
  ∃ x21 : Int, hcell H6 ((⟨Array.size H2, 0, none⟩ : Addr).add 1) = some (.int .i64 x21) ∧
  ∃ x23 : Int, hcell H6 ((⟨Array.size H2, 0, none⟩ : Addr).add 0) = some (.int .u64 x23) ∧ (64 : Int) ≠ 0 ∧ 0 ≤ (IntKind.u64.wrap (Int.tmod k1 64)) ∧ bits_OnesCount64.C (andW .u64 x23 (IntKind.u64.wrap ((shlW .u64 1 (IntKind.u64.wrap (Int.tmod k1 64))) - 1))) H6 fun x30 H7 => (∃ x21s : Int, hcell H7 ((⟨Array.size H2, 0, none⟩ : Addr).add 1) = some (.int .i64 x21s) ∧ (.int .i64 x21s : Value) = .int .i64 x21) ∧
  letV (IntKind.i64.wrap (x21 + x30)) fun n8 : Int => 
  JoinW (S := (Int × Unit)) (fun J8 =>
  brW (!a2bit) (letV (IntKind.i64.wrap (k1 - n8)) fun n8 : Int => J8 ((n8 : Int), ()) H7) (J8 ((n8 : Int), ()) H7))
  (fun s8 H8 => (fun (n8 : Int) => R (n8) H8) s8.1))
theorem bits_Bits_Rank.eq (a0b : Option Addr) (a1k : Int) (a2bit : Bool) (R : Int → Heap → Prop) (H0 : Heap) :
    evF Tryd.prog bits_Bits_Rank.ann Tryd.f41 [.pointer a0b, .int .i64 a1k, .bool a2bit] (fun v H' => xS (.one (.int .i64)) v fun r => R r H') H0 = bits_Bits_Rank.W a0b a1k a2bit R H0 := by kernel_rfl
theorem bits_Bits_Rank.calls {a0b : Option Addr} {a1k : Int} {a2bit : Bool} {R : Int → Heap → Prop} {H0 : Heap} (h : bits_Bits_Rank.W a0b a1k a2bit R H0) : bits_Bits_Rank.C a0b a1k a2bit H0 R :=
  (evF_sound progOk_ Tryd.func41 (by rw [bits_Bits_Rank.eq]; exact h)).mono fun v H' h => by obtain ⟨x, hv, hk⟩ := xS_out h; exact ⟨x, hv, hk⟩

def paren_Paren_upto.ann : Ann := { ord := fun _ => [], loop := fun _ => none, join := fun _ => none }
/-- (*bracken.paren.Paren).upto -/
def paren_Paren_upto.W (a0p : Option Addr) (a1k : Int) (R : Int → Heap → Prop) (H0 : Heap) : Prop :=
  ∃ x6 : Addr, a0p = some x6 ∧
  ∃ x8 : Option Addr, hcell H0 (x6.add 0) = some (.pointer x8) ∧ bits_Bits_Rank.C (x8) (IntKind.i64.wrap (a1k + 1)) true H0 fun x11 H1 =>
  letV (IntKind.i64.wrap ((IntKind.i64.wrap ((IntKind.i64.wrap (2 * x11)) - a1k)) - 1)) fun x4 : Int => R (x4) H1
theorem paren_Paren_upto.eq (a0p : Option Addr) (a1k : Int) (R : Int → Heap → Prop) (H0 : Heap) :
    evF Tryd.prog paren_Paren_upto.ann Tryd.f38 [.pointer a0p, .int .i64 a1k] (fun v H' => xS (.one (.int .i64)) v fun r => R r H') H0 = paren_Paren_upto.W a0p a1k R H0 := by kernel_rfl
theorem paren_Paren_upto.calls {a0p : Option Addr} {a1k : Int} {R : Int → Heap → Prop} {H0 : Heap} (h : paren_Paren_upto.W a0p a1k R H0) : paren_Paren_upto.C a0p a1k H0 R :=
  (evF_sound progOk_ Tryd.func38 (by rw [paren_Paren_upto.eq]; exact h)).mono fun v H' h => by obtain ⟨x, hv, hk⟩ := xS_out h; exact ⟨x, hv, hk⟩

def paren_Paren_ahead.ann : Ann := { ord := fun _ => [], loop := fun i => bif Nat.beq i 4 then some [(7, .one (.int .i64)), (8, .one (.int .i64))] else none, join := fun i => bif Nat.beq i 5 then some [(7, .one (.int .i64))] else bif Nat.beq i 9 then some [(7, .one (.int .i64))] else bif Nat.beq i 11 then some [] else none }
/-- (*bracken.paren.Paren).ahead -/
def paren_Paren_ahead.W (a0p : Option Addr) (a1k : Int) (a2to : Int) (R : Int → Heap → Prop) (H0 : Heap) : Prop :=
  ∃ x10 : Addr, a0p = some x10 ∧
  ∃ x12 : Int, hcell H0 (x10.add 3) = some (.int .i64 x12) ∧
  ∃ x14 : Addr, a0p = some x14 ∧ (∃ u, hcell H0 (x14.add 3) = some u) ∧ hfrozen H0 (x14.add 3) = false ∧
  letV (hset H0 (x14.add 3) (.int .i64 (IntKind.i64.wrap (x12 + 1)))) fun H1 : Heap =>
  paren_Paren_upto.C (a0p) (a1k) H1 fun x18 H2 => 
  JoinW (S := Unit) (fun J11 =>
  letV (IntKind.i64.wrap (a1k + 1)) fun i8 : Int => 
  LoopW (S := (Int × Int × Unit)) (fun L4 q4 H4 => (fun (n7 : Int) (i8 : Int) => (64 : Int) ≠ 0 ∧ paren_Paren_Len.C (a0p) H4 fun x27 H5 =>
  brW (decide (i8 < (min (IntKind.i64.wrap ((IntKind.i64.wrap ((IntKind.i64.wrap (Int.tdiv a1k 64)) + 1)) * 64)) x27))) (
  JoinW (S := (Int × Unit)) (fun J5 => 
  JoinW (S := (Int × Unit)) (fun J9 =>
  letV (IntKind.i64.wrap (n7 - 1)) fun n7 : Int =>
  paren_Paren_Open.C (a0p) (i8) H5 fun x36 H8 =>
  brW x36 (letV (IntKind.i64.wrap (n7 + 2)) fun n7 : Int => J9 ((n7 : Int), ()) H8) (J9 ((n7 : Int), ()) H8))
  (fun s9 H7 => (fun (n7 : Int) =>
  brW (decide (n7 = a2to)) (R (i8) H7) (J5 ((n7 : Int), ()) H7)) s9.1))
  (fun s5 H6 => (fun (n7 : Int) =>
  letV (IntKind.i64.wrap (i8 + 1)) fun i8 : Int => L4 ((n7 : Int), (i8 : Int), ()) H6) s5.1)) (J11 () H5)) q4.1 q4.2.1) ((x18 : Int), (i8 : Int), ()) H2)
  (fun _ H3 => R (-1) H3)
theorem paren_Paren_ahead.eq (a0p : Option Addr) (a1k : Int) (a2to : Int) (R : Int → Heap → Prop) (H0 : Heap) :
    evF Tryd.prog paren_Paren_ahead.ann Tryd.f49 [.pointer a0p, .int .i64 a1k, .int .i64 a2to] (fun v H' => xS (.one (.int .i64)) v fun r => R r H') H0 = paren_Paren_ahead.W a0p a1k a2to R H0 := by kernel_rfl
theorem paren_Paren_ahead.calls {a0p : Option Addr} {a1k : Int} {a2to : Int} {R : Int → Heap → Prop} {H0 : Heap} (h : paren_Paren_ahead.W a0p a1k a2to R H0) : paren_Paren_ahead.C a0p a1k a2to H0 R :=
  (evF_sound progOk_ Tryd.func49 (by rw [paren_Paren_ahead.eq]; exact h)).mono fun v H' h => by obtain ⟨x, hv, hk⟩ := xS_out h; exact ⟨x, hv, hk⟩

def paren_Paren_low.ann : Ann := { ord := fun _ => [], loop := fun _ => none, join := fun _ => none }
/-- (*bracken.paren.Paren).low -/
def paren_Paren_low.W (a0p : Option Addr) (a1node : Int) (a2to : Int) (R : Bool → Heap → Prop) (H0 : Heap) : Prop :=
  ∃ x10 : Addr, a0p = some x10 ∧
  ∃ x12 : Int, hcell H0 (x10.add 3) = some (.int .i64 x12) ∧
  ∃ x14 : Addr, a0p = some x14 ∧ (∃ u, hcell H0 (x14.add 3) = some u) ∧ hfrozen H0 (x14.add 3) = false ∧
  letV (hset H0 (x14.add 3) (.int .i64 (IntKind.i64.wrap (x12 + 1)))) fun H1 : Heap =>
  ∃ x18 : Addr, a0p = some x18 ∧
  ∃ x20 : Value, hcell H1 (x18.add 1) = some (x20) ∧
  ∃ (x21_p : Option Addr) (x21_l x21_c : Nat), ∃ x21ok : Bool, TaRel (x20) ty_s_int (.slice x21_p x21_l x21_c) (.slice none 0 0) x21ok ∧
  ∃ x26 : Addr, x21_p = some x26 ∧ 0 ≤ a1node ∧ a1node < (x21_l : Int) ∧
  ∃ x27 : Int, hcell H1 (x26.add a1node.toNat) = some (.int .i64 x27) ∧ R (decide (x27 ≤ a2to)) H1
theorem paren_Paren_low.eq (a0p : Option Addr) (a1node : Int) (a2to : Int) (R : Bool → Heap → Prop) (H0 : Heap) :
    evF Tryd.prog paren_Paren_low.ann Tryd.f50 [.pointer a0p, .int .i64 a1node, .int .i64 a2to] (fun v H' => xS (.one .bool) v fun r => R r H') H0 = paren_Paren_low.W a0p a1node a2to R H0 := by kernel_rfl
theorem paren_Paren_low.calls {a0p : Option Addr} {a1node : Int} {a2to : Int} {R : Bool → Heap → Prop} {H0 : Heap} (h : paren_Paren_low.W a0p a1node a2to R H0) : paren_Paren_low.C a0p a1node a2to H0 R :=
  (evF_sound progOk_ Tryd.func50 (by rw [paren_Paren_low.eq]; exact h)).mono fun v H' h => by obtain ⟨x, hv, hk⟩ := xS_out h; exact ⟨x, hv, hk⟩

def paren_Paren_forward.ann : Ann := { ord := fun _ => [], loop := fun i => bif Nat.beq i 5 then some [(8, .one (.int .i64))] else bif Nat.beq i 11 then some [(8, .one (.int .i64))] else bif Nat.beq i 18 then some [(10, .one (.int .i64)), (11, .one (.int .i64))] else none, join := fun i => bif Nat.beq i 9 then some [(8, .one (.int .i64))] else bif Nat.beq i 11 then some [(8, .one (.int .i64))] else bif Nat.beq i 15 then some [(8, .one (.int .i64))] else bif Nat.beq i 19 then some [(10, .one (.int .i64))] else bif Nat.beq i 23 then some [(10, .one (.int .i64))] else bif Nat.beq i 25 then some [] else none }
/-- (*bracken.paren.Paren).forward -/
def paren_Paren_forward.W (a0p : Option Addr) (a1k : Int) (a2to : Int) (R : Int → Heap → Prop) (H0 : Heap) : Prop :=
  paren_Paren_ahead.C (a0p) (a1k) (a2to) H0 fun x15 H1 =>
  brW (decide ((0 : Int) ≤ x15)) (R (x15) H1) (∃ x20 : Addr, a0p = some x20 ∧
  ∃ x22 : Int, hcell H1 (x20.add 2) = some (.int .i64 x22) ∧ (64 : Int) ≠ 0 ∧
  letV (IntKind.i64.wrap (x22 + (IntKind.i64.wrap (Int.tdiv a1k 64)))) fun node8 : Int => 
  JoinW (S := (Int × Unit)) (fun J11 => 
  LoopW (S := (Int × Unit)) (fun L5 q5 H3 => (fun (node8 : Int) => 
  JoinW (S := (Int × Unit)) (fun J9 => 
  LoopW (S := (Int × Unit)) (fun L5 q5 H5 => (fun (node8 : Int) => (2 : Int) ≠ 0 ∧
  brW (decide ((Int.tmod node8 2) = 1)) (brW (decide (node8 = 1)) (R (-1) H5) ((2 : Int) ≠ 0 ∧
  letV (IntKind.i64.wrap (Int.tdiv node8 2)) fun node8 : Int => L5 ((node8 : Int), ()) H5)) (J9 ((node8 : Int), ()) H5)) q5.1) ((node8 : Int), ()) H3)
  (fun s9 H4 => (fun (node8 : Int) =>
  letV (IntKind.i64.wrap (node8 + 1)) fun node8 : Int =>
  paren_Paren_low.C (a0p) (node8) (a2to) H4 fun x38 H6 =>
  brW x38 (J11 ((node8 : Int), ()) H6) (L5 ((node8 : Int), ()) H6)) s9.1)) q5.1) ((node8 : Int), ()) H1)
  (fun s11 H2 => (fun (node8 : Int) => 
  JoinW (S := (Int × Unit)) (fun J15 => 
  LoopW (S := (Int × Unit)) (fun L11 q11 H8 => (fun (node8 : Int) =>
  ∃ x41 : Addr, a0p = some x41 ∧
  ∃ x43 : Int, hcell H8 (x41.add 2) = some (.int .i64 x43) ∧
  brW (decide (node8 < x43)) (letV (IntKind.i64.wrap (node8 * 2)) fun node8 : Int =>
  paren_Paren_low.C (a0p) (node8) (a2to) H8 fun x50 H9 =>
  brW (!x50) (letV (IntKind.i64.wrap (node8 + 1)) fun node8 : Int => L11 ((node8 : Int), ()) H9) (L11 ((node8 : Int), ()) H9)) (J15 ((node8 : Int), ()) H8)) q11.1) ((node8 : Int), ()) H2)
  (fun s15 H7 => (fun (node8 : Int) =>
  ∃ x56 : Addr, a0p = some x56 ∧
  ∃ x58 : Int, hcell H7 (x56.add 2) = some (.int .i64 x58) ∧
  letV (IntKind.i64.wrap ((IntKind.i64.wrap (node8 - x58)) * 64)) fun from9 : Int =>
  paren_Paren_upto.C (a0p) (IntKind.i64.wrap (from9 - 1)) H7 fun x64 H10 => 
  JoinW (S := Unit) (fun J25 => 
  LoopW (S := (Int × Int × Unit)) (fun L18 q18 H12 => (fun (n10 : Int) (i11 : Int) =>
  paren_Paren_Len.C (a0p) H12 fun x70 H13 =>
  brW (decide (i11 < (min (IntKind.i64.wrap (from9 + 64)) x70))) (
  JoinW (S := (Int × Unit)) (fun J19 => 
  JoinW (S := (Int × Unit)) (fun J23 =>
  letV (IntKind.i64.wrap (n10 - 1)) fun n10 : Int =>
  paren_Paren_Open.C (a0p) (i11) H13 fun x79 H16 =>
  brW x79 (letV (IntKind.i64.wrap (n10 + 2)) fun n10 : Int => J23 ((n10 : Int), ()) H16) (J23 ((n10 : Int), ()) H16))
  (fun s23 H15 => (fun (n10 : Int) =>
  brW (decide (n10 = a2to)) (R (i11) H15) (J19 ((n10 : Int), ()) H15)) s23.1))
  (fun s19 H14 => (fun (n10 : Int) =>
  letV (IntKind.i64.wrap (i11 + 1)) fun i11 : Int => L18 ((n10 : Int), (i11 : Int), ()) H14) s19.1)) (J25 () H13)) q18.1 q18.2.1) ((x64 : Int), (from9 : Int), ()) H10)
  (fun _ H11 => R (-1) H11)) s15.1)) s11.1))
theorem paren_Paren_forward.eq (a0p : Option Addr) (a1k : Int) (a2to : Int) (R : Int → Heap → Prop) (H0 : Heap) :
    evF Tryd.prog paren_Paren_forward.ann Tryd.f37 [.pointer a0p, .int .i64 a1k, .int .i64 a2to] (fun v H' => xS (.one (.int .i64)) v fun r => R r H') H0 = paren_Paren_forward.W a0p a1k a2to R H0 := by kernel_rfl
theorem paren_Paren_forward.calls {a0p : Option Addr} {a1k : Int} {a2to : Int} {R : Int → Heap → Prop} {H0 : Heap} (h : paren_Paren_forward.W a0p a1k a2to R H0) : paren_Paren_forward.C a0p a1k a2to H0 R :=
  (evF_sound progOk_ Tryd.func37 (by rw [paren_Paren_forward.eq]; exact h)).mono fun v H' h => by obtain ⟨x, hv, hk⟩ := xS_out h; exact ⟨x, hv, hk⟩

def paren_Paren_Close.ann : Ann := { ord := fun _ => [], loop := fun _ => none, join := fun _ => none }
/-- (*bracken.paren.Paren).Close -/
def paren_Paren_Close.W (a0p : Option Addr) (a1k : Int) (R : Int → Heap → Prop) (H0 : Heap) : Prop :=
  brW (Option.isNone (a0p)) (R (-1) H0) (∃ x8 : Addr, a0p = some x8 ∧ (∃ u, hcell H0 (x8.add 3) = some u) ∧ hfrozen H0 (x8.add 3) = false ∧
  letV (hset H0 (x8.add 3) (.int .i64 0)) fun H1 : Heap =>
  paren_Paren_Open.C (a0p) (a1k) H1 fun x12 H2 =>
  brW (!x12) (R (-1) H2) (paren_Paren_upto.C (a0p) (a1k) H2 fun x18 H3 =>
  paren_Paren_forward.C (a0p) (a1k) (IntKind.i64.wrap (x18 - 1)) H3 fun x20 H4 => R (x20) H4))
theorem paren_Paren_Close.eq (a0p : Option Addr) (a1k : Int) (R : Int → Heap → Prop) (H0 : Heap) :
    evF Tryd.prog paren_Paren_Close.ann Tryd.f13 [.pointer a0p, .int .i64 a1k] (fun v H' => xS (.one (.int .i64)) v fun r => R r H') H0 = paren_Paren_Close.W a0p a1k R H0 := by kernel_rfl
theorem paren_Paren_Close.calls {a0p : Option Addr} {a1k : Int} {R : Int → Heap → Prop} {H0 : Heap} (h : paren_Paren_Close.W a0p a1k R H0) : paren_Paren_Close.C a0p a1k H0 R :=
  (evF_sound progOk_ Tryd.func13 (by rw [paren_Paren_Close.eq]; exact h)).mono fun v H' h => by obtain ⟨x, hv, hk⟩ := xS_out h; exact ⟨x, hv, hk⟩

def paren_Paren_closes.ann : Ann := { ord := fun _ => [], loop := fun _ => none, join := fun _ => none }
/-- (*bracken.paren.Paren).closes -/
def paren_Paren_closes.W (a0p : Option Addr) (a1k : Int) (R : Bool → Heap → Prop) (H0 : Heap) : Prop :=
  brW (decide ((0 : Int) ≤ a1k)) (paren_Paren_Len.C (a0p) H0 fun x10 H1 =>
  brW (decide (a1k < x10)) (paren_Paren_Open.C (a0p) (a1k) H1 fun x16 H2 => R (!x16) H2) (R false H1)) (R false H0)
theorem paren_Paren_closes.eq (a0p : Option Addr) (a1k : Int) (R : Bool → Heap → Prop) (H0 : Heap) :
    evF Tryd.prog paren_Paren_closes.ann Tryd.f39 [.pointer a0p, .int .i64 a1k] (fun v H' => xS (.one .bool) v fun r => R r H') H0 = paren_Paren_closes.W a0p a1k R H0 := by kernel_rfl
theorem paren_Paren_closes.calls {a0p : Option Addr} {a1k : Int} {R : Bool → Heap → Prop} {H0 : Heap} (h : paren_Paren_closes.W a0p a1k R H0) : paren_Paren_closes.C a0p a1k H0 R :=
  (evF_sound progOk_ Tryd.func39 (by rw [paren_Paren_closes.eq]; exact h)).mono fun v H' h => by obtain ⟨x, hv, hk⟩ := xS_out h; exact ⟨x, hv, hk⟩

def paren_Paren_behind.ann : Ann := { ord := fun _ => [], loop := fun i => bif Nat.beq i 4 then some [(9, .one (.int .i64)), (10, .one (.int .i64))] else none, join := fun i => bif Nat.beq i 5 then some [(9, .one (.int .i64))] else bif Nat.beq i 9 then some [(9, .one (.int .i64))] else bif Nat.beq i 11 then some [] else none }
/-- (*bracken.paren.Paren).behind -/
def paren_Paren_behind.W (a0p : Option Addr) (a1k : Int) (a2from : Int) (a3to : Int) (R : Int → Heap → Prop) (H0 : Heap) : Prop :=
  ∃ x12 : Addr, a0p = some x12 ∧
  ∃ x14 : Int, hcell H0 (x12.add 3) = some (.int .i64 x14) ∧
  ∃ x16 : Addr, a0p = some x16 ∧ (∃ u, hcell H0 (x16.add 3) = some u) ∧ hfrozen H0 (x16.add 3) = false ∧
  letV (hset H0 (x16.add 3) (.int .i64 (IntKind.i64.wrap (x14 + 1)))) fun H1 : Heap =>
  paren_Paren_upto.C (a0p) (a1k) H1 fun x20 H2 => 
  JoinW (S := Unit) (fun J11 =>
  letV (IntKind.i64.wrap (a1k - 1)) fun i10 : Int => 
  LoopW (S := (Int × Int × Unit)) (fun L4 q4 H4 => (fun (n9 : Int) (i10 : Int) =>
  brW (decide (a2from ≤ i10)) (
  JoinW (S := (Int × Unit)) (fun J5 => 
  JoinW (S := (Int × Unit)) (fun J9 =>
  letV (IntKind.i64.wrap (n9 + 1)) fun n9 : Int =>
  paren_Paren_Open.C (a0p) (IntKind.i64.wrap (i10 + 1)) H4 fun x33 H7 =>
  brW x33 (letV (IntKind.i64.wrap (n9 - 2)) fun n9 : Int => J9 ((n9 : Int), ()) H7) (J9 ((n9 : Int), ()) H7))
  (fun s9 H6 => (fun (n9 : Int) =>
  brW (decide (n9 = a3to)) (R (i10) H6) (J5 ((n9 : Int), ()) H6)) s9.1))
  (fun s5 H5 => (fun (n9 : Int) =>
  letV (IntKind.i64.wrap (i10 - 1)) fun i10 : Int => L4 ((n9 : Int), (i10 : Int), ()) H5) s5.1)) (J11 () H4)) q4.1 q4.2.1) ((x20 : Int), (i10 : Int), ()) H2)
  (fun _ H3 => R (-2) H3)
theorem paren_Paren_behind.eq (a0p : Option Addr) (a1k : Int) (a2from : Int) (a3to : Int) (R : Int → Heap → Prop) (H0 : Heap) :
    evF Tryd.prog paren_Paren_behind.ann Tryd.f51 [.pointer a0p, .int .i64 a1k, .int .i64 a2from, .int .i64 a3to] (fun v H' => xS (.one (.int .i64)) v fun r => R r H') H0 = paren_Paren_behind.W a0p a1k a2from a3to R H0 := by kernel_rfl
theorem paren_Paren_behind.calls {a0p : Option Addr} {a1k : Int} {a2from : Int} {a3to : Int} {R : Int → Heap → Prop} {H0 : Heap} (h : paren_Paren_behind.W a0p a1k a2from a3to R H0) : paren_Paren_behind.C a0p a1k a2from a3to H0 R :=
  (evF_sound progOk_ Tryd.func51 (by rw [paren_Paren_behind.eq]; exact h)).mono fun v H' h => by obtain ⟨x, hv, hk⟩ := xS_out h; exact ⟨x, hv, hk⟩

def paren_Paren_backward.ann : Ann := { ord := fun _ => [], loop := fun i => bif Nat.beq i 5 then some [(8, .one (.int .i64))] else bif Nat.beq i 10 then some [(8, .one (.int .i64))] else none, join := fun i => bif Nat.beq i 7 then some [(8, .one (.int .i64))] else bif Nat.beq i 14 then some [(8, .one (.int .i64))] else bif Nat.beq i 16 then some [] else none }
/-- (*bracken.paren.Paren).backward -/
def paren_Paren_backward.W (a0p : Option Addr) (a1k : Int) (a2to : Int) (R : Int → Heap → Prop) (H0 : Heap) : Prop :=
  (64 : Int) ≠ 0 ∧ paren_Paren_behind.C (a0p) (a1k) (IntKind.i64.wrap ((IntKind.i64.wrap (Int.tdiv a1k 64)) * 64)) (a2to) H0 fun x16 H1 =>
  brW (decide ((0 : Int) ≤ x16)) (R (x16) H1) (∃ x21 : Addr, a0p = some x21 ∧
  ∃ x23 : Int, hcell H1 (x21.add 2) = some (.int .i64 x23) ∧ (64 : Int) ≠ 0 ∧
  letV (IntKind.i64.wrap (x23 + (IntKind.i64.wrap (Int.tdiv a1k 64)))) fun node8 : Int => 
  JoinW (S := Unit) (fun J16 => 
  LoopW (S := (Int × Unit)) (fun L5 q5 H3 => (fun (node8 : Int) => 
  JoinW (S := (Int × Unit)) (fun J7 => 
  LoopW (S := (Int × Unit)) (fun L5 q5 H5 => (fun (node8 : Int) => (2 : Int) ≠ 0 ∧
  brW (decide ((Int.tmod node8 2) = 0)) ((2 : Int) ≠ 0 ∧
  letV (IntKind.i64.wrap (Int.tdiv node8 2)) fun node8 : Int => L5 ((node8 : Int), ()) H5) (J7 ((node8 : Int), ()) H5)) q5.1) ((node8 : Int), ()) H3)
  (fun s7 H4 => (fun (node8 : Int) =>
  brW (decide (node8 = 1)) (J16 () H4) (letV (IntKind.i64.wrap (node8 - 1)) fun node8 : Int =>
  paren_Paren_low.C (a0p) (node8) (a2to) H4 fun x39 H6 =>
  brW x39 (
  JoinW (S := (Int × Unit)) (fun J14 => 
  LoopW (S := (Int × Unit)) (fun L10 q10 H8 => (fun (node8 : Int) =>
  ∃ x42 : Addr, a0p = some x42 ∧
  ∃ x44 : Int, hcell H8 (x42.add 2) = some (.int .i64 x44) ∧
  brW (decide (node8 < x44)) (letV (IntKind.i64.wrap ((IntKind.i64.wrap (2 * node8)) + 1)) fun node8 : Int =>
  paren_Paren_low.C (a0p) (node8) (a2to) H8 fun x52 H9 =>
  brW (!x52) (letV (IntKind.i64.wrap (node8 - 1)) fun node8 : Int => L10 ((node8 : Int), ()) H9) (L10 ((node8 : Int), ()) H9)) (J14 ((node8 : Int), ()) H8)) q10.1) ((node8 : Int), ()) H6)
  (fun s14 H7 => (fun (node8 : Int) =>
  ∃ x58 : Addr, a0p = some x58 ∧
  ∃ x60 : Int, hcell H7 (x58.add 2) = some (.int .i64 x60) ∧
  letV (IntKind.i64.wrap ((IntKind.i64.wrap ((IntKind.i64.wrap (node8 - x60)) + 1)) * 64)) fun end9 : Int =>
  paren_Paren_behind.C (a0p) (end9) (IntKind.i64.wrap (end9 - 64)) (a2to) H7 fun x69 H10 => R (x69) H10) s14.1)) (L5 ((node8 : Int), ()) H6))) s7.1)) q5.1) ((node8 : Int), ()) H1)
  (fun _ H2 =>
  brW (decide (a2to = 0)) (R (-1) H2) (R (-2) H2)))
theorem paren_Paren_backward.eq (a0p : Option Addr) (a1k : Int) (a2to : Int) (R : Int → Heap → Prop) (H0 : Heap) :
    evF Tryd.prog paren_Paren_backward.ann Tryd.f40 [.pointer a0p, .int .i64 a1k, .int .i64 a2to] (fun v H' => xS (.one (.int .i64)) v fun r => R r H') H0 = paren_Paren_backward.W a0p a1k a2to R H0 := by kernel_rfl
theorem paren_Paren_backward.calls {a0p : Option Addr} {a1k : Int} {a2to : Int} {R : Int → Heap → Prop} {H0 : Heap} (h : paren_Paren_backward.W a0p a1k a2to R H0) : paren_Paren_backward.C a0p a1k a2to H0 R :=
  (evF_sound progOk_ Tryd.func40 (by rw [paren_Paren_backward.eq]; exact h)).mono fun v H' h => by obtain ⟨x, hv, hk⟩ := xS_out h; exact ⟨x, hv, hk⟩

def paren_Paren_Begin.ann : Ann := { ord := fun _ => [], loop := fun _ => none, join := fun _ => none }
/-- (*bracken.paren.Paren).Begin -/
def paren_Paren_Begin.W (a0p : Option Addr) (a1k : Int) (R : Int → Heap → Prop) (H0 : Heap) : Prop :=
  brW (Option.isNone (a0p)) (R (-1) H0) (∃ x8 : Addr, a0p = some x8 ∧ (∃ u, hcell H0 (x8.add 3) = some u) ∧ hfrozen H0 (x8.add 3) = false ∧
  letV (hset H0 (x8.add 3) (.int .i64 0)) fun H1 : Heap =>
  paren_Paren_closes.C (a0p) (a1k) H1 fun x12 H2 =>
  brW (!x12) (R (-1) H2) (paren_Paren_upto.C (a0p) (a1k) H2 fun x18 H3 =>
  paren_Paren_backward.C (a0p) (a1k) (x18) H3 fun x19 H4 =>
  letV (max (IntKind.i64.wrap (x19 + 1)) (-1)) fun x4 : Int => R (x4) H4))
theorem paren_Paren_Begin.eq (a0p : Option Addr) (a1k : Int) (R : Int → Heap → Prop) (H0 : Heap) :
    evF Tryd.prog paren_Paren_Begin.ann Tryd.f14 [.pointer a0p, .int .i64 a1k] (fun v H' => xS (.one (.int .i64)) v fun r => R r H') H0 = paren_Paren_Begin.W a0p a1k R H0 := by kernel_rfl
theorem paren_Paren_Begin.calls {a0p : Option Addr} {a1k : Int} {R : Int → Heap → Prop} {H0 : Heap} (h : paren_Paren_Begin.W a0p a1k R H0) : paren_Paren_Begin.C a0p a1k H0 R :=
  (evF_sound progOk_ Tryd.func14 (by rw [paren_Paren_Begin.eq]; exact h)).mono fun v H' h => by obtain ⟨x, hv, hk⟩ := xS_out h; exact ⟨x, hv, hk⟩

def paren_Paren_Span.ann : Ann := { ord := fun _ => [], loop := fun _ => none, join := fun _ => none }
/-- (*bracken.paren.Paren).Span -/
def paren_Paren_Span.W (a0p : Option Addr) (a1k : Int) (R : Int → Heap → Prop) (H0 : Heap) : Prop :=
  paren_Paren_Open.C (a0p) (a1k) H0 fun x7 H1 =>
  brW (!x7) (R (0) H1) (paren_Paren_Close.C (a0p) (a1k) H1 fun x11 H2 => (2 : Int) ≠ 0 ∧
  letV (IntKind.i64.wrap (Int.tdiv (IntKind.i64.wrap ((IntKind.i64.wrap (x11 - a1k)) + 1)) 2)) fun x4 : Int => R (x4) H2)
theorem paren_Paren_Span.eq (a0p : Option Addr) (a1k : Int) (R : Int → Heap → Prop) (H0 : Heap) :
    evF Tryd.prog paren_Paren_Span.ann Tryd.f15 [.pointer a0p, .int .i64 a1k] (fun v H' => xS (.one (.int .i64)) v fun r => R r H') H0 = paren_Paren_Span.W a0p a1k R H0 := by kernel_rfl
theorem paren_Paren_Span.calls {a0p : Option Addr} {a1k : Int} {R : Int → Heap → Prop} {H0 : Heap} (h : paren_Paren_Span.W a0p a1k R H0) : paren_Paren_Span.C a0p a1k H0 R :=
  (evF_sound progOk_ Tryd.func15 (by rw [paren_Paren_Span.eq]; exact h)).mono fun v H' h => by obtain ⟨x, hv, hk⟩ := xS_out h; exact ⟨x, hv, hk⟩

def paren_Paren_Number.ann : Ann := { ord := fun _ => [], loop := fun _ => none, join := fun _ => none }
/-- (*bracken.paren.Paren).Number -/
def paren_Paren_Number.W (a0p : Option Addr) (a1k : Int) (R : Int → Heap → Prop) (H0 : Heap) : Prop :=
  paren_Paren_Open.C (a0p) (a1k) H0 fun x7 H1 =>
  brW (!x7) (R (-1) H1) (∃ x10 : Addr, a0p = some x10 ∧
  ∃ x12 : Option Addr, hcell H1 (x10.add 0) = some (.pointer x12) ∧ bits_Bits_Rank.C (x12) (a1k) true H1 fun x14 H2 => R (x14) H2)
theorem paren_Paren_Number.eq (a0p : Option Addr) (a1k : Int) (R : Int → Heap → Prop) (H0 : Heap) :
    evF Tryd.prog paren_Paren_Number.ann Tryd.f16 [.pointer a0p, .int .i64 a1k] (fun v H' => xS (.one (.int .i64)) v fun r => R r H') H0 = paren_Paren_Number.W a0p a1k R H0 := by kernel_rfl
theorem paren_Paren_Number.calls {a0p : Option Addr} {a1k : Int} {R : Int → Heap → Prop} {H0 : Heap} (h : paren_Paren_Number.W a0p a1k R H0) : paren_Paren_Number.C a0p a1k H0 R :=
  (evF_sound progOk_ Tryd.func16 (by rw [paren_Paren_Number.eq]; exact h)).mono fun v H' h => by obtain ⟨x, hv, hk⟩ := xS_out h; exact ⟨x, hv, hk⟩

def paren_Paren_Excess.ann : Ann := { ord := fun _ => [], loop := fun _ => none, join := fun i => bif Nat.beq i 2 then some [(12, .one .bool)] else bif Nat.beq i 3 then some [] else none }
/-- (*bracken.paren.Paren).Excess -/
def paren_Paren_Excess.W (a0p : Option Addr) (a1k : Int) (R : Int → Heap → Prop) (H0 : Heap) : Prop :=
  
  JoinW (S := Unit) (fun J3 => 
  JoinW (S := (Bool × Unit)) (fun J2 =>
  brW (decide (a1k < 0)) (J2 (true, ()) H0) (paren_Paren_Len.C (a0p) H0 fun x10 H3 => J2 (decide (x10 ≤ a1k), ()) H3))
  (fun s2 H2 => (fun (x12 : Bool) =>
  brW x12 (R (-1) H2) (J3 () H2)) s2.1))
  (fun _ H1 =>
  paren_Paren_upto.C (a0p) (a1k) H1 fun x15 H4 => R (x15) H4)
theorem paren_Paren_Excess.eq (a0p : Option Addr) (a1k : Int) (R : Int → Heap → Prop) (H0 : Heap) :
    evF Tryd.prog paren_Paren_Excess.ann Tryd.f17 [.pointer a0p, .int .i64 a1k] (fun v H' => xS (.one (.int .i64)) v fun r => R r H') H0 = paren_Paren_Excess.W a0p a1k R H0 := by kernel_rfl
theorem paren_Paren_Excess.calls {a0p : Option Addr} {a1k : Int} {R : Int → Heap → Prop} {H0 : Heap} (h : paren_Paren_Excess.W a0p a1k R H0) : paren_Paren_Excess.C a0p a1k H0 R :=
  (evF_sound progOk_ Tryd.func17 (by rw [paren_Paren_Excess.eq]; exact h)).mono fun v H' h => by obtain ⟨x, hv, hk⟩ := xS_out h; exact ⟨x, hv, hk⟩

def paren_Paren_Up.ann : Ann := { ord := fun _ => [], loop := fun _ => none, join := fun i => bif Nat.beq i 5 then some [(26, .one .bool)] else bif Nat.beq i 6 then some [] else none }
/-- (*bracken.paren.Paren).Up -/
def paren_Paren_Up.W (a0p : Option Addr) (a1k : Int) (a2n : Int) (R : Int → Heap → Prop) (H0 : Heap) : Prop :=
  brW (Option.isNone (a0p)) (R (-1) H0) (∃ x10 : Addr, a0p = some x10 ∧ (∃ u, hcell H0 (x10.add 3) = some u) ∧ hfrozen H0 (x10.add 3) = false ∧
  letV (hset H0 (x10.add 3) (.int .i64 0)) fun H1 : Heap => 
  JoinW (S := Unit) (fun J6 => 
  JoinW (S := (Bool × Unit)) (fun J5 =>
  paren_Paren_Open.C (a0p) (a1k) H1 fun x14 H4 =>
  brW (!x14) (J5 (true, ()) H4) (brW (decide (a2n < 0)) (J5 (true, ()) H4) (paren_Paren_upto.C (a0p) (a1k) H4 fun x24 H5 => J5 (decide (x24 ≤ a2n), ()) H5)))
  (fun s5 H3 => (fun (x26 : Bool) =>
  brW x26 (R (-1) H3) (J6 () H3)) s5.1))
  (fun _ H2 =>
  brW (decide (a2n = 0)) (R (a1k) H2) (paren_Paren_upto.C (a0p) (a1k) H2 fun x34 H6 =>
  paren_Paren_backward.C (a0p) (a1k) (IntKind.i64.wrap ((IntKind.i64.wrap (x34 - 1)) - a2n)) H6 fun x38 H7 =>
  letV (IntKind.i64.wrap (x38 + 1)) fun x6 : Int => R (x6) H7)))
theorem paren_Paren_Up.eq (a0p : Option Addr) (a1k : Int) (a2n : Int) (R : Int → Heap → Prop) (H0 : Heap) :
    evF Tryd.prog paren_Paren_Up.ann Tryd.f18 [.pointer a0p, .int .i64 a1k, .int .i64 a2n] (fun v H' => xS (.one (.int .i64)) v fun r => R r H') H0 = paren_Paren_Up.W a0p a1k a2n R H0 := by kernel_rfl
theorem paren_Paren_Up.calls {a0p : Option Addr} {a1k : Int} {a2n : Int} {R : Int → Heap → Prop} {H0 : Heap} (h : paren_Paren_Up.W a0p a1k a2n R H0) : paren_Paren_Up.C a0p a1k a2n H0 R :=
  (evF_sound progOk_ Tryd.func18 (by rw [paren_Paren_Up.eq]; exact h)).mono fun v H' h => by obtain ⟨x, hv, hk⟩ := xS_out h; exact ⟨x, hv, hk⟩

def bits_TrailingZeros64.ann : Ann := { ord := fun _ => [], loop := fun _ => none, join := fun _ => none }
/-- math.bits.TrailingZeros64 -/
def bits_TrailingZeros64.W (a0x : Int) (R : Int → Heap → Prop) (H0 : Heap) : Prop :=
  brW (decide (a0x = 0)) (R (64) H0) (0 ≤ (58 : Int) ∧ 0 ≤ shrW .u64 (IntKind.u64.wrap ((andW .u64 a0x (IntKind.u64.wrap (0 - a0x))) * 285870213051353865)) 58 ∧ shrW .u64 (IntKind.u64.wrap ((andW .u64 a0x (IntKind.u64.wrap (0 - a0x))) * 285870213051353865)) 58 < ((64 : Nat) : Int) ∧
  ∃ x12 : Int, hcell H0 ((⟨gl_bits_deBruijn64tab, 0, none⟩ : Addr).add (mulSize (shrW .u64 (IntKind.u64.wrap ((andW .u64 a0x (IntKind.u64.wrap (0 - a0x))) * 285870213051353865)) 58).toNat 1)) = some (.int .u8 x12) ∧
  letV (IntKind.i64.wrap x12) fun x2 : Int => R (x2) H0)
theorem bits_TrailingZeros64.eq (a0x : Int) (R : Int → Heap → Prop) (H0 : Heap) :
    evF Tryd.prog bits_TrailingZeros64.ann Tryd.f53 [.int .u64 a0x] (fun v H' => xS (.one (.int .i64)) v fun r => R r H') H0 = bits_TrailingZeros64.W a0x R H0 := by kernel_rfl
theorem bits_TrailingZeros64.calls {a0x : Int} {R : Int → Heap → Prop} {H0 : Heap} (h : bits_TrailingZeros64.W a0x R H0) : bits_TrailingZeros64.C a0x H0 R :=
  (evF_sound progOk_ Tryd.func53 (by rw [bits_TrailingZeros64.eq]; exact h)).mono fun v H' h => by obtain ⟨x, hv, hk⟩ := xS_out h; exact ⟨x, hv, hk⟩

def bits_Bits_Select.ann : Ann := { ord := fun i => bif Nat.beq i 3 then [0, 1, 2, 3, 4, 5, 6, 7] else [], loop := fun i => bif Nat.beq i 4 then some [(7, .one (.int .i64)), (8, .one (.int .i64))] else bif Nat.beq i 13 then some [(10, .one (.int .u64)), (61, .one (.int .i64))] else none, join := fun i => bif Nat.beq i 2 then some [(21, .one .bool)] else bif Nat.beq i 3 then some [] else bif Nat.beq i 9 then some [(7, .one (.int .i64))] else bif Nat.beq i 12 then some [(10, .one (.int .u64))] else bif Nat.beq i 16 then some [(10, .one (.int .u64))] else none }
/-- (*bracken.bits.Bits).Select -/
def bits_Bits_Select.W (a0b : Option Addr) (a1j : Int) (a2bit : Bool) (R : Int → Heap → Prop) (H0 : Heap) : Prop :=
  
  JoinW (S := Unit) (fun J3 => 
  JoinW (S := (Bool × Unit)) (fun J2 =>
  brW (decide (a1j < 0)) (J2 (true, ()) H0) (bits_Bits_Len.C (a0b) H0 fun x17 H3 =>
  bits_Bits_Rank.C (a0b) (x17) (a2bit) H3 fun x19 H4 => J2 (decide (x19 ≤ a1j), ()) H4))
  (fun s2 H2 => (fun (x21 : Bool) =>
  brW x21 (R (-1) H2) (J3 () H2)) s2.1))
  (fun _ H1 =>
  ∃ x23 : Addr, a0b = some x23 ∧
  ∃ (x25_p : Option Addr) (x25_l x25_c : Nat), hcell H1 (x23.add 0) = some (.slice x25_p x25_l x25_c) ∧
  letV (IntKind.i64.wrap ((x25_l : Int) - 1)) fun hi8 : Int => 
  JoinW (S := (Int × Unit)) (fun J9 => 
  LoopW (S := (Int × Int × Unit)) (fun L4 q4 H6 => (fun (lo7 : Int) (hi8 : Int) =>
  brW (decide (lo7 < hi8)) ((2 : Int) ≠ 0 ∧
  letV (IntKind.i64.wrap (Int.tdiv (IntKind.i64.wrap ((IntKind.i64.wrap (lo7 + hi8)) + 1)) 2)) fun m9 : Int =>
  bits_Bits_Rank.C (a0b) (IntKind.i64.wrap (m9 * 64)) (a2bit) H6 fun x40 H7 =>
  brW (decide (x40 ≤ a1j)) (L4 ((m9 : Int), (hi8 : Int), ()) H7) (letV (IntKind.i64.wrap (m9 - 1)) fun hi8 : Int => L4 ((lo7 : Int), (hi8 : Int), ()) H7)) (J9 ((lo7 : Int), ()) H6)) q4.1 q4.2.1) ((0 : Int), (hi8 : Int), ()) H1)
  (fun s9 H5 => (fun (lo7 : Int) =>
  bits_Bits_at.C (a0b) (lo7) H5 fun x48_0 x48_1 H8 => 
  JoinW (S := (Int × Unit)) (fun J12 =>
  brW (!a2bit) (letV (notW .u64 x48_0) fun w10 : Int => J12 ((w10 : Int), ()) H8) (J12 ((x48_0 : Int), ()) H8))
  (fun s12 H9 => (fun (w10 : Int) => 
  JoinW (S := (Int × Unit)) (fun J16 =>
  bits_Bits_Rank.C (a0b) (IntKind.i64.wrap (lo7 * 64)) (a2bit) H9 fun x59 H11 => 
  LoopW (S := (Int × Int × Unit)) (fun L13 q13 H12 => (fun (w10 : Int) (x61 : Int) =>
  brW (decide (x61 < (IntKind.i64.wrap (a1j - x59)))) (letV (andW .u64 w10 (IntKind.u64.wrap (w10 - 1))) fun w10 : Int => L13 ((w10 : Int), (IntKind.i64.wrap (x61 + 1) : Int), ()) H12) (J16 ((w10 : Int), ()) H12)) q13.1 q13.2.1) ((w10 : Int), (0 : Int), ()) H11)
  (fun s16 H10 => (fun (w10 : Int) =>
  bits_TrailingZeros64.C (w10) H10 fun x71 H13 =>
  letV (IntKind.i64.wrap ((IntKind.i64.wrap (lo7 * 64)) + x71)) fun x6 : Int => R (x6) H13) s16.1)) s12.1)) s9.1))
theorem bits_Bits_Select.eq (a0b : Option Addr) (a1j : Int) (a2bit : Bool) (R : Int → Heap → Prop) (H0 : Heap) :
    evF Tryd.prog bits_Bits_Select.ann Tryd.f42 [.pointer a0b, .int .i64 a1j, .bool a2bit] (fun v H' => xS (.one (.int .i64)) v fun r => R r H') H0 = bits_Bits_Select.W a0b a1j a2bit R H0 := by kernel_rfl
theorem bits_Bits_Select.calls {a0b : Option Addr} {a1j : Int} {a2bit : Bool} {R : Int → Heap → Prop} {H0 : Heap} (h : bits_Bits_Select.W a0b a1j a2bit R H0) : bits_Bits_Select.C a0b a1j a2bit H0 R :=
  (evF_sound progOk_ Tryd.func42 (by rw [bits_Bits_Select.eq]; exact h)).mono fun v H' h => by obtain ⟨x, hv, hk⟩ := xS_out h; exact ⟨x, hv, hk⟩

def paren_Paren_Place.ann : Ann := { ord := fun _ => [], loop := fun _ => none, join := fun _ => none }
/-- (*bracken.paren.Paren).Place -/
def paren_Paren_Place.W (a0p : Option Addr) (a1n : Int) (R : Int → Heap → Prop) (H0 : Heap) : Prop :=
  brW (Option.isNone (a0p)) (R (-1) H0) (∃ x8 : Addr, a0p = some x8 ∧
  ∃ x10 : Option Addr, hcell H0 (x8.add 0) = some (.pointer x10) ∧ bits_Bits_Select.C (x10) (a1n) true H0 fun x12 H1 => R (x12) H1)
theorem paren_Paren_Place.eq (a0p : Option Addr) (a1n : Int) (R : Int → Heap → Prop) (H0 : Heap) :
    evF Tryd.prog paren_Paren_Place.ann Tryd.f19 [.pointer a0p, .int .i64 a1n] (fun v H' => xS (.one (.int .i64)) v fun r => R r H') H0 = paren_Paren_Place.W a0p a1n R H0 := by kernel_rfl
theorem paren_Paren_Place.calls {a0p : Option Addr} {a1n : Int} {R : Int → Heap → Prop} {H0 : Heap} (h : paren_Paren_Place.W a0p a1n R H0) : paren_Paren_Place.C a0p a1n H0 R :=
  (evF_sound progOk_ Tryd.func19 (by rw [paren_Paren_Place.eq]; exact h)).mono fun v H' h => by obtain ⟨x, hv, hk⟩ := xS_out h; exact ⟨x, hv, hk⟩

def paren_Paren_Enclose.ann : Ann := { ord := fun _ => [], loop := fun _ => none, join := fun _ => none }
/-- (*bracken.paren.Paren).Enclose -/
def paren_Paren_Enclose.W (a0p : Option Addr) (a1k : Int) (R : Int → Heap → Prop) (H0 : Heap) : Prop :=
  paren_Paren_Up.C (a0p) (a1k) (1) H0 fun x7 H1 => R (x7) H1
theorem paren_Paren_Enclose.eq (a0p : Option Addr) (a1k : Int) (R : Int → Heap → Prop) (H0 : Heap) :
    evF Tryd.prog paren_Paren_Enclose.ann Tryd.f21 [.pointer a0p, .int .i64 a1k] (fun v H' => xS (.one (.int .i64)) v fun r => R r H') H0 = paren_Paren_Enclose.W a0p a1k R H0 := by kernel_rfl
theorem paren_Paren_Enclose.calls {a0p : Option Addr} {a1k : Int} {R : Int → Heap → Prop} {H0 : Heap} (h : paren_Paren_Enclose.W a0p a1k R H0) : paren_Paren_Enclose.C a0p a1k H0 R :=
  (evF_sound progOk_ Tryd.func21 (by rw [paren_Paren_Enclose.eq]; exact h)).mono fun v H' h => by obtain ⟨x, hv, hk⟩ := xS_out h; exact ⟨x, hv, hk⟩

def brackenlaw5_told.ann : Ann := { ord := fun _ => [], loop := fun _ => none, join := fun i => bif Nat.beq i 4 then some [(21, .one .bool)] else bif Nat.beq i 5 then some [] else none }
/-- bracken.brackenlaw5.told -/
def brackenlaw5_told.W  (R : Bool → Heap → Prop) (H0 : Heap) : Prop :=
  letV (hnew H0 #[.bool true, .bool true, .bool false, .bool true, .bool true, .bool false, .bool false, .bool false] ty_bool) fun H1 : Heap =>
  paren_New.C (some ⟨Array.size H0, 0, none⟩) 8 8 H1 fun x8_0 x8_1 H2 =>
  letV (hnew H2 #[.bool true] ty_bool) fun H3 : Heap =>
  paren_New.C (some ⟨Array.size H2, 0, none⟩) 1 1 H3 fun x13_0 x13_1 H4 => 
  JoinW (S := Unit) (fun J5 => 
  JoinW (S := (Bool × Unit)) (fun J4 =>
  brW (decide (x8_1 ≠ 0)) (J4 (true, ()) H4) (J4 (Option.isNone (x8_0), ()) H4))
  (fun s4 H6 => (fun (x21 : Bool) =>
  brW x21 (R false H6) (J5 () H6)) s4.1))
  (fun _ H5 =>
  brW (decide (x13_1 = 1)) (paren_May.C (none) 0 0 H5 fun x25 H7 =>
  brW x25 (letV (hnew H7 #[.bool false, .bool true] ty_bool) fun H8 : Heap =>
  paren_May.C (some ⟨Array.size H7, 0, none⟩) 2 2 H8 fun x29 H9 =>
  brW (!x29) (paren_Paren_Close.C (x8_0) (0) H9 fun x34 H10 =>
  brW (decide (x34 = 7)) (paren_Paren_Close.C (x8_0) (1) H10 fun x39 H11 =>
  brW (decide (x39 = 2)) (paren_Paren_Close.C (x8_0) (2) H11 fun x44 H12 =>
  brW (decide (x44 = (-1))) (paren_Paren_Begin.C (x8_0) (6) H12 fun x49 H13 =>
  brW (decide (x49 = 3)) (paren_Paren_Begin.C (x8_0) (0) H13 fun x54 H14 =>
  brW (decide (x54 = (-1))) (paren_Paren_Enclose.C (x8_0) (4) H14 fun x59 H15 =>
  brW (decide (x59 = 3)) (paren_Paren_Enclose.C (x8_0) (0) H15 fun x64 H16 =>
  brW (decide (x64 = (-1))) (paren_Paren_Up.C (x8_0) (4) (2) H16 fun x69 H17 =>
  brW (decide (x69 = 0)) (paren_Paren_Up.C (x8_0) (4) (0) H17 fun x74 H18 =>
  brW (decide (x74 = 4)) (paren_Paren_Up.C (x8_0) (4) (3) H18 fun x79 H19 =>
  brW (decide (x79 = (-1))) (paren_Paren_Place.C (x8_0) (2) H19 fun x84 H20 =>
  brW (decide (x84 = 3)) (paren_Paren_Number.C (x8_0) (4) H20 fun x89 H21 =>
  brW (decide (x89 = 3)) (paren_Paren_Span.C (x8_0) (3) H21 fun x94 H22 =>
  brW (decide (x94 = 2)) (paren_Paren_Span.C (x8_0) (2) H22 fun x99 H23 =>
  brW (decide (x99 = 0)) (paren_Paren_Excess.C (x8_0) (4) H23 fun x104 H24 =>
  brW (decide (x104 = 3)) (paren_Paren_Excess.C (x8_0) (8) H24 fun x109 H25 =>
  brW (decide (x109 = (-1))) (paren_Paren_Open.C (x8_0) (3) H25 fun x114 H26 =>
  brW x114 (paren_Paren_Open.C (x8_0) (8) H26 fun x118 H27 =>
  brW (!x118) (paren_Paren_Close.C (none) (0) H27 fun x123 H28 =>
  brW (decide (x123 = (-1))) (paren_Paren_Len.C (none) H28 fun x128 H29 => R (decide (x128 = 0)) H29) (R false H28)) (R false H27)) (R false H26)) (R false H25)) (R false H24)) (R false H23)) (R false H22)) (R false H21)) (R false H20)) (R false H19)) (R false H18)) (R false H17)) (R false H16)) (R false H15)) (R false H14)) (R false H13)) (R false H12)) (R false H11)) (R false H10)) (R false H9)) (R false H7)) (R false H5))
theorem brackenlaw5_told.eq  (R : Bool → Heap → Prop) (H0 : Heap) :
    evF Tryd.prog brackenlaw5_told.ann Tryd.f20 [] (fun v H' => xS (.one .bool) v fun r => R r H') H0 = brackenlaw5_told.W  R H0 := by kernel_rfl
theorem brackenlaw5_told.calls  {R : Bool → Heap → Prop} {H0 : Heap} (h : brackenlaw5_told.W  R H0) : brackenlaw5_told.C  H0 R :=
  (evF_sound progOk_ Tryd.func20 (by rw [brackenlaw5_told.eq]; exact h)).mono fun v H' h => by obtain ⟨x, hv, hk⟩ := xS_out h; exact ⟨x, hv, hk⟩

def brackenlaw5_ParenNone.ann : Ann := { ord := fun _ => [], loop := fun _ => none, join := fun i => bif Nat.beq i 4 then some [(22, .one .bool)] else bif Nat.beq i 5 then some [] else bif Nat.beq i 6 then some [(8, .one .bool)] else bif Nat.beq i 7 then some [(9, .one .bool)] else bif Nat.beq i 8 then some [(108, .one .bool)] else bif Nat.beq i 9 then some [] else none }
/-- bracken.brackenlaw5.ParenNone -/
def brackenlaw5_ParenNone.W (a0l_p : Option Addr) (a0l_l a0l_c : Nat) (a1k : Int) (R : Bool → Heap → Prop) (H0 : Heap) : Prop :=
  brackenlaw5_Row.C (a0l_p) a0l_l a0l_c (200) H0 fun x11_p x11_l x11_c H1 =>
  paren_New.C (x11_p) x11_l x11_c H1 fun x14_0 x14_1 H2 => 
  JoinW (S := Unit) (fun J5 => 
  JoinW (S := (Bool × Unit)) (fun J4 =>
  brW (decide (x14_1 ≠ 0)) (J4 (true, ()) H2) (J4 (Option.isNone (x14_0), ()) H2))
  (fun s4 H4 => (fun (x22 : Bool) =>
  brW x22 (R false H4) (J5 () H4)) s4.1))
  (fun _ H3 => 
  JoinW (S := (Bool × Unit)) (fun J6 =>
  brW (decide ((0 : Int) ≤ a1k)) (J6 (decide (a1k < (x11_l : Int)), ()) H3) (J6 (false, ()) H3))
  (fun s6 H5 => (fun (in8 : Bool) => 
  JoinW (S := (Bool × Unit)) (fun J7 =>
  brW in8 (∃ x35 : Addr, x11_p = some x35 ∧ 0 ≤ a1k ∧ a1k < (x11_l : Int) ∧
  ∃ x36 : Bool, hcell H5 (x35.add a1k.toNat) = some (.bool x36) ∧ J7 (x36, ()) H5) (J7 (false, ()) H5))
  (fun s7 H6 => (fun (open9 : Bool) => 
  JoinW (S := Unit) (fun J9 => 
  JoinW (S := (Bool × Unit)) (fun J8 =>
  paren_Paren_Close.C (x14_0) (a1k) H6 fun x40 H9 =>
  brW (decide ((decide ((0 : Int) ≤ x40)) ≠ open9)) (J8 (true, ()) H9) (paren_Paren_Begin.C (x14_0) (a1k) H9 fun x47 H10 =>
  brW in8 (brW (decide ((decide ((0 : Int) ≤ x47)) ≠ (!open9))) (J8 (true, ()) H10) (paren_Paren_Span.C (x14_0) (a1k) H10 fun x59 H11 =>
  brW (decide ((decide ((0 : Int) < x59)) ≠ open9)) (J8 (true, ()) H11) (paren_Paren_Number.C (x14_0) (a1k) H11 fun x67 H12 =>
  brW (decide ((decide ((0 : Int) ≤ x67)) ≠ open9)) (J8 (true, ()) H12) (paren_Paren_Excess.C (x14_0) (a1k) H12 fun x75 H13 =>
  brW (decide ((decide ((0 : Int) ≤ x75)) ≠ in8)) (J8 (true, ()) H13) (paren_Paren_Up.C (x14_0) (a1k) (0) H13 fun x83 H14 =>
  brW (decide ((decide (x83 = a1k)) ≠ open9)) (brW (decide (a1k ≠ (-1))) (J8 (true, ()) H14) (paren_Paren_Place.C (x14_0) (a1k) H14 fun x96 H15 =>
  brW (decide ((0 : Int) ≤ a1k)) ((2 : Int) ≠ 0 ∧ J8 (decide ((decide ((0 : Int) ≤ x96)) ≠ (decide (a1k < (IntKind.i64.wrap (Int.tdiv (x11_l : Int) 2))))), ()) H15) (J8 (decide ((decide ((0 : Int) ≤ x96)) ≠ false), ()) H15))) (paren_Paren_Place.C (x14_0) (a1k) H14 fun x96 H16 =>
  brW (decide ((0 : Int) ≤ a1k)) ((2 : Int) ≠ 0 ∧ J8 (decide ((decide ((0 : Int) ≤ x96)) ≠ (decide (a1k < (IntKind.i64.wrap (Int.tdiv (x11_l : Int) 2))))), ()) H16) (J8 (decide ((decide ((0 : Int) ≤ x96)) ≠ false), ()) H16))))))) (brW (decide ((decide ((0 : Int) ≤ x47)) ≠ false)) (J8 (true, ()) H10) (paren_Paren_Span.C (x14_0) (a1k) H10 fun x59 H17 =>
  brW (decide ((decide ((0 : Int) < x59)) ≠ open9)) (J8 (true, ()) H17) (paren_Paren_Number.C (x14_0) (a1k) H17 fun x67 H18 =>
  brW (decide ((decide ((0 : Int) ≤ x67)) ≠ open9)) (J8 (true, ()) H18) (paren_Paren_Excess.C (x14_0) (a1k) H18 fun x75 H19 =>
  brW (decide ((decide ((0 : Int) ≤ x75)) ≠ in8)) (J8 (true, ()) H19) (paren_Paren_Up.C (x14_0) (a1k) (0) H19 fun x83 H20 =>
  brW (decide ((decide (x83 = a1k)) ≠ open9)) (brW (decide (a1k ≠ (-1))) (J8 (true, ()) H20) (paren_Paren_Place.C (x14_0) (a1k) H20 fun x96 H21 =>
  brW (decide ((0 : Int) ≤ a1k)) ((2 : Int) ≠ 0 ∧ J8 (decide ((decide ((0 : Int) ≤ x96)) ≠ (decide (a1k < (IntKind.i64.wrap (Int.tdiv (x11_l : Int) 2))))), ()) H21) (J8 (decide ((decide ((0 : Int) ≤ x96)) ≠ false), ()) H21))) (paren_Paren_Place.C (x14_0) (a1k) H20 fun x96 H22 =>
  brW (decide ((0 : Int) ≤ a1k)) ((2 : Int) ≠ 0 ∧ J8 (decide ((decide ((0 : Int) ≤ x96)) ≠ (decide (a1k < (IntKind.i64.wrap (Int.tdiv (x11_l : Int) 2))))), ()) H22) (J8 (decide ((decide ((0 : Int) ≤ x96)) ≠ false), ()) H22)))))))))
  (fun s8 H8 => (fun (x108 : Bool) =>
  brW x108 (R false H8) (J9 () H8)) s8.1))
  (fun _ H7 =>
  brackenlaw5_told.C  H7 fun x109 H23 =>
  brW x109 (brW open9 (brW open9 (paren_Paren_Open.C (x14_0) (a1k) H23 fun x131 H24 => R (decide (x131 = open9)) H24) (paren_Paren_Up.C (x14_0) (a1k) (1) H23 fun x124 H25 =>
  brW (decide (x124 = (-1))) (paren_Paren_Open.C (x14_0) (a1k) H25 fun x131 H26 => R (decide (x131 = open9)) H26) (R false H25))) (paren_Paren_Enclose.C (x14_0) (a1k) H23 fun x115 H27 =>
  brW (decide (x115 = (-1))) (brW open9 (paren_Paren_Open.C (x14_0) (a1k) H27 fun x131 H28 => R (decide (x131 = open9)) H28) (paren_Paren_Up.C (x14_0) (a1k) (1) H27 fun x124 H29 =>
  brW (decide (x124 = (-1))) (paren_Paren_Open.C (x14_0) (a1k) H29 fun x131 H30 => R (decide (x131 = open9)) H30) (R false H29))) (R false H27))) (R false H23))) s7.1)) s6.1))
theorem brackenlaw5_ParenNone.eq (a0l_p : Option Addr) (a0l_l a0l_c : Nat) (a1k : Int) (R : Bool → Heap → Prop) (H0 : Heap) :
    evF Tryd.prog brackenlaw5_ParenNone.ann Tryd.f3 [.slice a0l_p a0l_l a0l_c, .int .i64 a1k] (fun v H' => xS (.one .bool) v fun r => R r H') H0 = brackenlaw5_ParenNone.W a0l_p a0l_l a0l_c a1k R H0 := by kernel_rfl
theorem brackenlaw5_ParenNone.calls {a0l_p : Option Addr} {a0l_l a0l_c : Nat} {a1k : Int} {R : Bool → Heap → Prop} {H0 : Heap} (h : brackenlaw5_ParenNone.W a0l_p a0l_l a0l_c a1k R H0) : brackenlaw5_ParenNone.C a0l_p a0l_l a0l_c a1k H0 R :=
  (evF_sound progOk_ Tryd.func3 (by rw [brackenlaw5_ParenNone.eq]; exact h)).mono fun v H' h => by obtain ⟨x, hv, hk⟩ := xS_out h; exact ⟨x, hv, hk⟩

def brackenref1_MayParen.ann : Ann := { ord := fun _ => [], loop := fun i => bif Nat.beq i 3 then some [(3, .one (.int .i64)), (4, .one (.int .i64))] else none, join := fun i => bif Nat.beq i 4 then some [(3, .one (.int .i64))] else bif Nat.beq i 8 then some [(3, .one (.int .i64))] else bif Nat.beq i 10 then some [(3, .one (.int .i64))] else none }
/-- bracken.brackenref1.MayParen -/
def brackenref1_MayParen.W (a0l_p : Option Addr) (a0l_l a0l_c : Nat) (R : Bool → Heap → Prop) (H0 : Heap) : Prop :=
  
  JoinW (S := (Int × Unit)) (fun J10 => 
  LoopW (S := (Int × Int × Unit)) (fun L3 q3 H2 => (fun (e3 : Int) (i4 : Int) =>
  brW (decide (i4 < (a0l_l : Int))) (
  JoinW (S := (Int × Unit)) (fun J4 => 
  JoinW (S := (Int × Unit)) (fun J8 =>
  ∃ x13 : Addr, a0l_p = some x13 ∧ 0 ≤ i4 ∧ i4 < (a0l_l : Int) ∧
  ∃ x14 : Bool, hcell H2 (x13.add i4.toNat) = some (.bool x14) ∧
  brW x14 (letV (IntKind.i64.wrap (e3 + 1)) fun e3 : Int => J8 ((e3 : Int), ()) H2) (letV (IntKind.i64.wrap (e3 - 1)) fun e3 : Int => J8 ((e3 : Int), ()) H2))
  (fun s8 H4 => (fun (e3 : Int) =>
  brW (decide (e3 < 0)) (R false H4) (J4 ((e3 : Int), ()) H4)) s8.1))
  (fun s4 H3 => (fun (e3 : Int) =>
  letV (IntKind.i64.wrap (i4 + 1)) fun i4 : Int => L3 ((e3 : Int), (i4 : Int), ()) H3) s4.1)) (J10 ((e3 : Int), ()) H2)) q3.1 q3.2.1) ((0 : Int), (0 : Int), ()) H0)
  (fun s10 H1 => (fun (e3 : Int) => R (decide (e3 = 0)) H1) s10.1)
theorem brackenref1_MayParen.eq (a0l_p : Option Addr) (a0l_l a0l_c : Nat) (R : Bool → Heap → Prop) (H0 : Heap) :
    evF Tryd.prog brackenref1_MayParen.ann Tryd.f23 [.slice a0l_p a0l_l a0l_c] (fun v H' => xS (.one .bool) v fun r => R r H') H0 = brackenref1_MayParen.W a0l_p a0l_l a0l_c R H0 := by kernel_rfl
theorem brackenref1_MayParen.calls {a0l_p : Option Addr} {a0l_l a0l_c : Nat} {R : Bool → Heap → Prop} {H0 : Heap} (h : brackenref1_MayParen.W a0l_p a0l_l a0l_c R H0) : brackenref1_MayParen.C a0l_p a0l_l a0l_c H0 R :=
  (evF_sound progOk_ Tryd.func23 (by rw [brackenref1_MayParen.eq]; exact h)).mono fun v H' h => by obtain ⟨x, hv, hk⟩ := xS_out h; exact ⟨x, hv, hk⟩

def brackenlaw5_ParenRaw.ann : Ann := { ord := fun _ => [], loop := fun _ => none, join := fun _ => none }
/-- bracken.brackenlaw5.ParenRaw -/
def brackenlaw5_ParenRaw.W (a0l_p : Option Addr) (a0l_l a0l_c : Nat) (R : Bool → Heap → Prop) (H0 : Heap) : Prop :=
  brW (decide ((200 : Int) < (a0l_l : Int))) (brackenlaw5_told.C  H0 fun x9 H1 => R (x9) H1) (paren_New.C (a0l_p) a0l_l a0l_c H0 fun x12_0 x12_1 H2 =>
  brackenref1_MayParen.C (a0l_p) a0l_l a0l_c H2 fun x16 H3 =>
  brackenlaw5_told.C  H3 fun x17 H4 =>
  brW x17 (paren_May.C (a0l_p) a0l_l a0l_c H4 fun x20 H5 =>
  brW (decide (x20 = x16)) (brW (decide ((decide (x12_1 = 0)) = x16)) (brW (decide ((Option.isSome (x12_0)) = x16)) (brW (decide (x12_1 = 0)) (R true H5) (R (decide (x12_1 = 1)) H5)) (R false H5)) (R false H5)) (R false H5)) (R false H4))
theorem brackenlaw5_ParenRaw.eq (a0l_p : Option Addr) (a0l_l a0l_c : Nat) (R : Bool → Heap → Prop) (H0 : Heap) :
    evF Tryd.prog brackenlaw5_ParenRaw.ann Tryd.f4 [.slice a0l_p a0l_l a0l_c] (fun v H' => xS (.one .bool) v fun r => R r H') H0 = brackenlaw5_ParenRaw.W a0l_p a0l_l a0l_c R H0 := by kernel_rfl
theorem brackenlaw5_ParenRaw.calls {a0l_p : Option Addr} {a0l_l a0l_c : Nat} {R : Bool → Heap → Prop} {H0 : Heap} (h : brackenlaw5_ParenRaw.W a0l_p a0l_l a0l_c R H0) : brackenlaw5_ParenRaw.C a0l_p a0l_l a0l_c H0 R :=
  (evF_sound progOk_ Tryd.func4 (by rw [brackenlaw5_ParenRaw.eq]; exact h)).mono fun v H' h => by obtain ⟨x, hv, hk⟩ := xS_out h; exact ⟨x, hv, hk⟩

def brackenlaw5_ParenPairs.ann : Ann := { ord := fun _ => [], loop := fun i => bif Nat.beq i 6 then some [(6, .one (.int .i64))] else none, join := fun i => bif Nat.beq i 4 then some [(22, .one .bool)] else bif Nat.beq i 5 then some [] else bif Nat.beq i 7 then some [] else bif Nat.beq i 11 then some [(54, .one .bool)] else bif Nat.beq i 14 then some [(114, .one .bool)] else bif Nat.beq i 15 then some [] else bif Nat.beq i 16 then some [(145, .one .bool)] else bif Nat.beq i 17 then some [] else none }
/-- bracken.brackenlaw5.ParenPairs -/
def brackenlaw5_ParenPairs.W (a0l_p : Option Addr) (a0l_l a0l_c : Nat) (R : Bool → Heap → Prop) (H0 : Heap) : Prop :=
  brackenlaw5_Row.C (a0l_p) a0l_l a0l_c (300) H0 fun x11_p x11_l x11_c H1 =>
  paren_New.C (x11_p) x11_l x11_c H1 fun x14_0 x14_1 H2 => 
  JoinW (S := Unit) (fun J5 => 
  JoinW (S := (Bool × Unit)) (fun J4 =>
  brW (decide (x14_1 ≠ 0)) (J4 (true, ()) H2) (J4 (Option.isNone (x14_0), ()) H2))
  (fun s4 H4 => (fun (x22 : Bool) =>
  brW x22 (R false H4) (J5 () H4)) s4.1))
  (fun _ H3 => 
  JoinW (S := Unit) (fun J17 => 
  LoopW (S := (Int × Unit)) (fun L6 q6 H6 => (fun (k6 : Int) =>
  brW (decide (k6 < (x11_l : Int))) (
  JoinW (S := Unit) (fun J7 =>
  ∃ x35 : Addr, x11_p = some x35 ∧ 0 ≤ k6 ∧ k6 < (x11_l : Int) ∧
  ∃ x36 : Bool, hcell H6 (x35.add k6.toNat) = some (.bool x36) ∧
  brW (!x36) (paren_Paren_Begin.C (x14_0) (k6) H6 fun x40 H8 => 
  JoinW (S := (Bool × Unit)) (fun J11 =>
  brW (decide (x40 < 0)) (J11 (true, ()) H8) (brW (decide (k6 ≤ x40)) (J11 (true, ()) H8) (paren_Paren_Close.C (x14_0) (x40) H8 fun x51 H10 => J11 (decide (x51 ≠ k6), ()) H10)))
  (fun s11 H9 => (fun (x54 : Bool) =>
  brW x54 (R false H9) (J7 () H9)) s11.1)) (paren_Paren_Close.C (x14_0) (k6) H6 fun x57 H11 =>
  paren_Paren_Enclose.C (x14_0) (k6) H11 fun x60 H12 => 
  JoinW (S := Unit) (fun J15 => 
  JoinW (S := (Bool × Unit)) (fun J14 =>
  brW (decide (x57 ≤ k6)) (J14 (true, ()) H12) (brW (decide ((x11_l : Int) ≤ x57)) (J14 (true, ()) H12) (paren_Paren_Begin.C (x14_0) (x57) H12 fun x73 H15 =>
  brW (decide (x73 ≠ k6)) (J14 (true, ()) H15) (0 ≤ x57 ∧ x57 ≤ (x11_c : Int) ∧ 0 ≤ IntKind.i64.wrap (k6 + 1) ∧ IntKind.i64.wrap (k6 + 1) ≤ (x57.toNat : Int) ∧ paren_May.C (if x11_c = (IntKind.i64.wrap (k6 + 1)).toNat then x11_p else Option.map (fun q : Addr => q.add ((IntKind.i64.wrap (k6 + 1)).toNat)) x11_p) (x57.toNat - ((IntKind.i64.wrap (k6 + 1)).toNat)) (x11_c - ((IntKind.i64.wrap (k6 + 1)).toNat)) H15 fun x83 H16 =>
  brW (!x83) (J14 (true, ()) H16) (paren_Paren_Span.C (x14_0) (k6) H16 fun x89 H17 => (2 : Int) ≠ 0 ∧
  brW (decide (x89 ≠ (IntKind.i64.wrap (Int.tdiv (IntKind.i64.wrap ((IntKind.i64.wrap (x57 - k6)) + 1)) 2)))) (J14 (true, ()) H17) (paren_Paren_Number.C (x14_0) (k6) H17 fun x101 H18 =>
  paren_Paren_Place.C (x14_0) (x101) H18 fun x102 H19 =>
  brW (decide (x102 ≠ k6)) (J14 (true, ()) H19) (paren_Paren_Excess.C (x14_0) (k6) H19 fun x111 H20 => J14 (decide ((decide ((0 : Int) ≤ x60)) ≠ (decide ((1 : Int) < x111))), ()) H20)))))))
  (fun s14 H14 => (fun (x114 : Bool) =>
  brW x114 (R false H14) (J15 () H14)) s14.1))
  (fun _ H13 => 
  JoinW (S := (Bool × Unit)) (fun J16 =>
  brW (decide ((0 : Int) ≤ x60)) (brW (decide (k6 ≤ x60)) (J16 (true, ()) H13) (paren_Paren_Close.C (x14_0) (x60) H13 fun x124 H22 =>
  brW (decide (x124 ≤ x57)) (J16 (true, ()) H22) (paren_Paren_Excess.C (x14_0) (x60) H22 fun x131 H23 =>
  paren_Paren_Excess.C (x14_0) (k6) H23 fun x134 H24 =>
  brW (decide (x131 ≠ (IntKind.i64.wrap (x134 - 1)))) (J16 (true, ()) H24) (paren_Paren_Up.C (x14_0) (k6) (1) H24 fun x141 H25 => J16 (decide (x141 ≠ x60), ()) H25)))) (J16 (false, ()) H13))
  (fun s16 H21 => (fun (x145 : Bool) =>
  brW x145 (R false H21) (J7 () H21)) s16.1))))
  (fun _ H7 => (60 : Int) ≠ 0 ∧
  letV (IntKind.i64.wrap ((IntKind.i64.wrap (k6 + 1)) + (IntKind.i64.wrap (Int.tdiv (x11_l : Int) 60)))) fun k6 : Int => L6 ((k6 : Int), ()) H7)) (J17 () H6)) q6.1) ((0 : Int), ()) H3)
  (fun _ H5 =>
  brackenlaw5_told.C  H5 fun x146 H26 => R (x146) H26))
theorem brackenlaw5_ParenPairs.eq (a0l_p : Option Addr) (a0l_l a0l_c : Nat) (R : Bool → Heap → Prop) (H0 : Heap) :
    evF Tryd.prog brackenlaw5_ParenPairs.ann Tryd.f5 [.slice a0l_p a0l_l a0l_c] (fun v H' => xS (.one .bool) v fun r => R r H') H0 = brackenlaw5_ParenPairs.W a0l_p a0l_l a0l_c R H0 := by kernel_rfl
theorem brackenlaw5_ParenPairs.calls {a0l_p : Option Addr} {a0l_l a0l_c : Nat} {R : Bool → Heap → Prop} {H0 : Heap} (h : brackenlaw5_ParenPairs.W a0l_p a0l_l a0l_c R H0) : brackenlaw5_ParenPairs.C a0l_p a0l_l a0l_c H0 R :=
  (evF_sound progOk_ Tryd.func5 (by rw [brackenlaw5_ParenPairs.eq]; exact h)).mono fun v H' h => by obtain ⟨x, hv, hk⟩ := xS_out h; exact ⟨x, hv, hk⟩

def brackenref1_Rank.ann : Ann := { ord := fun _ => [], loop := fun i => bif Nat.beq i 3 then some [(7, .one (.int .i64)), (8, .one (.int .i64))] else none, join := fun i => bif Nat.beq i 4 then some [(7, .one (.int .i64))] else bif Nat.beq i 5 then some [] else bif Nat.beq i 7 then some [(7, .one (.int .i64))] else none }
/-- bracken.brackenref1.Rank -/
def brackenref1_Rank.W (a0l_p : Option Addr) (a0l_l a0l_c : Nat) (a1k : Int) (a2bit : Bool) (R : Int → Heap → Prop) (H0 : Heap) : Prop :=
  
  JoinW (S := (Int × Unit)) (fun J7 => 
  LoopW (S := (Int × Int × Unit)) (fun L3 q3 H2 => (fun (n7 : Int) (i8 : Int) => 
  JoinW (S := Unit) (fun J5 =>
  brW (decide (i8 < a1k)) (brW (decide (i8 < (a0l_l : Int))) (J5 () H2) (J7 ((n7 : Int), ()) H2)) (J7 ((n7 : Int), ()) H2))
  (fun _ H3 => 
  JoinW (S := (Int × Unit)) (fun J4 =>
  ∃ x22 : Addr, a0l_p = some x22 ∧ 0 ≤ i8 ∧ i8 < (a0l_l : Int) ∧
  ∃ x23 : Bool, hcell H3 (x22.add i8.toNat) = some (.bool x23) ∧
  brW (decide (x23 = a2bit)) (letV (IntKind.i64.wrap (n7 + 1)) fun n7 : Int => J4 ((n7 : Int), ()) H3) (J4 ((n7 : Int), ()) H3))
  (fun s4 H4 => (fun (n7 : Int) =>
  letV (IntKind.i64.wrap (i8 + 1)) fun i8 : Int => L3 ((n7 : Int), (i8 : Int), ()) H4) s4.1))) q3.1 q3.2.1) ((0 : Int), (0 : Int), ()) H0)
  (fun s7 H1 => (fun (n7 : Int) => R (n7) H1) s7.1)
theorem brackenref1_Rank.eq (a0l_p : Option Addr) (a0l_l a0l_c : Nat) (a1k : Int) (a2bit : Bool) (R : Int → Heap → Prop) (H0 : Heap) :
    evF Tryd.prog brackenref1_Rank.ann Tryd.f25 [.slice a0l_p a0l_l a0l_c, .int .i64 a1k, .bool a2bit] (fun v H' => xS (.one (.int .i64)) v fun r => R r H') H0 = brackenref1_Rank.W a0l_p a0l_l a0l_c a1k a2bit R H0 := by kernel_rfl
theorem brackenref1_Rank.calls {a0l_p : Option Addr} {a0l_l a0l_c : Nat} {a1k : Int} {a2bit : Bool} {R : Int → Heap → Prop} {H0 : Heap} (h : brackenref1_Rank.W a0l_p a0l_l a0l_c a1k a2bit R H0) : brackenref1_Rank.C a0l_p a0l_l a0l_c a1k a2bit H0 R :=
  (evF_sound progOk_ Tryd.func25 (by rw [brackenref1_Rank.eq]; exact h)).mono fun v H' h => by obtain ⟨x, hv, hk⟩ := xS_out h; exact ⟨x, hv, hk⟩

def brackenlaw5_ParenSpans.ann : Ann := { ord := fun i => bif Nat.beq i 11 then [0, 1, 3, 4, 5, 6, 2, 7, 8, 9, 10, 12, 13, 14, 16, 17, 18, 11, 15, 19, 20, 21, 22] else [], loop := fun i => bif Nat.beq i 7 then some [(6, .one (.int .i64)), (7, .one (.int .i64)), (8, .one (.int .i64))] else bif Nat.beq i 15 then some [(9, .one (.int .i64)), (10, .one (.int .i64)), (11, .one (.int .i64))] else none, join := fun i => bif Nat.beq i 4 then some [(25, .one .bool)] else bif Nat.beq i 5 then some [] else bif Nat.beq i 8 then some [(6, .one (.int .i64)), (7, .one (.int .i64))] else bif Nat.beq i 11 then some [(6, .one (.int .i64)), (7, .one (.int .i64))] else bif Nat.beq i 12 then some [(68, .one .bool)] else bif Nat.beq i 13 then some [(6, .one (.int .i64)), (7, .one (.int .i64))] else bif Nat.beq i 17 then some [] else bif Nat.beq i 22 then some [(10, .one (.int .i64))] else none }
/-- bracken.brackenlaw5.ParenSpans -/
def brackenlaw5_ParenSpans.W (a0l_p : Option Addr) (a0l_l a0l_c : Nat) (R : Bool → Heap → Prop) (H0 : Heap) : Prop :=
  brackenlaw5_Row.C (a0l_p) a0l_l a0l_c (200) H0 fun x14_p x14_l x14_c H1 =>
  paren_New.C (x14_p) x14_l x14_c H1 fun x17_0 x17_1 H2 => 
  JoinW (S := Unit) (fun J5 => 
  JoinW (S := (Bool × Unit)) (fun J4 =>
  brW (decide (x17_1 ≠ 0)) (J4 (true, ()) H2) (J4 (Option.isNone (x17_0), ()) H2))
  (fun s4 H4 => (fun (x25 : Bool) =>
  brW x25 (R false H4) (J5 () H4)) s4.1))
  (fun _ H3 => 
  JoinW (S := (Int × Int × Unit)) (fun J13 => 
  LoopW (S := (Int × Int × Int × Unit)) (fun L7 q7 H6 => (fun (spans6 : Int) (high7 : Int) (k8 : Int) =>
  brW (decide (k8 < (x14_l : Int))) (
  JoinW (S := (Int × Int × Unit)) (fun J8 => 
  JoinW (S := (Int × Int × Unit)) (fun J11 =>
  ∃ x34 : Addr, x14_p = some x34 ∧ 0 ≤ k8 ∧ k8 < (x14_l : Int) ∧
  ∃ x35 : Bool, hcell H6 (x34.add k8.toNat) = some (.bool x35) ∧
  brW x35 (paren_Paren_Span.C (x17_0) (k8) H6 fun x39 H9 =>
  paren_Paren_Excess.C (x17_0) (k8) H9 fun x44 H10 =>
  letV (IntKind.i64.wrap (spans6 + x39)) fun spans6 : Int =>
  letV (IntKind.i64.wrap (high7 + x44)) fun high7 : Int => J11 ((spans6 : Int), (high7 : Int), ()) H10) (J11 ((spans6 : Int), (high7 : Int), ()) H6))
  (fun s11 H8 => (fun (spans6 : Int) (high7 : Int) => 
  JoinW (S := (Bool × Unit)) (fun J12 =>
  ∃ x51 : Addr, x14_p = some x51 ∧ 0 ≤ k8 ∧ k8 < (x14_l : Int) ∧
  ∃ x52 : Bool, hcell H8 (x51.add k8.toNat) = some (.bool x52) ∧ paren_Paren_Open.C (x17_0) (k8) H8 fun x48 H12 => (∃ x52s : Bool, hcell H12 (x51.add k8.toNat) = some (.bool x52s) ∧ (.bool x52s : Value) = .bool x52) ∧
  brW (decide (x48 ≠ x52)) (J12 (true, ()) H12) (paren_Paren_Excess.C (x17_0) (k8) H12 fun x57 H13 =>
  brackenref1_Rank.C (x14_p) x14_l x14_c (IntKind.i64.wrap (k8 + 1)) true H13 fun x61 H14 =>
  brackenref1_Rank.C (x14_p) x14_l x14_c (IntKind.i64.wrap (k8 + 1)) false H14 fun x65 H15 => J12 (decide (x57 ≠ (IntKind.i64.wrap (x61 - x65))), ()) H15))
  (fun s12 H11 => (fun (x68 : Bool) =>
  brW x68 (R false H11) (J8 ((spans6 : Int), (high7 : Int), ()) H11)) s12.1)) s11.1 s11.2.1))
  (fun s8 H7 => (fun (spans6 : Int) (high7 : Int) =>
  letV (IntKind.i64.wrap (k8 + 1)) fun k8 : Int => L7 ((spans6 : Int), (high7 : Int), (k8 : Int), ()) H7) s8.1 s8.2.1)) (J13 ((spans6 : Int), (high7 : Int), ()) H6)) q7.1 q7.2.1 q7.2.2.1) ((0 : Int), (0 : Int), (0 : Int), ()) H3)
  (fun s13 H5 => (fun (spans6 : Int) (high7 : Int) => 
  JoinW (S := (Int × Unit)) (fun J22 => 
  LoopW (S := (Int × Int × Int × Unit)) (fun L15 q15 H17 => (fun (at9 : Int) (n10 : Int) (i11 : Int) => 
  JoinW (S := Unit) (fun J17 =>
  brW (decide (at9 < (x14_l : Int))) (brW (decide (i11 ≤ (x14_l : Int))) (J17 () H17) (J22 ((n10 : Int), ()) H17)) (J22 ((n10 : Int), ()) H17))
  (fun _ H18 =>
  paren_Paren_Close.C (x17_0) (at9) H18 fun x83 H19 =>
  brW (decide (x83 < at9)) (R false H19) (paren_Paren_Span.C (x17_0) (at9) H19 fun x90 H20 =>
  letV (IntKind.i64.wrap (n10 + x90)) fun n10 : Int =>
  letV (IntKind.i64.wrap (x83 + 1)) fun at9 : Int =>
  letV (IntKind.i64.wrap (i11 + 1)) fun i11 : Int => L15 ((at9 : Int), (n10 : Int), (i11 : Int), ()) H20))) q15.1 q15.2.1 q15.2.2.1) ((0 : Int), (0 : Int), (0 : Int), ()) H5)
  (fun s22 H16 => (fun (n10 : Int) =>
  brackenlaw5_told.C  H16 fun x94 H21 =>
  brW x94 (brW (decide (spans6 = high7)) (R (decide ((IntKind.i64.wrap (2 * n10)) = (x14_l : Int))) H21) (R false H21)) (R false H21)) s22.1)) s13.1 s13.2.1))
theorem brackenlaw5_ParenSpans.eq (a0l_p : Option Addr) (a0l_l a0l_c : Nat) (R : Bool → Heap → Prop) (H0 : Heap) :
    evF Tryd.prog brackenlaw5_ParenSpans.ann Tryd.f6 [.slice a0l_p a0l_l a0l_c] (fun v H' => xS (.one .bool) v fun r => R r H') H0 = brackenlaw5_ParenSpans.W a0l_p a0l_l a0l_c R H0 := by kernel_rfl
theorem brackenlaw5_ParenSpans.calls {a0l_p : Option Addr} {a0l_l a0l_c : Nat} {R : Bool → Heap → Prop} {H0 : Heap} (h : brackenlaw5_ParenSpans.W a0l_p a0l_l a0l_c R H0) : brackenlaw5_ParenSpans.C a0l_p a0l_l a0l_c H0 R :=
  (evF_sound progOk_ Tryd.func6 (by rw [brackenlaw5_ParenSpans.eq]; exact h)).mono fun v H' h => by obtain ⟨x, hv, hk⟩ := xS_out h; exact ⟨x, hv, hk⟩

def brackenref1_has.ann : Ann := { ord := fun _ => [], loop := fun _ => none, join := fun _ => none }
/-- bracken.brackenref1.has -/
def brackenref1_has.W (a0l_p : Option Addr) (a0l_l a0l_c : Nat) (a1k : Int) (R : Bool → Heap → Prop) (H0 : Heap) : Prop :=
  brW (decide ((0 : Int) ≤ a1k)) (R (decide (a1k < (a0l_l : Int))) H0) (R false H0)
theorem brackenref1_has.eq (a0l_p : Option Addr) (a0l_l a0l_c : Nat) (a1k : Int) (R : Bool → Heap → Prop) (H0 : Heap) :
    evF Tryd.prog brackenref1_has.ann Tryd.f45 [.slice a0l_p a0l_l a0l_c, .int .i64 a1k] (fun v H' => xS (.one .bool) v fun r => R r H') H0 = brackenref1_has.W a0l_p a0l_l a0l_c a1k R H0 := by kernel_rfl
theorem brackenref1_has.calls {a0l_p : Option Addr} {a0l_l a0l_c : Nat} {a1k : Int} {R : Bool → Heap → Prop} {H0 : Heap} (h : brackenref1_has.W a0l_p a0l_l a0l_c a1k R H0) : brackenref1_has.C a0l_p a0l_l a0l_c a1k H0 R :=
  (evF_sound progOk_ Tryd.func45 (by rw [brackenref1_has.eq]; exact h)).mono fun v H' h => by obtain ⟨x, hv, hk⟩ := xS_out h; exact ⟨x, hv, hk⟩

def brackenref1_Excess.ann : Ann := { ord := fun _ => [], loop := fun _ => none, join := fun _ => none }
/-- bracken.brackenref1.Excess -/
def brackenref1_Excess.W (a0l_p : Option Addr) (a0l_l a0l_c : Nat) (a1k : Int) (R : Int → Heap → Prop) (H0 : Heap) : Prop :=
  brackenref1_has.C (a0l_p) a0l_l a0l_c (a1k) H0 fun x7 H1 =>
  brW (!x7) (R (-1) H1) (brackenref1_Rank.C (a0l_p) a0l_l a0l_c (IntKind.i64.wrap (a1k + 1)) true H1 fun x12 H2 =>
  brackenref1_Rank.C (a0l_p) a0l_l a0l_c (IntKind.i64.wrap (a1k + 1)) false H2 fun x16 H3 =>
  letV (IntKind.i64.wrap (x12 - x16)) fun x4 : Int => R (x4) H3)
theorem brackenref1_Excess.eq (a0l_p : Option Addr) (a0l_l a0l_c : Nat) (a1k : Int) (R : Int → Heap → Prop) (H0 : Heap) :
    evF Tryd.prog brackenref1_Excess.ann Tryd.f27 [.slice a0l_p a0l_l a0l_c, .int .i64 a1k] (fun v H' => xS (.one (.int .i64)) v fun r => R r H') H0 = brackenref1_Excess.W a0l_p a0l_l a0l_c a1k R H0 := by kernel_rfl
theorem brackenref1_Excess.calls {a0l_p : Option Addr} {a0l_l a0l_c : Nat} {a1k : Int} {R : Int → Heap → Prop} {H0 : Heap} (h : brackenref1_Excess.W a0l_p a0l_l a0l_c a1k R H0) : brackenref1_Excess.C a0l_p a0l_l a0l_c a1k H0 R :=
  (evF_sound progOk_ Tryd.func27 (by rw [brackenref1_Excess.eq]; exact h)).mono fun v H' h => by obtain ⟨x, hv, hk⟩ := xS_out h; exact ⟨x, hv, hk⟩

def brackenref1_Close.ann : Ann := { ord := fun _ => [], loop := fun i => bif Nat.beq i 5 then some [(5, .one (.int .i64)), (6, .one (.int .i64))] else none, join := fun i => bif Nat.beq i 2 then some [(17, .one .bool)] else bif Nat.beq i 3 then some [] else bif Nat.beq i 6 then some [(5, .one (.int .i64))] else bif Nat.beq i 10 then some [(5, .one (.int .i64))] else bif Nat.beq i 12 then some [] else none }
/-- bracken.brackenref1.Close -/
def brackenref1_Close.W (a0l_p : Option Addr) (a0l_l a0l_c : Nat) (a1k : Int) (R : Int → Heap → Prop) (H0 : Heap) : Prop :=
  
  JoinW (S := Unit) (fun J3 => 
  JoinW (S := (Bool × Unit)) (fun J2 =>
  brackenref1_has.C (a0l_p) a0l_l a0l_c (a1k) H0 fun x9 H3 =>
  brW (!x9) (J2 (true, ()) H3) (∃ x14 : Addr, a0l_p = some x14 ∧ 0 ≤ a1k ∧ a1k < (a0l_l : Int) ∧
  ∃ x15 : Bool, hcell H3 (x14.add a1k.toNat) = some (.bool x15) ∧ J2 (!x15, ()) H3))
  (fun s2 H2 => (fun (x17 : Bool) =>
  brW x17 (R (-1) H2) (J3 () H2)) s2.1))
  (fun _ H1 => 
  JoinW (S := Unit) (fun J12 => 
  LoopW (S := (Int × Int × Unit)) (fun L5 q5 H5 => (fun (e5 : Int) (i6 : Int) =>
  brW (decide (i6 < (a0l_l : Int))) (
  JoinW (S := (Int × Unit)) (fun J6 => 
  JoinW (S := (Int × Unit)) (fun J10 =>
  ∃ x27 : Addr, a0l_p = some x27 ∧ 0 ≤ i6 ∧ i6 < (a0l_l : Int) ∧
  ∃ x28 : Bool, hcell H5 (x27.add i6.toNat) = some (.bool x28) ∧
  brW x28 (letV (IntKind.i64.wrap (e5 + 1)) fun e5 : Int => J10 ((e5 : Int), ()) H5) (letV (IntKind.i64.wrap (e5 - 1)) fun e5 : Int => J10 ((e5 : Int), ()) H5))
  (fun s10 H7 => (fun (e5 : Int) =>
  brW (decide (e5 = 0)) (R (i6) H7) (J6 ((e5 : Int), ()) H7)) s10.1))
  (fun s6 H6 => (fun (e5 : Int) =>
  letV (IntKind.i64.wrap (i6 + 1)) fun i6 : Int => L5 ((e5 : Int), (i6 : Int), ()) H6) s6.1)) (J12 () H5)) q5.1 q5.2.1) ((0 : Int), (a1k : Int), ()) H1)
  (fun _ H4 => R (-1) H4))
theorem brackenref1_Close.eq (a0l_p : Option Addr) (a0l_l a0l_c : Nat) (a1k : Int) (R : Int → Heap → Prop) (H0 : Heap) :
    evF Tryd.prog brackenref1_Close.ann Tryd.f28 [.slice a0l_p a0l_l a0l_c, .int .i64 a1k] (fun v H' => xS (.one (.int .i64)) v fun r => R r H') H0 = brackenref1_Close.W a0l_p a0l_l a0l_c a1k R H0 := by kernel_rfl
theorem brackenref1_Close.calls {a0l_p : Option Addr} {a0l_l a0l_c : Nat} {a1k : Int} {R : Int → Heap → Prop} {H0 : Heap} (h : brackenref1_Close.W a0l_p a0l_l a0l_c a1k R H0) : brackenref1_Close.C a0l_p a0l_l a0l_c a1k H0 R :=
  (evF_sound progOk_ Tryd.func28 (by rw [brackenref1_Close.eq]; exact h)).mono fun v H' h => by obtain ⟨x, hv, hk⟩ := xS_out h; exact ⟨x, hv, hk⟩

def paren_Paren_Steps.ann : Ann := { ord := fun _ => [], loop := fun _ => none, join := fun _ => none }
/-- (*bracken.paren.Paren).Steps -/
def paren_Paren_Steps.W (a0p : Option Addr) (R : Int → Heap → Prop) (H0 : Heap) : Prop :=
  brW (Option.isNone (a0p)) (R (0) H0) (∃ x6 : Addr, a0p = some x6 ∧
  ∃ x8 : Int, hcell H0 (x6.add 3) = some (.int .i64 x8) ∧ R (x8) H0)
theorem paren_Paren_Steps.eq (a0p : Option Addr) (R : Int → Heap → Prop) (H0 : Heap) :
    evF Tryd.prog paren_Paren_Steps.ann Tryd.f46 [.pointer a0p] (fun v H' => xS (.one (.int .i64)) v fun r => R r H') H0 = paren_Paren_Steps.W a0p R H0 := by kernel_rfl
theorem paren_Paren_Steps.calls {a0p : Option Addr} {R : Int → Heap → Prop} {H0 : Heap} (h : paren_Paren_Steps.W a0p R H0) : paren_Paren_Steps.C a0p H0 R :=
  (evF_sound progOk_ Tryd.func46 (by rw [paren_Paren_Steps.eq]; exact h)).mono fun v H' h => by obtain ⟨x, hv, hk⟩ := xS_out h; exact ⟨x, hv, hk⟩

def brackenref1_Width.ann : Ann := { ord := fun _ => [], loop := fun i => bif Nat.beq i 2 then some [(0, .one (.int .u64)), (3, .one (.int .i64))] else none, join := fun i => bif Nat.beq i 5 then some [(3, .one (.int .i64))] else none }
/-- bracken.brackenref1.Width -/
def brackenref1_Width.W (a0n : Int) (R : Int → Heap → Prop) (H0 : Heap) : Prop :=
  
  JoinW (S := (Int × Unit)) (fun J5 => 
  LoopW (S := (Int × Int × Unit)) (fun L2 q2 H2 => (fun (n0 : Int) (w3 : Int) =>
  brW (decide ((0 : Int) < n0)) (letV (IntKind.i64.wrap (w3 + 1)) fun w3 : Int => 0 ≤ (1 : Int) ∧
  letV (shrW .u64 n0 1) fun n0 : Int => L2 ((n0 : Int), (w3 : Int), ()) H2) (J5 ((w3 : Int), ()) H2)) q2.1 q2.2.1) ((a0n : Int), (0 : Int), ()) H0)
  (fun s5 H1 => (fun (w3 : Int) => R (w3) H1) s5.1)
theorem brackenref1_Width.eq (a0n : Int) (R : Int → Heap → Prop) (H0 : Heap) :
    evF Tryd.prog brackenref1_Width.ann Tryd.f47 [.int .u64 a0n] (fun v H' => xS (.one (.int .i64)) v fun r => R r H') H0 = brackenref1_Width.W a0n R H0 := by kernel_rfl
theorem brackenref1_Width.calls {a0n : Int} {R : Int → Heap → Prop} {H0 : Heap} (h : brackenref1_Width.W a0n R H0) : brackenref1_Width.C a0n H0 R :=
  (evF_sound progOk_ Tryd.func47 (by rw [brackenref1_Width.eq]; exact h)).mono fun v H' h => by obtain ⟨x, hv, hk⟩ := xS_out h; exact ⟨x, hv, hk⟩

def brackenlaw5_steps.ann : Ann := { ord := fun _ => [], loop := fun _ => none, join := fun _ => none }
/-- bracken.brackenlaw5.steps -/
def brackenlaw5_steps.W (a0p : Option Addr) (R : Bool → Heap → Prop) (H0 : Heap) : Prop :=
  paren_Paren_Steps.C (a0p) H0 fun x4 H1 =>
  brW (decide ((0 : Int) ≤ x4)) (paren_Paren_Steps.C (a0p) H1 fun x8 H2 =>
  paren_Paren_Len.C (a0p) H2 fun x10 H3 =>
  brackenref1_Width.C (IntKind.u64.wrap x10) H3 fun x12 H4 => R (decide (x8 ≤ (IntKind.i64.wrap (40 * (IntKind.i64.wrap (x12 + 2)))))) H4) (R false H1)
theorem brackenlaw5_steps.eq (a0p : Option Addr) (R : Bool → Heap → Prop) (H0 : Heap) :
    evF Tryd.prog brackenlaw5_steps.ann Tryd.f29 [.pointer a0p] (fun v H' => xS (.one .bool) v fun r => R r H') H0 = brackenlaw5_steps.W a0p R H0 := by kernel_rfl
theorem brackenlaw5_steps.calls {a0p : Option Addr} {R : Bool → Heap → Prop} {H0 : Heap} (h : brackenlaw5_steps.W a0p R H0) : brackenlaw5_steps.C a0p H0 R :=
  (evF_sound progOk_ Tryd.func29 (by rw [brackenlaw5_steps.eq]; exact h)).mono fun v H' h => by obtain ⟨x, hv, hk⟩ := xS_out h; exact ⟨x, hv, hk⟩

def brackenref1_Begin.ann : Ann := { ord := fun _ => [], loop := fun i => bif Nat.beq i 5 then some [(5, .one (.int .i64)), (6, .one (.int .i64))] else none, join := fun i => bif Nat.beq i 2 then some [(16, .one .bool)] else bif Nat.beq i 3 then some [] else bif Nat.beq i 6 then some [(5, .one (.int .i64))] else bif Nat.beq i 10 then some [(5, .one (.int .i64))] else bif Nat.beq i 12 then some [] else none }
/-- bracken.brackenref1.Begin -/
def brackenref1_Begin.W (a0l_p : Option Addr) (a0l_l a0l_c : Nat) (a1k : Int) (R : Int → Heap → Prop) (H0 : Heap) : Prop :=
  
  JoinW (S := Unit) (fun J3 => 
  JoinW (S := (Bool × Unit)) (fun J2 =>
  brackenref1_has.C (a0l_p) a0l_l a0l_c (a1k) H0 fun x9 H3 =>
  brW (!x9) (J2 (true, ()) H3) (∃ x14 : Addr, a0l_p = some x14 ∧ 0 ≤ a1k ∧ a1k < (a0l_l : Int) ∧
  ∃ x15 : Bool, hcell H3 (x14.add a1k.toNat) = some (.bool x15) ∧ J2 (x15, ()) H3))
  (fun s2 H2 => (fun (x16 : Bool) =>
  brW x16 (R (-1) H2) (J3 () H2)) s2.1))
  (fun _ H1 => 
  JoinW (S := Unit) (fun J12 => 
  LoopW (S := (Int × Int × Unit)) (fun L5 q5 H5 => (fun (e5 : Int) (i6 : Int) =>
  brW (decide ((0 : Int) ≤ i6)) (
  JoinW (S := (Int × Unit)) (fun J6 => 
  JoinW (S := (Int × Unit)) (fun J10 =>
  ∃ x24 : Addr, a0l_p = some x24 ∧ 0 ≤ i6 ∧ i6 < (a0l_l : Int) ∧
  ∃ x25 : Bool, hcell H5 (x24.add i6.toNat) = some (.bool x25) ∧
  brW x25 (letV (IntKind.i64.wrap (e5 - 1)) fun e5 : Int => J10 ((e5 : Int), ()) H5) (letV (IntKind.i64.wrap (e5 + 1)) fun e5 : Int => J10 ((e5 : Int), ()) H5))
  (fun s10 H7 => (fun (e5 : Int) =>
  brW (decide (e5 = 0)) (R (i6) H7) (J6 ((e5 : Int), ()) H7)) s10.1))
  (fun s6 H6 => (fun (e5 : Int) =>
  letV (IntKind.i64.wrap (i6 - 1)) fun i6 : Int => L5 ((e5 : Int), (i6 : Int), ()) H6) s6.1)) (J12 () H5)) q5.1 q5.2.1) ((0 : Int), (a1k : Int), ()) H1)
  (fun _ H4 => R (-1) H4))
theorem brackenref1_Begin.eq (a0l_p : Option Addr) (a0l_l a0l_c : Nat) (a1k : Int) (R : Int → Heap → Prop) (H0 : Heap) :
    evF Tryd.prog brackenref1_Begin.ann Tryd.f30 [.slice a0l_p a0l_l a0l_c, .int .i64 a1k] (fun v H' => xS (.one (.int .i64)) v fun r => R r H') H0 = brackenref1_Begin.W a0l_p a0l_l a0l_c a1k R H0 := by kernel_rfl
theorem brackenref1_Begin.calls {a0l_p : Option Addr} {a0l_l a0l_c : Nat} {a1k : Int} {R : Int → Heap → Prop} {H0 : Heap} (h : brackenref1_Begin.W a0l_p a0l_l a0l_c a1k R H0) : brackenref1_Begin.C a0l_p a0l_l a0l_c a1k H0 R :=
  (evF_sound progOk_ Tryd.func30 (by rw [brackenref1_Begin.eq]; exact h)).mono fun v H' h => by obtain ⟨x, hv, hk⟩ := xS_out h; exact ⟨x, hv, hk⟩

def brackenref1_Enclose.ann : Ann := { ord := fun _ => [], loop := fun i => bif Nat.beq i 5 then some [(5, .one (.int .i64)), (6, .one (.int .i64))] else none, join := fun i => bif Nat.beq i 2 then some [(17, .one .bool)] else bif Nat.beq i 3 then some [] else bif Nat.beq i 6 then some [(5, .one (.int .i64))] else bif Nat.beq i 10 then some [(5, .one (.int .i64))] else bif Nat.beq i 12 then some [] else none }
/-- bracken.brackenref1.Enclose -/
def brackenref1_Enclose.W (a0l_p : Option Addr) (a0l_l a0l_c : Nat) (a1k : Int) (R : Int → Heap → Prop) (H0 : Heap) : Prop :=
  
  JoinW (S := Unit) (fun J3 => 
  JoinW (S := (Bool × Unit)) (fun J2 =>
  brackenref1_has.C (a0l_p) a0l_l a0l_c (a1k) H0 fun x9 H3 =>
  brW (!x9) (J2 (true, ()) H3) (∃ x14 : Addr, a0l_p = some x14 ∧ 0 ≤ a1k ∧ a1k < (a0l_l : Int) ∧
  ∃ x15 : Bool, hcell H3 (x14.add a1k.toNat) = some (.bool x15) ∧ J2 (!x15, ()) H3))
  (fun s2 H2 => (fun (x17 : Bool) =>
  brW x17 (R (-1) H2) (J3 () H2)) s2.1))
  (fun _ H1 => 
  JoinW (S := Unit) (fun J12 =>
  letV (IntKind.i64.wrap (a1k - 1)) fun i6 : Int => 
  LoopW (S := (Int × Int × Unit)) (fun L5 q5 H5 => (fun (e5 : Int) (i6 : Int) =>
  brW (decide ((0 : Int) ≤ i6)) (
  JoinW (S := (Int × Unit)) (fun J6 => 
  JoinW (S := (Int × Unit)) (fun J10 =>
  ∃ x26 : Addr, a0l_p = some x26 ∧ 0 ≤ i6 ∧ i6 < (a0l_l : Int) ∧
  ∃ x27 : Bool, hcell H5 (x26.add i6.toNat) = some (.bool x27) ∧
  brW x27 (letV (IntKind.i64.wrap (e5 + 1)) fun e5 : Int => J10 ((e5 : Int), ()) H5) (letV (IntKind.i64.wrap (e5 - 1)) fun e5 : Int => J10 ((e5 : Int), ()) H5))
  (fun s10 H7 => (fun (e5 : Int) =>
  brW (decide (e5 = 1)) (R (i6) H7) (J6 ((e5 : Int), ()) H7)) s10.1))
  (fun s6 H6 => (fun (e5 : Int) =>
  letV (IntKind.i64.wrap (i6 - 1)) fun i6 : Int => L5 ((e5 : Int), (i6 : Int), ()) H6) s6.1)) (J12 () H5)) q5.1 q5.2.1) ((0 : Int), (i6 : Int), ()) H1)
  (fun _ H4 => R (-1) H4))
theorem brackenref1_Enclose.eq (a0l_p : Option Addr) (a0l_l a0l_c : Nat) (a1k : Int) (R : Int → Heap → Prop) (H0 : Heap) :
    evF Tryd.prog brackenref1_Enclose.ann Tryd.f31 [.slice a0l_p a0l_l a0l_c, .int .i64 a1k] (fun v H' => xS (.one (.int .i64)) v fun r => R r H') H0 = brackenref1_Enclose.W a0l_p a0l_l a0l_c a1k R H0 := by kernel_rfl
theorem brackenref1_Enclose.calls {a0l_p : Option Addr} {a0l_l a0l_c : Nat} {a1k : Int} {R : Int → Heap → Prop} {H0 : Heap} (h : brackenref1_Enclose.W a0l_p a0l_l a0l_c a1k R H0) : brackenref1_Enclose.C a0l_p a0l_l a0l_c a1k H0 R :=
  (evF_sound progOk_ Tryd.func31 (by rw [brackenref1_Enclose.eq]; exact h)).mono fun v H' h => by obtain ⟨x, hv, hk⟩ := xS_out h; exact ⟨x, hv, hk⟩

def brackenref1_Up.ann : Ann := { ord := fun _ => [], loop := fun i => bif Nat.beq i 4 then some [(1, .one (.int .i64)), (7, .one (.int .i64))] else none, join := fun i => bif Nat.beq i 2 then some [(22, .one .bool)] else bif Nat.beq i 3 then some [] else bif Nat.beq i 6 then some [] else bif Nat.beq i 7 then some [(1, .one (.int .i64))] else none }
/-- bracken.brackenref1.Up -/
def brackenref1_Up.W (a0l_p : Option Addr) (a0l_l a0l_c : Nat) (a1k : Int) (a2n : Int) (R : Int → Heap → Prop) (H0 : Heap) : Prop :=
  
  JoinW (S := Unit) (fun J3 => 
  JoinW (S := (Bool × Unit)) (fun J2 =>
  brackenref1_has.C (a0l_p) a0l_l a0l_c (a1k) H0 fun x10 H3 =>
  brW (!x10) (J2 (true, ()) H3) (∃ x15 : Addr, a0l_p = some x15 ∧ 0 ≤ a1k ∧ a1k < (a0l_l : Int) ∧
  ∃ x16 : Bool, hcell H3 (x15.add a1k.toNat) = some (.bool x16) ∧
  brW (!x16) (J2 (true, ()) H3) (J2 (decide (a2n < 0), ()) H3)))
  (fun s2 H2 => (fun (x22 : Bool) =>
  brW x22 (R (-1) H2) (J3 () H2)) s2.1))
  (fun _ H1 => 
  JoinW (S := (Int × Unit)) (fun J7 => 
  LoopW (S := (Int × Int × Unit)) (fun L4 q4 H5 => (fun (k1 : Int) (i7 : Int) => 
  JoinW (S := Unit) (fun J6 =>
  brW (decide (i7 < a2n)) (brW (decide ((0 : Int) ≤ k1)) (J6 () H5) (J7 ((k1 : Int), ()) H5)) (J7 ((k1 : Int), ()) H5))
  (fun _ H6 =>
  brackenref1_Enclose.C (a0l_p) a0l_l a0l_c (k1) H6 fun x34 H7 =>
  letV (IntKind.i64.wrap (i7 + 1)) fun i7 : Int => L4 ((x34 : Int), (i7 : Int), ()) H7)) q4.1 q4.2.1) ((a1k : Int), (0 : Int), ()) H1)
  (fun s7 H4 => (fun (k1 : Int) => R (k1) H4) s7.1))
theorem brackenref1_Up.eq (a0l_p : Option Addr) (a0l_l a0l_c : Nat) (a1k : Int) (a2n : Int) (R : Int → Heap → Prop) (H0 : Heap) :
    evF Tryd.prog brackenref1_Up.ann Tryd.f32 [.slice a0l_p a0l_l a0l_c, .int .i64 a1k, .int .i64 a2n] (fun v H' => xS (.one (.int .i64)) v fun r => R r H') H0 = brackenref1_Up.W a0l_p a0l_l a0l_c a1k a2n R H0 := by kernel_rfl
theorem brackenref1_Up.calls {a0l_p : Option Addr} {a0l_l a0l_c : Nat} {a1k : Int} {a2n : Int} {R : Int → Heap → Prop} {H0 : Heap} (h : brackenref1_Up.W a0l_p a0l_l a0l_c a1k a2n R H0) : brackenref1_Up.C a0l_p a0l_l a0l_c a1k a2n H0 R :=
  (evF_sound progOk_ Tryd.func32 (by rw [brackenref1_Up.eq]; exact h)).mono fun v H' h => by obtain ⟨x, hv, hk⟩ := xS_out h; exact ⟨x, hv, hk⟩

def brackenref1_Select.ann : Ann := { ord := fun _ => [], loop := fun i => bif Nat.beq i 3 then some [(7, .one (.int .i64)), (8, .one (.int .i64))] else none, join := fun i => bif Nat.beq i 4 then some [(7, .one (.int .i64))] else bif Nat.beq i 9 then some [] else none }
/-- bracken.brackenref1.Select -/
def brackenref1_Select.W (a0l_p : Option Addr) (a0l_l a0l_c : Nat) (a1j : Int) (a2bit : Bool) (R : Int → Heap → Prop) (H0 : Heap) : Prop :=
  
  JoinW (S := Unit) (fun J9 => 
  LoopW (S := (Int × Int × Unit)) (fun L3 q3 H2 => (fun (n7 : Int) (i8 : Int) =>
  brW (decide (i8 < (a0l_l : Int))) (
  JoinW (S := (Int × Unit)) (fun J4 =>
  ∃ x17 : Addr, a0l_p = some x17 ∧ 0 ≤ i8 ∧ i8 < (a0l_l : Int) ∧
  ∃ x18 : Bool, hcell H2 (x17.add i8.toNat) = some (.bool x18) ∧
  brW (decide (x18 = a2bit)) (brW (decide (n7 = a1j)) (R (i8) H2) (letV (IntKind.i64.wrap (n7 + 1)) fun n7 : Int => J4 ((n7 : Int), ()) H2)) (J4 ((n7 : Int), ()) H2))
  (fun s4 H3 => (fun (n7 : Int) =>
  letV (IntKind.i64.wrap (i8 + 1)) fun i8 : Int => L3 ((n7 : Int), (i8 : Int), ()) H3) s4.1)) (J9 () H2)) q3.1 q3.2.1) ((0 : Int), (0 : Int), ()) H0)
  (fun _ H1 => R (-1) H1)
theorem brackenref1_Select.eq (a0l_p : Option Addr) (a0l_l a0l_c : Nat) (a1j : Int) (a2bit : Bool) (R : Int → Heap → Prop) (H0 : Heap) :
    evF Tryd.prog brackenref1_Select.ann Tryd.f33 [.slice a0l_p a0l_l a0l_c, .int .i64 a1j, .bool a2bit] (fun v H' => xS (.one (.int .i64)) v fun r => R r H') H0 = brackenref1_Select.W a0l_p a0l_l a0l_c a1j a2bit R H0 := by kernel_rfl
theorem brackenref1_Select.calls {a0l_p : Option Addr} {a0l_l a0l_c : Nat} {a1j : Int} {a2bit : Bool} {R : Int → Heap → Prop} {H0 : Heap} (h : brackenref1_Select.W a0l_p a0l_l a0l_c a1j a2bit R H0) : brackenref1_Select.C a0l_p a0l_l a0l_c a1j a2bit H0 R :=
  (evF_sound progOk_ Tryd.func33 (by rw [brackenref1_Select.eq]; exact h)).mono fun v H' h => by obtain ⟨x, hv, hk⟩ := xS_out h; exact ⟨x, hv, hk⟩

def brackenref1_Number.ann : Ann := { ord := fun _ => [], loop := fun _ => none, join := fun i => bif Nat.beq i 2 then some [(15, .one .bool)] else bif Nat.beq i 3 then some [] else none }
/-- bracken.brackenref1.Number -/
def brackenref1_Number.W (a0l_p : Option Addr) (a0l_l a0l_c : Nat) (a1k : Int) (R : Int → Heap → Prop) (H0 : Heap) : Prop :=
  
  JoinW (S := Unit) (fun J3 => 
  JoinW (S := (Bool × Unit)) (fun J2 =>
  brackenref1_has.C (a0l_p) a0l_l a0l_c (a1k) H0 fun x7 H3 =>
  brW (!x7) (J2 (true, ()) H3) (∃ x12 : Addr, a0l_p = some x12 ∧ 0 ≤ a1k ∧ a1k < (a0l_l : Int) ∧
  ∃ x13 : Bool, hcell H3 (x12.add a1k.toNat) = some (.bool x13) ∧ J2 (!x13, ()) H3))
  (fun s2 H2 => (fun (x15 : Bool) =>
  brW x15 (R (-1) H2) (J3 () H2)) s2.1))
  (fun _ H1 =>
  brackenref1_Rank.C (a0l_p) a0l_l a0l_c (a1k) true H1 fun x18 H4 => R (x18) H4)
theorem brackenref1_Number.eq (a0l_p : Option Addr) (a0l_l a0l_c : Nat) (a1k : Int) (R : Int → Heap → Prop) (H0 : Heap) :
    evF Tryd.prog brackenref1_Number.ann Tryd.f34 [.slice a0l_p a0l_l a0l_c, .int .i64 a1k] (fun v H' => xS (.one (.int .i64)) v fun r => R r H') H0 = brackenref1_Number.W a0l_p a0l_l a0l_c a1k R H0 := by kernel_rfl
theorem brackenref1_Number.calls {a0l_p : Option Addr} {a0l_l a0l_c : Nat} {a1k : Int} {R : Int → Heap → Prop} {H0 : Heap} (h : brackenref1_Number.W a0l_p a0l_l a0l_c a1k R H0) : brackenref1_Number.C a0l_p a0l_l a0l_c a1k H0 R :=
  (evF_sound progOk_ Tryd.func34 (by rw [brackenref1_Number.eq]; exact h)).mono fun v H' h => by obtain ⟨x, hv, hk⟩ := xS_out h; exact ⟨x, hv, hk⟩

def brackenref1_Span.ann : Ann := { ord := fun _ => [], loop := fun _ => none, join := fun i => bif Nat.beq i 2 then some [(15, .one .bool)] else bif Nat.beq i 3 then some [] else none }
/-- bracken.brackenref1.Span -/
def brackenref1_Span.W (a0l_p : Option Addr) (a0l_l a0l_c : Nat) (a1k : Int) (R : Int → Heap → Prop) (H0 : Heap) : Prop :=
  
  JoinW (S := Unit) (fun J3 => 
  JoinW (S := (Bool × Unit)) (fun J2 =>
  brackenref1_has.C (a0l_p) a0l_l a0l_c (a1k) H0 fun x7 H3 =>
  brW (!x7) (J2 (true, ()) H3) (∃ x12 : Addr, a0l_p = some x12 ∧ 0 ≤ a1k ∧ a1k < (a0l_l : Int) ∧
  ∃ x13 : Bool, hcell H3 (x12.add a1k.toNat) = some (.bool x13) ∧ J2 (!x13, ()) H3))
  (fun s2 H2 => (fun (x15 : Bool) =>
  brW x15 (R (0) H2) (J3 () H2)) s2.1))
  (fun _ H1 =>
  brackenref1_Close.C (a0l_p) a0l_l a0l_c (a1k) H1 fun x18 H4 => (2 : Int) ≠ 0 ∧
  letV (IntKind.i64.wrap (Int.tdiv (IntKind.i64.wrap ((IntKind.i64.wrap (x18 - a1k)) + 1)) 2)) fun x4 : Int => R (x4) H4)
theorem brackenref1_Span.eq (a0l_p : Option Addr) (a0l_l a0l_c : Nat) (a1k : Int) (R : Int → Heap → Prop) (H0 : Heap) :
    evF Tryd.prog brackenref1_Span.ann Tryd.f35 [.slice a0l_p a0l_l a0l_c, .int .i64 a1k] (fun v H' => xS (.one (.int .i64)) v fun r => R r H') H0 = brackenref1_Span.W a0l_p a0l_l a0l_c a1k R H0 := by kernel_rfl
theorem brackenref1_Span.calls {a0l_p : Option Addr} {a0l_l a0l_c : Nat} {a1k : Int} {R : Int → Heap → Prop} {H0 : Heap} (h : brackenref1_Span.W a0l_p a0l_l a0l_c a1k R H0) : brackenref1_Span.C a0l_p a0l_l a0l_c a1k H0 R :=
  (evF_sound progOk_ Tryd.func35 (by rw [brackenref1_Span.eq]; exact h)).mono fun v H' h => by obtain ⟨x, hv, hk⟩ := xS_out h; exact ⟨x, hv, hk⟩

def brackenlaw5_ParenAsks.ann : Ann := { ord := fun _ => [], loop := fun i => bif Nat.beq i 6 then some [(1, .one (.int .i64)), (2, .one (.int .i64)), (10, .one (.int .i64))] else none, join := fun i => bif Nat.beq i 4 then some [(30, .one .bool)] else bif Nat.beq i 5 then some [] else bif Nat.beq i 7 then some [(1, .one (.int .i64)), (2, .one (.int .i64))] else bif Nat.beq i 9 then some [(120, .one .bool)] else bif Nat.beq i 10 then some [] else bif Nat.beq i 11 then some [(145, .one .bool)] else bif Nat.beq i 12 then some [] else bif Nat.beq i 14 then some [] else none }
/-- bracken.brackenlaw5.ParenAsks -/
def brackenlaw5_ParenAsks.W (a0l_p : Option Addr) (a0l_l a0l_c : Nat) (a1k : Int) (a2n : Int) (R : Bool → Heap → Prop) (H0 : Heap) : Prop :=
  brackenlaw5_Row.C (a0l_p) a0l_l a0l_c (1000) H0 fun x12_p x12_l x12_c H1 =>
  paren_New.C (x12_p) x12_l x12_c H1 fun x15_0 x15_1 H2 => 
  JoinW (S := Unit) (fun J5 => 
  JoinW (S := (Bool × Unit)) (fun J4 =>
  brW (decide (x15_1 ≠ 0)) (J4 (true, ()) H2) (brW (Option.isNone (x15_0)) (J4 (true, ()) H2) (paren_Paren_Len.C (x15_0) H2 fun x26 H5 => J4 (decide (x26 ≠ (x12_l : Int)), ()) H5)))
  (fun s4 H4 => (fun (x30 : Bool) =>
  brW x30 (R false H4) (J5 () H4)) s4.1))
  (fun _ H3 => 
  JoinW (S := Unit) (fun J14 => 
  LoopW (S := (Int × Int × Int × Unit)) (fun L6 q6 H7 => (fun (k1 : Int) (n2 : Int) (turn10 : Int) =>
  brW (decide (turn10 < 2)) (
  JoinW (S := (Int × Int × Unit)) (fun J7 => 
  JoinW (S := Unit) (fun J10 => 
  JoinW (S := (Bool × Unit)) (fun J9 =>
  paren_Paren_Open.C (x15_0) (k1) H7 fun x37 H11 =>
  brW (decide ((0 : Int) ≤ k1)) (brW (decide (k1 < (x12_l : Int))) (∃ x49 : Addr, x12_p = some x49 ∧ 0 ≤ k1 ∧ k1 < (x12_l : Int) ∧
  ∃ x50 : Bool, hcell H11 (x49.add k1.toNat) = some (.bool x50) ∧
  brW (decide (x37 ≠ x50)) (J9 (true, ()) H11) (paren_Paren_Excess.C (x15_0) (k1) H11 fun x56 H12 =>
  brackenref1_Excess.C (x12_p) x12_l x12_c (k1) H12 fun x59 H13 =>
  brW (decide (x56 ≠ x59)) (J9 (true, ()) H13) (paren_Paren_Close.C (x15_0) (k1) H13 fun x65 H14 =>
  brackenref1_Close.C (x12_p) x12_l x12_c (k1) H14 fun x68 H15 =>
  brW (decide (x65 ≠ x68)) (J9 (true, ()) H15) (brackenlaw5_steps.C (x15_0) H15 fun x73 H16 =>
  brW (!x73) (J9 (true, ()) H16) (paren_Paren_Begin.C (x15_0) (k1) H16 fun x79 H17 =>
  brackenref1_Begin.C (x12_p) x12_l x12_c (k1) H17 fun x82 H18 =>
  brW (decide (x79 ≠ x82)) (J9 (true, ()) H18) (brackenlaw5_steps.C (x15_0) H18 fun x87 H19 =>
  brW (!x87) (J9 (true, ()) H19) (paren_Paren_Enclose.C (x15_0) (k1) H19 fun x93 H20 =>
  brackenref1_Enclose.C (x12_p) x12_l x12_c (k1) H20 fun x96 H21 =>
  brW (decide (x93 ≠ x96)) (J9 (true, ()) H21) (brackenlaw5_steps.C (x15_0) H21 fun x101 H22 =>
  brW (!x101) (J9 (true, ()) H22) (paren_Paren_Up.C (x15_0) (k1) (n2) H22 fun x108 H23 =>
  brackenref1_Up.C (x12_p) x12_l x12_c (k1) (min n2 3000) H23 fun x113 H24 =>
  brW (decide (x108 ≠ x113)) (J9 (true, ()) H24) (brackenlaw5_steps.C (x15_0) H24 fun x118 H25 => J9 (!x118, ()) H25)))))))))) (brW (decide (x37 ≠ false)) (J9 (true, ()) H11) (paren_Paren_Excess.C (x15_0) (k1) H11 fun x56 H26 =>
  brackenref1_Excess.C (x12_p) x12_l x12_c (k1) H26 fun x59 H27 =>
  brW (decide (x56 ≠ x59)) (J9 (true, ()) H27) (paren_Paren_Close.C (x15_0) (k1) H27 fun x65 H28 =>
  brackenref1_Close.C (x12_p) x12_l x12_c (k1) H28 fun x68 H29 =>
  brW (decide (x65 ≠ x68)) (J9 (true, ()) H29) (brackenlaw5_steps.C (x15_0) H29 fun x73 H30 =>
  brW (!x73) (J9 (true, ()) H30) (paren_Paren_Begin.C (x15_0) (k1) H30 fun x79 H31 =>
  brackenref1_Begin.C (x12_p) x12_l x12_c (k1) H31 fun x82 H32 =>
  brW (decide (x79 ≠ x82)) (J9 (true, ()) H32) (brackenlaw5_steps.C (x15_0) H32 fun x87 H33 =>
  brW (!x87) (J9 (true, ()) H33) (paren_Paren_Enclose.C (x15_0) (k1) H33 fun x93 H34 =>
  brackenref1_Enclose.C (x12_p) x12_l x12_c (k1) H34 fun x96 H35 =>
  brW (decide (x93 ≠ x96)) (J9 (true, ()) H35) (brackenlaw5_steps.C (x15_0) H35 fun x101 H36 =>
  brW (!x101) (J9 (true, ()) H36) (paren_Paren_Up.C (x15_0) (k1) (n2) H36 fun x108 H37 =>
  brackenref1_Up.C (x12_p) x12_l x12_c (k1) (min n2 3000) H37 fun x113 H38 =>
  brW (decide (x108 ≠ x113)) (J9 (true, ()) H38) (brackenlaw5_steps.C (x15_0) H38 fun x118 H39 => J9 (!x118, ()) H39))))))))))) (brW (decide (x37 ≠ false)) (J9 (true, ()) H11) (paren_Paren_Excess.C (x15_0) (k1) H11 fun x56 H40 =>
  brackenref1_Excess.C (x12_p) x12_l x12_c (k1) H40 fun x59 H41 =>
  brW (decide (x56 ≠ x59)) (J9 (true, ()) H41) (paren_Paren_Close.C (x15_0) (k1) H41 fun x65 H42 =>
  brackenref1_Close.C (x12_p) x12_l x12_c (k1) H42 fun x68 H43 =>
  brW (decide (x65 ≠ x68)) (J9 (true, ()) H43) (brackenlaw5_steps.C (x15_0) H43 fun x73 H44 =>
  brW (!x73) (J9 (true, ()) H44) (paren_Paren_Begin.C (x15_0) (k1) H44 fun x79 H45 =>
  brackenref1_Begin.C (x12_p) x12_l x12_c (k1) H45 fun x82 H46 =>
  brW (decide (x79 ≠ x82)) (J9 (true, ()) H46) (brackenlaw5_steps.C (x15_0) H46 fun x87 H47 =>
  brW (!x87) (J9 (true, ()) H47) (paren_Paren_Enclose.C (x15_0) (k1) H47 fun x93 H48 =>
  brackenref1_Enclose.C (x12_p) x12_l x12_c (k1) H48 fun x96 H49 =>
  brW (decide (x93 ≠ x96)) (J9 (true, ()) H49) (brackenlaw5_steps.C (x15_0) H49 fun x101 H50 =>
  brW (!x101) (J9 (true, ()) H50) (paren_Paren_Up.C (x15_0) (k1) (n2) H50 fun x108 H51 =>
  brackenref1_Up.C (x12_p) x12_l x12_c (k1) (min n2 3000) H51 fun x113 H52 =>
  brW (decide (x108 ≠ x113)) (J9 (true, ()) H52) (brackenlaw5_steps.C (x15_0) H52 fun x118 H53 => J9 (!x118, ()) H53)))))))))))
  (fun s9 H10 => (fun (x120 : Bool) =>
  brW x120 (R false H10) (J10 () H10)) s9.1))
  (fun _ H9 => 
  JoinW (S := Unit) (fun J12 => 
  JoinW (S := (Bool × Unit)) (fun J11 =>
  paren_Paren_Place.C (x15_0) (k1) H9 fun x123 H56 =>
  brackenref1_Select.C (x12_p) x12_l x12_c (k1) true H56 fun x126 H57 =>
  brW (decide (x123 ≠ x126)) (J11 (true, ()) H57) (paren_Paren_Number.C (x15_0) (k1) H57 fun x131 H58 =>
  brackenref1_Number.C (x12_p) x12_l x12_c (k1) H58 fun x134 H59 =>
  brW (decide (x131 ≠ x134)) (J11 (true, ()) H59) (paren_Paren_Span.C (x15_0) (k1) H59 fun x140 H60 =>
  brackenref1_Span.C (x12_p) x12_l x12_c (k1) H60 fun x143 H61 => J11 (decide (x140 ≠ x143), ()) H61)))
  (fun s11 H55 => (fun (x145 : Bool) =>
  brW x145 (R false H55) (J12 () H55)) s11.1))
  (fun _ H54 => (IntKind.u64.wrap (IntKind.i64.wrap ((x12_l : Int) + 1))) ≠ 0 ∧
  letV (IntKind.i64.wrap (Int.tmod (IntKind.u64.wrap k1) (IntKind.u64.wrap (IntKind.i64.wrap ((x12_l : Int) + 1))))) fun k1 : Int => (20 : Int) ≠ 0 ∧
  letV (IntKind.i64.wrap (Int.tmod (IntKind.u64.wrap n2) 20)) fun n2 : Int => J7 ((k1 : Int), (n2 : Int), ()) H54)))
  (fun s7 H8 => (fun (k1 : Int) (n2 : Int) =>
  letV (IntKind.i64.wrap (turn10 + 1)) fun turn10 : Int => L6 ((k1 : Int), (n2 : Int), (turn10 : Int), ()) H8) s7.1 s7.2.1)) (J14 () H7)) q6.1 q6.2.1 q6.2.2.1) ((a1k : Int), (a2n : Int), (0 : Int), ()) H3)
  (fun _ H6 =>
  brackenlaw5_told.C  H6 fun x158 H62 => R (x158) H62))
theorem brackenlaw5_ParenAsks.eq (a0l_p : Option Addr) (a0l_l a0l_c : Nat) (a1k : Int) (a2n : Int) (R : Bool → Heap → Prop) (H0 : Heap) :
    evF Tryd.prog brackenlaw5_ParenAsks.ann Tryd.f7 [.slice a0l_p a0l_l a0l_c, .int .i64 a1k, .int .i64 a2n] (fun v H' => xS (.one .bool) v fun r => R r H') H0 = brackenlaw5_ParenAsks.W a0l_p a0l_l a0l_c a1k a2n R H0 := by kernel_rfl
theorem brackenlaw5_ParenAsks.calls {a0l_p : Option Addr} {a0l_l a0l_c : Nat} {a1k : Int} {a2n : Int} {R : Bool → Heap → Prop} {H0 : Heap} (h : brackenlaw5_ParenAsks.W a0l_p a0l_l a0l_c a1k a2n R H0) : brackenlaw5_ParenAsks.C a0l_p a0l_l a0l_c a1k a2n H0 R :=
  (evF_sound progOk_ Tryd.func7 (by rw [brackenlaw5_ParenAsks.eq]; exact h)).mono fun v H' h => by obtain ⟨x, hv, hk⟩ := xS_out h; exact ⟨x, hv, hk⟩

def brackenlaw5_ParenDeep.ann : Ann := { ord := fun i => bif Nat.beq i 10 then [0, 1, 2, 3, 4, 5, 6, 7, 8, 9, 10, 11, 12, 13] else [], loop := fun i => bif Nat.beq i 4 then some [(8, .one .slice), (9, .one (.int .i64))] else none, join := fun i => bif Nat.beq i 7 then some [(8, .one .slice)] else bif Nat.beq i 9 then some [(41, .one .bool)] else bif Nat.beq i 10 then some [] else bif Nat.beq i 13 then some [(12, .one (.int .i64)), (13, .one (.int .i64))] else none }
/-- bracken.brackenlaw5.ParenDeep -/
def brackenlaw5_ParenDeep.W (a0n : Int) (a1k : Int) (a2j : Int) (R : Bool → Heap → Prop) (H0 : Heap) : Prop :=
  (1000 : Int) ≠ 0 ∧
  letV (IntKind.i64.wrap (1 + (IntKind.i64.wrap (Int.tmod (IntKind.u64.wrap a0n) 1000)))) fun a7 : Int => 
  JoinW (S := ((Option Addr × Nat × Nat) × Unit)) (fun J7 => 
  LoopW (S := ((Option Addr × Nat × Nat) × Int × Unit)) (fun L4 q4 H2 => (fun (m8_p : Option Addr) (m8_l m8_c : Nat) (i9 : Int) =>
  brW (decide (i9 < (IntKind.i64.wrap (2 * a7)))) (letV (hnew H2 #[.bool (decide (i9 < a7))] ty_bool) fun H3 : Heap => appW ty_bool 1 1 (.bool false) m8_p m8_l m8_c (.slice (some ⟨Array.size H2, 0, none⟩) 1 1) H3 fun x30_p x30_l x30_c H4 =>
  letV (IntKind.i64.wrap (i9 + 1)) fun i9 : Int => L4 ((x30_p, x30_l, x30_c), (i9 : Int), ()) H4) (J7 ((m8_p, m8_l, m8_c), ()) H2)) q4.1.1 q4.1.2.1 q4.1.2.2 q4.2.1) ((none, 0, 0), (0 : Int), ()) H0)
  (fun s7 H1 => (fun (m8_p : Option Addr) (m8_l m8_c : Nat) =>
  paren_New.C (m8_p) m8_l m8_c H1 fun x33_0 x33_1 H5 => 
  JoinW (S := Unit) (fun J10 => 
  JoinW (S := (Bool × Unit)) (fun J9 =>
  brW (decide (x33_1 ≠ 0)) (J9 (true, ()) H5) (J9 (Option.isNone (x33_0), ()) H5))
  (fun s9 H7 => (fun (x41 : Bool) =>
  brW x41 (R false H7) (J10 () H7)) s9.1))
  (fun _ H6 => (IntKind.u64.wrap a7) ≠ 0 ∧ (IntKind.u64.wrap a7) ≠ 0 ∧
  letV (IntKind.i64.wrap (Int.tmod (IntKind.u64.wrap a1k) (IntKind.u64.wrap a7))) fun x12 : Int =>
  letV (IntKind.i64.wrap (Int.tmod (IntKind.u64.wrap a2j) (IntKind.u64.wrap a7))) fun y13 : Int => 
  JoinW (S := (Int × Int × Unit)) (fun J13 =>
  brW (decide (x12 < y13)) (J13 ((y13 : Int), (x12 : Int), ()) H6) (J13 ((x12 : Int), (y13 : Int), ()) H6))
  (fun s13 H8 => (fun (x12 : Int) (y13 : Int) =>
  brackenlaw5_told.C  H8 fun x59 H9 =>
  brW x59 (paren_Paren_Close.C (x33_0) (x12) H9 fun x63 H10 =>
  brW (decide (x63 = (IntKind.i64.wrap ((IntKind.i64.wrap ((IntKind.i64.wrap (2 * a7)) - 1)) - x12)))) (brackenlaw5_steps.C (x33_0) H10 fun x73 H11 =>
  brW x73 (paren_Paren_Up.C (x33_0) (x12) (IntKind.i64.wrap (x12 - y13)) H11 fun x81 H12 =>
  brW (decide (x81 = y13)) (brackenlaw5_steps.C (x33_0) H12 fun x87 H13 =>
  brW x87 (paren_Paren_Up.C (x33_0) (x12) (IntKind.i64.wrap (x12 + 1)) H13 fun x94 H14 =>
  brW (decide (x94 = (-1))) (paren_Paren_Excess.C (x33_0) (x12) H14 fun x100 H15 =>
  brW (decide (x100 = (IntKind.i64.wrap (x12 + 1)))) (paren_Paren_Span.C (x33_0) (x12) H15 fun x108 H16 => R (decide (x108 = (IntKind.i64.wrap (a7 - x12)))) H16) (R false H15)) (R false H14)) (R false H13)) (R false H12)) (R false H11)) (R false H10)) (R false H9)) s13.1 s13.2.1))) s7.1.1 s7.1.2.1 s7.1.2.2)
theorem brackenlaw5_ParenDeep.eq (a0n : Int) (a1k : Int) (a2j : Int) (R : Bool → Heap → Prop) (H0 : Heap) :
    evF Tryd.prog brackenlaw5_ParenDeep.ann Tryd.f8 [.int .i64 a0n, .int .i64 a1k, .int .i64 a2j] (fun v H' => xS (.one .bool) v fun r => R r H') H0 = brackenlaw5_ParenDeep.W a0n a1k a2j R H0 := by kernel_rfl
theorem brackenlaw5_ParenDeep.calls {a0n : Int} {a1k : Int} {a2j : Int} {R : Bool → Heap → Prop} {H0 : Heap} (h : brackenlaw5_ParenDeep.W a0n a1k a2j R H0) : brackenlaw5_ParenDeep.C a0n a1k a2j H0 R :=
  (evF_sound progOk_ Tryd.func8 (by rw [brackenlaw5_ParenDeep.eq]; exact h)).mono fun v H' h => by obtain ⟨x, hv, hk⟩ := xS_out h; exact ⟨x, hv, hk⟩

def brackenlaw5_ParenWide.ann : Ann := { ord := fun _ => [], loop := fun i => bif Nat.beq i 4 then some [(6, .one .slice), (7, .one (.int .i64))] else none, join := fun i => bif Nat.beq i 7 then some [(6, .one .slice)] else bif Nat.beq i 10 then some [(38, .one .bool)] else bif Nat.beq i 11 then some [] else none }
/-- bracken.brackenlaw5.ParenWide -/
def brackenlaw5_ParenWide.W (a0n : Int) (a1k : Int) (R : Bool → Heap → Prop) (H0 : Heap) : Prop :=
  (2000 : Int) ≠ 0 ∧
  letV (IntKind.i64.wrap (1 + (IntKind.i64.wrap (Int.tmod (IntKind.u64.wrap a0n) 2000)))) fun a5 : Int =>
  letV (hnew H0 #[.bool true] ty_bool) fun H1 : Heap => 
  JoinW (S := ((Option Addr × Nat × Nat) × Unit)) (fun J7 => 
  LoopW (S := ((Option Addr × Nat × Nat) × Int × Unit)) (fun L4 q4 H3 => (fun (m6_p : Option Addr) (m6_l m6_c : Nat) (i7 : Int) =>
  brW (decide (i7 < a5)) (letV (hnew H3 #[.bool true, .bool false] ty_bool) fun H4 : Heap => appW ty_bool 1 1 (.bool false) m6_p m6_l m6_c (.slice (some ⟨Array.size H3, 0, none⟩) 2 2) H4 fun x24_p x24_l x24_c H5 =>
  letV (IntKind.i64.wrap (i7 + 1)) fun i7 : Int => L4 ((x24_p, x24_l, x24_c), (i7 : Int), ()) H5) (J7 ((m6_p, m6_l, m6_c), ()) H3)) q4.1.1 q4.1.2.1 q4.1.2.2 q4.2.1) ((some ⟨Array.size H0, 0, none⟩, 1, 1), (0 : Int), ()) H1)
  (fun s7 H2 => (fun (m6_p : Option Addr) (m6_l m6_c : Nat) =>
  letV (hnew H2 #[.bool false] ty_bool) fun H6 : Heap => appW ty_bool 1 1 (.bool false) m6_p m6_l m6_c (.slice (some ⟨Array.size H2, 0, none⟩) 1 1) H6 fun x27_p x27_l x27_c H7 =>
  paren_New.C (x27_p) x27_l x27_c H7 fun x30_0 x30_1 H8 => 
  JoinW (S := Unit) (fun J11 => 
  JoinW (S := (Bool × Unit)) (fun J10 =>
  brW (decide (x30_1 ≠ 0)) (J10 (true, ()) H8) (J10 (Option.isNone (x30_0), ()) H8))
  (fun s10 H10 => (fun (x38 : Bool) =>
  brW x38 (R false H10) (J11 () H10)) s10.1))
  (fun _ H9 => (IntKind.u64.wrap a5) ≠ 0 ∧
  letV (IntKind.i64.wrap (1 + (IntKind.i64.wrap (2 * (IntKind.i64.wrap (Int.tmod (IntKind.u64.wrap a1k) (IntKind.u64.wrap a5))))))) fun x10 : Int =>
  brackenlaw5_told.C  H9 fun x47 H11 =>
  brW x47 (paren_Paren_Close.C (x30_0) (0) H11 fun x50 H12 =>
  brW (decide (x50 = (IntKind.i64.wrap ((IntKind.i64.wrap (2 * a5)) + 1)))) (brackenlaw5_steps.C (x30_0) H12 fun x58 H13 =>
  brW x58 (paren_Paren_Close.C (x30_0) (x10) H13 fun x63 H14 =>
  brW (decide (x63 = (IntKind.i64.wrap (x10 + 1)))) (brackenlaw5_steps.C (x30_0) H14 fun x70 H15 =>
  brW x70 (paren_Paren_Enclose.C (x30_0) (x10) H15 fun x75 H16 =>
  brW (decide (x75 = 0)) (brackenlaw5_steps.C (x30_0) H16 fun x80 H17 =>
  brW x80 (paren_Paren_Begin.C (x30_0) (IntKind.i64.wrap ((IntKind.i64.wrap (2 * a5)) + 1)) H17 fun x87 H18 =>
  brW (decide (x87 = 0)) (brackenlaw5_steps.C (x30_0) H18 fun x92 H19 =>
  brW x92 (paren_Paren_Up.C (x30_0) (x10) (1) H19 fun x97 H20 =>
  brW (decide (x97 = 0)) (brackenlaw5_steps.C (x30_0) H20 fun x102 H21 =>
  brW x102 (paren_Paren_Span.C (x30_0) (0) H21 fun x106 H22 =>
  brW (decide (x106 = (IntKind.i64.wrap (a5 + 1)))) (paren_Paren_Number.C (x30_0) (x10) H22 fun x114 H23 => (2 : Int) ≠ 0 ∧
  brW (decide (x114 = (IntKind.i64.wrap (Int.tdiv (IntKind.i64.wrap (x10 + 1)) 2)))) ((2 : Int) ≠ 0 ∧ paren_Paren_Place.C (x30_0) (IntKind.i64.wrap (Int.tdiv (IntKind.i64.wrap (x10 + 1)) 2)) H23 fun x125 H24 => R (decide (x125 = x10)) H24) (R false H23)) (R false H22)) (R false H21)) (R false H20)) (R false H19)) (R false H18)) (R false H17)) (R false H16)) (R false H15)) (R false H14)) (R false H13)) (R false H12)) (R false H11))) s7.1.1 s7.1.2.1 s7.1.2.2)
theorem brackenlaw5_ParenWide.eq (a0n : Int) (a1k : Int) (R : Bool → Heap → Prop) (H0 : Heap) :
    evF Tryd.prog brackenlaw5_ParenWide.ann Tryd.f9 [.int .i64 a0n, .int .i64 a1k] (fun v H' => xS (.one .bool) v fun r => R r H') H0 = brackenlaw5_ParenWide.W a0n a1k R H0 := by kernel_rfl
theorem brackenlaw5_ParenWide.calls {a0n : Int} {a1k : Int} {R : Bool → Heap → Prop} {H0 : Heap} (h : brackenlaw5_ParenWide.W a0n a1k R H0) : brackenlaw5_ParenWide.C a0n a1k H0 R :=
  (evF_sound progOk_ Tryd.func9 (by rw [brackenlaw5_ParenWide.eq]; exact h)).mono fun v H' h => by obtain ⟨x, hv, hk⟩ := xS_out h; exact ⟨x, hv, hk⟩

def brackenlaw5_ParenUp.ann : Ann := { ord := fun _ => [], loop := fun i => bif Nat.beq i 10 then some [(9, .one (.int .i64)), (10, .one (.int .i64))] else none, join := fun i => bif Nat.beq i 4 then some [(28, .one .bool)] else bif Nat.beq i 5 then some [] else bif Nat.beq i 11 then some [(9, .one (.int .i64))] else bif Nat.beq i 12 then some [] else bif Nat.beq i 13 then some [(78, .one .bool)] else bif Nat.beq i 14 then some [] else bif Nat.beq i 15 then some [] else none }
/-- bracken.brackenlaw5.ParenUp -/
def brackenlaw5_ParenUp.W (a0l_p : Option Addr) (a0l_l a0l_c : Nat) (a1k : Int) (R : Bool → Heap → Prop) (H0 : Heap) : Prop :=
  brackenlaw5_Row.C (a0l_p) a0l_l a0l_c (400) H0 fun x12_p x12_l x12_c H1 =>
  paren_New.C (x12_p) x12_l x12_c H1 fun x15_0 x15_1 H2 => 
  JoinW (S := Unit) (fun J5 => 
  JoinW (S := (Bool × Unit)) (fun J4 =>
  brW (decide (x15_1 ≠ 0)) (J4 (true, ()) H2) (brW (Option.isNone (x15_0)) (J4 (true, ()) H2) (J4 (decide ((x12_l : Int) = 0), ()) H2)))
  (fun s4 H4 => (fun (x28 : Bool) =>
  brW x28 (brackenlaw5_told.C  H4 fun x29 H5 =>
  brW x29 (R (decide (x15_1 = 0)) H5) (R false H5)) (J5 () H4)) s4.1))
  (fun _ H3 => (2 : Int) ≠ 0 ∧ (IntKind.u64.wrap (IntKind.i64.wrap (Int.tdiv (x12_l : Int) 2))) ≠ 0 ∧ paren_Paren_Place.C (x15_0) (IntKind.i64.wrap (Int.tmod (IntKind.u64.wrap a1k) (IntKind.u64.wrap (IntKind.i64.wrap (Int.tdiv (x12_l : Int) 2))))) H3 fun x43 H6 =>
  brW (decide (x43 < 0)) (R false H6) (
  JoinW (S := Unit) (fun J15 => 
  LoopW (S := (Int × Int × Unit)) (fun L10 q10 H8 => (fun (x9 : Int) (i10 : Int) => 
  JoinW (S := Unit) (fun J12 =>
  brW (decide ((0 : Int) ≤ x9)) (brW (decide (i10 ≤ (x12_l : Int))) (J12 () H8) (J15 () H8)) (J15 () H8))
  (fun _ H9 => 
  JoinW (S := (Int × Unit)) (fun J11 => 
  JoinW (S := Unit) (fun J14 => 
  JoinW (S := (Bool × Unit)) (fun J13 =>
  paren_Paren_Up.C (x15_0) (x43) (i10) H9 fun x60 H13 =>
  brW (decide (x60 ≠ x9)) (J13 (true, ()) H13) (paren_Paren_Excess.C (x15_0) (x9) H13 fun x66 H14 =>
  paren_Paren_Excess.C (x15_0) (x43) H14 fun x69 H15 =>
  brW (decide (x66 ≠ (IntKind.i64.wrap (x69 - i10)))) (J13 (true, ()) H15) (brackenlaw5_steps.C (x15_0) H15 fun x76 H16 => J13 (!x76, ()) H16)))
  (fun s13 H12 => (fun (x78 : Bool) =>
  brW x78 (R false H12) (J14 () H12)) s13.1))
  (fun _ H11 =>
  paren_Paren_Enclose.C (x15_0) (x9) H11 fun x81 H17 => J11 ((x81 : Int), ()) H17))
  (fun s11 H10 => (fun (x9 : Int) =>
  letV (IntKind.i64.wrap (i10 + 1)) fun i10 : Int => L10 ((x9 : Int), (i10 : Int), ()) H10) s11.1))) q10.1 q10.2.1) ((x43 : Int), (0 : Int), ()) H6)
  (fun _ H7 =>
  brackenlaw5_told.C  H7 fun x82 H18 =>
  brW x82 (paren_Paren_Excess.C (x15_0) (x43) H18 fun x88 H19 =>
  paren_Paren_Up.C (x15_0) (x43) (x88) H19 fun x89 H20 =>
  brW (decide (x89 = (-1))) (paren_Paren_Up.C (x15_0) (x43) (-1) H20 fun x95 H21 => R (decide (x95 = (-1))) H21) (R false H20)) (R false H18))))
theorem brackenlaw5_ParenUp.eq (a0l_p : Option Addr) (a0l_l a0l_c : Nat) (a1k : Int) (R : Bool → Heap → Prop) (H0 : Heap) :
    evF Tryd.prog brackenlaw5_ParenUp.ann Tryd.f10 [.slice a0l_p a0l_l a0l_c, .int .i64 a1k] (fun v H' => xS (.one .bool) v fun r => R r H') H0 = brackenlaw5_ParenUp.W a0l_p a0l_l a0l_c a1k R H0 := by kernel_rfl
theorem brackenlaw5_ParenUp.calls {a0l_p : Option Addr} {a0l_l a0l_c : Nat} {a1k : Int} {R : Bool → Heap → Prop} {H0 : Heap} (h : brackenlaw5_ParenUp.W a0l_p a0l_l a0l_c a1k R H0) : brackenlaw5_ParenUp.C a0l_p a0l_l a0l_c a1k H0 R :=
  (evF_sound progOk_ Tryd.func10 (by rw [brackenlaw5_ParenUp.eq]; exact h)).mono fun v H' h => by obtain ⟨x, hv, hk⟩ := xS_out h; exact ⟨x, hv, hk⟩

end Go.Proofs.YtmijfoikdjcmlaaDoor
