import Derived.Test.YtkjgbophokcdbaaDoorEvSound
import Derived.Test.YtkjgbophokcdbaaDoorProg
import Derived.KernelRfl
import Derived.Test.YtkjgbophokcdbaaDoorMA0
namespace Go.Proofs.YtkjgbophokcdbaaDoor
open Go.Ev
set_option linter.unusedVariables false
def bits_Len64.ann : Ann := { ord := fun _ => [], loop := fun _ => none, join := fun i => bif Nat.beq i 4 then some [(0, .one (.int .u64)), (2, .one (.int .i64))] else bif Nat.beq i 7 then some [(0, .one (.int .u64)), (2, .one (.int .i64))] else bif Nat.beq i 10 then some [(0, .one (.int .u64)), (2, .one (.int .i64))] else none }
/-- math.bits.Len64 -/
def bits_Len64.W (a0x : Int) (R : Int → Heap → Prop) (H0 : Heap) : Prop :=
  
  JoinW (S := (Int × Int × Unit)) (fun J4 =>
  brW (decide ((4294967296 : Int) ≤ a0x)) (0 ≤ (32 : Int) ∧
  letV (shrW .u64 a0x 32) fun x0 : Int => J4 ((x0 : Int), (32 : Int), ()) H0) (J4 ((a0x : Int), (0 : Int), ()) H0))
  (fun s4 H1 => (fun (x0 : Int) (n2 : Int) => 
  JoinW (S := (Int × Int × Unit)) (fun J7 =>
  brW (decide ((65536 : Int) ≤ x0)) (0 ≤ (16 : Int) ∧
  letV (shrW .u64 x0 16) fun x0 : Int =>
  letV (IntKind.i64.wrap (n2 + 16)) fun n2 : Int => J7 ((x0 : Int), (n2 : Int), ()) H1) (J7 ((x0 : Int), (n2 : Int), ()) H1))
  (fun s7 H2 => (fun (x0 : Int) (n2 : Int) => 
  JoinW (S := (Int × Int × Unit)) (fun J10 =>
  brW (decide ((256 : Int) ≤ x0)) (0 ≤ (8 : Int) ∧
  letV (shrW .u64 x0 8) fun x0 : Int =>
  letV (IntKind.i64.wrap (n2 + 8)) fun n2 : Int => J10 ((x0 : Int), (n2 : Int), ()) H2) (J10 ((x0 : Int), (n2 : Int), ()) H2))
  (fun s10 H3 => (fun (x0 : Int) (n2 : Int) => 0 ≤ IntKind.u8.wrap x0 ∧ IntKind.u8.wrap x0 < ((⟨#[0, 1, 2, 2, 3, 3, 3, 3, 4, 4, 4, 4, 4, 4, 4, 4, 5, 5, 5, 5, 5, 5, 5, 5, 5, 5, 5, 5, 5, 5, 5, 5, 6, 6, 6, 6, 6, 6, 6, 6, 6, 6, 6, 6, 6, 6, 6, 6, 6, 6, 6, 6, 6, 6, 6, 6, 6, 6, 6, 6, 6, 6, 6, 6, 7, 7, 7, 7, 7, 7, 7, 7, 7, 7, 7, 7, 7, 7, 7, 7, 7, 7, 7, 7, 7, 7, 7, 7, 7, 7, 7, 7, 7, 7, 7, 7, 7, 7, 7, 7, 7, 7, 7, 7, 7, 7, 7, 7, 7, 7, 7, 7, 7, 7, 7, 7, 7, 7, 7, 7, 7, 7, 7, 7, 7, 7, 7, 7, 8, 8, 8, 8, 8, 8, 8, 8, 8, 8, 8, 8, 8, 8, 8, 8, 8, 8, 8, 8, 8, 8, 8, 8, 8, 8, 8, 8, 8, 8, 8, 8, 8, 8, 8, 8, 8, 8, 8, 8, 8, 8, 8, 8, 8, 8, 8, 8, 8, 8, 8, 8, 8, 8, 8, 8, 8, 8, 8, 8, 8, 8, 8, 8, 8, 8, 8, 8, 8, 8, 8, 8, 8, 8, 8, 8, 8, 8, 8, 8, 8, 8, 8, 8, 8, 8, 8, 8, 8, 8, 8, 8, 8, 8, 8, 8, 8, 8, 8, 8, 8, 8, 8, 8, 8, 8, 8, 8, 8, 8, 8, 8, 8, 8, 8, 8, 8, 8, 8, 8, 8, 8, 8, 8, 8, 8, 8, 8]⟩ : ByteArray).size : Int) ∧
  letV (IntKind.i64.wrap (n2 + (IntKind.i64.wrap (bt (⟨#[0, 1, 2, 2, 3, 3, 3, 3, 4, 4, 4, 4, 4, 4, 4, 4, 5, 5, 5, 5, 5, 5, 5, 5, 5, 5, 5, 5, 5, 5, 5, 5, 6, 6, 6, 6, 6, 6, 6, 6, 6, 6, 6, 6, 6, 6, 6, 6, 6, 6, 6, 6, 6, 6, 6, 6, 6, 6, 6, 6, 6, 6, 6, 6, 7, 7, 7, 7, 7, 7, 7, 7, 7, 7, 7, 7, 7, 7, 7, 7, 7, 7, 7, 7, 7, 7, 7, 7, 7, 7, 7, 7, 7, 7, 7, 7, 7, 7, 7, 7, 7, 7, 7, 7, 7, 7, 7, 7, 7, 7, 7, 7, 7, 7, 7, 7, 7, 7, 7, 7, 7, 7, 7, 7, 7, 7, 7, 7, 8, 8, 8, 8, 8, 8, 8, 8, 8, 8, 8, 8, 8, 8, 8, 8, 8, 8, 8, 8, 8, 8, 8, 8, 8, 8, 8, 8, 8, 8, 8, 8, 8, 8, 8, 8, 8, 8, 8, 8, 8, 8, 8, 8, 8, 8, 8, 8, 8, 8, 8, 8, 8, 8, 8, 8, 8, 8, 8, 8, 8, 8, 8, 8, 8, 8, 8, 8, 8, 8, 8, 8, 8, 8, 8, 8, 8, 8, 8, 8, 8, 8, 8, 8, 8, 8, 8, 8, 8, 8, 8, 8, 8, 8, 8, 8, 8, 8, 8, 8, 8, 8, 8, 8, 8, 8, 8, 8, 8, 8, 8, 8, 8, 8, 8, 8, 8, 8, 8, 8, 8, 8, 8, 8, 8, 8, 8, 8]⟩ : ByteArray) (IntKind.u8.wrap x0))))) fun n2 : Int => R (n2) H3) s10.1 s10.2.1)) s7.1 s7.2.1)) s4.1 s4.2.1)
theorem bits_Len64.eq (a0x : Int) (R : Int → Heap → Prop) (H0 : Heap) :
    evF Tryd.prog bits_Len64.ann Tryd.f35 [.int .u64 a0x] (fun v H' => xS (.one (.int .i64)) v fun r => R r H') H0 = bits_Len64.W a0x R H0 := by kernel_rfl
theorem bits_Len64.calls {a0x : Int} {R : Int → Heap → Prop} {H0 : Heap} (h : bits_Len64.W a0x R H0) : bits_Len64.C a0x H0 R :=
  (evF_sound progOk_ Tryd.func35 (by rw [bits_Len64.eq]; exact h)).mono fun v H' h => by obtain ⟨x, hv, hk⟩ := xS_out h; exact ⟨x, hv, hk⟩

def ints_Width.ann : Ann := { ord := fun _ => [], loop := fun _ => none, join := fun _ => none }
/-- bracken.ints.Width -/
def ints_Width.W (a0n : Int) (R : Int → Heap → Prop) (H0 : Heap) : Prop :=
  bits_Len64.C (a0n) H0 fun x4 H1 => R (x4) H1
theorem ints_Width.eq (a0n : Int) (R : Int → Heap → Prop) (H0 : Heap) :
    evF Tryd.prog ints_Width.ann Tryd.f23 [.int .u64 a0n] (fun v H' => xS (.one (.int .i64)) v fun r => R r H') H0 = ints_Width.W a0n R H0 := by kernel_rfl
theorem ints_Width.calls {a0n : Int} {R : Int → Heap → Prop} {H0 : Heap} (h : ints_Width.W a0n R H0) : ints_Width.C a0n H0 R :=
  (evF_sound progOk_ Tryd.func23 (by rw [ints_Width.eq]; exact h)).mono fun v H' h => by obtain ⟨x, hv, hk⟩ := xS_out h; exact ⟨x, hv, hk⟩

def bits_OnesCount64.ann : Ann := { ord := fun _ => [], loop := fun _ => none, join := fun _ => none }
/-- math.bits.OnesCount64 -/
def bits_OnesCount64.W (a0x : Int) (R : Int → Heap → Prop) (H0 : Heap) : Prop :=
  0 ≤ (1 : Int) ∧
  letV (IntKind.u64.wrap ((andW .u64 (shrW .u64 a0x 1) 6148914691236517205) + (andW .u64 a0x 6148914691236517205))) fun x0 : Int => 0 ≤ (2 : Int) ∧
  letV (IntKind.u64.wrap ((andW .u64 (shrW .u64 x0 2) 3689348814741910323) + (andW .u64 x0 3689348814741910323))) fun x0 : Int => 0 ≤ (4 : Int) ∧
  letV (andW .u64 (IntKind.u64.wrap ((shrW .u64 x0 4) + x0)) 1085102592571150095) fun x0 : Int => 0 ≤ (8 : Int) ∧
  letV (IntKind.u64.wrap (x0 + (shrW .u64 x0 8))) fun x0 : Int => 0 ≤ (16 : Int) ∧
  letV (IntKind.u64.wrap (x0 + (shrW .u64 x0 16))) fun x0 : Int => 0 ≤ (32 : Int) ∧
  letV (IntKind.u64.wrap (x0 + (shrW .u64 x0 32))) fun x0 : Int =>
  letV (andW .i64 (IntKind.i64.wrap x0) 127) fun x2 : Int => R (x2) H0
theorem bits_OnesCount64.eq (a0x : Int) (R : Int → Heap → Prop) (H0 : Heap) :
    evF Tryd.prog bits_OnesCount64.ann Tryd.f36 [.int .u64 a0x] (fun v H' => xS (.one (.int .i64)) v fun r => R r H') H0 = bits_OnesCount64.W a0x R H0 := by kernel_rfl
theorem bits_OnesCount64.calls {a0x : Int} {R : Int → Heap → Prop} {H0 : Heap} (h : bits_OnesCount64.W a0x R H0) : bits_OnesCount64.C a0x H0 R :=
  (evF_sound progOk_ Tryd.func36 (by rw [bits_OnesCount64.eq]; exact h)).mono fun v H' h => by obtain ⟨x, hv, hk⟩ := xS_out h; exact ⟨x, hv, hk⟩

def bits_New.ann : Ann := { ord := fun i => bif Nat.beq i 14 then [0, 1, 2, 3, 4, 5, 6, 7, 8, 9, 10, 11] else bif Nat.beq i 15 then [0, 1, 2, 3, 4, 5, 6, 7] else [], loop := fun i => bif Nat.beq i 6 then some [(6, .one (.int .i64))] else bif Nat.beq i 10 then some [(7, .one (.int .i64))] else none, join := fun i => bif Nat.beq i 7 then some [] else bif Nat.beq i 11 then some [] else bif Nat.beq i 14 then some [] else bif Nat.beq i 16 then some [] else none }
/-- bracken.bits.New -/
def bits_New.W (a0l_p : Option Addr) (a0l_l a0l_c : Nat) (R : Option Addr → Int → Heap → Prop) (H0 : Heap) : Prop :=
  brW (decide ((4194304 : Int) < (a0l_l : Int))) (R (none) (7) H0) (letV (hnew H0 #[.slice none 0 0, .int .i64 (a0l_l : Int)] ty_bits_Bits) fun H1 : Heap =>
  letV (hnew H1 #[.int .u64 0, .int .i64 0] ty_bits_part) fun H2 : Heap => 
  JoinW (S := Unit) (fun J16 => 
  LoopW (S := (Int × Unit)) (fun L6 q6 H4 => (fun (k6 : Int) =>
  brW (decide (k6 ≤ (a0l_l : Int))) (
  JoinW (S := Unit) (fun J7 => (∃ u, hcell H4 ((⟨Array.size H1, 0, none⟩ : Addr).add 0) = some u) ∧ hfrozen H4 ((⟨Array.size H1, 0, none⟩ : Addr).add 0) = false ∧
  letV (hset H4 ((⟨Array.size H1, 0, none⟩ : Addr).add 0) (.int .u64 0)) fun H6 : Heap => 
  JoinW (S := Unit) (fun J14 => 
  LoopW (S := (Int × Unit)) (fun L10 q10 H8 => (fun (i7 : Int) =>
  brW (decide (i7 < (min (IntKind.i64.wrap (k6 + 64)) (a0l_l : Int)))) (
  JoinW (S := Unit) (fun J11 =>
  ∃ x34 : Addr, a0l_p = some x34 ∧ 0 ≤ i7 ∧ i7 < (a0l_l : Int) ∧
  ∃ x35 : Bool, hcell H8 (x34.add i7.toNat) = some (.bool x35) ∧
  brW x35 (∃ x37 : Int, hcell H8 ((⟨Array.size H1, 0, none⟩ : Addr).add 0) = some (.int .u64 x37) ∧ 0 ≤ (IntKind.u64.wrap (IntKind.i64.wrap (i7 - k6))) ∧ (∃ u, hcell H8 ((⟨Array.size H1, 0, none⟩ : Addr).add 0) = some u) ∧ hfrozen H8 ((⟨Array.size H1, 0, none⟩ : Addr).add 0) = false ∧
  letV (hset H8 ((⟨Array.size H1, 0, none⟩ : Addr).add 0) (.int .u64 (orW .u64 x37 (shlW .u64 1 (IntKind.u64.wrap (IntKind.i64.wrap (i7 - k6))))))) fun H10 : Heap => J11 () H10) (J11 () H8))
  (fun _ H9 =>
  letV (IntKind.i64.wrap (i7 + 1)) fun i7 : Int => L10 ((i7 : Int), ()) H9)) (J14 () H8)) q10.1) ((k6 : Int), ()) H6)
  (fun _ H7 =>
  ∃ x47 : Addr, some ⟨Array.size H0, 0, none⟩ = some x47 ∧
  ∃ (x49_p : Option Addr) (x49_l x49_c : Nat), hcell H7 (x47.add 0) = some (.slice x49_p x49_l x49_c) ∧
  ∃ x50_0 : Int, hcell H7 ((⟨Array.size H1, 0, none⟩ : Addr).add 0) = some (.int .u64 x50_0) ∧
  ∃ x50_1 : Int, hcell H7 ((⟨Array.size H1, 0, none⟩ : Addr).add 1) = some (.int .i64 x50_1) ∧
  letV (hnew H7 #[.iface ty_bits_part (.agg #[.int .u64 x50_0, .int .i64 x50_1])] ty_any) fun H11 : Heap => (∃ (x49s_p : Option Addr) (x49s_l x49s_c : Nat), hcell H11 (x47.add 0) = some (.slice x49s_p x49s_l x49s_c) ∧ (.slice x49s_p x49s_l x49s_c : Value) = .slice x49_p x49_l x49_c) ∧ appW ty_any 1 16 (.nilIface) x49_p x49_l x49_c (.slice (some ⟨Array.size H7, 0, none⟩) 1 1) H11 fun x53_p x53_l x53_c H12 =>
  ∃ x54 : Addr, some ⟨Array.size H0, 0, none⟩ = some x54 ∧ (∃ u, hcell H12 (x54.add 0) = some u) ∧ hfrozen H12 (x54.add 0) = false ∧
  letV (hset H12 (x54.add 0) (.slice x53_p x53_l x53_c)) fun H13 : Heap =>
  ∃ x57 : Int, hcell H13 ((⟨Array.size H1, 0, none⟩ : Addr).add 1) = some (.int .i64 x57) ∧
  ∃ x59 : Int, hcell H13 ((⟨Array.size H1, 0, none⟩ : Addr).add 0) = some (.int .u64 x59) ∧ bits_OnesCount64.C (x59) H13 fun x60 H14 => (∃ x57s : Int, hcell H14 ((⟨Array.size H1, 0, none⟩ : Addr).add 1) = some (.int .i64 x57s) ∧ (.int .i64 x57s : Value) = .int .i64 x57) ∧ (∃ u, hcell H14 ((⟨Array.size H1, 0, none⟩ : Addr).add 1) = some u) ∧ hfrozen H14 ((⟨Array.size H1, 0, none⟩ : Addr).add 1) = false ∧
  letV (hset H14 ((⟨Array.size H1, 0, none⟩ : Addr).add 1) (.int .i64 (IntKind.i64.wrap (x57 + x60)))) fun H15 : Heap => J7 () H15))
  (fun _ H5 =>
  letV (IntKind.i64.wrap (k6 + 64)) fun k6 : Int => L6 ((k6 : Int), ()) H5)) (J16 () H4)) q6.1) ((0 : Int), ()) H2)
  (fun _ H3 => R (some ⟨Array.size H0, 0, none⟩) (0) H3))
theorem bits_New.eq (a0l_p : Option Addr) (a0l_l a0l_c : Nat) (R : Option Addr → Int → Heap → Prop) (H0 : Heap) :
    evF Tryd.prog bits_New.ann Tryd.f24 [.slice a0l_p a0l_l a0l_c] (fun v H' => xT [.one .ptr, .one (.int .i64)] v fun r => R r.1 r.2.1 H') H0 = bits_New.W a0l_p a0l_l a0l_c R H0 := by kernel_rfl
theorem bits_New.calls {a0l_p : Option Addr} {a0l_l a0l_c : Nat} {R : Option Addr → Int → Heap → Prop} {H0 : Heap} (h : bits_New.W a0l_p a0l_l a0l_c R H0) : bits_New.C a0l_p a0l_l a0l_c H0 R :=
  (evF_sound progOk_ Tryd.func24 (by rw [bits_New.eq]; exact h)).mono fun v H' h => by obtain ⟨x, hv, hk⟩ := xT_out h; exact ⟨x.1, x.2.1, hv, hk⟩

def wave_New.ann : Ann := { ord := fun _ => [], loop := fun i => bif Nat.beq i 4 then some [(25, .one (.int .i64))] else bif Nat.beq i 13 then some [(0, .one .slice), (9, .one (.int .i64))] else bif Nat.beq i 18 then some [(11, .one .slice), (12, .one .slice), (59, .one (.int .i64))] else none, join := fun i => bif Nat.beq i 2 then some [(22, .one .bool)] else bif Nat.beq i 3 then some [] else bif Nat.beq i 7 then some [(35, .one .bool)] else bif Nat.beq i 8 then some [] else bif Nat.beq i 9 then some [] else bif Nat.beq i 14 then some [(0, .one .slice)] else bif Nat.beq i 24 then some [(11, .one .slice), (12, .one .slice)] else bif Nat.beq i 25 then some [(11, .one .slice), (12, .one .slice)] else bif Nat.beq i 28 then some [] else none }
/-- bracken.wave.New -/
def wave_New.W (a0l_p : Option Addr) (a0l_l a0l_c : Nat) (a1sigma : Int) (R : Option Addr → Int → Heap → Prop) (H0 : Heap) : Prop :=
  
  JoinW (S := Unit) (fun J3 => 
  JoinW (S := (Bool × Unit)) (fun J2 =>
  brW (decide (a1sigma < 1)) (J2 (true, ()) H0) (J2 (decide ((1048576 : Int) < a1sigma), ()) H0))
  (fun s2 H2 => (fun (x22 : Bool) =>
  brW x22 (R (none) (1) H2) (J3 () H2)) s2.1))
  (fun _ H1 => 
  JoinW (S := Unit) (fun J9 => 
  LoopW (S := (Int × Unit)) (fun L4 q4 H4 => (fun (x25 : Int) =>
  brW (decide (x25 < (a0l_l : Int))) (
  JoinW (S := Unit) (fun J8 =>
  ∃ x27 : Addr, a0l_p = some x27 ∧ 0 ≤ x25 ∧ x25 < (a0l_l : Int) ∧
  ∃ x28 : Int, hcell H4 (x27.add x25.toNat) = some (.int .i64 x28) ∧ 
  JoinW (S := (Bool × Unit)) (fun J7 =>
  brW (decide (x28 < 0)) (J7 (true, ()) H4) (J7 (decide (a1sigma ≤ x28), ()) H4))
  (fun s7 H6 => (fun (x35 : Bool) =>
  brW x35 (R (none) (1) H6) (J8 () H6)) s7.1))
  (fun _ H5 => L4 ((IntKind.i64.wrap (x25 + 1) : Int), ()) H5)) (J9 () H4)) q4.1) ((0 : Int), ()) H1)
  (fun _ H3 =>
  brW (decide ((1048576 : Int) < (a0l_l : Int))) (R (none) (7) H3) (letV (hnew H3 #[.slice none 0 0, .int .i64 (a0l_l : Int), .int .i64 a1sigma, .int .i64 0] ty_wave_Wave) fun H7 : Heap => 
  JoinW (S := Unit) (fun J28 =>
  ints_Width.C (IntKind.u64.wrap (IntKind.i64.wrap (a1sigma - 1))) H7 fun x48 H9 =>
  letV (IntKind.i64.wrap (x48 - 1)) fun k9 : Int => 
  LoopW (S := ((Option Addr × Nat × Nat) × Int × Unit)) (fun L13 q13 H10 => (fun (l0_p : Option Addr) (l0_l l0_c : Nat) (k9 : Int) =>
  brW (decide ((0 : Int) ≤ k9)) (
  JoinW (S := ((Option Addr × Nat × Nat) × Unit)) (fun J14 => 0 ≤ (l0_l : Int) ∧ (l0_l : Int) ≤ (l0_l : Int) ∧ ((1 : Nat) : Int) * (l0_l : Int) ≤ 281474976710656 ∧
  letV (hnew H10 (zerosOf (.bool false) ((l0_l : Int).toNat)) ty_bool) fun H12 : Heap => 
  JoinW (S := ((Option Addr × Nat × Nat) × (Option Addr × Nat × Nat) × Unit)) (fun J25 => 
  LoopW (S := ((Option Addr × Nat × Nat) × (Option Addr × Nat × Nat) × Int × Unit)) (fun L18 q18 H14 => (fun (zeros11_p : Option Addr) (zeros11_l zeros11_c : Nat) (ones12_p : Option Addr) (ones12_l ones12_c : Nat) (x59 : Int) =>
  brW (decide (x59 < (l0_l : Int))) (
  JoinW (S := ((Option Addr × Nat × Nat) × (Option Addr × Nat × Nat) × Unit)) (fun J24 =>
  ∃ x62 : Addr, l0_p = some x62 ∧ 0 ≤ x59 ∧ x59 < (l0_l : Int) ∧
  ∃ x63 : Int, hcell H14 (x62.add x59.toNat) = some (.int .i64 x63) ∧ 0 ≤ (IntKind.u64.wrap k9) ∧
  ∃ x72 : Addr, some ⟨Array.size H10, 0, none⟩ = some x72 ∧ 0 ≤ x59 ∧ x59 < ((l0_l : Int).toNat : Int) ∧ (∃ u, hcell H14 (x72.add x59.toNat) = some u) ∧ hfrozen H14 (x72.add x59.toNat) = false ∧
  letV (hset H14 (x72.add x59.toNat) (.bool (decide ((andW .i64 (shrW .i64 x63 (IntKind.u64.wrap k9)) 1) = 1)))) fun H16 : Heap =>
  ∃ x75 : Addr, some ⟨Array.size H10, 0, none⟩ = some x75 ∧ 0 ≤ x59 ∧ x59 < ((l0_l : Int).toNat : Int) ∧
  ∃ x76 : Bool, hcell H16 (x75.add x59.toNat) = some (.bool x76) ∧
  brW x76 (letV (hnew H16 #[.int .i64 x63] ty_int) fun H17 : Heap => appW ty_int 1 8 (.int .i64 0) ones12_p ones12_l ones12_c (.slice (some ⟨Array.size H16, 0, none⟩) 1 1) H17 fun x80_p x80_l x80_c H18 => J24 ((zeros11_p, zeros11_l, zeros11_c), (x80_p, x80_l, x80_c), ()) H18) (letV (hnew H16 #[.int .i64 x63] ty_int) fun H19 : Heap => appW ty_int 1 8 (.int .i64 0) zeros11_p zeros11_l zeros11_c (.slice (some ⟨Array.size H16, 0, none⟩) 1 1) H19 fun x84_p x84_l x84_c H20 => J24 ((x84_p, x84_l, x84_c), (ones12_p, ones12_l, ones12_c), ()) H20))
  (fun s24 H15 => (fun (zeros11_p : Option Addr) (zeros11_l zeros11_c : Nat) (ones12_p : Option Addr) (ones12_l ones12_c : Nat) => L18 ((zeros11_p, zeros11_l, zeros11_c), (ones12_p, ones12_l, ones12_c), (IntKind.i64.wrap (x59 + 1) : Int), ()) H15) s24.1.1 s24.1.2.1 s24.1.2.2 s24.2.1.1 s24.2.1.2.1 s24.2.1.2.2)) (J25 ((zeros11_p, zeros11_l, zeros11_c), (ones12_p, ones12_l, ones12_c), ()) H14)) q18.1.1 q18.1.2.1 q18.1.2.2 q18.2.1.1 q18.2.1.2.1 q18.2.1.2.2 q18.2.2.1) ((none, 0, 0), (none, 0, 0), (0 : Int), ()) H12)
  (fun s25 H13 => (fun (zeros11_p : Option Addr) (zeros11_l zeros11_c : Nat) (ones12_p : Option Addr) (ones12_l ones12_c : Nat) =>
  bits_New.C (some ⟨Array.size H10, 0, none⟩) ((l0_l : Int).toNat) ((l0_l : Int).toNat) H13 fun x88_0 x88_1 H21 =>
  ∃ x93 : Addr, some ⟨Array.size H3, 0, none⟩ = some x93 ∧
  ∃ (x95_p : Option Addr) (x95_l x95_c : Nat), hcell H21 (x93.add 0) = some (.slice x95_p x95_l x95_c) ∧
  letV (hnew H21 #[.iface ty_p_bits_Bits (.pointer x88_0)] ty_any) fun H22 : Heap => appW ty_any 1 16 (.nilIface) x95_p x95_l x95_c (.slice (some ⟨Array.size H21, 0, none⟩) 1 1) H22 fun x99_p x99_l x99_c H23 =>
  ∃ x100 : Addr, some ⟨Array.size H3, 0, none⟩ = some x100 ∧ (∃ u, hcell H23 (x100.add 0) = some u) ∧ hfrozen H23 (x100.add 0) = false ∧
  letV (hset H23 (x100.add 0) (.slice x99_p x99_l x99_c)) fun H24 : Heap => appW ty_int 1 8 (.int .i64 0) zeros11_p zeros11_l zeros11_c (.slice ones12_p ones12_l ones12_c) H24 fun x104_p x104_l x104_c H25 => J14 ((x104_p, x104_l, x104_c), ()) H25) s25.1.1 s25.1.2.1 s25.1.2.2 s25.2.1.1 s25.2.1.2.1 s25.2.1.2.2))
  (fun s14 H11 => (fun (l0_p : Option Addr) (l0_l l0_c : Nat) =>
  letV (IntKind.i64.wrap (k9 - 1)) fun k9 : Int => L13 ((l0_p, l0_l, l0_c), (k9 : Int), ()) H11) s14.1.1 s14.1.2.1 s14.1.2.2)) (J28 () H10)) q13.1.1 q13.1.2.1 q13.1.2.2 q13.2.1) ((a0l_p, a0l_l, a0l_c), (k9 : Int), ()) H9)
  (fun _ H8 => R (some ⟨Array.size H3, 0, none⟩) (0) H8))))
theorem wave_New.eq (a0l_p : Option Addr) (a0l_l a0l_c : Nat) (a1sigma : Int) (R : Option Addr → Int → Heap → Prop) (H0 : Heap) :
    evF Tryd.prog wave_New.ann Tryd.f9 [.slice a0l_p a0l_l a0l_c, .int .i64 a1sigma] (fun v H' => xT [.one .ptr, .one (.int .i64)] v fun r => R r.1 r.2.1 H') H0 = wave_New.W a0l_p a0l_l a0l_c a1sigma R H0 := by kernel_rfl
theorem wave_New.calls {a0l_p : Option Addr} {a0l_l a0l_c : Nat} {a1sigma : Int} {R : Option Addr → Int → Heap → Prop} {H0 : Heap} (h : wave_New.W a0l_p a0l_l a0l_c a1sigma R H0) : wave_New.C a0l_p a0l_l a0l_c a1sigma H0 R :=
  (evF_sound progOk_ Tryd.func9 (by rw [wave_New.eq]; exact h)).mono fun v H' h => by obtain ⟨x, hv, hk⟩ := xT_out h; exact ⟨x.1, x.2.1, hv, hk⟩

def wave_Wave_is.ann : Ann := { ord := fun _ => [], loop := fun _ => none, join := fun _ => none }
/-- (*bracken.wave.Wave).is -/
def wave_Wave_is.W (a0w : Option Addr) (a1s : Int) (R : Bool → Heap → Prop) (H0 : Heap) : Prop :=
  brW (Option.isSome (a0w)) (brW (decide ((0 : Int) ≤ a1s)) (∃ x14 : Addr, a0w = some x14 ∧
  ∃ x16 : Int, hcell H0 (x14.add 2) = some (.int .i64 x16) ∧ R (decide (a1s < x16)) H0) (R false H0)) (R false H0)
theorem wave_Wave_is.eq (a0w : Option Addr) (a1s : Int) (R : Bool → Heap → Prop) (H0 : Heap) :
    evF Tryd.prog wave_Wave_is.ann Tryd.f25 [.pointer a0w, .int .i64 a1s] (fun v H' => xS (.one .bool) v fun r => R r H') H0 = wave_Wave_is.W a0w a1s R H0 := by kernel_rfl
theorem wave_Wave_is.calls {a0w : Option Addr} {a1s : Int} {R : Bool → Heap → Prop} {H0 : Heap} (h : wave_Wave_is.W a0w a1s R H0) : wave_Wave_is.C a0w a1s H0 R :=
  (evF_sound progOk_ Tryd.func25 (by rw [wave_Wave_is.eq]; exact h)).mono fun v H' h => by obtain ⟨x, hv, hk⟩ := xS_out h; exact ⟨x, hv, hk⟩

def wave_Wave_row.ann : Ann := { ord := fun _ => [], loop := fun _ => none, join := fun _ => none }
/-- (*bracken.wave.Wave).row -/
def wave_Wave_row.W (a0w : Option Addr) (a1k : Int) (R : Option Addr → Heap → Prop) (H0 : Heap) : Prop :=
  ∃ x9 : Addr, a0w = some x9 ∧
  ∃ (x11_p : Option Addr) (x11_l x11_c : Nat), hcell H0 (x9.add 0) = some (.slice x11_p x11_l x11_c) ∧
  ∃ x13 : Addr, x11_p = some x13 ∧ 0 ≤ a1k ∧ a1k < (x11_l : Int) ∧
  ∃ x14 : Value, hcell H0 (x13.add a1k.toNat) = some (x14) ∧
  ∃ x15 : Option Addr, ∃ x15ok : Bool, TaRel (x14) ty_p_bits_Bits (.pointer x15) (.pointer none) x15ok ∧ R (x15) H0
theorem wave_Wave_row.eq (a0w : Option Addr) (a1k : Int) (R : Option Addr → Heap → Prop) (H0 : Heap) :
    evF Tryd.prog wave_Wave_row.ann Tryd.f29 [.pointer a0w, .int .i64 a1k] (fun v H' => xS (.one .ptr) v fun r => R r H') H0 = wave_Wave_row.W a0w a1k R H0 := by kernel_rfl
theorem wave_Wave_row.calls {a0w : Option Addr} {a1k : Int} {R : Option Addr → Heap → Prop} {H0 : Heap} (h : wave_Wave_row.W a0w a1k R H0) : wave_Wave_row.C a0w a1k H0 R :=
  (evF_sound progOk_ Tryd.func29 (by rw [wave_Wave_row.eq]; exact h)).mono fun v H' h => by obtain ⟨x, hv, hk⟩ := xS_out h; exact ⟨x, hv, hk⟩

def bits_Bits_Len.ann : Ann := { ord := fun _ => [], loop := fun _ => none, join := fun _ => none }
/-- (*bracken.bits.Bits).Len -/
def bits_Bits_Len.W (a0b : Option Addr) (R : Int → Heap → Prop) (H0 : Heap) : Prop :=
  brW (Option.isNone (a0b)) (R (0) H0) (∃ x6 : Addr, a0b = some x6 ∧
  ∃ x8 : Int, hcell H0 (x6.add 1) = some (.int .i64 x8) ∧ R (x8) H0)
theorem bits_Bits_Len.eq (a0b : Option Addr) (R : Int → Heap → Prop) (H0 : Heap) :
    evF Tryd.prog bits_Bits_Len.ann Tryd.f40 [.pointer a0b] (fun v H' => xS (.one (.int .i64)) v fun r => R r H') H0 = bits_Bits_Len.W a0b R H0 := by kernel_rfl
theorem bits_Bits_Len.calls {a0b : Option Addr} {R : Int → Heap → Prop} {H0 : Heap} (h : bits_Bits_Len.W a0b R H0) : bits_Bits_Len.C a0b H0 R :=
  (evF_sound progOk_ Tryd.func40 (by rw [bits_Bits_Len.eq]; exact h)).mono fun v H' h => by obtain ⟨x, hv, hk⟩ := xS_out h; exact ⟨x, hv, hk⟩

def bits_Bits_at.ann : Ann := { ord := fun _ => [], loop := fun _ => none, join := fun _ => none }
/-- (*bracken.bits.Bits).at -/
def bits_Bits_at.W (a0b : Option Addr) (a1k : Int) (R : Int → Int → Heap → Prop) (H0 : Heap) : Prop :=
  letV (hnew H0 #[.int .u64 0, .int .i64 0] ty_bits_part) fun H1 : Heap =>
  ∃ x9 : Addr, a0b = some x9 ∧
  ∃ (x11_p : Option Addr) (x11_l x11_c : Nat), hcell H1 (x9.add 0) = some (.slice x11_p x11_l x11_c) ∧
  ∃ x13 : Addr, x11_p = some x13 ∧ 0 ≤ a1k ∧ a1k < (x11_l : Int) ∧
  ∃ x14 : Value, hcell H1 (x13.add a1k.toNat) = some (x14) ∧
  ∃ x15_0 : Int, ∃ x15_1 : Int, ∃ x15ok : Bool, TaRel (x14) ty_bits_part (.agg #[.int .u64 x15_0, .int .i64 x15_1]) (.agg #[.int .u64 0, .int .i64 0]) x15ok ∧
  letV (hnew H1 #[.int .u64 0, .int .i64 0] ty_bits_part) fun H2 : Heap => (∃ u, hcell H2 ((⟨Array.size H1, 0, none⟩ : Addr).add 0) = some u) ∧ hfrozen H2 ((⟨Array.size H1, 0, none⟩ : Addr).add 0) = false ∧
  letV (hset H2 ((⟨Array.size H1, 0, none⟩ : Addr).add 0) (.int .u64 x15_0)) fun H4 : Heap => (∃ u, hcell H4 ((⟨Array.size H1, 0, none⟩ : Addr).add 1) = some u) ∧ hfrozen H4 ((⟨Array.size H1, 0, none⟩ : Addr).add 1) = false ∧
  letV (hset H4 ((⟨Array.size H1, 0, none⟩ : Addr).add 1) (.int .i64 x15_1)) fun H5 : Heap =>
  ∃ x18_0 : Int, hcell H5 ((⟨Array.size H1, 0, none⟩ : Addr).add 0) = some (.int .u64 x18_0) ∧
  ∃ x18_1 : Int, hcell H5 ((⟨Array.size H1, 0, none⟩ : Addr).add 1) = some (.int .i64 x18_1) ∧ (∃ u, hcell H5 ((⟨Array.size H0, 0, none⟩ : Addr).add 0) = some u) ∧ hfrozen H5 ((⟨Array.size H0, 0, none⟩ : Addr).add 0) = false ∧
  letV (hset H5 ((⟨Array.size H0, 0, none⟩ : Addr).add 0) (.int .u64 x18_0)) fun H7 : Heap => (∃ u, hcell H7 ((⟨Array.size H0, 0, none⟩ : Addr).add 1) = some u) ∧ hfrozen H7 ((⟨Array.size H0, 0, none⟩ : Addr).add 1) = false ∧
  letV (hset H7 ((⟨Array.size H0, 0, none⟩ : Addr).add 1) (.int .i64 x18_1)) fun H8 : Heap =>
  ∃ z_0 : Int, hcell H8 ((⟨Array.size H0, 0, none⟩ : Addr).add 0) = some (.int .u64 z_0) ∧
  ∃ z_1 : Int, hcell H8 ((⟨Array.size H0, 0, none⟩ : Addr).add 1) = some (.int .i64 z_1) ∧ R (z_0) (z_1) H8
theorem bits_Bits_at.eq (a0b : Option Addr) (a1k : Int) (R : Int → Int → Heap → Prop) (H0 : Heap) :
    evF Tryd.prog bits_Bits_at.ann Tryd.f42 [.pointer a0b, .int .i64 a1k] (fun v H' => xS (.agg [.int .u64, .int .i64]) v fun r => R r.1 r.2.1 H') H0 = bits_Bits_at.W a0b a1k R H0 := by kernel_rfl
theorem bits_Bits_at.calls {a0b : Option Addr} {a1k : Int} {R : Int → Int → Heap → Prop} {H0 : Heap} (h : bits_Bits_at.W a0b a1k R H0) : bits_Bits_at.C a0b a1k H0 R :=
  (evF_sound progOk_ Tryd.func42 (by rw [bits_Bits_at.eq]; exact h)).mono fun v H' h => by obtain ⟨x, hv, hk⟩ := xS_out h; exact ⟨x.1, x.2.1, hv, hk⟩

def bits_Bits_Rank.ann : Ann := { ord := fun i => bif Nat.beq i 5 then [0, 1, 2, 3, 4, 5, 6, 7, 8, 9, 10, 11, 12] else [], loop := fun _ => none, join := fun i => bif Nat.beq i 8 then some [(8, .one (.int .i64))] else none }
/-- (*bracken.bits.Bits).Rank -/
def bits_Bits_Rank.W (a0b : Option Addr) (a1k : Int) (a2bit : Bool) (R : Int → Heap → Prop) (H0 : Heap) : Prop :=
  bits_Bits_Len.C (a0b) H0 fun x12 H1 =>
  letV (min (max a1k 0) x12) fun k1 : Int =>
  brW (decide (k1 = 0)) (R (0) H1) ((64 : Int) ≠ 0 ∧ bits_Bits_at.C (a0b) (IntKind.i64.wrap (Int.tdiv k1 64)) H1 fun x19_0 x19_1 H2 =>
  letV (hnew H2 #[.int .u64 0, .int .i64 0] ty_bits_part) fun H3 : Heap => (∃ u, hcell H3 ((⟨Array.size H2, 0, none⟩ : Addr).add 0) = some u) ∧ hfrozen H3 ((⟨Array.size H2, 0, none⟩ : Addr).add 0) = false ∧
  letV (hset H3 ((⟨Array.size H2, 0, none⟩ : Addr).add 0) (.int .u64 x19_0)) fun H5 : Heap => (∃ u, hcell H5 ((⟨Array.size H2, 0, none⟩ : Addr).add 1) = some u) ∧ hfrozen H5 ((⟨Array.size H2, 0, none⟩ : Addr).add 1) = false ∧
  letV (hset H5 ((⟨Array.size H2, 0, none⟩ : Addr).add 1) (.int .i64 x19_1)) fun H6 : Heap =>
  ∃ x21 : Int, hcell H6 ((⟨Array.size H2, 0, none⟩ : Addr).add 1) = some (.int .i64 x21) ∧
  ∃ x23 : Int, hcell H6 ((⟨Array.size H2, 0, none⟩ : Addr).add 0) = some (.int .u64 x23) ∧ (64 : Int) ≠ 0 ∧ 0 ≤ (IntKind.u64.wrap (Int.tmod k1 64)) ∧ bits_OnesCount64.C (andW .u64 x23 (IntKind.u64.wrap ((shlW .u64 1 (IntKind.u64.wrap (Int.tmod k1 64))) - 1))) H6 fun x30 H7 => (∃ x21s : Int, hcell H7 ((⟨Array.size H2, 0, none⟩ : Addr).add 1) = some (.int .i64 x21s) ∧ (.int .i64 x21s : Value) = .int .i64 x21) ∧
  letV (IntKind.i64.wrap (x21 + x30)) fun n8 : Int => 
  JoinW (S := (Int × Unit)) (fun J8 =>
  brW (!a2bit) (letV (IntKind.i64.wrap (k1 - n8)) fun n8 : Int => J8 ((n8 : Int), ()) H7) (J8 ((n8 : Int), ()) H7))
  (fun s8 H8 => (fun (n8 : Int) => R (n8) H8) s8.1))
theorem bits_Bits_Rank.eq (a0b : Option Addr) (a1k : Int) (a2bit : Bool) (R : Int → Heap → Prop) (H0 : Heap) :
    evF Tryd.prog bits_Bits_Rank.ann Tryd.f41 [.pointer a0b, .int .i64 a1k, .bool a2bit] (fun v H' => xS (.one (.int .i64)) v fun r => R r H') H0 = bits_Bits_Rank.W a0b a1k a2bit R H0 := by kernel_rfl
theorem bits_Bits_Rank.calls {a0b : Option Addr} {a1k : Int} {a2bit : Bool} {R : Int → Heap → Prop} {H0 : Heap} (h : bits_Bits_Rank.W a0b a1k a2bit R H0) : bits_Bits_Rank.C a0b a1k a2bit H0 R :=
  (evF_sound progOk_ Tryd.func41 (by rw [bits_Bits_Rank.eq]; exact h)).mono fun v H' h => by obtain ⟨x, hv, hk⟩ := xS_out h; exact ⟨x, hv, hk⟩

def wave_Wave_down.ann : Ann := { ord := fun _ => [], loop := fun _ => none, join := fun i => bif Nat.beq i 6 then some [(10, .one (.int .i64))] else none }
/-- (*bracken.wave.Wave).down -/
def wave_Wave_down.W (a0w : Option Addr) (a1k : Int) (a2at : Int) (a3bit : Bool) (R : Int → Heap → Prop) (H0 : Heap) : Prop :=
  ∃ x12 : Addr, a0w = some x12 ∧
  ∃ x14 : Int, hcell H0 (x12.add 3) = some (.int .i64 x14) ∧
  ∃ x16 : Addr, a0w = some x16 ∧ (∃ u, hcell H0 (x16.add 3) = some u) ∧ hfrozen H0 (x16.add 3) = false ∧
  letV (hset H0 (x16.add 3) (.int .i64 (IntKind.i64.wrap (x14 + 1)))) fun H1 : Heap =>
  wave_Wave_row.C (a0w) (a1k) H1 fun x20 H2 =>
  bits_Bits_Rank.C (x20) (a2at) (a3bit) H2 fun x24 H3 => 
  JoinW (S := (Int × Unit)) (fun J6 =>
  brW a3bit (bits_Bits_Len.C (x20) H3 fun x28 H5 =>
  bits_Bits_Len.C (x20) H5 fun x31 H6 =>
  bits_Bits_Rank.C (x20) (x31) true H6 fun x32 H7 =>
  letV (IntKind.i64.wrap (x24 + (IntKind.i64.wrap (x28 - x32)))) fun n10 : Int => J6 ((n10 : Int), ()) H7) (J6 ((x24 : Int), ()) H3))
  (fun s6 H4 => (fun (n10 : Int) => R (n10) H4) s6.1)
theorem wave_Wave_down.eq (a0w : Option Addr) (a1k : Int) (a2at : Int) (a3bit : Bool) (R : Int → Heap → Prop) (H0 : Heap) :
    evF Tryd.prog wave_Wave_down.ann Tryd.f31 [.pointer a0w, .int .i64 a1k, .int .i64 a2at, .bool a3bit] (fun v H' => xS (.one (.int .i64)) v fun r => R r H') H0 = wave_Wave_down.W a0w a1k a2at a3bit R H0 := by kernel_rfl
theorem wave_Wave_down.calls {a0w : Option Addr} {a1k : Int} {a2at : Int} {a3bit : Bool} {R : Int → Heap → Prop} {H0 : Heap} (h : wave_Wave_down.W a0w a1k a2at a3bit R H0) : wave_Wave_down.C a0w a1k a2at a3bit H0 R :=
  (evF_sound progOk_ Tryd.func31 (by rw [wave_Wave_down.eq]; exact h)).mono fun v H' h => by obtain ⟨x, hv, hk⟩ := xS_out h; exact ⟨x, hv, hk⟩

def wave_Wave_bit.ann : Ann := { ord := fun _ => [], loop := fun _ => none, join := fun _ => none }
/-- (*bracken.wave.Wave).bit -/
def wave_Wave_bit.W (a0w : Option Addr) (a1k : Int) (a2s : Int) (R : Bool → Heap → Prop) (H0 : Heap) : Prop :=
  ∃ x9 : Addr, a0w = some x9 ∧
  ∃ (x11_p : Option Addr) (x11_l x11_c : Nat), hcell H0 (x9.add 0) = some (.slice x11_p x11_l x11_c) ∧ 0 ≤ (IntKind.u64.wrap (IntKind.i64.wrap ((IntKind.i64.wrap ((x11_l : Int) - 1)) - a1k))) ∧ R (decide ((andW .i64 (shrW .i64 a2s (IntKind.u64.wrap (IntKind.i64.wrap ((IntKind.i64.wrap ((x11_l : Int) - 1)) - a1k)))) 1) = 1)) H0
theorem wave_Wave_bit.eq (a0w : Option Addr) (a1k : Int) (a2s : Int) (R : Bool → Heap → Prop) (H0 : Heap) :
    evF Tryd.prog wave_Wave_bit.ann Tryd.f38 [.pointer a0w, .int .i64 a1k, .int .i64 a2s] (fun v H' => xS (.one .bool) v fun r => R r H') H0 = wave_Wave_bit.W a0w a1k a2s R H0 := by kernel_rfl
theorem wave_Wave_bit.calls {a0w : Option Addr} {a1k : Int} {a2s : Int} {R : Bool → Heap → Prop} {H0 : Heap} (h : wave_Wave_bit.W a0w a1k a2s R H0) : wave_Wave_bit.C a0w a1k a2s H0 R :=
  (evF_sound progOk_ Tryd.func38 (by rw [wave_Wave_bit.eq]; exact h)).mono fun v H' h => by obtain ⟨x, hv, hk⟩ := xS_out h; exact ⟨x, hv, hk⟩

def wave_Wave_fall.ann : Ann := { ord := fun _ => [], loop := fun i => bif Nat.beq i 2 then some [(1, .one (.int .i64)), (13, .one (.int .i64))] else none, join := fun i => bif Nat.beq i 6 then some [(1, .one (.int .i64))] else none }
/-- (*bracken.wave.Wave).fall -/
def wave_Wave_fall.W (a0w : Option Addr) (a1at : Int) (a2s : Int) (R : Int → Heap → Prop) (H0 : Heap) : Prop :=
  
  JoinW (S := (Int × Unit)) (fun J6 =>
  ∃ x9 : Addr, a0w = some x9 ∧
  ∃ (x11_p : Option Addr) (x11_l x11_c : Nat), hcell H0 (x9.add 0) = some (.slice x11_p x11_l x11_c) ∧ 
  LoopW (S := (Int × Int × Unit)) (fun L2 q2 H2 => (fun (at1 : Int) (x13 : Int) =>
  brW (decide (x13 < (x11_l : Int))) (wave_Wave_bit.C (a0w) (x13) (a2s) H2 fun x22 H3 =>
  wave_Wave_down.C (a0w) (x13) (at1) (x22) H3 fun x23 H4 => L2 ((x23 : Int), (IntKind.i64.wrap (x13 + 1) : Int), ()) H4) (J6 ((at1 : Int), ()) H2)) q2.1 q2.2.1) ((a1at : Int), (0 : Int), ()) H0)
  (fun s6 H1 => (fun (at1 : Int) => R (at1) H1) s6.1)
theorem wave_Wave_fall.eq (a0w : Option Addr) (a1at : Int) (a2s : Int) (R : Int → Heap → Prop) (H0 : Heap) :
    evF Tryd.prog wave_Wave_fall.ann Tryd.f37 [.pointer a0w, .int .i64 a1at, .int .i64 a2s] (fun v H' => xS (.one (.int .i64)) v fun r => R r H') H0 = wave_Wave_fall.W a0w a1at a2s R H0 := by kernel_rfl
theorem wave_Wave_fall.calls {a0w : Option Addr} {a1at : Int} {a2s : Int} {R : Int → Heap → Prop} {H0 : Heap} (h : wave_Wave_fall.W a0w a1at a2s R H0) : wave_Wave_fall.C a0w a1at a2s H0 R :=
  (evF_sound progOk_ Tryd.func37 (by rw [wave_Wave_fall.eq]; exact h)).mono fun v H' h => by obtain ⟨x, hv, hk⟩ := xS_out h; exact ⟨x, hv, hk⟩

def wave_Wave_rank.ann : Ann := { ord := fun _ => [], loop := fun _ => none, join := fun _ => none }
/-- (*bracken.wave.Wave).rank -/
def wave_Wave_rank.W (a0w : Option Addr) (a1k : Int) (a2s : Int) (R : Int → Heap → Prop) (H0 : Heap) : Prop :=
  ∃ x11 : Addr, a0w = some x11 ∧
  ∃ x13 : Int, hcell H0 (x11.add 1) = some (.int .i64 x13) ∧ wave_Wave_fall.C (a0w) (min (max a1k 0) x13) (a2s) H0 fun x16 H1 =>
  wave_Wave_fall.C (a0w) (0) (a2s) H1 fun x19 H2 =>
  letV (IntKind.i64.wrap (x16 - x19)) fun x6 : Int => R (x6) H2
theorem wave_Wave_rank.eq (a0w : Option Addr) (a1k : Int) (a2s : Int) (R : Int → Heap → Prop) (H0 : Heap) :
    evF Tryd.prog wave_Wave_rank.ann Tryd.f26 [.pointer a0w, .int .i64 a1k, .int .i64 a2s] (fun v H' => xS (.one (.int .i64)) v fun r => R r H') H0 = wave_Wave_rank.W a0w a1k a2s R H0 := by kernel_rfl
theorem wave_Wave_rank.calls {a0w : Option Addr} {a1k : Int} {a2s : Int} {R : Int → Heap → Prop} {H0 : Heap} (h : wave_Wave_rank.W a0w a1k a2s R H0) : wave_Wave_rank.C a0w a1k a2s H0 R :=
  (evF_sound progOk_ Tryd.func26 (by rw [wave_Wave_rank.eq]; exact h)).mono fun v H' h => by obtain ⟨x, hv, hk⟩ := xS_out h; exact ⟨x, hv, hk⟩

def wave_Wave_Count.ann : Ann := { ord := fun _ => [], loop := fun _ => none, join := fun _ => none }
/-- (*bracken.wave.Wave).Count -/
def wave_Wave_Count.W (a0w : Option Addr) (a1lo : Int) (a2hi : Int) (a3s : Int) (R : Int → Heap → Prop) (H0 : Heap) : Prop :=
  wave_Wave_is.C (a0w) (a3s) H0 fun x11 H1 =>
  brW (!x11) (R (0) H1) (∃ x14 : Addr, a0w = some x14 ∧ (∃ u, hcell H1 (x14.add 3) = some u) ∧ hfrozen H1 (x14.add 3) = false ∧
  letV (hset H1 (x14.add 3) (.int .i64 0)) fun H2 : Heap =>
  wave_Wave_rank.C (a0w) (a2hi) (a3s) H2 fun x19 H3 =>
  wave_Wave_rank.C (a0w) (a1lo) (a3s) H3 fun x23 H4 =>
  letV (max (IntKind.i64.wrap (x19 - x23)) 0) fun x8 : Int => R (x8) H4)
theorem wave_Wave_Count.eq (a0w : Option Addr) (a1lo : Int) (a2hi : Int) (a3s : Int) (R : Int → Heap → Prop) (H0 : Heap) :
    evF Tryd.prog wave_Wave_Count.ann Tryd.f12 [.pointer a0w, .int .i64 a1lo, .int .i64 a2hi, .int .i64 a3s] (fun v H' => xS (.one (.int .i64)) v fun r => R r H') H0 = wave_Wave_Count.W a0w a1lo a2hi a3s R H0 := by kernel_rfl
theorem wave_Wave_Count.calls {a0w : Option Addr} {a1lo : Int} {a2hi : Int} {a3s : Int} {R : Int → Heap → Prop} {H0 : Heap} (h : wave_Wave_Count.W a0w a1lo a2hi a3s R H0) : wave_Wave_Count.C a0w a1lo a2hi a3s H0 R :=
  (evF_sound progOk_ Tryd.func12 (by rw [wave_Wave_Count.eq]; exact h)).mono fun v H' h => by obtain ⟨x, hv, hk⟩ := xS_out h; exact ⟨x, hv, hk⟩

def wave_Wave_Rank.ann : Ann := { ord := fun _ => [], loop := fun _ => none, join := fun _ => none }
/-- (*bracken.wave.Wave).Rank -/
def wave_Wave_Rank.W (a0w : Option Addr) (a1k : Int) (a2s : Int) (R : Int → Heap → Prop) (H0 : Heap) : Prop :=
  wave_Wave_is.C (a0w) (a2s) H0 fun x9 H1 =>
  brW (!x9) (R (0) H1) (∃ x12 : Addr, a0w = some x12 ∧ (∃ u, hcell H1 (x12.add 3) = some u) ∧ hfrozen H1 (x12.add 3) = false ∧
  letV (hset H1 (x12.add 3) (.int .i64 0)) fun H2 : Heap =>
  wave_Wave_rank.C (a0w) (a1k) (a2s) H2 fun x17 H3 => R (x17) H3)
theorem wave_Wave_Rank.eq (a0w : Option Addr) (a1k : Int) (a2s : Int) (R : Int → Heap → Prop) (H0 : Heap) :
    evF Tryd.prog wave_Wave_Rank.ann Tryd.f13 [.pointer a0w, .int .i64 a1k, .int .i64 a2s] (fun v H' => xS (.one (.int .i64)) v fun r => R r H') H0 = wave_Wave_Rank.W a0w a1k a2s R H0 := by kernel_rfl
theorem wave_Wave_Rank.calls {a0w : Option Addr} {a1k : Int} {a2s : Int} {R : Int → Heap → Prop} {H0 : Heap} (h : wave_Wave_Rank.W a0w a1k a2s R H0) : wave_Wave_Rank.C a0w a1k a2s H0 R :=
  (evF_sound progOk_ Tryd.func13 (by rw [wave_Wave_Rank.eq]; exact h)).mono fun v H' h => by obtain ⟨x, hv, hk⟩ := xS_out h; exact ⟨x, hv, hk⟩

def bits_TrailingZeros64.ann : Ann := { ord := fun _ => [], loop := fun _ => none, join := fun _ => none }
/-- math.bits.TrailingZeros64 -/
def bits_TrailingZeros64.W (a0x : Int) (R : Int → Heap → Prop) (H0 : Heap) : Prop :=
  brW (decide (a0x = 0)) (R (64) H0) (0 ≤ (58 : Int) ∧ 0 ≤ shrW .u64 (IntKind.u64.wrap ((andW .u64 a0x (IntKind.u64.wrap (0 - a0x))) * 285870213051353865)) 58 ∧ shrW .u64 (IntKind.u64.wrap ((andW .u64 a0x (IntKind.u64.wrap (0 - a0x))) * 285870213051353865)) 58 < ((64 : Nat) : Int) ∧
  ∃ x12 : Int, hcell H0 ((⟨gl_bits_deBruijn64tab, 0, none⟩ : Addr).add (mulSize (shrW .u64 (IntKind.u64.wrap ((andW .u64 a0x (IntKind.u64.wrap (0 - a0x))) * 285870213051353865)) 58).toNat 1)) = some (.int .u8 x12) ∧
  letV (IntKind.i64.wrap x12) fun x2 : Int => R (x2) H0)
theorem bits_TrailingZeros64.eq (a0x : Int) (R : Int → Heap → Prop) (H0 : Heap) :
    evF Tryd.prog bits_TrailingZeros64.ann Tryd.f44 [.int .u64 a0x] (fun v H' => xS (.one (.int .i64)) v fun r => R r H') H0 = bits_TrailingZeros64.W a0x R H0 := by kernel_rfl
theorem bits_TrailingZeros64.calls {a0x : Int} {R : Int → Heap → Prop} {H0 : Heap} (h : bits_TrailingZeros64.W a0x R H0) : bits_TrailingZeros64.C a0x H0 R :=
  (evF_sound progOk_ Tryd.func44 (by rw [bits_TrailingZeros64.eq]; exact h)).mono fun v H' h => by obtain ⟨x, hv, hk⟩ := xS_out h; exact ⟨x, hv, hk⟩

def bits_Bits_Select.ann : Ann := { ord := fun i => bif Nat.beq i 3 then [0, 1, 2, 3, 4, 5, 6, 7] else [], loop := fun i => bif Nat.beq i 4 then some [(7, .one (.int .i64)), (8, .one (.int .i64))] else bif Nat.beq i 13 then some [(10, .one (.int .u64)), (61, .one (.int .i64))] else none, join := fun i => bif Nat.beq i 2 then some [(21, .one .bool)] else bif Nat.beq i 3 then some [] else bif Nat.beq i 9 then some [(7, .one (.int .i64))] else bif Nat.beq i 12 then some [(10, .one (.int .u64))] else bif Nat.beq i 16 then some [(10, .one (.int .u64))] else none }
/-- (*bracken.bits.Bits).Select -/
def bits_Bits_Select.W (a0b : Option Addr) (a1j : Int) (a2bit : Bool) (R : Int → Heap → Prop) (H0 : Heap) : Prop :=
  
  JoinW (S := Unit) (fun J3 => 
  JoinW (S := (Bool × Unit)) (fun J2 =>
  brW (decide (a1j < 0)) (J2 (true, ()) H0) (bits_Bits_Len.C (a0b) H0 fun x17 H3 =>
  bits_Bits_Rank.C (a0b) (x17) (a2bit) H3 fun x19 H4 => J2 (decide (x19 ≤ a1j), ()) H4))
  (fun s2 H2 => (fun (x21 : Bool) =>
  brW x21 (R (-1) H2) (J3 () H2)) s2.1))
  (fun _ H1 =>
  ∃ x23 : Addr, a0b = some x23 ∧
  ∃ (x25_p : Option Addr) (x25_l x25_c : Nat), hcell H1 (x23.add 0) = some (.slice x25_p x25_l x25_c) ∧
  letV (IntKind.i64.wrap ((x25_l : Int) - 1)) fun hi8 : Int => 
  JoinW (S := (Int × Unit)) (fun J9 => 
  LoopW (S := (Int × Int × Unit)) (fun L4 q4 H6 => (fun (lo7 : Int) (hi8 : Int) =>
  brW (decide (lo7 < hi8)) ((2 : Int) ≠ 0 ∧
  letV (IntKind.i64.wrap (Int.tdiv (IntKind.i64.wrap ((IntKind.i64.wrap (lo7 + hi8)) + 1)) 2)) fun m9 : Int =>
  bits_Bits_Rank.C (a0b) (IntKind.i64.wrap (m9 * 64)) (a2bit) H6 fun x40 H7 =>
  brW (decide (x40 ≤ a1j)) (L4 ((m9 : Int), (hi8 : Int), ()) H7) (letV (IntKind.i64.wrap (m9 - 1)) fun hi8 : Int => L4 ((lo7 : Int), (hi8 : Int), ()) H7)) (J9 ((lo7 : Int), ()) H6)) q4.1 q4.2.1) ((0 : Int), (hi8 : Int), ()) H1)
  (fun s9 H5 => (fun (lo7 : Int) =>
  bits_Bits_at.C (a0b) (lo7) H5 fun x48_0 x48_1 H8 => 
  JoinW (S := (Int × Unit)) (fun J12 =>
  brW (!a2bit) (letV (notW .u64 x48_0) fun w10 : Int => J12 ((w10 : Int), ()) H8) (J12 ((x48_0 : Int), ()) H8))
  (fun s12 H9 => (fun (w10 : Int) => 
  JoinW (S := (Int × Unit)) (fun J16 =>
  bits_Bits_Rank.C (a0b) (IntKind.i64.wrap (lo7 * 64)) (a2bit) H9 fun x59 H11 => 
  LoopW (S := (Int × Int × Unit)) (fun L13 q13 H12 => (fun (w10 : Int) (x61 : Int) =>
  brW (decide (x61 < (IntKind.i64.wrap (a1j - x59)))) (letV (andW .u64 w10 (IntKind.u64.wrap (w10 - 1))) fun w10 : Int => L13 ((w10 : Int), (IntKind.i64.wrap (x61 + 1) : Int), ()) H12) (J16 ((w10 : Int), ()) H12)) q13.1 q13.2.1) ((w10 : Int), (0 : Int), ()) H11)
  (fun s16 H10 => (fun (w10 : Int) =>
  bits_TrailingZeros64.C (w10) H10 fun x71 H13 =>
  letV (IntKind.i64.wrap ((IntKind.i64.wrap (lo7 * 64)) + x71)) fun x6 : Int => R (x6) H13) s16.1)) s12.1)) s9.1))
theorem bits_Bits_Select.eq (a0b : Option Addr) (a1j : Int) (a2bit : Bool) (R : Int → Heap → Prop) (H0 : Heap) :
    evF Tryd.prog bits_Bits_Select.ann Tryd.f39 [.pointer a0b, .int .i64 a1j, .bool a2bit] (fun v H' => xS (.one (.int .i64)) v fun r => R r H') H0 = bits_Bits_Select.W a0b a1j a2bit R H0 := by kernel_rfl
theorem bits_Bits_Select.calls {a0b : Option Addr} {a1j : Int} {a2bit : Bool} {R : Int → Heap → Prop} {H0 : Heap} (h : bits_Bits_Select.W a0b a1j a2bit R H0) : bits_Bits_Select.C a0b a1j a2bit H0 R :=
  (evF_sound progOk_ Tryd.func39 (by rw [bits_Bits_Select.eq]; exact h)).mono fun v H' h => by obtain ⟨x, hv, hk⟩ := xS_out h; exact ⟨x, hv, hk⟩

def wave_Wave_rise.ann : Ann := { ord := fun _ => [], loop := fun i => bif Nat.beq i 5 then some [(7, .one (.int .i64)), (8, .one (.int .i64))] else none, join := fun i => bif Nat.beq i 3 then some [(27, .one .bool)] else bif Nat.beq i 4 then some [] else bif Nat.beq i 6 then some [(7, .one (.int .i64))] else bif Nat.beq i 12 then some [(7, .one (.int .i64))] else none }
/-- (*bracken.wave.Wave).rise -/
def wave_Wave_rise.W (a0w : Option Addr) (a1j : Int) (a2s : Int) (R : Int → Heap → Prop) (H0 : Heap) : Prop :=
  wave_Wave_fall.C (a0w) (0) (a2s) H0 fun x12 H1 =>
  letV (IntKind.i64.wrap (x12 + a1j)) fun at7 : Int => 
  JoinW (S := Unit) (fun J4 => 
  JoinW (S := (Bool × Unit)) (fun J3 =>
  brW (decide (a1j < 0)) (J3 (true, ()) H1) (∃ x21 : Addr, a0w = some x21 ∧
  ∃ x23 : Int, hcell H1 (x21.add 1) = some (.int .i64 x23) ∧ wave_Wave_fall.C (a0w) (x23) (a2s) H1 fun x25 H4 => J3 (decide (x25 ≤ at7), ()) H4))
  (fun s3 H3 => (fun (x27 : Bool) =>
  brW x27 (R (-1) H3) (J4 () H3)) s3.1))
  (fun _ H2 => 
  JoinW (S := (Int × Unit)) (fun J12 =>
  ∃ x29 : Addr, a0w = some x29 ∧
  ∃ (x31_p : Option Addr) (x31_l x31_c : Nat), hcell H2 (x29.add 0) = some (.slice x31_p x31_l x31_c) ∧
  letV (IntKind.i64.wrap ((x31_l : Int) - 1)) fun k8 : Int => 
  LoopW (S := (Int × Int × Unit)) (fun L5 q5 H6 => (fun (at7 : Int) (k8 : Int) =>
  brW (decide ((0 : Int) ≤ k8)) (
  JoinW (S := (Int × Unit)) (fun J6 =>
  ∃ x39 : Addr, a0w = some x39 ∧
  ∃ x41 : Int, hcell H6 (x39.add 3) = some (.int .i64 x41) ∧
  ∃ x43 : Addr, a0w = some x43 ∧ (∃ u, hcell H6 (x43.add 3) = some u) ∧ hfrozen H6 (x43.add 3) = false ∧
  letV (hset H6 (x43.add 3) (.int .i64 (IntKind.i64.wrap (x41 + 1)))) fun H8 : Heap =>
  wave_Wave_row.C (a0w) (k8) H8 fun x47 H9 =>
  wave_Wave_bit.C (a0w) (k8) (a2s) H9 fun x51 H10 =>
  brW x51 (bits_Bits_Len.C (x47) H10 fun x55 H11 =>
  bits_Bits_Len.C (x47) H11 fun x58 H12 =>
  bits_Bits_Rank.C (x47) (x58) true H12 fun x59 H13 =>
  bits_Bits_Select.C (x47) (IntKind.i64.wrap (at7 - (IntKind.i64.wrap (x55 - x59)))) true H13 fun x62 H14 => J6 ((x62 : Int), ()) H14) (bits_Bits_Select.C (x47) (at7) false H10 fun x65 H15 => J6 ((x65 : Int), ()) H15))
  (fun s6 H7 => (fun (at7 : Int) =>
  letV (IntKind.i64.wrap (k8 - 1)) fun k8 : Int => L5 ((at7 : Int), (k8 : Int), ()) H7) s6.1)) (J12 ((at7 : Int), ()) H6)) q5.1 q5.2.1) ((at7 : Int), (k8 : Int), ()) H2)
  (fun s12 H5 => (fun (at7 : Int) => R (at7) H5) s12.1))
theorem wave_Wave_rise.eq (a0w : Option Addr) (a1j : Int) (a2s : Int) (R : Int → Heap → Prop) (H0 : Heap) :
    evF Tryd.prog wave_Wave_rise.ann Tryd.f27 [.pointer a0w, .int .i64 a1j, .int .i64 a2s] (fun v H' => xS (.one (.int .i64)) v fun r => R r H') H0 = wave_Wave_rise.W a0w a1j a2s R H0 := by kernel_rfl
theorem wave_Wave_rise.calls {a0w : Option Addr} {a1j : Int} {a2s : Int} {R : Int → Heap → Prop} {H0 : Heap} (h : wave_Wave_rise.W a0w a1j a2s R H0) : wave_Wave_rise.C a0w a1j a2s H0 R :=
  (evF_sound progOk_ Tryd.func27 (by rw [wave_Wave_rise.eq]; exact h)).mono fun v H' h => by obtain ⟨x, hv, hk⟩ := xS_out h; exact ⟨x, hv, hk⟩

def wave_Wave_Nth.ann : Ann := { ord := fun _ => [], loop := fun _ => none, join := fun i => bif Nat.beq i 2 then some [(27, .one .bool)] else bif Nat.beq i 3 then some [] else none }
/-- (*bracken.wave.Wave).Nth -/
def wave_Wave_Nth.W (a0w : Option Addr) (a1lo : Int) (a2hi : Int) (a3s : Int) (a4j : Int) (R : Int → Heap → Prop) (H0 : Heap) : Prop :=
  
  JoinW (S := Unit) (fun J3 => 
  JoinW (S := (Bool × Unit)) (fun J2 =>
  wave_Wave_is.C (a0w) (a3s) H0 fun x14 H3 =>
  brW (!x14) (J2 (true, ()) H3) (brW (decide (a4j < 0)) (J2 (true, ()) H3) (∃ x23 : Addr, a0w = some x23 ∧
  ∃ x25 : Int, hcell H3 (x23.add 1) = some (.int .i64 x25) ∧ J2 (decide (x25 ≤ a4j), ()) H3)))
  (fun s2 H2 => (fun (x27 : Bool) =>
  brW x27 (R (-1) H2) (J3 () H2)) s2.1))
  (fun _ H1 =>
  ∃ x29 : Addr, a0w = some x29 ∧ (∃ u, hcell H1 (x29.add 3) = some u) ∧ hfrozen H1 (x29.add 3) = false ∧
  letV (hset H1 (x29.add 3) (.int .i64 0)) fun H4 : Heap =>
  wave_Wave_rank.C (a0w) (a1lo) (a3s) H4 fun x35 H5 =>
  wave_Wave_rise.C (a0w) (IntKind.i64.wrap (x35 + a4j)) (a3s) H5 fun x39 H6 =>
  ∃ x43 : Addr, a0w = some x43 ∧
  ∃ x45 : Int, hcell H6 (x43.add 1) = some (.int .i64 x45) ∧
  brW (decide ((min a2hi x45) ≤ x39)) (R (-1) H6) (R (x39) H6))
theorem wave_Wave_Nth.eq (a0w : Option Addr) (a1lo : Int) (a2hi : Int) (a3s : Int) (a4j : Int) (R : Int → Heap → Prop) (H0 : Heap) :
    evF Tryd.prog wave_Wave_Nth.ann Tryd.f14 [.pointer a0w, .int .i64 a1lo, .int .i64 a2hi, .int .i64 a3s, .int .i64 a4j] (fun v H' => xS (.one (.int .i64)) v fun r => R r H') H0 = wave_Wave_Nth.W a0w a1lo a2hi a3s a4j R H0 := by kernel_rfl
theorem wave_Wave_Nth.calls {a0w : Option Addr} {a1lo : Int} {a2hi : Int} {a3s : Int} {a4j : Int} {R : Int → Heap → Prop} {H0 : Heap} (h : wave_Wave_Nth.W a0w a1lo a2hi a3s a4j R H0) : wave_Wave_Nth.C a0w a1lo a2hi a3s a4j H0 R :=
  (evF_sound progOk_ Tryd.func14 (by rw [wave_Wave_Nth.eq]; exact h)).mono fun v H' h => by obtain ⟨x, hv, hk⟩ := xS_out h; exact ⟨x, hv, hk⟩

def wave_Wave_Select.ann : Ann := { ord := fun _ => [], loop := fun _ => none, join := fun _ => none }
/-- (*bracken.wave.Wave).Select -/
def wave_Wave_Select.W (a0w : Option Addr) (a1j : Int) (a2s : Int) (R : Int → Heap → Prop) (H0 : Heap) : Prop :=
  wave_Wave_is.C (a0w) (a2s) H0 fun x9 H1 =>
  brW (!x9) (R (-1) H1) (∃ x12 : Addr, a0w = some x12 ∧ (∃ u, hcell H1 (x12.add 3) = some u) ∧ hfrozen H1 (x12.add 3) = false ∧
  letV (hset H1 (x12.add 3) (.int .i64 0)) fun H2 : Heap =>
  wave_Wave_rise.C (a0w) (a1j) (a2s) H2 fun x17 H3 => R (x17) H3)
theorem wave_Wave_Select.eq (a0w : Option Addr) (a1j : Int) (a2s : Int) (R : Int → Heap → Prop) (H0 : Heap) :
    evF Tryd.prog wave_Wave_Select.ann Tryd.f15 [.pointer a0w, .int .i64 a1j, .int .i64 a2s] (fun v H' => xS (.one (.int .i64)) v fun r => R r H') H0 = wave_Wave_Select.W a0w a1j a2s R H0 := by kernel_rfl
theorem wave_Wave_Select.calls {a0w : Option Addr} {a1j : Int} {a2s : Int} {R : Int → Heap → Prop} {H0 : Heap} (h : wave_Wave_Select.W a0w a1j a2s R H0) : wave_Wave_Select.C a0w a1j a2s H0 R :=
  (evF_sound progOk_ Tryd.func15 (by rw [wave_Wave_Select.eq]; exact h)).mono fun v H' h => by obtain ⟨x, hv, hk⟩ := xS_out h; exact ⟨x, hv, hk⟩

def bits_Bound.ann : Ann := { ord := fun _ => [], loop := fun _ => none, join := fun _ => none }
/-- bracken.bits.Bound -/
def bits_Bound.W (a0n : Int) (R : Int → Heap → Prop) (H0 : Heap) : Prop :=
  (64 : Int) ≠ 0 ∧ (512 : Int) ≠ 0 ∧
  letV (IntKind.i64.wrap ((IntKind.i64.wrap (80 * (IntKind.i64.wrap (Int.tdiv (IntKind.i64.wrap ((IntKind.i64.wrap (a0n + 64)) - 1)) 64)))) + (IntKind.i64.wrap (32 * (IntKind.i64.wrap (Int.tdiv (IntKind.i64.wrap ((IntKind.i64.wrap (a0n + 512)) - 1)) 512)))))) fun x2 : Int => R (x2) H0
theorem bits_Bound.eq (a0n : Int) (R : Int → Heap → Prop) (H0 : Heap) :
    evF Tryd.prog bits_Bound.ann Tryd.f28 [.int .i64 a0n] (fun v H' => xS (.one (.int .i64)) v fun r => R r H') H0 = bits_Bound.W a0n R H0 := by kernel_rfl
theorem bits_Bound.calls {a0n : Int} {R : Int → Heap → Prop} {H0 : Heap} (h : bits_Bound.W a0n R H0) : bits_Bound.C a0n H0 R :=
  (evF_sound progOk_ Tryd.func28 (by rw [bits_Bound.eq]; exact h)).mono fun v H' h => by obtain ⟨x, hv, hk⟩ := xS_out h; exact ⟨x, hv, hk⟩

def wave_Wave_Size.ann : Ann := { ord := fun i => bif Nat.beq i 3 then [0, 1, 2, 3, 4, 5, 6, 7, 8, 9, 10, 11] else [], loop := fun _ => none, join := fun _ => none }
/-- (*bracken.wave.Wave).Size -/
def wave_Wave_Size.W (a0w : Option Addr) (R : Int → Heap → Prop) (H0 : Heap) : Prop :=
  brW (Option.isNone (a0w)) (R (0) H0) (∃ x6 : Addr, a0w = some x6 ∧
  ∃ (x8_p : Option Addr) (x8_l x8_c : Nat), hcell H0 (x6.add 0) = some (.slice x8_p x8_l x8_c) ∧
  ∃ x11 : Addr, a0w = some x11 ∧
  ∃ x13 : Int, hcell H0 (x11.add 1) = some (.int .i64 x13) ∧ bits_Bound.C (x13) H0 fun x14 H1 => (∃ (x8s_p : Option Addr) (x8s_l x8s_c : Nat), hcell H1 (x6.add 0) = some (.slice x8s_p x8s_l x8s_c) ∧ (.slice x8s_p x8s_l x8s_c : Value) = .slice x8_p x8_l x8_c) ∧
  letV (IntKind.i64.wrap ((x8_l : Int) * x14)) fun x2 : Int => R (x2) H1)
theorem wave_Wave_Size.eq (a0w : Option Addr) (R : Int → Heap → Prop) (H0 : Heap) :
    evF Tryd.prog wave_Wave_Size.ann Tryd.f16 [.pointer a0w] (fun v H' => xS (.one (.int .i64)) v fun r => R r H') H0 = wave_Wave_Size.W a0w R H0 := by kernel_rfl
theorem wave_Wave_Size.calls {a0w : Option Addr} {R : Int → Heap → Prop} {H0 : Heap} (h : wave_Wave_Size.W a0w R H0) : wave_Wave_Size.C a0w H0 R :=
  (evF_sound progOk_ Tryd.func16 (by rw [wave_Wave_Size.eq]; exact h)).mono fun v H' h => by obtain ⟨x, hv, hk⟩ := xS_out h; exact ⟨x, hv, hk⟩

def wave_Wave_Len.ann : Ann := { ord := fun _ => [], loop := fun _ => none, join := fun _ => none }
/-- (*bracken.wave.Wave).Len -/
def wave_Wave_Len.W (a0w : Option Addr) (R : Int → Heap → Prop) (H0 : Heap) : Prop :=
  brW (Option.isNone (a0w)) (R (0) H0) (∃ x6 : Addr, a0w = some x6 ∧
  ∃ x8 : Int, hcell H0 (x6.add 1) = some (.int .i64 x8) ∧ R (x8) H0)
theorem wave_Wave_Len.eq (a0w : Option Addr) (R : Int → Heap → Prop) (H0 : Heap) :
    evF Tryd.prog wave_Wave_Len.ann Tryd.f18 [.pointer a0w] (fun v H' => xS (.one (.int .i64)) v fun r => R r H') H0 = wave_Wave_Len.W a0w R H0 := by kernel_rfl
theorem wave_Wave_Len.calls {a0w : Option Addr} {R : Int → Heap → Prop} {H0 : Heap} (h : wave_Wave_Len.W a0w R H0) : wave_Wave_Len.C a0w H0 R :=
  (evF_sound progOk_ Tryd.func18 (by rw [wave_Wave_Len.eq]; exact h)).mono fun v H' h => by obtain ⟨x, hv, hk⟩ := xS_out h; exact ⟨x, hv, hk⟩

def bits_Bits_Get.ann : Ann := { ord := fun _ => [], loop := fun _ => none, join := fun i => bif Nat.beq i 2 then some [(13, .one .bool)] else bif Nat.beq i 3 then some [] else none }
/-- (*bracken.bits.Bits).Get -/
def bits_Bits_Get.W (a0b : Option Addr) (a1k : Int) (R : Bool → Int → Heap → Prop) (H0 : Heap) : Prop :=
  
  JoinW (S := Unit) (fun J3 => 
  JoinW (S := (Bool × Unit)) (fun J2 =>
  brW (decide (a1k < 0)) (J2 (true, ()) H0) (bits_Bits_Len.C (a0b) H0 fun x11 H3 => J2 (decide (x11 ≤ a1k), ()) H3))
  (fun s2 H2 => (fun (x13 : Bool) =>
  brW x13 (R false (4) H2) (J3 () H2)) s2.1))
  (fun _ H1 => (64 : Int) ≠ 0 ∧ bits_Bits_at.C (a0b) (IntKind.i64.wrap (Int.tdiv a1k 64)) H1 fun x17_0 x17_1 H4 => (64 : Int) ≠ 0 ∧ 0 ≤ (IntKind.u64.wrap (Int.tmod a1k 64)) ∧ R (decide ((andW .u64 (shrW .u64 x17_0 (IntKind.u64.wrap (Int.tmod a1k 64))) 1) = 1)) (0) H4)
theorem bits_Bits_Get.eq (a0b : Option Addr) (a1k : Int) (R : Bool → Int → Heap → Prop) (H0 : Heap) :
    evF Tryd.prog bits_Bits_Get.ann Tryd.f30 [.pointer a0b, .int .i64 a1k] (fun v H' => xT [.one .bool, .one (.int .i64)] v fun r => R r.1 r.2.1 H') H0 = bits_Bits_Get.W a0b a1k R H0 := by kernel_rfl
theorem bits_Bits_Get.calls {a0b : Option Addr} {a1k : Int} {R : Bool → Int → Heap → Prop} {H0 : Heap} (h : bits_Bits_Get.W a0b a1k R H0) : bits_Bits_Get.C a0b a1k H0 R :=
  (evF_sound progOk_ Tryd.func30 (by rw [bits_Bits_Get.eq]; exact h)).mono fun v H' h => by obtain ⟨x, hv, hk⟩ := xT_out h; exact ⟨x.1, x.2.1, hv, hk⟩

def wave_Wave_Get.ann : Ann := { ord := fun _ => [], loop := fun i => bif Nat.beq i 6 then some [(1, .one (.int .i64)), (6, .one (.int .i64)), (26, .one (.int .i64))] else none, join := fun i => bif Nat.beq i 2 then some [(17, .one .bool)] else bif Nat.beq i 3 then some [] else bif Nat.beq i 12 then some [(6, .one (.int .i64))] else bif Nat.beq i 13 then some [(1, .one (.int .i64)), (6, .one (.int .i64))] else bif Nat.beq i 14 then some [(6, .one (.int .i64))] else none }
/-- (*bracken.wave.Wave).Get -/
def wave_Wave_Get.W (a0w : Option Addr) (a1k : Int) (R : Int → Int → Heap → Prop) (H0 : Heap) : Prop :=
  
  JoinW (S := Unit) (fun J3 => 
  JoinW (S := (Bool × Unit)) (fun J2 =>
  brW (decide (a1k < 0)) (J2 (true, ()) H0) (wave_Wave_Len.C (a0w) H0 fun x15 H3 => J2 (decide (x15 ≤ a1k), ()) H3))
  (fun s2 H2 => (fun (x17 : Bool) =>
  brW x17 (R (0) (4) H2) (J3 () H2)) s2.1))
  (fun _ H1 =>
  ∃ x19 : Addr, a0w = some x19 ∧ (∃ u, hcell H1 (x19.add 3) = some u) ∧ hfrozen H1 (x19.add 3) = false ∧
  letV (hset H1 (x19.add 3) (.int .i64 0)) fun H4 : Heap => 
  JoinW (S := (Int × Unit)) (fun J14 =>
  ∃ x22 : Addr, a0w = some x22 ∧
  ∃ (x24_p : Option Addr) (x24_l x24_c : Nat), hcell H4 (x22.add 0) = some (.slice x24_p x24_l x24_c) ∧ 
  LoopW (S := (Int × Int × Int × Unit)) (fun L6 q6 H6 => (fun (k1 : Int) (s6 : Int) (x26 : Int) =>
  brW (decide (x26 < (x24_l : Int))) (
  JoinW (S := (Int × Int × Unit)) (fun J13 =>
  wave_Wave_row.C (a0w) (x26) H6 fun x32 H8 =>
  bits_Bits_Get.C (x32) (k1) H8 fun x34_0 x34_1 H9 => 
  JoinW (S := (Int × Unit)) (fun J12 =>
  letV (IntKind.i64.wrap (s6 * 2)) fun s6 : Int =>
  brW x34_0 (letV (IntKind.i64.wrap (s6 + 1)) fun s6 : Int => J12 ((s6 : Int), ()) H9) (J12 ((s6 : Int), ()) H9))
  (fun s12 H10 => (fun (s6 : Int) =>
  wave_Wave_down.C (a0w) (x26) (k1) (x34_0) H10 fun x46 H11 => J13 ((x46 : Int), (s6 : Int), ()) H11) s12.1))
  (fun s13 H7 => (fun (k1 : Int) (s6 : Int) => L6 ((k1 : Int), (s6 : Int), (IntKind.i64.wrap (x26 + 1) : Int), ()) H7) s13.1 s13.2.1)) (J14 ((s6 : Int), ()) H6)) q6.1 q6.2.1 q6.2.2.1) ((a1k : Int), (0 : Int), (0 : Int), ()) H4)
  (fun s14 H5 => (fun (s6 : Int) => R (s6) (0) H5) s14.1))
theorem wave_Wave_Get.eq (a0w : Option Addr) (a1k : Int) (R : Int → Int → Heap → Prop) (H0 : Heap) :
    evF Tryd.prog wave_Wave_Get.ann Tryd.f17 [.pointer a0w, .int .i64 a1k] (fun v H' => xT [.one (.int .i64), .one (.int .i64)] v fun r => R r.1 r.2.1 H') H0 = wave_Wave_Get.W a0w a1k R H0 := by kernel_rfl
theorem wave_Wave_Get.calls {a0w : Option Addr} {a1k : Int} {R : Int → Int → Heap → Prop} {H0 : Heap} (h : wave_Wave_Get.W a0w a1k R H0) : wave_Wave_Get.C a0w a1k H0 R :=
  (evF_sound progOk_ Tryd.func17 (by rw [wave_Wave_Get.eq]; exact h)).mono fun v H' h => by obtain ⟨x, hv, hk⟩ := xT_out h; exact ⟨x.1, x.2.1, hv, hk⟩

def brackenlaw6_told.ann : Ann := { ord := fun _ => [], loop := fun _ => none, join := fun i => bif Nat.beq i 4 then some [(25, .one .bool)] else bif Nat.beq i 5 then some [] else none }
/-- bracken.brackenlaw6.told -/
def brackenlaw6_told.W  (R : Bool → Heap → Prop) (H0 : Heap) : Prop :=
  letV (hnew H0 #[.int .i64 5, .int .i64 6, .int .i64 5] ty_int) fun H1 : Heap =>
  wave_New.C (some ⟨Array.size H0, 0, none⟩) 3 3 (7) H1 fun x12_0 x12_1 H2 =>
  letV (hnew H2 #[.int .i64 5] ty_int) fun H3 : Heap =>
  wave_New.C (some ⟨Array.size H2, 0, none⟩) 1 1 (5) H3 fun x17_0 x17_1 H4 => 
  JoinW (S := Unit) (fun J5 => 
  JoinW (S := (Bool × Unit)) (fun J4 =>
  brW (decide (x12_1 ≠ 0)) (J4 (true, ()) H4) (J4 (Option.isNone (x12_0), ()) H4))
  (fun s4 H6 => (fun (x25 : Bool) =>
  brW x25 (R false H6) (J5 () H6)) s4.1))
  (fun _ H5 =>
  wave_Wave_Get.C (x12_0) (1) H5 fun x28_0 x28_1 H7 =>
  wave_Wave_Get.C (x12_0) (3) H7 fun x33_0 x33_1 H8 =>
  brW (decide (x17_1 = 1)) (brW (decide (x28_0 = 6)) (brW (decide (x28_1 = 0)) (brW (decide (x33_1 = 4)) (wave_Wave_Rank.C (x12_0) (3) (5) H8 fun x52 H9 =>
  brW (decide (x52 = 2)) (wave_Wave_Rank.C (x12_0) (3) (9) H9 fun x57 H10 =>
  brW (decide (x57 = 0)) (wave_Wave_Select.C (x12_0) (1) (5) H10 fun x62 H11 =>
  brW (decide (x62 = 2)) (wave_Wave_Select.C (x12_0) (2) (5) H11 fun x67 H12 =>
  brW (decide (x67 = (-1))) (wave_Wave_Count.C (x12_0) (1) (3) (5) H12 fun x72 H13 =>
  brW (decide (x72 = 1)) (wave_Wave_Nth.C (x12_0) (1) (3) (5) (0) H13 fun x77 H14 =>
  brW (decide (x77 = 2)) (wave_Wave_Nth.C (x12_0) (0) (2) (5) (1) H14 fun x82 H15 =>
  brW (decide (x82 = (-1))) (wave_Wave_Size.C (x12_0) H15 fun x87 H16 =>
  brW (decide (x87 = 336)) (wave_Wave_Len.C (none) H16 fun x92 H17 =>
  brW (decide (x92 = 0)) (wave_Wave_Nth.C (none) (0) (1) (2) (0) H17 fun x97 H18 => R (decide (x97 = (-1))) H18) (R false H17)) (R false H16)) (R false H15)) (R false H14)) (R false H13)) (R false H12)) (R false H11)) (R false H10)) (R false H9)) (R false H8)) (R false H8)) (R false H8)) (R false H8))
theorem brackenlaw6_told.eq  (R : Bool → Heap → Prop) (H0 : Heap) :
    evF Tryd.prog brackenlaw6_told.ann Tryd.f8 [] (fun v H' => xS (.one .bool) v fun r => R r H') H0 = brackenlaw6_told.W  R H0 := by kernel_rfl
theorem brackenlaw6_told.calls  {R : Bool → Heap → Prop} {H0 : Heap} (h : brackenlaw6_told.W  R H0) : brackenlaw6_told.C  H0 R :=
  (evF_sound progOk_ Tryd.func8 (by rw [brackenlaw6_told.eq]; exact h)).mono fun v H' h => by obtain ⟨x, hv, hk⟩ := xS_out h; exact ⟨x, hv, hk⟩

def brackenref1_MaySyms.ann : Ann := { ord := fun _ => [], loop := fun i => bif Nat.beq i 2 then some [(5, .one (.int .i64))] else none, join := fun i => bif Nat.beq i 3 then some [] else bif Nat.beq i 5 then some [(24, .one .bool)] else bif Nat.beq i 6 then some [] else none }
/-- bracken.brackenref1.MaySyms -/
def brackenref1_MaySyms.W (a0l_p : Option Addr) (a0l_l a0l_c : Nat) (a1sigma : Int) (R : Bool → Heap → Prop) (H0 : Heap) : Prop :=
  
  JoinW (S := Unit) (fun J6 => 
  LoopW (S := (Int × Unit)) (fun L2 q2 H2 => (fun (i5 : Int) =>
  brW (decide (i5 < (a0l_l : Int))) (
  JoinW (S := Unit) (fun J3 => 
  JoinW (S := (Bool × Unit)) (fun J5 =>
  ∃ x14 : Addr, a0l_p = some x14 ∧ 0 ≤ i5 ∧ i5 < (a0l_l : Int) ∧
  ∃ x15 : Int, hcell H2 (x14.add i5.toNat) = some (.int .i64 x15) ∧
  brW (decide (x15 < 0)) (J5 (true, ()) H2) (∃ x20 : Addr, a0l_p = some x20 ∧ 0 ≤ i5 ∧ i5 < (a0l_l : Int) ∧
  ∃ x21 : Int, hcell H2 (x20.add i5.toNat) = some (.int .i64 x21) ∧ J5 (decide (a1sigma ≤ x21), ()) H2))
  (fun s5 H4 => (fun (x24 : Bool) =>
  brW x24 (R false H4) (J3 () H4)) s5.1))
  (fun _ H3 =>
  letV (IntKind.i64.wrap (i5 + 1)) fun i5 : Int => L2 ((i5 : Int), ()) H3)) (J6 () H2)) q2.1) ((0 : Int), ()) H0)
  (fun _ H1 =>
  brW (decide ((1 : Int) ≤ a1sigma)) (R (decide (a1sigma ≤ 1048576)) H1) (R false H1))
theorem brackenref1_MaySyms.eq (a0l_p : Option Addr) (a0l_l a0l_c : Nat) (a1sigma : Int) (R : Bool → Heap → Prop) (H0 : Heap) :
    evF Tryd.prog brackenref1_MaySyms.ann Tryd.f10 [.slice a0l_p a0l_l a0l_c, .int .i64 a1sigma] (fun v H' => xS (.one .bool) v fun r => R r H') H0 = brackenref1_MaySyms.W a0l_p a0l_l a0l_c a1sigma R H0 := by kernel_rfl
theorem brackenref1_MaySyms.calls {a0l_p : Option Addr} {a0l_l a0l_c : Nat} {a1sigma : Int} {R : Bool → Heap → Prop} {H0 : Heap} (h : brackenref1_MaySyms.W a0l_p a0l_l a0l_c a1sigma R H0) : brackenref1_MaySyms.C a0l_p a0l_l a0l_c a1sigma H0 R :=
  (evF_sound progOk_ Tryd.func10 (by rw [brackenref1_MaySyms.eq]; exact h)).mono fun v H' h => by obtain ⟨x, hv, hk⟩ := xS_out h; exact ⟨x, hv, hk⟩

def brackenlaw6_WaveRaw.ann : Ann := { ord := fun _ => [], loop := fun _ => none, join := fun _ => none }
/-- bracken.brackenlaw6.WaveRaw -/
def brackenlaw6_WaveRaw.W (a0l_p : Option Addr) (a0l_l a0l_c : Nat) (a1sigma : Int) (R : Bool → Heap → Prop) (H0 : Heap) : Prop :=
  brW (decide ((50 : Int) < (a0l_l : Int))) (brackenlaw6_told.C  H0 fun x11 H1 => R (x11) H1) (wave_New.C (a0l_p) a0l_l a0l_c (a1sigma) H0 fun x15_0 x15_1 H2 =>
  brackenref1_MaySyms.C (a0l_p) a0l_l a0l_c (a1sigma) H2 fun x20 H3 =>
  brackenlaw6_told.C  H3 fun x21 H4 =>
  brW x21 (brW (decide ((decide (x15_1 = 0)) = x20)) (brW (decide ((Option.isSome (x15_0)) = x20)) (brW (decide (x15_1 = 0)) (R true H4) (R (decide (x15_1 = 1)) H4)) (R false H4)) (R false H4)) (R false H4))
theorem brackenlaw6_WaveRaw.eq (a0l_p : Option Addr) (a0l_l a0l_c : Nat) (a1sigma : Int) (R : Bool → Heap → Prop) (H0 : Heap) :
    evF Tryd.prog brackenlaw6_WaveRaw.ann Tryd.f3 [.slice a0l_p a0l_l a0l_c, .int .i64 a1sigma] (fun v H' => xS (.one .bool) v fun r => R r H') H0 = brackenlaw6_WaveRaw.W a0l_p a0l_l a0l_c a1sigma R H0 := by kernel_rfl
theorem brackenlaw6_WaveRaw.calls {a0l_p : Option Addr} {a0l_l a0l_c : Nat} {a1sigma : Int} {R : Bool → Heap → Prop} {H0 : Heap} (h : brackenlaw6_WaveRaw.W a0l_p a0l_l a0l_c a1sigma R H0) : brackenlaw6_WaveRaw.C a0l_p a0l_l a0l_c a1sigma H0 R :=
  (evF_sound progOk_ Tryd.func3 (by rw [brackenlaw6_WaveRaw.eq]; exact h)).mono fun v H' h => by obtain ⟨x, hv, hk⟩ := xS_out h; exact ⟨x, hv, hk⟩

def brackenlaw6_Row.ann : Ann := { ord := fun _ => [], loop := fun i => bif Nat.beq i 3 then some [(7, .one .slice), (8, .one (.int .i64))] else bif Nat.beq i 6 then some [(7, .one .slice), (9, .one (.int .u64))] else none, join := fun i => bif Nat.beq i 4 then some [(7, .one .slice)] else bif Nat.beq i 5 then some [] else bif Nat.beq i 8 then some [] else bif Nat.beq i 9 then some [(7, .one .slice)] else none }
/-- bracken.brackenlaw6.Row -/
def brackenlaw6_Row.W (a0l_p : Option Addr) (a0l_l a0l_c : Nat) (a1sigma : Int) (a2most : Int) (R : Option Addr → Nat → Nat → Heap → Prop) (H0 : Heap) : Prop :=
  
  JoinW (S := ((Option Addr × Nat × Nat) × Unit)) (fun J9 => 
  LoopW (S := ((Option Addr × Nat × Nat) × Int × Unit)) (fun L3 q3 H2 => (fun (out7_p : Option Addr) (out7_l out7_c : Nat) (i8 : Int) => 
  JoinW (S := Unit) (fun J5 =>
  brW (decide (i8 < (a0l_l : Int))) (brW (decide ((out7_l : Int) < a2most)) (J5 () H2) (J9 ((out7_p, out7_l, out7_c), ()) H2)) (J9 ((out7_p, out7_l, out7_c), ()) H2))
  (fun _ H3 => 
  JoinW (S := ((Option Addr × Nat × Nat) × Unit)) (fun J4 =>
  ∃ x24 : Addr, a0l_p = some x24 ∧ 0 ≤ i8 ∧ i8 < (a0l_l : Int) ∧
  ∃ x25 : Int, hcell H3 (x24.add i8.toNat) = some (.int .i64 x25) ∧ (4 : Int) ≠ 0 ∧
  letV (Int.tmod (IntKind.u64.wrap x25) 4) fun n9 : Int => 
  LoopW (S := ((Option Addr × Nat × Nat) × Int × Unit)) (fun L6 q6 H5 => (fun (out7_p : Option Addr) (out7_l out7_c : Nat) (n9 : Int) => 
  JoinW (S := Unit) (fun J8 =>
  brW (decide (n9 < 4)) (brW (decide ((out7_l : Int) < a2most)) (J8 () H5) (J4 ((out7_p, out7_l, out7_c), ()) H5)) (J4 ((out7_p, out7_l, out7_c), ()) H5))
  (fun _ H6 =>
  ∃ x41 : Addr, a0l_p = some x41 ∧ 0 ≤ i8 ∧ i8 < (a0l_l : Int) ∧
  ∃ x42 : Int, hcell H6 (x41.add i8.toNat) = some (.int .i64 x42) ∧ (4 : Int) ≠ 0 ∧ (IntKind.u64.wrap a1sigma) ≠ 0 ∧
  letV (hnew H6 #[.int .i64 (IntKind.i64.wrap (Int.tmod (IntKind.u64.wrap (Int.tdiv (IntKind.u64.wrap x42) 4)) (IntKind.u64.wrap a1sigma)))] ty_int) fun H7 : Heap => appW ty_int 1 8 (.int .i64 0) out7_p out7_l out7_c (.slice (some ⟨Array.size H6, 0, none⟩) 1 1) H7 fun x50_p x50_l x50_c H8 =>
  letV (IntKind.u64.wrap (n9 + 1)) fun n9 : Int => L6 ((x50_p, x50_l, x50_c), (n9 : Int), ()) H8)) q6.1.1 q6.1.2.1 q6.1.2.2 q6.2.1) ((out7_p, out7_l, out7_c), (n9 : Int), ()) H3)
  (fun s4 H4 => (fun (out7_p : Option Addr) (out7_l out7_c : Nat) =>
  letV (IntKind.i64.wrap (i8 + 1)) fun i8 : Int => L3 ((out7_p, out7_l, out7_c), (i8 : Int), ()) H4) s4.1.1 s4.1.2.1 s4.1.2.2))) q3.1.1 q3.1.2.1 q3.1.2.2 q3.2.1) ((none, 0, 0), (0 : Int), ()) H0)
  (fun s9 H1 => (fun (out7_p : Option Addr) (out7_l out7_c : Nat) => R (out7_p) out7_l out7_c H1) s9.1.1 s9.1.2.1 s9.1.2.2)
theorem brackenlaw6_Row.eq (a0l_p : Option Addr) (a0l_l a0l_c : Nat) (a1sigma : Int) (a2most : Int) (R : Option Addr → Nat → Nat → Heap → Prop) (H0 : Heap) :
    evF Tryd.prog brackenlaw6_Row.ann Tryd.f11 [.slice a0l_p a0l_l a0l_c, .int .i64 a1sigma, .int .i64 a2most] (fun v H' => xS (.one .slice) v fun r => R r.1 r.2.1 r.2.2 H') H0 = brackenlaw6_Row.W a0l_p a0l_l a0l_c a1sigma a2most R H0 := by kernel_rfl
theorem brackenlaw6_Row.calls {a0l_p : Option Addr} {a0l_l a0l_c : Nat} {a1sigma : Int} {a2most : Int} {R : Option Addr → Nat → Nat → Heap → Prop} {H0 : Heap} (h : brackenlaw6_Row.W a0l_p a0l_l a0l_c a1sigma a2most R H0) : brackenlaw6_Row.C a0l_p a0l_l a0l_c a1sigma a2most H0 R :=
  (evF_sound progOk_ Tryd.func11 (by rw [brackenlaw6_Row.eq]; exact h)).mono fun v H' h => by obtain ⟨x, hv, hk⟩ := xS_out h; exact ⟨x.1, x.2.1, x.2.2, hv, hk⟩

def brackenlaw6_WaveParts.ann : Ann := { ord := fun i => bif Nat.beq i 6 then [0, 1, 2, 3, 4, 5, 6, 7, 8, 9, 10, 11, 12, 13, 14, 15, 16, 17] else bif Nat.beq i 20 then [0, 1, 2, 3, 4, 5, 6, 7, 8, 9, 10, 11, 12, 13, 16, 14, 15, 17] else [], loop := fun i => bif Nat.beq i 11 then some [(15, .one (.int .i64)), (16, .one (.int .i64))] else bif Nat.beq i 18 then some [(18, .one (.int .i64))] else none, join := fun i => bif Nat.beq i 5 then some [(38, .one .bool)] else bif Nat.beq i 6 then some [] else bif Nat.beq i 9 then some [(13, .one (.int .i64)), (14, .one (.int .i64))] else bif Nat.beq i 12 then some [(15, .one (.int .i64))] else bif Nat.beq i 15 then some [(92, .one .bool)] else bif Nat.beq i 16 then some [] else bif Nat.beq i 17 then some [(15, .one (.int .i64))] else bif Nat.beq i 22 then some [] else none }
/-- bracken.brackenlaw6.WaveParts -/
def brackenlaw6_WaveParts.W (a0l_p : Option Addr) (a0l_l a0l_c : Nat) (a1sigma : Int) (a2a : Int) (a3b : Int) (R : Bool → Heap → Prop) (H0 : Heap) : Prop :=
  (40 : Int) ≠ 0 ∧
  letV (IntKind.i64.wrap (1 + (IntKind.i64.wrap (Int.tmod (IntKind.u64.wrap a1sigma) 40)))) fun n9 : Int =>
  brackenlaw6_Row.C (a0l_p) a0l_l a0l_c (n9) (300) H0 fun x26_p x26_l x26_c H1 =>
  wave_New.C (x26_p) x26_l x26_c (n9) H1 fun x30_0 x30_1 H2 => 
  JoinW (S := Unit) (fun J6 => 
  JoinW (S := (Bool × Unit)) (fun J5 =>
  brW (decide (x30_1 ≠ 0)) (J5 (true, ()) H2) (J5 (Option.isNone (x30_0), ()) H2))
  (fun s5 H4 => (fun (x38 : Bool) =>
  brW x38 (R false H4) (J6 () H4)) s5.1))
  (fun _ H3 => (IntKind.u64.wrap (IntKind.i64.wrap ((x26_l : Int) + 1))) ≠ 0 ∧ (IntKind.u64.wrap (IntKind.i64.wrap ((x26_l : Int) + 1))) ≠ 0 ∧
  letV (IntKind.i64.wrap (Int.tmod (IntKind.u64.wrap a2a) (IntKind.u64.wrap (IntKind.i64.wrap ((x26_l : Int) + 1))))) fun x13 : Int =>
  letV (IntKind.i64.wrap (Int.tmod (IntKind.u64.wrap a3b) (IntKind.u64.wrap (IntKind.i64.wrap ((x26_l : Int) + 1))))) fun y14 : Int => 
  JoinW (S := (Int × Int × Unit)) (fun J9 =>
  brW (decide (y14 < x13)) (J9 ((y14 : Int), (x13 : Int), ()) H3) (J9 ((x13 : Int), (y14 : Int), ()) H3))
  (fun s9 H5 => (fun (x13 : Int) (y14 : Int) => 
  JoinW (S := (Int × Unit)) (fun J17 => 
  LoopW (S := (Int × Int × Unit)) (fun L11 q11 H7 => (fun (sum15 : Int) (s16 : Int) =>
  brW (decide (s16 < n9)) (
  JoinW (S := (Int × Unit)) (fun J12 =>
  wave_Wave_Count.C (x30_0) (x13) (y14) (s16) H7 fun x69 H9 => 
  JoinW (S := Unit) (fun J16 => 
  JoinW (S := (Bool × Unit)) (fun J15 =>
  brW (decide (x69 < 0)) (J15 (true, ()) H9) (wave_Wave_Count.C (x30_0) (0) (x13) (s16) H9 fun x76 H12 =>
  wave_Wave_Count.C (x30_0) (y14) ((x26_l : Int)) (s16) H12 fun x84 H13 =>
  wave_Wave_Rank.C (x30_0) ((x26_l : Int)) (s16) H13 fun x90 H14 => J15 (decide ((IntKind.i64.wrap ((IntKind.i64.wrap (x76 + x69)) + x84)) ≠ x90), ()) H14))
  (fun s15 H11 => (fun (x92 : Bool) =>
  brW x92 (R false H11) (J16 () H11)) s15.1))
  (fun _ H10 =>
  letV (IntKind.i64.wrap (sum15 + x69)) fun sum15 : Int => J12 ((sum15 : Int), ()) H10))
  (fun s12 H8 => (fun (sum15 : Int) =>
  letV (IntKind.i64.wrap (s16 + 1)) fun s16 : Int => L11 ((sum15 : Int), (s16 : Int), ()) H8) s12.1)) (J17 ((sum15 : Int), ()) H7)) q11.1 q11.2.1) ((0 : Int), (0 : Int), ()) H5)
  (fun s17 H6 => (fun (sum15 : Int) => 
  JoinW (S := Unit) (fun J22 => 
  LoopW (S := (Int × Unit)) (fun L18 q18 H16 => (fun (k18 : Int) =>
  brW (decide (k18 < y14)) (∃ x112 : Addr, x26_p = some x112 ∧ 0 ≤ k18 ∧ k18 < (x26_l : Int) ∧
  ∃ x113 : Int, hcell H16 (x112.add k18.toNat) = some (.int .i64 x113) ∧
  ∃ x119 : Addr, x26_p = some x119 ∧ 0 ≤ k18 ∧ k18 < (x26_l : Int) ∧
  ∃ x120 : Int, hcell H16 (x119.add k18.toNat) = some (.int .i64 x120) ∧ wave_Wave_Count.C (x30_0) (x13) (k18) (x120) H16 fun x121 H17 => (∃ x113s : Int, hcell H17 (x112.add k18.toNat) = some (.int .i64 x113s) ∧ (.int .i64 x113s : Value) = .int .i64 x113) ∧ wave_Wave_Nth.C (x30_0) (x13) (y14) (x113) (x121) H17 fun x122 H18 =>
  brW (decide (x122 ≠ k18)) (R false H18) ((20 : Int) ≠ 0 ∧
  letV (IntKind.i64.wrap ((IntKind.i64.wrap (k18 + 1)) + (IntKind.i64.wrap (Int.tdiv (IntKind.i64.wrap (y14 - x13)) 20)))) fun k18 : Int => L18 ((k18 : Int), ()) H18)) (J22 () H16)) q18.1) ((x13 : Int), ()) H6)
  (fun _ H15 =>
  brackenlaw6_told.C  H15 fun x125 H19 =>
  brW x125 (R (decide (sum15 = (IntKind.i64.wrap (y14 - x13)))) H19) (R false H19))) s17.1)) s9.1 s9.2.1))
theorem brackenlaw6_WaveParts.eq (a0l_p : Option Addr) (a0l_l a0l_c : Nat) (a1sigma : Int) (a2a : Int) (a3b : Int) (R : Bool → Heap → Prop) (H0 : Heap) :
    evF Tryd.prog brackenlaw6_WaveParts.ann Tryd.f4 [.slice a0l_p a0l_l a0l_c, .int .i64 a1sigma, .int .i64 a2a, .int .i64 a3b] (fun v H' => xS (.one .bool) v fun r => R r H') H0 = brackenlaw6_WaveParts.W a0l_p a0l_l a0l_c a1sigma a2a a3b R H0 := by kernel_rfl
theorem brackenlaw6_WaveParts.calls {a0l_p : Option Addr} {a0l_l a0l_c : Nat} {a1sigma : Int} {a2a : Int} {a3b : Int} {R : Bool → Heap → Prop} {H0 : Heap} (h : brackenlaw6_WaveParts.W a0l_p a0l_l a0l_c a1sigma a2a a3b R H0) : brackenlaw6_WaveParts.C a0l_p a0l_l a0l_c a1sigma a2a a3b H0 R :=
  (evF_sound progOk_ Tryd.func4 (by rw [brackenlaw6_WaveParts.eq]; exact h)).mono fun v H' h => by obtain ⟨x, hv, hk⟩ := xS_out h; exact ⟨x, hv, hk⟩

def brackenlaw6_WaveOne.ann : Ann := { ord := fun _ => [], loop := fun i => bif Nat.beq i 5 then some [(11, .one (.int .i64))] else bif Nat.beq i 12 then some [(14, .one (.int .i64))] else none, join := fun i => bif Nat.beq i 8 then some [] else bif Nat.beq i 10 then some [(52, .one .bool)] else bif Nat.beq i 11 then some [] else bif Nat.beq i 13 then some [] else bif Nat.beq i 15 then some [(91, .one .bool)] else bif Nat.beq i 16 then some [] else none }
/-- bracken.brackenlaw6.WaveOne -/
def brackenlaw6_WaveOne.W (a0n : Int) (a1sigma : Int) (a2s : Int) (R : Bool → Heap → Prop) (H0 : Heap) : Prop :=
  (301 : Int) ≠ 0 ∧ (200 : Int) ≠ 0 ∧
  letV (IntKind.i64.wrap (Int.tmod (IntKind.u64.wrap a0n) 301)) fun k7 : Int =>
  letV (IntKind.i64.wrap (1 + (IntKind.i64.wrap (Int.tmod (IntKind.u64.wrap a1sigma) 200)))) fun m8 : Int => (IntKind.u64.wrap m8) ≠ 0 ∧
  letV (IntKind.i64.wrap (Int.tmod (IntKind.u64.wrap a2s) (IntKind.u64.wrap m8))) fun c9 : Int => 0 ≤ k7 ∧ k7 ≤ k7 ∧ ((8 : Nat) : Int) * k7 ≤ 281474976710656 ∧
  letV (hnew H0 (zerosOf (.int .i64 0) k7.toNat) ty_int) fun H1 : Heap => 
  JoinW (S := Unit) (fun J8 => 
  LoopW (S := (Int × Unit)) (fun L5 q5 H3 => (fun (i11 : Int) =>
  brW (decide (i11 < k7)) (∃ x40 : Addr, some ⟨Array.size H0, 0, none⟩ = some x40 ∧ 0 ≤ i11 ∧ i11 < (k7.toNat : Int) ∧ (∃ u, hcell H3 (x40.add i11.toNat) = some u) ∧ hfrozen H3 (x40.add i11.toNat) = false ∧
  letV (hset H3 (x40.add i11.toNat) (.int .i64 c9)) fun H4 : Heap =>
  letV (IntKind.i64.wrap (i11 + 1)) fun i11 : Int => L5 ((i11 : Int), ()) H4) (J8 () H3)) q5.1) ((0 : Int), ()) H1)
  (fun _ H2 =>
  wave_New.C (some ⟨Array.size H0, 0, none⟩) k7.toNat k7.toNat (m8) H2 fun x44_0 x44_1 H5 => 
  JoinW (S := Unit) (fun J11 => 
  JoinW (S := (Bool × Unit)) (fun J10 =>
  brW (decide (x44_1 ≠ 0)) (J10 (true, ()) H5) (J10 (Option.isNone (x44_0), ()) H5))
  (fun s10 H7 => (fun (x52 : Bool) =>
  brW x52 (R false H7) (J11 () H7)) s10.1))
  (fun _ H6 => 
  JoinW (S := Unit) (fun J16 => 
  LoopW (S := (Int × Unit)) (fun L12 q12 H9 => (fun (i14 : Int) =>
  brW (decide (i14 < k7)) (
  JoinW (S := Unit) (fun J13 => 
  JoinW (S := (Bool × Unit)) (fun J15 =>
  wave_Wave_Rank.C (x44_0) (i14) (c9) H9 fun x64 H12 =>
  brW (decide (x64 ≠ i14)) (J15 (true, ()) H12) (wave_Wave_Select.C (x44_0) (i14) (c9) H12 fun x71 H13 =>
  brW (decide (x71 ≠ i14)) (J15 (true, ()) H13) (wave_Wave_Nth.C (x44_0) (i14) (k7) (c9) (0) H13 fun x80 H14 =>
  brW (decide (x80 ≠ i14)) (J15 (true, ()) H14) (wave_Wave_Count.C (x44_0) (0) (i14) (c9) H14 fun x88 H15 => J15 (decide (x88 ≠ i14), ()) H15))))
  (fun s15 H11 => (fun (x91 : Bool) =>
  brW x91 (R false H11) (J13 () H11)) s15.1))
  (fun _ H10 => (20 : Int) ≠ 0 ∧
  letV (IntKind.i64.wrap ((IntKind.i64.wrap (i14 + 1)) + (IntKind.i64.wrap (Int.tdiv k7 20)))) fun i14 : Int => L12 ((i14 : Int), ()) H10)) (J16 () H9)) q12.1) ((0 : Int), ()) H6)
  (fun _ H8 =>
  brackenlaw6_told.C  H8 fun x92 H16 =>
  brW x92 (wave_Wave_Rank.C (x44_0) (k7) (c9) H16 fun x97 H17 =>
  brW (decide (x97 = k7)) (wave_Wave_Select.C (x44_0) (k7) (c9) H17 fun x105 H18 =>
  brW (decide (x105 = (-1))) (brW (decide ((1 : Int) < m8)) (R true H18) (wave_Wave_Size.C (x44_0) H18 fun x113 H19 => R (decide (x113 = 0)) H19)) (R false H18)) (R false H17)) (R false H16))))
theorem brackenlaw6_WaveOne.eq (a0n : Int) (a1sigma : Int) (a2s : Int) (R : Bool → Heap → Prop) (H0 : Heap) :
    evF Tryd.prog brackenlaw6_WaveOne.ann Tryd.f5 [.int .i64 a0n, .int .i64 a1sigma, .int .i64 a2s] (fun v H' => xS (.one .bool) v fun r => R r H') H0 = brackenlaw6_WaveOne.W a0n a1sigma a2s R H0 := by kernel_rfl
theorem brackenlaw6_WaveOne.calls {a0n : Int} {a1sigma : Int} {a2s : Int} {R : Bool → Heap → Prop} {H0 : Heap} (h : brackenlaw6_WaveOne.W a0n a1sigma a2s R H0) : brackenlaw6_WaveOne.C a0n a1sigma a2s H0 R :=
  (evF_sound progOk_ Tryd.func5 (by rw [brackenlaw6_WaveOne.eq]; exact h)).mono fun v H' h => by obtain ⟨x, hv, hk⟩ := xS_out h; exact ⟨x, hv, hk⟩

def brackenlaw6_WaveSelects.ann : Ann := { ord := fun _ => [], loop := fun i => bif Nat.beq i 7 then some [(9, .one (.int .i64))] else none, join := fun i => bif Nat.beq i 5 then some [(32, .one .bool)] else bif Nat.beq i 6 then some [] else bif Nat.beq i 8 then some [] else bif Nat.beq i 12 then some [(100, .one .bool)] else bif Nat.beq i 13 then some [] else none }
/-- bracken.brackenlaw6.WaveSelects -/
def brackenlaw6_WaveSelects.W (a0l_p : Option Addr) (a0l_l a0l_c : Nat) (a1sigma : Int) (R : Bool → Heap → Prop) (H0 : Heap) : Prop :=
  (100 : Int) ≠ 0 ∧
  letV (IntKind.i64.wrap (1 + (IntKind.i64.wrap (Int.tmod (IntKind.u64.wrap a1sigma) 100)))) fun n5 : Int =>
  brackenlaw6_Row.C (a0l_p) a0l_l a0l_c (n5) (300) H0 fun x20_p x20_l x20_c H1 =>
  wave_New.C (x20_p) x20_l x20_c (n5) H1 fun x24_0 x24_1 H2 => 
  JoinW (S := Unit) (fun J6 => 
  JoinW (S := (Bool × Unit)) (fun J5 =>
  brW (decide (x24_1 ≠ 0)) (J5 (true, ()) H2) (J5 (Option.isNone (x24_0), ()) H2))
  (fun s5 H4 => (fun (x32 : Bool) =>
  brW x32 (R false H4) (J6 () H4)) s5.1))
  (fun _ H3 => 
  JoinW (S := Unit) (fun J13 => 
  LoopW (S := (Int × Unit)) (fun L7 q7 H6 => (fun (i9 : Int) =>
  brW (decide (i9 < (x20_l : Int))) (
  JoinW (S := Unit) (fun J8 =>
  wave_Wave_Get.C (x24_0) (i9) H6 fun x42_0 x42_1 H8 =>
  ∃ x49 : Addr, x20_p = some x49 ∧ 0 ≤ i9 ∧ i9 < (x20_l : Int) ∧
  ∃ x50 : Int, hcell H8 (x49.add i9.toNat) = some (.int .i64 x50) ∧ wave_Wave_Rank.C (x24_0) (i9) (x50) H8 fun x51 H9 => 
  JoinW (S := (Bool × Unit)) (fun J12 =>
  brW (decide (x42_1 ≠ 0)) (J12 (true, ()) H9) (∃ x58 : Addr, x20_p = some x58 ∧ 0 ≤ i9 ∧ i9 < (x20_l : Int) ∧
  ∃ x59 : Int, hcell H9 (x58.add i9.toNat) = some (.int .i64 x59) ∧
  brW (decide (x42_0 ≠ x59)) (J12 (true, ()) H9) (wave_Wave_Select.C (x24_0) (x51) (x42_0) H9 fun x66 H11 =>
  brW (decide (x66 ≠ i9)) (J12 (true, ()) H11) (wave_Wave_Nth.C (x24_0) (0) ((x20_l : Int)) (x42_0) (x51) H11 fun x76 H12 =>
  brW (decide (x76 ≠ i9)) (J12 (true, ()) H12) (wave_Wave_Nth.C (x24_0) (i9) ((x20_l : Int)) (x42_0) (0) H12 fun x86 H13 =>
  brW (decide (x86 ≠ i9)) (J12 (true, ()) H13) (wave_Wave_Nth.C (x24_0) (IntKind.i64.wrap (i9 + 1)) ((x20_l : Int)) (x42_0) (0) H13 fun x97 H14 => J12 (decide (x97 = i9), ()) H14))))))
  (fun s12 H10 => (fun (x100 : Bool) =>
  brW x100 (R false H10) (J8 () H10)) s12.1))
  (fun _ H7 =>
  letV (IntKind.i64.wrap (i9 + 1)) fun i9 : Int => L7 ((i9 : Int), ()) H7)) (J13 () H6)) q7.1) ((0 : Int), ()) H3)
  (fun _ H5 =>
  brackenlaw6_told.C  H5 fun x101 H15 =>
  brW x101 (wave_Wave_Len.C (x24_0) H15 fun x104 H16 => R (decide (x104 = (x20_l : Int))) H16) (R false H15)))
theorem brackenlaw6_WaveSelects.eq (a0l_p : Option Addr) (a0l_l a0l_c : Nat) (a1sigma : Int) (R : Bool → Heap → Prop) (H0 : Heap) :
    evF Tryd.prog brackenlaw6_WaveSelects.ann Tryd.f6 [.slice a0l_p a0l_l a0l_c, .int .i64 a1sigma] (fun v H' => xS (.one .bool) v fun r => R r H') H0 = brackenlaw6_WaveSelects.W a0l_p a0l_l a0l_c a1sigma R H0 := by kernel_rfl
theorem brackenlaw6_WaveSelects.calls {a0l_p : Option Addr} {a0l_l a0l_c : Nat} {a1sigma : Int} {R : Bool → Heap → Prop} {H0 : Heap} (h : brackenlaw6_WaveSelects.W a0l_p a0l_l a0l_c a1sigma R H0) : brackenlaw6_WaveSelects.C a0l_p a0l_l a0l_c a1sigma H0 R :=
  (evF_sound progOk_ Tryd.func6 (by rw [brackenlaw6_WaveSelects.eq]; exact h)).mono fun v H' h => by obtain ⟨x, hv, hk⟩ := xS_out h; exact ⟨x, hv, hk⟩

def brackenref1_Width.ann : Ann := { ord := fun _ => [], loop := fun i => bif Nat.beq i 2 then some [(0, .one (.int .u64)), (3, .one (.int .i64))] else none, join := fun i => bif Nat.beq i 5 then some [(3, .one (.int .i64))] else none }
/-- bracken.brackenref1.Width -/
def brackenref1_Width.W (a0n : Int) (R : Int → Heap → Prop) (H0 : Heap) : Prop :=
  
  JoinW (S := (Int × Unit)) (fun J5 => 
  LoopW (S := (Int × Int × Unit)) (fun L2 q2 H2 => (fun (n0 : Int) (w3 : Int) =>
  brW (decide ((0 : Int) < n0)) (letV (IntKind.i64.wrap (w3 + 1)) fun w3 : Int => 0 ≤ (1 : Int) ∧
  letV (shrW .u64 n0 1) fun n0 : Int => L2 ((n0 : Int), (w3 : Int), ()) H2) (J5 ((w3 : Int), ()) H2)) q2.1 q2.2.1) ((a0n : Int), (0 : Int), ()) H0)
  (fun s5 H1 => (fun (w3 : Int) => R (w3) H1) s5.1)
theorem brackenref1_Width.eq (a0n : Int) (R : Int → Heap → Prop) (H0 : Heap) :
    evF Tryd.prog brackenref1_Width.ann Tryd.f32 [.int .u64 a0n] (fun v H' => xS (.one (.int .i64)) v fun r => R r H') H0 = brackenref1_Width.W a0n R H0 := by kernel_rfl
theorem brackenref1_Width.calls {a0n : Int} {R : Int → Heap → Prop} {H0 : Heap} (h : brackenref1_Width.W a0n R H0) : brackenref1_Width.C a0n H0 R :=
  (evF_sound progOk_ Tryd.func32 (by rw [brackenref1_Width.eq]; exact h)).mono fun v H' h => by obtain ⟨x, hv, hk⟩ := xS_out h; exact ⟨x, hv, hk⟩

def brackenref1_begun.ann : Ann := { ord := fun _ => [], loop := fun _ => none, join := fun _ => none }
/-- bracken.brackenref1.begun -/
def brackenref1_begun.W (a0n : Int) (a1by : Int) (R : Int → Heap → Prop) (H0 : Heap) : Prop :=
  a1by ≠ 0 ∧
  letV (IntKind.i64.wrap (Int.tdiv (IntKind.i64.wrap ((IntKind.i64.wrap (a0n + a1by)) - 1)) a1by)) fun x4 : Int => R (x4) H0
theorem brackenref1_begun.eq (a0n : Int) (a1by : Int) (R : Int → Heap → Prop) (H0 : Heap) :
    evF Tryd.prog brackenref1_begun.ann Tryd.f43 [.int .i64 a0n, .int .i64 a1by] (fun v H' => xS (.one (.int .i64)) v fun r => R r H') H0 = brackenref1_begun.W a0n a1by R H0 := by kernel_rfl
theorem brackenref1_begun.calls {a0n : Int} {a1by : Int} {R : Int → Heap → Prop} {H0 : Heap} (h : brackenref1_begun.W a0n a1by R H0) : brackenref1_begun.C a0n a1by H0 R :=
  (evF_sound progOk_ Tryd.func43 (by rw [brackenref1_begun.eq]; exact h)).mono fun v H' h => by obtain ⟨x, hv, hk⟩ := xS_out h; exact ⟨x, hv, hk⟩

def brackenref1_BitsSize.ann : Ann := { ord := fun _ => [], loop := fun _ => none, join := fun _ => none }
/-- bracken.brackenref1.BitsSize -/
def brackenref1_BitsSize.W (a0n : Int) (R : Int → Heap → Prop) (H0 : Heap) : Prop :=
  brackenref1_begun.C (a0n) (64) H0 fun x4 H1 =>
  brackenref1_begun.C (a0n) (512) H1 fun x7 H2 =>
  brackenref1_begun.C (a0n) (64) H2 fun x11 H3 =>
  letV (IntKind.i64.wrap ((IntKind.i64.wrap ((IntKind.i64.wrap (64 * x4)) + (IntKind.i64.wrap (32 * x7)))) + (IntKind.i64.wrap (16 * x11)))) fun x2 : Int => R (x2) H3
theorem brackenref1_BitsSize.eq (a0n : Int) (R : Int → Heap → Prop) (H0 : Heap) :
    evF Tryd.prog brackenref1_BitsSize.ann Tryd.f33 [.int .i64 a0n] (fun v H' => xS (.one (.int .i64)) v fun r => R r H') H0 = brackenref1_BitsSize.W a0n R H0 := by kernel_rfl
theorem brackenref1_BitsSize.calls {a0n : Int} {R : Int → Heap → Prop} {H0 : Heap} (h : brackenref1_BitsSize.W a0n R H0) : brackenref1_BitsSize.C a0n H0 R :=
  (evF_sound progOk_ Tryd.func33 (by rw [brackenref1_BitsSize.eq]; exact h)).mono fun v H' h => by obtain ⟨x, hv, hk⟩ := xS_out h; exact ⟨x, hv, hk⟩

def brackenref1_WaveSize.ann : Ann := { ord := fun _ => [], loop := fun _ => none, join := fun _ => none }
/-- bracken.brackenref1.WaveSize -/
def brackenref1_WaveSize.W (a0n : Int) (a1sigma : Int) (R : Int → Heap → Prop) (H0 : Heap) : Prop :=
  brackenref1_Width.C (IntKind.u64.wrap (IntKind.i64.wrap (a1sigma - 1))) H0 fun x8 H1 =>
  brackenref1_BitsSize.C (a0n) H1 fun x10 H2 =>
  letV (IntKind.i64.wrap (x8 * x10)) fun x4 : Int => R (x4) H2
theorem brackenref1_WaveSize.eq (a0n : Int) (a1sigma : Int) (R : Int → Heap → Prop) (H0 : Heap) :
    evF Tryd.prog brackenref1_WaveSize.ann Tryd.f19 [.int .i64 a0n, .int .i64 a1sigma] (fun v H' => xS (.one (.int .i64)) v fun r => R r H') H0 = brackenref1_WaveSize.W a0n a1sigma R H0 := by kernel_rfl
theorem brackenref1_WaveSize.calls {a0n : Int} {a1sigma : Int} {R : Int → Heap → Prop} {H0 : Heap} (h : brackenref1_WaveSize.W a0n a1sigma R H0) : brackenref1_WaveSize.C a0n a1sigma H0 R :=
  (evF_sound progOk_ Tryd.func19 (by rw [brackenref1_WaveSize.eq]; exact h)).mono fun v H' h => by obtain ⟨x, hv, hk⟩ := xS_out h; exact ⟨x, hv, hk⟩

def wave_Wave_Steps.ann : Ann := { ord := fun _ => [], loop := fun _ => none, join := fun _ => none }
/-- (*bracken.wave.Wave).Steps -/
def wave_Wave_Steps.W (a0w : Option Addr) (R : Int → Heap → Prop) (H0 : Heap) : Prop :=
  brW (Option.isNone (a0w)) (R (0) H0) (∃ x6 : Addr, a0w = some x6 ∧
  ∃ x8 : Int, hcell H0 (x6.add 3) = some (.int .i64 x8) ∧ R (x8) H0)
theorem wave_Wave_Steps.eq (a0w : Option Addr) (R : Int → Heap → Prop) (H0 : Heap) :
    evF Tryd.prog wave_Wave_Steps.ann Tryd.f34 [.pointer a0w] (fun v H' => xS (.one (.int .i64)) v fun r => R r H') H0 = wave_Wave_Steps.W a0w R H0 := by kernel_rfl
theorem wave_Wave_Steps.calls {a0w : Option Addr} {R : Int → Heap → Prop} {H0 : Heap} (h : wave_Wave_Steps.W a0w R H0) : wave_Wave_Steps.C a0w H0 R :=
  (evF_sound progOk_ Tryd.func34 (by rw [wave_Wave_Steps.eq]; exact h)).mono fun v H' h => by obtain ⟨x, hv, hk⟩ := xS_out h; exact ⟨x, hv, hk⟩

def brackenlaw6_steps.ann : Ann := { ord := fun _ => [], loop := fun _ => none, join := fun _ => none }
/-- bracken.brackenlaw6.steps -/
def brackenlaw6_steps.W (a0w : Option Addr) (a1sigma : Int) (R : Bool → Heap → Prop) (H0 : Heap) : Prop :=
  wave_Wave_Steps.C (a0w) H0 fun x6 H1 =>
  brW (decide ((0 : Int) ≤ x6)) (wave_Wave_Steps.C (a0w) H1 fun x10 H2 =>
  brackenref1_Width.C (IntKind.u64.wrap (IntKind.i64.wrap (a1sigma - 1))) H2 fun x14 H3 => R (decide (x10 ≤ (IntKind.i64.wrap (6 * (IntKind.i64.wrap (x14 + 1)))))) H3) (R false H1)
theorem brackenlaw6_steps.eq (a0w : Option Addr) (a1sigma : Int) (R : Bool → Heap → Prop) (H0 : Heap) :
    evF Tryd.prog brackenlaw6_steps.ann Tryd.f20 [.pointer a0w, .int .i64 a1sigma] (fun v H' => xS (.one .bool) v fun r => R r H') H0 = brackenlaw6_steps.W a0w a1sigma R H0 := by kernel_rfl
theorem brackenlaw6_steps.calls {a0w : Option Addr} {a1sigma : Int} {R : Bool → Heap → Prop} {H0 : Heap} (h : brackenlaw6_steps.W a0w a1sigma R H0) : brackenlaw6_steps.C a0w a1sigma H0 R :=
  (evF_sound progOk_ Tryd.func20 (by rw [brackenlaw6_steps.eq]; exact h)).mono fun v H' h => by obtain ⟨x, hv, hk⟩ := xS_out h; exact ⟨x, hv, hk⟩

def brackenref1_Count.ann : Ann := { ord := fun _ => [], loop := fun i => bif Nat.beq i 3 then some [(9, .one (.int .i64)), (10, .one (.int .i64))] else none, join := fun i => bif Nat.beq i 4 then some [(9, .one (.int .i64))] else bif Nat.beq i 5 then some [] else bif Nat.beq i 7 then some [(9, .one (.int .i64))] else none }
/-- bracken.brackenref1.Count -/
def brackenref1_Count.W (a0l_p : Option Addr) (a0l_l a0l_c : Nat) (a1lo : Int) (a2hi : Int) (a3s : Int) (R : Int → Heap → Prop) (H0 : Heap) : Prop :=
  
  JoinW (S := (Int × Unit)) (fun J7 =>
  letV (max a1lo 0) fun i10 : Int => 
  LoopW (S := (Int × Int × Unit)) (fun L3 q3 H2 => (fun (n9 : Int) (i10 : Int) => 
  JoinW (S := Unit) (fun J5 =>
  brW (decide (i10 < a2hi)) (brW (decide (i10 < (a0l_l : Int))) (J5 () H2) (J7 ((n9 : Int), ()) H2)) (J7 ((n9 : Int), ()) H2))
  (fun _ H3 => 
  JoinW (S := (Int × Unit)) (fun J4 =>
  ∃ x26 : Addr, a0l_p = some x26 ∧ 0 ≤ i10 ∧ i10 < (a0l_l : Int) ∧
  ∃ x27 : Int, hcell H3 (x26.add i10.toNat) = some (.int .i64 x27) ∧
  brW (decide (x27 = a3s)) (letV (IntKind.i64.wrap (n9 + 1)) fun n9 : Int => J4 ((n9 : Int), ()) H3) (J4 ((n9 : Int), ()) H3))
  (fun s4 H4 => (fun (n9 : Int) =>
  letV (IntKind.i64.wrap (i10 + 1)) fun i10 : Int => L3 ((n9 : Int), (i10 : Int), ()) H4) s4.1))) q3.1 q3.2.1) ((0 : Int), (i10 : Int), ()) H0)
  (fun s7 H1 => (fun (n9 : Int) => R (n9) H1) s7.1)
theorem brackenref1_Count.eq (a0l_p : Option Addr) (a0l_l a0l_c : Nat) (a1lo : Int) (a2hi : Int) (a3s : Int) (R : Int → Heap → Prop) (H0 : Heap) :
    evF Tryd.prog brackenref1_Count.ann Tryd.f21 [.slice a0l_p a0l_l a0l_c, .int .i64 a1lo, .int .i64 a2hi, .int .i64 a3s] (fun v H' => xS (.one (.int .i64)) v fun r => R r H') H0 = brackenref1_Count.W a0l_p a0l_l a0l_c a1lo a2hi a3s R H0 := by kernel_rfl
theorem brackenref1_Count.calls {a0l_p : Option Addr} {a0l_l a0l_c : Nat} {a1lo : Int} {a2hi : Int} {a3s : Int} {R : Int → Heap → Prop} {H0 : Heap} (h : brackenref1_Count.W a0l_p a0l_l a0l_c a1lo a2hi a3s R H0) : brackenref1_Count.C a0l_p a0l_l a0l_c a1lo a2hi a3s H0 R :=
  (evF_sound progOk_ Tryd.func21 (by rw [brackenref1_Count.eq]; exact h)).mono fun v H' h => by obtain ⟨x, hv, hk⟩ := xS_out h; exact ⟨x, hv, hk⟩

def brackenref1_Nth.ann : Ann := { ord := fun _ => [], loop := fun i => bif Nat.beq i 3 then some [(11, .one (.int .i64)), (12, .one (.int .i64))] else none, join := fun i => bif Nat.beq i 4 then some [(11, .one (.int .i64))] else bif Nat.beq i 5 then some [] else bif Nat.beq i 9 then some [] else none }
/-- bracken.brackenref1.Nth -/
def brackenref1_Nth.W (a0l_p : Option Addr) (a0l_l a0l_c : Nat) (a1lo : Int) (a2hi : Int) (a3s : Int) (a4j : Int) (R : Int → Heap → Prop) (H0 : Heap) : Prop :=
  
  JoinW (S := Unit) (fun J9 =>
  letV (max a1lo 0) fun i12 : Int => 
  LoopW (S := (Int × Int × Unit)) (fun L3 q3 H2 => (fun (n11 : Int) (i12 : Int) => 
  JoinW (S := Unit) (fun J5 =>
  brW (decide (i12 < a2hi)) (brW (decide (i12 < (a0l_l : Int))) (J5 () H2) (J9 () H2)) (J9 () H2))
  (fun _ H3 => 
  JoinW (S := (Int × Unit)) (fun J4 =>
  ∃ x28 : Addr, a0l_p = some x28 ∧ 0 ≤ i12 ∧ i12 < (a0l_l : Int) ∧
  ∃ x29 : Int, hcell H3 (x28.add i12.toNat) = some (.int .i64 x29) ∧
  brW (decide (x29 = a3s)) (brW (decide (n11 = a4j)) (R (i12) H3) (letV (IntKind.i64.wrap (n11 + 1)) fun n11 : Int => J4 ((n11 : Int), ()) H3)) (J4 ((n11 : Int), ()) H3))
  (fun s4 H4 => (fun (n11 : Int) =>
  letV (IntKind.i64.wrap (i12 + 1)) fun i12 : Int => L3 ((n11 : Int), (i12 : Int), ()) H4) s4.1))) q3.1 q3.2.1) ((0 : Int), (i12 : Int), ()) H0)
  (fun _ H1 => R (-1) H1)
theorem brackenref1_Nth.eq (a0l_p : Option Addr) (a0l_l a0l_c : Nat) (a1lo : Int) (a2hi : Int) (a3s : Int) (a4j : Int) (R : Int → Heap → Prop) (H0 : Heap) :
    evF Tryd.prog brackenref1_Nth.ann Tryd.f22 [.slice a0l_p a0l_l a0l_c, .int .i64 a1lo, .int .i64 a2hi, .int .i64 a3s, .int .i64 a4j] (fun v H' => xS (.one (.int .i64)) v fun r => R r H') H0 = brackenref1_Nth.W a0l_p a0l_l a0l_c a1lo a2hi a3s a4j R H0 := by kernel_rfl
theorem brackenref1_Nth.calls {a0l_p : Option Addr} {a0l_l a0l_c : Nat} {a1lo : Int} {a2hi : Int} {a3s : Int} {a4j : Int} {R : Int → Heap → Prop} {H0 : Heap} (h : brackenref1_Nth.W a0l_p a0l_l a0l_c a1lo a2hi a3s a4j R H0) : brackenref1_Nth.C a0l_p a0l_l a0l_c a1lo a2hi a3s a4j H0 R :=
  (evF_sound progOk_ Tryd.func22 (by rw [brackenref1_Nth.eq]; exact h)).mono fun v H' h => by obtain ⟨x, hv, hk⟩ := xS_out h; exact ⟨x, hv, hk⟩

def brackenlaw6_WaveAsks.ann : Ann := { ord := fun i => bif Nat.beq i 19 then [0, 1, 2, 3, 4, 5, 6, 7, 8, 9, 10, 11, 12, 13, 14, 15, 16, 17, 18, 19, 20, 21, 22, 23, 24] else [], loop := fun i => bif Nat.beq i 7 then some [(2, .one (.int .i64)), (3, .one (.int .i64)), (4, .one (.int .i64)), (17, .one (.int .i64))] else none, join := fun i => bif Nat.beq i 5 then some [(58, .one .bool)] else bif Nat.beq i 6 then some [] else bif Nat.beq i 8 then some [(2, .one (.int .i64)), (3, .one (.int .i64)), (4, .one (.int .i64))] else bif Nat.beq i 11 then some [(20, .one .bool)] else bif Nat.beq i 12 then some [(109, .one .bool)] else bif Nat.beq i 13 then some [] else bif Nat.beq i 14 then some [(21, .one .bool)] else bif Nat.beq i 17 then some [(22, .one (.int .i64))] else bif Nat.beq i 18 then some [(192, .one .bool)] else bif Nat.beq i 19 then some [] else bif Nat.beq i 20 then some [] else none }
/-- bracken.brackenlaw6.WaveAsks -/
def brackenlaw6_WaveAsks.W (a0l_p : Option Addr) (a0l_l a0l_c : Nat) (a1sigma : Int) (a2k : Int) (a3s : Int) (a4lo : Int) (a5hi : Int) (R : Bool → Heap → Prop) (H0 : Heap) : Prop :=
  (300 : Int) ≠ 0 ∧
  letV (IntKind.i64.wrap (1 + (IntKind.i64.wrap (Int.tmod (IntKind.u64.wrap a1sigma) 300)))) fun n13 : Int =>
  brackenlaw6_Row.C (a0l_p) a0l_l a0l_c (n13) (400) H0 fun x30_p x30_l x30_c H1 =>
  wave_New.C (x30_p) x30_l x30_c (n13) H1 fun x34_0 x34_1 H2 => 
  JoinW (S := Unit) (fun J6 => 
  JoinW (S := (Bool × Unit)) (fun J5 =>
  brW (decide (x34_1 ≠ 0)) (J5 (true, ()) H2) (brW (Option.isNone (x34_0)) (J5 (true, ()) H2) (wave_Wave_Len.C (x34_0) H2 fun x45 H5 =>
  brW (decide (x45 ≠ (x30_l : Int))) (J5 (true, ()) H5) (wave_Wave_Size.C (x34_0) H5 fun x52 H6 =>
  brackenref1_WaveSize.C ((x30_l : Int)) (n13) H6 fun x56 H7 => J5 (decide (x52 ≠ x56), ()) H7))))
  (fun s5 H4 => (fun (x58 : Bool) =>
  brW x58 (R false H4) (J6 () H4)) s5.1))
  (fun _ H3 => 
  JoinW (S := Unit) (fun J20 => 
  LoopW (S := (Int × Int × Int × Int × Unit)) (fun L7 q7 H9 => (fun (k2 : Int) (s3 : Int) (lo4 : Int) (turn17 : Int) =>
  brW (decide (turn17 < 2)) (
  JoinW (S := (Int × Int × Int × Unit)) (fun J8 =>
  wave_Wave_Get.C (x34_0) (k2) H9 fun x66_0 x66_1 H11 => 
  JoinW (S := Unit) (fun J13 => 
  JoinW (S := (Bool × Unit)) (fun J11 =>
  brW (decide ((0 : Int) ≤ k2)) (J11 (decide (k2 < (x30_l : Int)), ()) H11) (J11 (false, ()) H11))
  (fun s11 H13 => (fun (in20 : Bool) => 
  JoinW (S := (Bool × Unit)) (fun J12 =>
  brW (decide ((decide (x66_1 = 0)) ≠ in20)) (J12 (true, ()) H13) (brW in20 (∃ x87 : Addr, x30_p = some x87 ∧ 0 ≤ k2 ∧ k2 < (x30_l : Int) ∧
  ∃ x88 : Int, hcell H13 (x87.add k2.toNat) = some (.int .i64 x88) ∧
  brW (decide (x66_0 ≠ x88)) (J12 (true, ()) H13) (brW (!in20) (brW (decide (x66_0 ≠ 0)) (J12 (true, ()) H13) (brW (decide (x66_1 ≠ 4)) (J12 (true, ()) H13) (brackenlaw6_steps.C (x34_0) (n13) H13 fun x107 H15 => J12 (!x107, ()) H15))) (brackenlaw6_steps.C (x34_0) (n13) H13 fun x107 H16 => J12 (!x107, ()) H16))) (brW (!in20) (brW (decide (x66_0 ≠ 0)) (J12 (true, ()) H13) (brW (decide (x66_1 ≠ 4)) (J12 (true, ()) H13) (brackenlaw6_steps.C (x34_0) (n13) H13 fun x107 H17 => J12 (!x107, ()) H17))) (brackenlaw6_steps.C (x34_0) (n13) H13 fun x107 H18 => J12 (!x107, ()) H18))))
  (fun s12 H14 => (fun (x109 : Bool) =>
  brW x109 (R false H14) (J13 () H14)) s12.1)) s11.1))
  (fun _ H12 => 
  JoinW (S := (Bool × Unit)) (fun J14 =>
  brW (decide ((0 : Int) ≤ s3)) (J14 (decide (s3 < n13), ()) H12) (J14 (false, ()) H12))
  (fun s14 H19 => (fun (is21 : Bool) => 
  JoinW (S := (Int × Unit)) (fun J17 =>
  brW is21 (brackenref1_Count.C (x30_p) x30_l x30_c (0) (k2) (s3) H19 fun x121 H21 => J17 ((x121 : Int), ()) H21) (J17 ((0 : Int), ()) H19))
  (fun s17 H20 => (fun (r22 : Int) => 
  JoinW (S := Unit) (fun J19 => 
  JoinW (S := (Bool × Unit)) (fun J18 =>
  wave_Wave_Rank.C (x34_0) (k2) (s3) H20 fun x125 H24 =>
  brW (decide (x125 ≠ r22)) (J18 (true, ()) H24) (brackenlaw6_steps.C (x34_0) (n13) H24 fun x131 H25 =>
  brW (!x131) (J18 (true, ()) H25) (wave_Wave_Select.C (x34_0) (k2) (s3) H25 fun x138 H26 =>
  brackenref1_Nth.C (x30_p) x30_l x30_c (0) ((x30_l : Int)) (s3) (k2) H26 fun x144 H27 =>
  brW (decide (x138 ≠ x144)) (J18 (true, ()) H27) (brackenlaw6_steps.C (x34_0) (n13) H27 fun x150 H28 =>
  brW (!x150) (J18 (true, ()) H28) (wave_Wave_Count.C (x34_0) (lo4) (a5hi) (s3) H28 fun x158 H29 =>
  brackenref1_Count.C (x30_p) x30_l x30_c (lo4) (a5hi) (s3) H29 fun x163 H30 =>
  brW (decide (x158 ≠ x163)) (J18 (true, ()) H30) (brackenlaw6_steps.C (x34_0) (n13) H30 fun x169 H31 =>
  brW (!x169) (J18 (true, ()) H31) (wave_Wave_Nth.C (x34_0) (lo4) (a5hi) (s3) (k2) H31 fun x178 H32 =>
  brackenref1_Nth.C (x30_p) x30_l x30_c (lo4) (a5hi) (s3) (k2) H32 fun x184 H33 =>
  brW (decide (x178 ≠ x184)) (J18 (true, ()) H33) (brackenlaw6_steps.C (x34_0) (n13) H33 fun x190 H34 => J18 (!x190, ()) H34))))))))
  (fun s18 H23 => (fun (x192 : Bool) =>
  brW x192 (R false H23) (J19 () H23)) s18.1))
  (fun _ H22 => (IntKind.u64.wrap (IntKind.i64.wrap ((x30_l : Int) + 1))) ≠ 0 ∧ (IntKind.u64.wrap n13) ≠ 0 ∧ (IntKind.u64.wrap (IntKind.i64.wrap ((x30_l : Int) + 1))) ≠ 0 ∧
  letV (IntKind.i64.wrap (Int.tmod (IntKind.u64.wrap k2) (IntKind.u64.wrap (IntKind.i64.wrap ((x30_l : Int) + 1))))) fun k2 : Int =>
  letV (IntKind.i64.wrap (Int.tmod (IntKind.u64.wrap s3) (IntKind.u64.wrap n13))) fun s3 : Int =>
  letV (IntKind.i64.wrap (Int.tmod (IntKind.u64.wrap lo4) (IntKind.u64.wrap (IntKind.i64.wrap ((x30_l : Int) + 1))))) fun lo4 : Int => J8 ((k2 : Int), (s3 : Int), (lo4 : Int), ()) H22)) s17.1)) s14.1)))
  (fun s8 H10 => (fun (k2 : Int) (s3 : Int) (lo4 : Int) =>
  letV (IntKind.i64.wrap (turn17 + 1)) fun turn17 : Int => L7 ((k2 : Int), (s3 : Int), (lo4 : Int), (turn17 : Int), ()) H10) s8.1 s8.2.1 s8.2.2.1)) (J20 () H9)) q7.1 q7.2.1 q7.2.2.1 q7.2.2.2.1) ((a2k : Int), (a3s : Int), (a4lo : Int), (0 : Int), ()) H3)
  (fun _ H8 =>
  brackenlaw6_told.C  H8 fun x215 H35 => R (x215) H35))
theorem brackenlaw6_WaveAsks.eq (a0l_p : Option Addr) (a0l_l a0l_c : Nat) (a1sigma : Int) (a2k : Int) (a3s : Int) (a4lo : Int) (a5hi : Int) (R : Bool → Heap → Prop) (H0 : Heap) :
    evF Tryd.prog brackenlaw6_WaveAsks.ann Tryd.f7 [.slice a0l_p a0l_l a0l_c, .int .i64 a1sigma, .int .i64 a2k, .int .i64 a3s, .int .i64 a4lo, .int .i64 a5hi] (fun v H' => xS (.one .bool) v fun r => R r H') H0 = brackenlaw6_WaveAsks.W a0l_p a0l_l a0l_c a1sigma a2k a3s a4lo a5hi R H0 := by kernel_rfl
theorem brackenlaw6_WaveAsks.calls {a0l_p : Option Addr} {a0l_l a0l_c : Nat} {a1sigma : Int} {a2k : Int} {a3s : Int} {a4lo : Int} {a5hi : Int} {R : Bool → Heap → Prop} {H0 : Heap} (h : brackenlaw6_WaveAsks.W a0l_p a0l_l a0l_c a1sigma a2k a3s a4lo a5hi R H0) : brackenlaw6_WaveAsks.C a0l_p a0l_l a0l_c a1sigma a2k a3s a4lo a5hi H0 R :=
  (evF_sound progOk_ Tryd.func7 (by rw [brackenlaw6_WaveAsks.eq]; exact h)).mono fun v H' h => by obtain ⟨x, hv, hk⟩ := xS_out h; exact ⟨x, hv, hk⟩

end Go.Proofs.YtkjgbophokcdbaaDoor
