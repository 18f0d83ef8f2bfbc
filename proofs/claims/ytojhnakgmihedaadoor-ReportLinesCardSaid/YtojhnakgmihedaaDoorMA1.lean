import Derived.Test.YtojhnakgmihedaaDoorEvSound
import Derived.Test.YtojhnakgmihedaaDoorProg
import Derived.KernelRfl
import Derived.Test.YtojhnakgmihedaaDoorMA0
namespace Go.Proofs.YtojhnakgmihedaaDoor
open Go.Ev
set_option linter.unusedVariables false
def report_Code.ann : Ann := { ord := fun _ => [], loop := fun _ => none, join := fun i => bif Nat.beq i 3 then some [(12, .one .bool)] else bif Nat.beq i 4 then some [] else none }
/-- bracken.report.Code -/
def report_Code.W (a0c : Int) (R : ByteArray → Heap → Prop) (H0 : Heap) : Prop :=
  letV (hnew H0 #[.string (⟨#[111, 107]⟩ : ByteArray), .string (⟨#[97, 114, 103, 117, 109, 101, 110, 116]⟩ : ByteArray), .string (⟨#[115, 121, 110, 116, 97, 120]⟩ : ByteArray), .string (⟨#[108, 105, 109, 105, 116]⟩ : ByteArray), .string (⟨#[114, 97, 110, 103, 101]⟩ : ByteArray), .string (⟨#[107, 105, 110, 100]⟩ : ByteArray), .string (⟨#[110, 111, 110, 101]⟩ : ByteArray), .string (⟨#[102, 117, 108, 108]⟩ : ByteArray)] ty_string) fun H1 : Heap => 
  JoinW (S := Unit) (fun J4 => 
  JoinW (S := (Bool × Unit)) (fun J3 =>
  brW (decide (a0c < 0)) (J3 (true, ()) H1) (J3 (decide ((((8 : Nat) : Int)) ≤ a0c), ()) H1))
  (fun s3 H3 => (fun (x12 : Bool) =>
  brW x12 (R (⟨#[63]⟩ : ByteArray) H3) (J4 () H3)) s3.1))
  (fun _ H2 =>
  ∃ x15 : Addr, some ⟨Array.size H0, 0, none⟩ = some x15 ∧ 0 ≤ a0c ∧ a0c < (8 : Int) ∧
  ∃ x16 : ByteArray, hcell H2 (x15.add a0c.toNat) = some (.string x16) ∧ R x16 H2)
theorem report_Code.eq (a0c : Int) (R : ByteArray → Heap → Prop) (H0 : Heap) :
    evF Tryd.prog report_Code.ann Tryd.f6 [.int .i64 a0c] (fun v H' => xS (.one .str) v fun r => R r H') H0 = report_Code.W a0c R H0 := by kernel_rfl
theorem report_Code.calls {a0c : Int} {R : ByteArray → Heap → Prop} {H0 : Heap} (h : report_Code.W a0c R H0) : report_Code.C a0c H0 R :=
  (evF_sound progOk_ Tryd.func6 (by rw [report_Code.eq]; exact h)).mono fun v H' h => by obtain ⟨x, hv, hk⟩ := xS_out h; exact ⟨x, hv, hk⟩

def strings_Builder_WriteString.ann : Ann := { ord := fun _ => [], loop := fun _ => none, join := fun _ => none }
/-- (*strings.Builder).WriteString -/
def strings_Builder_WriteString.W (a0b : Option Addr) (a1s : ByteArray) (R : Int → Value → Heap → Prop) (H0 : Heap) : Prop :=
  strings_Builder_copyCheck.C (a0b) H0 fun H1 =>
  ∃ x10 : Addr, a0b = some x10 ∧
  ∃ (x12_p : Option Addr) (x12_l x12_c : Nat), hcell H1 (x10.add 1) = some (.slice x12_p x12_l x12_c) ∧ appW ty_uint8 1 1 (.int .u8 0) x12_p x12_l x12_c (.string a1s) H1 fun x14_p x14_l x14_c H2 =>
  ∃ x15 : Addr, a0b = some x15 ∧ (∃ u, hcell H2 (x15.add 1) = some u) ∧ hfrozen H2 (x15.add 1) = false ∧
  letV (hset H2 (x15.add 1) (.slice x14_p x14_l x14_c)) fun H3 : Heap =>
  letV ((a1s.size : Int)) fun x4 : Int => R (x4) (.nilIface) H3
theorem strings_Builder_WriteString.eq (a0b : Option Addr) (a1s : ByteArray) (R : Int → Value → Heap → Prop) (H0 : Heap) :
    evF Tryd.prog strings_Builder_WriteString.ann Tryd.f20 [.pointer a0b, .string a1s] (fun v H' => xT [.one (.int .i64), .one .raw] v fun r => R r.1 r.2.1 H') H0 = strings_Builder_WriteString.W a0b a1s R H0 := by kernel_rfl
theorem strings_Builder_WriteString.calls {a0b : Option Addr} {a1s : ByteArray} {R : Int → Value → Heap → Prop} {H0 : Heap} (h : strings_Builder_WriteString.W a0b a1s R H0) : strings_Builder_WriteString.C a0b a1s H0 R :=
  (evF_sound progOk_ Tryd.func20 (by rw [strings_Builder_WriteString.eq]; exact h)).mono fun v H' h => by obtain ⟨x, hv, hk⟩ := xT_out h; exact ⟨x.1, x.2.1, hv, hk⟩

def bits_Mul32.ann : Ann := { ord := fun _ => [], loop := fun _ => none, join := fun _ => none }
/-- math.bits.Mul32 -/
def bits_Mul32.W (a0x : Int) (a1y : Int) (R : Int → Int → Heap → Prop) (H0 : Heap) : Prop :=
  letV (IntKind.u64.wrap ((IntKind.u64.wrap a0x) * (IntKind.u64.wrap a1y))) fun tmp6 : Int => 0 ≤ (32 : Int) ∧
  letV (IntKind.u32.wrap (shrW .u64 tmp6 32)) fun hi4 : Int =>
  letV (IntKind.u32.wrap tmp6) fun lo5 : Int => R (hi4) (lo5) H0
theorem bits_Mul32.eq (a0x : Int) (a1y : Int) (R : Int → Int → Heap → Prop) (H0 : Heap) :
    evF Tryd.prog bits_Mul32.ann Tryd.f39 [.int .u32 a0x, .int .u32 a1y] (fun v H' => xT [.one (.int .u32), .one (.int .u32)] v fun r => R r.1 r.2.1 H') H0 = bits_Mul32.W a0x a1y R H0 := by kernel_rfl
theorem bits_Mul32.calls {a0x : Int} {a1y : Int} {R : Int → Int → Heap → Prop} {H0 : Heap} (h : bits_Mul32.W a0x a1y R H0) : bits_Mul32.C a0x a1y H0 R :=
  (evF_sound progOk_ Tryd.func39 (by rw [bits_Mul32.eq]; exact h)).mono fun v H' h => by obtain ⟨x, hv, hk⟩ := xT_out h; exact ⟨x.1, x.2.1, hv, hk⟩

def bits_Mul64.ann : Ann := { ord := fun _ => [], loop := fun _ => none, join := fun _ => none }
/-- math.bits.Mul64 -/
def bits_Mul64.W (a0x : Int) (a1y : Int) (R : Int → Int → Heap → Prop) (H0 : Heap) : Prop :=
  letV (andW .u64 a0x 4294967295) fun x06 : Int => 0 ≤ (32 : Int) ∧
  letV (shrW .u64 a0x 32) fun x17 : Int =>
  letV (andW .u64 a1y 4294967295) fun y08 : Int => 0 ≤ (32 : Int) ∧
  letV (shrW .u64 a1y 32) fun y19 : Int =>
  letV (IntKind.u64.wrap (x06 * y08)) fun w010 : Int => 0 ≤ (32 : Int) ∧
  letV (IntKind.u64.wrap ((IntKind.u64.wrap (x17 * y08)) + (shrW .u64 w010 32))) fun t11 : Int =>
  letV (andW .u64 t11 4294967295) fun w112 : Int => 0 ≤ (32 : Int) ∧
  letV (shrW .u64 t11 32) fun w213 : Int =>
  letV (IntKind.u64.wrap (w112 + (IntKind.u64.wrap (x06 * y19)))) fun w112 : Int => 0 ≤ (32 : Int) ∧
  letV (IntKind.u64.wrap ((IntKind.u64.wrap ((IntKind.u64.wrap (x17 * y19)) + w213)) + (shrW .u64 w112 32))) fun hi4 : Int =>
  letV (IntKind.u64.wrap (a0x * a1y)) fun lo5 : Int => R (hi4) (lo5) H0
theorem bits_Mul64.eq (a0x : Int) (a1y : Int) (R : Int → Int → Heap → Prop) (H0 : Heap) :
    evF Tryd.prog bits_Mul64.ann Tryd.f40 [.int .u64 a0x, .int .u64 a1y] (fun v H' => xT [.one (.int .u64), .one (.int .u64)] v fun r => R r.1 r.2.1 H') H0 = bits_Mul64.W a0x a1y R H0 := by kernel_rfl
theorem bits_Mul64.calls {a0x : Int} {a1y : Int} {R : Int → Int → Heap → Prop} {H0 : Heap} (h : bits_Mul64.W a0x a1y R H0) : bits_Mul64.C a0x a1y H0 R :=
  (evF_sound progOk_ Tryd.func40 (by rw [bits_Mul64.eq]; exact h)).mono fun v H' h => by obtain ⟨x, hv, hk⟩ := xT_out h; exact ⟨x.1, x.2.1, hv, hk⟩

def bits_Mul.ann : Ann := { ord := fun _ => [], loop := fun _ => none, join := fun _ => none }
/-- math.bits.Mul -/
def bits_Mul.W (a0x : Int) (a1y : Int) (R : Int → Int → Heap → Prop) (H0 : Heap) : Prop :=
  bits_Mul64.C (a0x) (a1y) H0 fun x25_0 x25_1 H1 => R (x25_0) (x25_1) H1
theorem bits_Mul.eq (a0x : Int) (a1y : Int) (R : Int → Int → Heap → Prop) (H0 : Heap) :
    evF Tryd.prog bits_Mul.ann Tryd.f27 [.int .u64 a0x, .int .u64 a1y] (fun v H' => xT [.one (.int .u64), .one (.int .u64)] v fun r => R r.1 r.2.1 H') H0 = bits_Mul.W a0x a1y R H0 := by kernel_rfl
theorem bits_Mul.calls {a0x : Int} {a1y : Int} {R : Int → Int → Heap → Prop} {H0 : Heap} (h : bits_Mul.W a0x a1y R H0) : bits_Mul.C a0x a1y H0 R :=
  (evF_sound progOk_ Tryd.func27 (by rw [bits_Mul.eq]; exact h)).mono fun v H' h => by obtain ⟨x, hv, hk⟩ := xT_out h; exact ⟨x.1, x.2.1, hv, hk⟩

def stringslite_HasPrefix.ann : Ann := { ord := fun _ => [], loop := fun _ => none, join := fun _ => none }
/-- internal.stringslite.HasPrefix -/
def stringslite_HasPrefix.W (a0s : ByteArray) (a1prefix : ByteArray) (R : Bool → Heap → Prop) (H0 : Heap) : Prop :=
  brW (decide ((a1prefix.size : Int) ≤ (a0s.size : Int))) (0 ≤ (a1prefix.size : Int) ∧ (a1prefix.size : Int) ≤ (a0s.size : Int) ∧ R (decide (a0s.extract 0 ((a1prefix.size : Int).toNat) = a1prefix)) H0) (R false H0)
theorem stringslite_HasPrefix.eq (a0s : ByteArray) (a1prefix : ByteArray) (R : Bool → Heap → Prop) (H0 : Heap) :
    evF Tryd.prog stringslite_HasPrefix.ann Tryd.f41 [.string a0s, .string a1prefix] (fun v H' => xS (.one .bool) v fun r => R r H') H0 = stringslite_HasPrefix.W a0s a1prefix R H0 := by kernel_rfl
theorem stringslite_HasPrefix.calls {a0s : ByteArray} {a1prefix : ByteArray} {R : Bool → Heap → Prop} {H0 : Heap} (h : stringslite_HasPrefix.W a0s a1prefix R H0) : stringslite_HasPrefix.C a0s a1prefix H0 R :=
  (evF_sound progOk_ Tryd.func41 (by rw [stringslite_HasPrefix.eq]; exact h)).mono fun v H' h => by obtain ⟨x, hv, hk⟩ := xS_out h; exact ⟨x, hv, hk⟩

def strings_HasPrefix.ann : Ann := { ord := fun _ => [], loop := fun _ => none, join := fun _ => none }
/-- strings.HasPrefix -/
def strings_HasPrefix.W (a0s : ByteArray) (a1prefix : ByteArray) (R : Bool → Heap → Prop) (H0 : Heap) : Prop :=
  stringslite_HasPrefix.C a0s a1prefix H0 fun x7 H1 => R (x7) H1
theorem strings_HasPrefix.eq (a0s : ByteArray) (a1prefix : ByteArray) (R : Bool → Heap → Prop) (H0 : Heap) :
    evF Tryd.prog strings_HasPrefix.ann Tryd.f28 [.string a0s, .string a1prefix] (fun v H' => xS (.one .bool) v fun r => R r H') H0 = strings_HasPrefix.W a0s a1prefix R H0 := by kernel_rfl
theorem strings_HasPrefix.calls {a0s : ByteArray} {a1prefix : ByteArray} {R : Bool → Heap → Prop} {H0 : Heap} (h : strings_HasPrefix.W a0s a1prefix R H0) : strings_HasPrefix.C a0s a1prefix H0 R :=
  (evF_sound progOk_ Tryd.func28 (by rw [strings_HasPrefix.eq]; exact h)).mono fun v H' h => by obtain ⟨x, hv, hk⟩ := xS_out h; exact ⟨x, hv, hk⟩

def strings_Builder_Grow.ann : Ann := { ord := fun i => bif Nat.beq i 3 then [0, 1, 2, 3, 4, 5, 6, 7, 8, 9, 10, 11, 12] else [], loop := fun _ => none, join := fun i => bif Nat.beq i 3 then some [] else none }
/-- (*strings.Builder).Grow -/
def strings_Builder_Grow.W (a0b : Option Addr) (a1n : Int) (R : Heap → Prop) (H0 : Heap) : Prop :=
  strings_Builder_copyCheck.C (a0b) H0 fun H1 => 
  JoinW (S := Unit) (fun J3 =>
  brW (decide (a1n < 0)) (False) (J3 () H1))
  (fun _ H2 =>
  ∃ x10 : Addr, a0b = some x10 ∧
  ∃ (x12_p : Option Addr) (x12_l x12_c : Nat), hcell H2 (x10.add 1) = some (.slice x12_p x12_l x12_c) ∧
  ∃ x15 : Addr, a0b = some x15 ∧
  ∃ (x17_p : Option Addr) (x17_l x17_c : Nat), hcell H2 (x15.add 1) = some (.slice x17_p x17_l x17_c) ∧
  brW (decide ((IntKind.i64.wrap ((x12_c : Int) - (x17_l : Int))) < a1n)) (strings_Builder_grow.C (a0b) (a1n) H2 fun H3 => R H3) (R H2))
theorem strings_Builder_Grow.eq (a0b : Option Addr) (a1n : Int) (R : Heap → Prop) (H0 : Heap) :
    evF Tryd.prog strings_Builder_Grow.ann Tryd.f29 [.pointer a0b, .int .i64 a1n] (fun v H' => xT [] v fun _ => R H') H0 = strings_Builder_Grow.W a0b a1n R H0 := by kernel_rfl
theorem strings_Builder_Grow.calls {a0b : Option Addr} {a1n : Int} {R : Heap → Prop} {H0 : Heap} (h : strings_Builder_Grow.W a0b a1n R H0) : strings_Builder_Grow.C a0b a1n H0 R :=
  (evF_sound progOk_ Tryd.func29 (by rw [strings_Builder_Grow.eq]; exact h)).mono fun v H' h => by obtain ⟨x, hv, hk⟩ := xT_out h; exact ⟨hv, hk⟩

def strings_Builder_Len.ann : Ann := { ord := fun _ => [], loop := fun _ => none, join := fun _ => none }
/-- (*strings.Builder).Len -/
def strings_Builder_Len.W (a0b : Option Addr) (R : Int → Heap → Prop) (H0 : Heap) : Prop :=
  ∃ x4 : Addr, a0b = some x4 ∧
  ∃ (x6_p : Option Addr) (x6_l x6_c : Nat), hcell H0 (x4.add 1) = some (.slice x6_p x6_l x6_c) ∧
  letV ((x6_l : Int)) fun x2 : Int => R (x2) H0
theorem strings_Builder_Len.eq (a0b : Option Addr) (R : Int → Heap → Prop) (H0 : Heap) :
    evF Tryd.prog strings_Builder_Len.ann Tryd.f30 [.pointer a0b] (fun v H' => xS (.one (.int .i64)) v fun r => R r H') H0 = strings_Builder_Len.W a0b R H0 := by kernel_rfl
theorem strings_Builder_Len.calls {a0b : Option Addr} {R : Int → Heap → Prop} {H0 : Heap} (h : strings_Builder_Len.W a0b R H0) : strings_Builder_Len.C a0b H0 R :=
  (evF_sound progOk_ Tryd.func30 (by rw [strings_Builder_Len.eq]; exact h)).mono fun v H' h => by obtain ⟨x, hv, hk⟩ := xS_out h; exact ⟨x, hv, hk⟩

def strings_Repeat.ann : Ann := { ord := fun _ => [], loop := fun i => bif Nat.beq i 38 then some [] else none, join := fun i => bif Nat.beq i 8 then some [] else bif Nat.beq i 10 then some [(34, .one .bool)] else bif Nat.beq i 11 then some [] else bif Nat.beq i 20 then some [(43, .one .bool)] else bif Nat.beq i 21 then some [(49, .one .bool)] else bif Nat.beq i 23 then some [(58, .one .bool)] else bif Nat.beq i 25 then some [(67, .one .bool)] else bif Nat.beq i 27 then some [(76, .one .bool)] else bif Nat.beq i 29 then some [(85, .one .bool)] else bif Nat.beq i 30 then some [] else bif Nat.beq i 35 then some [(8, .one (.int .i64))] else bif Nat.beq i 41 then some [] else none }
/-- strings.Repeat -/
def strings_Repeat.W (a0s : ByteArray) (a1count : Int) (R : ByteArray → Heap → Prop) (H0 : Heap) : Prop :=
  brW (decide (a1count = 0)) (R (⟨#[]⟩ : ByteArray) H0) (brW (decide (a1count = 1)) (R a0s H0) (
  JoinW (S := Unit) (fun J8 =>
  brW (decide (a1count < 0)) (False) (J8 () H0))
  (fun _ H1 =>
  bits_Mul.C (IntKind.u64.wrap (a0s.size : Int)) (IntKind.u64.wrap a1count) H1 fun x26_0 x26_1 H2 => 
  JoinW (S := Unit) (fun J11 => 
  JoinW (S := (Bool × Unit)) (fun J10 =>
  brW (decide ((0 : Int) < x26_0)) (J10 (true, ()) H2) (J10 (decide ((9223372036854775807 : Int) < x26_1), ()) H2))
  (fun s10 H4 => (fun (x34 : Bool) =>
  brW x34 (False) (J11 () H4)) s10.1))
  (fun _ H3 =>
  letV (IntKind.i64.wrap x26_1) fun n7 : Int =>
  brW (decide ((a0s.size : Int) = 0)) (R (⟨#[]⟩ : ByteArray) H3) (
  JoinW (S := Unit) (fun J30 => 0 ≤ (0 : Int) ∧ (0 : Int) < (a0s.size : Int) ∧ 
  JoinW (S := (Bool × Unit)) (fun J20 =>
  brW (decide ((bt a0s (0 : Int)) = 32)) (J20 (decide ((bt a0s (0 : Int)) = 32), ()) H3) (brW (decide ((bt a0s (0 : Int)) = 45)) (J20 (decide ((bt a0s (0 : Int)) = 45), ()) H3) (brW (decide ((bt a0s (0 : Int)) = 48)) (J20 (decide ((bt a0s (0 : Int)) = 48), ()) H3) (brW (decide ((bt a0s (0 : Int)) = 61)) (J20 (decide ((bt a0s (0 : Int)) = 61), ()) H3) (J20 (decide ((bt a0s (0 : Int)) = 9), ()) H3)))))
  (fun s20 H6 => (fun (x43 : Bool) =>
  brW x43 (
  JoinW (S := (Bool × Unit)) (fun J21 =>
  brW (decide (n7 ≤ 128)) (strings_HasPrefix.C (⟨#[32, 32, 32, 32, 32, 32, 32, 32, 32, 32, 32, 32, 32, 32, 32, 32, 32, 32, 32, 32, 32, 32, 32, 32, 32, 32, 32, 32, 32, 32, 32, 32, 32, 32, 32, 32, 32, 32, 32, 32, 32, 32, 32, 32, 32, 32, 32, 32, 32, 32, 32, 32, 32, 32, 32, 32, 32, 32, 32, 32, 32, 32, 32, 32, 32, 32, 32, 32, 32, 32, 32, 32, 32, 32, 32, 32, 32, 32, 32, 32, 32, 32, 32, 32, 32, 32, 32, 32, 32, 32, 32, 32, 32, 32, 32, 32, 32, 32, 32, 32, 32, 32, 32, 32, 32, 32, 32, 32, 32, 32, 32, 32, 32, 32, 32, 32, 32, 32, 32, 32, 32, 32, 32, 32, 32, 32, 32, 32]⟩ : ByteArray) a0s H6 fun x54 H8 => J21 (x54, ()) H8) (J21 (false, ()) H6))
  (fun s21 H7 => (fun (x49 : Bool) =>
  brW x49 (0 ≤ n7 ∧ n7 ≤ ((⟨#[32, 32, 32, 32, 32, 32, 32, 32, 32, 32, 32, 32, 32, 32, 32, 32, 32, 32, 32, 32, 32, 32, 32, 32, 32, 32, 32, 32, 32, 32, 32, 32, 32, 32, 32, 32, 32, 32, 32, 32, 32, 32, 32, 32, 32, 32, 32, 32, 32, 32, 32, 32, 32, 32, 32, 32, 32, 32, 32, 32, 32, 32, 32, 32, 32, 32, 32, 32, 32, 32, 32, 32, 32, 32, 32, 32, 32, 32, 32, 32, 32, 32, 32, 32, 32, 32, 32, 32, 32, 32, 32, 32, 32, 32, 32, 32, 32, 32, 32, 32, 32, 32, 32, 32, 32, 32, 32, 32, 32, 32, 32, 32, 32, 32, 32, 32, 32, 32, 32, 32, 32, 32, 32, 32, 32, 32, 32, 32]⟩ : ByteArray).size : Int) ∧ R ((⟨#[32, 32, 32, 32, 32, 32, 32, 32, 32, 32, 32, 32, 32, 32, 32, 32, 32, 32, 32, 32, 32, 32, 32, 32, 32, 32, 32, 32, 32, 32, 32, 32, 32, 32, 32, 32, 32, 32, 32, 32, 32, 32, 32, 32, 32, 32, 32, 32, 32, 32, 32, 32, 32, 32, 32, 32, 32, 32, 32, 32, 32, 32, 32, 32, 32, 32, 32, 32, 32, 32, 32, 32, 32, 32, 32, 32, 32, 32, 32, 32, 32, 32, 32, 32, 32, 32, 32, 32, 32, 32, 32, 32, 32, 32, 32, 32, 32, 32, 32, 32, 32, 32, 32, 32, 32, 32, 32, 32, 32, 32, 32, 32, 32, 32, 32, 32, 32, 32, 32, 32, 32, 32, 32, 32, 32, 32, 32, 32]⟩ : ByteArray).extract 0 n7.toNat) H7) (
  JoinW (S := (Bool × Unit)) (fun J23 =>
  brW (decide (n7 ≤ 128)) (strings_HasPrefix.C (⟨#[45, 45, 45, 45, 45, 45, 45, 45, 45, 45, 45, 45, 45, 45, 45, 45, 45, 45, 45, 45, 45, 45, 45, 45, 45, 45, 45, 45, 45, 45, 45, 45, 45, 45, 45, 45, 45, 45, 45, 45, 45, 45, 45, 45, 45, 45, 45, 45, 45, 45, 45, 45, 45, 45, 45, 45, 45, 45, 45, 45, 45, 45, 45, 45, 45, 45, 45, 45, 45, 45, 45, 45, 45, 45, 45, 45, 45, 45, 45, 45, 45, 45, 45, 45, 45, 45, 45, 45, 45, 45, 45, 45, 45, 45, 45, 45, 45, 45, 45, 45, 45, 45, 45, 45, 45, 45, 45, 45, 45, 45, 45, 45, 45, 45, 45, 45, 45, 45, 45, 45, 45, 45, 45, 45, 45, 45, 45, 45]⟩ : ByteArray) a0s H7 fun x63 H10 => J23 (x63, ()) H10) (J23 (false, ()) H7))
  (fun s23 H9 => (fun (x58 : Bool) =>
  brW x58 (0 ≤ n7 ∧ n7 ≤ ((⟨#[45, 45, 45, 45, 45, 45, 45, 45, 45, 45, 45, 45, 45, 45, 45, 45, 45, 45, 45, 45, 45, 45, 45, 45, 45, 45, 45, 45, 45, 45, 45, 45, 45, 45, 45, 45, 45, 45, 45, 45, 45, 45, 45, 45, 45, 45, 45, 45, 45, 45, 45, 45, 45, 45, 45, 45, 45, 45, 45, 45, 45, 45, 45, 45, 45, 45, 45, 45, 45, 45, 45, 45, 45, 45, 45, 45, 45, 45, 45, 45, 45, 45, 45, 45, 45, 45, 45, 45, 45, 45, 45, 45, 45, 45, 45, 45, 45, 45, 45, 45, 45, 45, 45, 45, 45, 45, 45, 45, 45, 45, 45, 45, 45, 45, 45, 45, 45, 45, 45, 45, 45, 45, 45, 45, 45, 45, 45, 45]⟩ : ByteArray).size : Int) ∧ R ((⟨#[45, 45, 45, 45, 45, 45, 45, 45, 45, 45, 45, 45, 45, 45, 45, 45, 45, 45, 45, 45, 45, 45, 45, 45, 45, 45, 45, 45, 45, 45, 45, 45, 45, 45, 45, 45, 45, 45, 45, 45, 45, 45, 45, 45, 45, 45, 45, 45, 45, 45, 45, 45, 45, 45, 45, 45, 45, 45, 45, 45, 45, 45, 45, 45, 45, 45, 45, 45, 45, 45, 45, 45, 45, 45, 45, 45, 45, 45, 45, 45, 45, 45, 45, 45, 45, 45, 45, 45, 45, 45, 45, 45, 45, 45, 45, 45, 45, 45, 45, 45, 45, 45, 45, 45, 45, 45, 45, 45, 45, 45, 45, 45, 45, 45, 45, 45, 45, 45, 45, 45, 45, 45, 45, 45, 45, 45, 45, 45]⟩ : ByteArray).extract 0 n7.toNat) H9) (
  JoinW (S := (Bool × Unit)) (fun J25 =>
  brW (decide (n7 ≤ 64)) (strings_HasPrefix.C (⟨#[48, 48, 48, 48, 48, 48, 48, 48, 48, 48, 48, 48, 48, 48, 48, 48, 48, 48, 48, 48, 48, 48, 48, 48, 48, 48, 48, 48, 48, 48, 48, 48, 48, 48, 48, 48, 48, 48, 48, 48, 48, 48, 48, 48, 48, 48, 48, 48, 48, 48, 48, 48, 48, 48, 48, 48, 48, 48, 48, 48, 48, 48, 48, 48]⟩ : ByteArray) a0s H9 fun x72 H12 => J25 (x72, ()) H12) (J25 (false, ()) H9))
  (fun s25 H11 => (fun (x67 : Bool) =>
  brW x67 (0 ≤ n7 ∧ n7 ≤ ((⟨#[48, 48, 48, 48, 48, 48, 48, 48, 48, 48, 48, 48, 48, 48, 48, 48, 48, 48, 48, 48, 48, 48, 48, 48, 48, 48, 48, 48, 48, 48, 48, 48, 48, 48, 48, 48, 48, 48, 48, 48, 48, 48, 48, 48, 48, 48, 48, 48, 48, 48, 48, 48, 48, 48, 48, 48, 48, 48, 48, 48, 48, 48, 48, 48]⟩ : ByteArray).size : Int) ∧ R ((⟨#[48, 48, 48, 48, 48, 48, 48, 48, 48, 48, 48, 48, 48, 48, 48, 48, 48, 48, 48, 48, 48, 48, 48, 48, 48, 48, 48, 48, 48, 48, 48, 48, 48, 48, 48, 48, 48, 48, 48, 48, 48, 48, 48, 48, 48, 48, 48, 48, 48, 48, 48, 48, 48, 48, 48, 48, 48, 48, 48, 48, 48, 48, 48, 48]⟩ : ByteArray).extract 0 n7.toNat) H11) (
  JoinW (S := (Bool × Unit)) (fun J27 =>
  brW (decide (n7 ≤ 128)) (strings_HasPrefix.C (⟨#[61, 61, 61, 61, 61, 61, 61, 61, 61, 61, 61, 61, 61, 61, 61, 61, 61, 61, 61, 61, 61, 61, 61, 61, 61, 61, 61, 61, 61, 61, 61, 61, 61, 61, 61, 61, 61, 61, 61, 61, 61, 61, 61, 61, 61, 61, 61, 61, 61, 61, 61, 61, 61, 61, 61, 61, 61, 61, 61, 61, 61, 61, 61, 61, 61, 61, 61, 61, 61, 61, 61, 61, 61, 61, 61, 61, 61, 61, 61, 61, 61, 61, 61, 61, 61, 61, 61, 61, 61, 61, 61, 61, 61, 61, 61, 61, 61, 61, 61, 61, 61, 61, 61, 61, 61, 61, 61, 61, 61, 61, 61, 61, 61, 61, 61, 61, 61, 61, 61, 61, 61, 61, 61, 61, 61, 61, 61, 61]⟩ : ByteArray) a0s H11 fun x81 H14 => J27 (x81, ()) H14) (J27 (false, ()) H11))
  (fun s27 H13 => (fun (x76 : Bool) =>
  brW x76 (0 ≤ n7 ∧ n7 ≤ ((⟨#[61, 61, 61, 61, 61, 61, 61, 61, 61, 61, 61, 61, 61, 61, 61, 61, 61, 61, 61, 61, 61, 61, 61, 61, 61, 61, 61, 61, 61, 61, 61, 61, 61, 61, 61, 61, 61, 61, 61, 61, 61, 61, 61, 61, 61, 61, 61, 61, 61, 61, 61, 61, 61, 61, 61, 61, 61, 61, 61, 61, 61, 61, 61, 61, 61, 61, 61, 61, 61, 61, 61, 61, 61, 61, 61, 61, 61, 61, 61, 61, 61, 61, 61, 61, 61, 61, 61, 61, 61, 61, 61, 61, 61, 61, 61, 61, 61, 61, 61, 61, 61, 61, 61, 61, 61, 61, 61, 61, 61, 61, 61, 61, 61, 61, 61, 61, 61, 61, 61, 61, 61, 61, 61, 61, 61, 61, 61, 61]⟩ : ByteArray).size : Int) ∧ R ((⟨#[61, 61, 61, 61, 61, 61, 61, 61, 61, 61, 61, 61, 61, 61, 61, 61, 61, 61, 61, 61, 61, 61, 61, 61, 61, 61, 61, 61, 61, 61, 61, 61, 61, 61, 61, 61, 61, 61, 61, 61, 61, 61, 61, 61, 61, 61, 61, 61, 61, 61, 61, 61, 61, 61, 61, 61, 61, 61, 61, 61, 61, 61, 61, 61, 61, 61, 61, 61, 61, 61, 61, 61, 61, 61, 61, 61, 61, 61, 61, 61, 61, 61, 61, 61, 61, 61, 61, 61, 61, 61, 61, 61, 61, 61, 61, 61, 61, 61, 61, 61, 61, 61, 61, 61, 61, 61, 61, 61, 61, 61, 61, 61, 61, 61, 61, 61, 61, 61, 61, 61, 61, 61, 61, 61, 61, 61, 61, 61]⟩ : ByteArray).extract 0 n7.toNat) H13) (
  JoinW (S := (Bool × Unit)) (fun J29 =>
  brW (decide (n7 ≤ 64)) (strings_HasPrefix.C (⟨#[9, 9, 9, 9, 9, 9, 9, 9, 9, 9, 9, 9, 9, 9, 9, 9, 9, 9, 9, 9, 9, 9, 9, 9, 9, 9, 9, 9, 9, 9, 9, 9, 9, 9, 9, 9, 9, 9, 9, 9, 9, 9, 9, 9, 9, 9, 9, 9, 9, 9, 9, 9, 9, 9, 9, 9, 9, 9, 9, 9, 9, 9, 9, 9]⟩ : ByteArray) a0s H13 fun x90 H16 => J29 (x90, ()) H16) (J29 (false, ()) H13))
  (fun s29 H15 => (fun (x85 : Bool) =>
  brW x85 (0 ≤ n7 ∧ n7 ≤ ((⟨#[9, 9, 9, 9, 9, 9, 9, 9, 9, 9, 9, 9, 9, 9, 9, 9, 9, 9, 9, 9, 9, 9, 9, 9, 9, 9, 9, 9, 9, 9, 9, 9, 9, 9, 9, 9, 9, 9, 9, 9, 9, 9, 9, 9, 9, 9, 9, 9, 9, 9, 9, 9, 9, 9, 9, 9, 9, 9, 9, 9, 9, 9, 9, 9]⟩ : ByteArray).size : Int) ∧ R ((⟨#[9, 9, 9, 9, 9, 9, 9, 9, 9, 9, 9, 9, 9, 9, 9, 9, 9, 9, 9, 9, 9, 9, 9, 9, 9, 9, 9, 9, 9, 9, 9, 9, 9, 9, 9, 9, 9, 9, 9, 9, 9, 9, 9, 9, 9, 9, 9, 9, 9, 9, 9, 9, 9, 9, 9, 9, 9, 9, 9, 9, 9, 9, 9, 9]⟩ : ByteArray).extract 0 n7.toNat) H15) (J30 () H15)) s29.1))) s27.1))) s25.1))) s23.1))) s21.1)) (J30 () H6)) s20.1))
  (fun _ H5 => 
  JoinW (S := (Int × Unit)) (fun J35 =>
  brW (decide ((8192 : Int) < n7)) ((a0s.size : Int) ≠ 0 ∧
  letV (IntKind.i64.wrap ((IntKind.i64.wrap (Int.tdiv 8192 (a0s.size : Int))) * (a0s.size : Int))) fun chunkMax8 : Int =>
  brW (decide (chunkMax8 = 0)) (letV ((a0s.size : Int)) fun chunkMax8b : Int => J35 ((chunkMax8b : Int), ()) H5) (J35 ((chunkMax8 : Int), ()) H5)) (J35 ((n7 : Int), ()) H5))
  (fun s35 H17 => (fun (chunkMax8 : Int) =>
  letV (hnew H17 #[.pointer none, .slice none 0 0] ty_strings_Builder) fun H18 : Heap =>
  strings_Builder_Grow.C (some ⟨Array.size H17, 0, none⟩) (n7) H18 fun H19 =>
  strings_Builder_WriteString.C (some ⟨Array.size H17, 0, none⟩) a0s H19 fun x110_0 x110_1 H20 => 
  JoinW (S := Unit) (fun J41 => 
  LoopW (S := Unit) (fun L38 _ H22 =>
  strings_Builder_Len.C (some ⟨Array.size H17, 0, none⟩) H22 fun x111 H23 =>
  brW (decide (x111 < n7)) (strings_Builder_Len.C (some ⟨Array.size H17, 0, none⟩) H23 fun x115 H24 =>
  strings_Builder_Len.C (some ⟨Array.size H17, 0, none⟩) H24 fun x117 H25 =>
  letV (min (min (IntKind.i64.wrap (n7 - x115)) x117) chunkMax8) fun chunk10 : Int =>
  strings_Builder_String.C (some ⟨Array.size H17, 0, none⟩) H25 fun x120 H26 => 0 ≤ chunk10 ∧ chunk10 ≤ (x120.size : Int) ∧ strings_Builder_WriteString.C (some ⟨Array.size H17, 0, none⟩) (x120.extract 0 chunk10.toNat) H26 fun x123_0 x123_1 H27 => L38 () H27) (J41 () H23)) () H20)
  (fun _ H21 =>
  strings_Builder_String.C (some ⟨Array.size H17, 0, none⟩) H21 fun x124 H28 => R x124 H28)) s35.1)))))))
theorem strings_Repeat.eq (a0s : ByteArray) (a1count : Int) (R : ByteArray → Heap → Prop) (H0 : Heap) :
    evF Tryd.prog strings_Repeat.ann Tryd.f16 [.string a0s, .int .i64 a1count] (fun v H' => xS (.one .str) v fun r => R r H') H0 = strings_Repeat.W a0s a1count R H0 := by kernel_rfl
theorem strings_Repeat.calls {a0s : ByteArray} {a1count : Int} {R : ByteArray → Heap → Prop} {H0 : Heap} (h : strings_Repeat.W a0s a1count R H0) : strings_Repeat.C a0s a1count H0 R :=
  (evF_sound progOk_ Tryd.func16 (by rw [strings_Repeat.eq]; exact h)).mono fun v H' h => by obtain ⟨x, hv, hk⟩ := xS_out h; exact ⟨x, hv, hk⟩

def strconv_small.ann : Ann := { ord := fun _ => [], loop := fun _ => none, join := fun _ => none }
/-- internal.strconv.small -/
def strconv_small.W (a0i : Int) (R : ByteArray → Heap → Prop) (H0 : Heap) : Prop :=
  brW (decide (a0i < 10)) (0 ≤ IntKind.i64.wrap (a0i + 1) ∧ IntKind.i64.wrap (a0i + 1) ≤ ((⟨#[48, 49, 50, 51, 52, 53, 54, 55, 56, 57, 97, 98, 99, 100, 101, 102, 103, 104, 105, 106, 107, 108, 109, 110, 111, 112, 113, 114, 115, 116, 117, 118, 119, 120, 121, 122]⟩ : ByteArray).size : Int) ∧ 0 ≤ a0i ∧ a0i ≤ ((IntKind.i64.wrap (a0i + 1)).toNat : Int) ∧ R ((⟨#[48, 49, 50, 51, 52, 53, 54, 55, 56, 57, 97, 98, 99, 100, 101, 102, 103, 104, 105, 106, 107, 108, 109, 110, 111, 112, 113, 114, 115, 116, 117, 118, 119, 120, 121, 122]⟩ : ByteArray).extract a0i.toNat ((IntKind.i64.wrap (a0i + 1)).toNat)) H0) (0 ≤ IntKind.i64.wrap ((IntKind.i64.wrap (a0i * 2)) + 2) ∧ IntKind.i64.wrap ((IntKind.i64.wrap (a0i * 2)) + 2) ≤ ((⟨#[48, 48, 48, 49, 48, 50, 48, 51, 48, 52, 48, 53, 48, 54, 48, 55, 48, 56, 48, 57, 49, 48, 49, 49, 49, 50, 49, 51, 49, 52, 49, 53, 49, 54, 49, 55, 49, 56, 49, 57, 50, 48, 50, 49, 50, 50, 50, 51, 50, 52, 50, 53, 50, 54, 50, 55, 50, 56, 50, 57, 51, 48, 51, 49, 51, 50, 51, 51, 51, 52, 51, 53, 51, 54, 51, 55, 51, 56, 51, 57, 52, 48, 52, 49, 52, 50, 52, 51, 52, 52, 52, 53, 52, 54, 52, 55, 52, 56, 52, 57, 53, 48, 53, 49, 53, 50, 53, 51, 53, 52, 53, 53, 53, 54, 53, 55, 53, 56, 53, 57, 54, 48, 54, 49, 54, 50, 54, 51, 54, 52, 54, 53, 54, 54, 54, 55, 54, 56, 54, 57, 55, 48, 55, 49, 55, 50, 55, 51, 55, 52, 55, 53, 55, 54, 55, 55, 55, 56, 55, 57, 56, 48, 56, 49, 56, 50, 56, 51, 56, 52, 56, 53, 56, 54, 56, 55, 56, 56, 56, 57, 57, 48, 57, 49, 57, 50, 57, 51, 57, 52, 57, 53, 57, 54, 57, 55, 57, 56, 57, 57]⟩ : ByteArray).size : Int) ∧ 0 ≤ IntKind.i64.wrap (a0i * 2) ∧ IntKind.i64.wrap (a0i * 2) ≤ ((IntKind.i64.wrap ((IntKind.i64.wrap (a0i * 2)) + 2)).toNat : Int) ∧ R ((⟨#[48, 48, 48, 49, 48, 50, 48, 51, 48, 52, 48, 53, 48, 54, 48, 55, 48, 56, 48, 57, 49, 48, 49, 49, 49, 50, 49, 51, 49, 52, 49, 53, 49, 54, 49, 55, 49, 56, 49, 57, 50, 48, 50, 49, 50, 50, 50, 51, 50, 52, 50, 53, 50, 54, 50, 55, 50, 56, 50, 57, 51, 48, 51, 49, 51, 50, 51, 51, 51, 52, 51, 53, 51, 54, 51, 55, 51, 56, 51, 57, 52, 48, 52, 49, 52, 50, 52, 51, 52, 52, 52, 53, 52, 54, 52, 55, 52, 56, 52, 57, 53, 48, 53, 49, 53, 50, 53, 51, 53, 52, 53, 53, 53, 54, 53, 55, 53, 56, 53, 57, 54, 48, 54, 49, 54, 50, 54, 51, 54, 52, 54, 53, 54, 54, 54, 55, 54, 56, 54, 57, 55, 48, 55, 49, 55, 50, 55, 51, 55, 52, 55, 53, 55, 54, 55, 55, 55, 56, 55, 57, 56, 48, 56, 49, 56, 50, 56, 51, 56, 52, 56, 53, 56, 54, 56, 55, 56, 56, 56, 57, 57, 48, 57, 49, 57, 50, 57, 51, 57, 52, 57, 53, 57, 54, 57, 55, 57, 56, 57, 57]⟩ : ByteArray).extract ((IntKind.i64.wrap (a0i * 2)).toNat) ((IntKind.i64.wrap ((IntKind.i64.wrap (a0i * 2)) + 2)).toNat)) H0)
theorem strconv_small.eq (a0i : Int) (R : ByteArray → Heap → Prop) (H0 : Heap) :
    evF Tryd.prog strconv_small.ann Tryd.f58 [.int .i64 a0i] (fun v H' => xS (.one .str) v fun r => R r H') H0 = strconv_small.W a0i R H0 := by kernel_rfl
theorem strconv_small.calls {a0i : Int} {R : ByteArray → Heap → Prop} {H0 : Heap} (h : strconv_small.W a0i R H0) : strconv_small.C a0i H0 R :=
  (evF_sound progOk_ Tryd.func58 (by rw [strconv_small.eq]; exact h)).mono fun v H' h => by obtain ⟨x, hv, hk⟩ := xS_out h; exact ⟨x, hv, hk⟩

def strconv_log10Pow2.ann : Ann := { ord := fun _ => [], loop := fun _ => none, join := fun _ => none }
/-- internal.strconv.log10Pow2 -/
def strconv_log10Pow2.W (a0x : Int) (R : Int → Heap → Prop) (H0 : Heap) : Prop :=
  0 ≤ (18 : Int) ∧
  letV (shrW .i64 (IntKind.i64.wrap (a0x * 78913)) 18) fun x2 : Int => R (x2) H0
theorem strconv_log10Pow2.eq (a0x : Int) (R : Int → Heap → Prop) (H0 : Heap) :
    evF Tryd.prog strconv_log10Pow2.ann Tryd.f64 [.int .i64 a0x] (fun v H' => xS (.one (.int .i64)) v fun r => R r H') H0 = strconv_log10Pow2.W a0x R H0 := by kernel_rfl
theorem strconv_log10Pow2.calls {a0x : Int} {R : Int → Heap → Prop} {H0 : Heap} (h : strconv_log10Pow2.W a0x R H0) : strconv_log10Pow2.C a0x H0 R :=
  (evF_sound progOk_ Tryd.func64 (by rw [strconv_log10Pow2.eq]; exact h)).mono fun v H' h => by obtain ⟨x, hv, hk⟩ := xS_out h; exact ⟨x, hv, hk⟩

def bits_Len64.ann : Ann := { ord := fun _ => [], loop := fun _ => none, join := fun i => bif Nat.beq i 4 then some [(0, .one (.int .u64)), (2, .one (.int .i64))] else bif Nat.beq i 7 then some [(0, .one (.int .u64)), (2, .one (.int .i64))] else bif Nat.beq i 10 then some [(0, .one (.int .u64)), (2, .one (.int .i64))] else none }
/-- math.bits.Len64 -/
def bits_Len64.W (a0x : Int) (R : Int → Heap → Prop) (H0 : Heap) : Prop :=
  
  JoinW (S := (Int × Int × Unit)) (fun J4 =>
  brW (decide ((4294967296 : Int) ≤ a0x)) (0 ≤ (32 : Int) ∧
  letV (shrW .u64 a0x 32) fun x0 : Int => J4 ((x0 : Int), (32 : Int), ()) H0) (J4 ((a0x : Int), (0 : Int), ()) H0))
  (fun s4 H1 => (fun (x0 : Int) (n2 : Int) => 
  JoinW (S := (Int × Int × Unit)) (fun J7 =>
  brW (decide ((65536 : Int) ≤ x0)) (0 ≤ (16 : Int) ∧
  letV (shrW .u64 x0 16) fun x0b : Int =>
  letV (IntKind.i64.wrap (n2 + 16)) fun n2 : Int => J7 ((x0b : Int), (n2 : Int), ()) H1) (J7 ((x0 : Int), (n2 : Int), ()) H1))
  (fun s7 H2 => (fun (x0 : Int) (n2 : Int) => 
  JoinW (S := (Int × Int × Unit)) (fun J10 =>
  brW (decide ((256 : Int) ≤ x0)) (0 ≤ (8 : Int) ∧
  letV (shrW .u64 x0 8) fun x0b : Int =>
  letV (IntKind.i64.wrap (n2 + 8)) fun n2 : Int => J10 ((x0b : Int), (n2 : Int), ()) H2) (J10 ((x0 : Int), (n2 : Int), ()) H2))
  (fun s10 H3 => (fun (x0 : Int) (n2 : Int) => 0 ≤ IntKind.u8.wrap x0 ∧ IntKind.u8.wrap x0 < ((⟨#[0, 1, 2, 2, 3, 3, 3, 3, 4, 4, 4, 4, 4, 4, 4, 4, 5, 5, 5, 5, 5, 5, 5, 5, 5, 5, 5, 5, 5, 5, 5, 5, 6, 6, 6, 6, 6, 6, 6, 6, 6, 6, 6, 6, 6, 6, 6, 6, 6, 6, 6, 6, 6, 6, 6, 6, 6, 6, 6, 6, 6, 6, 6, 6, 7, 7, 7, 7, 7, 7, 7, 7, 7, 7, 7, 7, 7, 7, 7, 7, 7, 7, 7, 7, 7, 7, 7, 7, 7, 7, 7, 7, 7, 7, 7, 7, 7, 7, 7, 7, 7, 7, 7, 7, 7, 7, 7, 7, 7, 7, 7, 7, 7, 7, 7, 7, 7, 7, 7, 7, 7, 7, 7, 7, 7, 7, 7, 7, 8, 8, 8, 8, 8, 8, 8, 8, 8, 8, 8, 8, 8, 8, 8, 8, 8, 8, 8, 8, 8, 8, 8, 8, 8, 8, 8, 8, 8, 8, 8, 8, 8, 8, 8, 8, 8, 8, 8, 8, 8, 8, 8, 8, 8, 8, 8, 8, 8, 8, 8, 8, 8, 8, 8, 8, 8, 8, 8, 8, 8, 8, 8, 8, 8, 8, 8, 8, 8, 8, 8, 8, 8, 8, 8, 8, 8, 8, 8, 8, 8, 8, 8, 8, 8, 8, 8, 8, 8, 8, 8, 8, 8, 8, 8, 8, 8, 8, 8, 8, 8, 8, 8, 8, 8, 8, 8, 8, 8, 8, 8, 8, 8, 8, 8, 8, 8, 8, 8, 8, 8, 8, 8, 8, 8, 8, 8, 8]⟩ : ByteArray).size : Int) ∧
  letV (IntKind.i64.wrap (n2 + (IntKind.i64.wrap (bt (⟨#[0, 1, 2, 2, 3, 3, 3, 3, 4, 4, 4, 4, 4, 4, 4, 4, 5, 5, 5, 5, 5, 5, 5, 5, 5, 5, 5, 5, 5, 5, 5, 5, 6, 6, 6, 6, 6, 6, 6, 6, 6, 6, 6, 6, 6, 6, 6, 6, 6, 6, 6, 6, 6, 6, 6, 6, 6, 6, 6, 6, 6, 6, 6, 6, 7, 7, 7, 7, 7, 7, 7, 7, 7, 7, 7, 7, 7, 7, 7, 7, 7, 7, 7, 7, 7, 7, 7, 7, 7, 7, 7, 7, 7, 7, 7, 7, 7, 7, 7, 7, 7, 7, 7, 7, 7, 7, 7, 7, 7, 7, 7, 7, 7, 7, 7, 7, 7, 7, 7, 7, 7, 7, 7, 7, 7, 7, 7, 7, 8, 8, 8, 8, 8, 8, 8, 8, 8, 8, 8, 8, 8, 8, 8, 8, 8, 8, 8, 8, 8, 8, 8, 8, 8, 8, 8, 8, 8, 8, 8, 8, 8, 8, 8, 8, 8, 8, 8, 8, 8, 8, 8, 8, 8, 8, 8, 8, 8, 8, 8, 8, 8, 8, 8, 8, 8, 8, 8, 8, 8, 8, 8, 8, 8, 8, 8, 8, 8, 8, 8, 8, 8, 8, 8, 8, 8, 8, 8, 8, 8, 8, 8, 8, 8, 8, 8, 8, 8, 8, 8, 8, 8, 8, 8, 8, 8, 8, 8, 8, 8, 8, 8, 8, 8, 8, 8, 8, 8, 8, 8, 8, 8, 8, 8, 8, 8, 8, 8, 8, 8, 8, 8, 8, 8, 8, 8, 8]⟩ : ByteArray) (IntKind.u8.wrap x0))))) fun n2 : Int => R (n2) H3) s10.1 s10.2.1)) s7.1 s7.2.1)) s4.1 s4.2.1)
theorem bits_Len64.eq (a0x : Int) (R : Int → Heap → Prop) (H0 : Heap) :
    evF Tryd.prog bits_Len64.ann Tryd.f65 [.int .u64 a0x] (fun v H' => xS (.one (.int .i64)) v fun r => R r H') H0 = bits_Len64.W a0x R H0 := by kernel_rfl
theorem bits_Len64.calls {a0x : Int} {R : Int → Heap → Prop} {H0 : Heap} (h : bits_Len64.W a0x R H0) : bits_Len64.C a0x H0 R :=
  (evF_sound progOk_ Tryd.func65 (by rw [bits_Len64.eq]; exact h)).mono fun v H' h => by obtain ⟨x, hv, hk⟩ := xS_out h; exact ⟨x, hv, hk⟩

def strconv_bool2_int.ann : Ann := { ord := fun _ => [], loop := fun _ => none, join := fun _ => none }
/-- internal.strconv.bool2[int] -/
def strconv_bool2_int.W (a0b : Bool) (R : Int → Heap → Prop) (H0 : Heap) : Prop :=
  brW a0b (R (1) H0) (R (0) H0)
theorem strconv_bool2_int.eq (a0b : Bool) (R : Int → Heap → Prop) (H0 : Heap) :
    evF Tryd.prog strconv_bool2_int.ann Tryd.f66 [.bool a0b] (fun v H' => xS (.one (.int .i64)) v fun r => R r H') H0 = strconv_bool2_int.W a0b R H0 := by kernel_rfl
theorem strconv_bool2_int.calls {a0b : Bool} {R : Int → Heap → Prop} {H0 : Heap} (h : strconv_bool2_int.W a0b R H0) : strconv_bool2_int.C a0b H0 R :=
  (evF_sound progOk_ Tryd.func66 (by rw [strconv_bool2_int.eq]; exact h)).mono fun v H' h => by obtain ⟨x, hv, hk⟩ := xS_out h; exact ⟨x, hv, hk⟩

def strconv_numDigits.ann : Ann := { ord := fun _ => [], loop := fun _ => none, join := fun _ => none }
/-- internal.strconv.numDigits -/
def strconv_numDigits.W (a0d : Int) (R : Int → Heap → Prop) (H0 : Heap) : Prop :=
  bits_Len64.C (a0d) H0 fun x5 H1 =>
  strconv_log10Pow2.C (x5) H1 fun x6 H2 => 0 ≤ x6 ∧ x6 < ((20 : Nat) : Int) ∧
  ∃ x11 : Int, hcell H2 ((⟨gl_strconv_uint64pow10, 0, none⟩ : Addr).add (mulSize x6.toNat 1)) = some (.int .u64 x11) ∧ strconv_bool2_int.C (decide (x11 ≤ a0d)) H2 fun x13 H3 =>
  letV (IntKind.i64.wrap (x6 + x13)) fun x2 : Int => R (x2) H3
theorem strconv_numDigits.eq (a0d : Int) (R : Int → Heap → Prop) (H0 : Heap) :
    evF Tryd.prog strconv_numDigits.ann Tryd.f59 [.int .u64 a0d] (fun v H' => xS (.one (.int .i64)) v fun r => R r H') H0 = strconv_numDigits.W a0d R H0 := by kernel_rfl
theorem strconv_numDigits.calls {a0d : Int} {R : Int → Heap → Prop} {H0 : Heap} (h : strconv_numDigits.W a0d R H0) : strconv_numDigits.C a0d H0 R :=
  (evF_sound progOk_ Tryd.func59 (by rw [strconv_numDigits.eq]; exact h)).mono fun v H' h => by obtain ⟨x, hv, hk⟩ := xS_out h; exact ⟨x, hv, hk⟩

def strconv_formatBase10.ann : Ann := { ord := fun i => bif Nat.beq i 7 then [0, 1, 2, 3, 4, 5, 6, 7, 8, 9, 10, 11, 12, 13, 14] else bif Nat.beq i 8 then [0, 1, 2, 3, 4, 5, 6, 7, 8, 9, 10, 11, 12, 13, 14] else bif Nat.beq i 9 then [0, 1, 2, 3, 4, 5, 6, 7, 8, 9, 10, 11, 12, 13, 14] else bif Nat.beq i 10 then [0, 1, 2, 3, 4, 5, 6, 7, 8, 9, 10, 11, 12, 13, 14] else bif Nat.beq i 17 then [0, 1, 2, 3, 4, 5, 6, 7, 8, 9, 10, 11, 12, 13, 14] else bif Nat.beq i 18 then [0, 1, 2, 3, 4, 5, 6, 7, 8, 9, 10, 11, 12, 13, 14] else bif Nat.beq i 23 then [0, 1, 2, 3, 4, 5, 6, 7, 8, 9, 10, 11, 12, 13, 14] else [], loop := fun i => bif Nat.beq i 1 then some [(1, .one (.int .u64)), (4, .one (.int .i64))] else none, join := fun i => bif Nat.beq i 12 then some [(1, .one (.int .u64)), (4, .one (.int .i64))] else bif Nat.beq i 20 then some [(4, .one (.int .i64)), (12, .one (.int .u32))] else bif Nat.beq i 25 then some [(4, .one (.int .i64)), (12, .one (.int .u32))] else none }
/-- internal.strconv.formatBase10 -/
def strconv_formatBase10.W (a0a_p : Option Addr) (a0a_l a0a_c : Nat) (a1u : Int) (R : Heap → Prop) (H0 : Heap) : Prop :=
  letV ((a0a_l : Int)) fun nd4 : Int => 
  JoinW (S := (Int × Int × Unit)) (fun J12 => 
  LoopW (S := (Int × Int × Unit)) (fun L1 q1 H2 => (fun (u1 : Int) (nd4 : Int) =>
  brW (decide ((8 : Int) ≤ nd4)) ((100000000 : Int) ≠ 0 ∧
  letV (IntKind.u32.wrap (Int.tmod u1 100000000)) fun x32105 : Int => (100000000 : Int) ≠ 0 ∧
  letV (IntKind.u64.wrap (Int.tdiv u1 100000000)) fun u1 : Int => (10000 : Int) ≠ 0 ∧ (10000 : Int) ≠ 0 ∧
  letV (IntKind.u32.wrap (Int.tdiv x32105 10000)) fun x326 : Int =>
  letV (Int.tmod x32105 10000) fun x107 : Int => (100 : Int) ≠ 0 ∧ (100 : Int) ≠ 0 ∧
  letV (IntKind.u32.wrap ((IntKind.u32.wrap (Int.tdiv x107 100)) * 2)) fun x18 : Int =>
  letV (IntKind.u32.wrap ((Int.tmod x107 100) * 2)) fun x09 : Int => (100 : Int) ≠ 0 ∧ (100 : Int) ≠ 0 ∧
  letV (IntKind.u32.wrap ((IntKind.u32.wrap (Int.tdiv x326 100)) * 2)) fun x310 : Int =>
  letV (IntKind.u32.wrap ((Int.tmod x326 100) * 2)) fun x211 : Int => 0 ≤ IntKind.u32.wrap (x09 + 1) ∧ IntKind.u32.wrap (x09 + 1) < ((⟨#[48, 48, 48, 49, 48, 50, 48, 51, 48, 52, 48, 53, 48, 54, 48, 55, 48, 56, 48, 57, 49, 48, 49, 49, 49, 50, 49, 51, 49, 52, 49, 53, 49, 54, 49, 55, 49, 56, 49, 57, 50, 48, 50, 49, 50, 50, 50, 51, 50, 52, 50, 53, 50, 54, 50, 55, 50, 56, 50, 57, 51, 48, 51, 49, 51, 50, 51, 51, 51, 52, 51, 53, 51, 54, 51, 55, 51, 56, 51, 57, 52, 48, 52, 49, 52, 50, 52, 51, 52, 52, 52, 53, 52, 54, 52, 55, 52, 56, 52, 57, 53, 48, 53, 49, 53, 50, 53, 51, 53, 52, 53, 53, 53, 54, 53, 55, 53, 56, 53, 57, 54, 48, 54, 49, 54, 50, 54, 51, 54, 52, 54, 53, 54, 54, 54, 55, 54, 56, 54, 57, 55, 48, 55, 49, 55, 50, 55, 51, 55, 52, 55, 53, 55, 54, 55, 55, 55, 56, 55, 57, 56, 48, 56, 49, 56, 50, 56, 51, 56, 52, 56, 53, 56, 54, 56, 55, 56, 56, 56, 57, 57, 48, 57, 49, 57, 50, 57, 51, 57, 52, 57, 53, 57, 54, 57, 55, 57, 56, 57, 57]⟩ : ByteArray).size : Int) ∧ 0 ≤ x09 ∧ x09 < ((⟨#[48, 48, 48, 49, 48, 50, 48, 51, 48, 52, 48, 53, 48, 54, 48, 55, 48, 56, 48, 57, 49, 48, 49, 49, 49, 50, 49, 51, 49, 52, 49, 53, 49, 54, 49, 55, 49, 56, 49, 57, 50, 48, 50, 49, 50, 50, 50, 51, 50, 52, 50, 53, 50, 54, 50, 55, 50, 56, 50, 57, 51, 48, 51, 49, 51, 50, 51, 51, 51, 52, 51, 53, 51, 54, 51, 55, 51, 56, 51, 57, 52, 48, 52, 49, 52, 50, 52, 51, 52, 52, 52, 53, 52, 54, 52, 55, 52, 56, 52, 57, 53, 48, 53, 49, 53, 50, 53, 51, 53, 52, 53, 53, 53, 54, 53, 55, 53, 56, 53, 57, 54, 48, 54, 49, 54, 50, 54, 51, 54, 52, 54, 53, 54, 54, 54, 55, 54, 56, 54, 57, 55, 48, 55, 49, 55, 50, 55, 51, 55, 52, 55, 53, 55, 54, 55, 55, 55, 56, 55, 57, 56, 48, 56, 49, 56, 50, 56, 51, 56, 52, 56, 53, 56, 54, 56, 55, 56, 56, 56, 57, 57, 48, 57, 49, 57, 50, 57, 51, 57, 52, 57, 53, 57, 54, 57, 55, 57, 56, 57, 57]⟩ : ByteArray).size : Int) ∧
  ∃ x53 : Addr, a0a_p = some x53 ∧ 0 ≤ IntKind.i64.wrap (nd4 - 1) ∧ IntKind.i64.wrap (nd4 - 1) < (a0a_l : Int) ∧ (∃ u, hcell H2 (x53.add ((IntKind.i64.wrap (nd4 - 1)).toNat)) = some u) ∧ hfrozen H2 (x53.add ((IntKind.i64.wrap (nd4 - 1)).toNat)) = false ∧
  letV (hset H2 (x53.add ((IntKind.i64.wrap (nd4 - 1)).toNat)) (.int .u8 (bt (⟨#[48, 48, 48, 49, 48, 50, 48, 51, 48, 52, 48, 53, 48, 54, 48, 55, 48, 56, 48, 57, 49, 48, 49, 49, 49, 50, 49, 51, 49, 52, 49, 53, 49, 54, 49, 55, 49, 56, 49, 57, 50, 48, 50, 49, 50, 50, 50, 51, 50, 52, 50, 53, 50, 54, 50, 55, 50, 56, 50, 57, 51, 48, 51, 49, 51, 50, 51, 51, 51, 52, 51, 53, 51, 54, 51, 55, 51, 56, 51, 57, 52, 48, 52, 49, 52, 50, 52, 51, 52, 52, 52, 53, 52, 54, 52, 55, 52, 56, 52, 57, 53, 48, 53, 49, 53, 50, 53, 51, 53, 52, 53, 53, 53, 54, 53, 55, 53, 56, 53, 57, 54, 48, 54, 49, 54, 50, 54, 51, 54, 52, 54, 53, 54, 54, 54, 55, 54, 56, 54, 57, 55, 48, 55, 49, 55, 50, 55, 51, 55, 52, 55, 53, 55, 54, 55, 55, 55, 56, 55, 57, 56, 48, 56, 49, 56, 50, 56, 51, 56, 52, 56, 53, 56, 54, 56, 55, 56, 56, 56, 57, 57, 48, 57, 49, 57, 50, 57, 51, 57, 52, 57, 53, 57, 54, 57, 55, 57, 56, 57, 57]⟩ : ByteArray) (IntKind.u32.wrap (x09 + 1))))) fun H3 : Heap =>
  ∃ x54 : Addr, a0a_p = some x54 ∧ 0 ≤ IntKind.i64.wrap (nd4 - 2) ∧ IntKind.i64.wrap (nd4 - 2) < (a0a_l : Int) ∧ (∃ u, hcell H3 (x54.add ((IntKind.i64.wrap (nd4 - 2)).toNat)) = some u) ∧ hfrozen H3 (x54.add ((IntKind.i64.wrap (nd4 - 2)).toNat)) = false ∧
  letV (hset H3 (x54.add ((IntKind.i64.wrap (nd4 - 2)).toNat)) (.int .u8 (bt (⟨#[48, 48, 48, 49, 48, 50, 48, 51, 48, 52, 48, 53, 48, 54, 48, 55, 48, 56, 48, 57, 49, 48, 49, 49, 49, 50, 49, 51, 49, 52, 49, 53, 49, 54, 49, 55, 49, 56, 49, 57, 50, 48, 50, 49, 50, 50, 50, 51, 50, 52, 50, 53, 50, 54, 50, 55, 50, 56, 50, 57, 51, 48, 51, 49, 51, 50, 51, 51, 51, 52, 51, 53, 51, 54, 51, 55, 51, 56, 51, 57, 52, 48, 52, 49, 52, 50, 52, 51, 52, 52, 52, 53, 52, 54, 52, 55, 52, 56, 52, 57, 53, 48, 53, 49, 53, 50, 53, 51, 53, 52, 53, 53, 53, 54, 53, 55, 53, 56, 53, 57, 54, 48, 54, 49, 54, 50, 54, 51, 54, 52, 54, 53, 54, 54, 54, 55, 54, 56, 54, 57, 55, 48, 55, 49, 55, 50, 55, 51, 55, 52, 55, 53, 55, 54, 55, 55, 55, 56, 55, 57, 56, 48, 56, 49, 56, 50, 56, 51, 56, 52, 56, 53, 56, 54, 56, 55, 56, 56, 56, 57, 57, 48, 57, 49, 57, 50, 57, 51, 57, 52, 57, 53, 57, 54, 57, 55, 57, 56, 57, 57]⟩ : ByteArray) x09))) fun H4 : Heap => 0 ≤ IntKind.u32.wrap (x18 + 1) ∧ IntKind.u32.wrap (x18 + 1) < ((⟨#[48, 48, 48, 49, 48, 50, 48, 51, 48, 52, 48, 53, 48, 54, 48, 55, 48, 56, 48, 57, 49, 48, 49, 49, 49, 50, 49, 51, 49, 52, 49, 53, 49, 54, 49, 55, 49, 56, 49, 57, 50, 48, 50, 49, 50, 50, 50, 51, 50, 52, 50, 53, 50, 54, 50, 55, 50, 56, 50, 57, 51, 48, 51, 49, 51, 50, 51, 51, 51, 52, 51, 53, 51, 54, 51, 55, 51, 56, 51, 57, 52, 48, 52, 49, 52, 50, 52, 51, 52, 52, 52, 53, 52, 54, 52, 55, 52, 56, 52, 57, 53, 48, 53, 49, 53, 50, 53, 51, 53, 52, 53, 53, 53, 54, 53, 55, 53, 56, 53, 57, 54, 48, 54, 49, 54, 50, 54, 51, 54, 52, 54, 53, 54, 54, 54, 55, 54, 56, 54, 57, 55, 48, 55, 49, 55, 50, 55, 51, 55, 52, 55, 53, 55, 54, 55, 55, 55, 56, 55, 57, 56, 48, 56, 49, 56, 50, 56, 51, 56, 52, 56, 53, 56, 54, 56, 55, 56, 56, 56, 57, 57, 48, 57, 49, 57, 50, 57, 51, 57, 52, 57, 53, 57, 54, 57, 55, 57, 56, 57, 57]⟩ : ByteArray).size : Int) ∧ 0 ≤ x18 ∧ x18 < ((⟨#[48, 48, 48, 49, 48, 50, 48, 51, 48, 52, 48, 53, 48, 54, 48, 55, 48, 56, 48, 57, 49, 48, 49, 49, 49, 50, 49, 51, 49, 52, 49, 53, 49, 54, 49, 55, 49, 56, 49, 57, 50, 48, 50, 49, 50, 50, 50, 51, 50, 52, 50, 53, 50, 54, 50, 55, 50, 56, 50, 57, 51, 48, 51, 49, 51, 50, 51, 51, 51, 52, 51, 53, 51, 54, 51, 55, 51, 56, 51, 57, 52, 48, 52, 49, 52, 50, 52, 51, 52, 52, 52, 53, 52, 54, 52, 55, 52, 56, 52, 57, 53, 48, 53, 49, 53, 50, 53, 51, 53, 52, 53, 53, 53, 54, 53, 55, 53, 56, 53, 57, 54, 48, 54, 49, 54, 50, 54, 51, 54, 52, 54, 53, 54, 54, 54, 55, 54, 56, 54, 57, 55, 48, 55, 49, 55, 50, 55, 51, 55, 52, 55, 53, 55, 54, 55, 55, 55, 56, 55, 57, 56, 48, 56, 49, 56, 50, 56, 51, 56, 52, 56, 53, 56, 54, 56, 55, 56, 56, 56, 57, 57, 48, 57, 49, 57, 50, 57, 51, 57, 52, 57, 53, 57, 54, 57, 55, 57, 56, 57, 57]⟩ : ByteArray).size : Int) ∧
  ∃ x66 : Addr, a0a_p = some x66 ∧ 0 ≤ IntKind.i64.wrap (nd4 - 3) ∧ IntKind.i64.wrap (nd4 - 3) < (a0a_l : Int) ∧ (∃ u, hcell H4 (x66.add ((IntKind.i64.wrap (nd4 - 3)).toNat)) = some u) ∧ hfrozen H4 (x66.add ((IntKind.i64.wrap (nd4 - 3)).toNat)) = false ∧
  letV (hset H4 (x66.add ((IntKind.i64.wrap (nd4 - 3)).toNat)) (.int .u8 (bt (⟨#[48, 48, 48, 49, 48, 50, 48, 51, 48, 52, 48, 53, 48, 54, 48, 55, 48, 56, 48, 57, 49, 48, 49, 49, 49, 50, 49, 51, 49, 52, 49, 53, 49, 54, 49, 55, 49, 56, 49, 57, 50, 48, 50, 49, 50, 50, 50, 51, 50, 52, 50, 53, 50, 54, 50, 55, 50, 56, 50, 57, 51, 48, 51, 49, 51, 50, 51, 51, 51, 52, 51, 53, 51, 54, 51, 55, 51, 56, 51, 57, 52, 48, 52, 49, 52, 50, 52, 51, 52, 52, 52, 53, 52, 54, 52, 55, 52, 56, 52, 57, 53, 48, 53, 49, 53, 50, 53, 51, 53, 52, 53, 53, 53, 54, 53, 55, 53, 56, 53, 57, 54, 48, 54, 49, 54, 50, 54, 51, 54, 52, 54, 53, 54, 54, 54, 55, 54, 56, 54, 57, 55, 48, 55, 49, 55, 50, 55, 51, 55, 52, 55, 53, 55, 54, 55, 55, 55, 56, 55, 57, 56, 48, 56, 49, 56, 50, 56, 51, 56, 52, 56, 53, 56, 54, 56, 55, 56, 56, 56, 57, 57, 48, 57, 49, 57, 50, 57, 51, 57, 52, 57, 53, 57, 54, 57, 55, 57, 56, 57, 57]⟩ : ByteArray) (IntKind.u32.wrap (x18 + 1))))) fun H5 : Heap =>
  ∃ x67 : Addr, a0a_p = some x67 ∧ 0 ≤ IntKind.i64.wrap (nd4 - 4) ∧ IntKind.i64.wrap (nd4 - 4) < (a0a_l : Int) ∧ (∃ u, hcell H5 (x67.add ((IntKind.i64.wrap (nd4 - 4)).toNat)) = some u) ∧ hfrozen H5 (x67.add ((IntKind.i64.wrap (nd4 - 4)).toNat)) = false ∧
  letV (hset H5 (x67.add ((IntKind.i64.wrap (nd4 - 4)).toNat)) (.int .u8 (bt (⟨#[48, 48, 48, 49, 48, 50, 48, 51, 48, 52, 48, 53, 48, 54, 48, 55, 48, 56, 48, 57, 49, 48, 49, 49, 49, 50, 49, 51, 49, 52, 49, 53, 49, 54, 49, 55, 49, 56, 49, 57, 50, 48, 50, 49, 50, 50, 50, 51, 50, 52, 50, 53, 50, 54, 50, 55, 50, 56, 50, 57, 51, 48, 51, 49, 51, 50, 51, 51, 51, 52, 51, 53, 51, 54, 51, 55, 51, 56, 51, 57, 52, 48, 52, 49, 52, 50, 52, 51, 52, 52, 52, 53, 52, 54, 52, 55, 52, 56, 52, 57, 53, 48, 53, 49, 53, 50, 53, 51, 53, 52, 53, 53, 53, 54, 53, 55, 53, 56, 53, 57, 54, 48, 54, 49, 54, 50, 54, 51, 54, 52, 54, 53, 54, 54, 54, 55, 54, 56, 54, 57, 55, 48, 55, 49, 55, 50, 55, 51, 55, 52, 55, 53, 55, 54, 55, 55, 55, 56, 55, 57, 56, 48, 56, 49, 56, 50, 56, 51, 56, 52, 56, 53, 56, 54, 56, 55, 56, 56, 56, 57, 57, 48, 57, 49, 57, 50, 57, 51, 57, 52, 57, 53, 57, 54, 57, 55, 57, 56, 57, 57]⟩ : ByteArray) x18))) fun H6 : Heap => 0 ≤ IntKind.u32.wrap (x211 + 1) ∧ IntKind.u32.wrap (x211 + 1) < ((⟨#[48, 48, 48, 49, 48, 50, 48, 51, 48, 52, 48, 53, 48, 54, 48, 55, 48, 56, 48, 57, 49, 48, 49, 49, 49, 50, 49, 51, 49, 52, 49, 53, 49, 54, 49, 55, 49, 56, 49, 57, 50, 48, 50, 49, 50, 50, 50, 51, 50, 52, 50, 53, 50, 54, 50, 55, 50, 56, 50, 57, 51, 48, 51, 49, 51, 50, 51, 51, 51, 52, 51, 53, 51, 54, 51, 55, 51, 56, 51, 57, 52, 48, 52, 49, 52, 50, 52, 51, 52, 52, 52, 53, 52, 54, 52, 55, 52, 56, 52, 57, 53, 48, 53, 49, 53, 50, 53, 51, 53, 52, 53, 53, 53, 54, 53, 55, 53, 56, 53, 57, 54, 48, 54, 49, 54, 50, 54, 51, 54, 52, 54, 53, 54, 54, 54, 55, 54, 56, 54, 57, 55, 48, 55, 49, 55, 50, 55, 51, 55, 52, 55, 53, 55, 54, 55, 55, 55, 56, 55, 57, 56, 48, 56, 49, 56, 50, 56, 51, 56, 52, 56, 53, 56, 54, 56, 55, 56, 56, 56, 57, 57, 48, 57, 49, 57, 50, 57, 51, 57, 52, 57, 53, 57, 54, 57, 55, 57, 56, 57, 57]⟩ : ByteArray).size : Int) ∧ 0 ≤ x211 ∧ x211 < ((⟨#[48, 48, 48, 49, 48, 50, 48, 51, 48, 52, 48, 53, 48, 54, 48, 55, 48, 56, 48, 57, 49, 48, 49, 49, 49, 50, 49, 51, 49, 52, 49, 53, 49, 54, 49, 55, 49, 56, 49, 57, 50, 48, 50, 49, 50, 50, 50, 51, 50, 52, 50, 53, 50, 54, 50, 55, 50, 56, 50, 57, 51, 48, 51, 49, 51, 50, 51, 51, 51, 52, 51, 53, 51, 54, 51, 55, 51, 56, 51, 57, 52, 48, 52, 49, 52, 50, 52, 51, 52, 52, 52, 53, 52, 54, 52, 55, 52, 56, 52, 57, 53, 48, 53, 49, 53, 50, 53, 51, 53, 52, 53, 53, 53, 54, 53, 55, 53, 56, 53, 57, 54, 48, 54, 49, 54, 50, 54, 51, 54, 52, 54, 53, 54, 54, 54, 55, 54, 56, 54, 57, 55, 48, 55, 49, 55, 50, 55, 51, 55, 52, 55, 53, 55, 54, 55, 55, 55, 56, 55, 57, 56, 48, 56, 49, 56, 50, 56, 51, 56, 52, 56, 53, 56, 54, 56, 55, 56, 56, 56, 57, 57, 48, 57, 49, 57, 50, 57, 51, 57, 52, 57, 53, 57, 54, 57, 55, 57, 56, 57, 57]⟩ : ByteArray).size : Int) ∧
  ∃ x79 : Addr, a0a_p = some x79 ∧ 0 ≤ IntKind.i64.wrap (nd4 - 5) ∧ IntKind.i64.wrap (nd4 - 5) < (a0a_l : Int) ∧ (∃ u, hcell H6 (x79.add ((IntKind.i64.wrap (nd4 - 5)).toNat)) = some u) ∧ hfrozen H6 (x79.add ((IntKind.i64.wrap (nd4 - 5)).toNat)) = false ∧
  letV (hset H6 (x79.add ((IntKind.i64.wrap (nd4 - 5)).toNat)) (.int .u8 (bt (⟨#[48, 48, 48, 49, 48, 50, 48, 51, 48, 52, 48, 53, 48, 54, 48, 55, 48, 56, 48, 57, 49, 48, 49, 49, 49, 50, 49, 51, 49, 52, 49, 53, 49, 54, 49, 55, 49, 56, 49, 57, 50, 48, 50, 49, 50, 50, 50, 51, 50, 52, 50, 53, 50, 54, 50, 55, 50, 56, 50, 57, 51, 48, 51, 49, 51, 50, 51, 51, 51, 52, 51, 53, 51, 54, 51, 55, 51, 56, 51, 57, 52, 48, 52, 49, 52, 50, 52, 51, 52, 52, 52, 53, 52, 54, 52, 55, 52, 56, 52, 57, 53, 48, 53, 49, 53, 50, 53, 51, 53, 52, 53, 53, 53, 54, 53, 55, 53, 56, 53, 57, 54, 48, 54, 49, 54, 50, 54, 51, 54, 52, 54, 53, 54, 54, 54, 55, 54, 56, 54, 57, 55, 48, 55, 49, 55, 50, 55, 51, 55, 52, 55, 53, 55, 54, 55, 55, 55, 56, 55, 57, 56, 48, 56, 49, 56, 50, 56, 51, 56, 52, 56, 53, 56, 54, 56, 55, 56, 56, 56, 57, 57, 48, 57, 49, 57, 50, 57, 51, 57, 52, 57, 53, 57, 54, 57, 55, 57, 56, 57, 57]⟩ : ByteArray) (IntKind.u32.wrap (x211 + 1))))) fun H7 : Heap =>
  ∃ x80 : Addr, a0a_p = some x80 ∧ 0 ≤ IntKind.i64.wrap (nd4 - 6) ∧ IntKind.i64.wrap (nd4 - 6) < (a0a_l : Int) ∧ (∃ u, hcell H7 (x80.add ((IntKind.i64.wrap (nd4 - 6)).toNat)) = some u) ∧ hfrozen H7 (x80.add ((IntKind.i64.wrap (nd4 - 6)).toNat)) = false ∧
  letV (hset H7 (x80.add ((IntKind.i64.wrap (nd4 - 6)).toNat)) (.int .u8 (bt (⟨#[48, 48, 48, 49, 48, 50, 48, 51, 48, 52, 48, 53, 48, 54, 48, 55, 48, 56, 48, 57, 49, 48, 49, 49, 49, 50, 49, 51, 49, 52, 49, 53, 49, 54, 49, 55, 49, 56, 49, 57, 50, 48, 50, 49, 50, 50, 50, 51, 50, 52, 50, 53, 50, 54, 50, 55, 50, 56, 50, 57, 51, 48, 51, 49, 51, 50, 51, 51, 51, 52, 51, 53, 51, 54, 51, 55, 51, 56, 51, 57, 52, 48, 52, 49, 52, 50, 52, 51, 52, 52, 52, 53, 52, 54, 52, 55, 52, 56, 52, 57, 53, 48, 53, 49, 53, 50, 53, 51, 53, 52, 53, 53, 53, 54, 53, 55, 53, 56, 53, 57, 54, 48, 54, 49, 54, 50, 54, 51, 54, 52, 54, 53, 54, 54, 54, 55, 54, 56, 54, 57, 55, 48, 55, 49, 55, 50, 55, 51, 55, 52, 55, 53, 55, 54, 55, 55, 55, 56, 55, 57, 56, 48, 56, 49, 56, 50, 56, 51, 56, 52, 56, 53, 56, 54, 56, 55, 56, 56, 56, 57, 57, 48, 57, 49, 57, 50, 57, 51, 57, 52, 57, 53, 57, 54, 57, 55, 57, 56, 57, 57]⟩ : ByteArray) x211))) fun H8 : Heap => 0 ≤ IntKind.u32.wrap (x310 + 1) ∧ IntKind.u32.wrap (x310 + 1) < ((⟨#[48, 48, 48, 49, 48, 50, 48, 51, 48, 52, 48, 53, 48, 54, 48, 55, 48, 56, 48, 57, 49, 48, 49, 49, 49, 50, 49, 51, 49, 52, 49, 53, 49, 54, 49, 55, 49, 56, 49, 57, 50, 48, 50, 49, 50, 50, 50, 51, 50, 52, 50, 53, 50, 54, 50, 55, 50, 56, 50, 57, 51, 48, 51, 49, 51, 50, 51, 51, 51, 52, 51, 53, 51, 54, 51, 55, 51, 56, 51, 57, 52, 48, 52, 49, 52, 50, 52, 51, 52, 52, 52, 53, 52, 54, 52, 55, 52, 56, 52, 57, 53, 48, 53, 49, 53, 50, 53, 51, 53, 52, 53, 53, 53, 54, 53, 55, 53, 56, 53, 57, 54, 48, 54, 49, 54, 50, 54, 51, 54, 52, 54, 53, 54, 54, 54, 55, 54, 56, 54, 57, 55, 48, 55, 49, 55, 50, 55, 51, 55, 52, 55, 53, 55, 54, 55, 55, 55, 56, 55, 57, 56, 48, 56, 49, 56, 50, 56, 51, 56, 52, 56, 53, 56, 54, 56, 55, 56, 56, 56, 57, 57, 48, 57, 49, 57, 50, 57, 51, 57, 52, 57, 53, 57, 54, 57, 55, 57, 56, 57, 57]⟩ : ByteArray).size : Int) ∧ 0 ≤ x310 ∧ x310 < ((⟨#[48, 48, 48, 49, 48, 50, 48, 51, 48, 52, 48, 53, 48, 54, 48, 55, 48, 56, 48, 57, 49, 48, 49, 49, 49, 50, 49, 51, 49, 52, 49, 53, 49, 54, 49, 55, 49, 56, 49, 57, 50, 48, 50, 49, 50, 50, 50, 51, 50, 52, 50, 53, 50, 54, 50, 55, 50, 56, 50, 57, 51, 48, 51, 49, 51, 50, 51, 51, 51, 52, 51, 53, 51, 54, 51, 55, 51, 56, 51, 57, 52, 48, 52, 49, 52, 50, 52, 51, 52, 52, 52, 53, 52, 54, 52, 55, 52, 56, 52, 57, 53, 48, 53, 49, 53, 50, 53, 51, 53, 52, 53, 53, 53, 54, 53, 55, 53, 56, 53, 57, 54, 48, 54, 49, 54, 50, 54, 51, 54, 52, 54, 53, 54, 54, 54, 55, 54, 56, 54, 57, 55, 48, 55, 49, 55, 50, 55, 51, 55, 52, 55, 53, 55, 54, 55, 55, 55, 56, 55, 57, 56, 48, 56, 49, 56, 50, 56, 51, 56, 52, 56, 53, 56, 54, 56, 55, 56, 56, 56, 57, 57, 48, 57, 49, 57, 50, 57, 51, 57, 52, 57, 53, 57, 54, 57, 55, 57, 56, 57, 57]⟩ : ByteArray).size : Int) ∧
  ∃ x92 : Addr, a0a_p = some x92 ∧ 0 ≤ IntKind.i64.wrap (nd4 - 7) ∧ IntKind.i64.wrap (nd4 - 7) < (a0a_l : Int) ∧ (∃ u, hcell H8 (x92.add ((IntKind.i64.wrap (nd4 - 7)).toNat)) = some u) ∧ hfrozen H8 (x92.add ((IntKind.i64.wrap (nd4 - 7)).toNat)) = false ∧
  letV (hset H8 (x92.add ((IntKind.i64.wrap (nd4 - 7)).toNat)) (.int .u8 (bt (⟨#[48, 48, 48, 49, 48, 50, 48, 51, 48, 52, 48, 53, 48, 54, 48, 55, 48, 56, 48, 57, 49, 48, 49, 49, 49, 50, 49, 51, 49, 52, 49, 53, 49, 54, 49, 55, 49, 56, 49, 57, 50, 48, 50, 49, 50, 50, 50, 51, 50, 52, 50, 53, 50, 54, 50, 55, 50, 56, 50, 57, 51, 48, 51, 49, 51, 50, 51, 51, 51, 52, 51, 53, 51, 54, 51, 55, 51, 56, 51, 57, 52, 48, 52, 49, 52, 50, 52, 51, 52, 52, 52, 53, 52, 54, 52, 55, 52, 56, 52, 57, 53, 48, 53, 49, 53, 50, 53, 51, 53, 52, 53, 53, 53, 54, 53, 55, 53, 56, 53, 57, 54, 48, 54, 49, 54, 50, 54, 51, 54, 52, 54, 53, 54, 54, 54, 55, 54, 56, 54, 57, 55, 48, 55, 49, 55, 50, 55, 51, 55, 52, 55, 53, 55, 54, 55, 55, 55, 56, 55, 57, 56, 48, 56, 49, 56, 50, 56, 51, 56, 52, 56, 53, 56, 54, 56, 55, 56, 56, 56, 57, 57, 48, 57, 49, 57, 50, 57, 51, 57, 52, 57, 53, 57, 54, 57, 55, 57, 56, 57, 57]⟩ : ByteArray) (IntKind.u32.wrap (x310 + 1))))) fun H9 : Heap =>
  ∃ x93 : Addr, a0a_p = some x93 ∧ 0 ≤ IntKind.i64.wrap (nd4 - 8) ∧ IntKind.i64.wrap (nd4 - 8) < (a0a_l : Int) ∧ (∃ u, hcell H9 (x93.add ((IntKind.i64.wrap (nd4 - 8)).toNat)) = some u) ∧ hfrozen H9 (x93.add ((IntKind.i64.wrap (nd4 - 8)).toNat)) = false ∧
  letV (hset H9 (x93.add ((IntKind.i64.wrap (nd4 - 8)).toNat)) (.int .u8 (bt (⟨#[48, 48, 48, 49, 48, 50, 48, 51, 48, 52, 48, 53, 48, 54, 48, 55, 48, 56, 48, 57, 49, 48, 49, 49, 49, 50, 49, 51, 49, 52, 49, 53, 49, 54, 49, 55, 49, 56, 49, 57, 50, 48, 50, 49, 50, 50, 50, 51, 50, 52, 50, 53, 50, 54, 50, 55, 50, 56, 50, 57, 51, 48, 51, 49, 51, 50, 51, 51, 51, 52, 51, 53, 51, 54, 51, 55, 51, 56, 51, 57, 52, 48, 52, 49, 52, 50, 52, 51, 52, 52, 52, 53, 52, 54, 52, 55, 52, 56, 52, 57, 53, 48, 53, 49, 53, 50, 53, 51, 53, 52, 53, 53, 53, 54, 53, 55, 53, 56, 53, 57, 54, 48, 54, 49, 54, 50, 54, 51, 54, 52, 54, 53, 54, 54, 54, 55, 54, 56, 54, 57, 55, 48, 55, 49, 55, 50, 55, 51, 55, 52, 55, 53, 55, 54, 55, 55, 55, 56, 55, 57, 56, 48, 56, 49, 56, 50, 56, 51, 56, 52, 56, 53, 56, 54, 56, 55, 56, 56, 56, 57, 57, 48, 57, 49, 57, 50, 57, 51, 57, 52, 57, 53, 57, 54, 57, 55, 57, 56, 57, 57]⟩ : ByteArray) x310))) fun H10 : Heap =>
  letV (IntKind.i64.wrap (nd4 - 8)) fun nd4b : Int => L1 ((u1 : Int), (nd4b : Int), ()) H10) (J12 ((u1 : Int), (nd4 : Int), ()) H2)) q1.1 q1.2.1) ((a1u : Int), (nd4 : Int), ()) H0)
  (fun s12 H1 => (fun (u1 : Int) (nd4 : Int) =>
  letV (IntKind.u32.wrap u1) fun x12 : Int => 
  JoinW (S := (Int × Int × Unit)) (fun J20 =>
  brW (decide ((4 : Int) ≤ nd4)) ((10000 : Int) ≠ 0 ∧
  letV (Int.tmod x12 10000) fun x1013 : Int => (10000 : Int) ≠ 0 ∧
  letV (IntKind.u32.wrap (Int.tdiv x12 10000)) fun x12 : Int => (100 : Int) ≠ 0 ∧ (100 : Int) ≠ 0 ∧
  letV (IntKind.u32.wrap ((IntKind.u32.wrap (Int.tdiv x1013 100)) * 2)) fun x114 : Int =>
  letV (IntKind.u32.wrap ((Int.tmod x1013 100) * 2)) fun x015 : Int => 0 ≤ IntKind.u32.wrap (x015 + 1) ∧ IntKind.u32.wrap (x015 + 1) < ((⟨#[48, 48, 48, 49, 48, 50, 48, 51, 48, 52, 48, 53, 48, 54, 48, 55, 48, 56, 48, 57, 49, 48, 49, 49, 49, 50, 49, 51, 49, 52, 49, 53, 49, 54, 49, 55, 49, 56, 49, 57, 50, 48, 50, 49, 50, 50, 50, 51, 50, 52, 50, 53, 50, 54, 50, 55, 50, 56, 50, 57, 51, 48, 51, 49, 51, 50, 51, 51, 51, 52, 51, 53, 51, 54, 51, 55, 51, 56, 51, 57, 52, 48, 52, 49, 52, 50, 52, 51, 52, 52, 52, 53, 52, 54, 52, 55, 52, 56, 52, 57, 53, 48, 53, 49, 53, 50, 53, 51, 53, 52, 53, 53, 53, 54, 53, 55, 53, 56, 53, 57, 54, 48, 54, 49, 54, 50, 54, 51, 54, 52, 54, 53, 54, 54, 54, 55, 54, 56, 54, 57, 55, 48, 55, 49, 55, 50, 55, 51, 55, 52, 55, 53, 55, 54, 55, 55, 55, 56, 55, 57, 56, 48, 56, 49, 56, 50, 56, 51, 56, 52, 56, 53, 56, 54, 56, 55, 56, 56, 56, 57, 57, 48, 57, 49, 57, 50, 57, 51, 57, 52, 57, 53, 57, 54, 57, 55, 57, 56, 57, 57]⟩ : ByteArray).size : Int) ∧ 0 ≤ x015 ∧ x015 < ((⟨#[48, 48, 48, 49, 48, 50, 48, 51, 48, 52, 48, 53, 48, 54, 48, 55, 48, 56, 48, 57, 49, 48, 49, 49, 49, 50, 49, 51, 49, 52, 49, 53, 49, 54, 49, 55, 49, 56, 49, 57, 50, 48, 50, 49, 50, 50, 50, 51, 50, 52, 50, 53, 50, 54, 50, 55, 50, 56, 50, 57, 51, 48, 51, 49, 51, 50, 51, 51, 51, 52, 51, 53, 51, 54, 51, 55, 51, 56, 51, 57, 52, 48, 52, 49, 52, 50, 52, 51, 52, 52, 52, 53, 52, 54, 52, 55, 52, 56, 52, 57, 53, 48, 53, 49, 53, 50, 53, 51, 53, 52, 53, 53, 53, 54, 53, 55, 53, 56, 53, 57, 54, 48, 54, 49, 54, 50, 54, 51, 54, 52, 54, 53, 54, 54, 54, 55, 54, 56, 54, 57, 55, 48, 55, 49, 55, 50, 55, 51, 55, 52, 55, 53, 55, 54, 55, 55, 55, 56, 55, 57, 56, 48, 56, 49, 56, 50, 56, 51, 56, 52, 56, 53, 56, 54, 56, 55, 56, 56, 56, 57, 57, 48, 57, 49, 57, 50, 57, 51, 57, 52, 57, 53, 57, 54, 57, 55, 57, 56, 57, 57]⟩ : ByteArray).size : Int) ∧
  ∃ x121 : Addr, a0a_p = some x121 ∧ 0 ≤ IntKind.i64.wrap (nd4 - 1) ∧ IntKind.i64.wrap (nd4 - 1) < (a0a_l : Int) ∧ (∃ u, hcell H1 (x121.add ((IntKind.i64.wrap (nd4 - 1)).toNat)) = some u) ∧ hfrozen H1 (x121.add ((IntKind.i64.wrap (nd4 - 1)).toNat)) = false ∧
  letV (hset H1 (x121.add ((IntKind.i64.wrap (nd4 - 1)).toNat)) (.int .u8 (bt (⟨#[48, 48, 48, 49, 48, 50, 48, 51, 48, 52, 48, 53, 48, 54, 48, 55, 48, 56, 48, 57, 49, 48, 49, 49, 49, 50, 49, 51, 49, 52, 49, 53, 49, 54, 49, 55, 49, 56, 49, 57, 50, 48, 50, 49, 50, 50, 50, 51, 50, 52, 50, 53, 50, 54, 50, 55, 50, 56, 50, 57, 51, 48, 51, 49, 51, 50, 51, 51, 51, 52, 51, 53, 51, 54, 51, 55, 51, 56, 51, 57, 52, 48, 52, 49, 52, 50, 52, 51, 52, 52, 52, 53, 52, 54, 52, 55, 52, 56, 52, 57, 53, 48, 53, 49, 53, 50, 53, 51, 53, 52, 53, 53, 53, 54, 53, 55, 53, 56, 53, 57, 54, 48, 54, 49, 54, 50, 54, 51, 54, 52, 54, 53, 54, 54, 54, 55, 54, 56, 54, 57, 55, 48, 55, 49, 55, 50, 55, 51, 55, 52, 55, 53, 55, 54, 55, 55, 55, 56, 55, 57, 56, 48, 56, 49, 56, 50, 56, 51, 56, 52, 56, 53, 56, 54, 56, 55, 56, 56, 56, 57, 57, 48, 57, 49, 57, 50, 57, 51, 57, 52, 57, 53, 57, 54, 57, 55, 57, 56, 57, 57]⟩ : ByteArray) (IntKind.u32.wrap (x015 + 1))))) fun H12 : Heap =>
  ∃ x122 : Addr, a0a_p = some x122 ∧ 0 ≤ IntKind.i64.wrap (nd4 - 2) ∧ IntKind.i64.wrap (nd4 - 2) < (a0a_l : Int) ∧ (∃ u, hcell H12 (x122.add ((IntKind.i64.wrap (nd4 - 2)).toNat)) = some u) ∧ hfrozen H12 (x122.add ((IntKind.i64.wrap (nd4 - 2)).toNat)) = false ∧
  letV (hset H12 (x122.add ((IntKind.i64.wrap (nd4 - 2)).toNat)) (.int .u8 (bt (⟨#[48, 48, 48, 49, 48, 50, 48, 51, 48, 52, 48, 53, 48, 54, 48, 55, 48, 56, 48, 57, 49, 48, 49, 49, 49, 50, 49, 51, 49, 52, 49, 53, 49, 54, 49, 55, 49, 56, 49, 57, 50, 48, 50, 49, 50, 50, 50, 51, 50, 52, 50, 53, 50, 54, 50, 55, 50, 56, 50, 57, 51, 48, 51, 49, 51, 50, 51, 51, 51, 52, 51, 53, 51, 54, 51, 55, 51, 56, 51, 57, 52, 48, 52, 49, 52, 50, 52, 51, 52, 52, 52, 53, 52, 54, 52, 55, 52, 56, 52, 57, 53, 48, 53, 49, 53, 50, 53, 51, 53, 52, 53, 53, 53, 54, 53, 55, 53, 56, 53, 57, 54, 48, 54, 49, 54, 50, 54, 51, 54, 52, 54, 53, 54, 54, 54, 55, 54, 56, 54, 57, 55, 48, 55, 49, 55, 50, 55, 51, 55, 52, 55, 53, 55, 54, 55, 55, 55, 56, 55, 57, 56, 48, 56, 49, 56, 50, 56, 51, 56, 52, 56, 53, 56, 54, 56, 55, 56, 56, 56, 57, 57, 48, 57, 49, 57, 50, 57, 51, 57, 52, 57, 53, 57, 54, 57, 55, 57, 56, 57, 57]⟩ : ByteArray) x015))) fun H13 : Heap => 0 ≤ IntKind.u32.wrap (x114 + 1) ∧ IntKind.u32.wrap (x114 + 1) < ((⟨#[48, 48, 48, 49, 48, 50, 48, 51, 48, 52, 48, 53, 48, 54, 48, 55, 48, 56, 48, 57, 49, 48, 49, 49, 49, 50, 49, 51, 49, 52, 49, 53, 49, 54, 49, 55, 49, 56, 49, 57, 50, 48, 50, 49, 50, 50, 50, 51, 50, 52, 50, 53, 50, 54, 50, 55, 50, 56, 50, 57, 51, 48, 51, 49, 51, 50, 51, 51, 51, 52, 51, 53, 51, 54, 51, 55, 51, 56, 51, 57, 52, 48, 52, 49, 52, 50, 52, 51, 52, 52, 52, 53, 52, 54, 52, 55, 52, 56, 52, 57, 53, 48, 53, 49, 53, 50, 53, 51, 53, 52, 53, 53, 53, 54, 53, 55, 53, 56, 53, 57, 54, 48, 54, 49, 54, 50, 54, 51, 54, 52, 54, 53, 54, 54, 54, 55, 54, 56, 54, 57, 55, 48, 55, 49, 55, 50, 55, 51, 55, 52, 55, 53, 55, 54, 55, 55, 55, 56, 55, 57, 56, 48, 56, 49, 56, 50, 56, 51, 56, 52, 56, 53, 56, 54, 56, 55, 56, 56, 56, 57, 57, 48, 57, 49, 57, 50, 57, 51, 57, 52, 57, 53, 57, 54, 57, 55, 57, 56, 57, 57]⟩ : ByteArray).size : Int) ∧ 0 ≤ x114 ∧ x114 < ((⟨#[48, 48, 48, 49, 48, 50, 48, 51, 48, 52, 48, 53, 48, 54, 48, 55, 48, 56, 48, 57, 49, 48, 49, 49, 49, 50, 49, 51, 49, 52, 49, 53, 49, 54, 49, 55, 49, 56, 49, 57, 50, 48, 50, 49, 50, 50, 50, 51, 50, 52, 50, 53, 50, 54, 50, 55, 50, 56, 50, 57, 51, 48, 51, 49, 51, 50, 51, 51, 51, 52, 51, 53, 51, 54, 51, 55, 51, 56, 51, 57, 52, 48, 52, 49, 52, 50, 52, 51, 52, 52, 52, 53, 52, 54, 52, 55, 52, 56, 52, 57, 53, 48, 53, 49, 53, 50, 53, 51, 53, 52, 53, 53, 53, 54, 53, 55, 53, 56, 53, 57, 54, 48, 54, 49, 54, 50, 54, 51, 54, 52, 54, 53, 54, 54, 54, 55, 54, 56, 54, 57, 55, 48, 55, 49, 55, 50, 55, 51, 55, 52, 55, 53, 55, 54, 55, 55, 55, 56, 55, 57, 56, 48, 56, 49, 56, 50, 56, 51, 56, 52, 56, 53, 56, 54, 56, 55, 56, 56, 56, 57, 57, 48, 57, 49, 57, 50, 57, 51, 57, 52, 57, 53, 57, 54, 57, 55, 57, 56, 57, 57]⟩ : ByteArray).size : Int) ∧
  ∃ x134 : Addr, a0a_p = some x134 ∧ 0 ≤ IntKind.i64.wrap (nd4 - 3) ∧ IntKind.i64.wrap (nd4 - 3) < (a0a_l : Int) ∧ (∃ u, hcell H13 (x134.add ((IntKind.i64.wrap (nd4 - 3)).toNat)) = some u) ∧ hfrozen H13 (x134.add ((IntKind.i64.wrap (nd4 - 3)).toNat)) = false ∧
  letV (hset H13 (x134.add ((IntKind.i64.wrap (nd4 - 3)).toNat)) (.int .u8 (bt (⟨#[48, 48, 48, 49, 48, 50, 48, 51, 48, 52, 48, 53, 48, 54, 48, 55, 48, 56, 48, 57, 49, 48, 49, 49, 49, 50, 49, 51, 49, 52, 49, 53, 49, 54, 49, 55, 49, 56, 49, 57, 50, 48, 50, 49, 50, 50, 50, 51, 50, 52, 50, 53, 50, 54, 50, 55, 50, 56, 50, 57, 51, 48, 51, 49, 51, 50, 51, 51, 51, 52, 51, 53, 51, 54, 51, 55, 51, 56, 51, 57, 52, 48, 52, 49, 52, 50, 52, 51, 52, 52, 52, 53, 52, 54, 52, 55, 52, 56, 52, 57, 53, 48, 53, 49, 53, 50, 53, 51, 53, 52, 53, 53, 53, 54, 53, 55, 53, 56, 53, 57, 54, 48, 54, 49, 54, 50, 54, 51, 54, 52, 54, 53, 54, 54, 54, 55, 54, 56, 54, 57, 55, 48, 55, 49, 55, 50, 55, 51, 55, 52, 55, 53, 55, 54, 55, 55, 55, 56, 55, 57, 56, 48, 56, 49, 56, 50, 56, 51, 56, 52, 56, 53, 56, 54, 56, 55, 56, 56, 56, 57, 57, 48, 57, 49, 57, 50, 57, 51, 57, 52, 57, 53, 57, 54, 57, 55, 57, 56, 57, 57]⟩ : ByteArray) (IntKind.u32.wrap (x114 + 1))))) fun H14 : Heap =>
  ∃ x135 : Addr, a0a_p = some x135 ∧ 0 ≤ IntKind.i64.wrap (nd4 - 4) ∧ IntKind.i64.wrap (nd4 - 4) < (a0a_l : Int) ∧ (∃ u, hcell H14 (x135.add ((IntKind.i64.wrap (nd4 - 4)).toNat)) = some u) ∧ hfrozen H14 (x135.add ((IntKind.i64.wrap (nd4 - 4)).toNat)) = false ∧
  letV (hset H14 (x135.add ((IntKind.i64.wrap (nd4 - 4)).toNat)) (.int .u8 (bt (⟨#[48, 48, 48, 49, 48, 50, 48, 51, 48, 52, 48, 53, 48, 54, 48, 55, 48, 56, 48, 57, 49, 48, 49, 49, 49, 50, 49, 51, 49, 52, 49, 53, 49, 54, 49, 55, 49, 56, 49, 57, 50, 48, 50, 49, 50, 50, 50, 51, 50, 52, 50, 53, 50, 54, 50, 55, 50, 56, 50, 57, 51, 48, 51, 49, 51, 50, 51, 51, 51, 52, 51, 53, 51, 54, 51, 55, 51, 56, 51, 57, 52, 48, 52, 49, 52, 50, 52, 51, 52, 52, 52, 53, 52, 54, 52, 55, 52, 56, 52, 57, 53, 48, 53, 49, 53, 50, 53, 51, 53, 52, 53, 53, 53, 54, 53, 55, 53, 56, 53, 57, 54, 48, 54, 49, 54, 50, 54, 51, 54, 52, 54, 53, 54, 54, 54, 55, 54, 56, 54, 57, 55, 48, 55, 49, 55, 50, 55, 51, 55, 52, 55, 53, 55, 54, 55, 55, 55, 56, 55, 57, 56, 48, 56, 49, 56, 50, 56, 51, 56, 52, 56, 53, 56, 54, 56, 55, 56, 56, 56, 57, 57, 48, 57, 49, 57, 50, 57, 51, 57, 52, 57, 53, 57, 54, 57, 55, 57, 56, 57, 57]⟩ : ByteArray) x114))) fun H15 : Heap =>
  letV (IntKind.i64.wrap (nd4 - 4)) fun nd4b : Int => J20 ((nd4b : Int), (x12 : Int), ()) H15) (J20 ((nd4 : Int), (x12 : Int), ()) H1))
  (fun s20 H11 => (fun (nd4 : Int) (x12 : Int) => 
  JoinW (S := (Int × Int × Unit)) (fun J25 =>
  brW (decide ((2 : Int) ≤ nd4)) ((100 : Int) ≠ 0 ∧
  letV (IntKind.u32.wrap ((Int.tmod x12 100) * 2)) fun x016 : Int => (100 : Int) ≠ 0 ∧
  letV (IntKind.u32.wrap (Int.tdiv x12 100)) fun x12 : Int => 0 ≤ IntKind.u32.wrap (x016 + 1) ∧ IntKind.u32.wrap (x016 + 1) < ((⟨#[48, 48, 48, 49, 48, 50, 48, 51, 48, 52, 48, 53, 48, 54, 48, 55, 48, 56, 48, 57, 49, 48, 49, 49, 49, 50, 49, 51, 49, 52, 49, 53, 49, 54, 49, 55, 49, 56, 49, 57, 50, 48, 50, 49, 50, 50, 50, 51, 50, 52, 50, 53, 50, 54, 50, 55, 50, 56, 50, 57, 51, 48, 51, 49, 51, 50, 51, 51, 51, 52, 51, 53, 51, 54, 51, 55, 51, 56, 51, 57, 52, 48, 52, 49, 52, 50, 52, 51, 52, 52, 52, 53, 52, 54, 52, 55, 52, 56, 52, 57, 53, 48, 53, 49, 53, 50, 53, 51, 53, 52, 53, 53, 53, 54, 53, 55, 53, 56, 53, 57, 54, 48, 54, 49, 54, 50, 54, 51, 54, 52, 54, 53, 54, 54, 54, 55, 54, 56, 54, 57, 55, 48, 55, 49, 55, 50, 55, 51, 55, 52, 55, 53, 55, 54, 55, 55, 55, 56, 55, 57, 56, 48, 56, 49, 56, 50, 56, 51, 56, 52, 56, 53, 56, 54, 56, 55, 56, 56, 56, 57, 57, 48, 57, 49, 57, 50, 57, 51, 57, 52, 57, 53, 57, 54, 57, 55, 57, 56, 57, 57]⟩ : ByteArray).size : Int) ∧ 0 ≤ x016 ∧ x016 < ((⟨#[48, 48, 48, 49, 48, 50, 48, 51, 48, 52, 48, 53, 48, 54, 48, 55, 48, 56, 48, 57, 49, 48, 49, 49, 49, 50, 49, 51, 49, 52, 49, 53, 49, 54, 49, 55, 49, 56, 49, 57, 50, 48, 50, 49, 50, 50, 50, 51, 50, 52, 50, 53, 50, 54, 50, 55, 50, 56, 50, 57, 51, 48, 51, 49, 51, 50, 51, 51, 51, 52, 51, 53, 51, 54, 51, 55, 51, 56, 51, 57, 52, 48, 52, 49, 52, 50, 52, 51, 52, 52, 52, 53, 52, 54, 52, 55, 52, 56, 52, 57, 53, 48, 53, 49, 53, 50, 53, 51, 53, 52, 53, 53, 53, 54, 53, 55, 53, 56, 53, 57, 54, 48, 54, 49, 54, 50, 54, 51, 54, 52, 54, 53, 54, 54, 54, 55, 54, 56, 54, 57, 55, 48, 55, 49, 55, 50, 55, 51, 55, 52, 55, 53, 55, 54, 55, 55, 55, 56, 55, 57, 56, 48, 56, 49, 56, 50, 56, 51, 56, 52, 56, 53, 56, 54, 56, 55, 56, 56, 56, 57, 57, 48, 57, 49, 57, 50, 57, 51, 57, 52, 57, 53, 57, 54, 57, 55, 57, 56, 57, 57]⟩ : ByteArray).size : Int) ∧
  ∃ x156 : Addr, a0a_p = some x156 ∧ 0 ≤ IntKind.i64.wrap (nd4 - 1) ∧ IntKind.i64.wrap (nd4 - 1) < (a0a_l : Int) ∧ (∃ u, hcell H11 (x156.add ((IntKind.i64.wrap (nd4 - 1)).toNat)) = some u) ∧ hfrozen H11 (x156.add ((IntKind.i64.wrap (nd4 - 1)).toNat)) = false ∧
  letV (hset H11 (x156.add ((IntKind.i64.wrap (nd4 - 1)).toNat)) (.int .u8 (bt (⟨#[48, 48, 48, 49, 48, 50, 48, 51, 48, 52, 48, 53, 48, 54, 48, 55, 48, 56, 48, 57, 49, 48, 49, 49, 49, 50, 49, 51, 49, 52, 49, 53, 49, 54, 49, 55, 49, 56, 49, 57, 50, 48, 50, 49, 50, 50, 50, 51, 50, 52, 50, 53, 50, 54, 50, 55, 50, 56, 50, 57, 51, 48, 51, 49, 51, 50, 51, 51, 51, 52, 51, 53, 51, 54, 51, 55, 51, 56, 51, 57, 52, 48, 52, 49, 52, 50, 52, 51, 52, 52, 52, 53, 52, 54, 52, 55, 52, 56, 52, 57, 53, 48, 53, 49, 53, 50, 53, 51, 53, 52, 53, 53, 53, 54, 53, 55, 53, 56, 53, 57, 54, 48, 54, 49, 54, 50, 54, 51, 54, 52, 54, 53, 54, 54, 54, 55, 54, 56, 54, 57, 55, 48, 55, 49, 55, 50, 55, 51, 55, 52, 55, 53, 55, 54, 55, 55, 55, 56, 55, 57, 56, 48, 56, 49, 56, 50, 56, 51, 56, 52, 56, 53, 56, 54, 56, 55, 56, 56, 56, 57, 57, 48, 57, 49, 57, 50, 57, 51, 57, 52, 57, 53, 57, 54, 57, 55, 57, 56, 57, 57]⟩ : ByteArray) (IntKind.u32.wrap (x016 + 1))))) fun H17 : Heap =>
  ∃ x157 : Addr, a0a_p = some x157 ∧ 0 ≤ IntKind.i64.wrap (nd4 - 2) ∧ IntKind.i64.wrap (nd4 - 2) < (a0a_l : Int) ∧ (∃ u, hcell H17 (x157.add ((IntKind.i64.wrap (nd4 - 2)).toNat)) = some u) ∧ hfrozen H17 (x157.add ((IntKind.i64.wrap (nd4 - 2)).toNat)) = false ∧
  letV (hset H17 (x157.add ((IntKind.i64.wrap (nd4 - 2)).toNat)) (.int .u8 (bt (⟨#[48, 48, 48, 49, 48, 50, 48, 51, 48, 52, 48, 53, 48, 54, 48, 55, 48, 56, 48, 57, 49, 48, 49, 49, 49, 50, 49, 51, 49, 52, 49, 53, 49, 54, 49, 55, 49, 56, 49, 57, 50, 48, 50, 49, 50, 50, 50, 51, 50, 52, 50, 53, 50, 54, 50, 55, 50, 56, 50, 57, 51, 48, 51, 49, 51, 50, 51, 51, 51, 52, 51, 53, 51, 54, 51, 55, 51, 56, 51, 57, 52, 48, 52, 49, 52, 50, 52, 51, 52, 52, 52, 53, 52, 54, 52, 55, 52, 56, 52, 57, 53, 48, 53, 49, 53, 50, 53, 51, 53, 52, 53, 53, 53, 54, 53, 55, 53, 56, 53, 57, 54, 48, 54, 49, 54, 50, 54, 51, 54, 52, 54, 53, 54, 54, 54, 55, 54, 56, 54, 57, 55, 48, 55, 49, 55, 50, 55, 51, 55, 52, 55, 53, 55, 54, 55, 55, 55, 56, 55, 57, 56, 48, 56, 49, 56, 50, 56, 51, 56, 52, 56, 53, 56, 54, 56, 55, 56, 56, 56, 57, 57, 48, 57, 49, 57, 50, 57, 51, 57, 52, 57, 53, 57, 54, 57, 55, 57, 56, 57, 57]⟩ : ByteArray) x016))) fun H18 : Heap =>
  letV (IntKind.i64.wrap (nd4 - 2)) fun nd4b : Int => J25 ((nd4b : Int), (x12 : Int), ()) H18) (J25 ((nd4 : Int), (x12 : Int), ()) H11))
  (fun s25 H16 => (fun (nd4 : Int) (x12 : Int) =>
  brW (decide ((0 : Int) < nd4)) (∃ x166 : Addr, a0a_p = some x166 ∧ 0 ≤ (0 : Int) ∧ (0 : Int) < (a0a_l : Int) ∧ (∃ u, hcell H16 (x166.add ((0 : Int).toNat)) = some u) ∧ hfrozen H16 (x166.add ((0 : Int).toNat)) = false ∧
  letV (hset H16 (x166.add ((0 : Int).toNat)) (.int .u8 (IntKind.u8.wrap (IntKind.u32.wrap (48 + x12))))) fun H19 : Heap => R H19) (R H16)) s25.1 s25.2.1)) s20.1 s20.2.1)) s12.1 s12.2.1)
theorem strconv_formatBase10.eq (a0a_p : Option Addr) (a0a_l a0a_c : Nat) (a1u : Int) (R : Heap → Prop) (H0 : Heap) :
    evF Tryd.prog strconv_formatBase10.ann Tryd.f60 [.slice a0a_p a0a_l a0a_c, .int .u64 a1u] (fun v H' => xT [] v fun _ => R H') H0 = strconv_formatBase10.W a0a_p a0a_l a0a_c a1u R H0 := by kernel_rfl
theorem strconv_formatBase10.calls {a0a_p : Option Addr} {a0a_l a0a_c : Nat} {a1u : Int} {R : Heap → Prop} {H0 : Heap} (h : strconv_formatBase10.W a0a_p a0a_l a0a_c a1u R H0) : strconv_formatBase10.C a0a_p a0a_l a0a_c a1u H0 R :=
  (evF_sound progOk_ Tryd.func60 (by rw [strconv_formatBase10.eq]; exact h)).mono fun v H' h => by obtain ⟨x, hv, hk⟩ := xT_out h; exact ⟨hv, hk⟩

def strconv_isPowerOfTwo.ann : Ann := { ord := fun _ => [], loop := fun _ => none, join := fun _ => none }
/-- internal.strconv.isPowerOfTwo -/
def strconv_isPowerOfTwo.W (a0x : Int) (R : Bool → Heap → Prop) (H0 : Heap) : Prop :=
  R (decide ((andW .i64 a0x (IntKind.i64.wrap (a0x - 1))) = 0)) H0
theorem strconv_isPowerOfTwo.eq (a0x : Int) (R : Bool → Heap → Prop) (H0 : Heap) :
    evF Tryd.prog strconv_isPowerOfTwo.ann Tryd.f67 [.int .i64 a0x] (fun v H' => xS (.one .bool) v fun r => R r H') H0 = strconv_isPowerOfTwo.W a0x R H0 := by kernel_rfl
theorem strconv_isPowerOfTwo.calls {a0x : Int} {R : Bool → Heap → Prop} {H0 : Heap} (h : strconv_isPowerOfTwo.W a0x R H0) : strconv_isPowerOfTwo.C a0x H0 R :=
  (evF_sound progOk_ Tryd.func67 (by rw [strconv_isPowerOfTwo.eq]; exact h)).mono fun v H' h => by obtain ⟨x, hv, hk⟩ := xS_out h; exact ⟨x, hv, hk⟩

def bits_TrailingZeros32.ann : Ann := { ord := fun _ => [], loop := fun _ => none, join := fun _ => none }
/-- math.bits.TrailingZeros32 -/
def bits_TrailingZeros32.W (a0x : Int) (R : Int → Heap → Prop) (H0 : Heap) : Prop :=
  brW (decide (a0x = 0)) (R (32) H0) (0 ≤ (27 : Int) ∧ 0 ≤ shrW .u32 (IntKind.u32.wrap ((andW .u32 a0x (IntKind.u32.wrap (0 - a0x))) * 125613361)) 27 ∧ shrW .u32 (IntKind.u32.wrap ((andW .u32 a0x (IntKind.u32.wrap (0 - a0x))) * 125613361)) 27 < ((32 : Nat) : Int) ∧
  ∃ x12 : Int, hcell H0 ((⟨gl_bits_deBruijn32tab, 0, none⟩ : Addr).add (mulSize (shrW .u32 (IntKind.u32.wrap ((andW .u32 a0x (IntKind.u32.wrap (0 - a0x))) * 125613361)) 27).toNat 1)) = some (.int .u8 x12) ∧
  letV (IntKind.i64.wrap x12) fun x2 : Int => R (x2) H0)
theorem bits_TrailingZeros32.eq (a0x : Int) (R : Int → Heap → Prop) (H0 : Heap) :
    evF Tryd.prog bits_TrailingZeros32.ann Tryd.f70 [.int .u32 a0x] (fun v H' => xS (.one (.int .i64)) v fun r => R r H') H0 = bits_TrailingZeros32.W a0x R H0 := by kernel_rfl
theorem bits_TrailingZeros32.calls {a0x : Int} {R : Int → Heap → Prop} {H0 : Heap} (h : bits_TrailingZeros32.W a0x R H0) : bits_TrailingZeros32.C a0x H0 R :=
  (evF_sound progOk_ Tryd.func70 (by rw [bits_TrailingZeros32.eq]; exact h)).mono fun v H' h => by obtain ⟨x, hv, hk⟩ := xS_out h; exact ⟨x, hv, hk⟩

def bits_TrailingZeros64.ann : Ann := { ord := fun _ => [], loop := fun _ => none, join := fun _ => none }
/-- math.bits.TrailingZeros64 -/
def bits_TrailingZeros64.W (a0x : Int) (R : Int → Heap → Prop) (H0 : Heap) : Prop :=
  brW (decide (a0x = 0)) (R (64) H0) (0 ≤ (58 : Int) ∧ 0 ≤ shrW .u64 (IntKind.u64.wrap ((andW .u64 a0x (IntKind.u64.wrap (0 - a0x))) * 285870213051353865)) 58 ∧ shrW .u64 (IntKind.u64.wrap ((andW .u64 a0x (IntKind.u64.wrap (0 - a0x))) * 285870213051353865)) 58 < ((64 : Nat) : Int) ∧
  ∃ x12 : Int, hcell H0 ((⟨gl_bits_deBruijn64tab, 0, none⟩ : Addr).add (mulSize (shrW .u64 (IntKind.u64.wrap ((andW .u64 a0x (IntKind.u64.wrap (0 - a0x))) * 285870213051353865)) 58).toNat 1)) = some (.int .u8 x12) ∧
  letV (IntKind.i64.wrap x12) fun x2 : Int => R (x2) H0)
theorem bits_TrailingZeros64.eq (a0x : Int) (R : Int → Heap → Prop) (H0 : Heap) :
    evF Tryd.prog bits_TrailingZeros64.ann Tryd.f71 [.int .u64 a0x] (fun v H' => xS (.one (.int .i64)) v fun r => R r H') H0 = bits_TrailingZeros64.W a0x R H0 := by kernel_rfl
theorem bits_TrailingZeros64.calls {a0x : Int} {R : Int → Heap → Prop} {H0 : Heap} (h : bits_TrailingZeros64.W a0x R H0) : bits_TrailingZeros64.C a0x H0 R :=
  (evF_sound progOk_ Tryd.func71 (by rw [bits_TrailingZeros64.eq]; exact h)).mono fun v H' h => by obtain ⟨x, hv, hk⟩ := xS_out h; exact ⟨x, hv, hk⟩

def bits_TrailingZeros.ann : Ann := { ord := fun _ => [], loop := fun _ => none, join := fun _ => none }
/-- math.bits.TrailingZeros -/
def bits_TrailingZeros.W (a0x : Int) (R : Int → Heap → Prop) (H0 : Heap) : Prop :=
  bits_TrailingZeros64.C (a0x) H0 fun x7 H1 => R (x7) H1
theorem bits_TrailingZeros.eq (a0x : Int) (R : Int → Heap → Prop) (H0 : Heap) :
    evF Tryd.prog bits_TrailingZeros.ann Tryd.f68 [.int .u64 a0x] (fun v H' => xS (.one (.int .i64)) v fun r => R r H') H0 = bits_TrailingZeros.W a0x R H0 := by kernel_rfl
theorem bits_TrailingZeros.calls {a0x : Int} {R : Int → Heap → Prop} {H0 : Heap} (h : bits_TrailingZeros.W a0x R H0) : bits_TrailingZeros.C a0x H0 R :=
  (evF_sound progOk_ Tryd.func68 (by rw [bits_TrailingZeros.eq]; exact h)).mono fun v H' h => by obtain ⟨x, hv, hk⟩ := xS_out h; exact ⟨x, hv, hk⟩

def strconv_Itoa_43.ann : Ann := { ord := fun _ => [], loop := fun _ => none, join := fun _ => none }
/-- internal.strconv.Itoa -/
def strconv_Itoa_43.W (a0i : Int) (R : ByteArray → Heap → Prop) (H0 : Heap) : Prop :=
  strconv_FormatInt.C (a0i) (10) H0 fun x4 H1 => R x4 H1
theorem strconv_Itoa_43.eq (a0i : Int) (R : ByteArray → Heap → Prop) (H0 : Heap) :
    evF Tryd.prog strconv_Itoa_43.ann Tryd.f43 [.int .i64 a0i] (fun v H' => xS (.one .str) v fun r => R r H') H0 = strconv_Itoa_43.W a0i R H0 := by kernel_rfl
theorem strconv_Itoa_43.calls {a0i : Int} {R : ByteArray → Heap → Prop} {H0 : Heap} (h : strconv_Itoa_43.W a0i R H0) : strconv_Itoa_43.C a0i H0 R :=
  (evF_sound progOk_ Tryd.func43 (by rw [strconv_Itoa_43.eq]; exact h)).mono fun v H' h => by obtain ⟨x, hv, hk⟩ := xS_out h; exact ⟨x, hv, hk⟩

def strconv_Itoa_31.ann : Ann := { ord := fun _ => [], loop := fun _ => none, join := fun _ => none }
/-- strconv.Itoa -/
def strconv_Itoa_31.W (a0i : Int) (R : ByteArray → Heap → Prop) (H0 : Heap) : Prop :=
  strconv_Itoa_43.C (a0i) H0 fun x4 H1 => R x4 H1
theorem strconv_Itoa_31.eq (a0i : Int) (R : ByteArray → Heap → Prop) (H0 : Heap) :
    evF Tryd.prog strconv_Itoa_31.ann Tryd.f31 [.int .i64 a0i] (fun v H' => xS (.one .str) v fun r => R r H') H0 = strconv_Itoa_31.W a0i R H0 := by kernel_rfl
theorem strconv_Itoa_31.calls {a0i : Int} {R : ByteArray → Heap → Prop} {H0 : Heap} (h : strconv_Itoa_31.W a0i R H0) : strconv_Itoa_31.C a0i H0 R :=
  (evF_sound progOk_ Tryd.func31 (by rw [strconv_Itoa_31.eq]; exact h)).mono fun v H' h => by obtain ⟨x, hv, hk⟩ := xS_out h; exact ⟨x, hv, hk⟩

def report_words.ann : Ann := { ord := fun _ => [], loop := fun i => bif Nat.beq i 3 then some [(3, .one .slice), (12, .one (.int .i64))] else none, join := fun i => bif Nat.beq i 9 then some [(6, .one .str), (7, .one .bool)] else bif Nat.beq i 11 then some [(3, .one .slice)] else bif Nat.beq i 12 then some [(3, .one .slice)] else none }
/-- bracken.report.words -/
def report_words.W (a0l_p : Option Addr) (a0l_l a0l_c : Nat) (R : ByteArray → Heap → Prop) (H0 : Heap) : Prop :=
  
  JoinW (S := ((Option Addr × Nat × Nat) × Unit)) (fun J12 => 
  LoopW (S := ((Option Addr × Nat × Nat) × Int × Unit)) (fun L3 q3 H2 => (fun (out3_p : Option Addr) (out3_l out3_c : Nat) (x12 : Int) =>
  brW (decide (x12 < (a0l_l : Int))) (
  JoinW (S := ((Option Addr × Nat × Nat) × Unit)) (fun J11 =>
  ∃ x14 : Addr, a0l_p = some x14 ∧ 0 ≤ x12 ∧ x12 < (a0l_l : Int) ∧
  ∃ x15 : Value, hcell H2 (x14.add x12.toNat) = some (x15) ∧
  ∃ x18 : ByteArray, ∃ x18ok : Bool, TaRel (x15) ty_string (.string x18) (.string (⟨#[]⟩ : ByteArray)) x18ok ∧ 
  JoinW (S := (ByteArray × Bool × Unit)) (fun J9 =>
  ∃ x23 : Int, ∃ x23ok : Bool, TaRel (x15) ty_int (.int .i64 x23) (.int .i64 0) x23ok ∧
  brW x23ok (strconv_Itoa_31.C (x23) H2 fun x28 H5 => J9 (x28, true, ()) H5) (J9 (x18, x18ok, ()) H2))
  (fun s9 H4 => (fun (s6 : ByteArray) (is7 : Bool) =>
  brW is7 (letV (hnew H4 #[.string s6] ty_string) fun H6 : Heap => appW ty_string 1 16 (.string (⟨#[]⟩ : ByteArray)) out3_p out3_l out3_c (.slice (some ⟨Array.size H4, 0, none⟩) 1 1) H6 fun x33_p x33_l x33_c H7 => J11 ((x33_p, x33_l, x33_c), ()) H7) (J11 ((out3_p, out3_l, out3_c), ()) H4)) s9.1 s9.2.1))
  (fun s11 H3 => (fun (out3_p : Option Addr) (out3_l out3_c : Nat) => L3 ((out3_p, out3_l, out3_c), (IntKind.i64.wrap (x12 + 1) : Int), ()) H3) s11.1.1 s11.1.2.1 s11.1.2.2)) (J12 ((out3_p, out3_l, out3_c), ()) H2)) q3.1.1 q3.1.2.1 q3.1.2.2 q3.2.1) ((none, 0, 0), (0 : Int), ()) H0)
  (fun s12 H1 => (fun (out3_p : Option Addr) (out3_l out3_c : Nat) =>
  strings_Join.C (out3_p) out3_l out3_c (⟨#[32]⟩ : ByteArray) H1 fun x36 H8 => R x36 H8) s12.1.1 s12.1.2.1 s12.1.2.2)
theorem report_words.eq (a0l_p : Option Addr) (a0l_l a0l_c : Nat) (R : ByteArray → Heap → Prop) (H0 : Heap) :
    evF Tryd.prog report_words.ann Tryd.f17 [.slice a0l_p a0l_l a0l_c] (fun v H' => xS (.one .str) v fun r => R r H') H0 = report_words.W a0l_p a0l_l a0l_c R H0 := by kernel_rfl
theorem report_words.calls {a0l_p : Option Addr} {a0l_l a0l_c : Nat} {R : ByteArray → Heap → Prop} {H0 : Heap} (h : report_words.W a0l_p a0l_l a0l_c R H0) : report_words.C a0l_p a0l_l a0l_c H0 R :=
  (evF_sound progOk_ Tryd.func17 (by rw [report_words.eq]; exact h)).mono fun v H' h => by obtain ⟨x, hv, hk⟩ := xS_out h; exact ⟨x, hv, hk⟩

def report_Line.ann : Ann := { ord := fun _ => [], loop := fun _ => none, join := fun i => bif Nat.beq i 3 then some [(12, .one .bool)] else bif Nat.beq i 4 then some [(3, .one .str)] else bif Nat.beq i 11 then some [(4, .one .str)] else none }
/-- bracken.report.Line -/
def report_Line.W (a0n_0 : Int) (a0n_1 : Int) (a0n_2 : ByteArray) (a0n_3 : ByteArray) (a0n_4 : ByteArray) (a0n_5 : ByteArray) (a0n_6_p : Option Addr) (a0n_6_l a0n_6_c : Nat) (R : ByteArray → Heap → Prop) (H0 : Heap) : Prop :=
  letV (hnew H0 #[.int .i64 a0n_0, .int .i64 a0n_1, .string a0n_2, .string a0n_3, .string a0n_4, .string a0n_5, .slice a0n_6_p a0n_6_l a0n_6_c] ty_api_Node) fun H1 : Heap => 
  JoinW (S := (ByteArray × Unit)) (fun J4 => 
  JoinW (S := (Bool × Unit)) (fun J3 =>
  ∃ x6 : Int, hcell H1 ((⟨Array.size H0, 0, none⟩ : Addr).add 1) = some (.int .i64 x6) ∧
  brW (decide ((0 : Int) ≤ x6)) (∃ x10 : Int, hcell H1 ((⟨Array.size H0, 0, none⟩ : Addr).add 1) = some (.int .i64 x10) ∧ J3 (decide (x10 ≤ 201), ()) H1) (J3 (false, ()) H1))
  (fun s3 H3 => (fun (x12 : Bool) =>
  brW x12 (∃ x14 : Int, hcell H3 ((⟨Array.size H0, 0, none⟩ : Addr).add 1) = some (.int .i64 x14) ∧ strings_Repeat.C (⟨#[32, 32]⟩ : ByteArray) (x14) H3 fun x15 H4 => J4 (x15, ()) H4) (J4 ((⟨#[]⟩ : ByteArray), ()) H3)) s3.1))
  (fun s4 H2 => (fun (s3 : ByteArray) =>
  ∃ x17 : Int, hcell H2 ((⟨Array.size H0, 0, none⟩ : Addr).add 0) = some (.int .i64 x17) ∧
  brW (decide (x17 = 1)) (s3.size + (⟨#[100, 111, 99, 117, 109, 101, 110, 116]⟩ : ByteArray).size ≤ 9223372036854775807 ∧ R (s3 ++ (⟨#[100, 111, 99, 117, 109, 101, 110, 116]⟩ : ByteArray)) H2) (brW (decide (x17 = 2)) (∃ x25 : ByteArray, hcell H2 ((⟨Array.size H0, 0, none⟩ : Addr).add 3) = some (.string x25) ∧ 
  JoinW (S := (ByteArray × Unit)) (fun J11 =>
  ∃ x27 : ByteArray, hcell H2 ((⟨Array.size H0, 0, none⟩ : Addr).add 2) = some (.string x27) ∧
  brW (decide (x27 ≠ (⟨#[]⟩ : ByteArray))) (∃ x30 : ByteArray, hcell H2 ((⟨Array.size H0, 0, none⟩ : Addr).add 2) = some (.string x30) ∧ x30.size + (⟨#[58]⟩ : ByteArray).size ≤ 9223372036854775807 ∧ (x30 ++ (⟨#[58]⟩ : ByteArray)).size + x25.size ≤ 9223372036854775807 ∧ J11 ((x30 ++ (⟨#[58]⟩ : ByteArray)) ++ x25, ()) H2) (J11 (x25, ()) H2))
  (fun s11 H5 => (fun (name4 : ByteArray) =>
  ∃ x37 : ByteArray, hcell H5 ((⟨Array.size H0, 0, none⟩ : Addr).add 4) = some (.string x37) ∧ (⟨#[123]⟩ : ByteArray).size + x37.size ≤ 9223372036854775807 ∧ ((⟨#[123]⟩ : ByteArray) ++ x37).size + (⟨#[125]⟩ : ByteArray).size ≤ 9223372036854775807 ∧ (((⟨#[123]⟩ : ByteArray) ++ x37) ++ (⟨#[125]⟩ : ByteArray)).size + name4.size ≤ 9223372036854775807 ∧
  ∃ (x44_p : Option Addr) (x44_l x44_c : Nat), hcell H5 ((⟨Array.size H0, 0, none⟩ : Addr).add 6) = some (.slice x44_p x44_l x44_c) ∧
  letV (hnew H5 #[.iface ty_string (.string (⟨#[101, 108, 101, 109, 101, 110, 116]⟩ : ByteArray)), .iface ty_string (.string ((((⟨#[123]⟩ : ByteArray) ++ x37) ++ (⟨#[125]⟩ : ByteArray)) ++ name4)), .iface ty_int (.int .i64 (x44_l : Int))] ty_any) fun H6 : Heap =>
  report_words.C (some ⟨Array.size H5, 0, none⟩) 3 3 H6 fun x48 H7 => s3.size + x48.size ≤ 9223372036854775807 ∧ R (s3 ++ x48) H7) s11.1)) (brW (decide (x17 = 3)) (∃ x55 : ByteArray, hcell H2 ((⟨Array.size H0, 0, none⟩ : Addr).add 5) = some (.string x55) ∧
  letV (hnew H2 #[.iface ty_string (.string (⟨#[116, 101, 120, 116]⟩ : ByteArray)), .iface ty_int (.int .i64 (x55.size : Int))] ty_any) fun H8 : Heap =>
  report_words.C (some ⟨Array.size H2, 0, none⟩) 2 2 H8 fun x59 H9 => s3.size + x59.size ≤ 9223372036854775807 ∧ R (s3 ++ x59) H9) (brW (decide (x17 = 4)) (∃ x66 : ByteArray, hcell H2 ((⟨Array.size H0, 0, none⟩ : Addr).add 5) = some (.string x66) ∧
  letV (hnew H2 #[.iface ty_string (.string (⟨#[99, 111, 109, 109, 101, 110, 116]⟩ : ByteArray)), .iface ty_int (.int .i64 (x66.size : Int))] ty_any) fun H10 : Heap =>
  report_words.C (some ⟨Array.size H2, 0, none⟩) 2 2 H10 fun x70 H11 => s3.size + x70.size ≤ 9223372036854775807 ∧ R (s3 ++ x70) H11) (brW (decide (x17 = 5)) (∃ x77 : ByteArray, hcell H2 ((⟨Array.size H0, 0, none⟩ : Addr).add 3) = some (.string x77) ∧
  letV (hnew H2 #[.iface ty_string (.string (⟨#[112, 105]⟩ : ByteArray)), .iface ty_string (.string x77)] ty_any) fun H12 : Heap =>
  report_words.C (some ⟨Array.size H2, 0, none⟩) 2 2 H12 fun x80 H13 => s3.size + x80.size ≤ 9223372036854775807 ∧ R (s3 ++ x80) H13) (s3.size + (⟨#[63]⟩ : ByteArray).size ≤ 9223372036854775807 ∧ R (s3 ++ (⟨#[63]⟩ : ByteArray)) H2)))))) s4.1)
theorem report_Line.eq (a0n_0 : Int) (a0n_1 : Int) (a0n_2 : ByteArray) (a0n_3 : ByteArray) (a0n_4 : ByteArray) (a0n_5 : ByteArray) (a0n_6_p : Option Addr) (a0n_6_l a0n_6_c : Nat) (R : ByteArray → Heap → Prop) (H0 : Heap) :
    evF Tryd.prog report_Line.ann Tryd.f8 [.agg #[.int .i64 a0n_0, .int .i64 a0n_1, .string a0n_2, .string a0n_3, .string a0n_4, .string a0n_5, .slice a0n_6_p a0n_6_l a0n_6_c]] (fun v H' => xS (.one .str) v fun r => R r H') H0 = report_Line.W a0n_0 a0n_1 a0n_2 a0n_3 a0n_4 a0n_5 a0n_6_p a0n_6_l a0n_6_c R H0 := by kernel_rfl
theorem report_Line.calls {a0n_0 : Int} {a0n_1 : Int} {a0n_2 : ByteArray} {a0n_3 : ByteArray} {a0n_4 : ByteArray} {a0n_5 : ByteArray} {a0n_6_p : Option Addr} {a0n_6_l a0n_6_c : Nat} {R : ByteArray → Heap → Prop} {H0 : Heap} (h : report_Line.W a0n_0 a0n_1 a0n_2 a0n_3 a0n_4 a0n_5 a0n_6_p a0n_6_l a0n_6_c R H0) : report_Line.C a0n_0 a0n_1 a0n_2 a0n_3 a0n_4 a0n_5 a0n_6_p a0n_6_l a0n_6_c H0 R :=
  (evF_sound progOk_ Tryd.func8 (by rw [report_Line.eq]; exact h)).mono fun v H' h => by obtain ⟨x, hv, hk⟩ := xS_out h; exact ⟨x, hv, hk⟩

def report_Tree.ann : Ann := { ord := fun _ => [], loop := fun i => bif Nat.beq i 3 then some [(8, .one (.int .i64))] else none, join := fun i => bif Nat.beq i 7 then some [] else none }
/-- bracken.report.Tree -/
def report_Tree.W (a0t_p : Option Addr) (a0t_l a0t_c : Nat) (R : ByteArray → Heap → Prop) (H0 : Heap) : Prop :=
  letV (hnew H0 #[.pointer none, .slice none 0 0] ty_strings_Builder) fun H1 : Heap => 
  JoinW (S := Unit) (fun J7 => 
  LoopW (S := (Int × Unit)) (fun L3 q3 H3 => (fun (x8 : Int) =>
  brW (decide (x8 < (a0t_l : Int))) (∃ x10 : Addr, a0t_p = some x10 ∧ 0 ≤ x8 ∧ x8 < (a0t_l : Int) ∧
  ∃ x11_0 : Int, hcell H3 ((x10.add (x8.toNat * 7)).add 0) = some (.int .i64 x11_0) ∧
  ∃ x11_1 : Int, hcell H3 ((x10.add (x8.toNat * 7)).add 1) = some (.int .i64 x11_1) ∧
  ∃ x11_2 : ByteArray, hcell H3 ((x10.add (x8.toNat * 7)).add 2) = some (.string x11_2) ∧
  ∃ x11_3 : ByteArray, hcell H3 ((x10.add (x8.toNat * 7)).add 3) = some (.string x11_3) ∧
  ∃ x11_4 : ByteArray, hcell H3 ((x10.add (x8.toNat * 7)).add 4) = some (.string x11_4) ∧
  ∃ x11_5 : ByteArray, hcell H3 ((x10.add (x8.toNat * 7)).add 5) = some (.string x11_5) ∧
  ∃ (x11_6_p : Option Addr) (x11_6_l x11_6_c : Nat), hcell H3 ((x10.add (x8.toNat * 7)).add 6) = some (.slice x11_6_p x11_6_l x11_6_c) ∧
  letV (hnew H3 #[.int .i64 0, .int .i64 0, .string (⟨#[]⟩ : ByteArray), .string (⟨#[]⟩ : ByteArray), .string (⟨#[]⟩ : ByteArray), .string (⟨#[]⟩ : ByteArray), .slice none 0 0] ty_api_Node) fun H4 : Heap => (∃ u, hcell H4 ((⟨Array.size H3, 0, none⟩ : Addr).add 0) = some u) ∧ hfrozen H4 ((⟨Array.size H3, 0, none⟩ : Addr).add 0) = false ∧
  letV (hset H4 ((⟨Array.size H3, 0, none⟩ : Addr).add 0) (.int .i64 x11_0)) fun H6 : Heap => (∃ u, hcell H6 ((⟨Array.size H3, 0, none⟩ : Addr).add 1) = some u) ∧ hfrozen H6 ((⟨Array.size H3, 0, none⟩ : Addr).add 1) = false ∧
  letV (hset H6 ((⟨Array.size H3, 0, none⟩ : Addr).add 1) (.int .i64 x11_1)) fun H7 : Heap => (∃ u, hcell H7 ((⟨Array.size H3, 0, none⟩ : Addr).add 2) = some u) ∧ hfrozen H7 ((⟨Array.size H3, 0, none⟩ : Addr).add 2) = false ∧
  letV (hset H7 ((⟨Array.size H3, 0, none⟩ : Addr).add 2) (.string x11_2)) fun H8 : Heap => (∃ u, hcell H8 ((⟨Array.size H3, 0, none⟩ : Addr).add 3) = some u) ∧ hfrozen H8 ((⟨Array.size H3, 0, none⟩ : Addr).add 3) = false ∧
  letV (hset H8 ((⟨Array.size H3, 0, none⟩ : Addr).add 3) (.string x11_3)) fun H9 : Heap => (∃ u, hcell H9 ((⟨Array.size H3, 0, none⟩ : Addr).add 4) = some u) ∧ hfrozen H9 ((⟨Array.size H3, 0, none⟩ : Addr).add 4) = false ∧
  letV (hset H9 ((⟨Array.size H3, 0, none⟩ : Addr).add 4) (.string x11_4)) fun H10 : Heap => (∃ u, hcell H10 ((⟨Array.size H3, 0, none⟩ : Addr).add 5) = some u) ∧ hfrozen H10 ((⟨Array.size H3, 0, none⟩ : Addr).add 5) = false ∧
  letV (hset H10 ((⟨Array.size H3, 0, none⟩ : Addr).add 5) (.string x11_5)) fun H11 : Heap => (∃ u, hcell H11 ((⟨Array.size H3, 0, none⟩ : Addr).add 6) = some u) ∧ hfrozen H11 ((⟨Array.size H3, 0, none⟩ : Addr).add 6) = false ∧
  letV (hset H11 ((⟨Array.size H3, 0, none⟩ : Addr).add 6) (.slice x11_6_p x11_6_l x11_6_c)) fun H12 : Heap =>
  ∃ x12_0 : Int, hcell H12 ((⟨Array.size H3, 0, none⟩ : Addr).add 0) = some (.int .i64 x12_0) ∧
  ∃ x12_1 : Int, hcell H12 ((⟨Array.size H3, 0, none⟩ : Addr).add 1) = some (.int .i64 x12_1) ∧
  ∃ x12_2 : ByteArray, hcell H12 ((⟨Array.size H3, 0, none⟩ : Addr).add 2) = some (.string x12_2) ∧
  ∃ x12_3 : ByteArray, hcell H12 ((⟨Array.size H3, 0, none⟩ : Addr).add 3) = some (.string x12_3) ∧
  ∃ x12_4 : ByteArray, hcell H12 ((⟨Array.size H3, 0, none⟩ : Addr).add 4) = some (.string x12_4) ∧
  ∃ x12_5 : ByteArray, hcell H12 ((⟨Array.size H3, 0, none⟩ : Addr).add 5) = some (.string x12_5) ∧
  ∃ (x12_6_p : Option Addr) (x12_6_l x12_6_c : Nat), hcell H12 ((⟨Array.size H3, 0, none⟩ : Addr).add 6) = some (.slice x12_6_p x12_6_l x12_6_c) ∧ report_Line.C (x12_0) (x12_1) x12_2 x12_3 x12_4 x12_5 (x12_6_p) x12_6_l x12_6_c H12 fun x13 H13 => x13.size + (⟨#[10]⟩ : ByteArray).size ≤ 9223372036854775807 ∧ strings_Builder_WriteString.C (some ⟨Array.size H0, 0, none⟩) (x13 ++ (⟨#[10]⟩ : ByteArray)) H13 fun x15_0 x15_1 H14 => L3 ((IntKind.i64.wrap (x8 + 1) : Int), ()) H14) (J7 () H3)) q3.1) ((0 : Int), ()) H1)
  (fun _ H2 =>
  strings_Builder_String.C (some ⟨Array.size H0, 0, none⟩) H2 fun x17 H15 => R x17 H15)
theorem report_Tree.eq (a0t_p : Option Addr) (a0t_l a0t_c : Nat) (R : ByteArray → Heap → Prop) (H0 : Heap) :
    evF Tryd.prog report_Tree.ann Tryd.f12 [.slice a0t_p a0t_l a0t_c] (fun v H' => xS (.one .str) v fun r => R r H') H0 = report_Tree.W a0t_p a0t_l a0t_c R H0 := by kernel_rfl
theorem report_Tree.calls {a0t_p : Option Addr} {a0t_l a0t_c : Nat} {R : ByteArray → Heap → Prop} {H0 : Heap} (h : report_Tree.W a0t_p a0t_l a0t_c R H0) : report_Tree.C a0t_p a0t_l a0t_c H0 R :=
  (evF_sound progOk_ Tryd.func12 (by rw [report_Tree.eq]; exact h)).mono fun v H' h => by obtain ⟨x, hv, hk⟩ := xS_out h; exact ⟨x, hv, hk⟩

def report_Counts.ann : Ann := { ord := fun _ => [], loop := fun i => bif Nat.beq i 3 then some [(8, .one (.int .i64))] else none, join := fun i => bif Nat.beq i 6 then some [(19, .one .bool)] else bif Nat.beq i 8 then some [] else bif Nat.beq i 9 then some [] else none }
/-- bracken.report.Counts -/
def report_Counts.W (a0t_p : Option Addr) (a0t_l a0t_c : Nat) (R : Int → Int → Int → Int → Int → Int → Heap → Prop) (H0 : Heap) : Prop :=
  letV (hnew H0 #[.int .i64 0, .int .i64 0, .int .i64 0, .int .i64 0, .int .i64 0, .int .i64 0] ty_6_int) fun H1 : Heap =>
  letV (hnew H1 #[.int .i64 0, .int .i64 0, .int .i64 0, .int .i64 0, .int .i64 0, .int .i64 0] ty_6_int) fun H2 : Heap => 
  JoinW (S := Unit) (fun J9 => 
  LoopW (S := (Int × Unit)) (fun L3 q3 H4 => (fun (x8 : Int) =>
  brW (decide (x8 < (a0t_l : Int))) (
  JoinW (S := Unit) (fun J8 =>
  ∃ x10 : Addr, a0t_p = some x10 ∧ 0 ≤ x8 ∧ x8 < (a0t_l : Int) ∧
  ∃ x11_0 : Int, hcell H4 ((x10.add (x8.toNat * 7)).add 0) = some (.int .i64 x11_0) ∧
  ∃ x11_1 : Int, hcell H4 ((x10.add (x8.toNat * 7)).add 1) = some (.int .i64 x11_1) ∧
  ∃ x11_2 : ByteArray, hcell H4 ((x10.add (x8.toNat * 7)).add 2) = some (.string x11_2) ∧
  ∃ x11_3 : ByteArray, hcell H4 ((x10.add (x8.toNat * 7)).add 3) = some (.string x11_3) ∧
  ∃ x11_4 : ByteArray, hcell H4 ((x10.add (x8.toNat * 7)).add 4) = some (.string x11_4) ∧
  ∃ x11_5 : ByteArray, hcell H4 ((x10.add (x8.toNat * 7)).add 5) = some (.string x11_5) ∧
  ∃ (x11_6_p : Option Addr) (x11_6_l x11_6_c : Nat), hcell H4 ((x10.add (x8.toNat * 7)).add 6) = some (.slice x11_6_p x11_6_l x11_6_c) ∧
  letV (hnew H4 #[.int .i64 0, .int .i64 0, .string (⟨#[]⟩ : ByteArray), .string (⟨#[]⟩ : ByteArray), .string (⟨#[]⟩ : ByteArray), .string (⟨#[]⟩ : ByteArray), .slice none 0 0] ty_api_Node) fun H6 : Heap => (∃ u, hcell H6 ((⟨Array.size H4, 0, none⟩ : Addr).add 0) = some u) ∧ hfrozen H6 ((⟨Array.size H4, 0, none⟩ : Addr).add 0) = false ∧
  letV (hset H6 ((⟨Array.size H4, 0, none⟩ : Addr).add 0) (.int .i64 x11_0)) fun H8 : Heap => (∃ u, hcell H8 ((⟨Array.size H4, 0, none⟩ : Addr).add 1) = some u) ∧ hfrozen H8 ((⟨Array.size H4, 0, none⟩ : Addr).add 1) = false ∧
  letV (hset H8 ((⟨Array.size H4, 0, none⟩ : Addr).add 1) (.int .i64 x11_1)) fun H9 : Heap => (∃ u, hcell H9 ((⟨Array.size H4, 0, none⟩ : Addr).add 2) = some u) ∧ hfrozen H9 ((⟨Array.size H4, 0, none⟩ : Addr).add 2) = false ∧
  letV (hset H9 ((⟨Array.size H4, 0, none⟩ : Addr).add 2) (.string x11_2)) fun H10 : Heap => (∃ u, hcell H10 ((⟨Array.size H4, 0, none⟩ : Addr).add 3) = some u) ∧ hfrozen H10 ((⟨Array.size H4, 0, none⟩ : Addr).add 3) = false ∧
  letV (hset H10 ((⟨Array.size H4, 0, none⟩ : Addr).add 3) (.string x11_3)) fun H11 : Heap => (∃ u, hcell H11 ((⟨Array.size H4, 0, none⟩ : Addr).add 4) = some u) ∧ hfrozen H11 ((⟨Array.size H4, 0, none⟩ : Addr).add 4) = false ∧
  letV (hset H11 ((⟨Array.size H4, 0, none⟩ : Addr).add 4) (.string x11_4)) fun H12 : Heap => (∃ u, hcell H12 ((⟨Array.size H4, 0, none⟩ : Addr).add 5) = some u) ∧ hfrozen H12 ((⟨Array.size H4, 0, none⟩ : Addr).add 5) = false ∧
  letV (hset H12 ((⟨Array.size H4, 0, none⟩ : Addr).add 5) (.string x11_5)) fun H13 : Heap => (∃ u, hcell H13 ((⟨Array.size H4, 0, none⟩ : Addr).add 6) = some u) ∧ hfrozen H13 ((⟨Array.size H4, 0, none⟩ : Addr).add 6) = false ∧
  letV (hset H13 ((⟨Array.size H4, 0, none⟩ : Addr).add 6) (.slice x11_6_p x11_6_l x11_6_c)) fun H14 : Heap => 
  JoinW (S := (Bool × Unit)) (fun J6 =>
  ∃ x13 : Int, hcell H14 ((⟨Array.size H4, 0, none⟩ : Addr).add 0) = some (.int .i64 x13) ∧
  brW (decide ((1 : Int) ≤ x13)) (∃ x17 : Int, hcell H14 ((⟨Array.size H4, 0, none⟩ : Addr).add 0) = some (.int .i64 x17) ∧ J6 (decide (x17 ≤ 5), ()) H14) (J6 (false, ()) H14))
  (fun s6 H15 => (fun (x19 : Bool) =>
  brW x19 (∃ x21 : Int, hcell H15 ((⟨Array.size H4, 0, none⟩ : Addr).add 0) = some (.int .i64 x21) ∧ 0 ≤ x21 ∧ x21 < ((6 : Nat) : Int) ∧
  ∃ x23 : Int, hcell H15 ((⟨Array.size H1, 0, none⟩ : Addr).add (mulSize x21.toNat 1)) = some (.int .i64 x23) ∧ 0 ≤ x21 ∧ x21 < ((6 : Nat) : Int) ∧ (∃ u, hcell H15 ((⟨Array.size H1, 0, none⟩ : Addr).add (mulSize x21.toNat 1)) = some u) ∧ hfrozen H15 ((⟨Array.size H1, 0, none⟩ : Addr).add (mulSize x21.toNat 1)) = false ∧
  letV (hset H15 ((⟨Array.size H1, 0, none⟩ : Addr).add (mulSize x21.toNat 1)) (.int .i64 (IntKind.i64.wrap (x23 + 1)))) fun H16 : Heap => J8 () H16) (0 ≤ (0 : Int) ∧ (0 : Int) < ((6 : Nat) : Int) ∧
  ∃ x27 : Int, hcell H15 ((⟨Array.size H1, 0, none⟩ : Addr).add (mulSize (0 : Int).toNat 1)) = some (.int .i64 x27) ∧ 0 ≤ (0 : Int) ∧ (0 : Int) < ((6 : Nat) : Int) ∧ (∃ u, hcell H15 ((⟨Array.size H1, 0, none⟩ : Addr).add (mulSize (0 : Int).toNat 1)) = some u) ∧ hfrozen H15 ((⟨Array.size H1, 0, none⟩ : Addr).add (mulSize (0 : Int).toNat 1)) = false ∧
  letV (hset H15 ((⟨Array.size H1, 0, none⟩ : Addr).add (mulSize (0 : Int).toNat 1)) (.int .i64 (IntKind.i64.wrap (x27 + 1)))) fun H17 : Heap => J8 () H17)) s6.1))
  (fun _ H5 => L3 ((IntKind.i64.wrap (x8 + 1) : Int), ()) H5)) (J9 () H4)) q3.1) ((0 : Int), ()) H2)
  (fun _ H3 =>
  ∃ x31_0 : Int, hcell H3 ((⟨Array.size H1, 0, none⟩ : Addr).add 0) = some (.int .i64 x31_0) ∧
  ∃ x31_1 : Int, hcell H3 ((⟨Array.size H1, 0, none⟩ : Addr).add 1) = some (.int .i64 x31_1) ∧
  ∃ x31_2 : Int, hcell H3 ((⟨Array.size H1, 0, none⟩ : Addr).add 2) = some (.int .i64 x31_2) ∧
  ∃ x31_3 : Int, hcell H3 ((⟨Array.size H1, 0, none⟩ : Addr).add 3) = some (.int .i64 x31_3) ∧
  ∃ x31_4 : Int, hcell H3 ((⟨Array.size H1, 0, none⟩ : Addr).add 4) = some (.int .i64 x31_4) ∧
  ∃ x31_5 : Int, hcell H3 ((⟨Array.size H1, 0, none⟩ : Addr).add 5) = some (.int .i64 x31_5) ∧ (∃ u, hcell H3 ((⟨Array.size H0, 0, none⟩ : Addr).add 0) = some u) ∧ hfrozen H3 ((⟨Array.size H0, 0, none⟩ : Addr).add 0) = false ∧
  letV (hset H3 ((⟨Array.size H0, 0, none⟩ : Addr).add 0) (.int .i64 x31_0)) fun H19 : Heap => (∃ u, hcell H19 ((⟨Array.size H0, 0, none⟩ : Addr).add 1) = some u) ∧ hfrozen H19 ((⟨Array.size H0, 0, none⟩ : Addr).add 1) = false ∧
  letV (hset H19 ((⟨Array.size H0, 0, none⟩ : Addr).add 1) (.int .i64 x31_1)) fun H20 : Heap => (∃ u, hcell H20 ((⟨Array.size H0, 0, none⟩ : Addr).add 2) = some u) ∧ hfrozen H20 ((⟨Array.size H0, 0, none⟩ : Addr).add 2) = false ∧
  letV (hset H20 ((⟨Array.size H0, 0, none⟩ : Addr).add 2) (.int .i64 x31_2)) fun H21 : Heap => (∃ u, hcell H21 ((⟨Array.size H0, 0, none⟩ : Addr).add 3) = some u) ∧ hfrozen H21 ((⟨Array.size H0, 0, none⟩ : Addr).add 3) = false ∧
  letV (hset H21 ((⟨Array.size H0, 0, none⟩ : Addr).add 3) (.int .i64 x31_3)) fun H22 : Heap => (∃ u, hcell H22 ((⟨Array.size H0, 0, none⟩ : Addr).add 4) = some u) ∧ hfrozen H22 ((⟨Array.size H0, 0, none⟩ : Addr).add 4) = false ∧
  letV (hset H22 ((⟨Array.size H0, 0, none⟩ : Addr).add 4) (.int .i64 x31_4)) fun H23 : Heap => (∃ u, hcell H23 ((⟨Array.size H0, 0, none⟩ : Addr).add 5) = some u) ∧ hfrozen H23 ((⟨Array.size H0, 0, none⟩ : Addr).add 5) = false ∧
  letV (hset H23 ((⟨Array.size H0, 0, none⟩ : Addr).add 5) (.int .i64 x31_5)) fun H24 : Heap =>
  ∃ z_0 : Int, hcell H24 ((⟨Array.size H0, 0, none⟩ : Addr).add 0) = some (.int .i64 z_0) ∧
  ∃ z_1 : Int, hcell H24 ((⟨Array.size H0, 0, none⟩ : Addr).add 1) = some (.int .i64 z_1) ∧
  ∃ z_2 : Int, hcell H24 ((⟨Array.size H0, 0, none⟩ : Addr).add 2) = some (.int .i64 z_2) ∧
  ∃ z_3 : Int, hcell H24 ((⟨Array.size H0, 0, none⟩ : Addr).add 3) = some (.int .i64 z_3) ∧
  ∃ z_4 : Int, hcell H24 ((⟨Array.size H0, 0, none⟩ : Addr).add 4) = some (.int .i64 z_4) ∧
  ∃ z_5 : Int, hcell H24 ((⟨Array.size H0, 0, none⟩ : Addr).add 5) = some (.int .i64 z_5) ∧ R (z_0) (z_1) (z_2) (z_3) (z_4) (z_5) H24)
theorem report_Counts.eq (a0t_p : Option Addr) (a0t_l a0t_c : Nat) (R : Int → Int → Int → Int → Int → Int → Heap → Prop) (H0 : Heap) :
    evF Tryd.prog report_Counts.ann Tryd.f14 [.slice a0t_p a0t_l a0t_c] (fun v H' => xS (.agg [.int .i64, .int .i64, .int .i64, .int .i64, .int .i64, .int .i64]) v fun r => R r.1 r.2.1 r.2.2.1 r.2.2.2.1 r.2.2.2.2.1 r.2.2.2.2.2.1 H') H0 = report_Counts.W a0t_p a0t_l a0t_c R H0 := by kernel_rfl
theorem report_Counts.calls {a0t_p : Option Addr} {a0t_l a0t_c : Nat} {R : Int → Int → Int → Int → Int → Int → Heap → Prop} {H0 : Heap} (h : report_Counts.W a0t_p a0t_l a0t_c R H0) : report_Counts.C a0t_p a0t_l a0t_c H0 R :=
  (evF_sound progOk_ Tryd.func14 (by rw [report_Counts.eq]; exact h)).mono fun v H' h => by obtain ⟨x, hv, hk⟩ := xS_out h; exact ⟨x.1, x.2.1, x.2.2.1, x.2.2.2.1, x.2.2.2.2.1, x.2.2.2.2.2.1, hv, hk⟩

def brackenlaw27_told.ann : Ann := { ord := fun _ => [], loop := fun _ => none, join := fun _ => none }
/-- bracken.brackenlaw27.told -/
def brackenlaw27_told.W  (R : Bool → Heap → Prop) (H0 : Heap) : Prop :=
  letV (hnew H0 #[.int .i64 1, .int .i64 0, .string (⟨#[]⟩ : ByteArray), .string (⟨#[]⟩ : ByteArray), .string (⟨#[]⟩ : ByteArray), .string (⟨#[]⟩ : ByteArray), .slice none 0 0, .int .i64 2, .int .i64 1, .string (⟨#[112]⟩ : ByteArray), .string (⟨#[97]⟩ : ByteArray), .string (⟨#[117]⟩ : ByteArray), .string (⟨#[]⟩ : ByteArray), .slice none 0 0, .int .i64 3, .int .i64 2, .string (⟨#[]⟩ : ByteArray), .string (⟨#[]⟩ : ByteArray), .string (⟨#[]⟩ : ByteArray), .string (⟨#[120, 121]⟩ : ByteArray), .slice none 0 0] ty_api_Node) fun H1 : Heap =>
  report_Counts.C (some ⟨Array.size H0, 0, none⟩) 3 3 H1 fun x8_0 x8_1 x8_2 x8_3 x8_4 x8_5 H2 =>
  letV (hnew H2 #[.int .i64 0, .int .i64 0, .int .i64 0, .int .i64 0, .int .i64 0, .int .i64 0] ty_6_int) fun H3 : Heap => (∃ u, hcell H3 ((⟨Array.size H2, 0, none⟩ : Addr).add 0) = some u) ∧ hfrozen H3 ((⟨Array.size H2, 0, none⟩ : Addr).add 0) = false ∧
  letV (hset H3 ((⟨Array.size H2, 0, none⟩ : Addr).add 0) (.int .i64 x8_0)) fun H5 : Heap => (∃ u, hcell H5 ((⟨Array.size H2, 0, none⟩ : Addr).add 1) = some u) ∧ hfrozen H5 ((⟨Array.size H2, 0, none⟩ : Addr).add 1) = false ∧
  letV (hset H5 ((⟨Array.size H2, 0, none⟩ : Addr).add 1) (.int .i64 x8_1)) fun H6 : Heap => (∃ u, hcell H6 ((⟨Array.size H2, 0, none⟩ : Addr).add 2) = some u) ∧ hfrozen H6 ((⟨Array.size H2, 0, none⟩ : Addr).add 2) = false ∧
  letV (hset H6 ((⟨Array.size H2, 0, none⟩ : Addr).add 2) (.int .i64 x8_2)) fun H7 : Heap => (∃ u, hcell H7 ((⟨Array.size H2, 0, none⟩ : Addr).add 3) = some u) ∧ hfrozen H7 ((⟨Array.size H2, 0, none⟩ : Addr).add 3) = false ∧
  letV (hset H7 ((⟨Array.size H2, 0, none⟩ : Addr).add 3) (.int .i64 x8_3)) fun H8 : Heap => (∃ u, hcell H8 ((⟨Array.size H2, 0, none⟩ : Addr).add 4) = some u) ∧ hfrozen H8 ((⟨Array.size H2, 0, none⟩ : Addr).add 4) = false ∧
  letV (hset H8 ((⟨Array.size H2, 0, none⟩ : Addr).add 4) (.int .i64 x8_4)) fun H9 : Heap => (∃ u, hcell H9 ((⟨Array.size H2, 0, none⟩ : Addr).add 5) = some u) ∧ hfrozen H9 ((⟨Array.size H2, 0, none⟩ : Addr).add 5) = false ∧
  letV (hset H9 ((⟨Array.size H2, 0, none⟩ : Addr).add 5) (.int .i64 x8_5)) fun H10 : Heap =>
  report_Code.C (2) H10 fun x9 H11 =>
  brW (decide (x9 = (⟨#[115, 121, 110, 116, 97, 120]⟩ : ByteArray))) (report_Code.C (-1) H11 fun x12 H12 =>
  brW (decide (x12 = (⟨#[63]⟩ : ByteArray))) (report_Code.C (7) H12 fun x16 H13 =>
  brW (decide (x16 = (⟨#[102, 117, 108, 108]⟩ : ByteArray))) (∃ x21 : Addr, some ⟨Array.size H0, 0, none⟩ = some x21 ∧ 0 ≤ (1 : Int) ∧ (1 : Int) < (3 : Int) ∧
  ∃ x22_0 : Int, hcell H13 ((x21.add ((1 : Int).toNat * 7)).add 0) = some (.int .i64 x22_0) ∧
  ∃ x22_1 : Int, hcell H13 ((x21.add ((1 : Int).toNat * 7)).add 1) = some (.int .i64 x22_1) ∧
  ∃ x22_2 : ByteArray, hcell H13 ((x21.add ((1 : Int).toNat * 7)).add 2) = some (.string x22_2) ∧
  ∃ x22_3 : ByteArray, hcell H13 ((x21.add ((1 : Int).toNat * 7)).add 3) = some (.string x22_3) ∧
  ∃ x22_4 : ByteArray, hcell H13 ((x21.add ((1 : Int).toNat * 7)).add 4) = some (.string x22_4) ∧
  ∃ x22_5 : ByteArray, hcell H13 ((x21.add ((1 : Int).toNat * 7)).add 5) = some (.string x22_5) ∧
  ∃ (x22_6_p : Option Addr) (x22_6_l x22_6_c : Nat), hcell H13 ((x21.add ((1 : Int).toNat * 7)).add 6) = some (.slice x22_6_p x22_6_l x22_6_c) ∧ report_Line.C (x22_0) (x22_1) x22_2 x22_3 x22_4 x22_5 (x22_6_p) x22_6_l x22_6_c H13 fun x23 H14 =>
  brW (decide (x23 = (⟨#[32, 32, 101, 108, 101, 109, 101, 110, 116, 32, 123, 117, 125, 112, 58, 97, 32, 48]⟩ : ByteArray))) (report_Tree.C (some ⟨Array.size H0, 0, none⟩) 3 3 H14 fun x28 H15 =>
  brW (decide (x28 = (⟨#[100, 111, 99, 117, 109, 101, 110, 116, 10, 32, 32, 101, 108, 101, 109, 101, 110, 116, 32, 123, 117, 125, 112, 58, 97, 32, 48, 10, 32, 32, 32, 32, 116, 101, 120, 116, 32, 50, 10]⟩ : ByteArray))) (report_Line.C (9) (0) (⟨#[]⟩ : ByteArray) (⟨#[]⟩ : ByteArray) (⟨#[]⟩ : ByteArray) (⟨#[]⟩ : ByteArray) (none) 0 0 H15 fun x33 H16 =>
  brW (decide (x33 = (⟨#[63]⟩ : ByteArray))) (0 ≤ (2 : Int) ∧ (2 : Int) < ((6 : Nat) : Int) ∧
  ∃ x38 : Int, hcell H16 ((⟨Array.size H2, 0, none⟩ : Addr).add (mulSize (2 : Int).toNat 1)) = some (.int .i64 x38) ∧
  brW (decide (x38 = 1)) (0 ≤ (0 : Int) ∧ (0 : Int) < ((6 : Nat) : Int) ∧
  ∃ x43 : Int, hcell H16 ((⟨Array.size H2, 0, none⟩ : Addr).add (mulSize (0 : Int).toNat 1)) = some (.int .i64 x43) ∧ R (decide (x43 = 0)) H16) (R false H16)) (R false H16)) (R false H15)) (R false H14)) (R false H13)) (R false H12)) (R false H11)
theorem brackenlaw27_told.eq  (R : Bool → Heap → Prop) (H0 : Heap) :
    evF Tryd.prog brackenlaw27_told.ann Tryd.f7 [] (fun v H' => xS (.one .bool) v fun r => R r H') H0 = brackenlaw27_told.W  R H0 := by kernel_rfl
theorem brackenlaw27_told.calls  {R : Bool → Heap → Prop} {H0 : Heap} (h : brackenlaw27_told.W  R H0) : brackenlaw27_told.C  H0 R :=
  (evF_sound progOk_ Tryd.func7 (by rw [brackenlaw27_told.eq]; exact h)).mono fun v H' h => by obtain ⟨x, hv, hk⟩ := xS_out h; exact ⟨x, hv, hk⟩

def brackenlaw27_ReportCodes.ann : Ann := { ord := fun _ => [], loop := fun _ => none, join := fun i => bif Nat.beq i 4 then some [(9, .one .bool)] else none }
/-- bracken.brackenlaw27.ReportCodes -/
def brackenlaw27_ReportCodes.W (a0a : Int) (a1b : Int) (R : Bool → Heap → Prop) (H0 : Heap) : Prop :=
  (10 : Int) ≠ 0 ∧ (10 : Int) ≠ 0 ∧
  letV (IntKind.i64.wrap ((IntKind.i64.wrap (Int.tmod (IntKind.u64.wrap a0a) 10)) - 1)) fun x5 : Int =>
  letV (IntKind.i64.wrap ((IntKind.i64.wrap (Int.tmod (IntKind.u64.wrap a1b) 10)) - 1)) fun y6 : Int =>
  report_Code.C (x5) H0 fun x21 H1 =>
  report_Code.C (y6) H1 fun x23 H2 => 
  JoinW (S := (Bool × Unit)) (fun J4 =>
  brW (decide ((0 : Int) ≤ x5)) (J4 (decide (x5 ≤ 7), ()) H2) (J4 (false, ()) H2))
  (fun s4 H3 => (fun (in9 : Bool) =>
  brackenlaw27_told.C  H3 fun x30 H4 =>
  brW x30 (brW (decide ((decide (x21 = (⟨#[63]⟩ : ByteArray))) = (!in9))) (brW (decide (x21 ≠ (⟨#[]⟩ : ByteArray))) (brW (!in9) (report_Line.C (3) (-3) (⟨#[]⟩ : ByteArray) (⟨#[]⟩ : ByteArray) (⟨#[]⟩ : ByteArray) (⟨#[97, 98, 99]⟩ : ByteArray) (none) 0 0 H4 fun x57 H5 =>
  brW (decide (x57 = (⟨#[116, 101, 120, 116, 32, 51]⟩ : ByteArray))) (report_Line.C (5) (202) (⟨#[]⟩ : ByteArray) (⟨#[120]⟩ : ByteArray) (⟨#[]⟩ : ByteArray) (⟨#[]⟩ : ByteArray) (none) 0 0 H5 fun x62 H6 => R (decide (x62 = (⟨#[112, 105, 32, 120]⟩ : ByteArray))) H6) (R false H5)) (brW (decide ((decide (x21 = x23)) = (decide (x5 = y6)))) (report_Line.C (3) (-3) (⟨#[]⟩ : ByteArray) (⟨#[]⟩ : ByteArray) (⟨#[]⟩ : ByteArray) (⟨#[97, 98, 99]⟩ : ByteArray) (none) 0 0 H4 fun x57 H7 =>
  brW (decide (x57 = (⟨#[116, 101, 120, 116, 32, 51]⟩ : ByteArray))) (report_Line.C (5) (202) (⟨#[]⟩ : ByteArray) (⟨#[120]⟩ : ByteArray) (⟨#[]⟩ : ByteArray) (⟨#[]⟩ : ByteArray) (none) 0 0 H7 fun x62 H8 => R (decide (x62 = (⟨#[112, 105, 32, 120]⟩ : ByteArray))) H8) (R false H7)) (R false H4))) (R false H4)) (R false H4)) (R false H4)) s4.1)
theorem brackenlaw27_ReportCodes.eq (a0a : Int) (a1b : Int) (R : Bool → Heap → Prop) (H0 : Heap) :
    evF Tryd.prog brackenlaw27_ReportCodes.ann Tryd.f3 [.int .i64 a0a, .int .i64 a1b] (fun v H' => xS (.one .bool) v fun r => R r H') H0 = brackenlaw27_ReportCodes.W a0a a1b R H0 := by kernel_rfl
theorem brackenlaw27_ReportCodes.calls {a0a : Int} {a1b : Int} {R : Bool → Heap → Prop} {H0 : Heap} (h : brackenlaw27_ReportCodes.W a0a a1b R H0) : brackenlaw27_ReportCodes.C a0a a1b H0 R :=
  (evF_sound progOk_ Tryd.func3 (by rw [brackenlaw27_ReportCodes.eq]; exact h)).mono fun v H' h => by obtain ⟨x, hv, hk⟩ := xS_out h; exact ⟨x, hv, hk⟩

def brackenlaw16_Few.ann : Ann := { ord := fun _ => [], loop := fun i => bif Nat.beq i 2 then some [(3, .one (.int .i64))] else bif Nat.beq i 8 then some [(5, .one (.int .i64))] else none, join := fun i => bif Nat.beq i 3 then some [] else bif Nat.beq i 6 then some [(38, .one .bool)] else bif Nat.beq i 7 then some [] else bif Nat.beq i 13 then some [] else none }
/-- bracken.brackenlaw16.Few -/
def brackenlaw16_Few.W (a0t_p : Option Addr) (a0t_l a0t_c : Nat) (R : Bool → Heap → Prop) (H0 : Heap) : Prop :=
  
  JoinW (S := Unit) (fun J13 => 
  LoopW (S := (Int × Unit)) (fun L2 q2 H2 => (fun (i3 : Int) =>
  brW (decide (i3 < (a0t_l : Int))) (
  JoinW (S := Unit) (fun J3 =>
  ∃ x15 : Addr, a0t_p = some x15 ∧ 0 ≤ i3 ∧ i3 < (a0t_l : Int) ∧
  ∃ x16_0 : Int, hcell H2 ((x15.add (i3.toNat * 7)).add 0) = some (.int .i64 x16_0) ∧
  ∃ x16_1 : Int, hcell H2 ((x15.add (i3.toNat * 7)).add 1) = some (.int .i64 x16_1) ∧
  ∃ x16_2 : ByteArray, hcell H2 ((x15.add (i3.toNat * 7)).add 2) = some (.string x16_2) ∧
  ∃ x16_3 : ByteArray, hcell H2 ((x15.add (i3.toNat * 7)).add 3) = some (.string x16_3) ∧
  ∃ x16_4 : ByteArray, hcell H2 ((x15.add (i3.toNat * 7)).add 4) = some (.string x16_4) ∧
  ∃ x16_5 : ByteArray, hcell H2 ((x15.add (i3.toNat * 7)).add 5) = some (.string x16_5) ∧
  ∃ (x16_6_p : Option Addr) (x16_6_l x16_6_c : Nat), hcell H2 ((x15.add (i3.toNat * 7)).add 6) = some (.slice x16_6_p x16_6_l x16_6_c) ∧
  letV (hnew H2 #[.int .i64 0, .int .i64 0, .string (⟨#[]⟩ : ByteArray), .string (⟨#[]⟩ : ByteArray), .string (⟨#[]⟩ : ByteArray), .string (⟨#[]⟩ : ByteArray), .slice none 0 0] ty_api_Node) fun H4 : Heap => (∃ u, hcell H4 ((⟨Array.size H2, 0, none⟩ : Addr).add 0) = some u) ∧ hfrozen H4 ((⟨Array.size H2, 0, none⟩ : Addr).add 0) = false ∧
  letV (hset H4 ((⟨Array.size H2, 0, none⟩ : Addr).add 0) (.int .i64 x16_0)) fun H6 : Heap => (∃ u, hcell H6 ((⟨Array.size H2, 0, none⟩ : Addr).add 1) = some u) ∧ hfrozen H6 ((⟨Array.size H2, 0, none⟩ : Addr).add 1) = false ∧
  letV (hset H6 ((⟨Array.size H2, 0, none⟩ : Addr).add 1) (.int .i64 x16_1)) fun H7 : Heap => (∃ u, hcell H7 ((⟨Array.size H2, 0, none⟩ : Addr).add 2) = some u) ∧ hfrozen H7 ((⟨Array.size H2, 0, none⟩ : Addr).add 2) = false ∧
  letV (hset H7 ((⟨Array.size H2, 0, none⟩ : Addr).add 2) (.string x16_2)) fun H8 : Heap => (∃ u, hcell H8 ((⟨Array.size H2, 0, none⟩ : Addr).add 3) = some u) ∧ hfrozen H8 ((⟨Array.size H2, 0, none⟩ : Addr).add 3) = false ∧
  letV (hset H8 ((⟨Array.size H2, 0, none⟩ : Addr).add 3) (.string x16_3)) fun H9 : Heap => (∃ u, hcell H9 ((⟨Array.size H2, 0, none⟩ : Addr).add 4) = some u) ∧ hfrozen H9 ((⟨Array.size H2, 0, none⟩ : Addr).add 4) = false ∧
  letV (hset H9 ((⟨Array.size H2, 0, none⟩ : Addr).add 4) (.string x16_4)) fun H10 : Heap => (∃ u, hcell H10 ((⟨Array.size H2, 0, none⟩ : Addr).add 5) = some u) ∧ hfrozen H10 ((⟨Array.size H2, 0, none⟩ : Addr).add 5) = false ∧
  letV (hset H10 ((⟨Array.size H2, 0, none⟩ : Addr).add 5) (.string x16_5)) fun H11 : Heap => (∃ u, hcell H11 ((⟨Array.size H2, 0, none⟩ : Addr).add 6) = some u) ∧ hfrozen H11 ((⟨Array.size H2, 0, none⟩ : Addr).add 6) = false ∧
  letV (hset H11 ((⟨Array.size H2, 0, none⟩ : Addr).add 6) (.slice x16_6_p x16_6_l x16_6_c)) fun H12 : Heap => 
  JoinW (S := Unit) (fun J7 => 
  JoinW (S := (Bool × Unit)) (fun J6 =>
  ∃ x18 : ByteArray, hcell H12 ((⟨Array.size H2, 0, none⟩ : Addr).add 2) = some (.string x18) ∧
  ∃ x21 : ByteArray, hcell H12 ((⟨Array.size H2, 0, none⟩ : Addr).add 3) = some (.string x21) ∧
  ∃ x25 : ByteArray, hcell H12 ((⟨Array.size H2, 0, none⟩ : Addr).add 4) = some (.string x25) ∧
  ∃ x29 : ByteArray, hcell H12 ((⟨Array.size H2, 0, none⟩ : Addr).add 5) = some (.string x29) ∧
  brW (decide ((200 : Int) < (IntKind.i64.wrap ((IntKind.i64.wrap ((IntKind.i64.wrap ((x18.size : Int) + (x21.size : Int))) + (x25.size : Int))) + (x29.size : Int))))) (J6 (true, ()) H12) (∃ (x35_p : Option Addr) (x35_l x35_c : Nat), hcell H12 ((⟨Array.size H2, 0, none⟩ : Addr).add 6) = some (.slice x35_p x35_l x35_c) ∧ J6 (decide ((8 : Int) < (x35_l : Int)), ()) H12))
  (fun s6 H14 => (fun (x38 : Bool) =>
  brW x38 (R false H14) (J7 () H14)) s6.1))
  (fun _ H13 => 
  LoopW (S := (Int × Unit)) (fun L8 q8 H15 => (fun (k5 : Int) =>
  ∃ (x41_p : Option Addr) (x41_l x41_c : Nat), hcell H15 ((⟨Array.size H2, 0, none⟩ : Addr).add 6) = some (.slice x41_p x41_l x41_c) ∧
  brW (decide (k5 < (x41_l : Int))) (∃ (x47_p : Option Addr) (x47_l x47_c : Nat), hcell H15 ((⟨Array.size H2, 0, none⟩ : Addr).add 6) = some (.slice x47_p x47_l x47_c) ∧
  ∃ x49 : Addr, x47_p = some x49 ∧ 0 ≤ k5 ∧ k5 < (x47_l : Int) ∧
  ∃ x50_0 : ByteArray, hcell H15 ((x49.add (k5.toNat * 4)).add 0) = some (.string x50_0) ∧
  ∃ x50_1 : ByteArray, hcell H15 ((x49.add (k5.toNat * 4)).add 1) = some (.string x50_1) ∧
  ∃ x50_2 : ByteArray, hcell H15 ((x49.add (k5.toNat * 4)).add 2) = some (.string x50_2) ∧
  ∃ x50_3 : ByteArray, hcell H15 ((x49.add (k5.toNat * 4)).add 3) = some (.string x50_3) ∧
  letV (hnew H15 #[.string (⟨#[]⟩ : ByteArray), .string (⟨#[]⟩ : ByteArray), .string (⟨#[]⟩ : ByteArray), .string (⟨#[]⟩ : ByteArray)] ty_api_Attr) fun H16 : Heap => (∃ u, hcell H16 ((⟨Array.size H15, 0, none⟩ : Addr).add 0) = some u) ∧ hfrozen H16 ((⟨Array.size H15, 0, none⟩ : Addr).add 0) = false ∧
  letV (hset H16 ((⟨Array.size H15, 0, none⟩ : Addr).add 0) (.string x50_0)) fun H18 : Heap => (∃ u, hcell H18 ((⟨Array.size H15, 0, none⟩ : Addr).add 1) = some u) ∧ hfrozen H18 ((⟨Array.size H15, 0, none⟩ : Addr).add 1) = false ∧
  letV (hset H18 ((⟨Array.size H15, 0, none⟩ : Addr).add 1) (.string x50_1)) fun H19 : Heap => (∃ u, hcell H19 ((⟨Array.size H15, 0, none⟩ : Addr).add 2) = some u) ∧ hfrozen H19 ((⟨Array.size H15, 0, none⟩ : Addr).add 2) = false ∧
  letV (hset H19 ((⟨Array.size H15, 0, none⟩ : Addr).add 2) (.string x50_2)) fun H20 : Heap => (∃ u, hcell H20 ((⟨Array.size H15, 0, none⟩ : Addr).add 3) = some u) ∧ hfrozen H20 ((⟨Array.size H15, 0, none⟩ : Addr).add 3) = false ∧
  letV (hset H20 ((⟨Array.size H15, 0, none⟩ : Addr).add 3) (.string x50_3)) fun H21 : Heap =>
  ∃ x52 : ByteArray, hcell H21 ((⟨Array.size H15, 0, none⟩ : Addr).add 0) = some (.string x52) ∧
  ∃ x55 : ByteArray, hcell H21 ((⟨Array.size H15, 0, none⟩ : Addr).add 1) = some (.string x55) ∧
  ∃ x59 : ByteArray, hcell H21 ((⟨Array.size H15, 0, none⟩ : Addr).add 2) = some (.string x59) ∧
  ∃ x63 : ByteArray, hcell H21 ((⟨Array.size H15, 0, none⟩ : Addr).add 3) = some (.string x63) ∧
  brW (decide ((200 : Int) < (IntKind.i64.wrap ((IntKind.i64.wrap ((IntKind.i64.wrap ((x52.size : Int) + (x55.size : Int))) + (x59.size : Int))) + (x63.size : Int))))) (R false H21) (letV (IntKind.i64.wrap (k5 + 1)) fun k5b : Int => L8 ((k5b : Int), ()) H21)) (J3 () H15)) q8.1) ((0 : Int), ()) H13))
  (fun _ H3 =>
  letV (IntKind.i64.wrap (i3 + 1)) fun i3b : Int => L2 ((i3b : Int), ()) H3)) (J13 () H2)) q2.1) ((0 : Int), ()) H0)
  (fun _ H1 => R (decide ((a0t_l : Int) ≤ 40)) H1)
theorem brackenlaw16_Few.eq (a0t_p : Option Addr) (a0t_l a0t_c : Nat) (R : Bool → Heap → Prop) (H0 : Heap) :
    evF Tryd.prog brackenlaw16_Few.ann Tryd.f9 [.slice a0t_p a0t_l a0t_c] (fun v H' => xS (.one .bool) v fun r => R r H') H0 = brackenlaw16_Few.W a0t_p a0t_l a0t_c R H0 := by kernel_rfl
theorem brackenlaw16_Few.calls {a0t_p : Option Addr} {a0t_l a0t_c : Nat} {R : Bool → Heap → Prop} {H0 : Heap} (h : brackenlaw16_Few.W a0t_p a0t_l a0t_c R H0) : brackenlaw16_Few.C a0t_p a0t_l a0t_c H0 R :=
  (evF_sound progOk_ Tryd.func9 (by rw [brackenlaw16_Few.eq]; exact h)).mono fun v H' h => by obtain ⟨x, hv, hk⟩ := xS_out h; exact ⟨x, hv, hk⟩

def brackenref15_qname.ann : Ann := { ord := fun _ => [], loop := fun _ => none, join := fun _ => none }
/-- bracken.brackenref15.qname -/
def brackenref15_qname.W (a0prefix : ByteArray) (a1local : ByteArray) (R : ByteArray → Heap → Prop) (H0 : Heap) : Prop :=
  brW (decide (a0prefix = (⟨#[]⟩ : ByteArray))) (R a1local H0) (a0prefix.size + (⟨#[58]⟩ : ByteArray).size ≤ 9223372036854775807 ∧ (a0prefix ++ (⟨#[58]⟩ : ByteArray)).size + a1local.size ≤ 9223372036854775807 ∧ R ((a0prefix ++ (⟨#[58]⟩ : ByteArray)) ++ a1local) H0)
theorem brackenref15_qname.eq (a0prefix : ByteArray) (a1local : ByteArray) (R : ByteArray → Heap → Prop) (H0 : Heap) :
    evF Tryd.prog brackenref15_qname.ann Tryd.f18 [.string a0prefix, .string a1local] (fun v H' => xS (.one .str) v fun r => R r H') H0 = brackenref15_qname.W a0prefix a1local R H0 := by kernel_rfl
theorem brackenref15_qname.calls {a0prefix : ByteArray} {a1local : ByteArray} {R : ByteArray → Heap → Prop} {H0 : Heap} (h : brackenref15_qname.W a0prefix a1local R H0) : brackenref15_qname.C a0prefix a1local H0 R :=
  (evF_sound progOk_ Tryd.func18 (by rw [brackenref15_qname.eq]; exact h)).mono fun v H' h => by obtain ⟨x, hv, hk⟩ := xS_out h; exact ⟨x, hv, hk⟩

def brackenref15_Decimal.ann : Ann := { ord := fun _ => [], loop := fun i => bif Nat.beq i 2 then some [(0, .one (.int .i64)), (3, .one .str)] else none, join := fun i => bif Nat.beq i 5 then some [(0, .one (.int .i64)), (3, .one .str)] else none }
/-- bracken.brackenref15.Decimal -/
def brackenref15_Decimal.W (a0n : Int) (R : ByteArray → Heap → Prop) (H0 : Heap) : Prop :=
  
  JoinW (S := (Int × ByteArray × Unit)) (fun J5 => 
  LoopW (S := (Int × ByteArray × Unit)) (fun L2 q2 H2 => (fun (n0 : Int) (s3 : ByteArray) =>
  brW (decide ((9 : Int) < n0)) ((10 : Int) ≠ 0 ∧ (10 : Int) ≠ 0 ∧ 0 ≤ IntKind.i64.wrap ((Int.tmod n0 10) + 1) ∧ IntKind.i64.wrap ((Int.tmod n0 10) + 1) ≤ ((⟨#[48, 49, 50, 51, 52, 53, 54, 55, 56, 57]⟩ : ByteArray).size : Int) ∧ 0 ≤ Int.tmod n0 10 ∧ Int.tmod n0 10 ≤ ((IntKind.i64.wrap ((Int.tmod n0 10) + 1)).toNat : Int) ∧ ((⟨#[48, 49, 50, 51, 52, 53, 54, 55, 56, 57]⟩ : ByteArray).extract ((Int.tmod n0 10).toNat) ((IntKind.i64.wrap ((Int.tmod n0 10) + 1)).toNat)).size + s3.size ≤ 9223372036854775807 ∧ (10 : Int) ≠ 0 ∧
  letV (IntKind.i64.wrap (Int.tdiv n0 10)) fun n0b : Int => L2 ((n0b : Int), ((⟨#[48, 49, 50, 51, 52, 53, 54, 55, 56, 57]⟩ : ByteArray).extract ((Int.tmod n0 10).toNat) ((IntKind.i64.wrap ((Int.tmod n0 10) + 1)).toNat)) ++ s3, ()) H2) (J5 ((n0 : Int), s3, ()) H2)) q2.1 q2.2.1) ((a0n : Int), (⟨#[]⟩ : ByteArray), ()) H0)
  (fun s5 H1 => (fun (n0 : Int) (s3 : ByteArray) => 0 ≤ IntKind.i64.wrap (n0 + 1) ∧ IntKind.i64.wrap (n0 + 1) ≤ ((⟨#[48, 49, 50, 51, 52, 53, 54, 55, 56, 57]⟩ : ByteArray).size : Int) ∧ 0 ≤ n0 ∧ n0 ≤ ((IntKind.i64.wrap (n0 + 1)).toNat : Int) ∧ ((⟨#[48, 49, 50, 51, 52, 53, 54, 55, 56, 57]⟩ : ByteArray).extract n0.toNat ((IntKind.i64.wrap (n0 + 1)).toNat)).size + s3.size ≤ 9223372036854775807 ∧ R (((⟨#[48, 49, 50, 51, 52, 53, 54, 55, 56, 57]⟩ : ByteArray).extract n0.toNat ((IntKind.i64.wrap (n0 + 1)).toNat)) ++ s3) H1) s5.1 s5.2.1)
theorem brackenref15_Decimal.eq (a0n : Int) (R : ByteArray → Heap → Prop) (H0 : Heap) :
    evF Tryd.prog brackenref15_Decimal.ann Tryd.f19 [.int .i64 a0n] (fun v H' => xS (.one .str) v fun r => R r H') H0 = brackenref15_Decimal.W a0n R H0 := by kernel_rfl
theorem brackenref15_Decimal.calls {a0n : Int} {R : ByteArray → Heap → Prop} {H0 : Heap} (h : brackenref15_Decimal.W a0n R H0) : brackenref15_Decimal.C a0n H0 R :=
  (evF_sound progOk_ Tryd.func19 (by rw [brackenref15_Decimal.eq]; exact h)).mono fun v H' h => by obtain ⟨x, hv, hk⟩ := xS_out h; exact ⟨x, hv, hk⟩

def brackenref15_Line.ann : Ann := { ord := fun i => bif Nat.beq i 10 then [0, 1, 2, 3, 4, 5, 6, 7, 8, 9, 13, 14, 15, 10, 11, 12, 16, 17, 18] else [], loop := fun i => bif Nat.beq i 3 then some [(3, .one .str), (4, .one (.int .i64))] else none, join := fun i => bif Nat.beq i 5 then some [] else bif Nat.beq i 6 then some [(3, .one .str)] else none }
/-- bracken.brackenref15.Line -/
def brackenref15_Line.W (a0n_0 : Int) (a0n_1 : Int) (a0n_2 : ByteArray) (a0n_3 : ByteArray) (a0n_4 : ByteArray) (a0n_5 : ByteArray) (a0n_6_p : Option Addr) (a0n_6_l a0n_6_c : Nat) (R : ByteArray → Heap → Prop) (H0 : Heap) : Prop :=
  letV (hnew H0 #[.int .i64 a0n_0, .int .i64 a0n_1, .string a0n_2, .string a0n_3, .string a0n_4, .string a0n_5, .slice a0n_6_p a0n_6_l a0n_6_c] ty_api_Node) fun H1 : Heap => 
  JoinW (S := (ByteArray × Unit)) (fun J6 => 
  LoopW (S := (ByteArray × Int × Unit)) (fun L3 q3 H3 => (fun (s3 : ByteArray) (i4 : Int) => 
  JoinW (S := Unit) (fun J5 =>
  ∃ x7 : Int, hcell H3 ((⟨Array.size H0, 0, none⟩ : Addr).add 1) = some (.int .i64 x7) ∧
  brW (decide (i4 < x7)) (∃ x11 : Int, hcell H3 ((⟨Array.size H0, 0, none⟩ : Addr).add 1) = some (.int .i64 x11) ∧
  brW (decide (x11 ≤ 201)) (J5 () H3) (J6 (s3, ()) H3)) (J6 (s3, ()) H3))
  (fun _ H4 => s3.size + (⟨#[32, 32]⟩ : ByteArray).size ≤ 9223372036854775807 ∧
  letV (IntKind.i64.wrap (i4 + 1)) fun i4 : Int => L3 (s3 ++ (⟨#[32, 32]⟩ : ByteArray), (i4 : Int), ()) H4)) q3.1 q3.2.1) ((⟨#[]⟩ : ByteArray), (0 : Int), ()) H1)
  (fun s6 H2 => (fun (s3 : ByteArray) =>
  ∃ x19 : Int, hcell H2 ((⟨Array.size H0, 0, none⟩ : Addr).add 0) = some (.int .i64 x19) ∧
  brW (decide (x19 = 1)) (s3.size + (⟨#[100, 111, 99, 117, 109, 101, 110, 116]⟩ : ByteArray).size ≤ 9223372036854775807 ∧ R (s3 ++ (⟨#[100, 111, 99, 117, 109, 101, 110, 116]⟩ : ByteArray)) H2) (brW (decide (x19 = 2)) (s3.size + (⟨#[101, 108, 101, 109, 101, 110, 116, 32, 123]⟩ : ByteArray).size ≤ 9223372036854775807 ∧
  ∃ x29 : ByteArray, hcell H2 ((⟨Array.size H0, 0, none⟩ : Addr).add 4) = some (.string x29) ∧ (s3 ++ (⟨#[101, 108, 101, 109, 101, 110, 116, 32, 123]⟩ : ByteArray)).size + x29.size ≤ 9223372036854775807 ∧ ((s3 ++ (⟨#[101, 108, 101, 109, 101, 110, 116, 32, 123]⟩ : ByteArray)) ++ x29).size + (⟨#[125]⟩ : ByteArray).size ≤ 9223372036854775807 ∧
  ∃ x33 : ByteArray, hcell H2 ((⟨Array.size H0, 0, none⟩ : Addr).add 2) = some (.string x33) ∧
  ∃ x35 : ByteArray, hcell H2 ((⟨Array.size H0, 0, none⟩ : Addr).add 3) = some (.string x35) ∧
  ∃ (x40_p : Option Addr) (x40_l x40_c : Nat), hcell H2 ((⟨Array.size H0, 0, none⟩ : Addr).add 6) = some (.slice x40_p x40_l x40_c) ∧ brackenref15_qname.C x33 x35 H2 fun x36 H5 => (∃ x29s : ByteArray, hcell H5 ((⟨Array.size H0, 0, none⟩ : Addr).add 4) = some (.string x29s) ∧ (.string x29s : Value) = .string x29) ∧ (∃ (x40s_p : Option Addr) (x40s_l x40s_c : Nat), hcell H5 ((⟨Array.size H0, 0, none⟩ : Addr).add 6) = some (.slice x40s_p x40s_l x40s_c) ∧ (.slice x40s_p x40s_l x40s_c : Value) = .slice x40_p x40_l x40_c) ∧ (((s3 ++ (⟨#[101, 108, 101, 109, 101, 110, 116, 32, 123]⟩ : ByteArray)) ++ x29) ++ (⟨#[125]⟩ : ByteArray)).size + x36.size ≤ 9223372036854775807 ∧ ((((s3 ++ (⟨#[101, 108, 101, 109, 101, 110, 116, 32, 123]⟩ : ByteArray)) ++ x29) ++ (⟨#[125]⟩ : ByteArray)) ++ x36).size + (⟨#[32]⟩ : ByteArray).size ≤ 9223372036854775807 ∧ brackenref15_Decimal.C ((x40_l : Int)) H5 fun x42 H6 => (∃ x29s : ByteArray, hcell H6 ((⟨Array.size H0, 0, none⟩ : Addr).add 4) = some (.string x29s) ∧ (.string x29s : Value) = .string x29) ∧ (((((s3 ++ (⟨#[101, 108, 101, 109, 101, 110, 116, 32, 123]⟩ : ByteArray)) ++ x29) ++ (⟨#[125]⟩ : ByteArray)) ++ x36) ++ (⟨#[32]⟩ : ByteArray)).size + x42.size ≤ 9223372036854775807 ∧ R ((((((s3 ++ (⟨#[101, 108, 101, 109, 101, 110, 116, 32, 123]⟩ : ByteArray)) ++ x29) ++ (⟨#[125]⟩ : ByteArray)) ++ x36) ++ (⟨#[32]⟩ : ByteArray)) ++ x42) H6) (brW (decide (x19 = 3)) (s3.size + (⟨#[116, 101, 120, 116, 32]⟩ : ByteArray).size ≤ 9223372036854775807 ∧
  ∃ x49 : ByteArray, hcell H2 ((⟨Array.size H0, 0, none⟩ : Addr).add 5) = some (.string x49) ∧ brackenref15_Decimal.C ((x49.size : Int)) H2 fun x51 H7 => (s3 ++ (⟨#[116, 101, 120, 116, 32]⟩ : ByteArray)).size + x51.size ≤ 9223372036854775807 ∧ R ((s3 ++ (⟨#[116, 101, 120, 116, 32]⟩ : ByteArray)) ++ x51) H7) (brW (decide (x19 = 4)) (s3.size + (⟨#[99, 111, 109, 109, 101, 110, 116, 32]⟩ : ByteArray).size ≤ 9223372036854775807 ∧
  ∃ x58 : ByteArray, hcell H2 ((⟨Array.size H0, 0, none⟩ : Addr).add 5) = some (.string x58) ∧ brackenref15_Decimal.C ((x58.size : Int)) H2 fun x60 H8 => (s3 ++ (⟨#[99, 111, 109, 109, 101, 110, 116, 32]⟩ : ByteArray)).size + x60.size ≤ 9223372036854775807 ∧ R ((s3 ++ (⟨#[99, 111, 109, 109, 101, 110, 116, 32]⟩ : ByteArray)) ++ x60) H8) (brW (decide (x19 = 5)) (s3.size + (⟨#[112, 105, 32]⟩ : ByteArray).size ≤ 9223372036854775807 ∧
  ∃ x67 : ByteArray, hcell H2 ((⟨Array.size H0, 0, none⟩ : Addr).add 3) = some (.string x67) ∧ (s3 ++ (⟨#[112, 105, 32]⟩ : ByteArray)).size + x67.size ≤ 9223372036854775807 ∧ R ((s3 ++ (⟨#[112, 105, 32]⟩ : ByteArray)) ++ x67) H2) (s3.size + (⟨#[63]⟩ : ByteArray).size ≤ 9223372036854775807 ∧ R (s3 ++ (⟨#[63]⟩ : ByteArray)) H2)))))) s6.1)
theorem brackenref15_Line.eq (a0n_0 : Int) (a0n_1 : Int) (a0n_2 : ByteArray) (a0n_3 : ByteArray) (a0n_4 : ByteArray) (a0n_5 : ByteArray) (a0n_6_p : Option Addr) (a0n_6_l a0n_6_c : Nat) (R : ByteArray → Heap → Prop) (H0 : Heap) :
    evF Tryd.prog brackenref15_Line.ann Tryd.f10 [.agg #[.int .i64 a0n_0, .int .i64 a0n_1, .string a0n_2, .string a0n_3, .string a0n_4, .string a0n_5, .slice a0n_6_p a0n_6_l a0n_6_c]] (fun v H' => xS (.one .str) v fun r => R r H') H0 = brackenref15_Line.W a0n_0 a0n_1 a0n_2 a0n_3 a0n_4 a0n_5 a0n_6_p a0n_6_l a0n_6_c R H0 := by kernel_rfl
theorem brackenref15_Line.calls {a0n_0 : Int} {a0n_1 : Int} {a0n_2 : ByteArray} {a0n_3 : ByteArray} {a0n_4 : ByteArray} {a0n_5 : ByteArray} {a0n_6_p : Option Addr} {a0n_6_l a0n_6_c : Nat} {R : ByteArray → Heap → Prop} {H0 : Heap} (h : brackenref15_Line.W a0n_0 a0n_1 a0n_2 a0n_3 a0n_4 a0n_5 a0n_6_p a0n_6_l a0n_6_c R H0) : brackenref15_Line.C a0n_0 a0n_1 a0n_2 a0n_3 a0n_4 a0n_5 a0n_6_p a0n_6_l a0n_6_c H0 R :=
  (evF_sound progOk_ Tryd.func10 (by rw [brackenref15_Line.eq]; exact h)).mono fun v H' h => by obtain ⟨x, hv, hk⟩ := xS_out h; exact ⟨x, hv, hk⟩

def brackenref15_Word.ann : Ann := { ord := fun _ => [], loop := fun _ => none, join := fun i => bif Nat.beq i 2 then some [(8, .one .bool)] else bif Nat.beq i 3 then some [] else none }
/-- bracken.brackenref15.Word -/
def brackenref15_Word.W (a0c : Int) (R : ByteArray → Heap → Prop) (H0 : Heap) : Prop :=
  
  JoinW (S := Unit) (fun J3 => 
  JoinW (S := (Bool × Unit)) (fun J2 =>
  brW (decide (a0c < 0)) (J2 (true, ()) H0) (J2 (decide ((7 : Int) < a0c), ()) H0))
  (fun s2 H2 => (fun (x8 : Bool) =>
  brW x8 (R (⟨#[63]⟩ : ByteArray) H2) (J3 () H2)) s2.1))
  (fun _ H1 =>
  letV (hnew H1 #[.string (⟨#[111, 107]⟩ : ByteArray), .string (⟨#[97, 114, 103, 117, 109, 101, 110, 116]⟩ : ByteArray), .string (⟨#[115, 121, 110, 116, 97, 120]⟩ : ByteArray), .string (⟨#[108, 105, 109, 105, 116]⟩ : ByteArray), .string (⟨#[114, 97, 110, 103, 101]⟩ : ByteArray), .string (⟨#[107, 105, 110, 100]⟩ : ByteArray), .string (⟨#[110, 111, 110, 101]⟩ : ByteArray), .string (⟨#[102, 117, 108, 108]⟩ : ByteArray)] ty_string) fun H3 : Heap =>
  ∃ x11 : Addr, some ⟨Array.size H1, 0, none⟩ = some x11 ∧ 0 ≤ a0c ∧ a0c < (8 : Int) ∧
  ∃ x12 : ByteArray, hcell H3 (x11.add a0c.toNat) = some (.string x12) ∧ R x12 H3)
theorem brackenref15_Word.eq (a0c : Int) (R : ByteArray → Heap → Prop) (H0 : Heap) :
    evF Tryd.prog brackenref15_Word.ann Tryd.f11 [.int .i64 a0c] (fun v H' => xS (.one .str) v fun r => R r H') H0 = brackenref15_Word.W a0c R H0 := by kernel_rfl
theorem brackenref15_Word.calls {a0c : Int} {R : ByteArray → Heap → Prop} {H0 : Heap} (h : brackenref15_Word.W a0c R H0) : brackenref15_Word.C a0c H0 R :=
  (evF_sound progOk_ Tryd.func11 (by rw [brackenref15_Word.eq]; exact h)).mono fun v H' h => by obtain ⟨x, hv, hk⟩ := xS_out h; exact ⟨x, hv, hk⟩

def brackenref15_Report.ann : Ann := { ord := fun _ => [], loop := fun i => bif Nat.beq i 3 then some [(3, .one .str), (4, .one (.int .i64))] else none, join := fun i => bif Nat.beq i 6 then some [(3, .one .str)] else none }
/-- bracken.brackenref15.Report -/
def brackenref15_Report.W (a0t_p : Option Addr) (a0t_l a0t_c : Nat) (R : ByteArray → Heap → Prop) (H0 : Heap) : Prop :=
  
  JoinW (S := (ByteArray × Unit)) (fun J6 => 
  LoopW (S := (ByteArray × Int × Unit)) (fun L3 q3 H2 => (fun (s3 : ByteArray) (i4 : Int) =>
  brW (decide (i4 < (a0t_l : Int))) (∃ x14 : Addr, a0t_p = some x14 ∧ 0 ≤ i4 ∧ i4 < (a0t_l : Int) ∧
  ∃ x15_0 : Int, hcell H2 ((x14.add (i4.toNat * 7)).add 0) = some (.int .i64 x15_0) ∧
  ∃ x15_1 : Int, hcell H2 ((x14.add (i4.toNat * 7)).add 1) = some (.int .i64 x15_1) ∧
  ∃ x15_2 : ByteArray, hcell H2 ((x14.add (i4.toNat * 7)).add 2) = some (.string x15_2) ∧
  ∃ x15_3 : ByteArray, hcell H2 ((x14.add (i4.toNat * 7)).add 3) = some (.string x15_3) ∧
  ∃ x15_4 : ByteArray, hcell H2 ((x14.add (i4.toNat * 7)).add 4) = some (.string x15_4) ∧
  ∃ x15_5 : ByteArray, hcell H2 ((x14.add (i4.toNat * 7)).add 5) = some (.string x15_5) ∧
  ∃ (x15_6_p : Option Addr) (x15_6_l x15_6_c : Nat), hcell H2 ((x14.add (i4.toNat * 7)).add 6) = some (.slice x15_6_p x15_6_l x15_6_c) ∧ brackenref15_Line.C (x15_0) (x15_1) x15_2 x15_3 x15_4 x15_5 (x15_6_p) x15_6_l x15_6_c H2 fun x16 H3 => s3.size + x16.size ≤ 9223372036854775807 ∧ (s3 ++ x16).size + (⟨#[10]⟩ : ByteArray).size ≤ 9223372036854775807 ∧
  letV (IntKind.i64.wrap (i4 + 1)) fun i4b : Int => L3 ((s3 ++ x16) ++ (⟨#[10]⟩ : ByteArray), (i4b : Int), ()) H3) (J6 (s3, ()) H2)) q3.1 q3.2.1) ((⟨#[]⟩ : ByteArray), (0 : Int), ()) H0)
  (fun s6 H1 => (fun (s3 : ByteArray) => R s3 H1) s6.1)
theorem brackenref15_Report.eq (a0t_p : Option Addr) (a0t_l a0t_c : Nat) (R : ByteArray → Heap → Prop) (H0 : Heap) :
    evF Tryd.prog brackenref15_Report.ann Tryd.f13 [.slice a0t_p a0t_l a0t_c] (fun v H' => xS (.one .str) v fun r => R r H') H0 = brackenref15_Report.W a0t_p a0t_l a0t_c R H0 := by kernel_rfl
theorem brackenref15_Report.calls {a0t_p : Option Addr} {a0t_l a0t_c : Nat} {R : ByteArray → Heap → Prop} {H0 : Heap} (h : brackenref15_Report.W a0t_p a0t_l a0t_c R H0) : brackenref15_Report.C a0t_p a0t_l a0t_c H0 R :=
  (evF_sound progOk_ Tryd.func13 (by rw [brackenref15_Report.eq]; exact h)).mono fun v H' h => by obtain ⟨x, hv, hk⟩ := xS_out h; exact ⟨x, hv, hk⟩

def brackenlaw27_ReportAsks.ann : Ann := { ord := fun i => bif Nat.beq i 10 then [0, 1, 2, 3, 5, 6, 7, 8, 4, 9, 10] else bif Nat.beq i 12 then [0, 1, 2, 4, 3, 5, 6, 7, 8, 9, 11, 10, 12, 13, 14, 15, 16, 18, 17, 19, 20, 21] else [], loop := fun i => bif Nat.beq i 5 then some [(6, .one (.int .i64))] else none, join := fun i => bif Nat.beq i 6 then some [] else bif Nat.beq i 8 then some [(30, .one .bool)] else bif Nat.beq i 10 then some [] else bif Nat.beq i 12 then some [] else none }
/-- bracken.brackenlaw27.ReportAsks -/
def brackenlaw27_ReportAsks.W (a0c : Int) (a1t_p : Option Addr) (a1t_l a1t_c : Nat) (R : Bool → Heap → Prop) (H0 : Heap) : Prop :=
  brackenlaw16_Few.C (a1t_p) a1t_l a1t_c H0 fun x8 H1 =>
  brW (!x8) (brackenlaw27_told.C  H1 fun x10 H2 => R (x10) H2) (letV (hnew H1 #[.int .i64 0, .int .i64 0, .int .i64 0, .int .i64 0, .int .i64 0, .int .i64 0] ty_6_int) fun H3 : Heap => 
  JoinW (S := Unit) (fun J12 => 
  LoopW (S := (Int × Unit)) (fun L5 q5 H5 => (fun (i6 : Int) =>
  brW (decide (i6 < (a1t_l : Int))) (
  JoinW (S := Unit) (fun J6 => 
  JoinW (S := Unit) (fun J10 => 
  JoinW (S := (Bool × Unit)) (fun J8 =>
  ∃ x19 : Addr, a1t_p = some x19 ∧ 0 ≤ i6 ∧ i6 < (a1t_l : Int) ∧
  ∃ x21 : Int, hcell H5 ((x19.add (i6.toNat * 7)).add 0) = some (.int .i64 x21) ∧
  brW (decide ((1 : Int) ≤ x21)) (∃ x26 : Addr, a1t_p = some x26 ∧ 0 ≤ i6 ∧ i6 < (a1t_l : Int) ∧
  ∃ x28 : Int, hcell H5 ((x26.add (i6.toNat * 7)).add 0) = some (.int .i64 x28) ∧ J8 (decide (x28 ≤ 5), ()) H5) (J8 (false, ()) H5))
  (fun s8 H8 => (fun (x30 : Bool) =>
  brW x30 (∃ x33 : Addr, a1t_p = some x33 ∧ 0 ≤ i6 ∧ i6 < (a1t_l : Int) ∧
  ∃ x35 : Int, hcell H8 ((x33.add (i6.toNat * 7)).add 0) = some (.int .i64 x35) ∧ 0 ≤ x35 ∧ x35 < ((6 : Nat) : Int) ∧
  ∃ x37 : Int, hcell H8 ((⟨Array.size H1, 0, none⟩ : Addr).add (mulSize x35.toNat 1)) = some (.int .i64 x37) ∧ 0 ≤ x35 ∧ x35 < ((6 : Nat) : Int) ∧ (∃ u, hcell H8 ((⟨Array.size H1, 0, none⟩ : Addr).add (mulSize x35.toNat 1)) = some u) ∧ hfrozen H8 ((⟨Array.size H1, 0, none⟩ : Addr).add (mulSize x35.toNat 1)) = false ∧
  letV (hset H8 ((⟨Array.size H1, 0, none⟩ : Addr).add (mulSize x35.toNat 1)) (.int .i64 (IntKind.i64.wrap (x37 + 1)))) fun H9 : Heap => J10 () H9) (0 ≤ (0 : Int) ∧ (0 : Int) < ((6 : Nat) : Int) ∧
  ∃ x41 : Int, hcell H8 ((⟨Array.size H1, 0, none⟩ : Addr).add (mulSize (0 : Int).toNat 1)) = some (.int .i64 x41) ∧ 0 ≤ (0 : Int) ∧ (0 : Int) < ((6 : Nat) : Int) ∧ (∃ u, hcell H8 ((⟨Array.size H1, 0, none⟩ : Addr).add (mulSize (0 : Int).toNat 1)) = some u) ∧ hfrozen H8 ((⟨Array.size H1, 0, none⟩ : Addr).add (mulSize (0 : Int).toNat 1)) = false ∧
  letV (hset H8 ((⟨Array.size H1, 0, none⟩ : Addr).add (mulSize (0 : Int).toNat 1)) (.int .i64 (IntKind.i64.wrap (x41 + 1)))) fun H10 : Heap => J10 () H10)) s8.1))
  (fun _ H7 =>
  ∃ x46 : Addr, a1t_p = some x46 ∧ 0 ≤ i6 ∧ i6 < (a1t_l : Int) ∧
  ∃ x47_0 : Int, hcell H7 ((x46.add (i6.toNat * 7)).add 0) = some (.int .i64 x47_0) ∧
  ∃ x47_1 : Int, hcell H7 ((x46.add (i6.toNat * 7)).add 1) = some (.int .i64 x47_1) ∧
  ∃ x47_2 : ByteArray, hcell H7 ((x46.add (i6.toNat * 7)).add 2) = some (.string x47_2) ∧
  ∃ x47_3 : ByteArray, hcell H7 ((x46.add (i6.toNat * 7)).add 3) = some (.string x47_3) ∧
  ∃ x47_4 : ByteArray, hcell H7 ((x46.add (i6.toNat * 7)).add 4) = some (.string x47_4) ∧
  ∃ x47_5 : ByteArray, hcell H7 ((x46.add (i6.toNat * 7)).add 5) = some (.string x47_5) ∧
  ∃ (x47_6_p : Option Addr) (x47_6_l x47_6_c : Nat), hcell H7 ((x46.add (i6.toNat * 7)).add 6) = some (.slice x47_6_p x47_6_l x47_6_c) ∧
  ∃ x51 : Addr, a1t_p = some x51 ∧ 0 ≤ i6 ∧ i6 < (a1t_l : Int) ∧
  ∃ x52_0 : Int, hcell H7 ((x51.add (i6.toNat * 7)).add 0) = some (.int .i64 x52_0) ∧
  ∃ x52_1 : Int, hcell H7 ((x51.add (i6.toNat * 7)).add 1) = some (.int .i64 x52_1) ∧
  ∃ x52_2 : ByteArray, hcell H7 ((x51.add (i6.toNat * 7)).add 2) = some (.string x52_2) ∧
  ∃ x52_3 : ByteArray, hcell H7 ((x51.add (i6.toNat * 7)).add 3) = some (.string x52_3) ∧
  ∃ x52_4 : ByteArray, hcell H7 ((x51.add (i6.toNat * 7)).add 4) = some (.string x52_4) ∧
  ∃ x52_5 : ByteArray, hcell H7 ((x51.add (i6.toNat * 7)).add 5) = some (.string x52_5) ∧
  ∃ (x52_6_p : Option Addr) (x52_6_l x52_6_c : Nat), hcell H7 ((x51.add (i6.toNat * 7)).add 6) = some (.slice x52_6_p x52_6_l x52_6_c) ∧ report_Line.C (x47_0) (x47_1) x47_2 x47_3 x47_4 x47_5 (x47_6_p) x47_6_l x47_6_c H7 fun x48 H11 => (∃ x52s_0 : Int, hcell H11 ((x51.add (i6.toNat * 7)).add 0) = some (.int .i64 x52s_0) ∧
  ∃ x52s_1 : Int, hcell H11 ((x51.add (i6.toNat * 7)).add 1) = some (.int .i64 x52s_1) ∧
  ∃ x52s_2 : ByteArray, hcell H11 ((x51.add (i6.toNat * 7)).add 2) = some (.string x52s_2) ∧
  ∃ x52s_3 : ByteArray, hcell H11 ((x51.add (i6.toNat * 7)).add 3) = some (.string x52s_3) ∧
  ∃ x52s_4 : ByteArray, hcell H11 ((x51.add (i6.toNat * 7)).add 4) = some (.string x52s_4) ∧
  ∃ x52s_5 : ByteArray, hcell H11 ((x51.add (i6.toNat * 7)).add 5) = some (.string x52s_5) ∧
  ∃ (x52s_6_p : Option Addr) (x52s_6_l x52s_6_c : Nat), hcell H11 ((x51.add (i6.toNat * 7)).add 6) = some (.slice x52s_6_p x52s_6_l x52s_6_c) ∧ (.agg #[.int .i64 x52s_0, .int .i64 x52s_1, .string x52s_2, .string x52s_3, .string x52s_4, .string x52s_5, .slice x52s_6_p x52s_6_l x52s_6_c] : Value) = .agg #[.int .i64 x52_0, .int .i64 x52_1, .string x52_2, .string x52_3, .string x52_4, .string x52_5, .slice x52_6_p x52_6_l x52_6_c]) ∧ brackenref15_Line.C (x52_0) (x52_1) x52_2 x52_3 x52_4 x52_5 (x52_6_p) x52_6_l x52_6_c H11 fun x53 H12 =>
  brW (decide (x48 ≠ x53)) (R false H12) (J6 () H12)))
  (fun _ H6 =>
  letV (IntKind.i64.wrap (i6 + 1)) fun i6b : Int => L5 ((i6b : Int), ()) H6)) (J12 () H5)) q5.1) ((0 : Int), ()) H3)
  (fun _ H4 =>
  brackenlaw27_told.C  H4 fun x55 H13 =>
  brW x55 (report_Code.C (a0c) H13 fun x58 H14 =>
  brackenref15_Word.C (a0c) H14 fun x60 H15 =>
  brW (decide (x58 = x60)) (report_Tree.C (a1t_p) a1t_l a1t_c H15 fun x65 H16 =>
  brackenref15_Report.C (a1t_p) a1t_l a1t_c H16 fun x67 H17 =>
  brW (decide (x65 = x67)) (∃ x73_0 : Int, hcell H17 ((⟨Array.size H1, 0, none⟩ : Addr).add 0) = some (.int .i64 x73_0) ∧
  ∃ x73_1 : Int, hcell H17 ((⟨Array.size H1, 0, none⟩ : Addr).add 1) = some (.int .i64 x73_1) ∧
  ∃ x73_2 : Int, hcell H17 ((⟨Array.size H1, 0, none⟩ : Addr).add 2) = some (.int .i64 x73_2) ∧
  ∃ x73_3 : Int, hcell H17 ((⟨Array.size H1, 0, none⟩ : Addr).add 3) = some (.int .i64 x73_3) ∧
  ∃ x73_4 : Int, hcell H17 ((⟨Array.size H1, 0, none⟩ : Addr).add 4) = some (.int .i64 x73_4) ∧
  ∃ x73_5 : Int, hcell H17 ((⟨Array.size H1, 0, none⟩ : Addr).add 5) = some (.int .i64 x73_5) ∧ report_Counts.C (a1t_p) a1t_l a1t_c H17 fun x72_0 x72_1 x72_2 x72_3 x72_4 x72_5 H18 => (∃ x73s_0 : Int, hcell H18 ((⟨Array.size H1, 0, none⟩ : Addr).add 0) = some (.int .i64 x73s_0) ∧
  ∃ x73s_1 : Int, hcell H18 ((⟨Array.size H1, 0, none⟩ : Addr).add 1) = some (.int .i64 x73s_1) ∧
  ∃ x73s_2 : Int, hcell H18 ((⟨Array.size H1, 0, none⟩ : Addr).add 2) = some (.int .i64 x73s_2) ∧
  ∃ x73s_3 : Int, hcell H18 ((⟨Array.size H1, 0, none⟩ : Addr).add 3) = some (.int .i64 x73s_3) ∧
  ∃ x73s_4 : Int, hcell H18 ((⟨Array.size H1, 0, none⟩ : Addr).add 4) = some (.int .i64 x73s_4) ∧
  ∃ x73s_5 : Int, hcell H18 ((⟨Array.size H1, 0, none⟩ : Addr).add 5) = some (.int .i64 x73s_5) ∧ (.agg #[.int .i64 x73s_0, .int .i64 x73s_1, .int .i64 x73s_2, .int .i64 x73s_3, .int .i64 x73s_4, .int .i64 x73s_5] : Value) = .agg #[.int .i64 x73_0, .int .i64 x73_1, .int .i64 x73_2, .int .i64 x73_3, .int .i64 x73_4, .int .i64 x73_5]) ∧ R ((decide (x72_0 = x73_0) && (decide (x72_1 = x73_1) && (decide (x72_2 = x73_2) && (decide (x72_3 = x73_3) && (decide (x72_4 = x73_4) && (decide (x72_5 = x73_5) && true))))))) H18) (R false H17)) (R false H15)) (R false H13)))
theorem brackenlaw27_ReportAsks.eq (a0c : Int) (a1t_p : Option Addr) (a1t_l a1t_c : Nat) (R : Bool → Heap → Prop) (H0 : Heap) :
    evF Tryd.prog brackenlaw27_ReportAsks.ann Tryd.f4 [.int .i64 a0c, .slice a1t_p a1t_l a1t_c] (fun v H' => xS (.one .bool) v fun r => R r H') H0 = brackenlaw27_ReportAsks.W a0c a1t_p a1t_l a1t_c R H0 := by kernel_rfl
theorem brackenlaw27_ReportAsks.calls {a0c : Int} {a1t_p : Option Addr} {a1t_l a1t_c : Nat} {R : Bool → Heap → Prop} {H0 : Heap} (h : brackenlaw27_ReportAsks.W a0c a1t_p a1t_l a1t_c R H0) : brackenlaw27_ReportAsks.C a0c a1t_p a1t_l a1t_c H0 R :=
  (evF_sound progOk_ Tryd.func4 (by rw [brackenlaw27_ReportAsks.eq]; exact h)).mono fun v H' h => by obtain ⟨x, hv, hk⟩ := xS_out h; exact ⟨x, hv, hk⟩

def brackenref10_Scope_Pop.ann : Ann := { ord := fun i => bif Nat.beq i 3 then [0, 1, 2, 3, 4, 5, 6, 7, 8, 9, 10, 11, 12, 13, 14] else [], loop := fun _ => none, join := fun _ => none }
/-- (*bracken.brackenref10.Scope).Pop -/
def brackenref10_Scope_Pop.W (a0s : Option Addr) (R : Bool → Heap → Prop) (H0 : Heap) : Prop :=
  ∃ x4 : Addr, a0s = some x4 ∧
  ∃ (x6_p : Option Addr) (x6_l x6_c : Nat), hcell H0 (x4.add 0) = some (.slice x6_p x6_l x6_c) ∧
  brW (decide ((x6_l : Int) = 0)) (R false H0) (∃ x11 : Addr, a0s = some x11 ∧
  ∃ (x13_p : Option Addr) (x13_l x13_c : Nat), hcell H0 (x11.add 0) = some (.slice x13_p x13_l x13_c) ∧
  ∃ x15 : Addr, a0s = some x15 ∧
  ∃ (x17_p : Option Addr) (x17_l x17_c : Nat), hcell H0 (x15.add 0) = some (.slice x17_p x17_l x17_c) ∧ 0 ≤ IntKind.i64.wrap ((x17_l : Int) - 1) ∧ IntKind.i64.wrap ((x17_l : Int) - 1) ≤ (x13_c : Int) ∧
  ∃ x21 : Addr, a0s = some x21 ∧ (∃ u, hcell H0 (x21.add 0) = some u) ∧ hfrozen H0 (x21.add 0) = false ∧
  letV (hset H0 (x21.add 0) (.slice ((if x13_c = 0 then x13_p else Option.map (fun q : Addr => q.add 0) x13_p)) ((((IntKind.i64.wrap ((x17_l : Int) - 1)).toNat) - 0 : Nat)) (x13_c - 0 : Nat))) fun H1 : Heap => R true H1)
theorem brackenref10_Scope_Pop.eq (a0s : Option Addr) (R : Bool → Heap → Prop) (H0 : Heap) :
    evF Tryd.prog brackenref10_Scope_Pop.ann Tryd.f22 [.pointer a0s] (fun v H' => xS (.one .bool) v fun r => R r H') H0 = brackenref10_Scope_Pop.W a0s R H0 := by kernel_rfl
theorem brackenref10_Scope_Pop.calls {a0s : Option Addr} {R : Bool → Heap → Prop} {H0 : Heap} (h : brackenref10_Scope_Pop.W a0s R H0) : brackenref10_Scope_Pop.C a0s H0 R :=
  (evF_sound progOk_ Tryd.func22 (by rw [brackenref10_Scope_Pop.eq]; exact h)).mono fun v H' h => by obtain ⟨x, hv, hk⟩ := xS_out h; exact ⟨x, hv, hk⟩

def brackenlaw16_attrs.ann : Ann := { ord := fun _ => [], loop := fun _ => none, join := fun i => bif Nat.beq i 4 then some [(3, .one .slice)] else bif Nat.beq i 6 then some [(3, .one .slice)] else bif Nat.beq i 8 then some [(3, .one .slice)] else bif Nat.beq i 10 then some [(3, .one .slice)] else bif Nat.beq i 12 then some [(3, .one .slice)] else bif Nat.beq i 14 then some [(3, .one .slice)] else none }
/-- bracken.brackenlaw16.attrs -/
def brackenlaw16_attrs.W (a0u : Int) (R : Option Addr → Nat → Nat → Heap → Prop) (H0 : Heap) : Prop :=
  
  JoinW (S := ((Option Addr × Nat × Nat) × Unit)) (fun J4 =>
  brW (decide ((andW .u64 a0u 1) = 1)) (letV (hnew H0 #[.string (⟨#[117]⟩ : ByteArray), .string (⟨#[118]⟩ : ByteArray)] ty_string) fun H2 : Heap => (2 : Int) ≠ 0 ∧ (2 : Int) ≠ 0 ∧
  ∃ x12 : Addr, some ⟨Array.size H0, 0, none⟩ = some x12 ∧ 0 ≤ Int.tmod (IntKind.u64.wrap (Int.tdiv a0u 2)) 2 ∧ Int.tmod (IntKind.u64.wrap (Int.tdiv a0u 2)) 2 < (2 : Int) ∧
  ∃ x13 : ByteArray, hcell H2 (x12.add ((Int.tmod (IntKind.u64.wrap (Int.tdiv a0u 2)) 2).toNat)) = some (.string x13) ∧
  letV (hnew H2 #[.string (⟨#[120, 109, 108, 110, 115]⟩ : ByteArray), .string (⟨#[112]⟩ : ByteArray), .string (⟨#[104, 116, 116, 112, 58, 47, 47, 119, 119, 119, 46, 119, 51, 46, 111, 114, 103, 47, 50, 48, 48, 48, 47, 120, 109, 108, 110, 115, 47]⟩ : ByteArray), .string x13] ty_api_Attr) fun H3 : Heap => appW ty_api_Attr 4 64 (.agg #[.string (⟨#[]⟩ : ByteArray), .string (⟨#[]⟩ : ByteArray), .string (⟨#[]⟩ : ByteArray), .string (⟨#[]⟩ : ByteArray)]) none 0 0 (.slice (some ⟨Array.size H2, 0, none⟩) 1 1) H3 fun x16_p x16_l x16_c H4 => J4 ((x16_p, x16_l, x16_c), ()) H4) (J4 ((none, 0, 0), ()) H0))
  (fun s4 H1 => (fun (l3_p : Option Addr) (l3_l l3_c : Nat) => 
  JoinW (S := ((Option Addr × Nat × Nat) × Unit)) (fun J6 =>
  brW (decide ((andW .u64 a0u 4) = 4)) (letV (hnew H1 #[.string (⟨#[117]⟩ : ByteArray), .string (⟨#[]⟩ : ByteArray), .string (⟨#[119]⟩ : ByteArray)] ty_string) fun H6 : Heap => (8 : Int) ≠ 0 ∧ (3 : Int) ≠ 0 ∧
  ∃ x25 : Addr, some ⟨Array.size H1, 0, none⟩ = some x25 ∧ 0 ≤ Int.tmod (IntKind.u64.wrap (Int.tdiv a0u 8)) 3 ∧ Int.tmod (IntKind.u64.wrap (Int.tdiv a0u 8)) 3 < (3 : Int) ∧
  ∃ x26 : ByteArray, hcell H6 (x25.add ((Int.tmod (IntKind.u64.wrap (Int.tdiv a0u 8)) 3).toNat)) = some (.string x26) ∧
  letV (hnew H6 #[.string (⟨#[]⟩ : ByteArray), .string (⟨#[120, 109, 108, 110, 115]⟩ : ByteArray), .string (⟨#[104, 116, 116, 112, 58, 47, 47, 119, 119, 119, 46, 119, 51, 46, 111, 114, 103, 47, 50, 48, 48, 48, 47, 120, 109, 108, 110, 115, 47]⟩ : ByteArray), .string x26] ty_api_Attr) fun H7 : Heap => appW ty_api_Attr 4 64 (.agg #[.string (⟨#[]⟩ : ByteArray), .string (⟨#[]⟩ : ByteArray), .string (⟨#[]⟩ : ByteArray), .string (⟨#[]⟩ : ByteArray)]) l3_p l3_l l3_c (.slice (some ⟨Array.size H6, 0, none⟩) 1 1) H7 fun x29_p x29_l x29_c H8 => J6 ((x29_p, x29_l, x29_c), ()) H8) (J6 ((l3_p, l3_l, l3_c), ()) H1))
  (fun s6 H5 => (fun (l3_p : Option Addr) (l3_l l3_c : Nat) => 
  JoinW (S := ((Option Addr × Nat × Nat) × Unit)) (fun J8 =>
  brW (decide ((andW .u64 a0u 16) = 16)) (letV (hnew H5 #[.string (⟨#[49]⟩ : ByteArray), .string (⟨#[32, 10, 9]⟩ : ByteArray), .string (⟨#[60, 34, 38, 62]⟩ : ByteArray), .string (⟨#[13]⟩ : ByteArray)] ty_string) fun H10 : Heap => (32 : Int) ≠ 0 ∧ (4 : Int) ≠ 0 ∧
  ∃ x38 : Addr, some ⟨Array.size H5, 0, none⟩ = some x38 ∧ 0 ≤ Int.tmod (IntKind.u64.wrap (Int.tdiv a0u 32)) 4 ∧ Int.tmod (IntKind.u64.wrap (Int.tdiv a0u 32)) 4 < (4 : Int) ∧
  ∃ x39 : ByteArray, hcell H10 (x38.add ((Int.tmod (IntKind.u64.wrap (Int.tdiv a0u 32)) 4).toNat)) = some (.string x39) ∧
  letV (hnew H10 #[.string (⟨#[]⟩ : ByteArray), .string (⟨#[120]⟩ : ByteArray), .string (⟨#[]⟩ : ByteArray), .string x39] ty_api_Attr) fun H11 : Heap => appW ty_api_Attr 4 64 (.agg #[.string (⟨#[]⟩ : ByteArray), .string (⟨#[]⟩ : ByteArray), .string (⟨#[]⟩ : ByteArray), .string (⟨#[]⟩ : ByteArray)]) l3_p l3_l l3_c (.slice (some ⟨Array.size H10, 0, none⟩) 1 1) H11 fun x42_p x42_l x42_c H12 => J8 ((x42_p, x42_l, x42_c), ()) H12) (J8 ((l3_p, l3_l, l3_c), ()) H5))
  (fun s8 H9 => (fun (l3_p : Option Addr) (l3_l l3_c : Nat) => 
  JoinW (S := ((Option Addr × Nat × Nat) × Unit)) (fun J10 =>
  brW (decide ((andW .u64 a0u 64) = 64)) (letV (hnew H9 #[.string (⟨#[112]⟩ : ByteArray), .string (⟨#[120]⟩ : ByteArray), .string (⟨#[]⟩ : ByteArray), .string (⟨#[50]⟩ : ByteArray)] ty_api_Attr) fun H14 : Heap => appW ty_api_Attr 4 64 (.agg #[.string (⟨#[]⟩ : ByteArray), .string (⟨#[]⟩ : ByteArray), .string (⟨#[]⟩ : ByteArray), .string (⟨#[]⟩ : ByteArray)]) l3_p l3_l l3_c (.slice (some ⟨Array.size H9, 0, none⟩) 1 1) H14 fun x49_p x49_l x49_c H15 => J10 ((x49_p, x49_l, x49_c), ()) H15) (J10 ((l3_p, l3_l, l3_c), ()) H9))
  (fun s10 H13 => (fun (l3_p : Option Addr) (l3_l l3_c : Nat) => 
  JoinW (S := ((Option Addr × Nat × Nat) × Unit)) (fun J12 =>
  brW (decide ((andW .u64 a0u 128) = 128)) (letV (hnew H13 #[.string (⟨#[120, 109, 108]⟩ : ByteArray), .string (⟨#[105, 100]⟩ : ByteArray), .string (⟨#[]⟩ : ByteArray), .string (⟨#[105]⟩ : ByteArray)] ty_api_Attr) fun H17 : Heap => appW ty_api_Attr 4 64 (.agg #[.string (⟨#[]⟩ : ByteArray), .string (⟨#[]⟩ : ByteArray), .string (⟨#[]⟩ : ByteArray), .string (⟨#[]⟩ : ByteArray)]) l3_p l3_l l3_c (.slice (some ⟨Array.size H13, 0, none⟩) 1 1) H17 fun x56_p x56_l x56_c H18 => J12 ((x56_p, x56_l, x56_c), ()) H18) (J12 ((l3_p, l3_l, l3_c), ()) H13))
  (fun s12 H16 => (fun (l3_p : Option Addr) (l3_l l3_c : Nat) => 
  JoinW (S := ((Option Addr × Nat × Nat) × Unit)) (fun J14 =>
  brW (decide ((andW .u64 a0u 256) = 256)) (letV (hnew H16 #[.string (⟨#[120, 109, 108, 110, 115]⟩ : ByteArray), .string (⟨#[113]⟩ : ByteArray), .string (⟨#[104, 116, 116, 112, 58, 47, 47, 119, 119, 119, 46, 119, 51, 46, 111, 114, 103, 47, 50, 48, 48, 48, 47, 120, 109, 108, 110, 115, 47]⟩ : ByteArray), .string (⟨#[117]⟩ : ByteArray)] ty_api_Attr) fun H20 : Heap => appW ty_api_Attr 4 64 (.agg #[.string (⟨#[]⟩ : ByteArray), .string (⟨#[]⟩ : ByteArray), .string (⟨#[]⟩ : ByteArray), .string (⟨#[]⟩ : ByteArray)]) l3_p l3_l l3_c (.slice (some ⟨Array.size H16, 0, none⟩) 1 1) H20 fun x63_p x63_l x63_c H21 => J14 ((x63_p, x63_l, x63_c), ()) H21) (J14 ((l3_p, l3_l, l3_c), ()) H16))
  (fun s14 H19 => (fun (l3_p : Option Addr) (l3_l l3_c : Nat) => R (l3_p) l3_l l3_c H19) s14.1.1 s14.1.2.1 s14.1.2.2)) s12.1.1 s12.1.2.1 s12.1.2.2)) s10.1.1 s10.1.2.1 s10.1.2.2)) s8.1.1 s8.1.2.1 s8.1.2.2)) s6.1.1 s6.1.2.1 s6.1.2.2)) s4.1.1 s4.1.2.1 s4.1.2.2)
theorem brackenlaw16_attrs.eq (a0u : Int) (R : Option Addr → Nat → Nat → Heap → Prop) (H0 : Heap) :
    evF Tryd.prog brackenlaw16_attrs.ann Tryd.f23 [.int .u64 a0u] (fun v H' => xS (.one .slice) v fun r => R r.1 r.2.1 r.2.2 H') H0 = brackenlaw16_attrs.W a0u R H0 := by kernel_rfl
theorem brackenlaw16_attrs.calls {a0u : Int} {R : Option Addr → Nat → Nat → Heap → Prop} {H0 : Heap} (h : brackenlaw16_attrs.W a0u R H0) : brackenlaw16_attrs.C a0u H0 R :=
  (evF_sound progOk_ Tryd.func23 (by rw [brackenlaw16_attrs.eq]; exact h)).mono fun v H' h => by obtain ⟨x, hv, hk⟩ := xS_out h; exact ⟨x.1, x.2.1, x.2.2, hv, hk⟩

def brackenref10_Declares.ann : Ann := { ord := fun i => bif Nat.beq i 5 then [0, 1, 2, 3, 4, 5, 6, 7, 8, 9] else [], loop := fun _ => none, join := fun _ => none }
/-- bracken.brackenref10.Declares -/
def brackenref10_Declares.W (a0a_0 : ByteArray) (a0a_1 : ByteArray) (a0a_2 : ByteArray) (a0a_3 : ByteArray) (R : ByteArray → Bool → Heap → Prop) (H0 : Heap) : Prop :=
  letV (hnew H0 #[.string a0a_0, .string a0a_1, .string a0a_2, .string a0a_3] ty_api_Attr) fun H1 : Heap =>
  ∃ x6 : ByteArray, hcell H1 ((⟨Array.size H0, 0, none⟩ : Addr).add 2) = some (.string x6) ∧
  brW (decide (x6 ≠ (⟨#[104, 116, 116, 112, 58, 47, 47, 119, 119, 119, 46, 119, 51, 46, 111, 114, 103, 47, 50, 48, 48, 48, 47, 120, 109, 108, 110, 115, 47]⟩ : ByteArray))) (R (⟨#[]⟩ : ByteArray) false H1) (∃ x10 : ByteArray, hcell H1 ((⟨Array.size H0, 0, none⟩ : Addr).add 0) = some (.string x10) ∧
  brW (decide (x10 = (⟨#[120, 109, 108, 110, 115]⟩ : ByteArray))) (∃ x13 : ByteArray, hcell H1 ((⟨Array.size H0, 0, none⟩ : Addr).add 1) = some (.string x13) ∧ R x13 true H1) (∃ x15 : ByteArray, hcell H1 ((⟨Array.size H0, 0, none⟩ : Addr).add 0) = some (.string x15) ∧
  brW (decide (x15 = (⟨#[]⟩ : ByteArray))) (∃ x19 : ByteArray, hcell H1 ((⟨Array.size H0, 0, none⟩ : Addr).add 1) = some (.string x19) ∧ R (⟨#[]⟩ : ByteArray) (decide (x19 = (⟨#[120, 109, 108, 110, 115]⟩ : ByteArray))) H1) (R (⟨#[]⟩ : ByteArray) false H1)))
theorem brackenref10_Declares.eq (a0a_0 : ByteArray) (a0a_1 : ByteArray) (a0a_2 : ByteArray) (a0a_3 : ByteArray) (R : ByteArray → Bool → Heap → Prop) (H0 : Heap) :
    evF Tryd.prog brackenref10_Declares.ann Tryd.f34 [.agg #[.string a0a_0, .string a0a_1, .string a0a_2, .string a0a_3]] (fun v H' => xT [.one .str, .one .bool] v fun r => R r.1 r.2.1 H') H0 = brackenref10_Declares.W a0a_0 a0a_1 a0a_2 a0a_3 R H0 := by kernel_rfl
theorem brackenref10_Declares.calls {a0a_0 : ByteArray} {a0a_1 : ByteArray} {a0a_2 : ByteArray} {a0a_3 : ByteArray} {R : ByteArray → Bool → Heap → Prop} {H0 : Heap} (h : brackenref10_Declares.W a0a_0 a0a_1 a0a_2 a0a_3 R H0) : brackenref10_Declares.C a0a_0 a0a_1 a0a_2 a0a_3 H0 R :=
  (evF_sound progOk_ Tryd.func34 (by rw [brackenref10_Declares.eq]; exact h)).mono fun v H' h => by obtain ⟨x, hv, hk⟩ := xT_out h; exact ⟨x.1, x.2.1, hv, hk⟩

def brackenref10_Scope_Push.ann : Ann := { ord := fun i => bif Nat.beq i 14 then [0, 1, 2, 3, 4, 5, 6, 7, 8, 9, 10, 11, 12, 13, 14, 15, 16, 17, 18, 19, 20, 21, 22, 23] else [], loop := fun i => bif Nat.beq i 3 then some [(5, .one .slice), (6, .one (.int .i64))] else bif Nat.beq i 12 then some [(11, .one (.int .i64))] else none, join := fun i => bif Nat.beq i 4 then some [(5, .one .slice)] else bif Nat.beq i 10 then some [(79, .one .bool)] else bif Nat.beq i 11 then some [] else bif Nat.beq i 13 then some [] else bif Nat.beq i 15 then some [(109, .one .bool)] else bif Nat.beq i 16 then some [] else bif Nat.beq i 17 then some [(5, .one .slice)] else none }
/-- (*bracken.brackenref10.Scope).Push -/
def brackenref10_Scope_Push.W (a0s : Option Addr) (a1l_p : Option Addr) (a1l_l a1l_c : Nat) (R : Int → Heap → Prop) (H0 : Heap) : Prop :=
  
  JoinW (S := ((Option Addr × Nat × Nat) × Unit)) (fun J17 => 
  LoopW (S := ((Option Addr × Nat × Nat) × Int × Unit)) (fun L3 q3 H2 => (fun (m5_p : Option Addr) (m5_l m5_c : Nat) (i6 : Int) =>
  brW (decide (i6 < (a1l_l : Int))) (
  JoinW (S := ((Option Addr × Nat × Nat) × Unit)) (fun J4 =>
  ∃ x21 : Addr, a1l_p = some x21 ∧ 0 ≤ i6 ∧ i6 < (a1l_l : Int) ∧
  ∃ x22_0 : ByteArray, hcell H2 ((x21.add (i6.toNat * 4)).add 0) = some (.string x22_0) ∧
  ∃ x22_1 : ByteArray, hcell H2 ((x21.add (i6.toNat * 4)).add 1) = some (.string x22_1) ∧
  ∃ x22_2 : ByteArray, hcell H2 ((x21.add (i6.toNat * 4)).add 2) = some (.string x22_2) ∧
  ∃ x22_3 : ByteArray, hcell H2 ((x21.add (i6.toNat * 4)).add 3) = some (.string x22_3) ∧ brackenref10_Declares.C x22_0 x22_1 x22_2 x22_3 H2 fun x23_0 x23_1 H4 =>
  brW (!x23_1) (J4 ((m5_p, m5_l, m5_c), ()) H4) (∃ x30 : Addr, a1l_p = some x30 ∧ 0 ≤ i6 ∧ i6 < (a1l_l : Int) ∧
  ∃ x32 : ByteArray, hcell H4 ((x30.add (i6.toNat * 4)).add 3) = some (.string x32) ∧
  ∃ x35 : Addr, a1l_p = some x35 ∧ 0 ≤ i6 ∧ i6 < (a1l_l : Int) ∧
  ∃ x37 : ByteArray, hcell H4 ((x35.add (i6.toNat * 4)).add 0) = some (.string x37) ∧ 
  JoinW (S := Unit) (fun J11 => 
  JoinW (S := (Bool × Unit)) (fun J10 =>
  brW (decide (x23_0 = (⟨#[120, 109, 108, 110, 115]⟩ : ByteArray))) (brW (!(decide (x37 = (⟨#[]⟩ : ByteArray)))) (J10 (true, ()) H4) (brW (decide (x23_0 = (⟨#[120, 109, 108]⟩ : ByteArray))) (brW (!(decide (x37 = (⟨#[]⟩ : ByteArray)))) (brW (decide (x32 ≠ (⟨#[104, 116, 116, 112, 58, 47, 47, 119, 119, 119, 46, 119, 51, 46, 111, 114, 103, 47, 88, 77, 76, 47, 49, 57, 57, 56, 47, 110, 97, 109, 101, 115, 112, 97, 99, 101]⟩ : ByteArray))) (J10 (true, ()) H4) (brW (decide (x23_0 ≠ (⟨#[120, 109, 108]⟩ : ByteArray))) (brW (decide (x32 = (⟨#[104, 116, 116, 112, 58, 47, 47, 119, 119, 119, 46, 119, 51, 46, 111, 114, 103, 47, 88, 77, 76, 47, 49, 57, 57, 56, 47, 110, 97, 109, 101, 115, 112, 97, 99, 101]⟩ : ByteArray))) (J10 (true, ()) H4) (brW (decide (x32 = (⟨#[104, 116, 116, 112, 58, 47, 47, 119, 119, 119, 46, 119, 51, 46, 111, 114, 103, 47, 50, 48, 48, 48, 47, 120, 109, 108, 110, 115, 47]⟩ : ByteArray))) (J10 (true, ()) H4) (brW (!(decide (x37 = (⟨#[]⟩ : ByteArray)))) (J10 (decide (x32 = (⟨#[]⟩ : ByteArray)), ()) H4) (J10 (false, ()) H4)))) (brW (decide (x37 = (⟨#[]⟩ : ByteArray))) (brW (decide (x32 = (⟨#[104, 116, 116, 112, 58, 47, 47, 119, 119, 119, 46, 119, 51, 46, 111, 114, 103, 47, 88, 77, 76, 47, 49, 57, 57, 56, 47, 110, 97, 109, 101, 115, 112, 97, 99, 101]⟩ : ByteArray))) (J10 (true, ()) H4) (brW (decide (x32 = (⟨#[104, 116, 116, 112, 58, 47, 47, 119, 119, 119, 46, 119, 51, 46, 111, 114, 103, 47, 50, 48, 48, 48, 47, 120, 109, 108, 110, 115, 47]⟩ : ByteArray))) (J10 (true, ()) H4) (brW (!(decide (x37 = (⟨#[]⟩ : ByteArray)))) (J10 (decide (x32 = (⟨#[]⟩ : ByteArray)), ()) H4) (J10 (false, ()) H4)))) (brW (decide (x32 = (⟨#[104, 116, 116, 112, 58, 47, 47, 119, 119, 119, 46, 119, 51, 46, 111, 114, 103, 47, 50, 48, 48, 48, 47, 120, 109, 108, 110, 115, 47]⟩ : ByteArray))) (J10 (true, ()) H4) (brW (!(decide (x37 = (⟨#[]⟩ : ByteArray)))) (J10 (decide (x32 = (⟨#[]⟩ : ByteArray)), ()) H4) (J10 (false, ()) H4)))))) (brW (decide (x23_0 ≠ (⟨#[120, 109, 108]⟩ : ByteArray))) (brW (decide (x32 = (⟨#[104, 116, 116, 112, 58, 47, 47, 119, 119, 119, 46, 119, 51, 46, 111, 114, 103, 47, 88, 77, 76, 47, 49, 57, 57, 56, 47, 110, 97, 109, 101, 115, 112, 97, 99, 101]⟩ : ByteArray))) (J10 (true, ()) H4) (brW (decide (x32 = (⟨#[104, 116, 116, 112, 58, 47, 47, 119, 119, 119, 46, 119, 51, 46, 111, 114, 103, 47, 50, 48, 48, 48, 47, 120, 109, 108, 110, 115, 47]⟩ : ByteArray))) (J10 (true, ()) H4) (brW (!(decide (x37 = (⟨#[]⟩ : ByteArray)))) (J10 (decide (x32 = (⟨#[]⟩ : ByteArray)), ()) H4) (J10 (false, ()) H4)))) (brW (decide (x37 = (⟨#[]⟩ : ByteArray))) (brW (decide (x32 = (⟨#[104, 116, 116, 112, 58, 47, 47, 119, 119, 119, 46, 119, 51, 46, 111, 114, 103, 47, 88, 77, 76, 47, 49, 57, 57, 56, 47, 110, 97, 109, 101, 115, 112, 97, 99, 101]⟩ : ByteArray))) (J10 (true, ()) H4) (brW (decide (x32 = (⟨#[104, 116, 116, 112, 58, 47, 47, 119, 119, 119, 46, 119, 51, 46, 111, 114, 103, 47, 50, 48, 48, 48, 47, 120, 109, 108, 110, 115, 47]⟩ : ByteArray))) (J10 (true, ()) H4) (brW (!(decide (x37 = (⟨#[]⟩ : ByteArray)))) (J10 (decide (x32 = (⟨#[]⟩ : ByteArray)), ()) H4) (J10 (false, ()) H4)))) (brW (decide (x32 = (⟨#[104, 116, 116, 112, 58, 47, 47, 119, 119, 119, 46, 119, 51, 46, 111, 114, 103, 47, 50, 48, 48, 48, 47, 120, 109, 108, 110, 115, 47]⟩ : ByteArray))) (J10 (true, ()) H4) (brW (!(decide (x37 = (⟨#[]⟩ : ByteArray)))) (J10 (decide (x32 = (⟨#[]⟩ : ByteArray)), ()) H4) (J10 (false, ()) H4)))))) (brW (decide (x23_0 ≠ (⟨#[120, 109, 108]⟩ : ByteArray))) (brW (decide (x32 = (⟨#[104, 116, 116, 112, 58, 47, 47, 119, 119, 119, 46, 119, 51, 46, 111, 114, 103, 47, 88, 77, 76, 47, 49, 57, 57, 56, 47, 110, 97, 109, 101, 115, 112, 97, 99, 101]⟩ : ByteArray))) (J10 (true, ()) H4) (brW (decide (x32 = (⟨#[104, 116, 116, 112, 58, 47, 47, 119, 119, 119, 46, 119, 51, 46, 111, 114, 103, 47, 50, 48, 48, 48, 47, 120, 109, 108, 110, 115, 47]⟩ : ByteArray))) (J10 (true, ()) H4) (brW (!(decide (x37 = (⟨#[]⟩ : ByteArray)))) (J10 (decide (x32 = (⟨#[]⟩ : ByteArray)), ()) H4) (J10 (false, ()) H4)))) (brW (decide (x37 = (⟨#[]⟩ : ByteArray))) (brW (decide (x32 = (⟨#[104, 116, 116, 112, 58, 47, 47, 119, 119, 119, 46, 119, 51, 46, 111, 114, 103, 47, 88, 77, 76, 47, 49, 57, 57, 56, 47, 110, 97, 109, 101, 115, 112, 97, 99, 101]⟩ : ByteArray))) (J10 (true, ()) H4) (brW (decide (x32 = (⟨#[104, 116, 116, 112, 58, 47, 47, 119, 119, 119, 46, 119, 51, 46, 111, 114, 103, 47, 50, 48, 48, 48, 47, 120, 109, 108, 110, 115, 47]⟩ : ByteArray))) (J10 (true, ()) H4) (brW (!(decide (x37 = (⟨#[]⟩ : ByteArray)))) (J10 (decide (x32 = (⟨#[]⟩ : ByteArray)), ()) H4) (J10 (false, ()) H4)))) (brW (decide (x32 = (⟨#[104, 116, 116, 112, 58, 47, 47, 119, 119, 119, 46, 119, 51, 46, 111, 114, 103, 47, 50, 48, 48, 48, 47, 120, 109, 108, 110, 115, 47]⟩ : ByteArray))) (J10 (true, ()) H4) (brW (!(decide (x37 = (⟨#[]⟩ : ByteArray)))) (J10 (decide (x32 = (⟨#[]⟩ : ByteArray)), ()) H4) (J10 (false, ()) H4))))))) (brW (decide (x23_0 = (⟨#[120, 109, 108]⟩ : ByteArray))) (brW (!(decide (x37 = (⟨#[]⟩ : ByteArray)))) (brW (decide (x32 ≠ (⟨#[104, 116, 116, 112, 58, 47, 47, 119, 119, 119, 46, 119, 51, 46, 111, 114, 103, 47, 88, 77, 76, 47, 49, 57, 57, 56, 47, 110, 97, 109, 101, 115, 112, 97, 99, 101]⟩ : ByteArray))) (J10 (true, ()) H4) (brW (decide (x23_0 ≠ (⟨#[120, 109, 108]⟩ : ByteArray))) (brW (decide (x32 = (⟨#[104, 116, 116, 112, 58, 47, 47, 119, 119, 119, 46, 119, 51, 46, 111, 114, 103, 47, 88, 77, 76, 47, 49, 57, 57, 56, 47, 110, 97, 109, 101, 115, 112, 97, 99, 101]⟩ : ByteArray))) (J10 (true, ()) H4) (brW (decide (x32 = (⟨#[104, 116, 116, 112, 58, 47, 47, 119, 119, 119, 46, 119, 51, 46, 111, 114, 103, 47, 50, 48, 48, 48, 47, 120, 109, 108, 110, 115, 47]⟩ : ByteArray))) (J10 (true, ()) H4) (brW (!(decide (x37 = (⟨#[]⟩ : ByteArray)))) (J10 (decide (x32 = (⟨#[]⟩ : ByteArray)), ()) H4) (J10 (false, ()) H4)))) (brW (decide (x37 = (⟨#[]⟩ : ByteArray))) (brW (decide (x32 = (⟨#[104, 116, 116, 112, 58, 47, 47, 119, 119, 119, 46, 119, 51, 46, 111, 114, 103, 47, 88, 77, 76, 47, 49, 57, 57, 56, 47, 110, 97, 109, 101, 115, 112, 97, 99, 101]⟩ : ByteArray))) (J10 (true, ()) H4) (brW (decide (x32 = (⟨#[104, 116, 116, 112, 58, 47, 47, 119, 119, 119, 46, 119, 51, 46, 111, 114, 103, 47, 50, 48, 48, 48, 47, 120, 109, 108, 110, 115, 47]⟩ : ByteArray))) (J10 (true, ()) H4) (brW (!(decide (x37 = (⟨#[]⟩ : ByteArray)))) (J10 (decide (x32 = (⟨#[]⟩ : ByteArray)), ()) H4) (J10 (false, ()) H4)))) (brW (decide (x32 = (⟨#[104, 116, 116, 112, 58, 47, 47, 119, 119, 119, 46, 119, 51, 46, 111, 114, 103, 47, 50, 48, 48, 48, 47, 120, 109, 108, 110, 115, 47]⟩ : ByteArray))) (J10 (true, ()) H4) (brW (!(decide (x37 = (⟨#[]⟩ : ByteArray)))) (J10 (decide (x32 = (⟨#[]⟩ : ByteArray)), ()) H4) (J10 (false, ()) H4)))))) (brW (decide (x23_0 ≠ (⟨#[120, 109, 108]⟩ : ByteArray))) (brW (decide (x32 = (⟨#[104, 116, 116, 112, 58, 47, 47, 119, 119, 119, 46, 119, 51, 46, 111, 114, 103, 47, 88, 77, 76, 47, 49, 57, 57, 56, 47, 110, 97, 109, 101, 115, 112, 97, 99, 101]⟩ : ByteArray))) (J10 (true, ()) H4) (brW (decide (x32 = (⟨#[104, 116, 116, 112, 58, 47, 47, 119, 119, 119, 46, 119, 51, 46, 111, 114, 103, 47, 50, 48, 48, 48, 47, 120, 109, 108, 110, 115, 47]⟩ : ByteArray))) (J10 (true, ()) H4) (brW (!(decide (x37 = (⟨#[]⟩ : ByteArray)))) (J10 (decide (x32 = (⟨#[]⟩ : ByteArray)), ()) H4) (J10 (false, ()) H4)))) (brW (decide (x37 = (⟨#[]⟩ : ByteArray))) (brW (decide (x32 = (⟨#[104, 116, 116, 112, 58, 47, 47, 119, 119, 119, 46, 119, 51, 46, 111, 114, 103, 47, 88, 77, 76, 47, 49, 57, 57, 56, 47, 110, 97, 109, 101, 115, 112, 97, 99, 101]⟩ : ByteArray))) (J10 (true, ()) H4) (brW (decide (x32 = (⟨#[104, 116, 116, 112, 58, 47, 47, 119, 119, 119, 46, 119, 51, 46, 111, 114, 103, 47, 50, 48, 48, 48, 47, 120, 109, 108, 110, 115, 47]⟩ : ByteArray))) (J10 (true, ()) H4) (brW (!(decide (x37 = (⟨#[]⟩ : ByteArray)))) (J10 (decide (x32 = (⟨#[]⟩ : ByteArray)), ()) H4) (J10 (false, ()) H4)))) (brW (decide (x32 = (⟨#[104, 116, 116, 112, 58, 47, 47, 119, 119, 119, 46, 119, 51, 46, 111, 114, 103, 47, 50, 48, 48, 48, 47, 120, 109, 108, 110, 115, 47]⟩ : ByteArray))) (J10 (true, ()) H4) (brW (!(decide (x37 = (⟨#[]⟩ : ByteArray)))) (J10 (decide (x32 = (⟨#[]⟩ : ByteArray)), ()) H4) (J10 (false, ()) H4)))))) (brW (decide (x23_0 ≠ (⟨#[120, 109, 108]⟩ : ByteArray))) (brW (decide (x32 = (⟨#[104, 116, 116, 112, 58, 47, 47, 119, 119, 119, 46, 119, 51, 46, 111, 114, 103, 47, 88, 77, 76, 47, 49, 57, 57, 56, 47, 110, 97, 109, 101, 115, 112, 97, 99, 101]⟩ : ByteArray))) (J10 (true, ()) H4) (brW (decide (x32 = (⟨#[104, 116, 116, 112, 58, 47, 47, 119, 119, 119, 46, 119, 51, 46, 111, 114, 103, 47, 50, 48, 48, 48, 47, 120, 109, 108, 110, 115, 47]⟩ : ByteArray))) (J10 (true, ()) H4) (brW (!(decide (x37 = (⟨#[]⟩ : ByteArray)))) (J10 (decide (x32 = (⟨#[]⟩ : ByteArray)), ()) H4) (J10 (false, ()) H4)))) (brW (decide (x37 = (⟨#[]⟩ : ByteArray))) (brW (decide (x32 = (⟨#[104, 116, 116, 112, 58, 47, 47, 119, 119, 119, 46, 119, 51, 46, 111, 114, 103, 47, 88, 77, 76, 47, 49, 57, 57, 56, 47, 110, 97, 109, 101, 115, 112, 97, 99, 101]⟩ : ByteArray))) (J10 (true, ()) H4) (brW (decide (x32 = (⟨#[104, 116, 116, 112, 58, 47, 47, 119, 119, 119, 46, 119, 51, 46, 111, 114, 103, 47, 50, 48, 48, 48, 47, 120, 109, 108, 110, 115, 47]⟩ : ByteArray))) (J10 (true, ()) H4) (brW (!(decide (x37 = (⟨#[]⟩ : ByteArray)))) (J10 (decide (x32 = (⟨#[]⟩ : ByteArray)), ()) H4) (J10 (false, ()) H4)))) (brW (decide (x32 = (⟨#[104, 116, 116, 112, 58, 47, 47, 119, 119, 119, 46, 119, 51, 46, 111, 114, 103, 47, 50, 48, 48, 48, 47, 120, 109, 108, 110, 115, 47]⟩ : ByteArray))) (J10 (true, ()) H4) (brW (!(decide (x37 = (⟨#[]⟩ : ByteArray)))) (J10 (decide (x32 = (⟨#[]⟩ : ByteArray)), ()) H4) (J10 (false, ()) H4)))))))
  (fun s10 H6 => (fun (x79 : Bool) =>
  brW x79 (R (2) H6) (J11 () H6)) s10.1))
  (fun _ H5 => 
  JoinW (S := Unit) (fun J16 => 
  LoopW (S := (Int × Unit)) (fun L12 q12 H8 => (fun (k11 : Int) =>
  brW (decide (k11 < (m5_l : Int))) (
  JoinW (S := Unit) (fun J13 => 
  JoinW (S := (Bool × Unit)) (fun J15 =>
  ∃ x88 : Addr, m5_p = some x88 ∧ 0 ≤ k11 ∧ k11 < (m5_l : Int) ∧
  ∃ x90 : ByteArray, hcell H8 ((x88.add (k11.toNat * 4)).add 0) = some (.string x90) ∧
  ∃ x93 : Addr, a1l_p = some x93 ∧ 0 ≤ i6 ∧ i6 < (a1l_l : Int) ∧
  ∃ x95 : ByteArray, hcell H8 ((x93.add (i6.toNat * 4)).add 0) = some (.string x95) ∧
  brW (decide (x90 = x95)) (∃ x100 : Addr, m5_p = some x100 ∧ 0 ≤ k11 ∧ k11 < (m5_l : Int) ∧
  ∃ x102 : ByteArray, hcell H8 ((x100.add (k11.toNat * 4)).add 1) = some (.string x102) ∧
  ∃ x105 : Addr, a1l_p = some x105 ∧ 0 ≤ i6 ∧ i6 < (a1l_l : Int) ∧
  ∃ x107 : ByteArray, hcell H8 ((x105.add (i6.toNat * 4)).add 1) = some (.string x107) ∧ J15 (decide (x102 = x107), ()) H8) (J15 (false, ()) H8))
  (fun s15 H10 => (fun (x109 : Bool) =>
  brW x109 (R (2) H10) (J13 () H10)) s15.1))
  (fun _ H9 =>
  letV (IntKind.i64.wrap (k11 + 1)) fun k11b : Int => L12 ((k11b : Int), ()) H9)) (J16 () H8)) q12.1) ((0 : Int), ()) H5)
  (fun _ H7 =>
  ∃ x113 : Addr, a1l_p = some x113 ∧ 0 ≤ i6 ∧ i6 < (a1l_l : Int) ∧
  ∃ x114_0 : ByteArray, hcell H7 ((x113.add (i6.toNat * 4)).add 0) = some (.string x114_0) ∧
  ∃ x114_1 : ByteArray, hcell H7 ((x113.add (i6.toNat * 4)).add 1) = some (.string x114_1) ∧
  ∃ x114_2 : ByteArray, hcell H7 ((x113.add (i6.toNat * 4)).add 2) = some (.string x114_2) ∧
  ∃ x114_3 : ByteArray, hcell H7 ((x113.add (i6.toNat * 4)).add 3) = some (.string x114_3) ∧
  letV (hnew H7 #[.string x114_0, .string x114_1, .string x114_2, .string x114_3] ty_api_Attr) fun H11 : Heap => appW ty_api_Attr 4 64 (.agg #[.string (⟨#[]⟩ : ByteArray), .string (⟨#[]⟩ : ByteArray), .string (⟨#[]⟩ : ByteArray), .string (⟨#[]⟩ : ByteArray)]) m5_p m5_l m5_c (.slice (some ⟨Array.size H7, 0, none⟩) 1 1) H11 fun x116_p x116_l x116_c H12 => J4 ((x116_p, x116_l, x116_c), ()) H12))))
  (fun s4 H3 => (fun (m5_p : Option Addr) (m5_l m5_c : Nat) =>
  letV (IntKind.i64.wrap (i6 + 1)) fun i6b : Int => L3 ((m5_p, m5_l, m5_c), (i6b : Int), ()) H3) s4.1.1 s4.1.2.1 s4.1.2.2)) (J17 ((m5_p, m5_l, m5_c), ()) H2)) q3.1.1 q3.1.2.1 q3.1.2.2 q3.2.1) ((none, 0, 0), (0 : Int), ()) H0)
  (fun s17 H1 => (fun (m5_p : Option Addr) (m5_l m5_c : Nat) =>
  letV (hnew H1 #[] ty_s_api_Attr) fun H13 : Heap =>
  ∃ x120 : Addr, a0s = some x120 ∧
  ∃ (x122_p : Option Addr) (x122_l x122_c : Nat), hcell H13 (x120.add 0) = some (.slice x122_p x122_l x122_c) ∧ appW ty_s_api_Attr 1 24 (.slice none 0 0) (some ⟨Array.size H1, 0, none⟩) 0 0 (.slice x122_p x122_l x122_c) H13 fun x123_p x123_l x123_c H14 =>
  letV (hnew H14 #[.slice m5_p m5_l m5_c] ty_s_api_Attr) fun H15 : Heap => appW ty_s_api_Attr 1 24 (.slice none 0 0) x123_p x123_l x123_c (.slice (some ⟨Array.size H14, 0, none⟩) 1 1) H15 fun x126_p x126_l x126_c H16 =>
  ∃ x127 : Addr, a0s = some x127 ∧ (∃ u, hcell H16 (x127.add 0) = some u) ∧ hfrozen H16 (x127.add 0) = false ∧
  letV (hset H16 (x127.add 0) (.slice x126_p x126_l x126_c)) fun H17 : Heap => R (0) H17) s17.1.1 s17.1.2.1 s17.1.2.2)
theorem brackenref10_Scope_Push.eq (a0s : Option Addr) (a1l_p : Option Addr) (a1l_l a1l_c : Nat) (R : Int → Heap → Prop) (H0 : Heap) :
    evF Tryd.prog brackenref10_Scope_Push.ann Tryd.f24 [.pointer a0s, .slice a1l_p a1l_l a1l_c] (fun v H' => xS (.one (.int .i64)) v fun r => R r H') H0 = brackenref10_Scope_Push.W a0s a1l_p a1l_l a1l_c R H0 := by kernel_rfl
theorem brackenref10_Scope_Push.calls {a0s : Option Addr} {a1l_p : Option Addr} {a1l_l a1l_c : Nat} {R : Int → Heap → Prop} {H0 : Heap} (h : brackenref10_Scope_Push.W a0s a1l_p a1l_l a1l_c R H0) : brackenref10_Scope_Push.C a0s a1l_p a1l_l a1l_c H0 R :=
  (evF_sound progOk_ Tryd.func24 (by rw [brackenref10_Scope_Push.eq]; exact h)).mono fun v H' h => by obtain ⟨x, hv, hk⟩ := xS_out h; exact ⟨x, hv, hk⟩

def brackenref10_Scope_URI.ann : Ann := { ord := fun _ => [], loop := fun i => bif Nat.beq i 4 then some [(6, .one (.int .i64))] else bif Nat.beq i 7 then some [(7, .one (.int .i64))] else none, join := fun i => bif Nat.beq i 5 then some [] else bif Nat.beq i 12 then some [] else none }
/-- (*bracken.brackenref10.Scope).URI -/
def brackenref10_Scope_URI.W (a0s : Option Addr) (a1prefix : ByteArray) (R : ByteArray → Bool → Heap → Prop) (H0 : Heap) : Prop :=
  brW (decide (a1prefix = (⟨#[120, 109, 108]⟩ : ByteArray))) (R (⟨#[104, 116, 116, 112, 58, 47, 47, 119, 119, 119, 46, 119, 51, 46, 111, 114, 103, 47, 88, 77, 76, 47, 49, 57, 57, 56, 47, 110, 97, 109, 101, 115, 112, 97, 99, 101]⟩ : ByteArray) true H0) (
  JoinW (S := Unit) (fun J12 =>
  ∃ x13 : Addr, a0s = some x13 ∧
  ∃ (x15_p : Option Addr) (x15_l x15_c : Nat), hcell H0 (x13.add 0) = some (.slice x15_p x15_l x15_c) ∧
  letV (IntKind.i64.wrap ((x15_l : Int) - 1)) fun i6 : Int => 
  LoopW (S := (Int × Unit)) (fun L4 q4 H2 => (fun (i6 : Int) =>
  brW (decide ((0 : Int) ≤ i6)) (
  JoinW (S := Unit) (fun J5 => 
  LoopW (S := (Int × Unit)) (fun L7 q7 H4 => (fun (k7 : Int) =>
  ∃ x24 : Addr, a0s = some x24 ∧
  ∃ (x26_p : Option Addr) (x26_l x26_c : Nat), hcell H4 (x24.add 0) = some (.slice x26_p x26_l x26_c) ∧
  ∃ x28 : Addr, x26_p = some x28 ∧ 0 ≤ i6 ∧ i6 < (x26_l : Int) ∧
  ∃ (x29_p : Option Addr) (x29_l x29_c : Nat), hcell H4 (x28.add i6.toNat) = some (.slice x29_p x29_l x29_c) ∧
  brW (decide (k7 < (x29_l : Int))) (∃ x36 : Addr, a0s = some x36 ∧
  ∃ (x38_p : Option Addr) (x38_l x38_c : Nat), hcell H4 (x36.add 0) = some (.slice x38_p x38_l x38_c) ∧
  ∃ x40 : Addr, x38_p = some x40 ∧ 0 ≤ i6 ∧ i6 < (x38_l : Int) ∧
  ∃ (x41_p : Option Addr) (x41_l x41_c : Nat), hcell H4 (x40.add i6.toNat) = some (.slice x41_p x41_l x41_c) ∧
  ∃ x43 : Addr, x41_p = some x43 ∧ 0 ≤ k7 ∧ k7 < (x41_l : Int) ∧
  ∃ x44_0 : ByteArray, hcell H4 ((x43.add (k7.toNat * 4)).add 0) = some (.string x44_0) ∧
  ∃ x44_1 : ByteArray, hcell H4 ((x43.add (k7.toNat * 4)).add 1) = some (.string x44_1) ∧
  ∃ x44_2 : ByteArray, hcell H4 ((x43.add (k7.toNat * 4)).add 2) = some (.string x44_2) ∧
  ∃ x44_3 : ByteArray, hcell H4 ((x43.add (k7.toNat * 4)).add 3) = some (.string x44_3) ∧ brackenref10_Declares.C x44_0 x44_1 x44_2 x44_3 H4 fun x45_0 x45_1 H5 =>
  brW (decide (x45_0 = a1prefix)) (∃ x52 : Addr, a0s = some x52 ∧
  ∃ (x54_p : Option Addr) (x54_l x54_c : Nat), hcell H5 (x52.add 0) = some (.slice x54_p x54_l x54_c) ∧
  ∃ x56 : Addr, x54_p = some x56 ∧ 0 ≤ i6 ∧ i6 < (x54_l : Int) ∧
  ∃ (x57_p : Option Addr) (x57_l x57_c : Nat), hcell H5 (x56.add i6.toNat) = some (.slice x57_p x57_l x57_c) ∧
  ∃ x59 : Addr, x57_p = some x59 ∧ 0 ≤ k7 ∧ k7 < (x57_l : Int) ∧
  ∃ x61 : ByteArray, hcell H5 ((x59.add (k7.toNat * 4)).add 3) = some (.string x61) ∧ R x61 true H5) (letV (IntKind.i64.wrap (k7 + 1)) fun k7b : Int => L7 ((k7b : Int), ()) H5)) (J5 () H4)) q7.1) ((0 : Int), ()) H2)
  (fun _ H3 =>
  letV (IntKind.i64.wrap (i6 - 1)) fun i6b : Int => L4 ((i6b : Int), ()) H3)) (J12 () H2)) q4.1) ((i6 : Int), ()) H0)
  (fun _ H1 => R (⟨#[]⟩ : ByteArray) (decide (a1prefix = (⟨#[]⟩ : ByteArray))) H1))
theorem brackenref10_Scope_URI.eq (a0s : Option Addr) (a1prefix : ByteArray) (R : ByteArray → Bool → Heap → Prop) (H0 : Heap) :
    evF Tryd.prog brackenref10_Scope_URI.ann Tryd.f35 [.pointer a0s, .string a1prefix] (fun v H' => xT [.one .str, .one .bool] v fun r => R r.1 r.2.1 H') H0 = brackenref10_Scope_URI.W a0s a1prefix R H0 := by kernel_rfl
theorem brackenref10_Scope_URI.calls {a0s : Option Addr} {a1prefix : ByteArray} {R : ByteArray → Bool → Heap → Prop} {H0 : Heap} (h : brackenref10_Scope_URI.W a0s a1prefix R H0) : brackenref10_Scope_URI.C a0s a1prefix H0 R :=
  (evF_sound progOk_ Tryd.func35 (by rw [brackenref10_Scope_URI.eq]; exact h)).mono fun v H' h => by obtain ⟨x, hv, hk⟩ := xT_out h; exact ⟨x.1, x.2.1, hv, hk⟩

def brackenref15_Names.ann : Ann := { ord := fun i => bif Nat.beq i 11 then [0, 1, 2, 3, 4, 5, 6, 7, 8, 9, 10, 11, 12, 13, 14, 15, 16, 17, 18, 19, 20, 21] else bif Nat.beq i 20 then [0, 1, 2, 3, 4, 5, 6, 7, 8, 9, 10, 11, 12, 13, 14, 15, 16, 17, 18, 19, 20, 21, 22, 23, 24, 25, 26, 27, 28, 29, 30, 31, 32, 33, 34, 35] else [], loop := fun i => bif Nat.beq i 6 then some [(6, .one (.int .i64))] else bif Nat.beq i 15 then some [(7, .one (.int .i64))] else bif Nat.beq i 18 then some [(8, .one (.int .i64))] else none, join := fun i => bif Nat.beq i 4 then some [(29, .one .bool)] else bif Nat.beq i 5 then some [] else bif Nat.beq i 7 then some [] else bif Nat.beq i 14 then some [] else bif Nat.beq i 16 then some [] else bif Nat.beq i 19 then some [] else bif Nat.beq i 21 then some [(135, .one .bool)] else bif Nat.beq i 22 then some [] else none }
/-- bracken.brackenref15.Names -/
def brackenref15_Names.W (a0s : Option Addr) (a1n : Option Addr) (R : Bool → Heap → Prop) (H0 : Heap) : Prop :=
  ∃ x13 : Addr, a1n = some x13 ∧
  ∃ x15 : ByteArray, hcell H0 (x13.add 2) = some (.string x15) ∧ brackenref10_Scope_URI.C (a0s) x15 H0 fun x16_0 x16_1 H1 =>
  ∃ x19 : Addr, a1n = some x19 ∧ (∃ u, hcell H1 (x19.add 4) = some u) ∧ hfrozen H1 (x19.add 4) = false ∧
  letV (hset H1 (x19.add 4) (.string x16_0)) fun H2 : Heap => 
  JoinW (S := Unit) (fun J5 => 
  JoinW (S := (Bool × Unit)) (fun J4 =>
  brW (!x16_1) (J4 (true, ()) H2) (∃ x25 : Addr, a1n = some x25 ∧
  ∃ x27 : ByteArray, hcell H2 (x25.add 2) = some (.string x27) ∧ J4 (decide (x27 = (⟨#[120, 109, 108, 110, 115]⟩ : ByteArray)), ()) H2))
  (fun s4 H4 => (fun (x29 : Bool) =>
  brW x29 (R false H4) (J5 () H4)) s4.1))
  (fun _ H3 => 
  JoinW (S := Unit) (fun J14 => 
  LoopW (S := (Int × Unit)) (fun L6 q6 H6 => (fun (i6 : Int) =>
  ∃ x32 : Addr, a1n = some x32 ∧
  ∃ (x34_p : Option Addr) (x34_l x34_c : Nat), hcell H6 (x32.add 6) = some (.slice x34_p x34_l x34_c) ∧
  brW (decide (i6 < (x34_l : Int))) (
  JoinW (S := Unit) (fun J7 =>
  ∃ x40 : Addr, a1n = some x40 ∧
  ∃ (x42_p : Option Addr) (x42_l x42_c : Nat), hcell H6 (x40.add 6) = some (.slice x42_p x42_l x42_c) ∧
  ∃ x44 : Addr, x42_p = some x44 ∧ 0 ≤ i6 ∧ i6 < (x42_l : Int) ∧
  ∃ x46 : ByteArray, hcell H6 ((x44.add (i6.toNat * 4)).add 2) = some (.string x46) ∧
  brW (decide (x46 = (⟨#[104, 116, 116, 112, 58, 47, 47, 119, 119, 119, 46, 119, 51, 46, 111, 114, 103, 47, 50, 48, 48, 48, 47, 120, 109, 108, 110, 115, 47]⟩ : ByteArray))) (J7 () H6) (∃ x49 : Addr, a1n = some x49 ∧
  ∃ (x51_p : Option Addr) (x51_l x51_c : Nat), hcell H6 (x49.add 6) = some (.slice x51_p x51_l x51_c) ∧
  ∃ x53 : Addr, x51_p = some x53 ∧ 0 ≤ i6 ∧ i6 < (x51_l : Int) ∧ (∃ u, hcell H6 ((x53.add (i6.toNat * 4)).add 2) = some u) ∧ hfrozen H6 ((x53.add (i6.toNat * 4)).add 2) = false ∧
  letV (hset H6 ((x53.add (i6.toNat * 4)).add 2) (.string (⟨#[]⟩ : ByteArray))) fun H8 : Heap =>
  ∃ x56 : Addr, a1n = some x56 ∧
  ∃ (x58_p : Option Addr) (x58_l x58_c : Nat), hcell H8 (x56.add 6) = some (.slice x58_p x58_l x58_c) ∧
  ∃ x60 : Addr, x58_p = some x60 ∧ 0 ≤ i6 ∧ i6 < (x58_l : Int) ∧
  ∃ x62 : ByteArray, hcell H8 ((x60.add (i6.toNat * 4)).add 0) = some (.string x62) ∧
  brW (decide (x62 = (⟨#[]⟩ : ByteArray))) (J7 () H8) (∃ x66 : Addr, a1n = some x66 ∧
  ∃ (x68_p : Option Addr) (x68_l x68_c : Nat), hcell H8 (x66.add 6) = some (.slice x68_p x68_l x68_c) ∧
  ∃ x72 : Addr, a1n = some x72 ∧
  ∃ (x74_p : Option Addr) (x74_l x74_c : Nat), hcell H8 (x72.add 6) = some (.slice x74_p x74_l x74_c) ∧
  ∃ x76 : Addr, x74_p = some x76 ∧ 0 ≤ i6 ∧ i6 < (x74_l : Int) ∧
  ∃ x78 : ByteArray, hcell H8 ((x76.add (i6.toNat * 4)).add 0) = some (.string x78) ∧ brackenref10_Scope_URI.C (a0s) x78 H8 fun x79_0 x79_1 H9 => (∃ (x68s_p : Option Addr) (x68s_l x68s_c : Nat), hcell H9 (x66.add 6) = some (.slice x68s_p x68s_l x68s_c) ∧ (.slice x68s_p x68s_l x68s_c : Value) = .slice x68_p x68_l x68_c) ∧
  ∃ x82 : Addr, x68_p = some x82 ∧ 0 ≤ i6 ∧ i6 < (x68_l : Int) ∧ (∃ u, hcell H9 ((x82.add (i6.toNat * 4)).add 2) = some u) ∧ hfrozen H9 ((x82.add (i6.toNat * 4)).add 2) = false ∧
  letV (hset H9 ((x82.add (i6.toNat * 4)).add 2) (.string x79_0)) fun H10 : Heap =>
  brW (!x79_1) (R false H10) (J7 () H10))))
  (fun _ H7 =>
  letV (IntKind.i64.wrap (i6 + 1)) fun i6b : Int => L6 ((i6b : Int), ()) H7)) (J14 () H6)) q6.1) ((0 : Int), ()) H3)
  (fun _ H5 => 
  JoinW (S := Unit) (fun J22 => 
  LoopW (S := (Int × Unit)) (fun L15 q15 H12 => (fun (i7 : Int) =>
  ∃ x88 : Addr, a1n = some x88 ∧
  ∃ (x90_p : Option Addr) (x90_l x90_c : Nat), hcell H12 (x88.add 6) = some (.slice x90_p x90_l x90_c) ∧
  brW (decide (i7 < (x90_l : Int))) (
  JoinW (S := Unit) (fun J16 => 
  LoopW (S := (Int × Unit)) (fun L18 q18 H14 => (fun (k8 : Int) =>
  brW (decide (k8 < i7)) (
  JoinW (S := Unit) (fun J19 => 
  JoinW (S := (Bool × Unit)) (fun J21 =>
  ∃ x101 : Addr, a1n = some x101 ∧
  ∃ (x103_p : Option Addr) (x103_l x103_c : Nat), hcell H14 (x101.add 6) = some (.slice x103_p x103_l x103_c) ∧
  ∃ x105 : Addr, x103_p = some x105 ∧ 0 ≤ k8 ∧ k8 < (x103_l : Int) ∧
  ∃ x107 : ByteArray, hcell H14 ((x105.add (k8.toNat * 4)).add 2) = some (.string x107) ∧
  ∃ x109 : Addr, a1n = some x109 ∧
  ∃ (x111_p : Option Addr) (x111_l x111_c : Nat), hcell H14 (x109.add 6) = some (.slice x111_p x111_l x111_c) ∧
  ∃ x113 : Addr, x111_p = some x113 ∧ 0 ≤ i7 ∧ i7 < (x111_l : Int) ∧
  ∃ x115 : ByteArray, hcell H14 ((x113.add (i7.toNat * 4)).add 2) = some (.string x115) ∧
  brW (decide (x107 = x115)) (∃ x119 : Addr, a1n = some x119 ∧
  ∃ (x121_p : Option Addr) (x121_l x121_c : Nat), hcell H14 (x119.add 6) = some (.slice x121_p x121_l x121_c) ∧
  ∃ x123 : Addr, x121_p = some x123 ∧ 0 ≤ k8 ∧ k8 < (x121_l : Int) ∧
  ∃ x125 : ByteArray, hcell H14 ((x123.add (k8.toNat * 4)).add 1) = some (.string x125) ∧
  ∃ x127 : Addr, a1n = some x127 ∧
  ∃ (x129_p : Option Addr) (x129_l x129_c : Nat), hcell H14 (x127.add 6) = some (.slice x129_p x129_l x129_c) ∧
  ∃ x131 : Addr, x129_p = some x131 ∧ 0 ≤ i7 ∧ i7 < (x129_l : Int) ∧
  ∃ x133 : ByteArray, hcell H14 ((x131.add (i7.toNat * 4)).add 1) = some (.string x133) ∧ J21 (decide (x125 = x133), ()) H14) (J21 (false, ()) H14))
  (fun s21 H16 => (fun (x135 : Bool) =>
  brW x135 (R false H16) (J19 () H16)) s21.1))
  (fun _ H15 =>
  letV (IntKind.i64.wrap (k8 + 1)) fun k8b : Int => L18 ((k8b : Int), ()) H15)) (J16 () H14)) q18.1) ((0 : Int), ()) H12)
  (fun _ H13 =>
  letV (IntKind.i64.wrap (i7 + 1)) fun i7b : Int => L15 ((i7b : Int), ()) H13)) (J22 () H12)) q15.1) ((0 : Int), ()) H5)
  (fun _ H11 => R true H11)))
theorem brackenref15_Names.eq (a0s : Option Addr) (a1n : Option Addr) (R : Bool → Heap → Prop) (H0 : Heap) :
    evF Tryd.prog brackenref15_Names.ann Tryd.f25 [.pointer a0s, .pointer a1n] (fun v H' => xS (.one .bool) v fun r => R r H') H0 = brackenref15_Names.W a0s a1n R H0 := by kernel_rfl
theorem brackenref15_Names.calls {a0s : Option Addr} {a1n : Option Addr} {R : Bool → Heap → Prop} {H0 : Heap} (h : brackenref15_Names.W a0s a1n R H0) : brackenref15_Names.C a0s a1n H0 R :=
  (evF_sound progOk_ Tryd.func25 (by rw [brackenref15_Names.eq]; exact h)).mono fun v H' h => by obtain ⟨x, hv, hk⟩ := xS_out h; exact ⟨x, hv, hk⟩

def brackenref10_SameAttrs.ann : Ann := { ord := fun i => bif Nat.beq i 6 then [0, 1, 2, 3, 4, 5, 6, 7, 8] else [], loop := fun i => bif Nat.beq i 4 then some [(5, .one (.int .i64))] else none, join := fun i => bif Nat.beq i 8 then some [] else none }
/-- bracken.brackenref10.SameAttrs -/
def brackenref10_SameAttrs.W (a0a_p : Option Addr) (a0a_l a0a_c : Nat) (a1b_p : Option Addr) (a1b_l a1b_c : Nat) (R : Bool → Heap → Prop) (H0 : Heap) : Prop :=
  brW (decide ((a0a_l : Int) ≠ (a1b_l : Int))) (R false H0) (
  JoinW (S := Unit) (fun J8 => 
  LoopW (S := (Int × Unit)) (fun L4 q4 H2 => (fun (i5 : Int) =>
  brW (decide (i5 < (a0a_l : Int))) (∃ x19 : Addr, a0a_p = some x19 ∧ 0 ≤ i5 ∧ i5 < (a0a_l : Int) ∧
  ∃ x20_0 : ByteArray, hcell H2 ((x19.add (i5.toNat * 4)).add 0) = some (.string x20_0) ∧
  ∃ x20_1 : ByteArray, hcell H2 ((x19.add (i5.toNat * 4)).add 1) = some (.string x20_1) ∧
  ∃ x20_2 : ByteArray, hcell H2 ((x19.add (i5.toNat * 4)).add 2) = some (.string x20_2) ∧
  ∃ x20_3 : ByteArray, hcell H2 ((x19.add (i5.toNat * 4)).add 3) = some (.string x20_3) ∧
  ∃ x23 : Addr, a1b_p = some x23 ∧ 0 ≤ i5 ∧ i5 < (a1b_l : Int) ∧
  ∃ x24_0 : ByteArray, hcell H2 ((x23.add (i5.toNat * 4)).add 0) = some (.string x24_0) ∧
  ∃ x24_1 : ByteArray, hcell H2 ((x23.add (i5.toNat * 4)).add 1) = some (.string x24_1) ∧
  ∃ x24_2 : ByteArray, hcell H2 ((x23.add (i5.toNat * 4)).add 2) = some (.string x24_2) ∧
  ∃ x24_3 : ByteArray, hcell H2 ((x23.add (i5.toNat * 4)).add 3) = some (.string x24_3) ∧
  brW (!(decide (x20_0 = x24_0) && (decide (x20_1 = x24_1) && (decide (x20_2 = x24_2) && (decide (x20_3 = x24_3) && true))))) (R false H2) (letV (IntKind.i64.wrap (i5 + 1)) fun i5b : Int => L4 ((i5b : Int), ()) H2)) (J8 () H2)) q4.1) ((0 : Int), ()) H0)
  (fun _ H1 => R true H1))
theorem brackenref10_SameAttrs.eq (a0a_p : Option Addr) (a0a_l a0a_c : Nat) (a1b_p : Option Addr) (a1b_l a1b_c : Nat) (R : Bool → Heap → Prop) (H0 : Heap) :
    evF Tryd.prog brackenref10_SameAttrs.ann Tryd.f45 [.slice a0a_p a0a_l a0a_c, .slice a1b_p a1b_l a1b_c] (fun v H' => xS (.one .bool) v fun r => R r H') H0 = brackenref10_SameAttrs.W a0a_p a0a_l a0a_c a1b_p a1b_l a1b_c R H0 := by kernel_rfl
theorem brackenref10_SameAttrs.calls {a0a_p : Option Addr} {a0a_l a0a_c : Nat} {a1b_p : Option Addr} {a1b_l a1b_c : Nat} {R : Bool → Heap → Prop} {H0 : Heap} (h : brackenref10_SameAttrs.W a0a_p a0a_l a0a_c a1b_p a1b_l a1b_c R H0) : brackenref10_SameAttrs.C a0a_p a0a_l a0a_c a1b_p a1b_l a1b_c H0 R :=
  (evF_sound progOk_ Tryd.func45 (by rw [brackenref10_SameAttrs.eq]; exact h)).mono fun v H' h => by obtain ⟨x, hv, hk⟩ := xS_out h; exact ⟨x, hv, hk⟩

def brackenref15_SameNode.ann : Ann := { ord := fun _ => [], loop := fun _ => none, join := fun _ => none }
/-- bracken.brackenref15.SameNode -/
def brackenref15_SameNode.W (a0a_0 : Int) (a0a_1 : Int) (a0a_2 : ByteArray) (a0a_3 : ByteArray) (a0a_4 : ByteArray) (a0a_5 : ByteArray) (a0a_6_p : Option Addr) (a0a_6_l a0a_6_c : Nat) (a1b_0 : Int) (a1b_1 : Int) (a1b_2 : ByteArray) (a1b_3 : ByteArray) (a1b_4 : ByteArray) (a1b_5 : ByteArray) (a1b_6_p : Option Addr) (a1b_6_l a1b_6_c : Nat) (R : Bool → Heap → Prop) (H0 : Heap) : Prop :=
  letV (hnew H0 #[.int .i64 a0a_0, .int .i64 a0a_1, .string a0a_2, .string a0a_3, .string a0a_4, .string a0a_5, .slice a0a_6_p a0a_6_l a0a_6_c] ty_api_Node) fun H1 : Heap =>
  letV (hnew H1 #[.int .i64 a1b_0, .int .i64 a1b_1, .string a1b_2, .string a1b_3, .string a1b_4, .string a1b_5, .slice a1b_6_p a1b_6_l a1b_6_c] ty_api_Node) fun H2 : Heap =>
  ∃ x6 : Int, hcell H2 ((⟨Array.size H0, 0, none⟩ : Addr).add 0) = some (.int .i64 x6) ∧
  ∃ x8 : Int, hcell H2 ((⟨Array.size H1, 0, none⟩ : Addr).add 0) = some (.int .i64 x8) ∧
  brW (decide (x6 = x8)) (∃ x12 : Int, hcell H2 ((⟨Array.size H0, 0, none⟩ : Addr).add 1) = some (.int .i64 x12) ∧
  ∃ x14 : Int, hcell H2 ((⟨Array.size H1, 0, none⟩ : Addr).add 1) = some (.int .i64 x14) ∧
  brW (decide (x12 = x14)) (∃ x19 : ByteArray, hcell H2 ((⟨Array.size H0, 0, none⟩ : Addr).add 2) = some (.string x19) ∧
  ∃ x21 : ByteArray, hcell H2 ((⟨Array.size H1, 0, none⟩ : Addr).add 2) = some (.string x21) ∧
  brW (decide (x19 = x21)) (∃ x26 : ByteArray, hcell H2 ((⟨Array.size H0, 0, none⟩ : Addr).add 3) = some (.string x26) ∧
  ∃ x28 : ByteArray, hcell H2 ((⟨Array.size H1, 0, none⟩ : Addr).add 3) = some (.string x28) ∧
  brW (decide (x26 = x28)) (∃ x33 : ByteArray, hcell H2 ((⟨Array.size H0, 0, none⟩ : Addr).add 4) = some (.string x33) ∧
  ∃ x35 : ByteArray, hcell H2 ((⟨Array.size H1, 0, none⟩ : Addr).add 4) = some (.string x35) ∧
  brW (decide (x33 = x35)) (∃ x40 : ByteArray, hcell H2 ((⟨Array.size H0, 0, none⟩ : Addr).add 5) = some (.string x40) ∧
  ∃ x42 : ByteArray, hcell H2 ((⟨Array.size H1, 0, none⟩ : Addr).add 5) = some (.string x42) ∧
  brW (decide (x40 = x42)) (∃ (x47_p : Option Addr) (x47_l x47_c : Nat), hcell H2 ((⟨Array.size H0, 0, none⟩ : Addr).add 6) = some (.slice x47_p x47_l x47_c) ∧
  ∃ (x49_p : Option Addr) (x49_l x49_c : Nat), hcell H2 ((⟨Array.size H1, 0, none⟩ : Addr).add 6) = some (.slice x49_p x49_l x49_c) ∧ brackenref10_SameAttrs.C (x47_p) x47_l x47_c (x49_p) x49_l x49_c H2 fun x50 H3 => R (x50) H3) (R false H2)) (R false H2)) (R false H2)) (R false H2)) (R false H2)) (R false H2)
theorem brackenref15_SameNode.eq (a0a_0 : Int) (a0a_1 : Int) (a0a_2 : ByteArray) (a0a_3 : ByteArray) (a0a_4 : ByteArray) (a0a_5 : ByteArray) (a0a_6_p : Option Addr) (a0a_6_l a0a_6_c : Nat) (a1b_0 : Int) (a1b_1 : Int) (a1b_2 : ByteArray) (a1b_3 : ByteArray) (a1b_4 : ByteArray) (a1b_5 : ByteArray) (a1b_6_p : Option Addr) (a1b_6_l a1b_6_c : Nat) (R : Bool → Heap → Prop) (H0 : Heap) :
    evF Tryd.prog brackenref15_SameNode.ann Tryd.f36 [.agg #[.int .i64 a0a_0, .int .i64 a0a_1, .string a0a_2, .string a0a_3, .string a0a_4, .string a0a_5, .slice a0a_6_p a0a_6_l a0a_6_c], .agg #[.int .i64 a1b_0, .int .i64 a1b_1, .string a1b_2, .string a1b_3, .string a1b_4, .string a1b_5, .slice a1b_6_p a1b_6_l a1b_6_c]] (fun v H' => xS (.one .bool) v fun r => R r H') H0 = brackenref15_SameNode.W a0a_0 a0a_1 a0a_2 a0a_3 a0a_4 a0a_5 a0a_6_p a0a_6_l a0a_6_c a1b_0 a1b_1 a1b_2 a1b_3 a1b_4 a1b_5 a1b_6_p a1b_6_l a1b_6_c R H0 := by kernel_rfl
theorem brackenref15_SameNode.calls {a0a_0 : Int} {a0a_1 : Int} {a0a_2 : ByteArray} {a0a_3 : ByteArray} {a0a_4 : ByteArray} {a0a_5 : ByteArray} {a0a_6_p : Option Addr} {a0a_6_l a0a_6_c : Nat} {a1b_0 : Int} {a1b_1 : Int} {a1b_2 : ByteArray} {a1b_3 : ByteArray} {a1b_4 : ByteArray} {a1b_5 : ByteArray} {a1b_6_p : Option Addr} {a1b_6_l a1b_6_c : Nat} {R : Bool → Heap → Prop} {H0 : Heap} (h : brackenref15_SameNode.W a0a_0 a0a_1 a0a_2 a0a_3 a0a_4 a0a_5 a0a_6_p a0a_6_l a0a_6_c a1b_0 a1b_1 a1b_2 a1b_3 a1b_4 a1b_5 a1b_6_p a1b_6_l a1b_6_c R H0) : brackenref15_SameNode.C a0a_0 a0a_1 a0a_2 a0a_3 a0a_4 a0a_5 a0a_6_p a0a_6_l a0a_6_c a1b_0 a1b_1 a1b_2 a1b_3 a1b_4 a1b_5 a1b_6_p a1b_6_l a1b_6_c H0 R :=
  (evF_sound progOk_ Tryd.func36 (by rw [brackenref15_SameNode.eq]; exact h)).mono fun v H' h => by obtain ⟨x, hv, hk⟩ := xS_out h; exact ⟨x, hv, hk⟩

def brackenref1_in.ann : Ann := { ord := fun _ => [], loop := fun _ => none, join := fun _ => none }
/-- bracken.brackenref1.in -/
def brackenref1_in.W (a0r : Int) (a1a : Int) (a2b : Int) (R : Bool → Heap → Prop) (H0 : Heap) : Prop :=
  brW (decide (a1a ≤ a0r)) (R (decide (a0r ≤ a2b)) H0) (R false H0)
theorem brackenref1_in.eq (a0r : Int) (a1a : Int) (a2b : Int) (R : Bool → Heap → Prop) (H0 : Heap) :
    evF Tryd.prog brackenref1_in.ann Tryd.f62 [.int .i32 a0r, .int .i32 a1a, .int .i32 a2b] (fun v H' => xS (.one .bool) v fun r => R r H') H0 = brackenref1_in.W a0r a1a a2b R H0 := by kernel_rfl
theorem brackenref1_in.calls {a0r : Int} {a1a : Int} {a2b : Int} {R : Bool → Heap → Prop} {H0 : Heap} (h : brackenref1_in.W a0r a1a a2b R H0) : brackenref1_in.C a0r a1a a2b H0 R :=
  (evF_sound progOk_ Tryd.func62 (by rw [brackenref1_in.eq]; exact h)).mono fun v H' h => by obtain ⟨x, hv, hk⟩ := xS_out h; exact ⟨x, hv, hk⟩

def brackenref1_One.ann : Ann := { ord := fun _ => [], loop := fun i => bif Nat.beq i 17 then some [(8, .one (.int .i32)), (10, .one (.int .i64))] else none, join := fun i => bif Nat.beq i 9 then some [(23, .one .bool)] else bif Nat.beq i 11 then some [(33, .one .bool)] else bif Nat.beq i 13 then some [(43, .one .bool)] else bif Nat.beq i 14 then some [(7, .one (.int .i64)), (8, .one (.int .i32)), (9, .one (.int .i32))] else bif Nat.beq i 22 then some [(8, .one (.int .i32))] else bif Nat.beq i 23 then some [(91, .one .bool)] else bif Nat.beq i 24 then some [] else none }
/-- bracken.brackenref1.One -/
def brackenref1_One.W (a0s : ByteArray) (a1at : Int) (R : Int → Int → Heap → Prop) (H0 : Heap) : Prop :=
  brW (decide ((a0s.size : Int) ≤ a1at)) (R (0) (0) H0) (0 ≤ a1at ∧ a1at < (a0s.size : Int) ∧
  letV (bt a0s a1at) fun c6 : Int => 
  JoinW (S := (Int × Int × Int × Unit)) (fun J14 =>
  brW (decide (c6 < 128)) (letV (IntKind.i32.wrap c6) fun x4 : Int => R (x4) (1) H0) (
  JoinW (S := (Bool × Unit)) (fun J9 =>
  brW (decide ((192 : Int) ≤ c6)) (J9 (decide (c6 < 224), ()) H0) (J9 (false, ()) H0))
  (fun s9 H2 => (fun (x23 : Bool) =>
  brW x23 (letV (IntKind.i32.wrap (andW .u8 c6 31)) fun r8 : Int => J14 ((2 : Int), (r8 : Int), (128 : Int), ()) H2) (
  JoinW (S := (Bool × Unit)) (fun J11 =>
  brW (decide ((224 : Int) ≤ c6)) (J11 (decide (c6 < 240), ()) H2) (J11 (false, ()) H2))
  (fun s11 H3 => (fun (x33 : Bool) =>
  brW x33 (letV (IntKind.i32.wrap (andW .u8 c6 15)) fun r8 : Int => J14 ((3 : Int), (r8 : Int), (2048 : Int), ()) H3) (
  JoinW (S := (Bool × Unit)) (fun J13 =>
  brW (decide ((240 : Int) ≤ c6)) (J13 (decide (c6 < 248), ()) H3) (J13 (false, ()) H3))
  (fun s13 H4 => (fun (x43 : Bool) =>
  brW x43 (letV (IntKind.i32.wrap (andW .u8 c6 7)) fun r8 : Int => J14 ((4 : Int), (r8 : Int), (65536 : Int), ()) H4) (R (0) (0) H4)) s13.1))) s11.1))) s9.1)))
  (fun s14 H1 => (fun (n7 : Int) (r8 : Int) (least9 : Int) =>
  brW (decide ((a0s.size : Int) < (IntKind.i64.wrap (a1at + n7)))) (R (0) (0) H1) (
  JoinW (S := (Int × Unit)) (fun J22 => 
  LoopW (S := (Int × Int × Unit)) (fun L17 q17 H6 => (fun (r8 : Int) (i10 : Int) =>
  brW (decide (i10 < n7)) (0 ≤ IntKind.i64.wrap (a1at + i10) ∧ IntKind.i64.wrap (a1at + i10) < (a0s.size : Int) ∧
  brW (decide ((andW .u8 (bt a0s (IntKind.i64.wrap (a1at + i10))) 192) ≠ 128)) (R (0) (0) H6) (0 ≤ (6 : Int) ∧ 0 ≤ IntKind.i64.wrap (a1at + i10) ∧ IntKind.i64.wrap (a1at + i10) < (a0s.size : Int) ∧
  letV (orW .i32 (shlW .i32 r8 6) (IntKind.i32.wrap (andW .u8 (bt a0s (IntKind.i64.wrap (a1at + i10))) 63))) fun r8 : Int =>
  letV (IntKind.i64.wrap (i10 + 1)) fun i10b : Int => L17 ((r8 : Int), (i10b : Int), ()) H6)) (J22 ((r8 : Int), ()) H6)) q17.1 q17.2.1) ((r8 : Int), (1 : Int), ()) H1)
  (fun s22 H5 => (fun (r8 : Int) => 
  JoinW (S := Unit) (fun J24 => 
  JoinW (S := (Bool × Unit)) (fun J23 =>
  brW (decide (r8 < least9)) (J23 (true, ()) H5) (brW (decide ((1114111 : Int) < r8)) (J23 (true, ()) H5) (brackenref1_in.C (r8) (55296) (57343) H5 fun x90 H9 => J23 (x90, ()) H9)))
  (fun s23 H8 => (fun (x91 : Bool) =>
  brW x91 (R (0) (0) H8) (J24 () H8)) s23.1))
  (fun _ H7 => R (r8) (n7) H7)) s22.1))) s14.1 s14.2.1 s14.2.2.1))
theorem brackenref1_One.eq (a0s : ByteArray) (a1at : Int) (R : Int → Int → Heap → Prop) (H0 : Heap) :
    evF Tryd.prog brackenref1_One.ann Tryd.f54 [.string a0s, .int .i64 a1at] (fun v H' => xT [.one (.int .i32), .one (.int .i64)] v fun r => R r.1 r.2.1 H') H0 = brackenref1_One.W a0s a1at R H0 := by kernel_rfl
theorem brackenref1_One.calls {a0s : ByteArray} {a1at : Int} {R : Int → Int → Heap → Prop} {H0 : Heap} (h : brackenref1_One.W a0s a1at R H0) : brackenref1_One.C a0s a1at H0 R :=
  (evF_sound progOk_ Tryd.func54 (by rw [brackenref1_One.eq]; exact h)).mono fun v H' h => by obtain ⟨x, hv, hk⟩ := xT_out h; exact ⟨x.1, x.2.1, hv, hk⟩

def brackenref1_Start.ann : Ann := { ord := fun _ => [], loop := fun _ => none, join := fun _ => none }
/-- bracken.brackenref1.Start -/
def brackenref1_Start.W (a0r : Int) (R : Bool → Heap → Prop) (H0 : Heap) : Prop :=
  brackenref1_in.C (a0r) (65) (90) H0 fun x4 H1 =>
  brW x4 (R true H1) (brackenref1_in.C (a0r) (97) (122) H1 fun x7 H2 =>
  brW x7 (R true H2) (brW (decide (a0r = 95)) (R true H2) (brW (decide (a0r = 58)) (R true H2) (brackenref1_in.C (a0r) (192) (214) H2 fun x19 H3 =>
  brW x19 (R true H3) (brackenref1_in.C (a0r) (216) (246) H3 fun x23 H4 =>
  brW x23 (R true H4) (brackenref1_in.C (a0r) (248) (767) H4 fun x27 H5 =>
  brW x27 (R true H5) (brackenref1_in.C (a0r) (880) (893) H5 fun x31 H6 =>
  brW x31 (R true H6) (brackenref1_in.C (a0r) (895) (8191) H6 fun x35 H7 =>
  brW x35 (R true H7) (brackenref1_in.C (a0r) (8204) (8205) H7 fun x39 H8 =>
  brW x39 (R true H8) (brackenref1_in.C (a0r) (8304) (8591) H8 fun x43 H9 =>
  brW x43 (R true H9) (brackenref1_in.C (a0r) (11264) (12271) H9 fun x47 H10 =>
  brW x47 (R true H10) (brackenref1_in.C (a0r) (12289) (55295) H10 fun x51 H11 =>
  brW x51 (R true H11) (brackenref1_in.C (a0r) (63744) (64975) H11 fun x55 H12 =>
  brW x55 (R true H12) (brackenref1_in.C (a0r) (65008) (65533) H12 fun x59 H13 =>
  brW x59 (R true H13) (brackenref1_in.C (a0r) (65536) (983039) H13 fun x63 H14 => R (x63) H14)))))))))))))))
theorem brackenref1_Start.eq (a0r : Int) (R : Bool → Heap → Prop) (H0 : Heap) :
    evF Tryd.prog brackenref1_Start.ann Tryd.f73 [.int .i32 a0r] (fun v H' => xS (.one .bool) v fun r => R r H') H0 = brackenref1_Start.W a0r R H0 := by kernel_rfl
theorem brackenref1_Start.calls {a0r : Int} {R : Bool → Heap → Prop} {H0 : Heap} (h : brackenref1_Start.W a0r R H0) : brackenref1_Start.C a0r H0 R :=
  (evF_sound progOk_ Tryd.func73 (by rw [brackenref1_Start.eq]; exact h)).mono fun v H' h => by obtain ⟨x, hv, hk⟩ := xS_out h; exact ⟨x, hv, hk⟩

def brackenref1_Part.ann : Ann := { ord := fun _ => [], loop := fun _ => none, join := fun _ => none }
/-- bracken.brackenref1.Part -/
def brackenref1_Part.W (a0r : Int) (R : Bool → Heap → Prop) (H0 : Heap) : Prop :=
  brackenref1_Start.C (a0r) H0 fun x4 H1 =>
  brW x4 (R true H1) (brW (decide (a0r = 45)) (R true H1) (brW (decide (a0r = 46)) (R true H1) (brackenref1_in.C (a0r) (48) (57) H1 fun x15 H2 =>
  brW x15 (R true H2) (brW (decide (a0r = 183)) (R true H2) (brackenref1_in.C (a0r) (768) (879) H2 fun x23 H3 =>
  brW x23 (R true H3) (brackenref1_in.C (a0r) (8255) (8256) H3 fun x27 H4 => R (x27) H4))))))
theorem brackenref1_Part.eq (a0r : Int) (R : Bool → Heap → Prop) (H0 : Heap) :
    evF Tryd.prog brackenref1_Part.ann Tryd.f72 [.int .i32 a0r] (fun v H' => xS (.one .bool) v fun r => R r H') H0 = brackenref1_Part.W a0r R H0 := by kernel_rfl
theorem brackenref1_Part.calls {a0r : Int} {R : Bool → Heap → Prop} {H0 : Heap} (h : brackenref1_Part.W a0r R H0) : brackenref1_Part.C a0r H0 R :=
  (evF_sound progOk_ Tryd.func72 (by rw [brackenref1_Part.eq]; exact h)).mono fun v H' h => by obtain ⟨x, hv, hk⟩ := xS_out h; exact ⟨x, hv, hk⟩

def brackenref1_Run.ann : Ann := { ord := fun _ => [], loop := fun i => bif Nat.beq i 2 then some [(5, .one (.int .i64))] else none, join := fun i => bif Nat.beq i 4 then some [(31, .one .bool)] else bif Nat.beq i 5 then some [] else none }
/-- bracken.brackenref1.Run -/
def brackenref1_Run.W (a0s : ByteArray) (a1at : Int) (R : Int → Heap → Prop) (H0 : Heap) : Prop :=
  
  LoopW (S := (Int × Unit)) (fun L2 q2 H1 => (fun (k5 : Int) =>
  brackenref1_One.C a0s (k5) H1 fun x12_0 x12_1 H2 => 
  JoinW (S := Unit) (fun J5 => 
  JoinW (S := (Bool × Unit)) (fun J4 =>
  brW (decide (x12_1 = 0)) (J4 (true, ()) H2) (brackenref1_Part.C (x12_0) H2 fun x19 H5 =>
  brW (!x19) (J4 (true, ()) H5) (brW (decide (k5 = a1at)) (brackenref1_Start.C (x12_0) H5 fun x28 H6 => J4 (!x28, ()) H6) (J4 (false, ()) H5))))
  (fun s4 H4 => (fun (x31 : Bool) =>
  brW x31 (R (k5) H4) (J5 () H4)) s4.1))
  (fun _ H3 =>
  letV (IntKind.i64.wrap (k5 + x12_1)) fun k5 : Int => L2 ((k5 : Int), ()) H3)) q2.1) ((a1at : Int), ()) H0
theorem brackenref1_Run.eq (a0s : ByteArray) (a1at : Int) (R : Int → Heap → Prop) (H0 : Heap) :
    evF Tryd.prog brackenref1_Run.ann Tryd.f69 [.string a0s, .int .i64 a1at] (fun v H' => xS (.one (.int .i64)) v fun r => R r H') H0 = brackenref1_Run.W a0s a1at R H0 := by kernel_rfl
theorem brackenref1_Run.calls {a0s : ByteArray} {a1at : Int} {R : Int → Heap → Prop} {H0 : Heap} (h : brackenref1_Run.W a0s a1at R H0) : brackenref1_Run.C a0s a1at H0 R :=
  (evF_sound progOk_ Tryd.func69 (by rw [brackenref1_Run.eq]; exact h)).mono fun v H' h => by obtain ⟨x, hv, hk⟩ := xS_out h; exact ⟨x, hv, hk⟩

def brackenref1_Name.ann : Ann := { ord := fun _ => [], loop := fun _ => none, join := fun _ => none }
/-- bracken.brackenref1.Name -/
def brackenref1_Name.W (a0s : ByteArray) (R : Bool → Heap → Prop) (H0 : Heap) : Prop :=
  brW (decide (a0s ≠ (⟨#[]⟩ : ByteArray))) (brackenref1_Run.C a0s (0) H0 fun x7 H1 => R (decide (x7 = (a0s.size : Int))) H1) (R false H0)
theorem brackenref1_Name.eq (a0s : ByteArray) (R : Bool → Heap → Prop) (H0 : Heap) :
    evF Tryd.prog brackenref1_Name.ann Tryd.f63 [.string a0s] (fun v H' => xS (.one .bool) v fun r => R r H') H0 = brackenref1_Name.W a0s R H0 := by kernel_rfl
theorem brackenref1_Name.calls {a0s : ByteArray} {R : Bool → Heap → Prop} {H0 : Heap} (h : brackenref1_Name.W a0s R H0) : brackenref1_Name.C a0s H0 R :=
  (evF_sound progOk_ Tryd.func63 (by rw [brackenref1_Name.eq]; exact h)).mono fun v H' h => by obtain ⟨x, hv, hk⟩ := xS_out h; exact ⟨x, hv, hk⟩

def brackenref1_NCName.ann : Ann := { ord := fun _ => [], loop := fun i => bif Nat.beq i 2 then some [(3, .one (.int .i64))] else none, join := fun i => bif Nat.beq i 6 then some [] else none }
/-- bracken.brackenref1.NCName -/
def brackenref1_NCName.W (a0s : ByteArray) (R : Bool → Heap → Prop) (H0 : Heap) : Prop :=
  
  JoinW (S := Unit) (fun J6 => 
  LoopW (S := (Int × Unit)) (fun L2 q2 H2 => (fun (i3 : Int) =>
  brW (decide (i3 < (a0s.size : Int))) (0 ≤ i3 ∧ i3 < (a0s.size : Int) ∧
  brW (decide ((bt a0s i3) = 58)) (R false H2) (letV (IntKind.i64.wrap (i3 + 1)) fun i3b : Int => L2 ((i3b : Int), ()) H2)) (J6 () H2)) q2.1) ((0 : Int), ()) H0)
  (fun _ H1 =>
  brackenref1_Name.C a0s H1 fun x15 H3 => R (x15) H3)
theorem brackenref1_NCName.eq (a0s : ByteArray) (R : Bool → Heap → Prop) (H0 : Heap) :
    evF Tryd.prog brackenref1_NCName.ann Tryd.f56 [.string a0s] (fun v H' => xS (.one .bool) v fun r => R r H') H0 = brackenref1_NCName.W a0s R H0 := by kernel_rfl
theorem brackenref1_NCName.calls {a0s : ByteArray} {R : Bool → Heap → Prop} {H0 : Heap} (h : brackenref1_NCName.W a0s R H0) : brackenref1_NCName.C a0s H0 R :=
  (evF_sound progOk_ Tryd.func56 (by rw [brackenref1_NCName.eq]; exact h)).mono fun v H' h => by obtain ⟨x, hv, hk⟩ := xS_out h; exact ⟨x, hv, hk⟩

def brackenref1_Split.ann : Ann := { ord := fun i => bif Nat.beq i 6 then [0, 1, 2, 3, 4, 5, 6, 7, 8, 9] else [], loop := fun i => bif Nat.beq i 2 then some [(5, .one (.int .i64))] else none, join := fun i => bif Nat.beq i 6 then some [(26, .one .bool)] else bif Nat.beq i 7 then some [] else bif Nat.beq i 8 then some [] else none }
/-- bracken.brackenref1.Split -/
def brackenref1_Split.W (a0s : ByteArray) (R : ByteArray → ByteArray → Bool → Heap → Prop) (H0 : Heap) : Prop :=
  
  JoinW (S := Unit) (fun J8 => 
  LoopW (S := (Int × Unit)) (fun L2 q2 H2 => (fun (i5 : Int) =>
  brW (decide (i5 < (a0s.size : Int))) (0 ≤ i5 ∧ i5 < (a0s.size : Int) ∧
  brW (decide ((bt a0s i5) = 58)) (
  JoinW (S := Unit) (fun J7 => 
  JoinW (S := (Bool × Unit)) (fun J6 => 0 ≤ i5 ∧ i5 ≤ (a0s.size : Int) ∧ brackenref1_NCName.C (a0s.extract 0 i5.toNat) H2 fun x19 H5 =>
  brW x19 (0 ≤ IntKind.i64.wrap (i5 + 1) ∧ IntKind.i64.wrap (i5 + 1) ≤ (a0s.size : Int) ∧ brackenref1_NCName.C (a0s.extract ((IntKind.i64.wrap (i5 + 1)).toNat) a0s.size) H5 fun x25 H6 => J6 (x25, ()) H6) (J6 (false, ()) H5))
  (fun s6 H4 => (fun (x26 : Bool) =>
  brW x26 (0 ≤ i5 ∧ i5 ≤ (a0s.size : Int) ∧ 0 ≤ IntKind.i64.wrap (i5 + 1) ∧ IntKind.i64.wrap (i5 + 1) ≤ (a0s.size : Int) ∧ R (a0s.extract 0 i5.toNat) (a0s.extract ((IntKind.i64.wrap (i5 + 1)).toNat) a0s.size) true H4) (J7 () H4)) s6.1))
  (fun _ H3 => R (⟨#[]⟩ : ByteArray) (⟨#[]⟩ : ByteArray) false H3)) (letV (IntKind.i64.wrap (i5 + 1)) fun i5b : Int => L2 ((i5b : Int), ()) H2)) (J8 () H2)) q2.1) ((0 : Int), ()) H0)
  (fun _ H1 =>
  brackenref1_NCName.C a0s H1 fun x35 H7 =>
  brW (!x35) (R (⟨#[]⟩ : ByteArray) (⟨#[]⟩ : ByteArray) false H7) (R (⟨#[]⟩ : ByteArray) a0s true H7))
theorem brackenref1_Split.eq (a0s : ByteArray) (R : ByteArray → ByteArray → Bool → Heap → Prop) (H0 : Heap) :
    evF Tryd.prog brackenref1_Split.ann Tryd.f53 [.string a0s] (fun v H' => xT [.one .str, .one .str, .one .bool] v fun r => R r.1 r.2.1 r.2.2.1 H') H0 = brackenref1_Split.W a0s R H0 := by kernel_rfl
theorem brackenref1_Split.calls {a0s : ByteArray} {R : ByteArray → ByteArray → Bool → Heap → Prop} {H0 : Heap} (h : brackenref1_Split.W a0s R H0) : brackenref1_Split.C a0s H0 R :=
  (evF_sound progOk_ Tryd.func53 (by rw [brackenref1_Split.eq]; exact h)).mono fun v H' h => by obtain ⟨x, hv, hk⟩ := xT_out h; exact ⟨x.1, x.2.1, x.2.2.1, hv, hk⟩

def brackenref15_named.ann : Ann := { ord := fun _ => [], loop := fun _ => none, join := fun _ => none }
/-- bracken.brackenref15.named -/
def brackenref15_named.W (a0prefix : ByteArray) (a1local : ByteArray) (R : Bool → Heap → Prop) (H0 : Heap) : Prop :=
  brackenref15_qname.C a0prefix a1local H0 fun x11 H1 =>
  brackenref1_Split.C x11 H1 fun x12_0 x12_1 x12_2 H2 =>
  brW x12_2 (brW (decide (x12_0 = a0prefix)) (R (decide (x12_1 = a1local)) H2) (R false H2)) (R false H2)
theorem brackenref15_named.eq (a0prefix : ByteArray) (a1local : ByteArray) (R : Bool → Heap → Prop) (H0 : Heap) :
    evF Tryd.prog brackenref15_named.ann Tryd.f46 [.string a0prefix, .string a1local] (fun v H' => xS (.one .bool) v fun r => R r H') H0 = brackenref15_named.W a0prefix a1local R H0 := by kernel_rfl
theorem brackenref15_named.calls {a0prefix : ByteArray} {a1local : ByteArray} {R : Bool → Heap → Prop} {H0 : Heap} (h : brackenref15_named.W a0prefix a1local R H0) : brackenref15_named.C a0prefix a1local H0 R :=
  (evF_sound progOk_ Tryd.func46 (by rw [brackenref15_named.eq]; exact h)).mono fun v H' h => by obtain ⟨x, hv, hk⟩ := xS_out h; exact ⟨x, hv, hk⟩

def brackenref1_Char.ann : Ann := { ord := fun _ => [], loop := fun _ => none, join := fun _ => none }
/-- bracken.brackenref1.Char -/
def brackenref1_Char.W (a0r : Int) (R : Bool → Heap → Prop) (H0 : Heap) : Prop :=
  brW (decide (a0r = 9)) (R true H0) (brW (decide (a0r = 10)) (R true H0) (brW (decide (a0r = 13)) (R true H0) (brackenref1_in.C (a0r) (32) (55295) H0 fun x15 H1 =>
  brW x15 (R true H1) (brackenref1_in.C (a0r) (57344) (65533) H1 fun x19 H2 =>
  brW x19 (R true H2) (brackenref1_in.C (a0r) (65536) (1114111) H2 fun x23 H3 => R (x23) H3)))))
theorem brackenref1_Char.eq (a0r : Int) (R : Bool → Heap → Prop) (H0 : Heap) :
    evF Tryd.prog brackenref1_Char.ann Tryd.f55 [.int .i32 a0r] (fun v H' => xS (.one .bool) v fun r => R r H') H0 = brackenref1_Char.W a0r R H0 := by kernel_rfl
theorem brackenref1_Char.calls {a0r : Int} {R : Bool → Heap → Prop} {H0 : Heap} (h : brackenref1_Char.W a0r R H0) : brackenref1_Char.C a0r H0 R :=
  (evF_sound progOk_ Tryd.func55 (by rw [brackenref1_Char.eq]; exact h)).mono fun v H' h => by obtain ⟨x, hv, hk⟩ := xS_out h; exact ⟨x, hv, hk⟩

end Go.Proofs.YtojhnakgmihedaaDoor
