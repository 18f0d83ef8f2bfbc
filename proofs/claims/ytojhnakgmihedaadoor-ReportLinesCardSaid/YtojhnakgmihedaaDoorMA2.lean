import Derived.Test.YtojhnakgmihedaaDoorEvSound
import Derived.Test.YtojhnakgmihedaaDoorProg
import Derived.KernelRfl
import Derived.Test.YtojhnakgmihedaaDoorMA0
namespace Go.Proofs.YtojhnakgmihedaaDoor
open Go.Ev
set_option linter.unusedVariables false
def brackenref1_Valid.ann : Ann := { ord := fun _ => [], loop := fun i => bif Nat.beq i 2 then some [(3, .one (.int .i64))] else none, join := fun i => bif Nat.beq i 5 then some [(22, .one .bool)] else bif Nat.beq i 6 then some [] else bif Nat.beq i 7 then some [] else none }
/-- bracken.brackenref1.Valid -/
def brackenref1_Valid.W (a0s : ByteArray) (R : Bool → Heap → Prop) (H0 : Heap) : Prop :=
  
  JoinW (S := Unit) (fun J7 => 
  LoopW (S := (Int × Unit)) (fun L2 q2 H2 => (fun (at3 : Int) =>
  brW (decide (at3 < (a0s.size : Int))) (brackenref1_One.C a0s (at3) H2 fun x13_0 x13_1 H3 => 
  JoinW (S := Unit) (fun J6 => 
  JoinW (S := (Bool × Unit)) (fun J5 =>
  brW (decide (x13_1 = 0)) (J5 (true, ()) H3) (brackenref1_Char.C (x13_0) H3 fun x20 H6 => J5 (!x20, ()) H6))
  (fun s5 H5 => (fun (x22 : Bool) =>
  brW x22 (R false H5) (J6 () H5)) s5.1))
  (fun _ H4 =>
  letV (IntKind.i64.wrap (at3 + x13_1)) fun at3b : Int => L2 ((at3b : Int), ()) H4)) (J7 () H2)) q2.1) ((0 : Int), ()) H0)
  (fun _ H1 => R true H1)
theorem brackenref1_Valid.eq (a0s : ByteArray) (R : Bool → Heap → Prop) (H0 : Heap) :
    evF Tryd.prog brackenref1_Valid.ann Tryd.f47 [.string a0s] (fun v H' => xS (.one .bool) v fun r => R r H') H0 = brackenref1_Valid.W a0s R H0 := by kernel_rfl
theorem brackenref1_Valid.calls {a0s : ByteArray} {R : Bool → Heap → Prop} {H0 : Heap} (h : brackenref1_Valid.W a0s R H0) : brackenref1_Valid.C a0s H0 R :=
  (evF_sound progOk_ Tryd.func47 (by rw [brackenref1_Valid.eq]; exact h)).mono fun v H' h => by obtain ⟨x, hv, hk⟩ := xS_out h; exact ⟨x, hv, hk⟩

def brackenref15_element.ann : Ann := { ord := fun i => bif Nat.beq i 14 then [0, 1, 2, 3, 4, 5, 6, 7, 8, 9, 10, 11, 12, 13, 14, 15, 16, 17, 18, 19] else [], loop := fun i => bif Nat.beq i 6 then some [(6, .one (.int .i64))] else bif Nat.beq i 12 then some [(8, .one (.int .i64))] else none, join := fun i => bif Nat.beq i 2 then some [(19, .one .bool)] else bif Nat.beq i 3 then some [] else bif Nat.beq i 7 then some [] else bif Nat.beq i 10 then some [(49, .one .bool)] else bif Nat.beq i 11 then some [] else bif Nat.beq i 13 then some [] else bif Nat.beq i 15 then some [(74, .one .bool)] else bif Nat.beq i 16 then some [] else bif Nat.beq i 18 then some [(92, .one .bool)] else bif Nat.beq i 19 then some [] else none }
/-- bracken.brackenref15.element -/
def brackenref15_element.W (a0s : Option Addr) (a1n_0 : Int) (a1n_1 : Int) (a1n_2 : ByteArray) (a1n_3 : ByteArray) (a1n_4 : ByteArray) (a1n_5 : ByteArray) (a1n_6_p : Option Addr) (a1n_6_l a1n_6_c : Nat) (R : Bool → Heap → Prop) (H0 : Heap) : Prop :=
  letV (hnew H0 #[.int .i64 a1n_0, .int .i64 a1n_1, .string a1n_2, .string a1n_3, .string a1n_4, .string a1n_5, .slice a1n_6_p a1n_6_l a1n_6_c] ty_api_Node) fun H1 : Heap => 
  JoinW (S := Unit) (fun J3 => 
  JoinW (S := (Bool × Unit)) (fun J2 =>
  ∃ x10 : ByteArray, hcell H1 ((⟨Array.size H0, 0, none⟩ : Addr).add 2) = some (.string x10) ∧
  ∃ x12 : ByteArray, hcell H1 ((⟨Array.size H0, 0, none⟩ : Addr).add 3) = some (.string x12) ∧ brackenref15_named.C x10 x12 H1 fun x13 H4 =>
  brW (!x13) (J2 (true, ()) H4) (∃ x17 : ByteArray, hcell H4 ((⟨Array.size H0, 0, none⟩ : Addr).add 5) = some (.string x17) ∧ J2 (decide (x17 ≠ (⟨#[]⟩ : ByteArray)), ()) H4))
  (fun s2 H3 => (fun (x19 : Bool) =>
  brW x19 (R false H3) (J3 () H3)) s2.1))
  (fun _ H2 =>
  ∃ x20_0 : Int, hcell H2 ((⟨Array.size H0, 0, none⟩ : Addr).add 0) = some (.int .i64 x20_0) ∧
  ∃ x20_1 : Int, hcell H2 ((⟨Array.size H0, 0, none⟩ : Addr).add 1) = some (.int .i64 x20_1) ∧
  ∃ x20_2 : ByteArray, hcell H2 ((⟨Array.size H0, 0, none⟩ : Addr).add 2) = some (.string x20_2) ∧
  ∃ x20_3 : ByteArray, hcell H2 ((⟨Array.size H0, 0, none⟩ : Addr).add 3) = some (.string x20_3) ∧
  ∃ x20_4 : ByteArray, hcell H2 ((⟨Array.size H0, 0, none⟩ : Addr).add 4) = some (.string x20_4) ∧
  ∃ x20_5 : ByteArray, hcell H2 ((⟨Array.size H0, 0, none⟩ : Addr).add 5) = some (.string x20_5) ∧
  ∃ (x20_6_p : Option Addr) (x20_6_l x20_6_c : Nat), hcell H2 ((⟨Array.size H0, 0, none⟩ : Addr).add 6) = some (.slice x20_6_p x20_6_l x20_6_c) ∧
  letV (hnew H2 #[.int .i64 0, .int .i64 0, .string (⟨#[]⟩ : ByteArray), .string (⟨#[]⟩ : ByteArray), .string (⟨#[]⟩ : ByteArray), .string (⟨#[]⟩ : ByteArray), .slice none 0 0] ty_api_Node) fun H5 : Heap => (∃ u, hcell H5 ((⟨Array.size H2, 0, none⟩ : Addr).add 0) = some u) ∧ hfrozen H5 ((⟨Array.size H2, 0, none⟩ : Addr).add 0) = false ∧
  letV (hset H5 ((⟨Array.size H2, 0, none⟩ : Addr).add 0) (.int .i64 x20_0)) fun H7 : Heap => (∃ u, hcell H7 ((⟨Array.size H2, 0, none⟩ : Addr).add 1) = some u) ∧ hfrozen H7 ((⟨Array.size H2, 0, none⟩ : Addr).add 1) = false ∧
  letV (hset H7 ((⟨Array.size H2, 0, none⟩ : Addr).add 1) (.int .i64 x20_1)) fun H8 : Heap => (∃ u, hcell H8 ((⟨Array.size H2, 0, none⟩ : Addr).add 2) = some u) ∧ hfrozen H8 ((⟨Array.size H2, 0, none⟩ : Addr).add 2) = false ∧
  letV (hset H8 ((⟨Array.size H2, 0, none⟩ : Addr).add 2) (.string x20_2)) fun H9 : Heap => (∃ u, hcell H9 ((⟨Array.size H2, 0, none⟩ : Addr).add 3) = some u) ∧ hfrozen H9 ((⟨Array.size H2, 0, none⟩ : Addr).add 3) = false ∧
  letV (hset H9 ((⟨Array.size H2, 0, none⟩ : Addr).add 3) (.string x20_3)) fun H10 : Heap => (∃ u, hcell H10 ((⟨Array.size H2, 0, none⟩ : Addr).add 4) = some u) ∧ hfrozen H10 ((⟨Array.size H2, 0, none⟩ : Addr).add 4) = false ∧
  letV (hset H10 ((⟨Array.size H2, 0, none⟩ : Addr).add 4) (.string x20_4)) fun H11 : Heap => (∃ u, hcell H11 ((⟨Array.size H2, 0, none⟩ : Addr).add 5) = some u) ∧ hfrozen H11 ((⟨Array.size H2, 0, none⟩ : Addr).add 5) = false ∧
  letV (hset H11 ((⟨Array.size H2, 0, none⟩ : Addr).add 5) (.string x20_5)) fun H12 : Heap => (∃ u, hcell H12 ((⟨Array.size H2, 0, none⟩ : Addr).add 6) = some u) ∧ hfrozen H12 ((⟨Array.size H2, 0, none⟩ : Addr).add 6) = false ∧
  letV (hset H12 ((⟨Array.size H2, 0, none⟩ : Addr).add 6) (.slice x20_6_p x20_6_l x20_6_c)) fun H13 : Heap =>
  letV (hnew H13 #[] ty_api_Attr) fun H14 : Heap =>
  ∃ (x23_p : Option Addr) (x23_l x23_c : Nat), hcell H14 ((⟨Array.size H0, 0, none⟩ : Addr).add 6) = some (.slice x23_p x23_l x23_c) ∧ appW ty_api_Attr 4 64 (.agg #[.string (⟨#[]⟩ : ByteArray), .string (⟨#[]⟩ : ByteArray), .string (⟨#[]⟩ : ByteArray), .string (⟨#[]⟩ : ByteArray)]) (some ⟨Array.size H13, 0, none⟩) 0 0 (.slice x23_p x23_l x23_c) H14 fun x24_p x24_l x24_c H15 => (∃ u, hcell H15 ((⟨Array.size H2, 0, none⟩ : Addr).add 6) = some u) ∧ hfrozen H15 ((⟨Array.size H2, 0, none⟩ : Addr).add 6) = false ∧
  letV (hset H15 ((⟨Array.size H2, 0, none⟩ : Addr).add 6) (.slice x24_p x24_l x24_c)) fun H16 : Heap => 
  JoinW (S := Unit) (fun J19 => 
  LoopW (S := (Int × Unit)) (fun L6 q6 H18 => (fun (i6 : Int) =>
  ∃ (x28_p : Option Addr) (x28_l x28_c : Nat), hcell H18 ((⟨Array.size H2, 0, none⟩ : Addr).add 6) = some (.slice x28_p x28_l x28_c) ∧
  brW (decide (i6 < (x28_l : Int))) (
  JoinW (S := Unit) (fun J7 =>
  ∃ (x34_p : Option Addr) (x34_l x34_c : Nat), hcell H18 ((⟨Array.size H2, 0, none⟩ : Addr).add 6) = some (.slice x34_p x34_l x34_c) ∧
  ∃ x36 : Addr, x34_p = some x36 ∧ 0 ≤ i6 ∧ i6 < (x34_l : Int) ∧
  ∃ x37_0 : ByteArray, hcell H18 ((x36.add (i6.toNat * 4)).add 0) = some (.string x37_0) ∧
  ∃ x37_1 : ByteArray, hcell H18 ((x36.add (i6.toNat * 4)).add 1) = some (.string x37_1) ∧
  ∃ x37_2 : ByteArray, hcell H18 ((x36.add (i6.toNat * 4)).add 2) = some (.string x37_2) ∧
  ∃ x37_3 : ByteArray, hcell H18 ((x36.add (i6.toNat * 4)).add 3) = some (.string x37_3) ∧
  letV (hnew H18 #[.string (⟨#[]⟩ : ByteArray), .string (⟨#[]⟩ : ByteArray), .string (⟨#[]⟩ : ByteArray), .string (⟨#[]⟩ : ByteArray)] ty_api_Attr) fun H20 : Heap => (∃ u, hcell H20 ((⟨Array.size H18, 0, none⟩ : Addr).add 0) = some u) ∧ hfrozen H20 ((⟨Array.size H18, 0, none⟩ : Addr).add 0) = false ∧
  letV (hset H20 ((⟨Array.size H18, 0, none⟩ : Addr).add 0) (.string x37_0)) fun H22 : Heap => (∃ u, hcell H22 ((⟨Array.size H18, 0, none⟩ : Addr).add 1) = some u) ∧ hfrozen H22 ((⟨Array.size H18, 0, none⟩ : Addr).add 1) = false ∧
  letV (hset H22 ((⟨Array.size H18, 0, none⟩ : Addr).add 1) (.string x37_1)) fun H23 : Heap => (∃ u, hcell H23 ((⟨Array.size H18, 0, none⟩ : Addr).add 2) = some u) ∧ hfrozen H23 ((⟨Array.size H18, 0, none⟩ : Addr).add 2) = false ∧
  letV (hset H23 ((⟨Array.size H18, 0, none⟩ : Addr).add 2) (.string x37_2)) fun H24 : Heap => (∃ u, hcell H24 ((⟨Array.size H18, 0, none⟩ : Addr).add 3) = some u) ∧ hfrozen H24 ((⟨Array.size H18, 0, none⟩ : Addr).add 3) = false ∧
  letV (hset H24 ((⟨Array.size H18, 0, none⟩ : Addr).add 3) (.string x37_3)) fun H25 : Heap => 
  JoinW (S := Unit) (fun J11 => 
  JoinW (S := (Bool × Unit)) (fun J10 =>
  ∃ x39 : ByteArray, hcell H25 ((⟨Array.size H18, 0, none⟩ : Addr).add 0) = some (.string x39) ∧
  ∃ x41 : ByteArray, hcell H25 ((⟨Array.size H18, 0, none⟩ : Addr).add 1) = some (.string x41) ∧ brackenref15_named.C x39 x41 H25 fun x42 H28 =>
  brW (!x42) (J10 (true, ()) H28) (∃ x46 : ByteArray, hcell H28 ((⟨Array.size H18, 0, none⟩ : Addr).add 3) = some (.string x46) ∧ brackenref1_Valid.C x46 H28 fun x47 H29 => J10 (!x47, ()) H29))
  (fun s10 H27 => (fun (x49 : Bool) =>
  brW x49 (R false H27) (J11 () H27)) s10.1))
  (fun _ H26 => 
  JoinW (S := Unit) (fun J16 => 
  LoopW (S := (Int × Unit)) (fun L12 q12 H31 => (fun (k8 : Int) =>
  brW (decide (k8 < i6)) (
  JoinW (S := Unit) (fun J13 => 
  JoinW (S := (Bool × Unit)) (fun J15 =>
  ∃ (x56_p : Option Addr) (x56_l x56_c : Nat), hcell H31 ((⟨Array.size H2, 0, none⟩ : Addr).add 6) = some (.slice x56_p x56_l x56_c) ∧
  ∃ x58 : Addr, x56_p = some x58 ∧ 0 ≤ k8 ∧ k8 < (x56_l : Int) ∧
  ∃ x60 : ByteArray, hcell H31 ((x58.add (k8.toNat * 4)).add 0) = some (.string x60) ∧
  ∃ x62 : ByteArray, hcell H31 ((⟨Array.size H18, 0, none⟩ : Addr).add 0) = some (.string x62) ∧
  brW (decide (x60 = x62)) (∃ (x66_p : Option Addr) (x66_l x66_c : Nat), hcell H31 ((⟨Array.size H2, 0, none⟩ : Addr).add 6) = some (.slice x66_p x66_l x66_c) ∧
  ∃ x68 : Addr, x66_p = some x68 ∧ 0 ≤ k8 ∧ k8 < (x66_l : Int) ∧
  ∃ x70 : ByteArray, hcell H31 ((x68.add (k8.toNat * 4)).add 1) = some (.string x70) ∧
  ∃ x72 : ByteArray, hcell H31 ((⟨Array.size H18, 0, none⟩ : Addr).add 1) = some (.string x72) ∧ J15 (decide (x70 = x72), ()) H31) (J15 (false, ()) H31))
  (fun s15 H33 => (fun (x74 : Bool) =>
  brW x74 (R false H33) (J13 () H33)) s15.1))
  (fun _ H32 =>
  letV (IntKind.i64.wrap (k8 + 1)) fun k8b : Int => L12 ((k8b : Int), ()) H32)) (J16 () H31)) q12.1) ((0 : Int), ()) H26)
  (fun _ H30 =>
  ∃ (x76_p : Option Addr) (x76_l x76_c : Nat), hcell H30 ((⟨Array.size H2, 0, none⟩ : Addr).add 6) = some (.slice x76_p x76_l x76_c) ∧
  ∃ x78 : Addr, x76_p = some x78 ∧ 0 ≤ i6 ∧ i6 < (x76_l : Int) ∧ (∃ u, hcell H30 ((x78.add (i6.toNat * 4)).add 2) = some u) ∧ hfrozen H30 ((x78.add (i6.toNat * 4)).add 2) = false ∧
  letV (hset H30 ((x78.add (i6.toNat * 4)).add 2) (.string (⟨#[]⟩ : ByteArray))) fun H34 : Heap => 
  JoinW (S := (Bool × Unit)) (fun J18 =>
  ∃ x81 : ByteArray, hcell H34 ((⟨Array.size H18, 0, none⟩ : Addr).add 0) = some (.string x81) ∧
  brW (decide (x81 = (⟨#[120, 109, 108, 110, 115]⟩ : ByteArray))) (J18 (true, ()) H34) (∃ x85 : ByteArray, hcell H34 ((⟨Array.size H18, 0, none⟩ : Addr).add 0) = some (.string x85) ∧
  brW (decide (x85 = (⟨#[]⟩ : ByteArray))) (∃ x89 : ByteArray, hcell H34 ((⟨Array.size H18, 0, none⟩ : Addr).add 1) = some (.string x89) ∧ J18 (decide (x89 = (⟨#[120, 109, 108, 110, 115]⟩ : ByteArray)), ()) H34) (J18 (false, ()) H34)))
  (fun s18 H35 => (fun (x92 : Bool) =>
  brW x92 (∃ (x94_p : Option Addr) (x94_l x94_c : Nat), hcell H35 ((⟨Array.size H2, 0, none⟩ : Addr).add 6) = some (.slice x94_p x94_l x94_c) ∧
  ∃ x96 : Addr, x94_p = some x96 ∧ 0 ≤ i6 ∧ i6 < (x94_l : Int) ∧ (∃ u, hcell H35 ((x96.add (i6.toNat * 4)).add 2) = some u) ∧ hfrozen H35 ((x96.add (i6.toNat * 4)).add 2) = false ∧
  letV (hset H35 ((x96.add (i6.toNat * 4)).add 2) (.string (⟨#[104, 116, 116, 112, 58, 47, 47, 119, 119, 119, 46, 119, 51, 46, 111, 114, 103, 47, 50, 48, 48, 48, 47, 120, 109, 108, 110, 115, 47]⟩ : ByteArray))) fun H36 : Heap => J7 () H36) (J7 () H35)) s18.1))))
  (fun _ H19 =>
  letV (IntKind.i64.wrap (i6 + 1)) fun i6b : Int => L6 ((i6b : Int), ()) H19)) (J19 () H18)) q6.1) ((0 : Int), ()) H16)
  (fun _ H17 =>
  ∃ (x100_p : Option Addr) (x100_l x100_c : Nat), hcell H17 ((⟨Array.size H2, 0, none⟩ : Addr).add 6) = some (.slice x100_p x100_l x100_c) ∧ brackenref10_Scope_Push.C (a0s) (x100_p) x100_l x100_c H17 fun x101 H37 =>
  brW (decide (x101 ≠ 0)) (R false H37) (brackenref15_Names.C (a0s) (some ⟨Array.size H2, 0, none⟩) H37 fun x104 H38 =>
  brW x104 (∃ x107 : ByteArray, hcell H38 ((⟨Array.size H2, 0, none⟩ : Addr).add 4) = some (.string x107) ∧
  ∃ x109 : ByteArray, hcell H38 ((⟨Array.size H0, 0, none⟩ : Addr).add 4) = some (.string x109) ∧
  brW (decide (x107 = x109)) (∃ (x114_p : Option Addr) (x114_l x114_c : Nat), hcell H38 ((⟨Array.size H2, 0, none⟩ : Addr).add 6) = some (.slice x114_p x114_l x114_c) ∧
  ∃ (x116_p : Option Addr) (x116_l x116_c : Nat), hcell H38 ((⟨Array.size H0, 0, none⟩ : Addr).add 6) = some (.slice x116_p x116_l x116_c) ∧ brackenref10_SameAttrs.C (x114_p) x114_l x114_c (x116_p) x116_l x116_c H38 fun x117 H39 => R (x117) H39) (R false H38)) (R false H38))))
theorem brackenref15_element.eq (a0s : Option Addr) (a1n_0 : Int) (a1n_1 : Int) (a1n_2 : ByteArray) (a1n_3 : ByteArray) (a1n_4 : ByteArray) (a1n_5 : ByteArray) (a1n_6_p : Option Addr) (a1n_6_l a1n_6_c : Nat) (R : Bool → Heap → Prop) (H0 : Heap) :
    evF Tryd.prog brackenref15_element.ann Tryd.f37 [.pointer a0s, .agg #[.int .i64 a1n_0, .int .i64 a1n_1, .string a1n_2, .string a1n_3, .string a1n_4, .string a1n_5, .slice a1n_6_p a1n_6_l a1n_6_c]] (fun v H' => xS (.one .bool) v fun r => R r H') H0 = brackenref15_element.W a0s a1n_0 a1n_1 a1n_2 a1n_3 a1n_4 a1n_5 a1n_6_p a1n_6_l a1n_6_c R H0 := by kernel_rfl
theorem brackenref15_element.calls {a0s : Option Addr} {a1n_0 : Int} {a1n_1 : Int} {a1n_2 : ByteArray} {a1n_3 : ByteArray} {a1n_4 : ByteArray} {a1n_5 : ByteArray} {a1n_6_p : Option Addr} {a1n_6_l a1n_6_c : Nat} {R : Bool → Heap → Prop} {H0 : Heap} (h : brackenref15_element.W a0s a1n_0 a1n_1 a1n_2 a1n_3 a1n_4 a1n_5 a1n_6_p a1n_6_l a1n_6_c R H0) : brackenref15_element.C a0s a1n_0 a1n_1 a1n_2 a1n_3 a1n_4 a1n_5 a1n_6_p a1n_6_l a1n_6_c H0 R :=
  (evF_sound progOk_ Tryd.func37 (by rw [brackenref15_element.eq]; exact h)).mono fun v H' h => by obtain ⟨x, hv, hk⟩ := xS_out h; exact ⟨x, hv, hk⟩

def brackenref15_holds.ann : Ann := { ord := fun _ => [], loop := fun i => bif Nat.beq i 2 then some [(5, .one (.int .i64))] else none, join := fun i => bif Nat.beq i 6 then some [] else none }
/-- bracken.brackenref15.holds -/
def brackenref15_holds.W (a0s : ByteArray) (a1what : ByteArray) (R : Bool → Heap → Prop) (H0 : Heap) : Prop :=
  
  JoinW (S := Unit) (fun J6 => 
  LoopW (S := (Int × Unit)) (fun L2 q2 H2 => (fun (i5 : Int) =>
  brW (decide ((IntKind.i64.wrap (i5 + (a1what.size : Int))) ≤ (a0s.size : Int))) (0 ≤ IntKind.i64.wrap (i5 + (a1what.size : Int)) ∧ IntKind.i64.wrap (i5 + (a1what.size : Int)) ≤ (a0s.size : Int) ∧ 0 ≤ i5 ∧ i5 ≤ ((IntKind.i64.wrap (i5 + (a1what.size : Int))).toNat : Int) ∧
  brW (decide (a0s.extract i5.toNat ((IntKind.i64.wrap (i5 + (a1what.size : Int))).toNat) = a1what)) (R true H2) (letV (IntKind.i64.wrap (i5 + 1)) fun i5b : Int => L2 ((i5b : Int), ()) H2)) (J6 () H2)) q2.1) ((0 : Int), ()) H0)
  (fun _ H1 => R false H1)
theorem brackenref15_holds.eq (a0s : ByteArray) (a1what : ByteArray) (R : Bool → Heap → Prop) (H0 : Heap) :
    evF Tryd.prog brackenref15_holds.ann Tryd.f48 [.string a0s, .string a1what] (fun v H' => xS (.one .bool) v fun r => R r H') H0 = brackenref15_holds.W a0s a1what R H0 := by kernel_rfl
theorem brackenref15_holds.calls {a0s : ByteArray} {a1what : ByteArray} {R : Bool → Heap → Prop} {H0 : Heap} (h : brackenref15_holds.W a0s a1what R H0) : brackenref15_holds.C a0s a1what H0 R :=
  (evF_sound progOk_ Tryd.func48 (by rw [brackenref15_holds.eq]; exact h)).mono fun v H' h => by obtain ⟨x, hv, hk⟩ := xS_out h; exact ⟨x, hv, hk⟩

def brackenref10_lower.ann : Ann := { ord := fun _ => [], loop := fun i => bif Nat.beq i 3 then some [(4, .one (.int .i64))] else none, join := fun i => bif Nat.beq i 4 then some [] else bif Nat.beq i 6 then some [(24, .one .bool)] else bif Nat.beq i 7 then some [] else none }
/-- bracken.brackenref10.lower -/
def brackenref10_lower.W (a0s : ByteArray) (R : ByteArray → Heap → Prop) (H0 : Heap) : Prop :=
  ∀ x6_c, a0s.size ≤ x6_c → letV (H0.push (.cells ((bytesCells a0s).toArray ++ Array.replicate (x6_c - a0s.size) (.int .u8 0)) ty_uint8 (x6_c, x6_c + 1))) fun H1 : Heap => 
  JoinW (S := Unit) (fun J7 => 
  LoopW (S := (Int × Unit)) (fun L3 q3 H3 => (fun (i4 : Int) =>
  brW (decide (i4 < (a0s.size : Int))) (
  JoinW (S := Unit) (fun J4 => 
  JoinW (S := (Bool × Unit)) (fun J6 =>
  ∃ x15 : Addr, some ⟨Array.size H0, 0, none⟩ = some x15 ∧ 0 ≤ i4 ∧ i4 < (a0s.size : Int) ∧
  ∃ x16 : Int, hcell H3 (x15.add i4.toNat) = some (.int .u8 x16) ∧
  brW (decide ((65 : Int) ≤ x16)) (∃ x21 : Addr, some ⟨Array.size H0, 0, none⟩ = some x21 ∧ 0 ≤ i4 ∧ i4 < (a0s.size : Int) ∧
  ∃ x22 : Int, hcell H3 (x21.add i4.toNat) = some (.int .u8 x22) ∧ J6 (decide (x22 ≤ 90), ()) H3) (J6 (false, ()) H3))
  (fun s6 H5 => (fun (x24 : Bool) =>
  brW x24 (∃ x29 : Addr, some ⟨Array.size H0, 0, none⟩ = some x29 ∧ 0 ≤ i4 ∧ i4 < (a0s.size : Int) ∧
  ∃ x30 : Int, hcell H5 (x29.add i4.toNat) = some (.int .u8 x30) ∧
  ∃ x32 : Addr, some ⟨Array.size H0, 0, none⟩ = some x32 ∧ 0 ≤ i4 ∧ i4 < (a0s.size : Int) ∧ (∃ u, hcell H5 (x32.add i4.toNat) = some u) ∧ hfrozen H5 (x32.add i4.toNat) = false ∧
  letV (hset H5 (x32.add i4.toNat) (.int .u8 (IntKind.u8.wrap (x30 + 32)))) fun H6 : Heap => J4 () H6) (J4 () H5)) s6.1))
  (fun _ H4 =>
  letV (IntKind.i64.wrap (i4 + 1)) fun i4b : Int => L3 ((i4b : Int), ()) H4)) (J7 () H3)) q3.1) ((0 : Int), ()) H1)
  (fun _ H2 =>
  ∃ x34 : ByteArray, BytesAt H2 (some ⟨Array.size H0, 0, none⟩) a0s.size x34 ∧ R x34 H2)
theorem brackenref10_lower.eq (a0s : ByteArray) (R : ByteArray → Heap → Prop) (H0 : Heap) :
    evF Tryd.prog brackenref10_lower.ann Tryd.f57 [.string a0s] (fun v H' => xS (.one .str) v fun r => R r H') H0 = brackenref10_lower.W a0s R H0 := by kernel_rfl
theorem brackenref10_lower.calls {a0s : ByteArray} {R : ByteArray → Heap → Prop} {H0 : Heap} (h : brackenref10_lower.W a0s R H0) : brackenref10_lower.C a0s H0 R :=
  (evF_sound progOk_ Tryd.func57 (by rw [brackenref10_lower.eq]; exact h)).mono fun v H' h => by obtain ⟨x, hv, hk⟩ := xS_out h; exact ⟨x, hv, hk⟩

def brackenref10_Target.ann : Ann := { ord := fun _ => [], loop := fun _ => none, join := fun _ => none }
/-- bracken.brackenref10.Target -/
def brackenref10_Target.W (a0s : ByteArray) (R : Bool → Heap → Prop) (H0 : Heap) : Prop :=
  brackenref1_NCName.C a0s H0 fun x4 H1 =>
  brW x4 (brackenref10_lower.C a0s H1 fun x7 H2 => R (decide (x7 ≠ (⟨#[120, 109, 108]⟩ : ByteArray))) H2) (R false H1)
theorem brackenref10_Target.eq (a0s : ByteArray) (R : Bool → Heap → Prop) (H0 : Heap) :
    evF Tryd.prog brackenref10_Target.ann Tryd.f49 [.string a0s] (fun v H' => xS (.one .bool) v fun r => R r H') H0 = brackenref10_Target.W a0s R H0 := by kernel_rfl
theorem brackenref10_Target.calls {a0s : ByteArray} {R : Bool → Heap → Prop} {H0 : Heap} (h : brackenref10_Target.W a0s R H0) : brackenref10_Target.C a0s H0 R :=
  (evF_sound progOk_ Tryd.func49 (by rw [brackenref10_Target.eq]; exact h)).mono fun v H' h => by obtain ⟨x, hv, hk⟩ := xS_out h; exact ⟨x, hv, hk⟩

def brackenref1_Space.ann : Ann := { ord := fun _ => [], loop := fun _ => none, join := fun _ => none }
/-- bracken.brackenref1.Space -/
def brackenref1_Space.W (a0r : Int) (R : Bool → Heap → Prop) (H0 : Heap) : Prop :=
  brW (decide (a0r = 32)) (R true H0) (brW (decide (a0r = 9)) (R true H0) (brW (decide (a0r = 13)) (R true H0) (R (decide (a0r = 10)) H0)))
theorem brackenref1_Space.eq (a0r : Int) (R : Bool → Heap → Prop) (H0 : Heap) :
    evF Tryd.prog brackenref1_Space.ann Tryd.f50 [.int .i32 a0r] (fun v H' => xS (.one .bool) v fun r => R r H') H0 = brackenref1_Space.W a0r R H0 := by kernel_rfl
theorem brackenref1_Space.calls {a0r : Int} {R : Bool → Heap → Prop} {H0 : Heap} (h : brackenref1_Space.W a0r R H0) : brackenref1_Space.C a0r H0 R :=
  (evF_sound progOk_ Tryd.func50 (by rw [brackenref1_Space.eq]; exact h)).mono fun v H' h => by obtain ⟨x, hv, hk⟩ := xS_out h; exact ⟨x, hv, hk⟩

def brackenref15_plain.ann : Ann := { ord := fun _ => [], loop := fun _ => none, join := fun i => bif Nat.beq i 2 then some [(32, .one .bool)] else bif Nat.beq i 3 then some [] else none }
/-- bracken.brackenref15.plain -/
def brackenref15_plain.W (a0n_0 : Int) (a0n_1 : Int) (a0n_2 : ByteArray) (a0n_3 : ByteArray) (a0n_4 : ByteArray) (a0n_5 : ByteArray) (a0n_6_p : Option Addr) (a0n_6_l a0n_6_c : Nat) (R : Bool → Heap → Prop) (H0 : Heap) : Prop :=
  letV (hnew H0 #[.int .i64 a0n_0, .int .i64 a0n_1, .string a0n_2, .string a0n_3, .string a0n_4, .string a0n_5, .slice a0n_6_p a0n_6_l a0n_6_c] ty_api_Node) fun H1 : Heap => 
  JoinW (S := Unit) (fun J3 => 
  JoinW (S := (Bool × Unit)) (fun J2 =>
  ∃ x4 : ByteArray, hcell H1 ((⟨Array.size H0, 0, none⟩ : Addr).add 2) = some (.string x4) ∧
  brW (decide (x4 ≠ (⟨#[]⟩ : ByteArray))) (J2 (true, ()) H1) (∃ x8 : ByteArray, hcell H1 ((⟨Array.size H0, 0, none⟩ : Addr).add 4) = some (.string x8) ∧
  brW (decide (x8 ≠ (⟨#[]⟩ : ByteArray))) (J2 (true, ()) H1) (∃ (x13_p : Option Addr) (x13_l x13_c : Nat), hcell H1 ((⟨Array.size H0, 0, none⟩ : Addr).add 6) = some (.slice x13_p x13_l x13_c) ∧
  brW (decide ((0 : Int) < (x13_l : Int))) (J2 (true, ()) H1) (∃ x19 : Int, hcell H1 ((⟨Array.size H0, 0, none⟩ : Addr).add 0) = some (.int .i64 x19) ∧
  brW (decide (x19 ≠ 5)) (∃ x23 : ByteArray, hcell H1 ((⟨Array.size H0, 0, none⟩ : Addr).add 3) = some (.string x23) ∧
  brW (decide (x23 ≠ (⟨#[]⟩ : ByteArray))) (J2 (true, ()) H1) (∃ x29 : ByteArray, hcell H1 ((⟨Array.size H0, 0, none⟩ : Addr).add 5) = some (.string x29) ∧ brackenref1_Valid.C x29 H1 fun x30 H4 => J2 (!x30, ()) H4)) (∃ x29 : ByteArray, hcell H1 ((⟨Array.size H0, 0, none⟩ : Addr).add 5) = some (.string x29) ∧ brackenref1_Valid.C x29 H1 fun x30 H5 => J2 (!x30, ()) H5)))))
  (fun s2 H3 => (fun (x32 : Bool) =>
  brW x32 (R false H3) (J3 () H3)) s2.1))
  (fun _ H2 =>
  ∃ x34 : Int, hcell H2 ((⟨Array.size H0, 0, none⟩ : Addr).add 0) = some (.int .i64 x34) ∧
  brW (decide (x34 = 3)) (∃ x38 : ByteArray, hcell H2 ((⟨Array.size H0, 0, none⟩ : Addr).add 5) = some (.string x38) ∧ R (decide (x38 ≠ (⟨#[]⟩ : ByteArray))) H2) (brW (decide (x34 = 4)) (∃ x43 : ByteArray, hcell H2 ((⟨Array.size H0, 0, none⟩ : Addr).add 5) = some (.string x43) ∧ brackenref15_holds.C x43 (⟨#[13]⟩ : ByteArray) H2 fun x44 H6 =>
  brW (!x44) (∃ x48 : ByteArray, hcell H6 ((⟨Array.size H0, 0, none⟩ : Addr).add 5) = some (.string x48) ∧ brackenref15_holds.C x48 (⟨#[45, 45]⟩ : ByteArray) H6 fun x49 H7 =>
  brW (!x49) (∃ x54 : ByteArray, hcell H7 ((⟨Array.size H0, 0, none⟩ : Addr).add 5) = some (.string x54) ∧
  brW (decide (x54 = (⟨#[]⟩ : ByteArray))) (R true H7) (∃ x58 : ByteArray, hcell H7 ((⟨Array.size H0, 0, none⟩ : Addr).add 5) = some (.string x58) ∧
  ∃ x60 : ByteArray, hcell H7 ((⟨Array.size H0, 0, none⟩ : Addr).add 5) = some (.string x60) ∧ 0 ≤ IntKind.i64.wrap ((x60.size : Int) - 1) ∧ IntKind.i64.wrap ((x60.size : Int) - 1) < (x58.size : Int) ∧ R (decide ((bt x58 (IntKind.i64.wrap ((x60.size : Int) - 1))) ≠ 45)) H7)) (R false H7)) (R false H6)) (brW (decide (x34 = 5)) (∃ x70 : ByteArray, hcell H2 ((⟨Array.size H0, 0, none⟩ : Addr).add 3) = some (.string x70) ∧ brackenref10_Target.C x70 H2 fun x71 H8 =>
  brW x71 (∃ x74 : ByteArray, hcell H8 ((⟨Array.size H0, 0, none⟩ : Addr).add 5) = some (.string x74) ∧ brackenref15_holds.C x74 (⟨#[13]⟩ : ByteArray) H8 fun x75 H9 =>
  brW (!x75) (∃ x80 : ByteArray, hcell H9 ((⟨Array.size H0, 0, none⟩ : Addr).add 5) = some (.string x80) ∧ brackenref15_holds.C x80 (⟨#[63, 62]⟩ : ByteArray) H9 fun x81 H10 =>
  brW (!x81) (∃ x86 : ByteArray, hcell H10 ((⟨Array.size H0, 0, none⟩ : Addr).add 5) = some (.string x86) ∧
  brW (decide (x86 = (⟨#[]⟩ : ByteArray))) (R true H10) (∃ x90 : ByteArray, hcell H10 ((⟨Array.size H0, 0, none⟩ : Addr).add 5) = some (.string x90) ∧ 0 ≤ (0 : Int) ∧ (0 : Int) < (x90.size : Int) ∧ brackenref1_Space.C (IntKind.i32.wrap (bt x90 (0 : Int))) H10 fun x93 H11 => R (!x93) H11)) (R false H10)) (R false H9)) (R false H8)) (R false H2))))
theorem brackenref15_plain.eq (a0n_0 : Int) (a0n_1 : Int) (a0n_2 : ByteArray) (a0n_3 : ByteArray) (a0n_4 : ByteArray) (a0n_5 : ByteArray) (a0n_6_p : Option Addr) (a0n_6_l a0n_6_c : Nat) (R : Bool → Heap → Prop) (H0 : Heap) :
    evF Tryd.prog brackenref15_plain.ann Tryd.f38 [.agg #[.int .i64 a0n_0, .int .i64 a0n_1, .string a0n_2, .string a0n_3, .string a0n_4, .string a0n_5, .slice a0n_6_p a0n_6_l a0n_6_c]] (fun v H' => xS (.one .bool) v fun r => R r H') H0 = brackenref15_plain.W a0n_0 a0n_1 a0n_2 a0n_3 a0n_4 a0n_5 a0n_6_p a0n_6_l a0n_6_c R H0 := by kernel_rfl
theorem brackenref15_plain.calls {a0n_0 : Int} {a0n_1 : Int} {a0n_2 : ByteArray} {a0n_3 : ByteArray} {a0n_4 : ByteArray} {a0n_5 : ByteArray} {a0n_6_p : Option Addr} {a0n_6_l a0n_6_c : Nat} {R : Bool → Heap → Prop} {H0 : Heap} (h : brackenref15_plain.W a0n_0 a0n_1 a0n_2 a0n_3 a0n_4 a0n_5 a0n_6_p a0n_6_l a0n_6_c R H0) : brackenref15_plain.C a0n_0 a0n_1 a0n_2 a0n_3 a0n_4 a0n_5 a0n_6_p a0n_6_l a0n_6_c H0 R :=
  (evF_sound progOk_ Tryd.func38 (by rw [brackenref15_plain.eq]; exact h)).mono fun v H' h => by obtain ⟨x, hv, hk⟩ := xS_out h; exact ⟨x, hv, hk⟩

def brackenref15_May.ann : Ann := { ord := fun i => bif Nat.beq i 9 then [0, 1, 2, 3, 4, 5, 6, 7, 8, 9, 10, 11, 12, 13, 14, 15, 16, 17, 18, 19, 20, 21, 22, 23, 24, 25, 26, 27, 28, 29, 30, 31, 32, 33, 34, 35, 36, 37, 38, 39, 40, 41, 42, 43, 44, 45, 46, 47, 48] else bif Nat.beq i 11 then [0, 1, 2, 3, 4, 5, 6, 7] else bif Nat.beq i 18 then [0, 1, 2, 3, 4, 5, 6, 7, 8, 9, 10, 11, 12, 13, 14, 15, 16, 17, 18, 19, 20, 21, 22, 23, 24, 25, 26, 27, 28, 29, 30, 31, 32] else [], loop := fun i => bif Nat.beq i 6 then some [(4, .one (.int .i64)), (5, .one (.int .i64))] else bif Nat.beq i 11 then some [] else none, join := fun i => bif Nat.beq i 2 then some [(22, .one .bool)] else bif Nat.beq i 3 then some [] else bif Nat.beq i 7 then some [(4, .one (.int .i64))] else bif Nat.beq i 10 then some [(83, .one .bool)] else bif Nat.beq i 11 then some [] else bif Nat.beq i 13 then some [] else bif Nat.beq i 19 then some [(138, .one .bool)] else bif Nat.beq i 20 then some [(4, .one (.int .i64))] else none }
/-- bracken.brackenref15.May -/
def brackenref15_May.W (a0t_p : Option Addr) (a0t_l a0t_c : Nat) (R : Bool → Heap → Prop) (H0 : Heap) : Prop :=
  
  JoinW (S := Unit) (fun J3 => 
  JoinW (S := (Bool × Unit)) (fun J2 =>
  brW (decide ((a0t_l : Int) < 1)) (J2 (true, ()) H0) (brW (decide ((1048576 : Int) < (a0t_l : Int))) (J2 (true, ()) H0) (∃ x17 : Addr, a0t_p = some x17 ∧ 0 ≤ (0 : Int) ∧ (0 : Int) < (a0t_l : Int) ∧
  ∃ x18_0 : Int, hcell H0 ((x17.add ((0 : Int).toNat * 7)).add 0) = some (.int .i64 x18_0) ∧
  ∃ x18_1 : Int, hcell H0 ((x17.add ((0 : Int).toNat * 7)).add 1) = some (.int .i64 x18_1) ∧
  ∃ x18_2 : ByteArray, hcell H0 ((x17.add ((0 : Int).toNat * 7)).add 2) = some (.string x18_2) ∧
  ∃ x18_3 : ByteArray, hcell H0 ((x17.add ((0 : Int).toNat * 7)).add 3) = some (.string x18_3) ∧
  ∃ x18_4 : ByteArray, hcell H0 ((x17.add ((0 : Int).toNat * 7)).add 4) = some (.string x18_4) ∧
  ∃ x18_5 : ByteArray, hcell H0 ((x17.add ((0 : Int).toNat * 7)).add 5) = some (.string x18_5) ∧
  ∃ (x18_6_p : Option Addr) (x18_6_l x18_6_c : Nat), hcell H0 ((x17.add ((0 : Int).toNat * 7)).add 6) = some (.slice x18_6_p x18_6_l x18_6_c) ∧ brackenref15_SameNode.C (x18_0) (x18_1) x18_2 x18_3 x18_4 x18_5 (x18_6_p) x18_6_l x18_6_c (1) (0) (⟨#[]⟩ : ByteArray) (⟨#[]⟩ : ByteArray) (⟨#[]⟩ : ByteArray) (⟨#[]⟩ : ByteArray) (none) 0 0 H0 fun x20 H3 => J2 (!x20, ()) H3)))
  (fun s2 H2 => (fun (x22 : Bool) =>
  brW x22 (R false H2) (J3 () H2)) s2.1))
  (fun _ H1 =>
  letV (hnew H1 #[.slice none 0 0] ty_brackenref10_Scope) fun H4 : Heap => 
  JoinW (S := (Int × Unit)) (fun J20 => 
  LoopW (S := (Int × Int × Unit)) (fun L6 q6 H6 => (fun (roots4 : Int) (i5 : Int) =>
  brW (decide (i5 < (a0t_l : Int))) (
  JoinW (S := (Int × Unit)) (fun J7 =>
  ∃ x33 : Addr, a0t_p = some x33 ∧ 0 ≤ i5 ∧ i5 < (a0t_l : Int) ∧
  ∃ x34_0 : Int, hcell H6 ((x33.add (i5.toNat * 7)).add 0) = some (.int .i64 x34_0) ∧
  ∃ x34_1 : Int, hcell H6 ((x33.add (i5.toNat * 7)).add 1) = some (.int .i64 x34_1) ∧
  ∃ x34_2 : ByteArray, hcell H6 ((x33.add (i5.toNat * 7)).add 2) = some (.string x34_2) ∧
  ∃ x34_3 : ByteArray, hcell H6 ((x33.add (i5.toNat * 7)).add 3) = some (.string x34_3) ∧
  ∃ x34_4 : ByteArray, hcell H6 ((x33.add (i5.toNat * 7)).add 4) = some (.string x34_4) ∧
  ∃ x34_5 : ByteArray, hcell H6 ((x33.add (i5.toNat * 7)).add 5) = some (.string x34_5) ∧
  ∃ (x34_6_p : Option Addr) (x34_6_l x34_6_c : Nat), hcell H6 ((x33.add (i5.toNat * 7)).add 6) = some (.slice x34_6_p x34_6_l x34_6_c) ∧
  letV (hnew H6 #[.int .i64 0, .int .i64 0, .string (⟨#[]⟩ : ByteArray), .string (⟨#[]⟩ : ByteArray), .string (⟨#[]⟩ : ByteArray), .string (⟨#[]⟩ : ByteArray), .slice none 0 0] ty_api_Node) fun H8 : Heap => (∃ u, hcell H8 ((⟨Array.size H6, 0, none⟩ : Addr).add 0) = some u) ∧ hfrozen H8 ((⟨Array.size H6, 0, none⟩ : Addr).add 0) = false ∧
  letV (hset H8 ((⟨Array.size H6, 0, none⟩ : Addr).add 0) (.int .i64 x34_0)) fun H10 : Heap => (∃ u, hcell H10 ((⟨Array.size H6, 0, none⟩ : Addr).add 1) = some u) ∧ hfrozen H10 ((⟨Array.size H6, 0, none⟩ : Addr).add 1) = false ∧
  letV (hset H10 ((⟨Array.size H6, 0, none⟩ : Addr).add 1) (.int .i64 x34_1)) fun H11 : Heap => (∃ u, hcell H11 ((⟨Array.size H6, 0, none⟩ : Addr).add 2) = some u) ∧ hfrozen H11 ((⟨Array.size H6, 0, none⟩ : Addr).add 2) = false ∧
  letV (hset H11 ((⟨Array.size H6, 0, none⟩ : Addr).add 2) (.string x34_2)) fun H12 : Heap => (∃ u, hcell H12 ((⟨Array.size H6, 0, none⟩ : Addr).add 3) = some u) ∧ hfrozen H12 ((⟨Array.size H6, 0, none⟩ : Addr).add 3) = false ∧
  letV (hset H12 ((⟨Array.size H6, 0, none⟩ : Addr).add 3) (.string x34_3)) fun H13 : Heap => (∃ u, hcell H13 ((⟨Array.size H6, 0, none⟩ : Addr).add 4) = some u) ∧ hfrozen H13 ((⟨Array.size H6, 0, none⟩ : Addr).add 4) = false ∧
  letV (hset H13 ((⟨Array.size H6, 0, none⟩ : Addr).add 4) (.string x34_4)) fun H14 : Heap => (∃ u, hcell H14 ((⟨Array.size H6, 0, none⟩ : Addr).add 5) = some u) ∧ hfrozen H14 ((⟨Array.size H6, 0, none⟩ : Addr).add 5) = false ∧
  letV (hset H14 ((⟨Array.size H6, 0, none⟩ : Addr).add 5) (.string x34_5)) fun H15 : Heap => (∃ u, hcell H15 ((⟨Array.size H6, 0, none⟩ : Addr).add 6) = some u) ∧ hfrozen H15 ((⟨Array.size H6, 0, none⟩ : Addr).add 6) = false ∧
  letV (hset H15 ((⟨Array.size H6, 0, none⟩ : Addr).add 6) (.slice x34_6_p x34_6_l x34_6_c)) fun H16 : Heap => 
  JoinW (S := Unit) (fun J11 => 
  JoinW (S := (Bool × Unit)) (fun J10 =>
  ∃ x36 : Int, hcell H16 ((⟨Array.size H6, 0, none⟩ : Addr).add 1) = some (.int .i64 x36) ∧
  brW (decide (x36 < 1)) (J10 (true, ()) H16) (∃ x40 : Int, hcell H16 ((⟨Array.size H6, 0, none⟩ : Addr).add 1) = some (.int .i64 x40) ∧
  brW (decide ((201 : Int) < x40)) (J10 (true, ()) H16) (∃ x45 : Int, hcell H16 ((⟨Array.size H6, 0, none⟩ : Addr).add 1) = some (.int .i64 x45) ∧
  ∃ x49 : Addr, a0t_p = some x49 ∧ 0 ≤ IntKind.i64.wrap (i5 - 1) ∧ IntKind.i64.wrap (i5 - 1) < (a0t_l : Int) ∧
  ∃ x51 : Int, hcell H16 ((x49.add ((IntKind.i64.wrap (i5 - 1)).toNat * 7)).add 1) = some (.int .i64 x51) ∧
  brW (decide ((IntKind.i64.wrap (x51 + 1)) < x45)) (J10 (true, ()) H16) (∃ x57 : Int, hcell H16 ((⟨Array.size H6, 0, none⟩ : Addr).add 1) = some (.int .i64 x57) ∧
  ∃ x61 : Addr, a0t_p = some x61 ∧ 0 ≤ IntKind.i64.wrap (i5 - 1) ∧ IntKind.i64.wrap (i5 - 1) < (a0t_l : Int) ∧
  ∃ x63 : Int, hcell H16 ((x61.add ((IntKind.i64.wrap (i5 - 1)).toNat * 7)).add 1) = some (.int .i64 x63) ∧
  brW (decide (x63 < x57)) (∃ x69 : Addr, a0t_p = some x69 ∧ 0 ≤ IntKind.i64.wrap (i5 - 1) ∧ IntKind.i64.wrap (i5 - 1) < (a0t_l : Int) ∧
  ∃ x71 : Int, hcell H16 ((x69.add ((IntKind.i64.wrap (i5 - 1)).toNat * 7)).add 0) = some (.int .i64 x71) ∧
  brW (decide (x71 ≠ 1)) (∃ x78 : Addr, a0t_p = some x78 ∧ 0 ≤ IntKind.i64.wrap (i5 - 1) ∧ IntKind.i64.wrap (i5 - 1) < (a0t_l : Int) ∧
  ∃ x80 : Int, hcell H16 ((x78.add ((IntKind.i64.wrap (i5 - 1)).toNat * 7)).add 0) = some (.int .i64 x80) ∧ J10 (decide (x80 ≠ 2), ()) H16) (J10 (false, ()) H16)) (J10 (false, ()) H16)))))
  (fun s10 H18 => (fun (x83 : Bool) =>
  brW x83 (R false H18) (J11 () H18)) s10.1))
  (fun _ H17 => 
  JoinW (S := Unit) (fun J13 => 
  LoopW (S := Unit) (fun L11 _ H20 =>
  ∃ x85 : Addr, some ⟨Array.size H1, 0, none⟩ = some x85 ∧
  ∃ (x87_p : Option Addr) (x87_l x87_c : Nat), hcell H20 (x85.add 0) = some (.slice x87_p x87_l x87_c) ∧
  ∃ x90 : Int, hcell H20 ((⟨Array.size H6, 0, none⟩ : Addr).add 1) = some (.int .i64 x90) ∧
  brW (decide (x90 ≤ (x87_l : Int))) (brackenref10_Scope_Pop.C (some ⟨Array.size H1, 0, none⟩) H20 fun x93 H21 => L11 () H21) (J13 () H20)) () H17)
  (fun _ H19 =>
  ∃ x95 : Int, hcell H19 ((⟨Array.size H6, 0, none⟩ : Addr).add 0) = some (.int .i64 x95) ∧
  brW (decide (x95 = 2)) (∃ x98_0 : Int, hcell H19 ((⟨Array.size H6, 0, none⟩ : Addr).add 0) = some (.int .i64 x98_0) ∧
  ∃ x98_1 : Int, hcell H19 ((⟨Array.size H6, 0, none⟩ : Addr).add 1) = some (.int .i64 x98_1) ∧
  ∃ x98_2 : ByteArray, hcell H19 ((⟨Array.size H6, 0, none⟩ : Addr).add 2) = some (.string x98_2) ∧
  ∃ x98_3 : ByteArray, hcell H19 ((⟨Array.size H6, 0, none⟩ : Addr).add 3) = some (.string x98_3) ∧
  ∃ x98_4 : ByteArray, hcell H19 ((⟨Array.size H6, 0, none⟩ : Addr).add 4) = some (.string x98_4) ∧
  ∃ x98_5 : ByteArray, hcell H19 ((⟨Array.size H6, 0, none⟩ : Addr).add 5) = some (.string x98_5) ∧
  ∃ (x98_6_p : Option Addr) (x98_6_l x98_6_c : Nat), hcell H19 ((⟨Array.size H6, 0, none⟩ : Addr).add 6) = some (.slice x98_6_p x98_6_l x98_6_c) ∧ brackenref15_element.C (some ⟨Array.size H1, 0, none⟩) (x98_0) (x98_1) x98_2 x98_3 x98_4 x98_5 (x98_6_p) x98_6_l x98_6_c H19 fun x99 H22 =>
  brW (!x99) (R false H22) (∃ x102 : Int, hcell H22 ((⟨Array.size H6, 0, none⟩ : Addr).add 1) = some (.int .i64 x102) ∧
  brW (decide (x102 = 1)) (letV (IntKind.i64.wrap (roots4 + 1)) fun roots4 : Int => J7 ((roots4 : Int), ()) H22) (J7 ((roots4 : Int), ()) H22))) (
  JoinW (S := (Bool × Unit)) (fun J19 =>
  ∃ x106_0 : Int, hcell H19 ((⟨Array.size H6, 0, none⟩ : Addr).add 0) = some (.int .i64 x106_0) ∧
  ∃ x106_1 : Int, hcell H19 ((⟨Array.size H6, 0, none⟩ : Addr).add 1) = some (.int .i64 x106_1) ∧
  ∃ x106_2 : ByteArray, hcell H19 ((⟨Array.size H6, 0, none⟩ : Addr).add 2) = some (.string x106_2) ∧
  ∃ x106_3 : ByteArray, hcell H19 ((⟨Array.size H6, 0, none⟩ : Addr).add 3) = some (.string x106_3) ∧
  ∃ x106_4 : ByteArray, hcell H19 ((⟨Array.size H6, 0, none⟩ : Addr).add 4) = some (.string x106_4) ∧
  ∃ x106_5 : ByteArray, hcell H19 ((⟨Array.size H6, 0, none⟩ : Addr).add 5) = some (.string x106_5) ∧
  ∃ (x106_6_p : Option Addr) (x106_6_l x106_6_c : Nat), hcell H19 ((⟨Array.size H6, 0, none⟩ : Addr).add 6) = some (.slice x106_6_p x106_6_l x106_6_c) ∧ brackenref15_plain.C (x106_0) (x106_1) x106_2 x106_3 x106_4 x106_5 (x106_6_p) x106_6_l x106_6_c H19 fun x107 H24 =>
  brW (!x107) (J19 (true, ()) H24) (∃ x111 : Int, hcell H24 ((⟨Array.size H6, 0, none⟩ : Addr).add 0) = some (.int .i64 x111) ∧
  brW (decide (x111 = 3)) (∃ x115 : Int, hcell H24 ((⟨Array.size H6, 0, none⟩ : Addr).add 1) = some (.int .i64 x115) ∧
  brW (decide (x115 = 1)) (J19 (true, ()) H24) (∃ x121 : Addr, a0t_p = some x121 ∧ 0 ≤ IntKind.i64.wrap (i5 - 1) ∧ IntKind.i64.wrap (i5 - 1) < (a0t_l : Int) ∧
  ∃ x123 : Int, hcell H24 ((x121.add ((IntKind.i64.wrap (i5 - 1)).toNat * 7)).add 0) = some (.int .i64 x123) ∧
  brW (decide (x123 = 3)) (∃ x129 : Addr, a0t_p = some x129 ∧ 0 ≤ IntKind.i64.wrap (i5 - 1) ∧ IntKind.i64.wrap (i5 - 1) < (a0t_l : Int) ∧
  ∃ x131 : Int, hcell H24 ((x129.add ((IntKind.i64.wrap (i5 - 1)).toNat * 7)).add 1) = some (.int .i64 x131) ∧
  ∃ x133 : Int, hcell H24 ((⟨Array.size H6, 0, none⟩ : Addr).add 1) = some (.int .i64 x133) ∧ J19 (decide (x131 = x133), ()) H24) (J19 (false, ()) H24))) (J19 (false, ()) H24)))
  (fun s19 H23 => (fun (x138 : Bool) =>
  brW x138 (R false H23) (J7 ((roots4 : Int), ()) H23)) s19.1)))))
  (fun s7 H7 => (fun (roots4 : Int) =>
  letV (IntKind.i64.wrap (i5 + 1)) fun i5b : Int => L6 ((roots4 : Int), (i5b : Int), ()) H7) s7.1)) (J20 ((roots4 : Int), ()) H6)) q6.1 q6.2.1) ((0 : Int), (1 : Int), ()) H4)
  (fun s20 H5 => (fun (roots4 : Int) => R (decide (roots4 = 1)) H5) s20.1))
theorem brackenref15_May.eq (a0t_p : Option Addr) (a0t_l a0t_c : Nat) (R : Bool → Heap → Prop) (H0 : Heap) :
    evF Tryd.prog brackenref15_May.ann Tryd.f26 [.slice a0t_p a0t_l a0t_c] (fun v H' => xS (.one .bool) v fun r => R r H') H0 = brackenref15_May.W a0t_p a0t_l a0t_c R H0 := by kernel_rfl
theorem brackenref15_May.calls {a0t_p : Option Addr} {a0t_l a0t_c : Nat} {R : Bool → Heap → Prop} {H0 : Heap} (h : brackenref15_May.W a0t_p a0t_l a0t_c R H0) : brackenref15_May.C a0t_p a0t_l a0t_c H0 R :=
  (evF_sound progOk_ Tryd.func26 (by rw [brackenref15_May.eq]; exact h)).mono fun v H' h => by obtain ⟨x, hv, hk⟩ := xS_out h; exact ⟨x, hv, hk⟩

def brackenlaw16_Make.ann : Ann := { ord := fun i => bif Nat.beq i 21 then [1, 2, 3, 7, 8, 9, 0, 4, 5, 6, 10, 11, 12, 13, 14, 15, 16, 17, 1, 2, 3, 7, 8, 9, 6, 10, 11, 0, 4, 5, 12, 13, 14, 15, 16, 17] else [], loop := fun i => bif Nat.beq i 5 then some [(3, .one .slice), (5, .one .bool), (6, .one (.int .i64))] else bif Nat.beq i 17 then some [] else none, join := fun i => bif Nat.beq i 6 then some [(3, .one .slice), (5, .one .bool)] else bif Nat.beq i 7 then some [] else bif Nat.beq i 11 then some [(47, .one .bool)] else bif Nat.beq i 12 then some [(9, .one (.int .i64))] else bif Nat.beq i 15 then some [(10, .one (.int .i64))] else bif Nat.beq i 16 then some [(67, .one .bool)] else bif Nat.beq i 17 then some [(10, .one (.int .i64))] else bif Nat.beq i 19 then some [] else bif Nat.beq i 24 then some [] else bif Nat.beq i 32 then some [] else bif Nat.beq i 38 then some [(5, .one .bool)] else bif Nat.beq i 39 then some [(3, .one .slice), (5, .one .bool)] else bif Nat.beq i 41 then some [(3, .one .slice)] else none }
/-- bracken.brackenlaw16.Make -/
def brackenlaw16_Make.W (a0l_p : Option Addr) (a0l_l a0l_c : Nat) (R : Option Addr → Nat → Nat → Heap → Prop) (H0 : Heap) : Prop :=
  letV (hnew H0 #[.int .i64 1, .int .i64 0, .string (⟨#[]⟩ : ByteArray), .string (⟨#[]⟩ : ByteArray), .string (⟨#[]⟩ : ByteArray), .string (⟨#[]⟩ : ByteArray), .slice none 0 0] ty_api_Node) fun H1 : Heap =>
  letV (hnew H1 #[.slice none 0 0] ty_brackenref10_Scope) fun H2 : Heap => 
  JoinW (S := ((Option Addr × Nat × Nat) × Bool × Unit)) (fun J39 => 
  LoopW (S := ((Option Addr × Nat × Nat) × Bool × Int × Unit)) (fun L5 q5 H4 => (fun (t3_p : Option Addr) (t3_l t3_c : Nat) (root5 : Bool) (i6 : Int) => 
  JoinW (S := Unit) (fun J7 =>
  brW (decide (i6 < (a0l_l : Int))) (brW (decide (i6 < 30)) (J7 () H4) (J39 ((t3_p, t3_l, t3_c), root5, ()) H4)) (J39 ((t3_p, t3_l, t3_c), root5, ()) H4))
  (fun _ H5 => 
  JoinW (S := ((Option Addr × Nat × Nat) × Bool × Unit)) (fun J6 =>
  ∃ x29 : Addr, a0l_p = some x29 ∧ 0 ≤ i6 ∧ i6 < (a0l_l : Int) ∧
  ∃ x30 : Int, hcell H5 (x29.add i6.toNat) = some (.int .i64 x30) ∧
  letV (IntKind.u64.wrap x30) fun u7 : Int =>
  ∃ x36 : Addr, t3_p = some x36 ∧ 0 ≤ IntKind.i64.wrap ((t3_l : Int) - 1) ∧ IntKind.i64.wrap ((t3_l : Int) - 1) < (t3_l : Int) ∧
  ∃ x37_0 : Int, hcell H5 ((x36.add ((IntKind.i64.wrap ((t3_l : Int) - 1)).toNat * 7)).add 0) = some (.int .i64 x37_0) ∧
  ∃ x37_1 : Int, hcell H5 ((x36.add ((IntKind.i64.wrap ((t3_l : Int) - 1)).toNat * 7)).add 1) = some (.int .i64 x37_1) ∧
  ∃ x37_2 : ByteArray, hcell H5 ((x36.add ((IntKind.i64.wrap ((t3_l : Int) - 1)).toNat * 7)).add 2) = some (.string x37_2) ∧
  ∃ x37_3 : ByteArray, hcell H5 ((x36.add ((IntKind.i64.wrap ((t3_l : Int) - 1)).toNat * 7)).add 3) = some (.string x37_3) ∧
  ∃ x37_4 : ByteArray, hcell H5 ((x36.add ((IntKind.i64.wrap ((t3_l : Int) - 1)).toNat * 7)).add 4) = some (.string x37_4) ∧
  ∃ x37_5 : ByteArray, hcell H5 ((x36.add ((IntKind.i64.wrap ((t3_l : Int) - 1)).toNat * 7)).add 5) = some (.string x37_5) ∧
  ∃ (x37_6_p : Option Addr) (x37_6_l x37_6_c : Nat), hcell H5 ((x36.add ((IntKind.i64.wrap ((t3_l : Int) - 1)).toNat * 7)).add 6) = some (.slice x37_6_p x37_6_l x37_6_c) ∧
  letV (hnew H5 #[.int .i64 0, .int .i64 0, .string (⟨#[]⟩ : ByteArray), .string (⟨#[]⟩ : ByteArray), .string (⟨#[]⟩ : ByteArray), .string (⟨#[]⟩ : ByteArray), .slice none 0 0] ty_api_Node) fun H7 : Heap => (∃ u, hcell H7 ((⟨Array.size H5, 0, none⟩ : Addr).add 0) = some u) ∧ hfrozen H7 ((⟨Array.size H5, 0, none⟩ : Addr).add 0) = false ∧
  letV (hset H7 ((⟨Array.size H5, 0, none⟩ : Addr).add 0) (.int .i64 x37_0)) fun H9 : Heap => (∃ u, hcell H9 ((⟨Array.size H5, 0, none⟩ : Addr).add 1) = some u) ∧ hfrozen H9 ((⟨Array.size H5, 0, none⟩ : Addr).add 1) = false ∧
  letV (hset H9 ((⟨Array.size H5, 0, none⟩ : Addr).add 1) (.int .i64 x37_1)) fun H10 : Heap => (∃ u, hcell H10 ((⟨Array.size H5, 0, none⟩ : Addr).add 2) = some u) ∧ hfrozen H10 ((⟨Array.size H5, 0, none⟩ : Addr).add 2) = false ∧
  letV (hset H10 ((⟨Array.size H5, 0, none⟩ : Addr).add 2) (.string x37_2)) fun H11 : Heap => (∃ u, hcell H11 ((⟨Array.size H5, 0, none⟩ : Addr).add 3) = some u) ∧ hfrozen H11 ((⟨Array.size H5, 0, none⟩ : Addr).add 3) = false ∧
  letV (hset H11 ((⟨Array.size H5, 0, none⟩ : Addr).add 3) (.string x37_3)) fun H12 : Heap => (∃ u, hcell H12 ((⟨Array.size H5, 0, none⟩ : Addr).add 4) = some u) ∧ hfrozen H12 ((⟨Array.size H5, 0, none⟩ : Addr).add 4) = false ∧
  letV (hset H12 ((⟨Array.size H5, 0, none⟩ : Addr).add 4) (.string x37_4)) fun H13 : Heap => (∃ u, hcell H13 ((⟨Array.size H5, 0, none⟩ : Addr).add 5) = some u) ∧ hfrozen H13 ((⟨Array.size H5, 0, none⟩ : Addr).add 5) = false ∧
  letV (hset H13 ((⟨Array.size H5, 0, none⟩ : Addr).add 5) (.string x37_5)) fun H14 : Heap => (∃ u, hcell H14 ((⟨Array.size H5, 0, none⟩ : Addr).add 6) = some u) ∧ hfrozen H14 ((⟨Array.size H5, 0, none⟩ : Addr).add 6) = false ∧
  letV (hset H14 ((⟨Array.size H5, 0, none⟩ : Addr).add 6) (.slice x37_6_p x37_6_l x37_6_c)) fun H15 : Heap =>
  ∃ x39 : Int, hcell H15 ((⟨Array.size H5, 0, none⟩ : Addr).add 1) = some (.int .i64 x39) ∧ 
  JoinW (S := (Int × Unit)) (fun J12 => 
  JoinW (S := (Bool × Unit)) (fun J11 =>
  ∃ x41 : Int, hcell H15 ((⟨Array.size H5, 0, none⟩ : Addr).add 0) = some (.int .i64 x41) ∧
  brW (decide (x41 = 2)) (J11 (true, ()) H15) (∃ x45 : Int, hcell H15 ((⟨Array.size H5, 0, none⟩ : Addr).add 0) = some (.int .i64 x45) ∧ J11 (decide (x45 = 1), ()) H15))
  (fun s11 H17 => (fun (x47 : Bool) =>
  brW x47 (letV (IntKind.i64.wrap (x39 + 1)) fun top9 : Int => J12 ((top9 : Int), ()) H17) (J12 ((x39 : Int), ()) H17)) s11.1))
  (fun s12 H16 => (fun (top9 : Int) => (64 : Int) ≠ 0 ∧ (3 : Int) ≠ 0 ∧
  letV (IntKind.i64.wrap (top9 - (Int.tmod (IntKind.i64.wrap (IntKind.u64.wrap (Int.tdiv u7 64))) 3))) fun d10 : Int => 
  JoinW (S := (Int × Unit)) (fun J15 =>
  brW (decide (d10 < 1)) (J15 ((1 : Int), ()) H16) (J15 ((d10 : Int), ()) H16))
  (fun s15 H18 => (fun (d10 : Int) => 
  JoinW (S := (Int × Unit)) (fun J17 => 
  JoinW (S := (Bool × Unit)) (fun J16 =>
  brW root5 (brW (decide (d10 < 2)) ((8 : Int) ≠ 0 ∧ J16 (decide ((Int.tmod u7 8) < 6), ()) H18) (J16 (false, ()) H18)) (J16 (false, ()) H18))
  (fun s16 H20 => (fun (x67 : Bool) =>
  brW x67 (letV (min 2 top9) fun d10 : Int => J17 ((d10 : Int), ()) H20) (J17 ((d10 : Int), ()) H20)) s16.1))
  (fun s17 H19 => (fun (d10 : Int) => 
  JoinW (S := Unit) (fun J19 => 
  LoopW (S := Unit) (fun L17 _ H22 =>
  ∃ x71 : Addr, some ⟨Array.size H1, 0, none⟩ = some x71 ∧
  ∃ (x73_p : Option Addr) (x73_l x73_c : Nat), hcell H22 (x71.add 0) = some (.slice x73_p x73_l x73_c) ∧
  brW (decide (d10 ≤ (x73_l : Int))) (brackenref10_Scope_Pop.C (some ⟨Array.size H1, 0, none⟩) H22 fun x78 H23 => L17 () H23) (J19 () H22)) () H19)
  (fun _ H21 =>
  letV (hnew H21 #[.int .i64 0, .int .i64 0, .string (⟨#[]⟩ : ByteArray), .string (⟨#[]⟩ : ByteArray), .string (⟨#[]⟩ : ByteArray), .string (⟨#[]⟩ : ByteArray), .slice none 0 0] ty_api_Node) fun H24 : Heap => (∃ u, hcell H24 ((⟨Array.size H21, 0, none⟩ : Addr).add 0) = some u) ∧ hfrozen H24 ((⟨Array.size H21, 0, none⟩ : Addr).add 0) = false ∧
  letV (hset H24 ((⟨Array.size H21, 0, none⟩ : Addr).add 0) (.int .i64 0)) fun H26 : Heap => (∃ u, hcell H26 ((⟨Array.size H21, 0, none⟩ : Addr).add 1) = some u) ∧ hfrozen H26 ((⟨Array.size H21, 0, none⟩ : Addr).add 1) = false ∧
  letV (hset H26 ((⟨Array.size H21, 0, none⟩ : Addr).add 1) (.int .i64 d10)) fun H27 : Heap => (∃ u, hcell H27 ((⟨Array.size H21, 0, none⟩ : Addr).add 2) = some u) ∧ hfrozen H27 ((⟨Array.size H21, 0, none⟩ : Addr).add 2) = false ∧
  letV (hset H27 ((⟨Array.size H21, 0, none⟩ : Addr).add 2) (.string (⟨#[]⟩ : ByteArray))) fun H28 : Heap => (∃ u, hcell H28 ((⟨Array.size H21, 0, none⟩ : Addr).add 3) = some u) ∧ hfrozen H28 ((⟨Array.size H21, 0, none⟩ : Addr).add 3) = false ∧
  letV (hset H28 ((⟨Array.size H21, 0, none⟩ : Addr).add 3) (.string (⟨#[]⟩ : ByteArray))) fun H29 : Heap => (∃ u, hcell H29 ((⟨Array.size H21, 0, none⟩ : Addr).add 4) = some u) ∧ hfrozen H29 ((⟨Array.size H21, 0, none⟩ : Addr).add 4) = false ∧
  letV (hset H29 ((⟨Array.size H21, 0, none⟩ : Addr).add 4) (.string (⟨#[]⟩ : ByteArray))) fun H30 : Heap => (∃ u, hcell H30 ((⟨Array.size H21, 0, none⟩ : Addr).add 5) = some u) ∧ hfrozen H30 ((⟨Array.size H21, 0, none⟩ : Addr).add 5) = false ∧
  letV (hset H30 ((⟨Array.size H21, 0, none⟩ : Addr).add 5) (.string (⟨#[]⟩ : ByteArray))) fun H31 : Heap => (∃ u, hcell H31 ((⟨Array.size H21, 0, none⟩ : Addr).add 6) = some u) ∧ hfrozen H31 ((⟨Array.size H21, 0, none⟩ : Addr).add 6) = false ∧
  letV (hset H31 ((⟨Array.size H21, 0, none⟩ : Addr).add 6) (.slice none 0 0)) fun H32 : Heap => 
  JoinW (S := (Bool × Unit)) (fun J38 => (8 : Int) ≠ 0 ∧
  letV (Int.tmod u7 8) fun k12 : Int =>
  brW (decide (k12 < 4)) (
  JoinW (S := Unit) (fun J24 =>
  brW (decide (d10 = 1)) (brW root5 (J6 ((t3_p, t3_l, t3_c), root5, ()) H32) (J24 () H32)) (J24 () H32))
  (fun _ H34 =>
  letV (hnew H34 #[.string (⟨#[97]⟩ : ByteArray), .string (⟨#[98]⟩ : ByteArray), .string (⟨#[99]⟩ : ByteArray), .string (⟨#[97]⟩ : ByteArray)] ty_string) fun H35 : Heap => (8 : Int) ≠ 0 ∧ (4 : Int) ≠ 0 ∧
  ∃ x110 : Addr, some ⟨Array.size H34, 0, none⟩ = some x110 ∧ 0 ≤ Int.tmod (IntKind.u64.wrap (Int.tdiv u7 8)) 4 ∧ Int.tmod (IntKind.u64.wrap (Int.tdiv u7 8)) 4 < (4 : Int) ∧
  ∃ x111 : ByteArray, hcell H35 (x110.add ((Int.tmod (IntKind.u64.wrap (Int.tdiv u7 8)) 4).toNat)) = some (.string x111) ∧ (∃ u, hcell H35 ((⟨Array.size H21, 0, none⟩ : Addr).add 0) = some u) ∧ hfrozen H35 ((⟨Array.size H21, 0, none⟩ : Addr).add 0) = false ∧
  letV (hset H35 ((⟨Array.size H21, 0, none⟩ : Addr).add 0) (.int .i64 2)) fun H36 : Heap => (∃ u, hcell H36 ((⟨Array.size H21, 0, none⟩ : Addr).add 3) = some u) ∧ hfrozen H36 ((⟨Array.size H21, 0, none⟩ : Addr).add 3) = false ∧
  letV (hset H36 ((⟨Array.size H21, 0, none⟩ : Addr).add 3) (.string x111)) fun H37 : Heap => (32 : Int) ≠ 0 ∧ brackenlaw16_attrs.C (IntKind.u64.wrap (Int.tdiv u7 32)) H37 fun x116_p x116_l x116_c H38 => (∃ u, hcell H38 ((⟨Array.size H21, 0, none⟩ : Addr).add 6) = some u) ∧ hfrozen H38 ((⟨Array.size H21, 0, none⟩ : Addr).add 6) = false ∧
  letV (hset H38 ((⟨Array.size H21, 0, none⟩ : Addr).add 6) (.slice x116_p x116_l x116_c)) fun H39 : Heap =>
  letV (hnew H39 #[.string (⟨#[]⟩ : ByteArray), .string (⟨#[]⟩ : ByteArray), .string (⟨#[112]⟩ : ByteArray), .string (⟨#[113]⟩ : ByteArray)] ty_string) fun H40 : Heap => (256 : Int) ≠ 0 ∧ (4 : Int) ≠ 0 ∧
  ∃ x122 : Addr, some ⟨Array.size H39, 0, none⟩ = some x122 ∧ 0 ≤ Int.tmod (IntKind.u64.wrap (Int.tdiv u7 256)) 4 ∧ Int.tmod (IntKind.u64.wrap (Int.tdiv u7 256)) 4 < (4 : Int) ∧
  ∃ x123 : ByteArray, hcell H40 (x122.add ((Int.tmod (IntKind.u64.wrap (Int.tdiv u7 256)) 4).toNat)) = some (.string x123) ∧ (∃ u, hcell H40 ((⟨Array.size H21, 0, none⟩ : Addr).add 2) = some u) ∧ hfrozen H40 ((⟨Array.size H21, 0, none⟩ : Addr).add 2) = false ∧
  letV (hset H40 ((⟨Array.size H21, 0, none⟩ : Addr).add 2) (.string x123)) fun H41 : Heap =>
  ∃ (x127_p : Option Addr) (x127_l x127_c : Nat), hcell H41 ((⟨Array.size H21, 0, none⟩ : Addr).add 6) = some (.slice x127_p x127_l x127_c) ∧ brackenref10_Scope_Push.C (some ⟨Array.size H1, 0, none⟩) (x127_p) x127_l x127_c H41 fun x128 H42 =>
  brW (decide (x128 ≠ 0)) (J6 ((t3_p, t3_l, t3_c), root5, ()) H42) (
  JoinW (S := Unit) (fun J32 =>
  brackenref15_Names.C (some ⟨Array.size H1, 0, none⟩) (some ⟨Array.size H21, 0, none⟩) H42 fun x131 H44 =>
  brW (!x131) (brackenref10_Scope_Pop.C (some ⟨Array.size H1, 0, none⟩) H44 fun x134 H45 => (∃ u, hcell H45 ((⟨Array.size H21, 0, none⟩ : Addr).add 2) = some u) ∧ hfrozen H45 ((⟨Array.size H21, 0, none⟩ : Addr).add 2) = false ∧
  letV (hset H45 ((⟨Array.size H21, 0, none⟩ : Addr).add 2) (.string (⟨#[]⟩ : ByteArray))) fun H46 : Heap => (∃ u, hcell H46 ((⟨Array.size H21, 0, none⟩ : Addr).add 6) = some u) ∧ hfrozen H46 ((⟨Array.size H21, 0, none⟩ : Addr).add 6) = false ∧
  letV (hset H46 ((⟨Array.size H21, 0, none⟩ : Addr).add 6) (.slice none 0 0)) fun H47 : Heap =>
  brackenref10_Scope_Push.C (some ⟨Array.size H1, 0, none⟩) (none) 0 0 H47 fun x138 H48 =>
  brW (decide (x138 ≠ 0)) (J6 ((t3_p, t3_l, t3_c), root5, ()) H48) (brackenref15_Names.C (some ⟨Array.size H1, 0, none⟩) (some ⟨Array.size H21, 0, none⟩) H48 fun x142 H49 =>
  brW (!x142) (J6 ((t3_p, t3_l, t3_c), root5, ()) H49) (J32 () H49))) (J32 () H44))
  (fun _ H43 =>
  brW root5 (J38 (true, ()) H43) (J38 (decide (d10 = 1), ()) H43))))) (brW (decide (k12 < 6)) (letV (hnew H32 #[.string (⟨#[120]⟩ : ByteArray), .string (⟨#[32, 121, 10]⟩ : ByteArray), .string (⟨#[60, 38, 62, 34]⟩ : ByteArray), .string (⟨#[13, 9]⟩ : ByteArray), .string (⟨#[195, 169, 93, 93, 62]⟩ : ByteArray), .string (⟨#[116, 101, 120, 116]⟩ : ByteArray)] ty_string) fun H50 : Heap => (8 : Int) ≠ 0 ∧ (6 : Int) ≠ 0 ∧
  ∃ x157 : Addr, some ⟨Array.size H32, 0, none⟩ = some x157 ∧ 0 ≤ Int.tmod (IntKind.u64.wrap (Int.tdiv u7 8)) 6 ∧ Int.tmod (IntKind.u64.wrap (Int.tdiv u7 8)) 6 < (6 : Int) ∧
  ∃ x158 : ByteArray, hcell H50 (x157.add ((Int.tmod (IntKind.u64.wrap (Int.tdiv u7 8)) 6).toNat)) = some (.string x158) ∧ (∃ u, hcell H50 ((⟨Array.size H21, 0, none⟩ : Addr).add 0) = some u) ∧ hfrozen H50 ((⟨Array.size H21, 0, none⟩ : Addr).add 0) = false ∧
  letV (hset H50 ((⟨Array.size H21, 0, none⟩ : Addr).add 0) (.int .i64 3)) fun H51 : Heap => (∃ u, hcell H51 ((⟨Array.size H21, 0, none⟩ : Addr).add 5) = some u) ∧ hfrozen H51 ((⟨Array.size H21, 0, none⟩ : Addr).add 5) = false ∧
  letV (hset H51 ((⟨Array.size H21, 0, none⟩ : Addr).add 5) (.string x158)) fun H52 : Heap =>
  brW (decide (d10 = 1)) (J6 ((t3_p, t3_l, t3_c), root5, ()) H52) (∃ x165 : Int, hcell H52 ((⟨Array.size H5, 0, none⟩ : Addr).add 0) = some (.int .i64 x165) ∧
  brW (decide (x165 = 3)) (∃ x169 : Int, hcell H52 ((⟨Array.size H5, 0, none⟩ : Addr).add 1) = some (.int .i64 x169) ∧
  brW (decide (x169 = d10)) (J6 ((t3_p, t3_l, t3_c), root5, ()) H52) (J38 (root5, ()) H52)) (J38 (root5, ()) H52))) (brW (decide (k12 = 6)) (letV (hnew H32 #[.string (⟨#[]⟩ : ByteArray), .string (⟨#[99]⟩ : ByteArray), .string (⟨#[32, 45, 32]⟩ : ByteArray), .string (⟨#[60, 38, 62]⟩ : ByteArray)] ty_string) fun H53 : Heap => (8 : Int) ≠ 0 ∧ (4 : Int) ≠ 0 ∧
  ∃ x181 : Addr, some ⟨Array.size H32, 0, none⟩ = some x181 ∧ 0 ≤ Int.tmod (IntKind.u64.wrap (Int.tdiv u7 8)) 4 ∧ Int.tmod (IntKind.u64.wrap (Int.tdiv u7 8)) 4 < (4 : Int) ∧
  ∃ x182 : ByteArray, hcell H53 (x181.add ((Int.tmod (IntKind.u64.wrap (Int.tdiv u7 8)) 4).toNat)) = some (.string x182) ∧ (∃ u, hcell H53 ((⟨Array.size H21, 0, none⟩ : Addr).add 0) = some u) ∧ hfrozen H53 ((⟨Array.size H21, 0, none⟩ : Addr).add 0) = false ∧
  letV (hset H53 ((⟨Array.size H21, 0, none⟩ : Addr).add 0) (.int .i64 4)) fun H54 : Heap => (∃ u, hcell H54 ((⟨Array.size H21, 0, none⟩ : Addr).add 5) = some u) ∧ hfrozen H54 ((⟨Array.size H21, 0, none⟩ : Addr).add 5) = false ∧
  letV (hset H54 ((⟨Array.size H21, 0, none⟩ : Addr).add 5) (.string x182)) fun H55 : Heap => J38 (root5, ()) H55) ((8 : Int) ≠ 0 ∧ (2 : Int) ≠ 0 ∧ (16 : Int) ≠ 0 ∧ (3 : Int) ≠ 0 ∧ (letV (hnew H32 #[.string (⟨#[112, 105]⟩ : ByteArray), .string (⟨#[113]⟩ : ByteArray)] ty_string) fun H56 : Heap =>
  ∃ x87 : Addr, some ⟨Array.size H32, 0, none⟩ = some x87 ∧ 0 ≤ Int.tmod (IntKind.u64.wrap (Int.tdiv u7 8)) 2 ∧ Int.tmod (IntKind.u64.wrap (Int.tdiv u7 8)) 2 < (2 : Int) ∧
  ∃ x88 : ByteArray, hcell H56 (x87.add ((Int.tmod (IntKind.u64.wrap (Int.tdiv u7 8)) 2).toNat)) = some (.string x88) ∧
  letV (hnew H56 #[.string (⟨#[]⟩ : ByteArray), .string (⟨#[100]⟩ : ByteArray), .string (⟨#[97, 32, 63, 32, 62]⟩ : ByteArray)] ty_string) fun H57 : Heap => (∃ x88s : ByteArray, hcell H57 (x87.add ((Int.tmod (IntKind.u64.wrap (Int.tdiv u7 8)) 2).toNat)) = some (.string x88s) ∧ (.string x88s : Value) = .string x88) ∧
  ∃ x93 : Addr, some ⟨Array.size H56, 0, none⟩ = some x93 ∧ 0 ≤ Int.tmod (IntKind.u64.wrap (Int.tdiv u7 16)) 3 ∧ Int.tmod (IntKind.u64.wrap (Int.tdiv u7 16)) 3 < (3 : Int) ∧
  ∃ x94 : ByteArray, hcell H57 (x93.add ((Int.tmod (IntKind.u64.wrap (Int.tdiv u7 16)) 3).toNat)) = some (.string x94) ∧ (∃ u, hcell H57 ((⟨Array.size H21, 0, none⟩ : Addr).add 0) = some u) ∧ hfrozen H57 ((⟨Array.size H21, 0, none⟩ : Addr).add 0) = false ∧
  letV (hset H57 ((⟨Array.size H21, 0, none⟩ : Addr).add 0) (.int .i64 5)) fun H58 : Heap => (∃ u, hcell H58 ((⟨Array.size H21, 0, none⟩ : Addr).add 3) = some u) ∧ hfrozen H58 ((⟨Array.size H21, 0, none⟩ : Addr).add 3) = false ∧
  letV (hset H58 ((⟨Array.size H21, 0, none⟩ : Addr).add 3) (.string x88)) fun H59 : Heap => (∃ u, hcell H59 ((⟨Array.size H21, 0, none⟩ : Addr).add 5) = some u) ∧ hfrozen H59 ((⟨Array.size H21, 0, none⟩ : Addr).add 5) = false ∧
  letV (hset H59 ((⟨Array.size H21, 0, none⟩ : Addr).add 5) (.string x94)) fun H60 : Heap => J38 (root5, ()) H60) ∧ (letV (hnew H32 #[.string (⟨#[]⟩ : ByteArray), .string (⟨#[100]⟩ : ByteArray), .string (⟨#[97, 32, 63, 32, 62]⟩ : ByteArray)] ty_string) fun H61 : Heap =>
  ∃ x93 : Addr, some ⟨Array.size H32, 0, none⟩ = some x93 ∧ 0 ≤ Int.tmod (IntKind.u64.wrap (Int.tdiv u7 16)) 3 ∧ Int.tmod (IntKind.u64.wrap (Int.tdiv u7 16)) 3 < (3 : Int) ∧
  ∃ x94 : ByteArray, hcell H61 (x93.add ((Int.tmod (IntKind.u64.wrap (Int.tdiv u7 16)) 3).toNat)) = some (.string x94) ∧
  letV (hnew H61 #[.string (⟨#[112, 105]⟩ : ByteArray), .string (⟨#[113]⟩ : ByteArray)] ty_string) fun H62 : Heap => (∃ x94s : ByteArray, hcell H62 (x93.add ((Int.tmod (IntKind.u64.wrap (Int.tdiv u7 16)) 3).toNat)) = some (.string x94s) ∧ (.string x94s : Value) = .string x94) ∧
  ∃ x87 : Addr, some ⟨Array.size H61, 0, none⟩ = some x87 ∧ 0 ≤ Int.tmod (IntKind.u64.wrap (Int.tdiv u7 8)) 2 ∧ Int.tmod (IntKind.u64.wrap (Int.tdiv u7 8)) 2 < (2 : Int) ∧
  ∃ x88 : ByteArray, hcell H62 (x87.add ((Int.tmod (IntKind.u64.wrap (Int.tdiv u7 8)) 2).toNat)) = some (.string x88) ∧ (∃ u, hcell H62 ((⟨Array.size H21, 0, none⟩ : Addr).add 0) = some u) ∧ hfrozen H62 ((⟨Array.size H21, 0, none⟩ : Addr).add 0) = false ∧
  letV (hset H62 ((⟨Array.size H21, 0, none⟩ : Addr).add 0) (.int .i64 5)) fun H63 : Heap => (∃ u, hcell H63 ((⟨Array.size H21, 0, none⟩ : Addr).add 3) = some u) ∧ hfrozen H63 ((⟨Array.size H21, 0, none⟩ : Addr).add 3) = false ∧
  letV (hset H63 ((⟨Array.size H21, 0, none⟩ : Addr).add 3) (.string x88)) fun H64 : Heap => (∃ u, hcell H64 ((⟨Array.size H21, 0, none⟩ : Addr).add 5) = some u) ∧ hfrozen H64 ((⟨Array.size H21, 0, none⟩ : Addr).add 5) = false ∧
  letV (hset H64 ((⟨Array.size H21, 0, none⟩ : Addr).add 5) (.string x94)) fun H65 : Heap => J38 (root5, ()) H65)))))
  (fun s38 H33 => (fun (root5 : Bool) =>
  ∃ x186_0 : Int, hcell H33 ((⟨Array.size H21, 0, none⟩ : Addr).add 0) = some (.int .i64 x186_0) ∧
  ∃ x186_1 : Int, hcell H33 ((⟨Array.size H21, 0, none⟩ : Addr).add 1) = some (.int .i64 x186_1) ∧
  ∃ x186_2 : ByteArray, hcell H33 ((⟨Array.size H21, 0, none⟩ : Addr).add 2) = some (.string x186_2) ∧
  ∃ x186_3 : ByteArray, hcell H33 ((⟨Array.size H21, 0, none⟩ : Addr).add 3) = some (.string x186_3) ∧
  ∃ x186_4 : ByteArray, hcell H33 ((⟨Array.size H21, 0, none⟩ : Addr).add 4) = some (.string x186_4) ∧
  ∃ x186_5 : ByteArray, hcell H33 ((⟨Array.size H21, 0, none⟩ : Addr).add 5) = some (.string x186_5) ∧
  ∃ (x186_6_p : Option Addr) (x186_6_l x186_6_c : Nat), hcell H33 ((⟨Array.size H21, 0, none⟩ : Addr).add 6) = some (.slice x186_6_p x186_6_l x186_6_c) ∧
  letV (hnew H33 #[.int .i64 x186_0, .int .i64 x186_1, .string x186_2, .string x186_3, .string x186_4, .string x186_5, .slice x186_6_p x186_6_l x186_6_c] ty_api_Node) fun H66 : Heap => appW ty_api_Node 7 104 (.agg #[.int .i64 0, .int .i64 0, .string (⟨#[]⟩ : ByteArray), .string (⟨#[]⟩ : ByteArray), .string (⟨#[]⟩ : ByteArray), .string (⟨#[]⟩ : ByteArray), .slice none 0 0]) t3_p t3_l t3_c (.slice (some ⟨Array.size H33, 0, none⟩) 1 1) H66 fun x188_p x188_l x188_c H67 => J6 ((x188_p, x188_l, x188_c), root5, ()) H67) s38.1))) s17.1)) s15.1)) s12.1))
  (fun s6 H6 => (fun (t3_p : Option Addr) (t3_l t3_c : Nat) (root5 : Bool) =>
  letV (IntKind.i64.wrap (i6 + 1)) fun i6 : Int => L5 ((t3_p, t3_l, t3_c), root5, (i6 : Int), ()) H6) s6.1.1 s6.1.2.1 s6.1.2.2 s6.2.1))) q5.1.1 q5.1.2.1 q5.1.2.2 q5.2.1 q5.2.2.1) ((some ⟨Array.size H0, 0, none⟩, 1, 1), false, (0 : Int), ()) H2)
  (fun s39 H3 => (fun (t3_p : Option Addr) (t3_l t3_c : Nat) (root5 : Bool) => 
  JoinW (S := ((Option Addr × Nat × Nat) × Unit)) (fun J41 =>
  brW (!root5) (letV (hnew H3 #[.int .i64 2, .int .i64 1, .string (⟨#[]⟩ : ByteArray), .string (⟨#[114]⟩ : ByteArray), .string (⟨#[]⟩ : ByteArray), .string (⟨#[]⟩ : ByteArray), .slice none 0 0] ty_api_Node) fun H69 : Heap => appW ty_api_Node 7 104 (.agg #[.int .i64 0, .int .i64 0, .string (⟨#[]⟩ : ByteArray), .string (⟨#[]⟩ : ByteArray), .string (⟨#[]⟩ : ByteArray), .string (⟨#[]⟩ : ByteArray), .slice none 0 0]) t3_p t3_l t3_c (.slice (some ⟨Array.size H3, 0, none⟩) 1 1) H69 fun x194_p x194_l x194_c H70 => J41 ((x194_p, x194_l, x194_c), ()) H70) (J41 ((t3_p, t3_l, t3_c), ()) H3))
  (fun s41 H68 => (fun (t3_p : Option Addr) (t3_l t3_c : Nat) =>
  brackenref15_May.C (t3_p) t3_l t3_c H68 fun x196 H71 =>
  brW (!x196) (letV (hnew H71 #[.int .i64 1, .int .i64 0, .string (⟨#[]⟩ : ByteArray), .string (⟨#[]⟩ : ByteArray), .string (⟨#[]⟩ : ByteArray), .string (⟨#[]⟩ : ByteArray), .slice none 0 0, .int .i64 2, .int .i64 1, .string (⟨#[]⟩ : ByteArray), .string (⟨#[114]⟩ : ByteArray), .string (⟨#[]⟩ : ByteArray), .string (⟨#[]⟩ : ByteArray), .slice none 0 0] ty_api_Node) fun H72 : Heap => R (some ⟨Array.size H71, 0, none⟩) 2 2 H72) (R (t3_p) t3_l t3_c H71)) s41.1.1 s41.1.2.1 s41.1.2.2)) s39.1.1 s39.1.2.1 s39.1.2.2 s39.2.1)
theorem brackenlaw16_Make.eq (a0l_p : Option Addr) (a0l_l a0l_c : Nat) (R : Option Addr → Nat → Nat → Heap → Prop) (H0 : Heap) :
    evF Tryd.prog brackenlaw16_Make.ann Tryd.f15 [.slice a0l_p a0l_l a0l_c] (fun v H' => xS (.one .slice) v fun r => R r.1 r.2.1 r.2.2 H') H0 = brackenlaw16_Make.W a0l_p a0l_l a0l_c R H0 := by kernel_rfl
theorem brackenlaw16_Make.calls {a0l_p : Option Addr} {a0l_l a0l_c : Nat} {R : Option Addr → Nat → Nat → Heap → Prop} {H0 : Heap} (h : brackenlaw16_Make.W a0l_p a0l_l a0l_c R H0) : brackenlaw16_Make.C a0l_p a0l_l a0l_c H0 R :=
  (evF_sound progOk_ Tryd.func15 (by rw [brackenlaw16_Make.eq]; exact h)).mono fun v H' h => by obtain ⟨x, hv, hk⟩ := xS_out h; exact ⟨x.1, x.2.1, x.2.2, hv, hk⟩

def brackenlaw27_ReportLines.ann : Ann := { ord := fun i => bif Nat.beq i 13 then [0, 1, 2, 3, 4, 5, 6, 7, 8, 9, 10, 11, 12, 13, 14, 15, 16, 17, 18, 19] else [], loop := fun i => bif Nat.beq i 5 then some [(5, .one (.int .i64)), (6, .one (.int .i64)), (7, .one (.int .i64))] else bif Nat.beq i 11 then some [(8, .one (.int .i64))] else none, join := fun i => bif Nat.beq i 6 then some [(5, .one (.int .i64)), (6, .one (.int .i64))] else bif Nat.beq i 12 then some [] else bif Nat.beq i 13 then some [(8, .one (.int .i64))] else bif Nat.beq i 14 then some [(62, .one .bool)] else bif Nat.beq i 15 then some [] else bif Nat.beq i 16 then some [(5, .one (.int .i64))] else none }
/-- bracken.brackenlaw27.ReportLines -/
def brackenlaw27_ReportLines.W (a0l_p : Option Addr) (a0l_l a0l_c : Nat) (R : Bool → Heap → Prop) (H0 : Heap) : Prop :=
  brackenlaw16_Make.C (a0l_p) a0l_l a0l_c H0 fun x11_p x11_l x11_c H1 =>
  report_Tree.C (x11_p) x11_l x11_c H1 fun x13 H2 => 
  JoinW (S := (Int × Unit)) (fun J16 => 
  LoopW (S := (Int × Int × Int × Unit)) (fun L5 q5 H4 => (fun (k5 : Int) (from6 : Int) (i7 : Int) =>
  brW (decide (i7 < (x13.size : Int))) (
  JoinW (S := (Int × Int × Unit)) (fun J6 => 0 ≤ i7 ∧ i7 < (x13.size : Int) ∧
  brW (decide ((bt x13 i7) ≠ 10)) (J6 ((k5 : Int), (from6 : Int), ()) H4) (brW (decide ((x11_l : Int) ≤ k5)) (R false H4) (
  JoinW (S := (Int × Unit)) (fun J13 => 
  LoopW (S := (Int × Unit)) (fun L11 q11 H7 => (fun (in8 : Int) => 
  JoinW (S := Unit) (fun J12 =>
  brW (decide ((IntKind.i64.wrap (from6 + in8)) < i7)) (0 ≤ IntKind.i64.wrap (from6 + in8) ∧ IntKind.i64.wrap (from6 + in8) < (x13.size : Int) ∧
  brW (decide ((bt x13 (IntKind.i64.wrap (from6 + in8))) = 32)) (J12 () H7) (J13 ((in8 : Int), ()) H7)) (J13 ((in8 : Int), ()) H7))
  (fun _ H8 =>
  letV (IntKind.i64.wrap (in8 + 1)) fun in8 : Int => L11 ((in8 : Int), ()) H8)) q11.1) ((0 : Int), ()) H4)
  (fun s13 H6 => (fun (in8 : Int) => 
  JoinW (S := Unit) (fun J15 => 
  JoinW (S := (Bool × Unit)) (fun J14 =>
  ∃ x46 : Addr, x11_p = some x46 ∧ 0 ≤ k5 ∧ k5 < (x11_l : Int) ∧
  ∃ x48 : Int, hcell H6 ((x46.add (k5.toNat * 7)).add 1) = some (.int .i64 x48) ∧
  brW (decide (in8 ≠ (IntKind.i64.wrap (2 * x48)))) (J14 (true, ()) H6) (0 ≤ i7 ∧ i7 ≤ (x13.size : Int) ∧ 0 ≤ from6 ∧ from6 ≤ (i7.toNat : Int) ∧
  ∃ x58 : Addr, x11_p = some x58 ∧ 0 ≤ k5 ∧ k5 < (x11_l : Int) ∧
  ∃ x59_0 : Int, hcell H6 ((x58.add (k5.toNat * 7)).add 0) = some (.int .i64 x59_0) ∧
  ∃ x59_1 : Int, hcell H6 ((x58.add (k5.toNat * 7)).add 1) = some (.int .i64 x59_1) ∧
  ∃ x59_2 : ByteArray, hcell H6 ((x58.add (k5.toNat * 7)).add 2) = some (.string x59_2) ∧
  ∃ x59_3 : ByteArray, hcell H6 ((x58.add (k5.toNat * 7)).add 3) = some (.string x59_3) ∧
  ∃ x59_4 : ByteArray, hcell H6 ((x58.add (k5.toNat * 7)).add 4) = some (.string x59_4) ∧
  ∃ x59_5 : ByteArray, hcell H6 ((x58.add (k5.toNat * 7)).add 5) = some (.string x59_5) ∧
  ∃ (x59_6_p : Option Addr) (x59_6_l x59_6_c : Nat), hcell H6 ((x58.add (k5.toNat * 7)).add 6) = some (.slice x59_6_p x59_6_l x59_6_c) ∧ report_Line.C (x59_0) (x59_1) x59_2 x59_3 x59_4 x59_5 (x59_6_p) x59_6_l x59_6_c H6 fun x60 H11 => J14 (decide (x13.extract from6.toNat i7.toNat ≠ x60), ()) H11))
  (fun s14 H10 => (fun (x62 : Bool) =>
  brW x62 (R false H10) (J15 () H10)) s14.1))
  (fun _ H9 =>
  letV (IntKind.i64.wrap (k5 + 1)) fun k5b : Int =>
  letV (IntKind.i64.wrap (i7 + 1)) fun from6 : Int => J6 ((k5b : Int), (from6 : Int), ()) H9)) s13.1))))
  (fun s6 H5 => (fun (k5 : Int) (from6 : Int) =>
  letV (IntKind.i64.wrap (i7 + 1)) fun i7b : Int => L5 ((k5 : Int), (from6 : Int), (i7b : Int), ()) H5) s6.1 s6.2.1)) (J16 ((k5 : Int), ()) H4)) q5.1 q5.2.1 q5.2.2.1) ((0 : Int), (0 : Int), (0 : Int), ()) H2)
  (fun s16 H3 => (fun (k5 : Int) =>
  report_Counts.C (x11_p) x11_l x11_c H3 fun x68_0 x68_1 x68_2 x68_3 x68_4 x68_5 H12 =>
  letV (hnew H12 #[.int .i64 0, .int .i64 0, .int .i64 0, .int .i64 0, .int .i64 0, .int .i64 0] ty_6_int) fun H13 : Heap => (∃ u, hcell H13 ((⟨Array.size H12, 0, none⟩ : Addr).add 0) = some u) ∧ hfrozen H13 ((⟨Array.size H12, 0, none⟩ : Addr).add 0) = false ∧
  letV (hset H13 ((⟨Array.size H12, 0, none⟩ : Addr).add 0) (.int .i64 x68_0)) fun H15 : Heap => (∃ u, hcell H15 ((⟨Array.size H12, 0, none⟩ : Addr).add 1) = some u) ∧ hfrozen H15 ((⟨Array.size H12, 0, none⟩ : Addr).add 1) = false ∧
  letV (hset H15 ((⟨Array.size H12, 0, none⟩ : Addr).add 1) (.int .i64 x68_1)) fun H16 : Heap => (∃ u, hcell H16 ((⟨Array.size H12, 0, none⟩ : Addr).add 2) = some u) ∧ hfrozen H16 ((⟨Array.size H12, 0, none⟩ : Addr).add 2) = false ∧
  letV (hset H16 ((⟨Array.size H12, 0, none⟩ : Addr).add 2) (.int .i64 x68_2)) fun H17 : Heap => (∃ u, hcell H17 ((⟨Array.size H12, 0, none⟩ : Addr).add 3) = some u) ∧ hfrozen H17 ((⟨Array.size H12, 0, none⟩ : Addr).add 3) = false ∧
  letV (hset H17 ((⟨Array.size H12, 0, none⟩ : Addr).add 3) (.int .i64 x68_3)) fun H18 : Heap => (∃ u, hcell H18 ((⟨Array.size H12, 0, none⟩ : Addr).add 4) = some u) ∧ hfrozen H18 ((⟨Array.size H12, 0, none⟩ : Addr).add 4) = false ∧
  letV (hset H18 ((⟨Array.size H12, 0, none⟩ : Addr).add 4) (.int .i64 x68_4)) fun H19 : Heap => (∃ u, hcell H19 ((⟨Array.size H12, 0, none⟩ : Addr).add 5) = some u) ∧ hfrozen H19 ((⟨Array.size H12, 0, none⟩ : Addr).add 5) = false ∧
  letV (hset H19 ((⟨Array.size H12, 0, none⟩ : Addr).add 5) (.int .i64 x68_5)) fun H20 : Heap =>
  brackenlaw27_told.C  H20 fun x69 H21 =>
  brW x69 (brW (decide (k5 = (x11_l : Int))) (0 ≤ (0 : Int) ∧ (0 : Int) < ((6 : Nat) : Int) ∧
  ∃ x78 : Int, hcell H21 ((⟨Array.size H12, 0, none⟩ : Addr).add (mulSize (0 : Int).toNat 1)) = some (.int .i64 x78) ∧
  brW (decide (x78 = 0)) (0 ≤ (1 : Int) ∧ (1 : Int) < ((6 : Nat) : Int) ∧
  ∃ x83 : Int, hcell H21 ((⟨Array.size H12, 0, none⟩ : Addr).add (mulSize (1 : Int).toNat 1)) = some (.int .i64 x83) ∧
  brW (decide (x83 = 1)) (0 ≤ (1 : Int) ∧ (1 : Int) < ((6 : Nat) : Int) ∧
  ∃ x88 : Int, hcell H21 ((⟨Array.size H12, 0, none⟩ : Addr).add (mulSize (1 : Int).toNat 1)) = some (.int .i64 x88) ∧ 0 ≤ (2 : Int) ∧ (2 : Int) < ((6 : Nat) : Int) ∧
  ∃ x90 : Int, hcell H21 ((⟨Array.size H12, 0, none⟩ : Addr).add (mulSize (2 : Int).toNat 1)) = some (.int .i64 x90) ∧ 0 ≤ (3 : Int) ∧ (3 : Int) < ((6 : Nat) : Int) ∧
  ∃ x93 : Int, hcell H21 ((⟨Array.size H12, 0, none⟩ : Addr).add (mulSize (3 : Int).toNat 1)) = some (.int .i64 x93) ∧ 0 ≤ (4 : Int) ∧ (4 : Int) < ((6 : Nat) : Int) ∧
  ∃ x96 : Int, hcell H21 ((⟨Array.size H12, 0, none⟩ : Addr).add (mulSize (4 : Int).toNat 1)) = some (.int .i64 x96) ∧ 0 ≤ (5 : Int) ∧ (5 : Int) < ((6 : Nat) : Int) ∧
  ∃ x99 : Int, hcell H21 ((⟨Array.size H12, 0, none⟩ : Addr).add (mulSize (5 : Int).toNat 1)) = some (.int .i64 x99) ∧ R (decide ((IntKind.i64.wrap ((IntKind.i64.wrap ((IntKind.i64.wrap ((IntKind.i64.wrap (x88 + x90)) + x93)) + x96)) + x99)) = (x11_l : Int))) H21) (R false H21)) (R false H21)) (R false H21)) (R false H21)) s16.1)
theorem brackenlaw27_ReportLines.eq (a0l_p : Option Addr) (a0l_l a0l_c : Nat) (R : Bool → Heap → Prop) (H0 : Heap) :
    evF Tryd.prog brackenlaw27_ReportLines.ann Tryd.f5 [.slice a0l_p a0l_l a0l_c] (fun v H' => xS (.one .bool) v fun r => R r H') H0 = brackenlaw27_ReportLines.W a0l_p a0l_l a0l_c R H0 := by kernel_rfl
theorem brackenlaw27_ReportLines.calls {a0l_p : Option Addr} {a0l_l a0l_c : Nat} {R : Bool → Heap → Prop} {H0 : Heap} (h : brackenlaw27_ReportLines.W a0l_p a0l_l a0l_c R H0) : brackenlaw27_ReportLines.C a0l_p a0l_l a0l_c H0 R :=
  (evF_sound progOk_ Tryd.func5 (by rw [brackenlaw27_ReportLines.eq]; exact h)).mono fun v H' h => by obtain ⟨x, hv, hk⟩ := xS_out h; exact ⟨x, hv, hk⟩

end Go.Proofs.YtojhnakgmihedaaDoor
