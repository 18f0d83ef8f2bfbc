import Derived.Test.YtjakbglakhpbjaaEvSound
import Derived.Test.YtjakbglakhpbjaaProg
import Derived.KernelRfl
import Derived.Test.YtjakbglakhpbjaaMA0
namespace Go.Proofs.Ytjakbglakhpbjaa
open Go.Ev
set_option linter.unusedVariables false
def intern_Hash.ann : Ann := { ord := fun _ => [], loop := fun i => bif Nat.beq i 3 then some [(3, .one (.int .u64)), (7, .one (.int .i64))] else none, join := fun i => bif Nat.beq i 7 then some [(3, .one (.int .u64))] else none }
/-- bracken.intern.Hash -/
def intern_Hash.W (a0s : ByteArray) (R : Int → Heap → Prop) (H0 : Heap) : Prop :=
  
  JoinW (S := (Int × Unit)) (fun J7 => 
  LoopW (S := (Int × Int × Unit)) (fun L3 q3 H2 => (fun (h3 : Int) (x7 : Int) =>
  brW (decide (x7 < (a0s.size : Int))) (0 ≤ x7 ∧ x7 < (a0s.size : Int) ∧
  letV (IntKind.u64.wrap ((xorW .u64 h3 (IntKind.u64.wrap (bt a0s x7))) * 1099511628211)) fun h3 : Int => L3 ((h3 : Int), (IntKind.i64.wrap (x7 + 1) : Int), ()) H2) (J7 ((h3 : Int), ()) H2)) q3.1 q3.2.1) ((14695981039346656037 : Int), (0 : Int), ()) H0)
  (fun s7 H1 => (fun (h3 : Int) => R (h3) H1) s7.1)
theorem intern_Hash.eq (a0s : ByteArray) (R : Int → Heap → Prop) (H0 : Heap) :
    evF Try.prog intern_Hash.ann Try.f8 [.string a0s] (fun v H' => xS (.one (.int .u64)) v fun r => R r H') H0 = intern_Hash.W a0s R H0 := by kernel_rfl
theorem intern_Hash.calls {a0s : ByteArray} {R : Int → Heap → Prop} {H0 : Heap} (h : intern_Hash.W a0s R H0) : intern_Hash.C a0s H0 R :=
  (evF_sound progOk_ Try.func8 (by rw [intern_Hash.eq]; exact h)).mono fun v H' h => by obtain ⟨x, hv, hk⟩ := xS_out h; exact ⟨x, hv, hk⟩

def intern_New.ann : Ann := { ord := fun _ => [], loop := fun _ => none, join := fun _ => none }
/-- bracken.intern.New -/
def intern_New.W  (R : Option Addr → Heap → Prop) (H0 : Heap) : Prop :=
  0 ≤ (8 : Int) ∧ (8 : Int) ≤ 8 ∧ ((8 : Nat) : Int) * 8 ≤ 281474976710656 ∧
  letV (hnew H0 (zerosOf (.int .i64 0) ((8 : Int).toNat)) ty_int) fun H1 : Heap =>
  letV (hnew H1 #[.slice none 0 0, .slice (some ⟨Array.size H0, 0, none⟩) ((8 : Int).toNat) ((8 : Int).toNat), .int .i64 0] ty_intern_Table) fun H2 : Heap => R (some ⟨Array.size H1, 0, none⟩) H2
theorem intern_New.eq  (R : Option Addr → Heap → Prop) (H0 : Heap) :
    evF Try.prog intern_New.ann Try.f9 [] (fun v H' => xS (.one .ptr) v fun r => R r H') H0 = intern_New.W  R H0 := by kernel_rfl
theorem intern_New.calls  {R : Option Addr → Heap → Prop} {H0 : Heap} (h : intern_New.W  R H0) : intern_New.C  H0 R :=
  (evF_sound progOk_ Try.func9 (by rw [intern_New.eq]; exact h)).mono fun v H' h => by obtain ⟨x, hv, hk⟩ := xS_out h; exact ⟨x, hv, hk⟩

def intern_Table_text.ann : Ann := { ord := fun _ => [], loop := fun _ => none, join := fun _ => none }
/-- (*bracken.intern.Table).text -/
def intern_Table_text.W (a0t : Option Addr) (a1n : Int) (R : ByteArray → Heap → Prop) (H0 : Heap) : Prop :=
  ∃ x9 : Addr, a0t = some x9 ∧
  ∃ (x11_p : Option Addr) (x11_l x11_c : Nat), hcell H0 (x9.add 0) = some (.slice x11_p x11_l x11_c) ∧
  ∃ x13 : Addr, x11_p = some x13 ∧ 0 ≤ a1n ∧ a1n < (x11_l : Int) ∧
  ∃ x14 : Value, hcell H0 (x13.add a1n.toNat) = some (x14) ∧
  ∃ x15 : ByteArray, ∃ x15ok : Bool, TaRel (x14) ty_string (.string x15) (.string (⟨#[]⟩ : ByteArray)) x15ok ∧ R x15 H0
theorem intern_Table_text.eq (a0t : Option Addr) (a1n : Int) (R : ByteArray → Heap → Prop) (H0 : Heap) :
    evF Try.prog intern_Table_text.ann Try.f21 [.pointer a0t, .int .i64 a1n] (fun v H' => xS (.one .str) v fun r => R r H') H0 = intern_Table_text.W a0t a1n R H0 := by kernel_rfl
theorem intern_Table_text.calls {a0t : Option Addr} {a1n : Int} {R : ByteArray → Heap → Prop} {H0 : Heap} (h : intern_Table_text.W a0t a1n R H0) : intern_Table_text.C a0t a1n H0 R :=
  (evF_sound progOk_ Try.func21 (by rw [intern_Table_text.eq]; exact h)).mono fun v H' h => by obtain ⟨x, hv, hk⟩ := xS_out h; exact ⟨x, hv, hk⟩

def intern_Table_place.ann : Ann := { ord := fun i => bif Nat.beq i 2 then [0, 2, 3, 4, 5, 6, 7, 1, 8, 9, 10] else [], loop := fun i => bif Nat.beq i 3 then some [(5, .one (.int .i64))] else none, join := fun i => bif Nat.beq i 4 then some [] else bif Nat.beq i 6 then some [(5, .one (.int .i64))] else none }
/-- (*bracken.intern.Table).place -/
def intern_Table_place.W (a0t : Option Addr) (a1s : ByteArray) (R : Int → Heap → Prop) (H0 : Heap) : Prop :=
  ∃ x7 : Addr, a0t = some x7 ∧ (∃ u, hcell H0 (x7.add 2) = some u) ∧ hfrozen H0 (x7.add 2) = false ∧
  letV (hset H0 (x7.add 2) (.int .i64 1)) fun H1 : Heap =>
  ∃ x12 : Addr, a0t = some x12 ∧
  ∃ (x14_p : Option Addr) (x14_l x14_c : Nat), hcell H1 (x12.add 1) = some (.slice x14_p x14_l x14_c) ∧ intern_Hash.C a1s H1 fun x10 H2 => (∃ (x14s_p : Option Addr) (x14s_l x14s_c : Nat), hcell H2 (x12.add 1) = some (.slice x14s_p x14s_l x14s_c) ∧ (.slice x14s_p x14s_l x14s_c : Value) = .slice x14_p x14_l x14_c) ∧ (IntKind.u64.wrap (x14_l : Int)) ≠ 0 ∧
  letV (IntKind.i64.wrap (Int.tmod x10 (IntKind.u64.wrap (x14_l : Int)))) fun at5 : Int => 
  JoinW (S := (Int × Unit)) (fun J6 => 
  LoopW (S := (Int × Unit)) (fun L3 q3 H4 => (fun (at5 : Int) => 
  JoinW (S := Unit) (fun J4 =>
  ∃ x20 : Addr, a0t = some x20 ∧
  ∃ (x22_p : Option Addr) (x22_l x22_c : Nat), hcell H4 (x20.add 1) = some (.slice x22_p x22_l x22_c) ∧
  ∃ x24 : Addr, x22_p = some x24 ∧ 0 ≤ at5 ∧ at5 < (x22_l : Int) ∧
  ∃ x25 : Int, hcell H4 (x24.add at5.toNat) = some (.int .i64 x25) ∧
  brW (decide ((0 : Int) < x25)) (∃ x30 : Addr, a0t = some x30 ∧
  ∃ (x32_p : Option Addr) (x32_l x32_c : Nat), hcell H4 (x30.add 1) = some (.slice x32_p x32_l x32_c) ∧
  ∃ x34 : Addr, x32_p = some x34 ∧ 0 ≤ at5 ∧ at5 < (x32_l : Int) ∧
  ∃ x35 : Int, hcell H4 (x34.add at5.toNat) = some (.int .i64 x35) ∧ intern_Table_text.C (a0t) (IntKind.i64.wrap (x35 - 1)) H4 fun x37 H6 =>
  brW (decide (x37 ≠ a1s)) (J4 () H6) (J6 ((at5 : Int), ()) H6)) (J6 ((at5 : Int), ()) H4))
  (fun _ H5 =>
  ∃ x44 : Addr, a0t = some x44 ∧
  ∃ (x46_p : Option Addr) (x46_l x46_c : Nat), hcell H5 (x44.add 1) = some (.slice x46_p x46_l x46_c) ∧ (x46_l : Int) ≠ 0 ∧
  letV (Int.tmod (IntKind.i64.wrap (at5 + 1)) (x46_l : Int)) fun at5 : Int =>
  ∃ x50 : Addr, a0t = some x50 ∧
  ∃ x52 : Int, hcell H5 (x50.add 2) = some (.int .i64 x52) ∧
  ∃ x54 : Addr, a0t = some x54 ∧ (∃ u, hcell H5 (x54.add 2) = some u) ∧ hfrozen H5 (x54.add 2) = false ∧
  letV (hset H5 (x54.add 2) (.int .i64 (IntKind.i64.wrap (x52 + 1)))) fun H7 : Heap => L3 ((at5 : Int), ()) H7)) q3.1) ((at5 : Int), ()) H2)
  (fun s6 H3 => (fun (at5 : Int) => R (at5) H3) s6.1)
theorem intern_Table_place.eq (a0t : Option Addr) (a1s : ByteArray) (R : Int → Heap → Prop) (H0 : Heap) :
    evF Try.prog intern_Table_place.ann Try.f20 [.pointer a0t, .string a1s] (fun v H' => xS (.one (.int .i64)) v fun r => R r H') H0 = intern_Table_place.W a0t a1s R H0 := by kernel_rfl
theorem intern_Table_place.calls {a0t : Option Addr} {a1s : ByteArray} {R : Int → Heap → Prop} {H0 : Heap} (h : intern_Table_place.W a0t a1s R H0) : intern_Table_place.C a0t a1s H0 R :=
  (evF_sound progOk_ Try.func20 (by rw [intern_Table_place.eq]; exact h)).mono fun v H' h => by obtain ⟨x, hv, hk⟩ := xS_out h; exact ⟨x, hv, hk⟩

def intern_Table_Put.ann : Ann := { ord := fun i => bif Nat.beq i 8 then [0, 1, 2, 3, 4, 5, 6, 7, 8, 9, 10, 11] else bif Nat.beq i 9 then [0, 1, 2, 3, 4, 5, 6, 7, 8, 9, 10, 11] else bif Nat.beq i 15 then [0, 1, 2, 3, 4, 5, 6, 9, 10, 7, 8, 11, 12] else [], loop := fun i => bif Nat.beq i 13 then some [(78, .one (.int .i64))] else none, join := fun i => bif Nat.beq i 17 then some [] else bif Nat.beq i 18 then some [] else none }
/-- (*bracken.intern.Table).Put -/
def intern_Table_Put.W (a0t : Option Addr) (a1s : ByteArray) (R : Int → Heap → Prop) (H0 : Heap) : Prop :=
  brW (Option.isNone (a0t)) (R (-1) H0) (intern_Table_place.C (a0t) a1s H0 fun x13 H1 =>
  ∃ x15 : Addr, a0t = some x15 ∧
  ∃ (x17_p : Option Addr) (x17_l x17_c : Nat), hcell H1 (x15.add 1) = some (.slice x17_p x17_l x17_c) ∧
  ∃ x19 : Addr, x17_p = some x19 ∧ 0 ≤ x13 ∧ x13 < (x17_l : Int) ∧
  ∃ x20 : Int, hcell H1 (x19.add x13.toNat) = some (.int .i64 x20) ∧
  brW (decide ((0 : Int) < x20)) (letV (IntKind.i64.wrap (x20 - 1)) fun x4 : Int => R (x4) H1) (∃ x27 : Addr, a0t = some x27 ∧
  ∃ (x29_p : Option Addr) (x29_l x29_c : Nat), hcell H1 (x27.add 0) = some (.slice x29_p x29_l x29_c) ∧
  letV (hnew H1 #[.iface ty_string (.string a1s)] ty_any) fun H2 : Heap => appW ty_any 1 16 (.nilIface) x29_p x29_l x29_c (.slice (some ⟨Array.size H1, 0, none⟩) 1 1) H2 fun x33_p x33_l x33_c H3 =>
  ∃ x34 : Addr, a0t = some x34 ∧ (∃ u, hcell H3 (x34.add 0) = some u) ∧ hfrozen H3 (x34.add 0) = false ∧
  letV (hset H3 (x34.add 0) (.slice x33_p x33_l x33_c)) fun H4 : Heap =>
  ∃ x37 : Addr, a0t = some x37 ∧
  ∃ (x39_p : Option Addr) (x39_l x39_c : Nat), hcell H4 (x37.add 1) = some (.slice x39_p x39_l x39_c) ∧
  ∃ x42 : Addr, a0t = some x42 ∧
  ∃ (x44_p : Option Addr) (x44_l x44_c : Nat), hcell H4 (x42.add 0) = some (.slice x44_p x44_l x44_c) ∧
  ∃ x46 : Addr, x39_p = some x46 ∧ 0 ≤ x13 ∧ x13 < (x39_l : Int) ∧ (∃ u, hcell H4 (x46.add x13.toNat) = some u) ∧ hfrozen H4 (x46.add x13.toNat) = false ∧
  letV (hset H4 (x46.add x13.toNat) (.int .i64 (x44_l : Int))) fun H5 : Heap => 
  JoinW (S := Unit) (fun J18 =>
  ∃ x48 : Addr, a0t = some x48 ∧
  ∃ (x50_p : Option Addr) (x50_l x50_c : Nat), hcell H5 (x48.add 0) = some (.slice x50_p x50_l x50_c) ∧
  ∃ x54 : Addr, a0t = some x54 ∧
  ∃ (x56_p : Option Addr) (x56_l x56_c : Nat), hcell H5 (x54.add 1) = some (.slice x56_p x56_l x56_c) ∧
  brW (decide ((x56_l : Int) < (IntKind.i64.wrap (2 * (x50_l : Int))))) (∃ x60 : Addr, a0t = some x60 ∧
  ∃ x62 : Int, hcell H5 (x60.add 2) = some (.int .i64 x62) ∧
  ∃ x65 : Addr, a0t = some x65 ∧
  ∃ (x67_p : Option Addr) (x67_l x67_c : Nat), hcell H5 (x65.add 1) = some (.slice x67_p x67_l x67_c) ∧ 0 ≤ IntKind.i64.wrap (2 * (x67_l : Int)) ∧ IntKind.i64.wrap (2 * (x67_l : Int)) ≤ IntKind.i64.wrap (2 * (x67_l : Int)) ∧ ((8 : Nat) : Int) * (IntKind.i64.wrap (2 * (x67_l : Int))) ≤ 281474976710656 ∧
  letV (hnew H5 (zerosOf (.int .i64 0) ((IntKind.i64.wrap (2 * (x67_l : Int))).toNat)) ty_int) fun H7 : Heap =>
  ∃ x71 : Addr, a0t = some x71 ∧ (∃ u, hcell H7 (x71.add 1) = some u) ∧ hfrozen H7 (x71.add 1) = false ∧
  letV (hset H7 (x71.add 1) (.slice (some ⟨Array.size H5, 0, none⟩) ((IntKind.i64.wrap (2 * (x67_l : Int))).toNat) ((IntKind.i64.wrap (2 * (x67_l : Int))).toNat))) fun H8 : Heap => 
  JoinW (S := Unit) (fun J17 =>
  ∃ x74 : Addr, a0t = some x74 ∧
  ∃ (x76_p : Option Addr) (x76_l x76_c : Nat), hcell H8 (x74.add 0) = some (.slice x76_p x76_l x76_c) ∧ 
  LoopW (S := (Int × Unit)) (fun L13 q13 H10 => (fun (x78 : Int) =>
  brW (decide (x78 < (x76_l : Int))) (∃ x82 : Addr, a0t = some x82 ∧
  ∃ (x84_p : Option Addr) (x84_l x84_c : Nat), hcell H10 (x82.add 1) = some (.slice x84_p x84_l x84_c) ∧ intern_Table_text.C (a0t) (x78) H10 fun x88 H11 => (∃ (x84s_p : Option Addr) (x84s_l x84s_c : Nat), hcell H11 (x82.add 1) = some (.slice x84s_p x84s_l x84s_c) ∧ (.slice x84s_p x84s_l x84s_c : Value) = .slice x84_p x84_l x84_c) ∧ intern_Table_place.C (a0t) x88 H11 fun x89 H12 => (∃ (x84s_p : Option Addr) (x84s_l x84s_c : Nat), hcell H12 (x82.add 1) = some (.slice x84s_p x84s_l x84s_c) ∧ (.slice x84s_p x84s_l x84s_c : Value) = .slice x84_p x84_l x84_c) ∧
  ∃ x92 : Addr, x84_p = some x92 ∧ 0 ≤ x89 ∧ x89 < (x84_l : Int) ∧ (∃ u, hcell H12 (x92.add x89.toNat) = some u) ∧ hfrozen H12 (x92.add x89.toNat) = false ∧
  letV (hset H12 (x92.add x89.toNat) (.int .i64 (IntKind.i64.wrap (x78 + 1)))) fun H13 : Heap => L13 ((IntKind.i64.wrap (x78 + 1) : Int), ()) H13) (J17 () H10)) q13.1) ((0 : Int), ()) H8)
  (fun _ H9 =>
  ∃ x96 : Addr, a0t = some x96 ∧ (∃ u, hcell H9 (x96.add 2) = some u) ∧ hfrozen H9 (x96.add 2) = false ∧
  letV (hset H9 (x96.add 2) (.int .i64 x62)) fun H14 : Heap => J18 () H14)) (J18 () H5))
  (fun _ H6 =>
  ∃ x99 : Addr, a0t = some x99 ∧
  ∃ (x101_p : Option Addr) (x101_l x101_c : Nat), hcell H6 (x99.add 0) = some (.slice x101_p x101_l x101_c) ∧
  letV (IntKind.i64.wrap ((x101_l : Int) - 1)) fun x4 : Int => R (x4) H6)))
theorem intern_Table_Put.eq (a0t : Option Addr) (a1s : ByteArray) (R : Int → Heap → Prop) (H0 : Heap) :
    evF Try.prog intern_Table_Put.ann Try.f10 [.pointer a0t, .string a1s] (fun v H' => xS (.one (.int .i64)) v fun r => R r H') H0 = intern_Table_Put.W a0t a1s R H0 := by kernel_rfl
theorem intern_Table_Put.calls {a0t : Option Addr} {a1s : ByteArray} {R : Int → Heap → Prop} {H0 : Heap} (h : intern_Table_Put.W a0t a1s R H0) : intern_Table_Put.C a0t a1s H0 R :=
  (evF_sound progOk_ Try.func10 (by rw [intern_Table_Put.eq]; exact h)).mono fun v H' h => by obtain ⟨x, hv, hk⟩ := xS_out h; exact ⟨x, hv, hk⟩

def intern_Table_Find.ann : Ann := { ord := fun i => bif Nat.beq i 3 then [0, 1, 2, 3, 4, 5, 6, 7, 8, 9] else [], loop := fun _ => none, join := fun _ => none }
/-- (*bracken.intern.Table).Find -/
def intern_Table_Find.W (a0t : Option Addr) (a1s : ByteArray) (R : Int → Bool → Heap → Prop) (H0 : Heap) : Prop :=
  brW (Option.isNone (a0t)) (R (0) false H0) (∃ x10 : Addr, a0t = some x10 ∧
  ∃ (x12_p : Option Addr) (x12_l x12_c : Nat), hcell H0 (x10.add 1) = some (.slice x12_p x12_l x12_c) ∧ intern_Table_place.C (a0t) a1s H0 fun x15 H1 => (∃ (x12s_p : Option Addr) (x12s_l x12s_c : Nat), hcell H1 (x10.add 1) = some (.slice x12s_p x12s_l x12s_c) ∧ (.slice x12s_p x12s_l x12s_c : Value) = .slice x12_p x12_l x12_c) ∧
  ∃ x16 : Addr, x12_p = some x16 ∧ 0 ≤ x15 ∧ x15 < (x12_l : Int) ∧
  ∃ x17 : Int, hcell H1 (x16.add x15.toNat) = some (.int .i64 x17) ∧
  letV (max (IntKind.i64.wrap (x17 - 1)) 0) fun x4 : Int => R (x4) (decide ((0 : Int) < x17)) H1)
theorem intern_Table_Find.eq (a0t : Option Addr) (a1s : ByteArray) (R : Int → Bool → Heap → Prop) (H0 : Heap) :
    evF Try.prog intern_Table_Find.ann Try.f11 [.pointer a0t, .string a1s] (fun v H' => xT [.one (.int .i64), .one .bool] v fun r => R r.1 r.2.1 H') H0 = intern_Table_Find.W a0t a1s R H0 := by kernel_rfl
theorem intern_Table_Find.calls {a0t : Option Addr} {a1s : ByteArray} {R : Int → Bool → Heap → Prop} {H0 : Heap} (h : intern_Table_Find.W a0t a1s R H0) : intern_Table_Find.C a0t a1s H0 R :=
  (evF_sound progOk_ Try.func11 (by rw [intern_Table_Find.eq]; exact h)).mono fun v H' h => by obtain ⟨x, hv, hk⟩ := xT_out h; exact ⟨x.1, x.2.1, hv, hk⟩

def intern_Table_Len.ann : Ann := { ord := fun _ => [], loop := fun _ => none, join := fun _ => none }
/-- (*bracken.intern.Table).Len -/
def intern_Table_Len.W (a0t : Option Addr) (R : Int → Heap → Prop) (H0 : Heap) : Prop :=
  brW (Option.isNone (a0t)) (R (0) H0) (∃ x6 : Addr, a0t = some x6 ∧
  ∃ (x8_p : Option Addr) (x8_l x8_c : Nat), hcell H0 (x6.add 0) = some (.slice x8_p x8_l x8_c) ∧
  letV ((x8_l : Int)) fun x2 : Int => R (x2) H0)
theorem intern_Table_Len.eq (a0t : Option Addr) (R : Int → Heap → Prop) (H0 : Heap) :
    evF Try.prog intern_Table_Len.ann Try.f12 [.pointer a0t] (fun v H' => xS (.one (.int .i64)) v fun r => R r H') H0 = intern_Table_Len.W a0t R H0 := by kernel_rfl
theorem intern_Table_Len.calls {a0t : Option Addr} {R : Int → Heap → Prop} {H0 : Heap} (h : intern_Table_Len.W a0t R H0) : intern_Table_Len.C a0t H0 R :=
  (evF_sound progOk_ Try.func12 (by rw [intern_Table_Len.eq]; exact h)).mono fun v H' h => by obtain ⟨x, hv, hk⟩ := xS_out h; exact ⟨x, hv, hk⟩

def intern_Table_Get.ann : Ann := { ord := fun _ => [], loop := fun _ => none, join := fun i => bif Nat.beq i 2 then some [(13, .one .bool)] else bif Nat.beq i 3 then some [] else none }
/-- (*bracken.intern.Table).Get -/
def intern_Table_Get.W (a0t : Option Addr) (a1n : Int) (R : ByteArray → Int → Heap → Prop) (H0 : Heap) : Prop :=
  
  JoinW (S := Unit) (fun J3 => 
  JoinW (S := (Bool × Unit)) (fun J2 =>
  brW (decide (a1n < 0)) (J2 (true, ()) H0) (intern_Table_Len.C (a0t) H0 fun x11 H3 => J2 (decide (x11 ≤ a1n), ()) H3))
  (fun s2 H2 => (fun (x13 : Bool) =>
  brW x13 (R (⟨#[]⟩ : ByteArray) (4) H2) (J3 () H2)) s2.1))
  (fun _ H1 =>
  intern_Table_text.C (a0t) (a1n) H1 fun x16 H4 => R x16 (0) H4)
theorem intern_Table_Get.eq (a0t : Option Addr) (a1n : Int) (R : ByteArray → Int → Heap → Prop) (H0 : Heap) :
    evF Try.prog intern_Table_Get.ann Try.f18 [.pointer a0t, .int .i64 a1n] (fun v H' => xT [.one .str, .one (.int .i64)] v fun r => R r.1 r.2.1 H') H0 = intern_Table_Get.W a0t a1n R H0 := by kernel_rfl
theorem intern_Table_Get.calls {a0t : Option Addr} {a1n : Int} {R : ByteArray → Int → Heap → Prop} {H0 : Heap} (h : intern_Table_Get.W a0t a1n R H0) : intern_Table_Get.C a0t a1n H0 R :=
  (evF_sound progOk_ Try.func18 (by rw [intern_Table_Get.eq]; exact h)).mono fun v H' h => by obtain ⟨x, hv, hk⟩ := xT_out h; exact ⟨x.1, x.2.1, hv, hk⟩

def brackenlaw9_told.ann : Ann := { ord := fun _ => [], loop := fun _ => none, join := fun _ => none }
/-- bracken.brackenlaw9.told -/
def brackenlaw9_told.W  (R : Bool → Heap → Prop) (H0 : Heap) : Prop :=
  intern_New.C  H0 fun x14 H1 =>
  brW (Option.isNone (x14)) (R false H1) (intern_Table_Put.C (x14) (⟨#[97]⟩ : ByteArray) H1 fun x18 H2 =>
  intern_Table_Put.C (x14) (⟨#[98]⟩ : ByteArray) H2 fun x20 H3 =>
  intern_Table_Put.C (x14) (⟨#[97]⟩ : ByteArray) H3 fun x22 H4 =>
  intern_Table_Find.C (x14) (⟨#[98]⟩ : ByteArray) H4 fun x25_0 x25_1 H5 =>
  intern_Table_Find.C (x14) (⟨#[99]⟩ : ByteArray) H5 fun x30_0 x30_1 H6 =>
  intern_Table_Get.C (x14) (1) H6 fun x35_0 x35_1 H7 =>
  intern_Table_Get.C (x14) (2) H7 fun x40_0 x40_1 H8 =>
  brW (decide (x18 = 0)) (brW (decide (x20 = 1)) (brW (decide (x22 = 0)) (brW (decide (x25_0 = 1)) (brW x25_1 (brW (!x30_1) (brW (decide (x35_0 = (⟨#[98]⟩ : ByteArray))) (brW (decide (x35_1 = 0)) (brW (decide (x40_1 = 4)) (intern_Table_Len.C (x14) H8 fun x78 H9 =>
  brW (decide (x78 = 2)) (intern_Hash.C (⟨#[]⟩ : ByteArray) H9 fun x82 H10 =>
  brW (decide (x82 = 14695981039346656037)) (intern_Hash.C (⟨#[97]⟩ : ByteArray) H10 fun x86 H11 =>
  brW (decide (x86 = 12638187200555641996)) (intern_Table_Put.C (none) (⟨#[97]⟩ : ByteArray) H11 fun x91 H12 =>
  brW (decide (x91 = (-1))) (intern_Table_Len.C (none) H12 fun x96 H13 => R (decide (x96 = 0)) H13) (R false H12)) (R false H11)) (R false H10)) (R false H9)) (R false H8)) (R false H8)) (R false H8)) (R false H8)) (R false H8)) (R false H8)) (R false H8)) (R false H8)) (R false H8))
theorem brackenlaw9_told.eq  (R : Bool → Heap → Prop) (H0 : Heap) :
    evF Try.prog brackenlaw9_told.ann Try.f7 [] (fun v H' => xS (.one .bool) v fun r => R r H') H0 = brackenlaw9_told.W  R H0 := by kernel_rfl
theorem brackenlaw9_told.calls  {R : Bool → Heap → Prop} {H0 : Heap} (h : brackenlaw9_told.W  R H0) : brackenlaw9_told.C  H0 R :=
  (evF_sound progOk_ Try.func7 (by rw [brackenlaw9_told.eq]; exact h)).mono fun v H' h => by obtain ⟨x, hv, hk⟩ := xS_out h; exact ⟨x, hv, hk⟩

def brackenlaw9_InternHash.ann : Ann := { ord := fun _ => [], loop := fun _ => none, join := fun _ => none }
/-- bracken.brackenlaw9.InternHash -/
def brackenlaw9_InternHash.W (a0s : ByteArray) (a1c : Int) (R : Bool → Heap → Prop) (H0 : Heap) : Prop :=
  brW (decide ((60 : Int) < (a0s.size : Int))) (brackenlaw9_told.C  H0 fun x9 H1 => R (x9) H1) (intern_Hash.C a0s H0 fun x11 H2 =>
  brackenlaw9_told.C  H2 fun x12 H3 =>
  brW x12 (letV (hnew H3 #[.int .u8 a1c] ty_uint8) fun H4 : Heap =>
  ∃ x17 : ByteArray, BytesAt H4 (some ⟨Array.size H3, 0, none⟩) 1 x17 ∧ a0s.size + x17.size ≤ 9223372036854775807 ∧ intern_Hash.C (a0s ++ x17) H4 fun x19 H5 =>
  brW (decide (x19 = (IntKind.u64.wrap ((xorW .u64 x11 (IntKind.u64.wrap a1c)) * 1099511628211)))) (brW (decide (a0s ≠ (⟨#[]⟩ : ByteArray))) (R true H5) (R (decide (x11 = 14695981039346656037)) H5)) (R false H5)) (R false H3))
theorem brackenlaw9_InternHash.eq (a0s : ByteArray) (a1c : Int) (R : Bool → Heap → Prop) (H0 : Heap) :
    evF Try.prog brackenlaw9_InternHash.ann Try.f3 [.string a0s, .int .u8 a1c] (fun v H' => xS (.one .bool) v fun r => R r H') H0 = brackenlaw9_InternHash.W a0s a1c R H0 := by kernel_rfl
theorem brackenlaw9_InternHash.calls {a0s : ByteArray} {a1c : Int} {R : Bool → Heap → Prop} {H0 : Heap} (h : brackenlaw9_InternHash.W a0s a1c R H0) : brackenlaw9_InternHash.C a0s a1c H0 R :=
  (evF_sound progOk_ Try.func3 (by rw [brackenlaw9_InternHash.eq]; exact h)).mono fun v H' h => by obtain ⟨x, hv, hk⟩ := xS_out h; exact ⟨x, hv, hk⟩

def brackenlaw9_InternNumbers.ann : Ann := { ord := fun i => bif Nat.beq i 20 then [0, 1, 2, 3, 4, 5, 6, 7, 8, 9, 10, 11, 12, 13, 14, 15] else [], loop := fun i => bif Nat.beq i 9 then some [(4, .one .slice), (5, .one (.int .i64)), (6, .one (.int .i64))] else bif Nat.beq i 18 then some [(8, .one (.int .i64))] else bif Nat.beq i 24 then some [(9, .one (.int .i64))] else none, join := fun i => bif Nat.beq i 10 then some [(4, .one .slice), (5, .one (.int .i64))] else bif Nat.beq i 15 then some [(45, .one .bool)] else bif Nat.beq i 16 then some [] else bif Nat.beq i 22 then some [] else bif Nat.beq i 23 then some [(4, .one .slice), (5, .one (.int .i64))] else bif Nat.beq i 25 then some [] else bif Nat.beq i 28 then some [(98, .one .bool)] else bif Nat.beq i 29 then some [] else none }
/-- bracken.brackenlaw9.InternNumbers -/
def brackenlaw9_InternNumbers.W (a0l_p : Option Addr) (a0l_l a0l_c : Nat) (R : Bool → Heap → Prop) (H0 : Heap) : Prop :=
  brW (decide ((60 : Int) < (a0l_l : Int))) (brackenlaw9_told.C  H0 fun x15 H1 => R (x15) H1) (intern_New.C  H0 fun x16 H2 =>
  brW (Option.isNone (x16)) (R false H2) (
  JoinW (S := ((Option Addr × Nat × Nat) × Int × Unit)) (fun J23 => 
  LoopW (S := ((Option Addr × Nat × Nat) × Int × Int × Unit)) (fun L9 q9 H4 => (fun (at4_p : Option Addr) (at4_l at4_c : Nat) (top5 : Int) (i6 : Int) =>
  brW (decide (i6 < (a0l_l : Int))) (
  JoinW (S := ((Option Addr × Nat × Nat) × Int × Unit)) (fun J10 =>
  ∃ x27 : Addr, a0l_p = some x27 ∧ 0 ≤ i6 ∧ i6 < (a0l_l : Int) ∧
  ∃ x28 : ByteArray, hcell H4 (x27.add i6.toNat) = some (.string x28) ∧
  brW (decide ((50 : Int) < (x28.size : Int))) (brackenlaw9_told.C  H4 fun x31 H6 => R (x31) H6) (∃ x35 : Addr, a0l_p = some x35 ∧ 0 ≤ i6 ∧ i6 < (a0l_l : Int) ∧
  ∃ x36 : ByteArray, hcell H4 (x35.add i6.toNat) = some (.string x36) ∧ intern_Table_Put.C (x16) x36 H4 fun x37 H7 => 
  JoinW (S := Unit) (fun J16 => 
  JoinW (S := (Bool × Unit)) (fun J15 =>
  brW (decide (x37 < 0)) (J15 (true, ()) H7) (J15 (decide ((IntKind.i64.wrap (top5 + 1)) < x37), ()) H7))
  (fun s15 H9 => (fun (x45 : Bool) =>
  brW x45 (R false H9) (J16 () H9)) s15.1))
  (fun _ H8 =>
  letV (max top5 x37) fun top5 : Int => 
  JoinW (S := Unit) (fun J22 => 
  LoopW (S := (Int × Unit)) (fun L18 q18 H11 => (fun (k8 : Int) =>
  brW (decide (k8 < i6)) (∃ x56 : Addr, at4_p = some x56 ∧ 0 ≤ k8 ∧ k8 < (at4_l : Int) ∧
  ∃ x57 : Int, hcell H11 (x56.add k8.toNat) = some (.int .i64 x57) ∧
  ∃ x62 : Addr, a0l_p = some x62 ∧ 0 ≤ k8 ∧ k8 < (a0l_l : Int) ∧
  ∃ x63 : ByteArray, hcell H11 (x62.add k8.toNat) = some (.string x63) ∧
  ∃ x66 : Addr, a0l_p = some x66 ∧ 0 ≤ i6 ∧ i6 < (a0l_l : Int) ∧
  ∃ x67 : ByteArray, hcell H11 (x66.add i6.toNat) = some (.string x67) ∧
  brW (decide ((decide (x57 = x37)) ≠ (decide (x63 = x67)))) (R false H11) (letV (IntKind.i64.wrap (k8 + 1)) fun k8 : Int => L18 ((k8 : Int), ()) H11)) (J22 () H11)) q18.1) ((0 : Int), ()) H8)
  (fun _ H10 =>
  letV (hnew H10 #[.int .i64 x37] ty_int) fun H12 : Heap => appW ty_int 1 8 (.int .i64 0) at4_p at4_l at4_c (.slice (some ⟨Array.size H10, 0, none⟩) 1 1) H12 fun x73_p x73_l x73_c H13 => J10 ((x73_p, x73_l, x73_c), (top5 : Int), ()) H13))))
  (fun s10 H5 => (fun (at4_p : Option Addr) (at4_l at4_c : Nat) (top5 : Int) =>
  letV (IntKind.i64.wrap (i6 + 1)) fun i6 : Int => L9 ((at4_p, at4_l, at4_c), (top5 : Int), (i6 : Int), ()) H5) s10.1.1 s10.1.2.1 s10.1.2.2 s10.2.1)) (J23 ((at4_p, at4_l, at4_c), (top5 : Int), ()) H4)) q9.1.1 q9.1.2.1 q9.1.2.2 q9.2.1 q9.2.2.1) ((none, 0, 0), (-1 : Int), (0 : Int), ()) H2)
  (fun s23 H3 => (fun (at4_p : Option Addr) (at4_l at4_c : Nat) (top5 : Int) => 
  JoinW (S := Unit) (fun J29 => 
  LoopW (S := (Int × Unit)) (fun L24 q24 H15 => (fun (i9 : Int) =>
  brW (decide (i9 < (a0l_l : Int))) (
  JoinW (S := Unit) (fun J25 =>
  ∃ x84 : Addr, a0l_p = some x84 ∧ 0 ≤ i9 ∧ i9 < (a0l_l : Int) ∧
  ∃ x85 : ByteArray, hcell H15 (x84.add i9.toNat) = some (.string x85) ∧ intern_Table_Find.C (x16) x85 H15 fun x86_0 x86_1 H17 => 
  JoinW (S := (Bool × Unit)) (fun J28 =>
  brW (!x86_1) (J28 (true, ()) H17) (∃ x95 : Addr, at4_p = some x95 ∧ 0 ≤ i9 ∧ i9 < (at4_l : Int) ∧
  ∃ x96 : Int, hcell H17 (x95.add i9.toNat) = some (.int .i64 x96) ∧ J28 (decide (x86_0 ≠ x96), ()) H17))
  (fun s28 H18 => (fun (x98 : Bool) =>
  brW x98 (R false H18) (J25 () H18)) s28.1))
  (fun _ H16 =>
  letV (IntKind.i64.wrap (i9 + 1)) fun i9 : Int => L24 ((i9 : Int), ()) H16)) (J29 () H15)) q24.1) ((0 : Int), ()) H3)
  (fun _ H14 =>
  brackenlaw9_told.C  H14 fun x99 H19 =>
  brW x99 (intern_Table_Len.C (x16) H19 fun x102 H20 => R (decide (x102 = (IntKind.i64.wrap (top5 + 1)))) H20) (R false H19))) s23.1.1 s23.1.2.1 s23.1.2.2 s23.2.1)))
theorem brackenlaw9_InternNumbers.eq (a0l_p : Option Addr) (a0l_l a0l_c : Nat) (R : Bool → Heap → Prop) (H0 : Heap) :
    evF Try.prog brackenlaw9_InternNumbers.ann Try.f4 [.slice a0l_p a0l_l a0l_c] (fun v H' => xS (.one .bool) v fun r => R r H') H0 = brackenlaw9_InternNumbers.W a0l_p a0l_l a0l_c R H0 := by kernel_rfl
theorem brackenlaw9_InternNumbers.calls {a0l_p : Option Addr} {a0l_l a0l_c : Nat} {R : Bool → Heap → Prop} {H0 : Heap} (h : brackenlaw9_InternNumbers.W a0l_p a0l_l a0l_c R H0) : brackenlaw9_InternNumbers.C a0l_p a0l_l a0l_c H0 R :=
  (evF_sound progOk_ Try.func4 (by rw [brackenlaw9_InternNumbers.eq]; exact h)).mono fun v H' h => by obtain ⟨x, hv, hk⟩ := xS_out h; exact ⟨x, hv, hk⟩

def brackenref1_NewTable.ann : Ann := { ord := fun _ => [], loop := fun _ => none, join := fun _ => none }
/-- bracken.brackenref1.NewTable -/
def brackenref1_NewTable.W  (R : Option Addr → Heap → Prop) (H0 : Heap) : Prop :=
  0 ≤ (8 : Int) ∧ (8 : Int) ≤ 8 ∧ ((8 : Nat) : Int) * 8 ≤ 281474976710656 ∧
  letV (hnew H0 (zerosOf (.int .i64 0) ((8 : Int).toNat)) ty_int) fun H1 : Heap =>
  letV (hnew H1 #[.slice none 0 0, .slice (some ⟨Array.size H0, 0, none⟩) ((8 : Int).toNat) ((8 : Int).toNat), .int .i64 0] ty_brackenref1_Table) fun H2 : Heap => R (some ⟨Array.size H1, 0, none⟩) H2
theorem brackenref1_NewTable.eq  (R : Option Addr → Heap → Prop) (H0 : Heap) :
    evF Try.prog brackenref1_NewTable.ann Try.f13 [] (fun v H' => xS (.one .ptr) v fun r => R r H') H0 = brackenref1_NewTable.W  R H0 := by kernel_rfl
theorem brackenref1_NewTable.calls  {R : Option Addr → Heap → Prop} {H0 : Heap} (h : brackenref1_NewTable.W  R H0) : brackenref1_NewTable.C  H0 R :=
  (evF_sound progOk_ Try.func13 (by rw [brackenref1_NewTable.eq]; exact h)).mono fun v H' h => by obtain ⟨x, hv, hk⟩ := xS_out h; exact ⟨x, hv, hk⟩

def brackenref1_Hash.ann : Ann := { ord := fun _ => [], loop := fun i => bif Nat.beq i 3 then some [(3, .one (.int .u64)), (4, .one (.int .i64))] else none, join := fun i => bif Nat.beq i 6 then some [(3, .one (.int .u64))] else none }
/-- bracken.brackenref1.Hash -/
def brackenref1_Hash.W (a0s : ByteArray) (R : Int → Heap → Prop) (H0 : Heap) : Prop :=
  
  JoinW (S := (Int × Unit)) (fun J6 => 
  LoopW (S := (Int × Int × Unit)) (fun L3 q3 H2 => (fun (h3 : Int) (i4 : Int) =>
  brW (decide (i4 < (a0s.size : Int))) (0 ≤ i4 ∧ i4 < (a0s.size : Int) ∧
  letV (IntKind.u64.wrap ((xorW .u64 h3 (IntKind.u64.wrap (bt a0s i4))) * 1099511628211)) fun h3 : Int =>
  letV (IntKind.i64.wrap (i4 + 1)) fun i4 : Int => L3 ((h3 : Int), (i4 : Int), ()) H2) (J6 ((h3 : Int), ()) H2)) q3.1 q3.2.1) ((14695981039346656037 : Int), (0 : Int), ()) H0)
  (fun s6 H1 => (fun (h3 : Int) => R (h3) H1) s6.1)
theorem brackenref1_Hash.eq (a0s : ByteArray) (R : Int → Heap → Prop) (H0 : Heap) :
    evF Try.prog brackenref1_Hash.ann Try.f17 [.string a0s] (fun v H' => xS (.one (.int .u64)) v fun r => R r H') H0 = brackenref1_Hash.W a0s R H0 := by kernel_rfl
theorem brackenref1_Hash.calls {a0s : ByteArray} {R : Int → Heap → Prop} {H0 : Heap} (h : brackenref1_Hash.W a0s R H0) : brackenref1_Hash.C a0s H0 R :=
  (evF_sound progOk_ Try.func17 (by rw [brackenref1_Hash.eq]; exact h)).mono fun v H' h => by obtain ⟨x, hv, hk⟩ := xS_out h; exact ⟨x, hv, hk⟩

def brackenref1_Table_look.ann : Ann := { ord := fun i => bif Nat.beq i 5 then [0, 1, 2, 3, 4, 5, 6, 7, 8, 9, 10, 11, 12, 13, 14, 15, 16, 17, 18, 19, 20, 21, 22, 23, 24, 25] else [], loop := fun i => bif Nat.beq i 5 then some [(7, .one (.int .i64)), (8, .one (.int .i64))] else none, join := fun i => bif Nat.beq i 4 then some [(7, .one (.int .i64))] else bif Nat.beq i 6 then some [(47, .one .bool)] else bif Nat.beq i 7 then some [] else none }
/-- (*bracken.brackenref1.Table).look -/
def brackenref1_Table_look.W (a0t : Option Addr) (a1s : ByteArray) (R : Int → Int → Heap → Prop) (H0 : Heap) : Prop :=
  ∃ x10 : Addr, a0t = some x10 ∧
  ∃ (x12_p : Option Addr) (x12_l x12_c : Nat), hcell H0 (x10.add 1) = some (.slice x12_p x12_l x12_c) ∧
  letV ((x12_l : Int)) fun m6 : Int =>
  brackenref1_Hash.C a1s H0 fun x15 H1 => (IntKind.u64.wrap m6) ≠ 0 ∧
  letV (IntKind.i64.wrap (Int.tmod x15 (IntKind.u64.wrap m6))) fun at7 : Int => 
  LoopW (S := (Int × Int × Unit)) (fun L5 q5 H2 => (fun (at7 : Int) (n8 : Int) => 
  JoinW (S := (Int × Unit)) (fun J4 => 
  JoinW (S := Unit) (fun J7 => 
  JoinW (S := (Bool × Unit)) (fun J6 =>
  ∃ x23 : Addr, a0t = some x23 ∧
  ∃ (x25_p : Option Addr) (x25_l x25_c : Nat), hcell H2 (x23.add 1) = some (.slice x25_p x25_l x25_c) ∧
  ∃ x27 : Addr, x25_p = some x27 ∧ 0 ≤ at7 ∧ at7 < (x25_l : Int) ∧
  ∃ x28 : Int, hcell H2 (x27.add at7.toNat) = some (.int .i64 x28) ∧
  brW (decide (x28 = 0)) (J6 (true, ()) H2) (∃ x32 : Addr, a0t = some x32 ∧
  ∃ (x34_p : Option Addr) (x34_l x34_c : Nat), hcell H2 (x32.add 0) = some (.slice x34_p x34_l x34_c) ∧
  ∃ x36 : Addr, a0t = some x36 ∧
  ∃ (x38_p : Option Addr) (x38_l x38_c : Nat), hcell H2 (x36.add 1) = some (.slice x38_p x38_l x38_c) ∧
  ∃ x40 : Addr, x38_p = some x40 ∧ 0 ≤ at7 ∧ at7 < (x38_l : Int) ∧
  ∃ x41 : Int, hcell H2 (x40.add at7.toNat) = some (.int .i64 x41) ∧
  ∃ x43 : Addr, x34_p = some x43 ∧ 0 ≤ IntKind.i64.wrap (x41 - 1) ∧ IntKind.i64.wrap (x41 - 1) < (x34_l : Int) ∧
  ∃ x44 : ByteArray, hcell H2 (x43.add ((IntKind.i64.wrap (x41 - 1)).toNat)) = some (.string x44) ∧ J6 (decide (x44 = a1s), ()) H2))
  (fun s6 H5 => (fun (x47 : Bool) =>
  brW x47 (R (at7) (n8) H5) (J7 () H5)) s6.1))
  (fun _ H4 => m6 ≠ 0 ∧
  letV (Int.tmod (IntKind.i64.wrap (at7 + 1)) m6) fun at7 : Int => J4 ((at7 : Int), ()) H4))
  (fun s4 H3 => (fun (at7 : Int) =>
  letV (IntKind.i64.wrap (n8 + 1)) fun n8 : Int => L5 ((at7 : Int), (n8 : Int), ()) H3) s4.1)) q5.1 q5.2.1) ((at7 : Int), (1 : Int), ()) H1
theorem brackenref1_Table_look.eq (a0t : Option Addr) (a1s : ByteArray) (R : Int → Int → Heap → Prop) (H0 : Heap) :
    evF Try.prog brackenref1_Table_look.ann Try.f22 [.pointer a0t, .string a1s] (fun v H' => xT [.one (.int .i64), .one (.int .i64)] v fun r => R r.1 r.2.1 H') H0 = brackenref1_Table_look.W a0t a1s R H0 := by kernel_rfl
theorem brackenref1_Table_look.calls {a0t : Option Addr} {a1s : ByteArray} {R : Int → Int → Heap → Prop} {H0 : Heap} (h : brackenref1_Table_look.W a0t a1s R H0) : brackenref1_Table_look.C a0t a1s H0 R :=
  (evF_sound progOk_ Try.func22 (by rw [brackenref1_Table_look.eq]; exact h)).mono fun v H' h => by obtain ⟨x, hv, hk⟩ := xT_out h; exact ⟨x.1, x.2.1, hv, hk⟩

def brackenref1_Table_Find.ann : Ann := { ord := fun _ => [], loop := fun _ => none, join := fun _ => none }
/-- (*bracken.brackenref1.Table).Find -/
def brackenref1_Table_Find.W (a0t : Option Addr) (a1s : ByteArray) (R : Int → Bool → Heap → Prop) (H0 : Heap) : Prop :=
  brackenref1_Table_look.C (a0t) a1s H0 fun x11_0 x11_1 H1 =>
  ∃ x16 : Addr, a0t = some x16 ∧ (∃ u, hcell H1 (x16.add 2) = some u) ∧ hfrozen H1 (x16.add 2) = false ∧
  letV (hset H1 (x16.add 2) (.int .i64 x11_1)) fun H2 : Heap =>
  ∃ x19 : Addr, a0t = some x19 ∧
  ∃ (x21_p : Option Addr) (x21_l x21_c : Nat), hcell H2 (x19.add 1) = some (.slice x21_p x21_l x21_c) ∧
  ∃ x23 : Addr, x21_p = some x23 ∧ 0 ≤ x11_0 ∧ x11_0 < (x21_l : Int) ∧
  ∃ x24 : Int, hcell H2 (x23.add x11_0.toNat) = some (.int .i64 x24) ∧
  brW (decide (x24 = 0)) (R (0) false H2) (∃ x27 : Addr, a0t = some x27 ∧
  ∃ (x29_p : Option Addr) (x29_l x29_c : Nat), hcell H2 (x27.add 1) = some (.slice x29_p x29_l x29_c) ∧
  ∃ x31 : Addr, x29_p = some x31 ∧ 0 ≤ x11_0 ∧ x11_0 < (x29_l : Int) ∧
  ∃ x32 : Int, hcell H2 (x31.add x11_0.toNat) = some (.int .i64 x32) ∧
  letV (IntKind.i64.wrap (x32 - 1)) fun x4 : Int => R (x4) true H2)
theorem brackenref1_Table_Find.eq (a0t : Option Addr) (a1s : ByteArray) (R : Int → Bool → Heap → Prop) (H0 : Heap) :
    evF Try.prog brackenref1_Table_Find.ann Try.f14 [.pointer a0t, .string a1s] (fun v H' => xT [.one (.int .i64), .one .bool] v fun r => R r.1 r.2.1 H') H0 = brackenref1_Table_Find.W a0t a1s R H0 := by kernel_rfl
theorem brackenref1_Table_Find.calls {a0t : Option Addr} {a1s : ByteArray} {R : Int → Bool → Heap → Prop} {H0 : Heap} (h : brackenref1_Table_Find.W a0t a1s R H0) : brackenref1_Table_Find.C a0t a1s H0 R :=
  (evF_sound progOk_ Try.func14 (by rw [brackenref1_Table_Find.eq]; exact h)).mono fun v H' h => by obtain ⟨x, hv, hk⟩ := xT_out h; exact ⟨x.1, x.2.1, hv, hk⟩

def brackenref1_Table_Put.ann : Ann := { ord := fun i => bif Nat.beq i 6 then [0, 1, 2, 3, 4, 5, 6, 7, 8, 9, 10, 11] else bif Nat.beq i 7 then [0, 1, 2, 3, 4, 5, 6, 7, 8, 9, 10, 11] else [], loop := fun i => bif Nat.beq i 10 then some [(7, .one (.int .i64))] else none, join := fun i => bif Nat.beq i 14 then some [] else none }
/-- (*bracken.brackenref1.Table).Put -/
def brackenref1_Table_Put.W (a0t : Option Addr) (a1s : ByteArray) (R : Int → Heap → Prop) (H0 : Heap) : Prop :=
  brackenref1_Table_look.C (a0t) a1s H0 fun x13_0 x13_1 H1 =>
  ∃ x18 : Addr, a0t = some x18 ∧ (∃ u, hcell H1 (x18.add 2) = some u) ∧ hfrozen H1 (x18.add 2) = false ∧
  letV (hset H1 (x18.add 2) (.int .i64 x13_1)) fun H2 : Heap =>
  ∃ x21 : Addr, a0t = some x21 ∧
  ∃ (x23_p : Option Addr) (x23_l x23_c : Nat), hcell H2 (x21.add 1) = some (.slice x23_p x23_l x23_c) ∧
  ∃ x25 : Addr, x23_p = some x25 ∧ 0 ≤ x13_0 ∧ x13_0 < (x23_l : Int) ∧
  ∃ x26 : Int, hcell H2 (x25.add x13_0.toNat) = some (.int .i64 x26) ∧
  brW (decide ((0 : Int) < x26)) (∃ x29 : Addr, a0t = some x29 ∧
  ∃ (x31_p : Option Addr) (x31_l x31_c : Nat), hcell H2 (x29.add 1) = some (.slice x31_p x31_l x31_c) ∧
  ∃ x33 : Addr, x31_p = some x33 ∧ 0 ≤ x13_0 ∧ x13_0 < (x31_l : Int) ∧
  ∃ x34 : Int, hcell H2 (x33.add x13_0.toNat) = some (.int .i64 x34) ∧
  letV (IntKind.i64.wrap (x34 - 1)) fun x4 : Int => R (x4) H2) (∃ x38 : Addr, a0t = some x38 ∧
  ∃ (x40_p : Option Addr) (x40_l x40_c : Nat), hcell H2 (x38.add 0) = some (.slice x40_p x40_l x40_c) ∧
  letV (hnew H2 #[.string a1s] ty_string) fun H3 : Heap => appW ty_string 1 16 (.string (⟨#[]⟩ : ByteArray)) x40_p x40_l x40_c (.slice (some ⟨Array.size H2, 0, none⟩) 1 1) H3 fun x43_p x43_l x43_c H4 =>
  ∃ x44 : Addr, a0t = some x44 ∧ (∃ u, hcell H4 (x44.add 0) = some u) ∧ hfrozen H4 (x44.add 0) = false ∧
  letV (hset H4 (x44.add 0) (.slice x43_p x43_l x43_c)) fun H5 : Heap =>
  ∃ x47 : Addr, a0t = some x47 ∧
  ∃ (x49_p : Option Addr) (x49_l x49_c : Nat), hcell H5 (x47.add 1) = some (.slice x49_p x49_l x49_c) ∧
  ∃ x52 : Addr, a0t = some x52 ∧
  ∃ (x54_p : Option Addr) (x54_l x54_c : Nat), hcell H5 (x52.add 0) = some (.slice x54_p x54_l x54_c) ∧
  ∃ x56 : Addr, x49_p = some x56 ∧ 0 ≤ x13_0 ∧ x13_0 < (x49_l : Int) ∧ (∃ u, hcell H5 (x56.add x13_0.toNat) = some u) ∧ hfrozen H5 (x56.add x13_0.toNat) = false ∧
  letV (hset H5 (x56.add x13_0.toNat) (.int .i64 (x54_l : Int))) fun H6 : Heap => 
  JoinW (S := Unit) (fun J14 =>
  ∃ x58 : Addr, a0t = some x58 ∧
  ∃ (x60_p : Option Addr) (x60_l x60_c : Nat), hcell H6 (x58.add 0) = some (.slice x60_p x60_l x60_c) ∧
  ∃ x64 : Addr, a0t = some x64 ∧
  ∃ (x66_p : Option Addr) (x66_l x66_c : Nat), hcell H6 (x64.add 1) = some (.slice x66_p x66_l x66_c) ∧
  brW (decide ((x66_l : Int) < (IntKind.i64.wrap (2 * (x60_l : Int))))) (∃ x71 : Addr, a0t = some x71 ∧
  ∃ (x73_p : Option Addr) (x73_l x73_c : Nat), hcell H6 (x71.add 1) = some (.slice x73_p x73_l x73_c) ∧ 0 ≤ IntKind.i64.wrap (2 * (x73_l : Int)) ∧ IntKind.i64.wrap (2 * (x73_l : Int)) ≤ IntKind.i64.wrap (2 * (x73_l : Int)) ∧ ((8 : Nat) : Int) * (IntKind.i64.wrap (2 * (x73_l : Int))) ≤ 281474976710656 ∧
  letV (hnew H6 (zerosOf (.int .i64 0) ((IntKind.i64.wrap (2 * (x73_l : Int))).toNat)) ty_int) fun H8 : Heap =>
  ∃ x77 : Addr, a0t = some x77 ∧ (∃ u, hcell H8 (x77.add 1) = some u) ∧ hfrozen H8 (x77.add 1) = false ∧
  letV (hset H8 (x77.add 1) (.slice (some ⟨Array.size H6, 0, none⟩) ((IntKind.i64.wrap (2 * (x73_l : Int))).toNat) ((IntKind.i64.wrap (2 * (x73_l : Int))).toNat))) fun H9 : Heap => 
  LoopW (S := (Int × Unit)) (fun L10 q10 H10 => (fun (i7 : Int) =>
  ∃ x81 : Addr, a0t = some x81 ∧
  ∃ (x83_p : Option Addr) (x83_l x83_c : Nat), hcell H10 (x81.add 0) = some (.slice x83_p x83_l x83_c) ∧
  brW (decide (i7 < (x83_l : Int))) (∃ x91 : Addr, a0t = some x91 ∧
  ∃ (x93_p : Option Addr) (x93_l x93_c : Nat), hcell H10 (x91.add 0) = some (.slice x93_p x93_l x93_c) ∧
  ∃ x95 : Addr, x93_p = some x95 ∧ 0 ≤ i7 ∧ i7 < (x93_l : Int) ∧
  ∃ x96 : ByteArray, hcell H10 (x95.add i7.toNat) = some (.string x96) ∧ brackenref1_Table_look.C (a0t) x96 H10 fun x97_0 x97_1 H11 =>
  ∃ x101 : Addr, a0t = some x101 ∧
  ∃ (x103_p : Option Addr) (x103_l x103_c : Nat), hcell H11 (x101.add 1) = some (.slice x103_p x103_l x103_c) ∧
  ∃ x107 : Addr, x103_p = some x107 ∧ 0 ≤ x97_0 ∧ x97_0 < (x103_l : Int) ∧ (∃ u, hcell H11 (x107.add x97_0.toNat) = some u) ∧ hfrozen H11 (x107.add x97_0.toNat) = false ∧
  letV (hset H11 (x107.add x97_0.toNat) (.int .i64 (IntKind.i64.wrap (i7 + 1)))) fun H12 : Heap =>
  letV (IntKind.i64.wrap (i7 + 1)) fun i7 : Int => L10 ((i7 : Int), ()) H12) (J14 () H10)) q10.1) ((0 : Int), ()) H9) (J14 () H6))
  (fun _ H7 =>
  ∃ x109 : Addr, a0t = some x109 ∧
  ∃ (x111_p : Option Addr) (x111_l x111_c : Nat), hcell H7 (x109.add 0) = some (.slice x111_p x111_l x111_c) ∧
  letV (IntKind.i64.wrap ((x111_l : Int) - 1)) fun x4 : Int => R (x4) H7))
theorem brackenref1_Table_Put.eq (a0t : Option Addr) (a1s : ByteArray) (R : Int → Heap → Prop) (H0 : Heap) :
    evF Try.prog brackenref1_Table_Put.ann Try.f15 [.pointer a0t, .string a1s] (fun v H' => xS (.one (.int .i64)) v fun r => R r H') H0 = brackenref1_Table_Put.W a0t a1s R H0 := by kernel_rfl
theorem brackenref1_Table_Put.calls {a0t : Option Addr} {a1s : ByteArray} {R : Int → Heap → Prop} {H0 : Heap} (h : brackenref1_Table_Put.W a0t a1s R H0) : brackenref1_Table_Put.C a0t a1s H0 R :=
  (evF_sound progOk_ Try.func15 (by rw [brackenref1_Table_Put.eq]; exact h)).mono fun v H' h => by obtain ⟨x, hv, hk⟩ := xS_out h; exact ⟨x, hv, hk⟩

def intern_Table_Looked.ann : Ann := { ord := fun _ => [], loop := fun _ => none, join := fun _ => none }
/-- (*bracken.intern.Table).Looked -/
def intern_Table_Looked.W (a0t : Option Addr) (R : Int → Heap → Prop) (H0 : Heap) : Prop :=
  brW (Option.isNone (a0t)) (R (0) H0) (∃ x6 : Addr, a0t = some x6 ∧
  ∃ x8 : Int, hcell H0 (x6.add 2) = some (.int .i64 x8) ∧ R (x8) H0)
theorem intern_Table_Looked.eq (a0t : Option Addr) (R : Int → Heap → Prop) (H0 : Heap) :
    evF Try.prog intern_Table_Looked.ann Try.f16 [.pointer a0t] (fun v H' => xS (.one (.int .i64)) v fun r => R r H') H0 = intern_Table_Looked.W a0t R H0 := by kernel_rfl
theorem intern_Table_Looked.calls {a0t : Option Addr} {R : Int → Heap → Prop} {H0 : Heap} (h : intern_Table_Looked.W a0t R H0) : intern_Table_Looked.C a0t H0 R :=
  (evF_sound progOk_ Try.func16 (by rw [intern_Table_Looked.eq]; exact h)).mono fun v H' h => by obtain ⟨x, hv, hk⟩ := xS_out h; exact ⟨x, hv, hk⟩

def brackenlaw9_InternPlays.ann : Ann := { ord := fun i => bif Nat.beq i 16 then [0, 1, 2, 3, 4, 6, 7, 8, 9, 10, 5, 11, 12] else bif Nat.beq i 18 then [0, 2, 3, 4, 5, 1, 6, 7, 8, 10, 11, 12, 13, 14, 9, 15, 16, 17, 18, 19, 20, 21, 23, 24, 25, 26, 22, 27, 28, 29] else [], loop := fun i => bif Nat.beq i 7 then some [(7, .one (.int .i64))] else bif Nat.beq i 21 then some [(12, .one (.int .i64))] else none, join := fun i => bif Nat.beq i 8 then some [] else bif Nat.beq i 12 then some [(45, .one .bool)] else bif Nat.beq i 15 then some [(71, .one .bool)] else bif Nat.beq i 18 then some [] else bif Nat.beq i 19 then some [(114, .one .bool)] else bif Nat.beq i 20 then some [] else bif Nat.beq i 22 then some [] else bif Nat.beq i 25 then some [(142, .one .bool)] else bif Nat.beq i 26 then some [] else none }
/-- bracken.brackenlaw9.InternPlays -/
def brackenlaw9_InternPlays.W (a0l_p : Option Addr) (a0l_l a0l_c : Nat) (a1find_p : Option Addr) (a1find_l a1find_c : Nat) (R : Bool → Heap → Prop) (H0 : Heap) : Prop :=
  brW (decide ((80 : Int) < (a0l_l : Int))) (brackenlaw9_told.C  H0 fun x18 H1 => R (x18) H1) (intern_New.C  H0 fun x19 H2 =>
  brackenref1_NewTable.C  H2 fun x20 H3 =>
  brW (Option.isNone (x19)) (R false H3) (
  JoinW (S := Unit) (fun J20 => 
  LoopW (S := (Int × Unit)) (fun L7 q7 H5 => (fun (i7 : Int) =>
  brW (decide (i7 < (a0l_l : Int))) (
  JoinW (S := Unit) (fun J8 =>
  ∃ x31 : Addr, a0l_p = some x31 ∧ 0 ≤ i7 ∧ i7 < (a0l_l : Int) ∧
  ∃ x32 : ByteArray, hcell H5 (x31.add i7.toNat) = some (.string x32) ∧
  brW (decide ((50 : Int) < (x32.size : Int))) (brackenlaw9_told.C  H5 fun x35 H7 => R (x35) H7) (
  JoinW (S := Unit) (fun J18 => 
  JoinW (S := (Bool × Unit)) (fun J12 =>
  brW (decide (i7 < (a1find_l : Int))) (∃ x43 : Addr, a1find_p = some x43 ∧ 0 ≤ i7 ∧ i7 < (a1find_l : Int) ∧
  ∃ x44 : Bool, hcell H5 (x43.add i7.toNat) = some (.bool x44) ∧ J12 (x44, ()) H5) (J12 (false, ()) H5))
  (fun s12 H9 => (fun (x45 : Bool) =>
  brW x45 (∃ x50 : Addr, a0l_p = some x50 ∧ 0 ≤ i7 ∧ i7 < (a0l_l : Int) ∧
  ∃ x51 : ByteArray, hcell H9 (x50.add i7.toNat) = some (.string x51) ∧ intern_Table_Find.C (x19) x51 H9 fun x52_0 x52_1 H10 =>
  ∃ x59 : Addr, a0l_p = some x59 ∧ 0 ≤ i7 ∧ i7 < (a0l_l : Int) ∧
  ∃ x60 : ByteArray, hcell H10 (x59.add i7.toNat) = some (.string x60) ∧ brackenref1_Table_Find.C (x20) x60 H10 fun x61_0 x61_1 H11 => 
  JoinW (S := (Bool × Unit)) (fun J15 =>
  brW (decide (x52_0 ≠ x61_0)) (J15 (true, ()) H11) (J15 (decide (x52_1 ≠ x61_1), ()) H11))
  (fun s15 H12 => (fun (x71 : Bool) =>
  brW x71 (R false H12) (J18 () H12)) s15.1)) (∃ x75 : Addr, a0l_p = some x75 ∧ 0 ≤ i7 ∧ i7 < (a0l_l : Int) ∧
  ∃ x76 : ByteArray, hcell H9 (x75.add i7.toNat) = some (.string x76) ∧
  ∃ x81 : Addr, a0l_p = some x81 ∧ 0 ≤ i7 ∧ i7 < (a0l_l : Int) ∧
  ∃ x82 : ByteArray, hcell H9 (x81.add i7.toNat) = some (.string x82) ∧ intern_Table_Put.C (x19) x76 H9 fun x77 H13 => (∃ x82s : ByteArray, hcell H13 (x81.add i7.toNat) = some (.string x82s) ∧ (.string x82s : Value) = .string x82) ∧ brackenref1_Table_Put.C (x20) x82 H13 fun x83 H14 =>
  brW (decide (x77 ≠ x83)) (R false H14) (J18 () H14))) s12.1))
  (fun _ H8 => 
  JoinW (S := (Bool × Unit)) (fun J19 =>
  ∃ x88 : Addr, x20 = some x88 ∧
  ∃ x90 : Int, hcell H8 (x88.add 2) = some (.int .i64 x90) ∧ intern_Table_Looked.C (x19) H8 fun x86 H16 => (∃ x90s : Int, hcell H16 (x88.add 2) = some (.int .i64 x90s) ∧ (.int .i64 x90s : Value) = .int .i64 x90) ∧
  brW (decide (x86 ≠ x90)) (J19 (true, ()) H16) (∃ x96 : Addr, x20 = some x96 ∧
  ∃ (x98_p : Option Addr) (x98_l x98_c : Nat), hcell H16 (x96.add 0) = some (.slice x98_p x98_l x98_c) ∧ intern_Table_Len.C (x19) H16 fun x94 H17 => (∃ (x98s_p : Option Addr) (x98s_l x98s_c : Nat), hcell H17 (x96.add 0) = some (.slice x98s_p x98s_l x98s_c) ∧ (.slice x98s_p x98s_l x98s_c : Value) = .slice x98_p x98_l x98_c) ∧
  brW (decide (x94 ≠ (x98_l : Int))) (J19 (true, ()) H17) (∃ x105 : Addr, a0l_p = some x105 ∧ 0 ≤ i7 ∧ i7 < (a0l_l : Int) ∧
  ∃ x106 : ByteArray, hcell H17 (x105.add i7.toNat) = some (.string x106) ∧
  ∃ x110 : Addr, a0l_p = some x110 ∧ 0 ≤ i7 ∧ i7 < (a0l_l : Int) ∧
  ∃ x111 : ByteArray, hcell H17 (x110.add i7.toNat) = some (.string x111) ∧ intern_Hash.C x106 H17 fun x107 H18 => (∃ x111s : ByteArray, hcell H18 (x110.add i7.toNat) = some (.string x111s) ∧ (.string x111s : Value) = .string x111) ∧ brackenref1_Hash.C x111 H18 fun x112 H19 => J19 (decide (x107 ≠ x112), ()) H19)))
  (fun s19 H15 => (fun (x114 : Bool) =>
  brW x114 (R false H15) (J8 () H15)) s19.1))))
  (fun _ H6 =>
  letV (IntKind.i64.wrap (i7 + 1)) fun i7 : Int => L7 ((i7 : Int), ()) H6)) (J20 () H5)) q7.1) ((0 : Int), ()) H3)
  (fun _ H4 => 
  JoinW (S := Unit) (fun J26 => 
  LoopW (S := (Int × Unit)) (fun L21 q21 H21 => (fun (i12 : Int) =>
  ∃ x117 : Addr, x20 = some x117 ∧
  ∃ (x119_p : Option Addr) (x119_l x119_c : Nat), hcell H21 (x117.add 0) = some (.slice x119_p x119_l x119_c) ∧
  brW (decide (i12 < (x119_l : Int))) (
  JoinW (S := Unit) (fun J22 =>
  intern_Table_Get.C (x19) (i12) H21 fun x127_0 x127_1 H23 => 
  JoinW (S := (Bool × Unit)) (fun J25 =>
  brW (decide (x127_1 ≠ 0)) (J25 (true, ()) H23) (∃ x135 : Addr, x20 = some x135 ∧
  ∃ (x137_p : Option Addr) (x137_l x137_c : Nat), hcell H23 (x135.add 0) = some (.slice x137_p x137_l x137_c) ∧
  ∃ x139 : Addr, x137_p = some x139 ∧ 0 ≤ i12 ∧ i12 < (x137_l : Int) ∧
  ∃ x140 : ByteArray, hcell H23 (x139.add i12.toNat) = some (.string x140) ∧ J25 (decide (x127_0 ≠ x140), ()) H23))
  (fun s25 H24 => (fun (x142 : Bool) =>
  brW x142 (R false H24) (J22 () H24)) s25.1))
  (fun _ H22 =>
  letV (IntKind.i64.wrap (i12 + 1)) fun i12 : Int => L21 ((i12 : Int), ()) H22)) (J26 () H21)) q21.1) ((0 : Int), ()) H4)
  (fun _ H20 =>
  brackenlaw9_told.C  H20 fun x143 H25 => R (x143) H25))))
theorem brackenlaw9_InternPlays.eq (a0l_p : Option Addr) (a0l_l a0l_c : Nat) (a1find_p : Option Addr) (a1find_l a1find_c : Nat) (R : Bool → Heap → Prop) (H0 : Heap) :
    evF Try.prog brackenlaw9_InternPlays.ann Try.f5 [.slice a0l_p a0l_l a0l_c, .slice a1find_p a1find_l a1find_c] (fun v H' => xS (.one .bool) v fun r => R r H') H0 = brackenlaw9_InternPlays.W a0l_p a0l_l a0l_c a1find_p a1find_l a1find_c R H0 := by kernel_rfl
theorem brackenlaw9_InternPlays.calls {a0l_p : Option Addr} {a0l_l a0l_c : Nat} {a1find_p : Option Addr} {a1find_l a1find_c : Nat} {R : Bool → Heap → Prop} {H0 : Heap} (h : brackenlaw9_InternPlays.W a0l_p a0l_l a0l_c a1find_p a1find_l a1find_c R H0) : brackenlaw9_InternPlays.C a0l_p a0l_l a0l_c a1find_p a1find_l a1find_c H0 R :=
  (evF_sound progOk_ Try.func5 (by rw [brackenlaw9_InternPlays.eq]; exact h)).mono fun v H' h => by obtain ⟨x, hv, hk⟩ := xS_out h; exact ⟨x, hv, hk⟩

def brackenlaw9_name.ann : Ann := { ord := fun _ => [], loop := fun _ => none, join := fun _ => none }
/-- bracken.brackenlaw9.name -/
def brackenlaw9_name.W (a0i : Int) (R : ByteArray → Heap → Prop) (H0 : Heap) : Prop :=
  (26 : Int) ≠ 0 ∧ (26 : Int) ≠ 0 ∧ (26 : Int) ≠ 0 ∧ (676 : Int) ≠ 0 ∧
  letV (hnew H0 #[.int .u8 (IntKind.u8.wrap (IntKind.i64.wrap (97 + (Int.tmod a0i 26)))), .int .u8 (IntKind.u8.wrap (IntKind.i64.wrap (97 + (Int.tmod (IntKind.i64.wrap (Int.tdiv a0i 26)) 26)))), .int .u8 (IntKind.u8.wrap (IntKind.i64.wrap (97 + (IntKind.i64.wrap (Int.tdiv a0i 676)))))] ty_uint8) fun H1 : Heap =>
  ∃ x17 : ByteArray, BytesAt H1 (some ⟨Array.size H0, 0, none⟩) 3 x17 ∧ R x17 H1
theorem brackenlaw9_name.eq (a0i : Int) (R : ByteArray → Heap → Prop) (H0 : Heap) :
    evF Try.prog brackenlaw9_name.ann Try.f19 [.int .i64 a0i] (fun v H' => xS (.one .str) v fun r => R r H') H0 = brackenlaw9_name.W a0i R H0 := by kernel_rfl
theorem brackenlaw9_name.calls {a0i : Int} {R : ByteArray → Heap → Prop} {H0 : Heap} (h : brackenlaw9_name.W a0i R H0) : brackenlaw9_name.C a0i H0 R :=
  (evF_sound progOk_ Try.func19 (by rw [brackenlaw9_name.eq]; exact h)).mono fun v H' h => by obtain ⟨x, hv, hk⟩ := xS_out h; exact ⟨x, hv, hk⟩

def brackenlaw9_InternMany.ann : Ann := { ord := fun _ => [], loop := fun i => bif Nat.beq i 8 then some [(7, .one (.int .i64))] else bif Nat.beq i 13 then some [(8, .one (.int .i64))] else none, join := fun i => bif Nat.beq i 9 then some [] else bif Nat.beq i 11 then some [(41, .one .bool)] else bif Nat.beq i 12 then some [] else bif Nat.beq i 14 then some [] else bif Nat.beq i 17 then some [(73, .one .bool)] else bif Nat.beq i 18 then some [] else none }
/-- bracken.brackenlaw9.InternMany -/
def brackenlaw9_InternMany.W (a0n : Int) (a1s : ByteArray) (R : Bool → Heap → Prop) (H0 : Heap) : Prop :=
  brW (decide ((10 : Int) < (a1s.size : Int))) (brackenlaw9_told.C  H0 fun x16 H1 => R (x16) H1) ((501 : Int) ≠ 0 ∧
  letV (IntKind.i64.wrap (Int.tmod (IntKind.u64.wrap a0n) 501)) fun k5 : Int =>
  intern_New.C  H0 fun x21 H2 =>
  brW (Option.isNone (x21)) (R false H2) (
  JoinW (S := Unit) (fun J12 => 
  LoopW (S := (Int × Unit)) (fun L8 q8 H4 => (fun (i7 : Int) =>
  brW (decide (i7 < k5)) (
  JoinW (S := Unit) (fun J9 => 
  JoinW (S := (Bool × Unit)) (fun J11 =>
  brackenlaw9_name.C (i7) H4 fun x32 H7 => a1s.size + x32.size ≤ 9223372036854775807 ∧ intern_Table_Put.C (x21) (a1s ++ x32) H7 fun x34 H8 =>
  brW (decide (x34 ≠ i7)) (J11 (true, ()) H8) (intern_Table_Looked.C (x21) H8 fun x39 H9 => J11 (decide (x39 < 1), ()) H9))
  (fun s11 H6 => (fun (x41 : Bool) =>
  brW x41 (R false H6) (J9 () H6)) s11.1))
  (fun _ H5 =>
  letV (IntKind.i64.wrap (i7 + 1)) fun i7 : Int => L8 ((i7 : Int), ()) H5)) (J12 () H4)) q8.1) ((0 : Int), ()) H2)
  (fun _ H3 => 
  JoinW (S := Unit) (fun J18 => 
  LoopW (S := (Int × Unit)) (fun L13 q13 H11 => (fun (i8 : Int) =>
  brW (decide (i8 < k5)) (
  JoinW (S := Unit) (fun J14 =>
  brackenlaw9_name.C (i8) H11 fun x51 H13 => a1s.size + x51.size ≤ 9223372036854775807 ∧ intern_Table_Find.C (x21) (a1s ++ x51) H13 fun x53_0 x53_1 H14 => 
  JoinW (S := (Bool × Unit)) (fun J17 =>
  brW (!x53_1) (J17 (true, ()) H14) (brW (decide (x53_0 ≠ i8)) (J17 (true, ()) H14) (intern_Table_Looked.C (x21) H14 fun x65 H16 =>
  brW (decide (x65 < 1)) (J17 (true, ()) H16) (intern_Table_Looked.C (x21) H16 fun x70 H17 => J17 (decide (k5 < x70), ()) H17))))
  (fun s17 H15 => (fun (x73 : Bool) =>
  brW x73 (R false H15) (J14 () H15)) s17.1))
  (fun _ H12 =>
  letV (IntKind.i64.wrap (i8 + 1)) fun i8 : Int => L13 ((i8 : Int), ()) H12)) (J18 () H11)) q13.1) ((0 : Int), ()) H3)
  (fun _ H10 => a1s.size + (⟨#[63]⟩ : ByteArray).size ≤ 9223372036854775807 ∧ intern_Table_Find.C (x21) (a1s ++ (⟨#[63]⟩ : ByteArray)) H10 fun x78_0 x78_1 H18 =>
  brackenlaw9_told.C  H18 fun x81 H19 =>
  brW x81 (brW (!x78_1) (intern_Table_Len.C (x21) H19 fun x88 H20 => R (decide (x88 = k5)) H20) (R false H19)) (R false H19)))))
theorem brackenlaw9_InternMany.eq (a0n : Int) (a1s : ByteArray) (R : Bool → Heap → Prop) (H0 : Heap) :
    evF Try.prog brackenlaw9_InternMany.ann Try.f6 [.int .i64 a0n, .string a1s] (fun v H' => xS (.one .bool) v fun r => R r H') H0 = brackenlaw9_InternMany.W a0n a1s R H0 := by kernel_rfl
theorem brackenlaw9_InternMany.calls {a0n : Int} {a1s : ByteArray} {R : Bool → Heap → Prop} {H0 : Heap} (h : brackenlaw9_InternMany.W a0n a1s R H0) : brackenlaw9_InternMany.C a0n a1s H0 R :=
  (evF_sound progOk_ Try.func6 (by rw [brackenlaw9_InternMany.eq]; exact h)).mono fun v H' h => by obtain ⟨x, hv, hk⟩ := xS_out h; exact ⟨x, hv, hk⟩

end Go.Proofs.Ytjakbglakhpbjaa
