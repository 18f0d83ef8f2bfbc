import Derived.Test.YtgdglgkmdnenoaaEvSound
import Derived.Test.YtgdglgkmdnenoaaProg
import Derived.KernelRfl
namespace Go.Proofs.Ytgdglgkmdnenoaa
open Go.Ev
set_option linter.unusedVariables false
theorem progOk_ : progOk Try.prog = true := by kernel_rfl
abbrev ty_uint64 : Nat := 22
abbrev ty_s_uint64 : Nat := 24
abbrev ty_ints_Ints : Nat := 39
def bits_Len64.C (a0x : Int) (H : Heap) (R : Int → Heap → Prop) : Prop := Ev.Fn Try.prog 18 #[.int .u64 a0x] H fun v H' => ∃ r0 : Int, v = .int .i64 r0 ∧ R r0 H'
theorem bits_Len64.C_mono {a0x : Int} {H : Heap} {R R' : Int → Heap → Prop} (h : bits_Len64.C a0x H R) (hr : ∀ r0 H', R r0 H' → R' r0 H') : bits_Len64.C a0x H R' :=
  Ev.Fn.mono h fun _ _ ⟨r0, hv, hh⟩ => ⟨r0, hv, hr _ _ hh⟩
def ints_Width.C (a0n : Int) (H : Heap) (R : Int → Heap → Prop) : Prop := Ev.Fn Try.prog 12 #[.int .u64 a0n] H fun v H' => ∃ r0 : Int, v = .int .i64 r0 ∧ R r0 H'
theorem ints_Width.C_mono {a0n : Int} {H : Heap} {R R' : Int → Heap → Prop} (h : ints_Width.C a0n H R) (hr : ∀ r0 H', R r0 H' → R' r0 H') : ints_Width.C a0n H R' :=
  Ev.Fn.mono h fun _ _ ⟨r0, hv, hh⟩ => ⟨r0, hv, hr _ _ hh⟩
def slices_Max_uint64_uint64.C (a0x_p : Option Addr) (a0x_l a0x_c : Nat) (H : Heap) (R : Int → Heap → Prop) : Prop := Ev.Fn Try.prog 17 #[.slice a0x_p a0x_l a0x_c] H fun v H' => ∃ r0 : Int, v = .int .u64 r0 ∧ R r0 H'
theorem slices_Max_uint64_uint64.C_mono {a0x_p : Option Addr} {a0x_l a0x_c : Nat} {H : Heap} {R R' : Int → Heap → Prop} (h : slices_Max_uint64_uint64.C a0x_p a0x_l a0x_c H R) (hr : ∀ r0 H', R r0 H' → R' r0 H') : slices_Max_uint64_uint64.C a0x_p a0x_l a0x_c H R' :=
  Ev.Fn.mono h fun _ _ ⟨r0, hv, hh⟩ => ⟨r0, hv, hr _ _ hh⟩
def ints_New.C (a0l_p : Option Addr) (a0l_l a0l_c : Nat) (H : Heap) (R : Option Addr → Heap → Prop) : Prop := Ev.Fn Try.prog 7 #[.slice a0l_p a0l_l a0l_c] H fun v H' => ∃ r0 : Option Addr, v = .pointer r0 ∧ R r0 H'
theorem ints_New.C_mono {a0l_p : Option Addr} {a0l_l a0l_c : Nat} {H : Heap} {R R' : Option Addr → Heap → Prop} (h : ints_New.C a0l_p a0l_l a0l_c H R) (hr : ∀ r0 H', R r0 H' → R' r0 H') : ints_New.C a0l_p a0l_l a0l_c H R' :=
  Ev.Fn.mono h fun _ _ ⟨r0, hv, hh⟩ => ⟨r0, hv, hr _ _ hh⟩
def ints_Ints_Len.C (a0a : Option Addr) (H : Heap) (R : Int → Heap → Prop) : Prop := Ev.Fn Try.prog 13 #[.pointer a0a] H fun v H' => ∃ r0 : Int, v = .int .i64 r0 ∧ R r0 H'
theorem ints_Ints_Len.C_mono {a0a : Option Addr} {H : Heap} {R R' : Int → Heap → Prop} (h : ints_Ints_Len.C a0a H R) (hr : ∀ r0 H', R r0 H' → R' r0 H') : ints_Ints_Len.C a0a H R' :=
  Ev.Fn.mono h fun _ _ ⟨r0, hv, hh⟩ => ⟨r0, hv, hr _ _ hh⟩
def ints_Ints_Get.C (a0a : Option Addr) (a1k : Int) (H : Heap) (R : Int → Int → Heap → Prop) : Prop := Ev.Fn Try.prog 8 #[.pointer a0a, .int .i64 a1k] H fun v H' => ∃ r0 : Int, ∃ r1 : Int, v = .tuple #[.int .u64 r0, .int .i64 r1] ∧ R r0 r1 H'
theorem ints_Ints_Get.C_mono {a0a : Option Addr} {a1k : Int} {H : Heap} {R R' : Int → Int → Heap → Prop} (h : ints_Ints_Get.C a0a a1k H R) (hr : ∀ r0 r1 H', R r0 r1 H' → R' r0 r1 H') : ints_Ints_Get.C a0a a1k H R' :=
  Ev.Fn.mono h fun _ _ ⟨r0, r1, hv, hh⟩ => ⟨r0, r1, hv, hr _ _ _ hh⟩
def ints_Ints_Width.C (a0a : Option Addr) (H : Heap) (R : Int → Heap → Prop) : Prop := Ev.Fn Try.prog 11 #[.pointer a0a] H fun v H' => ∃ r0 : Int, v = .int .i64 r0 ∧ R r0 H'
theorem ints_Ints_Width.C_mono {a0a : Option Addr} {H : Heap} {R R' : Int → Heap → Prop} (h : ints_Ints_Width.C a0a H R) (hr : ∀ r0 H', R r0 H' → R' r0 H') : ints_Ints_Width.C a0a H R' :=
  Ev.Fn.mono h fun _ _ ⟨r0, hv, hh⟩ => ⟨r0, hv, hr _ _ hh⟩
def ints_Ints_Size.C (a0a : Option Addr) (H : Heap) (R : Int → Heap → Prop) : Prop := Ev.Fn Try.prog 10 #[.pointer a0a] H fun v H' => ∃ r0 : Int, v = .int .i64 r0 ∧ R r0 H'
theorem ints_Ints_Size.C_mono {a0a : Option Addr} {H : Heap} {R R' : Int → Heap → Prop} (h : ints_Ints_Size.C a0a H R) (hr : ∀ r0 H', R r0 H' → R' r0 H') : ints_Ints_Size.C a0a H R' :=
  Ev.Fn.mono h fun _ _ ⟨r0, hv, hh⟩ => ⟨r0, hv, hr _ _ hh⟩
def brackenlaw4_told.C  (H : Heap) (R : Bool → Heap → Prop) : Prop := Ev.Fn Try.prog 9 #[] H fun v H' => ∃ r0 : Bool, v = .bool r0 ∧ R r0 H'
theorem brackenlaw4_told.C_mono  {H : Heap} {R R' : Bool → Heap → Prop} (h : brackenlaw4_told.C  H R) (hr : ∀ r0 H', R r0 H' → R' r0 H') : brackenlaw4_told.C  H R' :=
  Ev.Fn.mono h fun _ _ ⟨r0, hv, hh⟩ => ⟨r0, hv, hr _ _ hh⟩
def brackenlaw4_IntsNoughts.C (a0n : Int) (a1x : Int) (H : Heap) (R : Bool → Heap → Prop) : Prop := Ev.Fn Try.prog 3 #[.int .i64 a0n, .int .u64 a1x] H fun v H' => ∃ r0 : Bool, v = .bool r0 ∧ R r0 H'
theorem brackenlaw4_IntsNoughts.C_mono {a0n : Int} {a1x : Int} {H : Heap} {R R' : Bool → Heap → Prop} (h : brackenlaw4_IntsNoughts.C a0n a1x H R) (hr : ∀ r0 H', R r0 H' → R' r0 H') : brackenlaw4_IntsNoughts.C a0n a1x H R' :=
  Ev.Fn.mono h fun _ _ ⟨r0, hv, hh⟩ => ⟨r0, hv, hr _ _ hh⟩
def brackenref1_Width.C (a0n : Int) (H : Heap) (R : Int → Heap → Prop) : Prop := Ev.Fn Try.prog 16 #[.int .u64 a0n] H fun v H' => ∃ r0 : Int, v = .int .i64 r0 ∧ R r0 H'
theorem brackenref1_Width.C_mono {a0n : Int} {H : Heap} {R R' : Int → Heap → Prop} (h : brackenref1_Width.C a0n H R) (hr : ∀ r0 H', R r0 H' → R' r0 H') : brackenref1_Width.C a0n H R' :=
  Ev.Fn.mono h fun _ _ ⟨r0, hv, hh⟩ => ⟨r0, hv, hr _ _ hh⟩
def brackenref1_Widest.C (a0l_p : Option Addr) (a0l_l a0l_c : Nat) (H : Heap) (R : Int → Heap → Prop) : Prop := Ev.Fn Try.prog 14 #[.slice a0l_p a0l_l a0l_c] H fun v H' => ∃ r0 : Int, v = .int .i64 r0 ∧ R r0 H'
theorem brackenref1_Widest.C_mono {a0l_p : Option Addr} {a0l_l a0l_c : Nat} {H : Heap} {R R' : Int → Heap → Prop} (h : brackenref1_Widest.C a0l_p a0l_l a0l_c H R) (hr : ∀ r0 H', R r0 H' → R' r0 H') : brackenref1_Widest.C a0l_p a0l_l a0l_c H R' :=
  Ev.Fn.mono h fun _ _ ⟨r0, hv, hh⟩ => ⟨r0, hv, hr _ _ hh⟩
def brackenref1_begun.C (a0n : Int) (a1by : Int) (H : Heap) (R : Int → Heap → Prop) : Prop := Ev.Fn Try.prog 19 #[.int .i64 a0n, .int .i64 a1by] H fun v H' => ∃ r0 : Int, v = .int .i64 r0 ∧ R r0 H'
theorem brackenref1_begun.C_mono {a0n : Int} {a1by : Int} {H : Heap} {R R' : Int → Heap → Prop} (h : brackenref1_begun.C a0n a1by H R) (hr : ∀ r0 H', R r0 H' → R' r0 H') : brackenref1_begun.C a0n a1by H R' :=
  Ev.Fn.mono h fun _ _ ⟨r0, hv, hh⟩ => ⟨r0, hv, hr _ _ hh⟩
def brackenref1_IntsSize.C (a0n : Int) (a1width : Int) (H : Heap) (R : Int → Heap → Prop) : Prop := Ev.Fn Try.prog 15 #[.int .i64 a0n, .int .i64 a1width] H fun v H' => ∃ r0 : Int, v = .int .i64 r0 ∧ R r0 H'
theorem brackenref1_IntsSize.C_mono {a0n : Int} {a1width : Int} {H : Heap} {R R' : Int → Heap → Prop} (h : brackenref1_IntsSize.C a0n a1width H R) (hr : ∀ r0 H', R r0 H' → R' r0 H') : brackenref1_IntsSize.C a0n a1width H R' :=
  Ev.Fn.mono h fun _ _ ⟨r0, hv, hh⟩ => ⟨r0, hv, hr _ _ hh⟩
def brackenlaw4_IntsAsks.C (a0l_p : Option Addr) (a0l_l a0l_c : Nat) (a1k : Int) (H : Heap) (R : Bool → Heap → Prop) : Prop := Ev.Fn Try.prog 4 #[.slice a0l_p a0l_l a0l_c, .int .i64 a1k] H fun v H' => ∃ r0 : Bool, v = .bool r0 ∧ R r0 H'
theorem brackenlaw4_IntsAsks.C_mono {a0l_p : Option Addr} {a0l_l a0l_c : Nat} {a1k : Int} {H : Heap} {R R' : Bool → Heap → Prop} (h : brackenlaw4_IntsAsks.C a0l_p a0l_l a0l_c a1k H R) (hr : ∀ r0 H', R r0 H' → R' r0 H') : brackenlaw4_IntsAsks.C a0l_p a0l_l a0l_c a1k H R' :=
  Ev.Fn.mono h fun _ _ ⟨r0, hv, hh⟩ => ⟨r0, hv, hr _ _ hh⟩
def brackenlaw4_IntsWidths.C (a0n : Int) (H : Heap) (R : Bool → Heap → Prop) : Prop := Ev.Fn Try.prog 5 #[.int .u64 a0n] H fun v H' => ∃ r0 : Bool, v = .bool r0 ∧ R r0 H'
theorem brackenlaw4_IntsWidths.C_mono {a0n : Int} {H : Heap} {R R' : Bool → Heap → Prop} (h : brackenlaw4_IntsWidths.C a0n H R) (hr : ∀ r0 H', R r0 H' → R' r0 H') : brackenlaw4_IntsWidths.C a0n H R' :=
  Ev.Fn.mono h fun _ _ ⟨r0, hv, hh⟩ => ⟨r0, hv, hr _ _ hh⟩
def brackenlaw4_IntsOwn.C (a0l_p : Option Addr) (a0l_l a0l_c : Nat) (H : Heap) (R : Bool → Heap → Prop) : Prop := Ev.Fn Try.prog 6 #[.slice a0l_p a0l_l a0l_c] H fun v H' => ∃ r0 : Bool, v = .bool r0 ∧ R r0 H'
theorem brackenlaw4_IntsOwn.C_mono {a0l_p : Option Addr} {a0l_l a0l_c : Nat} {H : Heap} {R R' : Bool → Heap → Prop} (h : brackenlaw4_IntsOwn.C a0l_p a0l_l a0l_c H R) (hr : ∀ r0 H', R r0 H' → R' r0 H') : brackenlaw4_IntsOwn.C a0l_p a0l_l a0l_c H R' :=
  Ev.Fn.mono h fun _ _ ⟨r0, hv, hh⟩ => ⟨r0, hv, hr _ _ hh⟩
end Go.Proofs.Ytgdglgkmdnenoaa
