import Derived.Test.YtickamfplpdmgaaDoorEvSound
import Derived.Test.YtickamfplpdmgaaDoorProg
import Derived.KernelRfl
namespace Go.Proofs.YtickamfplpdmgaaDoor
open Go.Ev
set_option linter.unusedVariables false
theorem progOk_ : progOk Tryd.prog = true := by kernel_rfl
abbrev ty_bool : Nat := 4
abbrev ty_any : Nat := 20
abbrev ty_bits_Bits : Nat := 41
abbrev ty_bits_part : Nat := 44
abbrev gl_bits_deBruijn64tab : Nat := 0
abbrev gt_bits_deBruijn64tab : Nat := 49
abbrev ge_bits_deBruijn64tab : Nat := 5
def brackenlaw3_Row.C (a0l_p : Option Addr) (a0l_l a0l_c : Nat) (a1most : Int) (H : Heap) (R : Option Addr → Nat → Nat → Heap → Prop) : Prop := Ev.Fn Tryd.prog 7 #[.slice a0l_p a0l_l a0l_c, .int .i64 a1most] H fun v H' => ∃ (r0_p : Option Addr) (r0_l r0_c : Nat), v = .slice r0_p r0_l r0_c ∧ R r0_p r0_l r0_c H'
theorem brackenlaw3_Row.C_mono {a0l_p : Option Addr} {a0l_l a0l_c : Nat} {a1most : Int} {H : Heap} {R R' : Option Addr → Nat → Nat → Heap → Prop} (h : brackenlaw3_Row.C a0l_p a0l_l a0l_c a1most H R) (hr : ∀ r0_p r0_l r0_c H', R r0_p r0_l r0_c H' → R' r0_p r0_l r0_c H') : brackenlaw3_Row.C a0l_p a0l_l a0l_c a1most H R' :=
  Ev.Fn.mono h fun _ _ ⟨r0_p, r0_l, r0_c, hv, hh⟩ => ⟨r0_p, r0_l, r0_c, hv, hr _ _ _ _ hh⟩
def bits_OnesCount64.C (a0x : Int) (H : Heap) (R : Int → Heap → Prop) : Prop := Ev.Fn Tryd.prog 18 #[.int .u64 a0x] H fun v H' => ∃ r0 : Int, v = .int .i64 r0 ∧ R r0 H'
theorem bits_OnesCount64.C_mono {a0x : Int} {H : Heap} {R R' : Int → Heap → Prop} (h : bits_OnesCount64.C a0x H R) (hr : ∀ r0 H', R r0 H' → R' r0 H') : bits_OnesCount64.C a0x H R' :=
  Ev.Fn.mono h fun _ _ ⟨r0, hv, hh⟩ => ⟨r0, hv, hr _ _ hh⟩
def bits_New.C (a0l_p : Option Addr) (a0l_l a0l_c : Nat) (H : Heap) (R : Option Addr → Int → Heap → Prop) : Prop := Ev.Fn Tryd.prog 8 #[.slice a0l_p a0l_l a0l_c] H fun v H' => ∃ r0 : Option Addr, ∃ r1 : Int, v = .tuple #[.pointer r0, .int .i64 r1] ∧ R r0 r1 H'
theorem bits_New.C_mono {a0l_p : Option Addr} {a0l_l a0l_c : Nat} {H : Heap} {R R' : Option Addr → Int → Heap → Prop} (h : bits_New.C a0l_p a0l_l a0l_c H R) (hr : ∀ r0 r1 H', R r0 r1 H' → R' r0 r1 H') : bits_New.C a0l_p a0l_l a0l_c H R' :=
  Ev.Fn.mono h fun _ _ ⟨r0, r1, hv, hh⟩ => ⟨r0, r1, hv, hr _ _ _ hh⟩
def bits_Bits_Len.C (a0b : Option Addr) (H : Heap) (R : Int → Heap → Prop) : Prop := Ev.Fn Tryd.prog 11 #[.pointer a0b] H fun v H' => ∃ r0 : Int, v = .int .i64 r0 ∧ R r0 H'
theorem bits_Bits_Len.C_mono {a0b : Option Addr} {H : Heap} {R R' : Int → Heap → Prop} (h : bits_Bits_Len.C a0b H R) (hr : ∀ r0 H', R r0 H' → R' r0 H') : bits_Bits_Len.C a0b H R' :=
  Ev.Fn.mono h fun _ _ ⟨r0, hv, hh⟩ => ⟨r0, hv, hr _ _ hh⟩
def bits_Bits_at.C (a0b : Option Addr) (a1k : Int) (H : Heap) (R : Int → Int → Heap → Prop) : Prop := Ev.Fn Tryd.prog 19 #[.pointer a0b, .int .i64 a1k] H fun v H' => ∃ r0_0 : Int, ∃ r0_1 : Int, v = .agg #[.int .u64 r0_0, .int .i64 r0_1] ∧ R r0_0 r0_1 H'
theorem bits_Bits_at.C_mono {a0b : Option Addr} {a1k : Int} {H : Heap} {R R' : Int → Int → Heap → Prop} (h : bits_Bits_at.C a0b a1k H R) (hr : ∀ r0_0 r0_1 H', R r0_0 r0_1 H' → R' r0_0 r0_1 H') : bits_Bits_at.C a0b a1k H R' :=
  Ev.Fn.mono h fun _ _ ⟨r0_0, r0_1, hv, hh⟩ => ⟨r0_0, r0_1, hv, hr _ _ _ hh⟩
def bits_Bits_Get.C (a0b : Option Addr) (a1k : Int) (H : Heap) (R : Bool → Int → Heap → Prop) : Prop := Ev.Fn Tryd.prog 9 #[.pointer a0b, .int .i64 a1k] H fun v H' => ∃ r0 : Bool, ∃ r1 : Int, v = .tuple #[.bool r0, .int .i64 r1] ∧ R r0 r1 H'
theorem bits_Bits_Get.C_mono {a0b : Option Addr} {a1k : Int} {H : Heap} {R R' : Bool → Int → Heap → Prop} (h : bits_Bits_Get.C a0b a1k H R) (hr : ∀ r0 r1 H', R r0 r1 H' → R' r0 r1 H') : bits_Bits_Get.C a0b a1k H R' :=
  Ev.Fn.mono h fun _ _ ⟨r0, r1, hv, hh⟩ => ⟨r0, r1, hv, hr _ _ _ hh⟩
def bits_Bits_Rank.C (a0b : Option Addr) (a1k : Int) (a2bit : Bool) (H : Heap) (R : Int → Heap → Prop) : Prop := Ev.Fn Tryd.prog 12 #[.pointer a0b, .int .i64 a1k, .bool a2bit] H fun v H' => ∃ r0 : Int, v = .int .i64 r0 ∧ R r0 H'
theorem bits_Bits_Rank.C_mono {a0b : Option Addr} {a1k : Int} {a2bit : Bool} {H : Heap} {R R' : Int → Heap → Prop} (h : bits_Bits_Rank.C a0b a1k a2bit H R) (hr : ∀ r0 H', R r0 H' → R' r0 H') : bits_Bits_Rank.C a0b a1k a2bit H R' :=
  Ev.Fn.mono h fun _ _ ⟨r0, hv, hh⟩ => ⟨r0, hv, hr _ _ hh⟩
def bits_TrailingZeros64.C (a0x : Int) (H : Heap) (R : Int → Heap → Prop) : Prop := Ev.Fn Tryd.prog 20 #[.int .u64 a0x] H fun v H' => ∃ r0 : Int, v = .int .i64 r0 ∧ R r0 H'
theorem bits_TrailingZeros64.C_mono {a0x : Int} {H : Heap} {R R' : Int → Heap → Prop} (h : bits_TrailingZeros64.C a0x H R) (hr : ∀ r0 H', R r0 H' → R' r0 H') : bits_TrailingZeros64.C a0x H R' :=
  Ev.Fn.mono h fun _ _ ⟨r0, hv, hh⟩ => ⟨r0, hv, hr _ _ hh⟩
def bits_Bits_Select.C (a0b : Option Addr) (a1j : Int) (a2bit : Bool) (H : Heap) (R : Int → Heap → Prop) : Prop := Ev.Fn Tryd.prog 14 #[.pointer a0b, .int .i64 a1j, .bool a2bit] H fun v H' => ∃ r0 : Int, v = .int .i64 r0 ∧ R r0 H'
theorem bits_Bits_Select.C_mono {a0b : Option Addr} {a1j : Int} {a2bit : Bool} {H : Heap} {R R' : Int → Heap → Prop} (h : bits_Bits_Select.C a0b a1j a2bit H R) (hr : ∀ r0 H', R r0 H' → R' r0 H') : bits_Bits_Select.C a0b a1j a2bit H R' :=
  Ev.Fn.mono h fun _ _ ⟨r0, hv, hh⟩ => ⟨r0, hv, hr _ _ hh⟩
def bits_Bound.C (a0n : Int) (H : Heap) (R : Int → Heap → Prop) : Prop := Ev.Fn Tryd.prog 21 #[.int .i64 a0n] H fun v H' => ∃ r0 : Int, v = .int .i64 r0 ∧ R r0 H'
theorem bits_Bound.C_mono {a0n : Int} {H : Heap} {R R' : Int → Heap → Prop} (h : bits_Bound.C a0n H R) (hr : ∀ r0 H', R r0 H' → R' r0 H') : bits_Bound.C a0n H R' :=
  Ev.Fn.mono h fun _ _ ⟨r0, hv, hh⟩ => ⟨r0, hv, hr _ _ hh⟩
def bits_Bits_Size.C (a0b : Option Addr) (H : Heap) (R : Int → Heap → Prop) : Prop := Ev.Fn Tryd.prog 16 #[.pointer a0b] H fun v H' => ∃ r0 : Int, v = .int .i64 r0 ∧ R r0 H'
theorem bits_Bits_Size.C_mono {a0b : Option Addr} {H : Heap} {R R' : Int → Heap → Prop} (h : bits_Bits_Size.C a0b H R) (hr : ∀ r0 H', R r0 H' → R' r0 H') : bits_Bits_Size.C a0b H R' :=
  Ev.Fn.mono h fun _ _ ⟨r0, hv, hh⟩ => ⟨r0, hv, hr _ _ hh⟩
def brackenlaw3_told.C  (H : Heap) (R : Bool → Heap → Prop) : Prop := Ev.Fn Tryd.prog 10 #[] H fun v H' => ∃ r0 : Bool, v = .bool r0 ∧ R r0 H'
theorem brackenlaw3_told.C_mono  {H : Heap} {R R' : Bool → Heap → Prop} (h : brackenlaw3_told.C  H R) (hr : ∀ r0 H', R r0 H' → R' r0 H') : brackenlaw3_told.C  H R' :=
  Ev.Fn.mono h fun _ _ ⟨r0, hv, hh⟩ => ⟨r0, hv, hr _ _ hh⟩
def brackenref1_Rank.C (a0l_p : Option Addr) (a0l_l a0l_c : Nat) (a1k : Int) (a2bit : Bool) (H : Heap) (R : Int → Heap → Prop) : Prop := Ev.Fn Tryd.prog 13 #[.slice a0l_p a0l_l a0l_c, .int .i64 a1k, .bool a2bit] H fun v H' => ∃ r0 : Int, v = .int .i64 r0 ∧ R r0 H'
theorem brackenref1_Rank.C_mono {a0l_p : Option Addr} {a0l_l a0l_c : Nat} {a1k : Int} {a2bit : Bool} {H : Heap} {R R' : Int → Heap → Prop} (h : brackenref1_Rank.C a0l_p a0l_l a0l_c a1k a2bit H R) (hr : ∀ r0 H', R r0 H' → R' r0 H') : brackenref1_Rank.C a0l_p a0l_l a0l_c a1k a2bit H R' :=
  Ev.Fn.mono h fun _ _ ⟨r0, hv, hh⟩ => ⟨r0, hv, hr _ _ hh⟩
def brackenref1_Select.C (a0l_p : Option Addr) (a0l_l a0l_c : Nat) (a1j : Int) (a2bit : Bool) (H : Heap) (R : Int → Heap → Prop) : Prop := Ev.Fn Tryd.prog 15 #[.slice a0l_p a0l_l a0l_c, .int .i64 a1j, .bool a2bit] H fun v H' => ∃ r0 : Int, v = .int .i64 r0 ∧ R r0 H'
theorem brackenref1_Select.C_mono {a0l_p : Option Addr} {a0l_l a0l_c : Nat} {a1j : Int} {a2bit : Bool} {H : Heap} {R R' : Int → Heap → Prop} (h : brackenref1_Select.C a0l_p a0l_l a0l_c a1j a2bit H R) (hr : ∀ r0 H', R r0 H' → R' r0 H') : brackenref1_Select.C a0l_p a0l_l a0l_c a1j a2bit H R' :=
  Ev.Fn.mono h fun _ _ ⟨r0, hv, hh⟩ => ⟨r0, hv, hr _ _ hh⟩
def brackenref1_begun.C (a0n : Int) (a1by : Int) (H : Heap) (R : Int → Heap → Prop) : Prop := Ev.Fn Tryd.prog 22 #[.int .i64 a0n, .int .i64 a1by] H fun v H' => ∃ r0 : Int, v = .int .i64 r0 ∧ R r0 H'
theorem brackenref1_begun.C_mono {a0n : Int} {a1by : Int} {H : Heap} {R R' : Int → Heap → Prop} (h : brackenref1_begun.C a0n a1by H R) (hr : ∀ r0 H', R r0 H' → R' r0 H') : brackenref1_begun.C a0n a1by H R' :=
  Ev.Fn.mono h fun _ _ ⟨r0, hv, hh⟩ => ⟨r0, hv, hr _ _ hh⟩
def brackenref1_BitsSize.C (a0n : Int) (H : Heap) (R : Int → Heap → Prop) : Prop := Ev.Fn Tryd.prog 17 #[.int .i64 a0n] H fun v H' => ∃ r0 : Int, v = .int .i64 r0 ∧ R r0 H'
theorem brackenref1_BitsSize.C_mono {a0n : Int} {H : Heap} {R R' : Int → Heap → Prop} (h : brackenref1_BitsSize.C a0n H R) (hr : ∀ r0 H', R r0 H' → R' r0 H') : brackenref1_BitsSize.C a0n H R' :=
  Ev.Fn.mono h fun _ _ ⟨r0, hv, hh⟩ => ⟨r0, hv, hr _ _ hh⟩
def brackenlaw3_BitsAsks.C (a0l_p : Option Addr) (a0l_l a0l_c : Nat) (a1k : Int) (a2bit : Bool) (H : Heap) (R : Bool → Heap → Prop) : Prop := Ev.Fn Tryd.prog 3 #[.slice a0l_p a0l_l a0l_c, .int .i64 a1k, .bool a2bit] H fun v H' => ∃ r0 : Bool, v = .bool r0 ∧ R r0 H'
theorem brackenlaw3_BitsAsks.C_mono {a0l_p : Option Addr} {a0l_l a0l_c : Nat} {a1k : Int} {a2bit : Bool} {H : Heap} {R R' : Bool → Heap → Prop} (h : brackenlaw3_BitsAsks.C a0l_p a0l_l a0l_c a1k a2bit H R) (hr : ∀ r0 H', R r0 H' → R' r0 H') : brackenlaw3_BitsAsks.C a0l_p a0l_l a0l_c a1k a2bit H R' :=
  Ev.Fn.mono h fun _ _ ⟨r0, hv, hh⟩ => ⟨r0, hv, hr _ _ hh⟩
def brackenlaw3_BitsPlaces.C (a0l_p : Option Addr) (a0l_l a0l_c : Nat) (a1from : Int) (H : Heap) (R : Bool → Heap → Prop) : Prop := Ev.Fn Tryd.prog 4 #[.slice a0l_p a0l_l a0l_c, .int .i64 a1from] H fun v H' => ∃ r0 : Bool, v = .bool r0 ∧ R r0 H'
theorem brackenlaw3_BitsPlaces.C_mono {a0l_p : Option Addr} {a0l_l a0l_c : Nat} {a1from : Int} {H : Heap} {R R' : Bool → Heap → Prop} (h : brackenlaw3_BitsPlaces.C a0l_p a0l_l a0l_c a1from H R) (hr : ∀ r0 H', R r0 H' → R' r0 H') : brackenlaw3_BitsPlaces.C a0l_p a0l_l a0l_c a1from H R' :=
  Ev.Fn.mono h fun _ _ ⟨r0, hv, hh⟩ => ⟨r0, hv, hr _ _ hh⟩
def brackenlaw3_BitsSizes.C (a0a : Int) (a1b : Int) (H : Heap) (R : Bool → Heap → Prop) : Prop := Ev.Fn Tryd.prog 5 #[.int .i64 a0a, .int .i64 a1b] H fun v H' => ∃ r0 : Bool, v = .bool r0 ∧ R r0 H'
theorem brackenlaw3_BitsSizes.C_mono {a0a : Int} {a1b : Int} {H : Heap} {R R' : Bool → Heap → Prop} (h : brackenlaw3_BitsSizes.C a0a a1b H R) (hr : ∀ r0 H', R r0 H' → R' r0 H') : brackenlaw3_BitsSizes.C a0a a1b H R' :=
  Ev.Fn.mono h fun _ _ ⟨r0, hv, hh⟩ => ⟨r0, hv, hr _ _ hh⟩
def brackenlaw3_BitsOwn.C (a0l_p : Option Addr) (a0l_l a0l_c : Nat) (a1at : Int) (H : Heap) (R : Bool → Heap → Prop) : Prop := Ev.Fn Tryd.prog 6 #[.slice a0l_p a0l_l a0l_c, .int .i64 a1at] H fun v H' => ∃ r0 : Bool, v = .bool r0 ∧ R r0 H'
theorem brackenlaw3_BitsOwn.C_mono {a0l_p : Option Addr} {a0l_l a0l_c : Nat} {a1at : Int} {H : Heap} {R R' : Bool → Heap → Prop} (h : brackenlaw3_BitsOwn.C a0l_p a0l_l a0l_c a1at H R) (hr : ∀ r0 H', R r0 H' → R' r0 H') : brackenlaw3_BitsOwn.C a0l_p a0l_l a0l_c a1at H R' :=
  Ev.Fn.mono h fun _ _ ⟨r0, hv, hh⟩ => ⟨r0, hv, hr _ _ hh⟩
end Go.Proofs.YtickamfplpdmgaaDoor
