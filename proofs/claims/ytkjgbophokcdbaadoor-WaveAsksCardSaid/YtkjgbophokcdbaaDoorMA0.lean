import Derived.Test.YtkjgbophokcdbaaDoorEvSound
import Derived.Test.YtkjgbophokcdbaaDoorProg
import Derived.KernelRfl
namespace Go.Proofs.YtkjgbophokcdbaaDoor
open Go.Ev
set_option linter.unusedVariables false
theorem progOk_ : progOk Tryd.prog = true := by kernel_rfl
abbrev ty_int : Nat := 3
abbrev ty_bool : Nat := 4
abbrev ty_any : Nat := 20
abbrev ty_wave_Wave : Nat := 44
abbrev ty_p_bits_Bits : Nat := 48
abbrev ty_bits_Bits : Nat := 58
abbrev ty_bits_part : Nat := 60
abbrev gl_bits_deBruijn64tab : Nat := 0
abbrev gt_bits_deBruijn64tab : Nat := 66
abbrev ge_bits_deBruijn64tab : Nat := 5
def bits_Len64.C (a0x : Int) (H : Heap) (R : Int → Heap → Prop) : Prop := Ev.Fn Tryd.prog 35 #[.int .u64 a0x] H fun v H' => ∃ r0 : Int, v = .int .i64 r0 ∧ R r0 H'
theorem bits_Len64.C_mono {a0x : Int} {H : Heap} {R R' : Int → Heap → Prop} (h : bits_Len64.C a0x H R) (hr : ∀ r0 H', R r0 H' → R' r0 H') : bits_Len64.C a0x H R' :=
  Ev.Fn.mono h fun _ _ ⟨r0, hv, hh⟩ => ⟨r0, hv, hr _ _ hh⟩
def ints_Width.C (a0n : Int) (H : Heap) (R : Int → Heap → Prop) : Prop := Ev.Fn Tryd.prog 23 #[.int .u64 a0n] H fun v H' => ∃ r0 : Int, v = .int .i64 r0 ∧ R r0 H'
theorem ints_Width.C_mono {a0n : Int} {H : Heap} {R R' : Int → Heap → Prop} (h : ints_Width.C a0n H R) (hr : ∀ r0 H', R r0 H' → R' r0 H') : ints_Width.C a0n H R' :=
  Ev.Fn.mono h fun _ _ ⟨r0, hv, hh⟩ => ⟨r0, hv, hr _ _ hh⟩
def bits_OnesCount64.C (a0x : Int) (H : Heap) (R : Int → Heap → Prop) : Prop := Ev.Fn Tryd.prog 36 #[.int .u64 a0x] H fun v H' => ∃ r0 : Int, v = .int .i64 r0 ∧ R r0 H'
theorem bits_OnesCount64.C_mono {a0x : Int} {H : Heap} {R R' : Int → Heap → Prop} (h : bits_OnesCount64.C a0x H R) (hr : ∀ r0 H', R r0 H' → R' r0 H') : bits_OnesCount64.C a0x H R' :=
  Ev.Fn.mono h fun _ _ ⟨r0, hv, hh⟩ => ⟨r0, hv, hr _ _ hh⟩
def bits_New.C (a0l_p : Option Addr) (a0l_l a0l_c : Nat) (H : Heap) (R : Option Addr → Int → Heap → Prop) : Prop := Ev.Fn Tryd.prog 24 #[.slice a0l_p a0l_l a0l_c] H fun v H' => ∃ r0 : Option Addr, ∃ r1 : Int, v = .tuple #[.pointer r0, .int .i64 r1] ∧ R r0 r1 H'
theorem bits_New.C_mono {a0l_p : Option Addr} {a0l_l a0l_c : Nat} {H : Heap} {R R' : Option Addr → Int → Heap → Prop} (h : bits_New.C a0l_p a0l_l a0l_c H R) (hr : ∀ r0 r1 H', R r0 r1 H' → R' r0 r1 H') : bits_New.C a0l_p a0l_l a0l_c H R' :=
  Ev.Fn.mono h fun _ _ ⟨r0, r1, hv, hh⟩ => ⟨r0, r1, hv, hr _ _ _ hh⟩
def wave_New.C (a0l_p : Option Addr) (a0l_l a0l_c : Nat) (a1sigma : Int) (H : Heap) (R : Option Addr → Int → Heap → Prop) : Prop := Ev.Fn Tryd.prog 9 #[.slice a0l_p a0l_l a0l_c, .int .i64 a1sigma] H fun v H' => ∃ r0 : Option Addr, ∃ r1 : Int, v = .tuple #[.pointer r0, .int .i64 r1] ∧ R r0 r1 H'
theorem wave_New.C_mono {a0l_p : Option Addr} {a0l_l a0l_c : Nat} {a1sigma : Int} {H : Heap} {R R' : Option Addr → Int → Heap → Prop} (h : wave_New.C a0l_p a0l_l a0l_c a1sigma H R) (hr : ∀ r0 r1 H', R r0 r1 H' → R' r0 r1 H') : wave_New.C a0l_p a0l_l a0l_c a1sigma H R' :=
  Ev.Fn.mono h fun _ _ ⟨r0, r1, hv, hh⟩ => ⟨r0, r1, hv, hr _ _ _ hh⟩
def wave_Wave_is.C (a0w : Option Addr) (a1s : Int) (H : Heap) (R : Bool → Heap → Prop) : Prop := Ev.Fn Tryd.prog 25 #[.pointer a0w, .int .i64 a1s] H fun v H' => ∃ r0 : Bool, v = .bool r0 ∧ R r0 H'
theorem wave_Wave_is.C_mono {a0w : Option Addr} {a1s : Int} {H : Heap} {R R' : Bool → Heap → Prop} (h : wave_Wave_is.C a0w a1s H R) (hr : ∀ r0 H', R r0 H' → R' r0 H') : wave_Wave_is.C a0w a1s H R' :=
  Ev.Fn.mono h fun _ _ ⟨r0, hv, hh⟩ => ⟨r0, hv, hr _ _ hh⟩
def wave_Wave_row.C (a0w : Option Addr) (a1k : Int) (H : Heap) (R : Option Addr → Heap → Prop) : Prop := Ev.Fn Tryd.prog 29 #[.pointer a0w, .int .i64 a1k] H fun v H' => ∃ r0 : Option Addr, v = .pointer r0 ∧ R r0 H'
theorem wave_Wave_row.C_mono {a0w : Option Addr} {a1k : Int} {H : Heap} {R R' : Option Addr → Heap → Prop} (h : wave_Wave_row.C a0w a1k H R) (hr : ∀ r0 H', R r0 H' → R' r0 H') : wave_Wave_row.C a0w a1k H R' :=
  Ev.Fn.mono h fun _ _ ⟨r0, hv, hh⟩ => ⟨r0, hv, hr _ _ hh⟩
def bits_Bits_Len.C (a0b : Option Addr) (H : Heap) (R : Int → Heap → Prop) : Prop := Ev.Fn Tryd.prog 40 #[.pointer a0b] H fun v H' => ∃ r0 : Int, v = .int .i64 r0 ∧ R r0 H'
theorem bits_Bits_Len.C_mono {a0b : Option Addr} {H : Heap} {R R' : Int → Heap → Prop} (h : bits_Bits_Len.C a0b H R) (hr : ∀ r0 H', R r0 H' → R' r0 H') : bits_Bits_Len.C a0b H R' :=
  Ev.Fn.mono h fun _ _ ⟨r0, hv, hh⟩ => ⟨r0, hv, hr _ _ hh⟩
def bits_Bits_at.C (a0b : Option Addr) (a1k : Int) (H : Heap) (R : Int → Int → Heap → Prop) : Prop := Ev.Fn Tryd.prog 42 #[.pointer a0b, .int .i64 a1k] H fun v H' => ∃ r0_0 : Int, ∃ r0_1 : Int, v = .agg #[.int .u64 r0_0, .int .i64 r0_1] ∧ R r0_0 r0_1 H'
theorem bits_Bits_at.C_mono {a0b : Option Addr} {a1k : Int} {H : Heap} {R R' : Int → Int → Heap → Prop} (h : bits_Bits_at.C a0b a1k H R) (hr : ∀ r0_0 r0_1 H', R r0_0 r0_1 H' → R' r0_0 r0_1 H') : bits_Bits_at.C a0b a1k H R' :=
  Ev.Fn.mono h fun _ _ ⟨r0_0, r0_1, hv, hh⟩ => ⟨r0_0, r0_1, hv, hr _ _ _ hh⟩
def bits_Bits_Rank.C (a0b : Option Addr) (a1k : Int) (a2bit : Bool) (H : Heap) (R : Int → Heap → Prop) : Prop := Ev.Fn Tryd.prog 41 #[.pointer a0b, .int .i64 a1k, .bool a2bit] H fun v H' => ∃ r0 : Int, v = .int .i64 r0 ∧ R r0 H'
theorem bits_Bits_Rank.C_mono {a0b : Option Addr} {a1k : Int} {a2bit : Bool} {H : Heap} {R R' : Int → Heap → Prop} (h : bits_Bits_Rank.C a0b a1k a2bit H R) (hr : ∀ r0 H', R r0 H' → R' r0 H') : bits_Bits_Rank.C a0b a1k a2bit H R' :=
  Ev.Fn.mono h fun _ _ ⟨r0, hv, hh⟩ => ⟨r0, hv, hr _ _ hh⟩
def wave_Wave_down.C (a0w : Option Addr) (a1k : Int) (a2at : Int) (a3bit : Bool) (H : Heap) (R : Int → Heap → Prop) : Prop := Ev.Fn Tryd.prog 31 #[.pointer a0w, .int .i64 a1k, .int .i64 a2at, .bool a3bit] H fun v H' => ∃ r0 : Int, v = .int .i64 r0 ∧ R r0 H'
theorem wave_Wave_down.C_mono {a0w : Option Addr} {a1k : Int} {a2at : Int} {a3bit : Bool} {H : Heap} {R R' : Int → Heap → Prop} (h : wave_Wave_down.C a0w a1k a2at a3bit H R) (hr : ∀ r0 H', R r0 H' → R' r0 H') : wave_Wave_down.C a0w a1k a2at a3bit H R' :=
  Ev.Fn.mono h fun _ _ ⟨r0, hv, hh⟩ => ⟨r0, hv, hr _ _ hh⟩
def wave_Wave_bit.C (a0w : Option Addr) (a1k : Int) (a2s : Int) (H : Heap) (R : Bool → Heap → Prop) : Prop := Ev.Fn Tryd.prog 38 #[.pointer a0w, .int .i64 a1k, .int .i64 a2s] H fun v H' => ∃ r0 : Bool, v = .bool r0 ∧ R r0 H'
theorem wave_Wave_bit.C_mono {a0w : Option Addr} {a1k : Int} {a2s : Int} {H : Heap} {R R' : Bool → Heap → Prop} (h : wave_Wave_bit.C a0w a1k a2s H R) (hr : ∀ r0 H', R r0 H' → R' r0 H') : wave_Wave_bit.C a0w a1k a2s H R' :=
  Ev.Fn.mono h fun _ _ ⟨r0, hv, hh⟩ => ⟨r0, hv, hr _ _ hh⟩
def wave_Wave_fall.C (a0w : Option Addr) (a1at : Int) (a2s : Int) (H : Heap) (R : Int → Heap → Prop) : Prop := Ev.Fn Tryd.prog 37 #[.pointer a0w, .int .i64 a1at, .int .i64 a2s] H fun v H' => ∃ r0 : Int, v = .int .i64 r0 ∧ R r0 H'
theorem wave_Wave_fall.C_mono {a0w : Option Addr} {a1at : Int} {a2s : Int} {H : Heap} {R R' : Int → Heap → Prop} (h : wave_Wave_fall.C a0w a1at a2s H R) (hr : ∀ r0 H', R r0 H' → R' r0 H') : wave_Wave_fall.C a0w a1at a2s H R' :=
  Ev.Fn.mono h fun _ _ ⟨r0, hv, hh⟩ => ⟨r0, hv, hr _ _ hh⟩
def wave_Wave_rank.C (a0w : Option Addr) (a1k : Int) (a2s : Int) (H : Heap) (R : Int → Heap → Prop) : Prop := Ev.Fn Tryd.prog 26 #[.pointer a0w, .int .i64 a1k, .int .i64 a2s] H fun v H' => ∃ r0 : Int, v = .int .i64 r0 ∧ R r0 H'
theorem wave_Wave_rank.C_mono {a0w : Option Addr} {a1k : Int} {a2s : Int} {H : Heap} {R R' : Int → Heap → Prop} (h : wave_Wave_rank.C a0w a1k a2s H R) (hr : ∀ r0 H', R r0 H' → R' r0 H') : wave_Wave_rank.C a0w a1k a2s H R' :=
  Ev.Fn.mono h fun _ _ ⟨r0, hv, hh⟩ => ⟨r0, hv, hr _ _ hh⟩
def wave_Wave_Count.C (a0w : Option Addr) (a1lo : Int) (a2hi : Int) (a3s : Int) (H : Heap) (R : Int → Heap → Prop) : Prop := Ev.Fn Tryd.prog 12 #[.pointer a0w, .int .i64 a1lo, .int .i64 a2hi, .int .i64 a3s] H fun v H' => ∃ r0 : Int, v = .int .i64 r0 ∧ R r0 H'
theorem wave_Wave_Count.C_mono {a0w : Option Addr} {a1lo : Int} {a2hi : Int} {a3s : Int} {H : Heap} {R R' : Int → Heap → Prop} (h : wave_Wave_Count.C a0w a1lo a2hi a3s H R) (hr : ∀ r0 H', R r0 H' → R' r0 H') : wave_Wave_Count.C a0w a1lo a2hi a3s H R' :=
  Ev.Fn.mono h fun _ _ ⟨r0, hv, hh⟩ => ⟨r0, hv, hr _ _ hh⟩
def wave_Wave_Rank.C (a0w : Option Addr) (a1k : Int) (a2s : Int) (H : Heap) (R : Int → Heap → Prop) : Prop := Ev.Fn Tryd.prog 13 #[.pointer a0w, .int .i64 a1k, .int .i64 a2s] H fun v H' => ∃ r0 : Int, v = .int .i64 r0 ∧ R r0 H'
theorem wave_Wave_Rank.C_mono {a0w : Option Addr} {a1k : Int} {a2s : Int} {H : Heap} {R R' : Int → Heap → Prop} (h : wave_Wave_Rank.C a0w a1k a2s H R) (hr : ∀ r0 H', R r0 H' → R' r0 H') : wave_Wave_Rank.C a0w a1k a2s H R' :=
  Ev.Fn.mono h fun _ _ ⟨r0, hv, hh⟩ => ⟨r0, hv, hr _ _ hh⟩
def bits_TrailingZeros64.C (a0x : Int) (H : Heap) (R : Int → Heap → Prop) : Prop := Ev.Fn Tryd.prog 44 #[.int .u64 a0x] H fun v H' => ∃ r0 : Int, v = .int .i64 r0 ∧ R r0 H'
theorem bits_TrailingZeros64.C_mono {a0x : Int} {H : Heap} {R R' : Int → Heap → Prop} (h : bits_TrailingZeros64.C a0x H R) (hr : ∀ r0 H', R r0 H' → R' r0 H') : bits_TrailingZeros64.C a0x H R' :=
  Ev.Fn.mono h fun _ _ ⟨r0, hv, hh⟩ => ⟨r0, hv, hr _ _ hh⟩
def bits_Bits_Select.C (a0b : Option Addr) (a1j : Int) (a2bit : Bool) (H : Heap) (R : Int → Heap → Prop) : Prop := Ev.Fn Tryd.prog 39 #[.pointer a0b, .int .i64 a1j, .bool a2bit] H fun v H' => ∃ r0 : Int, v = .int .i64 r0 ∧ R r0 H'
theorem bits_Bits_Select.C_mono {a0b : Option Addr} {a1j : Int} {a2bit : Bool} {H : Heap} {R R' : Int → Heap → Prop} (h : bits_Bits_Select.C a0b a1j a2bit H R) (hr : ∀ r0 H', R r0 H' → R' r0 H') : bits_Bits_Select.C a0b a1j a2bit H R' :=
  Ev.Fn.mono h fun _ _ ⟨r0, hv, hh⟩ => ⟨r0, hv, hr _ _ hh⟩
def wave_Wave_rise.C (a0w : Option Addr) (a1j : Int) (a2s : Int) (H : Heap) (R : Int → Heap → Prop) : Prop := Ev.Fn Tryd.prog 27 #[.pointer a0w, .int .i64 a1j, .int .i64 a2s] H fun v H' => ∃ r0 : Int, v = .int .i64 r0 ∧ R r0 H'
theorem wave_Wave_rise.C_mono {a0w : Option Addr} {a1j : Int} {a2s : Int} {H : Heap} {R R' : Int → Heap → Prop} (h : wave_Wave_rise.C a0w a1j a2s H R) (hr : ∀ r0 H', R r0 H' → R' r0 H') : wave_Wave_rise.C a0w a1j a2s H R' :=
  Ev.Fn.mono h fun _ _ ⟨r0, hv, hh⟩ => ⟨r0, hv, hr _ _ hh⟩
def wave_Wave_Nth.C (a0w : Option Addr) (a1lo : Int) (a2hi : Int) (a3s : Int) (a4j : Int) (H : Heap) (R : Int → Heap → Prop) : Prop := Ev.Fn Tryd.prog 14 #[.pointer a0w, .int .i64 a1lo, .int .i64 a2hi, .int .i64 a3s, .int .i64 a4j] H fun v H' => ∃ r0 : Int, v = .int .i64 r0 ∧ R r0 H'
theorem wave_Wave_Nth.C_mono {a0w : Option Addr} {a1lo : Int} {a2hi : Int} {a3s : Int} {a4j : Int} {H : Heap} {R R' : Int → Heap → Prop} (h : wave_Wave_Nth.C a0w a1lo a2hi a3s a4j H R) (hr : ∀ r0 H', R r0 H' → R' r0 H') : wave_Wave_Nth.C a0w a1lo a2hi a3s a4j H R' :=
  Ev.Fn.mono h fun _ _ ⟨r0, hv, hh⟩ => ⟨r0, hv, hr _ _ hh⟩
def wave_Wave_Select.C (a0w : Option Addr) (a1j : Int) (a2s : Int) (H : Heap) (R : Int → Heap → Prop) : Prop := Ev.Fn Tryd.prog 15 #[.pointer a0w, .int .i64 a1j, .int .i64 a2s] H fun v H' => ∃ r0 : Int, v = .int .i64 r0 ∧ R r0 H'
theorem wave_Wave_Select.C_mono {a0w : Option Addr} {a1j : Int} {a2s : Int} {H : Heap} {R R' : Int → Heap → Prop} (h : wave_Wave_Select.C a0w a1j a2s H R) (hr : ∀ r0 H', R r0 H' → R' r0 H') : wave_Wave_Select.C a0w a1j a2s H R' :=
  Ev.Fn.mono h fun _ _ ⟨r0, hv, hh⟩ => ⟨r0, hv, hr _ _ hh⟩
def bits_Bound.C (a0n : Int) (H : Heap) (R : Int → Heap → Prop) : Prop := Ev.Fn Tryd.prog 28 #[.int .i64 a0n] H fun v H' => ∃ r0 : Int, v = .int .i64 r0 ∧ R r0 H'
theorem bits_Bound.C_mono {a0n : Int} {H : Heap} {R R' : Int → Heap → Prop} (h : bits_Bound.C a0n H R) (hr : ∀ r0 H', R r0 H' → R' r0 H') : bits_Bound.C a0n H R' :=
  Ev.Fn.mono h fun _ _ ⟨r0, hv, hh⟩ => ⟨r0, hv, hr _ _ hh⟩
def wave_Wave_Size.C (a0w : Option Addr) (H : Heap) (R : Int → Heap → Prop) : Prop := Ev.Fn Tryd.prog 16 #[.pointer a0w] H fun v H' => ∃ r0 : Int, v = .int .i64 r0 ∧ R r0 H'
theorem wave_Wave_Size.C_mono {a0w : Option Addr} {H : Heap} {R R' : Int → Heap → Prop} (h : wave_Wave_Size.C a0w H R) (hr : ∀ r0 H', R r0 H' → R' r0 H') : wave_Wave_Size.C a0w H R' :=
  Ev.Fn.mono h fun _ _ ⟨r0, hv, hh⟩ => ⟨r0, hv, hr _ _ hh⟩
def wave_Wave_Len.C (a0w : Option Addr) (H : Heap) (R : Int → Heap → Prop) : Prop := Ev.Fn Tryd.prog 18 #[.pointer a0w] H fun v H' => ∃ r0 : Int, v = .int .i64 r0 ∧ R r0 H'
theorem wave_Wave_Len.C_mono {a0w : Option Addr} {H : Heap} {R R' : Int → Heap → Prop} (h : wave_Wave_Len.C a0w H R) (hr : ∀ r0 H', R r0 H' → R' r0 H') : wave_Wave_Len.C a0w H R' :=
  Ev.Fn.mono h fun _ _ ⟨r0, hv, hh⟩ => ⟨r0, hv, hr _ _ hh⟩
def bits_Bits_Get.C (a0b : Option Addr) (a1k : Int) (H : Heap) (R : Bool → Int → Heap → Prop) : Prop := Ev.Fn Tryd.prog 30 #[.pointer a0b, .int .i64 a1k] H fun v H' => ∃ r0 : Bool, ∃ r1 : Int, v = .tuple #[.bool r0, .int .i64 r1] ∧ R r0 r1 H'
theorem bits_Bits_Get.C_mono {a0b : Option Addr} {a1k : Int} {H : Heap} {R R' : Bool → Int → Heap → Prop} (h : bits_Bits_Get.C a0b a1k H R) (hr : ∀ r0 r1 H', R r0 r1 H' → R' r0 r1 H') : bits_Bits_Get.C a0b a1k H R' :=
  Ev.Fn.mono h fun _ _ ⟨r0, r1, hv, hh⟩ => ⟨r0, r1, hv, hr _ _ _ hh⟩
def wave_Wave_Get.C (a0w : Option Addr) (a1k : Int) (H : Heap) (R : Int → Int → Heap → Prop) : Prop := Ev.Fn Tryd.prog 17 #[.pointer a0w, .int .i64 a1k] H fun v H' => ∃ r0 : Int, ∃ r1 : Int, v = .tuple #[.int .i64 r0, .int .i64 r1] ∧ R r0 r1 H'
theorem wave_Wave_Get.C_mono {a0w : Option Addr} {a1k : Int} {H : Heap} {R R' : Int → Int → Heap → Prop} (h : wave_Wave_Get.C a0w a1k H R) (hr : ∀ r0 r1 H', R r0 r1 H' → R' r0 r1 H') : wave_Wave_Get.C a0w a1k H R' :=
  Ev.Fn.mono h fun _ _ ⟨r0, r1, hv, hh⟩ => ⟨r0, r1, hv, hr _ _ _ hh⟩
def brackenlaw6_told.C  (H : Heap) (R : Bool → Heap → Prop) : Prop := Ev.Fn Tryd.prog 8 #[] H fun v H' => ∃ r0 : Bool, v = .bool r0 ∧ R r0 H'
theorem brackenlaw6_told.C_mono  {H : Heap} {R R' : Bool → Heap → Prop} (h : brackenlaw6_told.C  H R) (hr : ∀ r0 H', R r0 H' → R' r0 H') : brackenlaw6_told.C  H R' :=
  Ev.Fn.mono h fun _ _ ⟨r0, hv, hh⟩ => ⟨r0, hv, hr _ _ hh⟩
def brackenref1_MaySyms.C (a0l_p : Option Addr) (a0l_l a0l_c : Nat) (a1sigma : Int) (H : Heap) (R : Bool → Heap → Prop) : Prop := Ev.Fn Tryd.prog 10 #[.slice a0l_p a0l_l a0l_c, .int .i64 a1sigma] H fun v H' => ∃ r0 : Bool, v = .bool r0 ∧ R r0 H'
theorem brackenref1_MaySyms.C_mono {a0l_p : Option Addr} {a0l_l a0l_c : Nat} {a1sigma : Int} {H : Heap} {R R' : Bool → Heap → Prop} (h : brackenref1_MaySyms.C a0l_p a0l_l a0l_c a1sigma H R) (hr : ∀ r0 H', R r0 H' → R' r0 H') : brackenref1_MaySyms.C a0l_p a0l_l a0l_c a1sigma H R' :=
  Ev.Fn.mono h fun _ _ ⟨r0, hv, hh⟩ => ⟨r0, hv, hr _ _ hh⟩
def brackenlaw6_WaveRaw.C (a0l_p : Option Addr) (a0l_l a0l_c : Nat) (a1sigma : Int) (H : Heap) (R : Bool → Heap → Prop) : Prop := Ev.Fn Tryd.prog 3 #[.slice a0l_p a0l_l a0l_c, .int .i64 a1sigma] H fun v H' => ∃ r0 : Bool, v = .bool r0 ∧ R r0 H'
theorem brackenlaw6_WaveRaw.C_mono {a0l_p : Option Addr} {a0l_l a0l_c : Nat} {a1sigma : Int} {H : Heap} {R R' : Bool → Heap → Prop} (h : brackenlaw6_WaveRaw.C a0l_p a0l_l a0l_c a1sigma H R) (hr : ∀ r0 H', R r0 H' → R' r0 H') : brackenlaw6_WaveRaw.C a0l_p a0l_l a0l_c a1sigma H R' :=
  Ev.Fn.mono h fun _ _ ⟨r0, hv, hh⟩ => ⟨r0, hv, hr _ _ hh⟩
def brackenlaw6_Row.C (a0l_p : Option Addr) (a0l_l a0l_c : Nat) (a1sigma : Int) (a2most : Int) (H : Heap) (R : Option Addr → Nat → Nat → Heap → Prop) : Prop := Ev.Fn Tryd.prog 11 #[.slice a0l_p a0l_l a0l_c, .int .i64 a1sigma, .int .i64 a2most] H fun v H' => ∃ (r0_p : Option Addr) (r0_l r0_c : Nat), v = .slice r0_p r0_l r0_c ∧ R r0_p r0_l r0_c H'
theorem brackenlaw6_Row.C_mono {a0l_p : Option Addr} {a0l_l a0l_c : Nat} {a1sigma : Int} {a2most : Int} {H : Heap} {R R' : Option Addr → Nat → Nat → Heap → Prop} (h : brackenlaw6_Row.C a0l_p a0l_l a0l_c a1sigma a2most H R) (hr : ∀ r0_p r0_l r0_c H', R r0_p r0_l r0_c H' → R' r0_p r0_l r0_c H') : brackenlaw6_Row.C a0l_p a0l_l a0l_c a1sigma a2most H R' :=
  Ev.Fn.mono h fun _ _ ⟨r0_p, r0_l, r0_c, hv, hh⟩ => ⟨r0_p, r0_l, r0_c, hv, hr _ _ _ _ hh⟩
def brackenlaw6_WaveParts.C (a0l_p : Option Addr) (a0l_l a0l_c : Nat) (a1sigma : Int) (a2a : Int) (a3b : Int) (H : Heap) (R : Bool → Heap → Prop) : Prop := Ev.Fn Tryd.prog 4 #[.slice a0l_p a0l_l a0l_c, .int .i64 a1sigma, .int .i64 a2a, .int .i64 a3b] H fun v H' => ∃ r0 : Bool, v = .bool r0 ∧ R r0 H'
theorem brackenlaw6_WaveParts.C_mono {a0l_p : Option Addr} {a0l_l a0l_c : Nat} {a1sigma : Int} {a2a : Int} {a3b : Int} {H : Heap} {R R' : Bool → Heap → Prop} (h : brackenlaw6_WaveParts.C a0l_p a0l_l a0l_c a1sigma a2a a3b H R) (hr : ∀ r0 H', R r0 H' → R' r0 H') : brackenlaw6_WaveParts.C a0l_p a0l_l a0l_c a1sigma a2a a3b H R' :=
  Ev.Fn.mono h fun _ _ ⟨r0, hv, hh⟩ => ⟨r0, hv, hr _ _ hh⟩
def brackenlaw6_WaveOne.C (a0n : Int) (a1sigma : Int) (a2s : Int) (H : Heap) (R : Bool → Heap → Prop) : Prop := Ev.Fn Tryd.prog 5 #[.int .i64 a0n, .int .i64 a1sigma, .int .i64 a2s] H fun v H' => ∃ r0 : Bool, v = .bool r0 ∧ R r0 H'
theorem brackenlaw6_WaveOne.C_mono {a0n : Int} {a1sigma : Int} {a2s : Int} {H : Heap} {R R' : Bool → Heap → Prop} (h : brackenlaw6_WaveOne.C a0n a1sigma a2s H R) (hr : ∀ r0 H', R r0 H' → R' r0 H') : brackenlaw6_WaveOne.C a0n a1sigma a2s H R' :=
  Ev.Fn.mono h fun _ _ ⟨r0, hv, hh⟩ => ⟨r0, hv, hr _ _ hh⟩
def brackenlaw6_WaveSelects.C (a0l_p : Option Addr) (a0l_l a0l_c : Nat) (a1sigma : Int) (H : Heap) (R : Bool → Heap → Prop) : Prop := Ev.Fn Tryd.prog 6 #[.slice a0l_p a0l_l a0l_c, .int .i64 a1sigma] H fun v H' => ∃ r0 : Bool, v = .bool r0 ∧ R r0 H'
theorem brackenlaw6_WaveSelects.C_mono {a0l_p : Option Addr} {a0l_l a0l_c : Nat} {a1sigma : Int} {H : Heap} {R R' : Bool → Heap → Prop} (h : brackenlaw6_WaveSelects.C a0l_p a0l_l a0l_c a1sigma H R) (hr : ∀ r0 H', R r0 H' → R' r0 H') : brackenlaw6_WaveSelects.C a0l_p a0l_l a0l_c a1sigma H R' :=
  Ev.Fn.mono h fun _ _ ⟨r0, hv, hh⟩ => ⟨r0, hv, hr _ _ hh⟩
def brackenref1_Width.C (a0n : Int) (H : Heap) (R : Int → Heap → Prop) : Prop := Ev.Fn Tryd.prog 32 #[.int .u64 a0n] H fun v H' => ∃ r0 : Int, v = .int .i64 r0 ∧ R r0 H'
theorem brackenref1_Width.C_mono {a0n : Int} {H : Heap} {R R' : Int → Heap → Prop} (h : brackenref1_Width.C a0n H R) (hr : ∀ r0 H', R r0 H' → R' r0 H') : brackenref1_Width.C a0n H R' :=
  Ev.Fn.mono h fun _ _ ⟨r0, hv, hh⟩ => ⟨r0, hv, hr _ _ hh⟩
def brackenref1_begun.C (a0n : Int) (a1by : Int) (H : Heap) (R : Int → Heap → Prop) : Prop := Ev.Fn Tryd.prog 43 #[.int .i64 a0n, .int .i64 a1by] H fun v H' => ∃ r0 : Int, v = .int .i64 r0 ∧ R r0 H'
theorem brackenref1_begun.C_mono {a0n : Int} {a1by : Int} {H : Heap} {R R' : Int → Heap → Prop} (h : brackenref1_begun.C a0n a1by H R) (hr : ∀ r0 H', R r0 H' → R' r0 H') : brackenref1_begun.C a0n a1by H R' :=
  Ev.Fn.mono h fun _ _ ⟨r0, hv, hh⟩ => ⟨r0, hv, hr _ _ hh⟩
def brackenref1_BitsSize.C (a0n : Int) (H : Heap) (R : Int → Heap → Prop) : Prop := Ev.Fn Tryd.prog 33 #[.int .i64 a0n] H fun v H' => ∃ r0 : Int, v = .int .i64 r0 ∧ R r0 H'
theorem brackenref1_BitsSize.C_mono {a0n : Int} {H : Heap} {R R' : Int → Heap → Prop} (h : brackenref1_BitsSize.C a0n H R) (hr : ∀ r0 H', R r0 H' → R' r0 H') : brackenref1_BitsSize.C a0n H R' :=
  Ev.Fn.mono h fun _ _ ⟨r0, hv, hh⟩ => ⟨r0, hv, hr _ _ hh⟩
def brackenref1_WaveSize.C (a0n : Int) (a1sigma : Int) (H : Heap) (R : Int → Heap → Prop) : Prop := Ev.Fn Tryd.prog 19 #[.int .i64 a0n, .int .i64 a1sigma] H fun v H' => ∃ r0 : Int, v = .int .i64 r0 ∧ R r0 H'
theorem brackenref1_WaveSize.C_mono {a0n : Int} {a1sigma : Int} {H : Heap} {R R' : Int → Heap → Prop} (h : brackenref1_WaveSize.C a0n a1sigma H R) (hr : ∀ r0 H', R r0 H' → R' r0 H') : brackenref1_WaveSize.C a0n a1sigma H R' :=
  Ev.Fn.mono h fun _ _ ⟨r0, hv, hh⟩ => ⟨r0, hv, hr _ _ hh⟩
def wave_Wave_Steps.C (a0w : Option Addr) (H : Heap) (R : Int → Heap → Prop) : Prop := Ev.Fn Tryd.prog 34 #[.pointer a0w] H fun v H' => ∃ r0 : Int, v = .int .i64 r0 ∧ R r0 H'
theorem wave_Wave_Steps.C_mono {a0w : Option Addr} {H : Heap} {R R' : Int → Heap → Prop} (h : wave_Wave_Steps.C a0w H R) (hr : ∀ r0 H', R r0 H' → R' r0 H') : wave_Wave_Steps.C a0w H R' :=
  Ev.Fn.mono h fun _ _ ⟨r0, hv, hh⟩ => ⟨r0, hv, hr _ _ hh⟩
def brackenlaw6_steps.C (a0w : Option Addr) (a1sigma : Int) (H : Heap) (R : Bool → Heap → Prop) : Prop := Ev.Fn Tryd.prog 20 #[.pointer a0w, .int .i64 a1sigma] H fun v H' => ∃ r0 : Bool, v = .bool r0 ∧ R r0 H'
theorem brackenlaw6_steps.C_mono {a0w : Option Addr} {a1sigma : Int} {H : Heap} {R R' : Bool → Heap → Prop} (h : brackenlaw6_steps.C a0w a1sigma H R) (hr : ∀ r0 H', R r0 H' → R' r0 H') : brackenlaw6_steps.C a0w a1sigma H R' :=
  Ev.Fn.mono h fun _ _ ⟨r0, hv, hh⟩ => ⟨r0, hv, hr _ _ hh⟩
def brackenref1_Count.C (a0l_p : Option Addr) (a0l_l a0l_c : Nat) (a1lo : Int) (a2hi : Int) (a3s : Int) (H : Heap) (R : Int → Heap → Prop) : Prop := Ev.Fn Tryd.prog 21 #[.slice a0l_p a0l_l a0l_c, .int .i64 a1lo, .int .i64 a2hi, .int .i64 a3s] H fun v H' => ∃ r0 : Int, v = .int .i64 r0 ∧ R r0 H'
theorem brackenref1_Count.C_mono {a0l_p : Option Addr} {a0l_l a0l_c : Nat} {a1lo : Int} {a2hi : Int} {a3s : Int} {H : Heap} {R R' : Int → Heap → Prop} (h : brackenref1_Count.C a0l_p a0l_l a0l_c a1lo a2hi a3s H R) (hr : ∀ r0 H', R r0 H' → R' r0 H') : brackenref1_Count.C a0l_p a0l_l a0l_c a1lo a2hi a3s H R' :=
  Ev.Fn.mono h fun _ _ ⟨r0, hv, hh⟩ => ⟨r0, hv, hr _ _ hh⟩
def brackenref1_Nth.C (a0l_p : Option Addr) (a0l_l a0l_c : Nat) (a1lo : Int) (a2hi : Int) (a3s : Int) (a4j : Int) (H : Heap) (R : Int → Heap → Prop) : Prop := Ev.Fn Tryd.prog 22 #[.slice a0l_p a0l_l a0l_c, .int .i64 a1lo, .int .i64 a2hi, .int .i64 a3s, .int .i64 a4j] H fun v H' => ∃ r0 : Int, v = .int .i64 r0 ∧ R r0 H'
theorem brackenref1_Nth.C_mono {a0l_p : Option Addr} {a0l_l a0l_c : Nat} {a1lo : Int} {a2hi : Int} {a3s : Int} {a4j : Int} {H : Heap} {R R' : Int → Heap → Prop} (h : brackenref1_Nth.C a0l_p a0l_l a0l_c a1lo a2hi a3s a4j H R) (hr : ∀ r0 H', R r0 H' → R' r0 H') : brackenref1_Nth.C a0l_p a0l_l a0l_c a1lo a2hi a3s a4j H R' :=
  Ev.Fn.mono h fun _ _ ⟨r0, hv, hh⟩ => ⟨r0, hv, hr _ _ hh⟩
def brackenlaw6_WaveAsks.C (a0l_p : Option Addr) (a0l_l a0l_c : Nat) (a1sigma : Int) (a2k : Int) (a3s : Int) (a4lo : Int) (a5hi : Int) (H : Heap) (R : Bool → Heap → Prop) : Prop := Ev.Fn Tryd.prog 7 #[.slice a0l_p a0l_l a0l_c, .int .i64 a1sigma, .int .i64 a2k, .int .i64 a3s, .int .i64 a4lo, .int .i64 a5hi] H fun v H' => ∃ r0 : Bool, v = .bool r0 ∧ R r0 H'
theorem brackenlaw6_WaveAsks.C_mono {a0l_p : Option Addr} {a0l_l a0l_c : Nat} {a1sigma : Int} {a2k : Int} {a3s : Int} {a4lo : Int} {a5hi : Int} {H : Heap} {R R' : Bool → Heap → Prop} (h : brackenlaw6_WaveAsks.C a0l_p a0l_l a0l_c a1sigma a2k a3s a4lo a5hi H R) (hr : ∀ r0 H', R r0 H' → R' r0 H') : brackenlaw6_WaveAsks.C a0l_p a0l_l a0l_c a1sigma a2k a3s a4lo a5hi H R' :=
  Ev.Fn.mono h fun _ _ ⟨r0, hv, hh⟩ => ⟨r0, hv, hr _ _ hh⟩
end Go.Proofs.YtkjgbophokcdbaaDoor
