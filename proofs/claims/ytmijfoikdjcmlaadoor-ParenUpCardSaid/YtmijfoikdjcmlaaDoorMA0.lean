import Derived.Test.YtmijfoikdjcmlaaDoorEvSound
import Derived.Test.YtmijfoikdjcmlaaDoorProg
import Derived.KernelRfl
namespace Go.Proofs.YtmijfoikdjcmlaaDoor
open Go.Ev
set_option linter.unusedVariables false
theorem progOk_ : progOk Tryd.prog = true := by kernel_rfl
abbrev ty_int : Nat := 3
abbrev ty_bool : Nat := 4
abbrev ty_any : Nat := 20
abbrev ty_s_int : Nat := 22
abbrev ty_paren_Paren : Nat := 48
abbrev ty_bits_Bits : Nat := 57
abbrev ty_bits_part : Nat := 59
abbrev gl_bits_deBruijn64tab : Nat := 0
abbrev gt_bits_deBruijn64tab : Nat := 64
abbrev ge_bits_deBruijn64tab : Nat := 5
def brackenlaw5_Row.C (a0l_p : Option Addr) (a0l_l a0l_c : Nat) (a1most : Int) (H : Heap) (R : Option Addr → Nat → Nat → Heap → Prop) : Prop := Ev.Fn Tryd.prog 11 #[.slice a0l_p a0l_l a0l_c, .int .i64 a1most] H fun v H' => ∃ (r0_p : Option Addr) (r0_l r0_c : Nat), v = .slice r0_p r0_l r0_c ∧ R r0_p r0_l r0_c H'
theorem brackenlaw5_Row.C_mono {a0l_p : Option Addr} {a0l_l a0l_c : Nat} {a1most : Int} {H : Heap} {R R' : Option Addr → Nat → Nat → Heap → Prop} (h : brackenlaw5_Row.C a0l_p a0l_l a0l_c a1most H R) (hr : ∀ r0_p r0_l r0_c H', R r0_p r0_l r0_c H' → R' r0_p r0_l r0_c H') : brackenlaw5_Row.C a0l_p a0l_l a0l_c a1most H R' :=
  Ev.Fn.mono h fun _ _ ⟨r0_p, r0_l, r0_c, hv, hh⟩ => ⟨r0_p, r0_l, r0_c, hv, hr _ _ _ _ hh⟩
def paren_May.C (a0l_p : Option Addr) (a0l_l a0l_c : Nat) (H : Heap) (R : Bool → Heap → Prop) : Prop := Ev.Fn Tryd.prog 24 #[.slice a0l_p a0l_l a0l_c] H fun v H' => ∃ r0 : Bool, v = .bool r0 ∧ R r0 H'
theorem paren_May.C_mono {a0l_p : Option Addr} {a0l_l a0l_c : Nat} {H : Heap} {R R' : Bool → Heap → Prop} (h : paren_May.C a0l_p a0l_l a0l_c H R) (hr : ∀ r0 H', R r0 H' → R' r0 H') : paren_May.C a0l_p a0l_l a0l_c H R' :=
  Ev.Fn.mono h fun _ _ ⟨r0, hv, hh⟩ => ⟨r0, hv, hr _ _ hh⟩
def bits_OnesCount64.C (a0x : Int) (H : Heap) (R : Int → Heap → Prop) : Prop := Ev.Fn Tryd.prog 48 #[.int .u64 a0x] H fun v H' => ∃ r0 : Int, v = .int .i64 r0 ∧ R r0 H'
theorem bits_OnesCount64.C_mono {a0x : Int} {H : Heap} {R R' : Int → Heap → Prop} (h : bits_OnesCount64.C a0x H R) (hr : ∀ r0 H', R r0 H' → R' r0 H') : bits_OnesCount64.C a0x H R' :=
  Ev.Fn.mono h fun _ _ ⟨r0, hv, hh⟩ => ⟨r0, hv, hr _ _ hh⟩
def bits_New.C (a0l_p : Option Addr) (a0l_l a0l_c : Nat) (H : Heap) (R : Option Addr → Int → Heap → Prop) : Prop := Ev.Fn Tryd.prog 36 #[.slice a0l_p a0l_l a0l_c] H fun v H' => ∃ r0 : Option Addr, ∃ r1 : Int, v = .tuple #[.pointer r0, .int .i64 r1] ∧ R r0 r1 H'
theorem bits_New.C_mono {a0l_p : Option Addr} {a0l_l a0l_c : Nat} {H : Heap} {R R' : Option Addr → Int → Heap → Prop} (h : bits_New.C a0l_p a0l_l a0l_c H R) (hr : ∀ r0 r1 H', R r0 r1 H' → R' r0 r1 H') : bits_New.C a0l_p a0l_l a0l_c H R' :=
  Ev.Fn.mono h fun _ _ ⟨r0, r1, hv, hh⟩ => ⟨r0, r1, hv, hr _ _ _ hh⟩
def paren_New.C (a0l_p : Option Addr) (a0l_l a0l_c : Nat) (H : Heap) (R : Option Addr → Int → Heap → Prop) : Prop := Ev.Fn Tryd.prog 12 #[.slice a0l_p a0l_l a0l_c] H fun v H' => ∃ r0 : Option Addr, ∃ r1 : Int, v = .tuple #[.pointer r0, .int .i64 r1] ∧ R r0 r1 H'
theorem paren_New.C_mono {a0l_p : Option Addr} {a0l_l a0l_c : Nat} {H : Heap} {R R' : Option Addr → Int → Heap → Prop} (h : paren_New.C a0l_p a0l_l a0l_c H R) (hr : ∀ r0 r1 H', R r0 r1 H' → R' r0 r1 H') : paren_New.C a0l_p a0l_l a0l_c H R' :=
  Ev.Fn.mono h fun _ _ ⟨r0, r1, hv, hh⟩ => ⟨r0, r1, hv, hr _ _ _ hh⟩
def bits_Bits_Len.C (a0b : Option Addr) (H : Heap) (R : Int → Heap → Prop) : Prop := Ev.Fn Tryd.prog 44 #[.pointer a0b] H fun v H' => ∃ r0 : Int, v = .int .i64 r0 ∧ R r0 H'
theorem bits_Bits_Len.C_mono {a0b : Option Addr} {H : Heap} {R R' : Int → Heap → Prop} (h : bits_Bits_Len.C a0b H R) (hr : ∀ r0 H', R r0 H' → R' r0 H') : bits_Bits_Len.C a0b H R' :=
  Ev.Fn.mono h fun _ _ ⟨r0, hv, hh⟩ => ⟨r0, hv, hr _ _ hh⟩
def bits_Bits_at.C (a0b : Option Addr) (a1k : Int) (H : Heap) (R : Int → Int → Heap → Prop) : Prop := Ev.Fn Tryd.prog 52 #[.pointer a0b, .int .i64 a1k] H fun v H' => ∃ r0_0 : Int, ∃ r0_1 : Int, v = .agg #[.int .u64 r0_0, .int .i64 r0_1] ∧ R r0_0 r0_1 H'
theorem bits_Bits_at.C_mono {a0b : Option Addr} {a1k : Int} {H : Heap} {R R' : Int → Int → Heap → Prop} (h : bits_Bits_at.C a0b a1k H R) (hr : ∀ r0_0 r0_1 H', R r0_0 r0_1 H' → R' r0_0 r0_1 H') : bits_Bits_at.C a0b a1k H R' :=
  Ev.Fn.mono h fun _ _ ⟨r0_0, r0_1, hv, hh⟩ => ⟨r0_0, r0_1, hv, hr _ _ _ hh⟩
def bits_Bits_Get.C (a0b : Option Addr) (a1k : Int) (H : Heap) (R : Bool → Int → Heap → Prop) : Prop := Ev.Fn Tryd.prog 43 #[.pointer a0b, .int .i64 a1k] H fun v H' => ∃ r0 : Bool, ∃ r1 : Int, v = .tuple #[.bool r0, .int .i64 r1] ∧ R r0 r1 H'
theorem bits_Bits_Get.C_mono {a0b : Option Addr} {a1k : Int} {H : Heap} {R R' : Bool → Int → Heap → Prop} (h : bits_Bits_Get.C a0b a1k H R) (hr : ∀ r0 r1 H', R r0 r1 H' → R' r0 r1 H') : bits_Bits_Get.C a0b a1k H R' :=
  Ev.Fn.mono h fun _ _ ⟨r0, r1, hv, hh⟩ => ⟨r0, r1, hv, hr _ _ _ hh⟩
def paren_Paren_Open.C (a0p : Option Addr) (a1k : Int) (H : Heap) (R : Bool → Heap → Prop) : Prop := Ev.Fn Tryd.prog 22 #[.pointer a0p, .int .i64 a1k] H fun v H' => ∃ r0 : Bool, v = .bool r0 ∧ R r0 H'
theorem paren_Paren_Open.C_mono {a0p : Option Addr} {a1k : Int} {H : Heap} {R R' : Bool → Heap → Prop} (h : paren_Paren_Open.C a0p a1k H R) (hr : ∀ r0 H', R r0 H' → R' r0 H') : paren_Paren_Open.C a0p a1k H R' :=
  Ev.Fn.mono h fun _ _ ⟨r0, hv, hh⟩ => ⟨r0, hv, hr _ _ hh⟩
def paren_Paren_Len.C (a0p : Option Addr) (H : Heap) (R : Int → Heap → Prop) : Prop := Ev.Fn Tryd.prog 26 #[.pointer a0p] H fun v H' => ∃ r0 : Int, v = .int .i64 r0 ∧ R r0 H'
theorem paren_Paren_Len.C_mono {a0p : Option Addr} {H : Heap} {R R' : Int → Heap → Prop} (h : paren_Paren_Len.C a0p H R) (hr : ∀ r0 H', R r0 H' → R' r0 H') : paren_Paren_Len.C a0p H R' :=
  Ev.Fn.mono h fun _ _ ⟨r0, hv, hh⟩ => ⟨r0, hv, hr _ _ hh⟩
def bits_Bits_Rank.C (a0b : Option Addr) (a1k : Int) (a2bit : Bool) (H : Heap) (R : Int → Heap → Prop) : Prop := Ev.Fn Tryd.prog 41 #[.pointer a0b, .int .i64 a1k, .bool a2bit] H fun v H' => ∃ r0 : Int, v = .int .i64 r0 ∧ R r0 H'
theorem bits_Bits_Rank.C_mono {a0b : Option Addr} {a1k : Int} {a2bit : Bool} {H : Heap} {R R' : Int → Heap → Prop} (h : bits_Bits_Rank.C a0b a1k a2bit H R) (hr : ∀ r0 H', R r0 H' → R' r0 H') : bits_Bits_Rank.C a0b a1k a2bit H R' :=
  Ev.Fn.mono h fun _ _ ⟨r0, hv, hh⟩ => ⟨r0, hv, hr _ _ hh⟩
def paren_Paren_upto.C (a0p : Option Addr) (a1k : Int) (H : Heap) (R : Int → Heap → Prop) : Prop := Ev.Fn Tryd.prog 38 #[.pointer a0p, .int .i64 a1k] H fun v H' => ∃ r0 : Int, v = .int .i64 r0 ∧ R r0 H'
theorem paren_Paren_upto.C_mono {a0p : Option Addr} {a1k : Int} {H : Heap} {R R' : Int → Heap → Prop} (h : paren_Paren_upto.C a0p a1k H R) (hr : ∀ r0 H', R r0 H' → R' r0 H') : paren_Paren_upto.C a0p a1k H R' :=
  Ev.Fn.mono h fun _ _ ⟨r0, hv, hh⟩ => ⟨r0, hv, hr _ _ hh⟩
def paren_Paren_ahead.C (a0p : Option Addr) (a1k : Int) (a2to : Int) (H : Heap) (R : Int → Heap → Prop) : Prop := Ev.Fn Tryd.prog 49 #[.pointer a0p, .int .i64 a1k, .int .i64 a2to] H fun v H' => ∃ r0 : Int, v = .int .i64 r0 ∧ R r0 H'
theorem paren_Paren_ahead.C_mono {a0p : Option Addr} {a1k : Int} {a2to : Int} {H : Heap} {R R' : Int → Heap → Prop} (h : paren_Paren_ahead.C a0p a1k a2to H R) (hr : ∀ r0 H', R r0 H' → R' r0 H') : paren_Paren_ahead.C a0p a1k a2to H R' :=
  Ev.Fn.mono h fun _ _ ⟨r0, hv, hh⟩ => ⟨r0, hv, hr _ _ hh⟩
def paren_Paren_low.C (a0p : Option Addr) (a1node : Int) (a2to : Int) (H : Heap) (R : Bool → Heap → Prop) : Prop := Ev.Fn Tryd.prog 50 #[.pointer a0p, .int .i64 a1node, .int .i64 a2to] H fun v H' => ∃ r0 : Bool, v = .bool r0 ∧ R r0 H'
theorem paren_Paren_low.C_mono {a0p : Option Addr} {a1node : Int} {a2to : Int} {H : Heap} {R R' : Bool → Heap → Prop} (h : paren_Paren_low.C a0p a1node a2to H R) (hr : ∀ r0 H', R r0 H' → R' r0 H') : paren_Paren_low.C a0p a1node a2to H R' :=
  Ev.Fn.mono h fun _ _ ⟨r0, hv, hh⟩ => ⟨r0, hv, hr _ _ hh⟩
def paren_Paren_forward.C (a0p : Option Addr) (a1k : Int) (a2to : Int) (H : Heap) (R : Int → Heap → Prop) : Prop := Ev.Fn Tryd.prog 37 #[.pointer a0p, .int .i64 a1k, .int .i64 a2to] H fun v H' => ∃ r0 : Int, v = .int .i64 r0 ∧ R r0 H'
theorem paren_Paren_forward.C_mono {a0p : Option Addr} {a1k : Int} {a2to : Int} {H : Heap} {R R' : Int → Heap → Prop} (h : paren_Paren_forward.C a0p a1k a2to H R) (hr : ∀ r0 H', R r0 H' → R' r0 H') : paren_Paren_forward.C a0p a1k a2to H R' :=
  Ev.Fn.mono h fun _ _ ⟨r0, hv, hh⟩ => ⟨r0, hv, hr _ _ hh⟩
def paren_Paren_Close.C (a0p : Option Addr) (a1k : Int) (H : Heap) (R : Int → Heap → Prop) : Prop := Ev.Fn Tryd.prog 13 #[.pointer a0p, .int .i64 a1k] H fun v H' => ∃ r0 : Int, v = .int .i64 r0 ∧ R r0 H'
theorem paren_Paren_Close.C_mono {a0p : Option Addr} {a1k : Int} {H : Heap} {R R' : Int → Heap → Prop} (h : paren_Paren_Close.C a0p a1k H R) (hr : ∀ r0 H', R r0 H' → R' r0 H') : paren_Paren_Close.C a0p a1k H R' :=
  Ev.Fn.mono h fun _ _ ⟨r0, hv, hh⟩ => ⟨r0, hv, hr _ _ hh⟩
def paren_Paren_closes.C (a0p : Option Addr) (a1k : Int) (H : Heap) (R : Bool → Heap → Prop) : Prop := Ev.Fn Tryd.prog 39 #[.pointer a0p, .int .i64 a1k] H fun v H' => ∃ r0 : Bool, v = .bool r0 ∧ R r0 H'
theorem paren_Paren_closes.C_mono {a0p : Option Addr} {a1k : Int} {H : Heap} {R R' : Bool → Heap → Prop} (h : paren_Paren_closes.C a0p a1k H R) (hr : ∀ r0 H', R r0 H' → R' r0 H') : paren_Paren_closes.C a0p a1k H R' :=
  Ev.Fn.mono h fun _ _ ⟨r0, hv, hh⟩ => ⟨r0, hv, hr _ _ hh⟩
def paren_Paren_behind.C (a0p : Option Addr) (a1k : Int) (a2from : Int) (a3to : Int) (H : Heap) (R : Int → Heap → Prop) : Prop := Ev.Fn Tryd.prog 51 #[.pointer a0p, .int .i64 a1k, .int .i64 a2from, .int .i64 a3to] H fun v H' => ∃ r0 : Int, v = .int .i64 r0 ∧ R r0 H'
theorem paren_Paren_behind.C_mono {a0p : Option Addr} {a1k : Int} {a2from : Int} {a3to : Int} {H : Heap} {R R' : Int → Heap → Prop} (h : paren_Paren_behind.C a0p a1k a2from a3to H R) (hr : ∀ r0 H', R r0 H' → R' r0 H') : paren_Paren_behind.C a0p a1k a2from a3to H R' :=
  Ev.Fn.mono h fun _ _ ⟨r0, hv, hh⟩ => ⟨r0, hv, hr _ _ hh⟩
def paren_Paren_backward.C (a0p : Option Addr) (a1k : Int) (a2to : Int) (H : Heap) (R : Int → Heap → Prop) : Prop := Ev.Fn Tryd.prog 40 #[.pointer a0p, .int .i64 a1k, .int .i64 a2to] H fun v H' => ∃ r0 : Int, v = .int .i64 r0 ∧ R r0 H'
theorem paren_Paren_backward.C_mono {a0p : Option Addr} {a1k : Int} {a2to : Int} {H : Heap} {R R' : Int → Heap → Prop} (h : paren_Paren_backward.C a0p a1k a2to H R) (hr : ∀ r0 H', R r0 H' → R' r0 H') : paren_Paren_backward.C a0p a1k a2to H R' :=
  Ev.Fn.mono h fun _ _ ⟨r0, hv, hh⟩ => ⟨r0, hv, hr _ _ hh⟩
def paren_Paren_Begin.C (a0p : Option Addr) (a1k : Int) (H : Heap) (R : Int → Heap → Prop) : Prop := Ev.Fn Tryd.prog 14 #[.pointer a0p, .int .i64 a1k] H fun v H' => ∃ r0 : Int, v = .int .i64 r0 ∧ R r0 H'
theorem paren_Paren_Begin.C_mono {a0p : Option Addr} {a1k : Int} {H : Heap} {R R' : Int → Heap → Prop} (h : paren_Paren_Begin.C a0p a1k H R) (hr : ∀ r0 H', R r0 H' → R' r0 H') : paren_Paren_Begin.C a0p a1k H R' :=
  Ev.Fn.mono h fun _ _ ⟨r0, hv, hh⟩ => ⟨r0, hv, hr _ _ hh⟩
def paren_Paren_Span.C (a0p : Option Addr) (a1k : Int) (H : Heap) (R : Int → Heap → Prop) : Prop := Ev.Fn Tryd.prog 15 #[.pointer a0p, .int .i64 a1k] H fun v H' => ∃ r0 : Int, v = .int .i64 r0 ∧ R r0 H'
theorem paren_Paren_Span.C_mono {a0p : Option Addr} {a1k : Int} {H : Heap} {R R' : Int → Heap → Prop} (h : paren_Paren_Span.C a0p a1k H R) (hr : ∀ r0 H', R r0 H' → R' r0 H') : paren_Paren_Span.C a0p a1k H R' :=
  Ev.Fn.mono h fun _ _ ⟨r0, hv, hh⟩ => ⟨r0, hv, hr _ _ hh⟩
def paren_Paren_Number.C (a0p : Option Addr) (a1k : Int) (H : Heap) (R : Int → Heap → Prop) : Prop := Ev.Fn Tryd.prog 16 #[.pointer a0p, .int .i64 a1k] H fun v H' => ∃ r0 : Int, v = .int .i64 r0 ∧ R r0 H'
theorem paren_Paren_Number.C_mono {a0p : Option Addr} {a1k : Int} {H : Heap} {R R' : Int → Heap → Prop} (h : paren_Paren_Number.C a0p a1k H R) (hr : ∀ r0 H', R r0 H' → R' r0 H') : paren_Paren_Number.C a0p a1k H R' :=
  Ev.Fn.mono h fun _ _ ⟨r0, hv, hh⟩ => ⟨r0, hv, hr _ _ hh⟩
def paren_Paren_Excess.C (a0p : Option Addr) (a1k : Int) (H : Heap) (R : Int → Heap → Prop) : Prop := Ev.Fn Tryd.prog 17 #[.pointer a0p, .int .i64 a1k] H fun v H' => ∃ r0 : Int, v = .int .i64 r0 ∧ R r0 H'
theorem paren_Paren_Excess.C_mono {a0p : Option Addr} {a1k : Int} {H : Heap} {R R' : Int → Heap → Prop} (h : paren_Paren_Excess.C a0p a1k H R) (hr : ∀ r0 H', R r0 H' → R' r0 H') : paren_Paren_Excess.C a0p a1k H R' :=
  Ev.Fn.mono h fun _ _ ⟨r0, hv, hh⟩ => ⟨r0, hv, hr _ _ hh⟩
def paren_Paren_Up.C (a0p : Option Addr) (a1k : Int) (a2n : Int) (H : Heap) (R : Int → Heap → Prop) : Prop := Ev.Fn Tryd.prog 18 #[.pointer a0p, .int .i64 a1k, .int .i64 a2n] H fun v H' => ∃ r0 : Int, v = .int .i64 r0 ∧ R r0 H'
theorem paren_Paren_Up.C_mono {a0p : Option Addr} {a1k : Int} {a2n : Int} {H : Heap} {R R' : Int → Heap → Prop} (h : paren_Paren_Up.C a0p a1k a2n H R) (hr : ∀ r0 H', R r0 H' → R' r0 H') : paren_Paren_Up.C a0p a1k a2n H R' :=
  Ev.Fn.mono h fun _ _ ⟨r0, hv, hh⟩ => ⟨r0, hv, hr _ _ hh⟩
def bits_TrailingZeros64.C (a0x : Int) (H : Heap) (R : Int → Heap → Prop) : Prop := Ev.Fn Tryd.prog 53 #[.int .u64 a0x] H fun v H' => ∃ r0 : Int, v = .int .i64 r0 ∧ R r0 H'
theorem bits_TrailingZeros64.C_mono {a0x : Int} {H : Heap} {R R' : Int → Heap → Prop} (h : bits_TrailingZeros64.C a0x H R) (hr : ∀ r0 H', R r0 H' → R' r0 H') : bits_TrailingZeros64.C a0x H R' :=
  Ev.Fn.mono h fun _ _ ⟨r0, hv, hh⟩ => ⟨r0, hv, hr _ _ hh⟩
def bits_Bits_Select.C (a0b : Option Addr) (a1j : Int) (a2bit : Bool) (H : Heap) (R : Int → Heap → Prop) : Prop := Ev.Fn Tryd.prog 42 #[.pointer a0b, .int .i64 a1j, .bool a2bit] H fun v H' => ∃ r0 : Int, v = .int .i64 r0 ∧ R r0 H'
theorem bits_Bits_Select.C_mono {a0b : Option Addr} {a1j : Int} {a2bit : Bool} {H : Heap} {R R' : Int → Heap → Prop} (h : bits_Bits_Select.C a0b a1j a2bit H R) (hr : ∀ r0 H', R r0 H' → R' r0 H') : bits_Bits_Select.C a0b a1j a2bit H R' :=
  Ev.Fn.mono h fun _ _ ⟨r0, hv, hh⟩ => ⟨r0, hv, hr _ _ hh⟩
def paren_Paren_Place.C (a0p : Option Addr) (a1n : Int) (H : Heap) (R : Int → Heap → Prop) : Prop := Ev.Fn Tryd.prog 19 #[.pointer a0p, .int .i64 a1n] H fun v H' => ∃ r0 : Int, v = .int .i64 r0 ∧ R r0 H'
theorem paren_Paren_Place.C_mono {a0p : Option Addr} {a1n : Int} {H : Heap} {R R' : Int → Heap → Prop} (h : paren_Paren_Place.C a0p a1n H R) (hr : ∀ r0 H', R r0 H' → R' r0 H') : paren_Paren_Place.C a0p a1n H R' :=
  Ev.Fn.mono h fun _ _ ⟨r0, hv, hh⟩ => ⟨r0, hv, hr _ _ hh⟩
def paren_Paren_Enclose.C (a0p : Option Addr) (a1k : Int) (H : Heap) (R : Int → Heap → Prop) : Prop := Ev.Fn Tryd.prog 21 #[.pointer a0p, .int .i64 a1k] H fun v H' => ∃ r0 : Int, v = .int .i64 r0 ∧ R r0 H'
theorem paren_Paren_Enclose.C_mono {a0p : Option Addr} {a1k : Int} {H : Heap} {R R' : Int → Heap → Prop} (h : paren_Paren_Enclose.C a0p a1k H R) (hr : ∀ r0 H', R r0 H' → R' r0 H') : paren_Paren_Enclose.C a0p a1k H R' :=
  Ev.Fn.mono h fun _ _ ⟨r0, hv, hh⟩ => ⟨r0, hv, hr _ _ hh⟩
def brackenlaw5_told.C  (H : Heap) (R : Bool → Heap → Prop) : Prop := Ev.Fn Tryd.prog 20 #[] H fun v H' => ∃ r0 : Bool, v = .bool r0 ∧ R r0 H'
theorem brackenlaw5_told.C_mono  {H : Heap} {R R' : Bool → Heap → Prop} (h : brackenlaw5_told.C  H R) (hr : ∀ r0 H', R r0 H' → R' r0 H') : brackenlaw5_told.C  H R' :=
  Ev.Fn.mono h fun _ _ ⟨r0, hv, hh⟩ => ⟨r0, hv, hr _ _ hh⟩
def brackenlaw5_ParenNone.C (a0l_p : Option Addr) (a0l_l a0l_c : Nat) (a1k : Int) (H : Heap) (R : Bool → Heap → Prop) : Prop := Ev.Fn Tryd.prog 3 #[.slice a0l_p a0l_l a0l_c, .int .i64 a1k] H fun v H' => ∃ r0 : Bool, v = .bool r0 ∧ R r0 H'
theorem brackenlaw5_ParenNone.C_mono {a0l_p : Option Addr} {a0l_l a0l_c : Nat} {a1k : Int} {H : Heap} {R R' : Bool → Heap → Prop} (h : brackenlaw5_ParenNone.C a0l_p a0l_l a0l_c a1k H R) (hr : ∀ r0 H', R r0 H' → R' r0 H') : brackenlaw5_ParenNone.C a0l_p a0l_l a0l_c a1k H R' :=
  Ev.Fn.mono h fun _ _ ⟨r0, hv, hh⟩ => ⟨r0, hv, hr _ _ hh⟩
def brackenref1_MayParen.C (a0l_p : Option Addr) (a0l_l a0l_c : Nat) (H : Heap) (R : Bool → Heap → Prop) : Prop := Ev.Fn Tryd.prog 23 #[.slice a0l_p a0l_l a0l_c] H fun v H' => ∃ r0 : Bool, v = .bool r0 ∧ R r0 H'
theorem brackenref1_MayParen.C_mono {a0l_p : Option Addr} {a0l_l a0l_c : Nat} {H : Heap} {R R' : Bool → Heap → Prop} (h : brackenref1_MayParen.C a0l_p a0l_l a0l_c H R) (hr : ∀ r0 H', R r0 H' → R' r0 H') : brackenref1_MayParen.C a0l_p a0l_l a0l_c H R' :=
  Ev.Fn.mono h fun _ _ ⟨r0, hv, hh⟩ => ⟨r0, hv, hr _ _ hh⟩
def brackenlaw5_ParenRaw.C (a0l_p : Option Addr) (a0l_l a0l_c : Nat) (H : Heap) (R : Bool → Heap → Prop) : Prop := Ev.Fn Tryd.prog 4 #[.slice a0l_p a0l_l a0l_c] H fun v H' => ∃ r0 : Bool, v = .bool r0 ∧ R r0 H'
theorem brackenlaw5_ParenRaw.C_mono {a0l_p : Option Addr} {a0l_l a0l_c : Nat} {H : Heap} {R R' : Bool → Heap → Prop} (h : brackenlaw5_ParenRaw.C a0l_p a0l_l a0l_c H R) (hr : ∀ r0 H', R r0 H' → R' r0 H') : brackenlaw5_ParenRaw.C a0l_p a0l_l a0l_c H R' :=
  Ev.Fn.mono h fun _ _ ⟨r0, hv, hh⟩ => ⟨r0, hv, hr _ _ hh⟩
def brackenlaw5_ParenPairs.C (a0l_p : Option Addr) (a0l_l a0l_c : Nat) (H : Heap) (R : Bool → Heap → Prop) : Prop := Ev.Fn Tryd.prog 5 #[.slice a0l_p a0l_l a0l_c] H fun v H' => ∃ r0 : Bool, v = .bool r0 ∧ R r0 H'
theorem brackenlaw5_ParenPairs.C_mono {a0l_p : Option Addr} {a0l_l a0l_c : Nat} {H : Heap} {R R' : Bool → Heap → Prop} (h : brackenlaw5_ParenPairs.C a0l_p a0l_l a0l_c H R) (hr : ∀ r0 H', R r0 H' → R' r0 H') : brackenlaw5_ParenPairs.C a0l_p a0l_l a0l_c H R' :=
  Ev.Fn.mono h fun _ _ ⟨r0, hv, hh⟩ => ⟨r0, hv, hr _ _ hh⟩
def brackenref1_Rank.C (a0l_p : Option Addr) (a0l_l a0l_c : Nat) (a1k : Int) (a2bit : Bool) (H : Heap) (R : Int → Heap → Prop) : Prop := Ev.Fn Tryd.prog 25 #[.slice a0l_p a0l_l a0l_c, .int .i64 a1k, .bool a2bit] H fun v H' => ∃ r0 : Int, v = .int .i64 r0 ∧ R r0 H'
theorem brackenref1_Rank.C_mono {a0l_p : Option Addr} {a0l_l a0l_c : Nat} {a1k : Int} {a2bit : Bool} {H : Heap} {R R' : Int → Heap → Prop} (h : brackenref1_Rank.C a0l_p a0l_l a0l_c a1k a2bit H R) (hr : ∀ r0 H', R r0 H' → R' r0 H') : brackenref1_Rank.C a0l_p a0l_l a0l_c a1k a2bit H R' :=
  Ev.Fn.mono h fun _ _ ⟨r0, hv, hh⟩ => ⟨r0, hv, hr _ _ hh⟩
def brackenlaw5_ParenSpans.C (a0l_p : Option Addr) (a0l_l a0l_c : Nat) (H : Heap) (R : Bool → Heap → Prop) : Prop := Ev.Fn Tryd.prog 6 #[.slice a0l_p a0l_l a0l_c] H fun v H' => ∃ r0 : Bool, v = .bool r0 ∧ R r0 H'
theorem brackenlaw5_ParenSpans.C_mono {a0l_p : Option Addr} {a0l_l a0l_c : Nat} {H : Heap} {R R' : Bool → Heap → Prop} (h : brackenlaw5_ParenSpans.C a0l_p a0l_l a0l_c H R) (hr : ∀ r0 H', R r0 H' → R' r0 H') : brackenlaw5_ParenSpans.C a0l_p a0l_l a0l_c H R' :=
  Ev.Fn.mono h fun _ _ ⟨r0, hv, hh⟩ => ⟨r0, hv, hr _ _ hh⟩
def brackenref1_has.C (a0l_p : Option Addr) (a0l_l a0l_c : Nat) (a1k : Int) (H : Heap) (R : Bool → Heap → Prop) : Prop := Ev.Fn Tryd.prog 45 #[.slice a0l_p a0l_l a0l_c, .int .i64 a1k] H fun v H' => ∃ r0 : Bool, v = .bool r0 ∧ R r0 H'
theorem brackenref1_has.C_mono {a0l_p : Option Addr} {a0l_l a0l_c : Nat} {a1k : Int} {H : Heap} {R R' : Bool → Heap → Prop} (h : brackenref1_has.C a0l_p a0l_l a0l_c a1k H R) (hr : ∀ r0 H', R r0 H' → R' r0 H') : brackenref1_has.C a0l_p a0l_l a0l_c a1k H R' :=
  Ev.Fn.mono h fun _ _ ⟨r0, hv, hh⟩ => ⟨r0, hv, hr _ _ hh⟩
def brackenref1_Excess.C (a0l_p : Option Addr) (a0l_l a0l_c : Nat) (a1k : Int) (H : Heap) (R : Int → Heap → Prop) : Prop := Ev.Fn Tryd.prog 27 #[.slice a0l_p a0l_l a0l_c, .int .i64 a1k] H fun v H' => ∃ r0 : Int, v = .int .i64 r0 ∧ R r0 H'
theorem brackenref1_Excess.C_mono {a0l_p : Option Addr} {a0l_l a0l_c : Nat} {a1k : Int} {H : Heap} {R R' : Int → Heap → Prop} (h : brackenref1_Excess.C a0l_p a0l_l a0l_c a1k H R) (hr : ∀ r0 H', R r0 H' → R' r0 H') : brackenref1_Excess.C a0l_p a0l_l a0l_c a1k H R' :=
  Ev.Fn.mono h fun _ _ ⟨r0, hv, hh⟩ => ⟨r0, hv, hr _ _ hh⟩
def brackenref1_Close.C (a0l_p : Option Addr) (a0l_l a0l_c : Nat) (a1k : Int) (H : Heap) (R : Int → Heap → Prop) : Prop := Ev.Fn Tryd.prog 28 #[.slice a0l_p a0l_l a0l_c, .int .i64 a1k] H fun v H' => ∃ r0 : Int, v = .int .i64 r0 ∧ R r0 H'
theorem brackenref1_Close.C_mono {a0l_p : Option Addr} {a0l_l a0l_c : Nat} {a1k : Int} {H : Heap} {R R' : Int → Heap → Prop} (h : brackenref1_Close.C a0l_p a0l_l a0l_c a1k H R) (hr : ∀ r0 H', R r0 H' → R' r0 H') : brackenref1_Close.C a0l_p a0l_l a0l_c a1k H R' :=
  Ev.Fn.mono h fun _ _ ⟨r0, hv, hh⟩ => ⟨r0, hv, hr _ _ hh⟩
def paren_Paren_Steps.C (a0p : Option Addr) (H : Heap) (R : Int → Heap → Prop) : Prop := Ev.Fn Tryd.prog 46 #[.pointer a0p] H fun v H' => ∃ r0 : Int, v = .int .i64 r0 ∧ R r0 H'
theorem paren_Paren_Steps.C_mono {a0p : Option Addr} {H : Heap} {R R' : Int → Heap → Prop} (h : paren_Paren_Steps.C a0p H R) (hr : ∀ r0 H', R r0 H' → R' r0 H') : paren_Paren_Steps.C a0p H R' :=
  Ev.Fn.mono h fun _ _ ⟨r0, hv, hh⟩ => ⟨r0, hv, hr _ _ hh⟩
def brackenref1_Width.C (a0n : Int) (H : Heap) (R : Int → Heap → Prop) : Prop := Ev.Fn Tryd.prog 47 #[.int .u64 a0n] H fun v H' => ∃ r0 : Int, v = .int .i64 r0 ∧ R r0 H'
theorem brackenref1_Width.C_mono {a0n : Int} {H : Heap} {R R' : Int → Heap → Prop} (h : brackenref1_Width.C a0n H R) (hr : ∀ r0 H', R r0 H' → R' r0 H') : brackenref1_Width.C a0n H R' :=
  Ev.Fn.mono h fun _ _ ⟨r0, hv, hh⟩ => ⟨r0, hv, hr _ _ hh⟩
def brackenlaw5_steps.C (a0p : Option Addr) (H : Heap) (R : Bool → Heap → Prop) : Prop := Ev.Fn Tryd.prog 29 #[.pointer a0p] H fun v H' => ∃ r0 : Bool, v = .bool r0 ∧ R r0 H'
theorem brackenlaw5_steps.C_mono {a0p : Option Addr} {H : Heap} {R R' : Bool → Heap → Prop} (h : brackenlaw5_steps.C a0p H R) (hr : ∀ r0 H', R r0 H' → R' r0 H') : brackenlaw5_steps.C a0p H R' :=
  Ev.Fn.mono h fun _ _ ⟨r0, hv, hh⟩ => ⟨r0, hv, hr _ _ hh⟩
def brackenref1_Begin.C (a0l_p : Option Addr) (a0l_l a0l_c : Nat) (a1k : Int) (H : Heap) (R : Int → Heap → Prop) : Prop := Ev.Fn Tryd.prog 30 #[.slice a0l_p a0l_l a0l_c, .int .i64 a1k] H fun v H' => ∃ r0 : Int, v = .int .i64 r0 ∧ R r0 H'
theorem brackenref1_Begin.C_mono {a0l_p : Option Addr} {a0l_l a0l_c : Nat} {a1k : Int} {H : Heap} {R R' : Int → Heap → Prop} (h : brackenref1_Begin.C a0l_p a0l_l a0l_c a1k H R) (hr : ∀ r0 H', R r0 H' → R' r0 H') : brackenref1_Begin.C a0l_p a0l_l a0l_c a1k H R' :=
  Ev.Fn.mono h fun _ _ ⟨r0, hv, hh⟩ => ⟨r0, hv, hr _ _ hh⟩
def brackenref1_Enclose.C (a0l_p : Option Addr) (a0l_l a0l_c : Nat) (a1k : Int) (H : Heap) (R : Int → Heap → Prop) : Prop := Ev.Fn Tryd.prog 31 #[.slice a0l_p a0l_l a0l_c, .int .i64 a1k] H fun v H' => ∃ r0 : Int, v = .int .i64 r0 ∧ R r0 H'
theorem brackenref1_Enclose.C_mono {a0l_p : Option Addr} {a0l_l a0l_c : Nat} {a1k : Int} {H : Heap} {R R' : Int → Heap → Prop} (h : brackenref1_Enclose.C a0l_p a0l_l a0l_c a1k H R) (hr : ∀ r0 H', R r0 H' → R' r0 H') : brackenref1_Enclose.C a0l_p a0l_l a0l_c a1k H R' :=
  Ev.Fn.mono h fun _ _ ⟨r0, hv, hh⟩ => ⟨r0, hv, hr _ _ hh⟩
def brackenref1_Up.C (a0l_p : Option Addr) (a0l_l a0l_c : Nat) (a1k : Int) (a2n : Int) (H : Heap) (R : Int → Heap → Prop) : Prop := Ev.Fn Tryd.prog 32 #[.slice a0l_p a0l_l a0l_c, .int .i64 a1k, .int .i64 a2n] H fun v H' => ∃ r0 : Int, v = .int .i64 r0 ∧ R r0 H'
theorem brackenref1_Up.C_mono {a0l_p : Option Addr} {a0l_l a0l_c : Nat} {a1k : Int} {a2n : Int} {H : Heap} {R R' : Int → Heap → Prop} (h : brackenref1_Up.C a0l_p a0l_l a0l_c a1k a2n H R) (hr : ∀ r0 H', R r0 H' → R' r0 H') : brackenref1_Up.C a0l_p a0l_l a0l_c a1k a2n H R' :=
  Ev.Fn.mono h fun _ _ ⟨r0, hv, hh⟩ => ⟨r0, hv, hr _ _ hh⟩
def brackenref1_Select.C (a0l_p : Option Addr) (a0l_l a0l_c : Nat) (a1j : Int) (a2bit : Bool) (H : Heap) (R : Int → Heap → Prop) : Prop := Ev.Fn Tryd.prog 33 #[.slice a0l_p a0l_l a0l_c, .int .i64 a1j, .bool a2bit] H fun v H' => ∃ r0 : Int, v = .int .i64 r0 ∧ R r0 H'
theorem brackenref1_Select.C_mono {a0l_p : Option Addr} {a0l_l a0l_c : Nat} {a1j : Int} {a2bit : Bool} {H : Heap} {R R' : Int → Heap → Prop} (h : brackenref1_Select.C a0l_p a0l_l a0l_c a1j a2bit H R) (hr : ∀ r0 H', R r0 H' → R' r0 H') : brackenref1_Select.C a0l_p a0l_l a0l_c a1j a2bit H R' :=
  Ev.Fn.mono h fun _ _ ⟨r0, hv, hh⟩ => ⟨r0, hv, hr _ _ hh⟩
def brackenref1_Number.C (a0l_p : Option Addr) (a0l_l a0l_c : Nat) (a1k : Int) (H : Heap) (R : Int → Heap → Prop) : Prop := Ev.Fn Tryd.prog 34 #[.slice a0l_p a0l_l a0l_c, .int .i64 a1k] H fun v H' => ∃ r0 : Int, v = .int .i64 r0 ∧ R r0 H'
theorem brackenref1_Number.C_mono {a0l_p : Option Addr} {a0l_l a0l_c : Nat} {a1k : Int} {H : Heap} {R R' : Int → Heap → Prop} (h : brackenref1_Number.C a0l_p a0l_l a0l_c a1k H R) (hr : ∀ r0 H', R r0 H' → R' r0 H') : brackenref1_Number.C a0l_p a0l_l a0l_c a1k H R' :=
  Ev.Fn.mono h fun _ _ ⟨r0, hv, hh⟩ => ⟨r0, hv, hr _ _ hh⟩
def brackenref1_Span.C (a0l_p : Option Addr) (a0l_l a0l_c : Nat) (a1k : Int) (H : Heap) (R : Int → Heap → Prop) : Prop := Ev.Fn Tryd.prog 35 #[.slice a0l_p a0l_l a0l_c, .int .i64 a1k] H fun v H' => ∃ r0 : Int, v = .int .i64 r0 ∧ R r0 H'
theorem brackenref1_Span.C_mono {a0l_p : Option Addr} {a0l_l a0l_c : Nat} {a1k : Int} {H : Heap} {R R' : Int → Heap → Prop} (h : brackenref1_Span.C a0l_p a0l_l a0l_c a1k H R) (hr : ∀ r0 H', R r0 H' → R' r0 H') : brackenref1_Span.C a0l_p a0l_l a0l_c a1k H R' :=
  Ev.Fn.mono h fun _ _ ⟨r0, hv, hh⟩ => ⟨r0, hv, hr _ _ hh⟩
def brackenlaw5_ParenAsks.C (a0l_p : Option Addr) (a0l_l a0l_c : Nat) (a1k : Int) (a2n : Int) (H : Heap) (R : Bool → Heap → Prop) : Prop := Ev.Fn Tryd.prog 7 #[.slice a0l_p a0l_l a0l_c, .int .i64 a1k, .int .i64 a2n] H fun v H' => ∃ r0 : Bool, v = .bool r0 ∧ R r0 H'
theorem brackenlaw5_ParenAsks.C_mono {a0l_p : Option Addr} {a0l_l a0l_c : Nat} {a1k : Int} {a2n : Int} {H : Heap} {R R' : Bool → Heap → Prop} (h : brackenlaw5_ParenAsks.C a0l_p a0l_l a0l_c a1k a2n H R) (hr : ∀ r0 H', R r0 H' → R' r0 H') : brackenlaw5_ParenAsks.C a0l_p a0l_l a0l_c a1k a2n H R' :=
  Ev.Fn.mono h fun _ _ ⟨r0, hv, hh⟩ => ⟨r0, hv, hr _ _ hh⟩
def brackenlaw5_ParenDeep.C (a0n : Int) (a1k : Int) (a2j : Int) (H : Heap) (R : Bool → Heap → Prop) : Prop := Ev.Fn Tryd.prog 8 #[.int .i64 a0n, .int .i64 a1k, .int .i64 a2j] H fun v H' => ∃ r0 : Bool, v = .bool r0 ∧ R r0 H'
theorem brackenlaw5_ParenDeep.C_mono {a0n : Int} {a1k : Int} {a2j : Int} {H : Heap} {R R' : Bool → Heap → Prop} (h : brackenlaw5_ParenDeep.C a0n a1k a2j H R) (hr : ∀ r0 H', R r0 H' → R' r0 H') : brackenlaw5_ParenDeep.C a0n a1k a2j H R' :=
  Ev.Fn.mono h fun _ _ ⟨r0, hv, hh⟩ => ⟨r0, hv, hr _ _ hh⟩
def brackenlaw5_ParenWide.C (a0n : Int) (a1k : Int) (H : Heap) (R : Bool → Heap → Prop) : Prop := Ev.Fn Tryd.prog 9 #[.int .i64 a0n, .int .i64 a1k] H fun v H' => ∃ r0 : Bool, v = .bool r0 ∧ R r0 H'
theorem brackenlaw5_ParenWide.C_mono {a0n : Int} {a1k : Int} {H : Heap} {R R' : Bool → Heap → Prop} (h : brackenlaw5_ParenWide.C a0n a1k H R) (hr : ∀ r0 H', R r0 H' → R' r0 H') : brackenlaw5_ParenWide.C a0n a1k H R' :=
  Ev.Fn.mono h fun _ _ ⟨r0, hv, hh⟩ => ⟨r0, hv, hr _ _ hh⟩
def brackenlaw5_ParenUp.C (a0l_p : Option Addr) (a0l_l a0l_c : Nat) (a1k : Int) (H : Heap) (R : Bool → Heap → Prop) : Prop := Ev.Fn Tryd.prog 10 #[.slice a0l_p a0l_l a0l_c, .int .i64 a1k] H fun v H' => ∃ r0 : Bool, v = .bool r0 ∧ R r0 H'
theorem brackenlaw5_ParenUp.C_mono {a0l_p : Option Addr} {a0l_l a0l_c : Nat} {a1k : Int} {H : Heap} {R R' : Bool → Heap → Prop} (h : brackenlaw5_ParenUp.C a0l_p a0l_l a0l_c a1k H R) (hr : ∀ r0 H', R r0 H' → R' r0 H') : brackenlaw5_ParenUp.C a0l_p a0l_l a0l_c a1k H R' :=
  Ev.Fn.mono h fun _ _ ⟨r0, hv, hh⟩ => ⟨r0, hv, hr _ _ hh⟩
end Go.Proofs.YtmijfoikdjcmlaaDoor
