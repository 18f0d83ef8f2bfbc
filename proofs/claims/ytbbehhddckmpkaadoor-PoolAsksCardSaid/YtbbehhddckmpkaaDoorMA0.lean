import Derived.Test.YtbbehhddckmpkaaDoorEvSound
import Derived.Test.YtbbehhddckmpkaaDoorProg
import Derived.KernelRfl
namespace Go.Proofs.YtbbehhddckmpkaaDoor
open Go.Ev
set_option linter.unusedVariables false
theorem progOk_ : progOk Tryd.prog = true := by kernel_rfl
abbrev ty_int : Nat := 3
abbrev ty_bool : Nat := 4
abbrev ty_uint8 : Nat := 5
abbrev ty_string : Nat := 9
abbrev ty_any : Nat := 20
abbrev ty_p_offs_Offs : Nat := 38
abbrev ty_pool_Pool : Nat := 43
abbrev ty_offs_Offs : Nat := 49
abbrev ty_uint64 : Nat := 51
abbrev ty_s_uint64 : Nat := 53
abbrev ty_p_bits_Bits : Nat := 54
abbrev ty_p_ints_Ints : Nat := 57
abbrev ty_bits_Bits : Nat := 78
abbrev ty_bits_part : Nat := 80
abbrev ty_ints_Ints : Nat := 82
abbrev gl_bits_deBruijn64tab : Nat := 0
abbrev gt_bits_deBruijn64tab : Nat := 91
abbrev ge_bits_deBruijn64tab : Nat := 5
def bits_Len64.C (a0x : Int) (H : Heap) (R : Int → Heap → Prop) : Prop := Ev.Fn Tryd.prog 33 #[.int .u64 a0x] H fun v H' => ∃ r0 : Int, v = .int .i64 r0 ∧ R r0 H'
theorem bits_Len64.C_mono {a0x : Int} {H : Heap} {R R' : Int → Heap → Prop} (h : bits_Len64.C a0x H R) (hr : ∀ r0 H', R r0 H' → R' r0 H') : bits_Len64.C a0x H R' :=
  Ev.Fn.mono h fun _ _ ⟨r0, hv, hh⟩ => ⟨r0, hv, hr _ _ hh⟩
def ints_Width.C (a0n : Int) (H : Heap) (R : Int → Heap → Prop) : Prop := Ev.Fn Tryd.prog 20 #[.int .u64 a0n] H fun v H' => ∃ r0 : Int, v = .int .i64 r0 ∧ R r0 H'
theorem ints_Width.C_mono {a0n : Int} {H : Heap} {R R' : Int → Heap → Prop} (h : ints_Width.C a0n H R) (hr : ∀ r0 H', R r0 H' → R' r0 H') : ints_Width.C a0n H R' :=
  Ev.Fn.mono h fun _ _ ⟨r0, hv, hh⟩ => ⟨r0, hv, hr _ _ hh⟩
def bits_OnesCount64.C (a0x : Int) (H : Heap) (R : Int → Heap → Prop) : Prop := Ev.Fn Tryd.prog 34 #[.int .u64 a0x] H fun v H' => ∃ r0 : Int, v = .int .i64 r0 ∧ R r0 H'
theorem bits_OnesCount64.C_mono {a0x : Int} {H : Heap} {R R' : Int → Heap → Prop} (h : bits_OnesCount64.C a0x H R) (hr : ∀ r0 H', R r0 H' → R' r0 H') : bits_OnesCount64.C a0x H R' :=
  Ev.Fn.mono h fun _ _ ⟨r0, hv, hh⟩ => ⟨r0, hv, hr _ _ hh⟩
def bits_New.C (a0l_p : Option Addr) (a0l_l a0l_c : Nat) (H : Heap) (R : Option Addr → Int → Heap → Prop) : Prop := Ev.Fn Tryd.prog 21 #[.slice a0l_p a0l_l a0l_c] H fun v H' => ∃ r0 : Option Addr, ∃ r1 : Int, v = .tuple #[.pointer r0, .int .i64 r1] ∧ R r0 r1 H'
theorem bits_New.C_mono {a0l_p : Option Addr} {a0l_l a0l_c : Nat} {H : Heap} {R R' : Option Addr → Int → Heap → Prop} (h : bits_New.C a0l_p a0l_l a0l_c H R) (hr : ∀ r0 r1 H', R r0 r1 H' → R' r0 r1 H') : bits_New.C a0l_p a0l_l a0l_c H R' :=
  Ev.Fn.mono h fun _ _ ⟨r0, r1, hv, hh⟩ => ⟨r0, r1, hv, hr _ _ _ hh⟩
def slices_Max_uint64_uint64.C (a0x_p : Option Addr) (a0x_l a0x_c : Nat) (H : Heap) (R : Int → Heap → Prop) : Prop := Ev.Fn Tryd.prog 35 #[.slice a0x_p a0x_l a0x_c] H fun v H' => ∃ r0 : Int, v = .int .u64 r0 ∧ R r0 H'
theorem slices_Max_uint64_uint64.C_mono {a0x_p : Option Addr} {a0x_l a0x_c : Nat} {H : Heap} {R R' : Int → Heap → Prop} (h : slices_Max_uint64_uint64.C a0x_p a0x_l a0x_c H R) (hr : ∀ r0 H', R r0 H' → R' r0 H') : slices_Max_uint64_uint64.C a0x_p a0x_l a0x_c H R' :=
  Ev.Fn.mono h fun _ _ ⟨r0, hv, hh⟩ => ⟨r0, hv, hr _ _ hh⟩
def ints_New.C (a0l_p : Option Addr) (a0l_l a0l_c : Nat) (H : Heap) (R : Option Addr → Heap → Prop) : Prop := Ev.Fn Tryd.prog 22 #[.slice a0l_p a0l_l a0l_c] H fun v H' => ∃ r0 : Option Addr, v = .pointer r0 ∧ R r0 H'
theorem ints_New.C_mono {a0l_p : Option Addr} {a0l_l a0l_c : Nat} {H : Heap} {R R' : Option Addr → Heap → Prop} (h : ints_New.C a0l_p a0l_l a0l_c H R) (hr : ∀ r0 H', R r0 H' → R' r0 H') : ints_New.C a0l_p a0l_l a0l_c H R' :=
  Ev.Fn.mono h fun _ _ ⟨r0, hv, hh⟩ => ⟨r0, hv, hr _ _ hh⟩
def offs_New.C (a0l_p : Option Addr) (a0l_l a0l_c : Nat) (H : Heap) (R : Option Addr → Int → Heap → Prop) : Prop := Ev.Fn Tryd.prog 14 #[.slice a0l_p a0l_l a0l_c] H fun v H' => ∃ r0 : Option Addr, ∃ r1 : Int, v = .tuple #[.pointer r0, .int .i64 r1] ∧ R r0 r1 H'
theorem offs_New.C_mono {a0l_p : Option Addr} {a0l_l a0l_c : Nat} {H : Heap} {R R' : Option Addr → Int → Heap → Prop} (h : offs_New.C a0l_p a0l_l a0l_c H R) (hr : ∀ r0 r1 H', R r0 r1 H' → R' r0 r1 H') : offs_New.C a0l_p a0l_l a0l_c H R' :=
  Ev.Fn.mono h fun _ _ ⟨r0, r1, hv, hh⟩ => ⟨r0, r1, hv, hr _ _ _ hh⟩
def abi_NoEscape.C (a0 : Value) (H : Heap) (R : Value → Heap → Prop) : Prop := Ev.Fn Tryd.prog 45 #[a0] H fun v H' => ∃ r0 : Value, v = r0 ∧ R r0 H'
theorem abi_NoEscape.C_mono {a0 : Value} {H : Heap} {R R' : Value → Heap → Prop} (h : abi_NoEscape.C a0 H R) (hr : ∀ r0 H', R r0 H' → R' r0 H') : abi_NoEscape.C a0 H R' :=
  Ev.Fn.mono h fun _ _ ⟨r0, hv, hh⟩ => ⟨r0, hv, hr _ _ hh⟩
def strings_Builder_copyCheck.C (a0b : Option Addr) (H : Heap) (R : Heap → Prop) : Prop := Ev.Fn Tryd.prog 36 #[.pointer a0b] H fun v H' => v = .tuple #[] ∧ R H'
theorem strings_Builder_copyCheck.C_mono {a0b : Option Addr} {H : Heap} {R R' : Heap → Prop} (h : strings_Builder_copyCheck.C a0b H R) (hr : ∀ H', R H' → R' H') : strings_Builder_copyCheck.C a0b H R' :=
  Ev.Fn.mono h fun _ _ ⟨hv, hh⟩ => ⟨hv, hr _ hh⟩
def bytealg_MakeNoZero.C (a0 : Int) (H : Heap) (R : Option Addr → Nat → Nat → Heap → Prop) : Prop := Ev.Fn Tryd.prog 46 #[.int .i64 a0] H fun v H' => ∃ (r0_p : Option Addr) (r0_l r0_c : Nat), v = .slice r0_p r0_l r0_c ∧ R r0_p r0_l r0_c H'
theorem bytealg_MakeNoZero.C_mono {a0 : Int} {H : Heap} {R R' : Option Addr → Nat → Nat → Heap → Prop} (h : bytealg_MakeNoZero.C a0 H R) (hr : ∀ r0_p r0_l r0_c H', R r0_p r0_l r0_c H' → R' r0_p r0_l r0_c H') : bytealg_MakeNoZero.C a0 H R' :=
  Ev.Fn.mono h fun _ _ ⟨r0_p, r0_l, r0_c, hv, hh⟩ => ⟨r0_p, r0_l, r0_c, hv, hr _ _ _ _ hh⟩
def strings_Builder_grow.C (a0b : Option Addr) (a1n : Int) (H : Heap) (R : Heap → Prop) : Prop := Ev.Fn Tryd.prog 37 #[.pointer a0b, .int .i64 a1n] H fun v H' => v = .tuple #[] ∧ R H'
theorem strings_Builder_grow.C_mono {a0b : Option Addr} {a1n : Int} {H : Heap} {R R' : Heap → Prop} (h : strings_Builder_grow.C a0b a1n H R) (hr : ∀ H', R H' → R' H') : strings_Builder_grow.C a0b a1n H R' :=
  Ev.Fn.mono h fun _ _ ⟨hv, hh⟩ => ⟨hv, hr _ hh⟩
def strings_Builder_Grow.C (a0b : Option Addr) (a1n : Int) (H : Heap) (R : Heap → Prop) : Prop := Ev.Fn Tryd.prog 23 #[.pointer a0b, .int .i64 a1n] H fun v H' => v = .tuple #[] ∧ R H'
theorem strings_Builder_Grow.C_mono {a0b : Option Addr} {a1n : Int} {H : Heap} {R R' : Heap → Prop} (h : strings_Builder_Grow.C a0b a1n H R) (hr : ∀ H', R H' → R' H') : strings_Builder_Grow.C a0b a1n H R' :=
  Ev.Fn.mono h fun _ _ ⟨hv, hh⟩ => ⟨hv, hr _ hh⟩
def strings_Builder_WriteString.C (a0b : Option Addr) (a1s : ByteArray) (H : Heap) (R : Int → Value → Heap → Prop) : Prop := Ev.Fn Tryd.prog 24 #[.pointer a0b, .string a1s] H fun v H' => ∃ r0 : Int, ∃ r1 : Value, v = .tuple #[.int .i64 r0, r1] ∧ R r0 r1 H'
theorem strings_Builder_WriteString.C_mono {a0b : Option Addr} {a1s : ByteArray} {H : Heap} {R R' : Int → Value → Heap → Prop} (h : strings_Builder_WriteString.C a0b a1s H R) (hr : ∀ r0 r1 H', R r0 r1 H' → R' r0 r1 H') : strings_Builder_WriteString.C a0b a1s H R' :=
  Ev.Fn.mono h fun _ _ ⟨r0, r1, hv, hh⟩ => ⟨r0, r1, hv, hr _ _ _ hh⟩
def strings_Builder_String.C (a0b : Option Addr) (H : Heap) (R : ByteArray → Heap → Prop) : Prop := Ev.Fn Tryd.prog 25 #[.pointer a0b] H fun v H' => ∃ r0 : ByteArray, v = .string r0 ∧ R r0 H'
theorem strings_Builder_String.C_mono {a0b : Option Addr} {H : Heap} {R R' : ByteArray → Heap → Prop} (h : strings_Builder_String.C a0b H R) (hr : ∀ r0 H', R r0 H' → R' r0 H') : strings_Builder_String.C a0b H R' :=
  Ev.Fn.mono h fun _ _ ⟨r0, hv, hh⟩ => ⟨r0, hv, hr _ _ hh⟩
def strings_Join.C (a0elems_p : Option Addr) (a0elems_l a0elems_c : Nat) (a1sep : ByteArray) (H : Heap) (R : ByteArray → Heap → Prop) : Prop := Ev.Fn Tryd.prog 15 #[.slice a0elems_p a0elems_l a0elems_c, .string a1sep] H fun v H' => ∃ r0 : ByteArray, v = .string r0 ∧ R r0 H'
theorem strings_Join.C_mono {a0elems_p : Option Addr} {a0elems_l a0elems_c : Nat} {a1sep : ByteArray} {H : Heap} {R R' : ByteArray → Heap → Prop} (h : strings_Join.C a0elems_p a0elems_l a0elems_c a1sep H R) (hr : ∀ r0 H', R r0 H' → R' r0 H') : strings_Join.C a0elems_p a0elems_l a0elems_c a1sep H R' :=
  Ev.Fn.mono h fun _ _ ⟨r0, hv, hh⟩ => ⟨r0, hv, hr _ _ hh⟩
def pool_New.C (a0l_p : Option Addr) (a0l_l a0l_c : Nat) (H : Heap) (R : Option Addr → Int → Heap → Prop) : Prop := Ev.Fn Tryd.prog 8 #[.slice a0l_p a0l_l a0l_c] H fun v H' => ∃ r0 : Option Addr, ∃ r1 : Int, v = .tuple #[.pointer r0, .int .i64 r1] ∧ R r0 r1 H'
theorem pool_New.C_mono {a0l_p : Option Addr} {a0l_l a0l_c : Nat} {H : Heap} {R R' : Option Addr → Int → Heap → Prop} (h : pool_New.C a0l_p a0l_l a0l_c H R) (hr : ∀ r0 r1 H', R r0 r1 H' → R' r0 r1 H') : pool_New.C a0l_p a0l_l a0l_c H R' :=
  Ev.Fn.mono h fun _ _ ⟨r0, r1, hv, hh⟩ => ⟨r0, r1, hv, hr _ _ _ hh⟩
def pool_Pool_Len.C (a0p : Option Addr) (H : Heap) (R : Int → Heap → Prop) : Prop := Ev.Fn Tryd.prog 10 #[.pointer a0p] H fun v H' => ∃ r0 : Int, v = .int .i64 r0 ∧ R r0 H'
theorem pool_Pool_Len.C_mono {a0p : Option Addr} {H : Heap} {R R' : Int → Heap → Prop} (h : pool_Pool_Len.C a0p H R) (hr : ∀ r0 H', R r0 H' → R' r0 H') : pool_Pool_Len.C a0p H R' :=
  Ev.Fn.mono h fun _ _ ⟨r0, hv, hh⟩ => ⟨r0, hv, hr _ _ hh⟩
def pool_Pool_places.C (a0p : Option Addr) (H : Heap) (R : Option Addr → Heap → Prop) : Prop := Ev.Fn Tryd.prog 16 #[.pointer a0p] H fun v H' => ∃ r0 : Option Addr, v = .pointer r0 ∧ R r0 H'
theorem pool_Pool_places.C_mono {a0p : Option Addr} {H : Heap} {R R' : Option Addr → Heap → Prop} (h : pool_Pool_places.C a0p H R) (hr : ∀ r0 H', R r0 H' → R' r0 H') : pool_Pool_places.C a0p H R' :=
  Ev.Fn.mono h fun _ _ ⟨r0, hv, hh⟩ => ⟨r0, hv, hr _ _ hh⟩
def offs_Offs_Len.C (a0o : Option Addr) (H : Heap) (R : Int → Heap → Prop) : Prop := Ev.Fn Tryd.prog 26 #[.pointer a0o] H fun v H' => ∃ r0 : Int, v = .int .i64 r0 ∧ R r0 H'
theorem offs_Offs_Len.C_mono {a0o : Option Addr} {H : Heap} {R R' : Int → Heap → Prop} (h : offs_Offs_Len.C a0o H R) (hr : ∀ r0 H', R r0 H' → R' r0 H') : offs_Offs_Len.C a0o H R' :=
  Ev.Fn.mono h fun _ _ ⟨r0, hv, hh⟩ => ⟨r0, hv, hr _ _ hh⟩
def ints_Ints_Len.C (a0a : Option Addr) (H : Heap) (R : Int → Heap → Prop) : Prop := Ev.Fn Tryd.prog 38 #[.pointer a0a] H fun v H' => ∃ r0 : Int, v = .int .i64 r0 ∧ R r0 H'
theorem ints_Ints_Len.C_mono {a0a : Option Addr} {H : Heap} {R R' : Int → Heap → Prop} (h : ints_Ints_Len.C a0a H R) (hr : ∀ r0 H', R r0 H' → R' r0 H') : ints_Ints_Len.C a0a H R' :=
  Ev.Fn.mono h fun _ _ ⟨r0, hv, hh⟩ => ⟨r0, hv, hr _ _ hh⟩
def ints_Ints_Get.C (a0a : Option Addr) (a1k : Int) (H : Heap) (R : Int → Int → Heap → Prop) : Prop := Ev.Fn Tryd.prog 27 #[.pointer a0a, .int .i64 a1k] H fun v H' => ∃ r0 : Int, ∃ r1 : Int, v = .tuple #[.int .u64 r0, .int .i64 r1] ∧ R r0 r1 H'
theorem ints_Ints_Get.C_mono {a0a : Option Addr} {a1k : Int} {H : Heap} {R R' : Int → Int → Heap → Prop} (h : ints_Ints_Get.C a0a a1k H R) (hr : ∀ r0 r1 H', R r0 r1 H' → R' r0 r1 H') : ints_Ints_Get.C a0a a1k H R' :=
  Ev.Fn.mono h fun _ _ ⟨r0, r1, hv, hh⟩ => ⟨r0, r1, hv, hr _ _ _ hh⟩
def bits_Bits_Len.C (a0b : Option Addr) (H : Heap) (R : Int → Heap → Prop) : Prop := Ev.Fn Tryd.prog 40 #[.pointer a0b] H fun v H' => ∃ r0 : Int, v = .int .i64 r0 ∧ R r0 H'
theorem bits_Bits_Len.C_mono {a0b : Option Addr} {H : Heap} {R R' : Int → Heap → Prop} (h : bits_Bits_Len.C a0b H R) (hr : ∀ r0 H', R r0 H' → R' r0 H') : bits_Bits_Len.C a0b H R' :=
  Ev.Fn.mono h fun _ _ ⟨r0, hv, hh⟩ => ⟨r0, hv, hr _ _ hh⟩
def bits_Bits_at.C (a0b : Option Addr) (a1k : Int) (H : Heap) (R : Int → Int → Heap → Prop) : Prop := Ev.Fn Tryd.prog 41 #[.pointer a0b, .int .i64 a1k] H fun v H' => ∃ r0_0 : Int, ∃ r0_1 : Int, v = .agg #[.int .u64 r0_0, .int .i64 r0_1] ∧ R r0_0 r0_1 H'
theorem bits_Bits_at.C_mono {a0b : Option Addr} {a1k : Int} {H : Heap} {R R' : Int → Int → Heap → Prop} (h : bits_Bits_at.C a0b a1k H R) (hr : ∀ r0_0 r0_1 H', R r0_0 r0_1 H' → R' r0_0 r0_1 H') : bits_Bits_at.C a0b a1k H R' :=
  Ev.Fn.mono h fun _ _ ⟨r0_0, r0_1, hv, hh⟩ => ⟨r0_0, r0_1, hv, hr _ _ _ hh⟩
def bits_Bits_Rank.C (a0b : Option Addr) (a1k : Int) (a2bit : Bool) (H : Heap) (R : Int → Heap → Prop) : Prop := Ev.Fn Tryd.prog 39 #[.pointer a0b, .int .i64 a1k, .bool a2bit] H fun v H' => ∃ r0 : Int, v = .int .i64 r0 ∧ R r0 H'
theorem bits_Bits_Rank.C_mono {a0b : Option Addr} {a1k : Int} {a2bit : Bool} {H : Heap} {R R' : Int → Heap → Prop} (h : bits_Bits_Rank.C a0b a1k a2bit H R) (hr : ∀ r0 H', R r0 H' → R' r0 H') : bits_Bits_Rank.C a0b a1k a2bit H R' :=
  Ev.Fn.mono h fun _ _ ⟨r0, hv, hh⟩ => ⟨r0, hv, hr _ _ hh⟩
def bits_TrailingZeros64.C (a0x : Int) (H : Heap) (R : Int → Heap → Prop) : Prop := Ev.Fn Tryd.prog 42 #[.int .u64 a0x] H fun v H' => ∃ r0 : Int, v = .int .i64 r0 ∧ R r0 H'
theorem bits_TrailingZeros64.C_mono {a0x : Int} {H : Heap} {R R' : Int → Heap → Prop} (h : bits_TrailingZeros64.C a0x H R) (hr : ∀ r0 H', R r0 H' → R' r0 H') : bits_TrailingZeros64.C a0x H R' :=
  Ev.Fn.mono h fun _ _ ⟨r0, hv, hh⟩ => ⟨r0, hv, hr _ _ hh⟩
def bits_Bits_Select.C (a0b : Option Addr) (a1j : Int) (a2bit : Bool) (H : Heap) (R : Int → Heap → Prop) : Prop := Ev.Fn Tryd.prog 28 #[.pointer a0b, .int .i64 a1j, .bool a2bit] H fun v H' => ∃ r0 : Int, v = .int .i64 r0 ∧ R r0 H'
theorem bits_Bits_Select.C_mono {a0b : Option Addr} {a1j : Int} {a2bit : Bool} {H : Heap} {R R' : Int → Heap → Prop} (h : bits_Bits_Select.C a0b a1j a2bit H R) (hr : ∀ r0 H', R r0 H' → R' r0 H') : bits_Bits_Select.C a0b a1j a2bit H R' :=
  Ev.Fn.mono h fun _ _ ⟨r0, hv, hh⟩ => ⟨r0, hv, hr _ _ hh⟩
def offs_Offs_Get.C (a0o : Option Addr) (a1k : Int) (H : Heap) (R : Int → Int → Heap → Prop) : Prop := Ev.Fn Tryd.prog 17 #[.pointer a0o, .int .i64 a1k] H fun v H' => ∃ r0 : Int, ∃ r1 : Int, v = .tuple #[.int .i64 r0, .int .i64 r1] ∧ R r0 r1 H'
theorem offs_Offs_Get.C_mono {a0o : Option Addr} {a1k : Int} {H : Heap} {R R' : Int → Int → Heap → Prop} (h : offs_Offs_Get.C a0o a1k H R) (hr : ∀ r0 r1 H', R r0 r1 H' → R' r0 r1 H') : offs_Offs_Get.C a0o a1k H R' :=
  Ev.Fn.mono h fun _ _ ⟨r0, r1, hv, hh⟩ => ⟨r0, r1, hv, hr _ _ _ hh⟩
def pool_Pool_Get.C (a0p : Option Addr) (a1k : Int) (H : Heap) (R : ByteArray → Int → Heap → Prop) : Prop := Ev.Fn Tryd.prog 9 #[.pointer a0p, .int .i64 a1k] H fun v H' => ∃ r0 : ByteArray, ∃ r1 : Int, v = .tuple #[.string r0, .int .i64 r1] ∧ R r0 r1 H'
theorem pool_Pool_Get.C_mono {a0p : Option Addr} {a1k : Int} {H : Heap} {R R' : ByteArray → Int → Heap → Prop} (h : pool_Pool_Get.C a0p a1k H R) (hr : ∀ r0 r1 H', R r0 r1 H' → R' r0 r1 H') : pool_Pool_Get.C a0p a1k H R' :=
  Ev.Fn.mono h fun _ _ ⟨r0, r1, hv, hh⟩ => ⟨r0, r1, hv, hr _ _ _ hh⟩
def pool_Pool_Bytes.C (a0p : Option Addr) (H : Heap) (R : Int → Heap → Prop) : Prop := Ev.Fn Tryd.prog 11 #[.pointer a0p] H fun v H' => ∃ r0 : Int, v = .int .i64 r0 ∧ R r0 H'
theorem pool_Pool_Bytes.C_mono {a0p : Option Addr} {H : Heap} {R R' : Int → Heap → Prop} (h : pool_Pool_Bytes.C a0p H R) (hr : ∀ r0 H', R r0 H' → R' r0 H') : pool_Pool_Bytes.C a0p H R' :=
  Ev.Fn.mono h fun _ _ ⟨r0, hv, hh⟩ => ⟨r0, hv, hr _ _ hh⟩
def brackenlaw8_told.C  (H : Heap) (R : Bool → Heap → Prop) : Prop := Ev.Fn Tryd.prog 7 #[] H fun v H' => ∃ r0 : Bool, v = .bool r0 ∧ R r0 H'
theorem brackenlaw8_told.C_mono  {H : Heap} {R R' : Bool → Heap → Prop} (h : brackenlaw8_told.C  H R) (hr : ∀ r0 H', R r0 H' → R' r0 H') : brackenlaw8_told.C  H R' :=
  Ev.Fn.mono h fun _ _ ⟨r0, hv, hh⟩ => ⟨r0, hv, hr _ _ hh⟩
def brackenlaw8_PoolEmpty.C (a0n : Int) (a1at : Int) (a2s : ByteArray) (H : Heap) (R : Bool → Heap → Prop) : Prop := Ev.Fn Tryd.prog 3 #[.int .i64 a0n, .int .i64 a1at, .string a2s] H fun v H' => ∃ r0 : Bool, v = .bool r0 ∧ R r0 H'
theorem brackenlaw8_PoolEmpty.C_mono {a0n : Int} {a1at : Int} {a2s : ByteArray} {H : Heap} {R R' : Bool → Heap → Prop} (h : brackenlaw8_PoolEmpty.C a0n a1at a2s H R) (hr : ∀ r0 H', R r0 H' → R' r0 H') : brackenlaw8_PoolEmpty.C a0n a1at a2s H R' :=
  Ev.Fn.mono h fun _ _ ⟨r0, hv, hh⟩ => ⟨r0, hv, hr _ _ hh⟩
def brackenlaw8_PoolRow.C (a0l_p : Option Addr) (a0l_l a0l_c : Nat) (H : Heap) (R : Bool → Heap → Prop) : Prop := Ev.Fn Tryd.prog 4 #[.slice a0l_p a0l_l a0l_c] H fun v H' => ∃ r0 : Bool, v = .bool r0 ∧ R r0 H'
theorem brackenlaw8_PoolRow.C_mono {a0l_p : Option Addr} {a0l_l a0l_c : Nat} {H : Heap} {R R' : Bool → Heap → Prop} (h : brackenlaw8_PoolRow.C a0l_p a0l_l a0l_c H R) (hr : ∀ r0 H', R r0 H' → R' r0 H') : brackenlaw8_PoolRow.C a0l_p a0l_l a0l_c H R' :=
  Ev.Fn.mono h fun _ _ ⟨r0, hv, hh⟩ => ⟨r0, hv, hr _ _ hh⟩
def bits_Bound.C (a0n : Int) (H : Heap) (R : Int → Heap → Prop) : Prop := Ev.Fn Tryd.prog 29 #[.int .i64 a0n] H fun v H' => ∃ r0 : Int, v = .int .i64 r0 ∧ R r0 H'
theorem bits_Bound.C_mono {a0n : Int} {H : Heap} {R R' : Int → Heap → Prop} (h : bits_Bound.C a0n H R) (hr : ∀ r0 H', R r0 H' → R' r0 H') : bits_Bound.C a0n H R' :=
  Ev.Fn.mono h fun _ _ ⟨r0, hv, hh⟩ => ⟨r0, hv, hr _ _ hh⟩
def offs_Offs_Size.C (a0o : Option Addr) (H : Heap) (R : Int → Heap → Prop) : Prop := Ev.Fn Tryd.prog 18 #[.pointer a0o] H fun v H' => ∃ r0 : Int, v = .int .i64 r0 ∧ R r0 H'
theorem offs_Offs_Size.C_mono {a0o : Option Addr} {H : Heap} {R R' : Int → Heap → Prop} (h : offs_Offs_Size.C a0o H R) (hr : ∀ r0 H', R r0 H' → R' r0 H') : offs_Offs_Size.C a0o H R' :=
  Ev.Fn.mono h fun _ _ ⟨r0, hv, hh⟩ => ⟨r0, hv, hr _ _ hh⟩
def pool_Pool_Size.C (a0p : Option Addr) (H : Heap) (R : Int → Heap → Prop) : Prop := Ev.Fn Tryd.prog 12 #[.pointer a0p] H fun v H' => ∃ r0 : Int, v = .int .i64 r0 ∧ R r0 H'
theorem pool_Pool_Size.C_mono {a0p : Option Addr} {H : Heap} {R R' : Int → Heap → Prop} (h : pool_Pool_Size.C a0p H R) (hr : ∀ r0 H', R r0 H' → R' r0 H') : pool_Pool_Size.C a0p H R' :=
  Ev.Fn.mono h fun _ _ ⟨r0, hv, hh⟩ => ⟨r0, hv, hr _ _ hh⟩
def brackenlaw8_PoolSizes.C (a0l_p : Option Addr) (a0l_l a0l_c : Nat) (a1c : Int) (H : Heap) (R : Bool → Heap → Prop) : Prop := Ev.Fn Tryd.prog 5 #[.slice a0l_p a0l_l a0l_c, .int .u8 a1c] H fun v H' => ∃ r0 : Bool, v = .bool r0 ∧ R r0 H'
theorem brackenlaw8_PoolSizes.C_mono {a0l_p : Option Addr} {a0l_l a0l_c : Nat} {a1c : Int} {H : Heap} {R R' : Bool → Heap → Prop} (h : brackenlaw8_PoolSizes.C a0l_p a0l_l a0l_c a1c H R) (hr : ∀ r0 H', R r0 H' → R' r0 H') : brackenlaw8_PoolSizes.C a0l_p a0l_l a0l_c a1c H R' :=
  Ev.Fn.mono h fun _ _ ⟨r0, hv, hh⟩ => ⟨r0, hv, hr _ _ hh⟩
def brackenref1_begun.C (a0n : Int) (a1by : Int) (H : Heap) (R : Int → Heap → Prop) : Prop := Ev.Fn Tryd.prog 43 #[.int .i64 a0n, .int .i64 a1by] H fun v H' => ∃ r0 : Int, v = .int .i64 r0 ∧ R r0 H'
theorem brackenref1_begun.C_mono {a0n : Int} {a1by : Int} {H : Heap} {R R' : Int → Heap → Prop} (h : brackenref1_begun.C a0n a1by H R) (hr : ∀ r0 H', R r0 H' → R' r0 H') : brackenref1_begun.C a0n a1by H R' :=
  Ev.Fn.mono h fun _ _ ⟨r0, hv, hh⟩ => ⟨r0, hv, hr _ _ hh⟩
def brackenref1_BitsSize.C (a0n : Int) (H : Heap) (R : Int → Heap → Prop) : Prop := Ev.Fn Tryd.prog 30 #[.int .i64 a0n] H fun v H' => ∃ r0 : Int, v = .int .i64 r0 ∧ R r0 H'
theorem brackenref1_BitsSize.C_mono {a0n : Int} {H : Heap} {R R' : Int → Heap → Prop} (h : brackenref1_BitsSize.C a0n H R) (hr : ∀ r0 H', R r0 H' → R' r0 H') : brackenref1_BitsSize.C a0n H R' :=
  Ev.Fn.mono h fun _ _ ⟨r0, hv, hh⟩ => ⟨r0, hv, hr _ _ hh⟩
def brackenref1_Width.C (a0n : Int) (H : Heap) (R : Int → Heap → Prop) : Prop := Ev.Fn Tryd.prog 44 #[.int .u64 a0n] H fun v H' => ∃ r0 : Int, v = .int .i64 r0 ∧ R r0 H'
theorem brackenref1_Width.C_mono {a0n : Int} {H : Heap} {R R' : Int → Heap → Prop} (h : brackenref1_Width.C a0n H R) (hr : ∀ r0 H', R r0 H' → R' r0 H') : brackenref1_Width.C a0n H R' :=
  Ev.Fn.mono h fun _ _ ⟨r0, hv, hh⟩ => ⟨r0, hv, hr _ _ hh⟩
def brackenref1_Low.C (a0l_p : Option Addr) (a0l_l a0l_c : Nat) (H : Heap) (R : Int → Heap → Prop) : Prop := Ev.Fn Tryd.prog 31 #[.slice a0l_p a0l_l a0l_c] H fun v H' => ∃ r0 : Int, v = .int .i64 r0 ∧ R r0 H'
theorem brackenref1_Low.C_mono {a0l_p : Option Addr} {a0l_l a0l_c : Nat} {H : Heap} {R R' : Int → Heap → Prop} (h : brackenref1_Low.C a0l_p a0l_l a0l_c H R) (hr : ∀ r0 H', R r0 H' → R' r0 H') : brackenref1_Low.C a0l_p a0l_l a0l_c H R' :=
  Ev.Fn.mono h fun _ _ ⟨r0, hv, hh⟩ => ⟨r0, hv, hr _ _ hh⟩
def brackenref1_IntsSize.C (a0n : Int) (a1width : Int) (H : Heap) (R : Int → Heap → Prop) : Prop := Ev.Fn Tryd.prog 32 #[.int .i64 a0n, .int .i64 a1width] H fun v H' => ∃ r0 : Int, v = .int .i64 r0 ∧ R r0 H'
theorem brackenref1_IntsSize.C_mono {a0n : Int} {a1width : Int} {H : Heap} {R R' : Int → Heap → Prop} (h : brackenref1_IntsSize.C a0n a1width H R) (hr : ∀ r0 H', R r0 H' → R' r0 H') : brackenref1_IntsSize.C a0n a1width H R' :=
  Ev.Fn.mono h fun _ _ ⟨r0, hv, hh⟩ => ⟨r0, hv, hr _ _ hh⟩
def brackenref1_OffsSize.C (a0l_p : Option Addr) (a0l_l a0l_c : Nat) (H : Heap) (R : Int → Heap → Prop) : Prop := Ev.Fn Tryd.prog 19 #[.slice a0l_p a0l_l a0l_c] H fun v H' => ∃ r0 : Int, v = .int .i64 r0 ∧ R r0 H'
theorem brackenref1_OffsSize.C_mono {a0l_p : Option Addr} {a0l_l a0l_c : Nat} {H : Heap} {R R' : Int → Heap → Prop} (h : brackenref1_OffsSize.C a0l_p a0l_l a0l_c H R) (hr : ∀ r0 H', R r0 H' → R' r0 H') : brackenref1_OffsSize.C a0l_p a0l_l a0l_c H R' :=
  Ev.Fn.mono h fun _ _ ⟨r0, hv, hh⟩ => ⟨r0, hv, hr _ _ hh⟩
def brackenref1_PoolSize.C (a0l_p : Option Addr) (a0l_l a0l_c : Nat) (H : Heap) (R : Int → Heap → Prop) : Prop := Ev.Fn Tryd.prog 13 #[.slice a0l_p a0l_l a0l_c] H fun v H' => ∃ r0 : Int, v = .int .i64 r0 ∧ R r0 H'
theorem brackenref1_PoolSize.C_mono {a0l_p : Option Addr} {a0l_l a0l_c : Nat} {H : Heap} {R R' : Int → Heap → Prop} (h : brackenref1_PoolSize.C a0l_p a0l_l a0l_c H R) (hr : ∀ r0 H', R r0 H' → R' r0 H') : brackenref1_PoolSize.C a0l_p a0l_l a0l_c H R' :=
  Ev.Fn.mono h fun _ _ ⟨r0, hv, hh⟩ => ⟨r0, hv, hr _ _ hh⟩
def brackenlaw8_PoolAsks.C (a0l_p : Option Addr) (a0l_l a0l_c : Nat) (a1k : Int) (H : Heap) (R : Bool → Heap → Prop) : Prop := Ev.Fn Tryd.prog 6 #[.slice a0l_p a0l_l a0l_c, .int .i64 a1k] H fun v H' => ∃ r0 : Bool, v = .bool r0 ∧ R r0 H'
theorem brackenlaw8_PoolAsks.C_mono {a0l_p : Option Addr} {a0l_l a0l_c : Nat} {a1k : Int} {H : Heap} {R R' : Bool → Heap → Prop} (h : brackenlaw8_PoolAsks.C a0l_p a0l_l a0l_c a1k H R) (hr : ∀ r0 H', R r0 H' → R' r0 H') : brackenlaw8_PoolAsks.C a0l_p a0l_l a0l_c a1k H R' :=
  Ev.Fn.mono h fun _ _ ⟨r0, hv, hh⟩ => ⟨r0, hv, hr _ _ hh⟩
end Go.Proofs.YtbbehhddckmpkaaDoor
