import Derived.Test.YtojhnakgmihedaaDoorEvSound
import Derived.Test.YtojhnakgmihedaaDoorProg
import Derived.KernelRfl
namespace Go.Proofs.YtojhnakgmihedaaDoor
open Go.Ev
set_option linter.unusedVariables false
theorem progOk_ : progOk Tryd.prog = true := by kernel_rfl
abbrev ty_int : Nat := 3
abbrev ty_uint8 : Nat := 5
abbrev ty_string : Nat := 9
abbrev ty_any : Nat := 20
abbrev ty_s_api_Attr : Nat := 26
abbrev ty_api_Node : Nat := 28
abbrev ty_6_int : Nat := 33
abbrev ty_api_Attr : Nat := 44
abbrev ty_strings_Builder : Nat := 49
abbrev ty_brackenref10_Scope : Nat := 58
abbrev ty_24_uint8 : Nat := 96
abbrev ty_65_uint8 : Nat := 105
abbrev gl_strconv_uint64pow10 : Nat := 1
abbrev gt_strconv_uint64pow10 : Nat := 104
abbrev ge_strconv_uint64pow10 : Nat := 81
abbrev gl_bits_deBruijn32tab : Nat := 2
abbrev gt_bits_deBruijn32tab : Nat := 110
abbrev ge_bits_deBruijn32tab : Nat := 5
abbrev gl_bits_deBruijn64tab : Nat := 3
abbrev gt_bits_deBruijn64tab : Nat := 111
abbrev ge_bits_deBruijn64tab : Nat := 5
def report_Code.C (a0c : Int) (H : Heap) (R : ByteArray → Heap → Prop) : Prop := Ev.Fn Tryd.prog 6 #[.int .i64 a0c] H fun v H' => ∃ r0 : ByteArray, v = .string r0 ∧ R r0 H'
theorem report_Code.C_mono {a0c : Int} {H : Heap} {R R' : ByteArray → Heap → Prop} (h : report_Code.C a0c H R) (hr : ∀ r0 H', R r0 H' → R' r0 H') : report_Code.C a0c H R' :=
  Ev.Fn.mono h fun _ _ ⟨r0, hv, hh⟩ => ⟨r0, hv, hr _ _ hh⟩
def abi_NoEscape.C (a0 : Value) (H : Heap) (R : Value → Heap → Prop) : Prop := Ev.Fn Tryd.prog 44 #[a0] H fun v H' => ∃ r0 : Value, v = r0 ∧ R r0 H'
theorem abi_NoEscape.C_mono {a0 : Value} {H : Heap} {R R' : Value → Heap → Prop} (h : abi_NoEscape.C a0 H R) (hr : ∀ r0 H', R r0 H' → R' r0 H') : abi_NoEscape.C a0 H R' :=
  Ev.Fn.mono h fun _ _ ⟨r0, hv, hh⟩ => ⟨r0, hv, hr _ _ hh⟩
def strings_Builder_copyCheck.C (a0b : Option Addr) (H : Heap) (R : Heap → Prop) : Prop := Ev.Fn Tryd.prog 33 #[.pointer a0b] H fun v H' => v = .tuple #[] ∧ R H'
theorem strings_Builder_copyCheck.C_mono {a0b : Option Addr} {H : Heap} {R R' : Heap → Prop} (h : strings_Builder_copyCheck.C a0b H R) (hr : ∀ H', R H' → R' H') : strings_Builder_copyCheck.C a0b H R' :=
  Ev.Fn.mono h fun _ _ ⟨hv, hh⟩ => ⟨hv, hr _ hh⟩
def strings_Builder_WriteString.C (a0b : Option Addr) (a1s : ByteArray) (H : Heap) (R : Int → Value → Heap → Prop) : Prop := Ev.Fn Tryd.prog 20 #[.pointer a0b, .string a1s] H fun v H' => ∃ r0 : Int, ∃ r1 : Value, v = .tuple #[.int .i64 r0, r1] ∧ R r0 r1 H'
theorem strings_Builder_WriteString.C_mono {a0b : Option Addr} {a1s : ByteArray} {H : Heap} {R R' : Int → Value → Heap → Prop} (h : strings_Builder_WriteString.C a0b a1s H R) (hr : ∀ r0 r1 H', R r0 r1 H' → R' r0 r1 H') : strings_Builder_WriteString.C a0b a1s H R' :=
  Ev.Fn.mono h fun _ _ ⟨r0, r1, hv, hh⟩ => ⟨r0, r1, hv, hr _ _ _ hh⟩
def strings_Builder_String.C (a0b : Option Addr) (H : Heap) (R : ByteArray → Heap → Prop) : Prop := Ev.Fn Tryd.prog 21 #[.pointer a0b] H fun v H' => ∃ r0 : ByteArray, v = .string r0 ∧ R r0 H'
theorem strings_Builder_String.C_mono {a0b : Option Addr} {H : Heap} {R R' : ByteArray → Heap → Prop} (h : strings_Builder_String.C a0b H R) (hr : ∀ r0 H', R r0 H' → R' r0 H') : strings_Builder_String.C a0b H R' :=
  Ev.Fn.mono h fun _ _ ⟨r0, hv, hh⟩ => ⟨r0, hv, hr _ _ hh⟩
def bits_Mul32.C (a0x : Int) (a1y : Int) (H : Heap) (R : Int → Int → Heap → Prop) : Prop := Ev.Fn Tryd.prog 39 #[.int .u32 a0x, .int .u32 a1y] H fun v H' => ∃ r0 : Int, ∃ r1 : Int, v = .tuple #[.int .u32 r0, .int .u32 r1] ∧ R r0 r1 H'
theorem bits_Mul32.C_mono {a0x : Int} {a1y : Int} {H : Heap} {R R' : Int → Int → Heap → Prop} (h : bits_Mul32.C a0x a1y H R) (hr : ∀ r0 r1 H', R r0 r1 H' → R' r0 r1 H') : bits_Mul32.C a0x a1y H R' :=
  Ev.Fn.mono h fun _ _ ⟨r0, r1, hv, hh⟩ => ⟨r0, r1, hv, hr _ _ _ hh⟩
def bits_Mul64.C (a0x : Int) (a1y : Int) (H : Heap) (R : Int → Int → Heap → Prop) : Prop := Ev.Fn Tryd.prog 40 #[.int .u64 a0x, .int .u64 a1y] H fun v H' => ∃ r0 : Int, ∃ r1 : Int, v = .tuple #[.int .u64 r0, .int .u64 r1] ∧ R r0 r1 H'
theorem bits_Mul64.C_mono {a0x : Int} {a1y : Int} {H : Heap} {R R' : Int → Int → Heap → Prop} (h : bits_Mul64.C a0x a1y H R) (hr : ∀ r0 r1 H', R r0 r1 H' → R' r0 r1 H') : bits_Mul64.C a0x a1y H R' :=
  Ev.Fn.mono h fun _ _ ⟨r0, r1, hv, hh⟩ => ⟨r0, r1, hv, hr _ _ _ hh⟩
def bits_Mul.C (a0x : Int) (a1y : Int) (H : Heap) (R : Int → Int → Heap → Prop) : Prop := Ev.Fn Tryd.prog 27 #[.int .u64 a0x, .int .u64 a1y] H fun v H' => ∃ r0 : Int, ∃ r1 : Int, v = .tuple #[.int .u64 r0, .int .u64 r1] ∧ R r0 r1 H'
theorem bits_Mul.C_mono {a0x : Int} {a1y : Int} {H : Heap} {R R' : Int → Int → Heap → Prop} (h : bits_Mul.C a0x a1y H R) (hr : ∀ r0 r1 H', R r0 r1 H' → R' r0 r1 H') : bits_Mul.C a0x a1y H R' :=
  Ev.Fn.mono h fun _ _ ⟨r0, r1, hv, hh⟩ => ⟨r0, r1, hv, hr _ _ _ hh⟩
def stringslite_HasPrefix.C (a0s : ByteArray) (a1prefix : ByteArray) (H : Heap) (R : Bool → Heap → Prop) : Prop := Ev.Fn Tryd.prog 41 #[.string a0s, .string a1prefix] H fun v H' => ∃ r0 : Bool, v = .bool r0 ∧ R r0 H'
theorem stringslite_HasPrefix.C_mono {a0s : ByteArray} {a1prefix : ByteArray} {H : Heap} {R R' : Bool → Heap → Prop} (h : stringslite_HasPrefix.C a0s a1prefix H R) (hr : ∀ r0 H', R r0 H' → R' r0 H') : stringslite_HasPrefix.C a0s a1prefix H R' :=
  Ev.Fn.mono h fun _ _ ⟨r0, hv, hh⟩ => ⟨r0, hv, hr _ _ hh⟩
def strings_HasPrefix.C (a0s : ByteArray) (a1prefix : ByteArray) (H : Heap) (R : Bool → Heap → Prop) : Prop := Ev.Fn Tryd.prog 28 #[.string a0s, .string a1prefix] H fun v H' => ∃ r0 : Bool, v = .bool r0 ∧ R r0 H'
theorem strings_HasPrefix.C_mono {a0s : ByteArray} {a1prefix : ByteArray} {H : Heap} {R R' : Bool → Heap → Prop} (h : strings_HasPrefix.C a0s a1prefix H R) (hr : ∀ r0 H', R r0 H' → R' r0 H') : strings_HasPrefix.C a0s a1prefix H R' :=
  Ev.Fn.mono h fun _ _ ⟨r0, hv, hh⟩ => ⟨r0, hv, hr _ _ hh⟩
def bytealg_MakeNoZero.C (a0 : Int) (H : Heap) (R : Option Addr → Nat → Nat → Heap → Prop) : Prop := Ev.Fn Tryd.prog 51 #[.int .i64 a0] H fun v H' => ∃ (r0_p : Option Addr) (r0_l r0_c : Nat), v = .slice r0_p r0_l r0_c ∧ R r0_p r0_l r0_c H'
theorem bytealg_MakeNoZero.C_mono {a0 : Int} {H : Heap} {R R' : Option Addr → Nat → Nat → Heap → Prop} (h : bytealg_MakeNoZero.C a0 H R) (hr : ∀ r0_p r0_l r0_c H', R r0_p r0_l r0_c H' → R' r0_p r0_l r0_c H') : bytealg_MakeNoZero.C a0 H R' :=
  Ev.Fn.mono h fun _ _ ⟨r0_p, r0_l, r0_c, hv, hh⟩ => ⟨r0_p, r0_l, r0_c, hv, hr _ _ _ _ hh⟩
def strings_Builder_grow.C (a0b : Option Addr) (a1n : Int) (H : Heap) (R : Heap → Prop) : Prop := Ev.Fn Tryd.prog 42 #[.pointer a0b, .int .i64 a1n] H fun v H' => v = .tuple #[] ∧ R H'
theorem strings_Builder_grow.C_mono {a0b : Option Addr} {a1n : Int} {H : Heap} {R R' : Heap → Prop} (h : strings_Builder_grow.C a0b a1n H R) (hr : ∀ H', R H' → R' H') : strings_Builder_grow.C a0b a1n H R' :=
  Ev.Fn.mono h fun _ _ ⟨hv, hh⟩ => ⟨hv, hr _ hh⟩
def strings_Builder_Grow.C (a0b : Option Addr) (a1n : Int) (H : Heap) (R : Heap → Prop) : Prop := Ev.Fn Tryd.prog 29 #[.pointer a0b, .int .i64 a1n] H fun v H' => v = .tuple #[] ∧ R H'
theorem strings_Builder_Grow.C_mono {a0b : Option Addr} {a1n : Int} {H : Heap} {R R' : Heap → Prop} (h : strings_Builder_Grow.C a0b a1n H R) (hr : ∀ H', R H' → R' H') : strings_Builder_Grow.C a0b a1n H R' :=
  Ev.Fn.mono h fun _ _ ⟨hv, hh⟩ => ⟨hv, hr _ hh⟩
def strings_Builder_Len.C (a0b : Option Addr) (H : Heap) (R : Int → Heap → Prop) : Prop := Ev.Fn Tryd.prog 30 #[.pointer a0b] H fun v H' => ∃ r0 : Int, v = .int .i64 r0 ∧ R r0 H'
theorem strings_Builder_Len.C_mono {a0b : Option Addr} {H : Heap} {R R' : Int → Heap → Prop} (h : strings_Builder_Len.C a0b H R) (hr : ∀ r0 H', R r0 H' → R' r0 H') : strings_Builder_Len.C a0b H R' :=
  Ev.Fn.mono h fun _ _ ⟨r0, hv, hh⟩ => ⟨r0, hv, hr _ _ hh⟩
def strings_Repeat.C (a0s : ByteArray) (a1count : Int) (H : Heap) (R : ByteArray → Heap → Prop) : Prop := Ev.Fn Tryd.prog 16 #[.string a0s, .int .i64 a1count] H fun v H' => ∃ r0 : ByteArray, v = .string r0 ∧ R r0 H'
theorem strings_Repeat.C_mono {a0s : ByteArray} {a1count : Int} {H : Heap} {R R' : ByteArray → Heap → Prop} (h : strings_Repeat.C a0s a1count H R) (hr : ∀ r0 H', R r0 H' → R' r0 H') : strings_Repeat.C a0s a1count H R' :=
  Ev.Fn.mono h fun _ _ ⟨r0, hv, hh⟩ => ⟨r0, hv, hr _ _ hh⟩
def strconv_small.C (a0i : Int) (H : Heap) (R : ByteArray → Heap → Prop) : Prop := Ev.Fn Tryd.prog 58 #[.int .i64 a0i] H fun v H' => ∃ r0 : ByteArray, v = .string r0 ∧ R r0 H'
theorem strconv_small.C_mono {a0i : Int} {H : Heap} {R R' : ByteArray → Heap → Prop} (h : strconv_small.C a0i H R) (hr : ∀ r0 H', R r0 H' → R' r0 H') : strconv_small.C a0i H R' :=
  Ev.Fn.mono h fun _ _ ⟨r0, hv, hh⟩ => ⟨r0, hv, hr _ _ hh⟩
def strconv_log10Pow2.C (a0x : Int) (H : Heap) (R : Int → Heap → Prop) : Prop := Ev.Fn Tryd.prog 64 #[.int .i64 a0x] H fun v H' => ∃ r0 : Int, v = .int .i64 r0 ∧ R r0 H'
theorem strconv_log10Pow2.C_mono {a0x : Int} {H : Heap} {R R' : Int → Heap → Prop} (h : strconv_log10Pow2.C a0x H R) (hr : ∀ r0 H', R r0 H' → R' r0 H') : strconv_log10Pow2.C a0x H R' :=
  Ev.Fn.mono h fun _ _ ⟨r0, hv, hh⟩ => ⟨r0, hv, hr _ _ hh⟩
def bits_Len64.C (a0x : Int) (H : Heap) (R : Int → Heap → Prop) : Prop := Ev.Fn Tryd.prog 65 #[.int .u64 a0x] H fun v H' => ∃ r0 : Int, v = .int .i64 r0 ∧ R r0 H'
theorem bits_Len64.C_mono {a0x : Int} {H : Heap} {R R' : Int → Heap → Prop} (h : bits_Len64.C a0x H R) (hr : ∀ r0 H', R r0 H' → R' r0 H') : bits_Len64.C a0x H R' :=
  Ev.Fn.mono h fun _ _ ⟨r0, hv, hh⟩ => ⟨r0, hv, hr _ _ hh⟩
def strconv_bool2_int.C (a0b : Bool) (H : Heap) (R : Int → Heap → Prop) : Prop := Ev.Fn Tryd.prog 66 #[.bool a0b] H fun v H' => ∃ r0 : Int, v = .int .i64 r0 ∧ R r0 H'
theorem strconv_bool2_int.C_mono {a0b : Bool} {H : Heap} {R R' : Int → Heap → Prop} (h : strconv_bool2_int.C a0b H R) (hr : ∀ r0 H', R r0 H' → R' r0 H') : strconv_bool2_int.C a0b H R' :=
  Ev.Fn.mono h fun _ _ ⟨r0, hv, hh⟩ => ⟨r0, hv, hr _ _ hh⟩
def strconv_numDigits.C (a0d : Int) (H : Heap) (R : Int → Heap → Prop) : Prop := Ev.Fn Tryd.prog 59 #[.int .u64 a0d] H fun v H' => ∃ r0 : Int, v = .int .i64 r0 ∧ R r0 H'
theorem strconv_numDigits.C_mono {a0d : Int} {H : Heap} {R R' : Int → Heap → Prop} (h : strconv_numDigits.C a0d H R) (hr : ∀ r0 H', R r0 H' → R' r0 H') : strconv_numDigits.C a0d H R' :=
  Ev.Fn.mono h fun _ _ ⟨r0, hv, hh⟩ => ⟨r0, hv, hr _ _ hh⟩
def strconv_formatBase10.C (a0a_p : Option Addr) (a0a_l a0a_c : Nat) (a1u : Int) (H : Heap) (R : Heap → Prop) : Prop := Ev.Fn Tryd.prog 60 #[.slice a0a_p a0a_l a0a_c, .int .u64 a1u] H fun v H' => v = .tuple #[] ∧ R H'
theorem strconv_formatBase10.C_mono {a0a_p : Option Addr} {a0a_l a0a_c : Nat} {a1u : Int} {H : Heap} {R R' : Heap → Prop} (h : strconv_formatBase10.C a0a_p a0a_l a0a_c a1u H R) (hr : ∀ H', R H' → R' H') : strconv_formatBase10.C a0a_p a0a_l a0a_c a1u H R' :=
  Ev.Fn.mono h fun _ _ ⟨hv, hh⟩ => ⟨hv, hr _ hh⟩
def strconv_isPowerOfTwo.C (a0x : Int) (H : Heap) (R : Bool → Heap → Prop) : Prop := Ev.Fn Tryd.prog 67 #[.int .i64 a0x] H fun v H' => ∃ r0 : Bool, v = .bool r0 ∧ R r0 H'
theorem strconv_isPowerOfTwo.C_mono {a0x : Int} {H : Heap} {R R' : Bool → Heap → Prop} (h : strconv_isPowerOfTwo.C a0x H R) (hr : ∀ r0 H', R r0 H' → R' r0 H') : strconv_isPowerOfTwo.C a0x H R' :=
  Ev.Fn.mono h fun _ _ ⟨r0, hv, hh⟩ => ⟨r0, hv, hr _ _ hh⟩
def bits_TrailingZeros32.C (a0x : Int) (H : Heap) (R : Int → Heap → Prop) : Prop := Ev.Fn Tryd.prog 70 #[.int .u32 a0x] H fun v H' => ∃ r0 : Int, v = .int .i64 r0 ∧ R r0 H'
theorem bits_TrailingZeros32.C_mono {a0x : Int} {H : Heap} {R R' : Int → Heap → Prop} (h : bits_TrailingZeros32.C a0x H R) (hr : ∀ r0 H', R r0 H' → R' r0 H') : bits_TrailingZeros32.C a0x H R' :=
  Ev.Fn.mono h fun _ _ ⟨r0, hv, hh⟩ => ⟨r0, hv, hr _ _ hh⟩
def bits_TrailingZeros64.C (a0x : Int) (H : Heap) (R : Int → Heap → Prop) : Prop := Ev.Fn Tryd.prog 71 #[.int .u64 a0x] H fun v H' => ∃ r0 : Int, v = .int .i64 r0 ∧ R r0 H'
theorem bits_TrailingZeros64.C_mono {a0x : Int} {H : Heap} {R R' : Int → Heap → Prop} (h : bits_TrailingZeros64.C a0x H R) (hr : ∀ r0 H', R r0 H' → R' r0 H') : bits_TrailingZeros64.C a0x H R' :=
  Ev.Fn.mono h fun _ _ ⟨r0, hv, hh⟩ => ⟨r0, hv, hr _ _ hh⟩
def bits_TrailingZeros.C (a0x : Int) (H : Heap) (R : Int → Heap → Prop) : Prop := Ev.Fn Tryd.prog 68 #[.int .u64 a0x] H fun v H' => ∃ r0 : Int, v = .int .i64 r0 ∧ R r0 H'
theorem bits_TrailingZeros.C_mono {a0x : Int} {H : Heap} {R R' : Int → Heap → Prop} (h : bits_TrailingZeros.C a0x H R) (hr : ∀ r0 H', R r0 H' → R' r0 H') : bits_TrailingZeros.C a0x H R' :=
  Ev.Fn.mono h fun _ _ ⟨r0, hv, hh⟩ => ⟨r0, hv, hr _ _ hh⟩
def strconv_formatBits.C (a0dst_p : Option Addr) (a0dst_l a0dst_c : Nat) (a1u : Int) (a2base : Int) (a3neg : Bool) (a4append : Bool) (H : Heap) (R : Option Addr → Nat → Nat → ByteArray → Heap → Prop) : Prop := Ev.Fn Tryd.prog 61 #[.slice a0dst_p a0dst_l a0dst_c, .int .u64 a1u, .int .i64 a2base, .bool a3neg, .bool a4append] H fun v H' => ∃ (r0_p : Option Addr) (r0_l r0_c : Nat), ∃ r1 : ByteArray, v = .tuple #[.slice r0_p r0_l r0_c, .string r1] ∧ R r0_p r0_l r0_c r1 H'
theorem strconv_formatBits.C_mono {a0dst_p : Option Addr} {a0dst_l a0dst_c : Nat} {a1u : Int} {a2base : Int} {a3neg : Bool} {a4append : Bool} {H : Heap} {R R' : Option Addr → Nat → Nat → ByteArray → Heap → Prop} (h : strconv_formatBits.C a0dst_p a0dst_l a0dst_c a1u a2base a3neg a4append H R) (hr : ∀ r0_p r0_l r0_c r1 H', R r0_p r0_l r0_c r1 H' → R' r0_p r0_l r0_c r1 H') : strconv_formatBits.C a0dst_p a0dst_l a0dst_c a1u a2base a3neg a4append H R' :=
  Ev.Fn.mono h fun _ _ ⟨r0_p, r0_l, r0_c, r1, hv, hh⟩ => ⟨r0_p, r0_l, r0_c, r1, hv, hr _ _ _ _ _ hh⟩
def strconv_FormatInt.C (a0i : Int) (a1base : Int) (H : Heap) (R : ByteArray → Heap → Prop) : Prop := Ev.Fn Tryd.prog 52 #[.int .i64 a0i, .int .i64 a1base] H fun v H' => ∃ r0 : ByteArray, v = .string r0 ∧ R r0 H'
theorem strconv_FormatInt.C_mono {a0i : Int} {a1base : Int} {H : Heap} {R R' : ByteArray → Heap → Prop} (h : strconv_FormatInt.C a0i a1base H R) (hr : ∀ r0 H', R r0 H' → R' r0 H') : strconv_FormatInt.C a0i a1base H R' :=
  Ev.Fn.mono h fun _ _ ⟨r0, hv, hh⟩ => ⟨r0, hv, hr _ _ hh⟩
def strconv_Itoa_43.C (a0i : Int) (H : Heap) (R : ByteArray → Heap → Prop) : Prop := Ev.Fn Tryd.prog 43 #[.int .i64 a0i] H fun v H' => ∃ r0 : ByteArray, v = .string r0 ∧ R r0 H'
theorem strconv_Itoa_43.C_mono {a0i : Int} {H : Heap} {R R' : ByteArray → Heap → Prop} (h : strconv_Itoa_43.C a0i H R) (hr : ∀ r0 H', R r0 H' → R' r0 H') : strconv_Itoa_43.C a0i H R' :=
  Ev.Fn.mono h fun _ _ ⟨r0, hv, hh⟩ => ⟨r0, hv, hr _ _ hh⟩
def strconv_Itoa_31.C (a0i : Int) (H : Heap) (R : ByteArray → Heap → Prop) : Prop := Ev.Fn Tryd.prog 31 #[.int .i64 a0i] H fun v H' => ∃ r0 : ByteArray, v = .string r0 ∧ R r0 H'
theorem strconv_Itoa_31.C_mono {a0i : Int} {H : Heap} {R R' : ByteArray → Heap → Prop} (h : strconv_Itoa_31.C a0i H R) (hr : ∀ r0 H', R r0 H' → R' r0 H') : strconv_Itoa_31.C a0i H R' :=
  Ev.Fn.mono h fun _ _ ⟨r0, hv, hh⟩ => ⟨r0, hv, hr _ _ hh⟩
def strings_Join.C (a0elems_p : Option Addr) (a0elems_l a0elems_c : Nat) (a1sep : ByteArray) (H : Heap) (R : ByteArray → Heap → Prop) : Prop := Ev.Fn Tryd.prog 32 #[.slice a0elems_p a0elems_l a0elems_c, .string a1sep] H fun v H' => ∃ r0 : ByteArray, v = .string r0 ∧ R r0 H'
theorem strings_Join.C_mono {a0elems_p : Option Addr} {a0elems_l a0elems_c : Nat} {a1sep : ByteArray} {H : Heap} {R R' : ByteArray → Heap → Prop} (h : strings_Join.C a0elems_p a0elems_l a0elems_c a1sep H R) (hr : ∀ r0 H', R r0 H' → R' r0 H') : strings_Join.C a0elems_p a0elems_l a0elems_c a1sep H R' :=
  Ev.Fn.mono h fun _ _ ⟨r0, hv, hh⟩ => ⟨r0, hv, hr _ _ hh⟩
def report_words.C (a0l_p : Option Addr) (a0l_l a0l_c : Nat) (H : Heap) (R : ByteArray → Heap → Prop) : Prop := Ev.Fn Tryd.prog 17 #[.slice a0l_p a0l_l a0l_c] H fun v H' => ∃ r0 : ByteArray, v = .string r0 ∧ R r0 H'
theorem report_words.C_mono {a0l_p : Option Addr} {a0l_l a0l_c : Nat} {H : Heap} {R R' : ByteArray → Heap → Prop} (h : report_words.C a0l_p a0l_l a0l_c H R) (hr : ∀ r0 H', R r0 H' → R' r0 H') : report_words.C a0l_p a0l_l a0l_c H R' :=
  Ev.Fn.mono h fun _ _ ⟨r0, hv, hh⟩ => ⟨r0, hv, hr _ _ hh⟩
def report_Line.C (a0n_0 : Int) (a0n_1 : Int) (a0n_2 : ByteArray) (a0n_3 : ByteArray) (a0n_4 : ByteArray) (a0n_5 : ByteArray) (a0n_6_p : Option Addr) (a0n_6_l a0n_6_c : Nat) (H : Heap) (R : ByteArray → Heap → Prop) : Prop := Ev.Fn Tryd.prog 8 #[.agg #[.int .i64 a0n_0, .int .i64 a0n_1, .string a0n_2, .string a0n_3, .string a0n_4, .string a0n_5, .slice a0n_6_p a0n_6_l a0n_6_c]] H fun v H' => ∃ r0 : ByteArray, v = .string r0 ∧ R r0 H'
theorem report_Line.C_mono {a0n_0 : Int} {a0n_1 : Int} {a0n_2 : ByteArray} {a0n_3 : ByteArray} {a0n_4 : ByteArray} {a0n_5 : ByteArray} {a0n_6_p : Option Addr} {a0n_6_l a0n_6_c : Nat} {H : Heap} {R R' : ByteArray → Heap → Prop} (h : report_Line.C a0n_0 a0n_1 a0n_2 a0n_3 a0n_4 a0n_5 a0n_6_p a0n_6_l a0n_6_c H R) (hr : ∀ r0 H', R r0 H' → R' r0 H') : report_Line.C a0n_0 a0n_1 a0n_2 a0n_3 a0n_4 a0n_5 a0n_6_p a0n_6_l a0n_6_c H R' :=
  Ev.Fn.mono h fun _ _ ⟨r0, hv, hh⟩ => ⟨r0, hv, hr _ _ hh⟩
def report_Tree.C (a0t_p : Option Addr) (a0t_l a0t_c : Nat) (H : Heap) (R : ByteArray → Heap → Prop) : Prop := Ev.Fn Tryd.prog 12 #[.slice a0t_p a0t_l a0t_c] H fun v H' => ∃ r0 : ByteArray, v = .string r0 ∧ R r0 H'
theorem report_Tree.C_mono {a0t_p : Option Addr} {a0t_l a0t_c : Nat} {H : Heap} {R R' : ByteArray → Heap → Prop} (h : report_Tree.C a0t_p a0t_l a0t_c H R) (hr : ∀ r0 H', R r0 H' → R' r0 H') : report_Tree.C a0t_p a0t_l a0t_c H R' :=
  Ev.Fn.mono h fun _ _ ⟨r0, hv, hh⟩ => ⟨r0, hv, hr _ _ hh⟩
def report_Counts.C (a0t_p : Option Addr) (a0t_l a0t_c : Nat) (H : Heap) (R : Int → Int → Int → Int → Int → Int → Heap → Prop) : Prop := Ev.Fn Tryd.prog 14 #[.slice a0t_p a0t_l a0t_c] H fun v H' => ∃ r0_0 : Int, ∃ r0_1 : Int, ∃ r0_2 : Int, ∃ r0_3 : Int, ∃ r0_4 : Int, ∃ r0_5 : Int, v = .agg #[.int .i64 r0_0, .int .i64 r0_1, .int .i64 r0_2, .int .i64 r0_3, .int .i64 r0_4, .int .i64 r0_5] ∧ R r0_0 r0_1 r0_2 r0_3 r0_4 r0_5 H'
theorem report_Counts.C_mono {a0t_p : Option Addr} {a0t_l a0t_c : Nat} {H : Heap} {R R' : Int → Int → Int → Int → Int → Int → Heap → Prop} (h : report_Counts.C a0t_p a0t_l a0t_c H R) (hr : ∀ r0_0 r0_1 r0_2 r0_3 r0_4 r0_5 H', R r0_0 r0_1 r0_2 r0_3 r0_4 r0_5 H' → R' r0_0 r0_1 r0_2 r0_3 r0_4 r0_5 H') : report_Counts.C a0t_p a0t_l a0t_c H R' :=
  Ev.Fn.mono h fun _ _ ⟨r0_0, r0_1, r0_2, r0_3, r0_4, r0_5, hv, hh⟩ => ⟨r0_0, r0_1, r0_2, r0_3, r0_4, r0_5, hv, hr _ _ _ _ _ _ _ hh⟩
def brackenlaw27_told.C  (H : Heap) (R : Bool → Heap → Prop) : Prop := Ev.Fn Tryd.prog 7 #[] H fun v H' => ∃ r0 : Bool, v = .bool r0 ∧ R r0 H'
theorem brackenlaw27_told.C_mono  {H : Heap} {R R' : Bool → Heap → Prop} (h : brackenlaw27_told.C  H R) (hr : ∀ r0 H', R r0 H' → R' r0 H') : brackenlaw27_told.C  H R' :=
  Ev.Fn.mono h fun _ _ ⟨r0, hv, hh⟩ => ⟨r0, hv, hr _ _ hh⟩
def brackenlaw27_ReportCodes.C (a0a : Int) (a1b : Int) (H : Heap) (R : Bool → Heap → Prop) : Prop := Ev.Fn Tryd.prog 3 #[.int .i64 a0a, .int .i64 a1b] H fun v H' => ∃ r0 : Bool, v = .bool r0 ∧ R r0 H'
theorem brackenlaw27_ReportCodes.C_mono {a0a : Int} {a1b : Int} {H : Heap} {R R' : Bool → Heap → Prop} (h : brackenlaw27_ReportCodes.C a0a a1b H R) (hr : ∀ r0 H', R r0 H' → R' r0 H') : brackenlaw27_ReportCodes.C a0a a1b H R' :=
  Ev.Fn.mono h fun _ _ ⟨r0, hv, hh⟩ => ⟨r0, hv, hr _ _ hh⟩
def brackenlaw16_Few.C (a0t_p : Option Addr) (a0t_l a0t_c : Nat) (H : Heap) (R : Bool → Heap → Prop) : Prop := Ev.Fn Tryd.prog 9 #[.slice a0t_p a0t_l a0t_c] H fun v H' => ∃ r0 : Bool, v = .bool r0 ∧ R r0 H'
theorem brackenlaw16_Few.C_mono {a0t_p : Option Addr} {a0t_l a0t_c : Nat} {H : Heap} {R R' : Bool → Heap → Prop} (h : brackenlaw16_Few.C a0t_p a0t_l a0t_c H R) (hr : ∀ r0 H', R r0 H' → R' r0 H') : brackenlaw16_Few.C a0t_p a0t_l a0t_c H R' :=
  Ev.Fn.mono h fun _ _ ⟨r0, hv, hh⟩ => ⟨r0, hv, hr _ _ hh⟩
def brackenref15_qname.C (a0prefix : ByteArray) (a1local : ByteArray) (H : Heap) (R : ByteArray → Heap → Prop) : Prop := Ev.Fn Tryd.prog 18 #[.string a0prefix, .string a1local] H fun v H' => ∃ r0 : ByteArray, v = .string r0 ∧ R r0 H'
theorem brackenref15_qname.C_mono {a0prefix : ByteArray} {a1local : ByteArray} {H : Heap} {R R' : ByteArray → Heap → Prop} (h : brackenref15_qname.C a0prefix a1local H R) (hr : ∀ r0 H', R r0 H' → R' r0 H') : brackenref15_qname.C a0prefix a1local H R' :=
  Ev.Fn.mono h fun _ _ ⟨r0, hv, hh⟩ => ⟨r0, hv, hr _ _ hh⟩
def brackenref15_Decimal.C (a0n : Int) (H : Heap) (R : ByteArray → Heap → Prop) : Prop := Ev.Fn Tryd.prog 19 #[.int .i64 a0n] H fun v H' => ∃ r0 : ByteArray, v = .string r0 ∧ R r0 H'
theorem brackenref15_Decimal.C_mono {a0n : Int} {H : Heap} {R R' : ByteArray → Heap → Prop} (h : brackenref15_Decimal.C a0n H R) (hr : ∀ r0 H', R r0 H' → R' r0 H') : brackenref15_Decimal.C a0n H R' :=
  Ev.Fn.mono h fun _ _ ⟨r0, hv, hh⟩ => ⟨r0, hv, hr _ _ hh⟩
def brackenref15_Line.C (a0n_0 : Int) (a0n_1 : Int) (a0n_2 : ByteArray) (a0n_3 : ByteArray) (a0n_4 : ByteArray) (a0n_5 : ByteArray) (a0n_6_p : Option Addr) (a0n_6_l a0n_6_c : Nat) (H : Heap) (R : ByteArray → Heap → Prop) : Prop := Ev.Fn Tryd.prog 10 #[.agg #[.int .i64 a0n_0, .int .i64 a0n_1, .string a0n_2, .string a0n_3, .string a0n_4, .string a0n_5, .slice a0n_6_p a0n_6_l a0n_6_c]] H fun v H' => ∃ r0 : ByteArray, v = .string r0 ∧ R r0 H'
theorem brackenref15_Line.C_mono {a0n_0 : Int} {a0n_1 : Int} {a0n_2 : ByteArray} {a0n_3 : ByteArray} {a0n_4 : ByteArray} {a0n_5 : ByteArray} {a0n_6_p : Option Addr} {a0n_6_l a0n_6_c : Nat} {H : Heap} {R R' : ByteArray → Heap → Prop} (h : brackenref15_Line.C a0n_0 a0n_1 a0n_2 a0n_3 a0n_4 a0n_5 a0n_6_p a0n_6_l a0n_6_c H R) (hr : ∀ r0 H', R r0 H' → R' r0 H') : brackenref15_Line.C a0n_0 a0n_1 a0n_2 a0n_3 a0n_4 a0n_5 a0n_6_p a0n_6_l a0n_6_c H R' :=
  Ev.Fn.mono h fun _ _ ⟨r0, hv, hh⟩ => ⟨r0, hv, hr _ _ hh⟩
def brackenref15_Word.C (a0c : Int) (H : Heap) (R : ByteArray → Heap → Prop) : Prop := Ev.Fn Tryd.prog 11 #[.int .i64 a0c] H fun v H' => ∃ r0 : ByteArray, v = .string r0 ∧ R r0 H'
theorem brackenref15_Word.C_mono {a0c : Int} {H : Heap} {R R' : ByteArray → Heap → Prop} (h : brackenref15_Word.C a0c H R) (hr : ∀ r0 H', R r0 H' → R' r0 H') : brackenref15_Word.C a0c H R' :=
  Ev.Fn.mono h fun _ _ ⟨r0, hv, hh⟩ => ⟨r0, hv, hr _ _ hh⟩
def brackenref15_Report.C (a0t_p : Option Addr) (a0t_l a0t_c : Nat) (H : Heap) (R : ByteArray → Heap → Prop) : Prop := Ev.Fn Tryd.prog 13 #[.slice a0t_p a0t_l a0t_c] H fun v H' => ∃ r0 : ByteArray, v = .string r0 ∧ R r0 H'
theorem brackenref15_Report.C_mono {a0t_p : Option Addr} {a0t_l a0t_c : Nat} {H : Heap} {R R' : ByteArray → Heap → Prop} (h : brackenref15_Report.C a0t_p a0t_l a0t_c H R) (hr : ∀ r0 H', R r0 H' → R' r0 H') : brackenref15_Report.C a0t_p a0t_l a0t_c H R' :=
  Ev.Fn.mono h fun _ _ ⟨r0, hv, hh⟩ => ⟨r0, hv, hr _ _ hh⟩
def brackenlaw27_ReportAsks.C (a0c : Int) (a1t_p : Option Addr) (a1t_l a1t_c : Nat) (H : Heap) (R : Bool → Heap → Prop) : Prop := Ev.Fn Tryd.prog 4 #[.int .i64 a0c, .slice a1t_p a1t_l a1t_c] H fun v H' => ∃ r0 : Bool, v = .bool r0 ∧ R r0 H'
theorem brackenlaw27_ReportAsks.C_mono {a0c : Int} {a1t_p : Option Addr} {a1t_l a1t_c : Nat} {H : Heap} {R R' : Bool → Heap → Prop} (h : brackenlaw27_ReportAsks.C a0c a1t_p a1t_l a1t_c H R) (hr : ∀ r0 H', R r0 H' → R' r0 H') : brackenlaw27_ReportAsks.C a0c a1t_p a1t_l a1t_c H R' :=
  Ev.Fn.mono h fun _ _ ⟨r0, hv, hh⟩ => ⟨r0, hv, hr _ _ hh⟩
def brackenref10_Scope_Pop.C (a0s : Option Addr) (H : Heap) (R : Bool → Heap → Prop) : Prop := Ev.Fn Tryd.prog 22 #[.pointer a0s] H fun v H' => ∃ r0 : Bool, v = .bool r0 ∧ R r0 H'
theorem brackenref10_Scope_Pop.C_mono {a0s : Option Addr} {H : Heap} {R R' : Bool → Heap → Prop} (h : brackenref10_Scope_Pop.C a0s H R) (hr : ∀ r0 H', R r0 H' → R' r0 H') : brackenref10_Scope_Pop.C a0s H R' :=
  Ev.Fn.mono h fun _ _ ⟨r0, hv, hh⟩ => ⟨r0, hv, hr _ _ hh⟩
def brackenlaw16_attrs.C (a0u : Int) (H : Heap) (R : Option Addr → Nat → Nat → Heap → Prop) : Prop := Ev.Fn Tryd.prog 23 #[.int .u64 a0u] H fun v H' => ∃ (r0_p : Option Addr) (r0_l r0_c : Nat), v = .slice r0_p r0_l r0_c ∧ R r0_p r0_l r0_c H'
theorem brackenlaw16_attrs.C_mono {a0u : Int} {H : Heap} {R R' : Option Addr → Nat → Nat → Heap → Prop} (h : brackenlaw16_attrs.C a0u H R) (hr : ∀ r0_p r0_l r0_c H', R r0_p r0_l r0_c H' → R' r0_p r0_l r0_c H') : brackenlaw16_attrs.C a0u H R' :=
  Ev.Fn.mono h fun _ _ ⟨r0_p, r0_l, r0_c, hv, hh⟩ => ⟨r0_p, r0_l, r0_c, hv, hr _ _ _ _ hh⟩
def brackenref10_Declares.C (a0a_0 : ByteArray) (a0a_1 : ByteArray) (a0a_2 : ByteArray) (a0a_3 : ByteArray) (H : Heap) (R : ByteArray → Bool → Heap → Prop) : Prop := Ev.Fn Tryd.prog 34 #[.agg #[.string a0a_0, .string a0a_1, .string a0a_2, .string a0a_3]] H fun v H' => ∃ r0 : ByteArray, ∃ r1 : Bool, v = .tuple #[.string r0, .bool r1] ∧ R r0 r1 H'
theorem brackenref10_Declares.C_mono {a0a_0 : ByteArray} {a0a_1 : ByteArray} {a0a_2 : ByteArray} {a0a_3 : ByteArray} {H : Heap} {R R' : ByteArray → Bool → Heap → Prop} (h : brackenref10_Declares.C a0a_0 a0a_1 a0a_2 a0a_3 H R) (hr : ∀ r0 r1 H', R r0 r1 H' → R' r0 r1 H') : brackenref10_Declares.C a0a_0 a0a_1 a0a_2 a0a_3 H R' :=
  Ev.Fn.mono h fun _ _ ⟨r0, r1, hv, hh⟩ => ⟨r0, r1, hv, hr _ _ _ hh⟩
def brackenref10_Scope_Push.C (a0s : Option Addr) (a1l_p : Option Addr) (a1l_l a1l_c : Nat) (H : Heap) (R : Int → Heap → Prop) : Prop := Ev.Fn Tryd.prog 24 #[.pointer a0s, .slice a1l_p a1l_l a1l_c] H fun v H' => ∃ r0 : Int, v = .int .i64 r0 ∧ R r0 H'
theorem brackenref10_Scope_Push.C_mono {a0s : Option Addr} {a1l_p : Option Addr} {a1l_l a1l_c : Nat} {H : Heap} {R R' : Int → Heap → Prop} (h : brackenref10_Scope_Push.C a0s a1l_p a1l_l a1l_c H R) (hr : ∀ r0 H', R r0 H' → R' r0 H') : brackenref10_Scope_Push.C a0s a1l_p a1l_l a1l_c H R' :=
  Ev.Fn.mono h fun _ _ ⟨r0, hv, hh⟩ => ⟨r0, hv, hr _ _ hh⟩
def brackenref10_Scope_URI.C (a0s : Option Addr) (a1prefix : ByteArray) (H : Heap) (R : ByteArray → Bool → Heap → Prop) : Prop := Ev.Fn Tryd.prog 35 #[.pointer a0s, .string a1prefix] H fun v H' => ∃ r0 : ByteArray, ∃ r1 : Bool, v = .tuple #[.string r0, .bool r1] ∧ R r0 r1 H'
theorem brackenref10_Scope_URI.C_mono {a0s : Option Addr} {a1prefix : ByteArray} {H : Heap} {R R' : ByteArray → Bool → Heap → Prop} (h : brackenref10_Scope_URI.C a0s a1prefix H R) (hr : ∀ r0 r1 H', R r0 r1 H' → R' r0 r1 H') : brackenref10_Scope_URI.C a0s a1prefix H R' :=
  Ev.Fn.mono h fun _ _ ⟨r0, r1, hv, hh⟩ => ⟨r0, r1, hv, hr _ _ _ hh⟩
def brackenref15_Names.C (a0s : Option Addr) (a1n : Option Addr) (H : Heap) (R : Bool → Heap → Prop) : Prop := Ev.Fn Tryd.prog 25 #[.pointer a0s, .pointer a1n] H fun v H' => ∃ r0 : Bool, v = .bool r0 ∧ R r0 H'
theorem brackenref15_Names.C_mono {a0s : Option Addr} {a1n : Option Addr} {H : Heap} {R R' : Bool → Heap → Prop} (h : brackenref15_Names.C a0s a1n H R) (hr : ∀ r0 H', R r0 H' → R' r0 H') : brackenref15_Names.C a0s a1n H R' :=
  Ev.Fn.mono h fun _ _ ⟨r0, hv, hh⟩ => ⟨r0, hv, hr _ _ hh⟩
def brackenref10_SameAttrs.C (a0a_p : Option Addr) (a0a_l a0a_c : Nat) (a1b_p : Option Addr) (a1b_l a1b_c : Nat) (H : Heap) (R : Bool → Heap → Prop) : Prop := Ev.Fn Tryd.prog 45 #[.slice a0a_p a0a_l a0a_c, .slice a1b_p a1b_l a1b_c] H fun v H' => ∃ r0 : Bool, v = .bool r0 ∧ R r0 H'
theorem brackenref10_SameAttrs.C_mono {a0a_p : Option Addr} {a0a_l a0a_c : Nat} {a1b_p : Option Addr} {a1b_l a1b_c : Nat} {H : Heap} {R R' : Bool → Heap → Prop} (h : brackenref10_SameAttrs.C a0a_p a0a_l a0a_c a1b_p a1b_l a1b_c H R) (hr : ∀ r0 H', R r0 H' → R' r0 H') : brackenref10_SameAttrs.C a0a_p a0a_l a0a_c a1b_p a1b_l a1b_c H R' :=
  Ev.Fn.mono h fun _ _ ⟨r0, hv, hh⟩ => ⟨r0, hv, hr _ _ hh⟩
def brackenref15_SameNode.C (a0a_0 : Int) (a0a_1 : Int) (a0a_2 : ByteArray) (a0a_3 : ByteArray) (a0a_4 : ByteArray) (a0a_5 : ByteArray) (a0a_6_p : Option Addr) (a0a_6_l a0a_6_c : Nat) (a1b_0 : Int) (a1b_1 : Int) (a1b_2 : ByteArray) (a1b_3 : ByteArray) (a1b_4 : ByteArray) (a1b_5 : ByteArray) (a1b_6_p : Option Addr) (a1b_6_l a1b_6_c : Nat) (H : Heap) (R : Bool → Heap → Prop) : Prop := Ev.Fn Tryd.prog 36 #[.agg #[.int .i64 a0a_0, .int .i64 a0a_1, .string a0a_2, .string a0a_3, .string a0a_4, .string a0a_5, .slice a0a_6_p a0a_6_l a0a_6_c], .agg #[.int .i64 a1b_0, .int .i64 a1b_1, .string a1b_2, .string a1b_3, .string a1b_4, .string a1b_5, .slice a1b_6_p a1b_6_l a1b_6_c]] H fun v H' => ∃ r0 : Bool, v = .bool r0 ∧ R r0 H'
theorem brackenref15_SameNode.C_mono {a0a_0 : Int} {a0a_1 : Int} {a0a_2 : ByteArray} {a0a_3 : ByteArray} {a0a_4 : ByteArray} {a0a_5 : ByteArray} {a0a_6_p : Option Addr} {a0a_6_l a0a_6_c : Nat} {a1b_0 : Int} {a1b_1 : Int} {a1b_2 : ByteArray} {a1b_3 : ByteArray} {a1b_4 : ByteArray} {a1b_5 : ByteArray} {a1b_6_p : Option Addr} {a1b_6_l a1b_6_c : Nat} {H : Heap} {R R' : Bool → Heap → Prop} (h : brackenref15_SameNode.C a0a_0 a0a_1 a0a_2 a0a_3 a0a_4 a0a_5 a0a_6_p a0a_6_l a0a_6_c a1b_0 a1b_1 a1b_2 a1b_3 a1b_4 a1b_5 a1b_6_p a1b_6_l a1b_6_c H R) (hr : ∀ r0 H', R r0 H' → R' r0 H') : brackenref15_SameNode.C a0a_0 a0a_1 a0a_2 a0a_3 a0a_4 a0a_5 a0a_6_p a0a_6_l a0a_6_c a1b_0 a1b_1 a1b_2 a1b_3 a1b_4 a1b_5 a1b_6_p a1b_6_l a1b_6_c H R' :=
  Ev.Fn.mono h fun _ _ ⟨r0, hv, hh⟩ => ⟨r0, hv, hr _ _ hh⟩
def brackenref1_in.C (a0r : Int) (a1a : Int) (a2b : Int) (H : Heap) (R : Bool → Heap → Prop) : Prop := Ev.Fn Tryd.prog 62 #[.int .i32 a0r, .int .i32 a1a, .int .i32 a2b] H fun v H' => ∃ r0 : Bool, v = .bool r0 ∧ R r0 H'
theorem brackenref1_in.C_mono {a0r : Int} {a1a : Int} {a2b : Int} {H : Heap} {R R' : Bool → Heap → Prop} (h : brackenref1_in.C a0r a1a a2b H R) (hr : ∀ r0 H', R r0 H' → R' r0 H') : brackenref1_in.C a0r a1a a2b H R' :=
  Ev.Fn.mono h fun _ _ ⟨r0, hv, hh⟩ => ⟨r0, hv, hr _ _ hh⟩
def brackenref1_One.C (a0s : ByteArray) (a1at : Int) (H : Heap) (R : Int → Int → Heap → Prop) : Prop := Ev.Fn Tryd.prog 54 #[.string a0s, .int .i64 a1at] H fun v H' => ∃ r0 : Int, ∃ r1 : Int, v = .tuple #[.int .i32 r0, .int .i64 r1] ∧ R r0 r1 H'
theorem brackenref1_One.C_mono {a0s : ByteArray} {a1at : Int} {H : Heap} {R R' : Int → Int → Heap → Prop} (h : brackenref1_One.C a0s a1at H R) (hr : ∀ r0 r1 H', R r0 r1 H' → R' r0 r1 H') : brackenref1_One.C a0s a1at H R' :=
  Ev.Fn.mono h fun _ _ ⟨r0, r1, hv, hh⟩ => ⟨r0, r1, hv, hr _ _ _ hh⟩
def brackenref1_Start.C (a0r : Int) (H : Heap) (R : Bool → Heap → Prop) : Prop := Ev.Fn Tryd.prog 73 #[.int .i32 a0r] H fun v H' => ∃ r0 : Bool, v = .bool r0 ∧ R r0 H'
theorem brackenref1_Start.C_mono {a0r : Int} {H : Heap} {R R' : Bool → Heap → Prop} (h : brackenref1_Start.C a0r H R) (hr : ∀ r0 H', R r0 H' → R' r0 H') : brackenref1_Start.C a0r H R' :=
  Ev.Fn.mono h fun _ _ ⟨r0, hv, hh⟩ => ⟨r0, hv, hr _ _ hh⟩
def brackenref1_Part.C (a0r : Int) (H : Heap) (R : Bool → Heap → Prop) : Prop := Ev.Fn Tryd.prog 72 #[.int .i32 a0r] H fun v H' => ∃ r0 : Bool, v = .bool r0 ∧ R r0 H'
theorem brackenref1_Part.C_mono {a0r : Int} {H : Heap} {R R' : Bool → Heap → Prop} (h : brackenref1_Part.C a0r H R) (hr : ∀ r0 H', R r0 H' → R' r0 H') : brackenref1_Part.C a0r H R' :=
  Ev.Fn.mono h fun _ _ ⟨r0, hv, hh⟩ => ⟨r0, hv, hr _ _ hh⟩
def brackenref1_Run.C (a0s : ByteArray) (a1at : Int) (H : Heap) (R : Int → Heap → Prop) : Prop := Ev.Fn Tryd.prog 69 #[.string a0s, .int .i64 a1at] H fun v H' => ∃ r0 : Int, v = .int .i64 r0 ∧ R r0 H'
theorem brackenref1_Run.C_mono {a0s : ByteArray} {a1at : Int} {H : Heap} {R R' : Int → Heap → Prop} (h : brackenref1_Run.C a0s a1at H R) (hr : ∀ r0 H', R r0 H' → R' r0 H') : brackenref1_Run.C a0s a1at H R' :=
  Ev.Fn.mono h fun _ _ ⟨r0, hv, hh⟩ => ⟨r0, hv, hr _ _ hh⟩
def brackenref1_Name.C (a0s : ByteArray) (H : Heap) (R : Bool → Heap → Prop) : Prop := Ev.Fn Tryd.prog 63 #[.string a0s] H fun v H' => ∃ r0 : Bool, v = .bool r0 ∧ R r0 H'
theorem brackenref1_Name.C_mono {a0s : ByteArray} {H : Heap} {R R' : Bool → Heap → Prop} (h : brackenref1_Name.C a0s H R) (hr : ∀ r0 H', R r0 H' → R' r0 H') : brackenref1_Name.C a0s H R' :=
  Ev.Fn.mono h fun _ _ ⟨r0, hv, hh⟩ => ⟨r0, hv, hr _ _ hh⟩
def brackenref1_NCName.C (a0s : ByteArray) (H : Heap) (R : Bool → Heap → Prop) : Prop := Ev.Fn Tryd.prog 56 #[.string a0s] H fun v H' => ∃ r0 : Bool, v = .bool r0 ∧ R r0 H'
theorem brackenref1_NCName.C_mono {a0s : ByteArray} {H : Heap} {R R' : Bool → Heap → Prop} (h : brackenref1_NCName.C a0s H R) (hr : ∀ r0 H', R r0 H' → R' r0 H') : brackenref1_NCName.C a0s H R' :=
  Ev.Fn.mono h fun _ _ ⟨r0, hv, hh⟩ => ⟨r0, hv, hr _ _ hh⟩
def brackenref1_Split.C (a0s : ByteArray) (H : Heap) (R : ByteArray → ByteArray → Bool → Heap → Prop) : Prop := Ev.Fn Tryd.prog 53 #[.string a0s] H fun v H' => ∃ r0 : ByteArray, ∃ r1 : ByteArray, ∃ r2 : Bool, v = .tuple #[.string r0, .string r1, .bool r2] ∧ R r0 r1 r2 H'
theorem brackenref1_Split.C_mono {a0s : ByteArray} {H : Heap} {R R' : ByteArray → ByteArray → Bool → Heap → Prop} (h : brackenref1_Split.C a0s H R) (hr : ∀ r0 r1 r2 H', R r0 r1 r2 H' → R' r0 r1 r2 H') : brackenref1_Split.C a0s H R' :=
  Ev.Fn.mono h fun _ _ ⟨r0, r1, r2, hv, hh⟩ => ⟨r0, r1, r2, hv, hr _ _ _ _ hh⟩
def brackenref15_named.C (a0prefix : ByteArray) (a1local : ByteArray) (H : Heap) (R : Bool → Heap → Prop) : Prop := Ev.Fn Tryd.prog 46 #[.string a0prefix, .string a1local] H fun v H' => ∃ r0 : Bool, v = .bool r0 ∧ R r0 H'
theorem brackenref15_named.C_mono {a0prefix : ByteArray} {a1local : ByteArray} {H : Heap} {R R' : Bool → Heap → Prop} (h : brackenref15_named.C a0prefix a1local H R) (hr : ∀ r0 H', R r0 H' → R' r0 H') : brackenref15_named.C a0prefix a1local H R' :=
  Ev.Fn.mono h fun _ _ ⟨r0, hv, hh⟩ => ⟨r0, hv, hr _ _ hh⟩
def brackenref1_Char.C (a0r : Int) (H : Heap) (R : Bool → Heap → Prop) : Prop := Ev.Fn Tryd.prog 55 #[.int .i32 a0r] H fun v H' => ∃ r0 : Bool, v = .bool r0 ∧ R r0 H'
theorem brackenref1_Char.C_mono {a0r : Int} {H : Heap} {R R' : Bool → Heap → Prop} (h : brackenref1_Char.C a0r H R) (hr : ∀ r0 H', R r0 H' → R' r0 H') : brackenref1_Char.C a0r H R' :=
  Ev.Fn.mono h fun _ _ ⟨r0, hv, hh⟩ => ⟨r0, hv, hr _ _ hh⟩
def brackenref1_Valid.C (a0s : ByteArray) (H : Heap) (R : Bool → Heap → Prop) : Prop := Ev.Fn Tryd.prog 47 #[.string a0s] H fun v H' => ∃ r0 : Bool, v = .bool r0 ∧ R r0 H'
theorem brackenref1_Valid.C_mono {a0s : ByteArray} {H : Heap} {R R' : Bool → Heap → Prop} (h : brackenref1_Valid.C a0s H R) (hr : ∀ r0 H', R r0 H' → R' r0 H') : brackenref1_Valid.C a0s H R' :=
  Ev.Fn.mono h fun _ _ ⟨r0, hv, hh⟩ => ⟨r0, hv, hr _ _ hh⟩
def brackenref15_element.C (a0s : Option Addr) (a1n_0 : Int) (a1n_1 : Int) (a1n_2 : ByteArray) (a1n_3 : ByteArray) (a1n_4 : ByteArray) (a1n_5 : ByteArray) (a1n_6_p : Option Addr) (a1n_6_l a1n_6_c : Nat) (H : Heap) (R : Bool → Heap → Prop) : Prop := Ev.Fn Tryd.prog 37 #[.pointer a0s, .agg #[.int .i64 a1n_0, .int .i64 a1n_1, .string a1n_2, .string a1n_3, .string a1n_4, .string a1n_5, .slice a1n_6_p a1n_6_l a1n_6_c]] H fun v H' => ∃ r0 : Bool, v = .bool r0 ∧ R r0 H'
theorem brackenref15_element.C_mono {a0s : Option Addr} {a1n_0 : Int} {a1n_1 : Int} {a1n_2 : ByteArray} {a1n_3 : ByteArray} {a1n_4 : ByteArray} {a1n_5 : ByteArray} {a1n_6_p : Option Addr} {a1n_6_l a1n_6_c : Nat} {H : Heap} {R R' : Bool → Heap → Prop} (h : brackenref15_element.C a0s a1n_0 a1n_1 a1n_2 a1n_3 a1n_4 a1n_5 a1n_6_p a1n_6_l a1n_6_c H R) (hr : ∀ r0 H', R r0 H' → R' r0 H') : brackenref15_element.C a0s a1n_0 a1n_1 a1n_2 a1n_3 a1n_4 a1n_5 a1n_6_p a1n_6_l a1n_6_c H R' :=
  Ev.Fn.mono h fun _ _ ⟨r0, hv, hh⟩ => ⟨r0, hv, hr _ _ hh⟩
def brackenref15_holds.C (a0s : ByteArray) (a1what : ByteArray) (H : Heap) (R : Bool → Heap → Prop) : Prop := Ev.Fn Tryd.prog 48 #[.string a0s, .string a1what] H fun v H' => ∃ r0 : Bool, v = .bool r0 ∧ R r0 H'
theorem brackenref15_holds.C_mono {a0s : ByteArray} {a1what : ByteArray} {H : Heap} {R R' : Bool → Heap → Prop} (h : brackenref15_holds.C a0s a1what H R) (hr : ∀ r0 H', R r0 H' → R' r0 H') : brackenref15_holds.C a0s a1what H R' :=
  Ev.Fn.mono h fun _ _ ⟨r0, hv, hh⟩ => ⟨r0, hv, hr _ _ hh⟩
def brackenref10_lower.C (a0s : ByteArray) (H : Heap) (R : ByteArray → Heap → Prop) : Prop := Ev.Fn Tryd.prog 57 #[.string a0s] H fun v H' => ∃ r0 : ByteArray, v = .string r0 ∧ R r0 H'
theorem brackenref10_lower.C_mono {a0s : ByteArray} {H : Heap} {R R' : ByteArray → Heap → Prop} (h : brackenref10_lower.C a0s H R) (hr : ∀ r0 H', R r0 H' → R' r0 H') : brackenref10_lower.C a0s H R' :=
  Ev.Fn.mono h fun _ _ ⟨r0, hv, hh⟩ => ⟨r0, hv, hr _ _ hh⟩
def brackenref10_Target.C (a0s : ByteArray) (H : Heap) (R : Bool → Heap → Prop) : Prop := Ev.Fn Tryd.prog 49 #[.string a0s] H fun v H' => ∃ r0 : Bool, v = .bool r0 ∧ R r0 H'
theorem brackenref10_Target.C_mono {a0s : ByteArray} {H : Heap} {R R' : Bool → Heap → Prop} (h : brackenref10_Target.C a0s H R) (hr : ∀ r0 H', R r0 H' → R' r0 H') : brackenref10_Target.C a0s H R' :=
  Ev.Fn.mono h fun _ _ ⟨r0, hv, hh⟩ => ⟨r0, hv, hr _ _ hh⟩
def brackenref1_Space.C (a0r : Int) (H : Heap) (R : Bool → Heap → Prop) : Prop := Ev.Fn Tryd.prog 50 #[.int .i32 a0r] H fun v H' => ∃ r0 : Bool, v = .bool r0 ∧ R r0 H'
theorem brackenref1_Space.C_mono {a0r : Int} {H : Heap} {R R' : Bool → Heap → Prop} (h : brackenref1_Space.C a0r H R) (hr : ∀ r0 H', R r0 H' → R' r0 H') : brackenref1_Space.C a0r H R' :=
  Ev.Fn.mono h fun _ _ ⟨r0, hv, hh⟩ => ⟨r0, hv, hr _ _ hh⟩
def brackenref15_plain.C (a0n_0 : Int) (a0n_1 : Int) (a0n_2 : ByteArray) (a0n_3 : ByteArray) (a0n_4 : ByteArray) (a0n_5 : ByteArray) (a0n_6_p : Option Addr) (a0n_6_l a0n_6_c : Nat) (H : Heap) (R : Bool → Heap → Prop) : Prop := Ev.Fn Tryd.prog 38 #[.agg #[.int .i64 a0n_0, .int .i64 a0n_1, .string a0n_2, .string a0n_3, .string a0n_4, .string a0n_5, .slice a0n_6_p a0n_6_l a0n_6_c]] H fun v H' => ∃ r0 : Bool, v = .bool r0 ∧ R r0 H'
theorem brackenref15_plain.C_mono {a0n_0 : Int} {a0n_1 : Int} {a0n_2 : ByteArray} {a0n_3 : ByteArray} {a0n_4 : ByteArray} {a0n_5 : ByteArray} {a0n_6_p : Option Addr} {a0n_6_l a0n_6_c : Nat} {H : Heap} {R R' : Bool → Heap → Prop} (h : brackenref15_plain.C a0n_0 a0n_1 a0n_2 a0n_3 a0n_4 a0n_5 a0n_6_p a0n_6_l a0n_6_c H R) (hr : ∀ r0 H', R r0 H' → R' r0 H') : brackenref15_plain.C a0n_0 a0n_1 a0n_2 a0n_3 a0n_4 a0n_5 a0n_6_p a0n_6_l a0n_6_c H R' :=
  Ev.Fn.mono h fun _ _ ⟨r0, hv, hh⟩ => ⟨r0, hv, hr _ _ hh⟩
def brackenref15_May.C (a0t_p : Option Addr) (a0t_l a0t_c : Nat) (H : Heap) (R : Bool → Heap → Prop) : Prop := Ev.Fn Tryd.prog 26 #[.slice a0t_p a0t_l a0t_c] H fun v H' => ∃ r0 : Bool, v = .bool r0 ∧ R r0 H'
theorem brackenref15_May.C_mono {a0t_p : Option Addr} {a0t_l a0t_c : Nat} {H : Heap} {R R' : Bool → Heap → Prop} (h : brackenref15_May.C a0t_p a0t_l a0t_c H R) (hr : ∀ r0 H', R r0 H' → R' r0 H') : brackenref15_May.C a0t_p a0t_l a0t_c H R' :=
  Ev.Fn.mono h fun _ _ ⟨r0, hv, hh⟩ => ⟨r0, hv, hr _ _ hh⟩
def brackenlaw16_Make.C (a0l_p : Option Addr) (a0l_l a0l_c : Nat) (H : Heap) (R : Option Addr → Nat → Nat → Heap → Prop) : Prop := Ev.Fn Tryd.prog 15 #[.slice a0l_p a0l_l a0l_c] H fun v H' => ∃ (r0_p : Option Addr) (r0_l r0_c : Nat), v = .slice r0_p r0_l r0_c ∧ R r0_p r0_l r0_c H'
theorem brackenlaw16_Make.C_mono {a0l_p : Option Addr} {a0l_l a0l_c : Nat} {H : Heap} {R R' : Option Addr → Nat → Nat → Heap → Prop} (h : brackenlaw16_Make.C a0l_p a0l_l a0l_c H R) (hr : ∀ r0_p r0_l r0_c H', R r0_p r0_l r0_c H' → R' r0_p r0_l r0_c H') : brackenlaw16_Make.C a0l_p a0l_l a0l_c H R' :=
  Ev.Fn.mono h fun _ _ ⟨r0_p, r0_l, r0_c, hv, hh⟩ => ⟨r0_p, r0_l, r0_c, hv, hr _ _ _ _ hh⟩
def brackenlaw27_ReportLines.C (a0l_p : Option Addr) (a0l_l a0l_c : Nat) (H : Heap) (R : Bool → Heap → Prop) : Prop := Ev.Fn Tryd.prog 5 #[.slice a0l_p a0l_l a0l_c] H fun v H' => ∃ r0 : Bool, v = .bool r0 ∧ R r0 H'
theorem brackenlaw27_ReportLines.C_mono {a0l_p : Option Addr} {a0l_l a0l_c : Nat} {H : Heap} {R R' : Bool → Heap → Prop} (h : brackenlaw27_ReportLines.C a0l_p a0l_l a0l_c H R) (hr : ∀ r0 H', R r0 H' → R' r0 H') : brackenlaw27_ReportLines.C a0l_p a0l_l a0l_c H R' :=
  Ev.Fn.mono h fun _ _ ⟨r0, hv, hh⟩ => ⟨r0, hv, hr _ _ hh⟩
end Go.Proofs.YtojhnakgmihedaaDoor
