import Derived.Test.YtjakbglakhpbjaaEvSound
import Derived.Test.YtjakbglakhpbjaaProg
import Derived.KernelRfl
namespace Go.Proofs.Ytjakbglakhpbjaa
open Go.Ev
set_option linter.unusedVariables false
theorem progOk_ : progOk Try.prog = true := by kernel_rfl
abbrev ty_int : Nat := 3
abbrev ty_uint8 : Nat := 5
abbrev ty_string : Nat := 9
abbrev ty_any : Nat := 20
abbrev ty_brackenref1_Table : Nat := 40
abbrev ty_intern_Table : Nat := 49
def intern_Hash.C (a0s : ByteArray) (H : Heap) (R : Int → Heap → Prop) : Prop := Ev.Fn Try.prog 8 #[.string a0s] H fun v H' => ∃ r0 : Int, v = .int .u64 r0 ∧ R r0 H'
theorem intern_Hash.C_mono {a0s : ByteArray} {H : Heap} {R R' : Int → Heap → Prop} (h : intern_Hash.C a0s H R) (hr : ∀ r0 H', R r0 H' → R' r0 H') : intern_Hash.C a0s H R' :=
  Ev.Fn.mono h fun _ _ ⟨r0, hv, hh⟩ => ⟨r0, hv, hr _ _ hh⟩
def intern_New.C  (H : Heap) (R : Option Addr → Heap → Prop) : Prop := Ev.Fn Try.prog 9 #[] H fun v H' => ∃ r0 : Option Addr, v = .pointer r0 ∧ R r0 H'
theorem intern_New.C_mono  {H : Heap} {R R' : Option Addr → Heap → Prop} (h : intern_New.C  H R) (hr : ∀ r0 H', R r0 H' → R' r0 H') : intern_New.C  H R' :=
  Ev.Fn.mono h fun _ _ ⟨r0, hv, hh⟩ => ⟨r0, hv, hr _ _ hh⟩
def intern_Table_text.C (a0t : Option Addr) (a1n : Int) (H : Heap) (R : ByteArray → Heap → Prop) : Prop := Ev.Fn Try.prog 21 #[.pointer a0t, .int .i64 a1n] H fun v H' => ∃ r0 : ByteArray, v = .string r0 ∧ R r0 H'
theorem intern_Table_text.C_mono {a0t : Option Addr} {a1n : Int} {H : Heap} {R R' : ByteArray → Heap → Prop} (h : intern_Table_text.C a0t a1n H R) (hr : ∀ r0 H', R r0 H' → R' r0 H') : intern_Table_text.C a0t a1n H R' :=
  Ev.Fn.mono h fun _ _ ⟨r0, hv, hh⟩ => ⟨r0, hv, hr _ _ hh⟩
def intern_Table_place.C (a0t : Option Addr) (a1s : ByteArray) (H : Heap) (R : Int → Heap → Prop) : Prop := Ev.Fn Try.prog 20 #[.pointer a0t, .string a1s] H fun v H' => ∃ r0 : Int, v = .int .i64 r0 ∧ R r0 H'
theorem intern_Table_place.C_mono {a0t : Option Addr} {a1s : ByteArray} {H : Heap} {R R' : Int → Heap → Prop} (h : intern_Table_place.C a0t a1s H R) (hr : ∀ r0 H', R r0 H' → R' r0 H') : intern_Table_place.C a0t a1s H R' :=
  Ev.Fn.mono h fun _ _ ⟨r0, hv, hh⟩ => ⟨r0, hv, hr _ _ hh⟩
def intern_Table_Put.C (a0t : Option Addr) (a1s : ByteArray) (H : Heap) (R : Int → Heap → Prop) : Prop := Ev.Fn Try.prog 10 #[.pointer a0t, .string a1s] H fun v H' => ∃ r0 : Int, v = .int .i64 r0 ∧ R r0 H'
theorem intern_Table_Put.C_mono {a0t : Option Addr} {a1s : ByteArray} {H : Heap} {R R' : Int → Heap → Prop} (h : intern_Table_Put.C a0t a1s H R) (hr : ∀ r0 H', R r0 H' → R' r0 H') : intern_Table_Put.C a0t a1s H R' :=
  Ev.Fn.mono h fun _ _ ⟨r0, hv, hh⟩ => ⟨r0, hv, hr _ _ hh⟩
def intern_Table_Find.C (a0t : Option Addr) (a1s : ByteArray) (H : Heap) (R : Int → Bool → Heap → Prop) : Prop := Ev.Fn Try.prog 11 #[.pointer a0t, .string a1s] H fun v H' => ∃ r0 : Int, ∃ r1 : Bool, v = .tuple #[.int .i64 r0, .bool r1] ∧ R r0 r1 H'
theorem intern_Table_Find.C_mono {a0t : Option Addr} {a1s : ByteArray} {H : Heap} {R R' : Int → Bool → Heap → Prop} (h : intern_Table_Find.C a0t a1s H R) (hr : ∀ r0 r1 H', R r0 r1 H' → R' r0 r1 H') : intern_Table_Find.C a0t a1s H R' :=
  Ev.Fn.mono h fun _ _ ⟨r0, r1, hv, hh⟩ => ⟨r0, r1, hv, hr _ _ _ hh⟩
def intern_Table_Len.C (a0t : Option Addr) (H : Heap) (R : Int → Heap → Prop) : Prop := Ev.Fn Try.prog 12 #[.pointer a0t] H fun v H' => ∃ r0 : Int, v = .int .i64 r0 ∧ R r0 H'
theorem intern_Table_Len.C_mono {a0t : Option Addr} {H : Heap} {R R' : Int → Heap → Prop} (h : intern_Table_Len.C a0t H R) (hr : ∀ r0 H', R r0 H' → R' r0 H') : intern_Table_Len.C a0t H R' :=
  Ev.Fn.mono h fun _ _ ⟨r0, hv, hh⟩ => ⟨r0, hv, hr _ _ hh⟩
def intern_Table_Get.C (a0t : Option Addr) (a1n : Int) (H : Heap) (R : ByteArray → Int → Heap → Prop) : Prop := Ev.Fn Try.prog 18 #[.pointer a0t, .int .i64 a1n] H fun v H' => ∃ r0 : ByteArray, ∃ r1 : Int, v = .tuple #[.string r0, .int .i64 r1] ∧ R r0 r1 H'
theorem intern_Table_Get.C_mono {a0t : Option Addr} {a1n : Int} {H : Heap} {R R' : ByteArray → Int → Heap → Prop} (h : intern_Table_Get.C a0t a1n H R) (hr : ∀ r0 r1 H', R r0 r1 H' → R' r0 r1 H') : intern_Table_Get.C a0t a1n H R' :=
  Ev.Fn.mono h fun _ _ ⟨r0, r1, hv, hh⟩ => ⟨r0, r1, hv, hr _ _ _ hh⟩
def brackenlaw9_told.C  (H : Heap) (R : Bool → Heap → Prop) : Prop := Ev.Fn Try.prog 7 #[] H fun v H' => ∃ r0 : Bool, v = .bool r0 ∧ R r0 H'
theorem brackenlaw9_told.C_mono  {H : Heap} {R R' : Bool → Heap → Prop} (h : brackenlaw9_told.C  H R) (hr : ∀ r0 H', R r0 H' → R' r0 H') : brackenlaw9_told.C  H R' :=
  Ev.Fn.mono h fun _ _ ⟨r0, hv, hh⟩ => ⟨r0, hv, hr _ _ hh⟩
def brackenlaw9_InternHash.C (a0s : ByteArray) (a1c : Int) (H : Heap) (R : Bool → Heap → Prop) : Prop := Ev.Fn Try.prog 3 #[.string a0s, .int .u8 a1c] H fun v H' => ∃ r0 : Bool, v = .bool r0 ∧ R r0 H'
theorem brackenlaw9_InternHash.C_mono {a0s : ByteArray} {a1c : Int} {H : Heap} {R R' : Bool → Heap → Prop} (h : brackenlaw9_InternHash.C a0s a1c H R) (hr : ∀ r0 H', R r0 H' → R' r0 H') : brackenlaw9_InternHash.C a0s a1c H R' :=
  Ev.Fn.mono h fun _ _ ⟨r0, hv, hh⟩ => ⟨r0, hv, hr _ _ hh⟩
def brackenlaw9_InternNumbers.C (a0l_p : Option Addr) (a0l_l a0l_c : Nat) (H : Heap) (R : Bool → Heap → Prop) : Prop := Ev.Fn Try.prog 4 #[.slice a0l_p a0l_l a0l_c] H fun v H' => ∃ r0 : Bool, v = .bool r0 ∧ R r0 H'
theorem brackenlaw9_InternNumbers.C_mono {a0l_p : Option Addr} {a0l_l a0l_c : Nat} {H : Heap} {R R' : Bool → Heap → Prop} (h : brackenlaw9_InternNumbers.C a0l_p a0l_l a0l_c H R) (hr : ∀ r0 H', R r0 H' → R' r0 H') : brackenlaw9_InternNumbers.C a0l_p a0l_l a0l_c H R' :=
  Ev.Fn.mono h fun _ _ ⟨r0, hv, hh⟩ => ⟨r0, hv, hr _ _ hh⟩
def brackenref1_NewTable.C  (H : Heap) (R : Option Addr → Heap → Prop) : Prop := Ev.Fn Try.prog 13 #[] H fun v H' => ∃ r0 : Option Addr, v = .pointer r0 ∧ R r0 H'
theorem brackenref1_NewTable.C_mono  {H : Heap} {R R' : Option Addr → Heap → Prop} (h : brackenref1_NewTable.C  H R) (hr : ∀ r0 H', R r0 H' → R' r0 H') : brackenref1_NewTable.C  H R' :=
  Ev.Fn.mono h fun _ _ ⟨r0, hv, hh⟩ => ⟨r0, hv, hr _ _ hh⟩
def brackenref1_Hash.C (a0s : ByteArray) (H : Heap) (R : Int → Heap → Prop) : Prop := Ev.Fn Try.prog 17 #[.string a0s] H fun v H' => ∃ r0 : Int, v = .int .u64 r0 ∧ R r0 H'
theorem brackenref1_Hash.C_mono {a0s : ByteArray} {H : Heap} {R R' : Int → Heap → Prop} (h : brackenref1_Hash.C a0s H R) (hr : ∀ r0 H', R r0 H' → R' r0 H') : brackenref1_Hash.C a0s H R' :=
  Ev.Fn.mono h fun _ _ ⟨r0, hv, hh⟩ => ⟨r0, hv, hr _ _ hh⟩
def brackenref1_Table_look.C (a0t : Option Addr) (a1s : ByteArray) (H : Heap) (R : Int → Int → Heap → Prop) : Prop := Ev.Fn Try.prog 22 #[.pointer a0t, .string a1s] H fun v H' => ∃ r0 : Int, ∃ r1 : Int, v = .tuple #[.int .i64 r0, .int .i64 r1] ∧ R r0 r1 H'
theorem brackenref1_Table_look.C_mono {a0t : Option Addr} {a1s : ByteArray} {H : Heap} {R R' : Int → Int → Heap → Prop} (h : brackenref1_Table_look.C a0t a1s H R) (hr : ∀ r0 r1 H', R r0 r1 H' → R' r0 r1 H') : brackenref1_Table_look.C a0t a1s H R' :=
  Ev.Fn.mono h fun _ _ ⟨r0, r1, hv, hh⟩ => ⟨r0, r1, hv, hr _ _ _ hh⟩
def brackenref1_Table_Find.C (a0t : Option Addr) (a1s : ByteArray) (H : Heap) (R : Int → Bool → Heap → Prop) : Prop := Ev.Fn Try.prog 14 #[.pointer a0t, .string a1s] H fun v H' => ∃ r0 : Int, ∃ r1 : Bool, v = .tuple #[.int .i64 r0, .bool r1] ∧ R r0 r1 H'
theorem brackenref1_Table_Find.C_mono {a0t : Option Addr} {a1s : ByteArray} {H : Heap} {R R' : Int → Bool → Heap → Prop} (h : brackenref1_Table_Find.C a0t a1s H R) (hr : ∀ r0 r1 H', R r0 r1 H' → R' r0 r1 H') : brackenref1_Table_Find.C a0t a1s H R' :=
  Ev.Fn.mono h fun _ _ ⟨r0, r1, hv, hh⟩ => ⟨r0, r1, hv, hr _ _ _ hh⟩
def brackenref1_Table_Put.C (a0t : Option Addr) (a1s : ByteArray) (H : Heap) (R : Int → Heap → Prop) : Prop := Ev.Fn Try.prog 15 #[.pointer a0t, .string a1s] H fun v H' => ∃ r0 : Int, v = .int .i64 r0 ∧ R r0 H'
theorem brackenref1_Table_Put.C_mono {a0t : Option Addr} {a1s : ByteArray} {H : Heap} {R R' : Int → Heap → Prop} (h : brackenref1_Table_Put.C a0t a1s H R) (hr : ∀ r0 H', R r0 H' → R' r0 H') : brackenref1_Table_Put.C a0t a1s H R' :=
  Ev.Fn.mono h fun _ _ ⟨r0, hv, hh⟩ => ⟨r0, hv, hr _ _ hh⟩
def intern_Table_Looked.C (a0t : Option Addr) (H : Heap) (R : Int → Heap → Prop) : Prop := Ev.Fn Try.prog 16 #[.pointer a0t] H fun v H' => ∃ r0 : Int, v = .int .i64 r0 ∧ R r0 H'
theorem intern_Table_Looked.C_mono {a0t : Option Addr} {H : Heap} {R R' : Int → Heap → Prop} (h : intern_Table_Looked.C a0t H R) (hr : ∀ r0 H', R r0 H' → R' r0 H') : intern_Table_Looked.C a0t H R' :=
  Ev.Fn.mono h fun _ _ ⟨r0, hv, hh⟩ => ⟨r0, hv, hr _ _ hh⟩
def brackenlaw9_InternPlays.C (a0l_p : Option Addr) (a0l_l a0l_c : Nat) (a1find_p : Option Addr) (a1find_l a1find_c : Nat) (H : Heap) (R : Bool → Heap → Prop) : Prop := Ev.Fn Try.prog 5 #[.slice a0l_p a0l_l a0l_c, .slice a1find_p a1find_l a1find_c] H fun v H' => ∃ r0 : Bool, v = .bool r0 ∧ R r0 H'
theorem brackenlaw9_InternPlays.C_mono {a0l_p : Option Addr} {a0l_l a0l_c : Nat} {a1find_p : Option Addr} {a1find_l a1find_c : Nat} {H : Heap} {R R' : Bool → Heap → Prop} (h : brackenlaw9_InternPlays.C a0l_p a0l_l a0l_c a1find_p a1find_l a1find_c H R) (hr : ∀ r0 H', R r0 H' → R' r0 H') : brackenlaw9_InternPlays.C a0l_p a0l_l a0l_c a1find_p a1find_l a1find_c H R' :=
  Ev.Fn.mono h fun _ _ ⟨r0, hv, hh⟩ => ⟨r0, hv, hr _ _ hh⟩
def brackenlaw9_name.C (a0i : Int) (H : Heap) (R : ByteArray → Heap → Prop) : Prop := Ev.Fn Try.prog 19 #[.int .i64 a0i] H fun v H' => ∃ r0 : ByteArray, v = .string r0 ∧ R r0 H'
theorem brackenlaw9_name.C_mono {a0i : Int} {H : Heap} {R R' : ByteArray → Heap → Prop} (h : brackenlaw9_name.C a0i H R) (hr : ∀ r0 H', R r0 H' → R' r0 H') : brackenlaw9_name.C a0i H R' :=
  Ev.Fn.mono h fun _ _ ⟨r0, hv, hh⟩ => ⟨r0, hv, hr _ _ hh⟩
def brackenlaw9_InternMany.C (a0n : Int) (a1s : ByteArray) (H : Heap) (R : Bool → Heap → Prop) : Prop := Ev.Fn Try.prog 6 #[.int .i64 a0n, .string a1s] H fun v H' => ∃ r0 : Bool, v = .bool r0 ∧ R r0 H'
theorem brackenlaw9_InternMany.C_mono {a0n : Int} {a1s : ByteArray} {H : Heap} {R R' : Bool → Heap → Prop} (h : brackenlaw9_InternMany.C a0n a1s H R) (hr : ∀ r0 H', R r0 H' → R' r0 H') : brackenlaw9_InternMany.C a0n a1s H R' :=
  Ev.Fn.mono h fun _ _ ⟨r0, hv, hh⟩ => ⟨r0, hv, hr _ _ hh⟩
end Go.Proofs.Ytjakbglakhpbjaa
