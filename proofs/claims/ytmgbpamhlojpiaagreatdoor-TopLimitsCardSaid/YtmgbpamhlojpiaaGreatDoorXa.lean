/- A plain reckoning of code over the heap alone is sound: first part. -/
import Derived.Calls
import Derived.Orders
import Derived.Tactics
import Derived.Deep.LoopGhost
import Derived.Laws.World
import Derived.Laws.Strings
import Derived.Laws.Cells
import Derived.Laws.StructEq
import Derived.ChangeKeysEq
import Derived.Laws.Append
import Derived.Laws.BytesString
import Derived.Laws.BytesArg
import Derived.Laws.AppendOwn
set_option linter.unusedVariables false
/-! A plain reckoning of the code of a function over the heap alone: slots become terms, draws vanish. -/
namespace Go.Ex

abbrev Heap := Array Obj

def hcell (H : Heap) (a : Addr) : Option Value :=
  match H[a.block]? with
  | some (.cells c _ _) => if a.spot.isSome then none else c[a.off]?
  | _ => none
def hfrozen (H : Heap) (a : Addr) : Bool :=
  match H[a.block]? with
  | some (.cells _ _ (lo, hi)) => lo ≤ a.off && a.off < hi
  | _ => false
def hset (H : Heap) (a : Addr) (v : Value) : Heap :=
  H.modify a.block fun
    | .cells c elem frozen => .cells (if a.spot.isSome then c else c.setIfInBounds a.off v) elem frozen
    | o => o
theorem cell?_eq (w : World) (a : Addr) : w.cell? a = hcell w.heap a := rfl
theorem frozen?_eq (w : World) (a : Addr) : w.frozen? a = hfrozen w.heap a := rfl
theorem setCell_heap (w : World) (a : Addr) (v : Value) : (w.setCell a v).heap = hset w.heap a v := rfl

/-- Two worlds that differ in their heap and in how much was drawn alone. -/
structure Sim (w w' : World) : Prop where
  os : w'.os = w.os
  tape : w'.tape = w.tape
  output : w'.output = w.output
theorem Sim.refl (w : World) : Sim w w := ⟨rfl, rfl, rfl⟩
theorem Sim.trans {a b c : World} (h : Sim a b) (k : Sim b c) : Sim a c := ⟨k.os.trans h.os, k.tape.trans h.tape, k.output.trans h.output⟩
theorem Sim.setCell (w : World) (a : Addr) (v : Value) : Sim w (w.setCell a v) := ⟨rfl, rfl, rfl⟩
theorem Sim.alloc (w : World) (o : Obj) : Sim w (w.alloc o) := ⟨rfl, rfl, rfl⟩
theorem Sim.drew (w : World) : Sim w w.drew := ⟨rfl, rfl, rfl⟩

/-- A call, over the heap alone. -/
def Fn (P : Program) (f : FuncId) (args : Array Value) (H : Heap) (R : Value → Heap → Prop) : Prop :=
  ∀ w : World, w.heap = H → Calls P f args w fun e w' => ∃ v, e = .returned v ∧ Sim w w' ∧ R v w'.heap
theorem Fn.mono {P : Program} {f : FuncId} {args : Array Value} {H : Heap} {R R' : Value → Heap → Prop} (h : Fn P f args H R) (hr : ∀ v H', R v H' → R' v H') : Fn P f args H R' :=
  fun w hw => (h w hw).mono fun _ _ ⟨v, he, hs, r⟩ => ⟨v, he, hs, hr _ _ r⟩

/-! ### Shapes of values -/
inductive Cs where
  | int (k : IntKind) | bool | str | ptr | slice | raw
  deriving DecidableEq
inductive Sh where
  | one (c : Cs)
  | agg (l : List Cs)

/-- There is a value of this shape of which 'ok' holds, and K. -/
def exC (c : Cs) (K : Value → Prop) : Prop :=
  match c with
  | .int k => ∃ n : Int, K (.int k n)
  | .bool => ∃ b : Bool, K (.bool b)
  | .str => ∃ s : ByteArray, K (.string s)
  | .ptr => ∃ p : Option Addr, K (.pointer p)
  | .slice => ∃ (p : Option Addr) (l c : Nat), K (.slice p l c)
  | .raw => ∃ v : Value, K v
def exCs : List Cs → List Value → (List Value → Prop) → Prop
  | [], acc, K => K acc
  | c :: cs, acc, K => exC c fun v => exCs cs (acc ++ [v]) K
def exSh (s : Sh) (K : Value → Prop) : Prop :=
  match s with
  | .one c => exC c K
  | .agg l => exCs l [] fun vs => K (.agg vs.toArray)
theorem exC_out {c : Cs} {K : Value → Prop} (h : exC c K) : ∃ v, K v := by
  cases c <;> simp only [exC] at h
  · obtain ⟨n, h⟩ := h; exact ⟨_, h⟩
  · obtain ⟨n, h⟩ := h; exact ⟨_, h⟩
  · obtain ⟨n, h⟩ := h; exact ⟨_, h⟩
  · obtain ⟨n, h⟩ := h; exact ⟨_, h⟩
  · obtain ⟨p, l, c, h⟩ := h; exact ⟨_, h⟩
  · exact h
theorem exCs_out : ∀ {l : List Cs} {acc : List Value} {K : List Value → Prop}, exCs l acc K → ∃ vs, vs.length = l.length ∧ K (acc ++ vs)
  | [], acc, K, h => ⟨[], rfl, by simpa [exCs] using h⟩
  | c :: cs, acc, K, h => by
    obtain ⟨v, h⟩ := exC_out (show exC c _ from h)
    obtain ⟨vs, hl, hk⟩ := exCs_out h
    exact ⟨v :: vs, by simp [hl], by simpa using hk⟩
theorem exSh_out {s : Sh} {K : Value → Prop} (h : exSh s K) : ∃ v, K v := by
  cases s with
  | one c => exact exC_out h
  | agg l => obtain ⟨vs, _, hk⟩ := exCs_out (show exCs l [] _ from h); exact ⟨_, hk⟩

/-- The cell shape of a type that lies in one cell. -/
def cellSh (P : Program) (t : TypeId) : Cs :=
  match P.underlying t with
  | some .bool => .bool
  | some (.int k) => .int k
  | some .string => .str
  | some (.pointer _) => .ptr
  | some (.slice _) => .slice
  | _ => .raw
/-- The cells of a type, laid flat. -/
def cellsSh (P : Program) : Nat → TypeId → List Cs
  | 0, _ => []
  | d + 1, t =>
    match P.underlying t with
    | some (.struct fs) => fs.toList.flatMap fun f => cellsSh P d f.type
    | some (.array n e) => (List.replicate n (cellsSh P d e)).flatten
    | _ => [cellSh P t]
def isAggT (P : Program) (t : TypeId) : Bool :=
  match P.underlying t with
  | some (.struct _) | some (.array _ _) => true
  | _ => false
def shOf (P : Program) (t : TypeId) : Sh :=
  match P.underlying t with
  | some (.struct _) | some (.array _ _) => .agg (cellsSh P 8 t)
  | _ => .one (cellSh P t)
def sizeT (P : Program) (t : TypeId) : Nat := match P.info? t with | some i => i.size | none => 0
def bytesT (P : Program) (t : TypeId) : Nat := match P.info? t with | some i => i.bytes | none => 0
def zeroT (P : Program) (t : TypeId) (K : Value → Prop) : Prop := match P.info? t with | some i => (match i.zero with | some v => K v | none => False) | none => False

/-! ### Slots -/
abbrev Env := Nat → Option Value
def put (e : Env) (d : Option Tmp) (v : Value) : Env :=
  match d with
  | some d => fun j => bif Nat.beq j d then some v else e j
  | none => e
def opv (e : Env) : Operand → Option Value
  | .tmp t => e t
  | .const v => some v
  | .global g => some (.pointer (some ⟨g, 0, none⟩))
  | .func f => some (.func (.func f) #[] #[])
def o1 (e : Env) (x : Operand) (K : Value → Prop) : Prop := match opv e x with | some v => K v | none => False
def oL (e : Env) : List Operand → List Value → (List Value → Prop) → Prop
  | [], acc, K => K acc
  | x :: xs, acc, K => o1 e x fun v => oL e xs (acc ++ [v]) K
def oO (e : Env) (x : Option Operand) (K : Option Value → Prop) : Prop := match x with | none => K none | some x => o1 e x fun v => K (some v)

/-- A test. -/
def brW (b : Bool) (A B : Prop) : Prop := match b with | true => A | false => B
theorem brW_cases {b : Bool} {A B : Prop} (h : brW b A B) : (b = true ∧ A) ∨ (b = false ∧ B) := by cases b <;> simp_all [brW]
theorem brW_mk {b : Bool} {A B : Prop} (h1 : b = true → A) (h2 : b = false → B) : brW b A B := by cases b <;> simp_all [brW]

/-! ### Operations that touch no memory -/
def andW (k : IntKind) (a b : Int) : Int := k.wrap (BitVec.ofInt k.bits a &&& BitVec.ofInt k.bits b).toNat
def orW (k : IntKind) (a b : Int) : Int := k.wrap (BitVec.ofInt k.bits a ||| BitVec.ofInt k.bits b).toNat
def xorW (k : IntKind) (a b : Int) : Int := k.wrap (BitVec.ofInt k.bits a ^^^ BitVec.ofInt k.bits b).toNat
def andNotW (k : IntKind) (a b : Int) : Int := k.wrap (BitVec.ofInt k.bits a &&& ~~~ BitVec.ofInt k.bits b).toNat
def notW (k : IntKind) (n : Int) : Int := k.wrap (BitVec.ofInt k.bits (if k.signed then -1 else k.max) ^^^ BitVec.ofInt k.bits n).toNat
def shlW (k : IntKind) (a b : Int) : Int := k.wrap (a * 2 ^ min b.toNat k.bits)
def shrW (k : IntKind) (a b : Int) : Int := a.fdiv (2 ^ min b.toNat k.bits)
/-- A value, a heap, under a name. -/
def letV {α : Type} (x : α) (K : α → Prop) : Prop := K x
theorem letV_mk {α : Type} {x : α} {K : α → Prop} (h : ∀ y, y = x → K y) : letV x K := h x rfl
def binI (op : BinOp) (k : IntKind) (a : Int) (k' : IntKind) (b : Int) (K : Value → Prop) : Prop :=
  match op with
  | .shl => 0 ≤ b ∧ K (.int k (shlW k a b))
  | .shr => 0 ≤ b ∧ K (.int k (shrW k a b))
  | .add => if k = k' then K (.int k (k.wrap (a + b))) else False
  | .sub => if k = k' then K (.int k (k.wrap (a - b))) else False
  | .mul => if k = k' then K (.int k (k.wrap (a * b))) else False
  | .quo => if k = k' then b ≠ 0 ∧ K (.int k (k.wrap (a.tdiv b))) else False
  | .rem => if k = k' then b ≠ 0 ∧ K (.int k (a.tmod b)) else False
  | .and => if k = k' then K (.int k (andW k a b)) else False
  | .or => if k = k' then K (.int k (orW k a b)) else False
  | .xor => if k = k' then K (.int k (xorW k a b)) else False
  | .andNot => if k = k' then K (.int k (andNotW k a b)) else False
  | .eql => if k = k' then K (.bool (decide (a = b))) else False
  | .neq => if k = k' then K (.bool (decide (a ≠ b))) else False
  | .lss => if k = k' then K (.bool (decide (a < b))) else False
  | .leq => if k = k' then K (.bool (decide (a ≤ b))) else False
  | .gtr => if k = k' then K (.bool (decide (b < a))) else False
  | .geq => if k = k' then K (.bool (decide (b ≤ a))) else False
def binS (op : BinOp) (a b : ByteArray) (K : Value → Prop) : Prop :=
  match op with
  | .add => a.size + b.size ≤ 9223372036854775807 ∧ K (.string (a ++ b))
  | .eql => K (.bool (decide (a = b)))
  | .neq => K (.bool (decide (a ≠ b)))
  | _ => False
/-- '==' and '!=' beside numbers and texts. -/
def eqK (P : Program) (neg : Bool) (t : TypeId) (x y : Value) (K : Value → Prop) : Prop :=
  match P.underlying t with
  | some .bool => (match x, y with
    | .bool a, .bool b => K (.bool (match neg with | true => decide (a ≠ b) | false => decide (a = b)))
    | _, _ => False)
  | some (.pointer _) => (match x, y with
    | .pointer p, .pointer none => K (.bool (match neg with | true => p.isSome | false => p.isNone))
    | _, _ => False)
  | some (.slice _) => (match x, y with
    | .slice p _ _, .slice none _ _ => K (.bool (match neg with | true => p.isSome | false => p.isNone))
    | _, _ => False)
  | _ => False
def convK (P : Program) (src dst : TypeId) (x : Value) (K : Value → Prop) : Prop :=
  match P.underlying src with
  | none => False
  | some _ => match P.underlying dst, x with
    | some (.int k), .int _ n => K (.int k (k.wrap n))
    | some .string, .string s => K (.string s)
    | _, _ => False
def lenK (P : Program) (t : TypeId) (x : Value) (K : Value → Prop) : Prop :=
  match P.underlying t, x with
  | some .string, .string s => K (.int .i64 (s.size : Int))
  | some (.array n _), _ => K (.int .i64 (n : Int))
  | some (.slice _), .slice _ n _ => K (.int .i64 (n : Int))
  | _, _ => False
def capK (P : Program) (t : TypeId) (x : Value) (K : Value → Prop) : Prop :=
  match P.underlying t, x with
  | some (.slice _), .slice _ _ c => K (.int .i64 (c : Int))
  | _, _ => False
def maxK : Value → List Value → (Value → Prop) → Prop
  | x, [], K => K x
  | .int k a, .int _ b :: r, K => maxK (.int k (max a b)) r K
  | _, _ :: _, _ => False
def minK : Value → List Value → (Value → Prop) → Prop
  | x, [], K => K x
  | .int k a, .int _ b :: r, K => minK (.int k (min a b)) r K
  | _, _ :: _, _ => False
def bndK (x : Option Value) (dflt y : Nat) (K : Nat → Prop) : Prop :=
  match x with
  | none => K dflt
  | some (.int _ i) => 0 ≤ i ∧ i ≤ (y : Int) ∧ K i.toNat
  | _ => False
def mulSize (i size : Nat) : Nat := bif Nat.beq size 1 then i else i * size
def sliceK (P : Program) (t : TypeId) (x : Value) (lo hi : Option Value) (K : Value → Prop) : Prop :=
  match P.underlying t, x with
  | some .string, .string s => bndK hi s.size s.size fun h => bndK lo 0 h fun l => K (.string (s.extract l h))
  | some (.slice e), .slice p n c => bndK hi n c fun h => bndK lo 0 h fun l =>
      (match P.info? e with
       | some i => K (.slice (if c = l then p else p.map (·.add (mulSize l i.size))) (h - l) (c - l))
       | none => False)
  | _, _ => False
def indexAddrK (P : Program) (t : TypeId) (x ix : Value) (K : Value → Prop) : Prop :=
  match ix with
  | .int _ i =>
    (match P.underlying t, x with
    | some (.slice e), .slice p n _ => ∃ a, p = some a ∧ 0 ≤ i ∧ i < (n : Int) ∧
        (match P.info? e with | some j => K (.pointer (some (a.add (mulSize i.toNat j.size)))) | none => False)
    | some (.array n e), .pointer (some a) => 0 ≤ i ∧ i < (n : Int) ∧
        (match P.info? e with | some j => K (.pointer (some (a.add (mulSize i.toNat j.size)))) | none => False)
    | _, _ => False)
  | _ => False
/-- A byte of a text. -/
def bt (s : ByteArray) (i : Int) : Int := ((s.data.toList.getD i.toNat 0).toNat : Int)
def indexK (P : Program) (t : TypeId) (x ix : Value) (K : Value → Prop) : Prop :=
  match ix with
  | .int _ i =>
    (match P.underlying t, x with
    | some .string, .string s => 0 ≤ i ∧ i < (s.size : Int) ∧ K (.int .u8 (bt s i))
    | _, _ => False)
  | _ => False
def partK (P : Program) (t : TypeId) (cs : Array Value) (off : Nat) (K : Value → Prop) : Prop :=
  match isAggT P t with
  | true => K (.agg (cs.extract off (off + sizeT P t)))
  | false => (match cs[off]? with | some v => K v | none => False)
def fieldK (P : Program) (t : TypeId) (x : Value) (f : Nat) (K : Value → Prop) : Prop :=
  match P.underlying t, x with
  | some (.struct fs), .agg cs => (match fs[f]? with
    | some fd => (match P.underlying fd.type, P.info? fd.type with | some _, some _ => partK P fd.type cs fd.offset K | _, _ => False)
    | none => False)
  | _, _ => False
def fieldAddrK (P : Program) (t : TypeId) (x : Value) (f : Nat) (K : Value → Prop) : Prop :=
  match P.underlying t, x with
  | some (.struct fs), .pointer (some a) => (match fs[f]? with
    | some fd => (match P.info? fd.type with
      | some i => bif Nat.beq i.size 0 then False else K (.pointer (some (a.add fd.offset)))
      | none => False)
    | none => False)
  | _, _ => False
/-- What a two-valued assertion to a type tells of an interface value. -/
def TaRel (x : Value) (T : TypeId) (v zero : Value) (ok : Bool) : Prop :=
  (ok = true ∧ x = .iface T v) ∨ (ok = false ∧ v = zero ∧ (x = .nilIface ∨ ∃ t u, x = .iface t u ∧ t ≠ T))
def assertK (P : Program) (x : Value) (T : TypeId) (commaOk : Bool) (K : Value → Prop) : Prop :=
  match P.underlying T with
  | some (.interface _) | none => False
  | some _ => match commaOk with
    | true => zeroT P T fun z => exSh (shOf P T) fun v => ∃ ok : Bool, TaRel x T v z ok ∧ K (.tuple #[v, .bool ok])
    | false => exSh (shOf P T) fun v => x = .iface T v ∧ K v
def extractK (x : Value) (i : Nat) (K : Value → Prop) : Prop :=
  match x with
  | .tuple vs => (match vs[i]? with | some v => K v | none => False)
  | _ => False
def ifaceK (P : Program) (t : TypeId) (x : Value) (K : Value → Prop) : Prop :=
  match P.underlying t with
  | some (.interface _) | none => False
  | some _ => K (.iface t x)
/-- A value that lies in one cell. -/
def oneW (v : Value) (K : Prop) : Prop := match v with | .agg _ | .tuple _ => False | _ => K
def setMany (cs : List Value) (off : Nat) : List Value → List Value
  | [] => cs
  | v :: vs => setMany (cs.set off v) (off + 1) vs
/-- Parts laid into a row of cells. -/
def fillK (place : Nat → Option (Nat × Nat × Bool)) : List Value → List (Nat × Value) → (List Value → Prop) → Prop
  | cells, [], K => K cells
  | cells, (i, v) :: rest, K =>
    match place i with
    | none => False
    | some (off, size, agg) =>
      match agg with
      | false => oneW v (bif Nat.blt off cells.length && Nat.beq size 1 then fillK place (cells.set off v) rest K else False)
      | true => (match v with
        | .agg vs => bif Nat.beq vs.size size && Nat.ble (off + vs.size) cells.length then fillK place (setMany cells off vs.toList) rest K else False
        | _ => False)
def cellsV (v : Value) : List Value := match v with | .agg cs => cs.toList | v => [v]
def placeS (P : Program) (fs : Array Field) (i : Nat) : Option (Nat × Nat × Bool) :=
  match fs[i]? with
  | some f => some (f.offset, sizeT P f.type, isAggT P f.type)
  | none => none
def opL (e : Env) : List (Nat × Operand) → List (Nat × Value) → (List (Nat × Value) → Prop) → Prop
  | [], acc, K => K acc
  | (i, x) :: xs, acc, K => o1 e x fun v => opL e xs (acc ++ [(i, v)]) K
def infosOk (P : Program) (fs : Array Field) : Bool := fs.all fun f => (P.info? f.type).isSome
def buildK (P : Program) (t : TypeId) (parts : List (Nat × Value)) (K : Value → Prop) : Prop :=
  zeroT P t fun z => match P.underlying t with
    | some (.struct fs) => bif infosOk P fs then fillK (placeS P fs) (cellsV z) parts fun cs => K (.agg cs.toArray) else False
    | some (.array _ e) => bif (P.info? e).isSome then fillK (fun i => some (i * sizeT P e, sizeT P e, isAggT P e)) (cellsV z) parts fun cs => K (.agg cs.toArray) else False
    | _ => False
def unK (op : UnOp) (x : Value) (K : Value → Prop) : Prop :=
  match op, x with
  | .neg, .int k n => K (.int k (k.wrap (0 - n)))
  | .not, .bool b => K (.bool (!b))
  | .xor, .int k n => K (.int k (notW k n))
  | _, _ => False
def nilCheckK (x : Value) (K : Value → Prop) : Prop :=
  match x with
  | .pointer p => ∃ a, p = some a ∧ K (.pointer (some a))
  | _ => False
def isEq : BinOp → Option Bool
  | .eql => some false
  | .neq => some true
  | _ => none
/-- Two cells of a plain type: are they alike? -/
def eqCell (P : Program) (e : TypeId) (a b : Value) : Option Bool :=
  match P.underlying e, a, b with
  | some (.int _), .int k x, .int k' y => if k = k' then some (decide (x = y)) else none
  | some .string, .string x, .string y => some (decide (x = y))
  | some .bool, .bool x, .bool y => some (decide (x = y))
  | _, _, _ => none
def eqTwo (P : Program) (e : TypeId) (xs ys : List Value) (i : Nat) (r : Option Bool) : Option Bool :=
  match xs[i]?, ys[i]? with
  | some a, some b => (match eqCell P e a b, r with
    | some x, some y => some (x && y)
    | _, _ => none)
  | _, _ => none
def eqArr (P : Program) (e : TypeId) (xs ys : List Value) : Nat → Nat → Option Bool
  | 0, _ => some true
  | n + 1, i => eqTwo P e xs ys i (eqArr P e xs ys n (i + 1))
def eqFlds (P : Program) (xs ys : List Value) : List Field → Option Bool
  | [] => some true
  | f :: fs => bif f.name == "_" then none else eqTwo P f.type xs ys f.offset (eqFlds P xs ys fs)
/-- '==' and '!=' of arrays and structs of plain cells. -/
def eqAggK (P : Program) (neg : Bool) (t : TypeId) (xs ys : Array Value) (K : Value → Prop) : Prop :=
  bif P.eqGuardType P.depth t then False else
  match P.underlying t with
  | some (.array n e) => bif Nat.beq (P.cellsOf e) 1 && (P.info? e).isSome then
      (match eqArr P e xs.toList ys.toList n 0 with
       | some b => K (.bool (bif neg then !b else b))
       | none => False) else False
  | some (.struct fs) => bif P.stoodInHeld t then False else
      (match eqFlds P xs.toList ys.toList fs.toList with
       | some b => K (.bool (bif neg then !b else b))
       | none => False)
  | _ => False
def binAll (P : Program) (op : BinOp) (t : TypeId) (x y : Value) (K : Value → Prop) : Prop :=
  match x with
  | .int k a => (match y with | .int k' b => binI op k a k' b K | _ => False)
  | .string a => (match y with | .string b => binS op a b K | _ => False)
  | .agg xs => (match y with
    | .agg ys => (match isEq op with | some neg => eqAggK P neg t xs ys K | none => False)
    | _ => False)
  | x => (match isEq op with | some neg => eqK P neg t x y K | none => False)

def evPure0 (P : Program) (o : Op) (e : Env) (K : Value → Prop) : Prop :=
  match o with
  | .move x => o1 e x K
  | .assign x => o1 e x K
  | .pick c a b => o1 e c fun vc => (match vc with
    | .bool t => brW t (o1 e a K) (o1 e b K)
    | _ => False)
  | .nilCheck x => o1 e x fun v => nilCheckK v K
  | .binOp op t x y _ => o1 e x fun vx => o1 e y fun vy => binAll P op t vx vy K
  | .unOp op _ x => o1 e x fun v => unK op v K
  | .convert s d x => o1 e x fun v => convK P s d v K
  | .makeInterface t x => o1 e x fun v => ifaceK P t v K
  | .slice t x lo hi none => o1 e x fun v => oO e lo fun l => oO e hi fun h => sliceK P t v l h K
  | .fieldAddr t x f => o1 e x fun v => fieldAddrK P t v f K
  | .field t x f => o1 e x fun v => fieldK P t v f K
  | .indexAddr t x ix => o1 e x fun v => o1 e ix fun i => indexAddrK P t v i K
  | .index t x ix => o1 e x fun v => o1 e ix fun i => indexK P t v i K
  | .typeAssert x _ T ok => o1 e x fun v => assertK P v T ok K
  | .extract x i => o1 e x fun v => extractK v i K
  | .build t parts => opL e parts.toList [] fun ps => buildK P t ps K
  | .call { callee := .builtin .len, args := args, argTypes := ts } => (match args.toList, ts.toList with
    | [x], [t] => o1 e x fun v => lenK P t v K
    | _, _ => False)
  | .call { callee := .builtin .cap, args := args, argTypes := ts } => (match args.toList, ts.toList with
    | [x], [t] => o1 e x fun v => capK P t v K
    | _, _ => False)
  | .call { callee := .builtin .max, args := args, .. } => oL e args.toList [] fun vs => (match vs with | v :: r => maxK v r K | [] => False)
  | .call { callee := .builtin .min, args := args, .. } => oL e args.toList [] fun vs => (match vs with | v :: r => minK v r K | [] => False)
  | _ => False

/-! ### Operations that read memory -/
def ldC (c : Cs) (H : Heap) (a : Addr) (K : Value → Prop) : Prop :=
  match c with
  | .int k => ∃ n : Int, hcell H a = some (.int k n) ∧ K (.int k n)
  | .bool => ∃ b : Bool, hcell H a = some (.bool b) ∧ K (.bool b)
  | .str => ∃ s : ByteArray, hcell H a = some (.string s) ∧ K (.string s)
  | .ptr => ∃ p : Option Addr, hcell H a = some (.pointer p) ∧ K (.pointer p)
  | .slice => ∃ (p : Option Addr) (l c : Nat), hcell H a = some (.slice p l c) ∧ K (.slice p l c)
  | .raw => ∃ v : Value, hcell H a = some v ∧ K v
def ldCs (H : Heap) (a : Addr) : List Cs → Nat → List Value → (List Value → Prop) → Prop
  | [], _, acc, K => K acc
  | c :: cs, i, acc, K => ldC c H (a.add i) fun v => ldCs H a cs (i + 1) (acc ++ [v]) K
theorem ldC_out {c : Cs} {H : Heap} {a : Addr} {K : Value → Prop} (h : ldC c H a K) : ∃ v, hcell H a = some v ∧ K v := by
  cases c <;> simp only [ldC] at h
  · obtain ⟨n, h⟩ := h; exact ⟨_, h⟩
  · obtain ⟨n, h⟩ := h; exact ⟨_, h⟩
  · obtain ⟨n, h⟩ := h; exact ⟨_, h⟩
  · obtain ⟨n, h⟩ := h; exact ⟨_, h⟩
  · obtain ⟨p, l, c, h⟩ := h; exact ⟨_, h⟩
  · exact h
theorem ldCs_out {H : Heap} {a : Addr} : ∀ {l : List Cs} {i : Nat} {acc : List Value} {K : List Value → Prop}, ldCs H a l i acc K →
    ∃ vs, vs.length = l.length ∧ (∀ j v, vs[j]? = some v → hcell H (a.add (i + j)) = some v) ∧ K (acc ++ vs)
  | [], i, acc, K, h => ⟨[], rfl, by simp, by simpa [ldCs] using h⟩
  | c :: cs, i, acc, K, h => by
    obtain ⟨v, hv, h⟩ := ldC_out (show ldC c H (a.add i) _ from h)
    obtain ⟨vs, hl, hc, hk⟩ := ldCs_out h
    refine ⟨v :: vs, by simp [hl], ?_, by simpa using hk⟩
    intro j u hu
    cases j with
    | zero => simp only [List.getElem?_cons_zero, Option.some.injEq] at hu; subst hu; simpa using hv
    | succ j => have := hc j u (by simpa using hu); rw [show i + 1 + j = i + (j + 1) by omega] at this; exact this
def cellsAt (H : Heap) (p : Option Addr) (cs : List Value) : Prop :=
  match p with
  | none => cs = []
  | some a => ∀ j v, cs[j]? = some v → hcell H (a.add j) = some v
def bytesCells (s : ByteArray) : List Value := s.data.toList.map fun b => .int .u8 b.toNat
/-- The text of a row of bytes. -/
def BytesAt (H : Heap) (p : Option Addr) (l : Nat) (s : ByteArray) : Prop :=
  match p with
  | none => s = ByteArray.empty
  | some a => s.size = l ∧ cellsAt H (some a) (bytesCells s)
def evRead0 (P : Program) (o : Op) (e : Env) (H : Heap) (K : Value → Prop) : Prop :=
  match o with
  | .load t x => o1 e x fun v => (match v with
    | .pointer (some a) => (match P.underlying t with
      | none => False
      | some (.struct _) | some (.array _ _) =>
        bif Nat.beq (cellsSh P 8 t).length (sizeT P t) && (P.info? t).isSome then ldCs H a (cellsSh P 8 t) 0 [] fun vs => K (.agg vs.toArray) else False
      | some _ => ldC (cellSh P t) H a K)
    | _ => False)
  | .convert s d x => o1 e x fun v => (match P.underlying s, P.underlying d, v with
    | some (.slice b), some .string, .slice p l _ => (match P.underlying b with
      | some (.int .u8) => ∃ t : ByteArray, BytesAt H p l t ∧ K (.string t)
      | _ => False)
    | _, _, _ => False)
  | _ => False

/-! ### Operations that write memory, or call -/
def stC (H : Heap) (a : Addr) (v : Value) (K : Heap → Prop) : Prop :=
  oneW v ((∃ u, hcell H a = some u) ∧ hfrozen H a = false ∧ K (hset H a v))
def stCs (H : Heap) (a : Addr) : List Value → Nat → (Heap → Prop) → Prop
  | [], _, K => K H
  | v :: vs, i, K => stC H (a.add i) v fun H' => stCs H' a vs (i + 1) K
def hnew (H : Heap) (cs : Array Value) (t : TypeId) : Heap := H.push (.cells cs t)
def newAt (H : Heap) : Value := .pointer (some ⟨H.size, 0, none⟩)
/-- n elements, each the zero value. -/
def zerosOf (z : Value) (n : Nat) : Array Value := (Array.range (n * (cellsV z).length)).map fun i => (cellsV z).getD (i % (cellsV z).length) undef
/-- What is appended: its cells. -/
def appended (H : Heap) (size : Nat) (x : Value) (n : Nat) (new : List Value) : Prop :=
  match x with
  | .slice p l _ => n = l ∧ (match p with | none => l = 0 ∧ new = [] | some _ => new.length = l * size ∧ cellsAt H p new)
  | .string s => n = s.size ∧ size = 1 ∧ new = bytesCells s
  | _ => False
def appW (el size bytes : Nat) (z : Value) (p : Option Addr) (l c : Nat) (y : Value) (H : Heap) (K : Option Addr → Nat → Nat → Heap → Prop) : Prop :=
  ∃ (n : Nat) (new : List Value), appended H size y n new ∧
    ((l + n ≤ c ∧ (match p with
      | none => n = 0 ∧ K none l c H
      | some a => stCs H (a.add (l * size)) new 0 fun H' => K (some a) (l + n) c H')) ∨
     (c < l + n ∧ (l + n) * bytes ≤ 140737488355328 ∧ bytes ≠ 0 ∧ ∃ old : List Value, old.length = l * size ∧ cellsAt H p old ∧
      ∀ cap, l + n ≤ cap → K (some ⟨H.size, 0, none⟩) (l + n) cap (hnew H (old.toArray ++ new.toArray ++ zerosOf z (cap - (l + n))) el)))
def appV (P : Program) (t : TypeId) (x y : Value) (H : Heap) (K : Value → Heap → Prop) : Prop :=
  match P.underlying t with
  | some (.slice el) => (match x, P.info? el with
    | .slice p l c, some i => zeroT P el fun z => appW el i.size i.bytes z p l c y H fun p l c H' => K (.slice p l c) H'
    | _, _ => False)
  | _ => False
/-- The results of a function, by their types. -/
def resSh (P : Program) : List TypeId → List Value → (Value → Prop) → Prop
  | [], acc, K => K (.tuple acc.toArray)
  | t :: ts, acc, K => exSh (shOf P t) fun v => resSh P ts (acc ++ [v]) K
def resW (P : Program) (ts : List TypeId) (v : Value) (K : Value → Prop) : Prop :=
  match ts with
  | [t] => exSh (shOf P t) fun u => v = u ∧ K u
  | ts => resSh P ts [] fun u => v = u ∧ K u
def callW (P : Program) (f : FuncId) (args : Array Value) (H : Heap) (K : Value → Heap → Prop) : Prop :=
  match P.funcs[f]? with
  | some fn => bif fn.body.isSome then Fn P f args H K else False
  | none => False
/-- What is asked of the program as a whole. -/
def progOk (P : Program) : Bool := P.follows .mixedOrders && P.funcs.all fun fn => !(fn.name == "runtime.NumGoroutine")
def evWrite0 (P : Program) (o : Op) (e : Env) (H : Heap) (K : Value → Heap → Prop) : Prop :=
  match o with
  | .store t x y => o1 e x fun v => o1 e y fun u => (match v with
    | .pointer (some a) => (match isAggT P t with
      | true => (match u with
        | .agg cs => bif Nat.beq cs.size (sizeT P t) && (P.info? t).isSome then stCs H a cs.toList 0 fun H' => K undef H' else False
        | _ => False)
      | false => bif Nat.beq 1 (sizeT P t) && (P.info? t).isSome then stC H a u fun H' => K undef H' else False)
    | _ => False)
  | .alloc t => zeroT P t fun z => K (newAt H) (hnew H (cellsV z).toArray t)
  | .box t x => o1 e x fun v => (match v with
    | .agg cs => K (newAt H) (hnew H cs t)
    | _ => oneW v (K (newAt H) (hnew H #[v] t)))
  | .makeSlice t l c => o1 e l fun vl => o1 e c fun vc => (match P.underlying t, vl, vc with
    | some (.slice el), .int _ n, .int _ m => (match P.info? el with
      | some i => zeroT P el fun z => bif Nat.beq (cellsV z).length i.size && Nat.blt 0 i.bytes && Nat.blt 0 i.size then 0 ≤ n ∧ n ≤ m ∧ (i.bytes : Int) * m ≤ 281474976710656 ∧
          K (.slice (some ⟨H.size, 0, none⟩) n.toNat m.toNat) (hnew H (zerosOf z m.toNat) el) else False
      | none => False)
    | _, _, _ => False)
  | .buildSlice t len parts => opL e parts.toList [] fun ps => (match P.underlying t with
    | some (.slice el) => (match P.info? el with
      | some i => zeroT P el fun z => bif Nat.ble (len * i.size) 1024 && Nat.beq (cellsV z).length i.size then
          fillK (fun j => some (j * i.size, i.size, isAggT P el)) ((List.replicate len (cellsV z)).flatten) ps fun cs =>
            K (.slice (some ⟨H.size, 0, none⟩) len len) (hnew H cs.toArray el) else False
      | none => False)
    | _ => False)
  | .convert s d x => o1 e x fun v => (match P.underlying s, P.underlying d, v with
    | some _, some (.slice b), .string t => (match P.underlying b with
      | some (.int .u8) => ∀ cap, t.size ≤ cap → K (.slice (some ⟨H.size, 0, none⟩) t.size cap)
          (H.push (.cells ((bytesCells t).toArray ++ Array.replicate (cap - t.size) (.int .u8 0)) b (cap, cap + 1)))
      | _ => False)
    | _, _, _ => False)
  | .call { callee := .builtin .append, args := args, argTypes := ts } => (match args.toList, ts.toList with
    | [x, y], [t, u] => (match P.underlying u with
      | some (.int _) | none => False
      | some _ => o1 e x fun vx => o1 e y fun vy => appV P t vx vy H K)
    | _, _ => False)
  | .call { callee := .value (.func f), args := args, .. } => oL e args.toList [] fun vs => callW P f vs.toArray H K
  | _ => False

/-! ### Which of the three an operation is -/
inductive Kind where
  | pure | read | write
  deriving DecidableEq
def kindOf (P : Program) (o : Op) : Kind :=
  match o with
  | .load _ _ => .read
  | .convert s d _ => (match P.underlying s, P.underlying d with
    | some (.slice _), some .string => .read
    | some .string, some (.slice _) => .write
    | some (.slice _), some (.slice _) => .write
    | some (.pointer _), some .unsafePointer => .read
    | some .unsafePointer, some (.pointer _) => .read
    | _, _ => .pure)
  | .store .. | .alloc _ | .box .. | .makeSlice .. | .buildSlice .. => .write
  | .call { callee := .builtin .append, .. } => .write
  | .call { callee := .value _, .. } => .write
  | .call { callee := .invoke .., .. } => .write
  | .call { callee := .builtin .copy, .. } => .write
  | .call { callee := .builtin .clear, .. } => .write
  | .call { callee := .builtin .unsafeString, .. } => .write
  | .makeMap .. | .mapUpdate .. | .insert .. | .range .. | .next .. => .write
  | .lookup .. => .read
  | _ => .pure

def Agrees (e : Env) (ρ : Operand → Value) (xs : List Operand) : Prop := ∀ x ∈ xs, ∀ v, opv e x = some v → ρ x = v
/-! ### A way beside: what the machine does, said outright -/
def rawP (P : Program) (op : Op) (e : Env) (K : Value → Prop) : Prop :=
  ∀ o : Oper, o.op = op → ∃ v, K v ∧ ∀ ρ, Agrees e ρ op.operands.toList → ∀ w, (execOp ρ o).run P w = .ok (.value v) w
def rawR (P : Program) (op : Op) (e : Env) (H : Heap) (K : Value → Prop) : Prop :=
  ∀ o : Oper, o.op = op → ∃ v, K v ∧ ∀ ρ, Agrees e ρ op.operands.toList → ∀ w, w.heap = H → (execOp ρ o).run P w = .ok (.value v) w
def rawW (P : Program) (op : Op) (e : Env) (H : Heap) (K : Value → Heap → Prop) : Prop :=
  ∀ (o : Oper) (a : Act) (w : World) (next : Act → World → Prop) (Q : Exit → Act → World → Prop), o.op = op → Agrees e a.eval op.operands.toList → w.heap = H →
    (∀ v w', Sim w w' → K v w'.heap → next (a.put o.dst v) w') → o.wp P a w next Q
def evPure (P : Program) (o : Op) (e : Env) (K : Value → Prop) : Prop := evPure0 P o e K ∨ rawP P o e K
def evRead (P : Program) (o : Op) (e : Env) (H : Heap) (K : Value → Prop) : Prop := evRead0 P o e H K ∨ rawR P o e H K
def evWrite (P : Program) (o : Op) (e : Env) (H : Heap) (K : Value → Heap → Prop) : Prop := evWrite0 P o e H K ∨ rawW P o e H K

end Go.Ex
/-! The reckoning of regions and of code. -/
namespace Go.Ex

/-! ### What a loop, or two ways that meet, hand on: some slots, by their shapes -/
def CsT : Cs → Type
  | .int _ => Int
  | .bool => Bool
  | .str => ByteArray
  | .ptr => Option Addr
  | .slice => Option Addr × Nat × Nat
  | .raw => Value
def embC : (c : Cs) → CsT c → Value
  | .int k, n => .int k n
  | .bool, b => .bool b
  | .str, s => .string s
  | .ptr, p => .pointer p
  | .slice, x => .slice x.1 x.2.1 x.2.2
  | .raw, v => v
def xC : (c : Cs) → Value → (CsT c → Prop) → Prop
  | .int k, v, K => (match v with | .int k' n => if k' = k then K n else False | _ => False)
  | .bool, v, K => (match v with | .bool b => K b | _ => False)
  | .str, v, K => (match v with | .string s => K s | _ => False)
  | .ptr, v, K => (match v with | .pointer p => K p | _ => False)
  | .slice, v, K => (match v with | .slice p l c => K (p, l, c) | _ => False)
  | .raw, v, K => K v
def CsTs : List Cs → Type
  | [] => Unit
  | c :: cs => CsT c × CsTs cs
def embCs : (l : List Cs) → CsTs l → List Value
  | [], _ => []
  | c :: cs, x => embC c x.1 :: embCs cs x.2
def xCs : (l : List Cs) → List Value → (CsTs l → Prop) → Prop
  | [], vs, K => (match vs with | [] => K () | _ :: _ => False)
  | c :: cs, vs, K => (match vs with | v :: vs => xC c v fun x => xCs cs vs fun xs => K (x, xs) | [] => False)
def ShT : Sh → Type
  | .one c => CsT c
  | .agg l => CsTs l
def embS : (s : Sh) → ShT s → Value
  | .one c, x => embC c x
  | .agg l, x => .agg (embCs l x).toArray
def xS : (s : Sh) → Value → (ShT s → Prop) → Prop
  | .one c, v, K => xC c v K
  | .agg l, v, K => (match v with | .agg vs => xCs l vs.toList K | _ => False)
abbrev Live := List (Nat × Sh)
def LT : Live → Type
  | [] => Unit
  | (_, s) :: r => ShT s × LT r
def lvE : (l : Live) → LT l → Env → Env
  | [], _, e => e
  | (t, s) :: r, x, e => put (lvE r x.2 e) (some t) (embS s x.1)
def lvX : (l : Live) → Env → (LT l → Prop) → Prop
  | [], _, K => K ()
  | (t, s) :: r, e, K => (match e t with | some v => xS s v fun x => lvX r e fun xs => K (x, xs) | none => False)
def havoc (e : Env) (ds : List Nat) : Env := fun t => bif ds.any (Nat.beq t) then none else e t

/-- A loop: what holds at each round's head, with a number that falls. -/
def LoopW {S : Type} (b : (S → Heap → Prop) → S → Heap → Prop) (s₀ : S) (H₀ : Heap) : Prop :=
  ∃ I : Nat → S → Heap → Prop, (∃ n, I n s₀ H₀) ∧ ∀ n s H, I n s H → b (fun s' H' => ∃ m, m < n ∧ I m s' H') s H
/-- Two ways that meet: what holds where they meet. -/
def JoinW {S : Type} (f : (S → Heap → Prop) → Prop) (k : S → Heap → Prop) : Prop :=
  ∃ J : S → Heap → Prop, f J ∧ ∀ s H, J s H → k s H

/-! ### Regions -/
def wantedK (ops : Array Oper) (o : Oper) (e : Env) : Option Bool :=
  match o.guard with
  | none => some true
  | some (j, want) => match (ops[j]?).bind (·.dst) with
    | none => some false
    | some d => match e d with
      | some (.bool b) => some (b == want)
      | some _ => some false
      | none => none
def isGuard (ops : Array Oper) (i : Nat) : Bool := ops.any fun o => match o.guard with | some (j, _) => Nat.beq j i | none => false
def splitG (g : Bool) (v : Value) (K : Value → Prop) : Prop :=
  match g with
  | false => K v
  | true => match v with
    | .bool b => brW b (K (.bool true)) (K (.bool false))
    | v => K v
def evOps (P : Program) (ops : Array Oper) : List Oper → Nat → Env → Heap → (Env → Heap → Prop) → Prop
  | [], _, e, H, K => K e H
  | o :: rest, i, e, H, K =>
    match wantedK ops o e with
    | none => False
    | some false => evOps P ops rest (i + 1) (put e o.dst undef) H K
    | some true => match kindOf P o.op with
      | .pure => evPure P o.op e fun v => splitG (isGuard ops i) v fun v => evOps P ops rest (i + 1) (put e o.dst v) H K
      | .read => evRead P o.op e H fun v => splitG (isGuard ops i) v fun v => evOps P ops rest (i + 1) (put e o.dst v) H K
      | .write => evWrite P o.op e H fun v H' => splitG (isGuard ops i) v fun v => evOps P ops rest (i + 1) (put e o.dst v) H' K

/-- Which operations stand ahead of each, as a number's bits. -/
def edgesMask (o : Oper) (acc : List Nat) : Nat :=
  o.after.toList.foldl (fun s e => bif Region.binds .any e then s ||| 2 ^ e.on ||| acc.getD e.on 0 else s) 0
def befs : List Oper → List Nat → List Nat
  | [], acc => acc
  | o :: os, acc => befs os (acc ++ [edgesMask o acc])
def opTmps (o : Oper) : List Nat := o.op.operands.toList.filterMap fun | .tmp t => some t | _ => none
def guardTmp (ops : Array Oper) (o : Oper) : List Nat :=
  match o.guard with
  | some (j, _) => ((ops[j]?).bind (·.dst)).toList
  | none => []
/-- The slots that an operation names. -/
def usesOf (ops : Array Oper) (o : Oper) : List Nat := guardTmp ops o ++ opTmps o
def namesOf (ops : Array Oper) (o : Oper) : List Nat := o.dst.toList ++ usesOf ops o
/-- Do two operations touch one slot, so that their order counts? -/
def meets (ops : Array Oper) (x y : Oper) : Bool :=
  (match x.dst with | some d => (namesOf ops y).any (Nat.beq d) | none => false) ||
  (match y.dst with | some d => (namesOf ops x).any (Nat.beq d) | none => false)
/-- Is this an order that each order of the region can be brought to? -/
def ordOk (P : Program) (ops : Array Oper) (B : List Nat) : List Nat → Nat → Bool
  | [], _ => true
  | i :: rest, seen =>
    (match ops[i]? with
    | none => false
    | some o =>
      !(seen.testBit i) &&
      o.after.toList.all (fun e => !(Region.binds .any e) || seen.testBit e.on) &&
      (!(kindOf P o.op == .write) || rest.all fun j => (B.getD j 0).testBit i) &&
      rest.all fun j => match ops[j]? with
        | none => false
        | some y => !(meets ops o y) || (B.getD j 0).testBit i) &&
    ordOk P ops B rest (seen ||| 2 ^ i)
def drawOk (P : Program) (ops : Array Oper) (B ord : List Nat) : Bool :=
  (List.range ops.size).all (fun i => ord.any (Nat.beq i)) && ordOk P ops B ord 0
/-- The same, but that behind the write c one other write may stand whose order to c is open. -/
def ordOkX (P : Program) (ops : Array Oper) (B : List Nat) (X : Nat → Bool) : List Nat → Nat → Bool
  | [], _ => true
  | i :: rest, seen =>
    (match ops[i]? with
    | none => false
    | some o =>
      !(seen.testBit i) &&
      o.after.toList.all (fun e => !(Region.binds .any e) || seen.testBit e.on) &&
      (X i || (!(kindOf P o.op == .write) || rest.all fun j => (B.getD j 0).testBit i)) &&
      rest.all fun j => match ops[j]? with
        | none => false
        | some y => !(meets ops o y) || (B.getD j 0).testBit i) &&
    ordOkX P ops B X rest (seen ||| 2 ^ i)
def allIn (ops : Array Oper) (l : List Nat) : Bool := (List.range ops.size).all fun i => l.any (Nat.beq i)
def splitTwo : List Nat → List Nat → List Nat × List Nat × List Nat
  | a :: l, b :: m => bif Nat.beq a b then (match splitTwo l m with | (p, x, y) => (a :: p, x, y)) else ([], a :: l, b :: m)
  | l, m => ([], l, m)
def plainOp (P : Program) (ops : Array Oper) (i : Nat) : Bool := match ops[i]? with | some o => kindOf P o.op == .pure | none => false
def bareWrite (P : Program) (ops : Array Oper) (i : Nat) : Bool := match ops[i]? with | some o => kindOf P o.op == .write && o.guard.isNone | none => false
def twoOk (P : Program) (ops : Array Oper) (B : List Nat) (l m p : List Nat) : List Nat → List Nat → Bool
  | c :: r, d :: _ => allIn ops l && allIn ops m && ordOkX P ops B (Nat.beq c) l 0 && ordOkX P ops B (Nat.beq d) m 0 && p.all (plainOp P ops) && bareWrite P ops c && bareWrite P ops d &&
      r.all fun j => Nat.beq j d || (B.getD j 0).testBit c || (B.getD j 0).testBit d
  | _, _ => false
def stabsK (P : Program) (ops : Array Oper) (m : Nat) (H : Heap) : List (Nat × Env × Value) → Prop → Prop
  | [], A => A
  | (r, e, v) :: D, A => match m.testBit r with
    | true => stabsK P ops m H D A
    | false => (match ops[r]? with | some o => evRead P o.op e H (fun u => u = v) | none => False) ∧ stabsK P ops m H D A
def evD (P : Program) (ops : Array Oper) (B : List Nat) (A : List Nat → Env → Heap → List (Nat × Env × Value) → Prop) : List Nat → Env → Heap → List (Nat × Env × Value) → (Env → Heap → Prop) → Prop
  | [], e, H, _, K => K e H
  | i :: rest, e, H, D, K =>
    match ops[i]? with
    | none => False
    | some o => match wantedK ops o e with
      | none => False
      | some false => evD P ops B A rest (put e o.dst undef) H D K
      | some true => match kindOf P o.op with
        | .pure => evPure P o.op e fun v => splitG (isGuard ops i) v fun v => evD P ops B A rest (put e o.dst v) H D K
        | .read => evRead P o.op e H fun v => splitG (isGuard ops i) v fun v => evD P ops B A rest (put e o.dst v) H (D ++ [(i, e, v)]) K
        | .write => (evWrite P o.op e H fun v H' => stabsK P ops (B.getD i 0) H' D (splitG (isGuard ops i) v fun v => evD P ops B A rest (put e o.dst v) H' D K)) ∧ A (i :: rest) e H D

/-- Two writes whose order is open, each once ahead of the other. -/
def evTwo (P : Program) (ops : Array Oper) (B l m : List Nat) (e : Env) (H : Heap) (K : Env → Heap → Prop) : Prop :=
  match splitTwo l m with
  | (p, x, y) => bif twoOk P ops B l m p x y then evD P ops B (fun _ _ _ _ => True) p e H [] (fun e' H' => evD P ops B (fun _ _ _ _ => True) x e' H' [] K ∧ evD P ops B (fun _ _ _ _ => True) y e' H' [] K) else False

/-! ### Code -/
structure Ks where
  n : Env → Heap → Prop
  x : Nat → Env → Heap → Prop
  r : Env → Heap → Prop
/-- What is told beside the code: the order of a region, the slots that a loop or a meeting hands on (by the first region behind it). -/
structure Ann where
  ord : Nat → List Nat
  loop : Nat → Option Live
  join : Nat → Option Live
def headId : Code → Option Nat
  | .region id _ _ => some id
  | .seq a b => (match headId a with | some i => some i | none => headId b)
  | .cond _ a b => (match headId a with | some i => some i | none => headId b)
  | .block _ a => headId a
  | .loop a => headId a
  | _ => none
def dstsC : Code → List Nat
  | .region _ ops _ => ops.toList.filterMap (·.dst)
  | .seq a b => dstsC a ++ dstsC b
  | .cond _ a b => dstsC a ++ dstsC b
  | .block _ a => dstsC a
  | .loop a => dstsC a
  | _ => []
def dstsOk (N : Nat) (ops : Array Oper) : Bool := ops.all fun o => match o.dst with | some d => Nat.blt d N | none => true
def joinOf (A : Ann) (y : Code) : Option Live := match headId y with | some i => A.join i | none => none
def evC (P : Program) (N : Nat) (A : Ann) : Code → Env → Ks → Heap → Prop
  | .skip, e, k, H => k.n e H
  | .region id ops draw, e, k, H =>
    bif dstsOk N ops then (match draw with
      | false => evOps P ops ops.toList 0 e H k.n
      | true => bif drawOk P ops (befs ops.toList []) (A.ord id) then evD P ops (befs ops.toList []) (fun _ _ _ _ => True) (A.ord id) e H [] k.n else
        evTwo P ops (befs ops.toList []) ((A.ord id).take ops.size) ((A.ord id).drop ops.size) e H k.n) else False
  | .seq x y, e, k, H => (match joinOf A y with
    | none => evC P N A x e { k with n := fun e' H' => evC P N A y e' k H' } H
    | some l => JoinW (S := LT l) (fun J => evC P N A x e { k with n := fun e' H' => lvX l e' fun s => J s H' } H)
        (fun s H' => evC P N A y (lvE l s (havoc e (dstsC x))) k H'))
  | .cond c x y, e, k, H => o1 e c fun v => (match v with
    | .bool b => brW b (evC P N A x e k H) (evC P N A y e k H)
    | _ => False)
  | .block id x, e, k, H => evC P N A x e { k with x := fun i e' H' => bif Nat.beq i id then k.n e' H' else k.x i e' H' } H
  | .loop x, e, k, H => (match headId x with
    | none => False
    | some i => (match A.loop i with
      | none => False
      | some l => lvX l e fun s₀ => LoopW (S := LT l) (fun L s H' => evC P N A x (lvE l s (havoc e (dstsC x))) { k with n := fun e' H'' => lvX l e' fun s' => L s' H'' } H') s₀ H))
  | .exit id, e, k, H => k.x id e H
  | .ret, e, k, H => k.r e H
  | _, _, _, _ => False

/-! ### Functions -/
def args0 : List Value → Nat → Env
  | [], _ => fun _ => none
  | v :: vs, i => put (args0 vs (i + 1)) (some i) v
/-- The frame as a call begins: the arguments, then slots that hold nothing. -/
def env0 (N : Nat) (args : List Value) : Env := fun t => bif Nat.blt t args.length then args[t]? else bif Nat.blt t N then some undef else none
/-- A variable that is read. -/
def ldV (P : Program) (t : TypeId) (a : Addr) (H : Heap) (K : Value → Prop) : Prop :=
  match P.underlying t with
  | none => False
  | some (.struct _) | some (.array _ _) =>
    bif Nat.beq (cellsSh P 8 t).length (sizeT P t) && (P.info? t).isSome then ldCs H a (cellsSh P 8 t) 0 [] fun vs => K (.agg vs.toArray) else False
  | some _ => ldC (cellSh P t) H a K
def resK (P : Program) (H : Heap) (e : Env) : List ResultVar → List Value → (List Value → Prop) → Prop
  | [], acc, K => K acc
  | .tmp t :: r, acc, K => (match e t with | some v => resK P H e r (acc ++ [v]) K | none => False)
  | .cell a t :: r, acc, K => (match e a with | some (.pointer (some ad)) => ldV P t ad H fun v => resK P H e r (acc ++ [v]) K | _ => False)
def retK (P : Program) (fn : Func) (R : Value → Heap → Prop) (e : Env) (H : Heap) : Prop :=
  resK P H e fn.results.toList [] fun vs => (match vs with | [v] => R v H | vs => R (.tuple vs.toArray) H)
def evF (P : Program) (A : Ann) (fn : Func) (args : List Value) (R : Value → Heap → Prop) (H : Heap) : Prop :=
  match fn.body with
  | none => False
  | some c => bif Nat.ble args.length fn.ntmps then evC P fn.ntmps A c (env0 fn.ntmps args) { n := retK P fn R, x := fun _ _ _ => False, r := retK P fn R } H else False
end Go.Ex
/-! What the plain reckoning tells of an operation is what the machine does: operations that touch no memory. -/
namespace Go.Ex

theorem o1_out {e : Env} {x : Operand} {K : Value → Prop} (h : o1 e x K) : ∃ v, opv e x = some v ∧ K v := by
  unfold o1 at h
  split at h
  · rename_i v hv; exact ⟨v, hv, h⟩
  · exact h.elim
theorem oL_out {e : Env} : ∀ {l : List Operand} {acc : List Value} {K : List Value → Prop}, oL e l acc K →
    ∃ vs : List Value, vs.map some = l.map (opv e) ∧ K (acc ++ vs)
  | [], acc, K, h => ⟨[], rfl, by simpa [oL] using h⟩
  | x :: xs, acc, K, h => by
    obtain ⟨v, hv, h⟩ := o1_out (show o1 e x _ from h)
    obtain ⟨vs, hf, hk⟩ := oL_out h
    exact ⟨v :: vs, by simp [hf, hv], by simpa using hk⟩
theorem opL_out {e : Env} : ∀ {l : List (Nat × Operand)} {acc : List (Nat × Value)} {K : List (Nat × Value) → Prop}, opL e l acc K →
    ∃ vs : List (Nat × Value), vs.map (fun v => (v.1, some v.2)) = l.map (fun x => (x.1, opv e x.2)) ∧ K (acc ++ vs)
  | [], acc, K, h => ⟨[], rfl, by simpa [opL] using h⟩
  | (i, x) :: xs, acc, K, h => by
    obtain ⟨v, hv, h⟩ := o1_out (show o1 e x _ from h)
    obtain ⟨vs, hf, hk⟩ := opL_out h
    exact ⟨(i, v) :: vs, by simp [hf, hv], by simpa using hk⟩
theorem oO_out {e : Env} {x : Option Operand} {K : Option Value → Prop} (h : oO e x K) : ∃ v, K v ∧ (∀ y, x = some y → ∃ u, v = some u ∧ opv e y = some u) ∧ (x = none → v = none) := by
  cases x with
  | none => exact ⟨none, h, by simp, by simp⟩
  | some y =>
    obtain ⟨v, hv, h⟩ := o1_out (show o1 e y _ from h)
    exact ⟨some v, h, by rintro _ ⟨⟩; exact ⟨v, rfl, hv⟩, by simp⟩
/-- A run that yields a value and leaves the world as it was. -/
def Yields (P : Program) (s : Sem Value) (v : Value) : Prop := ∀ w, s.run P w = .ok v w

section
variable {P : Program} {K : Value → Prop}

theorem ite_out {c : Prop} [Decidable c] {A : Prop} (h : if c then A else False) : c ∧ A := by
  split at h
  · exact ⟨‹_›, h⟩
  · exact h.elim

theorem binI_out {op : BinOp} {k k' : IntKind} {a b : Int} {t : TypeId} (h : binI op k a k' b K) :
    ∃ v, K v ∧ Yields P (binOp op t (.int k a) (.int k' b)) v := by
  cases op <;> simp only [binI] at h
  case shl => obtain ⟨h0, h⟩ := h; exact ⟨_, h, fun w => by simp [binOp, Op.shift, shlW, show ¬ b < 0 by omega]⟩
  case shr => obtain ⟨h0, h⟩ := h; exact ⟨_, h, fun w => by simp [binOp, Op.shift, shrW, show ¬ b < 0 by omega]⟩
  case quo => obtain ⟨hk, h0, h1⟩ := ite_out h; subst hk; exact ⟨_, h1, fun w => by simp [binOp, Op.intDiv, h0]⟩
  case rem => obtain ⟨hk, h0, h1⟩ := ite_out h; subst hk; exact ⟨_, h1, fun w => by simp [binOp, Op.intDiv, h0]⟩
  case eql => obtain ⟨hk, h1⟩ := ite_out h; subst hk; exact ⟨_, h1, fun w => by simp [binOp, Op.intCmp, Bool.beq_eq_decide_eq]⟩
  case neq => obtain ⟨hk, h1⟩ := ite_out h; subst hk; exact ⟨_, h1, fun w => by simp [binOp, Op.intCmp, bne, Bool.beq_eq_decide_eq]⟩
  all_goals (obtain ⟨hk, h1⟩ := ite_out h; subst hk; exact ⟨_, h1, fun w => by simp [binOp, Op.intArith, Op.intBits, Op.intCmp, andW, orW, xorW, andNotW]⟩)

theorem toList_inj {a b : ByteArray} : a.toList = b.toList ↔ a = b := by
  rw [ByteArray.toList_eq, ByteArray.toList_eq]
  constructor
  · intro h; cases a; cases b; simp at h; simp [h]
  · rintro rfl; rfl
theorem binS_out {op : BinOp} {a b : ByteArray} {t : TypeId} (h : binS op a b K) :
    ∃ v, K v ∧ Yields P (binOp op t (.string a) (.string b)) v := by
  have hb : (a.toList == b.toList) = decide (a = b) := by
    rw [Bool.eq_iff_iff]; simp [toList_inj]
  cases op <;> simp only [binS] at h <;> try exact h.elim
  case add =>
    obtain ⟨h0, h⟩ := h
    refine ⟨_, h, fun w => ?_⟩
    have hm : ¬ ((a.size + b.size : Nat) : Int) > IntKind.i64.max := by
      have : IntKind.i64.max = 9223372036854775807 := by decide
      omega
    simp only [binOp, Op.stringOp]
    rw [if_neg hm]
    rfl
  case eql => exact ⟨_, h, fun w => by simp [binOp, Op.stringOp, hb]⟩
  case neq => exact ⟨_, h, fun w => by simp [binOp, Op.stringOp, hb]⟩

theorem eqGuard_none {op : BinOp} {t : TypeId} {x y : Operand} {a b : Value} (h1 : ¬ (a = .nilIface ∧ b = .nilIface)) (h2 : ∀ c d, ¬ (a = .agg c ∧ b = .agg d)) :
    ∀ w, (eqGuard op t x y a b).run P w = .ok () w := by
  intro w
  unfold eqGuard
  have key : ∀ X Y : Sem Unit, Sem.run P (match a, b with | .nilIface, .nilIface => X | .agg _, .agg _ => Y | _, _ => pure ()) w = .ok () w := by
    intro X Y
    split
    · exact absurd ⟨rfl, rfl⟩ h1
    · exact absurd ⟨rfl, rfl⟩ (h2 _ _)
    · rfl
  split <;> simp only [Bool.not_true, Bool.false_eq_true, if_false, Bool.not_false, if_true] <;> first | rfl | exact key _ _

theorem r_und {t : TypeId} {d : TypeDesc} (h : P.underlying t = some d) (w : World) : (underlying t).run P w = .ok d w := by
  unfold underlying
  simp [h]
theorem r_info {t : TypeId} {i : TypeInfo} (h : P.info? t = some i) (w : World) : (typeInfo t).run P w = .ok i w := by
  unfold typeInfo
  simp [h]
theorem r_size {t : TypeId} {i : TypeInfo} (h : P.info? t = some i) (w : World) : (sizeOf t).run P w = .ok i.size w := by
  unfold sizeOf
  simp [r_info h]
theorem r_agg {t : TypeId} {d : TypeDesc} (h : P.underlying t = some d) (w : World) : (isAgg t).run P w = .ok (isAggT P t) w := by
  unfold isAgg isAggT
  rw [Sem.run_bind, r_und h, h]
  simp only [Result.andThen]
  cases d <;> rfl
theorem zeroT_out {t : TypeId} {K : Value → Prop} (h : zeroT P t K) : ∃ i z, P.info? t = some i ∧ i.zero = some z ∧ K z ∧ ∀ w, (zeroValue t).run P w = .ok z w := by
  unfold zeroT at h
  split at h
  · rename_i i hi
    split at h
    · rename_i z hz
      exact ⟨i, z, hi, hz, h, fun w => by unfold zeroValue; rw [Sem.run_bind, r_info hi]; simp [hz]⟩
    · exact h.elim
  · exact h.elim
theorem run_equal_bool {t : TypeId} (hu : P.underlying t = some .bool) (a b : Bool) (w : World) : (Op.equal t (.bool a) (.bool b)).run P w = .ok (decide (a = b)) w := by
  unfold Op.equal
  rw [show Op.maxDepth = 9999 + 1 from rfl, Op.equalIn]
  rw [Sem.run_bind, r_und hu]
  simp [Bool.beq_eq_decide_eq]
theorem run_equal_ptr {t e : TypeId} (hu : P.underlying t = some (.pointer e)) (p : Option Addr) (w : World) : (Op.equal t (.pointer p) (.pointer none)).run P w = .ok p.isNone w := by
  unfold Op.equal
  rw [show Op.maxDepth = 9999 + 1 from rfl, Op.equalIn]
  rw [Sem.run_bind, r_und hu]
  cases p <;> simp
theorem run_equal_slice {t e : TypeId} (hu : P.underlying t = some (.slice e)) (p : Option Addr) (l c m d : Nat) (w : World) : (Op.equal t (.slice p l c) (.slice none m d)).run P w = .ok p.isNone w := by
  unfold Op.equal
  rw [show Op.maxDepth = 9999 + 1 from rfl, Op.equalIn]
  rw [Sem.run_bind, r_und hu]
  cases p <;> simp
theorem eqK_out {neg : Bool} {t : TypeId} {x y : Value} (h : eqK P neg t x y K) :
    ∃ v, K v ∧ Yields P (binOp (match neg with | true => .neq | false => .eql) t x y) v ∧ ¬ (x = .nilIface ∧ y = .nilIface) ∧ ∀ c d, ¬ (x = .agg c ∧ y = .agg d) := by
  unfold eqK at h
  split at h
  · rename_i hu
    split at h
    · refine ⟨_, h, fun w => ?_, by simp, by simp⟩
      cases neg
      · show Sem.run P (do pure (Value.bool (← Op.equal t (.bool _) (.bool _)))) w = _
        simp [run_equal_bool hu]
      · show Sem.run P (do pure (Value.bool (!(← Op.equal t (.bool _) (.bool _))))) w = _
        simp [run_equal_bool hu]
    · exact h.elim
  · rename_i hu
    split at h
    · refine ⟨_, h, fun w => ?_, by simp, by simp⟩
      cases neg
      · show Sem.run P (do pure (Value.bool (← Op.equal t (.pointer _) (.pointer none)))) w = _
        simp [run_equal_ptr hu]
      · show Sem.run P (do pure (Value.bool (!(← Op.equal t (.pointer _) (.pointer none))))) w = _
        simp [run_equal_ptr hu]
    · exact h.elim
  · rename_i hu
    split at h
    · refine ⟨_, h, fun w => ?_, by simp, by simp⟩
      cases neg
      · show Sem.run P (do pure (Value.bool (← Op.equal t (.slice _ _ _) (.slice none _ _)))) w = _
        simp [run_equal_slice hu]
      · show Sem.run P (do pure (Value.bool (!(← Op.equal t (.slice _ _ _) (.slice none _ _))))) w = _
        simp [run_equal_slice hu]
    · exact h.elim
  · exact h.elim

theorem eqCell_out {e : TypeId} {a b : Value} {r : Bool} (h : eqCell P e a b = some r) : P.plainKey e = true ∧ ∀ (d : Nat) (w : World), (Op.equalIn (d + 1) e a b).run P w = .ok r w := by
  unfold eqCell at h
  split at h
  · rename_i k x k' y hu
    split at h
    · rename_i hk
      subst hk
      obtain rfl := Option.some.inj h
      exact ⟨by simp [Program.plainKey, hu], fun d w => by rw [run_equalIn_int w d e _ _ x y hu, Bool.beq_eq_decide_eq]⟩
    · cases h
  · rename_i x y hu
    obtain rfl := Option.some.inj h
    refine ⟨by simp [Program.plainKey, hu], fun d w => ?_⟩
    rw [run_equalIn_string w d e x y hu]
    have : (x.toList == y.toList) = decide (x = y) := by rw [Bool.eq_iff_iff]; simp [toList_inj]
    rw [this]
  · rename_i x y hu
    obtain rfl := Option.some.inj h
    exact ⟨by simp [Program.plainKey, hu], fun d w => by rw [run_equalIn_bool' w d e x y hu, Bool.beq_eq_decide_eq]⟩
  · cases h
theorem eqTwo_out {e : TypeId} {xs ys : Array Value} {i : Nat} {r : Option Bool} {z : Bool} (h : eqTwo P e xs.toList ys.toList i r = some z) :
    ∃ a b x y, r = some y ∧ z = (x && y) ∧ ∀ (d : Nat) (w : World), (part e xs i).run P w = .ok a w ∧ (part e ys i).run P w = .ok b w ∧ (Op.equalIn (d + 1) e a b).run P w = .ok x w := by
  unfold eqTwo at h
  split at h
  · rename_i a b ha hb
    split at h
    · rename_i x y hx
      obtain ⟨hp, he⟩ := eqCell_out hx
      refine ⟨a, b, x, y, rfl, (Option.some.inj h).symm, fun d w => ⟨run_part_plain w hp (by rw [← Array.getElem?_toList]; exact ha), run_part_plain w hp (by rw [← Array.getElem?_toList]; exact hb), he d w⟩⟩
    · cases h
  · cases h
theorem eqArr_out {e : TypeId} {xs ys : Array Value} (hc : P.cellsOf e = 1) (d : Nat) (w : World) : ∀ (n i : Nat) (z : Bool), eqArr P e xs.toList ys.toList n i = some z → (Op.eqItems (d + 1) e (P.cellsOf e) xs ys (List.range' i n)).run P w = .ok z w
  | 0, i, z, h => by
    obtain rfl := Option.some.inj h
    simp [Op.eqItems]
  | n + 1, i, z, h => by
    unfold eqArr at h
    obtain ⟨a, b, x, y, hr, rfl, hk⟩ := eqTwo_out h
    obtain ⟨p1, p2, p3⟩ := hk d w
    have ih := eqArr_out hc d w n (i + 1) y hr
    rw [hc] at ih
    rw [List.range'_succ, hc]
    simp only [Op.eqItems, Sem.run_bind, Nat.mul_one, p1, p2, p3, Result.andThen_ok]
    cases x
    · simp
    · simpa using ih
theorem eqFlds_out {xs ys : Array Value} (d : Nat) (w : World) : ∀ (fs : List Field) (z : Bool), eqFlds P xs.toList ys.toList fs = some z → (Op.eqFields (d + 1) xs ys fs).run P w = .ok z w
  | [], z, h => by
    obtain rfl := Option.some.inj h
    simp [Op.eqFields]
  | f :: fs, z, h => by
    unfold eqFlds at h
    cases hn : (f.name == "_") <;> rw [hn] at h <;> simp only [cond_true, cond_false] at h
    · obtain ⟨a, b, x, y, hr, rfl, hk⟩ := eqTwo_out h
      obtain ⟨p1, p2, p3⟩ := hk d w
      have ih := eqFlds_out d w fs y hr
      have hn' : f.name ≠ "_" := by simpa using hn
      simp only [Op.eqFields, if_pos hn', Sem.run_bind, p1, p2, p3, Result.andThen_ok]
      cases x
      · simp
      · simpa using ih
    · cases h
theorem eqAggK_out {neg : Bool} {t : TypeId} {xs ys : Array Value} (h : eqAggK P neg t xs ys K) {ox oy : Operand} {op : BinOp} (hop : isEq op = some neg) :
    ∃ v, K v ∧ Yields P (do eqGuard op t ox oy (.agg xs) (.agg ys); binOp op t (.agg xs) (.agg ys)) v := by
  unfold eqAggK at h
  cases hg : P.eqGuardType P.depth t <;> rw [hg] at h <;> simp only [cond_true, cond_false] at h
  · have fin : ∀ z : Bool, (∀ w, (Op.equalIn (9998 + 1 + 1) t (.agg xs) (.agg ys)).run P w = .ok z w) → K (.bool (bif neg then !z else z)) →
        ∃ v, K v ∧ Yields P (do eqGuard op t ox oy (.agg xs) (.agg ys); binOp op t (.agg xs) (.agg ys)) v := by
      intro z hz hk
      refine ⟨_, hk, fun w => ?_⟩
      have hz := hz w
      rw [Sem.run_bind, run_eqGuard_agg w op t ox oy xs ys hg]
      simp only [Result.andThen_ok]
      cases op <;> simp [isEq] at hop <;> subst hop
      · rw [run_eql_struct]
        rw [show (10000 : Nat) = 9998 + 1 + 1 from rfl, hz]
        rfl
      · rw [run_neq_struct]
        rw [show (10000 : Nat) = 9998 + 1 + 1 from rfl, hz]
        rfl
    split at h
    · rename_i n e hu
      cases hc : (Nat.beq (P.cellsOf e) 1 && (P.info? e).isSome) <;> rw [hc] at h <;> simp only [cond_true, cond_false] at h
      · obtain ⟨h1, h2⟩ := Bool.and_eq_true_iff.1 hc
        have h1 := Nat.eq_of_beq_eq_true h1
        obtain ⟨i, hi⟩ := Option.isSome_iff_exists.1 h2
        split at h
        · rename_i z hz
          refine fin z (fun w => ?_) h
          rw [run_equalIn_array w _ xs ys hu hi, List.range_eq_range']
          exact eqArr_out h1 _ w n 0 z hz
        · exact h.elim
    · rename_i fs hu
      cases hs : P.stoodInHeld t <;> rw [hs] at h <;> simp only [cond_true, cond_false] at h
      · split at h
        · rename_i z hz
          refine fin z (fun w => ?_) h
          have hfs : P.fieldsOf t = fs := by simp [Program.fieldsOf, hu]
          rw [run_equalIn_struct w _ t xs ys (by rw [hfs]; exact hu) hs, hfs]
          exact eqFlds_out _ w _ z hz
        · exact h.elim
    · exact h.elim
theorem binAll_out {op : BinOp} {t : TypeId} {x y : Value} (h : binAll P op t x y K) {ox oy : Operand} :
    ∃ v, K v ∧ Yields P (do eqGuard op t ox oy x y; binOp op t x y) v := by
  have key : ∀ v, K v → Yields P (binOp op t x y) v → ¬ (x = .nilIface ∧ y = .nilIface) → (∀ c d, ¬ (x = .agg c ∧ y = .agg d)) →
      ∃ v, K v ∧ Yields P (do eqGuard op t ox oy x y; binOp op t x y) v := fun v hk hy h1 h2 =>
    ⟨v, hk, fun w => by rw [Sem.run_bind, eqGuard_none h1 h2]; exact hy w⟩
  have keq : (match isEq op with | some neg => eqK P neg t x y K | none => False) → ∃ v, K v ∧ Yields P (do eqGuard op t ox oy x y; binOp op t x y) v := by
    intro h
    split at h
    · rename_i neg hn
      obtain ⟨v, hk, hy, h1, h2⟩ := eqK_out h
      refine key v hk ?_ h1 h2
      cases op <;> simp [isEq] at hn <;> subst hn <;> exact hy
    · exact h.elim
  cases x
  case int k a =>
    simp only [binAll] at h
    cases y <;> simp only at h <;> try exact h.elim
    obtain ⟨v, hk, hy⟩ := binI_out (P := P) (t := t) h
    exact key v hk hy (by simp) (by simp)
  case string a =>
    simp only [binAll] at h
    cases y <;> simp only at h <;> try exact h.elim
    obtain ⟨v, hk, hy⟩ := binS_out (P := P) (t := t) h
    exact key v hk hy (by simp) (by simp)
  case agg xs =>
    simp only [binAll] at h
    cases y <;> simp only at h <;> try exact h.elim
    split at h
    · rename_i neg hn
      exact eqAggK_out h hn
    · exact h.elim
  all_goals exact keq h
end
end Go.Ex
namespace Go.Ex
section
variable {P : Program} {K : Value → Prop}
theorem Yields.mk {s : Sem Value} {v : Value} (h : ∀ w, s.run P w = .ok v w) : Yields P s v := h

theorem convK_out {src dst : TypeId} {x : Value} (h : convK P src dst x K) : ∃ v, K v ∧ Yields P (convert src dst x) v := by
  unfold convK at h
  split at h
  · exact h.elim
  · rename_i ds hs
    split at h
    · rename_i k _ n hd
      exact ⟨_, h, fun w => by unfold convert; rw [Sem.run_bind, r_und hs]; simp only [Result.andThen]; rw [Sem.run_bind, r_und hd]; simp [Conv.intToInt]⟩
    · rename_i s hd
      exact ⟨_, h, fun w => by unfold convert; rw [Sem.run_bind, r_und hs]; simp only [Result.andThen]; rw [Sem.run_bind, r_und hd]; rfl⟩
    · exact h.elim
theorem lenK_out {t T : TypeId} {x : Value} (h : lenK P t x K) : ∃ v, K v ∧ Yields P (Builtin.len_ #[t] T #[x]) v := by
  unfold lenK at h
  split at h <;> first | exact h.elim | (rename_i hu; exact ⟨_, h, fun w => by unfold Builtin.len_; simp [r_und hu, goInt]⟩)
theorem capK_out {t T : TypeId} {x : Value} (h : capK P t x K) : ∃ v, K v ∧ Yields P (Builtin.cap_ #[t] T #[x]) v := by
  unfold capK at h
  split at h <;> first | exact h.elim | (rename_i hu; exact ⟨_, h, fun w => by unfold Builtin.cap_; simp [r_und hu, goInt]⟩)
theorem maxK_out : ∀ {r : List Value} {x : Value}, maxK x r K → ∃ v, K v ∧ Yields P (r.foldlM Builtin.max2 x) v
  | [], x, h => ⟨x, by simpa [maxK] using h, fun w => by simp⟩
  | y :: r, x, h => by
    cases x <;> cases y <;> simp only [maxK] at h <;> try exact h.elim
    rename_i k a k' b
    obtain ⟨v, hk, hy⟩ := maxK_out h
    refine ⟨v, hk, fun w => ?_⟩
    rw [List.foldlM_cons, Sem.run_bind]
    have e : (if b > a then b else a) = max a b := by split <;> omega
    simp only [Builtin.max2, Sem.run_pure, Result.andThen, e]
    exact hy w
theorem minK_out : ∀ {r : List Value} {x : Value}, minK x r K → ∃ v, K v ∧ Yields P (r.foldlM Builtin.min2 x) v
  | [], x, h => ⟨x, by simpa [minK] using h, fun w => by simp⟩
  | y :: r, x, h => by
    cases x <;> cases y <;> simp only [minK] at h <;> try exact h.elim
    rename_i k a k' b
    obtain ⟨v, hk, hy⟩ := minK_out h
    refine ⟨v, hk, fun w => ?_⟩
    rw [List.foldlM_cons, Sem.run_bind]
    have e : (if b < a then b else a) = min a b := by split <;> omega
    simp only [Builtin.min2, Sem.run_pure, Result.andThen, e]
    exact hy w
theorem bndK_out {x : Option Value} {d y : Nat} {K : Nat → Prop} (h : bndK x d y K) :
    ∃ n, K n ∧ (x = none → n = d) ∧ ∀ v, x = some v → ∀ c w, (Instr.sliceBound v y c).run P w = .ok n w := by
  unfold bndK at h
  split at h
  · exact ⟨_, h, by simp, by simp⟩
  · rename_i k i
    obtain ⟨h0, h1, h⟩ := h
    refine ⟨_, h, by simp, ?_⟩
    rintro v ⟨⟩ c w
    unfold Instr.sliceBound
    simp [asIntOf, h0, h1]
  · exact h.elim
theorem mulSize_eq (i s : Nat) : mulSize i s = i * s := by
  unfold mulSize
  cases hb : Nat.beq s 1
  · rfl
  · have := Nat.eq_of_beq_eq_true hb; subst this; simp
theorem sliceBounds_run {b : Bool} {len cap : Nat} {lo hi : Option Value} {h l : Nat}
    (hh1 : hi = none → h = len) (hh2 : ∀ v, hi = some v → ∀ c w, (Instr.sliceBound v cap c).run P w = .ok h w)
    (hl1 : lo = none → l = 0) (hl2 : ∀ v, lo = some v → ∀ c w, (Instr.sliceBound v h c).run P w = .ok l w) (w : World) :
    (Instr.sliceBounds b len cap lo hi none).run P w = .ok (l, h, cap) w := by
  unfold Instr.sliceBounds
  cases hi with
  | none =>
    obtain rfl := hh1 rfl
    cases lo with
    | none => obtain rfl := hl1 rfl; simp
    | some v => simp [hl2 v rfl]
  | some u =>
    cases lo with
    | none => obtain rfl := hl1 rfl; simp [hh2 u rfl]
    | some v => simp [hl2 v rfl, hh2 u rfl]
theorem sliceK_out {t : TypeId} {x : Value} {lo hi : Option Value} (h : sliceK P t x lo hi K) : ∃ v, K v ∧ Yields P (Instr.sliceAt t x lo hi none) v := by
  unfold sliceK at h
  split at h
  · rename_i s hu
    obtain ⟨n, h, hh1, hh2⟩ := bndK_out (P := P) h
    obtain ⟨l, h, hl1, hl2⟩ := bndK_out (P := P) h
    refine ⟨_, h, fun w => ?_⟩
    unfold Instr.sliceAt Instr.slice
    simp [r_und hu, sliceBounds_run hh1 hh2 hl1 hl2]
  · rename_i e p n c hu
    obtain ⟨n, h, hh1, hh2⟩ := bndK_out (P := P) h
    obtain ⟨l, h, hl1, hl2⟩ := bndK_out (P := P) h
    split at h
    · rename_i i hi
      refine ⟨_, h, fun w => ?_⟩
      unfold Instr.sliceAt Instr.slice
      simp [r_und hu, sliceBounds_run hh1 hh2 hl1 hl2, r_size hi, mulSize_eq]
    · exact h.elim
  · exact h.elim
theorem indexAddrK_out {t : TypeId} {x ix : Value} (h : indexAddrK P t x ix K) : ∃ v, K v ∧ Yields P (Instr.indexAt t x ix) v := by
  unfold indexAddrK at h
  split at h
  · rename_i k i
    split at h
    · rename_i e p n c hu
      obtain ⟨a, rfl, h0, h1, h⟩ := h
      split at h
      · rename_i j hj
        refine ⟨_, h, fun w => ?_⟩
        unfold Instr.indexAt
        simp [r_und hu, asIntOf, h0, h1, r_size hj, mulSize_eq]
      · exact h.elim
    · rename_i n e a hu
      obtain ⟨h0, h1, h⟩ := h
      split at h
      · rename_i j hj
        refine ⟨_, h, fun w => ?_⟩
        unfold Instr.indexAt
        simp [r_und hu, asIntOf, Instr.sureAddr, h0, h1, r_size hj, mulSize_eq]
      · exact h.elim
    · exact h.elim
  · exact h.elim
theorem indexK_out {t : TypeId} {x ix : Value} (h : indexK P t x ix K) : ∃ v, K v ∧ Yields P (Instr.index t x ix) v := by
  unfold indexK at h
  split at h
  · rename_i k i
    split at h
    · rename_i s hu
      obtain ⟨h0, h1, h⟩ := h
      refine ⟨_, h, fun w => ?_⟩
      have hlt : i.toNat < s.size := by omega
      have e : s[i.toNat]? = some (s.data.toList.getD i.toNat 0) := by
        rw [getElem?_pos s i.toNat hlt]
        have hl : i.toNat < s.data.toList.length := by simpa using hlt
        rw [List.getD_eq_getElem?_getD, List.getElem?_eq_getElem hl]
        rfl
      unfold Instr.index bt
      simp [r_und hu, asIntOf, h0, e]
    · exact h.elim
  · exact h.elim
theorem part_run {t : TypeId} {cs : Array Value} {off : Nat} {d : TypeDesc} (hd : P.underlying t = some d) (h : partK P t cs off K) (hi : (P.info? t).isSome = true) : ∃ v, K v ∧ Yields P (part t cs off) v := by
  unfold partK at h
  split at h
  · rename_i ha
    obtain ⟨i, hi⟩ := Option.isSome_iff_exists.1 hi
    refine ⟨_, h, fun w => ?_⟩
    unfold part
    simp [r_agg hd, ha, r_size hi, sizeT, hi]
  · rename_i ha
    split at h
    · rename_i v hv
      exact ⟨_, h, fun w => by unfold part; simp [r_agg hd, ha, hv]⟩
    · exact h.elim
theorem fieldK_out {t : TypeId} {x : Value} {f : Nat} (h : fieldK P t x f K) : ∃ v, K v ∧ Yields P (Instr.field t x f) v := by
  unfold fieldK at h
  split at h
  · rename_i fs cs hu
    split at h
    · rename_i fd hf
      split at h
      · rename_i d i hd hi
        obtain ⟨v, hk, hy⟩ := part_run hd h (by simp [hi])
        refine ⟨v, hk, fun w => ?_⟩
        unfold Instr.field
        simp [r_und hu, hf, asAgg, hy w]
      · exact h.elim
    · exact h.elim
  · exact h.elim
theorem fieldAddrK_out {t : TypeId} {x : Value} {f : Nat} (h : fieldAddrK P t x f K) : ∃ v, K v ∧ Yields P (Instr.fieldAt t x f) v := by
  unfold fieldAddrK at h
  split at h
  · rename_i fs a hu
    split at h
    · rename_i fd hf
      split at h
      · rename_i i hi
        cases hb : Nat.beq i.size 0 with
        | true => rw [hb] at h; exact h.elim
        | false =>
          rw [hb] at h
          have hne : ¬ i.size = 0 := by intro e; rw [e] at hb; simp at hb
          refine ⟨_, h, fun w => ?_⟩
          unfold Instr.fieldAt
          simp [r_und hu, hf, Instr.sureAddr, fieldPlace, r_size hi, hne]
      · exact h.elim
    · exact h.elim
  · exact h.elim
theorem typeAssert_run {x v z : Value} {X T : TypeId} {ok : Bool} {d : TypeDesc} (hu : P.underlying T = some d) (hd : ∀ m, d ≠ .interface m)
    (hz : ∀ w, (zeroValue T).run P w = .ok z w) (h : TaRel x T v z ok) : Yields P (Instr.typeAssert x X T true) (.tuple #[v, .bool ok]) := by
  intro w
  unfold Instr.typeAssert
  rw [Sem.run_bind, r_und hu]
  simp only [Result.andThen]
  rcases h with ⟨rfl, rfl⟩ | ⟨rfl, rfl, rfl | ⟨t, u, rfl, hne⟩⟩
  · cases d <;> first | exact absurd rfl (hd _) | simp
  · cases d <;> first | exact absurd rfl (hd _) | simp [hz]
  · cases d <;> first | exact absurd rfl (hd _) | simp [hz, hne]
theorem typeAssert_run' {v : Value} {X T : TypeId} {d : TypeDesc} (hu : P.underlying T = some d) (hd : ∀ m, d ≠ .interface m) :
    Yields P (Instr.typeAssert (.iface T v) X T false) v := by
  intro w
  unfold Instr.typeAssert
  rw [Sem.run_bind, r_und hu]
  simp only [Result.andThen]
  cases d <;> first | exact absurd rfl (hd _) | simp
theorem assertK_out {x : Value} {X T : TypeId} {ok : Bool} (h : assertK P x T ok K) : ∃ v, K v ∧ Yields P (Instr.typeAssert x X T ok) v := by
  unfold assertK at h
  split at h
  · exact h.elim
  · exact h.elim
  · rename_i d hne hu
    have hd : ∀ m, d ≠ .interface m := fun m e => hne m e
    cases ok with
    | true =>
      simp only at h
      obtain ⟨i, z, hi, hz, h, hzr⟩ := zeroT_out h
      obtain ⟨v, h⟩ := exSh_out h
      obtain ⟨b, hr, h⟩ := h
      exact ⟨_, h, typeAssert_run hu hd hzr hr⟩
    | false =>
      simp only at h
      obtain ⟨v, h1⟩ := exSh_out h
      obtain ⟨h2, h3⟩ := h1
      subst h2
      exact ⟨_, h3, typeAssert_run' hu hd⟩
theorem extractK_out {x : Value} {i : Nat} (h : extractK x i K) : ∃ v, K v ∧ Yields P (Instr.extract x i) v := by
  unfold extractK at h
  split at h
  · split at h
    · rename_i vs _ v hv
      exact ⟨_, h, fun w => by unfold Instr.extract; simp [hv]⟩
    · exact h.elim
  · exact h.elim
theorem ifaceK_out {t : TypeId} {x : Value} (h : ifaceK P t x K) : ∃ v, K v ∧ Yields P (Instr.makeInterface t x) v := by
  unfold ifaceK at h
  split at h
  · exact h.elim
  · exact h.elim
  · rename_i d hne hu
    refine ⟨_, h, fun w => ?_⟩
    unfold Instr.makeInterface
    rw [Sem.run_bind, r_und hu]
    simp only [Result.andThen]
    cases d <;> first | exact absurd hu (hne _) | simp
theorem unK_out {op : UnOp} {x : Value} (h : unK op x K) : ∃ v, K v ∧ Yields P (Op.unary op x) v := by
  unfold unK at h
  split at h
  · exact ⟨_, h, fun w => by simp [Op.unary, Op.intArith]⟩
  · exact ⟨_, h, fun w => by simp [Op.unary]⟩
  · exact ⟨_, h, fun w => by simp [Op.unary, Op.intBits, notW]⟩
  · exact h.elim
theorem nilCheckK_out {x : Value} (h : nilCheckK x K) : ∃ a, x = .pointer (some a) ∧ K (.pointer (some a)) := by
  unfold nilCheckK at h
  split at h
  · obtain ⟨a, rfl, h⟩ := h; exact ⟨a, rfl, h⟩
  · exact h.elim
end
end Go.Ex
namespace Go.Ex
section
variable {P : Program}
theorem listMapM_run {α β : Type} (g : α → Sem β) (h : α → β) (w : World) : ∀ l : List α, (∀ x ∈ l, (g x).run P w = .ok (h x) w) → (l.mapM g).run P w = .ok (l.map h) w
  | [], _ => by simp
  | x :: l, hh => by
    rw [List.mapM_cons]
    simp [hh x (by simp), listMapM_run g h w l (fun y hy => hh y (by simp [hy]))]
theorem arrMapM_run {α β : Type} (g : α → Sem β) (h : α → β) (w : World) (a : Array α) (hh : ∀ x ∈ a, (g x).run P w = .ok (h x) w) : (a.mapM g).run P w = .ok (a.map h) w := by
  rw [Array.mapM_eq_mapM_toList, Sem.run_map, listMapM_run g h w a.toList (fun x hx => hh x (by simpa using hx))]
  cases a; simp
theorem oneW_out {v : Value} {K : Prop} (h : oneW v K) : K ∧ v.cells = #[v] ∧ (∀ c, v ≠ .agg c) ∧ (∀ c, v ≠ .tuple c) := by
  unfold oneW at h
  cases v <;> first | exact h.elim | exact ⟨h, rfl, by simp, by simp⟩
theorem setMany_foldl (off : Nat) : ∀ (l : List Value) (k : Nat) (cs : List Value),
    (l.zipIdx k).foldl (fun (cs : Array Value) (x : Value × Nat) => cs.setIfInBounds (off + x.2) x.1) cs.toArray = (setMany cs (off + k) l).toArray
  | [], k, cs => rfl
  | v :: l, k, cs => by
    simp only [List.zipIdx_cons, List.foldl_cons, List.setIfInBounds_toArray, setMany]
    rw [setMany_foldl off l (k + 1)]
    rfl
theorem zipIdx_foldl (off : Nat) (vs : Array Value) (cs : List Value) :
    vs.zipIdx.foldl (fun (cs : Array Value) (x : Value × Nat) => cs.setIfInBounds (off + x.2) x.1) cs.toArray = (setMany cs off vs.toList).toArray := by
  rw [← Array.foldl_toList, Array.toList_zipIdx]
  exact setMany_foldl off vs.toList 0 cs
theorem fillK_out {place : Nat → Option (Nat × Nat × Bool)} : ∀ {parts : List (Nat × Value)} {cells : List Value} {K : List Value → Prop}, fillK place cells parts K →
    ∃ cs, K cs ∧ Instr.fill (fun i => (place i).map fun x => (x.1, x.2.1)) cells.toArray parts = some cs.toArray
  | [], cells, K, h => ⟨cells, by simpa [fillK] using h, rfl⟩
  | (i, v) :: rest, cells, K, h => by
    simp only [fillK] at h
    split at h
    · exact h.elim
    · rename_i off size agg hp
      cases agg with
      | false =>
        simp only at h
        obtain ⟨h, hc, _, _⟩ := oneW_out h
        cases hb : (Nat.blt off cells.length && Nat.beq size 1) with
        | false => rw [hb] at h; exact h.elim
        | true =>
          rw [hb] at h
          simp only [Bool.and_eq_true] at hb
          have h1 : off < cells.length := by have := hb.1; rw [Nat.blt_eq] at this; exact this
          have h2 : size = 1 := Nat.eq_of_beq_eq_true hb.2
          obtain ⟨cs, hk, hf⟩ := fillK_out (show fillK place (cells.set off v) rest K from h)
          refine ⟨cs, hk, ?_⟩
          unfold Instr.fill
          simp only [hp, Option.map_some, hc]
          rw [if_neg (by simp [h2]; omega)]
          rw [← hf]
          congr 1
          simp
      | true =>
        simp only at h
        split at h
        · rename_i vs
          cases hb : (Nat.beq vs.size size && Nat.ble (off + vs.size) cells.length) with
          | false => rw [hb] at h; exact h.elim
          | true =>
            rw [hb] at h
            simp only [Bool.and_eq_true] at hb
            have h1 : vs.size = size := Nat.eq_of_beq_eq_true hb.1
            have h2 : off + vs.size ≤ cells.length := Nat.le_of_ble_eq_true hb.2
            obtain ⟨cs, hk, hf⟩ := fillK_out (show fillK place (setMany cells off vs.toList) rest K from h)
            refine ⟨cs, hk, ?_⟩
            unfold Instr.fill
            simp only [hp, Option.map_some]
            rw [if_neg (by simp [Value.cells, h1]; omega)]
            rw [← hf]
            congr 1
            exact zipIdx_foldl off vs cells
        · exact h.elim
theorem cellsV_eq (v : Value) : v.cells = (cellsV v).toArray := by cases v <;> rfl
theorem cellsV_arr (v : Value) : v.cells.toList = cellsV v := by rw [cellsV_eq]
theorem buildK_out {K : Value → Prop} {t : TypeId} {parts : List (Nat × Value)} (h : buildK P t parts K) : ∃ v, K v ∧ Yields P (Instr.build t parts.toArray) v := by
  unfold buildK at h
  obtain ⟨i, z, hi, hz, h, hzr⟩ := zeroT_out h
  split at h
  · rename_i fs hu
    cases hb : infosOk P fs with
    | false => rw [hb] at h; exact h.elim
    | true =>
      rw [hb] at h
      obtain ⟨cs, hk, hf⟩ := fillK_out (show fillK (placeS P fs) (cellsV z) parts _ from h)
      refine ⟨_, hk, fun w => ?_⟩
      have hm : (fs.mapM fun (f : Field) => do pure (f.offset, ← sizeOf f.type)).run P w = .ok (fs.map fun (f : Field) => (f.offset, sizeT P f.type)) w := by
        refine arrMapM_run _ _ w fs fun f hf => ?_
        unfold infosOk at hb
        have hs := (Array.all_eq_true_iff_forall_mem.1 hb) f hf
        obtain ⟨j, hj⟩ := Option.isSome_iff_exists.1 hs
        rw [Sem.run_bind, r_size hj]
        simp [sizeT, hj]
      have e : (fun (i : Nat) => (fs.map fun (f : Field) => (f.offset, sizeT P f.type))[i]?) = fun i => (placeS P fs i).map fun x => (x.1, x.2.1) := by
        funext i
        unfold placeS
        rw [Array.getElem?_map]
        cases fs[i]? <;> rfl
      unfold Instr.build
      rw [Sem.run_bind, hzr]
      simp only [Result.andThen]
      rw [Sem.run_bind, r_und hu]
      simp only [Result.andThen]
      rw [Sem.run_bind, hm]
      simp only [Result.andThen, cellsV_eq]
      rw [e, hf]
      rfl
  · rename_i n el hu
    cases hb : (P.info? el).isSome with
    | false => rw [hb] at h; exact h.elim
    | true =>
      rw [hb] at h
      obtain ⟨j, hj⟩ := Option.isSome_iff_exists.1 hb
      obtain ⟨cs, hk, hf⟩ := fillK_out (show fillK (fun i => some (i * sizeT P el, sizeT P el, isAggT P el)) (cellsV z) parts _ from h)
      refine ⟨_, hk, fun w => ?_⟩
      have es : sizeT P el = j.size := by simp [sizeT, hj]
      simp only [es, Option.map_some] at hf
      unfold Instr.build
      rw [Sem.run_bind, hzr]
      simp only [Result.andThen]
      rw [Sem.run_bind, r_und hu]
      simp only [Result.andThen]
      rw [Sem.run_bind, r_size hj]
      simp only [Result.andThen, cellsV_eq]
      rw [hf]
      rfl
  · exact h.elim

/-- What is read of the slots is what the frame holds of them. -/
theorem Agrees.list {e : Env} {ρ : Operand → Value} {l : List Operand} {vs : List Value} (h : vs.map some = l.map (opv e)) (ha : Agrees e ρ l) : l.map ρ = vs := by
  induction l generalizing vs with
  | nil => cases vs <;> simp_all
  | cons x l ih =>
    cases vs with
    | nil => simp at h
    | cons v vs =>
      simp only [List.map_cons, List.cons.injEq] at h
      rw [List.map_cons, ha x (by simp) v h.1.symm, ih h.2 (fun y hy => ha y (by simp [hy]))]
theorem Agrees.pairs {e : Env} {ρ : Operand → Value} {l : List (Nat × Operand)} {vs : List (Nat × Value)} (h : vs.map (fun v => (v.1, some v.2)) = l.map (fun x => (x.1, opv e x.2))) (ha : Agrees e ρ (l.map (·.2))) :
    l.map (fun x => (x.1, ρ x.2)) = vs := by
  induction l generalizing vs with
  | nil => cases vs <;> simp_all
  | cons x l ih =>
    cases vs with
    | nil => simp at h
    | cons v vs =>
      simp only [List.map_cons, List.cons.injEq, Prod.mk.injEq] at h
      rw [List.map_cons, ha x.2 (by simp) v.2 h.1.2.symm, ih h.2 (fun y hy => ha y (by simp at hy ⊢; exact .inr hy)), ← h.1.1]

theorem evPure0_out {o : Oper} {e : Env} {K : Value → Prop} (h : evPure0 P o.op e K) :
    ∃ v, K v ∧ ∀ ρ, Agrees e ρ o.op.operands.toList → ∀ w, (execOp ρ o).run P w = .ok (.value v) w := by
  have lift : ∀ {s : Sem Value}, (∃ v, K v ∧ Yields P s v) → (∀ ρ, Agrees e ρ o.op.operands.toList → execOp ρ o = do pure (.value (← s))) → ∃ v, K v ∧ ∀ ρ, Agrees e ρ o.op.operands.toList → ∀ w, (execOp ρ o).run P w = .ok (.value v) w := by
    rintro s ⟨v, hk, hy⟩ e
    refine ⟨v, hk, fun ρ ha w => ?_⟩
    rw [e ρ ha, Sem.run_bind, hy w]
    rfl
  obtain ⟨dst, op, type, pos, after, guard⟩ := o
  simp only at h lift ⊢
  unfold evPure0 at h
  split at h
  · rename_i x
    obtain ⟨v, hv, hk⟩ := o1_out h
    exact ⟨v, hk, fun ρ ha w => by simp [execOp, ha x (by simp [Op.operands]) v hv]⟩
  · rename_i x
    obtain ⟨v, hv, hk⟩ := o1_out h
    exact ⟨v, hk, fun ρ ha w => by simp [execOp, ha x (by simp [Op.operands]) v hv]⟩
  · rename_i c a b
    obtain ⟨vc, hv, hk⟩ := o1_out h
    split at hk
    · rename_i t
      rcases brW_cases hk with ⟨rfl, hk⟩ | ⟨rfl, hk⟩
      · obtain ⟨u, hu, hk⟩ := o1_out hk
        exact ⟨u, hk, fun ρ ha w => by simp [execOp, ha c (by simp [Op.operands]) _ hv, asBool, ha a (by simp [Op.operands]) u hu]⟩
      · obtain ⟨u, hu, hk⟩ := o1_out hk
        exact ⟨u, hk, fun ρ ha w => by simp [execOp, ha c (by simp [Op.operands]) _ hv, asBool, ha b (by simp [Op.operands]) u hu]⟩
    · exact hk.elim
  · rename_i x
    obtain ⟨v, hv, hk⟩ := o1_out h
    obtain ⟨a, hva, hk1⟩ := nilCheckK_out hk
    exact ⟨_, hk1, fun ρ ha w => by simp [execOp, ha x (by simp [Op.operands]) _ hv, hva]⟩
  · rename_i bop t x y _
    obtain ⟨vx, hx, h⟩ := o1_out h
    obtain ⟨vy, hy, h⟩ := o1_out h
    refine lift (binAll_out h (ox := x) (oy := y)) fun ρ ha => ?_
    simp only [execOp, ha x (by simp [Op.operands]) _ hx, ha y (by simp [Op.operands]) _ hy]
  · rename_i uop _ x
    obtain ⟨v, hv, h⟩ := o1_out h
    exact lift (unK_out h) (fun ρ ha => by simp only [execOp, ha x (by simp [Op.operands]) _ hv])
  · rename_i s d x
    obtain ⟨v, hv, h⟩ := o1_out h
    exact lift (convK_out h) (fun ρ ha => by simp only [execOp, ha x (by simp [Op.operands]) _ hv])
  · rename_i t x
    obtain ⟨v, hv, h⟩ := o1_out h
    exact lift (ifaceK_out h) (fun ρ ha => by simp only [execOp, ha x (by simp [Op.operands]) _ hv])
  · rename_i t x lo hi
    obtain ⟨v, hv, h⟩ := o1_out h
    obtain ⟨l, h, hl1, hl2⟩ := oO_out h
    obtain ⟨u, h, hu1, hu2⟩ := oO_out h
    refine lift (sliceK_out h) fun ρ ha => ?_
    have el : lo.map ρ = l := by
      cases lo with
      | none => rw [hl2 rfl]; rfl
      | some y => obtain ⟨z, rfl, hz⟩ := hl1 y rfl; simp [ha y (by simp [Op.operands]) z hz]
    have eu : hi.map ρ = u := by
      cases hi with
      | none => rw [hu2 rfl]; rfl
      | some y => obtain ⟨z, rfl, hz⟩ := hu1 y rfl; simp [ha y (by simp [Op.operands]) z hz]
    simp only [execOp, ha x (by simp [Op.operands]) _ hv, el, eu, Option.map_none]
  · rename_i t x f
    obtain ⟨v, hv, h⟩ := o1_out h
    exact lift (fieldAddrK_out h) (fun ρ ha => by simp only [execOp, ha x (by simp [Op.operands]) _ hv])
  · rename_i t x f
    obtain ⟨v, hv, h⟩ := o1_out h
    exact lift (fieldK_out h) (fun ρ ha => by simp only [execOp, ha x (by simp [Op.operands]) _ hv])
  · rename_i t x ix
    obtain ⟨v, hv, h⟩ := o1_out h
    obtain ⟨i, hi, h⟩ := o1_out h
    exact lift (indexAddrK_out h) (fun ρ ha => by simp only [execOp, ha x (by simp [Op.operands]) _ hv, ha ix (by simp [Op.operands]) _ hi])
  · rename_i t x ix
    obtain ⟨v, hv, h⟩ := o1_out h
    obtain ⟨i, hi, h⟩ := o1_out h
    exact lift (indexK_out h) (fun ρ ha => by simp only [execOp, ha x (by simp [Op.operands]) _ hv, ha ix (by simp [Op.operands]) _ hi])
  · rename_i x X T ok
    obtain ⟨v, hv, h⟩ := o1_out h
    exact lift (assertK_out (X := X) h) (fun ρ ha => by simp only [execOp, ha x (by simp [Op.operands]) _ hv])
  · rename_i x i
    obtain ⟨v, hv, h⟩ := o1_out h
    exact lift (extractK_out h) (fun ρ ha => by simp only [execOp, ha x (by simp [Op.operands]) _ hv])
  · rename_i t parts
    obtain ⟨ps, hp, h⟩ := opL_out h
    refine lift (buildK_out (by simpa using h)) fun ρ ha => ?_
    have e : (parts.map fun (x : Nat × Operand) => (x.1, ρ x.2)) = ps.toArray := by
      have := Agrees.pairs hp (fun y hy => ha y (by simp [Op.operands]; simpa using hy))
      rw [← this]
      cases parts; simp
    simp only [execOp, e]
  · rename_i args ts
    split at h
    · rename_i x t hx ht
      obtain ⟨v, hv, h⟩ := o1_out h
      have ea : args = #[x] := by cases args; simpa using hx
      have et : ts = #[t] := by cases ts; simpa using ht
      subst ea et
      refine lift (lenK_out (T := type) h) fun ρ ha => ?_
      simp only [execOp, resolve, List.map_toArray, List.map_cons, List.map_nil, ha x (by simp [Op.operands, Call.operands]) _ hv, pure_bind, invoke, builtin]
    · exact h.elim
  · rename_i args ts
    split at h
    · rename_i x t hx ht
      obtain ⟨v, hv, h⟩ := o1_out h
      have ea : args = #[x] := by cases args; simpa using hx
      have et : ts = #[t] := by cases ts; simpa using ht
      subst ea et
      refine lift (capK_out (T := type) h) fun ρ ha => ?_
      simp only [execOp, resolve, List.map_toArray, List.map_cons, List.map_nil, ha x (by simp [Op.operands, Call.operands]) _ hv, pure_bind, invoke, builtin]
    · exact h.elim
  · rename_i args ts
    obtain ⟨vs, hvs, h⟩ := oL_out h
    simp only [List.nil_append] at h
    split at h
    · rename_i v r
      refine lift (maxK_out h) fun ρ ha => ?_
      have ea := Agrees.list hvs (fun y hy => ha y (by simp [Op.operands, Call.operands]; simpa using hy))
      have ea' : args.map ρ = (v :: r).toArray := by rw [← ea]; cases args; simp
      simp only [execOp, resolve, ea', pure_bind, invoke, builtin, Builtin.max_]
    · exact h.elim
  · rename_i args ts
    obtain ⟨vs, hvs, h⟩ := oL_out h
    simp only [List.nil_append] at h
    split at h
    · rename_i v r
      refine lift (minK_out h) fun ρ ha => ?_
      have ea := Agrees.list hvs (fun y hy => ha y (by simp [Op.operands, Call.operands]; simpa using hy))
      have ea' : args.map ρ = (v :: r).toArray := by rw [← ea]; cases args; simp
      simp only [execOp, resolve, ea', pure_bind, invoke, builtin, Builtin.min_]
    · exact h.elim
  · exact h.elim
theorem evPure_out {o : Oper} {e : Env} {K : Value → Prop} (h : evPure P o.op e K) :
    ∃ v, K v ∧ ∀ ρ, Agrees e ρ o.op.operands.toList → ∀ w, (execOp ρ o).run P w = .ok (.value v) w := by
  rcases h with h | h
  · exact evPure0_out h
  · exact h o rfl
end
end Go.Ex
namespace Go.Ex
section
variable {P : Program}
theorem cell_of {w : World} {H : Heap} (hw : w.heap = H) {a : Addr} {v : Value} (h : hcell H a = some v) : w.cell? a = some v := by rw [cell?_eq, hw, h]
theorem add_zero (a : Addr) : a.add 0 = a := by simp [Addr.add]
theorem run_bytesTo {w : World} {p : Option Addr} {l c : Nat} {s : ByteArray} (h : BytesAt w.heap p l s) : (Conv.bytesToString (.slice p l c)).run P w = .ok (.string s) w := by
  cases p with
  | none => unfold BytesAt at h; subst h; rfl
  | some a =>
    obtain ⟨hs, hc⟩ := h
    have hlen : (bytesCells s).length = l := by unfold bytesCells; rw [List.length_map, Array.length_toList]; exact hs
    have hrun := run_loadCells_list (P := P) w a (bytesCells s) (fun j v hj => cell_of rfl (hc j v hj))
    rw [hlen] at hrun
    have e : (bytesCells s).toArray = ((s.data.toList.map fun b => (b.toNat : Int)).map (Value.int .u8)).toArray := by
      unfold bytesCells; rw [List.map_map]; rfl
    rw [e] at hrun
    rw [run_bytesToString w a l c _ hrun, foldl_push_bytes]
    congr 2
    apply ByteArray.ext
    apply Array.ext'
    simp [List.map_map, Function.comp_def, UInt8.ofNat_toNat]
theorem evRead0_out {o : Oper} {e : Env} {H : Heap} {K : Value → Prop} (h : evRead0 P o.op e H K) :
    ∃ v, K v ∧ ∀ ρ, Agrees e ρ o.op.operands.toList → ∀ w, w.heap = H → (execOp ρ o).run P w = .ok (.value v) w := by
  have lift : ∀ {s : Sem Value}, (∃ v, K v ∧ ∀ w, w.heap = H → s.run P w = .ok v w) → (∀ ρ, Agrees e ρ o.op.operands.toList → execOp ρ o = do pure (.value (← s))) → ∃ v, K v ∧ ∀ ρ, Agrees e ρ o.op.operands.toList → ∀ w, w.heap = H → (execOp ρ o).run P w = .ok (.value v) w := by
    rintro s ⟨v, hk, hy⟩ e
    refine ⟨v, hk, fun ρ ha w hw => ?_⟩
    rw [e ρ ha, Sem.run_bind, hy w hw]
    rfl
  obtain ⟨dst, op, type, pos, after, guard⟩ := o
  simp only at h lift ⊢
  unfold evRead0 at h
  split at h
  · rename_i t x
    obtain ⟨v, hv, h⟩ := o1_out h
    refine lift (s := Instr.loadAt t v) ?_ (fun ρ ha => by simp only [execOp, ha x (by simp [Op.operands]) _ hv])
    split at h
    · rename_i a
      have hsa : ∀ w, (Instr.sureAddr (.pointer (some a))).run P w = .ok a w := fun w => rfl
      have aggcase : ∀ d, P.underlying t = some d → isAggT P t = true →
          (bif Nat.beq (cellsSh P 8 t).length (sizeT P t) && (P.info? t).isSome then ldCs H a (cellsSh P 8 t) 0 [] fun vs => K (.agg vs.toArray) else False) →
          ∃ v, K v ∧ ∀ w, w.heap = H → (Instr.loadAt t (.pointer (some a))).run P w = .ok v w := by
        intro d hu hag h
        cases hb : (Nat.beq (cellsSh P 8 t).length (sizeT P t) && (P.info? t).isSome) with
        | false => rw [hb] at h; exact h.elim
        | true =>
          rw [hb] at h
          simp only [Bool.and_eq_true] at hb
          obtain ⟨i, hi⟩ := Option.isSome_iff_exists.1 hb.2
          have hsz : (cellsSh P 8 t).length = i.size := by have := Nat.eq_of_beq_eq_true hb.1; simpa [sizeT, hi] using this
          obtain ⟨vs, hl, hc, hk⟩ := ldCs_out (show ldCs H a (cellsSh P 8 t) 0 [] _ from h)
          refine ⟨_, hk, fun w hw => ?_⟩
          have hrun := run_loadCells_list (P := P) w a vs (fun j v hj => cell_of hw (by simpa using hc j v hj))
          unfold Instr.loadAt loadVar
          rw [Sem.run_bind, hsa]
          simp only [Result.andThen]
          rw [Sem.run_bind, r_agg hu, hag]
          simp only [Result.andThen, if_true]
          rw [Sem.run_bind, r_size hi]
          simp only [Result.andThen]
          rw [Sem.run_bind, show i.size = vs.length by omega, hrun]
          simp
      split at h
      · exact h.elim
      · rename_i fs hu; exact aggcase _ hu (by simp [isAggT, hu]) h
      · rename_i n el hu; exact aggcase _ hu (by simp [isAggT, hu]) h
      · rename_i d hn1 hn2 hu
        have hag : isAggT P t = false := by
          unfold isAggT; rw [hu]
          cases d <;> first | rfl | exact absurd rfl (hn1 _) | exact absurd rfl (hn2 _ _)
        obtain ⟨v, hc, hk⟩ := ldC_out h
        refine ⟨v, hk, fun w hw => ?_⟩
        unfold Instr.loadAt loadVar
        rw [Sem.run_bind, hsa]
        simp only [Result.andThen]
        rw [Sem.run_bind, r_agg hu, hag]
        simp [cell_of hw hc]
    · exact h.elim
  · rename_i s d x
    obtain ⟨v, hv, h⟩ := o1_out h
    refine lift (s := convert s d v) ?_ (fun ρ ha => by simp only [execOp, ha x (by simp [Op.operands]) _ hv])
    split at h
    · rename_i b p l c hs hd
      split at h
      · rename_i hb
        obtain ⟨t, ht, hk⟩ := h
        refine ⟨_, hk, fun w hw => ?_⟩
        rw [run_convert_bytes_string w s d b p l c hs hb hd]
        exact run_bytesTo (by rw [hw]; exact ht)
      · exact h.elim
    · exact h.elim
  · exact h.elim

theorem evRead_out {o : Oper} {e : Env} {H : Heap} {K : Value → Prop} (h : evRead P o.op e H K) :
    ∃ v, K v ∧ ∀ ρ, Agrees e ρ o.op.operands.toList → ∀ w, w.heap = H → (execOp ρ o).run P w = .ok (.value v) w := by
  rcases h with h | h
  · exact evRead0_out h
  · exact h o rfl
theorem cellsV_len {z : Value} : z.cells.size = (cellsV z).length := by rw [cellsV_eq]; simp
theorem zerosOf_eq (z : Value) (n : Nat) : zerosOf z n = Builtin.zeroCells z.cells n := by
  unfold zerosOf Builtin.zeroCells
  rw [cellsV_len]
  apply Array.map_congr_left
  intro i hi
  have hlt : i < n * (cellsV z).length := by simpa using hi
  have hpos : 0 < (cellsV z).length := by
    rcases Nat.eq_zero_or_pos (cellsV z).length with h | h
    · rw [h] at hlt; omega
    · exact h
  have hm : i % (cellsV z).length < (cellsV z).length := Nat.mod_lt _ hpos
  have hm' : i % (cellsV z).length < z.cells.size := by rw [cellsV_len]; exact hm
  rw [getElem!_pos z.cells _ hm', List.getD_eq_getElem?_getD, List.getElem?_eq_getElem hm]
  simp only [Option.getD_some]
  have := cellsV_eq z
  simp [this]
theorem run_store1 {w : World} {a : Addr} {v : Value} (hv : (∀ c, v ≠ .agg c) ∧ (∀ c, v ≠ .tuple c)) {u : Value} (hc : hcell w.heap a = some u) (hf : hfrozen w.heap a = false) :
    (store a v).run P w = .ok () (w.setCell a v) := by
  have h1 : v.oneCell' = true := by
    cases v <;> first | rfl | exact absurd rfl (hv.1 _) | exact absurd rfl (hv.2 _)
  rw [run_store P w a v .plain h1, cell?_eq, hc]
  simp only []
  rw [frozen?_eq, hf]
  rfl
theorem stC_out {H : Heap} {a : Addr} {v : Value} {K : Heap → Prop} (h : stC H a v K) : K (hset H a v) ∧ v.cells = #[v] ∧ ∀ w, w.heap = H → (store a v).run P w = .ok () (w.setCell a v) := by
  unfold stC at h
  obtain ⟨⟨⟨u, hu⟩, hf, hk⟩, hc, h1, h2⟩ := oneW_out h
  exact ⟨hk, hc, fun w hw => run_store1 ⟨h1, h2⟩ (by rw [hw]; exact hu) (by rw [hw]; exact hf)⟩
theorem stCs_out {a : Addr} : ∀ {vs : List Value} {H : Heap} {i : Nat} {K : Heap → Prop}, stCs H a vs i K →
    ∀ w, w.heap = H → ∃ w', (storeCells a vs i).run P w = .ok () w' ∧ Sim w w' ∧ K w'.heap
  | [], H, i, K, h, w, hw => ⟨w, rfl, Sim.refl w, by rw [hw]; exact h⟩
  | v :: vs, H, i, K, h, w, hw => by
    obtain ⟨hk, _, hr⟩ := stC_out (P := P) (show stC H (a.add i) v _ from h)
    obtain ⟨w', hr', hs, hk'⟩ := stCs_out hk (w.setCell (a.add i) v) (by rw [setCell_heap, hw])
    refine ⟨w', ?_, (Sim.setCell w _ _).trans hs, hk'⟩
    unfold storeCells
    rw [Sem.run_bind, hr w hw]
    exact hr'
theorem appended_out {H : Heap} {size n : Nat} {y : Value} {new : List Value} (h : appended H size y n new) : ∀ w, w.heap = H →
    (Builtin.lenOf y).run P w = .ok n w ∧ (Builtin.firstCells size n y).run P w = .ok new.toArray w := by
  intro w hw
  unfold appended at h
  split at h
  · rename_i p l c
    obtain ⟨rfl, h⟩ := h
    refine ⟨rfl, ?_⟩
    split at h
    · obtain ⟨rfl, rfl⟩ := h; rfl
    · rename_i a
      exact run_firstCells_some w size n a n c new h.1 (fun j v hj => cell_of hw (h.2 j v hj))
  · rename_i s
    obtain ⟨rfl, rfl, rfl⟩ := h
    refine ⟨rfl, ?_⟩
    show Result.ok _ w = Result.ok _ w
    congr 1
    unfold bytesCells
    apply Array.ext'
    have : s.extract 0 s.size = s := by
      apply ByteArray.ext
      rw [ByteArray.data_extract]
      exact Array.extract_size
    rw [this]
    simp
  · exact h.elim
theorem notInt {d : TypeDesc} (hd : ∀ k, d ≠ .int k) : (match d with | .int _ => true | _ => false) = false := by
  cases d <;> first | rfl | exact absurd rfl (hd _)
theorem appV_out {t u T : TypeId} {x y : Value} {H : Heap} {K : Value → Heap → Prop} {d : TypeDesc} (hu : P.underlying u = some d) (hd : ∀ k, d ≠ .int k) (h : appV P t x y H K) :
    ∀ w, w.heap = H → ∃ v w', (Builtin.append_ #[t, u] T #[x, y]).run P w = .ok v w' ∧ Sim w w' ∧ K v w'.heap := by
  intro w hw
  unfold appV at h
  split at h
  · rename_i el ht
    split at h
    · rename_i p l c i hi
      obtain ⟨i', z, hi', hz, h, hzr⟩ := zeroT_out h
      obtain rfl : i = i' := by rw [hi] at hi'; exact Option.some.inj hi'
      obtain ⟨n, new, hap, h⟩ := h
      have hlen := fun w hw => (appended_out (P := P) hap w hw).1
      have hfc := fun w hw => (appended_out (P := P) hap w hw).2
      have hm := notInt hd
      have hsz : ∀ w, (sizeOf el).run P w = .ok i.size w := r_size hi
      rcases h with ⟨hfit, h⟩ | ⟨hgrow, hb, hbz, old, hol, hoc, h⟩
      · cases p with
        | none =>
          obtain ⟨rfl, hk⟩ := h
          refine ⟨_, w, ?_, Sim.refl w, by rw [hw]; exact hk⟩
          have hfc0 := hfc w hw
          have hfit' : l ≤ c := by omega
          unfold Builtin.append_
          simp only [show ((#[t, u] : Array TypeId)[0]? : Option TypeId) = some t from rfl, show ((#[t, u] : Array TypeId)[1]? : Option TypeId) = some u from rfl,
            show ((#[Value.slice none l c, y] : Array Value)[0]? : Option Value) = some (.slice none l c) from rfl, show ((#[Value.slice none l c, y] : Array Value)[1]? : Option Value) = some y from rfl]
          simp [r_und ht, hsz, r_und hu, hlen w hw, hfit', hfc0]
        | some a =>
          obtain ⟨w', hst, hs, hk⟩ := stCs_out (P := P) h w hw
          refine ⟨_, w', ?_, hs, hk⟩
          have hfc0 := hfc w hw
          unfold Builtin.append_
          simp only [show ((#[t, u] : Array TypeId)[0]? : Option TypeId) = some t from rfl, show ((#[t, u] : Array TypeId)[1]? : Option TypeId) = some u from rfl,
            show ((#[Value.slice (some a) l c, y] : Array Value)[0]? : Option Value) = some (.slice (some a) l c) from rfl, show ((#[Value.slice (some a) l c, y] : Array Value)[1]? : Option Value) = some y from rfl]
          simp [r_und ht, hsz, r_und hu, hlen w hw, hfit, hfc0, hst]
      · have hw' : w.drew.heap = H := hw
        have hfc1 := hfc w.drew hw'
        have hold : (Builtin.firstCells i.size l (.slice p l c)).run P w.drew = .ok old.toArray w.drew := by
          cases p with
          | none => simp only [cellsAt] at hoc; subst hoc; rfl
          | some a => exact run_firstCells_some w.drew i.size l a l c old hol (fun j v hj => cell_of hw' (hoc j v hj))
        have hK := h (grownCap w (l + n) c el) (grownCap_ge w _ _ _)
        rw [← hw] at hK
        refine ⟨.slice (some ⟨w.heap.size, 0, none⟩) (l + n) (grownCap w (l + n) c el), w.drew.alloc (.cells (old.toArray ++ new.toArray ++ zerosOf z (grownCap w (l + n) c el - (l + n))) el), ?_, (Sim.drew w).trans (Sim.alloc _ _), hK⟩
        have hn : ¬ (l + n ≤ c) := by omega
        have h48 : ¬ (281474976710656 < Builtin.nextslicecap (l + n) c * i.bytes) := by
          have := growslice_fits (bytes := i.bytes) hgrow hb
          omega
        unfold Builtin.append_
        simp only [show ((#[t, u] : Array TypeId)[0]? : Option TypeId) = some t from rfl, show ((#[t, u] : Array TypeId)[1]? : Option TypeId) = some u from rfl,
          show ((#[Value.slice p l c, y] : Array Value)[0]? : Option Value) = some (.slice p l c) from rfl, show ((#[Value.slice p l c, y] : Array Value)[1]? : Option Value) = some y from rfl]
        simp [r_und ht, hsz, r_und hu, hlen w hw, hn, r_info hi, hbz, h48, Question.forced, hold, hfc1, hzr, newRow, grownCap, zerosOf_eq, hw]
        congr 2
        apply Array.ext'
        simp [List.append_assoc]
    · exact h.elim
  · exact h.elim
end
end Go.Ex
