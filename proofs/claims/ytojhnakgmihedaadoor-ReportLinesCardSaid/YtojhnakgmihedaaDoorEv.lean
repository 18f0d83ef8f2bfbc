import Derived.Calls
import Derived.Orders
import Derived.Tactics
import Derived.Deep.LoopGhost
import Derived.Laws.World
import Derived.Laws.Strings
import Derived.Laws.Cells
/-! A plain reckoning of the code of a function over the heap alone: slots become terms, draws vanish. -/
namespace Go.Ev

abbrev Heap := Array Obj

def hcell (H : Heap) (a : Addr) : Option Value :=
  match H[a.block]? with
  | some (.cells c _ _) => if a.spot.isSome then none else c[a.off]?
  | _ => none
def hfrozen (H : Heap) (a : Addr) : Bool :=
  match H[a.block]? with
  | some (.cells _ _ (lo, hi)) => lo ≤ a.off && a.off < hi
  | _ => false
def hset (H : Heap) (a : Addr) (v : Value) : Heap :=
  H.modify a.block fun
    | .cells c elem frozen => .cells (if a.spot.isSome then c else c.setIfInBounds a.off v) elem frozen
    | o => o
theorem cell?_eq (w : World) (a : Addr) : w.cell? a = hcell w.heap a := rfl
theorem frozen?_eq (w : World) (a : Addr) : w.frozen? a = hfrozen w.heap a := rfl
theorem setCell_heap (w : World) (a : Addr) (v : Value) : (w.setCell a v).heap = hset w.heap a v := rfl

/-- Two worlds that differ in their heap and in how much was drawn alone. -/
structure Sim (w w' : World) : Prop where
  os : w'.os = w.os
  tape : w'.tape = w.tape
  output : w'.output = w.output
theorem Sim.refl (w : World) : Sim w w := ⟨rfl, rfl, rfl⟩
theorem Sim.trans {a b c : World} (h : Sim a b) (k : Sim b c) : Sim a c := ⟨k.os.trans h.os, k.tape.trans h.tape, k.output.trans h.output⟩
theorem Sim.setCell (w : World) (a : Addr) (v : Value) : Sim w (w.setCell a v) := ⟨rfl, rfl, rfl⟩
theorem Sim.alloc (w : World) (o : Obj) : Sim w (w.alloc o) := ⟨rfl, rfl, rfl⟩
theorem Sim.drew (w : World) : Sim w w.drew := ⟨rfl, rfl, rfl⟩

/-- A call, over the heap alone. -/
def Fn (P : Program) (f : FuncId) (args : Array Value) (H : Heap) (R : Value → Heap → Prop) : Prop :=
  ∀ w : World, w.heap = H → Calls P f args w fun e w' => ∃ v, e = .returned v ∧ Sim w w' ∧ R v w'.heap
theorem Fn.mono {P : Program} {f : FuncId} {args : Array Value} {H : Heap} {R R' : Value → Heap → Prop} (h : Fn P f args H R) (hr : ∀ v H', R v H' → R' v H') : Fn P f args H R' :=
  fun w hw => (h w hw).mono fun _ _ ⟨v, he, hs, r⟩ => ⟨v, he, hs, hr _ _ r⟩

/-! ### Shapes of values -/
inductive Cs where
  | int (k : IntKind) | bool | str | ptr | slice | raw
  deriving DecidableEq
inductive Sh where
  | one (c : Cs)
  | agg (l : List Cs)

/-- There is a value of this shape of which 'ok' holds, and K. -/
def exC (c : Cs) (K : Value → Prop) : Prop :=
  match c with
  | .int k => ∃ n : Int, K (.int k n)
  | .bool => ∃ b : Bool, K (.bool b)
  | .str => ∃ s : ByteArray, K (.string s)
  | .ptr => ∃ p : Option Addr, K (.pointer p)
  | .slice => ∃ (p : Option Addr) (l c : Nat), K (.slice p l c)
  | .raw => ∃ v : Value, K v
def exCs : List Cs → List Value → (List Value → Prop) → Prop
  | [], acc, K => K acc
  | c :: cs, acc, K => exC c fun v => exCs cs (acc ++ [v]) K
def exSh (s : Sh) (K : Value → Prop) : Prop :=
  match s with
  | .one c => exC c K
  | .agg l => exCs l [] fun vs => K (.agg vs.toArray)
theorem exC_out {c : Cs} {K : Value → Prop} (h : exC c K) : ∃ v, K v := by
  cases c <;> simp only [exC] at h
  · obtain ⟨n, h⟩ := h; exact ⟨_, h⟩
  · obtain ⟨n, h⟩ := h; exact ⟨_, h⟩
  · obtain ⟨n, h⟩ := h; exact ⟨_, h⟩
  · obtain ⟨n, h⟩ := h; exact ⟨_, h⟩
  · obtain ⟨p, l, c, h⟩ := h; exact ⟨_, h⟩
  · exact h
theorem exCs_out : ∀ {l : List Cs} {acc : List Value} {K : List Value → Prop}, exCs l acc K → ∃ vs, vs.length = l.length ∧ K (acc ++ vs)
  | [], acc, K, h => ⟨[], rfl, by simpa [exCs] using h⟩
  | c :: cs, acc, K, h => by
    obtain ⟨v, h⟩ := exC_out (show exC c _ from h)
    obtain ⟨vs, hl, hk⟩ := exCs_out h
    exact ⟨v :: vs, by simp [hl], by simpa using hk⟩
theorem exSh_out {s : Sh} {K : Value → Prop} (h : exSh s K) : ∃ v, K v := by
  cases s with
  | one c => exact exC_out h
  | agg l => obtain ⟨vs, _, hk⟩ := exCs_out (show exCs l [] _ from h); exact ⟨_, hk⟩

/-- The cell shape of a type that lies in one cell. -/
def cellSh (P : Program) (t : TypeId) : Cs :=
  match P.underlying t with
  | some .bool => .bool
  | some (.int k) => .int k
  | some .string => .str
  | some (.pointer _) => .ptr
  | some (.slice _) => .slice
  | _ => .raw
/-- The cells of a type, laid flat. -/
def cellsSh (P : Program) : Nat → TypeId → List Cs
  | 0, _ => []
  | d + 1, t =>
    match P.underlying t with
    | some (.struct fs) => fs.toList.flatMap fun f => cellsSh P d f.type
    | some (.array n e) => (List.replicate n (cellsSh P d e)).flatten
    | _ => [cellSh P t]
def isAggT (P : Program) (t : TypeId) : Bool :=
  match P.underlying t with
  | some (.struct _) | some (.array _ _) => true
  | _ => false
def shOf (P : Program) (t : TypeId) : Sh :=
  match P.underlying t with
  | some (.struct _) | some (.array _ _) => .agg (cellsSh P 8 t)
  | _ => .one (cellSh P t)
def sizeT (P : Program) (t : TypeId) : Nat := match P.info? t with | some i => i.size | none => 0
def bytesT (P : Program) (t : TypeId) : Nat := match P.info? t with | some i => i.bytes | none => 0
def zeroT (P : Program) (t : TypeId) (K : Value → Prop) : Prop := match P.info? t with | some i => (match i.zero with | some v => K v | none => False) | none => False

/-! ### Slots -/
abbrev Env := Nat → Option Value
def put (e : Env) (d : Option Tmp) (v : Value) : Env :=
  match d with
  | some d => fun j => bif Nat.beq j d then some v else e j
  | none => e
def opv (e : Env) : Operand → Option Value
  | .tmp t => e t
  | .const v => some v
  | .global g => some (.pointer (some ⟨g, 0, none⟩))
  | .func f => some (.func (.func f) #[] #[])
def o1 (e : Env) (x : Operand) (K : Value → Prop) : Prop := match opv e x with | some v => K v | none => False
def oL (e : Env) : List Operand → List Value → (List Value → Prop) → Prop
  | [], acc, K => K acc
  | x :: xs, acc, K => o1 e x fun v => oL e xs (acc ++ [v]) K
def oO (e : Env) (x : Option Operand) (K : Option Value → Prop) : Prop := match x with | none => K none | some x => o1 e x fun v => K (some v)

/-- A test. -/
def brW (b : Bool) (A B : Prop) : Prop := match b with | true => A | false => B
theorem brW_cases {b : Bool} {A B : Prop} (h : brW b A B) : (b = true ∧ A) ∨ (b = false ∧ B) := by cases b <;> simp_all [brW]
theorem brW_mk {b : Bool} {A B : Prop} (h1 : b = true → A) (h2 : b = false → B) : brW b A B := by cases b <;> simp_all [brW]

/-! ### Operations that touch no memory -/
def andW (k : IntKind) (a b : Int) : Int := k.wrap (BitVec.ofInt k.bits a &&& BitVec.ofInt k.bits b).toNat
def orW (k : IntKind) (a b : Int) : Int := k.wrap (BitVec.ofInt k.bits a ||| BitVec.ofInt k.bits b).toNat
def xorW (k : IntKind) (a b : Int) : Int := k.wrap (BitVec.ofInt k.bits a ^^^ BitVec.ofInt k.bits b).toNat
def andNotW (k : IntKind) (a b : Int) : Int := k.wrap (BitVec.ofInt k.bits a &&& ~~~ BitVec.ofInt k.bits b).toNat
def notW (k : IntKind) (n : Int) : Int := k.wrap (BitVec.ofInt k.bits (if k.signed then -1 else k.max) ^^^ BitVec.ofInt k.bits n).toNat
def shlW (k : IntKind) (a b : Int) : Int := k.wrap (a * 2 ^ min b.toNat k.bits)
def shrW (k : IntKind) (a b : Int) : Int := a.fdiv (2 ^ min b.toNat k.bits)
/-- A value, a heap, under a name. -/
def letV {α : Type} (x : α) (K : α → Prop) : Prop := K x
theorem letV_mk {α : Type} {x : α} {K : α → Prop} (h : ∀ y, y = x → K y) : letV x K := h x rfl
def binI (op : BinOp) (k : IntKind) (a : Int) (k' : IntKind) (b : Int) (K : Value → Prop) : Prop :=
  match op with
  | .shl => 0 ≤ b ∧ K (.int k (shlW k a b))
  | .shr => 0 ≤ b ∧ K (.int k (shrW k a b))
  | .add => if k = k' then K (.int k (k.wrap (a + b))) else False
  | .sub => if k = k' then K (.int k (k.wrap (a - b))) else False
  | .mul => if k = k' then K (.int k (k.wrap (a * b))) else False
  | .quo => if k = k' then b ≠ 0 ∧ K (.int k (k.wrap (a.tdiv b))) else False
  | .rem => if k = k' then b ≠ 0 ∧ K (.int k (a.tmod b)) else False
  | .and => if k = k' then K (.int k (andW k a b)) else False
  | .or => if k = k' then K (.int k (orW k a b)) else False
  | .xor => if k = k' then K (.int k (xorW k a b)) else False
  | .andNot => if k = k' then K (.int k (andNotW k a b)) else False
  | .eql => if k = k' then K (.bool (decide (a = b))) else False
  | .neq => if k = k' then K (.bool (decide (a ≠ b))) else False
  | .lss => if k = k' then K (.bool (decide (a < b))) else False
  | .leq => if k = k' then K (.bool (decide (a ≤ b))) else False
  | .gtr => if k = k' then K (.bool (decide (b < a))) else False
  | .geq => if k = k' then K (.bool (decide (b ≤ a))) else False
def binS (op : BinOp) (a b : ByteArray) (K : Value → Prop) : Prop :=
  match op with
  | .add => a.size + b.size ≤ 9223372036854775807 ∧ K (.string (a ++ b))
  | .eql => K (.bool (decide (a = b)))
  | .neq => K (.bool (decide (a ≠ b)))
  | _ => False
/-- '==' and '!=' beside numbers and texts. -/
def eqK (P : Program) (neg : Bool) (t : TypeId) (x y : Value) (K : Value → Prop) : Prop :=
  match P.underlying t with
  | some .bool => (match x, y with
    | .bool a, .bool b => K (.bool (match neg with | true => decide (a ≠ b) | false => decide (a = b)))
    | _, _ => False)
  | some (.pointer _) => (match x, y with
    | .pointer p, .pointer none => K (.bool (match neg with | true => p.isSome | false => p.isNone))
    | _, _ => False)
  | some (.slice _) => (match x, y with
    | .slice p _ _, .slice none _ _ => K (.bool (match neg with | true => p.isSome | false => p.isNone))
    | _, _ => False)
  | _ => False
def convK (P : Program) (src dst : TypeId) (x : Value) (K : Value → Prop) : Prop :=
  match P.underlying src with
  | none => False
  | some _ => match P.underlying dst, x with
    | some (.int k), .int _ n => K (.int k (k.wrap n))
    | some .string, .string s => K (.string s)
    | _, _ => False
def lenK (P : Program) (t : TypeId) (x : Value) (K : Value → Prop) : Prop :=
  match P.underlying t, x with
  | some .string, .string s => K (.int .i64 (s.size : Int))
  | some (.array n _), _ => K (.int .i64 (n : Int))
  | some (.slice _), .slice _ n _ => K (.int .i64 (n : Int))
  | _, _ => False
def capK (P : Program) (t : TypeId) (x : Value) (K : Value → Prop) : Prop :=
  match P.underlying t, x with
  | some (.slice _), .slice _ _ c => K (.int .i64 (c : Int))
  | _, _ => False
def maxK : Value → List Value → (Value → Prop) → Prop
  | x, [], K => K x
  | .int k a, .int _ b :: r, K => maxK (.int k (max a b)) r K
  | _, _ :: _, _ => False
def minK : Value → List Value → (Value → Prop) → Prop
  | x, [], K => K x
  | .int k a, .int _ b :: r, K => minK (.int k (min a b)) r K
  | _, _ :: _, _ => False
def bndK (x : Option Value) (dflt y : Nat) (K : Nat → Prop) : Prop :=
  match x with
  | none => K dflt
  | some (.int _ i) => 0 ≤ i ∧ i ≤ (y : Int) ∧ K i.toNat
  | _ => False
def mulSize (i size : Nat) : Nat := bif Nat.beq size 1 then i else i * size
def sliceK (P : Program) (t : TypeId) (x : Value) (lo hi : Option Value) (K : Value → Prop) : Prop :=
  match P.underlying t, x with
  | some .string, .string s => bndK hi s.size s.size fun h => bndK lo 0 h fun l => K (.string (s.extract l h))
  | some (.slice e), .slice p n c => bndK hi n c fun h => bndK lo 0 h fun l =>
      (match P.info? e with
       | some i => K (.slice (if c = l then p else p.map (·.add (mulSize l i.size))) (h - l) (c - l))
       | none => False)
  | _, _ => False
def indexAddrK (P : Program) (t : TypeId) (x ix : Value) (K : Value → Prop) : Prop :=
  match ix with
  | .int _ i =>
    (match P.underlying t, x with
    | some (.slice e), .slice p n _ => ∃ a, p = some a ∧ 0 ≤ i ∧ i < (n : Int) ∧
        (match P.info? e with | some j => K (.pointer (some (a.add (mulSize i.toNat j.size)))) | none => False)
    | some (.array n e), .pointer (some a) => 0 ≤ i ∧ i < (n : Int) ∧
        (match P.info? e with | some j => K (.pointer (some (a.add (mulSize i.toNat j.size)))) | none => False)
    | _, _ => False)
  | _ => False
/-- A byte of a text. -/
def bt (s : ByteArray) (i : Int) : Int := ((s.data.toList.getD i.toNat 0).toNat : Int)
def indexK (P : Program) (t : TypeId) (x ix : Value) (K : Value → Prop) : Prop :=
  match ix with
  | .int _ i =>
    (match P.underlying t, x with
    | some .string, .string s => 0 ≤ i ∧ i < (s.size : Int) ∧ K (.int .u8 (bt s i))
    | _, _ => False)
  | _ => False
def partK (P : Program) (t : TypeId) (cs : Array Value) (off : Nat) (K : Value → Prop) : Prop :=
  match isAggT P t with
  | true => K (.agg (cs.extract off (off + sizeT P t)))
  | false => (match cs[off]? with | some v => K v | none => False)
def fieldK (P : Program) (t : TypeId) (x : Value) (f : Nat) (K : Value → Prop) : Prop :=
  match P.underlying t, x with
  | some (.struct fs), .agg cs => (match fs[f]? with
    | some fd => (match P.underlying fd.type, P.info? fd.type with | some _, some _ => partK P fd.type cs fd.offset K | _, _ => False)
    | none => False)
  | _, _ => False
def fieldAddrK (P : Program) (t : TypeId) (x : Value) (f : Nat) (K : Value → Prop) : Prop :=
  match P.underlying t, x with
  | some (.struct fs), .pointer (some a) => (match fs[f]? with
    | some fd => (match P.info? fd.type with
      | some i => bif Nat.beq i.size 0 then False else K (.pointer (some (a.add fd.offset)))
      | none => False)
    | none => False)
  | _, _ => False
/-- What a two-valued assertion to a type tells of an interface value. -/
def TaRel (x : Value) (T : TypeId) (v zero : Value) (ok : Bool) : Prop :=
  (ok = true ∧ x = .iface T v) ∨ (ok = false ∧ v = zero ∧ (x = .nilIface ∨ ∃ t u, x = .iface t u ∧ t ≠ T))
def assertK (P : Program) (x : Value) (T : TypeId) (commaOk : Bool) (K : Value → Prop) : Prop :=
  match P.underlying T with
  | some (.interface _) | none => False
  | some _ => match commaOk with
    | true => zeroT P T fun z => exSh (shOf P T) fun v => ∃ ok : Bool, TaRel x T v z ok ∧ K (.tuple #[v, .bool ok])
    | false => exSh (shOf P T) fun v => x = .iface T v ∧ K v
def extractK (x : Value) (i : Nat) (K : Value → Prop) : Prop :=
  match x with
  | .tuple vs => (match vs[i]? with | some v => K v | none => False)
  | _ => False
def ifaceK (P : Program) (t : TypeId) (x : Value) (K : Value → Prop) : Prop :=
  match P.underlying t with
  | some (.interface _) | none => False
  | some _ => K (.iface t x)
/-- A value that lies in one cell. -/
def oneW (v : Value) (K : Prop) : Prop := match v with | .agg _ | .tuple _ => False | _ => K
def setMany (cs : List Value) (off : Nat) : List Value → List Value
  | [] => cs
  | v :: vs => setMany (cs.set off v) (off + 1) vs
/-- Parts laid into a row of cells. -/
def fillK (place : Nat → Option (Nat × Nat × Bool)) : List Value → List (Nat × Value) → (List Value → Prop) → Prop
  | cells, [], K => K cells
  | cells, (i, v) :: rest, K =>
    match place i with
    | none => False
    | some (off, size, agg) =>
      match agg with
      | false => oneW v (bif Nat.blt off cells.length && Nat.beq size 1 then fillK place (cells.set off v) rest K else False)
      | true => (match v with
        | .agg vs => bif Nat.beq vs.size size && Nat.ble (off + vs.size) cells.length then fillK place (setMany cells off vs.toList) rest K else False
        | _ => False)
def cellsV (v : Value) : List Value := match v with | .agg cs => cs.toList | v => [v]
def placeS (P : Program) (fs : Array Field) (i : Nat) : Option (Nat × Nat × Bool) :=
  match fs[i]? with
  | some f => some (f.offset, sizeT P f.type, isAggT P f.type)
  | none => none
def opL (e : Env) : List (Nat × Operand) → List (Nat × Value) → (List (Nat × Value) → Prop) → Prop
  | [], acc, K => K acc
  | (i, x) :: xs, acc, K => o1 e x fun v => opL e xs (acc ++ [(i, v)]) K
def infosOk (P : Program) (fs : Array Field) : Bool := fs.all fun f => (P.info? f.type).isSome
def buildK (P : Program) (t : TypeId) (parts : List (Nat × Value)) (K : Value → Prop) : Prop :=
  zeroT P t fun z => match P.underlying t with
    | some (.struct fs) => bif infosOk P fs then fillK (placeS P fs) (cellsV z) parts fun cs => K (.agg cs.toArray) else False
    | some (.array _ e) => bif (P.info? e).isSome then fillK (fun i => some (i * sizeT P e, sizeT P e, isAggT P e)) (cellsV z) parts fun cs => K (.agg cs.toArray) else False
    | _ => False
def unK (op : UnOp) (x : Value) (K : Value → Prop) : Prop :=
  match op, x with
  | .neg, .int k n => K (.int k (k.wrap (0 - n)))
  | .not, .bool b => K (.bool (!b))
  | .xor, .int k n => K (.int k (notW k n))
  | _, _ => False
def nilCheckK (x : Value) (K : Value → Prop) : Prop :=
  match x with
  | .pointer p => ∃ a, p = some a ∧ K (.pointer (some a))
  | _ => False
def isEq : BinOp → Option Bool
  | .eql => some false
  | .neq => some true
  | _ => none
/-- Two cells of a plain type: are they alike? -/
def eqCell (P : Program) (e : TypeId) (a b : Value) : Option Bool :=
  match P.underlying e, a, b with
  | some (.int _), .int k x, .int k' y => if k = k' then some (decide (x = y)) else none
  | some .string, .string x, .string y => some (decide (x = y))
  | some .bool, .bool x, .bool y => some (decide (x = y))
  | _, _, _ => none
def eqTwo (P : Program) (e : TypeId) (xs ys : List Value) (i : Nat) (r : Option Bool) : Option Bool :=
  match xs[i]?, ys[i]? with
  | some a, some b => (match eqCell P e a b, r with
    | some x, some y => some (x && y)
    | _, _ => none)
  | _, _ => none
def eqArr (P : Program) (e : TypeId) (xs ys : List Value) : Nat → Nat → Option Bool
  | 0, _ => some true
  | n + 1, i => eqTwo P e xs ys i (eqArr P e xs ys n (i + 1))
def eqFlds (P : Program) (xs ys : List Value) : List Field → Option Bool
  | [] => some true
  | f :: fs => bif f.name == "_" then none else eqTwo P f.type xs ys f.offset (eqFlds P xs ys fs)
/-- '==' and '!=' of arrays and structs of plain cells. -/
def eqAggK (P : Program) (neg : Bool) (t : TypeId) (xs ys : Array Value) (K : Value → Prop) : Prop :=
  bif P.eqGuardType P.depth t then False else
  match P.underlying t with
  | some (.array n e) => bif Nat.beq (P.cellsOf e) 1 && (P.info? e).isSome then
      (match eqArr P e xs.toList ys.toList n 0 with
       | some b => K (.bool (bif neg then !b else b))
       | none => False) else False
  | some (.struct fs) => bif P.stoodInHeld t then False else
      (match eqFlds P xs.toList ys.toList fs.toList with
       | some b => K (.bool (bif neg then !b else b))
       | none => False)
  | _ => False
def binAll (P : Program) (op : BinOp) (t : TypeId) (x y : Value) (K : Value → Prop) : Prop :=
  match x with
  | .int k a => (match y with | .int k' b => binI op k a k' b K | _ => False)
  | .string a => (match y with | .string b => binS op a b K | _ => False)
  | .agg xs => (match y with
    | .agg ys => (match isEq op with | some neg => eqAggK P neg t xs ys K | none => False)
    | _ => False)
  | x => (match isEq op with | some neg => eqK P neg t x y K | none => False)

def evPure (P : Program) (o : Op) (e : Env) (K : Value → Prop) : Prop :=
  match o with
  | .move x => o1 e x K
  | .assign x => o1 e x K
  | .pick c a b => o1 e c fun vc => (match vc with
    | .bool t => brW t (o1 e a K) (o1 e b K)
    | _ => False)
  | .nilCheck x => o1 e x fun v => nilCheckK v K
  | .binOp op t x y _ => o1 e x fun vx => o1 e y fun vy => binAll P op t vx vy K
  | .unOp op _ x => o1 e x fun v => unK op v K
  | .convert s d x => o1 e x fun v => convK P s d v K
  | .makeInterface t x => o1 e x fun v => ifaceK P t v K
  | .slice t x lo hi none => o1 e x fun v => oO e lo fun l => oO e hi fun h => sliceK P t v l h K
  | .fieldAddr t x f => o1 e x fun v => fieldAddrK P t v f K
  | .field t x f => o1 e x fun v => fieldK P t v f K
  | .indexAddr t x ix => o1 e x fun v => o1 e ix fun i => indexAddrK P t v i K
  | .index t x ix => o1 e x fun v => o1 e ix fun i => indexK P t v i K
  | .typeAssert x _ T ok => o1 e x fun v => assertK P v T ok K
  | .extract x i => o1 e x fun v => extractK v i K
  | .build t parts => opL e parts.toList [] fun ps => buildK P t ps K
  | .call { callee := .builtin .len, args := args, argTypes := ts } => (match args.toList, ts.toList with
    | [x], [t] => o1 e x fun v => lenK P t v K
    | _, _ => False)
  | .call { callee := .builtin .cap, args := args, argTypes := ts } => (match args.toList, ts.toList with
    | [x], [t] => o1 e x fun v => capK P t v K
    | _, _ => False)
  | .call { callee := .builtin .max, args := args, .. } => oL e args.toList [] fun vs => (match vs with | v :: r => maxK v r K | [] => False)
  | .call { callee := .builtin .min, args := args, .. } => oL e args.toList [] fun vs => (match vs with | v :: r => minK v r K | [] => False)
  | _ => False

/-! ### Operations that read memory -/
def ldC (c : Cs) (H : Heap) (a : Addr) (K : Value → Prop) : Prop :=
  match c with
  | .int k => ∃ n : Int, hcell H a = some (.int k n) ∧ K (.int k n)
  | .bool => ∃ b : Bool, hcell H a = some (.bool b) ∧ K (.bool b)
  | .str => ∃ s : ByteArray, hcell H a = some (.string s) ∧ K (.string s)
  | .ptr => ∃ p : Option Addr, hcell H a = some (.pointer p) ∧ K (.pointer p)
  | .slice => ∃ (p : Option Addr) (l c : Nat), hcell H a = some (.slice p l c) ∧ K (.slice p l c)
  | .raw => ∃ v : Value, hcell H a = some v ∧ K v
def ldCs (H : Heap) (a : Addr) : List Cs → Nat → List Value → (List Value → Prop) → Prop
  | [], _, acc, K => K acc
  | c :: cs, i, acc, K => ldC c H (a.add i) fun v => ldCs H a cs (i + 1) (acc ++ [v]) K
theorem ldC_out {c : Cs} {H : Heap} {a : Addr} {K : Value → Prop} (h : ldC c H a K) : ∃ v, hcell H a = some v ∧ K v := by
  cases c <;> simp only [ldC] at h
  · obtain ⟨n, h⟩ := h; exact ⟨_, h⟩
  · obtain ⟨n, h⟩ := h; exact ⟨_, h⟩
  · obtain ⟨n, h⟩ := h; exact ⟨_, h⟩
  · obtain ⟨n, h⟩ := h; exact ⟨_, h⟩
  · obtain ⟨p, l, c, h⟩ := h; exact ⟨_, h⟩
  · exact h
theorem ldCs_out {H : Heap} {a : Addr} : ∀ {l : List Cs} {i : Nat} {acc : List Value} {K : List Value → Prop}, ldCs H a l i acc K →
    ∃ vs, vs.length = l.length ∧ (∀ j v, vs[j]? = some v → hcell H (a.add (i + j)) = some v) ∧ K (acc ++ vs)
  | [], i, acc, K, h => ⟨[], rfl, by simp, by simpa [ldCs] using h⟩
  | c :: cs, i, acc, K, h => by
    obtain ⟨v, hv, h⟩ := ldC_out (show ldC c H (a.add i) _ from h)
    obtain ⟨vs, hl, hc, hk⟩ := ldCs_out h
    refine ⟨v :: vs, by simp [hl], ?_, by simpa using hk⟩
    intro j u hu
    cases j with
    | zero => simp only [List.getElem?_cons_zero, Option.some.injEq] at hu; subst hu; simpa using hv
    | succ j => have := hc j u (by simpa using hu); rw [show i + 1 + j = i + (j + 1) by omega] at this; exact this
def cellsAt (H : Heap) (p : Option Addr) (cs : List Value) : Prop :=
  match p with
  | none => cs = []
  | some a => ∀ j v, cs[j]? = some v → hcell H (a.add j) = some v
def bytesCells (s : ByteArray) : List Value := s.data.toList.map fun b => .int .u8 b.toNat
/-- The text of a row of bytes. -/
def BytesAt (H : Heap) (p : Option Addr) (l : Nat) (s : ByteArray) : Prop :=
  match p with
  | none => s = ByteArray.empty
  | some a => s.size = l ∧ cellsAt H (some a) (bytesCells s)
def evRead (P : Program) (o : Op) (e : Env) (H : Heap) (K : Value → Prop) : Prop :=
  match o with
  | .load t x => o1 e x fun v => (match v with
    | .pointer (some a) => (match P.underlying t with
      | none => False
      | some (.struct _) | some (.array _ _) =>
        bif Nat.beq (cellsSh P 8 t).length (sizeT P t) && (P.info? t).isSome then ldCs H a (cellsSh P 8 t) 0 [] fun vs => K (.agg vs.toArray) else False
      | some _ => ldC (cellSh P t) H a K)
    | _ => False)
  | .convert s d x => o1 e x fun v => (match P.underlying s, P.underlying d, v with
    | some (.slice b), some .string, .slice p l _ => (match P.underlying b with
      | some (.int .u8) => ∃ t : ByteArray, BytesAt H p l t ∧ K (.string t)
      | _ => False)
    | _, _, _ => False)
  | _ => False

/-! ### Operations that write memory, or call -/
def stC (H : Heap) (a : Addr) (v : Value) (K : Heap → Prop) : Prop :=
  oneW v ((∃ u, hcell H a = some u) ∧ hfrozen H a = false ∧ K (hset H a v))
def stCs (H : Heap) (a : Addr) : List Value → Nat → (Heap → Prop) → Prop
  | [], _, K => K H
  | v :: vs, i, K => stC H (a.add i) v fun H' => stCs H' a vs (i + 1) K
def hnew (H : Heap) (cs : Array Value) (t : TypeId) : Heap := H.push (.cells cs t)
def newAt (H : Heap) : Value := .pointer (some ⟨H.size, 0, none⟩)
/-- n elements, each the zero value. -/
def zerosOf (z : Value) (n : Nat) : Array Value := (Array.range (n * (cellsV z).length)).map fun i => (cellsV z).getD (i % (cellsV z).length) undef
/-- What is appended: its cells. -/
def appended (H : Heap) (size : Nat) (x : Value) (n : Nat) (new : List Value) : Prop :=
  match x with
  | .slice p l _ => n = l ∧ (match p with | none => l = 0 ∧ new = [] | some _ => new.length = l * size ∧ cellsAt H p new)
  | .string s => n = s.size ∧ size = 1 ∧ new = bytesCells s
  | _ => False
def appW (el size bytes : Nat) (z : Value) (p : Option Addr) (l c : Nat) (y : Value) (H : Heap) (K : Option Addr → Nat → Nat → Heap → Prop) : Prop :=
  ∃ (n : Nat) (new : List Value), appended H size y n new ∧
    ((l + n ≤ c ∧ (match p with
      | none => n = 0 ∧ K none l c H
      | some a => stCs H (a.add (l * size)) new 0 fun H' => K (some a) (l + n) c H')) ∨
     (c < l + n ∧ (l + n) * bytes ≤ 140737488355328 ∧ bytes ≠ 0 ∧ ∃ old : List Value, old.length = l * size ∧ cellsAt H p old ∧
      ∀ cap, l + n ≤ cap → K (some ⟨H.size, 0, none⟩) (l + n) cap (hnew H (old.toArray ++ new.toArray ++ zerosOf z (cap - (l + n))) el)))
def appV (P : Program) (t : TypeId) (x y : Value) (H : Heap) (K : Value → Heap → Prop) : Prop :=
  match P.underlying t with
  | some (.slice el) => (match x, P.info? el with
    | .slice p l c, some i => zeroT P el fun z => appW el i.size i.bytes z p l c y H fun p l c H' => K (.slice p l c) H'
    | _, _ => False)
  | _ => False
/-- The results of a function, by their types. -/
def resSh (P : Program) : List TypeId → List Value → (Value → Prop) → Prop
  | [], acc, K => K (.tuple acc.toArray)
  | t :: ts, acc, K => exSh (shOf P t) fun v => resSh P ts (acc ++ [v]) K
def resW (P : Program) (ts : List TypeId) (v : Value) (K : Value → Prop) : Prop :=
  match ts with
  | [t] => exSh (shOf P t) fun u => v = u ∧ K u
  | ts => resSh P ts [] fun u => v = u ∧ K u
def callW (P : Program) (f : FuncId) (args : Array Value) (H : Heap) (K : Value → Heap → Prop) : Prop :=
  match P.funcs[f]? with
  | some fn => bif fn.body.isSome then Fn P f args H fun v H' => resW P fn.resultTypes.toList v fun u => K u H' else False
  | none => False
/-- What is asked of the program as a whole. -/
def progOk (P : Program) : Bool := P.follows .mixedOrders && P.funcs.all fun fn => !(fn.name == "runtime.NumGoroutine")
def evWrite (P : Program) (o : Op) (e : Env) (H : Heap) (K : Value → Heap → Prop) : Prop :=
  match o with
  | .store t x y => o1 e x fun v => o1 e y fun u => (match v with
    | .pointer (some a) => (match isAggT P t with
      | true => (match u with
        | .agg cs => bif Nat.beq cs.size (sizeT P t) && (P.info? t).isSome then stCs H a cs.toList 0 fun H' => K undef H' else False
        | _ => False)
      | false => bif Nat.beq 1 (sizeT P t) && (P.info? t).isSome then stC H a u fun H' => K undef H' else False)
    | _ => False)
  | .alloc t => zeroT P t fun z => K (newAt H) (hnew H (cellsV z).toArray t)
  | .box t x => o1 e x fun v => (match v with
    | .agg cs => K (newAt H) (hnew H cs t)
    | _ => oneW v (K (newAt H) (hnew H #[v] t)))
  | .makeSlice t l c => o1 e l fun vl => o1 e c fun vc => (match P.underlying t, vl, vc with
    | some (.slice el), .int _ n, .int _ m => (match P.info? el with
      | some i => zeroT P el fun z => bif Nat.beq (cellsV z).length i.size && Nat.blt 0 i.bytes && Nat.blt 0 i.size then 0 ≤ n ∧ n ≤ m ∧ (i.bytes : Int) * m ≤ 281474976710656 ∧
          K (.slice (some ⟨H.size, 0, none⟩) n.toNat m.toNat) (hnew H (zerosOf z m.toNat) el) else False
      | none => False)
    | _, _, _ => False)
  | .buildSlice t len parts => opL e parts.toList [] fun ps => (match P.underlying t with
    | some (.slice el) => (match P.info? el with
      | some i => zeroT P el fun z => bif Nat.ble (len * i.size) 1024 && Nat.beq (cellsV z).length i.size then
          fillK (fun j => some (j * i.size, i.size, isAggT P el)) ((List.replicate len (cellsV z)).flatten) ps fun cs =>
            K (.slice (some ⟨H.size, 0, none⟩) len len) (hnew H cs.toArray el) else False
      | none => False)
    | _ => False)
  | .convert s d x => o1 e x fun v => (match P.underlying s, P.underlying d, v with
    | some _, some (.slice b), .string t => (match P.underlying b with
      | some (.int .u8) => ∀ cap, t.size ≤ cap → K (.slice (some ⟨H.size, 0, none⟩) t.size cap)
          (H.push (.cells ((bytesCells t).toArray ++ Array.replicate (cap - t.size) (.int .u8 0)) b (cap, cap + 1)))
      | _ => False)
    | _, _, _ => False)
  | .call { callee := .builtin .append, args := args, argTypes := ts } => (match args.toList, ts.toList with
    | [x, y], [t, u] => (match P.underlying u with
      | some (.int _) | none => False
      | some _ => o1 e x fun vx => o1 e y fun vy => appV P t vx vy H K)
    | _, _ => False)
  | .call { callee := .value (.func f), args := args, .. } => oL e args.toList [] fun vs => callW P f vs.toArray H K
  | _ => False

/-! ### Which of the three an operation is -/
inductive Kind where
  | pure | read | write
  deriving DecidableEq
def kindOf (P : Program) (o : Op) : Kind :=
  match o with
  | .load _ _ => .read
  | .convert s d _ => (match P.underlying s, P.underlying d with
    | some (.slice _), some .string => .read
    | some .string, some (.slice _) => .write
    | _, _ => .pure)
  | .store .. | .alloc _ | .box .. | .makeSlice .. | .buildSlice .. => .write
  | .call { callee := .builtin .append, .. } => .write
  | .call { callee := .value _, .. } => .write
  | _ => .pure

end Go.Ev
