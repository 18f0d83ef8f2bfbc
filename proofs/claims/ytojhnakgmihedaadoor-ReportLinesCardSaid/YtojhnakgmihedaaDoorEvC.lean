import Derived.Test.YtojhnakgmihedaaDoorEv
/-! The reckoning of regions and of code. -/
namespace Go.Ev

/-! ### What a loop, or two ways that meet, hand on: some slots, by their shapes -/
def CsT : Cs → Type
  | .int _ => Int
  | .bool => Bool
  | .str => ByteArray
  | .ptr => Option Addr
  | .slice => Option Addr × Nat × Nat
  | .raw => Value
def embC : (c : Cs) → CsT c → Value
  | .int k, n => .int k n
  | .bool, b => .bool b
  | .str, s => .string s
  | .ptr, p => .pointer p
  | .slice, x => .slice x.1 x.2.1 x.2.2
  | .raw, v => v
def xC : (c : Cs) → Value → (CsT c → Prop) → Prop
  | .int k, v, K => (match v with | .int k' n => if k' = k then K n else False | _ => False)
  | .bool, v, K => (match v with | .bool b => K b | _ => False)
  | .str, v, K => (match v with | .string s => K s | _ => False)
  | .ptr, v, K => (match v with | .pointer p => K p | _ => False)
  | .slice, v, K => (match v with | .slice p l c => K (p, l, c) | _ => False)
  | .raw, v, K => K v
def CsTs : List Cs → Type
  | [] => Unit
  | c :: cs => CsT c × CsTs cs
def embCs : (l : List Cs) → CsTs l → List Value
  | [], _ => []
  | c :: cs, x => embC c x.1 :: embCs cs x.2
def xCs : (l : List Cs) → List Value → (CsTs l → Prop) → Prop
  | [], vs, K => (match vs with | [] => K () | _ :: _ => False)
  | c :: cs, vs, K => (match vs with | v :: vs => xC c v fun x => xCs cs vs fun xs => K (x, xs) | [] => False)
def ShT : Sh → Type
  | .one c => CsT c
  | .agg l => CsTs l
def embS : (s : Sh) → ShT s → Value
  | .one c, x => embC c x
  | .agg l, x => .agg (embCs l x).toArray
def xS : (s : Sh) → Value → (ShT s → Prop) → Prop
  | .one c, v, K => xC c v K
  | .agg l, v, K => (match v with | .agg vs => xCs l vs.toList K | _ => False)
abbrev Live := List (Nat × Sh)
def LT : Live → Type
  | [] => Unit
  | (_, s) :: r => ShT s × LT r
def lvE : (l : Live) → LT l → Env → Env
  | [], _, e => e
  | (t, s) :: r, x, e => put (lvE r x.2 e) (some t) (embS s x.1)
def lvX : (l : Live) → Env → (LT l → Prop) → Prop
  | [], _, K => K ()
  | (t, s) :: r, e, K => (match e t with | some v => xS s v fun x => lvX r e fun xs => K (x, xs) | none => False)
def havoc (e : Env) (ds : List Nat) : Env := fun t => bif ds.any (Nat.beq t) then none else e t

/-- A loop: what holds at each round's head, with a number that falls. -/
def LoopW {S : Type} (b : (S → Heap → Prop) → S → Heap → Prop) (s₀ : S) (H₀ : Heap) : Prop :=
  ∃ I : Nat → S → Heap → Prop, (∃ n, I n s₀ H₀) ∧ ∀ n s H, I n s H → b (fun s' H' => ∃ m, m < n ∧ I m s' H') s H
/-- Two ways that meet: what holds where they meet. -/
def JoinW {S : Type} (f : (S → Heap → Prop) → Prop) (k : S → Heap → Prop) : Prop :=
  ∃ J : S → Heap → Prop, f J ∧ ∀ s H, J s H → k s H

/-! ### Regions -/
def wantedK (ops : Array Oper) (o : Oper) (e : Env) : Option Bool :=
  match o.guard with
  | none => some true
  | some (j, want) => match (ops[j]?).bind (·.dst) with
    | none => some false
    | some d => match e d with
      | some (.bool b) => some (b == want)
      | some _ => some false
      | none => none
def isGuard (ops : Array Oper) (i : Nat) : Bool := ops.any fun o => match o.guard with | some (j, _) => Nat.beq j i | none => false
def splitG (g : Bool) (v : Value) (K : Value → Prop) : Prop :=
  match g with
  | false => K v
  | true => match v with
    | .bool b => brW b (K (.bool true)) (K (.bool false))
    | v => K v
def evOps (P : Program) (ops : Array Oper) : List Oper → Nat → Env → Heap → (Env → Heap → Prop) → Prop
  | [], _, e, H, K => K e H
  | o :: rest, i, e, H, K =>
    match wantedK ops o e with
    | none => False
    | some false => evOps P ops rest (i + 1) (put e o.dst undef) H K
    | some true => match kindOf P o.op with
      | .pure => evPure P o.op e fun v => splitG (isGuard ops i) v fun v => evOps P ops rest (i + 1) (put e o.dst v) H K
      | .read => evRead P o.op e H fun v => splitG (isGuard ops i) v fun v => evOps P ops rest (i + 1) (put e o.dst v) H K
      | .write => evWrite P o.op e H fun v H' => splitG (isGuard ops i) v fun v => evOps P ops rest (i + 1) (put e o.dst v) H' K

/-- Which operations stand ahead of each, as a number's bits. -/
def edgesMask (o : Oper) (acc : List Nat) : Nat :=
  o.after.toList.foldl (fun s e => bif Region.binds .any e then s ||| 2 ^ e.on ||| acc.getD e.on 0 else s) 0
def befs : List Oper → List Nat → List Nat
  | [], acc => acc
  | o :: os, acc => befs os (acc ++ [edgesMask o acc])
def opTmps (o : Oper) : List Nat := o.op.operands.toList.filterMap fun | .tmp t => some t | _ => none
def guardTmp (ops : Array Oper) (o : Oper) : List Nat :=
  match o.guard with
  | some (j, _) => ((ops[j]?).bind (·.dst)).toList
  | none => []
/-- The slots that an operation names. -/
def usesOf (ops : Array Oper) (o : Oper) : List Nat := guardTmp ops o ++ opTmps o
def namesOf (ops : Array Oper) (o : Oper) : List Nat := o.dst.toList ++ usesOf ops o
/-- Do two operations touch one slot, so that their order counts? -/
def meets (ops : Array Oper) (x y : Oper) : Bool :=
  (match x.dst with | some d => (namesOf ops y).any (Nat.beq d) | none => false) ||
  (match y.dst with | some d => (namesOf ops x).any (Nat.beq d) | none => false)
/-- Is this an order that each order of the region can be brought to? -/
def ordOk (P : Program) (ops : Array Oper) (B : List Nat) : List Nat → Nat → Bool
  | [], _ => true
  | i :: rest, seen =>
    (match ops[i]? with
    | none => false
    | some o =>
      !(seen.testBit i) &&
      o.after.toList.all (fun e => !(Region.binds .any e) || seen.testBit e.on) &&
      (!(kindOf P o.op == .write) || rest.all fun j => (B.getD j 0).testBit i) &&
      rest.all fun j => match ops[j]? with
        | none => false
        | some y => !(meets ops o y) || (B.getD j 0).testBit i) &&
    ordOk P ops B rest (seen ||| 2 ^ i)
def drawOk (P : Program) (ops : Array Oper) (B ord : List Nat) : Bool :=
  (List.range ops.size).all (fun i => ord.any (Nat.beq i)) && ordOk P ops B ord 0
/-- The same, but that behind the write c one other write may stand whose order to c is open. -/
def ordOkX (P : Program) (ops : Array Oper) (B : List Nat) (X : Nat → Bool) : List Nat → Nat → Bool
  | [], _ => true
  | i :: rest, seen =>
    (match ops[i]? with
    | none => false
    | some o =>
      !(seen.testBit i) &&
      o.after.toList.all (fun e => !(Region.binds .any e) || seen.testBit e.on) &&
      (X i || (!(kindOf P o.op == .write) || rest.all fun j => (B.getD j 0).testBit i)) &&
      rest.all fun j => match ops[j]? with
        | none => false
        | some y => !(meets ops o y) || (B.getD j 0).testBit i) &&
    ordOkX P ops B X rest (seen ||| 2 ^ i)
def allIn (ops : Array Oper) (l : List Nat) : Bool := (List.range ops.size).all fun i => l.any (Nat.beq i)
def splitTwo : List Nat → List Nat → List Nat × List Nat × List Nat
  | a :: l, b :: m => bif Nat.beq a b then (match splitTwo l m with | (p, x, y) => (a :: p, x, y)) else ([], a :: l, b :: m)
  | l, m => ([], l, m)
def plainOp (P : Program) (ops : Array Oper) (i : Nat) : Bool := match ops[i]? with | some o => kindOf P o.op == .pure | none => false
def bareWrite (P : Program) (ops : Array Oper) (i : Nat) : Bool := match ops[i]? with | some o => kindOf P o.op == .write && o.guard.isNone | none => false
def twoOk (P : Program) (ops : Array Oper) (B : List Nat) (l m p : List Nat) : List Nat → List Nat → Bool
  | c :: r, d :: _ => allIn ops l && allIn ops m && ordOkX P ops B (Nat.beq c) l 0 && ordOkX P ops B (Nat.beq d) m 0 && p.all (plainOp P ops) && bareWrite P ops c && bareWrite P ops d &&
      r.all fun j => Nat.beq j d || (B.getD j 0).testBit c || (B.getD j 0).testBit d
  | _, _ => false
def stabsK (P : Program) (ops : Array Oper) (m : Nat) (H : Heap) : List (Nat × Env × Value) → Prop → Prop
  | [], A => A
  | (r, e, v) :: D, A => match m.testBit r with
    | true => stabsK P ops m H D A
    | false => (match ops[r]? with | some o => evRead P o.op e H (fun u => u = v) | none => False) ∧ stabsK P ops m H D A
def evD (P : Program) (ops : Array Oper) (B : List Nat) : List Nat → Env → Heap → List (Nat × Env × Value) → (Env → Heap → Prop) → Prop
  | [], e, H, _, K => K e H
  | i :: rest, e, H, D, K =>
    match ops[i]? with
    | none => False
    | some o => match wantedK ops o e with
      | none => False
      | some false => evD P ops B rest (put e o.dst undef) H D K
      | some true => match kindOf P o.op with
        | .pure => evPure P o.op e fun v => splitG (isGuard ops i) v fun v => evD P ops B rest (put e o.dst v) H D K
        | .read => evRead P o.op e H fun v => splitG (isGuard ops i) v fun v => evD P ops B rest (put e o.dst v) H (D ++ [(i, e, v)]) K
        | .write => evWrite P o.op e H fun v H' => stabsK P ops (B.getD i 0) H' D (splitG (isGuard ops i) v fun v => evD P ops B rest (put e o.dst v) H' D K)

/-- Two writes whose order is open, each once ahead of the other. -/
def evTwo (P : Program) (ops : Array Oper) (B l m : List Nat) (e : Env) (H : Heap) (K : Env → Heap → Prop) : Prop :=
  match splitTwo l m with
  | (p, x, y) => bif twoOk P ops B l m p x y then evD P ops B p e H [] (fun e' H' => evD P ops B x e' H' [] K ∧ evD P ops B y e' H' [] K) else False

/-! ### Code -/
structure Ks where
  n : Env → Heap → Prop
  x : Nat → Env → Heap → Prop
  r : Env → Heap → Prop
/-- What is told beside the code: the order of a region, the slots that a loop or a meeting hands on (by the first region behind it). -/
structure Ann where
  ord : Nat → List Nat
  loop : Nat → Option Live
  join : Nat → Option Live
def headId : Code → Option Nat
  | .region id _ _ => some id
  | .seq a b => (match headId a with | some i => some i | none => headId b)
  | .cond _ a b => (match headId a with | some i => some i | none => headId b)
  | .block _ a => headId a
  | .loop a => headId a
  | _ => none
def dstsC : Code → List Nat
  | .region _ ops _ => ops.toList.filterMap (·.dst)
  | .seq a b => dstsC a ++ dstsC b
  | .cond _ a b => dstsC a ++ dstsC b
  | .block _ a => dstsC a
  | .loop a => dstsC a
  | _ => []
def dstsOk (N : Nat) (ops : Array Oper) : Bool := ops.all fun o => match o.dst with | some d => Nat.blt d N | none => true
def joinOf (A : Ann) (y : Code) : Option Live := match headId y with | some i => A.join i | none => none
def evC (P : Program) (N : Nat) (A : Ann) : Code → Env → Ks → Heap → Prop
  | .skip, e, k, H => k.n e H
  | .region id ops draw, e, k, H =>
    bif dstsOk N ops then (match draw with
      | false => evOps P ops ops.toList 0 e H k.n
      | true => bif drawOk P ops (befs ops.toList []) (A.ord id) then evD P ops (befs ops.toList []) (A.ord id) e H [] k.n else
        evTwo P ops (befs ops.toList []) ((A.ord id).take ops.size) ((A.ord id).drop ops.size) e H k.n) else False
  | .seq x y, e, k, H => (match joinOf A y with
    | none => evC P N A x e { k with n := fun e' H' => evC P N A y e' k H' } H
    | some l => JoinW (S := LT l) (fun J => evC P N A x e { k with n := fun e' H' => lvX l e' fun s => J s H' } H)
        (fun s H' => evC P N A y (lvE l s (havoc e (dstsC x))) k H'))
  | .cond c x y, e, k, H => o1 e c fun v => (match v with
    | .bool b => brW b (evC P N A x e k H) (evC P N A y e k H)
    | _ => False)
  | .block id x, e, k, H => evC P N A x e { k with x := fun i e' H' => bif Nat.beq i id then k.n e' H' else k.x i e' H' } H
  | .loop x, e, k, H => (match headId x with
    | none => False
    | some i => (match A.loop i with
      | none => False
      | some l => lvX l e fun s₀ => LoopW (S := LT l) (fun L s H' => evC P N A x (lvE l s (havoc e (dstsC x))) { k with n := fun e' H'' => lvX l e' fun s' => L s' H'' } H') s₀ H))
  | .exit id, e, k, H => k.x id e H
  | .ret, e, k, H => k.r e H
  | _, _, _, _ => False

/-! ### Functions -/
def args0 : List Value → Nat → Env
  | [], _ => fun _ => none
  | v :: vs, i => put (args0 vs (i + 1)) (some i) v
/-- The frame as a call begins: the arguments, then slots that hold nothing. -/
def env0 (N : Nat) (args : List Value) : Env := fun t => bif Nat.blt t args.length then args[t]? else bif Nat.blt t N then some undef else none
/-- A variable that is read. -/
def ldV (P : Program) (t : TypeId) (a : Addr) (H : Heap) (K : Value → Prop) : Prop :=
  match P.underlying t with
  | none => False
  | some (.struct _) | some (.array _ _) =>
    bif Nat.beq (cellsSh P 8 t).length (sizeT P t) && (P.info? t).isSome then ldCs H a (cellsSh P 8 t) 0 [] fun vs => K (.agg vs.toArray) else False
  | some _ => ldC (cellSh P t) H a K
def resK (P : Program) (H : Heap) (e : Env) : List ResultVar → List Value → (List Value → Prop) → Prop
  | [], acc, K => K acc
  | .tmp t :: r, acc, K => (match e t with | some v => resK P H e r (acc ++ [v]) K | none => False)
  | .cell a t :: r, acc, K => (match e a with | some (.pointer (some ad)) => ldV P t ad H fun v => resK P H e r (acc ++ [v]) K | _ => False)
def retK (P : Program) (fn : Func) (R : Value → Heap → Prop) (e : Env) (H : Heap) : Prop :=
  resK P H e fn.results.toList [] fun vs => (match vs with | [v] => R v H | vs => R (.tuple vs.toArray) H)
def evF (P : Program) (A : Ann) (fn : Func) (args : List Value) (R : Value → Heap → Prop) (H : Heap) : Prop :=
  match fn.body with
  | none => False
  | some c => bif Nat.ble args.length fn.ntmps then evC P fn.ntmps A c (env0 fn.ntmps args) { n := retK P fn R, x := fun _ _ _ => False, r := retK P fn R } H else False
end Go.Ev
