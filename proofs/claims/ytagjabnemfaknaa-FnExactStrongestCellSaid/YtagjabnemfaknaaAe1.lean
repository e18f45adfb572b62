/-
  A small evaluator of the program's functions over plain data (no world, no tape: one NaN stands for all; the blocks that a call makes are a list): its definitions, and how a function of the program is turned into its form. That what it gives is what the program's own run gives is proved in the next text.
-/
import Derived.WalkKit
import Derived.WalkLawsBesides
namespace Go.AE

/-- The NaN that stands for all. -/
def qn : FloatKind → Nat
  | .f32 => 0x7fc00000
  | .f64 => 0x7ff8000000000000
def isn (k : FloatKind) (b : Nat) : Bool := (k.decode b).isNaN
def cn (k : FloatKind) (b : Nat) : Nat := if isn k b then qn k else b

abbrev H := List (List Value)
abbrev Fr := Nat → Value
def upd (fr : Fr) (t : Nat) (v : Value) : Fr := fun x => if x = t then v else fr x

inductive Cv where
  | toInt (k : IntKind)
  | toFloat (k : FloatKind)

inductive AOp where
  | mov (x : Operand)
  | pick (c a b : Operand)
  | alloc (z : List Value)
  | box (x : Operand)
  | build (z : List Value) (parts : List (Nat × Nat × Operand))
  | bslice (z : List Value) (len : Nat) (parts : List (Nat × Nat × Operand))
  | make (bytes : Nat) (z : List Value) (x : Operand)
  | load (n : Option Nat) (x : Operand)
  | store (n : Nat) (x v : Operand)
  | nilck (x : Operand)
  | bin (op : BinOp) (x y : Operand)
  | eqb (ne : Bool) (x y : Operand)
  | un (op : UnOp) (x : Operand)
  | conv (c : Cv) (x : Operand)
  | fieldA (off : Nat) (x : Operand)
  | idxA (len size : Nat) (x i : Operand)
  | idxS (size : Nat) (x i : Operand)
  | idxV (len size : Nat) (agg : Bool) (x i : Operand)
  | fieldV (off size : Nat) (agg : Bool) (x : Operand)
  | extract (i : Nat) (x : Operand)
  | len (str : Bool) (x : Operand)
  | cplx (x y : Operand)
  | re (x : Operand)
  | im (x : Operand)
  | mm (isMax : Bool) (xs : List Operand)
  | append (size : Nat) (z : List Value) (bytes : Nat) (s x : Operand)
  | copy (size : Nat) (d x : Operand)
  | slice (size : Nat) (x : Operand) (lo hi : Option Operand)
  | sliceA (len size : Nat) (x : Operand) (lo hi : Option Operand)
  | call (f : Operand) (args : List Operand)

structure AOper where
  dst : Option Nat
  guard : Option (Nat × Bool)
  op : AOp

inductive ACode where
  | skip
  | ops (l : List AOper)
  | draw (a q e : List AOper)
  | seq (a b : ACode)
  | cond (c : Operand) (a b : ACode)
  | block (id : Nat) (c : ACode)
  | loop (c : ACode)
  | exit (id : Nat)
  | ret

inductive ARes where
  | tmp (t : Nat)
  | cell (t : Nat) (n : Option Nat)

inductive Ext where
  | f32bits | f32from | f64bits | f64from | rte | floor | sqrt

inductive AFn where
  | ext (e : Ext)
  | fn (nparams ntmps : Nat) (results : List ARes) (body : ACode)

inductive X where
  | nrm
  | brk (id : Nat)
  | ret

structure St where
  fr : Fr
  h : H
  pw : Nat
  sw : Nat

abbrev Ora := Nat → List Value → H → Option (Value × H × Nat × Nat)

def av (fr : Fr) : Operand → Value
  | .tmp t => fr t
  | .const v => v
  | .global g => .pointer (some ⟨g, 0, some 1⟩)
  | .func f => .func (.func f) #[] #[]

def cellsL : Value → List Value
  | .agg cs => cs.toList
  | v => [v]

/-- A value of one cell. -/
def one : Value → Bool
  | .agg _ | .tuple _ => false
  | _ => true

/-- No address in it. -/
def free1 : Value → Bool
  | .pointer (some _) | .slice (some _) _ _ | .agg _ | .tuple _ | .map _ | .chan _ | .func _ _ _ => false
  | .iface _ v => match v with
    | .bool _ | .int _ _ | .float _ _ | .string _ => true
    | _ => false
  | _ => true
def free0 : Value → Bool
  | .agg cs => cs.toList.all free1
  | v => free1 v
def vfree : Value → Bool
  | .tuple vs => vs.toList.all free0
  | v => free0 v

def pureOf {α : Type} : Sem α → Option α
  | .pure a => some a
  | _ => none

def fbits (op : BinOp) (k : FloatKind) (x y : Nat) : Option Nat :=
  match op with
  | .add => k.format.add x y
  | .sub => k.format.sub x y
  | .mul => k.format.mul x y
  | .quo => k.format.div x y
  | _ => none
/-- '+', '-', '*', '/' on floats. -/
def far (op : BinOp) (k : FloatKind) (x y : Nat) : Nat := (fbits op k x y).getD (qn k)

def isArith : BinOp → Bool
  | .add | .sub | .mul | .quo => true
  | _ => false
def isAddSub : BinOp → Bool
  | .add | .sub => true
  | _ => false
def isCmp : BinOp → Bool
  | .eql | .neq | .lss | .leq | .gtr | .geq => true
  | _ => false

def binV (op : BinOp) : Value → Value → Option Value
  | .int k a, .int k' b => pureOf (binOp op 0 (.int k a) (.int k' b))
  | .float k a, .float k' b =>
    if k = k' then
      if isArith op then some (.float k (far op k a b)) else pureOf (Op.floatCmp op k a b)
    else none
  | .string a, .string b => pureOf (Op.stringOp op a b)
  | .complex k a b, .complex k' c d =>
    if k = k' then
      match op with
      | .eql => some (.bool (k.format.order a c == some .eq && k.format.order b d == some .eq))
      | .neq => some (.bool !(k.format.order a c == some .eq && k.format.order b d == some .eq))
      | _ => if isAddSub op then some (.complex k (far op k a c) (far op k b d)) else none
    else none
  | _, _ => none

def unV (op : UnOp) : Value → Option Value
  | .int k n => pureOf (Op.unary op (.int k n))
  | .bool b => match op with | .not => some (.bool !b) | _ => none
  | .float k b => match op with | .neg => some (.float k (cn k (Op.negFloat k b))) | _ => none
  | .complex k a b => match op with | .neg => some (.complex k (cn k (Op.negFloat k a)) (cn k (Op.negFloat k b))) | _ => none
  | _ => none

def ffV (src : FloatKind) (b : Nat) (dst : FloatKind) : Option Nat :=
  if src = dst then some b else
  match src.decode b with
  | .nan _ _ => some (qn dst)
  | .infinity s => some (dst.encode (.infinity s))
  | .number s m e => if (dst.decode (dst.encode (.number s m e))).isInfinity then none else some (dst.encode (.number s m e))

def cvV : Cv → Value → Option Value
  | .toInt k, .int _ n => some (.int k (k.wrap n))
  | .toInt k, .float s b =>
    match (s.decode b).toInt .zero with
    | some n => if k.min ≤ n ∧ n ≤ k.max then some (.int k n) else none
    | none => none
  | .toFloat k, .int _ n => some (.float k (k.nearest n))
  | .toFloat k, .float s b => (ffV s b k).map (.float k)
  | _, _ => none

/-- min and max of two. -/
def mm2 (isMax : Bool) : Value → Value → Option Value
  | .int k x, .int _ y => some (.int k (if isMax then (if y > x then y else x) else (if y < x then y else x)))
  | .float k x, .float k' y => if k = k' then
      match k.format.order x y with
      | none => some (.float k (qn k))
      | some .lt => some (.float k (if isMax then y else x))
      | some .gt => some (.float k (if isMax then x else y))
      | some .eq => some (.float k (if isMax then (if (k.decode x).neg then y else x) else (if (k.decode x).neg then x else y)))
    else none
  | _, _ => none
def mmL (isMax : Bool) : Value → List Value → Option Value
  | x, [] => some x
  | x, y :: l => (mm2 isMax x y).bind fun z => mmL isMax z l

def extV : Ext → List Value → Option Value
  | .f32bits, [.float .f32 b] => if isn .f32 b then none else some (.int .u32 b)
  | .f64bits, [.float .f64 b] => if isn .f64 b then none else some (.int .u64 b)
  | .f32from, [.int .u32 n] => some (.float .f32 (cn .f32 n.toNat))
  | .f64from, [.int .u64 n] => some (.float .f64 (cn .f64 n.toNat))
  | .rte, [.float .f64 b] => some (.float .f64 (if isn .f64 b then qn .f64 else FloatKind.f64.encode ((FloatKind.f64.decode b).integral .even)))
  | .floor, [.float .f64 b] => some (.float .f64 (if isn .f64 b then qn .f64 else FloatKind.f64.encode ((FloatKind.f64.decode b).integral .down)))
  | .sqrt, [.float .f64 b] => some (.float .f64 ((FloatKind.f64.format.sqrt b).getD (qn .f64)))
  | _, _ => none

def addA (q : Addr) (n : Nat) : Addr := ⟨q.block, q.off + n, q.spot⟩

/-- The block of an address: one of the call's own, or one that came in. -/
def blk (R h : H) (q : Addr) : Option (List Value) :=
  match q.spot with
  | none => h[q.block]?
  | some 0 => R[q.block]?
  | _ => none

def rd (R h : H) (q : Addr) (n : Nat) : Option (List Value) :=
  (blk R h q).bind fun cs => if q.off + n ≤ cs.length then some ((cs.drop q.off).take n) else none

def splice (cs : List Value) (off : Nat) (vs : List Value) : List Value := cs.take off ++ (vs ++ cs.drop (off + vs.length))

def wr (h : H) (q : Addr) (vs : List Value) : Option H :=
  match q.spot with
  | none => (h[q.block]?).bind fun cs => if q.off + vs.length ≤ cs.length then some (h.set q.block (splice cs q.off vs)) else none
  | _ => none

def fillL (fr : Fr) (z : List Value) : List (Nat × Nat × Operand) → Option (List Value)
  | [] => some z
  | (off, size, x) :: l =>
    if (cellsL (av fr x)).length = size ∧ off + size ≤ z.length ∧ (cellsL (av fr x)).all one then fillL fr (splice z off (cellsL (av fr x))) l else none

def new (s : St) (cs : List Value) : St := { s with h := s.h ++ [cs] }
def here (s : St) : Addr := ⟨s.h.length, 0, none⟩

/-- A bound of a slice expression: at most so many. -/
def bnd (y : Nat) : Value → Option Nat
  | .int _ i => if 0 ≤ i ∧ i ≤ y then some i.toNat else none
  | _ => none
def bndO (fr : Fr) (y d : Nat) : Option Operand → Option Nat
  | none => some d
  | some x => bnd y (av fr x)

def calleeOf : Value → Option Nat
  | .func (.func g) first captured => if first.size = 0 ∧ captured.size = 0 then some g else none
  | _ => none

def evOp (F : Ora) (R : H) : AOp → St → Option (Value × St)
  | .mov x, s => some (av s.fr x, s)
  | .pick c a b, s => match av s.fr c with
    | .bool t => some (if t then av s.fr a else av s.fr b, s)
    | _ => none
  | .alloc z, s => some (.pointer (some (here s)), new s z)
  | .box x, s => match av s.fr x with
    | .tuple _ => none
    | v => some (.pointer (some (here s)), new s (cellsL v))
  | .build z parts, s => (fillL s.fr z parts).map fun cs => (.agg cs.toArray, s)
  | .bslice z n parts, s => (fillL s.fr z parts).map fun cs => (.slice (some (here s)) n n, new s cs)
  | .make bytes z x, s => match av s.fr x with
    | .int _ n => if 0 ≤ n ∧ bytes * n ≤ 281474976710656 then some (.slice (some (here s)) n.toNat n.toNat, new s (List.replicate n.toNat z).flatten) else none
    | _ => none
  | .load none x, s => match av s.fr x with
    | .pointer (some q) => (rd R s.h q 1).bind fun l => (l[0]?).map fun v => (v, s)
    | _ => none
  | .load (some n) x, s => match av s.fr x with
    | .pointer (some q) => (rd R s.h q n).map fun l => (.agg l.toArray, s)
    | _ => none
  | .store n x v, s => match av s.fr x with
    | .pointer (some q) =>
      let cs := cellsL (av s.fr v)
      if cs.length = n ∧ cs.all one then
        (wr s.h q cs).map fun h => (undef, { s with h, sw := min s.sw q.block, pw := if cs.all free1 then s.pw else min s.pw q.block })
      else none
    | _ => none
  | .nilck x, s => match av s.fr x with
    | .pointer (some q) => some (.pointer (some q), s)
    | _ => none
  | .bin op x y, s => (binV op (av s.fr x) (av s.fr y)).map fun v => (v, s)
  | .eqb ne x y, s => match av s.fr x, av s.fr y with
    | .bool a, .bool b => some (.bool (if ne then !(a == b) else a == b), s)
    | _, _ => none
  | .un op x, s => (unV op (av s.fr x)).map fun v => (v, s)
  | .conv c x, s => (cvV c (av s.fr x)).map fun v => (v, s)
  | .fieldA off x, s => match av s.fr x with
    | .pointer (some q) => some (.pointer (some (addA q off)), s)
    | _ => none
  | .idxA len size x i, s => match av s.fr x, av s.fr i with
    | .pointer (some q), .int _ n => if 0 ≤ n ∧ n < len then some (.pointer (some (addA q (n.toNat * size))), s) else none
    | _, _ => none
  | .idxS size x i, s => match av s.fr x, av s.fr i with
    | .slice (some q) len _, .int _ n => if 0 ≤ n ∧ n < len then some (.pointer (some (addA q (n.toNat * size))), s) else none
    | _, _ => none
  | .idxV len size agg x i, s => match av s.fr x, av s.fr i with
    | .agg cs, .int _ n => if 0 ≤ n ∧ n < len ∧ (n.toNat + 1) * size ≤ cs.size then
        (if agg then some (.agg ((cs.toList.drop (n.toNat * size)).take size).toArray, s) else (cs.toList[n.toNat * size]?).map fun v => (v, s)) else none
    | _, _ => none
  | .fieldV off size agg x, s => match av s.fr x with
    | .agg cs => if off + size ≤ cs.size then
        (if agg then some (.agg ((cs.toList.drop off).take size).toArray, s) else (cs.toList[off]?).map fun v => (v, s)) else none
    | _ => none
  | .extract i x, s => match av s.fr x with
    | .tuple vs => (vs[i]?).map fun v => (v, s)
    | _ => none
  | .len false x, s => match av s.fr x with
    | .slice _ n _ => some (.int .i64 n, s)
    | _ => none
  | .len true x, s => match av s.fr x with
    | .string b => some (.int .i64 b.size, s)
    | _ => none
  | .cplx x y, s => match av s.fr x, av s.fr y with
    | .float k a, .float k' b => if k = k' then some (.complex k a b, s) else none
    | _, _ => none
  | .re x, s => match av s.fr x with
    | .complex k a _ => some (.float k a, s)
    | _ => none
  | .im x, s => match av s.fr x with
    | .complex k _ b => some (.float k b, s)
    | _ => none
  | .mm b xs, s => match xs with
    | [] => none
    | x :: l => (mmL b (av s.fr x) (l.map (av s.fr))).map fun v => (v, s)
  | .append .., _ => none
  | .copy .., _ => none
  | .slice size x lo hi, s => match av s.fr x with
    | .slice a len cap =>
      (bndO s.fr cap len hi).bind fun h => (bndO s.fr h 0 lo).map fun l =>
        (.slice (if cap = l then a else a.map (addA · (l * size))) (h - l) (cap - l), s)
    | _ => none
  | .sliceA n size x lo hi, s => match av s.fr x with
    | .pointer (some q) =>
      (bndO s.fr n n hi).bind fun h => (bndO s.fr h 0 lo).map fun l =>
        (.slice (some (if n = l then q else addA q (l * size))) (h - l) (n - l), s)
    | _ => none
  | .call f args, s => match calleeOf (av s.fr f) with
    | some g => (F g (args.map (av s.fr)) s.h).map fun (v, h, pw, sw) => (v, { s with h, pw := min s.pw pw, sw := min s.sw sw })
    | none => none

def gok (fr : Fr) : Option (Nat × Bool) → Bool
  | none => true
  | some (t, want) => match fr t with
    | .bool b => b == want
    | _ => false

def put (s : St) (d : Option Nat) (v : Value) : St :=
  match d with
  | some t => { s with fr := upd s.fr t v }
  | none => s

def evO (F : Ora) (R : H) : List AOper → St → Option St
  | [], s => some s
  | o :: l, s =>
    if gok s.fr o.guard then (evOp F R o.op s).bind fun (v, s1) => evO F R l (put s1 o.dst v)
    else evO F R l (put s o.dst undef)

/-- Calls that leave what there is, and hand back no address. -/
def quietF (F : Ora) : Ora := fun f args h =>
  (F f args h).bind fun (v, _, pw, sw) => if h.length ≤ pw ∧ h.length ≤ sw ∧ vfree v then some (v, h, pw, sw) else none

def resV (R : H) (fr : Fr) (h : H) : ARes → Option Value
  | .tmp t => some (fr t)
  | .cell t n => match fr t with
    | .pointer (some q) => match n with
      | none => (rd R h q 1).bind fun l => l[0]?
      | some n => (rd R h q n).map fun l => .agg l.toArray
    | _ => none
def resL (R : H) (fr : Fr) (h : H) : List ARes → Option (List Value)
  | [] => some []
  | r :: l => (resV R fr h r).bind fun v => (resL R fr h l).map fun vs => v :: vs

def finish (L : Nat) (v : Value) (s : St) : Value × H × Nat × Nat :=
  if vfree v ∧ L ≤ s.pw then (v, s.h.take L, s.pw, s.sw) else (v, s.h, s.pw, s.sw)

def noTup : Value → Bool
  | .tuple _ => false
  | _ => true
def oneOrTuple : List Value → Option Value
  | [v] => some v
  | vs => if vs.all noTup then some (.tuple vs.toArray) else none

def stC (C : ACode → St → Option (X × St)) (F : Ora) (R : H) : ACode → St → Option (X × St)
  | .skip, s => some (.nrm, s)
  | .ops l, s => (evO F R l s).map fun s => (.nrm, s)
  | .draw a q e, s => (evO F R a s).bind fun s => (evO (quietF F) R q s).bind fun s => (evO (quietF F) R e s).map fun s => (.nrm, s)
  | .seq a b, s => (C a s).bind fun (x, s1) => match x with
    | .nrm => C b s1
    | x => some (x, s1)
  | .cond c a b, s => match av s.fr c with
    | .bool t => C (if t then a else b) s
    | _ => none
  | .block id c, s => (C c s).map fun (x, s1) => match x with
    | .brk id' => if id' = id then (.nrm, s1) else (.brk id', s1)
    | x => (x, s1)
  | .loop c, s => (C c s).bind fun (x, s1) => match x with
    | .nrm => C (.loop c) s1
    | x => some (x, s1)
  | .exit id, s => some (.brk id, s)
  | .ret, s => some (.ret, s)

def stF (tab : Nat → Option AFn) (C : ACode → St → Option (X × St)) (R : H) : Ora := fun f args h =>
  match tab f with
  | some (.ext e) => (extV e args).map fun v => (v, h, h.length, h.length)
  | some (.fn np _ res body) =>
    if args.length = np then
      (C body ⟨fun t => args.getD t undef, h, h.length, h.length⟩).bind fun (x, s) => match x with
        | .brk _ => none
        | _ => (resL R s.fr s.h res).bind fun vs => (oneOrTuple vs).map fun v => finish h.length v s
    else none
  | none => none

/-- With so much fuel. -/
def ev (tab : Nat → Option AFn) (R : H) : Nat → (ACode → St → Option (X × St)) × Ora
  | 0 => (fun _ _ => none, fun _ _ _ => none)
  | n + 1 => (stC (ev tab R n).1 (ev tab R n).2 R, stF tab (ev tab R n).1 R)

/-! ### A function of the program in this form -/

/-- Constants that stand for themselves. -/
def okC : Value → Bool
  | .bool _ | .int _ _ | .string _ | .pointer none | .slice none _ _ | .nilIface | .nilFunc => true
  | .float k b => !isn k b
  | .complex k a b => !isn k a && !isn k b
  | _ => false
def trX : Operand → Option Operand
  | .tmp t => some (.tmp t)
  | .const v => if okC v then some (.const v) else none
  | .func f => some (.func f)
  | .global _ => none
def trXs : List Operand → Option (List Operand)
  | [] => some []
  | x :: l => (trX x).bind fun y => (trXs l).map (y :: ·)
def trXO : Option Operand → Option (Option Operand)
  | none => some none
  | some x => (trX x).map some

def zeroL (P : Program) (t : TypeId) : Option (List Value) :=
  (P.info? t).bind fun i => i.zero.bind fun z =>
    let cs := cellsL z
    if cs.all okC && cs.length == i.size then some cs else none
/-- 'some none': one cell; 'some (some n)': an aggregate of n cells. -/
def shapeL (P : Program) (t : TypeId) : Option (Option Nat) :=
  (P.info? t).bind fun i => match P.underlying t with
    | some (.struct _) | some (.array _ _) => some (some i.size)
    | some _ => some none
    | none => none
def sizeL (P : Program) (t : TypeId) : Option Nat := (P.info? t).map (·.size)
def fieldL (P : Program) (t : TypeId) (i : Nat) : Option (Nat × Nat × Bool) :=
  match P.underlying t with
  | some (.struct fs) => (fs[i]?).bind fun f => (sizeL P f.type).bind fun n => (shapeL P f.type).map fun sh => (f.offset, n, sh.isSome)
  | _ => none
def trParts (place : Nat → Option (Nat × Nat)) : List (Nat × Operand) → Option (List (Nat × Nat × Operand))
  | [] => some []
  | (i, x) :: l => (place i).bind fun (off, size) => (trX x).bind fun y => (trParts place l).map ((off, size, y) :: ·)

def trOp (P : Program) (o : Oper) : Option AOp :=
  match o.op with
  | .move x | .assign x => (trX x).map .mov
  | .pick c a b => (trX c).bind fun c => (trX a).bind fun a => (trX b).map fun b => .pick c a b
  | .alloc t => (zeroL P t).map .alloc
  | .box _ x => (trX x).map .box
  | .build t parts => match P.underlying t with
    | some (.struct fs) => (zeroL P t).bind fun z => match fs.toList.mapM (fun f => (P.info? f.type).map fun i => (f.offset, i.size)) with
      | some places => (trParts (fun i => places.toArray[i]?) parts.toList).map (.build z)
      | none => none
    | some (.array _ e) => (zeroL P t).bind fun z => (P.info? e).bind fun ie => (trParts (fun i => some (i * ie.size, ie.size)) parts.toList).map (.build z)
    | _ => none
  | .buildSlice t len parts => match P.underlying t with
    | some (.slice e) => (zeroL P e).bind fun z => (sizeL P e).bind fun n =>
        if len * n ≤ 65536 ∧ 0 < n then (trParts (fun i => some (i * n, n)) parts.toList).map (.bslice ((List.replicate len z).flatten) len) else none
    | _ => none
  | .makeSlice t len cap => match P.underlying t with
    | some (.slice e) => (zeroL P e).bind fun z => (P.info? e).bind fun i => match len, cap with
      | .tmp a, .tmp b => if a = b ∧ 0 < i.bytes ∧ 0 < z.length then some (.make i.bytes z (.tmp a)) else none
      | _, _ => none
    | _ => none
  | .load t x => (shapeL P t).bind fun n => (trX x).map (.load n)
  | .store t x v => (sizeL P t).bind fun n => (trX x).bind fun x => (trX v).map fun v => .store n x v
  | .nilCheck x => (trX x).map .nilck
  | .binOp op t x y _ => (trX x).bind fun x => (trX y).bind fun y => match P.underlying t with
    | some .bool => match op with
      | .eql => some (.eqb false x y)
      | .neq => some (.eqb true x y)
      | _ => none
    | some (.int _) | some (.float _) | some (.complex _) | some .string => some (.bin op x y)
    | _ => none
  | .unOp op _ x => (trX x).map (.un op)
  | .convert src dst x => (trX x).bind fun x => match P.underlying src, P.underlying dst with
    | some (.int _), some (.int k) | some (.float _), some (.int k) => some (.conv (.toInt k) x)
    | some (.int _), some (.float k) | some (.float _), some (.float k) => some (.conv (.toFloat k) x)
    | _, _ => none
  | .fieldAddr t x i => (fieldL P t i).bind fun (off, n, _) => if n = 0 then none else (trX x).map (.fieldA off)
  | .field t x i => (fieldL P t i).bind fun (off, n, agg) => (trX x).map (.fieldV off n agg)
  | .indexAddr t x i => (trX x).bind fun x => (trX i).bind fun i => match P.underlying t with
    | some (.array len e) => (sizeL P e).map fun n => .idxA len n x i
    | some (.slice e) => (sizeL P e).map fun n => .idxS n x i
    | _ => none
  | .index t x i => (trX x).bind fun x => (trX i).bind fun i => match P.underlying t with
    | some (.array len e) => (sizeL P e).bind fun n => (shapeL P e).map fun sh => .idxV len n sh.isSome x i
    | _ => none
  | .extract x i => (trX x).map (.extract i)
  | .slice t x lo hi none => (trX x).bind fun x => (trXO lo).bind fun lo => (trXO hi).bind fun hi => match P.underlying t with
    | some (.slice e) => (sizeL P e).map fun n => .slice n x lo hi
    | some (.array len e) => (sizeL P e).map fun n => .sliceA len n x lo hi
    | _ => none
  | .call c => match c.callee with
    | .value f => (trX f).bind fun f => (trXs c.args.toList).map (.call f)
    | .builtin b => (trXs c.args.toList).bind fun xs => match b, xs with
      | .len, [x] => match (c.argTypes[0]?).bind P.underlying with
        | some (.slice _) => some (.len false x)
        | some .string => some (.len true x)
        | _ => none
      | .complex, [x, y] => some (.cplx x y)
      | .real, [x] => some (.re x)
      | .imag, [x] => some (.im x)
      | .min, xs => some (.mm false xs)
      | .max, xs => some (.mm true xs)
      | _, _ => none
    | _ => none
  | _ => none

def dstOK (N : Nat) : Option Nat → Bool
  | some d => decide (d < N)
  | none => true

def trOper (P : Program) (N : Nat) (ops : Array Oper) (o : Oper) : Option AOper :=
  (trOp P o).bind fun op =>
    if dstOK N o.dst = true then
      match o.guard with
      | none => some ⟨o.dst, none, op⟩
      | some (j, want) => ((ops[j]?).bind (·.dst)).bind fun t => if t < N then some ⟨o.dst, some (t, want), op⟩ else none
    else none
def trOpers (P : Program) (N : Nat) (ops : Array Oper) : List Oper → Option (List AOper)
  | [] => some []
  | o :: l => (trOper P N ops o).bind fun x => (trOpers P N ops l).map (x :: ·)

/-- Kinds of operations in a region whose order is open: 0: it touches no memory; 1: it looks into memory, or is a call; 2: it makes memory, or writes; 3: it makes a new variable. -/
def kindO : AOp → Nat
  | .load .. | .call .. => 1
  | .box .. | .bslice .. | .make .. | .store .. | .append .. | .copy .. => 2
  | .alloc .. => 3
  | _ => 0

/-- Which operations must have gone before: those that an edge names, and theirs. -/
def msk (acc : List Nat) (es : List Edge) : Nat := es.foldl (fun m e => if Region.binds .any e then m ||| (2 ^ e.on ||| acc.getD e.on 0) else m) 0
def masks : List Oper → List Nat → List Nat
  | [], acc => acc
  | o :: l, acc => masks l (acc ++ [msk acc o.after.toList])

def readsX : Operand → List Nat
  | .tmp t => [t]
  | _ => []
def opOperands : AOp → List Operand
  | .mov x | .box x | .make _ _ x | .load _ x | .nilck x | .un _ x | .conv _ x | .fieldA _ x | .fieldV _ _ _ x | .extract _ x | .len _ x | .re x | .im x => [x]
  | .pick c a b => [c, a, b]
  | .alloc _ => []
  | .build _ ps => ps.map (·.2.2)
  | .bslice _ _ ps => ps.map (·.2.2)
  | .store _ x v | .bin _ x v | .eqb _ x v | .idxA _ _ x v | .idxS _ x v | .idxV _ _ _ x v | .cplx x v | .append _ _ _ x v | .copy _ x v => [x, v]
  | .mm _ xs => xs
  | .slice _ x lo hi | .sliceA _ _ x lo hi => x :: (lo.toList ++ hi.toList)
  | .call f args => f :: args
def readsO (o : AOper) : List Nat := (opOperands o.op).flatMap readsX ++ (match o.guard with | some (t, _) => [t] | none => [])
/-- Two operations that share a slot that one of them writes. -/
def clash (a b : AOper) : Bool :=
  (match a.dst with | some t => (readsO b).contains t || b.dst == some t | none => false) ||
  (match b.dst with | some t => (readsO a).contains t | none => false)

def kindAt (l : List AOper) (i : Nat) : Nat := match l[i]? with
  | some o => kindO o.op
  | none => 0
def lateB (m : List Nat) (l : List AOper) (j : Nat) : Bool :=
  kindAt l j == 2 || (List.range l.length).any fun i => (m.getD j 0).testBit i && kindAt l i == 2
/-- 0: new variables; 1: what looks into memory or touches none, ahead of all that writes; 2: the rest. -/
def clsB (m : List Nat) (l : List AOper) (j : Nat) : Nat := if kindAt l j = 3 then 0 else if lateB m l j then 2 else 1

def pairOK (m : List Nat) (l : List AOper) (i j : Nat) : Bool := match l[i]?, l[j]? with
  | some oi, some oj =>
    (!(decide (i < j)) || !clash oi oj || ((m.getD j 0).testBit i && kindO oj.op != 3)) &&
    (kindO oj.op != 2 || kindO oi.op != 1 || (m.getD j 0).testBit i || (m.getD i 0).testBit j) &&
    (kindO oj.op != 2 || kindO oi.op != 2 || !(decide (i < j)) || (m.getD j 0).testBit i)
  | _, _ => false
def drawOK (ops : List Oper) (l : List AOper) : Bool :=
  let m := masks ops []
  (ops.zipIdx.all fun (o, i) => o.after.toList.all fun e => !Region.binds .any e || decide (e.on < i)) &&
  (List.range l.length).all fun j =>
    (match l[j]? with | some o => kindO o.op != 3 || o.guard.isNone | none => false) &&
    (List.range l.length).all fun i => pairOK m l i j

def sel (m : List Nat) (l : List AOper) (c : Nat) : List AOper :=
  (l.zipIdx.filter fun (_, i) => clsB m l i == c).map (·.1)

def trCode (P : Program) (N : Nat) : Code → Option ACode
  | .skip => some .skip
  | .region _ ops false => (trOpers P N ops ops.toList).map .ops
  | .region _ ops true => (trOpers P N ops ops.toList).bind fun l =>
      if drawOK ops.toList l then some (.draw (sel (masks ops.toList []) l 0) (sel (masks ops.toList []) l 1) (sel (masks ops.toList []) l 2)) else none
  | .seq a b => (trCode P N a).bind fun a => (trCode P N b).map fun b => .seq a b
  | .cond c a b => (trX c).bind fun c => (trCode P N a).bind fun a => (trCode P N b).map fun b => .cond c a b
  | .block id c => (trCode P N c).map (.block id)
  | .loop c => (trCode P N c).map .loop
  | .exit id => some (.exit id)
  | .ret => some .ret
  | _ => none

def trRes (P : Program) : List ResultVar → Option (List ARes)
  | [] => some []
  | .tmp t :: l => (trRes P l).map (.tmp t :: ·)
  | .cell t ty :: l => (shapeL P ty).bind fun n => (trRes P l).map (.cell t n :: ·)

def extOf (name : String) : Option Ext :=
  if name == "math.Float32bits" then some .f32bits else
  if name == "math.Float32frombits" then some .f32from else
  if name == "math.Float64bits" then some .f64bits else
  if name == "math.Float64frombits" then some .f64from else
  if name == "math.RoundToEven" then some .rte else
  if name == "math.archFloor" then some .floor else
  if name == "math.sqrt" then some .sqrt else none

def trFn (P : Program) (f : Nat) : Option AFn :=
  (P.funcs[f]?).bind fun fn =>
    if fn.name == "runtime.NumGoroutine" then none else
    match fn.body with
    | none => if (Extern.findNext fn).isNone then (extOf fn.name).map .ext else none
    | some c => if fn.params.size ≤ fn.ntmps then
        (trCode P fn.ntmps c).bind fun b => (trRes P fn.results.toList).map fun r => .fn fn.params.size fn.ntmps r b
      else none

end Go.AE
