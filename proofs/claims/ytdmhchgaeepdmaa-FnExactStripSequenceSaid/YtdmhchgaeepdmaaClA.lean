/- The clean machine: values, a heap of objects, and a weakest precondition over the model's code. No claim is stated here. -/
import GoSem.Core.Code
import GoSem.Core.View
import Derived.Control
set_option linter.unusedVariables false
namespace Go.Proofs.Ytdmhchgaeepdmaa.Cl
open Go

/-- A view of an object: its number, the object's length when the view was made, the first cell, how many elements, cells an element. -/
structure Sl where
  o : Option Nat
  n : Nat
  off : Nat
  len : Nat
  sz : Nat
/-- A place in an object. -/
structure Pt where
  o : Option Nat
  n : Nat
  off : Nat
def Sl.nil : Sl := ⟨none, 0, 0, 0, 0⟩
def Pt.nil : Pt := ⟨none, 0, 0⟩
inductive AVal where
  | undef
  | gone
  | bool (b : Bool)
  | int (k : IntKind) (n : Int)
  | str (s : ByteArray)
  | ptr (p : Pt)
  | sl (s : Sl)
  | func (f : Nat) (cap : List AVal)
  | nilFunc
  | map (r : Option Nat)
  | agg (cs : List AVal)
  | tuple (vs : List AVal)
inductive AObj where
  | own (cs : List AVal)
  | ro (cs : List AVal)
  | mp (es : List (AVal × AVal))
  | dead
abbrev H := List AObj
abbrev Frame := List AVal
abbrev i64 (n : Int) : AVal := .int .i64 n
def w64 (n : Int) : Int := IntKind.i64.wrap n

inductive TD where
  | int (k : IntKind) | bool | str | ptr | sl (e : Nat) | arr (n e : Nat) | struct (fs : List (Nat × Nat)) | func | map (k e : Nat) | tuple (ts : List Nat) | other
structure TInfo where
  d : TD
  size : Nat
  bytes : Nat
  zero : List AVal
def TInfo.none : TInfo := ⟨.other, 0, 0, []⟩
abbrev Tab := List TInfo
def tget (T : Tab) (t : Nat) : TInfo := T.getD t TInfo.none

/-! ### reading and writing -/
def cells (h : H) (o n : Nat) : Option (List AVal) :=
  match h[o]? with
  | some (.own cs) => if cs.length = n then some cs else none
  | some (.ro cs) => if cs.length = n then some cs else none
  | _ => none
def owned (h : H) (o n : Nat) : Option (List AVal) :=
  match h[o]? with
  | some (.own cs) => if cs.length = n then some cs else none
  | _ => none
def range (h : H) (o : Option Nat) (n off k : Nat) : Option (List AVal) :=
  match o with
  | some o => (cells h o n).bind fun cs => if off + k ≤ cs.length then some ((cs.drop off).take k) else none
  | none => none
def cell (h : H) (p : Pt) : Option AVal :=
  match p.o with
  | some o => (cells h o p.n).bind fun cs => cs[p.off]?
  | none => none
def splice (cs : List AVal) (off : Nat) (vs : List AVal) : List AVal := cs.take off ++ vs ++ cs.drop (off + vs.length)
def put1 (h : H) (p : Pt) (v : AVal) : Option H :=
  match p.o with
  | some o => (owned h o p.n).bind fun cs => if p.off < cs.length then some (h.set o (.own (cs.set p.off v))) else none
  | none => none
def putN (h : H) (o : Option Nat) (n off : Nat) (vs : List AVal) : Option H :=
  match o with
  | some o => (owned h o n).bind fun cs => if off + vs.length ≤ cs.length then some (h.set o (.own (splice cs off vs))) else none
  | none => none
/-- A slice's cells. -/
def sread (h : H) (s : Sl) : Option (List AVal) :=
  if s.len * s.sz = 0 then some [] else range h s.o s.n s.off (s.len * s.sz)

/-! ### the operations, each with what comes behind it -/
def ldI (k : IntKind) (p : Pt) (h : H) (K : Int → Prop) : Prop := ∃ n, cell h p = some (.int k n) ∧ K n
def ldB (p : Pt) (h : H) (K : Bool → Prop) : Prop := ∃ b, cell h p = some (.bool b) ∧ K b
def ldS (p : Pt) (h : H) (K : Sl → Prop) : Prop := ∃ s, cell h p = some (.sl s) ∧ K s
def ldP (p : Pt) (h : H) (K : Pt → Prop) : Prop := ∃ q, cell h p = some (.ptr q) ∧ K q
def ldV (p : Pt) (h : H) (K : AVal → Prop) : Prop := ∃ v, cell h p = some v ∧ K v
def ldA (p : Pt) (k : Nat) (h : H) (K : List AVal → Prop) : Prop := ∃ cs, range h p.o p.n p.off k = some cs ∧ K cs
def st1 (p : Pt) (v : AVal) (h : H) (K : H → Prop) : Prop := ∃ h', put1 h p v = some h' ∧ K h'
def stN (p : Pt) (k : Nat) (vs : List AVal) (h : H) (K : H → Prop) : Prop := ∃ h', vs.length = k ∧ putN h p.o p.n p.off vs = some h' ∧ K h'
def newO (cs : List AVal) (h : H) (K : Pt → H → Prop) : Prop := K ⟨some h.length, cs.length, 0⟩ (h ++ [.own cs])
/-- A new object of a value with k cells. -/
def newK (k : Nat) (cs : List AVal) (h : H) (K : Pt → H → Prop) : Prop := cs.length = k ∧ K ⟨some h.length, k, 0⟩ (h ++ [.own cs])
def newS (len sz : Nat) (cs : List AVal) (h : H) (K : Sl → H → Prop) : Prop :=
  K ⟨some h.length, len * sz, 0, len, sz⟩ (h ++ [.own cs])
def lim : Int := 1073741824
def mkS (n : Int) (z : List AVal) (h : H) (K : Sl → H → Prop) : Prop :=
  (0 ≤ n ∧ n ≤ lim) ∧ K ⟨some h.length, n.toNat * z.length, 0, n.toNat, z.length⟩ (h ++ [.own (List.replicate n.toNat z).flatten])
def isPt (p : Pt) (K : Prop) : Prop := p.o.isSome = true ∧ K
def AVal.nonNil : AVal → Bool
  | .ptr p => p.o.isSome
  | .func _ _ => true
  | _ => false
def nilC (v : AVal) (K : Prop) : Prop := v.nonNil = true ∧ K
/-- Does a value lie in one cell? -/
def AVal.isCell : AVal → Bool
  | .agg _ => false
  | .tuple _ => false
  | .undef => false
  | .gone => false
  | _ => true
def Pt.add (p : Pt) (k : Nat) : Pt := ⟨p.o, p.n, p.off + k⟩
def ixS (s : Sl) (z : Nat) (i : Int) (K : Pt → Prop) : Prop := (0 ≤ i ∧ i < s.len) ∧ s.sz = z ∧ s.o.isSome = true ∧ K ⟨s.o, s.n, s.off + i.toNat * z⟩
def ixA (p : Pt) (len z : Nat) (i : Int) (K : Pt → Prop) : Prop := (0 ≤ i ∧ i < len) ∧ p.o.isSome = true ∧ K (p.add (i.toNat * z))
/-- Is a view still whole? -/
def okS (h : H) (s : Sl) : Prop :=
  match s.o with
  | none => True
  | some o => (cells h o s.n).isSome = true
/-- x[lo:hi] of a slice -/
def cut (s : Sl) (z : Nat) (lo hi : Int) (h : H) (K : Sl → Prop) : Prop :=
  (0 ≤ lo ∧ lo ≤ hi) ∧ okS h s ∧ (s.o = none → hi = 0) ∧ (s.o ≠ none → s.sz = z ∧ s.off + hi.toNat * z ≤ s.n) ∧ K ⟨s.o, s.n, s.off + lo.toNat * z, (hi - lo).toNat, z⟩
/-- x[lo:hi] of an array of len elements at p -/
def cutA (p : Pt) (len z : Nat) (lo hi : Int) (K : Sl → Prop) : Prop :=
  (0 ≤ lo ∧ lo ≤ hi ∧ hi ≤ len) ∧ p.o.isSome = true ∧ p.off + len * z = p.n ∧ K ⟨p.o, p.n, p.off + lo.toNat * z, (hi - lo).toNat, z⟩
inductive App (z : Nat) (s : Sl) (m : Nat) (xs : List AVal) (h : H) : Sl → H → Prop where
  | zero : m = 0 → App z s m xs h s h
  | fresh : s.o = none → 0 < m → App z s m xs h ⟨some h.length, m * z, 0, m, z⟩ (h ++ [.own xs])
  | fits {o : Nat} {h' : H} : 0 < m → s.sz = z → s.o = some o → s.off + (s.len + m) * z ≤ s.n → putN h (some o) s.n (s.off + s.len * z) xs = some h' → App z s m xs h ⟨some o, s.n, s.off, s.len + m, z⟩ h'
  | grows {o : Nat} {cs : List AVal} : 0 < m → s.sz = z → s.o = some o → s.off = 0 → s.len * z = s.n → owned h o s.n = some cs → App z s m xs h ⟨some o, s.n + m * z, 0, s.len + m, z⟩ (h.set o (.own (cs ++ xs)))
/-- append(s, x...) -/
def app (s x : Sl) (z : Nat) (h : H) (K : Sl → H → Prop) : Prop :=
  ∃ xs s' h', sread h x = some xs ∧ (x.len ≠ 0 → x.sz = z) ∧ ((s.len + x.len : Nat) : Int) ≤ lim ∧ App z s x.len xs h s' h' ∧ K s' h'
def copyS (s x : Sl) (z : Nat) (h : H) (K : Int → H → Prop) : Prop :=
  ∃ xs h', range h x.o x.n x.off (min x.len s.len * z) = some xs ∧ s.sz = z ∧ x.sz = z ∧ putN h s.o s.n s.off xs = some h' ∧ K (min x.len s.len : Nat) h'
def clearS (s : Sl) (z : List AVal) (h : H) (K : H → Prop) : Prop :=
  if s.len = 0 then K h else ∃ h', s.sz = z.length ∧ putN h s.o s.n s.off (List.replicate s.len z).flatten = some h' ∧ K h'
def nz (b : Int) (K : Prop) : Prop := b ≠ 0 ∧ K
def nn (b : Int) (K : Prop) : Prop := 0 ≤ b ∧ K
def lenA (cs : List AVal) (k : Nat) (K : Prop) : Prop := cs.length = k ∧ K
def partI (k : IntKind) (cs : List AVal) (i : Int) (K : Int → Prop) : Prop := ∃ n, 0 ≤ i ∧ cs[i.toNat]? = some (.int k n) ∧ K n
def partB (cs : List AVal) (i : Int) (K : Bool → Prop) : Prop := ∃ n, 0 ≤ i ∧ cs[i.toNat]? = some (.bool n) ∧ K n
def partS (cs : List AVal) (i : Int) (K : Sl → Prop) : Prop := ∃ n, 0 ≤ i ∧ cs[i.toNat]? = some (.sl n) ∧ K n
def partP (cs : List AVal) (i : Int) (K : Pt → Prop) : Prop := ∃ n, 0 ≤ i ∧ cs[i.toNat]? = some (.ptr n) ∧ K n
def partV (cs : List AVal) (i : Int) (K : AVal → Prop) : Prop := ∃ n, 0 ≤ i ∧ cs[i.toNat]? = some n ∧ K n
def partA (cs : List AVal) (i : Int) (k : Nat) (K : List AVal → Prop) : Prop := (0 ≤ i ∧ i.toNat + k ≤ cs.length) ∧ K ((cs.drop i.toNat).take k)
/-- Two lists of integers of one kind: are they equal? -/
def ints (k : IntKind) : List AVal → Option (List Int)
  | [] => some []
  | .int k' n :: l => if k' = k then (ints k l).map (n :: ·) else none
  | _ => none
def eqA (k : IntKind) (m : Nat) (xs ys : List AVal) (K : Bool → Prop) : Prop :=
  ∃ a b, ints k xs = some a ∧ ints k ys = some b ∧ a.length = m ∧ b.length = m ∧ K (a == b)
def bitsOp (op : BinOp) (k : IntKind) (x y : Int) : Int :=
  let a := BitVec.ofInt k.bits x
  let b := BitVec.ofInt k.bits y
  k.wrap (match op with | .and => (a &&& b).toNat | .or => (a ||| b).toNat | .xor => (a ^^^ b).toNat | _ => (a &&& ~~~b).toNat)
def shlI (k : IntKind) (x y : Int) : Int := k.wrap (x * 2 ^ (min y.toNat k.bits))
def shrI (k : IntKind) (x y : Int) : Int := x.fdiv (2 ^ (min y.toNat k.bits))

/-- A call: S tells what calls bring about. -/
abbrev SatT := Nat → List AVal → H → AVal → H → Prop
def callV (S : SatT) (f : Nat) (args : List AVal) (h : H) (K : AVal → H → Prop) : Prop := ∃ v h', S f args h v h' ∧ K v h'
def callI (S : SatT) (k : IntKind) (f : Nat) (args : List AVal) (h : H) (K : Int → H → Prop) : Prop := ∃ v h', S f args h (.int k v) h' ∧ K v h'
def callB (S : SatT) (f : Nat) (args : List AVal) (h : H) (K : Bool → H → Prop) : Prop := ∃ v h', S f args h (.bool v) h' ∧ K v h'
def callS (S : SatT) (f : Nat) (args : List AVal) (h : H) (K : Sl → H → Prop) : Prop := ∃ v h', S f args h (.sl v) h' ∧ K v h'
def callP (S : SatT) (f : Nat) (args : List AVal) (h : H) (K : Pt → H → Prop) : Prop := ∃ v h', S f args h (.ptr v) h' ∧ K v h'
def callA (S : SatT) (f : Nat) (args : List AVal) (h : H) (K : List AVal → H → Prop) : Prop := ∃ v h', S f args h (.agg v) h' ∧ K v h'
def callT (S : SatT) (f : Nat) (args : List AVal) (h : H) (K : List AVal → H → Prop) : Prop := ∃ v h', S f args h (.tuple v) h' ∧ K v h'
/-- A call of a function value. -/
def viaF (g : AVal) (args : List AVal) (K : Nat → List AVal → Prop) : Prop := ∃ f cap, g = .func f cap ∧ K f (args ++ cap)
/-- The parts of a call's several results. -/
def viaT (v : AVal) (K : List AVal → Prop) : Prop := ∃ vs, v = .tuple vs ∧ K vs
def exI (k : IntKind) (vs : List AVal) (i : Nat) (K : Int → Prop) : Prop := ∃ n, vs[i]? = some (.int k n) ∧ K n
def exB (vs : List AVal) (i : Nat) (K : Bool → Prop) : Prop := ∃ n, vs[i]? = some (.bool n) ∧ K n
def exS (vs : List AVal) (i : Nat) (K : Sl → Prop) : Prop := ∃ n, vs[i]? = some (.sl n) ∧ K n
def exP (vs : List AVal) (i : Nat) (K : Pt → Prop) : Prop := ∃ n, vs[i]? = some (.ptr n) ∧ K n
def exA (vs : List AVal) (i : Nat) (K : List AVal → Prop) : Prop := ∃ n, vs[i]? = some (.agg n) ∧ K n
def exV (vs : List AVal) (i : Nat) (K : AVal → Prop) : Prop := ∃ n, vs[i]? = some n ∧ K n

/-! ### operands -/
def cv : Value → AVal
  | .bool b => .bool b
  | .int k n => .int k n
  | .string s => .str s
  | .pointer a => match a with | none => .ptr Pt.nil | some _ => .undef
  | .slice a n c => match a, n, c with | none, 0, 0 => .sl Sl.nil | _, _, _ => .undef
  | .nilFunc => .nilFunc
  | .map r => match r with | none => .map none | some _ => .undef
  | _ => .undef
def ev (fr : Frame) : Operand → AVal
  | .tmp t => fr.getD t .undef
  | .const v => cv v
  | .func f => .func f []
  | .global _ => .undef
def put (fr : Frame) (d : Option Nat) (v : AVal) : Frame := match d with | some d => fr.set d v | none => fr
def AVal.cells : AVal → List AVal
  | .agg cs => cs
  | v => [v]

/-- A loaded value of a type. -/
def ldT (T : Tab) (t : Nat) (p : Pt) (h : H) (K : AVal → Prop) : Prop :=
  match (tget T t).d with
  | .int k => ldI k p h fun n => K (.int k n)
  | .bool => ldB p h fun b => K (.bool b)
  | .sl _ => ldS p h fun s => K (.sl s)
  | .ptr => ldP p h fun q => K (.ptr q)
  | .arr _ _ => ldA p (tget T t).size h fun cs => K (.agg cs)
  | .struct _ => ldA p (tget T t).size h fun cs => K (.agg cs)
  | .str => ldV p h K
  | .func => ldV p h K
  | .map _ _ => ldV p h K
  | _ => False
def isAggT (T : Tab) (t : Nat) : Bool := match (tget T t).d with | .arr _ _ => true | .struct _ => true | _ => false
def stT (T : Tab) (t : Nat) (p : Pt) (v : AVal) (h : H) (K : H → Prop) : Prop :=
  bif isAggT T t then
    match v with
    | .agg cs => stN p (tget T t).size cs h K
    | _ => False
  else bif v.isCell && (tget T t).size == 1 then st1 p v h K else False
def callK (S : SatT) (T : Tab) (t : Nat) (f : Nat) (args : List AVal) (h : H) (K : AVal → H → Prop) : Prop :=
  match (tget T t).d with
  | .int k => callI S k f args h fun n => K (.int k n)
  | .bool => callB S f args h fun b => K (.bool b)
  | .sl _ => callS S f args h fun s => K (.sl s)
  | .ptr => callP S f args h fun q => K (.ptr q)
  | .arr _ _ => callA S f args h fun cs => K (.agg cs)
  | .struct _ => callA S f args h fun cs => K (.agg cs)
  | .tuple _ => callT S f args h fun vs => K (.tuple vs)
  | _ => callV S f args h K
def exT (T : Tab) (t : Nat) (vs : List AVal) (i : Nat) (K : AVal → Prop) : Prop :=
  match (tget T t).d with
  | .int k => exI k vs i fun n => K (.int k n)
  | .bool => exB vs i fun b => K (.bool b)
  | .sl _ => exS vs i fun s => K (.sl s)
  | .ptr => exP vs i fun q => K (.ptr q)
  | .arr _ _ => exA vs i fun cs => K (.agg cs)
  | .struct _ => exA vs i fun cs => K (.agg cs)
  | _ => exV vs i K
def partT (T : Tab) (t : Nat) (cs : List AVal) (i : Int) (K : AVal → Prop) : Prop :=
  match (tget T t).d with
  | .int k => partI k cs i fun n => K (.int k n)
  | .bool => partB cs i fun b => K (.bool b)
  | .sl _ => partS cs i fun s => K (.sl s)
  | .ptr => partP cs i fun q => K (.ptr q)
  | .arr _ _ => partA cs i (tget T t).size fun cs => K (.agg cs)
  | .struct _ => partA cs i (tget T t).size fun cs => K (.agg cs)
  | .str => partV cs i K
  | .func => partV cs i K
  | .map _ _ => partV cs i K
  | _ => False
def spl (Z : List AVal) (off k : Nat) (vs : List AVal) : List AVal := Z.take off ++ vs ++ Z.drop (off + k)
/-- Parts are laid over zero cells. -/
def fillK (T : Tab) (pl : Nat → Option (Nat × Nat)) (n : Nat) : List (Nat × AVal) → List AVal → (List AVal → Prop) → Prop
  | [], Z, K => K Z
  | (i, v) :: ps, Z, K =>
    match pl i with
    | none => False
    | some (off, t) =>
      bif decide (off + (tget T t).size ≤ n) then
        bif isAggT T t then
          match v with
          | .agg cs => lenA cs (tget T t).size (fillK T pl n ps (spl Z off (tget T t).size cs) K)
          | _ => False
        else bif v.isCell && (tget T t).size == 1 then fillK T pl n ps (spl Z off 1 [v]) K else False
      else False
def parts (ps : Array (Nat × Operand)) (fr : Frame) : List (Nat × AVal) := ps.toList.map fun p => (p.1, ev fr p.2)

def binI (op : BinOp) (k : IntKind) (a b : Int) (K : AVal → Prop) : Prop :=
  match op with
  | .add => K (.int k (k.wrap (a + b)))
  | .sub => K (.int k (k.wrap (a - b)))
  | .mul => K (.int k (k.wrap (a * b)))
  | .quo => nz b (K (.int k (k.wrap (a.tdiv b))))
  | .rem => nz b (K (.int k (a.tmod b)))
  | .and => K (.int k (bitsOp .and k a b))
  | .or => K (.int k (bitsOp .or k a b))
  | .xor => K (.int k (bitsOp .xor k a b))
  | .andNot => K (.int k (bitsOp .andNot k a b))
  | .shl => nn b (K (.int k (shlI k a b)))
  | .shr => nn b (K (.int k (shrI k a b)))
  | .eql => K (.bool (a == b))
  | .neq => K (.bool (a != b))
  | .lss => K (.bool (decide (a < b)))
  | .leq => K (.bool (decide (a ≤ b)))
  | .gtr => K (.bool (decide (a > b)))
  | .geq => K (.bool (decide (a ≥ b)))
def sameK (a b : IntKind) : Bool := match a, b with
  | .i8, .i8 => true | .i16, .i16 => true | .i32, .i32 => true | .i64, .i64 => true | .u8, .u8 => true | .u16, .u16 => true | .u32, .u32 => true | .u64, .u64 => true | _, _ => false
def isShift (op : BinOp) : Bool := match op with | .shl => true | .shr => true | _ => false
def intArr (T : Tab) (t : Nat) : Option (IntKind × Nat) :=
  match (tget T t).d with
  | .arr n e => match (tget T e).d with | .int k => bif (tget T e).size == 1 then some (k, n) else none | _ => none
  | _ => none
def isNilS (s : Sl) : Bool := s.o.isNone
def isNilP (s : Pt) : Bool := s.o.isNone
def binK (T : Tab) (op : BinOp) (t : Nat) (x y : AVal) (yc : Bool) (K : AVal → Prop) : Prop :=
  match x, y with
  | .int k a, .int k' b => bif sameK k k' || isShift op then binI op k a b K else False
  | .bool a, .bool b => match (tget T t).d, op with | .bool, .eql => K (.bool (a == b)) | .bool, .neq => K (.bool (a != b)) | _, _ => False
  | .str a, .str b => match op with | .eql => K (.bool (a == b)) | .neq => K (.bool (a != b)) | _ => False
  | .sl a, .sl b => bif yc && b.o.isNone then (match (tget T t).d, op with | .sl _, .eql => K (.bool (isNilS a)) | .sl _, .neq => K (.bool (!isNilS a)) | _, _ => False) else False
  | .ptr a, .ptr b => bif yc && b.o.isNone then (match (tget T t).d, op with | .ptr, .eql => K (.bool (isNilP a)) | .ptr, .neq => K (.bool (!isNilP a)) | _, _ => False) else False
  | .agg a, .agg b => match intArr T t, op with | some (k, n), .eql => eqA k n a b fun r => K (.bool r) | some (k, n), .neq => eqA k n a b fun r => K (.bool (!r)) | _, _ => False
  | _, _ => False
def isConst : Operand → Bool | .const _ => true | _ => false
def pickK (c a b : AVal) (K : AVal → Prop) : Prop :=
  match c with
  | .bool c => match a, b with
    | .bool x, .bool y => K (.bool (bif c then x else y))
    | a, b => bif c then K a else K b
  | _ => False
def mxI (a b : Int) : Int := if b > a then b else a
def mnI (a b : Int) : Int := if b < a then b else a
def foldI (f : Int → Int → Int) (k : IntKind) (a : Int) : List AVal → (AVal → Prop) → Prop
  | [], K => K (.int k a)
  | .int k' b :: l, K => bif sameK k' k then foldI f k (f a b) l K else False
  | _, _ => False

/-- One operation. -/
def opK (S : SatT) (T : Tab) (o : Oper) (fr : Frame) (h : H) (K : AVal → H → Prop) : Prop :=
  match o.op with
  | .move x => K (ev fr x) h
  | .assign x => K (ev fr x) h
  | .pick c a b => pickK (ev fr c) (ev fr a) (ev fr b) fun v => K v h
  | .alloc t => bif decide (0 < (tget T t).size) then newO (tget T t).zero h fun p h => K (.ptr p) h else False
  | .box t x =>
    bif isAggT T t then
      match ev fr x with
      | .agg cs => newK (tget T t).size cs h fun p h => K (.ptr p) h
      | _ => False
    else bif (ev fr x).isCell && (tget T t).size == 1 then newO [ev fr x] h fun p h => K (.ptr p) h else False
  | .build t ps =>
    match (tget T t).d with
    | .struct fs => fillK T (fun i => fs[i]?) (tget T t).size (parts ps fr) (tget T t).zero fun cs => K (.agg cs) h
    | .arr _ e => bif decide (0 < (tget T e).size) then fillK T (fun i => some (i * (tget T e).size, e)) (tget T t).size (parts ps fr) (tget T t).zero fun cs => K (.agg cs) h else False
    | _ => False
  | .buildSlice t n ps =>
    match (tget T t).d with
    | .sl e => bif decide (0 < (tget T e).size) && decide (n * (tget T e).size ≤ 10000) then fillK T (fun i => some (i * (tget T e).size, e)) (n * (tget T e).size) (parts ps fr) (List.replicate n (tget T e).zero).flatten fun cs => newS n (tget T e).size cs h fun s h => K (.sl s) h else False
    | _ => False
  | .load t a => match ev fr a with
    | .ptr p => ldT T t p h fun v => K v h
    | _ => False
  | .store t a x => match ev fr a with
    | .ptr p => stT T t p (ev fr x) h fun h => K .gone h
    | _ => False
  | .nilCheck x => nilC (ev fr x) (K (ev fr x) h)
  | .binOp op t x y _ => binK T op t (ev fr x) (ev fr y) (isConst y) fun v => K v h
  | .unOp op _ x => match op, ev fr x with
    | .not, .bool b => K (.bool (!b)) h
    | .neg, .int k n => K (.int k (k.wrap (0 - n))) h
    | _, _ => False
  | .convert s d x => match (tget T s).d, (tget T d).d, ev fr x with
    | .int _, .int k, .int _ n => K (.int k (k.wrap n)) h
    | _, _, _ => False
  | .makeFunc fn first cap => match fn with
    | .func f => bif first.isEmpty then K (.func f (cap.toList.map (ev fr))) h else False
    | _ => False
  | .makeSlice t n c => match (tget T t).d, ev fr n, ev fr c with
    | .sl e, .int k a, .int k' b => bif decide ((tget T e).bytes ≤ 256) && decide (0 < (tget T e).size) && (match n, c with | .tmp i, .tmp j => i == j | .const (.int _ i), .const (.int _ j) => i == j | _, _ => false) then mkS a (tget T e).zero h fun s h => K (.sl s) h else False
    | _, _, _ => False
  | .slice t x lo hi mx => match (tget T t).d, ev fr x, mx with
    | .sl e, .sl s, none => match (lo.map (ev fr)).getD (i64 0), (hi.map (ev fr)).getD (i64 s.len) with
      | .int _ a, .int _ b => bif decide (0 < (tget T e).size) then cut s (tget T e).size a b h fun s => K (.sl s) h else False
      | _, _ => False
    | .arr n e, .ptr p, none => match (lo.map (ev fr)).getD (i64 0), (hi.map (ev fr)).getD (i64 n) with
      | .int _ a, .int _ b => bif decide (0 < (tget T e).size) then cutA p n (tget T e).size a b fun s => K (.sl s) h else False
      | _, _ => False
    | _, _, _ => False
  | .fieldAddr t x f => match (tget T t).d, ev fr x with
    | .struct fs, .ptr p => match fs[f]? with
      | some (off, _) => isPt p (K (.ptr (p.add off)) h)
      | none => False
    | _, _ => False
  | .field t x f => match (tget T t).d, ev fr x with
    | .struct fs, .agg cs => match fs[f]? with
      | some (off, u) => partT T u cs (off : Nat) fun v => K v h
      | none => False
    | _, _ => False
  | .indexAddr t x i => match (tget T t).d, ev fr x, ev fr i with
    | .sl e, .sl s, .int _ n => ixS s (tget T e).size n fun p => K (.ptr p) h
    | .arr len e, .ptr p, .int _ n => bif decide (0 < (tget T e).size) then ixA p len (tget T e).size n (fun p => K (.ptr p) h) else False
    | _, _, _ => False
  | .index t x i => match (tget T t).d, ev fr x, ev fr i with
    | .arr len e, .agg cs, .int _ n => bif (tget T e).size == 1 then lenA cs len (partT T e cs n fun v => K v h) else False
    | _, _, _ => False
  | .extract x i => viaT (ev fr x) fun vs => exT T o.type vs i fun v => K v h
  | .call c => match c.callee with
    | .value (.func g) => callK S T o.type g (c.args.toList.map (ev fr)) h K
    | .value f => viaF (ev fr f) (c.args.toList.map (ev fr)) fun f args => callK S T o.type f args h K
    | .builtin .len => match (c.args.toList.map (ev fr)), (c.argTypes.toList.map (tget T · |>.d)) with
      | [.sl s], [.sl _] => K (.int .i64 s.len) h
      | [_], [.arr n _] => K (.int .i64 n) h
      | _, _ => False
    | .builtin .append => match (c.args.toList.map (ev fr)), (c.argTypes.toList.map (tget T · |>.d)) with
      | [.sl s, .sl x], [.sl e, .sl _] => bif decide ((tget T e).bytes ≤ 256) && decide (0 < (tget T e).size) && decide (0 < (tget T e).bytes) then app s x (tget T e).size h fun s h => K (.sl s) h else False
      | _, _ => False
    | .builtin .copy => match (c.args.toList.map (ev fr)), (c.argTypes.toList.map (tget T · |>.d)) with
      | [.sl s, .sl x], [.sl e, .sl _] => bif decide (0 < (tget T e).size) then copyS s x (tget T e).size h fun n h => K (.int .i64 n) h else False
      | _, _ => False
    | .builtin .clear => match (c.args.toList.map (ev fr)), (c.argTypes.toList.map (tget T · |>.d)) with
      | [.sl s], [.sl e] => bif decide (0 < (tget T e).size) then clearS s (tget T e).zero h fun h => K .gone h else False
      | _, _ => False
    | .builtin .max => match (c.args.toList.map (ev fr)) with
      | .int k a :: l => foldI mxI k a l fun v => K v h
      | _ => False
    | .builtin .min => match (c.args.toList.map (ev fr)) with
      | .int k a :: l => foldI mnI k a l fun v => K v h
      | _ => False
    | _ => False
  | _ => False

def dstOf (ops : List Oper) (j : Nat) : Option Nat := (ops[j]?).bind (·.dst)
/-- A region in the order of the text. -/
def runOps (S : SatT) (T : Tab) (ops : List Oper) : List Oper → (Frame → H → Prop) → Frame → H → Prop
  | [], k, fr, h => k fr h
  | o :: os, k, fr, h =>
    match o.guard with
    | none => opK S T o fr h fun v h => runOps S T ops os k (put fr o.dst v) h
    | some (j, want) =>
      match dstOf ops j with
      | none => False
      | some d => match fr.getD d .undef with
        | .bool b => bif b
          then (bif want then opK S T o (fr.set d (.bool true)) h fun v h => runOps S T ops os k (put (fr.set d (.bool true)) o.dst v) h else runOps S T ops os k (put (fr.set d (.bool true)) o.dst .gone) h)
          else (bif want then runOps S T ops os k (put (fr.set d (.bool false)) o.dst .gone) h else opK S T o (fr.set d (.bool false)) h fun v h => runOps S T ops os k (put (fr.set d (.bool false)) o.dst v) h)
        | .gone => runOps S T ops os k (put fr o.dst .gone) h
        | _ => False

/-! ### a region whose order is drawn -/
def isMut : Op → Bool
  | .alloc _ => true | .box _ _ => true | .buildSlice _ _ _ => true | .makeSlice _ _ _ => true | .store _ _ _ => true
  | .call c => match c.callee with
    | .builtin .len => false | .builtin .min => false | .builtin .max => false | _ => true
  | _ => false
def isRead : Op → Bool
  | .load _ _ => true
  | .slice _ _ _ _ _ => true
  | _ => false
/-- What a read has told in h it tells in h', too. -/
def chkK (T : Tab) (o : Oper) (fr : Frame) (h h' : H) (K : Prop) : Prop :=
  match o.op with
  | .load t a => match ev fr a with
    | .ptr p => bif isAggT T t then range h' p.o p.n p.off (tget T t).size = range h p.o p.n p.off (tget T t).size ∧ K else cell h' p = cell h p ∧ K
    | _ => K
  | .slice t x _ _ _ => match (tget T t).d, ev fr x with
    | .sl _, .sl s => okS h' s ∧ K
    | _, _ => K
  | _ => K
def deps (o : Oper) : List Nat := (o.after.toList.filter (Region.binds .any)).map (·.on)
/-- Of each operation: the set of those that come before it, as bits. -/
def befs : List Oper → List Nat → List Nat
  | [], acc => acc
  | o :: os, acc => befs os (acc ++ [(deps o).foldl (fun s j => s ||| 2 ^ j ||| acc.getD j 0) 0])
def bef (b : List Nat) (j i : Nat) : Bool := (b.getD j 0).testBit i
def unord (b : List Nat) (i j : Nat) : Bool := !bef b i j && !bef b j i
def tmpsOf (l : List Operand) : List Nat := l.filterMap fun | .tmp t => some t | _ => none
def readsOf (ops : List Oper) (o : Oper) : List Nat := tmpsOf o.op.operands.toList ++ (match o.guard with | some (j, _) => (dstOf ops j).toList | none => [])
/-- May the operations be taken in the order of the text? (Of each two: what they write and read is apart, or one comes before the other.) -/
def pairOK (ops : List Oper) (b : List Nat) (i j : Nat) (x y : Oper) : Bool :=
  bef b j i || (!(isMut x.op && isMut y.op) && (match x.dst with | some d => !(readsOf ops y).contains d | none => true) && (match y.dst with | some d => !(readsOf ops x).contains d | none => true))
def dstApart (x y : Oper) : Bool := match x.dst, y.dst with | some d, some e => !(d == e) | _, _ => true
def okPairs (ops : List Oper) (b : List Nat) : List (Oper × Nat) → Bool
  | [] => true
  | (x, i) :: l => (l.all fun p => pairOK ops b i p.2 x p.1 && dstApart x p.1) && okPairs ops b l
def okD (ops : List Oper) (b : List Nat) : Bool := (ops.zipIdx.all fun p => (deps p.1).all fun j => decide (j < p.2)) && okPairs ops b ops.zipIdx
/-- past: each change so far, with the heap ahead of it; pend: each read so far, with its frame and heap. -/
def chkPast (T : Tab) (b : List Nat) (i : Nat) (o : Oper) (fr : Frame) (h : H) : List (Nat × H) → Prop → Prop
  | [], K => K
  | (k, h0) :: l, K => bif unord b i k then chkK T o fr h h0 (chkPast T b i o fr h l K) else chkPast T b i o fr h l K
def chkPend (T : Tab) (b : List Nat) (k : Nat) (h' : H) : List (Nat × Oper × Frame × H) → Prop → Prop
  | [], K => K
  | (i, o, fr, h) :: l, K => bif unord b i k then chkK T o fr h h' (chkPend T b k h' l K) else chkPend T b k h' l K
def stepDraw (S : SatT) (T : Tab) (b : List Nat) (i : Nat) (o : Oper) (past : List (Nat × H)) (pend : List (Nat × Oper × Frame × H)) (fr : Frame) (h : H)
    (K : List (Nat × H) → List (Nat × Oper × Frame × H) → AVal → H → Prop) : Prop :=
  bif isMut o.op then opK S T o fr h fun v h' => chkPend T b i h' pend (K ((i, h) :: past) pend v h')
  else bif isRead o.op then opK S T o fr h fun v h' => chkPast T b i o fr h past (K past ((i, o, fr, h) :: pend) v h')
  else opK S T o fr h fun v h' => K past pend v h'
def runDraw (S : SatT) (T : Tab) (ops : List Oper) (b : List Nat) : List (Oper × Nat) → List (Nat × H) → List (Nat × Oper × Frame × H) → (Frame → H → Prop) → Frame → H → Prop
  | [], _, _, k, fr, h => k fr h
  | (o, i) :: os, past, pend, k, fr, h =>
    match o.guard with
    | none => stepDraw S T b i o past pend fr h fun past pend v h => runDraw S T ops b os past pend k (put fr o.dst v) h
    | some (j, want) =>
      match dstOf ops j with
      | none => False
      | some d => match fr.getD d .undef with
        | .bool c => bif c
          then (bif want then stepDraw S T b i o past pend (fr.set d (.bool true)) h fun past pend v h => runDraw S T ops b os past pend k (put (fr.set d (.bool true)) o.dst v) h else runDraw S T ops b os past pend k (put (fr.set d (.bool true)) o.dst .gone) h)
          else (bif want then runDraw S T ops b os past pend k (put (fr.set d (.bool false)) o.dst .gone) h else stepDraw S T b i o past pend (fr.set d (.bool false)) h fun past pend v h => runDraw S T ops b os past pend k (put (fr.set d (.bool false)) o.dst v) h)
        | .gone => runDraw S T ops b os past pend k (put fr o.dst .gone) h
        | _ => False
/-! the second reading: each allocation has a place of its own, which is dead until then -/
def isAlloc : Op → Bool
  | .alloc _ => true | .box _ _ => true | .buildSlice _ _ _ => true | .makeSlice _ _ _ => true
  | _ => false
def AVal.at_ (n : Nat) : AVal → AVal
  | .ptr p => .ptr ⟨some n, p.n, p.off⟩
  | .sl s => .sl ⟨some n, s.n, s.off, s.len, s.sz⟩
  | v => v
/-- An allocation at the place n. -/
def opA (S : SatT) (T : Tab) (o : Oper) (fr : Frame) (h : H) (n : Nat) (K : AVal → H → Prop) : Prop :=
  opK S T o fr [] fun v h1 => match h1 with
    | [x] => K (v.at_ n) (h.set n x)
    | _ => False
/-- An order of the operations in which allocations come late. -/
def lateGo (ops : List Oper) : Nat → List Nat → List (Oper × Nat)
  | 0, _ => []
  | fuel + 1, dn =>
    match ops.zipIdx.find? (fun p => !dn.contains p.2 && (deps p.1).all dn.contains && !isAlloc p.1.op) with
    | some p => p :: lateGo ops fuel (p.2 :: dn)
    | none => match ops.zipIdx.find? (fun p => !dn.contains p.2 && (deps p.1).all dn.contains) with
      | some p => p :: lateGo ops fuel (p.2 :: dn)
      | none => []
def late (ops : List Oper) : List (Oper × Nat) := lateGo ops ops.length []
/-- x stands ahead of y in the order taken. -/
def pairE (ops : List Oper) (b : List Nat) (x y : Oper × Nat) : Bool :=
  !(x.2 == y.2) && !bef b x.2 y.2 && dstApart x.1 y.1 &&
  (bef b y.2 x.2 || ((!(isMut x.1.op && isMut y.1.op) || isAlloc y.1.op) && (match x.1.dst with | some d => !(readsOf ops y.1).contains d | none => true) && (match y.1.dst with | some d => !(readsOf ops x.1).contains d | none => true)))
def okPairsE (ops : List Oper) (b : List Nat) : List (Oper × Nat) → Bool
  | [] => true
  | p :: l => (l.all fun q => pairE ops b p q) && okPairsE ops b l
def okE (ops : List Oper) (b : List Nat) (l : List (Oper × Nat)) : Bool :=
  (ops.zipIdx.all fun p => (deps p.1).all fun j => decide (j < p.2)) && (l.length == ops.length) && ((List.range ops.length).all fun i => l.any fun p => p.2 == i) && okPairsE ops b l
/-- Did the last change need the operation i? -/
def lastDep (b : List Nat) (past : List (Nat × H)) (i : Nat) : Bool := match past with | (z, _) :: _ => bef b z i | [] => false
def chkPendE (T : Tab) (b : List Nat) (k : Nat) (past : List (Nat × H)) (h' : H) : List (Nat × Oper × Frame × H) → Prop → Prop
  | [], K => K
  | (i, o, fr, h) :: l, K => bif unord b i k && lastDep b past i then chkK T o fr h h' (chkPendE T b k past h' l K) else chkPendE T b k past h' l K
def chkPastE (T : Tab) (b : List Nat) (i : Nat) (o : Oper) (fr : Frame) (h : H) : Option H → List (Nat × H) → Prop → Prop
  | _, [], K => K
  | nx, (k, h0) :: l, K => bif unord b i k then (match nx with
      | some h1 => chkK T o fr h h1 (chkK T o fr h h0 (chkPastE T b i o fr h none l K))
      | none => chkK T o fr h h0 (chkPastE T b i o fr h none l K))
    else chkPastE T b i o fr h (some h0) l K
def stepSlot (S : SatT) (T : Tab) (b : List Nat) (n i : Nat) (o : Oper) (past : List (Nat × H)) (pend : List (Nat × Oper × Frame × H)) (fr : Frame) (h : H)
    (K : List (Nat × H) → List (Nat × Oper × Frame × H) → AVal → H → Prop) : Prop :=
  bif isAlloc o.op then opA S T o fr h (n + i) fun v h' => chkPendE T b i past h pend (chkPend T b i h' pend (K ((i, h) :: past) pend v h'))
  else bif isMut o.op then opK S T o fr h fun v h' => chkPendE T b i past h pend (chkPend T b i h' pend (K ((i, h) :: past) pend v h'))
  else bif isRead o.op then opK S T o fr h fun v h' => chkPastE T b i o fr h none past (K past ((i, o, fr, h) :: pend) v h')
  else opK S T o fr h fun v h' => K past pend v h'
def runSlot (S : SatT) (T : Tab) (ops : List Oper) (b : List Nat) (n : Nat) : List (Oper × Nat) → List (Nat × H) → List (Nat × Oper × Frame × H) → (Frame → H → Prop) → Frame → H → Prop
  | [], _, _, k, fr, h => k fr h
  | (o, i) :: os, past, pend, k, fr, h =>
    match o.guard with
    | none => stepSlot S T b n i o past pend fr h fun past pend v h => runSlot S T ops b n os past pend k (put fr o.dst v) h
    | some (j, want) =>
      match dstOf ops j with
      | none => False
      | some d => match fr.getD d .undef with
        | .bool c => bif c
          then (bif want then stepSlot S T b n i o past pend (fr.set d (.bool true)) h fun past pend v h => runSlot S T ops b n os past pend k (put (fr.set d (.bool true)) o.dst v) h else runSlot S T ops b n os past pend k (put (fr.set d (.bool true)) o.dst .gone) h)
          else (bif want then runSlot S T ops b n os past pend k (put (fr.set d (.bool false)) o.dst .gone) h else stepSlot S T b n i o past pend (fr.set d (.bool false)) h fun past pend v h => runSlot S T ops b n os past pend k (put (fr.set d (.bool false)) o.dst v) h)
        | .gone => runSlot S T ops b n os past pend k (put fr o.dst .gone) h
        | _ => False
def newOat (cs : List AVal) (h : H) (n : Nat) (K : Pt → H → Prop) : Prop := K ⟨some n, cs.length, 0⟩ (h.set n (.own cs))
def newKat (k : Nat) (cs : List AVal) (h : H) (n : Nat) (K : Pt → H → Prop) : Prop := cs.length = k ∧ K ⟨some n, k, 0⟩ (h.set n (.own cs))
def newSat (len sz : Nat) (cs : List AVal) (h : H) (n : Nat) (K : Sl → H → Prop) : Prop := K ⟨some n, len * sz, 0, len, sz⟩ (h.set n (.own cs))
def mkSat (m : Int) (z : List AVal) (h : H) (n : Nat) (K : Sl → H → Prop) : Prop :=
  (0 ≤ m ∧ m ≤ lim) ∧ K ⟨some n, m.toNat * z.length, 0, m.toNat, z.length⟩ (h.set n (.own (List.replicate m.toNat z).flatten))
def slotK (k : Nat) (h : H) (K : H → Prop) : Prop := K (h ++ List.replicate k .dead)
def drawK (S : SatT) (T : Tab) (ops : List Oper) (k : Frame → H → Prop) (fr : Frame) (h : H) : Prop :=
  bif okD ops (befs ops []) then runDraw S T ops (befs ops []) ops.zipIdx [] [] k fr h
  else bif okE ops (befs ops []) (late ops) then slotK ops.length h fun h1 => runSlot S T ops (befs ops []) h.length (late ops) [] [] k fr h1 else False

/-! ### code -/
inductive Ex where
  | normal | exit (id : Nat) | ret
abbrev Kont := Ex → Frame → H → Prop
def kSeq (n : Frame → H → Prop) (k : Kont) : Kont := fun e fr h => match e with | .normal => n fr h | .exit i => k (.exit i) fr h | .ret => k .ret fr h
def kBlk (id : Nat) (k : Kont) : Kont := fun e fr h => match e with | .exit j => bif j == id then k .normal fr h else k (.exit j) fr h | .normal => k .normal fr h | .ret => k .ret fr h
def mask (m : List Nat) (fr : Frame) : Frame := (fr.zipIdx).map fun (v, i) => bif m.contains i then v else .undef
/-- n rounds at most -/
def iter {α : Type} (F : (α → H → Prop) → α → H → Prop) : Nat → α → H → Prop
  | 0, _, _ => False
  | n + 1, fr, h => F (iter F n) fr h
def loopK (F : (Frame → H → Prop) → Frame → H → Prop) (fr : Frame) (h : H) : Prop := ∃ n, iter F n fr h

section
variable (S : SatT) (T : Tab) (M : Nat → List Nat)
def cwp : List Nat → Code → Kont → Frame → H → Prop
  | _, .skip, k, fr, h => k .normal fr h
  | _, .region _ ops d, k, fr, h => bif d then drawK S T ops.toList (k .normal) fr h else runOps S T ops.toList ops.toList (k .normal) fr h
  | m, .seq a b, k, fr, h => cwp m a (kSeq (cwp m b k) k) fr h
  | m, .cond c a b, k, fr, h => match ev fr c with
    | .bool t => bif t then cwp m a k fr h else cwp m b k fr h
    | _ => False
  | _, .block id a, k, fr, h => cwp (M id) a (kBlk id k) fr h
  | m, .loop a, k, fr, h => loopK (fun X fr h => cwp m a (kSeq (fun fr h => X (mask m fr) h) k) fr h) (mask m fr) h
  | _, .exit id, k, fr, h => k (.exit id) fr h
  | _, .ret, k, fr, h => k .ret fr h
  | _, _, _, _, _ => False
end
/-- The result of a function. -/
def resK (T : Tab) (rs : List ResultVar) (fr : Frame) (h : H) (K : List AVal → Prop) : Prop :=
  match rs with
  | [] => K []
  | .tmp t :: l => resK T l fr h fun vs => K (fr.getD t .undef :: vs)
  | .cell a t :: l => match fr.getD a .undef with
    | .ptr p => ldT T t p h fun v => resK T l fr h fun vs => K (v :: vs)
    | _ => False
def one : List AVal → AVal
  | [v] => v
  | vs => .tuple vs
def kFun (T : Tab) (rs : List ResultVar) (K : AVal → H → Prop) : Kont := fun e fr h =>
  match e with
  | .normal => resK T rs fr h fun vs => K (one vs) h
  | .ret => resK T rs fr h fun vs => K (one vs) h
  | .exit _ => False
def fr0 (fn : Func) (args : List AVal) : Frame := args ++ List.replicate (fn.ntmps - args.length) .gone
def sub : List Nat → Code → Code
  | 0 :: p, .seq a _ => sub p a
  | 1 :: p, .seq _ b => sub p b
  | 0 :: p, .cond _ a _ => sub p a
  | 1 :: p, .cond _ _ b => sub p b
  | _ :: p, .block _ b => sub p b
  | _ :: p, .loop b => sub p b
  | _, c => c
def bodyOf (fn : Func) : Code := fn.body.getD .skip
end Go.Proofs.Ytdmhchgaeepdmaa.Cl
